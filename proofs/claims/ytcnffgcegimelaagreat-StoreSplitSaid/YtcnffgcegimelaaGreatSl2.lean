/-
  The law StoreSplit, walked. Conditions: a batch that lies as told.
-/
import Derived.Test.YtcnffgcegimelaaGreatKa
import Derived.Test.YtcnffgcegimelaaGreatSd1
namespace Go.Proofs.YtcnffgcegimelaaGreat.So
open Go.Deep Go.RowKit Go.Proofs.YtcnffgcegimelaaGreat.Mp Go.Proofs.YtcnffgcegimelaaGreat.Wd Go.Proofs.YtcnffgcegimelaaGreat.Pm Go.Proofs.YtcnffgcegimelaaGreat.Pw

theorem apply_may' {l : List Cng} (h : applyE (allL []) 0 1 l = 0) : May l := by
  rcases chkE_vals (allL []) l with e | ⟨_, e, _⟩ | e
  · rw [(apply_zero h).1] at e; cases e
  · exact e
  · rw [(apply_zero h).1] at e; cases e
theorem two_facts {p q wq : Nat} {W wr w' : World} {k h : SW} {log1 log2 : List (List Cng)} {A : Option Addr} {n c : Nat} {xs : List Tri} (t : Two p q W wq wr k h log1 log2) (b : Below wr.heap.size wr w') (x : Held w' (h.far wr) encT (.slice A n c) xs) (hf : ∀ b off, A = some ⟨b, off, none⟩ → wr.heap.size ≤ b) : Two p q W wq w' (k.far wr) (h.far wr) log1 log2 ∧ Held2 w' (k.far wr) (h.far wr) encT (.slice A n c) xs := ⟨t.below b, Held2.new x hf⟩
theorem held_cell3 {w : World} {k : SW} {A : Option Addr} {n c : Nat} {l : List Tri} (h : Held w k encT (.slice A n c) l) {i : Nat} {t : Tri} (ht : l[i]? = some t) : ∃ s off, A = some ⟨s, off, none⟩ ∧ s < w.heap.size ∧ w.cell? ⟨s, off + i * 3, none⟩ = some (.string t.S) ∧ w.cell? ⟨s, off + i * 3 + 1, none⟩ = some (.string t.P) ∧ w.cell? ⟨s, off + i * 3 + 2, none⟩ = some (.string t.O) := by
  obtain ⟨s, off, e, h1, hc⟩ := cellsT_of h.sl i t ht
  exact ⟨s, off, e, h1, hc 0 _ rfl, hc 1 _ rfl, hc 2 _ rfl⟩
theorem next_w {wk kk : Nat} (h : wk < kk) (h8 : kk ≤ 8) (h1 : 1 < kk) : ∃ w2 : Nat, w2 ≤ 8 ∧ (w2 : Int) ≠ (wk : Int) ∧ Int.tmod (wrap64 ((wk : Int) + 1)) (kk : Int) = (w2 : Int) ∧ Int.tmod ((wk : Int) + 1) (kk : Int) = (w2 : Int) := by
  have e : Int.tmod ((wk : Int) + 1) (kk : Int) = (((wk + 1) % kk : Nat) : Int) := Int.tmod_eq_emod_of_nonneg (by omega)
  refine ⟨(wk + 1) % kk, ?_, ?_, ?_, e⟩
  · have := Nat.mod_lt (wk + 1) (show 0 < kk by omega)
    omega
  · by_cases e2 : wk + 1 = kk
    · rw [e2, Nat.mod_self]; omega
    · rw [Nat.mod_eq_of_lt (by omega)]; omega
  · rw [IntWalk.wrap64_in _ (by omega), e]
theorem at_snoc {l : List Cng} {i : Nat} {c : Cng} (hc : l[i]? = some c) (w k : Int) : atW (l.take (i + 1)) w k = if homB w k c.T then atW (l.take i) w k ++ [c] else atW (l.take i) w k := by
  unfold atW
  rw [take_snoc hc, List.filter_append]
  cases h : homB w k c.T <;> simp [h]
theorem at_le (l : List Cng) (i : Nat) (w k : Int) : (atW (l.take i) w k).length ≤ l.length := by
  unfold atW
  exact Nat.le_trans (List.length_filter_le _ _) (List.length_take_le' _ _)
theorem cnt_le (L : List Tri) (k w : Nat) : cntW L k w ≤ L.length := List.length_filter_le _ _
set_option maxRecDepth 100000 in
set_option maxHeartbeats 1600000 in
theorem split_ok (w : World) (v0 : Value) (workers : Int) (l : List Cng) (hv0 : G.SlL w encC v0 l) (hf0 : ∀ c ∈ l, FitT c.T) :
    Calls Tryz.prog 8 #[v0, .int .i64 workers] w fun e w' => e = .returned (.bool true) ∧ Below w.heap.size w w' := by
  have HA := Lib.hid (And.intro hv0 hf0)
  obtain ⟨A0, c0, rfl, _⟩ := id hv0
  obtain ⟨n0, hn0⟩ : ∃ n, l.length = n := ⟨_, rfl⟩
  rw [hn0] at HA ⊢
  have HN0 := Lib.hid hn0
  clear hv0 hf0 hn0
  obtain ⟨m7, hm7, hand⟩ := and7 workers
  obtain ⟨kk, hkk⟩ : ∃ kk, m7 + 1 = kk := ⟨_, rfl⟩
  have hkw : wrap64 (1 + (m7 : Int)) = (kk : Int) := by rw [IntWalk.wrap64_in _ (by omega)]; omega
  have hk8 : 1 ≤ kk ∧ kk ≤ 8 := by omega
  obtain ⟨r1, hr1⟩ : ∃ r, applyE (allL []) 0 1 l = r := ⟨_, rfl⟩
  have HR1 := Lib.hid hr1
  have HK8 := Lib.hid hk8
  clear hr1 hkk hk8 hm7
  by_cases h1 : r1 = 0
  · subst h1
    have HM := Lib.hid (apply_may' HR1.out)
    have hn64 : n0 ≤ 64 := by rw [← HN0.out]; exact HM.out.1
    have HI := Lib.hid (show (Tryz.prog.info? 40).map (fun i => (i.zero, i.size, i.bytes)) = some (some (.agg #[.bool false, .string ByteArray.empty, .string ByteArray.empty, .string ByteArray.empty]), 4, 56) by kernel_rfl)
    go_enter Tryz.func8, Tryz.ntmps8
    go_wp2_with fail
    refine (new_law _).mono ?_
    rintro e w1 ⟨p, k1, rfl, hk1, hb1⟩
    have K1 := Lib.hid hk1
    have B1 := Lib.hid hb1
    have V0 := Lib.hid (hk1.old HA.out.1 (Nat.le_refl _) hb1)
    clear hk1 hb1
    go_wp2_with fail
    refine (apply_law K1.out 1 V0.out (by decide) HR1.out (log' := [l]) (log_one HR1.out)).mono ?_
    rintro e w2 ⟨k2, rfl, hk2, hs2⟩
    have K2 := Lib.hid (And.intro hk2 (K1.out.since hs2 B1.out (Nat.le_refl _)))
    clear hk2 hs2 K1 B1 V0
    have HC4 := Lib.hid (show (allL [l]).length ≤ 4096 by
      have := ver_le K2.out.1
      rwa [← ver_len] at this)
    go_wp2_with fail
    go_loopg [7, 8] (kk + 1) (fun g s7 s8 wr => ∃ (wk : Nat) (k : SW), wk ≤ kk ∧ kk - wk < g ∧ s7 = .int .i64 (cntW (allL [l]) kk wk : Nat) ∧ s8 = .int .i64 wk ∧ Hid (At p w.heap.size wr k [l] ∧ Below w.heap.size w wr))
    case atStart => exact ⟨0, k2, by omega, by omega, by rw [cnt_zero]; rfl, rfl, K2⟩
    case round =>
      obtain ⟨wk, k, hwk, hg, rfl, rfl, HW⟩ := hrel
      obtain ⟨W9, rfl⟩ : ∃ W9, W9 = wr := ⟨wr, rfl⟩
      have hk8 : kk ≤ 8 := HK8.out.2
      clear K2
      have HCN := Lib.hid (Nat.le_trans (cnt_le (allL [l]) kk wk) HC4.out)
      obtain ⟨cn, hcn⟩ : ∃ cn, cntW (allL [l]) kk wk = cn := ⟨_, rfl⟩
      rw [hcn] at HCN ⊢
      have HCE := Lib.hid hcn
      clear hcn
      by_cases hwlt : wk < kk
      · have g1 : (wk : Int) < (kk : Int) := by omega
        go_wp2_with fail
        go_loopg [9, 10] (n0 + 1) (fun g s9 s10 wx => ∃ (i : Nat), i ≤ n0 ∧ n0 - i < g ∧ s10 = .int .i64 i ∧ Hid (G.OwnL wx W9.heap.size 40 4 encC s9 (atW (l.take i) wk kk) ∧ Below W9.heap.size W9 wx))
        case atStart => exact ⟨0, by omega, by omega, rfl, Lib.hid ⟨G.OwnL.nil _ _ _ _ _, Below.refl _ _⟩⟩
        case round =>
          rename_i hg1
          obtain ⟨i, hi, hg1, rfl, HX⟩ := hrel
          by_cases hin : i < n0
          · obtain ⟨c, hc⟩ : ∃ c, l[i]? = some c := ⟨l[i]'(by have := HN0.out; omega), List.getElem?_eq_getElem _⟩
            have HFT := Lib.hid (HA.out.2 c (List.mem_of_getElem? hc))
            obtain ⟨sb, so, cc, e, hsb, hcell⟩ := G.SlL.at_ HA.out.1 encC_len i c hc
            have hA0 : A0 = some ⟨sb, so, none⟩ := by injection e
            have HBX := Lib.hid (HW.out.2.trans (HX.out.2.mono HW.out.2.size))
            have HSN := Lib.hid (at_snoc hc (wk : Int) (kk : Int))
            have HLE := Lib.hid (Nat.le_trans (at_le l i (wk : Int) (kk : Int)) (Nat.le_of_eq HN0.out))
            clear e hc
            subst hA0
            obtain ⟨gone, x, y, z⟩ := c
            have q0 : wr.cell? ⟨sb, so + i * 4, none⟩ = some (.bool gone) := (HBX.out.cell (p := ⟨sb, so + i * 4, none⟩) hsb).trans (hcell 0 _ rfl)
            have q1 : wr.cell? ⟨sb, so + i * 4 + 1, none⟩ = some (.string x) := (HBX.out.cell (p := ⟨sb, so + i * 4 + 1, none⟩) hsb).trans (hcell 1 _ rfl)
            have q2 : wr.cell? ⟨sb, so + i * 4 + 2, none⟩ = some (.string y) := (HBX.out.cell (p := ⟨sb, so + i * 4 + 2, none⟩) hsb).trans (hcell 2 _ rfl)
            have q3 : wr.cell? ⟨sb, so + i * 4 + 3, none⟩ = some (.string z) := (HBX.out.cell (p := ⟨sb, so + i * 4 + 3, none⟩) hsb).trans (hcell 3 _ rfl)
            clear hcell
            have n1 : (i : Int) < (n0 : Int) := by omega
            have n2 : (0 : Int) ≤ (i : Int) := by omega
            obtain ⟨a1, ha1⟩ : ∃ h, (Ck.homeI x kk).1 = h := ⟨_, rfl⟩
            obtain ⟨a2, ha2⟩ : ∃ h, (Ck.homeI x kk).2 = h := ⟨_, rfl⟩
            have CH := fun W => Ck.rhome_ok x kk W HFT.out.1
            simp only [ha1, ha2] at CH
            have HCH := Lib.hid CH
            have HHB := Lib.hid (show homB wk kk ⟨x, y, z⟩ = (decide (a1 = wk) && decide (a2 = 0)) by
              unfold homB
              rw [show Ck.homeI x kk = (a1, a2) from Prod.ext ha1 ha2, Bool.eq_iff_iff]
              simp [Prod.mk.injEq])
            clear CH ha1 ha2
            by_cases g2 : a2 = 0
            · by_cases g3 : a1 = wk
              · have HB := Lib.hid (show homB wk kk ⟨x, y, z⟩ = true by rw [HHB.out, g2, g3]; simp)
                have e1 : (a1 == (wk : Int)) = true := by simp [g3]
                have e2 : (a2 == 0) = true := by simp [g2]
                clear g2 g3
                go_wp2_with fail
                refine (HCH.out _).mono ?_
                rintro e w3 ⟨rfl, rfl⟩
                go_wp2_with (at_builtin; refine G.wp_app1 rfl _ _ 28 40 rfl _ 4 56 Tryz.underlying28 HI.out rfl (by omega) (by omega) encC encC_len encC_one W9.heap.size u9 (atW (l.take i) wk kk) ⟨gone, x, y, z⟩ _ rfl rfl _ rfl rfl HX.out.1 HX.out.2.size (by have := HLE.out; omega) ?_; intro v1 w5 ho5 hg5 hat5; have H5 := Lib.hid (And.intro ho5 (HX.out.2.grown hg5 HX.out.2.size (fun g e => HX.out.1.ge g e))); clear ho5 hg5 hat5)
                go_roundg (n0 - i)
                case measure => omega
                case rel => exact ⟨i + 1, by omega, by omega, by go_num, Lib.hid (by rw [HSN.out, HB.out]; exact H5.out)⟩
              · have HB := Lib.hid (show homB wk kk ⟨x, y, z⟩ = false by rw [HHB.out, decide_eq_false g3]; rfl)
                have e1 : (a1 == (wk : Int)) = false := by simp [g3]
                have e2 : (a2 == 0) = true := by simp [g2]
                clear g2 g3
                go_wp2_with fail
                refine (HCH.out _).mono ?_
                rintro e w3 ⟨rfl, rfl⟩
                go_wp2
                go_roundg (n0 - i)
                case measure => omega
                case rel => exact ⟨i + 1, by omega, by omega, by go_num, Lib.hid (by rw [HSN.out, HB.out]; exact HX.out)⟩
            · have HB := Lib.hid (show homB wk kk ⟨x, y, z⟩ = false by rw [HHB.out, decide_eq_false g2, Bool.and_false])
              have e2 : (a2 == 0) = false := by simp [g2]
              clear g2
              go_wp2_with fail
              refine (HCH.out _).mono ?_
              rintro e w3 ⟨rfl, rfl⟩
              go_wp2
              go_roundg (n0 - i)
              case measure => omega
              case rel => exact ⟨i + 1, by omega, by omega, by go_num, Lib.hid (by rw [HSN.out, HB.out]; exact HX.out)⟩
          · have hie : i = n0 := by omega
            have n1 : ¬ (i : Int) < (n0 : Int) := by omega
            have HTK := Lib.hid (show l.take i = l by rw [hie]; exact List.take_of_length_le (Nat.le_of_eq HN0.out))
            rw [HTK.out] at HX
            obtain ⟨W8, rfl⟩ : ∃ W8, W8 = wr := ⟨wr, rfl⟩
            obtain ⟨L, hL⟩ : ∃ L, atW l wk kk = L := ⟨_, rfl⟩
            rw [hL] at HX
            have HL := Lib.hid hL
            have HAP := Lib.hid (show applyE (allL []) ([] : List (List Cng)).length 1 L = 0 by rw [← hL]; exact at_apply (apply_zero HR1.out).1 _ _)
            have HHO := Lib.hid (show homesB [L] wk kk = true by rw [← hL]; exact at_homes _ _ _)
            obtain ⟨D, hD⟩ : ∃ D, verL [L] = D := ⟨_, rfl⟩
            obtain ⟨nd, hnd⟩ : ∃ n, D.length = n := ⟨_, rfl⟩
            have HD := Lib.hid (And.intro hD hnd)
            obtain ⟨cm, hcm⟩ : ∃ cm, cn + nd = cm := ⟨_, rfl⟩
            have HCA := Lib.hid (show cntW (allL [l]) kk (wk + 1) = cm by rw [cnt_at HM.out HK8.out, HCE.out, hL, hD, hnd, hcm])
            have hcm4 : cm ≤ 4096 := by rw [← HCA.out]; exact Nat.le_trans (cnt_le _ _ _) HC4.out
            have hnd4 : nd ≤ 4096 := by omega
            have hw6 : wrap64 ((cn : Int) + (nd : Int)) = (cm : Int) := by rw [IntWalk.wrap64_in _ (by omega)]; omega
            have HSX := Lib.hid HX.out.1.sl
            obtain ⟨A9, c9, hv9, _⟩ := id HX.out.1.sl
            subst hv9
            obtain ⟨nL, hnL⟩ : ∃ n, L.length = n := ⟨_, rfl⟩
            rw [hnL] at HX HSX ⊢
            clear hL hD hnd hnL hie hcm
            go_wp2_with fail
            refine (new_law2 _).mono ?_
            rintro e w3 ⟨q, h3, rfl, hk3, hb3, h83⟩
            have T3 := Lib.hid (Two.start (HW.out.1.below HX.out.2) (HW.out.2.trans (HX.out.2.mono HW.out.2.size)) hk3 hb3 h83)
            have V3 := Lib.hid (hk3.old HSX.out (Nat.le_refl _) hb3)
            clear hk3 hb3 h83 HX HSX
            go_wp2_with fail
            refine (apply_law T3.out.b 1 V3.out (by decide) HAP.out (log' := [L]) (log_one HAP.out)).mono ?_
            rintro e w4 ⟨k4, rfl, hk4, hs4⟩
            have T4 := Lib.hid (T3.out.stepB hk4 hs4)
            clear hk4 hs4 T3 V3
            go_wp2_with fail
            refine (homes_law T4.out.b wk kk (by simp) HHO.out).mono ?_
            rintro e w5 ⟨rfl, hb5⟩
            have T5 := Lib.hid (T4.out.below hb5)
            clear hb5 T4
            go_wp2_with fail
            refine (facts_new T5.out.b 1 (by simp) (r := 0) rfl (D := D) HD.out.1).mono ?_
            rw [HD.out.2]
            rintro e w6 ⟨A6, c6, rfl, _, hb6, hh6, hf6⟩
            have T6 := Lib.hid (two_facts T5.out hb6 hh6 hf6)
            clear hb6 hh6 hf6 T5
            go_wp2_with fail
            simp only [hw6]
            go_loopg [16] (nd + 1) (fun g s16 wz => ∃ (j : Nat) (kj hj : SW), j ≤ nd ∧ nd - j < g ∧ s16 = .int .i64 j ∧ Hid (Two p q w W8.heap.size wz kj hj [l] [L] ∧ Held2 wz kj hj encT (.slice A6 nd c6) D))
            case atStart => exact ⟨0, _, _, by omega, by omega, rfl, T6⟩
            case round =>
              rename_i hg2
              obtain ⟨j, kj, hj, hjn, hg2, rfl, HJ⟩ := hrel
              clear T6
              by_cases hjlt : j < nd
              · obtain ⟨t, ht⟩ : ∃ t, D[j]? = some t := ⟨D[j]'(by have := HD.out.2; omega), List.getElem?_eq_getElem _⟩
                have HTM := Lib.hid (show t ∈ verL [atW l wk kk] by rw [HL.out, HD.out.1]; exact List.mem_of_getElem? ht)
                have HTW := Lib.hid (show isT t = true by
                  obtain ⟨_, s, hs, e⟩ := HJ.out.1.a
                  have h5 := hs.good.word 1
                  rw [e] at h5
                  exact h5 t (at_mem HTM.out).1)
                have HMT := Lib.hid (show matchL [l] 1 ⟨t.S, t.P, t.O⟩ = [t] by
                  have h6 := match_self (log := [l]) (n := 1) (t := t) ⟨by decide, by simp⟩ HTW.out
                  rw [if_pos (show t ∈ factsL [l] 1 from (at_mem HTM.out).1)] at h6
                  exact h6)
                obtain ⟨st, sto, rfl, _, t0, t1, t2⟩ := held_cell3 HJ.out.2.a ht
                have HFT := Lib.hid (isT_fit HTW.out)
                clear ht
                obtain ⟨x, y, z⟩ := t
                have n3 : (j : Int) < (nd : Int) := by omega
                have n4 : (0 : Int) ≤ (j : Int) := by omega
                go_wp2_with fail
                refine (match_law HJ.out.1.a 1 x y z HFT.out (by simp) (r := 0) rfl HMT.out).mono ?_
                rw [show ([(⟨x, y, z⟩ : Tri)]).length = 1 from rfl]
                rintro e w7 ⟨A7, c7, k7, rfl, hk7, hs7, _⟩
                have T7 := Lib.hid (And.intro (HJ.out.1.stepA hk7 hs7) (Held2.stepA HJ.out.1 HJ.out.2 hs7))
                clear hk7 hs7 t0 t1 t2 HJ
                by_cases hk1 : 1 < kk
                · have g3 : (1 : Int) < (kk : Int) := by omega
                  obtain ⟨w2, hw28, hne, hrem, hrem2⟩ := next_w hwlt hk8 hk1
                  have HNO := Lib.hid (show homesB [L] w2 kk = false by rw [← HL.out]; exact at_not HTM.out hne)
                  clear hne
                  go_wp2_with fail
                  refine (homes_law T7.out.1.b w2 kk (by simp) HNO.out).mono ?_
                  rintro e w8 ⟨rfl, hb8⟩
                  have T8 := Lib.hid (And.intro (T7.out.1.below hb8) (T7.out.2.below hb8))
                  clear hb8 T7
                  go_wp2
                  go_roundg (nd - j)
                  case measure => omega
                  case rel => exact ⟨j + 1, _, _, by omega, by omega, by go_num, T8⟩
                · have g3 : ¬ (1 : Int) < (kk : Int) := by omega
                  go_wp2
                  go_roundg (nd - j)
                  case measure => omega
                  case rel => exact ⟨j + 1, _, _, by omega, by omega, by go_num, T7⟩
              · have n3 : ¬ (j : Int) < (nd : Int) := by omega
                go_wp2
                go_roundg (kk - wk)
                case measure => omega
                case rel => exact ⟨wk + 1, kj, by omega, by omega, by rw [HCA.out], by go_num, Lib.hid ⟨HJ.out.1.a, HJ.out.1.be⟩⟩
      · have hwe : wk = kk := by omega
        have g1 : ¬ (wk : Int) < (kk : Int) := by omega
        have HLN := Lib.hid (show (verL [l]).length = cn by rw [← HCE.out, hwe, cnt_all _ HK8.out.1, ver_len])
        go_wp2_with fail
        refine (facts_law HW.out.1 1 (by simp) (r := 0) rfl (D := verL [l]) rfl).mono ?_
        rw [HLN.out]
        rintro e w6 ⟨A6, c6, k6, rfl, hk6, hs6, _⟩
        have B6 := Lib.hid (HW.out.1.since hs6 HW.out.2 (Nat.le_refl _))
        clear hk6 hs6
        go_wp2_with fail
        refine (awake_ok _).mono ?_
        rintro e w8 ⟨rfl, hb8⟩
        have B8 := Lib.hid (B6.out.trans (hb8.mono B6.out.size))
        clear hb8
        go_wp2
        go_ret
        exact ⟨rfl, B8.out⟩
  · have hne : (r1 != 0) = true := by simpa using h1
    have H1 := Lib.hid h1
    clear h1
    go_enter Tryz.func8, Tryz.ntmps8
    go_wp2_with fail
    refine (new_law _).mono ?_
    rintro e w1 ⟨p, k1, rfl, hk1, hb1⟩
    have K1 := Lib.hid hk1
    have B1 := Lib.hid hb1
    have V0 := Lib.hid (hk1.old HA.out.1 (Nat.le_refl _) hb1)
    clear hk1 hb1
    go_wp2_with fail
    refine (apply_law K1.out 1 V0.out (by decide) HR1.out rfl).mono ?_
    rintro e w2 ⟨k2, rfl, hk2, hs2⟩
    have B2 := Lib.hid (K1.out.since hs2 B1.out (Nat.le_refl _))
    clear hk2 hs2 K1 B1 V0
    go_wp2_with fail
    refine (awake_ok _).mono ?_
    rintro e w8 ⟨rfl, hb8⟩
    have B8 := Lib.hid (B2.out.trans (hb8.mono B2.out.size))
    clear hb8
    go_wp2
    go_ret
    exact ⟨rfl, B8.out⟩
end Go.Proofs.YtcnffgcegimelaaGreat.So
