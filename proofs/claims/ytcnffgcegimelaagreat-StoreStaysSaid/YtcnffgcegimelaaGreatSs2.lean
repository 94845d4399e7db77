/-
  The law StoreStays, walked. Conditions: batches that lie as told.
-/
import Derived.Test.YtcnffgcegimelaaGreatSs1
import Derived.Test.YtcnffgcegimelaaGreatSd1
namespace Go.Proofs.YtcnffgcegimelaaGreat.So
open Go.Deep Go.RowKit Go.Proofs.YtcnffgcegimelaaGreat.Mp Go.Proofs.YtcnffgcegimelaaGreat.Wd Go.Proofs.YtcnffgcegimelaaGreat.Pm Go.Proofs.YtcnffgcegimelaaGreat.Pw

theorem held_at {w : World} {k : SW} {A : Option Addr} {n c : Nat} {l : List Tri} (h : Held w k encT (.slice A n c) l) {i : Nat} {t : Tri} (ht : l[i]? = some t) : ∃ s off, A = some ⟨s, off, none⟩ ∧ s < w.heap.size ∧ w.cell? ⟨s, off + i * 3, none⟩ = some (.string t.S) ∧ w.cell? ⟨s, off + i * 3 + 1, none⟩ = some (.string t.P) ∧ w.cell? ⟨s, off + i * 3 + 2, none⟩ = some (.string t.O) := by
  obtain ⟨s, off, e, h1, hc⟩ := cellsT_of h.sl i t ht
  exact ⟨s, off, e, h1, hc 0 _ rfl, hc 1 _ rfl, hc 2 _ rfl⟩
/-- The inner loop of the second part. -/
structure StI (p : Nat) (W wr : World) (k : SW) (log : List (List Cng)) (va : Value) (zs : List SV) (v : Value) (D : List Tri) : Prop where
  o : StO p W wr k log va zs
  l : Held wr k encT v D
theorem StI.below {p : Nat} {W wr wr' : World} {k : SW} {log : List (List Cng)} {va v : Value} {zs : List SV} {D : List Tri} (h : StI p W wr k log va zs v D) (b : Below wr.heap.size wr wr') : StI p W wr' (k.far wr) log va zs v D := ⟨h.o.below b, h.l.step (StepS.below b)⟩
set_option maxRecDepth 100000 in
set_option maxHeartbeats 6400000 in
theorem stays_ok (w : World) (v0 : Value) (bs : List BV) (hv0 : G.SlL w encV v0 bs) (hb0 : ∀ b ∈ bs, BIn w b) :
    Calls Tryz.prog 3 #[v0] w fun e w' => e = .returned (.bool true) ∧ Below w.heap.size w w' := by
  have HA := Lib.hid (And.intro hv0 hb0)
  obtain ⟨A0, c0, rfl, _⟩ := id hv0
  obtain ⟨nb, hnb⟩ : ∃ n, bs.length = n := ⟨_, rfl⟩
  rw [hnb] at HA ⊢
  have HNB := Lib.hid hnb
  clear hv0 hb0 hnb
  have HI := Lib.hid (show (Tryz.prog.info? 29).map (fun i => (i.zero, i.size, i.bytes)) = some (some (.slice none 0 0), 1, 24) by kernel_rfl)
  go_enter Tryz.func3, Tryz.ntmps3
  go_wp2_with fail
  refine (new_law _).mono ?_
  rintro e w1 ⟨p, k1, rfl, hk1, hb1⟩
  have K1 := Lib.hid hk1
  have B1 := Lib.hid hb1
  clear hk1 hb1
  go_wp2_with (at_builtin; refine G.wp_app1 rfl _ _ 25 29 rfl _ 1 24 Tryz.underlying25 HI.out rfl (by omega) (by omega) encS encS_len encS_one w.heap.size (.slice none 0 0) [] ⟨none, 0, 0⟩ _ rfl rfl _ rfl rfl (G.OwnL.nil _ _ _ _ _) B1.out.size (by simp) ?_; intro v1 w2 ho2 hg2 hat2; have H2 := Lib.hid (StO.first K1.out B1.out ho2 hg2 hat2); clear ho2 hg2 hat2)
  clear K1 B1
  go_loopg [4, 5] (nb + 1) (fun g s4 s5 wr => ∃ (i : Nat) (k : SW) (log : List (List Cng)) (zs : List SV), i ≤ nb ∧ i ≤ 30 ∧ nb - i < g ∧ s5 = .int .i64 i ∧ log.length ≤ i ∧ Hid (StO p w wr k log s4 zs))
  case atStart => exact ⟨0, _, [], _, by omega, by omega, by omega, rfl, by simp, H2⟩
  case round =>
    obtain ⟨i, k, log, zs, hi, hi30, hg, rfl, hli, HW⟩ := hrel
    clear H2
    obtain ⟨Aa, ca, rfl, _⟩ := id HW.out.row.sl
    obtain ⟨nz, hnz⟩ : ∃ n, zs.length = n := ⟨_, rfl⟩
    rw [hnz] at HW ⊢
    have HNZ := Lib.hid hnz
    have HLZ := Lib.hid (show log.length + 1 = nz by rw [← hnz]; exact HW.out.zl.symm)
    have HLI := Lib.hid hli
    have hz31 : nz ≤ 31 := by have := HLZ.out; omega
    clear hnz hli
    by_cases hin : i < nb ∧ i < 30
    · obtain ⟨hin, hi3⟩ := hin
      obtain ⟨b, hb⟩ : ∃ b, bs[i]? = some b := ⟨bs[i]'(by have := HNB.out; omega), List.getElem?_eq_getElem _⟩
      have HB := Lib.hid (HA.out.2 b (List.mem_of_getElem? hb))
      obtain ⟨sb, so, cc, hv, hsb, hcell⟩ := G.SlL.at_ HA.out.1 encV_len i b hb
      have hA0 : A0 = some ⟨sb, so, none⟩ := by injection hv
      have q0 : wr.cell? ⟨sb, so + i, none⟩ = some (.slice b.z.A b.z.n b.z.c) := by
        have := (HW.out.be.cell (p := ⟨sb, so + i * 1 + 0, none⟩) hsb).trans (hcell 0 _ rfl)
        rwa [Nat.mul_one, Nat.add_zero] at this
      clear hv hcell hb
      subst hA0
      have n1 : (i : Int) < (nb : Int) := by omega
      have n2 : (i : Int) < 30 := by omega
      have n0 : (0 : Int) ≤ (i : Int) := by omega
      have V := Lib.hid (show Held wr k encC (.slice b.z.A b.z.n b.z.c) b.l from HW.out.kt.old HB.out.1 (Nat.le_refl _) HW.out.be)
      obtain ⟨r, hr⟩ : ∃ r, applyE (allL log) log.length (nz : Int) b.l = r := ⟨_, rfl⟩
      have HR := Lib.hid hr
      clear hr
      by_cases hr0 : r = 0
      · subst hr0
        obtain ⟨D, hD⟩ : ∃ D, verL (log ++ [b.l]) = D := ⟨_, rfl⟩
        obtain ⟨nd, hnd⟩ : ∃ n, D.length = n := ⟨_, rfl⟩
        have HD := Lib.hid (And.intro hD hnd)
        clear hD hnd
        go_wp2_with fail
        refine (apply_law HW.out.kt (nz : Int) V.out (by have := HLI.out; omega) HR.out (log' := log ++ [b.l]) (log_one HR.out)).mono ?_
        rintro e w3 ⟨k3, rfl, hk3, hs3⟩
        have K3 := Lib.hid (And.intro hk3 hs3)
        clear hk3 hs3
        go_wp2_with fail
        refine (facts_new K3.out.1 (nz : Int) (by have := HLI.out; simp; omega) (r := 0) (by rw [← HLZ.out]; exact stay_E log b.l) (D := D) (by rw [← HLZ.out, ← HD.out.1]; exact stay_L2 log b.l)).mono ?_
        rw [HD.out.2]
        rintro e w4 ⟨A4, c4, rfl, hk4, hb4, hh4, hf4⟩
        have K4 := Lib.hid (And.intro hk4 (And.intro (K3.out.2.trans (StepS.below hb4)) (And.intro hh4 (fun b off e => Nat.le_trans K3.out.2.chg.size (hf4 b off e)))))
        clear hk4 hb4 hh4 hf4
        go_wp2_with (at_builtin; refine G.wp_app1 rfl _ _ 25 29 rfl _ 1 24 Tryz.underlying25 HI.out rfl (by omega) (by omega) encS encS_len encS_one w.heap.size (.slice Aa nz ca) zs ⟨A4, nd, c4⟩ _ rfl rfl _ rfl rfl (HW.out.row5 K4.out.2.1) (HW.out.kt.since K4.out.2.1 HW.out.be (Nat.le_refl _)).size (by have := HNZ.out; omega) ?_; intro v1 w5 ho5 hg5 hat5; have H5 := Lib.hid (And.intro ho5 (And.intro hg5 hat5)); clear ho5 hg5 hat5)
        go_roundg (nb - i)
        case measure => omega
        case rel =>
          exact ⟨i + 1, _, log ++ [b.l], _, by omega, by omega, by omega, by go_num, by have := HLI.out; simp; omega, Lib.hid (HW.out.more HD.out.1 HD.out.2 K4.out.2.1 K4.out.1 K4.out.2.2.1 K4.out.2.2.2 H5.out.1 H5.out.2.1 H5.out.2.2)⟩
      · have hne : (r != 0) = true := by simpa using hr0
        have H0 := Lib.hid hr0
        clear hr0
        go_wp2_with fail
        refine (apply_law HW.out.kt (nz : Int) V.out (by have := HLI.out; omega) HR.out rfl).mono ?_
        rintro e w3 ⟨k3, rfl, hk3, hs3⟩
        have K3 := Lib.hid (HW.out.same hk3 hs3 (by rw [HR.out]; exact H0.out))
        clear hk3 hs3
        go_wp2
        go_roundg (nb - i)
        case measure => omega
        case rel => exact ⟨i + 1, _, log, zs, by omega, by omega, by omega, by go_num, by have := HLI.out; omega, K3⟩
    · obtain ⟨ex, hex⟩ : ∃ ex : Bool, ex = decide (i < nb) := ⟨_, rfl⟩
      clear HA HNB
      by_cases hinb : i < nb
      · have n1 : (i : Int) < (nb : Int) := by omega
        have n2 : ¬ (i : Int) < 30 := by omega
        go_wp2_with fail
        go_loopg [8] (nz + 1) (fun g s8 wy => ∃ (v : Nat) (kk : SW), v ≤ nz ∧ nz - v < g ∧ s8 = .int .i64 v ∧ Hid (StO p w wy kk log (.slice Aa nz ca) zs))
        case atStart => exact ⟨0, k, by omega, by omega, rfl, HW⟩
        case round =>
          rename_i hg1
          obtain ⟨v, kk, hv, hg1, rfl, HX⟩ := hrel
          clear HW
          by_cases hvn : v < nz
          · obtain ⟨z, hz⟩ : ∃ z, zs[v]? = some z := ⟨zs[v]'(by have := HNZ.out; omega), List.getElem?_eq_getElem _⟩
            have HZ := Lib.hid (HX.out.fact v z hz)
            obtain ⟨D, hD⟩ : ∃ D, verL (log.take v) = D := ⟨_, rfl⟩
            rw [hD] at HZ
            obtain ⟨nd, hnd⟩ : ∃ n, D.length = n := ⟨_, rfl⟩
            have HD := Lib.hid (And.intro hD hnd)
            have hd4 : nd ≤ 4096 := by
              obtain ⟨_, s, hs, e⟩ := HX.out.kt
              have h5 := hs.good.len v (by rw [e]; have := HLZ.out; omega)
              rw [e, hD, hnd] at h5
              exact h5
            have hzn : z.n = nd := by rw [HZ.out.1, hnd]
            obtain ⟨sa, sao, sc, hva, hsa, hcell⟩ := G.SlL.at_ HX.out.row.sl encS_len v z hz
            have hAa : Aa = some ⟨sa, sao, none⟩ := by injection hva
            have q0 : wr.cell? ⟨sa, sao + v, none⟩ = some (.slice z.A nd z.c) := by
              have := hcell 0 _ rfl
              rw [Nat.mul_one, Nat.add_zero] at this
              rw [← hzn]
              exact this
            have hz2 := HZ.out.2
            unfold SV.val at hz2
            rw [hzn] at hz2
            have HZ2 := Lib.hid hz2
            have HSA := Lib.hid (And.intro hsa q0)
            clear hva hcell hz hD hnd hzn hz2 HZ q0
            subst hAa
            have n3 : (v : Int) < (nz : Int) := by omega
            have n4 : (0 : Int) ≤ (v : Int) := by omega
            go_wp2_with fail
            refine (facts_law HX.out.kt (v : Int) (by have := HLZ.out; omega) (r := 0) (stay_0 log (by have := HLZ.out; omega)) (D := D) ((stay_L log (by have := HLZ.out; omega)).trans HD.out.1)).mono ?_
            rw [HD.out.2]
            rintro e w6 ⟨A6, c6, k6, rfl, hk6, hs6, hh6⟩
            have q0 : w6.cell? ⟨sa, sao + v, none⟩ = some (.slice z.A nd z.c) := by
              have h8 := HX.out.col sa rfl
              exact (World.cell?_of_block (hs6.chg.block sa HSA.out.1 (by rw [h8]; omega))).trans HSA.out.2
            have HY := Lib.hid (show StI p w w6 k6 log (.slice (some ⟨sa, sao, none⟩) nz ca) zs (.slice A6 nd c6) D from ⟨HX.out.step hk6 hs6, hh6⟩)
            have HZ6 := Lib.hid (HZ2.out.step hs6)
            clear hk6 hs6 hh6
            go_wp2_with fail
            refine (same_tri HY.out.l.sl HZ6.out.sl HD.out.2 (by omega)).mono ?_
            rintro e w7 ⟨rfl, hb7⟩
            have HY7 := Lib.hid (HY.out.below hb7)
            obtain ⟨k7, hk7⟩ : ∃ x, k6.far w6 = x := ⟨_, rfl⟩
            rw [hk7] at HY7
            clear hb7 HY HZ6 HX HSA HZ2 q0 hk7
            go_wp2_with fail
            go_loopg [11] (nd + 1) (fun g s11 wz => ∃ (j : Nat) (kj : SW), 1 ≤ j ∧ (j ≤ nd ∨ j = 1) ∧ nd - j < g ∧ s11 = .int .i64 j ∧ Hid (StI p w wz kj log (.slice (some ⟨sa, sao, none⟩) nz ca) zs (.slice A6 nd c6) D))
            case atStart => exact ⟨1, k7, by omega, by omega, by omega, rfl, HY7⟩
            case round =>
              rename_i hg2
              obtain ⟨j, kj, hj1, hj2, hg2, rfl, HJ⟩ := hrel
              clear HY7
              by_cases hjn : j < nd
              · obtain ⟨jp, hjp⟩ : ∃ jp, j = jp + 1 := ⟨j - 1, by omega⟩
                obtain ⟨a, ha⟩ : ∃ a, D[jp]? = some a := ⟨D[jp]'(by have := HD.out.2; omega), List.getElem?_eq_getElem _⟩
                obtain ⟨b, hb⟩ : ∃ b, D[j]? = some b := ⟨D[j]'(by have := HD.out.2; omega), List.getElem?_eq_getElem _⟩
                have HLT := Lib.hid (ver_lt _ HD.out.1 ha (by rw [← hjp]; exact hb))
                obtain ⟨sx, sxo, rfl, hsx, a0, a1, a2⟩ := held_at HJ.out.l ha
                obtain ⟨sx', sxo', e, _, b0, b1, b2⟩ := held_at HJ.out.l hb
                cases e
                clear ha hb
                obtain ⟨ax, ay, az⟩ := a
                obtain ⟨bx, byy, bz⟩ := b
                have m1 : (j : Int) < (nd : Int) := by omega
                have m0 : (0 : Int) ≤ (j : Int) := by omega
                have m2 : (0 : Int) ≤ (jp : Int) := by omega
                have m3 : (jp : Int) < (nd : Int) := by omega
                have m4 : IntKind.i64.wrap ((j : Int) - 1) = (jp : Int) := by rw [IntKind.wrap_i64]; omega
                have m5 : wrap64 ((j : Int) - 1) = (jp : Int) := by rw [IntWalk.wrap64_in _ (by omega)]; omega
                clear hjp
                have S0 : wr.drew.cell? ⟨sx, sxo + jp * 3, none⟩ = some (.string ax) ∧ wr.drew.cell? ⟨sx, sxo + jp * 3 + 1, none⟩ = some (.string ay) ∧ wr.drew.cell? ⟨sx, sxo + jp * 3 + 2, none⟩ = some (.string az) ∧ wr.drew.cell? ⟨sx, sxo + j * 3, none⟩ = some (.string bx) ∧ wr.drew.cell? ⟨sx, sxo + j * 3 + 1, none⟩ = some (.string byy) ∧ wr.drew.cell? ⟨sx, sxo + j * 3 + 2, none⟩ = some (.string bz) := ⟨a0, a1, a2, b0, b1, b2⟩
                have hsx' : sx < wr.drew.heap.size := hsx
                go_wp2_with fail
                go_region_held3 (fun W => W.cell? ⟨sx, sxo + jp * 3, none⟩ = some (.string ax) ∧ W.cell? ⟨sx, sxo + jp * 3 + 1, none⟩ = some (.string ay) ∧ W.cell? ⟨sx, sxo + jp * 3 + 2, none⟩ = some (.string az) ∧ W.cell? ⟨sx, sxo + j * 3, none⟩ = some (.string bx) ∧ W.cell? ⟨sx, sxo + j * 3 + 1, none⟩ = some (.string byy) ∧ W.cell? ⟨sx, sxo + j * 3 + 2, none⟩ = some (.string bz)) (first | exact S0 | exact six_next hsx' hsx' S0 B8.out) ((go_at_call 15; refine (less_tri _ _ _ _ _ _ _).mono ?_; rw [HLT.out]; rintro e w8 ⟨rfl, hb8⟩; have B8 := Lib.hid hb8; clear hb8))
                go_wp2
                go_roundg (nd - j)
                case measure => omega
                case rel => exact ⟨j + 1, _, by omega, by omega, by omega, by go_num, Lib.hid (HJ.out.below ((Below.drew (Below.refl _ _)).trans B8.out))⟩
              · have m1 : ¬ (j : Int) < (nd : Int) := by omega
                go_wp2
                go_roundg (nz - v)
                case measure => omega
                case rel => exact ⟨v + 1, kj, by omega, by omega, by go_num, Lib.hid HJ.out.o⟩
          · have n3 : ¬ (v : Int) < (nz : Int) := by omega
            have n5 : (log.length : Int) = (nz : Int) - 1 := by have := HLZ.out; omega
            obtain ⟨ll, hll⟩ : ∃ n, log.length = n := ⟨_, rfl⟩
            have HV := Lib.hid (version_law HX.out.kt)
            rw [hll] at HV n5
            clear hll
            go_wp2_with fail
            refine HV.out.mono ?_
            rintro e w7 ⟨rfl, rfl⟩
            go_wp2_with fail
            refine (awake_ok _).mono ?_
            rintro e w8 ⟨rfl, hb8⟩
            have B8 := Lib.hid (HX.out.be.trans (hb8.mono HX.out.be.size))
            clear hb8
            go_wp2
            go_ret
            exact ⟨rfl, B8.out⟩
      · have n1 : ¬ (i : Int) < (nb : Int) := by omega
        go_wp2_with fail
        go_loopg [8] (nz + 1) (fun g s8 wy => ∃ (v : Nat) (kk : SW), v ≤ nz ∧ nz - v < g ∧ s8 = .int .i64 v ∧ Hid (StO p w wy kk log (.slice Aa nz ca) zs))
        case atStart => exact ⟨0, k, by omega, by omega, rfl, HW⟩
        case round =>
          rename_i hg1
          obtain ⟨v, kk, hv, hg1, rfl, HX⟩ := hrel
          clear HW
          by_cases hvn : v < nz
          · obtain ⟨z, hz⟩ : ∃ z, zs[v]? = some z := ⟨zs[v]'(by have := HNZ.out; omega), List.getElem?_eq_getElem _⟩
            have HZ := Lib.hid (HX.out.fact v z hz)
            obtain ⟨D, hD⟩ : ∃ D, verL (log.take v) = D := ⟨_, rfl⟩
            rw [hD] at HZ
            obtain ⟨nd, hnd⟩ : ∃ n, D.length = n := ⟨_, rfl⟩
            have HD := Lib.hid (And.intro hD hnd)
            have hd4 : nd ≤ 4096 := by
              obtain ⟨_, s, hs, e⟩ := HX.out.kt
              have h5 := hs.good.len v (by rw [e]; have := HLZ.out; omega)
              rw [e, hD, hnd] at h5
              exact h5
            have hzn : z.n = nd := by rw [HZ.out.1, hnd]
            obtain ⟨sa, sao, sc, hva, hsa, hcell⟩ := G.SlL.at_ HX.out.row.sl encS_len v z hz
            have hAa : Aa = some ⟨sa, sao, none⟩ := by injection hva
            have q0 : wr.cell? ⟨sa, sao + v, none⟩ = some (.slice z.A nd z.c) := by
              have := hcell 0 _ rfl
              rw [Nat.mul_one, Nat.add_zero] at this
              rw [← hzn]
              exact this
            have hz2 := HZ.out.2
            unfold SV.val at hz2
            rw [hzn] at hz2
            have HZ2 := Lib.hid hz2
            have HSA := Lib.hid (And.intro hsa q0)
            clear hva hcell hz hD hnd hzn hz2 HZ q0
            subst hAa
            have n3 : (v : Int) < (nz : Int) := by omega
            have n4 : (0 : Int) ≤ (v : Int) := by omega
            go_wp2_with fail
            refine (facts_law HX.out.kt (v : Int) (by have := HLZ.out; omega) (r := 0) (stay_0 log (by have := HLZ.out; omega)) (D := D) ((stay_L log (by have := HLZ.out; omega)).trans HD.out.1)).mono ?_
            rw [HD.out.2]
            rintro e w6 ⟨A6, c6, k6, rfl, hk6, hs6, hh6⟩
            have q0 : w6.cell? ⟨sa, sao + v, none⟩ = some (.slice z.A nd z.c) := by
              have h8 := HX.out.col sa rfl
              exact (World.cell?_of_block (hs6.chg.block sa HSA.out.1 (by rw [h8]; omega))).trans HSA.out.2
            have HY := Lib.hid (show StI p w w6 k6 log (.slice (some ⟨sa, sao, none⟩) nz ca) zs (.slice A6 nd c6) D from ⟨HX.out.step hk6 hs6, hh6⟩)
            have HZ6 := Lib.hid (HZ2.out.step hs6)
            clear hk6 hs6 hh6
            go_wp2_with fail
            refine (same_tri HY.out.l.sl HZ6.out.sl HD.out.2 (by omega)).mono ?_
            rintro e w7 ⟨rfl, hb7⟩
            have HY7 := Lib.hid (HY.out.below hb7)
            obtain ⟨k7, hk7⟩ : ∃ x, k6.far w6 = x := ⟨_, rfl⟩
            rw [hk7] at HY7
            clear hb7 HY HZ6 HX HSA HZ2 q0 hk7
            go_wp2_with fail
            go_loopg [11] (nd + 1) (fun g s11 wz => ∃ (j : Nat) (kj : SW), 1 ≤ j ∧ (j ≤ nd ∨ j = 1) ∧ nd - j < g ∧ s11 = .int .i64 j ∧ Hid (StI p w wz kj log (.slice (some ⟨sa, sao, none⟩) nz ca) zs (.slice A6 nd c6) D))
            case atStart => exact ⟨1, k7, by omega, by omega, by omega, rfl, HY7⟩
            case round =>
              rename_i hg2
              obtain ⟨j, kj, hj1, hj2, hg2, rfl, HJ⟩ := hrel
              clear HY7
              by_cases hjn : j < nd
              · obtain ⟨jp, hjp⟩ : ∃ jp, j = jp + 1 := ⟨j - 1, by omega⟩
                obtain ⟨a, ha⟩ : ∃ a, D[jp]? = some a := ⟨D[jp]'(by have := HD.out.2; omega), List.getElem?_eq_getElem _⟩
                obtain ⟨b, hb⟩ : ∃ b, D[j]? = some b := ⟨D[j]'(by have := HD.out.2; omega), List.getElem?_eq_getElem _⟩
                have HLT := Lib.hid (ver_lt _ HD.out.1 ha (by rw [← hjp]; exact hb))
                obtain ⟨sx, sxo, rfl, hsx, a0, a1, a2⟩ := held_at HJ.out.l ha
                obtain ⟨sx', sxo', e, _, b0, b1, b2⟩ := held_at HJ.out.l hb
                cases e
                clear ha hb
                obtain ⟨ax, ay, az⟩ := a
                obtain ⟨bx, byy, bz⟩ := b
                have m1 : (j : Int) < (nd : Int) := by omega
                have m0 : (0 : Int) ≤ (j : Int) := by omega
                have m2 : (0 : Int) ≤ (jp : Int) := by omega
                have m3 : (jp : Int) < (nd : Int) := by omega
                have m4 : IntKind.i64.wrap ((j : Int) - 1) = (jp : Int) := by rw [IntKind.wrap_i64]; omega
                have m5 : wrap64 ((j : Int) - 1) = (jp : Int) := by rw [IntWalk.wrap64_in _ (by omega)]; omega
                clear hjp
                have S0 : wr.drew.cell? ⟨sx, sxo + jp * 3, none⟩ = some (.string ax) ∧ wr.drew.cell? ⟨sx, sxo + jp * 3 + 1, none⟩ = some (.string ay) ∧ wr.drew.cell? ⟨sx, sxo + jp * 3 + 2, none⟩ = some (.string az) ∧ wr.drew.cell? ⟨sx, sxo + j * 3, none⟩ = some (.string bx) ∧ wr.drew.cell? ⟨sx, sxo + j * 3 + 1, none⟩ = some (.string byy) ∧ wr.drew.cell? ⟨sx, sxo + j * 3 + 2, none⟩ = some (.string bz) := ⟨a0, a1, a2, b0, b1, b2⟩
                have hsx' : sx < wr.drew.heap.size := hsx
                go_wp2_with fail
                go_region_held3 (fun W => W.cell? ⟨sx, sxo + jp * 3, none⟩ = some (.string ax) ∧ W.cell? ⟨sx, sxo + jp * 3 + 1, none⟩ = some (.string ay) ∧ W.cell? ⟨sx, sxo + jp * 3 + 2, none⟩ = some (.string az) ∧ W.cell? ⟨sx, sxo + j * 3, none⟩ = some (.string bx) ∧ W.cell? ⟨sx, sxo + j * 3 + 1, none⟩ = some (.string byy) ∧ W.cell? ⟨sx, sxo + j * 3 + 2, none⟩ = some (.string bz)) (first | exact S0 | exact six_next hsx' hsx' S0 B8.out) ((go_at_call 15; refine (less_tri _ _ _ _ _ _ _).mono ?_; rw [HLT.out]; rintro e w8 ⟨rfl, hb8⟩; have B8 := Lib.hid hb8; clear hb8))
                go_wp2
                go_roundg (nd - j)
                case measure => omega
                case rel => exact ⟨j + 1, _, by omega, by omega, by omega, by go_num, Lib.hid (HJ.out.below ((Below.drew (Below.refl _ _)).trans B8.out))⟩
              · have m1 : ¬ (j : Int) < (nd : Int) := by omega
                go_wp2
                go_roundg (nz - v)
                case measure => omega
                case rel => exact ⟨v + 1, kj, by omega, by omega, by go_num, Lib.hid HJ.out.o⟩
          · have n3 : ¬ (v : Int) < (nz : Int) := by omega
            have n5 : (log.length : Int) = (nz : Int) - 1 := by have := HLZ.out; omega
            obtain ⟨ll, hll⟩ : ∃ n, log.length = n := ⟨_, rfl⟩
            have HV := Lib.hid (version_law HX.out.kt)
            rw [hll] at HV n5
            clear hll
            go_wp2_with fail
            refine HV.out.mono ?_
            rintro e w7 ⟨rfl, rfl⟩
            go_wp2_with fail
            refine (awake_ok _).mono ?_
            rintro e w8 ⟨rfl, hb8⟩
            have B8 := Lib.hid (HX.out.be.trans (hb8.mono HX.out.be.size))
            clear hb8
            go_wp2
            go_ret
            exact ⟨rfl, B8.out⟩
end Go.Proofs.YtcnffgcegimelaaGreat.So
