/-
  The law StoreWhole, walked. Printed by wip/tools/mk_whole.py. Conditions: two batches that lie as told.
-/
import Derived.Test.YtcnffgcegimelaaGreatSb0
import Derived.BigQuiet
import Derived.Deep.QuietTactic
namespace Go.Proofs.YtcnffgcegimelaaGreat.So
open Go.RowKit Go.Proofs.YtcnffgcegimelaaGreat.Mp Go.Proofs.YtcnffgcegimelaaGreat.Wd Go.Proofs.YtcnffgcegimelaaGreat.Pm Go.Proofs.YtcnffgcegimelaaGreat.Pw

theorem apply_may {L : List Tri} {len : Nat} {n : Int} {l : List Cng} (h : applyE L len n l = 0) : May l := by
  have h1 := (apply_zero h).1
  rcases chkE_vals L l with e | e | e
  · rw [e] at h1; cases h1
  · exact e.2.1
  · rw [e] at h1; cases h1
/-- How many facts match a fact that was last spoken of. -/
theorem whole_len {log : List (List Cng)} {l : List Cng} {i : Nat} {c : Cng} (hm : May l) (hc : l[i]? = some c) (h : lastU l c.T i l.length = true) {n : Int} (hn : n = log.length + 1) : (matchL (log ++ [l]) n c.T).length = if c.gone = true then 0 else 1 := by
  have hn2 : 0 ≤ n ∧ n ≤ ((log ++ [l]).length : Nat) := by rw [hn, List.length_append, List.length_singleton]; omega
  rw [match_self hn2 (may_word hm hc)]
  have hf : factsL (log ++ [l]) n = verL (log ++ [l]) := by
    unfold factsL
    rw [if_pos hn2, hn, show ((log.length : Int) + 1).toNat = (log ++ [l]).length by rw [List.length_append, List.length_singleton]; omega, List.take_length]
  have hx : c.T ∈ factsL (log ++ [l]) n ↔ c.gone = false := by
    rw [hf, ← (ver_ok _).2.2, allL_snoc]
    exact last_mem hc h
  cases hg : c.gone with
  | true =>
    rw [if_neg (by rw [hx, hg]; decide)]; rfl
  | false =>
    rw [if_pos (hx.2 hg)]; rfl
theorem whole_count (log : List (List Cng)) (l : List Cng) : (verL (log ++ [l])).length ≤ (verL log).length + l.length := by
  rw [← ver_len, ← ver_len, allL_snoc]
  exact doesL_len l _
structure WholeK (p : Nat) (W wr : World) (k : SW) (log : List (List Cng)) (A1 : Option Addr) (n1 c1 : Nat) (l : List Cng) : Prop where
  kt : At p W.heap.size wr k log
  hv : Held wr k encC (.slice A1 n1 c1) l
  be : Below W.heap.size W wr
set_option maxRecDepth 100000 in
set_option maxHeartbeats 6400000 in
theorem whole_ok (w : World) (v0 v1 : Value) (l1 l2 : List Cng) (hv0 : G.SlL w encC v0 l1) (hv1 : G.SlL w encC v1 l2) (hi0 : ∀ b off n c, v0 = .slice (some ⟨b, off, none⟩) n c → b < w.heap.size) (hi1 : ∀ b off n c, v1 = .slice (some ⟨b, off, none⟩) n c → b < w.heap.size) :
    Calls Tryz.prog 4 #[v0, v1] w fun e w' => e = .returned (.bool true) ∧ Below w.heap.size w w' := by
  have HA := Lib.hid (And.intro hv0 (And.intro hv1 (And.intro hi0 hi1)))
  obtain ⟨A0, c0, rfl, _⟩ := id hv0
  obtain ⟨A1, c1, rfl, _⟩ := id hv1
  obtain ⟨n0, hn0⟩ : ∃ n, l1.length = n := ⟨_, rfl⟩
  obtain ⟨n1, hn1⟩ : ∃ n, l2.length = n := ⟨_, rfl⟩
  have HN1 := Lib.hid hn1
  rw [hn0, hn1] at HA ⊢
  clear hv0 hv1 hi0 hi1 hn0 hn1
  obtain ⟨r1, hr1⟩ : ∃ r, applyE (allL []) 0 1 l1 = r := ⟨_, rfl⟩
  have HR1 := Lib.hid hr1
  clear hr1
  by_cases h1 : r1 = 0
  · subst h1
    skip
    obtain ⟨r2, hr2⟩ : ∃ r, applyE (allL [l1]) 1 2 l2 = r := ⟨_, rfl⟩
    have HR2 := Lib.hid hr2
    clear hr2
    obtain ⟨D, hD⟩ : ∃ D, verL [l1] = D := ⟨_, rfl⟩
    obtain ⟨nd, hnd⟩ : ∃ n, D.length = n := ⟨_, rfl⟩
    have HD := Lib.hid (And.intro hD hnd)
    clear hD hnd
    by_cases h2 : r2 = 0
    · subst h2
      have HM := Lib.hid (apply_may HR2.out)
      obtain ⟨E, hE⟩ : ∃ E, verL [l1, l2] = E := ⟨_, rfl⟩
      obtain ⟨ne, hne⟩ : ∃ n, E.length = n := ⟨_, rfl⟩
      have hle : ne ≤ nd + n1 := by have := whole_count [l1] l2; rw [HN1.out, HD.out.1, HD.out.2] at this; rw [← hne, ← hE]; exact this
      have hn64 : n1 ≤ 64 := by rw [← HN1.out]; exact HM.out.1
      have HE := Lib.hid (And.intro hE hne)
      have HLE := Lib.hid (And.intro hle hn64)
      clear hE hne hle hn64
      go_enter Tryz.func4, Tryz.ntmps4
      go_wp2_with fail
      refine (new_law _).mono ?_
      rintro e w1 ⟨p, k1, rfl, hk1, hb1⟩
      have K1 := Lib.hid hk1
      have B1 := Lib.hid hb1
      have V0 := Lib.hid (Held.old hk1.sto.choose_spec.1 HA.out.1 HA.out.2.2.1 (Nat.le_refl _) hb1)
      have V1 := Lib.hid (Held.old hk1.sto.choose_spec.1 HA.out.2.1 HA.out.2.2.2 (Nat.le_refl _) hb1)
      clear hk1 hb1
      go_wp2_with fail
      refine (apply_law K1.out 1 V0.out (by decide) HR1.out (log' := [l1]) (log_one HR1.out)).mono ?_
      rintro e w2 ⟨k2, rfl, hk2, hs2⟩
      have K2 := Lib.hid hk2
      have B2 := Lib.hid (K1.out.since hs2 B1.out (Nat.le_refl _))
      have V2 := Lib.hid (V1.out.step hs2)
      clear hk2 hs2 K1 B1 V0 V1
      have hd6 : nd ≤ 4096 := by have := ver_le K2.out; rw [HD.out.1, HD.out.2] at this; exact this
      have HD6 := Lib.hid hd6
      clear hd6
      go_wp2_with fail
      refine (facts_law K2.out 1 (by simp) (r := 0) rfl (D := D) HD.out.1).mono ?_
      rw [HD.out.2]
      rintro e w3 ⟨A3, c3, k3, rfl, hk3, hs3, hh3⟩
      have K3 := Lib.hid hk3
      have B3 := Lib.hid (K2.out.since hs3 B2.out (Nat.le_refl _))
      have V3 := Lib.hid (V2.out.step hs3)
      have H3 := Lib.hid hh3
      clear hk3 hs3 hh3 K2 B2 V2
      go_wp2_with fail
      refine (apply_law K3.out 2 V3.out (by simp) HR2.out (log' := [l1, l2]) (log_one HR2.out)).mono ?_
      rintro e w4 ⟨k4, rfl, hk4, hs4⟩
      have K4 := Lib.hid hk4
      have B4 := Lib.hid (K3.out.since hs4 B3.out (Nat.le_refl _))
      have V4 := Lib.hid (V3.out.step hs4)
      have H4 := Lib.hid (H3.out.step hs4)
      clear hk4 hs4 K3 B3 V3 H3
      go_wp2_with fail
      refine (facts_law K4.out 2 (by simp) (r := 0) rfl (D := E) HE.out.1).mono ?_
      rw [HE.out.2]
      rintro e w5 ⟨A5, c5, k5, rfl, hk5, hs5, hh5⟩
      have KW := Lib.hid (show WholeK p w w5 k5 [l1, l2] A1 n1 c1 l2 from ⟨hk5, V4.out.step hs5, K4.out.since hs5 B4.out (Nat.le_refl _)⟩)
      clear hk5 hs5 hh5 K4 B4 V4 H4
      have hn64 := HLE.out.2
      go_wp2_with fail
      go_loopg [14] (n1 + 1) (fun g s14 wr => ∃ (i : Nat) (k : SW), i ≤ n1 ∧ n1 - i < g ∧ s14 = .int .i64 i ∧ Hid (WholeK p w wr k [l1, l2] A1 n1 c1 l2))
      case atStart => exact ⟨0, k5, by omega, by omega, rfl, KW⟩
      case round =>
        obtain ⟨i, k, hi, hg, rfl, HW⟩ := hrel
        clear KW
        by_cases hin : i < n1
        · obtain ⟨c, hc⟩ : ∃ c, l2[i]? = some c := ⟨l2[i]'(by have := HN1.out; omega), List.getElem?_eq_getElem _⟩
          have HC := Lib.hid hc
          have HCL := Lib.hid (lies_of HW.out.hv.sl).2.1
          obtain ⟨sb, so, rfl, hcell⟩ := HCL.out i c hc
          clear hc
          obtain ⟨gone, x, y, z⟩ := c
          have q0 : wr.cell? ⟨sb, so + i * 4, none⟩ = some (.bool gone) := hcell 0 _ rfl
          have q1 : wr.cell? ⟨sb, so + i * 4 + 1, none⟩ = some (.string x) := hcell 1 _ rfl
          have q2 : wr.cell? ⟨sb, so + i * 4 + 2, none⟩ = some (.string y) := hcell 2 _ rfl
          have q3 : wr.cell? ⟨sb, so + i * 4 + 3, none⟩ = some (.string z) := hcell 3 _ rfl
          clear hcell
          have n1' : (i : Int) < (n1 : Int) := by omega
          have n0' : (0 : Int) ≤ (i : Int) := by omega
          have hw1 : wrap64 ((i : Int) + 1) = ((i + 1 : Nat) : Int) := by rw [IntWalk.wrap64_in _ (by omega)]; omega
          go_wp2_with fail
          go_loopg [15, 16] (n1 + 1) (fun g s15 s16 wx => ∃ (k' q : Nat), i + 1 ≤ k' ∧ k' ≤ n1 ∧ n1 - k' < g ∧ s15 = .bool (lastU l2 ⟨x, y, z⟩ i k') ∧ s16 = .int .i64 k' ∧ wx = wr.drewN q)
          case atStart => exact ⟨i + 1, 0, by omega, by omega, by omega, by rw [lastU_start], by go_num, rfl⟩
          case round =>
            rename_i hg'
            obtain ⟨k', q, hk1, hk2, hg', rfl, rfl, rfl⟩ := hrel
            by_cases hkn : k' < n1
            · obtain ⟨d, hd⟩ : ∃ d, l2[k']? = some d := ⟨l2[k']'(by have := HN1.out; omega), List.getElem?_eq_getElem _⟩
              have HST := Lib.hid (lastU_step (t := ⟨x, y, z⟩) hk1 hd)
              obtain ⟨sb', so', e, hcell⟩ := HCL.out k' d hd
              cases e
              clear hd
              obtain ⟨gone', x', y', z'⟩ := d
              obtain ⟨wq, hwq⟩ : ∃ x, wr.drewN q = x := ⟨_, rfl⟩
              have p1 : wq.cell? ⟨sb, so + i * 4 + 1, none⟩ = some (.string x) := by rw [← hwq]; exact q1
              have p2 : wq.cell? ⟨sb, so + i * 4 + 2, none⟩ = some (.string y) := by rw [← hwq]; exact q2
              have p3 : wq.cell? ⟨sb, so + i * 4 + 3, none⟩ = some (.string z) := by rw [← hwq]; exact q3
              have s1 : wq.cell? ⟨sb, so + k' * 4 + 1, none⟩ = some (.string x') := by rw [← hwq]; exact hcell 1 _ rfl
              have s2 : wq.cell? ⟨sb, so + k' * 4 + 2, none⟩ = some (.string y') := by rw [← hwq]; exact hcell 2 _ rfl
              have s3 : wq.cell? ⟨sb, so + k' * 4 + 3, none⟩ = some (.string z') := by rw [← hwq]; exact hcell 3 _ rfl
              clear hcell
              rw [hwq]
              have HWQ := Lib.hid hwq
              clear hwq
              have qN := fun w => neq_tri w x' y' z' x y z
              have m1' : (k' : Int) < (n1 : Int) := by omega
              have m0' : (0 : Int) ≤ (k' : Int) := by omega
              obtain ⟨u, hu⟩ : ∃ u, lastU l2 ⟨x, y, z⟩ i k' = u := ⟨_, rfl⟩
              rw [hu]
              have HU := Lib.hid hu
              clear hu
              obtain ⟨e2, he2⟩ : ∃ e2, (!decide ((⟨x', y', z'⟩ : Tri) = ⟨x, y, z⟩)) = e2 := ⟨_, rfl⟩
              simp only [he2] at qN
              have HE2 := Lib.hid he2
              clear he2
              cases u with
              | true =>
                go_wp2
                go_quiet (fail)
                go_wp2
                go_roundg (n1 - k')
                case measure => omega
                case rel => exact ⟨k' + 1, q + nq, by omega, by omega, by omega, by rw [HST.out, HU.out]; show _ = Value.bool (true && !decide ((⟨x', y', z'⟩ : Tri) = ⟨x, y, z⟩)); rw [HE2.out]; rfl, by go_num, by rw [← HWQ.out]; exact World.drewN_drewN _ _ _⟩
              | false =>
                go_wp2
                go_quiet (fail)
                go_wp2
                go_roundg (n1 - k')
                case measure => omega
                case rel => exact ⟨k' + 1, q + nq, by omega, by omega, by omega, by rw [HST.out, HU.out]; rfl, by go_num, by rw [← HWQ.out]; exact World.drewN_drewN _ _ _⟩
            · have hke : k' = n1 := by omega
              subst hke
              have m1' : ¬ (k' : Int) < (k' : Int) := by omega
              have HFT := Lib.hid (show x.size ≤ maxLen ∧ y.size ≤ maxLen ∧ z.size ≤ maxLen from isT_fit (may_word HM.out HC.out))
              have KX := Lib.hid (HW.out.kt.below (below_drewN (Below.refl _ wr) q))
              obtain ⟨u, hu⟩ : ∃ u, lastU l2 ⟨x, y, z⟩ i k' = u := ⟨_, rfl⟩
              rw [hu]
              have HU := Lib.hid hu
              clear hu
              obtain ⟨M, hM⟩ : ∃ M, matchL [l1, l2] 2 ⟨x, y, z⟩ = M := ⟨_, rfl⟩
              have HMM := Lib.hid hM
              clear hM
              obtain ⟨nm, hnm⟩ : ∃ n, M.length = n := ⟨_, rfl⟩
              have HNM := Lib.hid hnm
              clear hnm
              cases u with
              | false =>
                go_wp2_with fail
                refine (match_law KX.out 2 x y z HFT.out (by simp) (r := 0) rfl HMM.out).mono ?_
                rw [HNM.out]
                rintro e w6 ⟨A6, c6, k6, rfl, hk6, hs6, _⟩
                have HW6 := Lib.hid (show WholeK p w w6 k6 [l1, l2] (some ⟨sb, so, none⟩) k' c1 l2 from ⟨hk6, (HW.out.hv.below (below_drewN (Below.refl _ wr) q)).step hs6, KX.out.since hs6 (below_drewN HW.out.be q) (Nat.le_refl _)⟩)
                clear hk6 hs6
                go_wp2
                go_roundg (k' - i)
                case measure => omega
                case rel => exact ⟨i + 1, k6, by omega, by omega, by go_num, HW6⟩
              | true =>
                have hnm2 : nm = if gone = true then 0 else 1 := by
                  rw [← HNM.out, ← HMM.out]
                  exact whole_len (log := [l1]) HM.out HC.out (by rw [HN1.out]; exact HU.out) (n := 2) rfl
                cases gone with
                | true =>
                  obtain rfl : nm = 0 := hnm2
                  go_wp2_with fail
                  refine (match_law KX.out 2 x y z HFT.out (by simp) (r := 0) rfl HMM.out).mono ?_
                  rw [HNM.out]
                  rintro e w6 ⟨A6, c6, k6, rfl, hk6, hs6, _⟩
                  have HW6 := Lib.hid (show WholeK p w w6 k6 [l1, l2] (some ⟨sb, so, none⟩) k' c1 l2 from ⟨hk6, (HW.out.hv.below (below_drewN (Below.refl _ wr) q)).step hs6, KX.out.since hs6 (below_drewN HW.out.be q) (Nat.le_refl _)⟩)
                  have q6 : w6.cell? ⟨sb, so + i * 4, none⟩ = some (.bool true) := by
                    obtain ⟨sb', so', e, hcell⟩ := (lies_of HW6.out.hv.sl).2.1 i _ HC.out
                    cases e
                    exact hcell 0 _ rfl
                  clear hk6 hs6
                  go_wp2
                  go_roundg (k' - i)
                  case measure => omega
                  case rel => exact ⟨i + 1, k6, by omega, by omega, by go_num, HW6⟩
                | false =>
                  obtain rfl : nm = 1 := hnm2
                  go_wp2_with fail
                  refine (match_law KX.out 2 x y z HFT.out (by simp) (r := 0) rfl HMM.out).mono ?_
                  rw [HNM.out]
                  rintro e w6 ⟨A6, c6, k6, rfl, hk6, hs6, _⟩
                  have HW6 := Lib.hid (show WholeK p w w6 k6 [l1, l2] (some ⟨sb, so, none⟩) k' c1 l2 from ⟨hk6, (HW.out.hv.below (below_drewN (Below.refl _ wr) q)).step hs6, KX.out.since hs6 (below_drewN HW.out.be q) (Nat.le_refl _)⟩)
                  have q6 : w6.cell? ⟨sb, so + i * 4, none⟩ = some (.bool false) := by
                    obtain ⟨sb', so', e, hcell⟩ := (lies_of HW6.out.hv.sl).2.1 i _ HC.out
                    cases e
                    exact hcell 0 _ rfl
                  clear hk6 hs6
                  go_wp2
                  go_roundg (k' - i)
                  case measure => omega
                  case rel => exact ⟨i + 1, k6, by omega, by omega, by go_num, HW6⟩
        · have n1' : ¬ (i : Int) < (n1 : Int) := by omega
          have hnd : nd ≤ 4096 := HD6.out
          have hw2 : wrap64 ((nd : Int) + (n1 : Int)) = ((nd + n1 : Nat) : Int) := by rw [IntWalk.wrap64_in _ (by omega)]; omega
          have hle : (ne : Int) ≤ ((nd + n1 : Nat) : Int) := by have := HLE.out.1; omega
          go_wp2_with fail
          refine (awake_ok _).mono ?_
          rintro e w8 ⟨rfl, hb8⟩
          have B8 := Lib.hid (HW.out.be.trans (hb8.mono HW.out.be.size))
          clear hb8
          go_wp2
          go_ret
          exact ⟨rfl, B8.out⟩
    · have hne : (r2 != 0) = true := by simpa using h2
      have H2 := Lib.hid h2
      clear h2
      go_enter Tryz.func4, Tryz.ntmps4
      go_wp2_with fail
      refine (new_law _).mono ?_
      rintro e w1 ⟨p, k1, rfl, hk1, hb1⟩
      have K1 := Lib.hid hk1
      have B1 := Lib.hid hb1
      have V0 := Lib.hid (Held.old hk1.sto.choose_spec.1 HA.out.1 HA.out.2.2.1 (Nat.le_refl _) hb1)
      have V1 := Lib.hid (Held.old hk1.sto.choose_spec.1 HA.out.2.1 HA.out.2.2.2 (Nat.le_refl _) hb1)
      clear hk1 hb1
      go_wp2_with fail
      refine (apply_law K1.out 1 V0.out (by decide) HR1.out (log' := [l1]) (log_one HR1.out)).mono ?_
      rintro e w2 ⟨k2, rfl, hk2, hs2⟩
      have K2 := Lib.hid hk2
      have B2 := Lib.hid (K1.out.since hs2 B1.out (Nat.le_refl _))
      have V2 := Lib.hid (V1.out.step hs2)
      clear hk2 hs2 K1 B1 V0 V1
      have hd6 : nd ≤ 4096 := by have := ver_le K2.out; rw [HD.out.1, HD.out.2] at this; exact this
      have HD6 := Lib.hid hd6
      clear hd6
      go_wp2_with fail
      refine (facts_law K2.out 1 (by simp) (r := 0) rfl (D := D) HD.out.1).mono ?_
      rw [HD.out.2]
      rintro e w3 ⟨A3, c3, k3, rfl, hk3, hs3, hh3⟩
      have K3 := Lib.hid hk3
      have B3 := Lib.hid (K2.out.since hs3 B2.out (Nat.le_refl _))
      have V3 := Lib.hid (V2.out.step hs3)
      have H3 := Lib.hid hh3
      clear hk3 hs3 hh3 K2 B2 V2
      go_wp2_with fail
      refine (apply_law K3.out 2 V3.out (by simp) HR2.out (log' := [l1]) (log_same (fun e => H2.out (HR2.out.symm.trans e)))).mono ?_
      rintro e w4 ⟨k4, rfl, hk4, hs4⟩
      have K4 := Lib.hid hk4
      have B4 := Lib.hid (K3.out.since hs4 B3.out (Nat.le_refl _))
      have V4 := Lib.hid (V3.out.step hs4)
      have H4 := Lib.hid (H3.out.step hs4)
      clear hk4 hs4 K3 B3 V3 H3
      go_wp2_with fail
      refine (facts_law K4.out 1 (by simp) (r := 0) rfl (D := D) HD.out.1).mono ?_
      rw [HD.out.2]
      rintro e w5 ⟨A5, c5, k5, rfl, hk5, hs5, hh5⟩
      have K5 := Lib.hid hk5
      have B5 := Lib.hid (K4.out.since hs5 B4.out (Nat.le_refl _))
      have H5 := Lib.hid (And.intro (H4.out.step hs5) hh5)
      clear hk5 hs5 hh5 K4 B4 V4 H4
      go_wp2_with fail
      refine (same_tri H5.out.1.sl H5.out.2.sl HD.out.2 (by have := HD6.out; omega)).mono ?_
      rintro e w6 ⟨rfl, hb6⟩
      have K6 := Lib.hid (K5.out.below hb6)
      have B6 := Lib.hid (B5.out.trans (hb6.mono B5.out.size))
      clear hb6 K5 B5 H5
      go_wp2_with fail
      refine (version_law K6.out).mono ?_
      rintro e w7 ⟨rfl, rfl⟩
      go_wp2_with fail
      refine (awake_ok _).mono ?_
      rintro e w8 ⟨rfl, hb8⟩
      have B8 := Lib.hid (B6.out.trans (hb8.mono B6.out.size))
      clear hb8
      go_wp2
      go_ret
      exact ⟨rfl, B8.out⟩
  · have hne1 : (r1 != 0) = true := by simpa using h1
    have H1 := Lib.hid h1
    clear h1
    skip
    obtain ⟨r2, hr2⟩ : ∃ r, applyE (allL []) 0 1 l2 = r := ⟨_, rfl⟩
    have HR2 := Lib.hid hr2
    clear hr2
    obtain ⟨D, hD⟩ : ∃ D, verL [] = D := ⟨_, rfl⟩
    obtain ⟨nd, hnd⟩ : ∃ n, D.length = n := ⟨_, rfl⟩
    have HD := Lib.hid (And.intro hD hnd)
    clear hD hnd
    by_cases h2 : r2 = 0
    · subst h2
      have HM := Lib.hid (apply_may HR2.out)
      obtain ⟨E, hE⟩ : ∃ E, verL [l2] = E := ⟨_, rfl⟩
      obtain ⟨ne, hne⟩ : ∃ n, E.length = n := ⟨_, rfl⟩
      have hle : ne ≤ nd + n1 := by have := whole_count [] l2; rw [HN1.out, HD.out.1, HD.out.2] at this; rw [← hne, ← hE]; exact this
      have hn64 : n1 ≤ 64 := by rw [← HN1.out]; exact HM.out.1
      have HE := Lib.hid (And.intro hE hne)
      have HLE := Lib.hid (And.intro hle hn64)
      clear hE hne hle hn64
      go_enter Tryz.func4, Tryz.ntmps4
      go_wp2_with fail
      refine (new_law _).mono ?_
      rintro e w1 ⟨p, k1, rfl, hk1, hb1⟩
      have K1 := Lib.hid hk1
      have B1 := Lib.hid hb1
      have V0 := Lib.hid (Held.old hk1.sto.choose_spec.1 HA.out.1 HA.out.2.2.1 (Nat.le_refl _) hb1)
      have V1 := Lib.hid (Held.old hk1.sto.choose_spec.1 HA.out.2.1 HA.out.2.2.2 (Nat.le_refl _) hb1)
      clear hk1 hb1
      go_wp2_with fail
      refine (apply_law K1.out 1 V0.out (by decide) HR1.out (log' := []) (log_same (fun e => H1.out (HR1.out.symm.trans e)))).mono ?_
      rintro e w2 ⟨k2, rfl, hk2, hs2⟩
      have K2 := Lib.hid hk2
      have B2 := Lib.hid (K1.out.since hs2 B1.out (Nat.le_refl _))
      have V2 := Lib.hid (V1.out.step hs2)
      clear hk2 hs2 K1 B1 V0 V1
      have hd6 : nd ≤ 4096 := by have := ver_le K2.out; rw [HD.out.1, HD.out.2] at this; exact this
      have HD6 := Lib.hid hd6
      clear hd6
      go_wp2_with fail
      refine (facts_law K2.out 0 (by simp) (r := 0) rfl (D := D) HD.out.1).mono ?_
      rw [HD.out.2]
      rintro e w3 ⟨A3, c3, k3, rfl, hk3, hs3, hh3⟩
      have K3 := Lib.hid hk3
      have B3 := Lib.hid (K2.out.since hs3 B2.out (Nat.le_refl _))
      have V3 := Lib.hid (V2.out.step hs3)
      have H3 := Lib.hid hh3
      clear hk3 hs3 hh3 K2 B2 V2
      go_wp2_with fail
      refine (apply_law K3.out 1 V3.out (by simp) HR2.out (log' := [l2]) (log_one HR2.out)).mono ?_
      rintro e w4 ⟨k4, rfl, hk4, hs4⟩
      have K4 := Lib.hid hk4
      have B4 := Lib.hid (K3.out.since hs4 B3.out (Nat.le_refl _))
      have V4 := Lib.hid (V3.out.step hs4)
      have H4 := Lib.hid (H3.out.step hs4)
      clear hk4 hs4 K3 B3 V3 H3
      go_wp2_with fail
      refine (facts_law K4.out 1 (by simp) (r := 0) rfl (D := E) HE.out.1).mono ?_
      rw [HE.out.2]
      rintro e w5 ⟨A5, c5, k5, rfl, hk5, hs5, hh5⟩
      have KW := Lib.hid (show WholeK p w w5 k5 [l2] A1 n1 c1 l2 from ⟨hk5, V4.out.step hs5, K4.out.since hs5 B4.out (Nat.le_refl _)⟩)
      clear hk5 hs5 hh5 K4 B4 V4 H4
      have hn64 := HLE.out.2
      go_wp2_with fail
      go_loopg [14] (n1 + 1) (fun g s14 wr => ∃ (i : Nat) (k : SW), i ≤ n1 ∧ n1 - i < g ∧ s14 = .int .i64 i ∧ Hid (WholeK p w wr k [l2] A1 n1 c1 l2))
      case atStart => exact ⟨0, k5, by omega, by omega, rfl, KW⟩
      case round =>
        obtain ⟨i, k, hi, hg, rfl, HW⟩ := hrel
        clear KW
        by_cases hin : i < n1
        · obtain ⟨c, hc⟩ : ∃ c, l2[i]? = some c := ⟨l2[i]'(by have := HN1.out; omega), List.getElem?_eq_getElem _⟩
          have HC := Lib.hid hc
          have HCL := Lib.hid (lies_of HW.out.hv.sl).2.1
          obtain ⟨sb, so, rfl, hcell⟩ := HCL.out i c hc
          clear hc
          obtain ⟨gone, x, y, z⟩ := c
          have q0 : wr.cell? ⟨sb, so + i * 4, none⟩ = some (.bool gone) := hcell 0 _ rfl
          have q1 : wr.cell? ⟨sb, so + i * 4 + 1, none⟩ = some (.string x) := hcell 1 _ rfl
          have q2 : wr.cell? ⟨sb, so + i * 4 + 2, none⟩ = some (.string y) := hcell 2 _ rfl
          have q3 : wr.cell? ⟨sb, so + i * 4 + 3, none⟩ = some (.string z) := hcell 3 _ rfl
          clear hcell
          have n1' : (i : Int) < (n1 : Int) := by omega
          have n0' : (0 : Int) ≤ (i : Int) := by omega
          have hw1 : wrap64 ((i : Int) + 1) = ((i + 1 : Nat) : Int) := by rw [IntWalk.wrap64_in _ (by omega)]; omega
          go_wp2_with fail
          go_loopg [15, 16] (n1 + 1) (fun g s15 s16 wx => ∃ (k' q : Nat), i + 1 ≤ k' ∧ k' ≤ n1 ∧ n1 - k' < g ∧ s15 = .bool (lastU l2 ⟨x, y, z⟩ i k') ∧ s16 = .int .i64 k' ∧ wx = wr.drewN q)
          case atStart => exact ⟨i + 1, 0, by omega, by omega, by omega, by rw [lastU_start], by go_num, rfl⟩
          case round =>
            rename_i hg'
            obtain ⟨k', q, hk1, hk2, hg', rfl, rfl, rfl⟩ := hrel
            by_cases hkn : k' < n1
            · obtain ⟨d, hd⟩ : ∃ d, l2[k']? = some d := ⟨l2[k']'(by have := HN1.out; omega), List.getElem?_eq_getElem _⟩
              have HST := Lib.hid (lastU_step (t := ⟨x, y, z⟩) hk1 hd)
              obtain ⟨sb', so', e, hcell⟩ := HCL.out k' d hd
              cases e
              clear hd
              obtain ⟨gone', x', y', z'⟩ := d
              obtain ⟨wq, hwq⟩ : ∃ x, wr.drewN q = x := ⟨_, rfl⟩
              have p1 : wq.cell? ⟨sb, so + i * 4 + 1, none⟩ = some (.string x) := by rw [← hwq]; exact q1
              have p2 : wq.cell? ⟨sb, so + i * 4 + 2, none⟩ = some (.string y) := by rw [← hwq]; exact q2
              have p3 : wq.cell? ⟨sb, so + i * 4 + 3, none⟩ = some (.string z) := by rw [← hwq]; exact q3
              have s1 : wq.cell? ⟨sb, so + k' * 4 + 1, none⟩ = some (.string x') := by rw [← hwq]; exact hcell 1 _ rfl
              have s2 : wq.cell? ⟨sb, so + k' * 4 + 2, none⟩ = some (.string y') := by rw [← hwq]; exact hcell 2 _ rfl
              have s3 : wq.cell? ⟨sb, so + k' * 4 + 3, none⟩ = some (.string z') := by rw [← hwq]; exact hcell 3 _ rfl
              clear hcell
              rw [hwq]
              have HWQ := Lib.hid hwq
              clear hwq
              have qN := fun w => neq_tri w x' y' z' x y z
              have m1' : (k' : Int) < (n1 : Int) := by omega
              have m0' : (0 : Int) ≤ (k' : Int) := by omega
              obtain ⟨u, hu⟩ : ∃ u, lastU l2 ⟨x, y, z⟩ i k' = u := ⟨_, rfl⟩
              rw [hu]
              have HU := Lib.hid hu
              clear hu
              obtain ⟨e2, he2⟩ : ∃ e2, (!decide ((⟨x', y', z'⟩ : Tri) = ⟨x, y, z⟩)) = e2 := ⟨_, rfl⟩
              simp only [he2] at qN
              have HE2 := Lib.hid he2
              clear he2
              cases u with
              | true =>
                go_wp2
                go_quiet (fail)
                go_wp2
                go_roundg (n1 - k')
                case measure => omega
                case rel => exact ⟨k' + 1, q + nq, by omega, by omega, by omega, by rw [HST.out, HU.out]; show _ = Value.bool (true && !decide ((⟨x', y', z'⟩ : Tri) = ⟨x, y, z⟩)); rw [HE2.out]; rfl, by go_num, by rw [← HWQ.out]; exact World.drewN_drewN _ _ _⟩
              | false =>
                go_wp2
                go_quiet (fail)
                go_wp2
                go_roundg (n1 - k')
                case measure => omega
                case rel => exact ⟨k' + 1, q + nq, by omega, by omega, by omega, by rw [HST.out, HU.out]; rfl, by go_num, by rw [← HWQ.out]; exact World.drewN_drewN _ _ _⟩
            · have hke : k' = n1 := by omega
              subst hke
              have m1' : ¬ (k' : Int) < (k' : Int) := by omega
              have HFT := Lib.hid (show x.size ≤ maxLen ∧ y.size ≤ maxLen ∧ z.size ≤ maxLen from isT_fit (may_word HM.out HC.out))
              have KX := Lib.hid (HW.out.kt.below (below_drewN (Below.refl _ wr) q))
              obtain ⟨u, hu⟩ : ∃ u, lastU l2 ⟨x, y, z⟩ i k' = u := ⟨_, rfl⟩
              rw [hu]
              have HU := Lib.hid hu
              clear hu
              obtain ⟨M, hM⟩ : ∃ M, matchL [l2] 1 ⟨x, y, z⟩ = M := ⟨_, rfl⟩
              have HMM := Lib.hid hM
              clear hM
              obtain ⟨nm, hnm⟩ : ∃ n, M.length = n := ⟨_, rfl⟩
              have HNM := Lib.hid hnm
              clear hnm
              cases u with
              | false =>
                go_wp2_with fail
                refine (match_law KX.out 1 x y z HFT.out (by simp) (r := 0) rfl HMM.out).mono ?_
                rw [HNM.out]
                rintro e w6 ⟨A6, c6, k6, rfl, hk6, hs6, _⟩
                have HW6 := Lib.hid (show WholeK p w w6 k6 [l2] (some ⟨sb, so, none⟩) k' c1 l2 from ⟨hk6, (HW.out.hv.below (below_drewN (Below.refl _ wr) q)).step hs6, KX.out.since hs6 (below_drewN HW.out.be q) (Nat.le_refl _)⟩)
                clear hk6 hs6
                go_wp2
                go_roundg (k' - i)
                case measure => omega
                case rel => exact ⟨i + 1, k6, by omega, by omega, by go_num, HW6⟩
              | true =>
                have hnm2 : nm = if gone = true then 0 else 1 := by
                  rw [← HNM.out, ← HMM.out]
                  exact whole_len (log := []) HM.out HC.out (by rw [HN1.out]; exact HU.out) (n := 1) rfl
                cases gone with
                | true =>
                  obtain rfl : nm = 0 := hnm2
                  go_wp2_with fail
                  refine (match_law KX.out 1 x y z HFT.out (by simp) (r := 0) rfl HMM.out).mono ?_
                  rw [HNM.out]
                  rintro e w6 ⟨A6, c6, k6, rfl, hk6, hs6, _⟩
                  have HW6 := Lib.hid (show WholeK p w w6 k6 [l2] (some ⟨sb, so, none⟩) k' c1 l2 from ⟨hk6, (HW.out.hv.below (below_drewN (Below.refl _ wr) q)).step hs6, KX.out.since hs6 (below_drewN HW.out.be q) (Nat.le_refl _)⟩)
                  have q6 : w6.cell? ⟨sb, so + i * 4, none⟩ = some (.bool true) := by
                    obtain ⟨sb', so', e, hcell⟩ := (lies_of HW6.out.hv.sl).2.1 i _ HC.out
                    cases e
                    exact hcell 0 _ rfl
                  clear hk6 hs6
                  go_wp2
                  go_roundg (k' - i)
                  case measure => omega
                  case rel => exact ⟨i + 1, k6, by omega, by omega, by go_num, HW6⟩
                | false =>
                  obtain rfl : nm = 1 := hnm2
                  go_wp2_with fail
                  refine (match_law KX.out 1 x y z HFT.out (by simp) (r := 0) rfl HMM.out).mono ?_
                  rw [HNM.out]
                  rintro e w6 ⟨A6, c6, k6, rfl, hk6, hs6, _⟩
                  have HW6 := Lib.hid (show WholeK p w w6 k6 [l2] (some ⟨sb, so, none⟩) k' c1 l2 from ⟨hk6, (HW.out.hv.below (below_drewN (Below.refl _ wr) q)).step hs6, KX.out.since hs6 (below_drewN HW.out.be q) (Nat.le_refl _)⟩)
                  have q6 : w6.cell? ⟨sb, so + i * 4, none⟩ = some (.bool false) := by
                    obtain ⟨sb', so', e, hcell⟩ := (lies_of HW6.out.hv.sl).2.1 i _ HC.out
                    cases e
                    exact hcell 0 _ rfl
                  clear hk6 hs6
                  go_wp2
                  go_roundg (k' - i)
                  case measure => omega
                  case rel => exact ⟨i + 1, k6, by omega, by omega, by go_num, HW6⟩
        · have n1' : ¬ (i : Int) < (n1 : Int) := by omega
          have hnd : nd ≤ 4096 := HD6.out
          have hw2 : wrap64 ((nd : Int) + (n1 : Int)) = ((nd + n1 : Nat) : Int) := by rw [IntWalk.wrap64_in _ (by omega)]; omega
          have hle : (ne : Int) ≤ ((nd + n1 : Nat) : Int) := by have := HLE.out.1; omega
          go_wp2_with fail
          refine (awake_ok _).mono ?_
          rintro e w8 ⟨rfl, hb8⟩
          have B8 := Lib.hid (HW.out.be.trans (hb8.mono HW.out.be.size))
          clear hb8
          go_wp2
          go_ret
          exact ⟨rfl, B8.out⟩
    · have hne : (r2 != 0) = true := by simpa using h2
      have H2 := Lib.hid h2
      clear h2
      go_enter Tryz.func4, Tryz.ntmps4
      go_wp2_with fail
      refine (new_law _).mono ?_
      rintro e w1 ⟨p, k1, rfl, hk1, hb1⟩
      have K1 := Lib.hid hk1
      have B1 := Lib.hid hb1
      have V0 := Lib.hid (Held.old hk1.sto.choose_spec.1 HA.out.1 HA.out.2.2.1 (Nat.le_refl _) hb1)
      have V1 := Lib.hid (Held.old hk1.sto.choose_spec.1 HA.out.2.1 HA.out.2.2.2 (Nat.le_refl _) hb1)
      clear hk1 hb1
      go_wp2_with fail
      refine (apply_law K1.out 1 V0.out (by decide) HR1.out (log' := []) (log_same (fun e => H1.out (HR1.out.symm.trans e)))).mono ?_
      rintro e w2 ⟨k2, rfl, hk2, hs2⟩
      have K2 := Lib.hid hk2
      have B2 := Lib.hid (K1.out.since hs2 B1.out (Nat.le_refl _))
      have V2 := Lib.hid (V1.out.step hs2)
      clear hk2 hs2 K1 B1 V0 V1
      have hd6 : nd ≤ 4096 := by have := ver_le K2.out; rw [HD.out.1, HD.out.2] at this; exact this
      have HD6 := Lib.hid hd6
      clear hd6
      go_wp2_with fail
      refine (facts_law K2.out 0 (by simp) (r := 0) rfl (D := D) HD.out.1).mono ?_
      rw [HD.out.2]
      rintro e w3 ⟨A3, c3, k3, rfl, hk3, hs3, hh3⟩
      have K3 := Lib.hid hk3
      have B3 := Lib.hid (K2.out.since hs3 B2.out (Nat.le_refl _))
      have V3 := Lib.hid (V2.out.step hs3)
      have H3 := Lib.hid hh3
      clear hk3 hs3 hh3 K2 B2 V2
      go_wp2_with fail
      refine (apply_law K3.out 1 V3.out (by simp) HR2.out (log' := []) (log_same (fun e => H2.out (HR2.out.symm.trans e)))).mono ?_
      rintro e w4 ⟨k4, rfl, hk4, hs4⟩
      have K4 := Lib.hid hk4
      have B4 := Lib.hid (K3.out.since hs4 B3.out (Nat.le_refl _))
      have V4 := Lib.hid (V3.out.step hs4)
      have H4 := Lib.hid (H3.out.step hs4)
      clear hk4 hs4 K3 B3 V3 H3
      go_wp2_with fail
      refine (facts_law K4.out 0 (by simp) (r := 0) rfl (D := D) HD.out.1).mono ?_
      rw [HD.out.2]
      rintro e w5 ⟨A5, c5, k5, rfl, hk5, hs5, hh5⟩
      have K5 := Lib.hid hk5
      have B5 := Lib.hid (K4.out.since hs5 B4.out (Nat.le_refl _))
      have H5 := Lib.hid (And.intro (H4.out.step hs5) hh5)
      clear hk5 hs5 hh5 K4 B4 V4 H4
      go_wp2_with fail
      refine (same_tri H5.out.1.sl H5.out.2.sl HD.out.2 (by have := HD6.out; omega)).mono ?_
      rintro e w6 ⟨rfl, hb6⟩
      have K6 := Lib.hid (K5.out.below hb6)
      have B6 := Lib.hid (B5.out.trans (hb6.mono B5.out.size))
      clear hb6 K5 B5 H5
      go_wp2_with fail
      refine (version_law K6.out).mono ?_
      rintro e w7 ⟨rfl, rfl⟩
      go_wp2_with fail
      refine (awake_ok _).mono ?_
      rintro e w8 ⟨rfl, hb8⟩
      have B8 := Lib.hid (B6.out.trans (hb8.mono B6.out.size))
      clear hb8
      go_wp2
      go_ret
      exact ⟨rfl, B8.out⟩
end Go.Proofs.YtcnffgcegimelaaGreat.So
