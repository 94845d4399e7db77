/-
  The law StoreAgain, walked. Conditions: two batches that lie as told.
-/
import Derived.Test.YtcnffgcegimelaaGreatSz1
namespace Go.Proofs.YtcnffgcegimelaaGreat.So
open Go.RowKit Go.Proofs.YtcnffgcegimelaaGreat.Mp Go.Proofs.YtcnffgcegimelaaGreat.Wd Go.Proofs.YtcnffgcegimelaaGreat.Pm Go.Proofs.YtcnffgcegimelaaGreat.Pw

theorem doesL_again (L : List Tri) (l : List Cng) (x : Tri) : x ∈ doesL (doesL L l) l ↔ x ∈ doesL L l := by
  have m1 := mem_doesL l (fun _ => none) L L (by simp) x
  have m2 := mem_doesL l (fun _ => none) (doesL L l) (doesL L l) (by simp) x
  rw [m2, m1]
  constructor
  · rintro (h | ⟨_, h⟩)
    · exact Or.inl h
    · exact h
  · rintro (h | ⟨h1, h2⟩)
    · exact Or.inl h
    · exact Or.inr ⟨h1, Or.inr ⟨h1, h2⟩⟩
theorem again_chk {log : List (List Cng)} {l : List Cng} (h : chkE (allL log) l = 0) : chkE (allL (log ++ [l])) l = 0 := by
  have hn := (ver_ok log).2.1
  rw [allL_snoc]
  have hlen : (doesL (doesL (allL log) l) l).length = (doesL (allL log) l).length := (perm_of_mem (doesL_nodup l _ (doesL_nodup l _ hn)) (doesL_nodup l _ hn) (doesL_again _ l)).length_eq
  unfold chkE at h ⊢
  rwa [hlen]
theorem again_ver (log : List (List Cng)) (l : List Cng) : verL (log ++ [l] ++ [l]) = verL (log ++ [l]) := by
  refine rises_one ltT_swh (ver_ok _).1 (ver_ok _).1 fun x => ?_
  rw [← (ver_ok (log ++ [l] ++ [l])).2.2, ← (ver_ok (log ++ [l])).2.2, allL_snoc, allL_snoc]
  exact doesL_again _ l x
theorem apply_zero {L : List Tri} {len : Nat} {n : Int} {l : List Cng} (h : applyE L len n l = 0) : chkE L l = 0 ∧ n = len + 1 := by
  unfold applyE at h
  split at h
  · cases h
  · split at h
    · cases h
    · rename_i h2
      exact ⟨h, by simpa using h2⟩
theorem apply_is {L : List Tri} {len : Nat} {l : List Cng} (h : chkE L l = 0) : applyE L len (len + 1) l = 0 := by
  unfold applyE
  rw [if_neg (by rw [h]; decide), if_neg (by simp), h]
/-- A batch that was done, done again. -/
theorem again_E {l1 l2 : List Cng} (h : applyE (allL [l1]) 1 2 l2 = 0) : applyE (allL [l1, l2]) 2 3 l2 = 0 := apply_is (len := 2) (again_chk (log := [l1]) (apply_zero h).1)
theorem again_F {l1 l2 : List Cng} : factsL [l1, l2, l2] 3 = verL [l1, l2] := again_ver [l1] l2
theorem ver_le {log : List (List Cng)} {p w0 : Nat} {w : World} {k : SW} (h : At p w0 w k log) : (verL log).length ≤ 4096 := by
  obtain ⟨_, s, h2, rfl⟩ := h
  have := h2.good.now
  rw [ver_len] at this
  exact this
theorem log_one {l : List Cng} {log : List (List Cng)} {n : Int} (h : applyE (allL log) log.length n l = 0) : logA log n l = log ++ [l] := by unfold logA; rw [if_pos h]
theorem log_same {l : List Cng} {log : List (List Cng)} {n : Int} (h : applyE (allL log) log.length n l ≠ 0) : logA log n l = log := by unfold logA; rw [if_neg h]
set_option maxRecDepth 100000 in
set_option maxHeartbeats 3200000 in
theorem again_ok (w : World) (v0 v1 : Value) (l1 l2 : List Cng) (hv0 : G.SlL w encC v0 l1) (hv1 : G.SlL w encC v1 l2) (hi0 : ∀ b off n c, v0 = .slice (some ⟨b, off, none⟩) n c → b < w.heap.size) (hi1 : ∀ b off n c, v1 = .slice (some ⟨b, off, none⟩) n c → b < w.heap.size) :
    Calls Tryz.prog 6 #[v0, v1] w fun e w' => e = .returned (.bool true) ∧ Below w.heap.size w w' := by
  have HA := Lib.hid (And.intro hv0 (And.intro hv1 (And.intro hi0 hi1)))
  obtain ⟨A0, c0, rfl, _⟩ := id hv0
  obtain ⟨A1, c1, rfl, _⟩ := id hv1
  obtain ⟨n0, hn0⟩ : ∃ n, l1.length = n := ⟨_, rfl⟩
  obtain ⟨n1, hn1⟩ : ∃ n, l2.length = n := ⟨_, rfl⟩
  rw [hn0, hn1] at HA ⊢
  clear hv0 hv1 hi0 hi1 hn0 hn1
  obtain ⟨r1, hr1⟩ : ∃ r, applyE (allL []) 0 1 l1 = r := ⟨_, rfl⟩
  have HR1 := Lib.hid hr1
  clear hr1
  by_cases h1 : r1 = 0
  · subst h1
    obtain ⟨r2, hr2⟩ : ∃ r, applyE (allL [l1]) 1 2 l2 = r := ⟨_, rfl⟩
    have HR2 := Lib.hid hr2
    clear hr2
    by_cases h2 : r2 = 0
    · subst h2
      go_enter Tryz.func6, Tryz.ntmps6
      go_wp2_with fail
      refine (new_law _).mono ?_
      rintro e w1 ⟨p, k1, rfl, hk1, hb1⟩
      have K1 := Lib.hid hk1
      have B1 := Lib.hid hb1
      have V0 := Lib.hid (Held.old hk1.sto.choose_spec.1 HA.out.1 (fun b off n c e _ => HA.out.2.2.1 b off n c e) (Nat.le_refl _) hb1)
      have V1 := Lib.hid (Held.old hk1.sto.choose_spec.1 HA.out.2.1 (fun b off n c e _ => HA.out.2.2.2 b off n c e) (Nat.le_refl _) hb1)
      clear hk1 hb1
      go_wp2_with fail
      refine (apply_law K1.out 1 V0.out (by decide) HR1.out (log' := [l1]) (log_one HR1.out)).mono ?_
      rintro e w2 ⟨k2, rfl, hk2, hs2⟩
      have K2 := Lib.hid hk2
      have B2 := Lib.hid (K1.out.since hs2 B1.out (Nat.le_refl _))
      have V2 := Lib.hid (V1.out.step hs2)
      clear hk2 hs2 K1 B1 V0 V1
      go_wp2_with fail
      refine (apply_law K2.out 2 V2.out (by simp) HR2.out (log' := [l1, l2]) (log_one HR2.out)).mono ?_
      rintro e w3 ⟨k3, rfl, hk3, hs3⟩
      have K3 := Lib.hid hk3
      have B3 := Lib.hid (K2.out.since hs3 B2.out (Nat.le_refl _))
      have V3 := Lib.hid (V2.out.step hs3)
      clear hk3 hs3 K2 B2 V2
      obtain ⟨D, hD⟩ : ∃ D, verL [l1, l2] = D := ⟨_, rfl⟩
      obtain ⟨nd, hnd⟩ : ∃ n, D.length = n := ⟨_, rfl⟩
      have HD := Lib.hid (And.intro hD hnd)
      have hd6 : nd ≤ 1000000 := by have := ver_le K3.out; rw [hD] at this; omega
      have HD6 := Lib.hid hd6
      clear hd6
      go_wp2_with fail
      refine (facts_law K3.out 2 (by simp) (r := 0) rfl (D := D) hD).mono ?_
      rw [hnd]
      clear hD hnd
      rintro e w4 ⟨A4, c4, k4, rfl, hk4, hs4, hh4⟩
      have K4 := Lib.hid hk4
      have B4 := Lib.hid (K3.out.since hs4 B3.out (Nat.le_refl _))
      have V4 := Lib.hid (V3.out.step hs4)
      have H4 := Lib.hid hh4
      clear hk4 hs4 hh4 K3 B3 V3
      go_wp2_with fail
      refine (apply_law K4.out 3 V4.out (by simp) (again_E HR2.out) (log' := [l1, l2, l2]) (log_one (again_E HR2.out))).mono ?_
      rintro e w5 ⟨k5, rfl, hk5, hs5⟩
      have K5 := Lib.hid hk5
      have B5 := Lib.hid (K4.out.since hs5 B4.out (Nat.le_refl _))
      have H5 := Lib.hid (H4.out.step hs5)
      clear hk5 hs5 K4 B4 V4 H4
      go_wp2_with fail
      refine (facts_law K5.out 3 (by simp) (r := 0) rfl (D := D) (again_F.trans HD.out.1)).mono ?_
      rw [HD.out.2]
      rintro e w6 ⟨A6, c6, k6, rfl, hk6, hs6, hh6⟩
      have B6 := Lib.hid (K5.out.since hs6 B5.out (Nat.le_refl _))
      have H6 := Lib.hid (And.intro (H5.out.step hs6) hh6)
      clear hk6 hs6 hh6 K5 B5 H5
      go_wp2_with fail
      refine (same_tri H6.out.1.sl H6.out.2.sl HD.out.2 HD6.out).mono ?_
      rintro e w7 ⟨rfl, hb7⟩
      have B7 := Lib.hid (B6.out.trans (hb7.mono B6.out.size))
      clear hb7
      go_wp2_with fail
      refine (awake_ok _).mono ?_
      rintro e w8 ⟨rfl, hb8⟩
      have B8 := Lib.hid (B7.out.trans (hb8.mono B7.out.size))
      clear hb8
      go_wp2
      go_ret
      exact ⟨rfl, B8.out⟩
    · have hne : (r2 != 0) = true := by simpa using h2
      have H2 := Lib.hid h2
      clear h2
      go_enter Tryz.func6, Tryz.ntmps6
      go_wp2_with fail
      refine (new_law _).mono ?_
      rintro e w1 ⟨p, k1, rfl, hk1, hb1⟩
      have K1 := Lib.hid hk1
      have B1 := Lib.hid hb1
      have V0 := Lib.hid (Held.old hk1.sto.choose_spec.1 HA.out.1 (fun b off n c e _ => HA.out.2.2.1 b off n c e) (Nat.le_refl _) hb1)
      have V1 := Lib.hid (Held.old hk1.sto.choose_spec.1 HA.out.2.1 (fun b off n c e _ => HA.out.2.2.2 b off n c e) (Nat.le_refl _) hb1)
      clear hk1 hb1
      go_wp2_with fail
      refine (apply_law K1.out 1 V0.out (by decide) HR1.out (log' := [l1]) (log_one HR1.out)).mono ?_
      rintro e w2 ⟨k2, rfl, hk2, hs2⟩
      have K2 := Lib.hid hk2
      have B2 := Lib.hid (K1.out.since hs2 B1.out (Nat.le_refl _))
      have V2 := Lib.hid (V1.out.step hs2)
      clear hk2 hs2 K1 B1 V0 V1
      go_wp2_with fail
      refine (apply_law K2.out 2 V2.out (by simp) HR2.out rfl).mono ?_
      rintro e w3 ⟨k3, rfl, hk3, hs3⟩
      have B3 := Lib.hid (K2.out.since hs3 B2.out (Nat.le_refl _))
      clear hk3 hs3 K2 B2 V2
      go_wp2_with fail
      refine (awake_ok _).mono ?_
      rintro e w8 ⟨rfl, hb8⟩
      have B8 := Lib.hid (B3.out.trans (hb8.mono B3.out.size))
      clear hb8
      go_wp2
      go_ret
      exact ⟨rfl, B8.out⟩
  · have hne : (r1 != 0) = true := by simpa using h1
    have H1 := Lib.hid h1
    clear h1
    go_enter Tryz.func6, Tryz.ntmps6
    go_wp2_with fail
    refine (new_law _).mono ?_
    rintro e w1 ⟨p, k1, rfl, hk1, hb1⟩
    have K1 := Lib.hid hk1
    have B1 := Lib.hid hb1
    have V0 := Lib.hid (Held.old hk1.sto.choose_spec.1 HA.out.1 (fun b off n c e _ => HA.out.2.2.1 b off n c e) (Nat.le_refl _) hb1)
    clear hk1 hb1
    go_wp2_with fail
    refine (apply_law K1.out 1 V0.out (by decide) HR1.out rfl).mono ?_
    rintro e w2 ⟨k2, rfl, hk2, hs2⟩
    have B2 := Lib.hid (K1.out.since hs2 B1.out (Nat.le_refl _))
    clear hk2 hs2 K1 B1 V0
    go_wp2_with fail
    refine (awake_ok _).mono ?_
    rintro e w8 ⟨rfl, hb8⟩
    have B8 := Lib.hid (B2.out.trans (hb8.mono B2.out.size))
    clear hb8
    go_wp2
    go_ret
    exact ⟨rfl, B8.out⟩
end Go.Proofs.YtcnffgcegimelaaGreat.So
