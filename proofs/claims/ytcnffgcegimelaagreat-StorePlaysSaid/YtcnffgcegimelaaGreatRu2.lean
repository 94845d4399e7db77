/-
  The document's store, walked: Put. Conditions: slices lie as told.
-/
import Derived.Test.YtcnffgcegimelaaGreatRu1
namespace Go.Proofs.YtcnffgcegimelaaGreat.So
open Go.Deep Go.RowKit Go.Proofs.YtcnffgcegimelaaGreat.Mp Go.Proofs.YtcnffgcegimelaaGreat.Wd Go.Proofs.YtcnffgcegimelaaGreat.Pm Go.Proofs.YtcnffgcegimelaaGreat.Pw

theorem putR_at (lt : Tri → Tri → Bool) : ∀ {l : List Tri} {t : Tri} {k : Nat}, (∀ i d, i < k → l[i]? = some d → lt d t = true) → (k = l.length ∨ ∃ d, l[k]? = some d ∧ lt d t = false) → putR lt l t = if l[k]? = some t then l else l.take k ++ t :: l.drop k
  | [], t, k, _, h => by
    rcases h with rfl | ⟨d, h, _⟩
    · rfl
    · simp at h
  | a :: r, t, 0, _, h => by
    rcases h with h | ⟨d, h, h2⟩
    · cases h
    · obtain rfl : a = d := by simpa using h
      unfold putR
      rw [if_neg (by rw [h2]; decide)]
      by_cases e : a = t
      · rw [if_pos e, if_pos (by rw [e]; rfl)]
      · rw [if_neg e, if_neg (fun h => e (by simpa using h))]
        rfl
  | a :: r, t, k + 1, hb, h => by
    have h0 : lt a t = true := hb 0 a (by omega) rfl
    have ih := putR_at lt (l := r) (t := t) (k := k) (fun i d hi hd => hb (i + 1) d (by omega) (by simpa using hd)) (by
      rcases h with h | ⟨d, h, h2⟩
      · left; simpa using h
      · right; exact ⟨d, by simpa using h, h2⟩)
    unfold putR
    rw [if_pos h0, ih]
    simp only [List.getElem?_cons_succ, List.take_succ_cons, List.drop_succ_cons, List.cons_append]
    split <;> rfl
theorem six_nx {w w' : World} {b1 b2 i1 i2 i3 j1 j2 j3 : Nat} {u1 u2 u3 v1 v2 v3 : Value} (h1 : b1 < w.heap.size) (h2 : b2 < w.heap.size) (h : w.cell? ⟨b1, i1, none⟩ = some u1 ∧ w.cell? ⟨b1, i2, none⟩ = some u2 ∧ w.cell? ⟨b1, i3, none⟩ = some u3 ∧ w.cell? ⟨b2, j1, none⟩ = some v1 ∧ w.cell? ⟨b2, j2, none⟩ = some v2 ∧ w.cell? ⟨b2, j3, none⟩ = some v3) (b : Below w.heap.size w w') : w'.cell? ⟨b1, i1, none⟩ = some u1 ∧ w'.cell? ⟨b1, i2, none⟩ = some u2 ∧ w'.cell? ⟨b1, i3, none⟩ = some u3 ∧ w'.cell? ⟨b2, j1, none⟩ = some v1 ∧ w'.cell? ⟨b2, j2, none⟩ = some v2 ∧ w'.cell? ⟨b2, j3, none⟩ = some v3 := by
  have e1 : ∀ i, w'.cell? ⟨b1, i, none⟩ = w.cell? ⟨b1, i, none⟩ := fun i => b.cell (p := ⟨b1, i, none⟩) h1
  have e2 : ∀ i, w'.cell? ⟨b2, i, none⟩ = w.cell? ⟨b2, i, none⟩ := fun i => b.cell (p := ⟨b2, i, none⟩) h2
  rw [e1, e1, e1, e2, e2, e2]
  exact h
def PreLt (D : List Tri) (t : Tri) (k : Nat) : Prop := ∀ i d, i < k → D[i]? = some d → ltT d t = true
theorem PreLt.step {D : List Tri} {t d : Tri} {k : Nat} (h : PreLt D t k) (hd : D[k]? = some d) (hl : ltT d t = true) : PreLt D t (k + 1) := fun i e hi he => by
  by_cases e2 : i = k
  · subst e2
    obtain rfl : d = e := Option.some.inj (hd.symm.trans he)
    exact hl
  · exact h i e (by omega) he
set_option maxRecDepth 100000 in
set_option maxHeartbeats 3200000 in
theorem rput_ok {w0 w : World} {k0 : SW} {A : Option Addr} {n cp : Nat} {D : List Tri} (x y z : ByteArray) (h : HB w0 w k0 encT (.slice A n cp) D) (hn : D.length = n) (hn6 : n ≤ 1000000) (h0 : w0.heap.size ≤ w.heap.size) :
    Calls Tryz.prog 50 #[.slice A n cp, .agg #[.string x, .string y, .string z]] w fun e w' => ∃ A' n' c', e = .returned (.slice A' n' c') ∧ Below w.heap.size w w' ∧ HB w0 w' k0 encT (.slice A' n' c') (putR ltT D ⟨x, y, z⟩) := by
  have HI := Lib.hid (show (Tryz.prog.info? 35).map (fun i => (i.zero, i.size, i.bytes)) = some (some (.agg #[.string ByteArray.empty, .string ByteArray.empty, .string ByteArray.empty]), 3, 48) by kernel_rfl)
  have HH := Lib.hid h
  have H := Lib.hid h.sl
  have HN := Lib.hid hn
  obtain ⟨w1, hw1⟩ : ∃ w1, w.alloc (.cells #[.string x, .string y, .string z] 35 (0, 0)) = w1 := ⟨_, rfl⟩
  have HB1 := Lib.hid (show Below w.heap.size w w1 by rw [← hw1]; exact (Below.refl _ w).alloc (Nat.le_refl _) _)
  obtain ⟨bx, hbx⟩ : ∃ b, w.heap.size = b := ⟨_, rfl⟩
  have HBX := Lib.hid (show bx < w1.heap.size ∧ w1.cell? ⟨bx, 0, none⟩ = some (.string x) ∧ w1.cell? ⟨bx, 1, none⟩ = some (.string y) ∧ w1.cell? ⟨bx, 2, none⟩ = some (.string z) by
    rw [← hw1, ← hbx]
    exact ⟨by rw [World.size_alloc]; omega, Ck.new_cell w _ _ 0, Ck.new_cell w _ _ 1, Ck.new_cell w _ _ 2⟩)
  have H0 := Lib.hid h0
  obtain ⟨hncp, hA0⟩ : n ≤ cp ∧ (A = none → cp = 0) := by
    obtain ⟨A2, c2, e, h1, h2, _⟩ := h.sl
    injection e with e1 e2 e3
    subst e1 e3
    exact ⟨by omega, h2⟩
  by_cases hD : D = []
  · have HDN := Lib.hid hD
    have e := h.nil hD
    injection e with e1 e2 e3
    subst e1 e2 e3
    have HEND := Lib.hid (show putR ltT D ⟨x, y, z⟩ = D.take 0 ++ ⟨x, y, z⟩ :: D.drop 0 by rw [hD]; rfl)
    clear h hn h0 hD hA0 hncp hn6 HH
    go_enter Tryz.func50, Tryz.ntmps50
    go_wp2
    try rw [hw1]
    try rw [hbx]
    have HW1 := Lib.hid (And.intro hw1 hbx)
    clear hw1 hbx
    refine wp_loop_rounds 1 ?_
    rw [rounds_succ]
    go_wp2
    go_quiet (fail)
    have BZ1 := Lib.hid (show Below w1.heap.size w1 (w1.drewN nq) from below_drewN (Below.refl _ _) _)
    generalize w1.drewN nq = wy at BZ1 ⊢
    go_wp2
    go_quiet (fail)
    have BZ := Lib.hid (show Below w1.heap.size w1 (wy.drewN nq) from below_drewN BZ1.out _)
    clear BZ1
    generalize wy.drewN nq = wz at BZ ⊢
    have BW := Lib.hid (HB1.out.trans (BZ.out.mono HB1.out.size))
    have p0 : wz.cell? ⟨bx, 0, none⟩ = some (.string x) := (BZ.out.cell (p := ⟨bx, 0, none⟩) HBX.out.1).trans HBX.out.2.1
    have p1 : wz.cell? ⟨bx, 1, none⟩ = some (.string y) := (BZ.out.cell (p := ⟨bx, 1, none⟩) HBX.out.1).trans HBX.out.2.2.1
    have p2 : wz.cell? ⟨bx, 2, none⟩ = some (.string z) := (BZ.out.cell (p := ⟨bx, 2, none⟩) HBX.out.1).trans HBX.out.2.2.2
    have P0 := Lib.hid (And.intro p0 (And.intro p1 p2))
    have HBXZ := Lib.hid (Nat.lt_of_lt_of_le HBX.out.1 BZ.out.size)
    have HZ := Lib.hid (H.out.below BW.out)
    clear p0 p1 p2
    have HT := Lib.hid (HZ.out.take rfl 0 (by have := HN.out; omega))
    go_wp2_with (at_builtin; (refine G.wp_appN rfl _ _ 29 35 rfl _ 3 48 Tryz.underlying29 HI.out rfl (by omega) (by omega) encT encT_len encT_one wz.heap.size (.slice none 0 0) (.slice none 0 0) [] (D.take 0) rfl rfl (G.OwnL.nil _ _ _ _ _) HT.out (Nat.le_refl _) (by simp only [List.length_take, List.length_nil]; omega) ?_))
    intro v9 w9 ho9 hg9 _
    have B9 := Lib.hid ((G.OwnL.nil wz wz.heap.size 35 3 encT).next (Below.refl _ _) (Nat.le_refl _) hg9)
    have O9 := Lib.hid ho9
    clear ho9 hg9 HT
    have r0 : w9.cell? ⟨bx, 0, none⟩ = some (.string x) := (B9.out.cell (p := ⟨bx, 0, none⟩) HBXZ.out).trans P0.out.1
    have r1 : w9.cell? ⟨bx, 1, none⟩ = some (.string y) := (B9.out.cell (p := ⟨bx, 1, none⟩) HBXZ.out).trans P0.out.2.1
    have r2 : w9.cell? ⟨bx, 2, none⟩ = some (.string z) := (B9.out.cell (p := ⟨bx, 2, none⟩) HBXZ.out).trans P0.out.2.2
    go_wp2_with (at_builtin; (refine G.wp_app1 rfl _ _ 29 35 rfl _ 3 48 Tryz.underlying29 HI.out rfl (by omega) (by omega) encT encT_len encT_one wz.heap.size v9 (D.take 0) ⟨x, y, z⟩ _ rfl rfl _ rfl rfl O9.out B9.out.size (by simp only [List.length_take]; omega) ?_))
    intro v10 w10 ho10 hg10 _
    have B10 := Lib.hid (O9.out.next B9.out B9.out.size hg10)
    have O10 := Lib.hid ho10
    clear ho10 hg10 r0 r1 r2
    have HD := Lib.hid (show G.SlL w10 encT (.slice none 0 0) (D.drop 0) by rw [HDN.out]; exact G.SlL.nil _ _)
    go_wp2_with (at_builtin; (refine G.wp_appN rfl _ _ 29 35 rfl _ 3 48 Tryz.underlying29 HI.out rfl (by omega) (by omega) encT encT_len encT_one wz.heap.size v10 _ (D.take 0 ++ [⟨x, y, z⟩]) (D.drop 0) rfl rfl O10.out HD.out B10.out.size (by have := HN.out; simp only [List.length_append, List.length_take, List.length_drop, List.length_singleton]; omega) ?_))
    intro v11 w11 ho11 hg11 _
    have B11 := Lib.hid (O10.out.next B10.out B10.out.size hg11)
    have O11 := Lib.hid ho11
    obtain ⟨A11, c11, rfl, _⟩ := id ho11.sl
    clear ho11 hg11
    go_wp2_with fail
    go_ret
    refine ⟨_, _, _, rfl, BW.out.trans (B11.out.mono BW.out.size), ?_⟩
    rw [HEND.out]
    have h5 := O11.out
    try rw [List.append_assoc] at h5
    exact HB.own h5 (Nat.le_trans H0.out BW.out.size) (fun e => by simp at e)
  · obtain ⟨sb, so, rfl⟩ : ∃ sb so, A = some ⟨sb, so, none⟩ := by
      obtain ⟨A2, c2, e, _, _, hr⟩ := h.sl
      obtain ⟨b, off, e2, _⟩ := hr hD
      injection e with e1 _ _
      exact ⟨b, off, e1.trans e2⟩
    clear h hn h0 hD hA0
    have hnc : (n : Int) ≤ (cp : Int) := by omega
    go_enter Tryz.func50, Tryz.ntmps50
    go_wp2
    try rw [hw1]
    try rw [hbx]
    have HW1 := Lib.hid (And.intro hw1 hbx)
    clear hw1 hbx
    go_loopg [5] (n + 1) (fun g s5 wr => ∃ k, k ≤ n ∧ n - k < g ∧ s5 = .int .i64 k ∧ Hid (Below w1.heap.size w1 wr ∧ PreLt D ⟨x, y, z⟩ k))
    case atStart => exact ⟨0, by omega, by omega, rfl, Lib.hid ⟨Below.refl _ _, fun i d hi => absurd hi (by omega)⟩⟩
    case round =>
      obtain ⟨k, hkn, hg, rfl, HR⟩ := hrel
      have BW := Lib.hid (HB1.out.trans (HR.out.1.mono HB1.out.size))
      by_cases hin : k < n
      · obtain ⟨d, hd⟩ : ∃ d, D[k]? = some d := ⟨D[k]'(by have := HN.out; omega), List.getElem?_eq_getElem _⟩
        obtain ⟨sb', so', e, hsb, hcell⟩ := cellsT_of H.out k d hd
        cases e
        have HDD := Lib.hid hd
        clear hd
        obtain ⟨a, b, c⟩ := d
        have S0 : wr.drew.cell? ⟨sb, so + k * 3, none⟩ = some (.string a) ∧ wr.drew.cell? ⟨sb, so + k * 3 + 1, none⟩ = some (.string b) ∧ wr.drew.cell? ⟨sb, so + k * 3 + 2, none⟩ = some (.string c) ∧ wr.drew.cell? ⟨bx, 0, none⟩ = some (.string x) ∧ wr.drew.cell? ⟨bx, 1, none⟩ = some (.string y) ∧ wr.drew.cell? ⟨bx, 2, none⟩ = some (.string z) :=
          ⟨(BW.out.cell (p := ⟨sb, so + k * 3, none⟩) hsb).trans (hcell 0 _ rfl), (BW.out.cell (p := ⟨sb, so + k * 3 + 1, none⟩) hsb).trans (hcell 1 _ rfl), (BW.out.cell (p := ⟨sb, so + k * 3 + 2, none⟩) hsb).trans (hcell 2 _ rfl), (HR.out.1.cell (p := ⟨bx, 0, none⟩) HBX.out.1).trans HBX.out.2.1, (HR.out.1.cell (p := ⟨bx, 1, none⟩) HBX.out.1).trans HBX.out.2.2.1, (HR.out.1.cell (p := ⟨bx, 2, none⟩) HBX.out.1).trans HBX.out.2.2.2⟩
        have hs1 : sb < wr.drew.heap.size := Nat.lt_of_lt_of_le hsb BW.out.size
        have hs2 : bx < wr.drew.heap.size := Nat.lt_of_lt_of_le HBX.out.1 HR.out.1.size
        have q0 : wr.cell? ⟨sb, so + k * 3, none⟩ = some (.string a) := S0.1
        have q1 : wr.cell? ⟨sb, so + k * 3 + 1, none⟩ = some (.string b) := S0.2.1
        have q2 : wr.cell? ⟨sb, so + k * 3 + 2, none⟩ = some (.string c) := S0.2.2.1
        have p0 : wr.cell? ⟨bx, 0, none⟩ = some (.string x) := S0.2.2.2.1
        have p1 : wr.cell? ⟨bx, 1, none⟩ = some (.string y) := S0.2.2.2.2.1
        have p2 : wr.cell? ⟨bx, 2, none⟩ = some (.string z) := S0.2.2.2.2.2
        clear hcell
        have n1 : (k : Int) < (n : Int) := by omega
        have n0 : (0 : Int) ≤ (k : Int) := by omega
        obtain ⟨r, hr⟩ : ∃ r, ltT ⟨a, b, c⟩ ⟨x, y, z⟩ = r := ⟨_, rfl⟩
        have HLT := Lib.hid hr
        clear hr
        cases r with
        | true =>
          go_wp2_with fail
          go_region_held3 (fun W => W.cell? ⟨sb, so + k * 3, none⟩ = some (.string a) ∧ W.cell? ⟨sb, so + k * 3 + 1, none⟩ = some (.string b) ∧ W.cell? ⟨sb, so + k * 3 + 2, none⟩ = some (.string c) ∧ W.cell? ⟨bx, 0, none⟩ = some (.string x) ∧ W.cell? ⟨bx, 1, none⟩ = some (.string y) ∧ W.cell? ⟨bx, 2, none⟩ = some (.string z)) (first | exact S0 | exact six_nx hs1 hs2 S0 B8.out) ((go_at_call 15; refine (less_tri _ _ _ _ _ _ _).mono ?_; rw [HLT.out]; rintro e w8 ⟨rfl, hb8⟩; have B8 := Lib.hid hb8; clear hb8))
          go_wp2
          go_roundg (n - k)
          case measure => omega
          case rel => exact ⟨k + 1, by omega, by omega, by go_num, Lib.hid ⟨HR.out.1.trans (((Below.drew (Below.refl _ _)).trans B8.out).mono HR.out.1.size), HR.out.2.step HDD.out HLT.out⟩⟩
        | false =>
          have HPA := Lib.hid (putR_at ltT (l := D) (t := ⟨x, y, z⟩) (k := k) HR.out.2 (Or.inr ⟨_, HDD.out, HLT.out⟩))
          go_wp2_with fail
          go_region_held3 (fun W => W.cell? ⟨sb, so + k * 3, none⟩ = some (.string a) ∧ W.cell? ⟨sb, so + k * 3 + 1, none⟩ = some (.string b) ∧ W.cell? ⟨sb, so + k * 3 + 2, none⟩ = some (.string c) ∧ W.cell? ⟨bx, 0, none⟩ = some (.string x) ∧ W.cell? ⟨bx, 1, none⟩ = some (.string y) ∧ W.cell? ⟨bx, 2, none⟩ = some (.string z)) (first | exact S0 | exact six_nx hs1 hs2 S0 B8.out) ((go_at_call 15; refine (less_tri _ _ _ _ _ _ _).mono ?_; rw [HLT.out]; rintro e w8 ⟨rfl, hb8⟩; have B8 := Lib.hid hb8; clear hb8))
          have HS8 := Lib.hid (six_nx hs1 hs2 S0 B8.out)
          have BZ8 := Lib.hid (HR.out.1.trans (((Below.drew (Below.refl _ _)).trans B8.out).mono HR.out.1.size))
          clear q0 q1 q2 p0 p1 p2 S0 hs1 hs2 BW HR
          have q0 := HS8.out.1
          have q1 := HS8.out.2.1
          have q2 := HS8.out.2.2.1
          have p0 := HS8.out.2.2.2.1
          have p1 := HS8.out.2.2.2.2.1
          have p2 := HS8.out.2.2.2.2.2
          have qE := fun w => eql_tri w a b c x y z
          obtain ⟨e2, he2⟩ : ∃ e2, decide ((⟨a, b, c⟩ : Tri) = ⟨x, y, z⟩) = e2 := ⟨_, rfl⟩
          simp only [he2] at qE
          have HE2 := Lib.hid he2
          clear he2
          cases e2 with
          | true =>
            have HEND := Lib.hid (show putR ltT D ⟨x, y, z⟩ = D by rw [HPA.out, HDD.out, of_decide_eq_true HE2.out, if_pos rfl])
            go_wp2
            go_quiet (fail)
            go_wp2
            go_ret
            refine ⟨_, _, _, rfl, HB1.out.trans ((below_drewN BZ8.out _).mono HB1.out.size), ?_⟩
            rw [HEND.out]
            exact HH.out.below (HB1.out.trans ((below_drewN BZ8.out _).mono HB1.out.size))
          | false =>
            have HEND := Lib.hid (show putR ltT D ⟨x, y, z⟩ = D.take k ++ ⟨x, y, z⟩ :: D.drop k by rw [HPA.out, HDD.out, if_neg (fun e => of_decide_eq_false HE2.out (Option.some.inj e))])
            go_wp2
            go_quiet (fail)
            have BZ := Lib.hid (show Below w1.heap.size w1 (w8.drewN nq) from below_drewN BZ8.out _)
            clear q0 q1 q2 p0 p1 p2 BZ8 HS8
            generalize w8.drewN nq = wz at BZ ⊢
            have BW := Lib.hid (HB1.out.trans (BZ.out.mono HB1.out.size))
            have p0 : wz.cell? ⟨bx, 0, none⟩ = some (.string x) := (BZ.out.cell (p := ⟨bx, 0, none⟩) HBX.out.1).trans HBX.out.2.1
            have p1 : wz.cell? ⟨bx, 1, none⟩ = some (.string y) := (BZ.out.cell (p := ⟨bx, 1, none⟩) HBX.out.1).trans HBX.out.2.2.1
            have p2 : wz.cell? ⟨bx, 2, none⟩ = some (.string z) := (BZ.out.cell (p := ⟨bx, 2, none⟩) HBX.out.1).trans HBX.out.2.2.2
            have P0 := Lib.hid (And.intro p0 (And.intro p1 p2))
            have HBXZ := Lib.hid (Nat.lt_of_lt_of_le HBX.out.1 BZ.out.size)
            have HZ := Lib.hid (H.out.below BW.out)
            clear p0 p1 p2
            have hkc : (k : Int) ≤ (cp : Int) := by omega
            have hk0 : (0 : Int) ≤ (k : Int) := by omega
            have hkn' : (k : Int) ≤ (n : Int) := by omega
            have HT := Lib.hid (HZ.out.take rfl k (by have := HN.out; omega))
            go_wp2_with (at_builtin; (refine G.wp_appN rfl _ _ 29 35 rfl _ 3 48 Tryz.underlying29 HI.out rfl (by omega) (by omega) encT encT_len encT_one wz.heap.size (.slice none 0 0) (.slice (some ⟨sb, so, none⟩) k cp) [] (D.take k) rfl rfl (G.OwnL.nil _ _ _ _ _) HT.out (Nat.le_refl _) (by simp only [List.length_take, List.length_nil]; omega) ?_))
            intro v9 w9 ho9 hg9 _
            have B9 := Lib.hid ((G.OwnL.nil wz wz.heap.size 35 3 encT).next (Below.refl _ _) (Nat.le_refl _) hg9)
            have O9 := Lib.hid ho9
            clear ho9 hg9 HT
            have r0 : w9.cell? ⟨bx, 0, none⟩ = some (.string x) := (B9.out.cell (p := ⟨bx, 0, none⟩) HBXZ.out).trans P0.out.1
            have r1 : w9.cell? ⟨bx, 1, none⟩ = some (.string y) := (B9.out.cell (p := ⟨bx, 1, none⟩) HBXZ.out).trans P0.out.2.1
            have r2 : w9.cell? ⟨bx, 2, none⟩ = some (.string z) := (B9.out.cell (p := ⟨bx, 2, none⟩) HBXZ.out).trans P0.out.2.2
            go_wp2_with (at_builtin; (refine G.wp_app1 rfl _ _ 29 35 rfl _ 3 48 Tryz.underlying29 HI.out rfl (by omega) (by omega) encT encT_len encT_one wz.heap.size v9 (D.take k) ⟨x, y, z⟩ _ rfl rfl _ rfl rfl O9.out B9.out.size (by simp only [List.length_take]; omega) ?_))
            intro v10 w10 ho10 hg10 _
            have B10 := Lib.hid (O9.out.next B9.out B9.out.size hg10)
            have O10 := Lib.hid ho10
            clear ho10 hg10 r0 r1 r2
            by_cases hck : cp = k
            · obtain rfl : n = k := by omega
              subst hck
              have HD := Lib.hid (show G.SlL w10 encT (.slice (some ⟨sb, so, none⟩) 0 0) (D.drop cp) from by have := ((HZ.out.below B10.out).drop (k := 3) encT_len cp (by have := HN.out; omega) sb so (fun h => absurd rfl h)); rw [Nat.sub_self] at this; exact this)
              go_wp2_with (at_builtin; (refine G.wp_appN rfl _ _ 29 35 rfl _ 3 48 Tryz.underlying29 HI.out rfl (by omega) (by omega) encT encT_len encT_one wz.heap.size v10 _ (D.take cp ++ [⟨x, y, z⟩]) (D.drop cp) rfl rfl O10.out HD.out B10.out.size (by have := HN.out; simp only [List.length_append, List.length_take, List.length_drop, List.length_singleton]; omega) ?_))
              intro v11 w11 ho11 hg11 _
              have B11 := Lib.hid (O10.out.next B10.out B10.out.size hg11)
              have O11 := Lib.hid ho11
              obtain ⟨A11, c11, rfl, _⟩ := id ho11.sl
              clear ho11 hg11
              go_wp2_with fail
              go_ret
              refine ⟨_, _, _, rfl, BW.out.trans (B11.out.mono BW.out.size), ?_⟩
              rw [HEND.out]
              have h5 := O11.out
              try rw [List.append_assoc] at h5
              exact HB.own h5 (Nat.le_trans H0.out BW.out.size) (fun e => by simp at e)
            · have hck2 : ¬ (cp : Int) = (k : Int) := by omega
              have HD := Lib.hid (show G.SlL w10 encT (.slice (some ⟨sb, so + k * 3, none⟩) (n - k) (cp - k)) (D.drop k) from (HZ.out.below B10.out).drop (k := 3) encT_len k (by have := HN.out; omega) sb (so + k * 3) (fun _ => ⟨rfl, rfl⟩))
              go_wp2_with (at_builtin; (refine G.wp_appN rfl _ _ 29 35 rfl _ 3 48 Tryz.underlying29 HI.out rfl (by omega) (by omega) encT encT_len encT_one wz.heap.size v10 _ (D.take k ++ [⟨x, y, z⟩]) (D.drop k) rfl rfl O10.out HD.out B10.out.size (by have := HN.out; simp only [List.length_append, List.length_take, List.length_drop, List.length_singleton]; omega) ?_))
              intro v11 w11 ho11 hg11 _
              have B11 := Lib.hid (O10.out.next B10.out B10.out.size hg11)
              have O11 := Lib.hid ho11
              obtain ⟨A11, c11, rfl, _⟩ := id ho11.sl
              clear ho11 hg11
              go_wp2_with fail
              go_ret
              refine ⟨_, _, _, rfl, BW.out.trans (B11.out.mono BW.out.size), ?_⟩
              rw [HEND.out]
              have h5 := O11.out
              try rw [List.append_assoc] at h5
              exact HB.own h5 (Nat.le_trans H0.out BW.out.size) (fun e => by simp at e)
      · obtain rfl : k = n := by omega
        have n1 : ¬ (k : Int) < (k : Int) := by omega
        have HEND := Lib.hid (show putR ltT D ⟨x, y, z⟩ = D.take k ++ ⟨x, y, z⟩ :: D.drop k by
          rw [putR_at ltT (l := D) (t := ⟨x, y, z⟩) (k := k) HR.out.2 (Or.inl HN.out.symm), if_neg (fun e => by
            have := (List.getElem?_eq_some_iff.1 e).1
            have := HN.out
            omega)])
        go_wp2
        go_quiet (fail)
        have BZ1 := Lib.hid (show Below w1.heap.size w1 (wr.drewN nq) from below_drewN HR.out.1 _)
        clear BW HR
        generalize wr.drewN nq = wy at BZ1 ⊢
        go_wp2
        go_quiet (fail)
        have BZ := Lib.hid (show Below w1.heap.size w1 (wy.drewN nq) from below_drewN BZ1.out _)
        clear BZ1
        generalize wy.drewN nq = wz at BZ ⊢
        have BW := Lib.hid (HB1.out.trans (BZ.out.mono HB1.out.size))
        have p0 : wz.cell? ⟨bx, 0, none⟩ = some (.string x) := (BZ.out.cell (p := ⟨bx, 0, none⟩) HBX.out.1).trans HBX.out.2.1
        have p1 : wz.cell? ⟨bx, 1, none⟩ = some (.string y) := (BZ.out.cell (p := ⟨bx, 1, none⟩) HBX.out.1).trans HBX.out.2.2.1
        have p2 : wz.cell? ⟨bx, 2, none⟩ = some (.string z) := (BZ.out.cell (p := ⟨bx, 2, none⟩) HBX.out.1).trans HBX.out.2.2.2
        have P0 := Lib.hid (And.intro p0 (And.intro p1 p2))
        have HBXZ := Lib.hid (Nat.lt_of_lt_of_le HBX.out.1 BZ.out.size)
        have HZ := Lib.hid (H.out.below BW.out)
        clear p0 p1 p2
        have hkc : (k : Int) ≤ (cp : Int) := by omega
        have hk0 : (0 : Int) ≤ (k : Int) := by omega
        have hkn' : (k : Int) ≤ (k : Int) := Int.le_refl _
        have HT := Lib.hid (HZ.out.take rfl k (by have := HN.out; omega))
        go_wp2_with (at_builtin; (refine G.wp_appN rfl _ _ 29 35 rfl _ 3 48 Tryz.underlying29 HI.out rfl (by omega) (by omega) encT encT_len encT_one wz.heap.size (.slice none 0 0) (.slice (some ⟨sb, so, none⟩) k cp) [] (D.take k) rfl rfl (G.OwnL.nil _ _ _ _ _) HT.out (Nat.le_refl _) (by simp only [List.length_take, List.length_nil]; omega) ?_))
        intro v9 w9 ho9 hg9 _
        have B9 := Lib.hid ((G.OwnL.nil wz wz.heap.size 35 3 encT).next (Below.refl _ _) (Nat.le_refl _) hg9)
        have O9 := Lib.hid ho9
        clear ho9 hg9 HT
        have r0 : w9.cell? ⟨bx, 0, none⟩ = some (.string x) := (B9.out.cell (p := ⟨bx, 0, none⟩) HBXZ.out).trans P0.out.1
        have r1 : w9.cell? ⟨bx, 1, none⟩ = some (.string y) := (B9.out.cell (p := ⟨bx, 1, none⟩) HBXZ.out).trans P0.out.2.1
        have r2 : w9.cell? ⟨bx, 2, none⟩ = some (.string z) := (B9.out.cell (p := ⟨bx, 2, none⟩) HBXZ.out).trans P0.out.2.2
        go_wp2_with (at_builtin; (refine G.wp_app1 rfl _ _ 29 35 rfl _ 3 48 Tryz.underlying29 HI.out rfl (by omega) (by omega) encT encT_len encT_one wz.heap.size v9 (D.take k) ⟨x, y, z⟩ _ rfl rfl _ rfl rfl O9.out B9.out.size (by simp only [List.length_take]; omega) ?_))
        intro v10 w10 ho10 hg10 _
        have B10 := Lib.hid (O9.out.next B9.out B9.out.size hg10)
        have O10 := Lib.hid ho10
        clear ho10 hg10 r0 r1 r2
        by_cases hck : cp = k
        · skip
          subst hck
          have HD := Lib.hid (show G.SlL w10 encT (.slice (some ⟨sb, so, none⟩) 0 0) (D.drop cp) from by have := ((HZ.out.below B10.out).drop (k := 3) encT_len cp (by have := HN.out; omega) sb so (fun h => absurd rfl h)); rw [Nat.sub_self] at this; exact this)
          go_wp2_with (at_builtin; (refine G.wp_appN rfl _ _ 29 35 rfl _ 3 48 Tryz.underlying29 HI.out rfl (by omega) (by omega) encT encT_len encT_one wz.heap.size v10 _ (D.take cp ++ [⟨x, y, z⟩]) (D.drop cp) rfl rfl O10.out HD.out B10.out.size (by have := HN.out; simp only [List.length_append, List.length_take, List.length_drop, List.length_singleton]; omega) ?_))
          intro v11 w11 ho11 hg11 _
          have B11 := Lib.hid (O10.out.next B10.out B10.out.size hg11)
          have O11 := Lib.hid ho11
          obtain ⟨A11, c11, rfl, _⟩ := id ho11.sl
          clear ho11 hg11
          go_wp2_with fail
          go_ret
          refine ⟨_, _, _, rfl, BW.out.trans (B11.out.mono BW.out.size), ?_⟩
          rw [HEND.out]
          have h5 := O11.out
          try rw [List.append_assoc] at h5
          exact HB.own h5 (Nat.le_trans H0.out BW.out.size) (fun e => by simp at e)
        · have hck2 : ¬ (cp : Int) = (k : Int) := by omega
          have HD := Lib.hid (show G.SlL w10 encT (.slice (some ⟨sb, so + k * 3, none⟩) 0 (cp - k)) (D.drop k) from by have := (HZ.out.below B10.out).drop (k := 3) encT_len k (by have := HN.out; omega) sb (so + k * 3) (fun _ => ⟨rfl, rfl⟩); rw [Nat.sub_self] at this; exact this)
          go_wp2_with (at_builtin; (refine G.wp_appN rfl _ _ 29 35 rfl _ 3 48 Tryz.underlying29 HI.out rfl (by omega) (by omega) encT encT_len encT_one wz.heap.size v10 _ (D.take k ++ [⟨x, y, z⟩]) (D.drop k) rfl rfl O10.out HD.out B10.out.size (by have := HN.out; simp only [List.length_append, List.length_take, List.length_drop, List.length_singleton]; omega) ?_))
          intro v11 w11 ho11 hg11 _
          have B11 := Lib.hid (O10.out.next B10.out B10.out.size hg11)
          have O11 := Lib.hid ho11
          obtain ⟨A11, c11, rfl, _⟩ := id ho11.sl
          clear ho11 hg11
          go_wp2_with fail
          go_ret
          refine ⟨_, _, _, rfl, BW.out.trans (B11.out.mono BW.out.size), ?_⟩
          rw [HEND.out]
          have h5 := O11.out
          try rw [List.append_assoc] at h5
          exact HB.own h5 (Nat.le_trans H0.out BW.out.size) (fun e => by simp at e)
end Go.Proofs.YtcnffgcegimelaaGreat.So
