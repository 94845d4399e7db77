/-
  Walks of an index: Open below a number. Conditions: the blocks lie as told; the numbers of the level do not fall.
-/
import Derived.Test.YthapkpgkcckapaaPw7
namespace Go.Proofs.Ythapkpgkcckapaa.Pw
open Go.RowKit Go.Proofs.YthapkpgkcckapaaW.PrintWords Go.Proofs.Ythapkpgkcckapaa.Pm

theorem Drew.cell {w w' : World} (h : Drew w w') (b i : Nat) : w'.cell? ⟨b, i, none⟩ = w.cell? ⟨b, i, none⟩ := by
  obtain ⟨n, rfl⟩ := h
  rfl
theorem Drew.frozen {w w' : World} (h : Drew w w') (b i : Nat) : w'.frozen? ⟨b, i, none⟩ = w.frozen? ⟨b, i, none⟩ := by
  obtain ⟨n, rfl⟩ := h
  rfl
theorem frozen_new1 (W : World) (cs : Array Value) (t : TypeId) (i : Nat) : (W.alloc (.cells cs t)).frozen? ⟨W.heap.size, i, none⟩ = false := by
  have h : (W.alloc (.cells cs t)).heap[W.heap.size]? = some (.cells cs t) := by
    show (W.heap.push _)[W.heap.size]? = _
    simp
  unfold World.frozen?
  simp only [h]
  simp

theorem below_then {B : Nat} {w W W' : World} (h : Below B w W) (hd : Drew W W') : Below B w W' := by
  obtain ⟨n, rfl⟩ := hd
  exact ⟨h.os, h.tape, h.output, h.size, h.block⟩

/-- What stands behind the search: the copy of the span, and the walk's own block. -/
theorem behind {w w1 w2 w4 : World} {g : Nat} (hg : g < w.heap.size) (hd1 : Drew w w1) (a c : Value) (hd2 : Drew ((w1.alloc (.cells #[a, c] 62)).drewN 1) w2) (o : Obj) (hb : Below (w2.heap.size + 1) (w2.alloc o) w4) :
    w4.cell? ⟨w1.heap.size, 0, none⟩ = some a ∧ w4.cell? ⟨w1.heap.size, 1, none⟩ = some c ∧ (∀ i, w4.frozen? ⟨w1.heap.size, i, none⟩ = false) ∧ (∀ i, w4.cell? ⟨g, i, none⟩ = w.cell? ⟨g, i, none⟩) ∧ (∀ i, w4.frozen? ⟨g, i, none⟩ = w.frozen? ⟨g, i, none⟩) ∧
      w4.heap[g]? = w.heap[g]? ∧ w.grownBy w4 (some g) ∧ g < w1.heap.size ∧ w1.heap.size < w4.heap.size := by
  have hs1 := hd1.size
  have hs2 : w2.heap.size = w1.heap.size + 1 := hd2.size.trans (size_alloc w1 (.cells #[a, c] 62))
  have hs3 := size_alloc w2 o
  have hs4 := hb.size
  have hB : Below (w2.heap.size) w2 w4 := ((below_a w2 o).trans (hb.mono (by omega)))
  have hB1 : Below w.heap.size w w2 := below_then (below_drewN' (hd1.below_alloc (.cells #[a, c] 62)) 1) hd2
  have hBw : Below w.heap.size w w4 := hB1.trans (hB.mono (by omega))
  have hw2 : ∀ i, w2.cell? ⟨w1.heap.size, i, none⟩ = #[a, c][i]? := fun i => (hd2.cell _ _).trans (cell_new1 w1 #[a, c] 62 i)
  have hf2 : ∀ i, w2.frozen? ⟨w1.heap.size, i, none⟩ = false := fun i => (hd2.frozen _ _).trans (frozen_new1 w1 #[a, c] 62 i)
  have hlt : w1.heap.size < w2.heap.size := by omega
  refine ⟨?_, ?_, fun i => ?_, fun i => ?_, fun i => ?_, ?_, ?_, by omega, by omega⟩
  · exact (hB.cell (p := ⟨w1.heap.size, 0, none⟩) hlt).trans (hw2 0)
  · exact (hB.cell (p := ⟨w1.heap.size, 1, none⟩) hlt).trans (hw2 1)
  · exact (hB.frozen (p := ⟨w1.heap.size, i, none⟩) hlt).trans (hf2 i)
  · exact hBw.cell (p := ⟨g, i, none⟩) hg
  · exact hBw.frozen (p := ⟨g, i, none⟩) hg
  · exact hBw.block g hg
  · exact ⟨hBw.os, hBw.tape, hBw.output, hBw.size, fun k hk _ => hBw.block k hk⟩

theorem grown_new_set {w w' : World} {row : Option Nat} (h : w.grownBy w' row) (b i : Nat) (hb : w.heap.size ≤ b) (u : Value) : w.grownBy (w'.setCell ⟨b, i, none⟩ u) row :=
  ⟨h.os, h.tape, h.output, by rw [size_set]; exact h.size, fun k hk hne => (Below.heap_setCell w' ⟨b, i, none⟩ u k (by show k ≠ b; omega)).trans (h.block k hk hne)⟩

set_option maxHeartbeats 4000000 in
theorem open_at (w : World) (g X : Nat) (s : St) (o : Ord) (rows : List R3) (b off c : Nat) (h : w.heap[g]? = some (wkS X s)) (hX : Idx w X o rows b off c) (hd : s.d = 1 ∨ s.d = 2) (hft : s.f s.d < s.t s.d) (ht : s.t s.d ≤ rows.length)
    (hg : g < w.heap.size) (hXs : X < w.heap.size) (hbs : b < w.heap.size)
    (r : Nat) (hr : s.f s.d ≤ r ∧ r ≤ s.t s.d) (h1 : ∀ k, s.f s.d ≤ k → k < r → num rows o s.d k ≤ num rows o s.d (s.f s.d)) (h2 : ∀ k, r ≤ k → k < s.t s.d → num rows o s.d (s.f s.d) < num rows o s.d k) :
    Calls Try.prog 15 #[.pointer (some ⟨g, 0, none⟩)] w fun e w' => e = .returned (.int .i64 0) ∧ w'.heap[g]? = some (wkS X ⟨s.d + 1, upd s.f (s.d + 1) (s.f s.d), upd s.t (s.d + 1) r⟩) ∧ w.grownBy w' (some g) := by
  obtain ⟨z0, z1, z2, z3, z4, z5, z6, z7, z8, z9⟩ := wk_cells h
  obtain ⟨A, hA, hblk⟩ := hX.blk
  clear hA
  obtain ⟨y0, y1, y2, y3, y4⟩ := idx_cells hblk
  have fz : ∀ i, w.frozen? ⟨g, i, none⟩ = false := fun i => by simp [World.frozen?, h, wkS, wkO]
  have hl : ((rows.length : Int) == 0) = false := beq_eq_false_iff_ne.2 (by omega)
  have e41 : ∀ args w, (callFunc 41 args).run Try.prog w = .ok (.enter 41 args) w := enters_of Try.func41 (by kernel_rfl) rfl
  have CS : ∀ W, (W.heap[g]? = some (wkS X s)) → Calls Try.prog 38 #[.pointer (some ⟨g, 0, none⟩)] W fun e w' => e = .returned (.bool true) ∧ Drew W w' := fun W hW => stands_yes W g X s hW (by omega) hft
  have CO : ∀ W, Below w.heap.size w W → Calls Try.prog 39 #[.pointer (some ⟨g, 0, none⟩), .int .i64 (s.f s.d)] W fun e w' => e = .returned (.int .i64 (num rows o s.d (s.f s.d))) ∧ Drew W w' :=
    fun W hW => of_st W g X s o rows b off c ((hW.block g hg).trans h) (hX.below hW hXs hbs) (by omega) _ (by omega)
  have CF : ∀ W1, Below w.heap.size w W1 → Calls Try.prog 40 #[.pointer (some ⟨g, 0, none⟩), .func (.func 41) #[] #[.pointer (some ⟨W1.heap.size, 0, none⟩)]] (W1.alloc (.cells #[.int .i64 (num rows o s.d (s.f s.d))] 3))
      fun e w' => e = .returned (.int .i64 r) ∧ Below (W1.heap.size + 1) (W1.alloc (.cells #[.int .i64 (num rows o s.d (s.f s.d))] 3)) w' := by
    intro W1 hW1
    have hsz := size_alloc W1 (.cells #[.int .i64 (num rows o s.d (s.f s.d))] 3)
    have hws := hW1.size
    have hb : Below w.heap.size w (W1.alloc (.cells #[.int .i64 (num rows o s.d (s.f s.d))] 3)) := hW1.alloc hws _
    have hc : (W1.alloc (.cells #[.int .i64 (num rows o s.d (s.f s.d))] 3)).cell? ⟨W1.heap.size, 0, none⟩ = some (.int .i64 (num rows o s.d (s.f s.d))) := cell_new1 W1 _ _ _
    rw [← hsz]
    refine first_at _ g X s o rows b off c ((hb.block g hg).trans h) (hX.below hb hXs hbs) (by omega) (Nat.le_of_lt hft) ht (by omega) (by omega) (by omega) 41 _ e41 (fun x => decide (num rows o s.d (s.f s.d) < x)) (fun W x hW => ?_) r hr (fun k hk hkr => decide_eq_false (by have := h1 k hk hkr; omega)) (fun k hk hkr => decide_eq_true (h2 k hk hkr))
    exact gt41 W W1.heap.size x _ ((hW.cell (p := ⟨W1.heap.size, 0, none⟩) (by show W1.heap.size < _; omega)).trans hc)
  have H := Lib.hid h
  have HS := Lib.hid CS
  have HO := Lib.hid CO
  have HF := Lib.hid CF
  clear h hX CS CO CF h1 h2 hr hft ht
  generalize hv : num rows o s.d (s.f s.d) = v at HO HF
  clear hv
  obtain ⟨d, f, t⟩ := s
  simp only at hd z1 z2 z3 z4 z5 z6 z7 z8 z9 H HS HO
  obtain rfl | rfl := hd
  all_goals
    go_enter Try.func15, Try.ntmps15
    go_wp2_with (first | (go_at_call 37; refine (given_at _ g _ z0).mono ?_; rintro e w' ⟨rfl, rfl⟩) | (go_at_call 38; refine (HS.out _ H.out).mono ?_; rintro e w1 ⟨rfl, hd1⟩; have q1 := hd1.cell g; have q2 := hd1.cell X; have q3 := hd1.frozen g; have hg1 : g < w1.heap.size := (by rw [hd1.size]; exact hg); have q4 := cell_alloc1 w1 g hg1; have q5 := frozen_alloc1 w1 g hg1))
    go_region
    have hb1 : ∀ o', Below w.heap.size w ((w1.alloc o').drewN 1) := fun o' => below_drewN' (hd1.below_alloc o') 1
    go_wp2_with (go_at_call 39; refine (HO.out _ (hb1 _)).mono ?_; rintro e w2 ⟨rfl, hd2⟩)
    have hb2 := below_then (hb1 _) hd2
    go_wp2_with (go_at_call 40; refine (HF.out _ hb2).mono ?_; rintro e w4 ⟨rfl, hb4⟩; obtain ⟨s0, s1, sf, q6, q7, hgb, hgr, hne, hlt4⟩ := behind hg hd1 _ _ hd2 _ hb4; have HGB := Lib.hid hgb; clear hgb; have hn1 : g ≠ w1.heap.size := (Nat.ne_of_lt hne); have hn2 : w1.heap.size ≠ g := hn1.symm)
    go_region
    go_wp2
    go_ret
    refine ⟨rfl, ?_, ?_⟩
    · refine (heap_set _ g _ _ _ _ (heap_set _ g _ _ _ _ (heap_set _ g 1 _ _ _ ((Below.heap_setCell w4 ⟨w1.heap.size, 1, none⟩ _ g hn1).trans (HGB.out.trans H.out))))).trans ?_
      rfl
    · refine grown_d ?_
      refine grown_tr ?_ (grown_set _ _ _ _)
      refine grown_tr ?_ (grown_set _ _ _ _)
      refine grown_tr ?_ (grown_set _ _ _ _)
      exact grown_new_set hgr _ _ (Nat.le_of_eq hd1.size.symm) _
end Go.Proofs.Ythapkpgkcckapaa.Pw
