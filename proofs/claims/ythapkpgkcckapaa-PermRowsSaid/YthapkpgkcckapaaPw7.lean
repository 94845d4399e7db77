/-
  Walks of an index: Open. Conditions: the blocks lie as told; the numbers of the level do not fall.
-/
import Derived.Test.YthapkpgkcckapaaPw6
namespace Go.Proofs.Ythapkpgkcckapaa.Pw
open Go.RowKit Go.Proofs.YthapkpgkcckapaaW.PrintWords Go.Proofs.Ythapkpgkcckapaa.Pm

theorem open_none (w : World) : Calls Try.prog 15 #[.pointer none] w fun e w' => e = .returned (.int .i64 1) ∧ w = w' := by
  go_enter Try.func15, Try.ntmps15
  go_wp2_with (go_at_call 37; refine (given_nil _).mono ?_; rintro e w' ⟨rfl, rfl⟩)
  go_ret
  exact ⟨rfl, rfl⟩
theorem open_zero (w : World) (g : Nat) (h : w.cell? ⟨g, 0, none⟩ = some (.pointer none)) : Calls Try.prog 15 #[.pointer (some ⟨g, 0, none⟩)] w fun e w' => e = .returned (.int .i64 1) ∧ w = w' := by
  go_enter Try.func15, Try.ntmps15
  go_wp2_with (go_at_call 37; refine (given_at _ g none h).mono ?_; rintro e w' ⟨rfl, rfl⟩)
  go_ret
  exact ⟨rfl, rfl⟩

/-- At the bottom, or behind the last number of a level. -/
theorem open_no (w : World) (g X : Nat) (s : St) (h : w.heap[g]? = some (wkS X s)) (hd : s.d ≤ 3) (hf : s.d = 3 ∨ (0 < s.d ∧ s.t s.d ≤ s.f s.d)) :
    Calls Try.prog 15 #[.pointer (some ⟨g, 0, none⟩)] w fun e w' => e = .returned (.int .i64 3) ∧ Drew w w' := by
  obtain ⟨z0, z1, _⟩ := wk_cells h
  have C : ∀ W, (W.heap[g]? = some (wkS X s)) → (0 < s.d ∧ s.t s.d ≤ s.f s.d) → Calls Try.prog 38 #[.pointer (some ⟨g, 0, none⟩)] W fun e w' => e = .returned (.bool false) ∧ Drew W w' := fun W hW hc => stands_no W g X s hW hd (.inr hc.2)
  have H := Lib.hid h
  have HC := Lib.hid C
  have dr : Drew w w := ⟨0, rfl⟩
  clear h C
  by_cases h3 : s.d = 3
  · have z1' : w.cell? ⟨g, 1, none⟩ = some (.int .i64 3) := by rw [z1, h3]; rfl
    clear z1 hf hd h3
    go_enter Try.func15, Try.ntmps15
    go_wp2_with (go_at_call 37; refine (given_at _ g _ z0).mono ?_; rintro e w' ⟨rfl, rfl⟩)
    go_ret
    exact ⟨rfl, dr⟩
  · have hc : 0 < s.d ∧ s.t s.d ≤ s.f s.d := by omega
    have HD := Lib.hid hc
    obtain ⟨d, f, t⟩ := s
    simp only at hd h3 hc z1
    have hlt : d = 1 ∨ d = 2 := by omega
    clear hf hc hd h3
    obtain rfl | rfl := hlt
    all_goals
      go_enter Try.func15, Try.ntmps15
      go_wp2_with (first | (go_at_call 37; refine (given_at _ g _ z0).mono ?_; rintro e w' ⟨rfl, rfl⟩) | (go_at_call 38; refine (HC.out _ H.out HD.out).mono ?_; rintro e w1 ⟨rfl, hd1⟩))
      go_ret
      exact ⟨rfl, hd1⟩

/-- An index of no row. -/
theorem open_empty (w : World) (g X : Nat) (s : St) (o : Ord) (b off c : Nat) (h : w.heap[g]? = some (wkS X s)) (hX : Idx w X o [] b off c) (hd : s.d = 0) :
    Calls Try.prog 15 #[.pointer (some ⟨g, 0, none⟩)] w fun e w' => e = .returned (.int .i64 3) ∧ w = w' := by
  obtain ⟨z0, z1, _⟩ := wk_cells h
  obtain ⟨A, hA, hblk⟩ := hX.blk
  obtain ⟨y0, y1, y2, y3, y4⟩ := idx_cells hblk
  have z1' : w.cell? ⟨g, 1, none⟩ = some (.int .i64 0) := by rw [z1, hd]; rfl
  have y3' : w.cell? ⟨X, 3, none⟩ = some (.slice A 0 c) := y3
  clear h hX z1 hd y3 hA hblk
  go_enter Try.func15, Try.ntmps15
  go_wp2_with (go_at_call 37; refine (given_at _ g _ z0).mono ?_; rintro e w' ⟨rfl, rfl⟩)
  go_ret
  exact ⟨rfl, rfl⟩

theorem grown_tr {a b c : World} {row : Option Nat} (h : a.grownBy b row) (k : b.grownBy c row) : a.grownBy c row :=
  ⟨k.os.trans h.os, k.tape.trans h.tape, k.output.trans h.output, Nat.le_trans h.size k.size, fun i hi hne => (k.block i (Nat.lt_of_lt_of_le hi h.size) hne).trans (h.block i hi hne)⟩
theorem grown_al (w : World) (o : Obj) (row : Option Nat) : w.grownBy (w.alloc o) row := World.grownBy_alloc w o row
theorem grown_d {w w' : World} {row : Option Nat} (h : w.grownBy w' row) : w.grownBy w'.drew row := ⟨h.os, h.tape, h.output, h.size, h.block⟩
theorem heap_al (w : World) (g : Nat) (hg : g < w.heap.size) (o : Obj) : (w.alloc o).heap[g]? = w.heap[g]? := Below.heap_alloc w o g hg
theorem size_set (w : World) (a : Addr) (u : Value) : (w.setCell a u).heap.size = w.heap.size := by simp [World.setCell]

theorem frozen_alloc1 (w : World) (b : Nat) (hb : b < w.heap.size) (i : Nat) (o1 : Obj) : (w.alloc o1).frozen? ⟨b, i, none⟩ = w.frozen? ⟨b, i, none⟩ :=
  World.frozen?_of_block (w := w) (Below.heap_alloc w o1 b hb)

set_option maxHeartbeats 2000000 in
/-- At the root. -/
theorem open_root (w : World) (g X : Nat) (s : St) (o : Ord) (rows : List R3) (b off c : Nat) (h : w.heap[g]? = some (wkS X s)) (hX : Idx w X o rows b off c) (hd : s.d = 0) (hn : rows ≠ []) (hg : g < w.heap.size) :
    Calls Try.prog 15 #[.pointer (some ⟨g, 0, none⟩)] w fun e w' => e = .returned (.int .i64 0) ∧ w'.heap[g]? = some (wkS X ⟨1, upd s.f 1 (s.f 0), upd s.t 1 (s.t 0)⟩) ∧ w.grownBy w' (some g) := by
  obtain ⟨z0, z1, z2, z3, z4, z5, z6, z7, z8, z9⟩ := wk_cells h
  obtain ⟨A, hA, hblk⟩ := hX.blk
  obtain ⟨y0, y1, y2, y3, y4⟩ := idx_cells hblk
  have fz : ∀ i, w.frozen? ⟨g, i, none⟩ = false := fun i => by simp [World.frozen?, h, wkS, wkO]
  have hl : ((rows.length : Int) == 0) = false := by
    cases rows with
    | nil => exact absurd rfl hn
    | cons => simp; omega
  have H := Lib.hid h
  have q1 := cell_alloc1 w g hg
  have q2 := frozen_alloc1 w g hg
  have hg' : ∀ v, g < (w.setCell ⟨g, 1, none⟩ v).heap.size := fun v => by simpa [World.setCell] using hg
  have q3 := fun v => cell_alloc1 (w.setCell ⟨g, 1, none⟩ v) g (hg' v)
  have q4 := fun v => frozen_alloc1 (w.setCell ⟨g, 1, none⟩ v) g (hg' v)
  obtain ⟨d, f, t⟩ := s
  simp only at hd z1 z2 z3 z4 z5 z6 z7 z8 z9
  subst hd
  clear h hX hn hA hblk
  go_enter Try.func15, Try.ntmps15
  go_wp2_with (go_at_call 37; refine (given_at _ g _ z0).mono ?_; rintro e w' ⟨rfl, rfl⟩)
  go_region
  go_wp2
  go_region
  go_wp2
  go_ret
  refine ⟨rfl, ?_, grown_d (grown_d (grown_tr (grown_set _ _ _ _) (grown_tr (grown_set _ _ _ _) (grown_tr (grown_set _ _ _ _) (grown_al _ _ _)))))⟩
  refine (heap_al _ g (by rw [size_set, size_set, size_set]; exact hg) _).trans ?_
  exact (heap_set _ g 5 _ _ _ (heap_set _ g 4 _ _ _ (heap_set _ g 1 _ _ _ H.out))).trans rfl
end Go.Proofs.Ythapkpgkcckapaa.Pw
