/-
  The making of a walk of an index. Conditions: the index's block lies as told.
-/
import Derived.Test.YthapkpgkcckapaaPw8
namespace Go.Proofs.Ythapkpgkcckapaa.Pw
open Go.RowKit Go.Proofs.YthapkpgkcckapaaW.PrintWords Go.Proofs.Ythapkpgkcckapaa.Pm

theorem walk_none (w : World) : Calls Try.prog 14 #[.pointer none] w fun e w' => e = .returned (.pointer none) ∧ w = w' := by
  go_enter Try.func14, Try.ntmps14
  go_wp2
  go_ret
  exact ⟨rfl, rfl⟩
theorem walk_unmade (w : World) (X : Nat) (h : w.cell? ⟨X, 4, none⟩ = some (.bool false)) : Calls Try.prog 14 #[.pointer (some ⟨X, 0, none⟩)] w fun e w' => e = .returned (.pointer none) ∧ w = w' := by
  go_enter Try.func14, Try.ntmps14
  go_wp2
  go_ret
  exact ⟨rfl, rfl⟩
/-- A walk's state at the root. -/
def root (n : Nat) : St := ⟨0, fun _ => 0, fun k => if k = 0 then n else 0⟩
set_option maxHeartbeats 1000000 in
theorem walk_at (w : World) (X : Nat) (o : Ord) (rows : List R3) (b off c : Nat) (hX : Idx w X o rows b off c) (hXs : X < w.heap.size) :
    Calls Try.prog 14 #[.pointer (some ⟨X, 0, none⟩)] w fun e w' => e = .returned (.pointer (some ⟨w.heap.size, 0, none⟩)) ∧ w'.heap[w.heap.size]? = some (wkS X (root rows.length)) ∧ Below w.heap.size w w' ∧ w'.heap.size = w.heap.size + 1 := by
  obtain ⟨A, hA, hblk⟩ := hX.blk
  obtain ⟨y0, y1, y2, y3, y4⟩ := idx_cells hblk
  have q := cell_alloc1 w X hXs
  clear hX
  go_enter Try.func14, Try.ntmps14
  go_wp2
  go_region
  go_wp2
  go_ret
  refine ⟨rfl, ?_, (below_a w _).drew, size_alloc w _⟩
  show (w.heap.push _)[w.heap.size]? = _
  rw [Array.getElem?_push, if_pos rfl]
  rfl
end Go.Proofs.Ythapkpgkcckapaa.Pw
