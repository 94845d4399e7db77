/-
  Walks of an index, its calls that only read: Depth, Up, Key, Len, and the making of a walk. Conditions: the blocks lie as told.
-/
import Derived.Test.YthapkpgkcckapaaPw0
import Derived.Test.YthapkpgkcckapaaPm0
import Derived.RegionTactic
import Derived.ChangeAlike
import Derived.Deep.RegionWith
import Derived.Lib.Hide
namespace Go.Proofs.Ythapkpgkcckapaa.Pw
open Go.RowKit Go.Proofs.YthapkpgkcckapaaW.PrintWords Go.Proofs.Ythapkpgkcckapaa.Pm

/-- A walk's block, by its state. -/
def wkS (X : Nat) (s : St) : Obj := wkO (some ⟨X, 0, none⟩) s.d (s.f 0) (s.t 0) (s.f 1) (s.t 1) (s.f 2) (s.t 2) (s.f 3) (s.t 3)
/-- An index's block, and its rows in memory. -/
structure Idx (w : World) (X : Nat) (o : Ord) (rows : List R3) (b off c : Nat) : Prop where
  blk : ∃ A, (A = some ⟨b, off, none⟩ ∨ (A = none ∧ rows = [])) ∧ w.heap[X]? = some (idxO o.x o.y o.z A rows.length c true)
  ox : o.x ≤ 2
  oy : o.y ≤ 2
  oz : o.z ≤ 2
  cell : ∀ k i, k < rows.length → i < 3 → w.cell? ⟨b, off + k * 3 + i, none⟩ = some (.int .i64 ((rows.getD k r0).at i))
  lenc : rows.length ≤ c
  small : rows.length * 24 ≤ 140737488355328

theorem depth_none (w : World) : Calls Try.prog 25 #[.pointer none] w fun e w' => e = .returned (.int .i64 0) ∧ w = w' := by
  go_enter Try.func25, Try.ntmps25
  go_wp2_with (go_at_call 37; refine (given_nil _).mono ?_; rintro e w' ⟨rfl, rfl⟩)
  go_ret
  exact ⟨rfl, rfl⟩
theorem depth_zero (w : World) (g : Nat) (h : w.cell? ⟨g, 0, none⟩ = some (.pointer none)) : Calls Try.prog 25 #[.pointer (some ⟨g, 0, none⟩)] w fun e w' => e = .returned (.int .i64 0) ∧ w = w' := by
  go_enter Try.func25, Try.ntmps25
  go_wp2_with (go_at_call 37; refine (given_at _ g none h).mono ?_; rintro e w' ⟨rfl, rfl⟩)
  go_ret
  exact ⟨rfl, rfl⟩
theorem depth_at (w : World) (g X : Nat) (s : St) (h : w.heap[g]? = some (wkS X s)) : Calls Try.prog 25 #[.pointer (some ⟨g, 0, none⟩)] w fun e w' => e = .returned (.int .i64 s.d) ∧ w = w' := by
  obtain ⟨z0, z1, _⟩ := wk_cells h
  clear h
  go_enter Try.func25, Try.ntmps25
  go_wp2_with (go_at_call 37; refine (given_at _ g _ z0).mono ?_; rintro e w' ⟨rfl, rfl⟩)
  go_ret
  exact ⟨rfl, rfl⟩

theorem up_none (w : World) : Calls Try.prog 17 #[.pointer none] w fun e w' => e = .returned (.int .i64 1) ∧ w = w' := by
  go_enter Try.func17, Try.ntmps17
  go_wp2_with (go_at_call 37; refine (given_nil _).mono ?_; rintro e w' ⟨rfl, rfl⟩)
  go_ret
  exact ⟨rfl, rfl⟩
theorem up_zero (w : World) (g : Nat) (h : w.cell? ⟨g, 0, none⟩ = some (.pointer none)) : Calls Try.prog 17 #[.pointer (some ⟨g, 0, none⟩)] w fun e w' => e = .returned (.int .i64 1) ∧ w = w' := by
  go_enter Try.func17, Try.ntmps17
  go_wp2_with (go_at_call 37; refine (given_at _ g none h).mono ?_; rintro e w' ⟨rfl, rfl⟩)
  go_ret
  exact ⟨rfl, rfl⟩
theorem up_root (w : World) (g X : Nat) (s : St) (hd : s.d = 0) (h : w.heap[g]? = some (wkS X s)) : Calls Try.prog 17 #[.pointer (some ⟨g, 0, none⟩)] w fun e w' => e = .returned (.int .i64 3) ∧ w = w' := by
  obtain ⟨z0, z1, _⟩ := wk_cells h
  have z1' : w.cell? ⟨g, 1, none⟩ = some (.int .i64 0) := by rw [z1, hd]; rfl
  clear h z1 hd
  go_enter Try.func17, Try.ntmps17
  go_wp2_with (go_at_call 37; refine (given_at _ g _ z0).mono ?_; rintro e w' ⟨rfl, rfl⟩)
  go_ret
  exact ⟨rfl, rfl⟩

/-- A store into a block of cells. -/
theorem heap_set (w : World) (g k : Nat) (cs : Array Value) (e : TypeId) (u : Value) (h : w.heap[g]? = some (.cells cs e (0, 0))) : (w.setCell ⟨g, k, none⟩ u).heap[g]? = some (.cells (cs.setIfInBounds k u) e (0, 0)) := by
  simp only [World.setCell, Array.getElem?_modify, if_true, h]
  rfl
theorem grown_set (w : World) (g k : Nat) (u : Value) : w.grownBy (w.setCell ⟨g, k, none⟩ u) (some g) :=
  ⟨rfl, rfl, rfl, by simp [World.setCell], fun i _ hne => Below.heap_setCell w ⟨g, k, none⟩ u i (fun e => hne (by rw [e]))⟩

theorem up_at (w : World) (g X : Nat) (s : St) (hd : 0 < s.d ∧ s.d ≤ 3) (h : w.heap[g]? = some (wkS X s)) :
    Calls Try.prog 17 #[.pointer (some ⟨g, 0, none⟩)] w fun e w' => e = .returned (.int .i64 0) ∧ w'.heap[g]? = some (wkS X { s with d := s.d - 1 }) ∧ w.grownBy w' (some g) := by
  obtain ⟨z0, z1, _⟩ := wk_cells h
  have y1 : w.frozen? ⟨g, 1, none⟩ = false := by simp [World.frozen?, h, wkS, wkO]
  have H := Lib.hid h
  have HD := Lib.hid hd
  obtain ⟨d, f, t⟩ := s
  simp only at hd z1
  obtain rfl | rfl | rfl : d = 1 ∨ d = 2 ∨ d = 3 := by omega
  all_goals
    clear h hd
    go_enter Try.func17, Try.ntmps17
    go_wp2_with (go_at_call 37; refine (given_at _ g _ z0).mono ?_; rintro e w' ⟨rfl, rfl⟩)
    go_ret
    exact ⟨rfl, (heap_set _ g 1 _ _ _ H.out).trans rfl, grown_set _ _ _ _⟩

theorem len_none (w : World) : Calls Try.prog 26 #[.pointer none] w fun e w' => e = .returned (.int .i64 0) ∧ w = w' := by
  go_enter Try.func26, Try.ntmps26
  go_wp2
  go_ret
  exact ⟨rfl, rfl⟩
theorem len_at (w : World) (X : Nat) (o0 o1 o2 : Int) (A : Option Addr) (n c : Nat) (m : Bool) (h : w.heap[X]? = some (idxO o0 o1 o2 A n c m)) : Calls Try.prog 26 #[.pointer (some ⟨X, 0, none⟩)] w fun e w' => e = .returned (.int .i64 n) ∧ w = w' := by
  obtain ⟨_, _, _, z3, _⟩ := idx_cells h
  clear h
  go_enter Try.func26, Try.ntmps26
  go_wp2
  go_ret
  exact ⟨rfl, rfl⟩
end Go.Proofs.Ythapkpgkcckapaa.Pw
