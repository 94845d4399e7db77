/-
  What a walk of an index is in memory, and its small readers: given, stands, of. Conditions: the blocks lie as told.
-/
import Derived.Test.YthapkpgkcckapaaProg
import Derived.Test.YthapkpgkcckapaaWWords
import Derived.Deep.QuietTactic
import Derived.BigQuiet
import Derived.WalkKit
import Derived.Outline
namespace Go.Proofs.Ythapkpgkcckapaa.Pw
open Go.RowKit Go.Proofs.YthapkpgkcckapaaW.PrintWords

/-- An index's block. -/
def idxO (o0 o1 o2 : Int) (A : Option Addr) (n c : Nat) (m : Bool) : Obj := .cells #[.int .i64 o0, .int .i64 o1, .int .i64 o2, .slice A n c, .bool m] 59 (0, 0)
/-- A walk's block. -/
def wkO (x : Option Addr) (d f0 t0 f1 t1 f2 t2 f3 t3 : Int) : Obj := .cells #[.pointer x, .int .i64 d, .int .i64 f0, .int .i64 t0, .int .i64 f1, .int .i64 t1, .int .i64 f2, .int .i64 t2, .int .i64 f3, .int .i64 t3] 65 (0, 0)

theorem idx_cells {w : World} {g : Nat} {o0 o1 o2 : Int} {A : Option Addr} {n c : Nat} {m : Bool} (h : w.heap[g]? = some (idxO o0 o1 o2 A n c m)) :
    w.cell? ⟨g, 0, none⟩ = some (.int .i64 o0) ∧ w.cell? ⟨g, 1, none⟩ = some (.int .i64 o1) ∧ w.cell? ⟨g, 2, none⟩ = some (.int .i64 o2) ∧ w.cell? ⟨g, 3, none⟩ = some (.slice A n c) ∧ w.cell? ⟨g, 4, none⟩ = some (.bool m) := by
  unfold idxO at h
  refine ⟨?_, ?_, ?_, ?_, ?_⟩ <;> simp [World.cell?, h]
theorem wk_cells {w : World} {g : Nat} {x : Option Addr} {d f0 t0 f1 t1 f2 t2 f3 t3 : Int} (h : w.heap[g]? = some (wkO x d f0 t0 f1 t1 f2 t2 f3 t3)) :
    w.cell? ⟨g, 0, none⟩ = some (.pointer x) ∧ w.cell? ⟨g, 1, none⟩ = some (.int .i64 d) ∧ w.cell? ⟨g, 2, none⟩ = some (.int .i64 f0) ∧ w.cell? ⟨g, 3, none⟩ = some (.int .i64 t0) ∧ w.cell? ⟨g, 4, none⟩ = some (.int .i64 f1) ∧ w.cell? ⟨g, 5, none⟩ = some (.int .i64 t1) ∧ w.cell? ⟨g, 6, none⟩ = some (.int .i64 f2) ∧ w.cell? ⟨g, 7, none⟩ = some (.int .i64 t2) ∧ w.cell? ⟨g, 8, none⟩ = some (.int .i64 f3) ∧ w.cell? ⟨g, 9, none⟩ = some (.int .i64 t3) := by
  unfold wkO at h
  refine ⟨?_, ?_, ?_, ?_, ?_, ?_, ?_, ?_, ?_, ?_⟩ <;> simp [World.cell?, h]

set_option maxHeartbeats 400000 in
theorem given_nil (w : World) : Calls Try.prog 37 #[.pointer none] w fun e w' => e = .returned (.bool false) ∧ w = w' := by
  go_enter Try.func37, Try.ntmps37
  go_wp2
  go_ret
  exact ⟨rfl, rfl⟩
set_option maxHeartbeats 400000 in
theorem given_at (w : World) (g : Nat) (x : Option Addr) (h : w.cell? ⟨g, 0, none⟩ = some (.pointer x)) : Calls Try.prog 37 #[.pointer (some ⟨g, 0, none⟩)] w fun e w' => e = .returned (.bool x.isSome) ∧ w = w' := by
  cases x with
  | none =>
    go_enter Try.func37, Try.ntmps37
    go_wp2
    go_ret
    exact ⟨rfl, rfl⟩
  | some a =>
    go_enter Try.func37, Try.ntmps37
    go_wp2
    go_ret
    exact ⟨rfl, rfl⟩

/-- Of the level where it stands what is left. -/
def spanF (d f0 f1 f2 f3 : Int) : Int := if d = 0 then f0 else if d = 1 then f1 else if d = 2 then f2 else f3

set_option maxHeartbeats 1000000 in
theorem stands_at (w : World) (g : Nat) (x : Option Addr) (d f0 t0 f1 t1 f2 t2 f3 t3 : Int) (hd : 0 ≤ d ∧ d ≤ 3) (h : w.heap[g]? = some (wkO x d f0 t0 f1 t1 f2 t2 f3 t3)) :
    Calls Try.prog 38 #[.pointer (some ⟨g, 0, none⟩)] w fun e w' => e = .returned (.bool (decide (0 < d ∧ spanF d f0 f1 f2 f3 < spanF d t0 t1 t2 t3))) ∧ ∃ n, w' = w.drewN n := by
  obtain ⟨z0, z1, z2, z3, z4, z5, z6, z7, z8, z9⟩ := wk_cells h
  clear h
  obtain rfl | rfl | rfl | rfl : d = 0 ∨ d = 1 ∨ d = 2 ∨ d = 3 := by omega
  · have hd : decide ((0 : Int) < 0) = false := by decide
    go_enter Try.func38, Try.ntmps38
    go_wp2
    go_quiet (fail)
    go_wp2
    go_ret
    exact ⟨rfl, _, rfl⟩
  all_goals
    go_enter Try.func38, Try.ntmps38
    go_wp2
    go_quiet (fail)
    go_wp2
    go_ret
    exact ⟨by simp [spanF], _, rfl⟩

/-- A row's number at a place. -/
def at3 (r : List Int) (i : Int) : Int := r.getD i.toNat 0

set_option maxHeartbeats 4000000 in
theorem of_at (w : World) (g X : Nat) (o0 o1 o2 : Int) (b off : Nat) (n c : Nat) (m : Bool) (d f0 t0 f1 t1 f2 t2 f3 t3 : Int) (hd : 1 ≤ d ∧ d ≤ 3) (h : w.heap[g]? = some (wkO (some ⟨X, 0, none⟩) d f0 t0 f1 t1 f2 t2 f3 t3)) (hX : w.heap[X]? = some (idxO o0 o1 o2 (some ⟨b, off, none⟩) n c m))
    (k : Nat) (h1 : (k : Int) < n) (o v : Int) (ho : o = (if d = 1 then o0 else if d = 2 then o1 else o2)) (ho3 : 0 ≤ o ∧ o ≤ 2) (hv : w.cell? ⟨b, off + k * 3 + o.toNat, none⟩ = some (.int .i64 v)) :
    Calls Try.prog 39 #[.pointer (some ⟨g, 0, none⟩), .int .i64 k] w fun e w' => e = .returned (.int .i64 v) ∧ ∃ n, w' = w.drewN n := by
  obtain ⟨z0, z1, z2, z3, z4, z5, z6, z7, z8, z9⟩ := wk_cells h
  obtain ⟨y0, y1, y2, y3, y4⟩ := idx_cells hX
  clear h hX
  have e0 : IntKind.i64.wrap 0 = 0 := by decide
  have e1 : IntKind.i64.wrap 1 = 1 := by decide
  have e2 : IntKind.i64.wrap 2 = 2 := by decide
  obtain rfl | rfl | rfl : d = 1 ∨ d = 2 ∨ d = 3 := by omega
  all_goals
    simp at ho
    subst ho
    obtain rfl | rfl | rfl : o = 0 ∨ o = 1 ∨ o = 2 := by omega
    all_goals
      simp at hv
      go_enter Try.func39, Try.ntmps39
      go_wp2
      go_quiet (fail)
      go_wp2
      go_ret
      exact ⟨rfl, _, rfl⟩
end Go.Proofs.Ythapkpgkcckapaa.Pw
