/-
  Joined by wip/tools/merge.py from the texts Pm0 Pw0 Pw1 Pw2 Pw3 Pw4. Conditions: as each says.
-/
import Derived.Test.YtcnffgcegimelaaGreatProg
import Derived.Test.YtcnffgcegimelaaGreatWWords
import Derived.Deep.QuietTactic
import Derived.BigQuiet
import Derived.WalkKit
import Derived.Outline
import Derived.RegionTactic
import Derived.ChangeAlike
import Derived.Deep.RegionWith
import Derived.Lib.Hide
import Derived.Shelf.Lays
import Derived.Deep.LoopGhost
import Derived.Deep.Draws
import Derived.LoopTactic
section
/-
  Plain words for rows of three numbers and for places in an index: a row's number at a place, a walk's state. No condition.
-/
namespace Go.Proofs.YtcnffgcegimelaaGreat.Pm

/-- A row. -/
structure R3 where
  a : Int
  b : Int
  c : Int
deriving DecidableEq
def R3.at (r : R3) (o : Nat) : Int := if o = 0 then r.a else if o = 1 then r.b else r.c
def r0 : R3 := ⟨0, 0, 0⟩
/-- An order of the places. -/
structure Ord where
  x : Nat
  y : Nat
  z : Nat
def Ord.at (o : Ord) (k : Nat) : Nat := if k = 0 then o.x else if k = 1 then o.y else o.z
/-- A walk's state. -/
structure St where
  d : Nat
  f : Nat → Nat
  t : Nat → Nat
/-- The number of a row at the level. -/
def num (rows : List R3) (o : Ord) (d k : Nat) : Int := (rows.getD k r0).at (o.at (d - 1))
end Go.Proofs.YtcnffgcegimelaaGreat.Pm
end
section
/-
  What a walk of an index is in memory, and its small readers: given, stands, of. Conditions: the blocks lie as told.
-/
namespace Go.Proofs.YtcnffgcegimelaaGreat.Pw
open Go.RowKit Go.Proofs.YtcnffgcegimelaaGreatW.PrintWords

/-- An index's block. -/
def idxO (o0 o1 o2 : Int) (A : Option Addr) (n c : Nat) (m : Bool) : Obj := .cells #[.int .i64 o0, .int .i64 o1, .int .i64 o2, .slice A n c, .bool m] 110 (0, 0)
/-- A walk's block. -/
def wkO (x : Option Addr) (d f0 t0 f1 t1 f2 t2 f3 t3 : Int) : Obj := .cells #[.pointer x, .int .i64 d, .int .i64 f0, .int .i64 t0, .int .i64 f1, .int .i64 t1, .int .i64 f2, .int .i64 t2, .int .i64 f3, .int .i64 t3] 115 (0, 0)

theorem idx_cells {w : World} {g : Nat} {o0 o1 o2 : Int} {A : Option Addr} {n c : Nat} {m : Bool} (h : w.heap[g]? = some (idxO o0 o1 o2 A n c m)) :
    w.cell? ⟨g, 0, none⟩ = some (.int .i64 o0) ∧ w.cell? ⟨g, 1, none⟩ = some (.int .i64 o1) ∧ w.cell? ⟨g, 2, none⟩ = some (.int .i64 o2) ∧ w.cell? ⟨g, 3, none⟩ = some (.slice A n c) ∧ w.cell? ⟨g, 4, none⟩ = some (.bool m) := by
  unfold idxO at h
  refine ⟨?_, ?_, ?_, ?_, ?_⟩ <;> simp [World.cell?, h]
theorem wk_cells {w : World} {g : Nat} {x : Option Addr} {d f0 t0 f1 t1 f2 t2 f3 t3 : Int} (h : w.heap[g]? = some (wkO x d f0 t0 f1 t1 f2 t2 f3 t3)) :
    w.cell? ⟨g, 0, none⟩ = some (.pointer x) ∧ w.cell? ⟨g, 1, none⟩ = some (.int .i64 d) ∧ w.cell? ⟨g, 2, none⟩ = some (.int .i64 f0) ∧ w.cell? ⟨g, 3, none⟩ = some (.int .i64 t0) ∧ w.cell? ⟨g, 4, none⟩ = some (.int .i64 f1) ∧ w.cell? ⟨g, 5, none⟩ = some (.int .i64 t1) ∧ w.cell? ⟨g, 6, none⟩ = some (.int .i64 f2) ∧ w.cell? ⟨g, 7, none⟩ = some (.int .i64 t2) ∧ w.cell? ⟨g, 8, none⟩ = some (.int .i64 f3) ∧ w.cell? ⟨g, 9, none⟩ = some (.int .i64 t3) := by
  unfold wkO at h
  refine ⟨?_, ?_, ?_, ?_, ?_, ?_, ?_, ?_, ?_, ?_⟩ <;> simp [World.cell?, h]

set_option maxHeartbeats 400000 in
theorem given_nil (w : World) : Calls Tryz.prog 61 #[.pointer none] w fun e w' => e = .returned (.bool false) ∧ w = w' := by
  go_enter Tryz.func61, Tryz.ntmps61
  go_wp2
  go_ret
  exact ⟨rfl, rfl⟩
set_option maxHeartbeats 400000 in
theorem given_at (w : World) (g : Nat) (x : Option Addr) (h : w.cell? ⟨g, 0, none⟩ = some (.pointer x)) : Calls Tryz.prog 61 #[.pointer (some ⟨g, 0, none⟩)] w fun e w' => e = .returned (.bool x.isSome) ∧ w = w' := by
  cases x with
  | none =>
    go_enter Tryz.func61, Tryz.ntmps61
    go_wp2
    go_ret
    exact ⟨rfl, rfl⟩
  | some a =>
    go_enter Tryz.func61, Tryz.ntmps61
    go_wp2
    go_ret
    exact ⟨rfl, rfl⟩

/-- Of the level where it stands what is left. -/
def spanF (d f0 f1 f2 f3 : Int) : Int := if d = 0 then f0 else if d = 1 then f1 else if d = 2 then f2 else f3

set_option maxHeartbeats 1000000 in
theorem stands_at (w : World) (g : Nat) (x : Option Addr) (d f0 t0 f1 t1 f2 t2 f3 t3 : Int) (hd : 0 ≤ d ∧ d ≤ 3) (h : w.heap[g]? = some (wkO x d f0 t0 f1 t1 f2 t2 f3 t3)) :
    Calls Tryz.prog 62 #[.pointer (some ⟨g, 0, none⟩)] w fun e w' => e = .returned (.bool (decide (0 < d ∧ spanF d f0 f1 f2 f3 < spanF d t0 t1 t2 t3))) ∧ ∃ n, w' = w.drewN n := by
  obtain ⟨z0, z1, z2, z3, z4, z5, z6, z7, z8, z9⟩ := wk_cells h
  clear h
  obtain rfl | rfl | rfl | rfl : d = 0 ∨ d = 1 ∨ d = 2 ∨ d = 3 := by omega
  · have hd : decide ((0 : Int) < 0) = false := by decide
    go_enter Tryz.func62, Tryz.ntmps62
    go_wp2
    go_quiet (fail)
    go_wp2
    go_ret
    exact ⟨rfl, _, rfl⟩
  all_goals
    go_enter Tryz.func62, Tryz.ntmps62
    go_wp2
    go_quiet (fail)
    go_wp2
    go_ret
    exact ⟨by simp [spanF], _, rfl⟩

/-- A row's number at a place. -/
def at3 (r : List Int) (i : Int) : Int := r.getD i.toNat 0

set_option maxHeartbeats 4000000 in
theorem of_at (w : World) (g X : Nat) (o0 o1 o2 : Int) (b off : Nat) (n c : Nat) (m : Bool) (d f0 t0 f1 t1 f2 t2 f3 t3 : Int) (hd : 1 ≤ d ∧ d ≤ 3) (h : w.heap[g]? = some (wkO (some ⟨X, 0, none⟩) d f0 t0 f1 t1 f2 t2 f3 t3)) (hX : w.heap[X]? = some (idxO o0 o1 o2 (some ⟨b, off, none⟩) n c m))
    (k : Nat) (h1 : (k : Int) < n) (o v : Int) (ho : o = (if d = 1 then o0 else if d = 2 then o1 else o2)) (ho3 : 0 ≤ o ∧ o ≤ 2) (hv : w.cell? ⟨b, off + k * 3 + o.toNat, none⟩ = some (.int .i64 v)) :
    Calls Tryz.prog 63 #[.pointer (some ⟨g, 0, none⟩), .int .i64 k] w fun e w' => e = .returned (.int .i64 v) ∧ ∃ n, w' = w.drewN n := by
  obtain ⟨z0, z1, z2, z3, z4, z5, z6, z7, z8, z9⟩ := wk_cells h
  obtain ⟨y0, y1, y2, y3, y4⟩ := idx_cells hX
  clear h hX
  have e0 : IntKind.i64.wrap 0 = 0 := by decide
  have e1 : IntKind.i64.wrap 1 = 1 := by decide
  have e2 : IntKind.i64.wrap 2 = 2 := by decide
  obtain rfl | rfl | rfl : d = 1 ∨ d = 2 ∨ d = 3 := by omega
  all_goals
    simp at ho
    subst ho
    obtain rfl | rfl | rfl : o = 0 ∨ o = 1 ∨ o = 2 := by omega
    all_goals
      simp at hv
      go_enter Tryz.func63, Tryz.ntmps63
      go_wp2
      go_quiet (fail)
      go_wp2
      go_ret
      exact ⟨rfl, _, rfl⟩
end Go.Proofs.YtcnffgcegimelaaGreat.Pw
end
section
/-
  Walks of an index, its calls that only read: Depth, Up, Key, Len, and the making of a walk. Conditions: the blocks lie as told.
-/
namespace Go.Proofs.YtcnffgcegimelaaGreat.Pw
open Go.RowKit Go.Proofs.YtcnffgcegimelaaGreatW.PrintWords Go.Proofs.YtcnffgcegimelaaGreat.Pm

/-- A walk's block, by its state. -/
def wkS (X : Nat) (s : St) : Obj := wkO (some ⟨X, 0, none⟩) s.d (s.f 0) (s.t 0) (s.f 1) (s.t 1) (s.f 2) (s.t 2) (s.f 3) (s.t 3)
/-- An index's block, and its rows in memory. -/
structure Idx (w : World) (X : Nat) (o : Ord) (rows : List R3) (b off c : Nat) : Prop where
  blk : ∃ A, (A = some ⟨b, off, none⟩ ∨ (A = none ∧ rows = [])) ∧ w.heap[X]? = some (idxO o.x o.y o.z A rows.length c true)
  ox : o.x ≤ 2
  oy : o.y ≤ 2
  oz : o.z ≤ 2
  cell : ∀ k i, k < rows.length → i < 3 → w.cell? ⟨b, off + k * 3 + i, none⟩ = some (.int .i64 ((rows.getD k r0).at i))
  lenc : rows.length ≤ c
  small : rows.length * 24 ≤ 140737488355328


theorem up_none (w : World) : Calls Tryz.prog 70 #[.pointer none] w fun e w' => e = .returned (.int .i64 1) ∧ w = w' := by
  go_enter Tryz.func70, Tryz.ntmps70
  go_wp2_with (go_at_call 61; refine (given_nil _).mono ?_; rintro e w' ⟨rfl, rfl⟩)
  go_ret
  exact ⟨rfl, rfl⟩
theorem up_zero (w : World) (g : Nat) (h : w.cell? ⟨g, 0, none⟩ = some (.pointer none)) : Calls Tryz.prog 70 #[.pointer (some ⟨g, 0, none⟩)] w fun e w' => e = .returned (.int .i64 1) ∧ w = w' := by
  go_enter Tryz.func70, Tryz.ntmps70
  go_wp2_with (go_at_call 61; refine (given_at _ g none h).mono ?_; rintro e w' ⟨rfl, rfl⟩)
  go_ret
  exact ⟨rfl, rfl⟩
theorem up_root (w : World) (g X : Nat) (s : St) (hd : s.d = 0) (h : w.heap[g]? = some (wkS X s)) : Calls Tryz.prog 70 #[.pointer (some ⟨g, 0, none⟩)] w fun e w' => e = .returned (.int .i64 3) ∧ w = w' := by
  obtain ⟨z0, z1, _⟩ := wk_cells h
  have z1' : w.cell? ⟨g, 1, none⟩ = some (.int .i64 0) := by rw [z1, hd]; rfl
  clear h z1 hd
  go_enter Tryz.func70, Tryz.ntmps70
  go_wp2_with (go_at_call 61; refine (given_at _ g _ z0).mono ?_; rintro e w' ⟨rfl, rfl⟩)
  go_ret
  exact ⟨rfl, rfl⟩

/-- A store into a block of cells. -/
theorem heap_set (w : World) (g k : Nat) (cs : Array Value) (e : TypeId) (u : Value) (h : w.heap[g]? = some (.cells cs e (0, 0))) : (w.setCell ⟨g, k, none⟩ u).heap[g]? = some (.cells (cs.setIfInBounds k u) e (0, 0)) := by
  simp only [World.setCell, Array.getElem?_modify, if_true, h]
  rfl
theorem grown_set (w : World) (g k : Nat) (u : Value) : w.grownBy (w.setCell ⟨g, k, none⟩ u) (some g) :=
  ⟨rfl, rfl, rfl, by simp [World.setCell], fun i _ hne => Below.heap_setCell w ⟨g, k, none⟩ u i (fun e => hne (by rw [e]))⟩

theorem up_at (w : World) (g X : Nat) (s : St) (hd : 0 < s.d ∧ s.d ≤ 3) (h : w.heap[g]? = some (wkS X s)) :
    Calls Tryz.prog 70 #[.pointer (some ⟨g, 0, none⟩)] w fun e w' => e = .returned (.int .i64 0) ∧ w'.heap[g]? = some (wkS X { s with d := s.d - 1 }) ∧ w.grownBy w' (some g) := by
  obtain ⟨z0, z1, _⟩ := wk_cells h
  have y1 : w.frozen? ⟨g, 1, none⟩ = false := by simp [World.frozen?, h, wkS, wkO]
  have H := Lib.hid h
  have HD := Lib.hid hd
  obtain ⟨d, f, t⟩ := s
  simp only at hd z1
  obtain rfl | rfl | rfl : d = 1 ∨ d = 2 ∨ d = 3 := by omega
  all_goals
    clear h hd
    go_enter Tryz.func70, Tryz.ntmps70
    go_wp2_with (go_at_call 61; refine (given_at _ g _ z0).mono ?_; rintro e w' ⟨rfl, rfl⟩)
    go_ret
    exact ⟨rfl, (heap_set _ g 1 _ _ _ H.out).trans rfl, grown_set _ _ _ _⟩

end Go.Proofs.YtcnffgcegimelaaGreat.Pw
end
section
/-
  Walks of an index: whether one stands, and its number; the making of a walk. Conditions: the blocks lie as told.
-/
namespace Go.Proofs.YtcnffgcegimelaaGreat.Pw
open Go.RowKit Go.Proofs.YtcnffgcegimelaaGreatW.PrintWords Go.Proofs.YtcnffgcegimelaaGreat.Pm

theorem quiet_add {P : Program} {f : FuncId} {args : Array Value} {w : World} {a n : Nat} {v : Value}
    (h : Calls P f args (w.drewN (a + n)) fun e w' => e = .returned v ∧ ∃ m, w' = (w.drewN (a + n)).drewN m) :
    Calls P f args (w.drewN (a + n)) fun e w'' => e = .returned v ∧ ∃ m, w'' = w.drewN (a + m) :=
  h.mono fun _ _ ⟨he, m, hm⟩ => ⟨he, n + m, by rw [hm, World.drewN_drewN, Nat.add_assoc]⟩

theorem stands_yes (w : World) (g X : Nat) (s : St) (h : w.heap[g]? = some (wkS X s)) (hd : 0 < s.d ∧ s.d ≤ 3) (hf : s.f s.d < s.t s.d) :
    Calls Tryz.prog 62 #[.pointer (some ⟨g, 0, none⟩)] w fun e w' => e = .returned (.bool true) ∧ ∃ n, w' = w.drewN n := by
  refine (stands_at w g _ _ _ _ _ _ _ _ _ _ (by omega) h).mono fun e w' ⟨he, hw⟩ => ⟨?_, hw⟩
  rw [he]
  obtain ⟨d, f, t⟩ := s
  simp only at hd hf
  obtain rfl | rfl | rfl : d = 1 ∨ d = 2 ∨ d = 3 := by omega
  all_goals
    refine congrArg (fun b => Ending.returned (.bool b)) ?_
    simp [spanF] <;> omega
theorem stands_no (w : World) (g X : Nat) (s : St) (h : w.heap[g]? = some (wkS X s)) (hd : s.d ≤ 3) (hf : s.d = 0 ∨ s.t s.d ≤ s.f s.d) :
    Calls Tryz.prog 62 #[.pointer (some ⟨g, 0, none⟩)] w fun e w' => e = .returned (.bool false) ∧ ∃ n, w' = w.drewN n := by
  refine (stands_at w g _ _ _ _ _ _ _ _ _ _ (by omega) h).mono fun e w' ⟨he, hw⟩ => ⟨?_, hw⟩
  rw [he]
  obtain ⟨d, f, t⟩ := s
  simp only at hd hf
  obtain rfl | rfl | rfl | rfl : d = 0 ∨ d = 1 ∨ d = 2 ∨ d = 3 := by omega
  all_goals
    refine congrArg (fun b => Ending.returned (.bool b)) ?_
    simp [spanF] <;> omega

/-- A row's number, asked by a walk. -/
theorem of_st (w : World) (g X : Nat) (s : St) (o : Ord) (rows : List R3) (b off c : Nat) (h : w.heap[g]? = some (wkS X s)) (hX : Idx w X o rows b off c) (hd : 0 < s.d ∧ s.d ≤ 3) (k : Nat) (hk : k < rows.length) :
    Calls Tryz.prog 63 #[.pointer (some ⟨g, 0, none⟩), .int .i64 k] w fun e w' => e = .returned (.int .i64 (num rows o s.d k)) ∧ ∃ n, w' = w.drewN n := by
  have hx := hX.ox
  have hy := hX.oy
  have hz := hX.oz
  have e : (o.at (s.d - 1) : Int) = (if (s.d : Int) = 1 then (o.x : Int) else if (s.d : Int) = 2 then (o.y : Int) else (o.z : Int)) := by
    unfold Ord.at
    obtain h1 | h1 | h1 : s.d = 1 ∨ s.d = 2 ∨ s.d = 3 := by omega
    all_goals simp [h1]
  have ho : o.at (s.d - 1) ≤ 2 := by
    unfold Ord.at
    split
    · exact hx
    · split
      · exact hy
      · exact hz
  obtain ⟨A, hA, hblk⟩ := hX.blk
  have hA' : A = some ⟨b, off, none⟩ := hA.elim id (fun h => absurd hk (by rw [h.2]; simp))
  rw [hA'] at hblk
  refine of_at w g X _ _ _ b off rows.length c true _ _ _ _ _ _ _ _ _ (by omega) h hblk k (by omega) (o.at (s.d - 1)) _ e (by omega) ?_
  rw [Int.toNat_natCast]
  exact hX.cell k _ hk (by omega)

theorem key_none (w : World) : Calls Tryz.prog 44 #[.pointer none] w fun e w' => e = .returned (.tuple #[.int .i64 0, .bool false]) ∧ w = w' := by
  go_enter Tryz.func44, Tryz.ntmps44
  go_wp2_with (go_at_call 61; refine (given_nil _).mono ?_; rintro e w' ⟨rfl, rfl⟩)
  go_ret2
  exact ⟨rfl, rfl⟩
theorem key_zero (w : World) (g : Nat) (h : w.cell? ⟨g, 0, none⟩ = some (.pointer none)) : Calls Tryz.prog 44 #[.pointer (some ⟨g, 0, none⟩)] w fun e w' => e = .returned (.tuple #[.int .i64 0, .bool false]) ∧ w = w' := by
  go_enter Tryz.func44, Tryz.ntmps44
  go_wp2_with (go_at_call 61; refine (given_at _ g none h).mono ?_; rintro e w' ⟨rfl, rfl⟩)
  go_ret2
  exact ⟨rfl, rfl⟩
theorem key_no (w : World) (g X : Nat) (s : St) (h : w.heap[g]? = some (wkS X s)) (hd : s.d ≤ 3) (hf : s.d = 0 ∨ s.t s.d ≤ s.f s.d) :
    Calls Tryz.prog 44 #[.pointer (some ⟨g, 0, none⟩)] w fun e w' => e = .returned (.tuple #[.int .i64 0, .bool false]) ∧ ∃ n, w' = w.drewN n := by
  obtain ⟨z0, _⟩ := wk_cells h
  have C := fun W (hW : W.heap[g]? = some (wkS X s)) => stands_no W g X s hW hd hf
  have H := Lib.hid h
  clear h hd hf
  go_enter Tryz.func44, Tryz.ntmps44
  go_wp2_with (first | (go_at_call 61; refine (given_at _ g _ z0).mono ?_; rintro e w' ⟨rfl, rfl⟩) | (go_at_call 62; refine (C _ H.out).mono ?_; rintro e w' ⟨rfl, n, rfl⟩))
  go_ret2
  exact ⟨rfl, _, rfl⟩
set_option maxHeartbeats 1000000 in
theorem key_yes (w : World) (g X : Nat) (s : St) (o : Ord) (rows : List R3) (b off c : Nat) (h : w.heap[g]? = some (wkS X s)) (hX : Idx w X o rows b off c) (hd : 0 < s.d ∧ s.d ≤ 3) (hf : s.f s.d < s.t s.d) (ht : s.t s.d ≤ rows.length) :
    Calls Tryz.prog 44 #[.pointer (some ⟨g, 0, none⟩)] w fun e w' => e = .returned (.tuple #[.int .i64 (num rows o s.d (s.f s.d)), .bool true]) ∧ ∃ n, w' = w.drewN n := by
  obtain ⟨z0, z1, z2, z3, z4, z5, z6, z7, z8, z9⟩ := wk_cells h
  have C := fun W (hW : W.heap[g]? = some (wkS X s)) => stands_yes W g X s hW hd hf
  have D := fun n : Nat => of_st (w.drewN n) g X s o rows b off c h ⟨hX.blk, hX.ox, hX.oy, hX.oz, hX.cell, hX.lenc, hX.small⟩ hd (s.f s.d) (by omega)
  have H := Lib.hid h
  obtain ⟨d, f, t⟩ := s
  simp only at hd hf ht z1 z2 z3 z4 z5 z6 z7 z8 z9 D
  clear hX hf ht h
  have hd' := hd
  obtain rfl | rfl | rfl : d = 1 ∨ d = 2 ∨ d = 3 := by omega
  all_goals
    clear hd hd'
    go_enter Tryz.func44, Tryz.ntmps44
    go_wp2_with (first | (go_at_call 61; refine (given_at _ g _ z0).mono ?_; rintro e w' ⟨rfl, rfl⟩) | (go_at_call 62; refine (C _ H.out).mono ?_; rintro e w' ⟨rfl, n, rfl⟩))
    go_quiet ((go_at_call 63; exact quiet_add (D _)))
    go_wp2
    go_ret2
    exact ⟨rfl, _, World.drewN_drewN _ _ _⟩
end Go.Proofs.YtcnffgcegimelaaGreat.Pw
end
section
/-
  sort.Search with a function value that only reads; the predicates that a walk of an index hands to it. Conditions: the function value answers as told in every world that has drawn more; what it answers does not fall.
-/
namespace Go.Proofs.YtcnffgcegimelaaGreat.Pw
open Go.RowKit Go.Proofs.YtcnffgcegimelaaGreatW.PrintWords Go.Proofs.YtcnffgcegimelaaGreat.Pm

/-- What does not fall has a first place. -/
theorem first_ex (p : Nat → Bool) (f : Nat) : ∀ (d t : Nat), t = f + d → (∀ a b, f ≤ a → a ≤ b → b < t → p a = true → p b = true) →
    ∃ r, f ≤ r ∧ r ≤ t ∧ (∀ k, f ≤ k → k < r → p k = false) ∧ (∀ k, r ≤ k → k < t → p k = true)
  | 0, t, h, _ => ⟨f, Nat.le_refl _, by omega, fun k _ _ => by omega, fun k _ _ => by omega⟩
  | d + 1, t, h, hm => by
    obtain ⟨r, h1, h2, h3, h4⟩ := first_ex p f d (f + d) rfl (fun a b ha hab hb => hm a b ha hab (by omega))
    by_cases hr : r < f + d
    · refine ⟨r, h1, by omega, h3, fun k hk hkt => ?_⟩
      by_cases hkd : k < f + d
      · exact h4 k hk hkd
      · exact hm r k h1 hk hkt (h4 r (Nat.le_refl _) hr)
    · obtain rfl : r = f + d := by omega
      cases hp : p (f + d) with
      | true => exact ⟨f + d, h1, by omega, h3, fun k hk hkt => by rw [show k = f + d by omega]; exact hp⟩
      | false => exact ⟨f + d + 1, by omega, by omega, fun k hk hkt => by
          by_cases hkd : k < f + d
          · exact h3 k hk hkd
          · rw [show k = f + d by omega]; exact hp, fun k hk hkt => by omega⟩

set_option maxHeartbeats 4000000 in
set_option maxRecDepth 1000000 in
theorem search_calls (g : Nat) (cb : Array Value) (n : Nat) (p : Nat → Bool) (r : Nat) (w : World) (eg : ∀ args w, (callFunc g args).run Tryz.prog w = .ok (.enter g args) w) (hsz : n < 4611686018427387904)
    (hf : ∀ (m i : Nat), i < n → Calls Tryz.prog g (#[.int .i64 i] ++ cb) (w.drewN m) fun e w' => e = .returned (.bool (p i)) ∧ ∃ q, w' = (w.drewN m).drewN q)
    (hr : r ≤ n) (h1 : ∀ t, t < r → p t = false) (h2 : ∀ t, r ≤ t → t < n → p t = true) :
    Calls Tryz.prog 84 #[.int .i64 n, .func (.func g) #[] cb] w fun e w' => e = .returned (.int .i64 r) ∧ ∃ q, w' = w.drewN q := by
  have HF := Lib.hid hf
  have M1 := Lib.hid h1
  have M2 := Lib.hid h2
  clear hf h1 h2
  go_enter Tryz.func84, Tryz.ntmps84
  go_wp2
  go_loopg [5, 6] n (fun kx s5 s6 wr => ∃ (lo hi q : Nat), s5 = .int .i64 lo ∧ s6 = .int .i64 hi ∧ lo ≤ hi ∧ hi ≤ n ∧ hi - lo ≤ kx ∧ wr = w.drewN q ∧ lo ≤ r ∧ r ≤ hi)
  case atStart => exact ⟨0, n, 0, rfl, rfl, Nat.zero_le _, Nat.le_refl _, by omega, rfl, Nat.zero_le _, hr⟩
  case round =>
    obtain ⟨lo, hi, q, rfl, rfl, hlh, hin, hg, rfl, hlr, hrh⟩ := hrel
    by_cases hlt : lo < hi
    · have hc := HF.out q ((lo + hi) / 2) (by omega)
      rw [show (((lo + hi) / 2 : Nat) : Int) = ((lo : Int) + (hi : Int)) / 2 by omega] at hc
      cases hp : p ((lo + hi) / 2) <;> rw [hp] at hc
      · have HP : (lo + hi) / 2 < r := by
          by_cases h : (lo + hi) / 2 < r
          · exact h
          · have := M2.out ((lo + hi) / 2) (by omega) (by omega); rw [hp] at this; cases this
        clear hp
        go_wp2_with (go_at_fn g; refine hc.mono ?_; rintro e w' ⟨rfl, nq, rfl⟩)
        go_roundg (hi - ((lo + hi) / 2 + 1))
        case measure => omega
        case rel =>
          exact ⟨(lo + hi) / 2 + 1, hi, q + nq, by rw [show ((lo : Int) + (hi : Int)) / 2 + 1 = (((lo + hi) / 2 + 1 : Nat) : Int) by omega], rfl, by omega, hin, Nat.le_refl _, rfl, by omega, hrh⟩
      · have HP : r ≤ (lo + hi) / 2 := by
          by_cases h : r ≤ (lo + hi) / 2
          · exact h
          · have := M1.out ((lo + hi) / 2) (by omega); rw [hp] at this; cases this
        clear hp
        go_wp2_with (go_at_fn g; refine hc.mono ?_; rintro e w' ⟨rfl, nq, rfl⟩)
        go_roundg ((lo + hi) / 2 - lo)
        case measure => omega
        case rel =>
          exact ⟨lo, (lo + hi) / 2, q + nq, rfl, by rw [show ((lo : Int) + (hi : Int)) / 2 = (((lo + hi) / 2 : Nat) : Int) by omega], by omega, by omega, Nat.le_refl _, rfl, hlr, HP⟩
    · obtain rfl : hi = lo := by omega
      obtain rfl : hi = r := by omega
      go_wp2
      go_ret
      exact ⟨rfl, q, rfl⟩

/-- 'k > n', 'k >= n'. -/
theorem gt41 (w : World) (b : Nat) (x n : Int) (h : w.cell? ⟨b, 0, none⟩ = some (.int .i64 n)) : Calls Tryz.prog 65 #[.int .i64 x, .pointer (some ⟨b, 0, none⟩)] w fun e w' => e = .returned (.bool (decide (n < x))) ∧ w = w' := by
  go_enter Tryz.func65, Tryz.ntmps65
  go_wp2
  go_ret
  exact ⟨rfl, rfl⟩
theorem gt44 (w : World) (b : Nat) (x n : Int) (h : w.cell? ⟨b, 0, none⟩ = some (.int .i64 n)) : Calls Tryz.prog 86 #[.int .i64 x, .pointer (some ⟨b, 0, none⟩)] w fun e w' => e = .returned (.bool (decide (n < x))) ∧ w = w' := by
  go_enter Tryz.func86, Tryz.ntmps86
  go_wp2
  go_ret
  exact ⟨rfl, rfl⟩
theorem ge46 (w : World) (b : Nat) (x n : Int) (h : w.cell? ⟨b, 0, none⟩ = some (.int .i64 n)) : Calls Tryz.prog 67 #[.int .i64 x, .pointer (some ⟨b, 0, none⟩)] w fun e w' => e = .returned (.bool (decide (n ≤ x))) ∧ w = w' := by
  go_enter Tryz.func67, Tryz.ntmps67
  go_wp2
  go_ret
  exact ⟨rfl, rfl⟩

/-- What a walk's 'first' hands to the search: the predicate of a row's number. -/
theorem pred52 (w : World) (g X : Nat) (s : St) (o : Ord) (rows : List R3) (b off c : Nat) (h : w.heap[g]? = some (wkS X s)) (hX : Idx w X o rows b off c) (hd : 0 < s.d ∧ s.d ≤ 3)
    (gi : Nat) (cb : Array Value) (eg : ∀ args w, (callFunc gi args).run Tryz.prog w = .ok (.enter gi args) w) (p : Int → Bool) (from_ : Nat) (bi bw bs : Nat)
    (hi : w.cell? ⟨bi, 0, none⟩ = some (.func (.func gi) #[] cb)) (hw : w.cell? ⟨bw, 0, none⟩ = some (.pointer (some ⟨g, 0, none⟩))) (hs : w.cell? ⟨bs, 0, none⟩ = some (.int .i64 from_))
    (hp : ∀ (m : Nat) (x : Int), Calls Tryz.prog gi (#[.int .i64 x] ++ cb) (w.drewN m) fun e w' => e = .returned (.bool (p x)) ∧ w.drewN m = w')
    (k : Nat) (hk : from_ + k < rows.length) :
    Calls Tryz.prog 85 #[.int .i64 k, .pointer (some ⟨bi, 0, none⟩), .pointer (some ⟨bw, 0, none⟩), .pointer (some ⟨bs, 0, none⟩)] w fun e w' => e = .returned (.bool (p (num rows o s.d (from_ + k)))) ∧ ∃ q, w' = w.drewN q := by
  have D := fun n : Nat => of_st (w.drewN n) g X s o rows b off c h ⟨hX.blk, hX.ox, hX.oy, hX.oz, hX.cell, hX.lenc, hX.small⟩ hd (from_ + k) hk
  have hsm := hX.small
  have e1 : IntKind.i64.wrap ((from_ : Int) + (k : Int)) = ((from_ + k : Nat) : Int) := by
    rw [show ((from_ + k : Nat) : Int) = (from_ : Int) + (k : Int) by omega]
    exact IntWalk.i64_in _ (by omega)
  have HP := Lib.hid hp
  clear hp h hX hk hsm
  go_enter Tryz.func85, Tryz.ntmps85
  go_wp2
  go_quiet (first | (go_at_call 63; exact Calls.quiet_of (D _)) | (go_at_fn gi; exact (HP.out _ _).mono fun _ _ ⟨he, hq⟩ => ⟨he, _, hq.symm⟩))
  go_wp2
  go_ret
  exact ⟨rfl, _, rfl⟩
end Go.Proofs.YtcnffgcegimelaaGreat.Pw
end
section
/-
  A walk's 'first': the first row of the level, from where it stands, of which something is so. Conditions: the blocks lie as told; what is asked does not fall along the level.
-/
namespace Go.Proofs.YtcnffgcegimelaaGreat.Pw
open Go.RowKit Go.Proofs.YtcnffgcegimelaaGreatW.PrintWords Go.Proofs.YtcnffgcegimelaaGreat.Pm

theorem Idx.below {w w' : World} {X : Nat} {o : Ord} {rows : List R3} {b off c : Nat} {B : Nat} (h : Idx w X o rows b off c) (hb : Below B w w') (hX : X < B) (hbB : b < B) : Idx w' X o rows b off c :=
  ⟨h.blk.imp fun _ ⟨h1, h2⟩ => ⟨h1, (hb.block X hX).trans h2⟩, h.ox, h.oy, h.oz, fun k i hk hi => (hb.cell (p := ⟨b, off + k * 3 + i, none⟩) hbB).trans (h.cell k i hk hi), h.lenc, h.small⟩

theorem cell_alloc1 (w : World) (b : Nat) (hb : b < w.heap.size) (i : Nat) (o1 : Obj) : (w.alloc o1).cell? ⟨b, i, none⟩ = w.cell? ⟨b, i, none⟩ :=
  World.cell?_of_block (w := w) (Below.heap_alloc w o1 b hb)
theorem cell_alloc2 (w : World) (b : Nat) (hb : b < w.heap.size) (i : Nat) (o1 o2 : Obj) : ((w.alloc o1).alloc o2).cell? ⟨b, i, none⟩ = w.cell? ⟨b, i, none⟩ :=
  (cell_alloc1 (w.alloc o1) b (by simp; omega) i o2).trans (cell_alloc1 w b hb i o1)
theorem cell_alloc3 (w : World) (b : Nat) (hb : b < w.heap.size) (i : Nat) (o1 o2 o3 : Obj) : (((w.alloc o1).alloc o2).alloc o3).cell? ⟨b, i, none⟩ = w.cell? ⟨b, i, none⟩ :=
  (cell_alloc1 ((w.alloc o1).alloc o2) b (by simp; omega) i o3).trans (cell_alloc2 w b hb i o1 o2)

theorem cell_new1 (W : World) (cs : Array Value) (t : TypeId) (i : Nat) : (W.alloc (.cells cs t)).cell? ⟨W.heap.size, i, none⟩ = cs[i]? := World.cell?_alloc_new W cs t i
theorem size_alloc (W : World) (o : Obj) : (W.alloc o).heap.size = W.heap.size + 1 := by
  show (W.heap.push o).size = _
  simp

theorem Idx.drewN {w : World} {X : Nat} {o : Ord} {rows : List R3} {b off c : Nat} (h : Idx w X o rows b off c) (n : Nat) : Idx (w.drewN n) X o rows b off c :=
  ⟨h.blk, h.ox, h.oy, h.oz, h.cell, h.lenc, h.small⟩

set_option maxHeartbeats 4000000 in
theorem first_at (w : World) (g X : Nat) (s : St) (o : Ord) (rows : List R3) (b off c : Nat) (h : w.heap[g]? = some (wkS X s)) (hX : Idx w X o rows b off c) (hd : 0 < s.d ∧ s.d ≤ 3) (hft : s.f s.d ≤ s.t s.d) (ht : s.t s.d ≤ rows.length)
    (hg : g < w.heap.size) (hXs : X < w.heap.size) (hbs : b < w.heap.size)
    (gi : Nat) (cb : Array Value) (eg : ∀ args w, (callFunc gi args).run Tryz.prog w = .ok (.enter gi args) w) (p : Int → Bool)
    (hp : ∀ (W : World) (x : Int), Below w.heap.size w W → Calls Tryz.prog gi (#[.int .i64 x] ++ cb) W fun e w' => e = .returned (.bool (p x)) ∧ W = w')
    (r : Nat) (hr : s.f s.d ≤ r ∧ r ≤ s.t s.d) (h1 : ∀ k, s.f s.d ≤ k → k < r → p (num rows o s.d k) = false) (h2 : ∀ k, r ≤ k → k < s.t s.d → p (num rows o s.d k) = true) :
    Calls Tryz.prog 64 #[.pointer (some ⟨g, 0, none⟩), .func (.func gi) #[] cb] w fun e w' => e = .returned (.int .i64 r) ∧ Below w.heap.size w w' := by
  obtain ⟨z0, z1, z2, z3, z4, z5, z6, z7, z8, z9⟩ := wk_cells h
  have hsm := hX.small
  have e52 : ∀ args w, (callFunc 85 args).run Tryz.prog w = .ok (.enter 85 args) w := enters_of Tryz.func85 (by kernel_rfl) rfl
  -- the search, at the world behind the boxes
  have C : ∀ (m : Nat), Calls Tryz.prog 84 #[.int .i64 ((s.t s.d - s.f s.d : Nat) : Int), .func (.func 85) #[] #[.pointer (some ⟨w.heap.size + 1, 0, none⟩), .pointer (some ⟨w.heap.size, 0, none⟩), .pointer (some ⟨w.heap.size + 1 + 1, 0, none⟩)]]
      ((((w.alloc (.cells #[.pointer (some ⟨g, 0, none⟩)] 83)).alloc (.cells #[.func (.func gi) #[] cb] 118)).alloc (.cells #[.int .i64 (s.f s.d), .int .i64 (s.t s.d)] 112)).drewN m)
      fun e w' => e = .returned (.int .i64 ((r - s.f s.d : Nat) : Int)) ∧ ∃ q, w' = ((((w.alloc (.cells #[.pointer (some ⟨g, 0, none⟩)] 83)).alloc (.cells #[.func (.func gi) #[] cb] 118)).alloc (.cells #[.int .i64 (s.f s.d), .int .i64 (s.t s.d)] 112)).drewN m).drewN q := by
    intro m
    have hb : Below w.heap.size w (((w.alloc (.cells #[.pointer (some ⟨g, 0, none⟩)] 83)).alloc (.cells #[.func (.func gi) #[] cb] 118)).alloc (.cells #[.int .i64 (s.f s.d), .int .i64 (s.t s.d)] 112)) :=
      (((Below.refl _ _).alloc (Nat.le_refl _) _).alloc (by simp) _).alloc (by simp; omega) _
    generalize hW : ((w.alloc (.cells #[.pointer (some ⟨g, 0, none⟩)] 83)).alloc (.cells #[.func (.func gi) #[] cb] 118)).alloc (.cells #[.int .i64 (s.f s.d), .int .i64 (s.t s.d)] 112) = W at hb ⊢
    have c0 : W.cell? ⟨w.heap.size, 0, none⟩ = some (.pointer (some ⟨g, 0, none⟩)) := by
      subst hW
      rw [cell_alloc2 _ _ (by rw [size_alloc]; omega), cell_new1]; rfl
    have c1 : W.cell? ⟨w.heap.size + 1, 0, none⟩ = some (.func (.func gi) #[] cb) := by
      subst hW
      rw [cell_alloc1 _ _ (by rw [size_alloc, size_alloc]; omega)]
      have e := cell_new1 (w.alloc (.cells #[.pointer (some ⟨g, 0, none⟩)] 83)) #[.func (.func gi) #[] cb] 118 0
      rw [size_alloc] at e
      rw [e]; rfl
    have c2 : W.cell? ⟨w.heap.size + 1 + 1, 0, none⟩ = some (.int .i64 (s.f s.d)) := by
      subst hW
      have e := cell_new1 ((w.alloc (.cells #[.pointer (some ⟨g, 0, none⟩)] 83)).alloc (.cells #[.func (.func gi) #[] cb] 118)) #[.int .i64 (s.f s.d), .int .i64 (s.t s.d)] 112 0
      rw [size_alloc, size_alloc] at e
      rw [e]; rfl
    refine search_calls 85 _ (s.t s.d - s.f s.d) (fun k => p (num rows o s.d (s.f s.d + k))) (r - s.f s.d) (W.drewN m) e52 (by omega) (fun m2 i hi => ?_) (by omega) (fun k hk => h1 _ (by omega) (by omega)) (fun k hk hkn => h2 _ (by omega) (by omega))
    have hbm : Below w.heap.size w ((W.drewN m).drewN m2) := ⟨hb.os, hb.tape, hb.output, hb.size, hb.block⟩
    exact pred52 _ g X s o rows b off c ((hbm.block g hg).trans h) (hX.below hbm hXs hbs) hd gi cb eg p (s.f s.d) (w.heap.size + 1) w.heap.size (w.heap.size + 1 + 1) c1 c0 c2
      (fun m3 x => hp _ x ⟨hb.os, hb.tape, hb.output, hb.size, hb.block⟩) i (by omega)
  have H := Lib.hid h
  have HC := Lib.hid C
  have q3 := cell_alloc3 w g hg
  have fr : s.f s.d + (r - s.f s.d) = r := by omega
  have hrr := hr
  clear h hX hp h1 h2 C
  obtain ⟨d, f, t⟩ := s
  simp only at hd z1 z2 z3 z4 z5 z6 z7 z8 z9 fr hrr hr hft ht HC
  have hd' := hd
  obtain rfl | rfl | rfl : d = 1 ∨ d = 2 ∨ d = 3 := by omega
  all_goals
    clear hd hd'
    have hB : ∀ (o1 o2 o3 : Obj) (n : Nat), Below w.heap.size w ((((w.alloc o1).alloc o2).alloc o3).drew.drewN n) := fun o1 o2 o3 n => by
      have hb := (((Below.refl w.heap.size w).alloc (Nat.le_refl _) o1).alloc (by simp) o2).alloc (by simp; omega) o3
      exact ⟨hb.os, hb.tape, hb.output, hb.size, hb.block⟩
    have e1 : ∀ a b : Nat, a ≤ b → b ≤ rows.length → IntKind.i64.wrap ((b : Int) - (a : Int)) = ((b - a : Nat) : Int) := fun a b hab hbn => by
      rw [show ((b - a : Nat) : Int) = (b : Int) - (a : Int) by omega]
      exact IntWalk.i64_in _ (by omega)
    have e2 : ∀ a : Nat, a ≤ r → r ≤ rows.length → IntKind.i64.wrap ((a : Int) + ((r - a : Nat) : Int)) = (r : Int) := fun a har hrn => by
      rw [show (a : Int) + ((r - a : Nat) : Int) = (r : Int) by omega]
      exact IntWalk.i64_in _ (by omega)
    have e1' := e1 _ _ hft ht
    have e2' := e2 _ hr.1 (Nat.le_trans hr.2 ht)
    have HB := Lib.hid hB
    clear fr hrr hr hft ht hsm e1 e2 hB
    go_enter Tryz.func64, Tryz.ntmps64
    go_wp2
    go_region
    go_wp2
    go_quiet ((go_at_call 84; exact quiet_add (HC.out _)))
    go_wp2
    go_ret
    exact ⟨rfl, HB.out _ _ _ _⟩
end Go.Proofs.YtcnffgcegimelaaGreat.Pw
end
