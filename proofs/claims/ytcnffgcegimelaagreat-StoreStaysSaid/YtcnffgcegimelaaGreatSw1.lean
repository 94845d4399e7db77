/-
  A dictionary in memory: given, Id, Word. Conditions: the blocks lie as told.
-/
import Derived.Test.YtcnffgcegimelaaGreatSw0
import Derived.WalkSpells
namespace Go.Proofs.YtcnffgcegimelaaGreat.Wd
open Go.RowKit Go.Proofs.YtcnffgcegimelaaGreat.Mp

/-- A number, as an element. -/
def encN (n : Nat) : Value := .int .i64 n
/-- Where a word stands. -/
def idxF : List ByteArray → ByteArray → Option Nat
  | [], _ => none
  | a :: r, x => if x = a then some 0 else (idxF r x).map (· + 1)
theorem idxF_mem : ∀ (ws : List ByteArray) (x : ByteArray), x ∈ ws ↔ (idxF ws x).isSome
  | [], x => by simp [idxF]
  | a :: r, x => by
    unfold idxF
    by_cases e : x = a
    · simp [e]
    · rw [if_neg e, List.mem_cons, Option.isSome_map, ← idxF_mem r x]
      exact ⟨fun h => h.resolve_left e, Or.inr⟩
theorem idxF_at : ∀ (ws : List ByteArray) (x : ByteArray) (n : Nat), idxF ws x = some n → ws[n]? = some x
  | [], x, n, h => by simp [idxF] at h
  | a :: r, x, n, h => by
    unfold idxF at h
    by_cases e : x = a
    · rw [if_pos e] at h
      injection h with h
      subst h
      simp [e]
    · rw [if_neg e] at h
      obtain ⟨m, hm, rfl⟩ := Option.map_eq_some_iff.1 h
      simpa using idxF_at r x m hm
theorem idxF_snoc : ∀ (ws : List ByteArray) (x y : ByteArray), x ∉ ws → idxF (ws ++ [x]) y = if y = x then some ws.length else idxF ws y
  | [], x, y, _ => by simp [idxF]
  | a :: r, x, y, h => by
    rw [List.cons_append]
    unfold idxF
    have h1 : x ≠ a := fun e => h (by simp [e])
    have h2 : x ∉ r := fun e => h (by simp [e])
    rw [idxF_snoc r x y h2]
    by_cases e : y = a
    · have : y ≠ x := fun e' => h1 (by rw [← e', e])
      simp [e, Ne.symm h1]
    · rw [if_neg e, if_neg e]
      by_cases e' : y = x
      · simp [e']
      · simp [e']
/-- A dictionary's block. -/
def dictO (m : Option Nat) (v : Value) : Obj := .cells #[.map m, v] 98 (0, 0)
theorem dict_cells {w : World} {p : Nat} {m : Option Nat} {v : Value} (h : w.heap[p]? = some (dictO m v)) : w.cell? ⟨p, 0, none⟩ = some (.map m) ∧ w.cell? ⟨p, 1, none⟩ = some v := by
  unfold dictO at h
  exact ⟨by simp [World.cell?, h], by simp [World.cell?, h]⟩
/-- A dictionary that has some words. -/
structure Dic (w0 : Nat) (w : World) (p b : Nat) (v : Value) (ws : List ByteArray) : Prop where
  blk : w.heap[p]? = some (dictO (some b) v)
  map : KMap strX encN w b (idxF ws) ws
  row : w.ownsRow w0 9 1 v ws.length (ws.map Value.string)
  word : ∀ x ∈ ws, isW x = true
theorem isW_fit {x : ByteArray} (h : isW x = true) : x.size ≤ 16 := by
  unfold isW at h
  simp at h
  exact h.1.2
theorem fit_of {x : ByteArray} (h : isW x = true) : strX.fit x := by
  have := isW_fit h
  show x.size ≤ maxLen
  unfold maxLen
  omega
set_option maxRecDepth 100000 in
set_option maxHeartbeats 400000 in
theorem given_nil (w : World) : Calls Tryz.prog 60 #[.pointer none] w fun e w' => e = .returned (.bool false) ∧ w = w' := by
  go_enter Tryz.func60, Tryz.ntmps60
  go_wp2
  go_ret
  exact ⟨rfl, rfl⟩
set_option maxRecDepth 100000 in
set_option maxHeartbeats 400000 in
theorem given_at (w : World) (p : Nat) (m : Option Nat) (h : w.cell? ⟨p, 0, none⟩ = some (.map m)) : Calls Tryz.prog 60 #[.pointer (some ⟨p, 0, none⟩)] w fun e w' => e = .returned (.bool m.isSome) ∧ w = w' := by
  have qT : ∀ (w : World) (r : Option Nat), (binOp .neq 95 (.map r) (.map none)).run Tryz.prog w = .ok (.bool (!r.isNone)) w := fun w r => Go.run_neq_map_nil w _ _ _ r Tryz.underlying95
  cases m with
  | none =>
    go_enter Tryz.func60, Tryz.ntmps60
    go_wp2
    go_ret
    exact ⟨rfl, rfl⟩
  | some a =>
    go_enter Tryz.func60, Tryz.ntmps60
    go_wp2
    go_ret
    exact ⟨rfl, rfl⟩
theorem zeroI (w : World) : (zeroValue 3).run Tryz.prog w = .ok (.int .i64 0) w := Tryz.zeroValue3 w
set_option maxHeartbeats 1000000 in
/-- Id. -/
theorem id_ok {w0 : Nat} {w : World} {p b : Nat} {v : Value} {ws : List ByteArray} (h : Dic w0 w p b v ws) (x : ByteArray) (hx : strX.fit x) :
    Calls Tryz.prog 41 #[.pointer (some ⟨p, 0, none⟩), .string x] w fun e w' => e = .returned (.tuple (match idxF ws x with | some n => #[.int .i64 n, .int .i64 0] | none => #[.int .i64 0, .int .i64 3])) ∧ w = w' := by
  obtain ⟨c0, c1⟩ := dict_cells h.blk
  cases hf : idxF ws x with
  | none =>
    go_enter Tryz.func41, Tryz.ntmps41
    go_wp2_with (first | (go_at_call 60; refine (given_at _ p _ c0).mono ?_; rintro e w' ⟨rfl, rfl⟩) | (at_lookup; refine wpk_ok_none _ rfl _ _ _ rfl Tryz.underlying95 (zeroI _) rfl h.map x hx rfl hf ?_))
    go_ret2
    exact ⟨rfl, rfl⟩
  | some n =>
    go_enter Tryz.func41, Tryz.ntmps41
    go_wp2_with (first | (go_at_call 60; refine (given_at _ p _ c0).mono ?_; rintro e w' ⟨rfl, rfl⟩) | (at_lookup; refine wpk_ok_some _ rfl _ _ _ rfl Tryz.underlying95 (zeroI _) rfl h.map x hx rfl n hf (.int .i64 n) rfl ?_))
    go_ret2
    exact ⟨rfl, rfl⟩
end Go.Proofs.YtcnffgcegimelaaGreat.Wd
