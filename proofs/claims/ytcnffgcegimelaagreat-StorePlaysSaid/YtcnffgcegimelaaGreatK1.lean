/-
  Joined by wip/tools/merge.py from the texts Sw0 Sw1 Sw2 Sw3 Sw4. Conditions: as each says.
-/
import Derived.Test.YtcnffgcegimelaaGreatK0
import Derived.Shelf.GgClosure.StringsIndexFuncTop
import Derived.WalkSpells
import Derived.Deep.AppendLies
import Derived.Lib.Hide
import Derived.OneCell
section
/-
  What a word is: words.Is and its literal. Conditions: none.
-/
namespace Go.Proofs.YtcnffgcegimelaaGreat.Wd
open Go.RowKit Go.Shelf Go.Lib

def Tryz.l17_ren : Go.Shelf.Ren := ⟨fun | 17 => 89 | 15 => 103 | 20 => 126 | n => n, fun | 9 => 9 | 23 => 136 | 4 => 4 | 3 => 3 | 0 => 0 | 21 => 21 | n => n, fun | n => n⟩
theorem Tryz.l17 : Go.Proofs.LaysGw.n17 Tryz.prog Tryz.l17_ren := {
  mixed := by kernel_rfl
  f15 := Tryz.func103.trans (congrArg some (by kernel_rfl))
  f17 := Tryz.func89.trans (congrArg some (by kernel_rfl))
  f20 := Tryz.func126.trans (congrArg some (by kernel_rfl))
  t0 := Tryz.underlying0
  a0 := Tryz.isAgg0
  z0 := Tryz.sizeOf0
  v0 := Tryz.zeroValue0
  i0 := by kernel_rfl
  t3 := Tryz.underlying3
  a3 := Tryz.isAgg3
  z3 := Tryz.sizeOf3
  v3 := Tryz.zeroValue3
  i3 := by kernel_rfl
  t4 := Tryz.underlying4
  a4 := Tryz.isAgg4
  z4 := Tryz.sizeOf4
  v4 := Tryz.zeroValue4
  i4 := by kernel_rfl
  t9 := Tryz.underlying9
  a9 := Tryz.isAgg9
  z9 := Tryz.sizeOf9
  v9 := Tryz.zeroValue9
  i9 := by kernel_rfl
  t21 := Tryz.underlying21
  a21 := Tryz.isAgg21
  z21 := Tryz.sizeOf21
  v21 := Tryz.zeroValue21
  i21 := by kernel_rfl
  t23 := Tryz.underlying136
  a23 := Tryz.isAgg136
  z23 := Tryz.sizeOf136
  v23 := Tryz.zeroValue136
  i23 := by kernel_rfl }
/-- A rune that no word has. -/
def oddR (r : Nat) : Bool := (decide (r < 97) || decide (122 < r)) && (decide (r < 48) || decide (57 < r)) && decide (r ≠ 45) && decide (r ≠ 58)
/-- What a word is. -/
def isW (s : ByteArray) : Bool := decide (s.size ≠ 0) && decide (s.size ≤ 16) && !decide (0 ≤ Lib.idxFunc oddR true s)
theorem odd_at (w : World) : PredAt Tryz.prog 88 #[] encR oddR w := fun W r _ => by
  unfold FnGives
  have z1 : (r : Int) < 97 ↔ r < 97 := by omega
  have z2 : (122 : Int) < (r : Int) ↔ 122 < r := by omega
  have z3 : (r : Int) < 48 ↔ r < 48 := by omega
  have z4 : (57 : Int) < (r : Int) ↔ 57 < r := by omega
  have z5 : (r : Int) = 45 ↔ r = 45 := by omega
  have z6 : (r : Int) = 58 ↔ r = 58 := by omega
  by_cases h1 : r < 97 <;> by_cases h2 : 122 < r <;> by_cases h3 : r < 48 <;> by_cases h4 : 57 < r <;> by_cases h5 : r = 45 <;> by_cases h6 : r = 58
  all_goals first
    | (exfalso; omega)
    | (go_enter Tryz.func88, Tryz.ntmps88
       go_wp2
       go_ret
       refine ⟨?_, 0, rfl⟩
       simp [oddR, h1, h2, h3, h4, h5, h6] <;> omega)
theorem loop_ne (s : ByteArray) : ∀ (n i : Nat) (r : List UInt8), s.size - i = n → r ≠ [] → ByteArray.toList.loop s i r ≠ []
  | 0, i, r, hn, hr => by
    unfold ByteArray.toList.loop
    rw [if_neg (by omega)]
    simpa using hr
  | n + 1, i, r, hn, hr => by
    unfold ByteArray.toList.loop
    rw [if_pos (by omega)]
    exact loop_ne s n (i + 1) _ (by omega) (by simp)
theorem toList_ne {s : ByteArray} (h : s.size ≠ 0) : s.toList ≠ [] := by
  unfold ByteArray.toList ByteArray.toList.loop
  rw [if_pos (by omega)]
  exact loop_ne s _ _ _ rfl (by simp)
theorem is_ok (w : World) (s : ByteArray) : Calls Tryz.prog 74 #[.string s] w fun e w' => e = .returned (.bool (isW s)) ∧ Below w.heap.size w w' := by
  have hC := Any.strings_ContainsFunc Tryz.l17 88 #[] (enters_of Tryz.func88 (by kernel_rfl) rfl) oddR s w (odd_at w)
  change Calls Tryz.prog 89 _ _ _ at hC
  obtain ⟨c, hc⟩ : ∃ c, decide (0 ≤ Lib.idxFunc oddR true s) = c := ⟨_, rfl⟩
  unfold isW
  rw [hc] at hC ⊢
  by_cases h1 : s.size = 0
  · obtain rfl := ByteArray.size_eq_zero_iff.1 h1
    go_enter Tryz.func74, Tryz.ntmps74
    go_wp2
    go_ret
    exact ⟨by simp, Below.refl _ w⟩
  · have hl0 : s.toList ≠ [] := toList_ne h1
    have hl : s.toList.isEmpty = false := by cases hh : s.toList with
      | nil => exact absurd hh hl0
      | cons a r => rfl
    by_cases h2 : s.size ≤ 16
    · have h2' : (s.size : Int) ≤ 16 := by omega
      go_enter Tryz.func74, Tryz.ntmps74
      go_wp2_with (go_at_call 89; refine hC.mono ?_; rintro e w' ⟨rfl, hb⟩)
      go_ret
      exact ⟨by simp [h1, h2], hb⟩
    · have h2' : ¬ (s.size : Int) ≤ 16 := by omega
      go_enter Tryz.func74, Tryz.ntmps74
      go_wp2
      go_ret
      exact ⟨by simp, Below.refl _ w⟩
end Go.Proofs.YtcnffgcegimelaaGreat.Wd
end
section
/-
  A dictionary in memory: given, Id, Word. Conditions: the blocks lie as told.
-/
namespace Go.Proofs.YtcnffgcegimelaaGreat.Wd
open Go.RowKit Go.Proofs.YtcnffgcegimelaaGreat.Mp

/-- A number, as an element. -/
def encN (n : Nat) : Value := .int .i64 n
/-- Where a word stands. -/
def idxF : List ByteArray → ByteArray → Option Nat
  | [], _ => none
  | a :: r, x => if x = a then some 0 else (idxF r x).map (· + 1)
theorem idxF_mem : ∀ (ws : List ByteArray) (x : ByteArray), x ∈ ws ↔ (idxF ws x).isSome
  | [], x => by simp [idxF]
  | a :: r, x => by
    unfold idxF
    by_cases e : x = a
    · simp [e]
    · rw [if_neg e, List.mem_cons, Option.isSome_map, ← idxF_mem r x]
      exact ⟨fun h => h.resolve_left e, Or.inr⟩
theorem idxF_at : ∀ (ws : List ByteArray) (x : ByteArray) (n : Nat), idxF ws x = some n → ws[n]? = some x
  | [], x, n, h => by simp [idxF] at h
  | a :: r, x, n, h => by
    unfold idxF at h
    by_cases e : x = a
    · rw [if_pos e] at h
      injection h with h
      subst h
      simp [e]
    · rw [if_neg e] at h
      obtain ⟨m, hm, rfl⟩ := Option.map_eq_some_iff.1 h
      simpa using idxF_at r x m hm
theorem idxF_snoc : ∀ (ws : List ByteArray) (x y : ByteArray), x ∉ ws → idxF (ws ++ [x]) y = if y = x then some ws.length else idxF ws y
  | [], x, y, _ => by simp [idxF]
  | a :: r, x, y, h => by
    rw [List.cons_append]
    unfold idxF
    have h1 : x ≠ a := fun e => h (by simp [e])
    have h2 : x ∉ r := fun e => h (by simp [e])
    rw [idxF_snoc r x y h2]
    by_cases e : y = a
    · have : y ≠ x := fun e' => h1 (by rw [← e', e])
      simp [e, Ne.symm h1]
    · rw [if_neg e, if_neg e]
      by_cases e' : y = x
      · simp [e']
      · simp [e']
/-- A dictionary's block. -/
def dictO (m : Option Nat) (v : Value) : Obj := .cells #[.map m, v] 98 (0, 0)
theorem dict_cells {w : World} {p : Nat} {m : Option Nat} {v : Value} (h : w.heap[p]? = some (dictO m v)) : w.cell? ⟨p, 0, none⟩ = some (.map m) ∧ w.cell? ⟨p, 1, none⟩ = some v := by
  unfold dictO at h
  exact ⟨by simp [World.cell?, h], by simp [World.cell?, h]⟩
/-- A dictionary that has some words. -/
structure Dic (w0 : Nat) (w : World) (p b : Nat) (v : Value) (ws : List ByteArray) : Prop where
  blk : w.heap[p]? = some (dictO (some b) v)
  map : KMap strX encN w b (idxF ws) ws
  row : w.ownsRow w0 9 1 v ws.length (ws.map Value.string)
  word : ∀ x ∈ ws, isW x = true
theorem isW_fit {x : ByteArray} (h : isW x = true) : x.size ≤ 16 := by
  unfold isW at h
  simp at h
  exact h.1.2
theorem fit_of {x : ByteArray} (h : isW x = true) : strX.fit x := by
  have := isW_fit h
  show x.size ≤ maxLen
  unfold maxLen
  omega
set_option maxRecDepth 100000 in
set_option maxHeartbeats 400000 in
theorem given_nil (w : World) : Calls Tryz.prog 60 #[.pointer none] w fun e w' => e = .returned (.bool false) ∧ w = w' := by
  go_enter Tryz.func60, Tryz.ntmps60
  go_wp2
  go_ret
  exact ⟨rfl, rfl⟩
set_option maxRecDepth 100000 in
set_option maxHeartbeats 400000 in
theorem given_at (w : World) (p : Nat) (m : Option Nat) (h : w.cell? ⟨p, 0, none⟩ = some (.map m)) : Calls Tryz.prog 60 #[.pointer (some ⟨p, 0, none⟩)] w fun e w' => e = .returned (.bool m.isSome) ∧ w = w' := by
  have qT : ∀ (w : World) (r : Option Nat), (binOp .neq 95 (.map r) (.map none)).run Tryz.prog w = .ok (.bool (!r.isNone)) w := fun w r => Go.run_neq_map_nil w _ _ _ r Tryz.underlying95
  cases m with
  | none =>
    go_enter Tryz.func60, Tryz.ntmps60
    go_wp2
    go_ret
    exact ⟨rfl, rfl⟩
  | some a =>
    go_enter Tryz.func60, Tryz.ntmps60
    go_wp2
    go_ret
    exact ⟨rfl, rfl⟩
theorem zeroI (w : World) : (zeroValue 3).run Tryz.prog w = .ok (.int .i64 0) w := Tryz.zeroValue3 w
set_option maxHeartbeats 1000000 in
/-- Id. -/
theorem id_ok {w0 : Nat} {w : World} {p b : Nat} {v : Value} {ws : List ByteArray} (h : Dic w0 w p b v ws) (x : ByteArray) (hx : strX.fit x) :
    Calls Tryz.prog 41 #[.pointer (some ⟨p, 0, none⟩), .string x] w fun e w' => e = .returned (.tuple (match idxF ws x with | some n => #[.int .i64 n, .int .i64 0] | none => #[.int .i64 0, .int .i64 3])) ∧ w = w' := by
  obtain ⟨c0, c1⟩ := dict_cells h.blk
  cases hf : idxF ws x with
  | none =>
    go_enter Tryz.func41, Tryz.ntmps41
    go_wp2_with (first | (go_at_call 60; refine (given_at _ p _ c0).mono ?_; rintro e w' ⟨rfl, rfl⟩) | (at_lookup; refine wpk_ok_none _ rfl _ _ _ rfl Tryz.underlying95 (zeroI _) rfl h.map x hx rfl hf ?_))
    go_ret2
    exact ⟨rfl, rfl⟩
  | some n =>
    go_enter Tryz.func41, Tryz.ntmps41
    go_wp2_with (first | (go_at_call 60; refine (given_at _ p _ c0).mono ?_; rintro e w' ⟨rfl, rfl⟩) | (at_lookup; refine wpk_ok_some _ rfl _ _ _ rfl Tryz.underlying95 (zeroI _) rfl h.map x hx rfl n hf (.int .i64 n) rfl ?_))
    go_ret2
    exact ⟨rfl, rfl⟩
end Go.Proofs.YtcnffgcegimelaaGreat.Wd
end
section
/-
  A dictionary in memory: Word, Put of a word that is there. Conditions: the blocks lie as told.
-/
namespace Go.Proofs.YtcnffgcegimelaaGreat.Wd
open Go.RowKit Go.Proofs.YtcnffgcegimelaaGreat.Mp

theorem Dic.slice {w0 : Nat} {w : World} {p b : Nat} {v : Value} {ws : List ByteArray} (h : Dic w0 w p b v ws) : ∃ A c, v = .slice A ws.length c := by
  obtain ⟨_, ⟨h1, h2⟩ | ⟨g, cap, cur, h1, _⟩⟩ := h.row
  · exact ⟨none, 0, by rw [h1, h2]⟩
  · exact ⟨_, _, h1⟩
theorem Dic.pb {w0 : Nat} {w : World} {p b : Nat} {v : Value} {ws : List ByteArray} (h : Dic w0 w p b v ws) : p ≠ b := by
  intro e
  obtain ⟨D, ⟨es, clock, hb, _⟩, _⟩ := h.map.ex
  have := h.blk
  rw [e, hb] at this
  unfold dictO at this
  cases this
theorem Dic.pv {w0 : Nat} {w : World} {p b : Nat} {v : Value} {ws : List ByteArray} (h : Dic w0 w p b v ws) : v.ownBlock ≠ some p := by
  intro e
  obtain ⟨_, ⟨h1, h2⟩ | ⟨g, cap, cur, h1, _, h3, _⟩⟩ := h.row
  · rw [h1] at e; cases e
  · rw [h1] at e
    injection e with e
    have e' : g = p := e
    have := h.blk
    rw [← e', h3] at this
    unfold dictO at this
    injection this with this
    injection this with _ h _
    exact absurd h (by decide)
theorem Dic.bv {w0 : Nat} {w : World} {p b : Nat} {v : Value} {ws : List ByteArray} (h : Dic w0 w p b v ws) : v.ownBlock ≠ some b := by
  intro e
  obtain ⟨_, ⟨h1, h2⟩ | ⟨g, cap, cur, h1, _, h3, _⟩⟩ := h.row
  · rw [h1] at e; cases e
  · rw [h1] at e
    injection e with e
    have e' : g = b := e
    obtain ⟨D, ⟨es, clock, hb, _⟩, _⟩ := h.map.ex
    rw [← e', h3] at hb
    cases hb
theorem row_same {w w' : World} {base : Nat} {e : TypeId} {k : Nat} {v : Value} {n : Nat} {xs : List Value} (h : w.ownsRow base e k v n xs) (he : ∀ g, v.ownBlock = some g → w'.heap[g]? = w.heap[g]?) : w'.ownsRow base e k v n xs := by
  obtain ⟨h0, h1 | ⟨g, cap, cur, h1, h2, h3, h4⟩⟩ := h
  · exact ⟨h0, Or.inl h1⟩
  · exact ⟨h0, Or.inr ⟨g, cap, cur, h1, h2, (he g (by rw [h1]; rfl)).trans h3, h4⟩⟩
theorem Dic.chg {D : Nat → Prop} {w0 : Nat} {w w' : World} {p b : Nat} {v : Value} {ws : List ByteArray} (h : Dic w0 w p b v ws) (c : Chg D w w') (h1 : ¬ D p) (h2 : ¬ D b) (h3 : ∀ g, v.ownBlock = some g → ¬ D g) : Dic w0 w' p b v ws :=
  ⟨(c.block p (Array.getElem?_eq_some_iff.1 h.blk).1 h1).trans h.blk, h.map.chg c h2, row_same h.row (fun g hg => c.block g (h.row.lt g hg).2 (h3 g hg)), h.word⟩
theorem Dic.below {w0 : Nat} {w w' : World} {p b : Nat} {v : Value} {ws : List ByteArray} (h : Dic w0 w p b v ws) (c : Below w.heap.size w w') : Dic w0 w' p b v ws :=
  h.chg (Chg.of_below (fun _ => False) c) (fun e => e) (fun e => e) (fun _ _ e => e)
set_option maxRecDepth 100000 in
set_option maxHeartbeats 1000000 in
/-- Word. -/
theorem word_ok {w0 : Nat} {w : World} {p b : Nat} {v : Value} {ws : List ByteArray} (h : Dic w0 w p b v ws) (n : Nat) (x : ByteArray) (hx : ws[n]? = some x) :
    Calls Tryz.prog 68 #[.pointer (some ⟨p, 0, none⟩), .int .i64 n] w fun e w' => e = .returned (.tuple #[.string x, .int .i64 0]) ∧ w = w' := by
  obtain ⟨c0, c1⟩ := dict_cells h.blk
  obtain ⟨_, ⟨h1, h2⟩ | ⟨g, cap, cur, h1, _⟩⟩ := h.row
  · rw [List.length_eq_zero_iff.1 h2] at hx
    simp at hx
  · have hc := h.row.cells (by rw [h1]; rfl) n (.string x) (by rw [List.getElem?_map, hx]; rfl)
    have hadd : (⟨g, 0, none⟩ : Addr).add n = ⟨g, n, none⟩ := by unfold Addr.add; split <;> simp_all
    rw [hadd] at hc
    have hn := (List.getElem?_eq_some_iff.1 hx).1
    obtain ⟨N, hN⟩ : ∃ N, ws.length = N := ⟨_, rfl⟩
    rw [hN] at h1 hn
    subst h1
    have n0 : ¬ (n : Int) < 0 := by omega
    have n1 : ¬ (N : Int) ≤ (n : Int) := by omega
    have n2 : (n : Int) < (N : Int) := by omega
    have n3 : (0 : Int) ≤ (n : Int) := by omega
    go_enter Tryz.func68, Tryz.ntmps68
    go_wp2_with (go_at_call 60; refine (given_at _ p _ c0).mono ?_; rintro e w' ⟨rfl, rfl⟩)
    go_ret2
    exact ⟨rfl, rfl⟩
set_option maxRecDepth 100000 in
set_option maxHeartbeats 1000000 in
/-- Put of a word that is there. -/
theorem put_old {w0 : Nat} {w : World} {p b : Nat} {v : Value} {ws : List ByteArray} (h : Dic w0 w p b v ws) (x : ByteArray) (hw : isW x = true) (n : Nat) (hf : idxF ws x = some n) :
    Calls Tryz.prog 58 #[.pointer (some ⟨p, 0, none⟩), .string x] w fun e w' => e = .returned (.tuple #[.int .i64 n, .int .i64 0]) ∧ Below w.heap.size w w' := by
  obtain ⟨c0, c1⟩ := dict_cells h.blk
  have hC := is_ok w x
  rw [hw] at hC
  go_enter Tryz.func58, Tryz.ntmps58
  go_wp2_with (first | (go_at_call 60; refine (given_at _ p _ c0).mono ?_; rintro e w' ⟨rfl, rfl⟩) | (go_at_call 74; refine hC.mono ?_; rintro e w1 ⟨rfl, hb⟩; have H1 := Lib.hid (h.below hb); have d0 := (dict_cells H1.out.blk).1) | (at_lookup; refine wpk_ok_some _ rfl _ _ _ rfl Tryz.underlying95 (zeroI _) rfl H1.out.map x (fit_of hw) rfl n hf (.int .i64 n) rfl ?_))
  go_ret2
  exact ⟨rfl, hb⟩
end Go.Proofs.YtcnffgcegimelaaGreat.Wd
end
section
/-
  A dictionary in memory: Put of a new word. Conditions: the blocks lie as told.
-/
namespace Go.Proofs.YtcnffgcegimelaaGreat.Wd
open Go.RowKit Go.Proofs.YtcnffgcegimelaaGreat.Mp

theorem heap_free {W : World} {b : Nat} {cs : Array Value} {t : TypeId} (h : W.heap[b]? = some (.cells cs t (0, 0))) (i : Nat) : W.frozen? ⟨b, i, none⟩ = false := by
  simp [World.frozen?, h]
theorem dict_free {w : World} {p : Nat} {m : Option Nat} {v : Value} (h : w.heap[p]? = some (dictO m v)) : w.frozen? ⟨p, 1, none⟩ = false := heap_free h 1
theorem grown_block {w w' : World} {row : Option Nat} (h : w.grownBy w' row) {i : Nat} {o : Obj} (hb : w.heap[i]? = some o) (hne : row ≠ some i) : w'.heap[i]? = some o :=
  (h.block i (Array.getElem?_eq_some_iff.1 hb).1 (fun e => hne e.symm)).trans hb
theorem alloc_block (w : World) {i : Nat} {o : Obj} (hb : w.heap[i]? = some o) (o' : Obj) : (w.alloc o').heap[i]? = some o :=
  ((MapKept.heap_alloc w o').2 i (Array.getElem?_eq_some_iff.1 hb).1).trans hb
theorem heap_set (w : World) (g k : Nat) (cs : Array Value) (e : TypeId) (u : Value) (h : w.heap[g]? = some (.cells cs e (0, 0))) : (w.setCell ⟨g, k, none⟩ u).heap[g]? = some (.cells (cs.setIfInBounds k u) e (0, 0)) := by
  simp only [World.setCell, Array.getElem?_modify, if_true, h]
  rfl
theorem grown_set (w : World) (g k : Nat) (u : Value) : w.grownBy (w.setCell ⟨g, k, none⟩ u) (some g) :=
  ⟨rfl, rfl, rfl, by simp [World.setCell], fun i _ hne => Below.heap_setCell w ⟨g, k, none⟩ u i (fun e => hne (by rw [e]))⟩
set_option maxRecDepth 100000 in
set_option maxHeartbeats 3200000 in
/-- Put of a new word. -/
theorem put_new {w0 : Nat} {w : World} {p b : Nat} {v : Value} {ws : List ByteArray} (h : Dic w0 w p b v ws) (h0 : w0 ≤ w.heap.size) (hL : ws.length ≤ 1000000) (x : ByteArray) (hw : isW x = true) (hf : idxF ws x = none) :
    Calls Tryz.prog 58 #[.pointer (some ⟨p, 0, none⟩), .string x] w fun e w' => e = .returned (.tuple #[.int .i64 ws.length, .int .i64 0]) ∧ ∃ v', Dic w0 w' p b v' (ws ++ [x]) ∧ Chg (fun i => i = p ∨ i = b ∨ some i = v.ownBlock) w w' ∧ (v'.ownBlock = v.ownBlock ∨ ∀ g, v'.ownBlock = some g → w.heap.size ≤ g) := by
  obtain ⟨c0, c1⟩ := dict_cells h.blk
  have hC := is_ok w x
  rw [hw] at hC
  obtain ⟨A, cp, hv⟩ := h.slice
  obtain ⟨N, hN⟩ : ∃ N, ws.length = N := ⟨_, rfl⟩
  have hxs : x ∉ ws := fun e => by
    have := (idxF_mem ws x).1 e
    rw [hf] at this
    cases this
  obtain ⟨i0, hi, hz⟩ := Option.map_eq_some_iff.1 (show (Tryz.prog.info? 9).map (fun i => (i.zero, i.size, i.bytes)) = some (some (.string ByteArray.empty), 1, 16) by kernel_rfl)
  simp only [Prod.mk.injEq] at hz
  have HZ := Lib.hid hz
  have hL' : N ≤ 1000000 := hN ▸ hL
  have HL := Lib.hid hL'
  have HV := Lib.hid hv
  have HN := Lib.hid hN
  have H := Lib.hid h
  clear hz hL hL' hv hN h
  have c1' : w.cell? ⟨p, 1, none⟩ = some (.slice A N cp) := by rw [c1, HV.out, HN.out]
  clear c1
  have hvp : (Value.slice A N cp).ownBlock ≠ some p := by have := H.out.pv; rwa [HV.out, HN.out] at this
  have HVP := Lib.hid hvp
  clear hvp
  go_enter Tryz.func58, Tryz.ntmps58
  go_wp2_with (first | (go_at_call 60; refine (given_at _ p _ c0).mono ?_; rintro e w' ⟨rfl, rfl⟩) | (go_at_call 74; refine hC.mono ?_; rintro e w1 ⟨rfl, hb⟩; have H1 := Lib.hid (H.out.below hb); have d0 := (dict_cells H1.out.blk).1; have d1 := (dict_cells H1.out.blk).2; rw [HV.out, HN.out] at d1) | (at_lookup; refine wpk_ok_none _ rfl _ _ _ rfl Tryz.underlying95 (zeroI _) rfl H1.out.map x (fit_of hw) rfl hf ?_) | (at_mapUpdate; refine wpk_put _ rfl _ _ _ _ rfl Tryz.underlying95 rfl H1.out.map (by have := HL.out; have := HN.out; unfold maxLen; omega) x (fit_of hw) N rfl rfl ?_; intro w2 hm2 ht2 hg2; have B2 := Lib.hid (grown_block hg2 H1.out.blk (fun e => H1.out.pb (Option.some.inj e).symm)); have e0 := (dict_cells B2.out).1; have e1 := (dict_cells B2.out).2; rw [HV.out, HN.out] at e1; have r2 := H1.out.row.kept hg2 (Or.inr H1.out.bv); rw [HV.out, HN.out] at r2; have R2 := Lib.hid r2; have S2 := Lib.hid (Nat.le_trans h0 (Nat.le_trans hb.size hg2.size)); have M2 := Lib.hid (And.intro hm2 (And.intro ht2 hg2)); clear r2 hm2 ht2 hg2) | (at_builtin; refine wpList_append_lies _ rfl _ _ _ rfl w0 9 i0 _ 1 16 Tryz.underlying96 hi HZ.out.1 HZ.out.2.1 HZ.out.2.2 rfl (by omega) (.slice A N cp) N (ws.map Value.string) rfl (R2.out.alloc _) ⟨w2.heap.size, 0, none⟩ 1 1 [.string x] rfl rfl (World.news_of_block (cs := #[.string x]) (t := 9) (fr := (0, 0)) (heap_alloc_new w2 _)) (by simp [Value.oneCell']) (by omega) (by have := HL.out; unfold maxLen; omega) (by have := HL.out; omega) (Nat.le_trans S2.out (by rw [World.size_alloc]; exact Nat.le_succ _)) (w2.heap.size + 1) (by simp) ?_; intro g cp4 w4 hown4 hgrow hat hlt4; have B4 := Lib.hid (grown_block hgrow (alloc_block w2 B2.out _) HVP.out); have g1 := (dict_cells B4.out).2; rw [HV.out, HN.out] at g1; have g2 := dict_free B4.out; have A4 := Lib.hid (And.intro hown4 (And.intro hgrow (And.intro hat hlt4))); clear hown4 hgrow hat hlt4))
  go_ret2
  obtain ⟨hm2, ht2, hg2⟩ := M2.out
  obtain ⟨hown4, hgrow, hat, hlt4⟩ := A4.out
  have hV := HV.out
  have hN := HN.out
  have b4 := B4.out
  have hpb := H1.out.pb
  have hp1 := (Array.getElem?_eq_some_iff.1 H1.out.blk).1
  have hbv := H1.out.bv
  have hvp := HVP.out
  rw [hV, hN] at hbv
  have hgp : g ≠ p := by
    rcases hat with e | e
    · intro e'; exact hvp (by rw [e, e'])
    · have := hg2.size; omega
  have e1 : upd (idxF ws) x (some N) = idxF (ws ++ [x]) := by
    funext y
    unfold upd
    rw [idxF_snoc ws x y hxs, hN]
  rw [e1, if_neg hxs] at hm2
  have hm4 := ((((hm2.perm (List.perm_append_singleton x ws).symm).kept (World.grownBy_alloc w2 (.cells #[.string x] 9 (0, 0)) none) (by simp)).kept hgrow (Ne.symm hbv)).kept (grown_set w4 p 1 (.slice (some ⟨g, 0, none⟩) (N + 1) cp4)) (fun e => hpb (Option.some.inj e).symm))
  refine ⟨by rw [hN]; rfl, .slice (some ⟨g, 0, none⟩) (N + 1) cp4, ⟨?_, hm4, ?_, ?_⟩, ?_, ?_⟩
  · exact heap_set w4 p 1 _ _ _ b4
  · rw [List.length_append, List.length_singleton, hN, List.map_append]
    exact ownsRow_setCell_other hown4 (a := ⟨p, 1, none⟩) (fun e => hgp (by have e' : some g = some p := e; exact Option.some.inj e')) _
  · intro y hy
    rcases List.mem_append.1 hy with hy | hy
    · exact H.out.word y hy
    · rw [List.mem_singleton.1 hy]; exact hw
  · rw [hV, hN]
    have k1 := Chg.of_below (fun i => i = p ∨ i = b ∨ some i = (Value.slice A N cp).ownBlock) hb
    have k2 := k1.trans (Chg.of_grown hg2) (fun i _ e => Or.inr (Or.inl e))
    have k3 := k2.trans (Chg.of_row (World.grownBy_alloc w2 (.cells #[.string x] 9 (0, 0)) none)) (fun i _ e => by cases e)
    have k4 := k3.trans (Chg.of_row hgrow) (fun i _ e => Or.inr (Or.inr e))
    exact k4.trans (Chg.of_grown (grown_set w4 p 1 (.slice (some ⟨g, 0, none⟩) (N + 1) cp4))) (fun i _ e => Or.inl e)
  · rw [hV, hN]
    rcases hat with e | e
    · exact Or.inl e.symm
    · refine Or.inr fun g' hg' => ?_
      have h1 : g = g' := Option.some.inj hg'
      have h2 := hg2.size
      have h3 := hb.size
      omega
end Go.Proofs.YtcnffgcegimelaaGreat.Wd
end
section
/-
  A dictionary that is made; and what a triple of words is. Conditions: as each says.
-/
namespace Go.Proofs.YtcnffgcegimelaaGreat.Wd
open Go.RowKit Go.Proofs.YtcnffgcegimelaaGreat.Mp

set_option maxRecDepth 100000 in
set_option maxHeartbeats 1000000 in
/-- New. -/
theorem new_ok (w : World) (w0 : Nat) : Calls Tryz.prog 30 #[] w fun e w' => e = .returned (.pointer (some ⟨w.heap.size + 1, 0, none⟩)) ∧ Dic w0 w' (w.heap.size + 1) w.heap.size (.slice none 0 0) [] ∧ Below w.heap.size w w' ∧ w'.heap.size = w.heap.size + 2 := by
  have hmm := @run_makeMap Tryz.prog
  go_enter Tryz.func30, Tryz.ntmps30
  go_wp2
  go_ret
  refine ⟨by simp, ⟨?_, ?_, ?_, fun x hx => absurd hx (by simp)⟩, ?_, by simp⟩
  · have := heap_alloc_new (w.alloc (.map #[] 0)) (dictO (some w.heap.size) (.slice none 0 0))
    rw [World.size_alloc] at this
    exact this
  · have := (kmap_made strX encN w).kept (World.grownBy_alloc _ (dictO (some w.heap.size) (.slice none 0 0)) none) (by simp)
    exact this
  · exact World.ownsRow_nil _ _ _ _
  · exact ((Below.refl _ w).alloc (Nat.le_refl _) _).alloc (by simp) _
/-- Three words are words. -/
def isT (t : Tri) : Bool := isW t.S && isW t.P && isW t.O
theorem isT_fit {t : Tri} (h : isT t = true) : t.fit := by
  unfold isT at h
  simp only [Bool.and_eq_true] at h
  exact ⟨fit_of h.1.1, fit_of h.1.2, fit_of h.2⟩
set_option maxRecDepth 100000 in
set_option maxHeartbeats 3200000 in
/-- fact. -/
theorem fact_ok (w : World) (t : Tri) : Calls Tryz.prog 53 #[t.val] w fun e w' => e = .returned (.bool (isT t)) ∧ Below w.heap.size w w' := by
  obtain ⟨s, p, o⟩ := t
  have hC := fun W x => is_ok W x
  unfold isT Tri.val
  dsimp only
  obtain ⟨x1, hx1⟩ : ∃ c, isW s = c := ⟨_, rfl⟩
  obtain ⟨x2, hx2⟩ : ∃ c, isW p = c := ⟨_, rfl⟩
  obtain ⟨x3, hx3⟩ : ∃ c, isW o = c := ⟨_, rfl⟩
  have C1 := fun W => is_ok W s
  have C2 := fun W => is_ok W p
  have C3 := fun W => is_ok W o
  rw [hx1, hx2, hx3]
  simp only [hx1, hx2, hx3] at C1 C2 C3
  have b0 : (w.alloc (.cells #[.string s, .string p, .string o] 35 (0, 0))).heap[w.heap.size]? = some (.cells #[.string s, .string p, .string o] 35 (0, 0)) := heap_alloc_new w _
  have B0 := Lib.hid b0
  clear b0 hC
  have cut : ∀ W, Below (w.heap.size + 1) (w.alloc (.cells #[.string s, .string p, .string o] 35 (0, 0))) W → W.cell? ⟨w.heap.size, 0, none⟩ = some (.string s) ∧ W.cell? ⟨w.heap.size, 1, none⟩ = some (.string p) ∧ W.cell? ⟨w.heap.size, 2, none⟩ = some (.string o) := fun W hW => by
    have e : W.heap[w.heap.size]? = some (.cells #[.string s, .string p, .string o] 35 (0, 0)) := (hW.block _ (by omega)).trans B0.out
    exact ⟨by simp [World.cell?, e], by simp [World.cell?, e], by simp [World.cell?, e]⟩
  cases x1 <;> cases x2 <;> cases x3
  all_goals
    go_enter Tryz.func53, Tryz.ntmps53
    go_wp2_with (first | (go_at_call 74; with_reducible refine (C1 _).mono ?_; rintro e w1 ⟨rfl, hb1⟩; have HB1 := Lib.hid (hb1.mono (by simp) : Below (w.heap.size + 1) _ w1); obtain ⟨_, q1, q2⟩ := cut _ HB1.out; clear hb1) | (go_at_call 74; with_reducible refine (C2 _).mono ?_; rintro e w2 ⟨rfl, hb2⟩; have HB2 := Lib.hid (HB1.out.trans (hb2.mono (by have := HB1.out.size; simp at this; omega))); obtain ⟨_, _, q3⟩ := cut _ HB2.out; clear hb2) | (go_at_call 74; with_reducible refine (C3 _).mono ?_; rintro e w3 ⟨rfl, hb3⟩; have HB3 := Lib.hid (HB2.out.trans (hb3.mono (by have := HB2.out.size; simp at this; omega))); clear hb3))
    go_ret
    refine ⟨rfl, ((Below.refl _ w).alloc (Nat.le_refl _) (.cells #[.string s, .string p, .string o] 35 (0, 0))).trans ?_⟩
    first | exact HB3.out.mono (by simp) | exact HB2.out.mono (by simp) | exact HB1.out.mono (by simp)
end Go.Proofs.YtcnffgcegimelaaGreat.Wd
end
