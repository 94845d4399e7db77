/-
  Maps whose elements are told as they are: look-up, store, delete, how many. Conditions: as each says.
-/
import Derived.Test.YtcnffgcegimelaaGreatJ0
import Derived.Maps.RangeWalk
import Derived.DeepKeys5
namespace Go.Proofs.YtcnffgcegimelaaGreat.Mp
open Go.RowKit Go.ChangeMaps Go.MapKept
open Go.Maps (Keyed)

/-- An element, told as it is. -/
def RV (v : Value) : Option (DataW Value × List MemPlace) := some (.held v, [])
/-- What a map has at a key. -/
def fOf (D : DataW Value) (kl : Lit) : Option Value := match D with
  | .map es => match es.find? (fun p => p.1.sameKey kl) with
    | some (_, .held v) => some v
    | _ => none
  | _ => none
theorem laidOut : laidOutB Tryz.prog = true := by kernel_rfl
theorem keyT : Keyed Tryz.prog 35 := Keyed.of_law (deep_law_gate laidOut (of_decide_eq_true (by kernel_rfl)) (of_decide_eq_true (by kernel_rfl)) (by kernel_rfl) (by kernel_rfl))
/-- Three words. -/
structure Tri where
  S : ByteArray
  P : ByteArray
  O : ByteArray
deriving DecidableEq, Inhabited
def Tri.val (t : Tri) : Value := .agg #[.string t.S, .string t.P, .string t.O]
/-- Words that are no longer than can be. -/
def Tri.fit (t : Tri) : Prop := t.S.size ≤ maxLen ∧ t.P.size ≤ maxLen ∧ t.O.size ≤ maxLen
def Tri.key (t : Tri) : Lit := .string (keyBytes [.string t.S.data.toList, .string t.P.data.toList, .string t.O.data.toList])
theorem cellsT : Tryz.prog.cellsOf 35 = 3 := by kernel_rfl
theorem cellsS : Tryz.prog.cellsOf 9 = 1 := by kernel_rfl
theorem kt : Tryz.prog.keyType 35 = true := by kernel_rfl
theorem ts : ∃ d, Tryz.prog.types.size + 1 = d + 2 := ⟨Tryz.prog.types.size - 1, by have : 1 ≤ Tryz.prog.types.size := of_decide_eq_true (by kernel_rfl); omega⟩
theorem lit_str (d : Nat) {s : ByteArray} (h : s.size ≤ maxLen) : Tryz.prog.keyLits (d + 1) 9 [.string s] = some [.string s.data.toList] := by
  unfold Program.keyLits
  rw [Tryz.underlying9]
  simp [h]
set_option maxRecDepth 100000 in
theorem tri_key {t : Tri} (h : t.fit) : keyOf Tryz.prog 35 t.val = some t.key := by
  obtain ⟨h1, h2, h3⟩ := h
  obtain ⟨d, hd⟩ := ts
  have hT := Tryz.underlying35
  have hform : t.val.formed Tryz.prog 35 = true := by
    unfold Value.formed Tri.val
    simp [hT, cellsT]
  have hl : Tryz.prog.keyLits (d + 2) 35 [.string t.S, .string t.P, .string t.O] = some [.string t.S.data.toList, .string t.P.data.toList, .string t.O.data.toList] := by
    unfold Program.keyLits
    rw [hT]
    dsimp only
    rw [if_pos ⟨by rw [cellsT]; rfl, by kernel_rfl⟩]
    simp only [List.mapM_cons, List.mapM_nil, cellsS, List.drop_zero, List.drop_succ_cons, List.take_succ_cons, List.take_zero, lit_str d h1, lit_str d h2, lit_str d h3]
    rfl
  unfold keyOf
  rw [hT]
  dsimp only
  rw [kt, hform, hd]
  show Option.map _ (Tryz.prog.keyLits (d + 2) 35 [.string t.S, .string t.P, .string t.O]) = _
  rw [hl]
  rfl
theorem tri_val_inj {a b : Tri} (h : a.val = b.val) : a = b := by
  obtain ⟨a1, a2, a3⟩ := a
  obtain ⟨b1, b2, b3⟩ := b
  simp only [Tri.val, Value.agg.injEq] at h
  simp at h
  obtain ⟨rfl, rfl, rfl⟩ := h
  rfl
theorem tri_key_inj {a b : Tri} (ha : a.fit) (hb : b.fit) (h : a.key = b.key) : a = b :=
  tri_val_inj (keyT.inj (tri_key ha) (by rw [h]; exact tri_key hb))
end Go.Proofs.YtcnffgcegimelaaGreat.Mp
