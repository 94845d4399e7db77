/-
  Joined by wip/tools/merge.py from the texts Sm0 Sm1 Sm2 Sm3. Conditions: as each says.
-/
import Derived.Test.YtcnffgcegimelaaGreatJ0
import Derived.Maps.RangeWalk
import Derived.DeepKeys5
section
/-
  Maps whose elements are told as they are: look-up, store, delete, how many. Conditions: as each says.
-/
namespace Go.Proofs.YtcnffgcegimelaaGreat.Mp
open Go.RowKit Go.ChangeMaps Go.MapKept
open Go.Maps (Keyed)

/-- An element, told as it is. -/
def RV (v : Value) : Option (DataW Value × List MemPlace) := some (.held v, [])
/-- What a map has at a key. -/
def fOf (D : DataW Value) (kl : Lit) : Option Value := match D with
  | .map es => match es.find? (fun p => p.1.sameKey kl) with
    | some (_, .held v) => some v
    | _ => none
  | _ => none
theorem laidOut : laidOutB Tryz.prog = true := by kernel_rfl
theorem keyT : Keyed Tryz.prog 35 := Keyed.of_law (deep_law_gate laidOut (of_decide_eq_true (by kernel_rfl)) (of_decide_eq_true (by kernel_rfl)) (by kernel_rfl) (by kernel_rfl))
/-- Three words. -/
structure Tri where
  S : ByteArray
  P : ByteArray
  O : ByteArray
deriving DecidableEq, Inhabited
def Tri.val (t : Tri) : Value := .agg #[.string t.S, .string t.P, .string t.O]
/-- Words that are no longer than can be. -/
def Tri.fit (t : Tri) : Prop := t.S.size ≤ maxLen ∧ t.P.size ≤ maxLen ∧ t.O.size ≤ maxLen
def Tri.key (t : Tri) : Lit := .string (keyBytes [.string t.S.data.toList, .string t.P.data.toList, .string t.O.data.toList])
theorem cellsT : Tryz.prog.cellsOf 35 = 3 := by kernel_rfl
theorem cellsS : Tryz.prog.cellsOf 9 = 1 := by kernel_rfl
theorem kt : Tryz.prog.keyType 35 = true := by kernel_rfl
theorem ts : ∃ d, Tryz.prog.types.size + 1 = d + 2 := ⟨Tryz.prog.types.size - 1, by have : 1 ≤ Tryz.prog.types.size := of_decide_eq_true (by kernel_rfl); omega⟩
theorem lit_str (d : Nat) {s : ByteArray} (h : s.size ≤ maxLen) : Tryz.prog.keyLits (d + 1) 9 [.string s] = some [.string s.data.toList] := by
  unfold Program.keyLits
  rw [Tryz.underlying9]
  simp [h]
set_option maxRecDepth 100000 in
theorem tri_key {t : Tri} (h : t.fit) : keyOf Tryz.prog 35 t.val = some t.key := by
  obtain ⟨h1, h2, h3⟩ := h
  obtain ⟨d, hd⟩ := ts
  have hT := Tryz.underlying35
  have hform : t.val.formed Tryz.prog 35 = true := by
    unfold Value.formed Tri.val
    simp [hT, cellsT]
  have hl : Tryz.prog.keyLits (d + 2) 35 [.string t.S, .string t.P, .string t.O] = some [.string t.S.data.toList, .string t.P.data.toList, .string t.O.data.toList] := by
    unfold Program.keyLits
    rw [hT]
    dsimp only
    rw [if_pos ⟨by rw [cellsT]; rfl, by kernel_rfl⟩]
    simp only [List.mapM_cons, List.mapM_nil, cellsS, List.drop_zero, List.drop_succ_cons, List.take_succ_cons, List.take_zero, lit_str d h1, lit_str d h2, lit_str d h3]
    rfl
  unfold keyOf
  rw [hT]
  dsimp only
  rw [kt, hform, hd]
  show Option.map _ (Tryz.prog.keyLits (d + 2) 35 [.string t.S, .string t.P, .string t.O]) = _
  rw [hl]
  rfl
theorem tri_val_inj {a b : Tri} (h : a.val = b.val) : a = b := by
  obtain ⟨a1, a2, a3⟩ := a
  obtain ⟨b1, b2, b3⟩ := b
  simp only [Tri.val, Value.agg.injEq] at h
  simp at h
  obtain ⟨rfl, rfl, rfl⟩ := h
  rfl
theorem tri_key_inj {a b : Tri} (ha : a.fit) (hb : b.fit) (h : a.key = b.key) : a = b :=
  tri_val_inj (keyT.inj (tri_key ha) (by rw [h]; exact tri_key hb))
end Go.Proofs.YtcnffgcegimelaaGreat.Mp
end
section
/-
  Maps as functions of their keys, whatever the keys and the elements are: made, looked up, stored into, deleted from, counted. Conditions: as each says.
-/
namespace Go.Proofs.YtcnffgcegimelaaGreat.Mp
open Go.RowKit Go.ChangeMaps Go.MapKept Go.WideShapes
open Go.Maps (Keyed)

/-- Keys of a type, as a kind of things. -/
structure KeyX (P : Program) (k : TypeId) (κ : Type) where
  val : κ → Value
  key : κ → Lit
  fit : κ → Prop
  law : Keyed P k
  ok : ∀ {x}, fit x → keyOf P k (val x) = some (key x)
  inj : ∀ {x y}, val x = val y → x = y
section
variable {P : Program} {k : TypeId} {κ α : Type} {X : KeyX P k κ} {ev : α → Value} {w w' : World} {b : Nat} {f : κ → Option α} {L : List κ}
theorem KeyX.key_ne {x y : κ} (hx : X.fit x) (hy : X.fit y) (h : x ≠ y) : X.key x ≠ X.key y := fun e => h (X.inj (X.law.inj (X.ok hx) (by rw [e]; exact X.ok hy)))
theorem KeyX.isKey {x : κ} (hx : X.fit x) : WideAt.IsKeyLit (X.key x) := X.law.key (X.ok hx)
/-- What a map reads as, by its keys. -/
structure DFits (X : KeyX P k κ) (ev : α → Value) (D : DataW Value) (f : κ → Option α) (L : List κ) : Prop where
  has : ∀ x, X.fit x → Maps.has D (X.key x) = (f x).isSome
  at_ : ∀ x, X.fit x → ∀ z, D.atKey (X.key x) z = match f x with | some v => .held (ev v) | none => z
  size : Maps.size D = L.length
  all : ∀ kl, Maps.has D kl = true → ∃ x, X.fit x ∧ X.key x = kl
/-- A map's block: what it has at each key, and which keys it has. -/
structure KMap (X : KeyX P k κ) (ev : α → Value) (w : World) (b : Nat) (f : κ → Option α) (L : List κ) : Prop where
  ex : ∃ D, w.ownsMap P k RV b L.length D ∧ DFits X ev D f L
  nd : L.Nodup
  fit : ∀ x ∈ L, X.fit x
  mem : ∀ x, x ∈ L ↔ (f x).isSome
theorem own_size {D : DataW Value} {n : Nat} (h : w.ownsMap P k RV b n D) : w.ownsMap P k RV b (Maps.size D) D := by
  obtain ⟨es, clock, hb, F, _, hD⟩ := h
  refine ⟨es, clock, hb, F, ?_, hD⟩
  rw [hD]
  have := length_read (P := P) (k := k) (R0 := RV) es
  show es.size ≤ (List.foldr DataW.insert [] _).length
  omega
theorem KMap.kept (h : KMap X ev w b f L) {row : Option Nat} (hg : w.grownBy w' row) (hne : some b ≠ row) : KMap X ev w' b f L := by
  obtain ⟨D, h1, h2⟩ := h.ex
  exact ⟨⟨D, h1.kept hg hne, h2⟩, h.nd, h.fit, h.mem⟩
theorem KMap.lt (h : KMap X ev w b f L) : b < w.heap.size := by
  obtain ⟨D, h1, _⟩ := h.ex
  exact h1.lt
theorem KMap.perm (h : KMap X ev w b f L) {L' : List κ} (hp : L.Perm L') : KMap X ev w b f L' := by
  obtain ⟨D, h1, ⟨h2, h3, h4, h5⟩⟩ := h.ex
  rw [hp.length_eq] at h1 h4
  exact ⟨⟨D, h1, ⟨h2, h3, h4, h5⟩⟩, hp.nodup_iff.1 h.nd, fun x hx => h.fit x (hp.mem_iff.2 hx), fun x => hp.mem_iff.symm.trans (h.mem x)⟩
theorem kmap_made (X : KeyX P k κ) (ev : α → Value) (w : World) : KMap X ev (w.alloc (.map #[] 0)) w.heap.size (fun _ => none) [] :=
  ⟨⟨.map [], World.ownsMap_made w P k RV, ⟨fun x hx => rfl, fun x hx z => rfl, rfl, fun kl h => by simp [Maps.has] at h⟩⟩, List.nodup_nil, fun x hx => absurd hx (by simp), fun x => by simp⟩
/-- m[x], without 'ok'. -/
theorem KMap.look (h : KMap X ev w b f L) {t e : TypeId} (ht : P.underlying t = some (.map k e)) {z : Value} (hz : (zeroValue e).run P w = .ok z w) {x : κ} (hx : X.fit x) :
    (Instr.lookup t (.map (some b)) (X.val x) false).run P w = .ok (match f x with | some v => ev v | none => z) w := by
  obtain ⟨D, h1, ⟨_, h3, _, _⟩⟩ := h.ex
  obtain ⟨v, ps, hrun, hv⟩ := h1.lookup X.law ht hz (zd := .held z) (zp := []) rfl (X.ok hx)
  rw [hrun]
  congr 1
  have := h3 x hx (.held z)
  simp only [RV, Option.some.injEq, Prod.mk.injEq] at hv
  rw [← hv.1] at this
  cases hf : f x with
  | none => rw [hf] at this; injection this
  | some u => rw [hf] at this; injection this
/-- v, ok := m[x]. -/
theorem KMap.look_ok (h : KMap X ev w b f L) {t e : TypeId} (ht : P.underlying t = some (.map k e)) {z : Value} (hz : (zeroValue e).run P w = .ok z w) {x : κ} (hx : X.fit x) :
    (Instr.lookup t (.map (some b)) (X.val x) true).run P w = .ok (.tuple #[(match f x with | some v => ev v | none => z), .bool (f x).isSome]) w := by
  obtain ⟨D, h1, ⟨h2, h3, _, _⟩⟩ := h.ex
  obtain ⟨v, ps, hrun, hv⟩ := h1.look_ok X.law ht hz (zd := .held z) (zp := []) rfl (X.ok hx)
  rw [hrun, h2 x hx]
  have := h3 x hx (.held z)
  simp only [RV, Option.some.injEq, Prod.mk.injEq] at hv
  rw [← hv.1] at this
  cases hf : f x with
  | none => rw [hf] at this; injection this with this; rw [this]
  | some u => rw [hf] at this; injection this with this; rw [this]
/-- len(m). -/
theorem KMap.len (h : KMap X ev w b f L) {t e : TypeId} (ht : P.underlying t = some (.map k e)) (ty : TypeId) : (Builtin.len_ #[t] ty #[.map (some b)]).run P w = .ok (.int .i64 L.length) w := by
  obtain ⟨D, h1, ⟨_, _, h4, _⟩⟩ := h.ex
  rw [h1.len ht ty, h4]
variable [DecidableEq κ]
def upd (f : κ → Option α) (x : κ) (v : Option α) : κ → Option α := fun y => if y = x then v else f y
/-- m[x] = v. -/
theorem KMap.put (h : KMap X ev w b f L) {t e : TypeId} (ht : P.underlying t = some (.map k e)) (hn : L.length < maxLen) {x : κ} (hx : X.fit x) (v : α) :
    ∃ w', (Instr.mapUpdate t (.map (some b)) (X.val x) (ev v)).run P w = .ok () w' ∧ KMap X ev w' b (upd f x (some v)) (if x ∈ L then L else x :: L) ∧ w.mapTurned w' b := by
  obtain ⟨D, h1, ⟨h2, h3, h4, h5⟩⟩ := h.ex
  obtain ⟨w', hrun, ho, hg⟩ := h1.store X.law ht hn (X.ok hx) (d := .held (ev v)) (ps := []) rfl
  have hm := h1.isMap
  have ht' := h1.tidy X.law
  have hk := X.isKey hx
  have hsz : Maps.size (D.put (X.key x) (.held (ev v))) = (if x ∈ L then L else x :: L).length := by
    rw [Maps.size_put ht', h2 x hx, h4]
    by_cases hxl : x ∈ L
    · rw [if_pos ((h.mem x).1 hxl), if_pos hxl]
    · rw [if_neg (fun e => hxl ((h.mem x).2 e)), if_neg hxl, List.length_cons]
  refine ⟨w', hrun, ⟨⟨_, ?_, ⟨fun y hy => ?_, fun y hy z => ?_, hsz, fun kl hh => ?_⟩⟩, ?_, fun y hy => ?_, fun y => ?_⟩, hg⟩
  · have := own_size ho
    rwa [hsz] at this
  · unfold upd
    by_cases e : y = x
    · subst e; rw [if_pos rfl, Maps.has_put_same hm hk]; rfl
    · rw [if_neg e, Maps.has_put_other (X.key_ne hy hx e), h2 y hy]
  · unfold upd
    by_cases e : y = x
    · subst e; rw [if_pos rfl, Maps.atKey_put_same hm hk]
    · rw [if_neg e, Maps.atKey_put_other (X.key_ne hy hx e), h3 y hy]
  · by_cases e : kl = X.key x
    · exact ⟨x, hx, e.symm⟩
    · rw [Maps.has_put_other e] at hh
      exact h5 kl hh
  · split
    · exact h.nd
    · rename_i hxl; exact List.nodup_cons.2 ⟨hxl, h.nd⟩
  · split at hy
    · exact h.fit y hy
    · rcases List.mem_cons.1 hy with rfl | hy
      · exact hx
      · exact h.fit y hy
  · unfold upd
    by_cases e : y = x
    · subst e
      rw [if_pos rfl]
      refine ⟨fun _ => rfl, fun _ => ?_⟩
      split
      · assumption
      · exact List.mem_cons_self
    · rw [if_neg e, ← h.mem y]
      split
      · exact Iff.rfl
      · exact ⟨fun hh => (List.mem_cons.1 hh).resolve_left e, List.mem_cons_of_mem _⟩
/-- delete(m, x). -/
theorem KMap.del (h : KMap X ev w b f L) {t e : TypeId} (ht : P.underlying t = some (.map k e)) {x : κ} (hx : X.fit x) (ty : TypeId) :
    ∃ w', (Builtin.delete_ #[t, k] ty #[.map (some b), X.val x]).run P w = .ok (.tuple #[]) w' ∧ KMap X ev w' b (upd f x none) (L.filter (fun y => decide (y ≠ x))) ∧ w.mapTurned w' b := by
  obtain ⟨D, h1, ⟨h2, h3, h4, h5⟩⟩ := h.ex
  obtain ⟨w', hrun, ho, hg⟩ := h1.drop X.law ht (X.ok hx) ty
  have ht' := h1.tidy X.law
  have hsz : Maps.size (D.del (X.key x)) = (L.filter (fun y => decide (y ≠ x))).length := by
    have e1 := Maps.size_del (k := X.key x) ht'
    rw [h2 x hx, h4] at e1
    have e2 : (L.filter (fun y => decide (y ≠ x))).length + (if x ∈ L then 1 else 0) = L.length := by
      rw [← List.countP_eq_length_filter]
      have e3 := List.length_eq_countP_add_countP (fun y => decide (y ≠ x)) (l := L)
      have e4 : L.countP (fun y => decide ¬decide (y ≠ x) = true) = L.count x := by
        rw [List.count_eq_countP]
        refine List.countP_congr fun y _ => ?_
        simp
      rw [e4] at e3
      have e5 := h.nd.count (a := x)
      rw [e5] at e3
      omega
    by_cases hxl : x ∈ L
    · rw [if_pos ((h.mem x).1 hxl)] at e1
      rw [if_pos hxl] at e2
      omega
    · rw [if_neg (fun e => hxl ((h.mem x).2 e))] at e1
      rw [if_neg hxl] at e2
      omega
  refine ⟨w', hrun, ⟨⟨_, ?_, ⟨fun y hy => ?_, fun y hy z => ?_, hsz, fun kl hh => ?_⟩⟩, h.nd.filter _, fun y hy => h.fit y (List.mem_filter.1 hy).1, fun y => ?_⟩, hg⟩
  · have := own_size ho
    rwa [hsz] at this
  · unfold upd
    by_cases e : y = x
    · subst e; rw [if_pos rfl, Maps.has_del_same]; rfl
    · rw [if_neg e, Maps.has_del_other (X.key_ne hy hx e), h2 y hy]
  · unfold upd
    by_cases e : y = x
    · subst e; rw [if_pos rfl, Maps.atKey_del_same]
    · rw [if_neg e, Maps.atKey_del_other (X.key_ne hy hx e), h3 y hy]
  · by_cases e : kl = X.key x
    · exact ⟨x, hx, e.symm⟩
    · rw [Maps.has_del_other e] at hh
      exact h5 kl hh
  · unfold upd
    rw [List.mem_filter]
    by_cases e : y = x
    · subst e; simp
    · rw [if_neg e, ← h.mem y]; simp [e]
end
end Go.Proofs.YtcnffgcegimelaaGreat.Mp
end
section
/-
  A loop over a map as a function of its keys: what is still to come is a list of keys; and the keys' kinds: three words, a word, a number. Conditions: as each says.
-/
namespace Go.Proofs.YtcnffgcegimelaaGreat.Mp
open Go.RowKit Go.ChangeMaps Go.MapKept Go.WideShapes
open Go.Maps (Keyed)

section
variable {P : Program} {k : TypeId} {κ α : Type} {X : KeyX P k κ} {ev : α → Value} {w w' : World} {b r : Nat} {f : κ → Option α} {L T : List κ}
/-- A loop over a map under way: T is what is still to come. -/
structure KIter (X : KeyX P k κ) (ev : α → Value) (w : World) (b r : Nat) (f : κ → Option α) (L T : List κ) : Prop where
  ex : ∃ D left cnt, w.ranges P k RV b r L.length D left cnt ∧ DFits X ev D f L ∧ ∀ kl, left kl = true ↔ ∃ x, x ∈ T ∧ X.key x = kl
  nd : L.Nodup
  fit : ∀ x ∈ L, X.fit x
  mem : ∀ x, x ∈ L ↔ (f x).isSome
  ndT : T.Nodup
  sub : ∀ x ∈ T, x ∈ L
theorem KIter.map (h : KIter X ev w b r f L T) : KMap X ev w b f L := by
  obtain ⟨D, left, cnt, h1, h2, _⟩ := h.ex
  exact ⟨⟨D, h1.owns, h2⟩, h.nd, h.fit, h.mem⟩
theorem KIter.ne (h : KIter X ev w b r f L T) : r ≠ b := by
  obtain ⟨D, left, cnt, h1, _⟩ := h.ex
  exact h1.ne
theorem KIter.lt (h : KIter X ev w b r f L T) : r < w.heap.size := by
  obtain ⟨D, left, cnt, h1, _⟩ := h.ex
  exact h1.lt
theorem KIter.kept (h : KIter X ev w b r f L T) {row : Option Nat} (hg : w.grownBy w' row) (hb : some b ≠ row) (hr : some r ≠ row) : KIter X ev w' b r f L T := by
  obtain ⟨D, left, cnt, h1, h2⟩ := h.ex
  exact ⟨⟨D, left, cnt, h1.kept hg hb hr, h2⟩, h.nd, h.fit, h.mem, h.ndT, h.sub⟩
/-- range m. -/
theorem KMap.range (h : KMap X ev w b f L) {t e : TypeId} (ht : P.underlying t = some (.map k e)) :
    ∃ w', (Instr.range t (.map (some b))).run P w = .ok (.pointer (some ⟨w.heap.size, 0, none⟩)) w' ∧ KIter X ev w' b w.heap.size f L L ∧ w.grownBy w' none ∧ w'.heap.size = w.heap.size + 1 := by
  obtain ⟨D, h1, h2⟩ := h.ex
  obtain ⟨w', hrun, hr, hg, hs⟩ := h1.range X.law ht
  refine ⟨w', hrun, ⟨⟨D, _, _, hr, h2, fun kl => ⟨fun hh => ?_, ?_⟩⟩, h.nd, h.fit, h.mem, h.nd, fun x hx => hx⟩, hg, hs⟩
  · obtain ⟨x, hx, he⟩ := h2.all kl hh
    refine ⟨x, (h.mem x).2 ?_, he⟩
    rw [← h2.has x hx, he, hh]
  · rintro ⟨x, hx, rfl⟩
    rw [h2.has x (h.fit x hx)]
    exact (h.mem x).1 hx
variable [DecidableEq κ]
/-- The step. -/
theorem KIter.next (h : KIter X ev w b r f L T) (ty : TypeId) :
    (T = [] ∧ (Instr.next (.pointer (some ⟨r, 0, none⟩)) false ty).run P w = .ok (.tuple #[.bool false]) w) ∨
    ∃ x u w', x ∈ T ∧ f x = some u ∧ X.fit x ∧ (Instr.next (.pointer (some ⟨r, 0, none⟩)) false ty).run P w = .ok (.tuple #[.bool true, X.val x, ev u]) w' ∧
      KIter X ev w' b r f L (T.filter (fun y => decide (y ≠ x))) ∧ w'.rangeLeft b r < w.rangeLeft b r ∧ w.grownBy w' (some r) ∧ w'.heap.size = w.heap.size ∧
      (Instr.entry (.pointer (some ⟨r, 0, none⟩))).run P w' = .ok (.tuple #[X.val x, ev u]) w' := by
  obtain ⟨D, left, cnt, h1, h2, h3⟩ := h.ex
  rcases h1.next X.law ty with ⟨_, h4, hrun⟩ | ⟨key, v, kl, y, w', cnt', hkey, hl, hv, hat, hrun, hrg, hlt, hg, hs, hen⟩
  · left
    refine ⟨List.eq_nil_iff_forall_not_mem.2 fun x hx => ?_, hrun⟩
    have := (h3 (X.key x)).2 ⟨x, hx, rfl⟩
    rw [h4] at this
    exact absurd this (by simp)
  · right
    obtain ⟨x, hx, rfl⟩ := (h3 kl).1 hl
    have hfit := h.fit x (h.sub x hx)
    have hvx : key = X.val x := X.law.inj hkey (X.ok hfit)
    obtain ⟨u, hu⟩ := Option.isSome_iff_exists.1 ((h.mem x).1 (h.sub x hx))
    have e1 := h2.at_ x hfit (.held v)
    rw [hu, hat] at e1
    simp only [RV, Option.some.injEq] at hv
    subst hv
    injection e1 with e1
    subst e1
    subst hvx
    refine ⟨x, u, w', hx, hu, hfit, hrun, ⟨⟨D, _, cnt', hrg, h2, fun z => ?_⟩, h.nd, h.fit, h.mem, h.ndT.filter _, fun y hy => h.sub y (List.mem_filter.1 hy).1⟩, by rw [hrg.left_eq, h1.left_eq]; exact hlt, hg, hs, hen⟩
    simp only [Bool.and_eq_true, Bool.not_eq_true', List.mem_filter, decide_eq_true_eq]
    constructor
    · rintro ⟨hz1, hz2⟩
      obtain ⟨y, hy, rfl⟩ := (h3 z).1 hz1
      refine ⟨y, ⟨hy, fun e => ?_⟩, rfl⟩
      subst e
      rw [WideAt.sameKey_self (X.isKey hfit)] at hz2
      cases hz2
    · rintro ⟨y, ⟨hy, hne⟩, rfl⟩
      refine ⟨(h3 _).2 ⟨y, hy, rfl⟩, ?_⟩
      cases hs' : (X.key y).sameKey (X.key x)
      · rfl
      · exact absurd (WideAt.sameKey_eq hs') (X.key_ne (h.fit y (h.sub y hy)) hfit hne)
end
/-- Three words, as keys. -/
def triX : KeyX Tryz.prog 35 Tri := ⟨Tri.val, Tri.key, Tri.fit, keyT, tri_key, tri_val_inj⟩
/-- A word, as a key. -/
def strX : KeyX Tryz.prog 9 ByteArray := ⟨Value.string, fun s => .string s.data.toList, fun s => s.size ≤ maxLen, Maps.string_keyed Tryz.underlying9, fun h => WideMaps.keyOf_string_mk Tryz.underlying9 h, fun h => by injection h⟩
end Go.Proofs.YtcnffgcegimelaaGreat.Mp
end
section
/-
  Maps as functions of their keys, at the operations of a walk; and which blocks may have been changed. Conditions: as each says.
-/
namespace Go.Proofs.YtcnffgcegimelaaGreat.Mp
open Go.RowKit Go.ChangeMaps Go.MapKept Go.WideShapes
open Go.Maps (Keyed)

section
variable {P : Program} {k e : TypeId} {κ α : Type} {X : KeyX P k κ} {ev : α → Value} (w : World) {b r : Nat} {f : κ → Option α} {L T : List κ} {ops : Array Oper} {rest : List Oper} {o : Oper} {a : Act} {Q : Exit → Act → World → Prop}
/-- m[x]. -/
theorem wpk_look (hg : o.guard = none) (m x : Operand) (t : TypeId) (hop : o.op = Op.lookup t m x false) (ht : P.underlying t = some (.map k e)) {z : Value} (hz : (zeroValue e).run P w = .ok z w)
    (hm : a.eval m = .map (some b)) (h : KMap X ev w b f L) (y : κ) (hy : X.fit y) (hx : a.eval x = X.val y)
    (hK : wpList P ops Q rest (a.put o.dst (match f y with | some v => ev v | none => z)) w) : wpList P ops Q (o :: rest) a w := by
  refine wpList_plain hg fun K' hK' => ?_
  unfold Oper.wp
  simp [execOp, hop, hm, hx, h.look ht hz hy, Result.andThen]
  exact hK' _ _ hK
/-- v, ok := m[x]. -/
theorem wpk_ok (hg : o.guard = none) (m x : Operand) (t : TypeId) (hop : o.op = Op.lookup t m x true) (ht : P.underlying t = some (.map k e)) {z : Value} (hz : (zeroValue e).run P w = .ok z w)
    (hm : a.eval m = .map (some b)) (h : KMap X ev w b f L) (y : κ) (hy : X.fit y) (hx : a.eval x = X.val y)
    (hK : wpList P ops Q rest (a.put o.dst (.tuple #[(match f y with | some v => ev v | none => z), .bool (f y).isSome])) w) : wpList P ops Q (o :: rest) a w := by
  refine wpList_plain hg fun K' hK' => ?_
  unfold Oper.wp
  simp [execOp, hop, hm, hx, h.look_ok ht hz hy, Result.andThen]
  exact hK' _ _ hK
/-- m[x] that is there. -/
theorem wpk_look_some (hg : o.guard = none) (m x : Operand) (t : TypeId) (hop : o.op = Op.lookup t m x false) (ht : P.underlying t = some (.map k e)) {z : Value} (hz : (zeroValue e).run P w = .ok z w)
    (hm : a.eval m = .map (some b)) (h : KMap X ev w b f L) (y : κ) (hy : X.fit y) (hx : a.eval x = X.val y) (u : α) (hf : f y = some u) (uv : Value) (hu : ev u = uv)
    (hK : wpList P ops Q rest (a.put o.dst uv) w) : wpList P ops Q (o :: rest) a w := wpk_look w hg m x t hop ht hz hm h y hy hx (by rw [hf]; subst hu; exact hK)
/-- m[x] that is not there. -/
theorem wpk_look_none (hg : o.guard = none) (m x : Operand) (t : TypeId) (hop : o.op = Op.lookup t m x false) (ht : P.underlying t = some (.map k e)) {z : Value} (hz : (zeroValue e).run P w = .ok z w)
    (hm : a.eval m = .map (some b)) (h : KMap X ev w b f L) (y : κ) (hy : X.fit y) (hx : a.eval x = X.val y) (hf : f y = none)
    (hK : wpList P ops Q rest (a.put o.dst z) w) : wpList P ops Q (o :: rest) a w := wpk_look w hg m x t hop ht hz hm h y hy hx (by rw [hf]; exact hK)
/-- v, ok := m[x] that is there. -/
theorem wpk_ok_some (hg : o.guard = none) (m x : Operand) (t : TypeId) (hop : o.op = Op.lookup t m x true) (ht : P.underlying t = some (.map k e)) {z : Value} (hz : (zeroValue e).run P w = .ok z w)
    (hm : a.eval m = .map (some b)) (h : KMap X ev w b f L) (y : κ) (hy : X.fit y) (hx : a.eval x = X.val y) (u : α) (hf : f y = some u) (uv : Value) (hu : ev u = uv)
    (hK : wpList P ops Q rest (a.put o.dst (.tuple #[uv, .bool true])) w) : wpList P ops Q (o :: rest) a w := wpk_ok w hg m x t hop ht hz hm h y hy hx (by rw [hf]; subst hu; exact hK)
/-- v, ok := m[x] that is not there. -/
theorem wpk_ok_none (hg : o.guard = none) (m x : Operand) (t : TypeId) (hop : o.op = Op.lookup t m x true) (ht : P.underlying t = some (.map k e)) {z : Value} (hz : (zeroValue e).run P w = .ok z w)
    (hm : a.eval m = .map (some b)) (h : KMap X ev w b f L) (y : κ) (hy : X.fit y) (hx : a.eval x = X.val y) (hf : f y = none)
    (hK : wpList P ops Q rest (a.put o.dst (.tuple #[z, .bool false])) w) : wpList P ops Q (o :: rest) a w := wpk_ok w hg m x t hop ht hz hm h y hy hx (by rw [hf]; exact hK)
/-- len(m). -/
theorem wpk_len (hg : o.guard = none) (m : Operand) (t : TypeId) (hop : o.op = Op.call { callee := Callee.builtin Builtin.len, args := #[m], argTypes := #[t] }) (ht : P.underlying t = some (.map k e))
    (hm : a.eval m = .map (some b)) (h : KMap X ev w b f L) (hK : wpList P ops Q rest (a.put o.dst (.int .i64 L.length)) w) : wpList P ops Q (o :: rest) a w := by
  refine wpList_plain hg fun K' hK' => ?_
  unfold Oper.wp
  simp [execOp, hop, resolve, invoke, builtin, hm, h.len ht o.type, Result.andThen]
  exact hK' _ _ hK
/-- range m. -/
theorem wpk_range (hg : o.guard = none) (m : Operand) (t : TypeId) (hop : o.op = Op.range t m) (ht : P.underlying t = some (.map k e)) (hm : a.eval m = .map (some b)) (h : KMap X ev w b f L)
    (hK : ∀ w', KIter X ev w' b w.heap.size f L L → w.grownBy w' none → w'.heap.size = w.heap.size + 1 → wpList P ops Q rest (a.put o.dst (.pointer (some ⟨w.heap.size, 0, none⟩))) w') : wpList P ops Q (o :: rest) a w := by
  refine wpList_plain hg fun K' hK' => ?_
  obtain ⟨w', hrun, r1, r2, r3⟩ := h.range ht
  unfold Oper.wp
  simp [execOp, hop, hm, hrun, Result.andThen]
  exact hK' _ _ (hK w' r1 r2 r3)
variable [DecidableEq κ]
/-- m[x] = v. -/
theorem wpk_put (hg : o.guard = none) (m x v : Operand) (t : TypeId) (hop : o.op = Op.mapUpdate t m x v) (ht : P.underlying t = some (.map k e))
    (hm : a.eval m = .map (some b)) (h : KMap X ev w b f L) (hn : L.length < maxLen) (y : κ) (hy : X.fit y) (u : α) (hx : a.eval x = X.val y) (hv : a.eval v = ev u)
    (hK : ∀ w', KMap X ev w' b (upd f y (some u)) (if y ∈ L then L else y :: L) → w.mapTurned w' b → w.grownBy w' (some b) → wpList P ops Q rest (a.put o.dst undef) w') : wpList P ops Q (o :: rest) a w := by
  refine wpList_plain hg fun K' hK' => ?_
  obtain ⟨w', hrun, r1, r2⟩ := h.put ht hn hy u
  unfold Oper.wp
  simp [execOp, hop, hm, hx, hv, hrun, Result.andThen]
  exact hK' _ _ (hK w' r1 r2 r2.grown)
/-- delete(m, x). -/
theorem wpk_del (hg : o.guard = none) (m x : Operand) (t : TypeId) (hop : o.op = Op.call { callee := Callee.builtin Builtin.delete, args := #[m, x], argTypes := #[t, k] }) (ht : P.underlying t = some (.map k e))
    (hm : a.eval m = .map (some b)) (h : KMap X ev w b f L) (y : κ) (hy : X.fit y) (hx : a.eval x = X.val y)
    (hK : ∀ w', KMap X ev w' b (upd f y none) (L.filter (fun z => decide (z ≠ y))) → w.mapTurned w' b → w.grownBy w' (some b) → wpList P ops Q rest (a.put o.dst (.tuple #[])) w') : wpList P ops Q (o :: rest) a w := by
  refine wpList_plain hg fun K' hK' => ?_
  obtain ⟨w', hrun, r1, r2⟩ := h.del ht hy o.type
  unfold Oper.wp
  simp [execOp, hop, resolve, invoke, builtin, hm, hx, hrun, Result.andThen]
  exact hK' _ _ (hK w' r1 r2 r2.grown)
/-- The step of a loop. -/
theorem wpk_next (hg : o.guard = none) (it : Operand) (hop : o.op = Op.next it false) (hit : a.eval it = .pointer (some ⟨r, 0, none⟩)) (h : KIter X ev w b r f L T)
    (hDone : T = [] → wpList P ops Q rest (a.put o.dst (.tuple #[.bool false])) w)
    (hMore : ∀ (x : κ) (u : α) (w' : World), x ∈ T → f x = some u → X.fit x → KIter X ev w' b r f L (T.filter (fun y => decide (y ≠ x))) → w'.rangeLeft b r < w.rangeLeft b r →
      w.grownBy w' (some r) → w'.heap.size = w.heap.size → (Instr.entry (.pointer (some ⟨r, 0, none⟩))).run P w' = .ok (.tuple #[X.val x, ev u]) w' → wpList P ops Q rest (a.put o.dst (.tuple #[.bool true, X.val x, ev u])) w') : wpList P ops Q (o :: rest) a w := by
  refine wpList_plain hg fun K' hK' => ?_
  unfold Oper.wp
  rcases h.next o.type with ⟨h0, hrun⟩ | ⟨x, u, w', h1, h2, h3, hrun, h4, h5, h6, h7, h8⟩
  · simp [execOp, hop, hit, hrun, Result.andThen]
    exact hK' _ _ (hDone h0)
  · simp [execOp, hop, hit, hrun, Result.andThen]
    exact hK' _ _ (hMore x u w' h1 h2 h3 h4 h5 h6 h7 h8)
end

/-- Of what was there only blocks of D may have been changed. -/
structure Chg (D : Nat → Prop) (w w' : World) : Prop where
  os : w'.os = w.os
  tape : w'.tape = w.tape
  output : w'.output = w.output
  size : w.heap.size ≤ w'.heap.size
  block : ∀ k, k < w.heap.size → ¬ D k → w'.heap[k]? = w.heap[k]?
theorem Chg.refl (D : Nat → Prop) (w : World) : Chg D w w := ⟨rfl, rfl, rfl, Nat.le_refl _, fun _ _ _ => rfl⟩
theorem Chg.trans {D D' : Nat → Prop} {a b c : World} (h : Chg D a b) (k : Chg D' b c) (hD : ∀ i, i < a.heap.size → D' i → D i) : Chg D a c :=
  ⟨k.os.trans h.os, k.tape.trans h.tape, k.output.trans h.output, Nat.le_trans h.size k.size, fun i hi hn => (k.block i (Nat.lt_of_lt_of_le hi h.size) (fun e => hn (hD i hi e))).trans (h.block i hi hn)⟩
theorem Chg.mono {D D' : Nat → Prop} {a b : World} (h : Chg D a b) (hD : ∀ i, i < a.heap.size → D i → D' i) : Chg D' a b := ⟨h.os, h.tape, h.output, h.size, fun i hi hn => h.block i hi (fun e => hn (hD i hi e))⟩
theorem Chg.of_grown {w w' : World} {g : Nat} (h : w.grownBy w' (some g)) : Chg (fun i => i = g) w w' := ⟨h.os, h.tape, h.output, h.size, fun i hi hn => h.block i hi (fun e => hn (Option.some.inj e))⟩
theorem Chg.of_row {w w' : World} {g : Option Nat} (h : w.grownBy w' g) : Chg (fun i => some i = g) w w' := ⟨h.os, h.tape, h.output, h.size, fun i hi hn => h.block i hi hn⟩
theorem Chg.of_below {w w' : World} (D : Nat → Prop) (h : Below w.heap.size w w') : Chg D w w' := ⟨h.os, h.tape, h.output, h.size, fun i hi _ => h.block i hi⟩
theorem Chg.below {D : Nat → Prop} {w0 w w' : World} (h : Below w0.heap.size w0 w) (k : Chg D w w') (hD : ∀ i, D i → w0.heap.size ≤ i) : Below w0.heap.size w0 w' :=
  h.trans ⟨k.os, k.tape, k.output, k.size, fun i hi => k.block i (Nat.lt_of_lt_of_le hi h.size) (fun e => by have := hD i e; omega)⟩
theorem Chg.cell {D : Nat → Prop} {w w' : World} (h : Chg D w w') {a : Addr} {v : Value} (hc : w.cell? a = some v) (hn : ¬ D a.block) : w'.cell? a = some v :=
  (World.cell?_of_block (h.block a.block (World.block_lt_of_cell? w a hc) hn)).trans hc
section
variable {P : Program} {k : TypeId} {κ α : Type} {X : KeyX P k κ} {ev : α → Value} {w w' : World} {b r : Nat} {f : κ → Option α} {L T : List κ}
theorem KMap.same (h : KMap X ev w b f L) (he : w'.heap[b]? = w.heap[b]?) : KMap X ev w' b f L := by
  obtain ⟨D, ⟨es, clock, hb, F⟩, h2⟩ := h.ex
  exact ⟨⟨D, ⟨es, clock, he.trans hb, F⟩, h2⟩, h.nd, h.fit, h.mem⟩
theorem KMap.chg {D : Nat → Prop} (h : KMap X ev w b f L) (c : Chg D w w') (hb : ¬ D b) : KMap X ev w' b f L := h.same (c.block b h.lt hb)
theorem KIter.chg {D : Nat → Prop} (h : KIter X ev w b r f L T) (c : Chg D w w') (hb : ¬ D b) (hr : ¬ D r) : KIter X ev w' b r f L T := by
  have h1 := c.block b h.map.lt hb
  have h2 := c.block r h.lt hr
  obtain ⟨D, left, cnt, ⟨es, clock, since, seen, c0, e1, F, hs, hD, e2, e3⟩, h4⟩ := h.ex
  exact ⟨⟨D, left, cnt, ⟨es, clock, since, seen, c0, h1.trans e1, F, hs, hD, h2.trans e2, e3⟩, h4⟩, h.nd, h.fit, h.mem, h.ndT, h.sub⟩
end
end Go.Proofs.YtcnffgcegimelaaGreat.Mp
end
