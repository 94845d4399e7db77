/-
  Maps as functions of their keys, whatever the keys and the elements are: made, looked up, stored into, deleted from, counted. Conditions: as each says.
-/
import Derived.Test.YtcnffgcegimelaaGreatSm0
namespace Go.Proofs.YtcnffgcegimelaaGreat.Mp
open Go.RowKit Go.ChangeMaps Go.MapKept Go.WideShapes
open Go.Maps (Keyed)

/-- Keys of a type, as a kind of things. -/
structure KeyX (P : Program) (k : TypeId) (κ : Type) where
  val : κ → Value
  key : κ → Lit
  fit : κ → Prop
  law : Keyed P k
  ok : ∀ {x}, fit x → keyOf P k (val x) = some (key x)
  inj : ∀ {x y}, val x = val y → x = y
section
variable {P : Program} {k : TypeId} {κ α : Type} {X : KeyX P k κ} {ev : α → Value} {w w' : World} {b : Nat} {f : κ → Option α} {L : List κ}
theorem KeyX.key_ne {x y : κ} (hx : X.fit x) (hy : X.fit y) (h : x ≠ y) : X.key x ≠ X.key y := fun e => h (X.inj (X.law.inj (X.ok hx) (by rw [e]; exact X.ok hy)))
theorem KeyX.isKey {x : κ} (hx : X.fit x) : WideAt.IsKeyLit (X.key x) := X.law.key (X.ok hx)
/-- What a map reads as, by its keys. -/
structure DFits (X : KeyX P k κ) (ev : α → Value) (D : DataW Value) (f : κ → Option α) (L : List κ) : Prop where
  has : ∀ x, X.fit x → Maps.has D (X.key x) = (f x).isSome
  at_ : ∀ x, X.fit x → ∀ z, D.atKey (X.key x) z = match f x with | some v => .held (ev v) | none => z
  size : Maps.size D = L.length
  all : ∀ kl, Maps.has D kl = true → ∃ x, X.fit x ∧ X.key x = kl
/-- A map's block: what it has at each key, and which keys it has. -/
structure KMap (X : KeyX P k κ) (ev : α → Value) (w : World) (b : Nat) (f : κ → Option α) (L : List κ) : Prop where
  ex : ∃ D, w.ownsMap P k RV b L.length D ∧ DFits X ev D f L
  nd : L.Nodup
  fit : ∀ x ∈ L, X.fit x
  mem : ∀ x, x ∈ L ↔ (f x).isSome
theorem own_size {D : DataW Value} {n : Nat} (h : w.ownsMap P k RV b n D) : w.ownsMap P k RV b (Maps.size D) D := by
  obtain ⟨es, clock, hb, F, _, hD⟩ := h
  refine ⟨es, clock, hb, F, ?_, hD⟩
  rw [hD]
  have := length_read (P := P) (k := k) (R0 := RV) es
  show es.size ≤ (List.foldr DataW.insert [] _).length
  omega
theorem KMap.kept (h : KMap X ev w b f L) {row : Option Nat} (hg : w.grownBy w' row) (hne : some b ≠ row) : KMap X ev w' b f L := by
  obtain ⟨D, h1, h2⟩ := h.ex
  exact ⟨⟨D, h1.kept hg hne, h2⟩, h.nd, h.fit, h.mem⟩
theorem KMap.lt (h : KMap X ev w b f L) : b < w.heap.size := by
  obtain ⟨D, h1, _⟩ := h.ex
  exact h1.lt
theorem KMap.perm (h : KMap X ev w b f L) {L' : List κ} (hp : L.Perm L') : KMap X ev w b f L' := by
  obtain ⟨D, h1, ⟨h2, h3, h4, h5⟩⟩ := h.ex
  rw [hp.length_eq] at h1 h4
  exact ⟨⟨D, h1, ⟨h2, h3, h4, h5⟩⟩, hp.nodup_iff.1 h.nd, fun x hx => h.fit x (hp.mem_iff.2 hx), fun x => hp.mem_iff.symm.trans (h.mem x)⟩
theorem kmap_made (X : KeyX P k κ) (ev : α → Value) (w : World) : KMap X ev (w.alloc (.map #[] 0)) w.heap.size (fun _ => none) [] :=
  ⟨⟨.map [], World.ownsMap_made w P k RV, ⟨fun x hx => rfl, fun x hx z => rfl, rfl, fun kl h => by simp [Maps.has] at h⟩⟩, List.nodup_nil, fun x hx => absurd hx (by simp), fun x => by simp⟩
/-- m[x], without 'ok'. -/
theorem KMap.look (h : KMap X ev w b f L) {t e : TypeId} (ht : P.underlying t = some (.map k e)) {z : Value} (hz : (zeroValue e).run P w = .ok z w) {x : κ} (hx : X.fit x) :
    (Instr.lookup t (.map (some b)) (X.val x) false).run P w = .ok (match f x with | some v => ev v | none => z) w := by
  obtain ⟨D, h1, ⟨_, h3, _, _⟩⟩ := h.ex
  obtain ⟨v, ps, hrun, hv⟩ := h1.lookup X.law ht hz (zd := .held z) (zp := []) rfl (X.ok hx)
  rw [hrun]
  congr 1
  have := h3 x hx (.held z)
  simp only [RV, Option.some.injEq, Prod.mk.injEq] at hv
  rw [← hv.1] at this
  cases hf : f x with
  | none => rw [hf] at this; injection this
  | some u => rw [hf] at this; injection this
/-- v, ok := m[x]. -/
theorem KMap.look_ok (h : KMap X ev w b f L) {t e : TypeId} (ht : P.underlying t = some (.map k e)) {z : Value} (hz : (zeroValue e).run P w = .ok z w) {x : κ} (hx : X.fit x) :
    (Instr.lookup t (.map (some b)) (X.val x) true).run P w = .ok (.tuple #[(match f x with | some v => ev v | none => z), .bool (f x).isSome]) w := by
  obtain ⟨D, h1, ⟨h2, h3, _, _⟩⟩ := h.ex
  obtain ⟨v, ps, hrun, hv⟩ := h1.look_ok X.law ht hz (zd := .held z) (zp := []) rfl (X.ok hx)
  rw [hrun, h2 x hx]
  have := h3 x hx (.held z)
  simp only [RV, Option.some.injEq, Prod.mk.injEq] at hv
  rw [← hv.1] at this
  cases hf : f x with
  | none => rw [hf] at this; injection this with this; rw [this]
  | some u => rw [hf] at this; injection this with this; rw [this]
/-- len(m). -/
theorem KMap.len (h : KMap X ev w b f L) {t e : TypeId} (ht : P.underlying t = some (.map k e)) (ty : TypeId) : (Builtin.len_ #[t] ty #[.map (some b)]).run P w = .ok (.int .i64 L.length) w := by
  obtain ⟨D, h1, ⟨_, _, h4, _⟩⟩ := h.ex
  rw [h1.len ht ty, h4]
variable [DecidableEq κ]
def upd (f : κ → Option α) (x : κ) (v : Option α) : κ → Option α := fun y => if y = x then v else f y
/-- m[x] = v. -/
theorem KMap.put (h : KMap X ev w b f L) {t e : TypeId} (ht : P.underlying t = some (.map k e)) (hn : L.length < maxLen) {x : κ} (hx : X.fit x) (v : α) :
    ∃ w', (Instr.mapUpdate t (.map (some b)) (X.val x) (ev v)).run P w = .ok () w' ∧ KMap X ev w' b (upd f x (some v)) (if x ∈ L then L else x :: L) ∧ w.mapTurned w' b := by
  obtain ⟨D, h1, ⟨h2, h3, h4, h5⟩⟩ := h.ex
  obtain ⟨w', hrun, ho, hg⟩ := h1.store X.law ht hn (X.ok hx) (d := .held (ev v)) (ps := []) rfl
  have hm := h1.isMap
  have ht' := h1.tidy X.law
  have hk := X.isKey hx
  have hsz : Maps.size (D.put (X.key x) (.held (ev v))) = (if x ∈ L then L else x :: L).length := by
    rw [Maps.size_put ht', h2 x hx, h4]
    by_cases hxl : x ∈ L
    · rw [if_pos ((h.mem x).1 hxl), if_pos hxl]
    · rw [if_neg (fun e => hxl ((h.mem x).2 e)), if_neg hxl, List.length_cons]
  refine ⟨w', hrun, ⟨⟨_, ?_, ⟨fun y hy => ?_, fun y hy z => ?_, hsz, fun kl hh => ?_⟩⟩, ?_, fun y hy => ?_, fun y => ?_⟩, hg⟩
  · have := own_size ho
    rwa [hsz] at this
  · unfold upd
    by_cases e : y = x
    · subst e; rw [if_pos rfl, Maps.has_put_same hm hk]; rfl
    · rw [if_neg e, Maps.has_put_other (X.key_ne hy hx e), h2 y hy]
  · unfold upd
    by_cases e : y = x
    · subst e; rw [if_pos rfl, Maps.atKey_put_same hm hk]
    · rw [if_neg e, Maps.atKey_put_other (X.key_ne hy hx e), h3 y hy]
  · by_cases e : kl = X.key x
    · exact ⟨x, hx, e.symm⟩
    · rw [Maps.has_put_other e] at hh
      exact h5 kl hh
  · split
    · exact h.nd
    · rename_i hxl; exact List.nodup_cons.2 ⟨hxl, h.nd⟩
  · split at hy
    · exact h.fit y hy
    · rcases List.mem_cons.1 hy with rfl | hy
      · exact hx
      · exact h.fit y hy
  · unfold upd
    by_cases e : y = x
    · subst e
      rw [if_pos rfl]
      refine ⟨fun _ => rfl, fun _ => ?_⟩
      split
      · assumption
      · exact List.mem_cons_self
    · rw [if_neg e, ← h.mem y]
      split
      · exact Iff.rfl
      · exact ⟨fun hh => (List.mem_cons.1 hh).resolve_left e, List.mem_cons_of_mem _⟩
/-- delete(m, x). -/
theorem KMap.del (h : KMap X ev w b f L) {t e : TypeId} (ht : P.underlying t = some (.map k e)) {x : κ} (hx : X.fit x) (ty : TypeId) :
    ∃ w', (Builtin.delete_ #[t, k] ty #[.map (some b), X.val x]).run P w = .ok (.tuple #[]) w' ∧ KMap X ev w' b (upd f x none) (L.filter (fun y => decide (y ≠ x))) ∧ w.mapTurned w' b := by
  obtain ⟨D, h1, ⟨h2, h3, h4, h5⟩⟩ := h.ex
  obtain ⟨w', hrun, ho, hg⟩ := h1.drop X.law ht (X.ok hx) ty
  have ht' := h1.tidy X.law
  have hsz : Maps.size (D.del (X.key x)) = (L.filter (fun y => decide (y ≠ x))).length := by
    have e1 := Maps.size_del (k := X.key x) ht'
    rw [h2 x hx, h4] at e1
    have e2 : (L.filter (fun y => decide (y ≠ x))).length + (if x ∈ L then 1 else 0) = L.length := by
      rw [← List.countP_eq_length_filter]
      have e3 := List.length_eq_countP_add_countP (fun y => decide (y ≠ x)) (l := L)
      have e4 : L.countP (fun y => decide ¬decide (y ≠ x) = true) = L.count x := by
        rw [List.count_eq_countP]
        refine List.countP_congr fun y _ => ?_
        simp
      rw [e4] at e3
      have e5 := h.nd.count (a := x)
      rw [e5] at e3
      omega
    by_cases hxl : x ∈ L
    · rw [if_pos ((h.mem x).1 hxl)] at e1
      rw [if_pos hxl] at e2
      omega
    · rw [if_neg (fun e => hxl ((h.mem x).2 e))] at e1
      rw [if_neg hxl] at e2
      omega
  refine ⟨w', hrun, ⟨⟨_, ?_, ⟨fun y hy => ?_, fun y hy z => ?_, hsz, fun kl hh => ?_⟩⟩, h.nd.filter _, fun y hy => h.fit y (List.mem_filter.1 hy).1, fun y => ?_⟩, hg⟩
  · have := own_size ho
    rwa [hsz] at this
  · unfold upd
    by_cases e : y = x
    · subst e; rw [if_pos rfl, Maps.has_del_same]; rfl
    · rw [if_neg e, Maps.has_del_other (X.key_ne hy hx e), h2 y hy]
  · unfold upd
    by_cases e : y = x
    · subst e; rw [if_pos rfl, Maps.atKey_del_same]
    · rw [if_neg e, Maps.atKey_del_other (X.key_ne hy hx e), h3 y hy]
  · by_cases e : kl = X.key x
    · exact ⟨x, hx, e.symm⟩
    · rw [Maps.has_del_other e] at hh
      exact h5 kl hh
  · unfold upd
    rw [List.mem_filter]
    by_cases e : y = x
    · subst e; simp
    · rw [if_neg e, ← h.mem y]; simp [e]
end
end Go.Proofs.YtcnffgcegimelaaGreat.Mp
