/-
  A loop over a map as a function of its keys: what is still to come is a list of keys; and the keys' kinds: three words, a word, a number. Conditions: as each says.
-/
import Derived.Test.YtcnffgcegimelaaGreatSm1
namespace Go.Proofs.YtcnffgcegimelaaGreat.Mp
open Go.RowKit Go.ChangeMaps Go.MapKept Go.WideShapes
open Go.Maps (Keyed)

section
variable {P : Program} {k : TypeId} {κ α : Type} {X : KeyX P k κ} {ev : α → Value} {w w' : World} {b r : Nat} {f : κ → Option α} {L T : List κ}
/-- A loop over a map under way: T is what is still to come. -/
structure KIter (X : KeyX P k κ) (ev : α → Value) (w : World) (b r : Nat) (f : κ → Option α) (L T : List κ) : Prop where
  ex : ∃ D left cnt, w.ranges P k RV b r L.length D left cnt ∧ DFits X ev D f L ∧ ∀ kl, left kl = true ↔ ∃ x, x ∈ T ∧ X.key x = kl
  nd : L.Nodup
  fit : ∀ x ∈ L, X.fit x
  mem : ∀ x, x ∈ L ↔ (f x).isSome
  ndT : T.Nodup
  sub : ∀ x ∈ T, x ∈ L
theorem KIter.map (h : KIter X ev w b r f L T) : KMap X ev w b f L := by
  obtain ⟨D, left, cnt, h1, h2, _⟩ := h.ex
  exact ⟨⟨D, h1.owns, h2⟩, h.nd, h.fit, h.mem⟩
theorem KIter.ne (h : KIter X ev w b r f L T) : r ≠ b := by
  obtain ⟨D, left, cnt, h1, _⟩ := h.ex
  exact h1.ne
theorem KIter.lt (h : KIter X ev w b r f L T) : r < w.heap.size := by
  obtain ⟨D, left, cnt, h1, _⟩ := h.ex
  exact h1.lt
theorem KIter.kept (h : KIter X ev w b r f L T) {row : Option Nat} (hg : w.grownBy w' row) (hb : some b ≠ row) (hr : some r ≠ row) : KIter X ev w' b r f L T := by
  obtain ⟨D, left, cnt, h1, h2⟩ := h.ex
  exact ⟨⟨D, left, cnt, h1.kept hg hb hr, h2⟩, h.nd, h.fit, h.mem, h.ndT, h.sub⟩
/-- range m. -/
theorem KMap.range (h : KMap X ev w b f L) {t e : TypeId} (ht : P.underlying t = some (.map k e)) :
    ∃ w', (Instr.range t (.map (some b))).run P w = .ok (.pointer (some ⟨w.heap.size, 0, none⟩)) w' ∧ KIter X ev w' b w.heap.size f L L ∧ w.grownBy w' none ∧ w'.heap.size = w.heap.size + 1 := by
  obtain ⟨D, h1, h2⟩ := h.ex
  obtain ⟨w', hrun, hr, hg, hs⟩ := h1.range X.law ht
  refine ⟨w', hrun, ⟨⟨D, _, _, hr, h2, fun kl => ⟨fun hh => ?_, ?_⟩⟩, h.nd, h.fit, h.mem, h.nd, fun x hx => hx⟩, hg, hs⟩
  · obtain ⟨x, hx, he⟩ := h2.all kl hh
    refine ⟨x, (h.mem x).2 ?_, he⟩
    rw [← h2.has x hx, he, hh]
  · rintro ⟨x, hx, rfl⟩
    rw [h2.has x (h.fit x hx)]
    exact (h.mem x).1 hx
variable [DecidableEq κ]
/-- The step. -/
theorem KIter.next (h : KIter X ev w b r f L T) (ty : TypeId) :
    (T = [] ∧ (Instr.next (.pointer (some ⟨r, 0, none⟩)) false ty).run P w = .ok (.tuple #[.bool false]) w) ∨
    ∃ x u w', x ∈ T ∧ f x = some u ∧ X.fit x ∧ (Instr.next (.pointer (some ⟨r, 0, none⟩)) false ty).run P w = .ok (.tuple #[.bool true, X.val x, ev u]) w' ∧
      KIter X ev w' b r f L (T.filter (fun y => decide (y ≠ x))) ∧ w'.rangeLeft b r < w.rangeLeft b r ∧ w.grownBy w' (some r) ∧ w'.heap.size = w.heap.size ∧
      (Instr.entry (.pointer (some ⟨r, 0, none⟩))).run P w' = .ok (.tuple #[X.val x, ev u]) w' := by
  obtain ⟨D, left, cnt, h1, h2, h3⟩ := h.ex
  rcases h1.next X.law ty with ⟨_, h4, hrun⟩ | ⟨key, v, kl, y, w', cnt', hkey, hl, hv, hat, hrun, hrg, hlt, hg, hs, hen⟩
  · left
    refine ⟨List.eq_nil_iff_forall_not_mem.2 fun x hx => ?_, hrun⟩
    have := (h3 (X.key x)).2 ⟨x, hx, rfl⟩
    rw [h4] at this
    exact absurd this (by simp)
  · right
    obtain ⟨x, hx, rfl⟩ := (h3 kl).1 hl
    have hfit := h.fit x (h.sub x hx)
    have hvx : key = X.val x := X.law.inj hkey (X.ok hfit)
    obtain ⟨u, hu⟩ := Option.isSome_iff_exists.1 ((h.mem x).1 (h.sub x hx))
    have e1 := h2.at_ x hfit (.held v)
    rw [hu, hat] at e1
    simp only [RV, Option.some.injEq] at hv
    subst hv
    injection e1 with e1
    subst e1
    subst hvx
    refine ⟨x, u, w', hx, hu, hfit, hrun, ⟨⟨D, _, cnt', hrg, h2, fun z => ?_⟩, h.nd, h.fit, h.mem, h.ndT.filter _, fun y hy => h.sub y (List.mem_filter.1 hy).1⟩, by rw [hrg.left_eq, h1.left_eq]; exact hlt, hg, hs, hen⟩
    simp only [Bool.and_eq_true, Bool.not_eq_true', List.mem_filter, decide_eq_true_eq]
    constructor
    · rintro ⟨hz1, hz2⟩
      obtain ⟨y, hy, rfl⟩ := (h3 z).1 hz1
      refine ⟨y, ⟨hy, fun e => ?_⟩, rfl⟩
      subst e
      rw [WideAt.sameKey_self (X.isKey hfit)] at hz2
      cases hz2
    · rintro ⟨y, ⟨hy, hne⟩, rfl⟩
      refine ⟨(h3 _).2 ⟨y, hy, rfl⟩, ?_⟩
      cases hs' : (X.key y).sameKey (X.key x)
      · rfl
      · exact absurd (WideAt.sameKey_eq hs') (X.key_ne (h.fit y (h.sub y hy)) hfit hne)
end
/-- Three words, as keys. -/
def triX : KeyX Tryz.prog 35 Tri := ⟨Tri.val, Tri.key, Tri.fit, keyT, tri_key, tri_val_inj⟩
/-- A word, as a key. -/
def strX : KeyX Tryz.prog 9 ByteArray := ⟨Value.string, fun s => .string s.data.toList, fun s => s.size ≤ maxLen, Maps.string_keyed Tryz.underlying9, fun h => WideMaps.keyOf_string_mk Tryz.underlying9 h, fun h => by injection h⟩
end Go.Proofs.YtcnffgcegimelaaGreat.Mp
