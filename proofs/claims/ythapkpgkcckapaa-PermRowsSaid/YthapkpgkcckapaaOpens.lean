/-
  What an argument reads as (the form's own reading) gives the kinds that the printed contracts ask: numbers, bools, texts, structs by their fields, slices. No condition.
-/
import Derived.Test.YthapkpgkcckapaaProg
import Derived.Test.YthapkpgkcckapaaWWords
import Derived.Deep.Slices
import Derived.ChangeArms
import Derived.WideShapes
namespace Go.Proofs.Ythapkpgkcckapaa.Opens
open Go.Deep Go.Proofs.YthapkpgkcckapaaW.PrintWords Go.WideShapes

/-- What reads as type t is of a kind. -/
def Opens (P : Program) (t : TypeId) {α : Type} (d : Kd α) : Prop :=
  ∀ (H : Type) (enc : TypeId × Value → H) (w : World) (base : Nat) (spare : Nat → Bool) (held : Bool) (fuel : Nat) (cs : List Value) (x : DataW H × List MemPlace),
    DataW.trod enc P w base spare held fuel t cs = some x → ∃ a : α, d.K w a cs

theorem opens_int {P : Program} {t : TypeId} {k : IntKind} (h : P.underlying t = some (.int k)) : Opens P t (Kd.int k) := by
  intro H enc w base spare held fuel cs x hx
  obtain ⟨n, rfl, _⟩ := DataW.trod_int h hx
  exact ⟨n, rfl⟩
theorem opens_bool {P : Program} {t : TypeId} (h : P.underlying t = some .bool) : Opens P t Kd.bool := by
  intro H enc w base spare held fuel cs x hx
  obtain ⟨n, rfl, _⟩ := DataW.trod_bool h hx
  exact ⟨n, rfl⟩
theorem opens_string {P : Program} {t : TypeId} (h : P.underlying t = some .string) : Opens P t Kd.string := by
  intro H enc w base spare held fuel cs x hx
  obtain ⟨n, rfl, _⟩ := DataW.trod_string h hx
  exact ⟨n, rfl⟩
theorem opens_iso {P : Program} {t : TypeId} {α β : Type} {d : Kd α} {f : β → α} (h : Opens P t d) (hf : ∀ a, ∃ b, f b = a) : Opens P t (Kd.iso d f) := by
  intro H enc w base spare held fuel cs x hx
  obtain ⟨a, ha⟩ := h H enc w base spare held fuel cs x hx
  obtain ⟨b, rfl⟩ := hf a
  exact ⟨b, ha⟩

/-- What fields read as, from an offset on. -/
def OpensF (P : Program) (fs : List Field) (o sz : Nat) {α : Type} (d : Kd α) : Prop :=
  ∀ (H : Type) (enc : TypeId × Value → H) (w : World) (base : Nat) (spare : Nat → Bool) (held : Bool) (fuel : Nat) (cs : List Value),
    cs.length = o + sz → (∀ f ∈ fs, ∃ y, DataW.trod enc P w base spare held fuel f.type ((cs.drop f.offset).take (P.cellsOf f.type)) = some y) → ∃ a : α, d.K w a (cs.drop o)

theorem opensF_one {P : Program} {f : Field} {o sz : Nat} {α : Type} {d : Kd α} (ho : f.offset = o) (hc : P.cellsOf f.type = sz) (h : Opens P f.type d) : OpensF P [f] o sz d := by
  intro H enc w base spare held fuel cs hl hf
  obtain ⟨y, hy⟩ := hf f (by simp)
  rw [ho, hc, List.take_of_length_le (by rw [List.length_drop]; omega)] at hy
  exact h H enc w base spare held fuel _ y hy
theorem opensF_cons {P : Program} {f : Field} {fs : List Field} {o m sz : Nat} {α β : Type} {d : Kd α} {d' : Kd β} (ho : f.offset = o) (hc : P.cellsOf f.type = m) (h : Opens P f.type d) (hs : OpensF P fs (o + m) sz d') : OpensF P (f :: fs) o (m + sz) (Kd.pair d d') := by
  intro H enc w base spare held fuel cs hl hf
  obtain ⟨y, hy⟩ := hf f (by simp)
  rw [ho, hc] at hy
  obtain ⟨a, ha⟩ := h H enc w base spare held fuel _ y hy
  obtain ⟨b, hb⟩ := hs H enc w base spare held fuel cs (by omega) (fun g hg => hf g (by simp [hg]))
  refine ⟨(a, b), _, _, ?_, ha, hb⟩
  rw [show cs.drop (o + m) = (cs.drop o).drop m by rw [List.drop_drop], List.take_append_drop]
theorem opens_struct {P : Program} {t : TypeId} {fs : Array Field} {α : Type} {d : Kd α} (ht : P.underlying t = some (.struct fs)) (h : OpensF P fs.toList 0 (P.cellsOf t) d) : Opens P t d := by
  intro H enc w base spare held fuel cs x hx
  obtain ⟨xs, n, rfl, _, hl, hn, hf⟩ := DataW.trod_struct ht hx
  have := h H enc w base spare held n cs (by omega) (fun f hm => by
    obtain ⟨i, hi, rfl⟩ := List.getElem_of_mem hm
    have e : fs[i]? = some fs.toList[i] := by simp at hi ⊢
    have := hf i _ e
    rw [List.getElem?_eq_getElem (by simp at hi; omega)] at this
    exact ⟨_, this⟩)
  simpa using this

/-- A slice of a kind. -/
theorem opens_row {P : Program} {e : TypeId} {α : Type} {d : Kd α} {w : World} {base n m : Nat} {a : Addr} {H : Type} {enc : TypeId × Value → H} {spare : Nat → Bool} {held : Bool} {D : Nat → DataW H} {Pl : Nat → List MemPlace}
    (he : Opens P e d) (hc : P.cellsOf e = d.sz) : ∀ len : Nat, len ≤ m → len ≤ 9223372036854775807 →
    (∀ i, i < m → ∃ cs', w.cells? base (a.add (i * P.cellsOf e)) (P.cellsOf e) = some cs' ∧ DataW.trod enc P w base spare held n e cs' = some (D i, Pl i)) →
    ∃ l : List α, l.length = len ∧ d.C w (some a) len l
  | 0, _, _, _ => ⟨[], rfl, rfl, by omega, fun h => absurd h (by omega)⟩
  | k + 1, hk, hb, hi => by
    obtain ⟨l, hl, hC⟩ := opens_row he hc k (by omega) (by omega) hi
    obtain ⟨cs', h1, h2⟩ := hi k (by omega)
    obtain ⟨y, hy⟩ := he H enc w base spare held n cs' _ h2
    obtain ⟨_, hcl, hcell⟩ := World.cells?_some h1
    refine ⟨l ++ [y], by simp [hl], by simp [hl], hb, fun _ => ⟨a, rfl, fun j p hj => ?_⟩⟩
    by_cases hjk : j < k
    · rw [List.getElem?_append_left (by omega)] at hj
      obtain ⟨a', e', hc'⟩ := hC.2.2 (by omega)
      obtain rfl := Option.some.inj e'
      exact hc' j p hj
    · have hjl : j < (l ++ [y]).length := (List.getElem?_eq_some_iff.1 hj).1
      have : j = k := by simp [hl] at hjl; omega
      subst this
      have : p = y := by rw [List.getElem?_append_right (by omega), hl] at hj; simpa using hj.symm
      subst this
      refine ⟨cs', by omega, hy, fun i u hu => ?_⟩
      have hil : i < cs'.length := (List.getElem?_eq_some_iff.1 hu).1
      rw [← Go.Deep.add_add, ← hc, hcell i (by omega), hu]
theorem opens_slice {P : Program} {t e e' : TypeId} {α : Type} {d : Kd α} (ht : P.underlying t = some (.slice e)) (hc : P.cellsOf e = d.sz) (he : Opens P e d) : Opens P t (Kd.slice e' d) := by
  intro H enc w base spare held fuel cs x hx
  rcases open_slice ht hx with ⟨rfl, _⟩ | ⟨a, len, cap, m, n, D, Pl, rfl, _, hl, hm, hmm, _, hi⟩
  · exact ⟨[], none, 0, rfl, Nat.le_refl _, rfl, by simp, fun h => absurd h (by simp)⟩
  · unfold maxLen at hm
    have hlm : len ≤ m := by rw [hmm]; split <;> omega
    obtain ⟨l, hln, hC⟩ := opens_row he hc len hlm (by omega) hi
    subst hln
    exact ⟨l, some a, cap, rfl, hl, hC⟩

/-- A parameter that is a slice. -/
theorem trod_slice {P : Program} {t e : TypeId} {α : Type} {d : Kd α} {H : Type} {enc : TypeId × Value → H} {w : World} {base b0 : Nat} {r : Reach} {spare : Nat → Bool} {held : Bool} {v : Value} {x : DataW H} {p : List MemPlace}
    (ht : P.underlying t = some (.slice e)) (hc : P.cellsOf e = d.sz) (he : Opens P e d) (hv : Value.okWide P w r b0 t v) (h : DataW.Trod enc P w base spare held t v x p) :
    ∃ (A : Option Addr) (c : Nat) (l : List α), v = .slice A l.length c ∧ l.length ≤ c ∧ d.C w A l.length l := by
  obtain ⟨A, n, c, rfl⟩ := okWide_slice ht hv
  obtain ⟨fuel, hf⟩ := h
  obtain ⟨l, A', c', hcs, hl, hC⟩ := opens_slice (e' := 0) ht hc he H enc w base spare held fuel _ _ hf
  simp only [Value.cells, List.cons.injEq, Value.slice.injEq, and_true] at hcs
  obtain ⟨rfl, rfl, rfl⟩ := hcs
  exact ⟨A, c, l, rfl, hl, hC⟩
/-- A parameter that is a struct. -/
theorem trod_struct {P : Program} {t : TypeId} {fs : Array Field} {α : Type} {d : Kd α} {H : Type} {enc : TypeId × Value → H} {w : World} {base b0 : Nat} {r : Reach} {spare : Nat → Bool} {held : Bool} {v : Value} {x : DataW H} {p : List MemPlace}
    (ht : P.underlying t = some (.struct fs)) (he : Opens P t d) (hv : Value.okWide P w r b0 t v) (h : DataW.Trod enc P w base spare held t v x p) :
    ∃ (cs : List Value) (a : α), v = .agg ⟨cs⟩ ∧ d.K w a cs := by
  obtain ⟨cs, rfl, _⟩ := okWide_struct ht hv
  obtain ⟨fuel, hf⟩ := h
  obtain ⟨a, ha⟩ := he H enc w base spare held fuel _ _ hf
  exact ⟨cs.toList, a, rfl, by simpa [Value.cells] using ha⟩

end Go.Proofs.Ythapkpgkcckapaa.Opens
