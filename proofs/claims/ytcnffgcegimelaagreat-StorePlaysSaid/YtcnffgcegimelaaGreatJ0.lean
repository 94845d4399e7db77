/-
  Joined by wip/tools/merge.py from the texts G0 G1 Opens G2. Conditions: as each says.
-/
import Derived.Maps.AppendAt
import Derived.Laws.AppendOwnNone
import Derived.WalkKit
import Derived.Below
import Derived.Test.YtcnffgcegimelaaGreatProg
import Derived.Test.YtcnffgcegimelaaGreatWWords
import Derived.Deep.Slices
import Derived.ChangeArms
import Derived.WideShapes
import Derived.OpenShut
section
/-
  Words for slices of elements of several cells, for any program: a row that the call owns, a slice that is read, and the two appends. Conditions: as each says.
-/
namespace Go.Proofs.YtcnffgcegimelaaGreat.G
open Go.RowKit

section
variable {α : Type}

/-- A row of elements that the call owns. -/
def OwnL (w : World) (base : Nat) (e : TypeId) (k : Nat) (enc : α → List Value) (v : Value) (xs : List α) : Prop := w.ownsRow base e k v xs.length (xs.flatMap enc)
/-- A slice of elements that is read. -/
def ReadL (w : World) (enc : α → List Value) (A : Option Addr) (xs : List α) : Prop := xs ≠ [] → ∃ b off, A = some ⟨b, off, none⟩ ∧ b < w.heap.size ∧ ∀ j u, (xs.flatMap enc)[j]? = some u → w.cell? ⟨b, off + j, none⟩ = some u
/-- A value that is a slice of elements. -/
def SlL (w : World) (enc : α → List Value) (v : Value) (xs : List α) : Prop := ∃ A c, v = .slice A xs.length c ∧ xs.length ≤ c ∧ (A = none → c = 0) ∧ ReadL w enc A xs

theorem flat_length (k : Nat) (enc : α → List Value) (hk : ∀ x, (enc x).length = k) : ∀ xs : List α, (xs.flatMap enc).length = xs.length * k
  | [] => by simp
  | x :: r => by
    rw [List.flatMap_cons, List.length_append, hk, flat_length k enc hk r, List.length_cons, Nat.add_mul, Nat.one_mul, Nat.add_comm]
theorem flat_getElem (k : Nat) (enc : α → List Value) (hk : ∀ x, (enc x).length = k) : ∀ (xs : List α) (i j : Nat) (x : α), xs[i]? = some x → j < k → (xs.flatMap enc)[i * k + j]? = (enc x)[j]?
  | [], i, j, x, h, _ => by simp at h
  | y :: r, 0, j, x, h, hj => by
    obtain rfl : y = x := by simpa using h
    rw [List.flatMap_cons, Nat.zero_mul, Nat.zero_add, List.getElem?_append_left (by rw [hk]; exact hj)]
  | y :: r, i + 1, j, x, h, hj => by
    have := flat_getElem k enc hk r i j x (by simpa using h) hj
    rw [List.flatMap_cons, List.getElem?_append_right (by rw [hk, Nat.add_mul, Nat.one_mul]; omega), hk, Nat.add_mul, Nat.one_mul]
    rw [show i * k + k + j - k = i * k + j by omega]
    exact this
theorem flat_one (enc : α → List Value) (h1 : ∀ x, ∀ u ∈ enc x, u.oneCell' = true) (xs : List α) : ∀ u ∈ xs.flatMap enc, u.oneCell' = true := by
  intro u hu
  obtain ⟨x, _, hx⟩ := List.mem_flatMap.1 hu
  exact h1 x u hx

variable {w w' : World} {base : Nat} {e : TypeId} {k : Nat} {enc : α → List Value} {v : Value} {xs : List α}

theorem OwnL.nil (w : World) (base : Nat) (e : TypeId) (k : Nat) (enc : α → List Value) : OwnL w base e k enc (.slice none 0 0) [] := ⟨by simp, .inl ⟨rfl, rfl⟩⟩
theorem OwnL.ge (h : OwnL w base e k enc v xs) (g : Nat) (hk : v.ownBlock = some g) : base ≤ g := by
  rcases h.2 with ⟨rfl, _⟩ | ⟨g', cap, cur, rfl, hb, _⟩
  · simp [Value.ownBlock] at hk
  · have : g' = g := by simpa [Value.ownBlock] using hk
    omega
theorem OwnL.lt_ (h : OwnL w base e k enc v xs) (g : Nat) (hk : v.ownBlock = some g) : g < w.heap.size := by
  rcases h.2 with ⟨rfl, _⟩ | ⟨g', cap, cur, rfl, hb, hh, _⟩
  · simp [Value.ownBlock] at hk
  · have : g' = g := by simpa [Value.ownBlock] using hk
    subst this
    exact (Array.getElem?_eq_some_iff.1 hh).1
theorem OwnL.kept (h : OwnL w base e k enc v xs) {row : Option Nat} (hg : w.grownBy w' row) (hne : v.ownBlock = none ∨ v.ownBlock ≠ row) : OwnL w' base e k enc v xs := World.ownsRow.kept h hg hne
theorem OwnL.other (h : OwnL w base e k enc v xs) {g : Nat} (hg : w.grownBy w' (some g)) (hlt : g < base) : OwnL w' base e k enc v xs := by
  refine h.kept hg ?_
  cases e' : v.ownBlock with
  | none => exact .inl rfl
  | some j => exact .inr fun e2 => by have := h.ge j e'; have := Option.some.inj e2; omega
theorem OwnL.below (h : OwnL w base e k enc v xs) (hb : Below w.heap.size w w') : OwnL w' base e k enc v xs :=
  h.kept (row := none) ⟨hb.os, hb.tape, hb.output, hb.size, fun i hi _ => hb.block i hi⟩ (by cases v.ownBlock <;> simp)
theorem OwnL.sl (h : OwnL w base e k enc v xs) : SlL w enc v xs := by
  obtain ⟨hl, ⟨rfl, hn⟩ | ⟨g, cap, cur, rfl, hg, hblk, hcap, _, hcs, htk⟩⟩ := h
  · have : xs = [] := List.eq_nil_of_length_eq_zero hn
    subst this
    exact ⟨none, 0, rfl, Nat.le_refl _, fun _ => rfl, fun h => absurd rfl h⟩
  · refine ⟨_, cap, rfl, hcap, (fun h => nomatch h), fun _ => ⟨g, 0, rfl, (Array.getElem?_eq_some_iff.1 hblk).1, fun j u hu => ?_⟩⟩
    have hj := (List.getElem?_eq_some_iff.1 hu).1
    rw [← htk, List.getElem?_take] at hu
    split at hu
    · simp only [World.cell?, hblk, Nat.zero_add]
      simpa using hu
    · cases hu
theorem SlL.below (h : SlL w enc v xs) (hb : Below w.heap.size w w') : SlL w' enc v xs := by
  obtain ⟨A, c, hv, hc, hn, hr⟩ := h
  refine ⟨A, c, hv, hc, hn, fun hx => ?_⟩
  obtain ⟨b, off, hA, hb', hcl⟩ := hr hx
  exact ⟨b, off, hA, Nat.lt_of_lt_of_le hb' hb.size, fun j u hu => (hb.cell (p := ⟨b, off + j, none⟩) hb').trans (hcl j u hu)⟩
/-- A slice, behind what changed one block that is not its own. -/
theorem SlL.grown (h : SlL w enc v xs) {row : Option Nat} (hg : w.grownBy w' row) (hne : ∀ b off n c, v = .slice (some ⟨b, off, none⟩) n c → row ≠ some b) : SlL w' enc v xs := by
  obtain ⟨A, c, hv, hc, hn, hr⟩ := h
  refine ⟨A, c, hv, hc, hn, fun hx => ?_⟩
  obtain ⟨b, off, hA, hb', hcl⟩ := hr hx
  refine ⟨b, off, hA, Nat.lt_of_lt_of_le hb' hg.size, fun j u hu => ?_⟩
  have e1 : w'.heap[b]? = w.heap[b]? := hg.block b hb' (fun e1 => hne b off _ c (by rw [hv, hA]) e1.symm)
  have := hcl j u hu
  simp only [World.cell?, e1] at this ⊢
  exact this
/-- The cells of an element. -/
theorem SlL.at_ (h : SlL w enc v xs) (hk : ∀ x, (enc x).length = k) (i : Nat) (x : α) (hx : xs[i]? = some x) : ∃ b off c, v = .slice (some ⟨b, off, none⟩) xs.length c ∧ b < w.heap.size ∧ ∀ j u, (enc x)[j]? = some u → w.cell? ⟨b, off + i * k + j, none⟩ = some u := by
  obtain ⟨A, c, hv, hc, _, hr⟩ := h
  have hne : xs ≠ [] := fun e => by rw [e] at hx; simp at hx
  obtain ⟨b, off, rfl, hb', hcl⟩ := hr hne
  refine ⟨b, off, c, hv, hb', fun j u hu => ?_⟩
  have hj : j < k := by have := (List.getElem?_eq_some_iff.1 hu).1; rwa [hk] at this
  have := hcl (i * k + j) u (by rw [flat_getElem k enc hk xs i j x hx hj]; exact hu)
  rwa [← Nat.add_assoc] at this
/-- A part of a slice: from its beginning on. -/
theorem SlL.take (h : SlL w enc v xs) {A : Option Addr} {n c : Nat} (hv : v = .slice A n c) (i : Nat) (hi : i ≤ xs.length) : SlL w enc (.slice A i c) (xs.take i) := by
  obtain ⟨A', c', hv', hc, hn, hr⟩ := h
  rw [hv] at hv'
  injection hv' with e1 e2 e3
  subst e1 e2 e3
  have hl : (xs.take i).length = i := by rw [List.length_take]; omega
  refine ⟨A, c, by rw [hl], by omega, hn, fun hx => ?_⟩
  obtain ⟨b, off, hA, hb', hcl⟩ := hr (fun e => by rw [e] at hx; simp at hx)
  refine ⟨b, off, hA, hb', fun j u hu => hcl j u ?_⟩
  rw [← List.take_append_drop i xs, List.flatMap_append]
  rw [List.getElem?_append_left (List.getElem?_eq_some_iff.1 hu).1]
  exact hu

variable {P : Program} {ops : Array Oper} {rest : List Oper} {o : Oper} {a : Act} {Q : Exit → Act → World → Prop}

/-- append(v, x): behind 'at_builtin'; the goal's world is that of the box. -/
theorem wp_app1 {W : World} (hgd : o.guard = none) (s x : Operand) (t e : TypeId) (ho : o.op = .call { callee := .builtin .append, args := #[s, x], argTypes := #[t, t] }) (z : Value) (k bytes : Nat)
    (ht : P.underlying t = some (.slice e)) (hinfo : (P.info? e).map (fun i => (i.zero, i.size, i.bytes)) = some (some z, k, bytes)) (hz : z.cells.size = k) (hk0 : 0 < k) (hb0 : 0 < bytes)
    (enc : α → List Value) (hk : ∀ x, (enc x).length = k) (h1 : ∀ x, ∀ u ∈ enc x, u.oneCell' = true) (base : Nat) (v : Value) (xs : List α) (y : α) (cs : Array Value) (hcs : cs.toList = enc y)
    (hs : a.eval s = v) (nb : Nat) (hx : a.eval x = .slice (some ⟨nb, 0, none⟩) 1 1) (hnb : nb = W.heap.size) (HO : OwnL W base e k enc v xs) (hbase : base ≤ W.heap.size) (hl : (xs.length + 1) * bytes ≤ 140737488355328)
    (h : ∀ v1 w1, OwnL w1 base e k enc v1 (xs ++ [y]) → W.grownBy w1 v.ownBlock → (v1.ownBlock = v.ownBlock ∨ ∃ b, v1.ownBlock = some b ∧ W.heap.size ≤ b) → wpList P ops Q rest (a.put o.dst v1) w1) :
    wpList P ops Q (o :: rest) a (W.alloc (.cells cs e)) := by
  subst hnb
  obtain ⟨i0, hi, hzz⟩ := Option.map_eq_some_iff.1 hinfo
  simp only [Prod.mk.injEq] at hzz
  obtain ⟨hz0, hz1, hz2⟩ := hzz
  have hlen : xs.length + 1 ≤ 140737488355328 := Nat.le_trans (Nat.le_mul_of_pos_right _ hb0) hl
  have hnew : ∀ j u, (enc y)[j]? = some u → (W.alloc (.cells cs e)).cell? ((⟨W.heap.size, 0, none⟩ : Addr).add j) = some u := by
    intro j u hu
    rw [Addr.add_lit, Nat.zero_add]
    rw [← hcs] at hu
    have e1 : (W.alloc (.cells cs e)).heap[W.heap.size]? = some (.cells cs e) := by
      show (W.heap.push _)[W.heap.size]? = _
      rw [Array.getElem?_push, if_pos rfl]
    simp only [World.cell?, e1]
    simpa using hu
  refine wpList_append_own_at (W.alloc (.cells cs e)) hgd s x t ho base e i0 z k bytes ht hi hz0 hz1 hz2 hz hk0 v xs.length (xs.flatMap enc) hs (World.ownsRow.alloc HO _) ⟨W.heap.size, 0, none⟩ 1 1 (enc y) hx (by rw [hk, Nat.one_mul])
    hnew (h1 y) (by simp only [maxLen]; omega) hl (by simp; omega) ?_
  intro v1 w1 hown hg _ hat
  refine h v1 w1 ?_ (World.grownBy.trans (World.grownBy_alloc W _ _) hg) ?_
  · unfold OwnL
    rw [List.length_append, List.flatMap_append]
    simpa using hown
  · rcases hat with hat | hat
    · exact .inl hat
    · exact .inr ⟨_, hat, by simp⟩

/-- append(v, ys...): behind 'at_builtin'. -/
theorem wp_appN {W : World} (hgd : o.guard = none) (s x : Operand) (t e : TypeId) (ho : o.op = .call { callee := .builtin .append, args := #[s, x], argTypes := #[t, t] }) (z : Value) (k bytes : Nat)
    (ht : P.underlying t = some (.slice e)) (hinfo : (P.info? e).map (fun i => (i.zero, i.size, i.bytes)) = some (some z, k, bytes)) (hz : z.cells.size = k) (hk0 : 0 < k) (hb0 : 0 < bytes)
    (enc : α → List Value) (hk : ∀ x, (enc x).length = k) (h1 : ∀ x, ∀ u ∈ enc x, u.oneCell' = true) (base : Nat) (v sv : Value) (xs ys : List α)
    (hs : a.eval s = v) (hx : a.eval x = sv) (HO : OwnL W base e k enc v xs) (HS : SlL W enc sv ys) (hbase : base ≤ W.heap.size) (hl : (xs.length + ys.length) * bytes ≤ 140737488355328)
    (h : ∀ v1 w1, OwnL w1 base e k enc v1 (xs ++ ys) → W.grownBy w1 v.ownBlock → (v1.ownBlock = v.ownBlock ∨ ∃ b, v1.ownBlock = some b ∧ W.heap.size ≤ b) → wpList P ops Q rest (a.put o.dst v1) w1) :
    wpList P ops Q (o :: rest) a W := by
  obtain ⟨i0, hi, hzz⟩ := Option.map_eq_some_iff.1 hinfo
  simp only [Prod.mk.injEq] at hzz
  obtain ⟨hz0, hz1, hz2⟩ := hzz
  have hlen : xs.length + ys.length ≤ 140737488355328 := Nat.le_trans (Nat.le_mul_of_pos_right _ hb0) hl
  obtain ⟨A, c, rfl, hc, hn, hr⟩ := HS
  cases A with
  | none =>
    have hc0 := hn rfl
    subst hc0
    have hy : ys = [] := List.eq_nil_of_length_eq_zero (by omega)
    subst hy
    refine wpList_append_own_none hgd s x t ho base e i0 k ht hi v xs.length (xs.flatMap enc) hs HO hx ?_
    exact h v W (by simpa using HO) (World.grownBy.refl _ _) (.inl rfl)
  | some ad =>
    refine wpList_append_own_at W hgd s x t ho base e i0 z k bytes ht hi hz0 hz1 hz2 hz hk0 v xs.length (xs.flatMap enc) hs HO ad ys.length c (ys.flatMap enc) hx (flat_length k enc hk ys) (fun j u hu => ?_) (flat_one enc h1 ys) (by simp only [maxLen]; omega) hl hbase ?_
    · obtain ⟨b, off, hA, _, hcl⟩ := hr (fun e1 => by rw [e1] at hu; simp at hu)
      have hA := Option.some.inj hA
      subst hA
      rw [Addr.add_lit]
      exact hcl j u hu
    · intro v1 w1 hown hg _ hat
      refine h v1 w1 ?_ hg ?_
      · unfold OwnL
        rw [List.length_append, List.flatMap_append]
        exact hown
      · rcases hat with hat | hat
        · exact .inl hat
        · exact .inr ⟨_, hat, Nat.le_refl _⟩
end
end Go.Proofs.YtcnffgcegimelaaGreat.G
end
section
/-
  More words for slices of elements of several cells: a part from a place on; what a row's growing leaves. Conditions: as each says.
-/
namespace Go.Proofs.YtcnffgcegimelaaGreat.G
open Go.RowKit
section
variable {α : Type} {w w' W W' : World} {base : Nat} {e : TypeId} {k : Nat} {enc : α → List Value} {v : Value} {xs : List α}
theorem OwnL.weaken (h : OwnL w base e k enc v xs) {base' : Nat} (hb : base' ≤ base) : OwnL w base' e k enc v xs := by
  obtain ⟨hl, ⟨rfl, hn⟩ | ⟨g, cap, cur, rfl, hg, hr⟩⟩ := h
  · exact ⟨hl, .inl ⟨rfl, hn⟩⟩
  · exact ⟨hl, .inr ⟨g, cap, cur, rfl, Nat.le_trans hb hg, hr⟩⟩
theorem OwnL.next {w0 : World} (h : OwnL W base e k enc v xs) (hb : Below base w0 W) (hB : base ≤ W.heap.size) (hg : W.grownBy W' v.ownBlock) : Below base w0 W' := hb.grown hg hB (fun j hj => h.ge j hj)
theorem OwnL.form (h : OwnL w base e k enc v xs) : ∃ A c, v = .slice A xs.length c ∧ xs.length ≤ c ∧ (A = none → c = 0 ∧ xs = []) ∧ (∀ a, A = some a → ∃ b, a = ⟨b, 0, none⟩ ∧ b < w.heap.size ∧ base ≤ b) := by
  obtain ⟨hl, ⟨rfl, hn⟩ | ⟨g, cap, cur, rfl, hg, hh, hc, _⟩⟩ := h
  · have hx : xs = [] := List.eq_nil_of_length_eq_zero hn
    subst hx
    exact ⟨none, 0, rfl, Nat.le_refl _, fun _ => ⟨rfl, rfl⟩, fun a h => by cases h⟩
  · exact ⟨_, cap, rfl, hc, (fun h => nomatch h), fun a ha => ⟨g, (Option.some.inj ha).symm, (Array.getElem?_eq_some_iff.1 hh).1, hg⟩⟩
theorem SlL.drop {b off n c : Nat} (h : SlL w enc (.slice (some ⟨b, off, none⟩) n c) xs) (hk : ∀ x, (enc x).length = k) (i : Nat) (hi : i ≤ xs.length) (b' off' : Nat) (he : c ≠ i → b' = b ∧ off' = off + i * k) : SlL w enc (.slice (some ⟨b', off', none⟩) (n - i) (c - i)) (xs.drop i) := by
  obtain ⟨A', c', hv, hc, _, hr⟩ := h
  injection hv with e1 e2 e3
  subst e1 e2 e3
  refine ⟨some ⟨b', off', none⟩, c - i, by rw [List.length_drop], by rw [List.length_drop]; omega, (fun h => nomatch h), fun hx => ?_⟩
  have hlt : i < xs.length := by
    by_cases h : i < xs.length
    · exact h
    · exact absurd (List.drop_eq_nil_of_le (by omega)) hx
  obtain ⟨rfl, rfl⟩ := he (by omega)
  obtain ⟨b2, off2, hA, hb', hcl⟩ := hr (fun e => by rw [e] at hlt; simp at hlt)
  injection hA with hA
  injection hA with h1 h2
  subst h1 h2
  refine ⟨_, _, rfl, hb', fun j u hu => ?_⟩
  have := hcl (i * k + j) u ?_
  · rwa [← Nat.add_assoc] at this
  · rw [← List.take_append_drop i xs, List.flatMap_append, List.getElem?_append_right]
    · rw [flat_length k enc hk, List.length_take, Nat.min_eq_left (by omega), Nat.add_sub_cancel_left]
      exact hu
    · rw [flat_length k enc hk, List.length_take, Nat.min_eq_left (by omega)]
      omega
theorem SlL.nil (w : World) (enc : α → List Value) : SlL w enc (.slice none 0 0) [] := ⟨none, 0, rfl, Nat.le_refl _, fun _ => rfl, fun h => absurd rfl h⟩
end
end Go.Proofs.YtcnffgcegimelaaGreat.G
end
section
/-
  What an argument reads as (the form's own reading) gives the kinds that the printed contracts ask: numbers, bools, texts, structs by their fields, slices. No condition.
-/
namespace Go.Proofs.YtcnffgcegimelaaGreat.Opens
open Go.Deep Go.Proofs.YtcnffgcegimelaaGreatW.PrintWords Go.WideShapes

/-- What reads as type t is of a kind. -/
def Opens (P : Program) (t : TypeId) {α : Type} (d : Kd α) : Prop :=
  ∀ (H : Type) (enc : TypeId × Value → H) (w : World) (base : Nat) (spare : Nat → Bool) (held : Bool) (fuel : Nat) (cs : List Value) (x : DataW H × List MemPlace),
    DataW.trod enc P w base spare held fuel t cs = some x → ∃ a : α, d.K w a cs

theorem opens_int {P : Program} {t : TypeId} {k : IntKind} (h : P.underlying t = some (.int k)) : Opens P t (Kd.int k) := by
  intro H enc w base spare held fuel cs x hx
  obtain ⟨n, rfl, _⟩ := DataW.trod_int h hx
  exact ⟨n, rfl⟩
theorem opens_bool {P : Program} {t : TypeId} (h : P.underlying t = some .bool) : Opens P t Kd.bool := by
  intro H enc w base spare held fuel cs x hx
  obtain ⟨n, rfl, _⟩ := DataW.trod_bool h hx
  exact ⟨n, rfl⟩
theorem opens_string {P : Program} {t : TypeId} (h : P.underlying t = some .string) : Opens P t Kd.string := by
  intro H enc w base spare held fuel cs x hx
  obtain ⟨n, rfl, _⟩ := DataW.trod_string h hx
  exact ⟨n, rfl⟩
theorem opens_iso {P : Program} {t : TypeId} {α β : Type} {d : Kd α} {f : β → α} (h : Opens P t d) (hf : ∀ a, ∃ b, f b = a) : Opens P t (Kd.iso d f) := by
  intro H enc w base spare held fuel cs x hx
  obtain ⟨a, ha⟩ := h H enc w base spare held fuel cs x hx
  obtain ⟨b, rfl⟩ := hf a
  exact ⟨b, ha⟩

/-- What fields read as, from an offset on. -/
def OpensF (P : Program) (fs : List Field) (o sz : Nat) {α : Type} (d : Kd α) : Prop :=
  ∀ (H : Type) (enc : TypeId × Value → H) (w : World) (base : Nat) (spare : Nat → Bool) (held : Bool) (fuel : Nat) (cs : List Value),
    cs.length = o + sz → (∀ f ∈ fs, ∃ y, DataW.trod enc P w base spare held fuel f.type ((cs.drop f.offset).take (P.cellsOf f.type)) = some y) → ∃ a : α, d.K w a (cs.drop o)

theorem opensF_one {P : Program} {f : Field} {o sz : Nat} {α : Type} {d : Kd α} (ho : f.offset = o) (hc : P.cellsOf f.type = sz) (h : Opens P f.type d) : OpensF P [f] o sz d := by
  intro H enc w base spare held fuel cs hl hf
  obtain ⟨y, hy⟩ := hf f (by simp)
  rw [ho, hc, List.take_of_length_le (by rw [List.length_drop]; omega)] at hy
  exact h H enc w base spare held fuel _ y hy
theorem opensF_cons {P : Program} {f : Field} {fs : List Field} {o m sz : Nat} {α β : Type} {d : Kd α} {d' : Kd β} (ho : f.offset = o) (hc : P.cellsOf f.type = m) (h : Opens P f.type d) (hs : OpensF P fs (o + m) sz d') : OpensF P (f :: fs) o (m + sz) (Kd.pair d d') := by
  intro H enc w base spare held fuel cs hl hf
  obtain ⟨y, hy⟩ := hf f (by simp)
  rw [ho, hc] at hy
  obtain ⟨a, ha⟩ := h H enc w base spare held fuel _ y hy
  obtain ⟨b, hb⟩ := hs H enc w base spare held fuel cs (by omega) (fun g hg => hf g (by simp [hg]))
  refine ⟨(a, b), _, _, ?_, ha, hb⟩
  rw [show cs.drop (o + m) = (cs.drop o).drop m by rw [List.drop_drop], List.take_append_drop]
theorem opens_struct {P : Program} {t : TypeId} {fs : Array Field} {α : Type} {d : Kd α} (ht : P.underlying t = some (.struct fs)) (h : OpensF P fs.toList 0 (P.cellsOf t) d) : Opens P t d := by
  intro H enc w base spare held fuel cs x hx
  obtain ⟨xs, n, rfl, _, hl, hn, hf⟩ := DataW.trod_struct ht hx
  have := h H enc w base spare held n cs (by omega) (fun f hm => by
    obtain ⟨i, hi, rfl⟩ := List.getElem_of_mem hm
    have e : fs[i]? = some fs.toList[i] := by simp at hi ⊢
    have := hf i _ e
    rw [List.getElem?_eq_getElem (by simp at hi; omega)] at this
    exact ⟨_, this⟩)
  simpa using this

/-- A slice of a kind. -/
theorem opens_row {P : Program} {e : TypeId} {α : Type} {d : Kd α} {w : World} {base n m : Nat} {a : Addr} {H : Type} {enc : TypeId × Value → H} {spare : Nat → Bool} {held : Bool} {D : Nat → DataW H} {Pl : Nat → List MemPlace}
    (he : Opens P e d) (hc : P.cellsOf e = d.sz) : ∀ len : Nat, len ≤ m → len ≤ 9223372036854775807 →
    (∀ i, i < m → ∃ cs', w.cells? base (a.add (i * P.cellsOf e)) (P.cellsOf e) = some cs' ∧ DataW.trod enc P w base spare held n e cs' = some (D i, Pl i)) →
    ∃ l : List α, l.length = len ∧ d.C w (some a) len l
  | 0, _, _, _ => ⟨[], rfl, rfl, by omega, fun h => absurd h (by omega)⟩
  | k + 1, hk, hb, hi => by
    obtain ⟨l, hl, hC⟩ := opens_row he hc k (by omega) (by omega) hi
    obtain ⟨cs', h1, h2⟩ := hi k (by omega)
    obtain ⟨y, hy⟩ := he H enc w base spare held n cs' _ h2
    obtain ⟨_, hcl, hcell⟩ := World.cells?_some h1
    refine ⟨l ++ [y], by simp [hl], by simp [hl], hb, fun _ => ⟨a, rfl, fun j p hj => ?_⟩⟩
    by_cases hjk : j < k
    · rw [List.getElem?_append_left (by omega)] at hj
      obtain ⟨a', e', hc'⟩ := hC.2.2 (by omega)
      obtain rfl := Option.some.inj e'
      exact hc' j p hj
    · have hjl : j < (l ++ [y]).length := (List.getElem?_eq_some_iff.1 hj).1
      have : j = k := by simp [hl] at hjl; omega
      subst this
      have : p = y := by rw [List.getElem?_append_right (by omega), hl] at hj; simpa using hj.symm
      subst this
      refine ⟨cs', by omega, hy, fun i u hu => ?_⟩
      have hil : i < cs'.length := (List.getElem?_eq_some_iff.1 hu).1
      rw [← Go.Deep.add_add, ← hc, hcell i (by omega), hu]
theorem opens_slice {P : Program} {t e e' : TypeId} {α : Type} {d : Kd α} (ht : P.underlying t = some (.slice e)) (hc : P.cellsOf e = d.sz) (he : Opens P e d) : Opens P t (Kd.slice e' d) := by
  intro H enc w base spare held fuel cs x hx
  rcases open_slice ht hx with ⟨rfl, _⟩ | ⟨a, len, cap, m, n, D, Pl, rfl, _, hl, hm, hmm, _, hi⟩
  · exact ⟨[], none, 0, rfl, Nat.le_refl _, rfl, by simp, fun h => absurd h (by simp)⟩
  · unfold maxLen at hm
    have hlm : len ≤ m := by rw [hmm]; split <;> omega
    obtain ⟨l, hln, hC⟩ := opens_row he hc len hlm (by omega) hi
    subst hln
    exact ⟨l, some a, cap, rfl, hl, hC⟩

/-- A parameter that is a slice. -/
theorem trod_slice {P : Program} {t e : TypeId} {α : Type} {d : Kd α} {H : Type} {enc : TypeId × Value → H} {w : World} {base b0 : Nat} {r : Reach} {spare : Nat → Bool} {held : Bool} {v : Value} {x : DataW H} {p : List MemPlace}
    (ht : P.underlying t = some (.slice e)) (hc : P.cellsOf e = d.sz) (he : Opens P e d) (hv : Value.okWide P w r b0 t v) (h : DataW.Trod enc P w base spare held t v x p) :
    ∃ (A : Option Addr) (c : Nat) (l : List α), v = .slice A l.length c ∧ l.length ≤ c ∧ d.C w A l.length l := by
  obtain ⟨A, n, c, rfl⟩ := okWide_slice ht hv
  obtain ⟨fuel, hf⟩ := h
  obtain ⟨l, A', c', hcs, hl, hC⟩ := opens_slice (e' := 0) ht hc he H enc w base spare held fuel _ _ hf
  simp only [Value.cells, List.cons.injEq, Value.slice.injEq, and_true] at hcs
  obtain ⟨rfl, rfl, rfl⟩ := hcs
  exact ⟨A, c, l, rfl, hl, hC⟩
/-- A parameter that is a struct. -/
theorem trod_struct {P : Program} {t : TypeId} {fs : Array Field} {α : Type} {d : Kd α} {H : Type} {enc : TypeId × Value → H} {w : World} {base b0 : Nat} {r : Reach} {spare : Nat → Bool} {held : Bool} {v : Value} {x : DataW H} {p : List MemPlace}
    (ht : P.underlying t = some (.struct fs)) (he : Opens P t d) (hv : Value.okWide P w r b0 t v) (h : DataW.Trod enc P w base spare held t v x p) :
    ∃ (cs : List Value) (a : α), v = .agg ⟨cs⟩ ∧ d.K w a cs := by
  obtain ⟨cs, rfl, _⟩ := okWide_struct ht hv
  obtain ⟨fuel, hf⟩ := h
  obtain ⟨a, ha⟩ := he H enc w base spare held fuel _ _ hf
  exact ⟨cs.toList, a, rfl, by simpa [Value.cells] using ha⟩

end Go.Proofs.YtcnffgcegimelaaGreat.Opens
end
section
/-
  What an argument that is a slice is in memory, for any program: each element by its own reading. Conditions: as each says.
-/
namespace Go.Proofs.YtcnffgcegimelaaGreat.G
open Go.Deep Go.RowKit Go.WideShapes Go.ChangeShapes

theorem add_at (b off i j : Nat) : ((⟨b, off, none⟩ : Addr).add i).add j = ⟨b, off + i + j, none⟩ := by
  rw [Addr.add_lit, Addr.add_lit]

theorem arg_slice_of {α : Type} [Inhabited α] {P : Program} {t e : TypeId} (enc : α → List Value) (k : Nat) (hu : P.underlying t = some (.slice e)) (hk : P.cellsOf e = k) (hlen : ∀ x, (enc x).length = k) (R : α → Prop) {H : Type} {en : TypeId × Value → H} {w : World} {base b0 : Nat} {sp : Nat → Bool} {held : Bool} {v : Value} {x : DataW H} {p : List MemPlace}
    (hel : ∀ fuel cs y, DataW.trod en P w base sp held fuel e cs = some y → cs.length = k → ∃ a, cs = enc a ∧ R a)
    (hv : Value.okWide P w .any b0 t v) (h : DataW.Trod en P w base sp held t v x p) : ∃ l, SlL w enc v l ∧ ∀ a ∈ l, R a := by
  obtain ⟨A, n, c, rfl⟩ := okWide_slice hu hv
  obtain ⟨fuel, hf⟩ := h
  rcases open_slice hu hf with ⟨h1, _⟩ | ⟨a, len, cap, m, k', D, Pl, h1, _, hl, hm, hmm, _, hi⟩
  · simp [Value.cells] at h1
    obtain ⟨rfl, rfl, rfl⟩ := h1
    exact ⟨[], SlL_nil w enc, by simp⟩
  · simp only [Value.cells, List.cons.injEq, Value.slice.injEq, and_true] at h1
    obtain ⟨rfl, rfl, rfl⟩ := h1
    have hok : w.has P .any b0 a e c := by
      have hv' := hv
      simp only [Value.okWide, hu, Cell.okWide, Cell.ok] at hv'
      exact hv'.2.2
    obtain ⟨_, hspot, row, cells, hsh, _⟩ := hok
    obtain ⟨b, off, spot⟩ := a
    simp only at hspot hsh
    subst hspot
    have hb : b < w.heap.size := by
      unfold World.shape? at hsh
      cases e : w.heap[b]? with
      | none => rw [e] at hsh; simp at hsh
      | some o => exact (Array.getElem?_eq_some_iff.1 e).1
    have hlm : n ≤ m := by rw [hmm]; split <;> omega
    rw [hk] at hi
    obtain ⟨f, hf2⟩ := choose_lt (n := n) (p := fun i a => w.cells? base ((⟨b, off, none⟩ : Addr).add (i * k)) k = some (enc a) ∧ R a) (fun i hin => by
      obtain ⟨cs', h1, h2⟩ := hi i (by omega)
      obtain ⟨_, hcl, _⟩ := World.cells?_some h1
      obtain ⟨a, rfl, hr⟩ := hel _ _ _ h2 hcl
      exact ⟨a, h1, hr⟩)
    refine ⟨(List.range n).map f, ⟨some ⟨b, off, none⟩, c, by simp, by simpa using hl, (fun h => nomatch h), fun _ => ⟨b, off, rfl, hb, fun j u hu2 => ?_⟩⟩, fun a ha => ?_⟩
    · have hj := (List.getElem?_eq_some_iff.1 hu2).1
      rw [flat_length k enc hlen, List.length_map, List.length_range] at hj
      have hk0 : 0 < k := by
        rcases Nat.eq_zero_or_pos k with e | e
        · subst e; simp at hj
        · exact e
      have hjn : j / k < n := Nat.div_lt_of_lt_mul (by rwa [Nat.mul_comm] at hj)
      have hjm : j % k < k := Nat.mod_lt _ hk0
      have hd : j = j / k * k + j % k := by rw [Nat.mul_comm]; exact (Nat.div_add_mod j k).symm
      rw [hd, flat_getElem k enc hlen _ (j / k) (j % k) (f (j / k)) (by rw [List.getElem?_map, List.getElem?_range hjn]; rfl) hjm] at hu2
      obtain ⟨h1, _⟩ := hf2 (j / k) hjn
      obtain ⟨_, _, hcell⟩ := World.cells?_some h1
      have := hcell (j % k) hjm
      rw [add_at, hu2] at this
      rwa [show off + j / k * k + j % k = off + j by omega] at this
    · obtain ⟨i, hin, rfl⟩ := List.mem_map.1 ha
      exact (hf2 i (List.mem_range.1 hin)).2
where
  SlL_nil (w : World) (enc : α → List Value) : SlL w enc (.slice none 0 0) [] := ⟨none, 0, rfl, Nat.le_refl _, fun _ => rfl, fun h => absurd rfl h⟩
end Go.Proofs.YtcnffgcegimelaaGreat.G
end
