/-
  Words for slices of elements of several cells, for any program: a row that the call owns, a slice that is read, and the two appends. Conditions: as each says.
-/
import Derived.Maps.AppendAt
import Derived.Laws.AppendOwnNone
import Derived.WalkKit
import Derived.Below
namespace Go.Proofs.Ythapkpgkcckapaa.G
open Go.RowKit

section
variable {α : Type}

/-- A row of elements that the call owns. -/
def OwnL (w : World) (base : Nat) (e : TypeId) (k : Nat) (enc : α → List Value) (v : Value) (xs : List α) : Prop := w.ownsRow base e k v xs.length (xs.flatMap enc)
/-- A slice of elements that is read. -/
def ReadL (w : World) (enc : α → List Value) (A : Option Addr) (xs : List α) : Prop := xs ≠ [] → ∃ b off, A = some ⟨b, off, none⟩ ∧ b < w.heap.size ∧ ∀ j u, (xs.flatMap enc)[j]? = some u → w.cell? ⟨b, off + j, none⟩ = some u
/-- A value that is a slice of elements. -/
def SlL (w : World) (enc : α → List Value) (v : Value) (xs : List α) : Prop := ∃ A c, v = .slice A xs.length c ∧ xs.length ≤ c ∧ (A = none → c = 0) ∧ ReadL w enc A xs

theorem flat_length (k : Nat) (enc : α → List Value) (hk : ∀ x, (enc x).length = k) : ∀ xs : List α, (xs.flatMap enc).length = xs.length * k
  | [] => by simp
  | x :: r => by
    rw [List.flatMap_cons, List.length_append, hk, flat_length k enc hk r, List.length_cons, Nat.add_mul, Nat.one_mul, Nat.add_comm]
theorem flat_getElem (k : Nat) (enc : α → List Value) (hk : ∀ x, (enc x).length = k) : ∀ (xs : List α) (i j : Nat) (x : α), xs[i]? = some x → j < k → (xs.flatMap enc)[i * k + j]? = (enc x)[j]?
  | [], i, j, x, h, _ => by simp at h
  | y :: r, 0, j, x, h, hj => by
    obtain rfl : y = x := by simpa using h
    rw [List.flatMap_cons, Nat.zero_mul, Nat.zero_add, List.getElem?_append_left (by rw [hk]; exact hj)]
  | y :: r, i + 1, j, x, h, hj => by
    have := flat_getElem k enc hk r i j x (by simpa using h) hj
    rw [List.flatMap_cons, List.getElem?_append_right (by rw [hk, Nat.add_mul, Nat.one_mul]; omega), hk, Nat.add_mul, Nat.one_mul]
    rw [show i * k + k + j - k = i * k + j by omega]
    exact this
theorem flat_one (enc : α → List Value) (h1 : ∀ x, ∀ u ∈ enc x, u.oneCell' = true) (xs : List α) : ∀ u ∈ xs.flatMap enc, u.oneCell' = true := by
  intro u hu
  obtain ⟨x, _, hx⟩ := List.mem_flatMap.1 hu
  exact h1 x u hx

variable {w w' : World} {base : Nat} {e : TypeId} {k : Nat} {enc : α → List Value} {v : Value} {xs : List α}

theorem OwnL.nil (w : World) (base : Nat) (e : TypeId) (k : Nat) (enc : α → List Value) : OwnL w base e k enc (.slice none 0 0) [] := ⟨by simp, .inl ⟨rfl, rfl⟩⟩
theorem OwnL.ge (h : OwnL w base e k enc v xs) (g : Nat) (hk : v.ownBlock = some g) : base ≤ g := by
  rcases h.2 with ⟨rfl, _⟩ | ⟨g', cap, cur, rfl, hb, _⟩
  · simp [Value.ownBlock] at hk
  · have : g' = g := by simpa [Value.ownBlock] using hk
    omega
theorem OwnL.lt_ (h : OwnL w base e k enc v xs) (g : Nat) (hk : v.ownBlock = some g) : g < w.heap.size := by
  rcases h.2 with ⟨rfl, _⟩ | ⟨g', cap, cur, rfl, hb, hh, _⟩
  · simp [Value.ownBlock] at hk
  · have : g' = g := by simpa [Value.ownBlock] using hk
    subst this
    exact (Array.getElem?_eq_some_iff.1 hh).1
theorem OwnL.kept (h : OwnL w base e k enc v xs) {row : Option Nat} (hg : w.grownBy w' row) (hne : v.ownBlock = none ∨ v.ownBlock ≠ row) : OwnL w' base e k enc v xs := World.ownsRow.kept h hg hne
theorem OwnL.other (h : OwnL w base e k enc v xs) {g : Nat} (hg : w.grownBy w' (some g)) (hlt : g < base) : OwnL w' base e k enc v xs := by
  refine h.kept hg ?_
  cases e' : v.ownBlock with
  | none => exact .inl rfl
  | some j => exact .inr fun e2 => by have := h.ge j e'; have := Option.some.inj e2; omega
theorem OwnL.below (h : OwnL w base e k enc v xs) (hb : Below w.heap.size w w') : OwnL w' base e k enc v xs :=
  h.kept (row := none) ⟨hb.os, hb.tape, hb.output, hb.size, fun i hi _ => hb.block i hi⟩ (by cases v.ownBlock <;> simp)
theorem OwnL.sl (h : OwnL w base e k enc v xs) : SlL w enc v xs := by
  obtain ⟨hl, ⟨rfl, hn⟩ | ⟨g, cap, cur, rfl, hg, hblk, hcap, _, hcs, htk⟩⟩ := h
  · have : xs = [] := List.eq_nil_of_length_eq_zero hn
    subst this
    exact ⟨none, 0, rfl, Nat.le_refl _, fun _ => rfl, fun h => absurd rfl h⟩
  · refine ⟨_, cap, rfl, hcap, (fun h => nomatch h), fun _ => ⟨g, 0, rfl, (Array.getElem?_eq_some_iff.1 hblk).1, fun j u hu => ?_⟩⟩
    have hj := (List.getElem?_eq_some_iff.1 hu).1
    rw [← htk, List.getElem?_take] at hu
    split at hu
    · simp only [World.cell?, hblk, Nat.zero_add]
      simpa using hu
    · cases hu
theorem SlL.below (h : SlL w enc v xs) (hb : Below w.heap.size w w') : SlL w' enc v xs := by
  obtain ⟨A, c, hv, hc, hn, hr⟩ := h
  refine ⟨A, c, hv, hc, hn, fun hx => ?_⟩
  obtain ⟨b, off, hA, hb', hcl⟩ := hr hx
  exact ⟨b, off, hA, Nat.lt_of_lt_of_le hb' hb.size, fun j u hu => (hb.cell (p := ⟨b, off + j, none⟩) hb').trans (hcl j u hu)⟩
/-- A slice, behind what changed one block that is not its own. -/
theorem SlL.grown (h : SlL w enc v xs) {row : Option Nat} (hg : w.grownBy w' row) (hne : ∀ b off n c, v = .slice (some ⟨b, off, none⟩) n c → row ≠ some b) : SlL w' enc v xs := by
  obtain ⟨A, c, hv, hc, hn, hr⟩ := h
  refine ⟨A, c, hv, hc, hn, fun hx => ?_⟩
  obtain ⟨b, off, hA, hb', hcl⟩ := hr hx
  refine ⟨b, off, hA, Nat.lt_of_lt_of_le hb' hg.size, fun j u hu => ?_⟩
  have e1 : w'.heap[b]? = w.heap[b]? := hg.block b hb' (fun e1 => hne b off _ c (by rw [hv, hA]) e1.symm)
  have := hcl j u hu
  simp only [World.cell?, e1] at this ⊢
  exact this
/-- The cells of an element. -/
theorem SlL.at_ (h : SlL w enc v xs) (hk : ∀ x, (enc x).length = k) (i : Nat) (x : α) (hx : xs[i]? = some x) : ∃ b off c, v = .slice (some ⟨b, off, none⟩) xs.length c ∧ b < w.heap.size ∧ ∀ j u, (enc x)[j]? = some u → w.cell? ⟨b, off + i * k + j, none⟩ = some u := by
  obtain ⟨A, c, hv, hc, _, hr⟩ := h
  have hne : xs ≠ [] := fun e => by rw [e] at hx; simp at hx
  obtain ⟨b, off, rfl, hb', hcl⟩ := hr hne
  refine ⟨b, off, c, hv, hb', fun j u hu => ?_⟩
  have hj : j < k := by have := (List.getElem?_eq_some_iff.1 hu).1; rwa [hk] at this
  have := hcl (i * k + j) u (by rw [flat_getElem k enc hk xs i j x hx hj]; exact hu)
  rwa [← Nat.add_assoc] at this
/-- A part of a slice: from its beginning on. -/
theorem SlL.take (h : SlL w enc v xs) {A : Option Addr} {n c : Nat} (hv : v = .slice A n c) (i : Nat) (hi : i ≤ xs.length) : SlL w enc (.slice A i c) (xs.take i) := by
  obtain ⟨A', c', hv', hc, hn, hr⟩ := h
  rw [hv] at hv'
  injection hv' with e1 e2 e3
  subst e1 e2 e3
  have hl : (xs.take i).length = i := by rw [List.length_take]; omega
  refine ⟨A, c, by rw [hl], by omega, hn, fun hx => ?_⟩
  obtain ⟨b, off, hA, hb', hcl⟩ := hr (fun e => by rw [e] at hx; simp at hx)
  refine ⟨b, off, hA, hb', fun j u hu => hcl j u ?_⟩
  rw [← List.take_append_drop i xs, List.flatMap_append]
  rw [List.getElem?_append_left (List.getElem?_eq_some_iff.1 hu).1]
  exact hu

variable {P : Program} {ops : Array Oper} {rest : List Oper} {o : Oper} {a : Act} {Q : Exit → Act → World → Prop}

/-- append(v, x): behind 'at_builtin'; the goal's world is that of the box. -/
theorem wp_app1 {W : World} (hgd : o.guard = none) (s x : Operand) (t e : TypeId) (ho : o.op = .call { callee := .builtin .append, args := #[s, x], argTypes := #[t, t] }) (z : Value) (k bytes : Nat)
    (ht : P.underlying t = some (.slice e)) (hinfo : (P.info? e).map (fun i => (i.zero, i.size, i.bytes)) = some (some z, k, bytes)) (hz : z.cells.size = k) (hk0 : 0 < k) (hb0 : 0 < bytes)
    (enc : α → List Value) (hk : ∀ x, (enc x).length = k) (h1 : ∀ x, ∀ u ∈ enc x, u.oneCell' = true) (base : Nat) (v : Value) (xs : List α) (y : α) (cs : Array Value) (hcs : cs.toList = enc y)
    (hs : a.eval s = v) (nb : Nat) (hx : a.eval x = .slice (some ⟨nb, 0, none⟩) 1 1) (hnb : nb = W.heap.size) (HO : OwnL W base e k enc v xs) (hbase : base ≤ W.heap.size) (hl : (xs.length + 1) * bytes ≤ 140737488355328)
    (h : ∀ v1 w1, OwnL w1 base e k enc v1 (xs ++ [y]) → W.grownBy w1 v.ownBlock → (v1.ownBlock = v.ownBlock ∨ ∃ b, v1.ownBlock = some b ∧ W.heap.size ≤ b) → wpList P ops Q rest (a.put o.dst v1) w1) :
    wpList P ops Q (o :: rest) a (W.alloc (.cells cs e)) := by
  subst hnb
  obtain ⟨i0, hi, hzz⟩ := Option.map_eq_some_iff.1 hinfo
  simp only [Prod.mk.injEq] at hzz
  obtain ⟨hz0, hz1, hz2⟩ := hzz
  have hlen : xs.length + 1 ≤ 140737488355328 := Nat.le_trans (Nat.le_mul_of_pos_right _ hb0) hl
  have hnew : ∀ j u, (enc y)[j]? = some u → (W.alloc (.cells cs e)).cell? ((⟨W.heap.size, 0, none⟩ : Addr).add j) = some u := by
    intro j u hu
    rw [Addr.add_lit, Nat.zero_add]
    rw [← hcs] at hu
    have e1 : (W.alloc (.cells cs e)).heap[W.heap.size]? = some (.cells cs e) := by
      show (W.heap.push _)[W.heap.size]? = _
      rw [Array.getElem?_push, if_pos rfl]
    simp only [World.cell?, e1]
    simpa using hu
  refine wpList_append_own_at (W.alloc (.cells cs e)) hgd s x t ho base e i0 z k bytes ht hi hz0 hz1 hz2 hz hk0 v xs.length (xs.flatMap enc) hs (World.ownsRow.alloc HO _) ⟨W.heap.size, 0, none⟩ 1 1 (enc y) hx (by rw [hk, Nat.one_mul])
    hnew (h1 y) (by simp only [maxLen]; omega) hl (by simp; omega) ?_
  intro v1 w1 hown hg _ hat
  refine h v1 w1 ?_ (World.grownBy.trans (World.grownBy_alloc W _ _) hg) ?_
  · unfold OwnL
    rw [List.length_append, List.flatMap_append]
    simpa using hown
  · rcases hat with hat | hat
    · exact .inl hat
    · exact .inr ⟨_, hat, by simp⟩

/-- append(v, ys...): behind 'at_builtin'. -/
theorem wp_appN {W : World} (hgd : o.guard = none) (s x : Operand) (t e : TypeId) (ho : o.op = .call { callee := .builtin .append, args := #[s, x], argTypes := #[t, t] }) (z : Value) (k bytes : Nat)
    (ht : P.underlying t = some (.slice e)) (hinfo : (P.info? e).map (fun i => (i.zero, i.size, i.bytes)) = some (some z, k, bytes)) (hz : z.cells.size = k) (hk0 : 0 < k) (hb0 : 0 < bytes)
    (enc : α → List Value) (hk : ∀ x, (enc x).length = k) (h1 : ∀ x, ∀ u ∈ enc x, u.oneCell' = true) (base : Nat) (v sv : Value) (xs ys : List α)
    (hs : a.eval s = v) (hx : a.eval x = sv) (HO : OwnL W base e k enc v xs) (HS : SlL W enc sv ys) (hbase : base ≤ W.heap.size) (hl : (xs.length + ys.length) * bytes ≤ 140737488355328)
    (h : ∀ v1 w1, OwnL w1 base e k enc v1 (xs ++ ys) → W.grownBy w1 v.ownBlock → (v1.ownBlock = v.ownBlock ∨ ∃ b, v1.ownBlock = some b ∧ W.heap.size ≤ b) → wpList P ops Q rest (a.put o.dst v1) w1) :
    wpList P ops Q (o :: rest) a W := by
  obtain ⟨i0, hi, hzz⟩ := Option.map_eq_some_iff.1 hinfo
  simp only [Prod.mk.injEq] at hzz
  obtain ⟨hz0, hz1, hz2⟩ := hzz
  have hlen : xs.length + ys.length ≤ 140737488355328 := Nat.le_trans (Nat.le_mul_of_pos_right _ hb0) hl
  obtain ⟨A, c, rfl, hc, hn, hr⟩ := HS
  cases A with
  | none =>
    have hc0 := hn rfl
    subst hc0
    have hy : ys = [] := List.eq_nil_of_length_eq_zero (by omega)
    subst hy
    refine wpList_append_own_none hgd s x t ho base e i0 k ht hi v xs.length (xs.flatMap enc) hs HO hx ?_
    exact h v W (by simpa using HO) (World.grownBy.refl _ _) (.inl rfl)
  | some ad =>
    refine wpList_append_own_at W hgd s x t ho base e i0 z k bytes ht hi hz0 hz1 hz2 hz hk0 v xs.length (xs.flatMap enc) hs HO ad ys.length c (ys.flatMap enc) hx (flat_length k enc hk ys) (fun j u hu => ?_) (flat_one enc h1 ys) (by simp only [maxLen]; omega) hl hbase ?_
    · obtain ⟨b, off, hA, _, hcl⟩ := hr (fun e1 => by rw [e1] at hu; simp at hu)
      have hA := Option.some.inj hA
      subst hA
      rw [Addr.add_lit]
      exact hcl j u hu
    · intro v1 w1 hown hg _ hat
      refine h v1 w1 ?_ hg ?_
      · unfold OwnL
        rw [List.length_append, List.flatMap_append]
        exact hown
      · rcases hat with hat | hat
        · exact .inl hat
        · exact .inr ⟨_, hat, Nat.le_refl _⟩
end
end Go.Proofs.Ythapkpgkcckapaa.G
