/-
  More words for slices of elements of several cells: a part from a place on; what a row's growing leaves. Conditions: as each says.
-/
import Derived.Test.YthapkpgkcckapaaG0
namespace Go.Proofs.Ythapkpgkcckapaa.G
open Go.RowKit
section
variable {α : Type} {w w' W W' : World} {base : Nat} {e : TypeId} {k : Nat} {enc : α → List Value} {v : Value} {xs : List α}
theorem OwnL.weaken (h : OwnL w base e k enc v xs) {base' : Nat} (hb : base' ≤ base) : OwnL w base' e k enc v xs := by
  obtain ⟨hl, ⟨rfl, hn⟩ | ⟨g, cap, cur, rfl, hg, hr⟩⟩ := h
  · exact ⟨hl, .inl ⟨rfl, hn⟩⟩
  · exact ⟨hl, .inr ⟨g, cap, cur, rfl, Nat.le_trans hb hg, hr⟩⟩
theorem OwnL.next {w0 : World} (h : OwnL W base e k enc v xs) (hb : Below base w0 W) (hB : base ≤ W.heap.size) (hg : W.grownBy W' v.ownBlock) : Below base w0 W' := hb.grown hg hB (fun j hj => h.ge j hj)
theorem OwnL.form (h : OwnL w base e k enc v xs) : ∃ A c, v = .slice A xs.length c ∧ xs.length ≤ c ∧ (A = none → c = 0 ∧ xs = []) ∧ (∀ a, A = some a → ∃ b, a = ⟨b, 0, none⟩ ∧ b < w.heap.size ∧ base ≤ b) := by
  obtain ⟨hl, ⟨rfl, hn⟩ | ⟨g, cap, cur, rfl, hg, hh, hc, _⟩⟩ := h
  · have hx : xs = [] := List.eq_nil_of_length_eq_zero hn
    subst hx
    exact ⟨none, 0, rfl, Nat.le_refl _, fun _ => ⟨rfl, rfl⟩, fun a h => by cases h⟩
  · exact ⟨_, cap, rfl, hc, (fun h => nomatch h), fun a ha => ⟨g, (Option.some.inj ha).symm, (Array.getElem?_eq_some_iff.1 hh).1, hg⟩⟩
theorem SlL.drop {b off n c : Nat} (h : SlL w enc (.slice (some ⟨b, off, none⟩) n c) xs) (hk : ∀ x, (enc x).length = k) (i : Nat) (hi : i ≤ xs.length) (b' off' : Nat) (he : c ≠ i → b' = b ∧ off' = off + i * k) : SlL w enc (.slice (some ⟨b', off', none⟩) (n - i) (c - i)) (xs.drop i) := by
  obtain ⟨A', c', hv, hc, _, hr⟩ := h
  injection hv with e1 e2 e3
  subst e1 e2 e3
  refine ⟨some ⟨b', off', none⟩, c - i, by rw [List.length_drop], by rw [List.length_drop]; omega, (fun h => nomatch h), fun hx => ?_⟩
  have hlt : i < xs.length := by
    by_cases h : i < xs.length
    · exact h
    · exact absurd (List.drop_eq_nil_of_le (by omega)) hx
  obtain ⟨rfl, rfl⟩ := he (by omega)
  obtain ⟨b2, off2, hA, hb', hcl⟩ := hr (fun e => by rw [e] at hlt; simp at hlt)
  injection hA with hA
  injection hA with h1 h2
  subst h1 h2
  refine ⟨_, _, rfl, hb', fun j u hu => ?_⟩
  have := hcl (i * k + j) u ?_
  · rwa [← Nat.add_assoc] at this
  · rw [← List.take_append_drop i xs, List.flatMap_append, List.getElem?_append_right]
    · rw [flat_length k enc hk, List.length_take, Nat.min_eq_left (by omega), Nat.add_sub_cancel_left]
      exact hu
    · rw [flat_length k enc hk, List.length_take, Nat.min_eq_left (by omega)]
      omega
theorem SlL.nil (w : World) (enc : α → List Value) : SlL w enc (.slice none 0 0) [] := ⟨none, 0, rfl, Nat.le_refl _, fun _ => rfl, fun h => absurd rfl h⟩
end
end Go.Proofs.Ythapkpgkcckapaa.G
