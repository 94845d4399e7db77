/-
  Plain law: rows sorted by an order and made single: each row once, strictly rising; numbers of a level rise where the levels above are the same. Conditions: an order of the three places.
-/
import Derived.Test.YthapkpgkcckapaaPa4
namespace Go.Proofs.Ythapkpgkcckapaa.Pm
open Go.Proofs.Ythapkpgkcckapaa.Pw Go.Sort
open Go.Lib (compact compactUpTo keeps)

theorem ltR_irrefl (o : Ord) (x : R3) : ¬ ltR o x x := by unfold ltR; omega
theorem ltR_trans (o : Ord) {x y z : R3} (h1 : ltR o x y) (h2 : ltR o y z) : ltR o x z := by unfold ltR at *; omega
theorem ltR_ntrans (o : Ord) {x y z : R3} (h1 : ¬ ltR o x y) (h2 : ¬ ltR o y z) : ¬ ltR o x z := by unfold ltR at *; omega
theorem ltR_tri (o : Ord) (ho : Six o) {x y : R3} (h1 : ¬ ltR o x y) (h2 : ¬ ltR o y x) : x = y := at_six o ho x y (by unfold ltR at *; omega)

theorem srt_sorted (o : Ord) (l : List R3) : (srt o l).Pairwise (fun x y => ¬ ltR o y x) := by
  have h := List.pairwise_mergeSort (le := fun x y => !(ltOf (cmpR o)) y x)
    (fun a b c h1 h2 => by
      simp only [ltOf_ltR, Bool.not_eq_true', decide_eq_false_iff_not] at *
      exact ltR_ntrans o h2 h1)
    (fun a b => by
      simp only [ltOf_ltR, Bool.or_eq_true, Bool.not_eq_true', decide_eq_false_iff_not]
      unfold ltR; omega) l
  exact List.Pairwise.imp (fun hxy => by simpa only [ltOf_ltR, Bool.not_eq_true', decide_eq_false_iff_not] using hxy) h

/-- Two lists that rise strictly and have the same members are one. -/
theorem strict_eq (o : Ord) : ∀ {l1 l2 : List R3}, l1.Pairwise (ltR o) → l2.Pairwise (ltR o) → (∀ x, x ∈ l1 ↔ x ∈ l2) → l1 = l2
  | [], [], _, _, _ => rfl
  | [], b :: r, _, _, h => absurd ((h b).2 (by simp)) (by simp)
  | a :: r, [], _, _, h => absurd ((h a).1 (by simp)) (by simp)
  | a :: r1, b :: r2, h1, h2, h => by
    obtain ⟨a1, p1⟩ := List.pairwise_cons.1 h1
    obtain ⟨b1, p2⟩ := List.pairwise_cons.1 h2
    have hab : a = b := by
      rcases List.mem_cons.1 ((h a).1 (by simp)) with e | ha
      · exact e
      · rcases List.mem_cons.1 ((h b).2 (by simp)) with e | hb
        · exact e.symm
        · exact absurd (ltR_trans o (b1 a ha) (a1 b hb)) (ltR_irrefl o b)
    subst hab
    rw [strict_eq o p1 p2 (fun x => ⟨fun hx => ?_, fun hx => ?_⟩)]
    · rcases List.mem_cons.1 ((h x).1 (by simp [hx])) with e | hx'
      · subst e; exact absurd (a1 x hx) (ltR_irrefl o x)
      · exact hx'
    · rcases List.mem_cons.1 ((h x).2 (by simp [hx])) with e | hx'
      · subst e; exact absurd (b1 x hx) (ltR_irrefl o x)
      · exact hx'
theorem strict_nodup (o : Ord) {l : List R3} (h : l.Pairwise (ltR o)) : l.Nodup :=
  List.Pairwise.imp (fun hxy e => by subst e; exact ltR_irrefl o _ hxy) h

theorem getD_toArray (l : List R3) (k : Nat) (hk : k < l.length) : l.toArray[k]! = l[k] := by
  rw [get_list l k hk, List.getD_eq_getElem?_getD, List.getElem?_eq_getElem hk]
  rfl

theorem compact_mem (l : List R3) (x : R3) : x ∈ compact l ↔ x ∈ l := by
  unfold compact compactUpTo
  simp only [List.mem_map, List.mem_filter, List.mem_range]
  constructor
  · rintro ⟨j, ⟨hj, _⟩, rfl⟩
    rw [getD_toArray l j hj]
    exact List.getElem_mem hj
  · intro hx
    obtain ⟨j, hj, e⟩ := List.getElem_of_mem hx
    induction j using Nat.strongRecOn with
    | ind j ih =>
      by_cases hk : keeps l.toArray j = true
      · exact ⟨j, ⟨hj, hk⟩, by rw [getD_toArray l j hj]; exact e⟩
      · unfold keeps at hk
        simp only [decide_eq_true_eq, not_or, Decidable.not_not] at hk
        have hj1 : j - 1 < l.length := by omega
        rw [getD_toArray l j hj, getD_toArray l (j - 1) hj1] at hk
        exact ih (j - 1) (by omega) hj1 (hk.2.symm.trans e)

theorem compact_strict (o : Ord) (ho : Six o) (l : List R3) (hs : l.Pairwise (fun x y => ¬ ltR o y x)) : (compact l).Pairwise (ltR o) := by
  unfold compact compactUpTo
  rw [List.pairwise_map, List.pairwise_filter]
  refine List.Pairwise.imp_of_mem ?_ (List.pairwise_lt_range (n := l.length))
  intro a b ha hb hab _ hkb
  have ha := List.mem_range.1 ha
  have hb := List.mem_range.1 hb
  have hb1 : b - 1 < l.length := by omega
  unfold keeps at hkb
  simp only [decide_eq_true_eq] at hkb
  rw [getD_toArray l a ha, getD_toArray l b hb]
  rw [getD_toArray l b hb, getD_toArray l (b - 1) hb1] at hkb
  have hn : l[b] ≠ l[b - 1] := hkb.resolve_left (by omega)
  have hp := List.pairwise_iff_getElem.1 hs
  have h2 : ¬ ltR o l[b] l[b - 1] := hp (b - 1) b hb1 hb (by omega)
  have h3 : ltR o l[b - 1] l[b] := by
    by_cases h : ltR o l[b - 1] l[b]
    · exact h
    · exact absurd (ltR_tri o ho h2 h) hn
  by_cases e : a = b - 1
  · subst e; exact h3
  · have h4 : ¬ ltR o l[b - 1] l[a] := hp a (b - 1) ha hb1 (by omega)
    by_cases h : ltR o l[a] l[b]
    · exact h
    · exact absurd h3 (ltR_ntrans o h4 h)

/-- An index's rows. -/
def rowsOf (o : Ord) (l : List R3) : List R3 := compact (srt o l)
theorem rowsOf_strict (o : Ord) (ho : Six o) (l : List R3) : (rowsOf o l).Pairwise (ltR o) := compact_strict o ho _ (srt_sorted o l)
theorem rowsOf_mem (o : Ord) (l : List R3) (x : R3) : x ∈ rowsOf o l ↔ x ∈ l := (compact_mem _ x).trans (srt_perm o l).mem_iff
theorem rowsOf_len (o : Ord) (l : List R3) : (rowsOf o l).length ≤ l.length := by
  have : (rowsOf o l).length ≤ (srt o l).length := by
    unfold rowsOf compact compactUpTo
    rw [List.length_map]
    exact Nat.le_trans (List.length_filter_le _ _) (by simp)
  rwa [srt_length] at this
theorem rowsOf_eq (o : Ord) (ho : Six o) (l l' : List R3) (hs : l'.Pairwise (ltR o)) (hm : ∀ x, x ∈ l' ↔ x ∈ l) : rowsOf o l = l' :=
  strict_eq o (rowsOf_strict o ho l) hs (fun x => (rowsOf_mem o l x).trans (hm x).symm)

theorem num1 (o : Ord) (L : List R3) (k : Nat) (h : k < L.length) : num L o 1 k = (L[k]).at o.x := by
  have e : L.getD k r0 = L[k] := by rw [List.getD_eq_getElem?_getD, List.getElem?_eq_getElem h]; rfl
  unfold num; rw [e]; rfl
theorem num2 (o : Ord) (L : List R3) (k : Nat) (h : k < L.length) : num L o 2 k = (L[k]).at o.y := by
  have e : L.getD k r0 = L[k] := by rw [List.getD_eq_getElem?_getD, List.getElem?_eq_getElem h]; rfl
  unfold num; rw [e]; rfl
theorem num3 (o : Ord) (L : List R3) (k : Nat) (h : k < L.length) : num L o 3 k = (L[k]).at o.z := by
  have e : L.getD k r0 = L[k] := by rw [List.getD_eq_getElem?_getD, List.getElem?_eq_getElem h]; rfl
  unfold num; rw [e]; rfl
/-- Numbers rise at a level, where the levels above are the same. -/
theorem num_mono (o : Ord) (L : List R3) (hL : L.Pairwise (ltR o)) (e : Nat) (he : 1 ≤ e ∧ e ≤ 3) (a b : Nat) (hab : a ≤ b) (hb : b < L.length) (hs : ∀ j, 1 ≤ j → j < e → num L o j a = num L o j b) : num L o e a ≤ num L o e b := by
  by_cases hEq : a = b
  · subst hEq; exact Int.le_refl _
  have ha : a < L.length := by omega
  have h := List.pairwise_iff_getElem.1 hL a b ha hb (by omega)
  unfold ltR at h
  obtain rfl | rfl | rfl : e = 1 ∨ e = 2 ∨ e = 3 := by omega
  · rw [num1 o L a ha, num1 o L b hb]
    omega
  · have h1 := hs 1 (by omega) (by omega)
    rw [num1 o L a ha, num1 o L b hb] at h1
    rw [num2 o L a ha, num2 o L b hb]
    omega
  · have h1 := hs 1 (by omega) (by omega)
    have h2 := hs 2 (by omega) (by omega)
    rw [num1 o L a ha, num1 o L b hb] at h1
    rw [num2 o L a ha, num2 o L b hb] at h2
    rw [num3 o L a ha, num3 o L b hb]
    omega
/-- At the last level they rise strictly. -/
theorem num_strict (o : Ord) (L : List R3) (hL : L.Pairwise (ltR o)) (a b : Nat) (hab : a < b) (hb : b < L.length) (hs : ∀ j, 1 ≤ j → j < 3 → num L o j a = num L o j b) : num L o 3 a < num L o 3 b := by
  have ha : a < L.length := by omega
  have h := List.pairwise_iff_getElem.1 hL a b ha hb (by omega)
  unfold ltR at h
  have h1 := hs 1 (by omega) (by omega)
  have h2 := hs 2 (by omega) (by omega)
  rw [num1 o L a ha, num1 o L b hb] at h1
  rw [num2 o L a ha, num2 o L b hb] at h2
  rw [num3 o L a ha, num3 o L b hb]
  omega
end Go.Proofs.Ythapkpgkcckapaa.Pm
