/-
  Rows below where a walk stands, plain; a walk's steps by lists. Conditions: as each says.
-/
import Derived.Test.YtcnffgcegimelaaGreatSv3
import Derived.Test.YtcnffgcegimelaaGreatJ6
namespace Go.Proofs.YtcnffgcegimelaaGreat.So
open Go.RowKit Go.Proofs.YtcnffgcegimelaaGreat.Mp Go.Proofs.YtcnffgcegimelaaGreat.Wd Go.Proofs.YtcnffgcegimelaaGreat.Pm Go.Proofs.YtcnffgcegimelaaGreat.Pw

/-- Rows of an index that begin with some numbers. -/
def under (L : List R3) (o : Ord) (p : List Int) : List R3 := L.filter fun r => (List.range p.length).all fun j => r.at (o.at j) == p.getD j 0
theorem mem_under {L : List R3} {o : Ord} {p : List Int} {r : R3} : r ∈ under L o p ↔ r ∈ L ∧ ∀ j, j < p.length → r.at (o.at j) = p.getD j 0 := by
  unfold under
  rw [List.mem_filter, List.all_eq_true]
  simp only [List.mem_range, beq_iff_eq]
theorem under_nil (L : List R3) (o : Ord) : under L o [] = L := List.filter_eq_self.2 fun r _ => rfl
theorem rows_nodup {L : List R3} {o : Ord} (h : L.Pairwise (ltR o)) : L.Nodup := h.imp fun {a b} hab e => by
  subst e
  unfold ltR at hab
  omega
theorem mem_lvl {L : List R3} {o : Ord} {p : List Int} (hL : L.Pairwise (ltR o)) (hp : p.length ≤ 2) (x : Int) : x ∈ lvl L o p ↔ ∃ r ∈ under L o p, r.at (o.at p.length) = x := by
  rw [(lvl_sorted L o p hL hp).2 x]
  constructor
  · rintro ⟨i, hi, h1, h2⟩
    refine ⟨L.getD i r0, mem_under.2 ⟨?_, fun j hj => ?_⟩, h2⟩
    · rw [List.getD_eq_getElem?_getD, List.getElem?_eq_getElem hi]
      exact List.getElem_mem _
    · exact h1 j hj
  · rintro ⟨r, hr, h2⟩
    obtain ⟨h3, h4⟩ := mem_under.1 hr
    obtain ⟨i, hi, rfl⟩ := List.getElem_of_mem h3
    have e : L.getD i r0 = L[i] := by rw [List.getD_eq_getElem?_getD, List.getElem?_eq_getElem hi]; rfl
    refine ⟨i, hi, fun j hj => ?_, ?_⟩
    · show (L.getD i r0).at (o.at j) = _
      rw [e]; exact h4 j hj
    · show (L.getD i r0).at (o.at p.length) = x
      rw [e]; exact h2
theorem getD_snoc (p : List Int) (a : Int) (j : Nat) (hj : j < p.length) : (p ++ [a]).getD j 0 = p.getD j 0 := by
  rw [List.getD_eq_getElem?_getD, List.getD_eq_getElem?_getD, List.getElem?_append_left hj]
theorem getD_last (p : List Int) (a : Int) : (p ++ [a]).getD p.length 0 = a := by
  rw [List.getD_eq_getElem?_getD, List.getElem?_concat_length]; rfl
theorem under_snoc {L : List R3} {o : Ord} {p : List Int} {a : Int} {r : R3} : r ∈ under L o (p ++ [a]) ↔ r ∈ under L o p ∧ r.at (o.at p.length) = a := by
  rw [mem_under, mem_under, List.length_append, List.length_singleton]
  constructor
  · rintro ⟨h1, h2⟩
    refine ⟨⟨h1, fun j hj => ?_⟩, ?_⟩
    · rw [h2 j (by omega), getD_snoc p a j hj]
    · rw [h2 p.length (by omega), getD_last]
  · rintro ⟨⟨h1, h2⟩, h3⟩
    refine ⟨h1, fun j hj => ?_⟩
    by_cases e : j < p.length
    · rw [h2 j e, getD_snoc p a j e]
    · rw [show j = p.length by omega, h3, getD_last]
/-- The rows are split by their next numbers. -/
theorem under_split {L : List R3} {o : Ord} {p : List Int} (hL : L.Pairwise (ltR o)) (hp : p.length ≤ 2) : ((lvl L o p).flatMap fun a => under L o (p ++ [a])).Perm (under L o p) := by
  refine perm_of_mem ?_ ((rows_nodup hL).filter _) fun r => ?_
  · refine List.pairwise_flatMap.2 ⟨fun a _ => (rows_nodup hL).filter _, (lvl_sorted L o p hL hp).1.imp fun {a b} hab x hx y hy e => ?_⟩
    rw [e] at hx
    have h1 := (under_snoc.1 hx).2
    have h2 := (under_snoc.1 hy).2
    omega
  · rw [List.mem_flatMap]
    constructor
    · rintro ⟨a, _, h⟩
      exact (under_snoc.1 h).1
    · intro h
      exact ⟨_, (mem_lvl hL hp _).2 ⟨r, h, rfl⟩, under_snoc.2 ⟨h, rfl⟩⟩
theorem under_three {L : List R3} {o : Ord} (ho : Six o) (hL : L.Pairwise (ltR o)) {p : List Int} (hp : p.length = 3) {r : R3} (hr : r ∈ under L o p) : under L o p = [r] := by
  have h1 : (under L o p).Nodup := (rows_nodup hL).filter _
  have h2 : ∀ x ∈ under L o p, x = r := fun x hx => by
    have h3 := (mem_under.1 hx).2
    have h4 := (mem_under.1 hr).2
    refine at_six o ho x r ⟨?_, ?_, ?_⟩
    · exact (h3 0 (by omega)).trans (h4 0 (by omega)).symm
    · exact (h3 1 (by omega)).trans (h4 1 (by omega)).symm
    · exact (h3 2 (by omega)).trans (h4 2 (by omega)).symm
  exact List.perm_singleton.1 (perm_of_mem h1 (show [r].Nodup by simp) fun x => by
    rw [List.mem_singleton]
    exact ⟨h2 x, fun e => e ▸ hr⟩)

/-! ### A walk's steps -/
theorem rOpen_nil {L : List R3} (o : Ord) (p : List Int) (h : L.length = 0) : rOpen L o ⟨p, false⟩ = (⟨p, false⟩, 3) := by unfold rOpen; rw [if_pos (Or.inr (Or.inr h))]
theorem rOpen_some {L : List R3} (o : Ord) (p : List Int) (h : L.length ≠ 0) (hp : p.length ≤ 2) : rOpen L o ⟨p, false⟩ = (⟨p ++ [(lvl L o p).getD 0 0], false⟩, 0) := by
  unfold rOpen
  rw [if_neg]
  rintro (e | e | e)
  · have e' : p.length = 3 := e
    omega
  · cases e
  · exact h e
theorem rKey_at (p : List Int) (a : Int) : rKey ⟨p ++ [a], false⟩ = (a, true) := by
  unfold rKey
  rw [if_neg (by simp)]
  show ((p ++ [a]).getD ((p ++ [a]).length - 1) 0, true) = (a, true)
  rw [List.length_append, List.length_singleton, Nat.add_sub_cancel, getD_last]
theorem rKey_beh (q : List Int) : rKey ⟨q, true⟩ = (0, false) := by unfold rKey; rw [if_pos (Or.inr rfl)]
theorem take_dropLast (p : List Int) (a : Int) : (p ++ [a]).take ((p ++ [a]).length - 1) = p := by
  rw [List.length_append, List.length_singleton, Nat.add_sub_cancel, List.take_left']
  rfl
theorem rUp_at (p : List Int) (a : Int) (b : Bool) : rUp ⟨p ++ [a], b⟩ = (⟨p, false⟩, 0) := by
  unfold rUp
  rw [if_neg (by simp)]
  show ((⟨(p ++ [a]).take ((p ++ [a]).length - 1), false⟩ : RS), (0 : Int)) = _
  rw [take_dropLast]
theorem find_next : ∀ (A : List Int) (i : Nat), A.Pairwise (· < ·) → i < A.length → A.find? (fun x => decide (A.getD i 0 + 1 ≤ x)) = A[i + 1]?
  | [], i, _, h => absurd h (by simp)
  | a :: A, 0, h, _ => by
    obtain ⟨h1, h2⟩ := List.pairwise_cons.1 h
    show (a :: A).find? (fun x => decide (a + 1 ≤ x)) = A[0]?
    rw [List.find?_cons_of_neg (by simp; omega)]
    cases A with
    | nil => rfl
    | cons b A =>
      have := h1 b List.mem_cons_self
      rw [List.find?_cons_of_pos (by simp; omega)]
      rfl
  | a :: A, i + 1, h, hi => by
    obtain ⟨h1, h2⟩ := List.pairwise_cons.1 h
    have hi' : i < A.length := by simpa using hi
    have e : (a :: A).getD (i + 1) 0 = A.getD i 0 := by simp
    have h3 : a < A.getD i 0 := by
      rw [List.getD_eq_getElem?_getD, List.getElem?_eq_getElem hi']
      exact h1 _ (List.getElem_mem _)
    rw [e, List.find?_cons_of_neg (by rw [decide_eq_true_eq]; omega), find_next A i h2 hi']
    simp
/-- Where a walk over a level stands behind so many of its numbers. -/
def lvAt (p A : List Int) (i : Nat) : RS := if i < A.length then ⟨p ++ [A.getD i 0], false⟩ else ⟨p ++ [A.getD (A.length - 1) 0], true⟩
theorem rNext_at {L : List R3} {o : Ord} {p : List Int} (hL : L.Pairwise (ltR o)) (hp : p.length ≤ 2) (i : Nat) (hi : i < (lvl L o p).length) (hm : (lvl L o p).getD i 0 < 9223372036854775807) : rNext L o (lvAt p (lvl L o p) i) = (lvAt p (lvl L o p) (i + 1), 0) := by
  have hA := (lvl_sorted L o p hL hp).1
  generalize hA' : lvl L o p = A at *
  unfold lvAt
  rw [if_pos hi]
  unfold rNext
  rw [rKey_at]
  rw [if_neg (by simp), if_neg (by show ¬ A.getD i 0 = 9223372036854775807; omega)]
  show (rTo L o ⟨p ++ [A.getD i 0], false⟩ (A.getD i 0 + 1), (0 : Int)) = _
  unfold rTo
  rw [take_dropLast, hA', find_next A i hA hi]
  by_cases h2 : i + 1 < A.length
  · rw [List.getElem?_eq_getElem h2, if_pos h2, List.getD_eq_getElem?_getD (i := i + 1), List.getElem?_eq_getElem h2]
    rfl
  · rw [List.getElem?_eq_none (by omega), if_neg h2, show A.length - 1 = i by omega]
theorem find_ge : ∀ (A : List Int) (n : Int), A.Pairwise (· < ·) → n ∈ A → A.find? (fun x => decide (n ≤ x)) = some n
  | [], n, _, h => by cases h
  | a :: A, n, h, hn => by
    obtain ⟨h1, h2⟩ := List.pairwise_cons.1 h
    rcases List.mem_cons.1 hn with e | e
    · subst e
      rw [List.find?_cons_of_pos (by simp)]
    · have := h1 n e
      rw [List.find?_cons_of_neg (by simp; omega), find_ge A n h2 e]
/-- Behind Open and Seek a walk stands at a number just if it is there. -/
theorem rSeek_at {L : List R3} {o : Ord} {p : List Int} (hL : L.Pairwise (ltR o)) (hp : p.length ≤ 2) (hpos : 0 < (lvl L o p).length) (n : Int) :
    (rSeek L o ⟨p ++ [(lvl L o p).getD 0 0], false⟩ n).2 = 0 ∧ (n ∈ lvl L o p → (rSeek L o ⟨p ++ [(lvl L o p).getD 0 0], false⟩ n).1 = ⟨p ++ [n], false⟩) ∧ (n ∉ lvl L o p → rKey (rSeek L o ⟨p ++ [(lvl L o p).getD 0 0], false⟩ n).1 ≠ (n, true)) := by
  have hA := (lvl_sorted L o p hL hp).1
  generalize hA' : lvl L o p = A at *
  obtain ⟨a, B, rfl⟩ : ∃ a B, A = a :: B := by
    cases A with
    | nil => simp at hpos
    | cons a B => exact ⟨a, B, rfl⟩
  have e0 : (a :: B).getD 0 0 = a := rfl
  rw [e0]
  unfold rSeek
  rw [rKey_at, if_neg (by simp)]
  have hmin := (List.pairwise_cons.1 hA).1
  by_cases h : n ≤ a
  · rw [if_pos h]
    refine ⟨rfl, fun hn => ?_, fun hn => ?_⟩
    · rcases List.mem_cons.1 hn with e | e
      · rw [e]
      · have := hmin n e; omega
    · show rKey ⟨p ++ [a], false⟩ ≠ (n, true)
      rw [rKey_at]
      intro e
      injection e with e _
      exact hn (by rw [← e]; exact List.mem_cons_self)
  · rw [if_neg h]
    refine ⟨rfl, fun hn => ?_, fun hn => ?_⟩
    · show rTo L o ⟨p ++ [a], false⟩ n = _
      unfold rTo
      rw [take_dropLast, hA', find_ge _ n hA hn]
    · show rKey (rTo L o ⟨p ++ [a], false⟩ n) ≠ (n, true)
      unfold rTo
      rw [take_dropLast, hA']
      cases hf : (a :: B).find? (fun x => decide (n ≤ x)) with
      | none =>
        show rKey ⟨p ++ [a], true⟩ ≠ (n, true)
        rw [rKey_beh]
        intro e
        injection e with _ e
        cases e
      | some x =>
        show rKey ⟨p ++ [x], false⟩ ≠ (n, true)
        rw [rKey_at]
        intro e
        injection e with e _
        exact hn (by rw [← e]; exact List.mem_of_find?_eq_some hf)
end Go.Proofs.YtcnffgcegimelaaGreat.So
