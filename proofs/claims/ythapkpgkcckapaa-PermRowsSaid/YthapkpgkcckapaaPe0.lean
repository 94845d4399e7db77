/-
  The document's index: the plain law of rows put in one by one; what it is to be an order. No condition.
-/
import Derived.Test.YthapkpgkcckapaaPc1
import Derived.Test.YthapkpgkcckapaaG0
namespace Go.Proofs.Ythapkpgkcckapaa.Pm
open Go.Proofs.Ythapkpgkcckapaa.Pw

theorem isOrd_eq (a b c : Int) : isOrd a b c = decide (0 ≤ a ∧ a ≤ 2 ∧ 0 ≤ b ∧ b ≤ 2 ∧ 0 ≤ c ∧ c ≤ 2 ∧ a ≠ b ∧ a ≠ c ∧ b ≠ c) := by
  rw [Bool.eq_iff_iff, decide_eq_true_iff]
  constructor
  · intro h
    have := isOrd_six h
    obtain ⟨h6, ha, hb, hc⟩ := this
    generalize ordOf a b c = p at *
    rcases h6 with h | h | h | h | h | h <;> omega
  · rintro ⟨h1, h2, h3, h4, h5, h6, h7, h8, h9⟩
    have ha : a = ((⟨a.toNat, b.toNat, c.toNat⟩ : Ord).x : Int) := by show a = (a.toNat : Int); omega
    have hb : b = ((⟨a.toNat, b.toNat, c.toNat⟩ : Ord).y : Int) := by show b = (b.toNat : Int); omega
    have hc : c = ((⟨a.toNat, b.toNat, c.toNat⟩ : Ord).z : Int) := by show c = (c.toNat : Int); omega
    have := isOrd_of_six (⟨a.toNat, b.toNat, c.toNat⟩ : Ord) (by unfold Six; simp only; omega)
    rw [← ha, ← hb, ← hc] at this
    exact this

/-- A row put into rising rows. -/
def ins (o : Ord) (r : R3) : List R3 → List R3
  | [] => [r]
  | x :: t => if ltR o x r then x :: ins o r t else if x = r then x :: t else r :: x :: t
theorem ins_mem (o : Ord) (r x : R3) : ∀ l, x ∈ ins o r l ↔ x ∈ l ∨ x = r
  | [] => by simp [ins]
  | y :: t => by
    unfold ins
    split
    · rw [List.mem_cons, ins_mem o r x t, List.mem_cons, or_assoc]
    · split
      · rename_i h
        subst h
        simp only [List.mem_cons]
        exact ⟨.inl, fun h => h.elim id .inl⟩
      · simp only [List.mem_cons]
        exact ⟨fun h => h.elim .inr .inl, fun h => h.elim .inr .inl⟩
theorem ins_rise (o : Ord) (ho : Six o) (r : R3) : ∀ l, l.Pairwise (ltR o) → (ins o r l).Pairwise (ltR o)
  | [], _ => by simp [ins]
  | y :: t, h => by
    obtain ⟨h1, h2⟩ := List.pairwise_cons.1 h
    unfold ins
    split
    · rename_i hy
      refine List.pairwise_cons.2 ⟨fun x hx => ?_, ins_rise o ho r t h2⟩
      rcases (ins_mem o r x t).1 hx with hx | rfl
      · exact h1 x hx
      · exact hy
    · rename_i hy
      split
      · exact h
      · rename_i hne
        have hry : ltR o r y := by
          by_cases e : ltR o r y
          · exact e
          · exact absurd (ltR_tri o ho hy e) hne
        refine List.pairwise_cons.2 ⟨fun x hx => ?_, h⟩
        rcases List.mem_cons.1 hx with rfl | hx
        · exact hry
        · exact ltR_trans o hry (h1 x hx)
/-- Rows put in, one by one. -/
def insAll (o : Ord) (l : List R3) : List R3 := l.foldl (fun out r => ins o r out) []
theorem insAll_take (o : Ord) (l : List R3) (k : Nat) (hk : k < l.length) : insAll o (l.take (k + 1)) = ins o (l.getD k r0) (insAll o (l.take k)) := by
  unfold insAll
  rw [List.take_succ_eq_append_getElem hk, List.foldl_append, List.getD_eq_getElem?_getD, List.getElem?_eq_getElem hk]
  rfl
theorem foldl_ins (o : Ord) (ho : Six o) : ∀ (l out : List R3), out.Pairwise (ltR o) → (l.foldl (fun out r => ins o r out) out).Pairwise (ltR o) ∧ ∀ x, x ∈ l.foldl (fun out r => ins o r out) out ↔ x ∈ out ∨ x ∈ l
  | [], out, h => ⟨h, by simp⟩
  | r :: t, out, h => by
    obtain ⟨h1, h2⟩ := foldl_ins o ho t (ins o r out) (ins_rise o ho r out h)
    refine ⟨h1, fun x => (h2 x).trans ?_⟩
    rw [ins_mem, List.mem_cons, or_assoc]
theorem insAll_eq (o : Ord) (ho : Six o) (l : List R3) : insAll o l = rowsOf o l := by
  obtain ⟨h1, h2⟩ := foldl_ins o ho l [] List.Pairwise.nil
  exact (rowsOf_eq o ho l _ h1 (fun x => (h2 x).trans (by simp))).symm
theorem ins_len (o : Ord) (r : R3) : ∀ l, (ins o r l).length ≤ l.length + 1
  | [] => by simp [ins]
  | x :: t => by
    have := ins_len o r t
    unfold ins
    split
    · simp; omega
    · split <;> simp
theorem insAll_len (o : Ord) (l : List R3) (k : Nat) (hk : k ≤ l.length) : (insAll o (l.take k)).length ≤ k := by
  induction k with
  | zero => simp [insAll]
  | succ k ih =>
    rw [insAll_take o l k (by omega)]
    have := ins_len o (l.getD k r0) (insAll o (l.take k))
    have := ih (by omega)
    omega

/-- What a search's place says of the putting in. -/
theorem ins_at (o : Ord) (r : R3) : ∀ (out : List R3) (k : Nat), k ≤ out.length → (∀ j, j < k → ltR o (out.getD j r0) r) → (k < out.length → ¬ ltR o (out.getD k r0) r) →
    ins o r out = if k < out.length ∧ out.getD k r0 = r then out else out.take k ++ r :: out.drop k
  | [], k, hk, _, _ => by
    obtain rfl : k = 0 := by simpa using hk
    simp [ins]
  | x :: t, 0, _, _, h2 => by
    have h2 := h2 (by simp)
    unfold ins
    rw [if_neg (by simpa using h2)]
    simp only [List.length_cons, List.take_zero, List.nil_append, List.drop_zero]
    by_cases e : x = r
    · rw [if_pos e, if_pos ⟨by omega, by simpa using e⟩]
    · rw [if_neg e, if_neg (fun h => e (by simpa using h.2))]
  | x :: t, k + 1, hk, h1, h2 => by
    have := ins_at o r t k (by simpa using hk) (fun j hj => h1 (j + 1) (by omega)) (fun hlt => h2 (by simpa using hlt))
    have h0 := h1 0 (by omega)
    unfold ins
    rw [if_pos (by simpa using h0), this]
    simp only [List.length_cons, List.getD_cons_succ, Nat.add_lt_add_iff_right, List.take_succ_cons, List.drop_succ_cons, List.cons_append]
    split <;> rfl
end Go.Proofs.Ythapkpgkcckapaa.Pm
