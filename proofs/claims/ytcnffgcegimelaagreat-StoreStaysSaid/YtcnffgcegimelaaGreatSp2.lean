/-
  The order of facts, and what versions of a store are, plain. No program in sight.
-/
import Derived.Test.YtcnffgcegimelaaGreatSp1
namespace Go.Proofs.YtcnffgcegimelaaGreat.So
open Go.Proofs.YtcnffgcegimelaaGreat.Mp Go.Proofs.YtcnffgcegimelaaGreat.Wd

theorem bl_irr : ∀ l : List UInt8, Op.bytesLess l l = false
  | [] => rfl
  | a :: r => by
    unfold Op.bytesLess
    rw [bl_irr r]
    simp
theorem bl_tr : ∀ a b c : List UInt8, Op.bytesLess a b = true → Op.bytesLess b c = true → Op.bytesLess a c = true
  | [], [], _, h, _ => by simp [Op.bytesLess] at h
  | [], _ :: _, [], _, h => by simp [Op.bytesLess] at h
  | [], _ :: _, _ :: _, _, _ => rfl
  | _ :: _, [], _, h, _ => by simp [Op.bytesLess] at h
  | _ :: _, _ :: _, [], _, h => by simp [Op.bytesLess] at h
  | x :: a, y :: b, z :: c, h1, h2 => by
    unfold Op.bytesLess at h1 h2 ⊢
    simp only [Bool.or_eq_true, decide_eq_true_eq, Bool.and_eq_true, beq_iff_eq] at h1 h2 ⊢
    rcases h1 with h1 | ⟨rfl, h1⟩
    · rcases h2 with h2 | ⟨rfl, h2⟩
      · exact Or.inl (UInt8.lt_trans h1 h2)
      · exact Or.inl h1
    · rcases h2 with h2 | ⟨rfl, h2⟩
      · exact Or.inl h2
      · exact Or.inr ⟨rfl, bl_tr a b c h1 h2⟩
theorem bl_tot : ∀ a b : List UInt8, a ≠ b → Op.bytesLess a b = true ∨ Op.bytesLess b a = true
  | [], [], h => absurd rfl h
  | [], _ :: _, _ => Or.inl rfl
  | _ :: _, [], _ => Or.inr rfl
  | x :: a, y :: b, h => by
    unfold Op.bytesLess
    simp only [Bool.or_eq_true, decide_eq_true_eq, Bool.and_eq_true, beq_iff_eq]
    by_cases e : x = y
    · subst e
      have hne : a ≠ b := fun e => h (by rw [e])
      rcases bl_tot a b hne with k | k
      · exact Or.inl (Or.inr ⟨rfl, k⟩)
      · exact Or.inr (Or.inr ⟨rfl, k⟩)
    · rcases UInt8.lt_or_lt_of_ne e with k | k
      · exact Or.inl (Or.inl k)
      · exact Or.inr (Or.inl k)
theorem bytes_ext {a b : ByteArray} (h : a.toList = b.toList) : a = b := by
  rw [ByteArray.toList_eq, ByteArray.toList_eq] at h
  exact ByteArray.ext (Array.ext' h)
/-- Words in their order. -/
def ltS (a b : ByteArray) : Bool := Op.bytesLess a.toList b.toList
theorem ltS_irr (a : ByteArray) : ltS a a = false := bl_irr _
theorem ltS_tr {a b c : ByteArray} (h : ltS a b = true) (k : ltS b c = true) : ltS a c = true := bl_tr _ _ _ h k
theorem ltS_tot {a b : ByteArray} (h : a ≠ b) : ltS a b = true ∨ ltS b a = true := bl_tot _ _ (fun e => h (bytes_ext e))
theorem ltS_anti {a b : ByteArray} (h : ltS a b = true) : ltS b a = false := by
  cases k : ltS b a with
  | false => rfl
  | true => have := ltS_tr h k; rw [ltS_irr] at this; cases this
/-- Facts in their order. -/
def ltT (a b : Tri) : Bool := if a.S = b.S then (if a.P = b.P then ltS a.O b.O else ltS a.P b.P) else ltS a.S b.S
theorem ltT_swh : SWh ltT where
  irr a := by simp [ltT, ltS_irr]
  tr a b c h1 h2 := by
    unfold ltT at h1 h2 ⊢
    by_cases e1 : a.S = b.S
    · rw [if_pos e1] at h1
      by_cases e2 : b.S = c.S
      · rw [if_pos e2] at h2
        rw [if_pos (e1.trans e2)]
        by_cases e3 : a.P = b.P
        · rw [if_pos e3] at h1
          by_cases e4 : b.P = c.P
          · rw [if_pos e4] at h2
            rw [if_pos (e3.trans e4)]
            exact ltS_tr h1 h2
          · rw [if_neg e4] at h2
            rw [if_neg (fun e => e4 (e3.symm.trans e)), e3]
            exact h2
        · rw [if_neg e3] at h1
          by_cases e4 : b.P = c.P
          · rw [if_neg (fun e => e3 (e.trans e4.symm)), ← e4]
            exact h1
          · rw [if_neg e4] at h2
            have := ltS_tr h1 h2
            rw [if_neg (fun e => by rw [e, ltS_irr] at this; cases this)]
            exact this
      · rw [if_neg e2] at h2
        rw [if_neg (fun e => e2 (e1.symm.trans e)), e1]
        exact h2
    · rw [if_neg e1] at h1
      by_cases e2 : b.S = c.S
      · rw [if_neg (fun e => e1 (e.trans e2.symm)), ← e2]
        exact h1
      · rw [if_neg e2] at h2
        have := ltS_tr h1 h2
        rw [if_neg (fun e => by rw [e, ltS_irr] at this; cases this)]
        exact this
  tot a b h := by
    unfold ltT
    by_cases e1 : a.S = b.S
    · rw [if_pos e1, if_pos e1.symm]
      by_cases e2 : a.P = b.P
      · rw [if_pos e2, if_pos e2.symm]
        refine ltS_tot fun e3 => h ?_
        obtain ⟨s, p, o⟩ := a
        obtain ⟨s', p', o'⟩ := b
        simp only at e1 e2 e3
        rw [e1, e2, e3]
      · rw [if_neg e2, if_neg (fun e => e2 e.symm)]
        exact ltS_tot e2
    · rw [if_neg e1, if_neg (fun e => e1 e.symm)]
      exact ltS_tot e1
/-- cmp.Compare at words. -/
def cmpS (a b : ByteArray) : Int := if ltS a b = true then -1 else if a = b then 0 else 1
theorem cmpS_neg (a b : ByteArray) : cmpS a b < 0 ↔ ltS a b = true := by
  unfold cmpS
  split
  · simp_all
  · split <;> simp_all
theorem dec_ltS (a b : ByteArray) : decide (cmpS a b < 0) = ltS a b := by
  have h := cmpS_neg a b
  cases k : ltS a b with
  | true => exact decide_eq_true (h.2 k)
  | false => exact decide_eq_false (fun e => by have := h.1 e; rw [k] at this; cases this)
theorem cmpS_zero (a b : ByteArray) : cmpS a b = 0 ↔ a = b := by
  unfold cmpS
  split
  · rename_i h
    refine ⟨fun e => absurd e (by omega), fun e => ?_⟩
    rw [e, ltS_irr] at h
    cases h
  · split <;> simp_all
/-- The comparison of facts. -/
def cmpT (a b : Tri) : Int := if cmpS a.S b.S = 0 then (if cmpS a.P b.P = 0 then cmpS a.O b.O else cmpS a.P b.P) else cmpS a.S b.S
theorem cmpT_neg (a b : Tri) : decide (cmpT a b < 0) = ltT a b := by
  unfold cmpT ltT
  by_cases e1 : a.S = b.S
  · rw [if_pos ((cmpS_zero _ _).2 e1), if_pos e1]
    by_cases e2 : a.P = b.P
    · rw [if_pos ((cmpS_zero _ _).2 e2), if_pos e2]
      exact dec_ltS a.O b.O
    · rw [if_neg (fun e => e2 ((cmpS_zero _ _).1 e)), if_neg e2]
      exact dec_ltS a.P b.P
  · rw [if_neg (fun e => e1 ((cmpS_zero _ _).1 e)), if_neg e1]
    exact dec_ltS a.S b.S

/-! ### Versions -/
/-- What batches make of a map of facts, and of the list of what is there. -/
def allF (log : List (List Cng)) : Tri → Option Bool := log.foldl doesF (fun _ => none)
def allL (log : List (List Cng)) : List Tri := log.foldl doesL []
/-- .. and of facts that rise. -/
def verL (log : List (List Cng)) : List Tri := log.foldl (doneR ltT) []
theorem allF_snoc (log : List (List Cng)) (l : List Cng) : allF (log ++ [l]) = doesF (allF log) l := by unfold allF; rw [List.foldl_append]; rfl
theorem allL_snoc (log : List (List Cng)) (l : List Cng) : allL (log ++ [l]) = doesL (allL log) l := by unfold allL; rw [List.foldl_append]; rfl
theorem verL_snoc (log : List (List Cng)) (l : List Cng) : verL (log ++ [l]) = doneR ltT (verL log) l := by unfold verL; rw [List.foldl_append]; rfl
theorem ver_from : ∀ (log : List (List Cng)) (L D : List Tri), Rises ltT D → L.Nodup → (∀ x, x ∈ L ↔ x ∈ D) → Rises ltT (log.foldl (doneR ltT) D) ∧ (log.foldl doesL L).Nodup ∧ ∀ x, x ∈ log.foldl doesL L ↔ x ∈ log.foldl (doneR ltT) D
  | [], _, _, h1, h2, h3 => ⟨h1, h2, h3⟩
  | l :: r, L, D, h1, h2, h3 => by
    have h := doneR_ok ltT_swh l h1 h3
    exact ver_from r (doesL L l) (doneR ltT D l) h.1 (doesL_nodup l L h2) h.2
theorem ver_ok (log : List (List Cng)) : Rises ltT (verL log) ∧ (allL log).Nodup ∧ ∀ x, x ∈ allL log ↔ x ∈ verL log :=
  ver_from log [] [] List.Pairwise.nil List.nodup_nil (fun _ => Iff.rfl)
theorem ver_perm (log : List (List Cng)) : (allL log).Perm (verL log) := perm_of_mem (ver_ok log).2.1 ((ver_ok log).1.nodup ltT_swh) (ver_ok log).2.2
theorem ver_len (log : List (List Cng)) : (allL log).length = (verL log).length := (ver_perm log).length_eq
theorem doesF_true : ∀ (l : List Cng) (f : Tri → Option Bool), (∀ x v, f x = some v → v = true) → ∀ x v, doesF f l x = some v → v = true
  | [], _, h => h
  | c :: r, f, h => by
    refine doesF_true r (upd f c.T (if c.gone then none else some true)) fun x v => ?_
    unfold upd
    by_cases e : x = c.T
    · rw [if_pos e]
      cases c.gone
      · intro e; exact (Option.some.inj e).symm
      · intro e; cases e
    · rw [if_neg e]
      exact h x v
theorem allF_from : ∀ (log : List (List Cng)) (f : Tri → Option Bool), (∀ x v, f x = some v → v = true) → ∀ x v, log.foldl doesF f x = some v → v = true
  | [], _, h => h
  | l :: r, f, h => allF_from r (doesF f l) (doesF_true l f h)
theorem allF_true (log : List (List Cng)) : ∀ x v, allF log x = some v → v = true := allF_from log _ (fun x v h => by cases h)
/-- A batch may be done behind a log. -/
def May (l : List Cng) : Prop := l.length ≤ 64 ∧ l.any (fun c => !isT c.T) = false
/-- A log that has come to be by batches. -/
structure Good (log : List (List Cng)) : Prop where
  may : ∀ l ∈ log, May l
  len : ∀ v, v ≤ log.length → (verL (log.take v)).length ≤ 4096
theorem Good.nil : Good [] := ⟨fun l h => absurd h (by simp), fun v _ => by simp [verL]⟩
theorem Good.snoc {log : List (List Cng)} {l : List Cng} (h : Good log) (hm : May l) (hl : (doesL (allL log) l).length ≤ 4096) : Good (log ++ [l]) := by
  refine ⟨fun x hx => ?_, fun v hv => ?_⟩
  · rcases List.mem_append.1 hx with hx | hx
    · exact h.may x hx
    · rw [List.mem_singleton.1 hx]; exact hm
  · rw [List.length_append, List.length_singleton] at hv
    by_cases e : v ≤ log.length
    · rw [List.take_append_of_le_length e]
      exact h.len v e
    · rw [List.take_of_length_le (by rw [List.length_append, List.length_singleton]; omega), ← ver_len, allL_snoc]
      exact hl
theorem Good.now {log : List (List Cng)} (h : Good log) : (allL log).length ≤ 4096 := by
  have := h.len log.length (Nat.le_refl _)
  rwa [List.take_length, ← ver_len] at this
theorem doneR_word : ∀ (l : List Cng) (D : List Tri), l.any (fun c => !isT c.T) = false → (∀ x ∈ D, isT x = true) → ∀ x ∈ doneR ltT D l, isT x = true
  | [], _, _, h => h
  | c :: r, D, ha, h => by
    have ha' := List.any_eq_false.1 ha
    refine doneR_word r (if c.gone then dropR D c.T else putR ltT D c.T) (List.any_eq_false.2 fun x hx => ha' x (List.mem_cons_of_mem _ hx)) fun x hx => ?_
    split at hx
    · exact h x (List.mem_filter.1 hx).1
    · rcases mem_putR.1 hx with e | e
      · have := ha' c List.mem_cons_self
        rw [e]
        simpa using this
      · exact h x e
theorem ver_word_from : ∀ (log : List (List Cng)) (D : List Tri), (∀ l ∈ log, May l) → (∀ x ∈ D, isT x = true) → ∀ x ∈ log.foldl (doneR ltT) D, isT x = true
  | [], _, _, h => h
  | l :: r, D, hm, h => ver_word_from r (doneR ltT D l) (fun x hx => hm x (List.mem_cons_of_mem _ hx)) (doneR_word l D (hm l List.mem_cons_self).2 h)
theorem Good.word {log : List (List Cng)} (h : Good log) (v : Nat) : ∀ x ∈ verL (log.take v), isT x = true :=
  ver_word_from (log.take v) [] (fun l hl => h.may l (List.mem_of_mem_take hl)) (fun x hx => absurd hx (by simp))
end Go.Proofs.YtcnffgcegimelaaGreat.So
