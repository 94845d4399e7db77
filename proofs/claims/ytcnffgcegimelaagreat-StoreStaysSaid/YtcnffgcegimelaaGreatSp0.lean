/-
  Lists that rise, plain: put, drop, and what a batch makes of them; any order that is strict and whole. No program in sight.
-/
import Derived.Test.YtcnffgcegimelaaGreatSt0
namespace Go.Proofs.YtcnffgcegimelaaGreat.So
open Go.Proofs.YtcnffgcegimelaaGreat.Mp

section
variable {κ : Type} [DecidableEq κ] (lt : κ → κ → Bool)
/-- A strict whole order. -/
structure SWh (lt : κ → κ → Bool) : Prop where
  irr : ∀ a, lt a a = false
  tr : ∀ a b c, lt a b = true → lt b c = true → lt a c = true
  tot : ∀ a b, a ≠ b → lt a b = true ∨ lt b a = true
def Rises (l : List κ) : Prop := l.Pairwise (fun a b => lt a b = true)
def putR : List κ → κ → List κ
  | [], t => [t]
  | a :: r, t => if lt a t then a :: putR r t else if a = t then a :: r else t :: a :: r
def dropR (l : List κ) (t : κ) : List κ := l.filter (fun z => decide (z ≠ t))
variable {lt}
omit [DecidableEq κ] in
theorem Rises.nodup (S : SWh lt) {l : List κ} (h : Rises lt l) : l.Nodup := h.imp (fun {a b} hab e => by
  subst e
  rw [S.irr] at hab
  cases hab)
theorem mem_putR {l : List κ} {t y : κ} : y ∈ putR lt l t ↔ y = t ∨ y ∈ l := by
  induction l with
  | nil => simp [putR]
  | cons a r ih =>
    unfold putR
    split
    · rw [List.mem_cons, ih, List.mem_cons]
      exact ⟨fun h => by rcases h with h | h | h <;> simp [h], fun h => by rcases h with h | h | h <;> simp [h]⟩
    · split
      · rename_i e
        subst e
        simp
      · simp
theorem putR_rises (S : SWh lt) {l : List κ} (h : Rises lt l) (t : κ) : Rises lt (putR lt l t) := by
  induction l with
  | nil => exact List.pairwise_singleton _ _
  | cons a r ih =>
    obtain ⟨h1, h2⟩ := List.pairwise_cons.1 h
    unfold putR
    split
    · rename_i hlt
      refine List.pairwise_cons.2 ⟨fun y hy => ?_, ih h2⟩
      rcases mem_putR.1 hy with rfl | hy
      · exact hlt
      · exact h1 y hy
    · rename_i hlt
      split
      · exact h
      · rename_i hne
        have hta : lt t a = true := by
          rcases S.tot a t hne with e | e
          · exact absurd e hlt
          · exact e
        refine List.pairwise_cons.2 ⟨fun y hy => ?_, h⟩
        rcases List.mem_cons.1 hy with rfl | hy
        · exact hta
        · exact S.tr _ _ _ hta (h1 y hy)
theorem dropR_rises {l : List κ} (h : Rises lt l) (t : κ) : Rises lt (dropR l t) := h.filter _
omit [DecidableEq κ] in
/-- Two lists without repeats that have the same members are one another's rearrangement. -/
theorem perm_of_mem {a b : List κ} (ha : a.Nodup) (hb : b.Nodup) (h : ∀ x, x ∈ a ↔ x ∈ b) : a.Perm b := (List.perm_ext_iff_of_nodup ha hb).2 h
omit [DecidableEq κ] in
/-- Lists that rise and have the same members are one. -/
theorem rises_one (S : SWh lt) {a b : List κ} (ha : Rises lt a) (hb : Rises lt b) (h : ∀ x, x ∈ a ↔ x ∈ b) : a = b :=
  List.Perm.eq_of_pairwise (fun x y _ _ h1 h2 => by
    have := S.tr _ _ _ h1 h2
    rw [S.irr] at this
    cases this) ha hb (perm_of_mem (ha.nodup S) (hb.nodup S) h)
end
/-- What a batch makes of facts that rise. -/
def doneR (lt : Tri → Tri → Bool) (D : List Tri) (l : List Cng) : List Tri := l.foldl (fun D c => if c.gone then dropR D c.T else putR lt D c.T) D
theorem doneR_ok {lt : Tri → Tri → Bool} (S : SWh lt) : ∀ (l : List Cng) {L D : List Tri}, Rises lt D → (∀ x, x ∈ L ↔ x ∈ D) → Rises lt (doneR lt D l) ∧ ∀ x, x ∈ doesL L l ↔ x ∈ doneR lt D l
  | [], _, _, hD, h => ⟨hD, h⟩
  | c :: r, L, D, hD, h => by
    show Rises lt (doneR lt (if c.gone then dropR D c.T else putR lt D c.T) r) ∧ ∀ x, x ∈ doesL (if c.gone then L.filter (fun z => decide (z ≠ c.T)) else if c.T ∈ L then L else c.T :: L) r ↔ x ∈ doneR lt (if c.gone then dropR D c.T else putR lt D c.T) r
    by_cases hg : c.gone = true
    · rw [if_pos hg, if_pos hg]
      refine doneR_ok S r (dropR_rises hD _) fun x => ?_
      unfold dropR
      rw [List.mem_filter, List.mem_filter, h x]
    · rw [if_neg hg, if_neg hg]
      refine doneR_ok S r (putR_rises S hD _) fun x => ?_
      rw [mem_putR, ← h x]
      split
      · rename_i hm
        refine ⟨Or.inr, fun e => ?_⟩
        rcases e with e | e
        · rw [e]; exact hm
        · exact e
      · exact List.mem_cons
end Go.Proofs.YtcnffgcegimelaaGreat.So
