/-
  How many facts there are behind a batch, counted by what is last said of each, plain. No program in sight.
-/
import Derived.Test.YtcnffgcegimelaaGreatSp0
namespace Go.Proofs.YtcnffgcegimelaaGreat.So
open Go.Proofs.YtcnffgcegimelaaGreat.Mp

/-- What is last said of each triple. -/
def lastF (g : Tri → Option Bool) (l : List Cng) : Tri → Option Bool := l.foldl (fun g c => upd g c.T (some (!c.gone))) g
def lastL (G : List Tri) (l : List Cng) : List Tri := l.foldl (fun G c => if c.T ∈ G then G else c.T :: G) G
theorem lastF_snoc (g : Tri → Option Bool) (l : List Cng) (c : Cng) : lastF g (l ++ [c]) = upd (lastF g l) c.T (some (!c.gone)) := by
  unfold lastF
  rw [List.foldl_append]
  rfl
theorem lastL_snoc (G : List Tri) (l : List Cng) (c : Cng) : lastL G (l ++ [c]) = if c.T ∈ lastL G l then lastL G l else c.T :: lastL G l := by
  unfold lastL
  rw [List.foldl_append]
  rfl
theorem mem_doesL : ∀ (l : List Cng) (g : Tri → Option Bool) (L L0 : List Tri), (∀ x, x ∈ L ↔ (g x = some true ∨ (g x = none ∧ x ∈ L0))) → ∀ x, x ∈ doesL L l ↔ (lastF g l x = some true ∨ (lastF g l x = none ∧ x ∈ L0))
  | [], _, _, _, h => h
  | c :: r, g, L, L0, h => by
    refine mem_doesL r (upd g c.T (some (!c.gone))) (if c.gone then L.filter (fun z => decide (z ≠ c.T)) else if c.T ∈ L then L else c.T :: L) L0 fun x => ?_
    unfold upd
    by_cases hg : c.gone = true
    · rw [if_pos hg, hg, List.mem_filter, h x]
      by_cases e : x = c.T
      · simp [e]
      · simp [e]
    · have hg' : c.gone = false := by cases hh : c.gone with
        | true => exact absurd hh hg
        | false => rfl
      rw [if_neg hg, hg']
      by_cases e : x = c.T
      · rw [if_pos e]
        refine ⟨fun _ => Or.inl rfl, fun _ => ?_⟩
        rw [e]
        split
        · assumption
        · exact List.mem_cons_self
      · rw [if_neg e, ← h x]
        split
        · exact Iff.rfl
        · rw [List.mem_cons]
          exact ⟨fun hh => hh.resolve_left e, Or.inr⟩
theorem doesL_nodup : ∀ (l : List Cng) (L : List Tri), L.Nodup → (doesL L l).Nodup
  | [], _, h => h
  | c :: r, L, h => by
    refine doesL_nodup r (if c.gone then L.filter (fun z => decide (z ≠ c.T)) else if c.T ∈ L then L else c.T :: L) ?_
    split
    · exact h.filter _
    · split
      · exact h
      · rename_i hm
        exact List.nodup_cons.2 ⟨hm, h⟩
theorem len_split {α : Type} (p : α → Bool) : ∀ l : List α, l.length = (l.filter p).length + (l.filter (fun x => !p x)).length
  | [] => rfl
  | a :: r => by
    have h := len_split p r
    cases hp : p a
    · rw [List.filter_cons_of_neg (by simp [hp]), List.filter_cons_of_pos (by simp [hp]), List.length_cons, List.length_cons]
      omega
    · rw [List.filter_cons_of_pos (by simp [hp]), List.filter_cons_of_neg (by simp [hp]), List.length_cons, List.length_cons]
      omega
/-- The count. -/
theorem count_law {G L M : List Tri} {g : Tri → Option Bool} (hG : G.Nodup) (hL : L.Nodup) (hM : M.Nodup) (h1 : ∀ x, x ∈ G ↔ (g x).isSome) (h2 : ∀ x, x ∈ M ↔ (g x = some true ∨ (g x = none ∧ x ∈ L))) :
    M.length + (G.filter (fun x => decide (g x = some false) && decide (x ∈ L))).length = L.length + (G.filter (fun x => decide (g x = some true) && decide (x ∉ L))).length := by
  have p1 : M.Perm (L.filter (fun x => decide (g x ≠ some false)) ++ G.filter (fun x => decide (g x = some true) && decide (x ∉ L))) := by
    refine perm_of_mem hM (List.nodup_append.2 ⟨hL.filter _, hG.filter _, fun a ha b hb e => ?_⟩) fun x => ?_
    · subst e
      have q1 := (List.mem_filter.1 ha).1
      have q2 := (List.mem_filter.1 hb).2
      simp at q2
      exact q2.2 q1
    · rw [h2 x, List.mem_append, List.mem_filter, List.mem_filter, h1 x]
      cases hg : g x with
      | none => simp
      | some v => cases v <;> by_cases hx : x ∈ L <;> simp [hx]
  have p2 : (L.filter (fun x => !decide (g x ≠ some false))).Perm (G.filter (fun x => decide (g x = some false) && decide (x ∈ L))) := by
    refine perm_of_mem (hL.filter _) (hG.filter _) fun x => ?_
    rw [List.mem_filter, List.mem_filter, h1 x]
    cases hg : g x with
    | none => simp
    | some v => cases v <;> by_cases hx : x ∈ L <;> simp [hx]
  have e1 := p1.length_eq
  have e2 := p2.length_eq
  rw [List.length_append] at e1
  have e3 := len_split (fun x => decide (g x ≠ some false)) L
  omega
end Go.Proofs.YtcnffgcegimelaaGreat.So
