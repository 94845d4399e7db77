/-
  LeapFewer, in plain words: what a join loses when a pair is taken away. Conditions: as each says.
-/
import Derived.Test.YtejinhnmabnomaaLe6
namespace Go.Proofs.Ytejinhnmabnomaa.Lf
open Go.RowKit Go.Proofs.YtejinhnmabnomaaW.PrintWords Go.Proofs.Ytejinhnmabnomaa.Pm Go.Proofs.Ytejinhnmabnomaa.Pw

/-- The relations of LeapFewer. -/
def fewR (v u : Value) (x y : List (Int × Int)) : List RelV := [⟨0, 1, v, x⟩, ⟨1, 0, u, y⟩]
theorem few_may (v u : Value) (x y : List (Int × Int)) {most : Int} (h0 : 0 ≤ most) (h1 : most ≤ 1048576) : MayP 2 [0, 1] (fewR v u x y) most := by
  refine ⟨by omega, by omega, h0, h1, by simp, by simp, ?_, ?_, ?_⟩
  · intro x hx; simp at hx; omega
  · intro r hr
    simp [fewR] at hr
    rcases hr with rfl | rfl
    · show (0 : Int) ≤ 0 ∧ (0 : Int) < 2 ∧ (0 : Int) ≤ 1 ∧ (1 : Int) < 2; omega
    · show (0 : Int) ≤ 1 ∧ (1 : Int) < 2 ∧ (0 : Int) ≤ 0 ∧ (0 : Int) < 2; omega
  · intro a h0 h1
    refine ⟨⟨0, 1, v, x⟩, by simp [fewR], ?_⟩
    show (0 : Int) = a ∨ (1 : Int) = a
    omega
theorem few_few (v u : Value) {x y : List (Int × Int)} (hx : x.length ≤ 30) (hy : y.length ≤ 30) (tx : ∀ p ∈ x, p.1 ≤ 9223372036854775807 ∧ p.2 ≤ 9223372036854775807) (ty : ∀ p ∈ y, p.1 ≤ 9223372036854775807 ∧ p.2 ≤ 9223372036854775807) : Few (fewR v u x y) := by
  refine ⟨by simp [fewR], fun r hr => ?_⟩
  simp [fewR] at hr
  rcases hr with rfl | rfl
  · exact ⟨hx, tx⟩
  · exact ⟨hy, ty⟩
theorem few_is (v u : Value) (x y : List (Int × Int)) : IsJoin (relN (fewR v u x y)) [0, 1] (joinL [0, 1] (fewR v u x y)) := joinL_is (few_may v u x y (most := 0) (by omega) (by omega))
theorem few_mem (v u : Value) (x y : List (Int × Int)) (row : List Int) : row ∈ joinL [0, 1] (fewR v u x y) ↔ ∃ p q, row = [p, q] ∧ (p, q) ∈ x ∧ (q, p) ∈ y := by
  rw [(few_is v u x y).mem]
  constructor
  · rintro ⟨f, hf, rfl⟩
    exact ⟨f 0, f 1, rfl, hf ⟨0, 1, x⟩ (by simp [fewR, relN, rlOf]), hf ⟨1, 0, y⟩ (by simp [fewR, relN, rlOf])⟩
  · rintro ⟨p, q, rfl, h1, h2⟩
    refine ⟨fun n => if n = 0 then p else q, ?_, rfl⟩
    intro r hr
    simp [fewR, relN, rlOf] at hr
    rcases hr with rfl | rfl
    · exact h1
    · exact h2
theorem few_nodup (v u : Value) (x y : List (Int × Int)) : (joinL [0, 1] (fewR v u x y)).Nodup := (few_is v u x y).rise.imp (fun {a b} hab e => by subst e; exact lex_irrefl a hab)
theorem few_short (v u : Value) {x y : List (Int × Int)} (hx : x.length ≤ 30) : (joinL [0, 1] (fewR v u x y)).length ≤ 30 := by
  refine Nat.le_trans (nodup_len (l := x.map fun p => [p.1, p.2]) (few_nodup v u x y) (fun row hrow => ?_)) (by rw [List.length_map]; exact hx)
  obtain ⟨p, q, rfl, h1, _⟩ := (few_mem v u x y row).1 hrow
  exact List.mem_map.2 ⟨_, h1, rfl⟩
/-- A list less its k-th element. -/
def less1 (x : List (Int × Int)) (k : Nat) : List (Int × Int) := x.take k ++ x.drop (k + 1)
theorem less1_mem {x : List (Int × Int)} {k : Nat} {p : Int × Int} (h : p ∈ less1 x k) : p ∈ x := by
  rcases List.mem_append.1 h with h | h
  · exact List.mem_of_mem_take h
  · exact List.mem_of_mem_drop h
theorem less1_or {x : List (Int × Int)} {k : Nat} (hk : k < x.length) {p : Int × Int} (h : p ∈ x) : p = x[k] ∨ p ∈ less1 x k := by
  rw [← List.take_append_drop k x] at h
  rcases List.mem_append.1 h with h | h
  · exact .inr (List.mem_append.2 (.inl h))
  · rw [List.drop_eq_getElem_cons hk] at h
    rcases List.mem_cons.1 h with h | h
    · exact .inl h
    · exact .inr (List.mem_append.2 (.inr h))
theorem less1_len {x : List (Int × Int)} {k : Nat} : (less1 x k).length ≤ x.length := by
  unfold less1
  rw [List.length_append, List.length_take, List.length_drop]
  omega
theorem few_sub (v u v' : Value) (x y : List (Int × Int)) (k : Nat) : ∀ row ∈ joinL [0, 1] (fewR v' u (less1 x k) y), row ∈ joinL [0, 1] (fewR v u x y) := by
  intro row hrow
  obtain ⟨p, q, rfl, h1, h2⟩ := (few_mem _ _ _ _ _).1 hrow
  exact (few_mem _ _ _ _ _).2 ⟨p, q, rfl, less1_mem h1, h2⟩
theorem few_one (v u v' : Value) (x y : List (Int × Int)) (k : Nat) (hk : k < x.length) : (joinL [0, 1] (fewR v u x y)).length ≤ (joinL [0, 1] (fewR v' u (less1 x k) y)).length + 1 := by
  refine nodup_len (l := [x[k].1, x[k].2] :: joinL [0, 1] (fewR v' u (less1 x k) y)) (few_nodup v u x y) (fun row hrow => ?_)
  obtain ⟨p, q, rfl, h1, h2⟩ := (few_mem _ _ _ _ _).1 hrow
  rcases less1_or hk h1 with e | e
  · rw [← e]; exact List.mem_cons_self
  · exact List.mem_cons_of_mem _ ((few_mem _ _ _ _ _).2 ⟨p, q, rfl, e, h2⟩)
theorem few_less (v u v' : Value) (x y : List (Int × Int)) (k : Nat) : (joinL [0, 1] (fewR v' u (less1 x k) y)).length ≤ (joinL [0, 1] (fewR v u x y)).length := nodup_len (few_nodup _ _ _ _) (few_sub v u v' x y k)

/-- Going along a rising list until a row is no longer less: a row that is there is found. -/
theorem rise_at {l : List (List Int)} (h : l.Pairwise lexLt) {i j : Nat} (hij : i < j) (hj : j < l.length) : lexLt (l.getD i []) (l.getD j []) := by
  rw [getD_lt _ _ (by omega), getD_lt _ _ hj]
  exact List.pairwise_iff_getElem.1 h i j (by omega) hj hij
theorem rise_find {l : List (List Int)} (h : l.Pairwise lexLt) {row : List Int} (hr : row ∈ l) {n : Nat} (hn : ∀ j, j < n → j < l.length → lexLt (l.getD j []) row) (hstop : n < l.length → ¬ lexLt (l.getD n []) row) : n < l.length ∧ l.getD n [] = row := by
  obtain ⟨m, hm, e⟩ := List.getElem_of_mem hr
  have e : l.getD m [] = row := by rw [getD_lt _ _ hm]; exact e
  by_cases h1 : m < n
  · exact absurd (e ▸ hn m h1 hm) (by rw [← e]; exact lex_irrefl _)
  · by_cases h2 : m = n
    · subst h2; exact ⟨hm, e⟩
    · exact absurd (e ▸ rise_at h (show n < m by omega) hm) (hstop (by omega))
end Go.Proofs.Ytejinhnmabnomaa.Lf
