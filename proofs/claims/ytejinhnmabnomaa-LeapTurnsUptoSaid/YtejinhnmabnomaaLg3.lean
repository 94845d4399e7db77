/-
  The document's join in plain words: choices relation by relation, how many there are. Conditions: as each says.
-/
import Derived.Test.YtejinhnmabnomaaLg0
namespace Go.Proofs.Ytejinhnmabnomaa.Lf
open Go.RowKit Go.Proofs.YtejinhnmabnomaaW.PrintWords Go.Proofs.Ytejinhnmabnomaa.Pm Go.Proofs.Ytejinhnmabnomaa.Pw

theorem allC_snoc (r : Rl) : ∀ (rels : List Rl) (cs : List Ch), allC (rels ++ [r]) cs = stepC r (allC rels cs)
  | [], _ => rfl
  | q :: rels, cs => allC_snoc r rels (stepC q cs)
def noC : Ch := fun _ => none
/-- So many choices, and so many pairs for the next one, have been gone through. -/
def midC (r : Rl) (cs : List Ch) (k j : Nat) : List Ch := stepC r (cs.take k) ++ (r.rows.take j).filterMap (pairC (cs.getD k noC) r)
theorem midC_start (r : Rl) (cs : List Ch) : midC r cs 0 0 = [] := by simp [midC, stepC]
theorem midC_next (r : Rl) (cs : List Ch) (k j : Nat) (hj : j < r.rows.length) : midC r cs k (j + 1) = midC r cs k j ++ (pairC (cs.getD k noC) r (r.rows.getD j (0, 0))).toList := by
  unfold midC
  rw [List.take_succ_eq_append_getElem hj, List.filterMap_append, ← List.append_assoc, getD_lt _ _ hj]
  congr 1
theorem midC_turn (r : Rl) (cs : List Ch) (k : Nat) (hk : k < cs.length) : midC r cs k r.rows.length = midC r cs (k + 1) 0 := by
  unfold midC
  rw [List.take_succ_eq_append_getElem hk, List.take_length]
  unfold stepC
  rw [List.flatMap_append, List.flatMap_singleton, getD_lt _ _ hk]
  simp
theorem midC_end (r : Rl) (cs : List Ch) : midC r cs cs.length 0 = stepC r cs := by
  unfold midC
  rw [List.take_length]
  simp
theorem stepC_len (r : Rl) : ∀ cs : List Ch, (stepC r cs).length ≤ cs.length * r.rows.length
  | [] => by simp [stepC]
  | c :: cs => by
    have h := stepC_len r cs
    unfold stepC at h ⊢
    rw [List.flatMap_cons, List.length_append, List.length_cons, Nat.succ_mul]
    have := List.length_filterMap_le (pairC c r) r.rows
    omega
theorem midC_len (r : Rl) (cs : List Ch) (k j : Nat) (hk : k < cs.length) (hj : j ≤ r.rows.length) : (midC r cs k j).length ≤ cs.length * r.rows.length := by
  unfold midC
  rw [List.length_append]
  have h1 := stepC_len r (cs.take k)
  have h2 := List.length_filterMap_le (pairC (cs.getD k noC) r) (r.rows.take j)
  rw [List.length_take] at h1 h2
  have h3 : (min k cs.length) * r.rows.length + r.rows.length ≤ cs.length * r.rows.length := by
    rw [← Nat.succ_mul]
    exact Nat.mul_le_mul_right _ (by omega)
  omega
def prodL : List Rl → Nat
  | [] => 1
  | r :: l => r.rows.length * prodL l
theorem prodL_snoc (r : Rl) : ∀ l : List Rl, prodL (l ++ [r]) = prodL l * r.rows.length
  | [] => by simp [prodL]
  | q :: l => by
    rw [List.cons_append]
    unfold prodL
    rw [prodL_snoc r l, Nat.mul_assoc]
theorem allC_len : ∀ (rels : List Rl) (cs : List Ch), (allC rels cs).length ≤ cs.length * prodL rels
  | [], cs => by simp [allC, prodL]
  | r :: rels, cs => by
    unfold allC prodL
    have h1 := allC_len rels (stepC r cs)
    have h2 := stepC_len r cs
    refine Nat.le_trans h1 ?_
    rw [← Nat.mul_assoc]
    exact Nat.mul_le_mul_right _ h2
/-- The choices behind so many relations. -/
def csAt (rels : List Rl) (i : Nat) : List Ch := allC (rels.take i) [noC]
theorem csAt_zero (rels : List Rl) : csAt rels 0 = [noC] := rfl
theorem csAt_next (rels : List Rl) (i : Nat) (hi : i < rels.length) : csAt rels (i + 1) = stepC (rels.getD i ⟨0, 0, []⟩) (csAt rels i) := by
  unfold csAt
  rw [List.take_succ_eq_append_getElem hi, allC_snoc, getD_lt _ _ hi]
theorem csAt_len (rels : List Rl) (i : Nat) : (csAt rels i).length ≤ prodL (rels.take i) := by
  have := allC_len (rels.take i) [noC]
  simpa [csAt] using this
theorem csAt_mul (rels : List Rl) (i : Nat) (hi : i < rels.length) {b : Nat} (h : prodL (rels.take (i + 1)) ≤ b) : (csAt rels i).length * (rels.getD i ⟨0, 0, []⟩).rows.length ≤ b := by
  rw [List.take_succ_eq_append_getElem hi, prodL_snoc] at h
  rw [getD_lt _ _ hi]
  exact Nat.le_trans (Nat.mul_le_mul_right _ (csAt_len rels i)) h
theorem refJoin_at (rels : List Rl) (keep : List Nat) : refJoin rels keep = refRows keep (csAt rels rels.length) := by
  unfold refJoin csAt
  rw [List.take_length]
  rfl
def rowC (keep : List Int) (c : Ch) : List Int := keep.map fun v => (c v.toNat).getD 0
def outC (keep : List Int) (cs : List Ch) (k : Nat) : List (List Int) := refRows (keepN keep) (cs.take k)
theorem outC_zero (keep : List Int) (cs : List Ch) : outC keep cs 0 = [] := rfl
theorem outC_next (keep : List Int) (cs : List Ch) (k : Nat) (hk : k < cs.length) : outC keep cs (k + 1) = ins (rowC keep (cs.getD k noC)) (outC keep cs k) := by
  unfold outC refRows
  rw [List.take_succ_eq_append_getElem hk, List.foldl_append, getD_lt _ _ hk]
  unfold rowC keepN
  simp only [List.foldl_cons, List.foldl_nil, List.map_map]
  rfl
theorem outC_end (rels : List RelV) (keep : List Int) : outC keep (csAt (relN rels) rels.length) (csAt (relN rels) rels.length).length = joinL keep rels := by
  unfold outC joinL
  rw [List.take_length, refJoin_at]
  congr 2
  unfold relN
  rw [List.length_map]
theorem outC_row (keep : List Int) (cs : List Ch) : ∀ k, k ≤ cs.length → (outC keep cs k).length ≤ k ∧ ∀ x ∈ outC keep cs k, x.length = keep.length
  | 0, _ => ⟨Nat.le_refl _, fun x hx => by rw [outC_zero] at hx; cases hx⟩
  | k + 1, h => by
    obtain ⟨h1, h2⟩ := outC_row keep cs k (by omega)
    rw [outC_next keep cs k (by omega)]
    refine ⟨Nat.le_trans (ins_len _ _) (by omega), fun x hx => ?_⟩
    rcases (ins_mem _ _ _).1 hx with hx | rfl
    · exact h2 x hx
    · simp [rowC]

/-! ### Light joins -/
def mL (n : Nat) : Nat := max 1 (min n 1000)
def prodN : List Nat → Nat
  | [] => 1
  | n :: l => n * prodN l
theorem prodN_snoc (n : Nat) : ∀ l : List Nat, prodN (l ++ [n]) = prodN l * n
  | [] => by simp [prodN]
  | q :: l => by
    rw [List.cons_append]
    unfold prodN
    rw [prodN_snoc n l, Nat.mul_assoc]
/-- A light join: eight relations at most, and the product of their sizes is small. -/
structure LightP (ls : List Nat) : Prop where
  len : ls.length ≤ 8
  prod : ∀ i, i ≤ ls.length → prodN ((ls.take i).map mL) ≤ 20000
theorem light_two (ls : List Nat) (hb : ∀ n ∈ ls, n ≤ 1048576) (h : LightP ls) : ∀ i, i ≤ ls.length → prodN (ls.take i) ≤ prodN ((ls.take i).map mL) ∨ (1000 ≤ prodN ((ls.take i).map mL) ∧ prodN (ls.take i) ≤ prodN ((ls.take i).map mL) * 1048576)
  | 0, _ => .inl (Nat.le_refl _)
  | i + 1, hi => by
    have ih := light_two ls hb h i (by omega)
    have hp := h.prod (i + 1) hi
    have hlt : i < ls.length := by omega
    rw [List.take_succ_eq_append_getElem hlt, List.map_append, List.map_cons, List.map_nil, prodN_snoc, prodN_snoc] at *
    have hn := hb ls[i] (List.getElem_mem hlt)
    generalize prodN (ls.take i) = S at *
    generalize prodN ((ls.take i).map mL) = Q at *
    generalize ls[i] = n at *
    by_cases hs : n ≤ 1000
    · have hm : n ≤ mL n := by unfold mL; omega
      have hm1 : 1 ≤ mL n := by unfold mL; omega
      rcases ih with ih | ⟨h1, h2⟩
      · exact .inl (Nat.mul_le_mul ih hm)
      · refine .inr ⟨Nat.le_trans h1 (Nat.le_mul_of_pos_right _ hm1), ?_⟩
        calc S * n ≤ (Q * 1048576) * mL n := Nat.mul_le_mul h2 hm
          _ = Q * mL n * 1048576 := by rw [Nat.mul_assoc, Nat.mul_comm 1048576, Nat.mul_assoc]
    · have hm : mL n = 1000 := by unfold mL; omega
      rw [hm] at hp ⊢
      rcases ih with ih | ⟨h1, h2⟩
      · by_cases hQ : Q = 0
        · left
          have : S = 0 := by omega
          rw [this, Nat.zero_mul]; omega
        · refine .inr ⟨by omega, ?_⟩
          calc S * n ≤ Q * 1048576 := Nat.mul_le_mul ih hn
            _ ≤ Q * 1000 * 1048576 := Nat.mul_le_mul_right _ (by omega)
      · omega
theorem prodL_sizes : ∀ l : List Rl, prodL l = prodN (l.map fun r => r.rows.length)
  | [] => rfl
  | r :: l => by
    rw [List.map_cons]
    unfold prodL prodN
    rw [prodL_sizes l]
theorem light_few (rels : List Rl) (hb : ∀ r ∈ rels, r.rows.length ≤ 1048576) (h : LightP (rels.map fun r => r.rows.length)) (i : Nat) (hi : i ≤ rels.length) : prodL (rels.take i) ≤ 34359738368 := by
  rw [prodL_sizes, List.map_take]
  have h1 := light_two _ (fun n hn => by
    obtain ⟨r, hr, rfl⟩ := List.mem_map.1 hn
    exact hb r hr) h i (by rw [List.length_map]; exact hi)
  have h2 := h.prod i (by rw [List.length_map]; exact hi)
  generalize prodN (List.map mL _) = Q at h1 h2
  generalize prodN _ = S at h1 ⊢
  omega
end Go.Proofs.Ytejinhnmabnomaa.Lf
