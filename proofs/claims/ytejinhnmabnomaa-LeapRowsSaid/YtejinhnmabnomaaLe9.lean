/-
  LeapRows, in plain words: counting the rows of small numbers in two ways. Conditions: as each says.
-/
import Derived.Test.YtejinhnmabnomaaLe7
namespace Go.Proofs.Ytejinhnmabnomaa.Lf
open Go.RowKit Go.Proofs.YtejinhnmabnomaaW.PrintWords Go.Proofs.Ytejinhnmabnomaa.Pm Go.Proofs.Ytejinhnmabnomaa.Pw

/-- The relations of LeapRows. -/
def rowsR (v u s : Value) (x y z : List (Int × Int)) : List RelV := [⟨0, 1, v, x⟩, ⟨1, 2, u, y⟩, ⟨2, 0, s, z⟩]
theorem rows_may (v u s : Value) (x y z : List (Int × Int)) {most : Int} (h0 : 0 ≤ most) (h1 : most ≤ 1048576) : MayP 3 [0, 1, 2] (rowsR v u s x y z) most := by
  refine ⟨by omega, by omega, h0, h1, by simp, by simp, ?_, ?_, ?_⟩
  · intro x hx; simp at hx; omega
  · intro r hr
    simp [rowsR] at hr
    rcases hr with rfl | rfl | rfl
    · show (0 : Int) ≤ 0 ∧ (0 : Int) < 3 ∧ (0 : Int) ≤ 1 ∧ (1 : Int) < 3; omega
    · show (0 : Int) ≤ 1 ∧ (1 : Int) < 3 ∧ (0 : Int) ≤ 2 ∧ (2 : Int) < 3; omega
    · show (0 : Int) ≤ 2 ∧ (2 : Int) < 3 ∧ (0 : Int) ≤ 0 ∧ (0 : Int) < 3; omega
  · intro a h0 h1
    by_cases e : a = 2
    · exact ⟨⟨1, 2, u, y⟩, by simp [rowsR], .inr e.symm⟩
    · refine ⟨⟨0, 1, v, x⟩, by simp [rowsR], ?_⟩
      show (0 : Int) = a ∨ (1 : Int) = a
      omega
theorem rows_few (v u s : Value) {x y z : List (Int × Int)} (hx : x.length ≤ 30) (hy : y.length ≤ 30) (hz : z.length ≤ 30) (tx : ∀ p ∈ x, p.1 ≤ 9223372036854775807 ∧ p.2 ≤ 9223372036854775807) (ty : ∀ p ∈ y, p.1 ≤ 9223372036854775807 ∧ p.2 ≤ 9223372036854775807) (tz : ∀ p ∈ z, p.1 ≤ 9223372036854775807 ∧ p.2 ≤ 9223372036854775807) : Few (rowsR v u s x y z) := by
  refine ⟨by simp [rowsR], fun r hr => ?_⟩
  simp [rowsR] at hr
  rcases hr with rfl | rfl | rfl
  · exact ⟨hx, tx⟩
  · exact ⟨hy, ty⟩
  · exact ⟨hz, tz⟩
theorem rows_is (v u s : Value) (x y z : List (Int × Int)) : IsJoin (relN (rowsR v u s x y z)) [0, 1, 2] (joinL [0, 1, 2] (rowsR v u s x y z)) := joinL_is (rows_may v u s x y z (most := 0) (by omega) (by omega))
theorem rows_mem (v u s : Value) (x y z : List (Int × Int)) (row : List Int) : row ∈ joinL [0, 1, 2] (rowsR v u s x y z) ↔ ∃ a b c, row = [a, b, c] ∧ (a, b) ∈ x ∧ (b, c) ∈ y ∧ (c, a) ∈ z := by
  rw [(rows_is v u s x y z).mem]
  constructor
  · rintro ⟨f, hf, rfl⟩
    exact ⟨f 0, f 1, f 2, rfl, hf ⟨0, 1, x⟩ (by simp [rowsR, relN, rlOf]), hf ⟨1, 2, y⟩ (by simp [rowsR, relN, rlOf]), hf ⟨2, 0, z⟩ (by simp [rowsR, relN, rlOf])⟩
  · rintro ⟨a, b, c, rfl, h1, h2, h3⟩
    refine ⟨fun n => if n = 0 then a else if n = 1 then b else c, ?_, rfl⟩
    intro r hr
    simp [rowsR, relN, rlOf] at hr
    rcases hr with rfl | rfl | rfl
    · exact h1
    · exact h2
    · exact h3
theorem rows_nodup (v u s : Value) (x y z : List (Int × Int)) : (joinL [0, 1, 2] (rowsR v u s x y z)).Nodup := (rows_is v u s x y z).rise.imp (fun {a b} hab e => by subst e; exact lex_irrefl a hab)
theorem flat_len {α β γ : Type} (f : α → β → γ) (x : List α) (y : List β) : (x.flatMap fun p => y.map fun q => f p q).length = x.length * y.length := by
  induction x with
  | nil => simp
  | cons p x ih => rw [List.flatMap_cons, List.length_append, List.length_map, List.length_cons, Nat.succ_mul, ih]; omega
theorem rows_short (v u s : Value) {x y z : List (Int × Int)} (hx : x.length ≤ 30) (hy : y.length ≤ 30) : (joinL [0, 1, 2] (rowsR v u s x y z)).length ≤ 900 := by
  refine Nat.le_trans (nodup_len (l := x.flatMap fun p => y.map fun q => [p.1, p.2, q.2]) (rows_nodup v u s x y z) (fun row hrow => ?_)) ?_
  · obtain ⟨a, b, c, rfl, h1, h2, _⟩ := (rows_mem v u s x y z row).1 hrow
    exact List.mem_flatMap.2 ⟨_, h1, List.mem_map.2 ⟨_, h2, rfl⟩⟩
  · rw [flat_len]
    exact Nat.mul_le_mul hx hy

/-- Whether three numbers are a row, by the relations. -/
def okR (x y z : List (Int × Int)) (row : List Int) : Bool := decide ((row.getD 0 0, row.getD 1 0) ∈ x) && decide ((row.getD 1 0, row.getD 2 0) ∈ y) && decide ((row.getD 2 0, row.getD 0 0) ∈ z)
/-- Whether all numbers of a row are small. -/
def in6 (row : List Int) : Bool := decide (0 ≤ row.getD 0 0 ∧ row.getD 0 0 < 6 ∧ 0 ≤ row.getD 1 0 ∧ row.getD 1 0 < 6 ∧ 0 ≤ row.getD 2 0 ∧ row.getD 2 0 < 6)
def tC (a b k : Nat) : List (List Int) := (List.range k).map fun c : Nat => [(a : Int), (b : Int), (c : Int)]
def tB (a k : Nat) : List (List Int) := (List.range k).flatMap fun b => tC a b 6
def tA (k : Nat) : List (List Int) := (List.range k).flatMap fun a => tB a 6
theorem tC_succ (a b k : Nat) : tC a b (k + 1) = tC a b k ++ [[(a : Int), (b : Int), (k : Int)]] := by
  unfold tC; rw [List.range_succ, List.map_append]; rfl
theorem tB_succ (a k : Nat) : tB a (k + 1) = tB a k ++ tC a k 6 := by
  unfold tB; rw [List.range_succ, List.flatMap_append, List.flatMap_singleton]
theorem tA_succ (k : Nat) : tA (k + 1) = tA k ++ tB k 6 := by
  unfold tA; rw [List.range_succ, List.flatMap_append, List.flatMap_singleton]
theorem tA_mem (row : List Int) : row ∈ tA 6 ↔ ∃ a b c : Nat, a < 6 ∧ b < 6 ∧ c < 6 ∧ row = [(a : Int), (b : Int), (c : Int)] := by
  unfold tA tB tC
  simp only [List.mem_flatMap, List.mem_map, List.mem_range]
  constructor
  · rintro ⟨a, ha, b, hb, c, hc, rfl⟩
    exact ⟨a, b, c, ha, hb, hc, rfl⟩
  · rintro ⟨a, b, c, ha, hb, hc, rfl⟩
    exact ⟨a, ha, b, hb, c, hc, rfl⟩
set_option maxRecDepth 100000 in
theorem tA_nodup : (tA 6).Nodup := by decide +kernel
/-- The two counts are one. -/
theorem count_same (v u s : Value) (x y z : List (Int × Int)) : (tA 6).countP (okR x y z) = (joinL [0, 1, 2] (rowsR v u s x y z)).countP in6 := by
  rw [List.countP_eq_length_filter, List.countP_eq_length_filter]
  refine ((List.perm_ext_iff_of_nodup (tA_nodup.filter _) ((rows_nodup v u s x y z).filter _)).2 (fun row => ?_)).length_eq
  rw [List.mem_filter, List.mem_filter, tA_mem, rows_mem]
  constructor
  · rintro ⟨⟨a, b, c, ha, hb, hc, rfl⟩, h⟩
    simp [okR] at h
    exact ⟨⟨a, b, c, rfl, h.1.1, h.1.2, h.2⟩, by simp [in6]; omega⟩
  · rintro ⟨⟨a, b, c, rfl, h1, h2, h3⟩, h⟩
    simp [in6] at h
    exact ⟨⟨a.toNat, b.toNat, c.toNat, by omega, by omega, by omega, by congr 1; omega; congr 1; omega; congr 1; omega⟩, by simp [okR, h1, h2, h3]⟩
end Go.Proofs.Ytejinhnmabnomaa.Lf
