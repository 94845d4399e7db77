/-
  LeapKeeps, in plain words: what is kept of a join is the whole join, cut. Conditions: as each says.
-/
import Derived.Test.YtejinhnmabnomaaLe9
namespace Go.Proofs.Ytejinhnmabnomaa.Lf
open Go.RowKit Go.Proofs.YtejinhnmabnomaaW.PrintWords Go.Proofs.Ytejinhnmabnomaa.Pm Go.Proofs.Ytejinhnmabnomaa.Pw

/-- The relations of LeapKeeps. -/
def keepR (v u : Value) (x y : List (Int × Int)) : List RelV := [⟨0, 1, v, x⟩, ⟨2, 1, u, y⟩]
/-- What is kept, by its number. -/
def kpAt (r : Nat) : List Int := if r = 0 then [0, 1] else if r = 1 then [1, 0] else if r = 2 then [0, 2] else if r = 3 then [2, 0] else if r = 4 then [1, 2] else [2]
/-- What may be kept. -/
structure KpOk (kp : List Int) : Prop where
  ne : kp ≠ []
  nd : kp.Nodup
  lt : ∀ x ∈ kp, 0 ≤ x ∧ x < 3
  len : kp.length ≤ 3
theorem kpAt_ok (r : Nat) : KpOk (kpAt r) := by
  unfold kpAt
  split
  · exact ⟨by simp, by simp, by simp, by simp⟩
  split
  · exact ⟨by simp, by simp, by simp, by simp⟩
  split
  · exact ⟨by simp, by simp, by simp, by simp⟩
  split
  · exact ⟨by simp, by simp, by simp, by simp⟩
  split
  · exact ⟨by simp, by simp, by simp, by simp⟩
  · exact ⟨by simp, by simp, by simp, by simp⟩
theorem kp_all : KpOk [0, 1, 2] := ⟨by simp, by simp, by simp, by simp⟩
theorem keep_may (v u : Value) (x y : List (Int × Int)) {kp : List Int} (hk : KpOk kp) {most : Int} (h0 : 0 ≤ most) (h1 : most ≤ 1048576) : MayP 3 kp (keepR v u x y) most := by
  refine ⟨by omega, by omega, h0, h1, hk.ne, hk.nd, hk.lt, ?_, ?_⟩
  · intro r hr
    simp [keepR] at hr
    rcases hr with rfl | rfl
    · show (0 : Int) ≤ 0 ∧ (0 : Int) < 3 ∧ (0 : Int) ≤ 1 ∧ (1 : Int) < 3; omega
    · show (0 : Int) ≤ 2 ∧ (2 : Int) < 3 ∧ (0 : Int) ≤ 1 ∧ (1 : Int) < 3; omega
  · intro a h0 h1
    by_cases e : a = 2
    · exact ⟨⟨2, 1, u, y⟩, by simp [keepR], .inl e.symm⟩
    · refine ⟨⟨0, 1, v, x⟩, by simp [keepR], ?_⟩
      show (0 : Int) = a ∨ (1 : Int) = a
      omega
theorem keep_few (v u : Value) {x y : List (Int × Int)} (hx : x.length ≤ 30) (hy : y.length ≤ 30) (tx : ∀ p ∈ x, p.1 ≤ 9223372036854775807 ∧ p.2 ≤ 9223372036854775807) (ty : ∀ p ∈ y, p.1 ≤ 9223372036854775807 ∧ p.2 ≤ 9223372036854775807) : Few (keepR v u x y) := by
  refine ⟨by simp [keepR], fun r hr => ?_⟩
  simp [keepR] at hr
  rcases hr with rfl | rfl
  · exact ⟨hx, tx⟩
  · exact ⟨hy, ty⟩
theorem keep_is (v u : Value) (x y : List (Int × Int)) {kp : List Int} (hk : KpOk kp) : IsJoin (relN (keepR v u x y)) (keepN kp) (joinL kp (keepR v u x y)) := joinL_is (keep_may v u x y hk (most := 0) (by omega) (by omega))
theorem keep_nodup (v u : Value) (x y : List (Int × Int)) {kp : List Int} (hk : KpOk kp) : (joinL kp (keepR v u x y)).Nodup := (keep_is v u x y hk).rise.imp (fun {a b} hab e => by subst e; exact lex_irrefl a hab)
/-- A row cut to what is kept. -/
def cutK (kp row : List Int) : List Int := kp.map fun j => row.getD j.toNat 0
theorem cut_all {kp : List Int} (hk : KpOk kp) (f : Nat → Int) : cutK kp [f 0, f 1, f 2] = (keepN kp).map f := by
  unfold cutK keepN
  rw [List.map_map]
  refine List.map_congr_left fun j hj => ?_
  have := hk.lt j hj
  obtain rfl | rfl | rfl : j = 0 ∨ j = 1 ∨ j = 2 := by omega
  all_goals rfl
theorem keep_cut (v u : Value) (x y : List (Int × Int)) {kp : List Int} (hk : KpOk kp) (row : List Int) (h : row ∈ joinL [0, 1, 2] (keepR v u x y)) : cutK kp row ∈ joinL kp (keepR v u x y) := by
  obtain ⟨f, hf, rfl⟩ := ((keep_is v u x y kp_all).mem row).1 h
  exact ((keep_is v u x y hk).mem _).2 ⟨f, hf, cut_all hk f⟩
theorem keep_less (v u : Value) (x y : List (Int × Int)) {kp : List Int} (hk : KpOk kp) : (joinL kp (keepR v u x y)).length ≤ (joinL [0, 1, 2] (keepR v u x y)).length := by
  refine Nat.le_trans (nodup_len (l := (joinL [0, 1, 2] (keepR v u x y)).map (cutK kp)) (keep_nodup v u x y hk) (fun row hrow => ?_)) (by rw [List.length_map]; exact Nat.le_refl _)
  obtain ⟨f, hf, rfl⟩ := ((keep_is v u x y hk).mem row).1 hrow
  exact List.mem_map.2 ⟨_, ((keep_is v u x y kp_all).mem _).2 ⟨f, hf, rfl⟩, cut_all hk f⟩
theorem keep_short (v u : Value) {x y : List (Int × Int)} (hx : x.length ≤ 30) (hy : y.length ≤ 30) : (joinL [0, 1, 2] (keepR v u x y)).length ≤ 900 := by
  refine Nat.le_trans (nodup_len (l := x.flatMap fun p => y.map fun q => [p.1, p.2, q.1]) (keep_nodup v u x y kp_all) (fun row hrow => ?_)) ?_
  · obtain ⟨f, hf, rfl⟩ := ((keep_is v u x y kp_all).mem row).1 hrow
    have h1 := hf ⟨0, 1, x⟩ (by simp [keepR, relN, rlOf])
    have h2 := hf ⟨2, 1, y⟩ (by simp [keepR, relN, rlOf])
    exact List.mem_flatMap.2 ⟨_, h1, List.mem_map.2 ⟨_, h2, rfl⟩⟩
  · rw [flat_len]
    exact Nat.mul_le_mul hx hy
end Go.Proofs.Ytejinhnmabnomaa.Lf
