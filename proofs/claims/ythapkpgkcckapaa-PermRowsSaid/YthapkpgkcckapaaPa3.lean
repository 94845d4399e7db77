/-
  slices.Compact of rows of three numbers: what it leaves in memory. Conditions: the rows' cells lie as told, and may be written.
-/
import Derived.Test.YthapkpgkcckapaaPa2
import Derived.Lib.SlicesCompact
import Derived.Lib.SliceRun
namespace Go.Proofs.Ythapkpgkcckapaa.Pw
open Go.RowKit Go.Proofs.YthapkpgkcckapaaW.PrintWords Go.Proofs.Ythapkpgkcckapaa.Pm

theorem eqIn23 (d : Nat) (w : World) (a b c x y z : Int) :
    (Op.equalIn (d + 2) 23 (.agg #[.int .i64 a, .int .i64 b, .int .i64 c]) (.agg #[.int .i64 x, .int .i64 y, .int .i64 z])).run Try.prog w = .ok (decide (a = x ∧ b = y ∧ c = z)) w := by
  have h3 := run_underlying Try.underlying3
  have h23 := run_underlying Try.underlying23
  have s3 := Try.sizeOf3
  have g3 := Try.isAgg3
  have e3 : ∀ (u v : Int) w, (Op.equalIn (d + 1) 3 (.int .i64 u) (.int .i64 v)).run Try.prog w = .ok (u == v) w := fun u v w => by
    simp [Op.equalIn, h3]
  have r3 : List.range' 0 3 = [0, 1, 2] := rfl
  unfold Op.equalIn
  simp [h23, s3, part, r3, g3]
  simp only [e3]
  by_cases h1 : a = x
  · by_cases h2 : b = y
    · by_cases h4 : c = z
      · simp [h1, h2, h4]
      · simp [h1, h2, h4]
    · simp [h1, h2]
  · simp [h1]
theorem eql23 (w : World) (a b c x y z : Int) :
    (binOp .eql 23 (.agg #[.int .i64 a, .int .i64 b, .int .i64 c]) (.agg #[.int .i64 x, .int .i64 y, .int .i64 z])).run Try.prog w = .ok (.bool (decide (a = x ∧ b = y ∧ c = z))) w := by
  simp only [binOp]
  simp [Op.equal, Op.maxDepth, eqIn23 9998]
theorem neq23 (w : World) (a b c x y z : Int) :
    (binOp .neq 23 (.agg #[.int .i64 a, .int .i64 b, .int .i64 c]) (.agg #[.int .i64 x, .int .i64 y, .int .i64 z])).run Try.prog w = .ok (.bool (!decide (a = x ∧ b = y ∧ c = z))) w := by
  simp only [binOp]
  simp [Op.equal, Op.maxDepth, eqIn23 9998]

/-- 'clear' of rows of three numbers. -/
theorem clear23 (w : World) (ty : TypeId) (b o n c : Nat) (hn : 0 < n) (hc : ∀ j, j < n * 3 → (w.cell? ⟨b, o + j, none⟩).isSome = true) (hf : ∀ j, j < n * 3 → w.frozen? ⟨b, o + j, none⟩ = false) :
    (Builtin.clear_ #[22] ty #[.slice (some ⟨b, o, none⟩) n c]).run Try.prog w = .ok (.tuple #[]) (w.setCells b o (List.replicate (n * 3) (.int .i64 0))) := by
  have hv := Try.zeroValue23
  have hzc : (Builtin.zeroCells (Value.agg #[.int .i64 0, .int .i64 0, .int .i64 0]).cells n).toList = List.replicate (n * 3) (.int .i64 0) := by
    simp [Builtin.zeroCells, Value.cells]
    apply List.ext_getElem
    · simp
    · intro i h1 h2
      have : i % 3 = 0 ∨ i % 3 = 1 ∨ i % 3 = 2 := by omega
      rcases this with h | h | h <;> simp [h]
  have hst := run_storeCells_cells (P := Try.prog) b o (List.replicate (n * 3) (.int .i64 0)) 0 w (by simpa using hc) (by simpa using hf) (by intro v hv'; rw [List.eq_of_mem_replicate hv']; rfl)
  simp only [Nat.add_zero] at hst
  obtain ⟨m, rfl⟩ : ∃ m, n = m + 1 := ⟨n - 1, by omega⟩
  simp [Builtin.clear_, run_underlying Try.underlying22, hv, hzc, hst]

theorem grown_setCells (b : Nat) : ∀ (vs : List Value) (o : Nat) (w : World), w.grownBy (w.setCells b o vs) (some b)
  | [], _, _ => ⟨rfl, rfl, rfl, Nat.le_refl _, fun _ _ _ => rfl⟩
  | v :: r, o, w => grown_tr (grown_set w b o v) (grown_setCells b r (o + 1) _)

/-- Rows, cut. -/
theorem RowsIn.take {w : World} {b off : Nat} {l : List R3} (h : RowsIn w b off l) (m : Nat) : RowsIn w b off (l.take m) := fun k i hk hi => by
  have hk' : k < l.length := by simp at hk; omega
  have hkm : k < m := by simp at hk; omega
  have e : (l.take m).getD k r0 = l.getD k r0 := by
    rw [List.getD_eq_getElem?_getD, List.getD_eq_getElem?_getD, List.getElem?_take, if_pos hkm]
  rw [e]
  exact h k i hk' hi
/-- Rows, behind stores into what lies behind them. -/
theorem RowsIn.setCells {w : World} {b off : Nat} {l : List R3} (h : RowsIn w b off l) (o : Nat) (ho : off + l.length * 3 ≤ o) (vs : List Value) : RowsIn (w.setCells b o vs) b off l := fun k i hk hi => by
  have hlt : off + k * 3 + i < o := by omega
  refine ⟨(World.cell?_setCells_out b vs o w ⟨b, off + k * 3 + i, none⟩ (fun _ _ => .inl hlt)).trans (h k i hk hi).1, ?_⟩
  rw [World.frozen?_setCells]
  exact (h k i hk hi).2
/-- Rows, one of them stored. -/
theorem RowsIn.set {w : World} {b off : Nat} {l : List R3} (h : RowsIn w b off l) (m : Nat) (hm : m < l.length) (x : R3) :
    RowsIn (((w.setCell ⟨b, off + m * 3, none⟩ (.int .i64 x.a)).setCell ⟨b, off + m * 3 + 1, none⟩ (.int .i64 x.b)).setCell ⟨b, off + m * 3 + 2, none⟩ (.int .i64 x.c)) b off (l.set m x) := by
  show RowsIn (w.setCells b (off + m * 3) [.int .i64 x.a, .int .i64 x.b, .int .i64 x.c]) b off (l.set m x)
  intro k i hk hi
  rw [List.length_set] at hk
  rw [World.frozen?_setCells]
  refine ⟨?_, (h k i hk hi).2⟩
  by_cases hkm : k = m
  · subst hkm
    rw [List.getD_eq_getElem?_getD, List.getElem?_set_self hk, Option.getD_some]
    have hz : ∀ j, j < [Value.int .i64 x.a, .int .i64 x.b, .int .i64 x.c].length → (w.cell? ⟨b, off + k * 3 + j, none⟩).isSome = true := fun j hj => by rw [(h k j hk (by simpa using hj)).1]; rfl
    rw [World.cell?_setCells_in b _ (off + k * 3) w hz i (by simpa using hi)]
    match i, hi with
    | 0, _ => rfl
    | 1, _ => rfl
    | 2, _ => rfl
  · rw [List.getD_eq_getElem?_getD, List.getElem?_set_ne (Ne.symm hkm), ← List.getD_eq_getElem?_getD]
    exact (World.cell?_setCells_out b _ _ w ⟨b, off + k * 3 + i, none⟩ (fun _ _ => by show off + k * 3 + i < off + m * 3 ∨ off + m * 3 + 3 ≤ off + k * 3 + i; omega)).trans (h k i hk hi).1
end Go.Proofs.Ythapkpgkcckapaa.Pw
