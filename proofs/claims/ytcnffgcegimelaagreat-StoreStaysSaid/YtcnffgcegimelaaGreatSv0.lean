/-
  store.orders and store.best walked. Conditions: none.
-/
import Derived.Test.YtcnffgcegimelaaGreatSu3
import Derived.LoopN
namespace Go.Proofs.YtcnffgcegimelaaGreat.So
open Go.RowKit Go.Proofs.YtcnffgcegimelaaGreat.Mp Go.Proofs.YtcnffgcegimelaaGreat.Wd Go.Proofs.YtcnffgcegimelaaGreat.Pm Go.Proofs.YtcnffgcegimelaaGreat.Pw

set_option maxRecDepth 100000 in
set_option maxHeartbeats 1000000 in
theorem orders_ok (w : World) : Calls Tryz.prog 39 #[] w fun e w' => e = .returned (.agg #[.int .i64 0, .int .i64 1, .int .i64 2, .int .i64 1, .int .i64 2, .int .i64 0, .int .i64 2, .int .i64 0, .int .i64 1]) ∧ Below w.heap.size w w' := by
  go_enter Tryz.func39, Tryz.ntmps39
  go_wp2
  refine bodyPost_ret (v := .agg #[.int .i64 0, .int .i64 1, .int .i64 2, .int .i64 1, .int .i64 2, .int .i64 0, .int .i64 2, .int .i64 0, .int .i64 1]) ?_ rfl ⟨rfl, ?_⟩
  · simp [results, Tryz.results39, go_sem]
  · exact (Below.refl _ _).alloc (Nat.le_refl _) _
theorem idx81 (w : World) (a b c d e f g h i : Value) :
    ((Instr.index 81 (.agg #[a, b, c, d, e, f, g, h, i]) (.int .i64 0)).run Tryz.prog w = .ok (.agg #[a, b, c]) w) ∧ ((Instr.index 81 (.agg #[a, b, c, d, e, f, g, h, i]) (.int .i64 1)).run Tryz.prog w = .ok (.agg #[d, e, f]) w) ∧ ((Instr.index 81 (.agg #[a, b, c, d, e, f, g, h, i]) (.int .i64 2)).run Tryz.prog w = .ok (.agg #[g, h, i]) w) := by
  have u := run_underlying Tryz.underlying81 w
  have z := Tryz.sizeOf80 w
  have g1 := Tryz.isAgg80 w
  refine ⟨?_, ?_, ?_⟩ <;> simp [Instr.index, go_sem, u, z, g1, part]
/-- The order that begins with the words that are there, and how many these are. -/
def bestN (s p o : Bool) : Nat × Nat := if s then (if p then (if o then (0, 3) else (0, 2)) else (if o then (2, 2) else (0, 1))) else (if p then (if o then (1, 2) else (1, 1)) else (if o then (2, 1) else (0, 0)))
/-- Whether a word is there. -/
def hasW (x : ByteArray) : Bool := x.size != 0
theorem has_cases (x : ByteArray) : (x = ByteArray.empty ∧ hasW x = false) ∨ (hasW x = true ∧ (x.toList == []) = false ∧ (x.toList != []) = true) := by
  by_cases h : x.size = 0
  · exact Or.inl ⟨ByteArray.ext (Array.eq_empty_of_size_eq_zero h), by unfold hasW; simp [h]⟩
  · refine Or.inr ⟨by unfold hasW; simpa using h, ?_, ?_⟩
    · rw [ByteArray.toList_eq]
      refine beq_eq_false_iff_ne.2 (fun e => h ?_)
      have := congrArg List.length e
      simpa using this
    · rw [ByteArray.toList_eq, bne_iff_ne]
      refine fun e => h ?_
      have := congrArg List.length e
      simpa using this
theorem box3 {w w1 : World} {a b c : Value} {t : TypeId} (h : Below (w.alloc (.cells #[a, b, c] t)).heap.size (w.alloc (.cells #[a, b, c] t)) w1) : w1.cell? ⟨w.heap.size, 0, none⟩ = some a ∧ w1.cell? ⟨w.heap.size, 1, none⟩ = some b ∧ w1.cell? ⟨w.heap.size, 2, none⟩ = some c := by
  have e : ∀ i, w1.cell? ⟨w.heap.size, i, none⟩ = #[a, b, c][i]? := fun i => (h.cell (p := ⟨w.heap.size, i, none⟩) (by rw [World.size_alloc]; exact Nat.lt_succ_self _)).trans (World.cell?_alloc_new w _ _ i)
  exact ⟨e 0, e 1, e 2⟩
set_option maxRecDepth 100000 in
set_option maxHeartbeats 3200000 in
theorem best_ok (w : World) (s p o : ByteArray) : Calls Tryz.prog 37 #[.agg #[.string s, .string p, .string o]] w fun e w' => e = .returned (.tuple #[.int .i64 (bestN (hasW s) (hasW p) (hasW o)).1, .int .i64 (bestN (hasW s) (hasW p) (hasW o)).2]) ∧ Below w.heap.size w w' := by
  obtain ⟨n, hn⟩ : ∃ n, bestN (hasW s) (hasW p) (hasW o) = n := ⟨_, rfl⟩
  rw [hn]
  have HN := Lib.hid hn
  clear hn
  have i0 := fun w => (idx81 w (.int .i64 0) (.int .i64 1) (.int .i64 2) (.int .i64 1) (.int .i64 2) (.int .i64 0) (.int .i64 2) (.int .i64 0) (.int .i64 1)).1
  have i1 := fun w => (idx81 w (.int .i64 0) (.int .i64 1) (.int .i64 2) (.int .i64 1) (.int .i64 2) (.int .i64 0) (.int .i64 2) (.int .i64 0) (.int .i64 1)).2.1
  have i2 := fun w => (idx81 w (.int .i64 0) (.int .i64 1) (.int .i64 2) (.int .i64 1) (.int .i64 2) (.int .i64 0) (.int .i64 2) (.int .i64 0) (.int .i64 1)).2.2
  rcases has_cases s with ⟨rfl, h1⟩ | ⟨h1, a1, a2⟩ <;> rcases has_cases p with ⟨rfl, h2⟩ | ⟨h2, b1, b2⟩ <;> rcases has_cases o with ⟨rfl, h3⟩ | ⟨h3, c1, c2⟩
  all_goals
    have H := Lib.hid (And.intro h1 (And.intro h2 h3))
    clear h1 h2 h3
    go_enter Tryz.func37, Tryz.ntmps37
    go_wp2_with (go_at_call 39; refine (orders_ok _).mono ?_; rintro e w1 ⟨rfl, hb⟩; have HB := Lib.hid hb; obtain ⟨y0, y1, y2⟩ := box3 hb; have hz : w.heap.size < w1.heap.size := (by have := hb.size; rw [World.size_alloc] at this; exact this); have hz2 : w.heap.size < w1.heap.size + 1 := (by omega); have hz3 : w.heap.size < w1.heap.size + 1 + 1 := (by omega); clear hb)
    repeat (first | (rw [rounds_succ]; go_wp2) | (refine wp_loop_rounds 4 ?_))
    go_ret2
    obtain ⟨e1, e2, e3⟩ := H.out
    have e4 := HN.out
    simp only [e1, e2, e3] at e4
    subst e4
    refine ⟨rfl, ?_⟩
    have hb : Below w.heap.size w w1 := ((Below.refl _ w).alloc (Nat.le_refl _) _).trans (HB.out.mono (by simp))
    exact ((hb.alloc hb.size _).alloc (by simp; omega) _).alloc (by simp; omega) _
end Go.Proofs.YtcnffgcegimelaaGreat.So
