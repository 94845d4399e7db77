/-
  The sort of facts: what the library's sort leaves in memory. Conditions: the facts' cells lie as told.
-/
import Derived.Test.YtcnffgcegimelaaGreatSg0
import Derived.Test.YtcnffgcegimelaaGreatSg1
import Derived.Test.YtcnffgcegimelaaGreatSu0
import Derived.StillTailTactics
namespace Go.Proofs.YtcnffgcegimelaaGreat.So
open Go.RowKit Go.Proofs.YtcnffgcegimelaaGreat.Mp Go.Proofs.YtcnffgcegimelaaGreat.Wd Go.Proofs.YtcnffgcegimelaaGreat.Pm Go.Proofs.YtcnffgcegimelaaGreat.Pw
open Go.Sort (HoldsK putRowK flatK size_flatK get_flatK holdsK_grow holdsK_ahead holdsK_putRowK cell?_putRowK_other)

/-- A fact's cells. -/
def encT (t : Tri) : List Value := [.string t.S, .string t.P, .string t.O]
theorem encT_len (t : Tri) : (encT t).length = 3 := rfl
theorem encT_one (t : Tri) : ∀ u ∈ encT t, u.oneCell' = true := by
  intro u hu
  simp only [encT, List.mem_cons, List.not_mem_nil, or_false] at hu
  rcases hu with rfl | rfl | rfl <;> rfl
theorem cmpT_or (a b : Tri) : orL [cmpS a.S b.S, cmpS a.P b.P, cmpS a.O b.O] = cmpT a b := by
  unfold cmpT
  simp only [orL]
  split
  · split
    · split <;> simp_all
    · rfl
  · rfl
theorem boxesT (W : World) (x0 x1 x2 y0 y1 y2 : Value) (W1 : World) (hW : (W.alloc (.cells #[x0, x1, x2] 35)).alloc (.cells #[y0, y1, y2] 35) = W1) :
    W1.drew.cell? ⟨W.heap.size, 0, none⟩ = some x0 ∧ W1.drew.cell? ⟨W.heap.size, 1, none⟩ = some x1 ∧ W1.drew.cell? ⟨W.heap.size, 2, none⟩ = some x2 ∧
    W1.drew.cell? ⟨W.heap.size + 1, 0, none⟩ = some y0 ∧ W1.drew.cell? ⟨W.heap.size + 1, 1, none⟩ = some y1 ∧ W1.drew.cell? ⟨W.heap.size + 1, 2, none⟩ = some y2 ∧ W1.heap.size = W.heap.size + 1 + 1 := by
  subst hW
  have e : ∀ i, ((W.alloc (.cells #[x0, x1, x2] 35)).alloc (.cells #[y0, y1, y2] 35)).cell? ⟨W.heap.size + 1, i, none⟩ = #[y0, y1, y2][i]? := fun i => by
    have := cell_new1 (W.alloc (.cells #[x0, x1, x2] 35)) #[y0, y1, y2] 35 i
    rw [size_alloc] at this
    exact this
  have f : ∀ i, ((W.alloc (.cells #[x0, x1, x2] 35)).alloc (.cells #[y0, y1, y2] 35)).cell? ⟨W.heap.size, i, none⟩ = #[x0, x1, x2][i]? := fun i =>
    (cell_alloc1 (W.alloc (.cells #[x0, x1, x2] 35)) W.heap.size (by rw [size_alloc]; omega) i _).trans (cell_new1 W _ _ i)
  refine ⟨f 0, f 1, f 2, e 0, e 1, e 2, ?_⟩
  rw [size_alloc, size_alloc]
set_option maxHeartbeats 1000000 in
set_option maxRecDepth 100000 in
theorem cmpT_calls (W : World) (x y : Tri) :
    Calls Tryz.prog 55 #[.agg #[.string x.S, .string x.P, .string x.O], .agg #[.string y.S, .string y.P, .string y.O]] W fun e w' =>
      e = .returned (.int .i64 (cmpT x y)) ∧ ∃ o1 o2 o3, w' = (((W.alloc o1).alloc o2).alloc o3).drew := by
  have CC := fun (a b : ByteArray) (w : World) => cmp_string a b w
  rw [← cmpT_or]
  obtain ⟨xs, xp, xo⟩ := x
  obtain ⟨ys, yp, yo⟩ := y
  go_enter Tryz.func55, Tryz.ntmps55
  go_wp2
  generalize hW1 : (W.alloc (.cells #[.string xs, .string xp, .string xo] 35)).alloc (.cells #[.string ys, .string yp, .string yo] 35) = W1
  obtain ⟨a0, a1, a2, b0, b1, b2, hs⟩ := boxesT W _ _ _ _ _ _ W1 hW1
  have H1 := Lib.hid hW1
  clear hW1
  refine wp_region_still_tail 15 mixed (by kernel_rfl) ?_
  change wpStill _ _ W1.drew _ _ _
  simp only [List.take_succ_cons, List.take_zero, List.drop_succ_cons, List.drop_zero]
  generalize hW2 : W1.drew = W2 at *
  have H2 := Lib.hid hW2
  clear hW2
  repeat (first | still_call (CC _ _ _) | still_step)
  refine wpStill_nil ?_
  go_wp2_with (go_at_call 56; refine (or3 W1 _ _ hs _ _ _).mono ?_; rintro e w' ⟨rfl, rfl⟩)
  go_ret
  exact ⟨rfl, _, _, _, by rw [← H1.out]⟩
end Go.Proofs.YtcnffgcegimelaaGreat.So
