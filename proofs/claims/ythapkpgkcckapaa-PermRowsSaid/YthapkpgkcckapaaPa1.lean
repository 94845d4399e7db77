/-
  The comparison of two rows by an order that the program hands to the sort. Conditions: the order's block lies as told; the order is one of the six.
-/
import Derived.Test.YthapkpgkcckapaaPa0
namespace Go.Proofs.Ythapkpgkcckapaa.Pw
open Go.RowKit Go.Proofs.YthapkpgkcckapaaW.PrintWords Go.Proofs.Ythapkpgkcckapaa.Pm

/-- A row's cells. -/
def enc3 (r : R3) : List Value := [.int .i64 r.a, .int .i64 r.b, .int .i64 r.c]
/-- Two rows, by an order. -/
def cmpR (o : Ord) (x y : R3) : Int := orL [Lib.compareInt (x.at o.x) (y.at o.x), Lib.compareInt (x.at o.y) (y.at o.y), Lib.compareInt (x.at o.z) (y.at o.z)]
/-- One of the six. -/
def Six (o : Ord) : Prop := (o.x = 0 ∧ o.y = 1 ∧ o.z = 2) ∨ (o.x = 1 ∧ o.y = 2 ∧ o.z = 0) ∨ (o.x = 2 ∧ o.y = 0 ∧ o.z = 1) ∨ (o.x = 0 ∧ o.y = 2 ∧ o.z = 1) ∨ (o.x = 1 ∧ o.y = 0 ∧ o.z = 2) ∨ (o.x = 2 ∧ o.y = 1 ∧ o.z = 0)

theorem mixed : Try.prog.follows .mixedOrders = true := by kernel_rfl

theorem or3 (W : World) (s c : Nat) (hs : W.heap.size = s) (a b d : Int) : Calls Try.prog 33 #[.slice (some ⟨s, 0, none⟩) 3 c] (W.alloc (.cells #[.int .i64 a, .int .i64 b, .int .i64 d] 3)).drew fun e w' =>
    e = .returned (.int .i64 (orL [a, b, d])) ∧ w' = (W.alloc (.cells #[.int .i64 a, .int .i64 b, .int .i64 d] 3)).drew :=
  or_calls _ s c [a, b, d] (by simp) (fun i hi => by
    subst hs
    have e : (W.alloc (.cells #[.int .i64 a, .int .i64 b, .int .i64 d] 3)).drew.cell? ⟨W.heap.size, i, none⟩ = #[Value.int .i64 a, .int .i64 b, .int .i64 d][i]? := cell_new1 W _ _ i
    rw [e]
    match i, hi with
    | 0, _ => rfl
    | 1, _ => rfl
    | 2, _ => rfl)

/-- What the two boxes and the order's block hold behind the boxes' making, and one draw. -/
theorem boxes (W : World) (ob : Nat) (v0 v1 v2 x0 x1 x2 y0 y1 y2 : Value) (h0 : W.cell? ⟨ob, 0, none⟩ = some v0) (h1 : W.cell? ⟨ob, 1, none⟩ = some v1) (h2 : W.cell? ⟨ob, 2, none⟩ = some v2) (hob : ob < W.heap.size)
    (W1 : World) (hW : (W.alloc (.cells #[x0, x1, x2] 23)).alloc (.cells #[y0, y1, y2] 23) = W1) :
    W1.drew.cell? ⟨ob, 0, none⟩ = some v0 ∧ W1.drew.cell? ⟨ob, 1, none⟩ = some v1 ∧ W1.drew.cell? ⟨ob, 2, none⟩ = some v2 ∧
    W1.drew.cell? ⟨W.heap.size, 0, none⟩ = some x0 ∧ W1.drew.cell? ⟨W.heap.size, 1, none⟩ = some x1 ∧ W1.drew.cell? ⟨W.heap.size, 2, none⟩ = some x2 ∧
    W1.drew.cell? ⟨W.heap.size + 1, 0, none⟩ = some y0 ∧ W1.drew.cell? ⟨W.heap.size + 1, 1, none⟩ = some y1 ∧ W1.drew.cell? ⟨W.heap.size + 1, 2, none⟩ = some y2 ∧ W1.heap.size = W.heap.size + 1 + 1 := by
  subst hW
  have e : ∀ i, ((W.alloc (.cells #[x0, x1, x2] 23)).alloc (.cells #[y0, y1, y2] 23)).cell? ⟨W.heap.size + 1, i, none⟩ = #[y0, y1, y2][i]? := fun i => by
    have := cell_new1 (W.alloc (.cells #[x0, x1, x2] 23)) #[y0, y1, y2] 23 i
    rw [size_alloc] at this
    exact this
  have f : ∀ i, ((W.alloc (.cells #[x0, x1, x2] 23)).alloc (.cells #[y0, y1, y2] 23)).cell? ⟨W.heap.size, i, none⟩ = #[x0, x1, x2][i]? := fun i =>
    (cell_alloc1 (W.alloc (.cells #[x0, x1, x2] 23)) W.heap.size (by rw [size_alloc]; omega) i _).trans (cell_new1 W _ _ i)
  have q := cell_alloc2 W ob hob
  refine ⟨(q 0 _ _).trans h0, (q 1 _ _).trans h1, (q 2 _ _).trans h2, f 0, f 1, f 2, e 0, e 1, e 2, ?_⟩
  rw [size_alloc, size_alloc]

set_option maxHeartbeats 1000000 in
set_option maxRecDepth 100000 in
theorem cmp_calls (W : World) (ob : Nat) (o : Ord) (ho : Six o) (x y : R3) (h0 : W.cell? ⟨ob, 0, none⟩ = some (.int .i64 o.x)) (h1 : W.cell? ⟨ob, 1, none⟩ = some (.int .i64 o.y)) (h2 : W.cell? ⟨ob, 2, none⟩ = some (.int .i64 o.z)) (hob : ob < W.heap.size) :
    Calls Try.prog 32 #[.agg #[.int .i64 x.a, .int .i64 x.b, .int .i64 x.c], .agg #[.int .i64 y.a, .int .i64 y.b, .int .i64 y.c], .pointer (some ⟨ob, 0, none⟩)] W fun e w' =>
      e = .returned (.int .i64 (cmpR o x y)) ∧ ∃ o1 o2 o3, w' = (((W.alloc o1).alloc o2).alloc o3).drew := by
  have CC := fun (a b : Int) (w : World) => Try.cmp_Compare_int a b w
  have q := cell_alloc2 W ob hob
  obtain ⟨ox, oy, oz⟩ := o
  obtain ⟨xa, xb, xc⟩ := x
  obtain ⟨ya, yb, yc⟩ := y
  rcases ho with ⟨rfl, rfl, rfl⟩ | ⟨rfl, rfl, rfl⟩ | ⟨rfl, rfl, rfl⟩ | ⟨rfl, rfl, rfl⟩ | ⟨rfl, rfl, rfl⟩ | ⟨rfl, rfl, rfl⟩
  all_goals
    go_enter Try.func32, Try.ntmps32
    go_wp2
    generalize hW1 : (W.alloc (.cells #[.int .i64 xa, .int .i64 xb, .int .i64 xc] 23)).alloc (.cells #[.int .i64 ya, .int .i64 yb, .int .i64 yc] 23) = W1
    obtain ⟨c0, c1, c2, a0, a1, a2, b0, b1, b2, hs⟩ := boxes W ob _ _ _ _ _ _ _ _ _ h0 h1 h2 hob W1 hW1
    have H1 := Lib.hid hW1
    clear hW1 q h0 h1 h2
    refine wp_region_still_tail 27 mixed (by kernel_rfl) ?_
    change wpStill _ _ W1.drew _ _ _
    simp only [List.take_succ_cons, List.take_zero, List.drop_succ_cons, List.drop_zero]
    generalize hW2 : W1.drew = W2 at *
    have H2 := Lib.hid hW2
    clear hW2
    repeat (first | still_call (CC _ _ _) | still_step)
    refine wpStill_nil ?_
    go_wp2_with (go_at_call 33; refine (or3 W1 _ _ hs _ _ _).mono ?_; rintro e w' ⟨rfl, rfl⟩)
    go_ret
    exact ⟨rfl, _, _, _, by rw [← H1.out]⟩
end Go.Proofs.Ythapkpgkcckapaa.Pw
