/-
  The document's index: the walks of Is and before. Conditions: an order of the three places.
-/
import Derived.Test.YthapkpgkcckapaaPe0
import Derived.LoopN
namespace Go.Proofs.Ythapkpgkcckapaa.Pw
open Go.RowKit Go.Proofs.YthapkpgkcckapaaW.PrintWords Go.Proofs.Ythapkpgkcckapaa.Pm

theorem ret_no {d : Bool} {p : Prop} [Decidable p] (h : decide p = d) (hn : ¬ p) : Ending.returned (.bool false) = .returned (.bool d) := by rw [← h, decide_eq_false hn]
theorem ret_yes {d : Bool} {p : Prop} [Decidable p] (h : decide p = d) (hn : p) : Ending.returned (.bool true) = .returned (.bool d) := by rw [← h, decide_eq_true hn]
set_option maxHeartbeats 4000000 in
theorem is_calls (w : World) (a b c : Int) : Calls Try.prog 11 #[.agg #[.int .i64 a, .int .i64 b, .int .i64 c]] w fun e w' => e = .returned (.bool (isOrd a b c)) ∧ Below w.heap.size w w' := by
  have hb := Lib.hid (below_a w (.cells #[.int .i64 a, .int .i64 b, .int .i64 c] 23))
  have hz := cell_new1 w #[.int .i64 a, .int .i64 b, .int .i64 c] 23
  have z0 := hz 0
  have z1 := hz 1
  have z2 := hz 2
  clear hz
  rw [isOrd_eq]
  generalize hd : decide (0 ≤ a ∧ a ≤ 2 ∧ 0 ≤ b ∧ b ≤ 2 ∧ 0 ≤ c ∧ c ≤ 2 ∧ a ≠ b ∧ a ≠ c ∧ b ≠ c) = d
  have HD := Lib.hid hd
  clear hd
  simp at z0 z1 z2
  go_enter Try.func11, Try.ntmps11
  go_wp2
  refine wp_loop_rounds 4 ?_
  rw [rounds_succ]
  go_wp2
  all_goals first | (go_ret; exact ⟨ret_no HD.out (by omega), hb.out⟩) | rw [rounds_succ]
  go_wp2
  all_goals first | (go_ret; exact ⟨ret_no HD.out (by omega), hb.out⟩) | rw [rounds_succ]
  go_wp2
  all_goals first | (go_ret; exact ⟨ret_no HD.out (by omega), hb.out⟩) | rw [rounds_succ]
  by_cases h1 : a = b
  · have h1' : (a != b) = false := by simp [h1]
    have H1 := Lib.hid h1
    clear h1
    go_wp2
    go_ret
    exact ⟨ret_no HD.out (by have := H1.out; omega), hb.out⟩
  · have h1' : (a != b) = true := by simp [h1]
    by_cases h2 : a = c
    · have h2' : (a != c) = false := by simp [h2]
      have H1 := Lib.hid h2
      clear h1 h2
      go_wp2
      go_ret
      exact ⟨ret_no HD.out (by have := H1.out; omega), hb.out⟩
    · have h2' : (a != c) = true := by simp [h2]
      by_cases h3 : b = c
      · have h3' : (b != c) = false := by simp [h3]
        have H1 := Lib.hid h3
        clear h1 h2 h3
        go_wp2
        go_ret
        exact ⟨ret_no HD.out (by have := H1.out; omega), hb.out⟩
      · have h3' : (b != c) = true := by simp [h3]
        have H1 := Lib.hid (And.intro h1 (And.intro h2 h3))
        clear h1 h2 h3
        go_wp2
        go_ret
        exact ⟨ret_yes HD.out (by obtain ⟨_, _, _⟩ := H1.out; omega), hb.out⟩

theorem r3_at (r : R3) (i : Nat) (hi : i < 3) : #[Value.int .i64 r.a, .int .i64 r.b, .int .i64 r.c][i]? = some (.int .i64 (r.at i)) := by
  obtain rfl | rfl | rfl : i = 0 ∨ i = 1 ∨ i = 2 := by omega
  all_goals rfl
/-- Three boxes in a row. -/
theorem box3 (w : World) (x y : R3) (o : Ord) (W : World) (hW : ((w.alloc (.cells #[.int .i64 x.a, .int .i64 x.b, .int .i64 x.c] 23)).alloc (.cells #[.int .i64 y.a, .int .i64 y.b, .int .i64 y.c] 23)).alloc (.cells #[.int .i64 o.x, .int .i64 o.y, .int .i64 o.z] 23) = W) :
    (∀ i, i < 3 → W.cell? ⟨w.heap.size, i, none⟩ = some (.int .i64 (x.at i))) ∧ (∀ i, i < 3 → W.cell? ⟨w.heap.size + 1, i, none⟩ = some (.int .i64 (y.at i))) ∧
      (W.cell? ⟨w.heap.size + 2, 0, none⟩ = some (.int .i64 o.x) ∧ W.cell? ⟨w.heap.size + 2, 1, none⟩ = some (.int .i64 o.y) ∧ W.cell? ⟨w.heap.size + 2, 2, none⟩ = some (.int .i64 o.z)) ∧ Below w.heap.size w W := by
  subst hW
  generalize e1 : w.alloc (.cells #[.int .i64 x.a, .int .i64 x.b, .int .i64 x.c] 23) = w1
  have s1 : w1.heap.size = w.heap.size + 1 := by rw [← e1]; exact size_alloc _ _
  have n1 : ∀ i, w1.cell? ⟨w.heap.size, i, none⟩ = #[Value.int .i64 x.a, .int .i64 x.b, .int .i64 x.c][i]? := fun i => by rw [← e1]; exact cell_new1 w _ 23 i
  have b1 : Below w.heap.size w w1 := by rw [← e1]; exact below_a _ _
  generalize e2 : w1.alloc (.cells #[.int .i64 y.a, .int .i64 y.b, .int .i64 y.c] 23) = w2
  have s2 : w2.heap.size = w.heap.size + 2 := by rw [← e2, size_alloc, s1]
  have n2 : ∀ i, w2.cell? ⟨w.heap.size + 1, i, none⟩ = #[Value.int .i64 y.a, .int .i64 y.b, .int .i64 y.c][i]? := fun i => by rw [← e2, ← s1]; exact cell_new1 w1 _ 23 i
  have b2 : Below w1.heap.size w1 w2 := by rw [← e2]; exact below_a _ _
  have n3 := cell_new1 w2 #[.int .i64 o.x, .int .i64 o.y, .int .i64 o.z] 23
  rw [s2] at n3
  have b3 := below_a w2 (.cells #[.int .i64 o.x, .int .i64 o.y, .int .i64 o.z] 23)
  refine ⟨fun i hi => ?_, fun i hi => ?_, ⟨n3 0, n3 1, n3 2⟩, below_tr (below_tr b1 b2 (by omega)) b3 (by omega)⟩
  · rw [b3.cell (p := ⟨w.heap.size, i, none⟩) (by show w.heap.size < _; omega), b2.cell (p := ⟨w.heap.size, i, none⟩) (by show w.heap.size < _; omega), n1 i, r3_at x i hi]
  · rw [b3.cell (p := ⟨w.heap.size + 1, i, none⟩) (by show w.heap.size + 1 < _; omega), n2 i, r3_at y i hi]

theorem ret_dec {d : Bool} {p q : Prop} [Decidable p] (h : d = true ↔ q) (hpq : p ↔ q) : Ending.returned (.bool (decide p)) = .returned (.bool d) := by
  have : decide p = d := by rw [Bool.eq_iff_iff, decide_eq_true_iff, h, hpq]
  rw [this]
theorem ret_dno {d : Bool} {q : Prop} (h : d = true ↔ q) (hq : ¬ q) : Ending.returned (.bool false) = .returned (.bool d) := by
  cases d with
  | false => rfl
  | true => exact absurd (h.1 rfl) hq
set_option maxHeartbeats 4000000 in
theorem before_calls (w : World) (x y : R3) (o : Ord) (ho : Six o) :
    Calls Try.prog 36 #[.agg #[.int .i64 x.a, .int .i64 x.b, .int .i64 x.c], .agg #[.int .i64 y.a, .int .i64 y.b, .int .i64 y.c], .agg #[.int .i64 o.x, .int .i64 o.y, .int .i64 o.z]] w fun e w' => e = .returned (.bool (decide (ltR o x y))) ∧ Below w.heap.size w w' := by
  have hxyz : o.x < 3 ∧ o.y < 3 ∧ o.z < 3 := by rcases ho with h | h | h | h | h | h <;> omega
  obtain ⟨ox, oy, oz⟩ := hxyz
  obtain ⟨d, hd⟩ : ∃ d, decide (ltR o x y) = d := ⟨_, rfl⟩
  rw [hd]
  have hd : d = true ↔ ltR o x y := by rw [← hd]; exact decide_eq_true_iff
  unfold ltR at hd
  have B3 := Lib.hid (box3 w x y o _ rfl)
  go_enter Try.func36, Try.ntmps36
  go_wp2
  generalize ((w.alloc (.cells #[.int .i64 x.a, .int .i64 x.b, .int .i64 x.c] 23)).alloc (.cells #[.int .i64 y.a, .int .i64 y.b, .int .i64 y.c] 23)).alloc (.cells #[.int .i64 o.x, .int .i64 o.y, .int .i64 o.z] 23) = W at *
  obtain ⟨hx, hy, ⟨o0, o1, o2⟩, hb⟩ := B3.out
  have x0 := hx o.x ox
  have x1 := hx o.y oy
  have x2 := hx o.z oz
  have y0 := hy o.x ox
  have y1 := hy o.y oy
  have y2 := hy o.z oz
  generalize x.at o.x = p0 at *
  generalize x.at o.y = p1 at *
  generalize x.at o.z = p2 at *
  generalize y.at o.x = q0 at *
  generalize y.at o.y = q1 at *
  generalize y.at o.z = q2 at *
  have HD := Lib.hid hd
  have HB := Lib.hid hb
  clear hd hx hy hb B3
  refine wp_loop_rounds 4 ?_
  rw [rounds_succ]
  by_cases h1 : p0 = q0
  · subst h1
    have h1' : (p0 != p0) = false := by simp
    go_wp2
    go_quiet (fail)
    go_wp2
    rw [rounds_succ]
    by_cases h2 : p1 = q1
    · subst h2
      have h2' : (p1 != p1) = false := by simp
      go_wp2
      go_quiet (fail)
      go_wp2
      rw [rounds_succ]
      by_cases h3 : p2 = q2
      · subst h3
        have h3' : (p2 != p2) = false := by simp
        go_wp2
        go_quiet (fail)
        go_wp2
        rw [rounds_succ]
        go_wp2
        go_ret
        exact ⟨ret_dno HD.out (by omega), (by repeat (first | exact HB.out | refine pw_below_drewN ?_ _))⟩
      · have h3' : (p2 != q2) = true := by simp [h3]
        have H3 := Lib.hid h3
        clear h3
        go_wp2
        go_quiet (fail)
        go_wp2
        go_quiet (fail)
        go_wp2
        go_ret
        exact ⟨ret_dec HD.out (by simp), (by repeat (first | exact HB.out | refine pw_below_drewN ?_ _))⟩
    · have h2' : (p1 != q1) = true := by simp [h2]
      have H2 := Lib.hid h2
      clear h2
      go_wp2
      go_quiet (fail)
      go_wp2
      go_quiet (fail)
      go_wp2
      go_ret
      exact ⟨ret_dec HD.out (by have := H2.out; simp; omega), (by repeat (first | exact HB.out | refine pw_below_drewN ?_ _))⟩
  · have h1' : (p0 != q0) = true := by simp [h1]
    have H1 := Lib.hid h1
    clear h1
    go_wp2
    go_quiet (fail)
    go_wp2
    go_quiet (fail)
    go_wp2
    go_ret
    exact ⟨ret_dec HD.out (by have := H1.out; omega), (by repeat (first | exact HB.out | refine pw_below_drewN ?_ _))⟩
end Go.Proofs.Ythapkpgkcckapaa.Pw
