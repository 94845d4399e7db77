/-
  The making of an index out of any slice of rows, and its rows again. Conditions: the rows' cells lie as told.
-/
import Derived.Test.YthapkpgkcckapaaPa6
namespace Go.Proofs.Ythapkpgkcckapaa.Pw
open Go.RowKit Go.Proofs.YthapkpgkcckapaaW.PrintWords Go.Proofs.Ythapkpgkcckapaa.Pm

/-- A slice of rows. -/
def SlR (w : World) (v : Value) (l : List R3) : Prop := ∃ A c, v = .slice A l.length c ∧ l.length ≤ c ∧ ((A = none ∧ l = []) ∨ ∃ b off, A = some ⟨b, off, none⟩ ∧ b < w.heap.size ∧ RowsAt w b off l)
theorem RowsAt.below {w w' : World} {b off : Nat} {l : List R3} (h : RowsAt w b off l) (hb : Below w.heap.size w w') (hs : b < w.heap.size) : RowsAt w' b off l :=
  fun k i hk hi => (hb.cell (p := ⟨b, off + k * 3 + i, none⟩) hs).trans (h k i hk hi)
theorem SlR.below {w w' : World} {v : Value} {l : List R3} (h : SlR w v l) (hb : Below w.heap.size w w') : SlR w' v l := by
  obtain ⟨A, c, hv, hc, h | ⟨b, off, hA, hs, hr⟩⟩ := h
  · exact ⟨A, c, hv, hc, .inl h⟩
  · exact ⟨A, c, hv, hc, .inr ⟨b, off, hA, Nat.lt_of_lt_of_le hs hb.size, hr.below hb hs⟩⟩
/-- A slice of rows apart from a block, behind stores into it. -/
theorem SlR.grown {w w' : World} {v : Value} {l : List R3} (h : SlR w v l) {g : Nat} (hb : w.grownBy w' (some g)) (hne : ∀ b off c, v = .slice (some ⟨b, off, none⟩) l.length c → b ≠ g) : SlR w' v l := by
  obtain ⟨A, c, hv, hc, h | ⟨b, off, hA, hs, hr⟩⟩ := h
  · exact ⟨A, c, hv, hc, .inl h⟩
  · refine ⟨A, c, hv, hc, .inr ⟨b, off, hA, Nat.lt_of_lt_of_le hs hb.size, fun k i hk hi => ?_⟩⟩
    have e : w'.heap[b]? = w.heap[b]? := hb.block b hs (fun e => hne b off c (by rw [hv, hA]) (Option.some.inj e))
    have := hr k i hk hi
    simp only [World.cell?, e] at this ⊢
    exact this

theorem compact_nil (w : World) (c : Nat) : Calls Try.prog 35 #[.slice none 0 c] w fun e w' => e = .returned (.slice none 0 c) ∧ w' = w := by
  go_enter Try.func35, Try.ntmps35
  go_wp2
  go_ret
  exact ⟨rfl, rfl⟩

theorem srt_nil (o : Ord) : Lib.compact (srt o []) = [] := by
  have : srt o [] = [] := by unfold srt; simp
  rw [this]
  rfl

set_option maxHeartbeats 4000000 in
theorem new_nil (w : World) (cp : Nat) (o : Ord) (ho : Six o) :
    Calls Try.prog 10 #[.slice none 0 cp, .agg #[.int .i64 o.x, .int .i64 o.y, .int .i64 o.z]] w fun e w' => ∃ X b' c', e = .returned (.tuple #[.pointer (some ⟨X, 0, none⟩), .int .i64 0]) ∧
      Idx w' X o (Lib.compact (srt o [])) b' 0 c' ∧ w.heap.size ≤ X ∧ X < w'.heap.size ∧ w.heap.size ≤ b' ∧ b' < w'.heap.size ∧ Below w.heap.size w w' := by
  have hs : s3 o.x o.y o.z = [0, 1, 2] := of_decide_eq_true (isOrd_of_six o ho)
  have hd : decide ((0 : Int) = 0 ∧ (1 : Int) = 1 ∧ (2 : Int) = 2) = true := by simp
  have EQ := fun (w : World) (a b c x y z : Int) => neq23 w a b c x y z
  have CS := Lib.hid (sortO w o.x o.y o.z 0 1 2 hs)
  have HO := Lib.hid ho
  clear hs ho
  go_enter Try.func10, Try.ntmps10
  go_wp2_with (go_at_call 29; refine CS.out.mono ?_; rintro e w1 ⟨rfl, ⟨x0, x1, x2⟩, ⟨y0, y1, y2⟩, hb1, hs1⟩)
  clear x0 x1 x2
  go_region_with (go_at_call 30; refine (Try.slices_Clone_nil 0 cp _).mono ?_; rintro e w2 ⟨rfl, hw2⟩; have hz := obKept hs1 y0 y1 y2 (show Below w1.drew.heap.size w1.drew w2 by rw [hw2]; exact Below.refl _ _); obtain ⟨z0, z1, z2⟩ := hz; have hb2 : Hid (Below w.heap.size w w2) := Lib.hid (by rw [hw2]; exact hb1.drew); have hs2 : Hid (w.heap.size + 2 ≤ w2.heap.size) := Lib.hid (by rw [hw2]; exact hs1); clear hw2)
  all_goals
    have hb2' := hb2.out
    have hs2' := hs2.out
    have hm : (w2.alloc (.cells #[.int .i64 o.x, .int .i64 o.y, .int .i64 o.z, .slice none 0 0, .bool true] 59)).heap[w2.heap.size]? = some (idxO o.x o.y o.z none 0 0 true) := by
      show (w2.heap.push _)[w2.heap.size]? = _
      rw [Array.getElem?_push, if_pos rfl]; rfl
    have f3 : (w2.alloc (.cells #[.int .i64 o.x, .int .i64 o.y, .int .i64 o.z, .slice none 0 0, .bool true] 59)).frozen? ⟨w2.heap.size, 3, none⟩ = false := frozen_new1 _ _ _ _
    have hsz := size_alloc w2 (.cells #[.int .i64 o.x, .int .i64 o.y, .int .i64 o.z, .slice none 0 0, .bool true] 59)
    have hbA := hb2'.alloc (by omega) (.cells #[.int .i64 o.x, .int .i64 o.y, .int .i64 o.z, .slice none 0 0, .bool true] 59)
    generalize w2.alloc (.cells #[.int .i64 o.x, .int .i64 o.y, .int .i64 o.z, .slice none 0 0, .bool true] 59) = W3 at *
    have c3 := (idx_cells hm).2.2.2.1
    have HM := Lib.hid (And.intro hm (And.intro hbA hsz))
    clear hm hbA hsz hb2' hs2' z0 z1 z2 y0 y1 y2
    go_wp2_with (first | (go_at_call 31; refine (AnyF.slices_SortFunc_none Try.laysSlF06_f31 none 0 _ _).mono ?_; rintro e w4 ⟨rfl, rfl⟩) | (go_at_call 35; refine (compact_nil _ 0).mono ?_; rintro e w5 ⟨rfl, rfl⟩))
    go_ret2
    obtain ⟨hm, hbA, hsz⟩ := HM.out
    have hs2 := hs2.out
    have hst := size_set w5 ⟨w2.heap.size, 3, none⟩ (.slice none 0 0)
    rw [srt_nil]
    have ho := HO.out
    refine ⟨w2.heap.size, w2.heap.size, 0, rfl, ⟨⟨none, .inr ⟨rfl, rfl⟩, (heap_set w5 _ 3 _ _ _ hm).trans rfl⟩, ?_, ?_, ?_, ?_, by simp, by simp⟩, by omega, by omega, by omega, by omega, ?_⟩
    · rcases ho with ⟨e, _, _⟩ | ⟨e, _, _⟩ | ⟨e, _, _⟩ | ⟨e, _, _⟩ | ⟨e, _, _⟩ | ⟨e, _, _⟩ <;> omega
    · rcases ho with ⟨_, e, _⟩ | ⟨_, e, _⟩ | ⟨_, e, _⟩ | ⟨_, e, _⟩ | ⟨_, e, _⟩ | ⟨_, e, _⟩ <;> omega
    · rcases ho with ⟨_, _, e⟩ | ⟨_, _, e⟩ | ⟨_, _, e⟩ | ⟨_, _, e⟩ | ⟨_, _, e⟩ | ⟨_, _, e⟩ <;> omega
    · intro k i hk hi
      simp at hk
    · exact hbA.grown (grown_set w5 w2.heap.size 3 _) (by omega) (by intro k hk; rw [Option.some.inj hk.symm]; omega)

/-- **The making of an index, out of any slice of rows, by an order.** -/
theorem new_ok (w : World) (v : Value) (l : List R3) (hv : SlR w v l) (hsm : l.length * 24 ≤ 140737488355328) (o : Ord) (ho : Six o) :
    Calls Try.prog 10 #[v, .agg #[.int .i64 o.x, .int .i64 o.y, .int .i64 o.z]] w fun e w' => ∃ X b' c', e = .returned (.tuple #[.pointer (some ⟨X, 0, none⟩), .int .i64 0]) ∧
      Idx w' X o (Lib.compact (srt o l)) b' 0 c' ∧ w.heap.size ≤ X ∧ X < w'.heap.size ∧ w.heap.size ≤ b' ∧ b' < w'.heap.size ∧ Below w.heap.size w w' := by
  obtain ⟨A, c, rfl, hc, ⟨rfl, rfl⟩ | ⟨b, off, rfl, hb, hr⟩⟩ := hv
  · exact new_nil w c o ho
  · exact new_yes w b off _ c l rfl hr hb hsm o ho

theorem rows_none (w : World) : Calls Try.prog 28 #[.pointer none] w fun e w' => e = .returned (.slice none 0 0) ∧ w = w' := by
  go_enter Try.func28, Try.ntmps28
  go_wp2
  go_ret
  exact ⟨rfl, rfl⟩
theorem rows_nil (w : World) (X : Nat) (n c : Nat) (h : w.cell? ⟨X, 3, none⟩ = some (.slice none n c)) : Calls Try.prog 28 #[.pointer (some ⟨X, 0, none⟩)] w fun e w' => e = .returned (.slice none 0 0) ∧ w' = w := by
  go_enter Try.func28, Try.ntmps28
  go_wp2_with (go_at_call 30; refine (Try.slices_Clone_nil n c _).mono ?_; rintro e w2 ⟨rfl, rfl⟩)
  go_ret
  exact ⟨rfl, rfl⟩
theorem rows_some (w : World) (X b off n c : Nat) (l : List R3) (hn : l.length = n) (h : w.cell? ⟨X, 3, none⟩ = some (.slice (some ⟨b, off, none⟩) n c)) (hl : RowsAt w b off l) (hsm : n * 24 ≤ 140737488355328) :
    Calls Try.prog 28 #[.pointer (some ⟨X, 0, none⟩)] w fun e w' => ∃ g c', e = .returned (.slice (some ⟨g, 0, none⟩) n c') ∧ w.heap.size ≤ g ∧ g < w'.heap.size ∧ n ≤ c' ∧ RowsIn w' g 0 l ∧ Below w.heap.size w w' := by
  have HC := Lib.hid (clone_calls w b off n c l hn hl hsm)
  clear hl hn hsm
  go_enter Try.func28, Try.ntmps28
  go_wp2_with (go_at_call 30; refine HC.out.mono ?_; rintro e w2 ⟨g, c', rfl, h1, h2, h3, h4, h5⟩)
  go_ret
  exact ⟨_, _, rfl, h1, h2, h3, h4, h5⟩
/-- **An index's rows, in a slice of their own.** -/
theorem rows_at (w : World) (X : Nat) (o : Ord) (rows : List R3) (b off c : Nat) (hX : Idx w X o rows b off c) :
    Calls Try.prog 28 #[.pointer (some ⟨X, 0, none⟩)] w fun e w' => ∃ v, e = .returned v ∧ SlR w' v rows ∧ Below w.heap.size w w' := by
  obtain ⟨A, rfl | ⟨rfl, rfl⟩, hblk⟩ := hX.blk
  · refine (rows_some w X b off _ c rows rfl (idx_cells hblk).2.2.2.1 hX.cell hX.small).mono ?_
    rintro e w' ⟨g, c', rfl, h1, h2, h3, h4, h5⟩
    exact ⟨_, rfl, ⟨_, c', rfl, h3, .inr ⟨g, 0, rfl, h2, h4.at⟩⟩, h5⟩
  · refine (rows_nil w X _ c (idx_cells hblk).2.2.2.1).mono ?_
    rintro e w' ⟨rfl, rfl⟩
    exact ⟨_, rfl, ⟨none, 0, rfl, Nat.le_refl _, .inl ⟨rfl, rfl⟩⟩, Below.refl _ _⟩
end Go.Proofs.Ythapkpgkcckapaa.Pw
