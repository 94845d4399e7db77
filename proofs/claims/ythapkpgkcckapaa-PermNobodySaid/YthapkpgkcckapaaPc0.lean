/-
  The law of what nobody made: the walk. No condition.
-/
import Derived.Test.YthapkpgkcckapaaPb3
import Derived.LoopN
namespace Go.Proofs.Ythapkpgkcckapaa.Pw
open Go.RowKit Go.Proofs.YthapkpgkcckapaaW.PrintWords Go.Proofs.Ythapkpgkcckapaa.Pm

/-- The walk that nobody made, and the list of it. -/
def Nb (w W : World) (m g : Nat) : Prop := W.cell? ⟨m, 0, none⟩ = some (.pointer none) ∧ W.cell? ⟨m, 1, none⟩ = some (.pointer (some ⟨g, 0, none⟩)) ∧ W.cell? ⟨g, 0, none⟩ = some (.pointer none) ∧ Below w.heap.size w W
theorem Nb.more {w W W' : World} {m g : Nat} (h : Nb w W m g) (hb : Below W.heap.size W W') : Nb w W' m g := by
  obtain ⟨h1, h2, h3, h4⟩ := h
  have l1 := World.block_lt_of_cell? _ _ h1
  have l3 := World.block_lt_of_cell? _ _ h3
  exact ⟨(hb.cell (p := ⟨m, 0, none⟩) l1).trans h1, (hb.cell (p := ⟨m, 1, none⟩) l1).trans h2, (hb.cell (p := ⟨g, 0, none⟩) l3).trans h3, below_tr h4 hb h4.size⟩
theorem nb_next1 {w W : World} {m g : Nat} (h : Nb w W m g) : Calls Try.prog 19 #[.pointer none] W fun e w' => e = .returned (.int .i64 1) ∧ Nb w w' m g := (next_none W).mono fun _ _ ⟨he, hb⟩ => ⟨he, h.more hb⟩
theorem nb_next2 {w W : World} {m g : Nat} (h : Nb w W m g) : Calls Try.prog 19 #[.pointer (some ⟨g, 0, none⟩)] W fun e w' => e = .returned (.int .i64 1) ∧ Nb w w' m g := (next_zero W g h.2.2.1).mono fun _ _ ⟨he, hb⟩ => ⟨he, h.more hb⟩
theorem nb_seek1 {w W : World} {m g : Nat} (h : Nb w W m g) (n : Int) : Calls Try.prog 21 #[.pointer none, .int .i64 n] W fun e w' => e = .returned (.int .i64 1) ∧ Nb w w' m g := (seek_none W n).mono fun _ _ ⟨he, hb⟩ => ⟨he, h.more hb⟩
theorem nb_seek2 {w W : World} {m g : Nat} (h : Nb w W m g) (n : Int) : Calls Try.prog 21 #[.pointer (some ⟨g, 0, none⟩), .int .i64 n] W fun e w' => e = .returned (.int .i64 1) ∧ Nb w w' m g := (seek_zero W g n h.2.2.1).mono fun _ _ ⟨he, hb⟩ => ⟨he, h.more hb⟩

/-- The list of two, behind its making. -/
theorem two_made (w : World) (cs : Array Value) (t t' : TypeId) (W : World) (hW : (w.alloc (.cells cs t)).alloc (.cells #[.pointer none, .pointer (some ⟨w.heap.size, 0, none⟩)] t') = W) :
    W.cell? ⟨w.heap.size + 1, 0, none⟩ = some (.pointer none) ∧ W.cell? ⟨w.heap.size + 1, 1, none⟩ = some (.pointer (some ⟨w.heap.size, 0, none⟩)) ∧ W.heap[w.heap.size]? = some (.cells cs t) ∧ Below w.heap.size w W := by
  subst hW
  have e1 := size_alloc w (.cells cs t)
  have n2 := cell_new1 (w.alloc (.cells cs t)) #[.pointer none, .pointer (some ⟨w.heap.size, 0, none⟩)] t'
  rw [e1] at n2
  refine ⟨n2 0, n2 1, ?_, (below_a w _).alloc (by omega) _⟩
  refine (heap_al _ _ (by omega) _).trans ?_
  show (w.heap.push _)[w.heap.size]? = _
  rw [Array.getElem?_push, if_pos rfl]

set_option maxHeartbeats 4000000 in
theorem nobody_calls (w : World) (n : Int) : Calls Try.prog 8 #[.int .i64 n] w fun e w' => e = .returned (.bool true) ∧ Below w.heap.size w w' := by
  go_enter Try.func8, Try.ntmps8
  go_wp2
  generalize hW : (w.alloc (Obj.cells #[.int .i64 0, .int .i64 0, .int .i64 0, .slice none 0 0, .bool false] 59)).alloc (Obj.cells #[.pointer none, .pointer (some ⟨w.heap.size, 0, none⟩)] 25) = W
  obtain ⟨m0, m1, mh, hb⟩ := two_made w _ _ _ W hW
  have i3 : W.cell? ⟨w.heap.size, 3, none⟩ = some (.slice none 0 0) := (idx_cells (o0 := 0) (o1 := 0) (o2 := 0) (A := none) (n := 0) (c := 0) (m := false) mh).2.2.2.1
  have i4 : W.cell? ⟨w.heap.size, 4, none⟩ = some (.bool false) := (idx_cells (o0 := 0) (o1 := 0) (o2 := 0) (A := none) (n := 0) (c := 0) (m := false) mh).2.2.2.2
  have LN := Lib.hid (len_at W w.heap.size 0 0 0 none 0 0 false mh)
  have HB := Lib.hid hb
  clear hW mh hb
  refine wp_loop_rounds 3 ?_
  rw [rounds_succ]
  go_wp2_with (first
    | (go_at_call 26; refine (len_none _).mono ?_; rintro e w' ⟨rfl, rfl⟩)
    | (go_at_call 28; refine (rows_none _).mono ?_; rintro e w' ⟨rfl, rfl⟩)
    | (go_at_call 14; refine (walk_none _).mono ?_; rintro e w' ⟨rfl, rfl⟩))
  rw [rounds_succ]
  go_wp2_with (first
    | (go_at_call 26; refine LN.out.mono ?_; rintro e w' ⟨rfl, rfl⟩)
    | (go_at_call 28; refine (rows_nil _ _ 0 0 i3).mono ?_; rintro e w' ⟨rfl, rfl⟩)
    | (go_at_call 14; refine (walk_unmade _ _ i4).mono ?_; rintro e w' ⟨rfl, rfl⟩))
  rw [rounds_succ]
  go_wp2
  clear m0 m1 i3 i4 LN
  generalize hW2 : (w'.alloc (Obj.cells #[.pointer none, .int .i64 0, .int .i64 0, .int .i64 0, .int .i64 0, .int .i64 0, .int .i64 0, .int .i64 0, .int .i64 0, .int .i64 0] 65)).alloc (Obj.cells #[.pointer none, .pointer (some ⟨w'.heap.size, 0, none⟩)] 35) = W2
  obtain ⟨x0, x1, xh, hb2⟩ := two_made w' _ _ _ W2 hW2
  have xz : W2.cell? ⟨w'.heap.size, 0, none⟩ = some (.pointer none) := by simp [World.cell?, xh]
  have NB := Lib.hid (show Nb w W2 (w'.heap.size + 1) w'.heap.size from ⟨x0, x1, xz, below_tr HB.out hb2 HB.out.size⟩)
  clear hW2 xh hb2
  generalize w'.heap.size = g at *
  refine wp_loop_rounds 3 ?_
  rw [rounds_succ]
  go_wp2_with (first
    | (go_at_call 23; refine (key_none _).mono ?_; rintro e w' ⟨rfl, rfl⟩)
    | (go_at_call 15; refine (open_none _).mono ?_; rintro e w' ⟨rfl, rfl⟩)
    | (go_at_call 17; refine (up_none _).mono ?_; rintro e w' ⟨rfl, rfl⟩)
    | (go_at_call 25; refine (depth_none _).mono ?_; rintro e w' ⟨rfl, rfl⟩)
    | (go_at_call 19; refine (nb_next1 NB.out).mono ?_; rintro e w3 ⟨rfl, h3⟩; have NB3 := Lib.hid h3; obtain ⟨y0, y1, yz, _⟩ := h3)
    | (go_at_call 21; refine (nb_seek1 NB3.out _).mono ?_; rintro e w4 ⟨rfl, h4⟩; have NB4 := Lib.hid h4; obtain ⟨z0, z1, zz, _⟩ := h4))
  rw [rounds_succ]
  go_wp2_with (first
    | (go_at_call 23; refine (key_zero _ _ zz).mono ?_; rintro e w' ⟨rfl, rfl⟩)
    | (go_at_call 15; refine (open_zero _ _ zz).mono ?_; rintro e w' ⟨rfl, rfl⟩)
    | (go_at_call 17; refine (up_zero _ _ zz).mono ?_; rintro e w' ⟨rfl, rfl⟩)
    | (go_at_call 25; refine (depth_zero _ _ vz).mono ?_; rintro e w' ⟨rfl, rfl⟩)
    | (go_at_call 19; refine (nb_next2 NB4.out).mono ?_; rintro e w5 ⟨rfl, h5⟩; have NB5 := Lib.hid h5; obtain ⟨u0, u1, uz, _⟩ := h5)
    | (go_at_call 21; refine (nb_seek2 NB5.out _).mono ?_; rintro e w6 ⟨rfl, h6⟩; have NB6 := Lib.hid h6; obtain ⟨v0, v1, vz, _⟩ := h6))
  rw [rounds_succ]
  go_wp2_with (go_at_call 12; refine (awake_calls _).mono ?_; rintro e w7 ⟨rfl, h7⟩)
  go_ret
  exact ⟨rfl, below_tr NB6.out.2.2.2 h7 NB6.out.2.2.2.size⟩
end Go.Proofs.Ythapkpgkcckapaa.Pw
