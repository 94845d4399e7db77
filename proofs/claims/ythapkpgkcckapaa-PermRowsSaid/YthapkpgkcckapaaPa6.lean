/-
  The making of an index: the walk. Conditions: the rows' cells lie as told.
-/
import Derived.Test.YthapkpgkcckapaaPa5
namespace Go.Proofs.Ythapkpgkcckapaa.Pw
open Go.RowKit Go.Proofs.YthapkpgkcckapaaW.PrintWords Go.Proofs.Ythapkpgkcckapaa.Pm

/-- The order's box, its copy, and the copy's sort. -/
theorem sortO (w : World) (a b c x y z : Int) (hs : s3 a b c = [x, y, z]) :
    Calls Try.prog 29 #[.slice (some ⟨w.heap.size + 1, 0, none⟩) 3 3] ((w.alloc (.cells #[.int .i64 a, .int .i64 b, .int .i64 c] 23)).alloc (.cells #[.int .i64 a, .int .i64 b, .int .i64 c] 23)) fun e w' =>
      e = .returned (.tuple #[]) ∧ (w'.cell? ⟨w.heap.size + 1, 0, none⟩ = some (.int .i64 x) ∧ w'.cell? ⟨w.heap.size + 1, 1, none⟩ = some (.int .i64 y) ∧ w'.cell? ⟨w.heap.size + 1, 2, none⟩ = some (.int .i64 z)) ∧
      (w'.cell? ⟨w.heap.size, 0, none⟩ = some (.int .i64 a) ∧ w'.cell? ⟨w.heap.size, 1, none⟩ = some (.int .i64 b) ∧ w'.cell? ⟨w.heap.size, 2, none⟩ = some (.int .i64 c)) ∧ Below w.heap.size w w' ∧ w.heap.size + 2 ≤ w'.heap.size := by
  have e1 := size_alloc w (.cells #[.int .i64 a, .int .i64 b, .int .i64 c] 23)
  have e2 := size_alloc (w.alloc (.cells #[.int .i64 a, .int .i64 b, .int .i64 c] 23)) (.cells #[.int .i64 a, .int .i64 b, .int .i64 c] 23)
  have n2 := cell_new1 (w.alloc (.cells #[.int .i64 a, .int .i64 b, .int .i64 c] 23)) #[.int .i64 a, .int .i64 b, .int .i64 c] 23
  have f2 := frozen_new1 (w.alloc (.cells #[.int .i64 a, .int .i64 b, .int .i64 c] 23)) #[.int .i64 a, .int .i64 b, .int .i64 c] 23
  have n1 : ∀ i, _ := fun i => (cell_alloc1 (w.alloc (.cells #[.int .i64 a, .int .i64 b, .int .i64 c] 23)) w.heap.size (by omega) i (.cells #[.int .i64 a, .int .i64 b, .int .i64 c] 23)).trans (cell_new1 w #[.int .i64 a, .int .i64 b, .int .i64 c] 23 i)
  rw [e1] at n2 f2
  refine (sort3_calls _ (w.heap.size + 1) a b c x y z hs (by omega) (n2 0) (n2 1) (n2 2) f2).mono ?_
  rintro e w' ⟨rfl, h0, h1, h2, hg⟩
  have hk : w'.heap[w.heap.size]? = ((w.alloc (.cells #[.int .i64 a, .int .i64 b, .int .i64 c] 23)).alloc (.cells #[.int .i64 a, .int .i64 b, .int .i64 c] 23)).heap[w.heap.size]? :=
    hg.block w.heap.size (by omega) (by simp)
  have hc : ∀ i, w'.cell? ⟨w.heap.size, i, none⟩ = #[Value.int .i64 a, .int .i64 b, .int .i64 c][i]? := fun i => by
    rw [← n1 i]
    simp only [World.cell?, hk]
  have hb := ((below_a w (.cells #[.int .i64 a, .int .i64 b, .int .i64 c] 23)).alloc (by omega) (.cells #[.int .i64 a, .int .i64 b, .int .i64 c] 23))
  refine ⟨rfl, ⟨h0, h1, h2⟩, ⟨hc 0, hc 1, hc 2⟩, hb.grown hg (by omega) (by intro k hk; simp at hk; omega), ?_⟩
  have := hg.size
  omega

set_option maxHeartbeats 2000000 in
theorem new_no (w : World) (v : Value) (a b c : Int) (hno : isOrd a b c = false) :
    Calls Try.prog 10 #[v, .agg #[.int .i64 a, .int .i64 b, .int .i64 c]] w fun e w' => e = .returned (.tuple #[.pointer none, .int .i64 1]) ∧ Below w.heap.size w w' := by
  obtain ⟨x, y, z, hs⟩ := s3_ex a b c
  have hd : decide (x = 0 ∧ y = 1 ∧ z = 2) = false := by
    unfold isOrd at hno
    rw [hs] at hno
    simpa using hno
  have EQ := fun (w : World) (a b c x y z : Int) => neq23 w a b c x y z
  have CS := Lib.hid (sortO w a b c x y z hs)
  go_enter Try.func10, Try.ntmps10
  go_wp2_with (go_at_call 29; refine CS.out.mono ?_; rintro e w1 ⟨rfl, ⟨x0, x1, x2⟩, _, hb, _⟩)
  go_ret2
  exact ⟨rfl, hb⟩

theorem obKept {w w1 w2 : World} {u v t : Value} (hs : w.heap.size + 2 ≤ w1.heap.size) (h0 : w1.cell? ⟨w.heap.size, 0, none⟩ = some u) (h1 : w1.cell? ⟨w.heap.size, 1, none⟩ = some v) (h2 : w1.cell? ⟨w.heap.size, 2, none⟩ = some t) (hb : Below w1.drew.heap.size w1.drew w2) :
    w2.cell? ⟨w.heap.size, 0, none⟩ = some u ∧ w2.cell? ⟨w.heap.size, 1, none⟩ = some v ∧ w2.cell? ⟨w.heap.size, 2, none⟩ = some t := by
  have hl : w.heap.size < w1.drew.heap.size := by show w.heap.size < w1.heap.size; omega
  exact ⟨(hb.cell (p := ⟨w.heap.size, 0, none⟩) hl).trans h0, (hb.cell (p := ⟨w.heap.size, 1, none⟩) hl).trans h1, (hb.cell (p := ⟨w.heap.size, 2, none⟩) hl).trans h2⟩

/-- What stands behind the copy: the index's block, its rows, all that was there. -/
structure Mid (w W : World) (X g : Nat) (o : Ord) (n c : Nat) (l : List R3) : Prop where
  rows : RowsIn W g 0 l
  blk : W.heap[X]? = some (idxO o.x o.y o.z (some ⟨g, 0, none⟩) n c true)
  below : Below w.heap.size w W
  xs : X < W.heap.size
  gs : g < W.heap.size
  xw : w.heap.size ≤ X
  gw : w.heap.size ≤ g
  ne : g ≠ X
theorem Mid.step {w W W' : World} {X g : Nat} {o : Ord} {n c : Nat} {l l' : List R3} (h : Mid w W X g o n c l) (hr : RowsIn W' g 0 l') (hg : W.grownBy W' (some g)) : Mid w W' X g o n c l' where
  rows := hr
  blk := (hg.block X h.xs (fun e => h.ne (Option.some.inj e).symm)).trans h.blk
  below := h.below.grown hg (Nat.le_trans h.xw (Nat.le_of_lt h.xs)) (by intro k hk; rw [Option.some.inj hk.symm]; exact h.gw)
  xs := Nat.lt_of_lt_of_le h.xs hg.size
  gs := Nat.lt_of_lt_of_le h.gs hg.size
  xw := h.xw
  gw := h.gw
  ne := h.ne

theorem midX {w w1 w2 : World} {g n cg : Nat} {l : List R3} {o : Ord} (hs : w.heap.size + 2 ≤ w1.heap.size) (hb1 : Below w.heap.size w w1) (hr2 : RowsIn w2 g 0 l) (hb2 : Below w1.drew.heap.size w1.drew w2) (hg1 : w1.drew.heap.size ≤ g) (hg2 : g < w2.heap.size) :
    Mid w (w2.alloc (idxO o.x o.y o.z (some ⟨g, 0, none⟩) n cg true)) w2.heap.size g o n cg l where
  rows := fun k i hk hi => ⟨(cell_alloc1 _ g hg2 _ _).trans (hr2 k i hk hi).1, (frozen_alloc1 _ g hg2 _ _).trans (hr2 k i hk hi).2⟩
  blk := by
    show (w2.heap.push _)[w2.heap.size]? = _
    rw [Array.getElem?_push, if_pos rfl]
  below := by
    have h1 : w.heap.size ≤ w1.drew.heap.size := by show w.heap.size ≤ w1.heap.size; omega
    have := (hb1.drew.trans (hb2.mono h1)).alloc (Nat.le_trans h1 hb2.size) (idxO o.x o.y o.z (some ⟨g, 0, none⟩) n cg true)
    exact this
  xs := by rw [size_alloc]; omega
  gs := by rw [size_alloc]; omega
  xw := by have := hb2.size; have : w1.drew.heap.size = w1.heap.size := rfl; omega
  gw := by have : w1.drew.heap.size = w1.heap.size := rfl; omega
  ne := by omega

theorem sortX {w : World} {X g n cg : Nat} {l : List R3} {o : Ord} (ho : Six o) (hn : l.length = n) (hsm : n * 24 ≤ 140737488355328) {W : World} (h : Mid w W X g o n cg l)
    (z0 : W.cell? ⟨w.heap.size, 0, none⟩ = some (.int .i64 o.x)) (z1 : W.cell? ⟨w.heap.size, 1, none⟩ = some (.int .i64 o.y)) (z2 : W.cell? ⟨w.heap.size, 2, none⟩ = some (.int .i64 o.z)) (hob : w.heap.size < W.heap.size) (hne : w.heap.size ≠ g) :
    Calls Try.prog 31 #[.slice (some ⟨g, 0, none⟩) n cg, .func (.func 32) #[] #[.pointer (some ⟨w.heap.size, 0, none⟩)]] W fun e w4 => e = .returned (.tuple #[]) ∧ w4.cell? ⟨X, 3, none⟩ = some (.slice (some ⟨g, 0, none⟩) n cg) ∧ Mid w w4 X g o n cg (srt o l) := by
  subst hn
  refine (sort_calls W g 0 cg w.heap.size l o ho h.rows h.gs (by omega) z0 z1 z2 hob hne).mono ?_
  rintro e w4 ⟨rfl, hr, hg⟩
  have hm := h.step hr hg
  exact ⟨rfl, (idx_cells hm.blk).2.2.2.1, hm⟩
theorem compX {w : World} {X g n cg : Nat} {l : List R3} {o : Ord} (hn : l.length = n) (hc : n ≤ cg) (hsm : n * 24 ≤ 140737488355328) {W : World} (h : Mid w W X g o n cg l) :
    Calls Try.prog 35 #[.slice (some ⟨g, 0, none⟩) n cg] W fun e w5 => e = .returned (.slice (some ⟨g, 0, none⟩) (Lib.compact l).length cg) ∧ w5.cell? ⟨X, 3, none⟩ = some (.slice (some ⟨g, 0, none⟩) n cg) ∧ w5.frozen? ⟨X, 3, none⟩ = false ∧ Mid w w5 X g o n cg (Lib.compact l) := by
  subst hn
  refine (compact_calls W g 0 cg l h.rows (by omega) hc).mono ?_
  rintro e w5 ⟨rfl, hr, hg⟩
  have hm := h.step hr hg
  exact ⟨rfl, (idx_cells hm.blk).2.2.2.1, by simp [World.frozen?, hm.blk, idxO], hm⟩

theorem compact_len (l : List R3) : (Lib.compact l).length ≤ l.length := by
  unfold Lib.compact Lib.compactUpTo
  rw [List.length_map]
  exact Nat.le_trans (List.length_filter_le _ _) (by simp)

/-- At the end: the index. -/
theorem endX {w W : World} {X g n cg : Nat} {l : List R3} {o : Ord} (ho : Six o) (hl : l.length ≤ n) (hc : n ≤ cg) (hsm : n * 24 ≤ 140737488355328) (h : Mid w W X g o n cg l) :
    Idx (W.setCell ⟨X, 3, none⟩ (.slice (some ⟨g, 0, none⟩) l.length cg)) X o l g 0 cg ∧ w.heap.size ≤ X ∧ X < (W.setCell ⟨X, 3, none⟩ (.slice (some ⟨g, 0, none⟩) l.length cg)).heap.size ∧ w.heap.size ≤ g ∧ g < (W.setCell ⟨X, 3, none⟩ (.slice (some ⟨g, 0, none⟩) l.length cg)).heap.size ∧
      Below w.heap.size w (W.setCell ⟨X, 3, none⟩ (.slice (some ⟨g, 0, none⟩) l.length cg)) := by
  have hsz := size_set W ⟨X, 3, none⟩ (.slice (some ⟨g, 0, none⟩) l.length cg)
  refine ⟨⟨⟨_, .inl rfl, (heap_set W X 3 _ _ _ h.blk).trans rfl⟩, ?_, ?_, ?_, ?_, by omega, by omega⟩, h.xw, by rw [hsz]; exact h.xs, h.gw, by rw [hsz]; exact h.gs, ?_⟩
  · rcases ho with ⟨e, _, _⟩ | ⟨e, _, _⟩ | ⟨e, _, _⟩ | ⟨e, _, _⟩ | ⟨e, _, _⟩ | ⟨e, _, _⟩ <;> omega
  · rcases ho with ⟨_, e, _⟩ | ⟨_, e, _⟩ | ⟨_, e, _⟩ | ⟨_, e, _⟩ | ⟨_, e, _⟩ | ⟨_, e, _⟩ <;> omega
  · rcases ho with ⟨_, _, e⟩ | ⟨_, _, e⟩ | ⟨_, _, e⟩ | ⟨_, _, e⟩ | ⟨_, _, e⟩ | ⟨_, _, e⟩ <;> omega
  · intro k i hk hi
    have hb := Below.heap_setCell W ⟨X, 3, none⟩ (.slice (some ⟨g, 0, none⟩) l.length cg) g h.ne
    have := (h.rows k i hk hi).1
    simp only [World.cell?, hb] at this ⊢
    exact this
  · exact h.below.grown (grown_set W X 3 _) (Nat.le_trans h.xw (Nat.le_of_lt h.xs)) (by intro k hk; rw [Option.some.inj hk.symm]; exact h.xw)

set_option maxHeartbeats 4000000 in
theorem new_yes (w : World) (b off n cp : Nat) (l : List R3) (hn : l.length = n) (hl : RowsAt w b off l) (hbs : b < w.heap.size) (hsm : n * 24 ≤ 140737488355328) (o : Ord) (ho : Six o) :
    Calls Try.prog 10 #[.slice (some ⟨b, off, none⟩) n cp, .agg #[.int .i64 o.x, .int .i64 o.y, .int .i64 o.z]] w fun e w' => ∃ X b' c', e = .returned (.tuple #[.pointer (some ⟨X, 0, none⟩), .int .i64 0]) ∧
      Idx w' X o (Lib.compact (srt o l)) b' 0 c' ∧ w.heap.size ≤ X ∧ X < w'.heap.size ∧ w.heap.size ≤ b' ∧ b' < w'.heap.size ∧ Below w.heap.size w w' := by
  have hs : s3 o.x o.y o.z = [0, 1, 2] := of_decide_eq_true (isOrd_of_six o ho)
  have hd : decide ((0 : Int) = 0 ∧ (1 : Int) = 1 ∧ (2 : Int) = 2) = true := by simp
  have EQ := fun (w : World) (a b c x y z : Int) => neq23 w a b c x y z
  have CS := Lib.hid (sortO w o.x o.y o.z 0 1 2 hs)
  have CC := Lib.hid (fun (W : World) (hW : Below w.heap.size w W) => clone_calls W b off n cp l hn (fun k i hk hi => (hW.cell (p := ⟨b, off + k * 3 + i, none⟩) hbs).trans (hl k i hk hi)) hsm)
  have HO := Lib.hid ho
  clear hs hl ho
  go_enter Try.func10, Try.ntmps10
  go_wp2_with (go_at_call 29; refine CS.out.mono ?_; rintro e w1 ⟨rfl, ⟨x0, x1, x2⟩, ⟨y0, y1, y2⟩, hb1, hs1⟩)
  clear x0 x1 x2
  go_region_with (go_at_call 30; refine (CC.out _ hb1.drew).mono ?_; rintro e w2 ⟨g, cg, rfl, hg1, hg2, hcg, hr2, hb2⟩; obtain ⟨z0, z1, z2⟩ := obKept hs1 y0 y1 y2 hb2; have HR2 := Lib.hid (And.intro hr2 (And.intro hb2 (And.intro hg1 hg2))); clear hr2 hb2 hg1 hg2)
  all_goals
    obtain ⟨hr2, hb2, hg1, hg2⟩ := HR2.out
    have hd1 : w1.drew.heap.size = w1.heap.size := rfl
    have hsz := size_alloc w2 (.cells #[.int .i64 o.x, .int .i64 o.y, .int .i64 o.z, .slice (some ⟨g, 0, none⟩) n cg, .bool true] 59)
    have k3 := fun i => cell_alloc1 w2 w.heap.size (by omega) i (.cells #[.int .i64 o.x, .int .i64 o.y, .int .i64 o.z, .slice (some ⟨g, 0, none⟩) n cg, .bool true] 59)
    have m3 : Mid w (w2.alloc (.cells #[.int .i64 o.x, .int .i64 o.y, .int .i64 o.z, .slice (some ⟨g, 0, none⟩) n cg, .bool true] 59)) w2.heap.size g o n cg l := midX hs1 hb1 hr2 hb2 hg1 hg2
    generalize w2.alloc (.cells #[.int .i64 o.x, .int .i64 o.y, .int .i64 o.z, .slice (some ⟨g, 0, none⟩) n cg, .bool true] 59) = W3 at *
    have SX := Lib.hid (sortX HO.out hn hsm m3 ((k3 0).trans z0) ((k3 1).trans z1) ((k3 2).trans z2) (by omega) (by omega))
    have CX := Lib.hid (fun (W : World) (h : Mid w W w2.heap.size g o n cg (srt o l)) => compX (by rw [srt_length]; exact hn) hcg hsm h)
    have c3 := (idx_cells m3.blk).2.2.2.1
    clear k3 z0 z1 z2 y0 y1 y2 m3
    go_wp2_with (first | (go_at_call 31; refine SX.out.mono ?_; rintro e w4 ⟨rfl, c4, m4⟩; have M4 := Lib.hid m4; clear m4) | (go_at_call 35; refine (CX.out _ M4.out).mono ?_; rintro e w5 ⟨rfl, c5, f5, m5⟩; have M5 := Lib.hid m5; clear m5))
    go_ret2
    exact ⟨_, _, _, rfl, endX HO.out (by have := compact_len (srt o l); rw [srt_length] at this; omega) hcg hsm M5.out⟩
end Go.Proofs.Ythapkpgkcckapaa.Pw
