/-
  Joined by wip/tools/merge.py from the texts Pa6 Pa7 Pb2 Pb3. Conditions: as each says.
-/
import Derived.Test.YtcnffgcegimelaaGreatJ4
section
/-
  The making of an index: the walk. Conditions: the rows' cells lie as told.
-/
namespace Go.Proofs.YtcnffgcegimelaaGreat.Pw
open Go.RowKit Go.Proofs.YtcnffgcegimelaaGreatW.PrintWords Go.Proofs.YtcnffgcegimelaaGreat.Pm

/-- The order's box, its copy, and the copy's sort. -/
theorem sortO (w : World) (a b c x y z : Int) (hs : s3 a b c = [x, y, z]) :
    Calls Tryz.prog 78 #[.slice (some ⟨w.heap.size + 1, 0, none⟩) 3 3] ((w.alloc (.cells #[.int .i64 a, .int .i64 b, .int .i64 c] 80)).alloc (.cells #[.int .i64 a, .int .i64 b, .int .i64 c] 80)) fun e w' =>
      e = .returned (.tuple #[]) ∧ (w'.cell? ⟨w.heap.size + 1, 0, none⟩ = some (.int .i64 x) ∧ w'.cell? ⟨w.heap.size + 1, 1, none⟩ = some (.int .i64 y) ∧ w'.cell? ⟨w.heap.size + 1, 2, none⟩ = some (.int .i64 z)) ∧
      (w'.cell? ⟨w.heap.size, 0, none⟩ = some (.int .i64 a) ∧ w'.cell? ⟨w.heap.size, 1, none⟩ = some (.int .i64 b) ∧ w'.cell? ⟨w.heap.size, 2, none⟩ = some (.int .i64 c)) ∧ Below w.heap.size w w' ∧ w.heap.size + 2 ≤ w'.heap.size := by
  have e1 := size_alloc w (.cells #[.int .i64 a, .int .i64 b, .int .i64 c] 80)
  have e2 := size_alloc (w.alloc (.cells #[.int .i64 a, .int .i64 b, .int .i64 c] 80)) (.cells #[.int .i64 a, .int .i64 b, .int .i64 c] 80)
  have n2 := cell_new1 (w.alloc (.cells #[.int .i64 a, .int .i64 b, .int .i64 c] 80)) #[.int .i64 a, .int .i64 b, .int .i64 c] 80
  have f2 := frozen_new1 (w.alloc (.cells #[.int .i64 a, .int .i64 b, .int .i64 c] 80)) #[.int .i64 a, .int .i64 b, .int .i64 c] 80
  have n1 : ∀ i, _ := fun i => (cell_alloc1 (w.alloc (.cells #[.int .i64 a, .int .i64 b, .int .i64 c] 80)) w.heap.size (by omega) i (.cells #[.int .i64 a, .int .i64 b, .int .i64 c] 80)).trans (cell_new1 w #[.int .i64 a, .int .i64 b, .int .i64 c] 80 i)
  rw [e1] at n2 f2
  refine (sort3_calls _ (w.heap.size + 1) a b c x y z hs (by omega) (n2 0) (n2 1) (n2 2) f2).mono ?_
  rintro e w' ⟨rfl, h0, h1, h2, hg⟩
  have hk : w'.heap[w.heap.size]? = ((w.alloc (.cells #[.int .i64 a, .int .i64 b, .int .i64 c] 80)).alloc (.cells #[.int .i64 a, .int .i64 b, .int .i64 c] 80)).heap[w.heap.size]? :=
    hg.block w.heap.size (by omega) (by simp)
  have hc : ∀ i, w'.cell? ⟨w.heap.size, i, none⟩ = #[Value.int .i64 a, .int .i64 b, .int .i64 c][i]? := fun i => by
    rw [← n1 i]
    simp only [World.cell?, hk]
  have hb := ((below_a w (.cells #[.int .i64 a, .int .i64 b, .int .i64 c] 80)).alloc (by omega) (.cells #[.int .i64 a, .int .i64 b, .int .i64 c] 80))
  refine ⟨rfl, ⟨h0, h1, h2⟩, ⟨hc 0, hc 1, hc 2⟩, hb.grown hg (by omega) (by intro k hk; simp at hk; omega), ?_⟩
  have := hg.size
  omega

set_option maxHeartbeats 2000000 in
theorem new_no (w : World) (v : Value) (a b c : Int) (hno : isOrd a b c = false) :
    Calls Tryz.prog 59 #[v, .agg #[.int .i64 a, .int .i64 b, .int .i64 c]] w fun e w' => e = .returned (.tuple #[.pointer none, .int .i64 1]) ∧ Below w.heap.size w w' := by
  obtain ⟨x, y, z, hs⟩ := s3_ex a b c
  have hd : decide (x = 0 ∧ y = 1 ∧ z = 2) = false := by
    unfold isOrd at hno
    rw [hs] at hno
    simpa using hno
  have EQ := fun (w : World) (a b c x y z : Int) => neq23 w a b c x y z
  have CS := Lib.hid (sortO w a b c x y z hs)
  go_enter Tryz.func59, Tryz.ntmps59
  go_wp2_with (go_at_call 78; refine CS.out.mono ?_; rintro e w1 ⟨rfl, ⟨x0, x1, x2⟩, _, hb, _⟩)
  go_ret2
  exact ⟨rfl, hb⟩

theorem obKept {w w1 w2 : World} {u v t : Value} (hs : w.heap.size + 2 ≤ w1.heap.size) (h0 : w1.cell? ⟨w.heap.size, 0, none⟩ = some u) (h1 : w1.cell? ⟨w.heap.size, 1, none⟩ = some v) (h2 : w1.cell? ⟨w.heap.size, 2, none⟩ = some t) (hb : Below w1.drew.heap.size w1.drew w2) :
    w2.cell? ⟨w.heap.size, 0, none⟩ = some u ∧ w2.cell? ⟨w.heap.size, 1, none⟩ = some v ∧ w2.cell? ⟨w.heap.size, 2, none⟩ = some t := by
  have hl : w.heap.size < w1.drew.heap.size := by show w.heap.size < w1.heap.size; omega
  exact ⟨(hb.cell (p := ⟨w.heap.size, 0, none⟩) hl).trans h0, (hb.cell (p := ⟨w.heap.size, 1, none⟩) hl).trans h1, (hb.cell (p := ⟨w.heap.size, 2, none⟩) hl).trans h2⟩

/-- What stands behind the copy: the index's block, its rows, all that was there. -/
structure Mid (w W : World) (X g : Nat) (o : Ord) (n c : Nat) (l : List R3) : Prop where
  rows : RowsIn W g 0 l
  blk : W.heap[X]? = some (idxO o.x o.y o.z (some ⟨g, 0, none⟩) n c true)
  below : Below w.heap.size w W
  xs : X < W.heap.size
  gs : g < W.heap.size
  xw : w.heap.size ≤ X
  gw : w.heap.size ≤ g
  ne : g ≠ X
theorem Mid.step {w W W' : World} {X g : Nat} {o : Ord} {n c : Nat} {l l' : List R3} (h : Mid w W X g o n c l) (hr : RowsIn W' g 0 l') (hg : W.grownBy W' (some g)) : Mid w W' X g o n c l' where
  rows := hr
  blk := (hg.block X h.xs (fun e => h.ne (Option.some.inj e).symm)).trans h.blk
  below := h.below.grown hg (Nat.le_trans h.xw (Nat.le_of_lt h.xs)) (by intro k hk; rw [Option.some.inj hk.symm]; exact h.gw)
  xs := Nat.lt_of_lt_of_le h.xs hg.size
  gs := Nat.lt_of_lt_of_le h.gs hg.size
  xw := h.xw
  gw := h.gw
  ne := h.ne

theorem midX {w w1 w2 : World} {g n cg : Nat} {l : List R3} {o : Ord} (hs : w.heap.size + 2 ≤ w1.heap.size) (hb1 : Below w.heap.size w w1) (hr2 : RowsIn w2 g 0 l) (hb2 : Below w1.drew.heap.size w1.drew w2) (hg1 : w1.drew.heap.size ≤ g) (hg2 : g < w2.heap.size) :
    Mid w (w2.alloc (idxO o.x o.y o.z (some ⟨g, 0, none⟩) n cg true)) w2.heap.size g o n cg l where
  rows := fun k i hk hi => ⟨(cell_alloc1 _ g hg2 _ _).trans (hr2 k i hk hi).1, (frozen_alloc1 _ g hg2 _ _).trans (hr2 k i hk hi).2⟩
  blk := by
    show (w2.heap.push _)[w2.heap.size]? = _
    rw [Array.getElem?_push, if_pos rfl]
  below := by
    have h1 : w.heap.size ≤ w1.drew.heap.size := by show w.heap.size ≤ w1.heap.size; omega
    have := (hb1.drew.trans (hb2.mono h1)).alloc (Nat.le_trans h1 hb2.size) (idxO o.x o.y o.z (some ⟨g, 0, none⟩) n cg true)
    exact this
  xs := by rw [size_alloc]; omega
  gs := by rw [size_alloc]; omega
  xw := by have := hb2.size; have : w1.drew.heap.size = w1.heap.size := rfl; omega
  gw := by have : w1.drew.heap.size = w1.heap.size := rfl; omega
  ne := by omega

theorem sortX {w : World} {X g n cg : Nat} {l : List R3} {o : Ord} (ho : Six o) (hn : l.length = n) (hsm : n * 24 ≤ 140737488355328) {W : World} (h : Mid w W X g o n cg l)
    (z0 : W.cell? ⟨w.heap.size, 0, none⟩ = some (.int .i64 o.x)) (z1 : W.cell? ⟨w.heap.size, 1, none⟩ = some (.int .i64 o.y)) (z2 : W.cell? ⟨w.heap.size, 2, none⟩ = some (.int .i64 o.z)) (hob : w.heap.size < W.heap.size) (hne : w.heap.size ≠ g) :
    Calls Tryz.prog 80 #[.slice (some ⟨g, 0, none⟩) n cg, .func (.func 81) #[] #[.pointer (some ⟨w.heap.size, 0, none⟩)]] W fun e w4 => e = .returned (.tuple #[]) ∧ w4.cell? ⟨X, 3, none⟩ = some (.slice (some ⟨g, 0, none⟩) n cg) ∧ Mid w w4 X g o n cg (srt o l) := by
  subst hn
  refine (sort_calls W g 0 cg w.heap.size l o ho h.rows h.gs (by omega) z0 z1 z2 hob hne).mono ?_
  rintro e w4 ⟨rfl, hr, hg⟩
  have hm := h.step hr hg
  exact ⟨rfl, (idx_cells hm.blk).2.2.2.1, hm⟩
theorem compX {w : World} {X g n cg : Nat} {l : List R3} {o : Ord} (hn : l.length = n) (hc : n ≤ cg) (hsm : n * 24 ≤ 140737488355328) {W : World} (h : Mid w W X g o n cg l) :
    Calls Tryz.prog 83 #[.slice (some ⟨g, 0, none⟩) n cg] W fun e w5 => e = .returned (.slice (some ⟨g, 0, none⟩) (Lib.compact l).length cg) ∧ w5.cell? ⟨X, 3, none⟩ = some (.slice (some ⟨g, 0, none⟩) n cg) ∧ w5.frozen? ⟨X, 3, none⟩ = false ∧ Mid w w5 X g o n cg (Lib.compact l) := by
  subst hn
  refine (compact_calls W g 0 cg l h.rows (by omega) hc).mono ?_
  rintro e w5 ⟨rfl, hr, hg⟩
  have hm := h.step hr hg
  exact ⟨rfl, (idx_cells hm.blk).2.2.2.1, by simp [World.frozen?, hm.blk, idxO], hm⟩

theorem compact_len (l : List R3) : (Lib.compact l).length ≤ l.length := by
  unfold Lib.compact Lib.compactUpTo
  rw [List.length_map]
  exact Nat.le_trans (List.length_filter_le _ _) (by simp)

/-- At the end: the index. -/
theorem endX {w W : World} {X g n cg : Nat} {l : List R3} {o : Ord} (ho : Six o) (hl : l.length ≤ n) (hc : n ≤ cg) (hsm : n * 24 ≤ 140737488355328) (h : Mid w W X g o n cg l) :
    Idx (W.setCell ⟨X, 3, none⟩ (.slice (some ⟨g, 0, none⟩) l.length cg)) X o l g 0 cg ∧ w.heap.size ≤ X ∧ X < (W.setCell ⟨X, 3, none⟩ (.slice (some ⟨g, 0, none⟩) l.length cg)).heap.size ∧ w.heap.size ≤ g ∧ g < (W.setCell ⟨X, 3, none⟩ (.slice (some ⟨g, 0, none⟩) l.length cg)).heap.size ∧
      Below w.heap.size w (W.setCell ⟨X, 3, none⟩ (.slice (some ⟨g, 0, none⟩) l.length cg)) := by
  have hsz := size_set W ⟨X, 3, none⟩ (.slice (some ⟨g, 0, none⟩) l.length cg)
  refine ⟨⟨⟨_, .inl rfl, (heap_set W X 3 _ _ _ h.blk).trans rfl⟩, ?_, ?_, ?_, ?_, by omega, by omega⟩, h.xw, by rw [hsz]; exact h.xs, h.gw, by rw [hsz]; exact h.gs, ?_⟩
  · rcases ho with ⟨e, _, _⟩ | ⟨e, _, _⟩ | ⟨e, _, _⟩ | ⟨e, _, _⟩ | ⟨e, _, _⟩ | ⟨e, _, _⟩ <;> omega
  · rcases ho with ⟨_, e, _⟩ | ⟨_, e, _⟩ | ⟨_, e, _⟩ | ⟨_, e, _⟩ | ⟨_, e, _⟩ | ⟨_, e, _⟩ <;> omega
  · rcases ho with ⟨_, _, e⟩ | ⟨_, _, e⟩ | ⟨_, _, e⟩ | ⟨_, _, e⟩ | ⟨_, _, e⟩ | ⟨_, _, e⟩ <;> omega
  · intro k i hk hi
    have hb := Below.heap_setCell W ⟨X, 3, none⟩ (.slice (some ⟨g, 0, none⟩) l.length cg) g h.ne
    have := (h.rows k i hk hi).1
    simp only [World.cell?, hb] at this ⊢
    exact this
  · exact h.below.grown (grown_set W X 3 _) (Nat.le_trans h.xw (Nat.le_of_lt h.xs)) (by intro k hk; rw [Option.some.inj hk.symm]; exact h.xw)

set_option maxHeartbeats 4000000 in
theorem new_yes (w : World) (b off n cp : Nat) (l : List R3) (hn : l.length = n) (hl : RowsAt w b off l) (hbs : b < w.heap.size) (hsm : n * 24 ≤ 140737488355328) (o : Ord) (ho : Six o) :
    Calls Tryz.prog 59 #[.slice (some ⟨b, off, none⟩) n cp, .agg #[.int .i64 o.x, .int .i64 o.y, .int .i64 o.z]] w fun e w' => ∃ X b' c', e = .returned (.tuple #[.pointer (some ⟨X, 0, none⟩), .int .i64 0]) ∧
      Idx w' X o (Lib.compact (srt o l)) b' 0 c' ∧ w.heap.size ≤ X ∧ X < w'.heap.size ∧ w.heap.size ≤ b' ∧ b' < w'.heap.size ∧ Below w.heap.size w w' := by
  have hs : s3 o.x o.y o.z = [0, 1, 2] := of_decide_eq_true (isOrd_of_six o ho)
  have hd : decide ((0 : Int) = 0 ∧ (1 : Int) = 1 ∧ (2 : Int) = 2) = true := by simp
  have EQ := fun (w : World) (a b c x y z : Int) => neq23 w a b c x y z
  have CS := Lib.hid (sortO w o.x o.y o.z 0 1 2 hs)
  have CC := Lib.hid (fun (W : World) (hW : Below w.heap.size w W) => clone_calls W b off n cp l hn (fun k i hk hi => (hW.cell (p := ⟨b, off + k * 3 + i, none⟩) hbs).trans (hl k i hk hi)) hsm)
  have HO := Lib.hid ho
  clear hs hl ho
  go_enter Tryz.func59, Tryz.ntmps59
  go_wp2_with (go_at_call 78; refine CS.out.mono ?_; rintro e w1 ⟨rfl, ⟨x0, x1, x2⟩, ⟨y0, y1, y2⟩, hb1, hs1⟩)
  clear x0 x1 x2
  go_region_with (go_at_call 79; refine (CC.out _ hb1.drew).mono ?_; rintro e w2 ⟨g, cg, rfl, hg1, hg2, hcg, hr2, hb2⟩; obtain ⟨z0, z1, z2⟩ := obKept hs1 y0 y1 y2 hb2; have HR2 := Lib.hid (And.intro hr2 (And.intro hb2 (And.intro hg1 hg2))); clear hr2 hb2 hg1 hg2)
  all_goals
    obtain ⟨hr2, hb2, hg1, hg2⟩ := HR2.out
    have hd1 : w1.drew.heap.size = w1.heap.size := rfl
    have hsz := size_alloc w2 (.cells #[.int .i64 o.x, .int .i64 o.y, .int .i64 o.z, .slice (some ⟨g, 0, none⟩) n cg, .bool true] 110)
    have k3 := fun i => cell_alloc1 w2 w.heap.size (by omega) i (.cells #[.int .i64 o.x, .int .i64 o.y, .int .i64 o.z, .slice (some ⟨g, 0, none⟩) n cg, .bool true] 110)
    have m3 : Mid w (w2.alloc (.cells #[.int .i64 o.x, .int .i64 o.y, .int .i64 o.z, .slice (some ⟨g, 0, none⟩) n cg, .bool true] 110)) w2.heap.size g o n cg l := midX hs1 hb1 hr2 hb2 hg1 hg2
    generalize w2.alloc (.cells #[.int .i64 o.x, .int .i64 o.y, .int .i64 o.z, .slice (some ⟨g, 0, none⟩) n cg, .bool true] 110) = W3 at *
    have SX := Lib.hid (sortX HO.out hn hsm m3 ((k3 0).trans z0) ((k3 1).trans z1) ((k3 2).trans z2) (by omega) (by omega))
    have CX := Lib.hid (fun (W : World) (h : Mid w W w2.heap.size g o n cg (srt o l)) => compX (by rw [srt_length]; exact hn) hcg hsm h)
    have c3 := (idx_cells m3.blk).2.2.2.1
    clear k3 z0 z1 z2 y0 y1 y2 m3
    go_wp2_with (first | (go_at_call 80; refine SX.out.mono ?_; rintro e w4 ⟨rfl, c4, m4⟩; have M4 := Lib.hid m4; clear m4) | (go_at_call 83; refine (CX.out _ M4.out).mono ?_; rintro e w5 ⟨rfl, c5, f5, m5⟩; have M5 := Lib.hid m5; clear m5))
    go_ret2
    exact ⟨_, _, _, rfl, endX HO.out (by have := compact_len (srt o l); rw [srt_length] at this; omega) hcg hsm M5.out⟩
end Go.Proofs.YtcnffgcegimelaaGreat.Pw
end
section
/-
  The making of an index out of any slice of rows, and its rows again. Conditions: the rows' cells lie as told.
-/
namespace Go.Proofs.YtcnffgcegimelaaGreat.Pw
open Go.RowKit Go.Proofs.YtcnffgcegimelaaGreatW.PrintWords Go.Proofs.YtcnffgcegimelaaGreat.Pm

/-- A slice of rows. -/
def SlR (w : World) (v : Value) (l : List R3) : Prop := ∃ A c, v = .slice A l.length c ∧ l.length ≤ c ∧ ((A = none ∧ l = []) ∨ ∃ b off, A = some ⟨b, off, none⟩ ∧ b < w.heap.size ∧ RowsAt w b off l)
theorem RowsAt.below {w w' : World} {b off : Nat} {l : List R3} (h : RowsAt w b off l) (hb : Below w.heap.size w w') (hs : b < w.heap.size) : RowsAt w' b off l :=
  fun k i hk hi => (hb.cell (p := ⟨b, off + k * 3 + i, none⟩) hs).trans (h k i hk hi)
theorem SlR.below {w w' : World} {v : Value} {l : List R3} (h : SlR w v l) (hb : Below w.heap.size w w') : SlR w' v l := by
  obtain ⟨A, c, hv, hc, h | ⟨b, off, hA, hs, hr⟩⟩ := h
  · exact ⟨A, c, hv, hc, .inl h⟩
  · exact ⟨A, c, hv, hc, .inr ⟨b, off, hA, Nat.lt_of_lt_of_le hs hb.size, hr.below hb hs⟩⟩
/-- A slice of rows apart from a block, behind stores into it. -/
theorem SlR.grown {w w' : World} {v : Value} {l : List R3} (h : SlR w v l) {g : Nat} (hb : w.grownBy w' (some g)) (hne : ∀ b off c, v = .slice (some ⟨b, off, none⟩) l.length c → b ≠ g) : SlR w' v l := by
  obtain ⟨A, c, hv, hc, h | ⟨b, off, hA, hs, hr⟩⟩ := h
  · exact ⟨A, c, hv, hc, .inl h⟩
  · refine ⟨A, c, hv, hc, .inr ⟨b, off, hA, Nat.lt_of_lt_of_le hs hb.size, fun k i hk hi => ?_⟩⟩
    have e : w'.heap[b]? = w.heap[b]? := hb.block b hs (fun e => hne b off c (by rw [hv, hA]) (Option.some.inj e))
    have := hr k i hk hi
    simp only [World.cell?, e] at this ⊢
    exact this

theorem compact_nil (w : World) (c : Nat) : Calls Tryz.prog 83 #[.slice none 0 c] w fun e w' => e = .returned (.slice none 0 c) ∧ w' = w := by
  go_enter Tryz.func83, Tryz.ntmps83
  go_wp2
  go_ret
  exact ⟨rfl, rfl⟩

theorem srt_nil (o : Ord) : Lib.compact (srt o []) = [] := by
  have : srt o [] = [] := by unfold srt; simp
  rw [this]
  rfl

set_option maxHeartbeats 4000000 in
theorem new_nil (w : World) (cp : Nat) (o : Ord) (ho : Six o) :
    Calls Tryz.prog 59 #[.slice none 0 cp, .agg #[.int .i64 o.x, .int .i64 o.y, .int .i64 o.z]] w fun e w' => ∃ X b' c', e = .returned (.tuple #[.pointer (some ⟨X, 0, none⟩), .int .i64 0]) ∧
      Idx w' X o (Lib.compact (srt o [])) b' 0 c' ∧ w.heap.size ≤ X ∧ X < w'.heap.size ∧ w.heap.size ≤ b' ∧ b' < w'.heap.size ∧ Below w.heap.size w w' := by
  have hs : s3 o.x o.y o.z = [0, 1, 2] := of_decide_eq_true (isOrd_of_six o ho)
  have hd : decide ((0 : Int) = 0 ∧ (1 : Int) = 1 ∧ (2 : Int) = 2) = true := by simp
  have EQ := fun (w : World) (a b c x y z : Int) => neq23 w a b c x y z
  have CS := Lib.hid (sortO w o.x o.y o.z 0 1 2 hs)
  have HO := Lib.hid ho
  clear hs ho
  go_enter Tryz.func59, Tryz.ntmps59
  go_wp2_with (go_at_call 78; refine CS.out.mono ?_; rintro e w1 ⟨rfl, ⟨x0, x1, x2⟩, ⟨y0, y1, y2⟩, hb1, hs1⟩)
  clear x0 x1 x2
  go_region_with (go_at_call 79; refine (Tryz.slices_Clone_nil 0 cp _).mono ?_; rintro e w2 ⟨rfl, hw2⟩; have hz := obKept hs1 y0 y1 y2 (show Below w1.drew.heap.size w1.drew w2 by rw [hw2]; exact Below.refl _ _); obtain ⟨z0, z1, z2⟩ := hz; have hb2 : Hid (Below w.heap.size w w2) := Lib.hid (by rw [hw2]; exact hb1.drew); have hs2 : Hid (w.heap.size + 2 ≤ w2.heap.size) := Lib.hid (by rw [hw2]; exact hs1); clear hw2)
  all_goals
    have hb2' := hb2.out
    have hs2' := hs2.out
    have hm : (w2.alloc (.cells #[.int .i64 o.x, .int .i64 o.y, .int .i64 o.z, .slice none 0 0, .bool true] 110)).heap[w2.heap.size]? = some (idxO o.x o.y o.z none 0 0 true) := by
      show (w2.heap.push _)[w2.heap.size]? = _
      rw [Array.getElem?_push, if_pos rfl]; rfl
    have f3 : (w2.alloc (.cells #[.int .i64 o.x, .int .i64 o.y, .int .i64 o.z, .slice none 0 0, .bool true] 110)).frozen? ⟨w2.heap.size, 3, none⟩ = false := frozen_new1 _ _ _ _
    have hsz := size_alloc w2 (.cells #[.int .i64 o.x, .int .i64 o.y, .int .i64 o.z, .slice none 0 0, .bool true] 110)
    have hbA := hb2'.alloc (by omega) (.cells #[.int .i64 o.x, .int .i64 o.y, .int .i64 o.z, .slice none 0 0, .bool true] 110)
    generalize w2.alloc (.cells #[.int .i64 o.x, .int .i64 o.y, .int .i64 o.z, .slice none 0 0, .bool true] 110) = W3 at *
    have c3 := (idx_cells hm).2.2.2.1
    have HM := Lib.hid (And.intro hm (And.intro hbA hsz))
    clear hm hbA hsz hb2' hs2' z0 z1 z2 y0 y1 y2
    go_wp2_with (first | (go_at_call 80; refine (AnyF.slices_SortFunc_none Tryz.laysSlF06_f31 none 0 _ _).mono ?_; rintro e w4 ⟨rfl, rfl⟩) | (go_at_call 83; refine (compact_nil _ 0).mono ?_; rintro e w5 ⟨rfl, rfl⟩))
    go_ret2
    obtain ⟨hm, hbA, hsz⟩ := HM.out
    have hs2 := hs2.out
    have hst := size_set w5 ⟨w2.heap.size, 3, none⟩ (.slice none 0 0)
    rw [srt_nil]
    have ho := HO.out
    refine ⟨w2.heap.size, w2.heap.size, 0, rfl, ⟨⟨none, .inr ⟨rfl, rfl⟩, (heap_set w5 _ 3 _ _ _ hm).trans rfl⟩, ?_, ?_, ?_, ?_, by simp, by simp⟩, by omega, by omega, by omega, by omega, ?_⟩
    · rcases ho with ⟨e, _, _⟩ | ⟨e, _, _⟩ | ⟨e, _, _⟩ | ⟨e, _, _⟩ | ⟨e, _, _⟩ | ⟨e, _, _⟩ <;> omega
    · rcases ho with ⟨_, e, _⟩ | ⟨_, e, _⟩ | ⟨_, e, _⟩ | ⟨_, e, _⟩ | ⟨_, e, _⟩ | ⟨_, e, _⟩ <;> omega
    · rcases ho with ⟨_, _, e⟩ | ⟨_, _, e⟩ | ⟨_, _, e⟩ | ⟨_, _, e⟩ | ⟨_, _, e⟩ | ⟨_, _, e⟩ <;> omega
    · intro k i hk hi
      simp at hk
    · exact hbA.grown (grown_set w5 w2.heap.size 3 _) (by omega) (by intro k hk; rw [Option.some.inj hk.symm]; omega)

/-- **The making of an index, out of any slice of rows, by an order.** -/
theorem new_ok (w : World) (v : Value) (l : List R3) (hv : SlR w v l) (hsm : l.length * 24 ≤ 140737488355328) (o : Ord) (ho : Six o) :
    Calls Tryz.prog 59 #[v, .agg #[.int .i64 o.x, .int .i64 o.y, .int .i64 o.z]] w fun e w' => ∃ X b' c', e = .returned (.tuple #[.pointer (some ⟨X, 0, none⟩), .int .i64 0]) ∧
      Idx w' X o (Lib.compact (srt o l)) b' 0 c' ∧ w.heap.size ≤ X ∧ X < w'.heap.size ∧ w.heap.size ≤ b' ∧ b' < w'.heap.size ∧ Below w.heap.size w w' := by
  obtain ⟨A, c, rfl, hc, ⟨rfl, rfl⟩ | ⟨b, off, rfl, hb, hr⟩⟩ := hv
  · exact new_nil w c o ho
  · exact new_yes w b off _ c l rfl hr hb hsm o ho

end Go.Proofs.YtcnffgcegimelaaGreat.Pw
end
section
/-
  A walk's calls, told by its state: each call leaves the state that the plain function tells. Conditions: rows that rise strictly; the blocks lie as told.
-/
namespace Go.Proofs.YtcnffgcegimelaaGreat.Pw
open Go.RowKit Go.Proofs.YtcnffgcegimelaaGreatW.PrintWords Go.Proofs.YtcnffgcegimelaaGreat.Pm

/-- An index in memory, made since a world. -/
structure Ix (w0 w : World) (X b off c : Nat) (o : Ord) (L : List R3) : Prop where
  idx : Idx w X o L b off c
  rise : L.Pairwise (ltR o)
  below : Below w0.heap.size w w
  xs : X < w.heap.size
  bs : b < w.heap.size
  xw : w0.heap.size ≤ X
  bw : w0.heap.size ≤ b

/-- A walk in memory. -/
structure Wk (w : World) (g X b off c : Nat) (o : Ord) (L : List R3) (s : St) : Prop where
  idx : Idx w X o L b off c
  rise : L.Pairwise (ltR o)
  blk : w.heap[g]? = some (wkS X s)
  ok : Ok L o s
  xs : X < w.heap.size
  bs : b < w.heap.size
  gX : g ≠ X
  gb : g ≠ b
theorem Wk.gs {w : World} {g X b off c : Nat} {o : Ord} {L : List R3} {s : St} (h : Wk w g X b off c o L s) : g < w.heap.size := (Array.getElem?_eq_some_iff.1 h.blk).1

/-- An index behind what changed another block. -/
theorem idx_grown {w w' : World} {X b off c g : Nat} {o : Ord} {L : List R3} (h : Idx w X o L b off c) (hg : w.grownBy w' (some g)) (hX : X < w.heap.size) (hb : b < w.heap.size) (hXg : X ≠ g) (hbg : b ≠ g) : Idx w' X o L b off c := by
  have e1 : w'.heap[X]? = w.heap[X]? := hg.block X hX (fun e => hXg (Option.some.inj e))
  have e2 : w'.heap[b]? = w.heap[b]? := hg.block b hb (fun e => hbg (Option.some.inj e))
  refine ⟨h.blk.imp fun _ ⟨h1, h2⟩ => ⟨h1, e1.trans h2⟩, h.ox, h.oy, h.oz, fun k i hk hi => ?_, h.lenc, h.small⟩
  have := h.cell k i hk hi
  simp only [World.cell?, e2] at this ⊢
  exact this

theorem Wk.step {w w' : World} {g X b off c : Nat} {o : Ord} {L : List R3} {s s' : St} (h : Wk w g X b off c o L s) (hb : w'.heap[g]? = some (wkS X s')) (hg : w.grownBy w' (some g)) (ho : Ok L o s') : Wk w' g X b off c o L s' :=
  ⟨idx_grown h.idx hg h.xs h.bs (fun e => h.gX e.symm) (fun e => h.gb e.symm), h.rise, hb, ho, Nat.lt_of_lt_of_le h.xs hg.size, Nat.lt_of_lt_of_le h.bs hg.size, h.gX, h.gb⟩
/-- A walk, behind what changed another block. -/
theorem Wk.other {w w' : World} {g X b off c g' : Nat} {o : Ord} {L : List R3} {s : St} (h : Wk w g X b off c o L s) (hg : w.grownBy w' (some g')) (h1 : g ≠ g') (h2 : X ≠ g') (h3 : b ≠ g') : Wk w' g X b off c o L s :=
  ⟨idx_grown h.idx hg h.xs h.bs h2 h3, h.rise, (hg.block g h.gs (fun e => h1 (Option.some.inj e))).trans h.blk, h.ok, Nat.lt_of_lt_of_le h.xs hg.size, Nat.lt_of_lt_of_le h.bs hg.size, h.gX, h.gb⟩
/-- A walk, behind what made memory alone. -/
theorem Wk.below {w w' : World} {g X b off c : Nat} {o : Ord} {L : List R3} {s : St} (h : Wk w g X b off c o L s) (hb : Below w.heap.size w w') : Wk w' g X b off c o L s :=
  ⟨h.idx.below hb h.xs h.bs, h.rise, (hb.block g h.gs).trans h.blk, h.ok, Nat.lt_of_lt_of_le h.xs hb.size, Nat.lt_of_lt_of_le h.bs hb.size, h.gX, h.gb⟩
theorem Wk.grown {w w' : World} {g : Nat} (h : Below w.heap.size w w') : w.grownBy w' (some g) := ⟨h.os, h.tape, h.output, h.size, fun i hi _ => h.block i hi⟩

theorem stand_iff (s : St) : stand s = true ↔ 0 < s.d ∧ s.f s.d < s.t s.d := by unfold stand; exact decide_eq_true_iff
theorem stand_no {s : St} (h : stand s = false) : s.d = 0 ∨ s.t s.d ≤ s.f s.d := by unfold stand at h; have := of_decide_eq_false h; omega

theorem do_key {w : World} {g X b off c : Nat} {o : Ord} {L : List R3} {s : St} (h : Wk w g X b off c o L s) :
    Calls Tryz.prog 44 #[.pointer (some ⟨g, 0, none⟩)] w fun e w' => e = .returned (.tuple #[.int .i64 (opKey L o s).1, .bool (opKey L o s).2]) ∧ Drew w w' := by
  unfold opKey
  cases hs : stand s with
  | true =>
    have hs' := (stand_iff s).1 hs
    exact key_yes w g X s o L b off c h.blk h.idx ⟨hs'.1, h.ok.d3⟩ hs'.2 (h.ok.le s.d hs'.1 (Nat.le_refl _)).2
  | false => exact key_no w g X s h.blk h.ok.d3 (stand_no hs)
theorem do_next {w : World} {g X b off c : Nat} {o : Ord} {L : List R3} {s : St} (h : Wk w g X b off c o L s) :
    Calls Tryz.prog 69 #[.pointer (some ⟨g, 0, none⟩)] w fun e w' => e = .returned (.int .i64 (opNext L o s).2) ∧ Wk w' g X b off c o L (opNext L o s).1 ∧ w.grownBy w' (some g) := by
  have hok := ok_next h.ok
  unfold opNext at *
  cases hs : stand s with
  | true =>
    rw [hs] at hok
    have hs' := (stand_iff s).1 hs
    have hle := h.ok.le s.d hs'.1 (Nat.le_refl _)
    refine (next_at w g X s o L b off c h.blk h.idx ⟨hs'.1, h.ok.d3⟩ hs'.2 hle.2 h.gs h.xs h.bs (hop L o s fun x => decide (nm L o s < x)) ⟨hop_ge _ _ _ _, hop_le _ _ _ _ hle.1⟩
      (fun k h1 h2 => ?_) (fun k h1 h2 => ?_)).mono ?_
    · have := of_decide_eq_false (hop_below L o s (fun x => decide (nm L o s < x)) k h1 h2)
      unfold nm at this; omega
    · exact of_decide_eq_true (hop_behind L o s (fun x => decide (nm L o s < x)) h.ok h.rise hs'.1 (fun x y hxy hx => decide_eq_true (by have := of_decide_eq_true hx; omega)) k h1 h2)
    · rintro e w' ⟨rfl, h1, h2⟩
      exact ⟨rfl, h.step h1 h2 hok, h2⟩
  | false =>
    refine (next_no w g X s h.blk h.gs h.ok.d3 (stand_no hs)).mono ?_
    rintro e w' ⟨rfl, hb⟩
    exact ⟨rfl, h.below hb, Wk.grown hb⟩
theorem do_seek {w : World} {g X b off c : Nat} {o : Ord} {L : List R3} {s : St} (h : Wk w g X b off c o L s) (n : Int) :
    Calls Tryz.prog 43 #[.pointer (some ⟨g, 0, none⟩), .int .i64 n] w fun e w' => e = .returned (.int .i64 (opSeek L o s n).2) ∧ Wk w' g X b off c o L (opSeek L o s n).1 ∧ w.grownBy w' (some g) := by
  have hok := ok_seek h.ok n
  unfold opSeek at *
  cases hs : stand s with
  | true =>
    rw [hs] at hok
    have hs' := (stand_iff s).1 hs
    have hle := h.ok.le s.d hs'.1 (Nat.le_refl _)
    refine (seek_at w g X s o L b off c n h.blk h.idx ⟨hs'.1, h.ok.d3⟩ hs'.2 hle.2 h.gs h.xs h.bs (hop L o s fun x => decide (n ≤ x)) ⟨hop_ge _ _ _ _, hop_le _ _ _ _ hle.1⟩
      (fun k h1 h2 => ?_) (fun k h1 h2 => ?_)).mono ?_
    · have := of_decide_eq_false (hop_below L o s (fun x => decide (n ≤ x)) k h1 h2)
      omega
    · exact of_decide_eq_true (hop_behind L o s (fun x => decide (n ≤ x)) h.ok h.rise hs'.1 (fun x y hxy hx => decide_eq_true (by have := of_decide_eq_true hx; omega)) k h1 h2)
    · rintro e w' ⟨rfl, h1, h2⟩
      exact ⟨rfl, h.step h1 h2 hok, h2⟩
  | false =>
    refine (seek_no w g X s n h.blk h.gs h.ok.d3 (stand_no hs)).mono ?_
    rintro e w' ⟨rfl, hb⟩
    exact ⟨rfl, h.below hb, Wk.grown hb⟩
theorem do_up {w : World} {g X b off c : Nat} {o : Ord} {L : List R3} {s : St} (h : Wk w g X b off c o L s) :
    Calls Tryz.prog 70 #[.pointer (some ⟨g, 0, none⟩)] w fun e w' => e = .returned (.int .i64 (opUp s).2) ∧ Wk w' g X b off c o L (opUp s).1 ∧ w.grownBy w' (some g) := by
  have hok := ok_up h.ok
  unfold opUp at *
  by_cases hd : s.d = 0
  · rw [if_pos hd]
    refine (up_root w g X s hd h.blk).mono ?_
    rintro e w' ⟨rfl, rfl⟩
    exact ⟨rfl, h, Wk.grown (Below.refl _ _)⟩
  · rw [if_neg hd] at hok ⊢
    have := h.ok.d3
    refine (up_at w g X s (by omega) h.blk).mono ?_
    rintro e w' ⟨rfl, h1, h2⟩
    exact ⟨rfl, h.step h1 h2 hok, h2⟩
theorem do_open {w : World} {g X b off c : Nat} {o : Ord} {L : List R3} {s : St} (h : Wk w g X b off c o L s) :
    Calls Tryz.prog 42 #[.pointer (some ⟨g, 0, none⟩)] w fun e w' => e = .returned (.int .i64 (opOpen L o s).2) ∧ Wk w' g X b off c o L (opOpen L o s).1 ∧ w.grownBy w' (some g) := by
  have hok := ok_open h.ok h.rise
  have hd3 := h.ok.d3
  by_cases h1 : s.d = 3 ∨ (0 < s.d ∧ stand s = false)
  · have e : opOpen L o s = (s, 3) := by unfold opOpen; rw [if_pos (by rcases h1 with h1 | h1; exact .inl h1; exact .inr (.inl h1))]
    rw [e]
    refine (open_no w g X s h.blk hd3 ?_).mono ?_
    · rcases h1 with h1 | ⟨h1, h2⟩
      · exact .inl h1
      · have := stand_no h2; exact .inr ⟨h1, by omega⟩
    · rintro e w' ⟨rfl, hd⟩
      exact ⟨rfl, h.below hd.below, Wk.grown hd.below⟩
  · by_cases h2 : L.length = 0
    · have e : opOpen L o s = (s, 3) := by unfold opOpen; rw [if_pos (.inr (.inr h2))]
      rw [e]
      have hL : L = [] := List.eq_nil_of_length_eq_zero h2
      subst hL
      have hd : s.d = 0 := by
        by_cases hd : s.d = 0
        · exact hd
        · exfalso
          have hs : stand s = true := by
            cases e : stand s with
            | true => rfl
            | false => exact absurd (.inr ⟨by omega, e⟩) h1
          have hs' := (stand_iff s).1 hs
          have := (h.ok.le s.d hs'.1 (Nat.le_refl _)).2
          simp at this; omega
      refine (open_empty w g X s o b off c h.blk h.idx hd).mono ?_
      rintro e w' ⟨rfl, rfl⟩
      exact ⟨rfl, h, Wk.grown (Below.refl _ _)⟩
    · have hn : ¬ (s.d = 3 ∨ (0 < s.d ∧ stand s = false) ∨ L.length = 0) := by
        rintro (h | h | h)
        · exact h1 (.inl h)
        · exact h1 (.inr h)
        · exact h2 h
      by_cases hd : s.d = 0
      · have e : opOpen L o s = (⟨1, upd s.f 1 (s.f 0), upd s.t 1 (s.t 0)⟩, 0) := by unfold opOpen; rw [if_neg hn, if_pos hd]
        rw [e] at hok ⊢
        refine (open_root w g X s o L b off c h.blk h.idx hd (fun e => h2 (by rw [e]; rfl)) h.gs).mono ?_
        rintro e w' ⟨rfl, h3, h4⟩
        exact ⟨rfl, h.step h3 h4 hok, h4⟩
      · have hs : stand s = true := by
          cases e : stand s with
          | true => rfl
          | false => exact absurd (.inr ⟨by omega, e⟩) h1
        have hs' := (stand_iff s).1 hs
        have hle := h.ok.le s.d hs'.1 (Nat.le_refl _)
        have e : opOpen L o s = (⟨s.d + 1, upd s.f (s.d + 1) (s.f s.d), upd s.t (s.d + 1) (hop L o s fun x => decide (nm L o s < x))⟩, 0) := by unfold opOpen; rw [if_neg hn, if_neg hd]
        rw [e] at hok ⊢
        refine (open_at w g X s o L b off c h.blk h.idx (by have : s.d ≠ 3 := fun e => h1 (.inl e); omega) hs'.2 hle.2 h.gs h.xs h.bs (hop L o s fun x => decide (nm L o s < x)) ⟨hop_ge _ _ _ _, hop_le _ _ _ _ hle.1⟩
          (fun k h1 h2 => ?_) (fun k h1 h2 => ?_)).mono ?_
        · have := of_decide_eq_false (hop_below L o s (fun x => decide (nm L o s < x)) k h1 h2)
          unfold nm at this; omega
        · exact of_decide_eq_true (hop_behind L o s (fun x => decide (nm L o s < x)) h.ok h.rise hs'.1 (fun x y hxy hx => decide_eq_true (by have := of_decide_eq_true hx; omega)) k h1 h2)
        · rintro e w' ⟨rfl, h3, h4⟩
          exact ⟨rfl, h.step h3 h4 hok, h4⟩
end Go.Proofs.YtcnffgcegimelaaGreat.Pw
end
section
/-
  An index, and a walk, made since a world: the calls told by these. Conditions: the blocks lie as told.
-/
namespace Go.Proofs.YtcnffgcegimelaaGreat.Pw
open Go.RowKit Go.Proofs.YtcnffgcegimelaaGreatW.PrintWords Go.Proofs.YtcnffgcegimelaaGreat.Pm

/-- An index made since a world. -/
structure Mk (w0 w : World) (X b c : Nat) (o : Ord) (L : List R3) : Prop where
  idx : Idx w X o L b 0 c
  rise : L.Pairwise (ltR o)
  below : Below w0.heap.size w0 w
  xs : X < w.heap.size
  bs : b < w.heap.size
  xw : w0.heap.size ≤ X
  bw : w0.heap.size ≤ b
/-- A walk made since a world. -/
structure At (w0 w : World) (g X b c : Nat) (o : Ord) (L : List R3) (s : St) : Prop where
  wk : Wk w g X b 0 c o L s
  below : Below w0.heap.size w0 w
  gw : w0.heap.size ≤ g
  xw : w0.heap.size ≤ X
  bw : w0.heap.size ≤ b
theorem below_grown {w0 w w' : World} {g : Nat} (hb : Below w0.heap.size w0 w) (hg : w.grownBy w' (some g)) (h : w0.heap.size ≤ g) : Below w0.heap.size w0 w' :=
  hb.grown hg hb.size (by intro k hk; rw [Option.some.inj hk.symm]; exact h)
theorem At.step {w0 w w' : World} {g X b c : Nat} {o : Ord} {L : List R3} {s s' : St} (h : At w0 w g X b c o L s) (hk : Wk w' g X b 0 c o L s') (hg : w.grownBy w' (some g)) : At w0 w' g X b c o L s' :=
  ⟨hk, below_grown h.below hg h.gw, h.gw, h.xw, h.bw⟩
theorem At.other {w0 w w' : World} {g X b c g' : Nat} {o : Ord} {L : List R3} {s : St} (h : At w0 w g X b c o L s) (hg : w.grownBy w' (some g')) (hw : w0.heap.size ≤ g') (h1 : g ≠ g') (h2 : X ≠ g') (h3 : b ≠ g') : At w0 w' g X b c o L s :=
  ⟨h.wk.other hg h1 h2 h3, below_grown h.below hg hw, h.gw, h.xw, h.bw⟩
theorem below_tr {B : Nat} {a b c : World} (h : Below B a b) (k : Below b.heap.size b c) (hB : B ≤ b.heap.size) : Below B a c := h.trans (k.mono hB)
theorem At.more {w0 w w' : World} {g X b c : Nat} {o : Ord} {L : List R3} {s : St} (h : At w0 w g X b c o L s) (hb : Below w.heap.size w w') : At w0 w' g X b c o L s :=
  ⟨h.wk.below hb, below_tr h.below hb h.below.size, h.gw, h.xw, h.bw⟩
theorem Mk.more {w0 w w' : World} {X b c : Nat} {o : Ord} {L : List R3} (h : Mk w0 w X b c o L) (hb : Below w.heap.size w w') : Mk w0 w' X b c o L :=
  ⟨h.idx.below hb h.xs h.bs, h.rise, below_tr h.below hb h.below.size, Nat.lt_of_lt_of_le h.xs hb.size, Nat.lt_of_lt_of_le h.bs hb.size, h.xw, h.bw⟩

theorem at_key {w0 w : World} {g X b c : Nat} {o : Ord} {L : List R3} {s : St} (h : At w0 w g X b c o L s) :
    Calls Tryz.prog 44 #[.pointer (some ⟨g, 0, none⟩)] w fun e w' => e = .returned (.tuple #[.int .i64 (opKey L o s).1, .bool (opKey L o s).2]) ∧ At w0 w' g X b c o L s ∧ Below w.heap.size w w' :=
  (do_key h.wk).mono fun _ _ ⟨he, hd⟩ => ⟨he, h.more hd.below, hd.below⟩
theorem at_open {w0 w : World} {g X b c : Nat} {o : Ord} {L : List R3} {s : St} (h : At w0 w g X b c o L s) :
    Calls Tryz.prog 42 #[.pointer (some ⟨g, 0, none⟩)] w fun e w' => e = .returned (.int .i64 (opOpen L o s).2) ∧ At w0 w' g X b c o L (opOpen L o s).1 ∧ w.grownBy w' (some g) :=
  (do_open h.wk).mono fun _ _ ⟨he, hk, hg⟩ => ⟨he, h.step hk hg, hg⟩
theorem at_up {w0 w : World} {g X b c : Nat} {o : Ord} {L : List R3} {s : St} (h : At w0 w g X b c o L s) :
    Calls Tryz.prog 70 #[.pointer (some ⟨g, 0, none⟩)] w fun e w' => e = .returned (.int .i64 (opUp s).2) ∧ At w0 w' g X b c o L (opUp s).1 ∧ w.grownBy w' (some g) :=
  (do_up h.wk).mono fun _ _ ⟨he, hk, hg⟩ => ⟨he, h.step hk hg, hg⟩
theorem at_next {w0 w : World} {g X b c : Nat} {o : Ord} {L : List R3} {s : St} (h : At w0 w g X b c o L s) :
    Calls Tryz.prog 69 #[.pointer (some ⟨g, 0, none⟩)] w fun e w' => e = .returned (.int .i64 (opNext L o s).2) ∧ At w0 w' g X b c o L (opNext L o s).1 ∧ w.grownBy w' (some g) :=
  (do_next h.wk).mono fun _ _ ⟨he, hk, hg⟩ => ⟨he, h.step hk hg, hg⟩
theorem at_seek {w0 w : World} {g X b c : Nat} {o : Ord} {L : List R3} {s : St} (h : At w0 w g X b c o L s) (n : Int) :
    Calls Tryz.prog 43 #[.pointer (some ⟨g, 0, none⟩), .int .i64 n] w fun e w' => e = .returned (.int .i64 (opSeek L o s n).2) ∧ At w0 w' g X b c o L (opSeek L o s n).1 ∧ w.grownBy w' (some g) :=
  (do_seek h.wk n).mono fun _ _ ⟨he, hk, hg⟩ => ⟨he, h.step hk hg, hg⟩
theorem mk_walk {w0 w : World} {X b c : Nat} {o : Ord} {L : List R3} (h : Mk w0 w X b c o L) :
    Calls Tryz.prog 40 #[.pointer (some ⟨X, 0, none⟩)] w fun e w' => ∃ g, e = .returned (.pointer (some ⟨g, 0, none⟩)) ∧ At w0 w' g X b c o L (root L.length) ∧ Below w.heap.size w w' ∧ w.heap.size ≤ g := by
  refine (walk_at w X o L b 0 c h.idx h.xs).mono ?_
  rintro e w' ⟨rfl, h1, h2, h3⟩
  have hm := h.more h2
  have := h.xs
  have := h.bs
  exact ⟨_, rfl, ⟨⟨hm.idx, h.rise, h1, ok_root L o, hm.xs, hm.bs, by omega, by omega⟩, hm.below, h.below.size, h.xw, h.bw⟩, h2, Nat.le_refl _⟩
/-- **The making of an index, told by its rows.** -/
theorem mk_new (w0 w : World) (hw : Below w0.heap.size w0 w) (v : Value) (l : List R3) (hv : SlR w v l) (hsm : l.length * 24 ≤ 140737488355328) (o : Ord) (ho : Six o) :
    Calls Tryz.prog 59 #[v, .agg #[.int .i64 o.x, .int .i64 o.y, .int .i64 o.z]] w fun e w' => ∃ X b c, e = .returned (.tuple #[.pointer (some ⟨X, 0, none⟩), .int .i64 0]) ∧ Mk w0 w' X b c o (rowsOf o l) ∧ Below w.heap.size w w' ∧ w.heap.size ≤ X ∧ w.heap.size ≤ b := by
  refine (new_ok w v l hv hsm o ho).mono ?_
  rintro e w' ⟨X, b, c, rfl, h1, h2, h3, h4, h5, h6⟩
  have := hw.size
  exact ⟨X, b, c, rfl, ⟨h1, rowsOf_strict o ho l, below_tr hw h6 hw.size, h3, h5, by omega, by omega⟩, h6, h2, h4⟩

end Go.Proofs.YtcnffgcegimelaaGreat.Pw
end
