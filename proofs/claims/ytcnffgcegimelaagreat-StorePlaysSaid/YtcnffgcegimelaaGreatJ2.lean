/-
  Joined by wip/tools/merge.py from the texts Pw5 Pw6 Pw7 Pw8 Pw9. Conditions: as each says.
-/
import Derived.Test.YtcnffgcegimelaaGreatJ1
section
/-
  Walks of an index go on: on, Next, Seek. Conditions: the blocks lie as told; what is asked does not fall along the level.
-/
namespace Go.Proofs.YtcnffgcegimelaaGreat.Pw
open Go.RowKit Go.Proofs.YtcnffgcegimelaaGreatW.PrintWords Go.Proofs.YtcnffgcegimelaaGreat.Pm

theorem grown_below {w w1 w2 : World} {row : Option Nat} (h : Below w.heap.size w w1) (hg : w1.grownBy w2 row) : w.grownBy w2 row :=
  ⟨hg.os.trans h.os, hg.tape.trans h.tape, hg.output.trans h.output, Nat.le_trans h.size hg.size, fun k hk hne => (hg.block k (Nat.lt_of_lt_of_le hk h.size) hne).trans (h.block k hk)⟩
/-- A place of a function, set. -/
def upd (f : Nat → Nat) (i v : Nat) : Nat → Nat := fun k => if k = i then v else f k

set_option maxHeartbeats 4000000 in
theorem on_at (w : World) (g X : Nat) (s : St) (o : Ord) (rows : List R3) (b off c : Nat) (h : w.heap[g]? = some (wkS X s)) (hX : Idx w X o rows b off c) (hd : 0 < s.d ∧ s.d ≤ 3) (hft : s.f s.d < s.t s.d) (ht : s.t s.d ≤ rows.length)
    (hg : g < w.heap.size) (hXs : X < w.heap.size) (hbs : b < w.heap.size)
    (gi : Nat) (cb : Array Value) (eg : ∀ args w, (callFunc gi args).run Tryz.prog w = .ok (.enter gi args) w) (p : Int → Bool)
    (hp : ∀ (W : World) (x : Int), Below w.heap.size w W → Calls Tryz.prog gi (#[.int .i64 x] ++ cb) W fun e w' => e = .returned (.bool (p x)) ∧ W = w')
    (r : Nat) (hr : s.f s.d ≤ r ∧ r ≤ s.t s.d) (h1 : ∀ k, s.f s.d ≤ k → k < r → p (num rows o s.d k) = false) (h2 : ∀ k, r ≤ k → k < s.t s.d → p (num rows o s.d k) = true) :
    Calls Tryz.prog 66 #[.pointer (some ⟨g, 0, none⟩), .func (.func gi) #[] cb] w fun e w' => e = .returned (.int .i64 0) ∧ w'.heap[g]? = some (wkS X { s with f := upd s.f s.d r }) ∧ w.grownBy w' (some g) := by
  obtain ⟨z0, z1, z2, z3, z4, z5, z6, z7, z8, z9⟩ := wk_cells h
  have fz : ∀ i, w.frozen? ⟨g, i, none⟩ = false := fun i => by simp [World.frozen?, h, wkS, wkO]
  have CS := fun W (hW : W.heap[g]? = some (wkS X s)) => stands_yes W g X s hW hd hft
  have CF := fun n : Nat => first_at (w.drewN n) g X s o rows b off c h (hX.drewN n) hd (Nat.le_of_lt hft) ht hg hXs hbs gi cb eg p (fun W x hb => hp W x ⟨hb.os, hb.tape, hb.output, hb.size, hb.block⟩) r hr h1 h2
  have HS := Lib.hid CS
  have HF := Lib.hid CF
  have H := Lib.hid h
  clear h hX hp h1 h2 hr hft ht CS CF
  obtain ⟨d, f, t⟩ := s
  simp only at hd z1 z2 z3 z4 z5 z6 z7 z8 z9 HF
  have hd' := hd
  obtain rfl | rfl | rfl : d = 1 ∨ d = 2 ∨ d = 3 := by omega
  all_goals
    clear hd hd'
    go_enter Tryz.func66, Tryz.ntmps66
    go_wp2_with (first | (go_at_call 61; refine (given_at _ g _ z0).mono ?_; rintro e w' ⟨rfl, rfl⟩) | (go_at_call 62; refine (HS.out _ H.out).mono ?_; rintro e w' ⟨rfl, n, rfl⟩))
    go_region_with (go_at_call 64; refine (HF.out _).mono ?_; rintro e w1 ⟨rfl, hb⟩; have qc : ∀ i, w1.cell? ⟨g, i, none⟩ = w.cell? ⟨g, i, none⟩ := fun i => hb.cell (p := ⟨g, i, none⟩) hg; have qf : ∀ i, w1.frozen? ⟨g, i, none⟩ = w.frozen? ⟨g, i, none⟩ := fun i => hb.frozen (p := ⟨g, i, none⟩) hg)
    all_goals
      go_wp2
      go_ret
      refine ⟨rfl, (heap_set _ g _ _ _ _ ((hb.block g hg).trans H.out)).trans rfl, grown_below ⟨hb.os, hb.tape, hb.output, hb.size, hb.block⟩ (grown_set _ _ _ _)⟩

end Go.Proofs.YtcnffgcegimelaaGreat.Pw
end
section
/-
  Walks of an index: Next and Seek. Conditions: the blocks lie as told; the numbers of the level rise.
-/
namespace Go.Proofs.YtcnffgcegimelaaGreat.Pw
open Go.RowKit Go.Proofs.YtcnffgcegimelaaGreatW.PrintWords Go.Proofs.YtcnffgcegimelaaGreat.Pm

theorem on_none (w : World) (v : Value) : Calls Tryz.prog 66 #[.pointer none, v] w fun e w' => e = .returned (.int .i64 1) ∧ w = w' := by
  go_enter Tryz.func66, Tryz.ntmps66
  go_wp2_with (go_at_call 61; refine (given_nil _).mono ?_; rintro e w' ⟨rfl, rfl⟩)
  go_ret
  exact ⟨rfl, rfl⟩
theorem on_zero (w : World) (g : Nat) (h : w.cell? ⟨g, 0, none⟩ = some (.pointer none)) (v : Value) : Calls Tryz.prog 66 #[.pointer (some ⟨g, 0, none⟩), v] w fun e w' => e = .returned (.int .i64 1) ∧ w = w' := by
  go_enter Tryz.func66, Tryz.ntmps66
  go_wp2_with (go_at_call 61; refine (given_at _ g none h).mono ?_; rintro e w' ⟨rfl, rfl⟩)
  go_ret
  exact ⟨rfl, rfl⟩
theorem on_no (w : World) (g X : Nat) (s : St) (h : w.heap[g]? = some (wkS X s)) (hd : s.d ≤ 3) (hf : s.d = 0 ∨ s.t s.d ≤ s.f s.d) (v : Value) :
    Calls Tryz.prog 66 #[.pointer (some ⟨g, 0, none⟩), v] w fun e w' => e = .returned (.int .i64 3) ∧ ∃ n, w' = w.drewN n := by
  obtain ⟨z0, _⟩ := wk_cells h
  have C := fun W (hW : W.heap[g]? = some (wkS X s)) => stands_no W g X s hW hd hf
  have H := Lib.hid h
  clear h hd hf
  go_enter Tryz.func66, Tryz.ntmps66
  go_wp2_with (first | (go_at_call 61; refine (given_at _ g _ z0).mono ?_; rintro e w' ⟨rfl, rfl⟩) | (go_at_call 62; refine (C _ H.out).mono ?_; rintro e w' ⟨rfl, n, rfl⟩))
  go_ret
  exact ⟨rfl, _, rfl⟩

theorem below_alloc_drew (w : World) (n : Nat) (o : Obj) (m : Nat) : Below w.heap.size w (((w.alloc o).drewN m).drewN n) := by
  have hb := (Below.refl w.heap.size w).alloc (Nat.le_refl _) o
  exact ⟨hb.os, hb.tape, hb.output, hb.size, hb.block⟩
theorem below_a (w : World) (o : Obj) : Below w.heap.size w (w.alloc o) := (Below.refl w.heap.size w).alloc (Nat.le_refl _) o
theorem below_d (w : World) (n : Nat) (o : Obj) : Below w.heap.size w ((w.alloc o).drewN n) := by
  have hb := below_a w o
  exact ⟨hb.os, hb.tape, hb.output, hb.size, hb.block⟩
/-- Some draws on. -/
def Drew (w w' : World) : Prop := ∃ n, w' = w.drewN n
theorem Drew.block {w w' : World} (h : Drew w w') (k : Nat) : w'.heap[k]? = w.heap[k]? := by
  obtain ⟨n, rfl⟩ := h
  rfl
theorem Drew.size {w w' : World} (h : Drew w w') : w'.heap.size = w.heap.size := by
  obtain ⟨n, rfl⟩ := h
  rfl
theorem Drew.below {w w' : World} (h : Drew w w') : Below w.heap.size w w' := by
  obtain ⟨n, rfl⟩ := h
  exact ⟨rfl, rfl, rfl, Nat.le_refl _, fun _ _ => rfl⟩
theorem Drew.below_alloc {w w' : World} (h : Drew w w') (o : Obj) : Below w.heap.size w (w'.alloc o) := h.below.alloc (by rw [h.size]; exact Nat.le_refl _) o

theorem below_drewN' {B : Nat} {w W : World} (h : Below B w W) (n : Nat) : Below B w (W.drewN n) := ⟨h.os, h.tape, h.output, h.size, h.block⟩

theorem next_none (w : World) : Calls Tryz.prog 69 #[.pointer none] w fun e w' => e = .returned (.int .i64 1) ∧ Below w.heap.size w w' := by
  have hB := Lib.hid (below_a w)
  go_enter Tryz.func69, Tryz.ntmps69
  go_wp2_with (first | (go_at_call 44; refine (key_none _).mono ?_; rintro e w' ⟨rfl, rfl⟩) | (go_at_call 66; refine (on_none _ _).mono ?_; rintro e w' ⟨rfl, rfl⟩))
  go_ret
  exact ⟨rfl, hB.out _⟩
theorem next_zero (w : World) (g : Nat) (h : w.cell? ⟨g, 0, none⟩ = some (.pointer none)) : Calls Tryz.prog 69 #[.pointer (some ⟨g, 0, none⟩)] w fun e w' => e = .returned (.int .i64 1) ∧ Below w.heap.size w w' := by
  have hB := Lib.hid (below_a w)
  have hg := World.block_lt_of_cell? _ _ h
  have C : ∀ o v, Calls Tryz.prog 66 #[.pointer (some ⟨g, 0, none⟩), v] (w.alloc o) fun e w' => e = .returned (.int .i64 1) ∧ w.alloc o = w' := fun o v => on_zero _ g ((cell_alloc1 w g hg 0 o).trans h) v
  have HC := Lib.hid C
  clear C hg
  go_enter Tryz.func69, Tryz.ntmps69
  go_wp2_with (first | (go_at_call 44; refine (key_zero _ g h).mono ?_; rintro e w' ⟨rfl, rfl⟩) | (go_at_call 66; refine (HC.out _ _).mono ?_; rintro e w' ⟨rfl, rfl⟩))
  go_ret
  exact ⟨rfl, hB.out _⟩
theorem next_no (w : World) (g X : Nat) (s : St) (h : w.heap[g]? = some (wkS X s)) (hg : g < w.heap.size) (hd : s.d ≤ 3) (hf : s.d = 0 ∨ s.t s.d ≤ s.f s.d) :
    Calls Tryz.prog 69 #[.pointer (some ⟨g, 0, none⟩)] w fun e w' => e = .returned (.int .i64 3) ∧ Below w.heap.size w w' := by
  have C : ∀ w1, Drew w w1 → ∀ o v, Calls Tryz.prog 66 #[.pointer (some ⟨g, 0, none⟩), v] (w1.alloc o) fun e w' => e = .returned (.int .i64 3) ∧ ∃ m, w' = (w1.alloc o).drewN m := fun w1 h1 o v => on_no _ g X s (((h1.below_alloc o).block g hg).trans h) hd hf v
  have K : Calls Tryz.prog 44 #[.pointer (some ⟨g, 0, none⟩)] w fun e w' => e = .returned (.tuple #[.int .i64 0, .bool false]) ∧ Drew w w' := key_no w g X s h hd hf
  have HC := Lib.hid C
  have HK := Lib.hid K
  clear C K h hd hf
  go_enter Tryz.func69, Tryz.ntmps69
  go_wp2_with (first | (go_at_call 44; refine HK.out.mono ?_; rintro e w1 ⟨rfl, hd1⟩) | (go_at_call 66; refine (HC.out _ hd1 _ _).mono ?_; rintro e w' ⟨rfl, m, rfl⟩))
  go_ret
  exact ⟨rfl, below_drewN' (hd1.below_alloc _) _⟩
set_option maxHeartbeats 1000000 in
theorem next_at (w : World) (g X : Nat) (s : St) (o : Ord) (rows : List R3) (b off c : Nat) (h : w.heap[g]? = some (wkS X s)) (hX : Idx w X o rows b off c) (hd : 0 < s.d ∧ s.d ≤ 3) (hft : s.f s.d < s.t s.d) (ht : s.t s.d ≤ rows.length)
    (hg : g < w.heap.size) (hXs : X < w.heap.size) (hbs : b < w.heap.size)
    (r : Nat) (hr : s.f s.d ≤ r ∧ r ≤ s.t s.d) (h1 : ∀ k, s.f s.d ≤ k → k < r → num rows o s.d k ≤ num rows o s.d (s.f s.d)) (h2 : ∀ k, r ≤ k → k < s.t s.d → num rows o s.d (s.f s.d) < num rows o s.d k) :
    Calls Tryz.prog 69 #[.pointer (some ⟨g, 0, none⟩)] w fun e w' => e = .returned (.int .i64 0) ∧ w'.heap[g]? = some (wkS X { s with f := upd s.f s.d r }) ∧ w.grownBy w' (some g) := by
  have e44 : ∀ args w, (callFunc 86 args).run Tryz.prog w = .ok (.enter 86 args) w := enters_of Tryz.func86 (by kernel_rfl) rfl
  have K : Calls Tryz.prog 44 #[.pointer (some ⟨g, 0, none⟩)] w fun e w' => e = .returned (.tuple #[.int .i64 (num rows o s.d (s.f s.d)), .bool true]) ∧ Drew w w' := key_yes w g X s o rows b off c h hX hd hft ht
  have C : ∀ w1, Drew w w1 → Calls Tryz.prog 66 #[.pointer (some ⟨g, 0, none⟩), .func (.func 86) #[] #[.pointer (some ⟨w1.heap.size, 0, none⟩)]] (w1.alloc (.cells #[.int .i64 (num rows o s.d (s.f s.d))] 3))
      fun e w' => e = .returned (.int .i64 0) ∧ w'.heap[g]? = some (wkS X { s with f := upd s.f s.d r }) ∧ (w1.alloc (.cells #[.int .i64 (num rows o s.d (s.f s.d))] 3)).grownBy w' (some g) := by
    intro w1 hd1
    have hb := hd1.below_alloc (.cells #[.int .i64 (num rows o s.d (s.f s.d))] 3)
    have hsz := size_alloc w1 (.cells #[.int .i64 (num rows o s.d (s.f s.d))] 3)
    have hs1 := hd1.size
    have hc : (w1.alloc (.cells #[.int .i64 (num rows o s.d (s.f s.d))] 3)).cell? ⟨w1.heap.size, 0, none⟩ = some (.int .i64 (num rows o s.d (s.f s.d))) := cell_new1 w1 _ _ _
    refine on_at _ g X s o rows b off c ((hb.block g hg).trans h) (hX.below hb hXs hbs) hd hft ht (by omega) (by omega) (by omega) 86 _ e44 (fun x => decide (num rows o s.d (s.f s.d) < x)) (fun W x hW => ?_) r hr (fun k hk hkr => decide_eq_false (by have := h1 k hk hkr; omega)) (fun k hk hkr => decide_eq_true (h2 k hk hkr))
    exact gt44 W w1.heap.size x _ ((hW.cell (p := ⟨w1.heap.size, 0, none⟩) (by show w1.heap.size < _; omega)).trans hc)
  have HC := Lib.hid C
  have HK := Lib.hid K
  clear C K h hX hd hft ht hr h1 h2
  generalize num rows o s.d (s.f s.d) = v at HC HK
  go_enter Tryz.func69, Tryz.ntmps69
  go_wp2_with (first | (go_at_call 44; refine HK.out.mono ?_; rintro e w1 ⟨rfl, hd1⟩) | (go_at_call 66; refine (HC.out _ hd1).mono ?_; rintro e w' ⟨rfl, hw, hgr⟩))
  go_ret
  exact ⟨rfl, hw, grown_below (hd1.below_alloc _) hgr⟩

theorem seek_none (w : World) (n : Int) : Calls Tryz.prog 43 #[.pointer none, .int .i64 n] w fun e w' => e = .returned (.int .i64 1) ∧ Below w.heap.size w w' := by
  have hB := Lib.hid (below_a w)
  go_enter Tryz.func43, Tryz.ntmps43
  go_wp2_with (go_at_call 66; refine (on_none _ _).mono ?_; rintro e w' ⟨rfl, rfl⟩)
  go_ret
  exact ⟨rfl, hB.out _⟩
theorem seek_zero (w : World) (g : Nat) (n : Int) (h : w.cell? ⟨g, 0, none⟩ = some (.pointer none)) : Calls Tryz.prog 43 #[.pointer (some ⟨g, 0, none⟩), .int .i64 n] w fun e w' => e = .returned (.int .i64 1) ∧ Below w.heap.size w w' := by
  have hB := Lib.hid (below_a w)
  have hg := World.block_lt_of_cell? _ _ h
  have C : ∀ o v, Calls Tryz.prog 66 #[.pointer (some ⟨g, 0, none⟩), v] (w.alloc o) fun e w' => e = .returned (.int .i64 1) ∧ w.alloc o = w' := fun o v => on_zero _ g ((cell_alloc1 w g hg 0 o).trans h) v
  have HC := Lib.hid C
  clear C hg
  go_enter Tryz.func43, Tryz.ntmps43
  go_wp2_with (go_at_call 66; refine (HC.out _ _).mono ?_; rintro e w' ⟨rfl, rfl⟩)
  go_ret
  exact ⟨rfl, hB.out _⟩
theorem seek_no (w : World) (g X : Nat) (s : St) (n : Int) (h : w.heap[g]? = some (wkS X s)) (hg : g < w.heap.size) (hd : s.d ≤ 3) (hf : s.d = 0 ∨ s.t s.d ≤ s.f s.d) :
    Calls Tryz.prog 43 #[.pointer (some ⟨g, 0, none⟩), .int .i64 n] w fun e w' => e = .returned (.int .i64 3) ∧ Below w.heap.size w w' := by
  have hB := Lib.hid (below_a w)
  have C : ∀ o v, Calls Tryz.prog 66 #[.pointer (some ⟨g, 0, none⟩), v] (w.alloc o) fun e w' => e = .returned (.int .i64 3) ∧ ∃ m, w' = (w.alloc o).drewN m := fun o v => on_no _ g X s (((below_a w o).block g hg).trans h) hd hf v
  have HC := Lib.hid C
  clear C h hd hf
  go_enter Tryz.func43, Tryz.ntmps43
  go_wp2_with (go_at_call 66; refine (HC.out _ _).mono ?_; rintro e w' ⟨rfl, m, rfl⟩)
  go_ret
  exact ⟨rfl, below_drewN' (hB.out _) _⟩
set_option maxHeartbeats 1000000 in
theorem seek_at (w : World) (g X : Nat) (s : St) (o : Ord) (rows : List R3) (b off c : Nat) (n : Int) (h : w.heap[g]? = some (wkS X s)) (hX : Idx w X o rows b off c) (hd : 0 < s.d ∧ s.d ≤ 3) (hft : s.f s.d < s.t s.d) (ht : s.t s.d ≤ rows.length)
    (hg : g < w.heap.size) (hXs : X < w.heap.size) (hbs : b < w.heap.size)
    (r : Nat) (hr : s.f s.d ≤ r ∧ r ≤ s.t s.d) (h1 : ∀ k, s.f s.d ≤ k → k < r → num rows o s.d k < n) (h2 : ∀ k, r ≤ k → k < s.t s.d → n ≤ num rows o s.d k) :
    Calls Tryz.prog 43 #[.pointer (some ⟨g, 0, none⟩), .int .i64 n] w fun e w' => e = .returned (.int .i64 0) ∧ w'.heap[g]? = some (wkS X { s with f := upd s.f s.d r }) ∧ w.grownBy w' (some g) := by
  have e46 : ∀ args w, (callFunc 67 args).run Tryz.prog w = .ok (.enter 67 args) w := enters_of Tryz.func67 (by kernel_rfl) rfl
  have hb := below_a w (.cells #[.int .i64 n] 3)
  have C : Calls Tryz.prog 66 #[.pointer (some ⟨g, 0, none⟩), .func (.func 67) #[] #[.pointer (some ⟨w.heap.size, 0, none⟩)]] (w.alloc (.cells #[.int .i64 n] 3))
      fun e w' => e = .returned (.int .i64 0) ∧ w'.heap[g]? = some (wkS X { s with f := upd s.f s.d r }) ∧ (w.alloc (.cells #[.int .i64 n] 3)).grownBy w' (some g) := by
    have hsz := size_alloc w (.cells #[.int .i64 n] 3)
    have hc : (w.alloc (.cells #[.int .i64 n] 3)).cell? ⟨w.heap.size, 0, none⟩ = some (.int .i64 n) := cell_new1 w _ _ _
    refine on_at _ g X s o rows b off c ((hb.block g hg).trans h) (hX.below hb hXs hbs) hd hft ht (by omega) (by omega) (by omega) 67 _ e46 (fun x => decide (n ≤ x)) (fun W x hW => ?_) r hr (fun k hk hkr => decide_eq_false (by have := h1 k hk hkr; omega)) (fun k hk hkr => decide_eq_true (h2 k hk hkr))
    exact ge46 W w.heap.size x _ ((hW.cell (p := ⟨w.heap.size, 0, none⟩) (by show w.heap.size < _; omega)).trans hc)
  have HC := Lib.hid C
  have HB := Lib.hid hb
  clear C h hX hd hft ht hr h1 h2 hb
  go_enter Tryz.func43, Tryz.ntmps43
  go_wp2_with (go_at_call 66; refine HC.out.mono ?_; rintro e w' ⟨rfl, hw, hgr⟩)
  go_ret
  exact ⟨rfl, hw, grown_below HB.out hgr⟩
end Go.Proofs.YtcnffgcegimelaaGreat.Pw
end
section
/-
  Walks of an index: Open. Conditions: the blocks lie as told; the numbers of the level do not fall.
-/
namespace Go.Proofs.YtcnffgcegimelaaGreat.Pw
open Go.RowKit Go.Proofs.YtcnffgcegimelaaGreatW.PrintWords Go.Proofs.YtcnffgcegimelaaGreat.Pm

theorem open_none (w : World) : Calls Tryz.prog 42 #[.pointer none] w fun e w' => e = .returned (.int .i64 1) ∧ w = w' := by
  go_enter Tryz.func42, Tryz.ntmps42
  go_wp2_with (go_at_call 61; refine (given_nil _).mono ?_; rintro e w' ⟨rfl, rfl⟩)
  go_ret
  exact ⟨rfl, rfl⟩
theorem open_zero (w : World) (g : Nat) (h : w.cell? ⟨g, 0, none⟩ = some (.pointer none)) : Calls Tryz.prog 42 #[.pointer (some ⟨g, 0, none⟩)] w fun e w' => e = .returned (.int .i64 1) ∧ w = w' := by
  go_enter Tryz.func42, Tryz.ntmps42
  go_wp2_with (go_at_call 61; refine (given_at _ g none h).mono ?_; rintro e w' ⟨rfl, rfl⟩)
  go_ret
  exact ⟨rfl, rfl⟩

/-- At the bottom, or behind the last number of a level. -/
theorem open_no (w : World) (g X : Nat) (s : St) (h : w.heap[g]? = some (wkS X s)) (hd : s.d ≤ 3) (hf : s.d = 3 ∨ (0 < s.d ∧ s.t s.d ≤ s.f s.d)) :
    Calls Tryz.prog 42 #[.pointer (some ⟨g, 0, none⟩)] w fun e w' => e = .returned (.int .i64 3) ∧ Drew w w' := by
  obtain ⟨z0, z1, _⟩ := wk_cells h
  have C : ∀ W, (W.heap[g]? = some (wkS X s)) → (0 < s.d ∧ s.t s.d ≤ s.f s.d) → Calls Tryz.prog 62 #[.pointer (some ⟨g, 0, none⟩)] W fun e w' => e = .returned (.bool false) ∧ Drew W w' := fun W hW hc => stands_no W g X s hW hd (.inr hc.2)
  have H := Lib.hid h
  have HC := Lib.hid C
  have dr : Drew w w := ⟨0, rfl⟩
  clear h C
  by_cases h3 : s.d = 3
  · have z1' : w.cell? ⟨g, 1, none⟩ = some (.int .i64 3) := by rw [z1, h3]; rfl
    clear z1 hf hd h3
    go_enter Tryz.func42, Tryz.ntmps42
    go_wp2_with (go_at_call 61; refine (given_at _ g _ z0).mono ?_; rintro e w' ⟨rfl, rfl⟩)
    go_ret
    exact ⟨rfl, dr⟩
  · have hc : 0 < s.d ∧ s.t s.d ≤ s.f s.d := by omega
    have HD := Lib.hid hc
    obtain ⟨d, f, t⟩ := s
    simp only at hd h3 hc z1
    have hlt : d = 1 ∨ d = 2 := by omega
    clear hf hc hd h3
    obtain rfl | rfl := hlt
    all_goals
      go_enter Tryz.func42, Tryz.ntmps42
      go_wp2_with (first | (go_at_call 61; refine (given_at _ g _ z0).mono ?_; rintro e w' ⟨rfl, rfl⟩) | (go_at_call 62; refine (HC.out _ H.out HD.out).mono ?_; rintro e w1 ⟨rfl, hd1⟩))
      go_ret
      exact ⟨rfl, hd1⟩

/-- An index of no row. -/
theorem open_empty (w : World) (g X : Nat) (s : St) (o : Ord) (b off c : Nat) (h : w.heap[g]? = some (wkS X s)) (hX : Idx w X o [] b off c) (hd : s.d = 0) :
    Calls Tryz.prog 42 #[.pointer (some ⟨g, 0, none⟩)] w fun e w' => e = .returned (.int .i64 3) ∧ w = w' := by
  obtain ⟨z0, z1, _⟩ := wk_cells h
  obtain ⟨A, hA, hblk⟩ := hX.blk
  obtain ⟨y0, y1, y2, y3, y4⟩ := idx_cells hblk
  have z1' : w.cell? ⟨g, 1, none⟩ = some (.int .i64 0) := by rw [z1, hd]; rfl
  have y3' : w.cell? ⟨X, 3, none⟩ = some (.slice A 0 c) := y3
  clear h hX z1 hd y3 hA hblk
  go_enter Tryz.func42, Tryz.ntmps42
  go_wp2_with (go_at_call 61; refine (given_at _ g _ z0).mono ?_; rintro e w' ⟨rfl, rfl⟩)
  go_ret
  exact ⟨rfl, rfl⟩

theorem grown_tr {a b c : World} {row : Option Nat} (h : a.grownBy b row) (k : b.grownBy c row) : a.grownBy c row :=
  ⟨k.os.trans h.os, k.tape.trans h.tape, k.output.trans h.output, Nat.le_trans h.size k.size, fun i hi hne => (k.block i (Nat.lt_of_lt_of_le hi h.size) hne).trans (h.block i hi hne)⟩
theorem grown_al (w : World) (o : Obj) (row : Option Nat) : w.grownBy (w.alloc o) row := World.grownBy_alloc w o row
theorem grown_d {w w' : World} {row : Option Nat} (h : w.grownBy w' row) : w.grownBy w'.drew row := ⟨h.os, h.tape, h.output, h.size, h.block⟩
theorem heap_al (w : World) (g : Nat) (hg : g < w.heap.size) (o : Obj) : (w.alloc o).heap[g]? = w.heap[g]? := Below.heap_alloc w o g hg
theorem size_set (w : World) (a : Addr) (u : Value) : (w.setCell a u).heap.size = w.heap.size := by simp [World.setCell]

theorem frozen_alloc1 (w : World) (b : Nat) (hb : b < w.heap.size) (i : Nat) (o1 : Obj) : (w.alloc o1).frozen? ⟨b, i, none⟩ = w.frozen? ⟨b, i, none⟩ :=
  World.frozen?_of_block (w := w) (Below.heap_alloc w o1 b hb)

set_option maxHeartbeats 2000000 in
/-- At the root. -/
theorem open_root (w : World) (g X : Nat) (s : St) (o : Ord) (rows : List R3) (b off c : Nat) (h : w.heap[g]? = some (wkS X s)) (hX : Idx w X o rows b off c) (hd : s.d = 0) (hn : rows ≠ []) (hg : g < w.heap.size) :
    Calls Tryz.prog 42 #[.pointer (some ⟨g, 0, none⟩)] w fun e w' => e = .returned (.int .i64 0) ∧ w'.heap[g]? = some (wkS X ⟨1, upd s.f 1 (s.f 0), upd s.t 1 (s.t 0)⟩) ∧ w.grownBy w' (some g) := by
  obtain ⟨z0, z1, z2, z3, z4, z5, z6, z7, z8, z9⟩ := wk_cells h
  obtain ⟨A, hA, hblk⟩ := hX.blk
  obtain ⟨y0, y1, y2, y3, y4⟩ := idx_cells hblk
  have fz : ∀ i, w.frozen? ⟨g, i, none⟩ = false := fun i => by simp [World.frozen?, h, wkS, wkO]
  have hl : ((rows.length : Int) == 0) = false := by
    cases rows with
    | nil => exact absurd rfl hn
    | cons => simp; omega
  have H := Lib.hid h
  have q1 := cell_alloc1 w g hg
  have q2 := frozen_alloc1 w g hg
  have hg' : ∀ v, g < (w.setCell ⟨g, 1, none⟩ v).heap.size := fun v => by simpa [World.setCell] using hg
  have q3 := fun v => cell_alloc1 (w.setCell ⟨g, 1, none⟩ v) g (hg' v)
  have q4 := fun v => frozen_alloc1 (w.setCell ⟨g, 1, none⟩ v) g (hg' v)
  obtain ⟨d, f, t⟩ := s
  simp only at hd z1 z2 z3 z4 z5 z6 z7 z8 z9
  subst hd
  clear h hX hn hA hblk
  go_enter Tryz.func42, Tryz.ntmps42
  go_wp2_with (go_at_call 61; refine (given_at _ g _ z0).mono ?_; rintro e w' ⟨rfl, rfl⟩)
  go_region
  go_wp2
  go_region
  go_wp2
  go_ret
  refine ⟨rfl, ?_, grown_d (grown_d (grown_tr (grown_set _ _ _ _) (grown_tr (grown_set _ _ _ _) (grown_tr (grown_set _ _ _ _) (grown_al _ _ _)))))⟩
  refine (heap_al _ g (by rw [size_set, size_set, size_set]; exact hg) _).trans ?_
  exact (heap_set _ g 5 _ _ _ (heap_set _ g 4 _ _ _ (heap_set _ g 1 _ _ _ H.out))).trans rfl
end Go.Proofs.YtcnffgcegimelaaGreat.Pw
end
section
/-
  Walks of an index: Open below a number. Conditions: the blocks lie as told; the numbers of the level do not fall.
-/
namespace Go.Proofs.YtcnffgcegimelaaGreat.Pw
open Go.RowKit Go.Proofs.YtcnffgcegimelaaGreatW.PrintWords Go.Proofs.YtcnffgcegimelaaGreat.Pm

theorem Drew.cell {w w' : World} (h : Drew w w') (b i : Nat) : w'.cell? ⟨b, i, none⟩ = w.cell? ⟨b, i, none⟩ := by
  obtain ⟨n, rfl⟩ := h
  rfl
theorem Drew.frozen {w w' : World} (h : Drew w w') (b i : Nat) : w'.frozen? ⟨b, i, none⟩ = w.frozen? ⟨b, i, none⟩ := by
  obtain ⟨n, rfl⟩ := h
  rfl
theorem frozen_new1 (W : World) (cs : Array Value) (t : TypeId) (i : Nat) : (W.alloc (.cells cs t)).frozen? ⟨W.heap.size, i, none⟩ = false := by
  have h : (W.alloc (.cells cs t)).heap[W.heap.size]? = some (.cells cs t) := by
    show (W.heap.push _)[W.heap.size]? = _
    simp
  unfold World.frozen?
  simp only [h]
  simp

theorem below_then {B : Nat} {w W W' : World} (h : Below B w W) (hd : Drew W W') : Below B w W' := by
  obtain ⟨n, rfl⟩ := hd
  exact ⟨h.os, h.tape, h.output, h.size, h.block⟩

/-- What stands behind the search: the copy of the span, and the walk's own block. -/
theorem behind {w w1 w2 w4 : World} {g : Nat} (hg : g < w.heap.size) (hd1 : Drew w w1) (a c : Value) (hd2 : Drew ((w1.alloc (.cells #[a, c] 112)).drewN 1) w2) (o : Obj) (hb : Below (w2.heap.size + 1) (w2.alloc o) w4) :
    w4.cell? ⟨w1.heap.size, 0, none⟩ = some a ∧ w4.cell? ⟨w1.heap.size, 1, none⟩ = some c ∧ (∀ i, w4.frozen? ⟨w1.heap.size, i, none⟩ = false) ∧ (∀ i, w4.cell? ⟨g, i, none⟩ = w.cell? ⟨g, i, none⟩) ∧ (∀ i, w4.frozen? ⟨g, i, none⟩ = w.frozen? ⟨g, i, none⟩) ∧
      w4.heap[g]? = w.heap[g]? ∧ w.grownBy w4 (some g) ∧ g < w1.heap.size ∧ w1.heap.size < w4.heap.size := by
  have hs1 := hd1.size
  have hs2 : w2.heap.size = w1.heap.size + 1 := hd2.size.trans (size_alloc w1 (.cells #[a, c] 112))
  have hs3 := size_alloc w2 o
  have hs4 := hb.size
  have hB : Below (w2.heap.size) w2 w4 := ((below_a w2 o).trans (hb.mono (by omega)))
  have hB1 : Below w.heap.size w w2 := below_then (below_drewN' (hd1.below_alloc (.cells #[a, c] 112)) 1) hd2
  have hBw : Below w.heap.size w w4 := hB1.trans (hB.mono (by omega))
  have hw2 : ∀ i, w2.cell? ⟨w1.heap.size, i, none⟩ = #[a, c][i]? := fun i => (hd2.cell _ _).trans (cell_new1 w1 #[a, c] 112 i)
  have hf2 : ∀ i, w2.frozen? ⟨w1.heap.size, i, none⟩ = false := fun i => (hd2.frozen _ _).trans (frozen_new1 w1 #[a, c] 112 i)
  have hlt : w1.heap.size < w2.heap.size := by omega
  refine ⟨?_, ?_, fun i => ?_, fun i => ?_, fun i => ?_, ?_, ?_, by omega, by omega⟩
  · exact (hB.cell (p := ⟨w1.heap.size, 0, none⟩) hlt).trans (hw2 0)
  · exact (hB.cell (p := ⟨w1.heap.size, 1, none⟩) hlt).trans (hw2 1)
  · exact (hB.frozen (p := ⟨w1.heap.size, i, none⟩) hlt).trans (hf2 i)
  · exact hBw.cell (p := ⟨g, i, none⟩) hg
  · exact hBw.frozen (p := ⟨g, i, none⟩) hg
  · exact hBw.block g hg
  · exact ⟨hBw.os, hBw.tape, hBw.output, hBw.size, fun k hk _ => hBw.block k hk⟩

theorem grown_new_set {w w' : World} {row : Option Nat} (h : w.grownBy w' row) (b i : Nat) (hb : w.heap.size ≤ b) (u : Value) : w.grownBy (w'.setCell ⟨b, i, none⟩ u) row :=
  ⟨h.os, h.tape, h.output, by rw [size_set]; exact h.size, fun k hk hne => (Below.heap_setCell w' ⟨b, i, none⟩ u k (by show k ≠ b; omega)).trans (h.block k hk hne)⟩

set_option maxHeartbeats 4000000 in
theorem open_at (w : World) (g X : Nat) (s : St) (o : Ord) (rows : List R3) (b off c : Nat) (h : w.heap[g]? = some (wkS X s)) (hX : Idx w X o rows b off c) (hd : s.d = 1 ∨ s.d = 2) (hft : s.f s.d < s.t s.d) (ht : s.t s.d ≤ rows.length)
    (hg : g < w.heap.size) (hXs : X < w.heap.size) (hbs : b < w.heap.size)
    (r : Nat) (hr : s.f s.d ≤ r ∧ r ≤ s.t s.d) (h1 : ∀ k, s.f s.d ≤ k → k < r → num rows o s.d k ≤ num rows o s.d (s.f s.d)) (h2 : ∀ k, r ≤ k → k < s.t s.d → num rows o s.d (s.f s.d) < num rows o s.d k) :
    Calls Tryz.prog 42 #[.pointer (some ⟨g, 0, none⟩)] w fun e w' => e = .returned (.int .i64 0) ∧ w'.heap[g]? = some (wkS X ⟨s.d + 1, upd s.f (s.d + 1) (s.f s.d), upd s.t (s.d + 1) r⟩) ∧ w.grownBy w' (some g) := by
  obtain ⟨z0, z1, z2, z3, z4, z5, z6, z7, z8, z9⟩ := wk_cells h
  obtain ⟨A, hA, hblk⟩ := hX.blk
  clear hA
  obtain ⟨y0, y1, y2, y3, y4⟩ := idx_cells hblk
  have fz : ∀ i, w.frozen? ⟨g, i, none⟩ = false := fun i => by simp [World.frozen?, h, wkS, wkO]
  have hl : ((rows.length : Int) == 0) = false := beq_eq_false_iff_ne.2 (by omega)
  have e41 : ∀ args w, (callFunc 65 args).run Tryz.prog w = .ok (.enter 65 args) w := enters_of Tryz.func65 (by kernel_rfl) rfl
  have CS : ∀ W, (W.heap[g]? = some (wkS X s)) → Calls Tryz.prog 62 #[.pointer (some ⟨g, 0, none⟩)] W fun e w' => e = .returned (.bool true) ∧ Drew W w' := fun W hW => stands_yes W g X s hW (by omega) hft
  have CO : ∀ W, Below w.heap.size w W → Calls Tryz.prog 63 #[.pointer (some ⟨g, 0, none⟩), .int .i64 (s.f s.d)] W fun e w' => e = .returned (.int .i64 (num rows o s.d (s.f s.d))) ∧ Drew W w' :=
    fun W hW => of_st W g X s o rows b off c ((hW.block g hg).trans h) (hX.below hW hXs hbs) (by omega) _ (by omega)
  have CF : ∀ W1, Below w.heap.size w W1 → Calls Tryz.prog 64 #[.pointer (some ⟨g, 0, none⟩), .func (.func 65) #[] #[.pointer (some ⟨W1.heap.size, 0, none⟩)]] (W1.alloc (.cells #[.int .i64 (num rows o s.d (s.f s.d))] 3))
      fun e w' => e = .returned (.int .i64 r) ∧ Below (W1.heap.size + 1) (W1.alloc (.cells #[.int .i64 (num rows o s.d (s.f s.d))] 3)) w' := by
    intro W1 hW1
    have hsz := size_alloc W1 (.cells #[.int .i64 (num rows o s.d (s.f s.d))] 3)
    have hws := hW1.size
    have hb : Below w.heap.size w (W1.alloc (.cells #[.int .i64 (num rows o s.d (s.f s.d))] 3)) := hW1.alloc hws _
    have hc : (W1.alloc (.cells #[.int .i64 (num rows o s.d (s.f s.d))] 3)).cell? ⟨W1.heap.size, 0, none⟩ = some (.int .i64 (num rows o s.d (s.f s.d))) := cell_new1 W1 _ _ _
    rw [← hsz]
    refine first_at _ g X s o rows b off c ((hb.block g hg).trans h) (hX.below hb hXs hbs) (by omega) (Nat.le_of_lt hft) ht (by omega) (by omega) (by omega) 65 _ e41 (fun x => decide (num rows o s.d (s.f s.d) < x)) (fun W x hW => ?_) r hr (fun k hk hkr => decide_eq_false (by have := h1 k hk hkr; omega)) (fun k hk hkr => decide_eq_true (h2 k hk hkr))
    exact gt41 W W1.heap.size x _ ((hW.cell (p := ⟨W1.heap.size, 0, none⟩) (by show W1.heap.size < _; omega)).trans hc)
  have H := Lib.hid h
  have HS := Lib.hid CS
  have HO := Lib.hid CO
  have HF := Lib.hid CF
  clear h hX CS CO CF h1 h2 hr hft ht
  generalize hv : num rows o s.d (s.f s.d) = v at HO HF
  clear hv
  obtain ⟨d, f, t⟩ := s
  simp only at hd z1 z2 z3 z4 z5 z6 z7 z8 z9 H HS HO
  obtain rfl | rfl := hd
  all_goals
    go_enter Tryz.func42, Tryz.ntmps42
    go_wp2_with (first | (go_at_call 61; refine (given_at _ g _ z0).mono ?_; rintro e w' ⟨rfl, rfl⟩) | (go_at_call 62; refine (HS.out _ H.out).mono ?_; rintro e w1 ⟨rfl, hd1⟩; have q1 := hd1.cell g; have q2 := hd1.cell X; have q3 := hd1.frozen g; have hg1 : g < w1.heap.size := (by rw [hd1.size]; exact hg); have q4 := cell_alloc1 w1 g hg1; have q5 := frozen_alloc1 w1 g hg1))
    go_region
    have hb1 : ∀ o', Below w.heap.size w ((w1.alloc o').drewN 1) := fun o' => below_drewN' (hd1.below_alloc o') 1
    go_wp2_with (go_at_call 63; refine (HO.out _ (hb1 _)).mono ?_; rintro e w2 ⟨rfl, hd2⟩)
    have hb2 := below_then (hb1 _) hd2
    go_wp2_with (go_at_call 64; refine (HF.out _ hb2).mono ?_; rintro e w4 ⟨rfl, hb4⟩; obtain ⟨s0, s1, sf, q6, q7, hgb, hgr, hne, hlt4⟩ := behind hg hd1 _ _ hd2 _ hb4; have HGB := Lib.hid hgb; clear hgb; have hn1 : g ≠ w1.heap.size := (Nat.ne_of_lt hne); have hn2 : w1.heap.size ≠ g := hn1.symm)
    go_region
    go_wp2
    go_ret
    refine ⟨rfl, ?_, ?_⟩
    · refine (heap_set _ g _ _ _ _ (heap_set _ g _ _ _ _ (heap_set _ g 1 _ _ _ ((Below.heap_setCell w4 ⟨w1.heap.size, 1, none⟩ _ g hn1).trans (HGB.out.trans H.out))))).trans ?_
      rfl
    · refine grown_d ?_
      refine grown_tr ?_ (grown_set _ _ _ _)
      refine grown_tr ?_ (grown_set _ _ _ _)
      refine grown_tr ?_ (grown_set _ _ _ _)
      exact grown_new_set hgr _ _ (Nat.le_of_eq hd1.size.symm) _
end Go.Proofs.YtcnffgcegimelaaGreat.Pw
end
section
/-
  The making of a walk of an index. Conditions: the index's block lies as told.
-/
namespace Go.Proofs.YtcnffgcegimelaaGreat.Pw
open Go.RowKit Go.Proofs.YtcnffgcegimelaaGreatW.PrintWords Go.Proofs.YtcnffgcegimelaaGreat.Pm

theorem walk_none (w : World) : Calls Tryz.prog 40 #[.pointer none] w fun e w' => e = .returned (.pointer none) ∧ w = w' := by
  go_enter Tryz.func40, Tryz.ntmps40
  go_wp2
  go_ret
  exact ⟨rfl, rfl⟩
theorem walk_unmade (w : World) (X : Nat) (h : w.cell? ⟨X, 4, none⟩ = some (.bool false)) : Calls Tryz.prog 40 #[.pointer (some ⟨X, 0, none⟩)] w fun e w' => e = .returned (.pointer none) ∧ w = w' := by
  go_enter Tryz.func40, Tryz.ntmps40
  go_wp2
  go_ret
  exact ⟨rfl, rfl⟩
/-- A walk's state at the root. -/
def root (n : Nat) : St := ⟨0, fun _ => 0, fun k => if k = 0 then n else 0⟩
set_option maxHeartbeats 1000000 in
theorem walk_at (w : World) (X : Nat) (o : Ord) (rows : List R3) (b off c : Nat) (hX : Idx w X o rows b off c) (hXs : X < w.heap.size) :
    Calls Tryz.prog 40 #[.pointer (some ⟨X, 0, none⟩)] w fun e w' => e = .returned (.pointer (some ⟨w.heap.size, 0, none⟩)) ∧ w'.heap[w.heap.size]? = some (wkS X (root rows.length)) ∧ Below w.heap.size w w' ∧ w'.heap.size = w.heap.size + 1 := by
  obtain ⟨A, hA, hblk⟩ := hX.blk
  obtain ⟨y0, y1, y2, y3, y4⟩ := idx_cells hblk
  have q := cell_alloc1 w X hXs
  clear hX
  go_enter Tryz.func40, Tryz.ntmps40
  go_wp2
  go_region
  go_wp2
  go_ret
  refine ⟨rfl, ?_, (below_a w _).drew, size_alloc w _⟩
  show (w.heap.push _)[w.heap.size]? = _
  rw [Array.getElem?_push, if_pos rfl]
  rfl
end Go.Proofs.YtcnffgcegimelaaGreat.Pw
end
