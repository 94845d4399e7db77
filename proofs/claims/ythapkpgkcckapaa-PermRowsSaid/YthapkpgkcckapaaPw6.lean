/-
  Walks of an index: Next and Seek. Conditions: the blocks lie as told; the numbers of the level rise.
-/
import Derived.Test.YthapkpgkcckapaaPw5
namespace Go.Proofs.Ythapkpgkcckapaa.Pw
open Go.RowKit Go.Proofs.YthapkpgkcckapaaW.PrintWords Go.Proofs.Ythapkpgkcckapaa.Pm

theorem on_none (w : World) (v : Value) : Calls Try.prog 43 #[.pointer none, v] w fun e w' => e = .returned (.int .i64 1) ∧ w = w' := by
  go_enter Try.func43, Try.ntmps43
  go_wp2_with (go_at_call 37; refine (given_nil _).mono ?_; rintro e w' ⟨rfl, rfl⟩)
  go_ret
  exact ⟨rfl, rfl⟩
theorem on_zero (w : World) (g : Nat) (h : w.cell? ⟨g, 0, none⟩ = some (.pointer none)) (v : Value) : Calls Try.prog 43 #[.pointer (some ⟨g, 0, none⟩), v] w fun e w' => e = .returned (.int .i64 1) ∧ w = w' := by
  go_enter Try.func43, Try.ntmps43
  go_wp2_with (go_at_call 37; refine (given_at _ g none h).mono ?_; rintro e w' ⟨rfl, rfl⟩)
  go_ret
  exact ⟨rfl, rfl⟩
theorem on_no (w : World) (g X : Nat) (s : St) (h : w.heap[g]? = some (wkS X s)) (hd : s.d ≤ 3) (hf : s.d = 0 ∨ s.t s.d ≤ s.f s.d) (v : Value) :
    Calls Try.prog 43 #[.pointer (some ⟨g, 0, none⟩), v] w fun e w' => e = .returned (.int .i64 3) ∧ ∃ n, w' = w.drewN n := by
  obtain ⟨z0, _⟩ := wk_cells h
  have C := fun W (hW : W.heap[g]? = some (wkS X s)) => stands_no W g X s hW hd hf
  have H := Lib.hid h
  clear h hd hf
  go_enter Try.func43, Try.ntmps43
  go_wp2_with (first | (go_at_call 37; refine (given_at _ g _ z0).mono ?_; rintro e w' ⟨rfl, rfl⟩) | (go_at_call 38; refine (C _ H.out).mono ?_; rintro e w' ⟨rfl, n, rfl⟩))
  go_ret
  exact ⟨rfl, _, rfl⟩

theorem below_alloc_drew (w : World) (n : Nat) (o : Obj) (m : Nat) : Below w.heap.size w (((w.alloc o).drewN m).drewN n) := by
  have hb := (Below.refl w.heap.size w).alloc (Nat.le_refl _) o
  exact ⟨hb.os, hb.tape, hb.output, hb.size, hb.block⟩
theorem below_a (w : World) (o : Obj) : Below w.heap.size w (w.alloc o) := (Below.refl w.heap.size w).alloc (Nat.le_refl _) o
theorem below_d (w : World) (n : Nat) (o : Obj) : Below w.heap.size w ((w.alloc o).drewN n) := by
  have hb := below_a w o
  exact ⟨hb.os, hb.tape, hb.output, hb.size, hb.block⟩
/-- Some draws on. -/
def Drew (w w' : World) : Prop := ∃ n, w' = w.drewN n
theorem Drew.block {w w' : World} (h : Drew w w') (k : Nat) : w'.heap[k]? = w.heap[k]? := by
  obtain ⟨n, rfl⟩ := h
  rfl
theorem Drew.size {w w' : World} (h : Drew w w') : w'.heap.size = w.heap.size := by
  obtain ⟨n, rfl⟩ := h
  rfl
theorem Drew.below {w w' : World} (h : Drew w w') : Below w.heap.size w w' := by
  obtain ⟨n, rfl⟩ := h
  exact ⟨rfl, rfl, rfl, Nat.le_refl _, fun _ _ => rfl⟩
theorem Drew.below_alloc {w w' : World} (h : Drew w w') (o : Obj) : Below w.heap.size w (w'.alloc o) := h.below.alloc (by rw [h.size]; exact Nat.le_refl _) o

theorem below_drewN' {B : Nat} {w W : World} (h : Below B w W) (n : Nat) : Below B w (W.drewN n) := ⟨h.os, h.tape, h.output, h.size, h.block⟩

theorem next_none (w : World) : Calls Try.prog 19 #[.pointer none] w fun e w' => e = .returned (.int .i64 1) ∧ Below w.heap.size w w' := by
  have hB := Lib.hid (below_a w)
  go_enter Try.func19, Try.ntmps19
  go_wp2_with (first | (go_at_call 23; refine (key_none _).mono ?_; rintro e w' ⟨rfl, rfl⟩) | (go_at_call 43; refine (on_none _ _).mono ?_; rintro e w' ⟨rfl, rfl⟩))
  go_ret
  exact ⟨rfl, hB.out _⟩
theorem next_zero (w : World) (g : Nat) (h : w.cell? ⟨g, 0, none⟩ = some (.pointer none)) : Calls Try.prog 19 #[.pointer (some ⟨g, 0, none⟩)] w fun e w' => e = .returned (.int .i64 1) ∧ Below w.heap.size w w' := by
  have hB := Lib.hid (below_a w)
  have hg := World.block_lt_of_cell? _ _ h
  have C : ∀ o v, Calls Try.prog 43 #[.pointer (some ⟨g, 0, none⟩), v] (w.alloc o) fun e w' => e = .returned (.int .i64 1) ∧ w.alloc o = w' := fun o v => on_zero _ g ((cell_alloc1 w g hg 0 o).trans h) v
  have HC := Lib.hid C
  clear C hg
  go_enter Try.func19, Try.ntmps19
  go_wp2_with (first | (go_at_call 23; refine (key_zero _ g h).mono ?_; rintro e w' ⟨rfl, rfl⟩) | (go_at_call 43; refine (HC.out _ _).mono ?_; rintro e w' ⟨rfl, rfl⟩))
  go_ret
  exact ⟨rfl, hB.out _⟩
theorem next_no (w : World) (g X : Nat) (s : St) (h : w.heap[g]? = some (wkS X s)) (hg : g < w.heap.size) (hd : s.d ≤ 3) (hf : s.d = 0 ∨ s.t s.d ≤ s.f s.d) :
    Calls Try.prog 19 #[.pointer (some ⟨g, 0, none⟩)] w fun e w' => e = .returned (.int .i64 3) ∧ Below w.heap.size w w' := by
  have C : ∀ w1, Drew w w1 → ∀ o v, Calls Try.prog 43 #[.pointer (some ⟨g, 0, none⟩), v] (w1.alloc o) fun e w' => e = .returned (.int .i64 3) ∧ ∃ m, w' = (w1.alloc o).drewN m := fun w1 h1 o v => on_no _ g X s (((h1.below_alloc o).block g hg).trans h) hd hf v
  have K : Calls Try.prog 23 #[.pointer (some ⟨g, 0, none⟩)] w fun e w' => e = .returned (.tuple #[.int .i64 0, .bool false]) ∧ Drew w w' := key_no w g X s h hd hf
  have HC := Lib.hid C
  have HK := Lib.hid K
  clear C K h hd hf
  go_enter Try.func19, Try.ntmps19
  go_wp2_with (first | (go_at_call 23; refine HK.out.mono ?_; rintro e w1 ⟨rfl, hd1⟩) | (go_at_call 43; refine (HC.out _ hd1 _ _).mono ?_; rintro e w' ⟨rfl, m, rfl⟩))
  go_ret
  exact ⟨rfl, below_drewN' (hd1.below_alloc _) _⟩
set_option maxHeartbeats 1000000 in
theorem next_at (w : World) (g X : Nat) (s : St) (o : Ord) (rows : List R3) (b off c : Nat) (h : w.heap[g]? = some (wkS X s)) (hX : Idx w X o rows b off c) (hd : 0 < s.d ∧ s.d ≤ 3) (hft : s.f s.d < s.t s.d) (ht : s.t s.d ≤ rows.length)
    (hg : g < w.heap.size) (hXs : X < w.heap.size) (hbs : b < w.heap.size)
    (r : Nat) (hr : s.f s.d ≤ r ∧ r ≤ s.t s.d) (h1 : ∀ k, s.f s.d ≤ k → k < r → num rows o s.d k ≤ num rows o s.d (s.f s.d)) (h2 : ∀ k, r ≤ k → k < s.t s.d → num rows o s.d (s.f s.d) < num rows o s.d k) :
    Calls Try.prog 19 #[.pointer (some ⟨g, 0, none⟩)] w fun e w' => e = .returned (.int .i64 0) ∧ w'.heap[g]? = some (wkS X { s with f := upd s.f s.d r }) ∧ w.grownBy w' (some g) := by
  have e44 : ∀ args w, (callFunc 44 args).run Try.prog w = .ok (.enter 44 args) w := enters_of Try.func44 (by kernel_rfl) rfl
  have K : Calls Try.prog 23 #[.pointer (some ⟨g, 0, none⟩)] w fun e w' => e = .returned (.tuple #[.int .i64 (num rows o s.d (s.f s.d)), .bool true]) ∧ Drew w w' := key_yes w g X s o rows b off c h hX hd hft ht
  have C : ∀ w1, Drew w w1 → Calls Try.prog 43 #[.pointer (some ⟨g, 0, none⟩), .func (.func 44) #[] #[.pointer (some ⟨w1.heap.size, 0, none⟩)]] (w1.alloc (.cells #[.int .i64 (num rows o s.d (s.f s.d))] 3))
      fun e w' => e = .returned (.int .i64 0) ∧ w'.heap[g]? = some (wkS X { s with f := upd s.f s.d r }) ∧ (w1.alloc (.cells #[.int .i64 (num rows o s.d (s.f s.d))] 3)).grownBy w' (some g) := by
    intro w1 hd1
    have hb := hd1.below_alloc (.cells #[.int .i64 (num rows o s.d (s.f s.d))] 3)
    have hsz := size_alloc w1 (.cells #[.int .i64 (num rows o s.d (s.f s.d))] 3)
    have hs1 := hd1.size
    have hc : (w1.alloc (.cells #[.int .i64 (num rows o s.d (s.f s.d))] 3)).cell? ⟨w1.heap.size, 0, none⟩ = some (.int .i64 (num rows o s.d (s.f s.d))) := cell_new1 w1 _ _ _
    refine on_at _ g X s o rows b off c ((hb.block g hg).trans h) (hX.below hb hXs hbs) hd hft ht (by omega) (by omega) (by omega) 44 _ e44 (fun x => decide (num rows o s.d (s.f s.d) < x)) (fun W x hW => ?_) r hr (fun k hk hkr => decide_eq_false (by have := h1 k hk hkr; omega)) (fun k hk hkr => decide_eq_true (h2 k hk hkr))
    exact gt44 W w1.heap.size x _ ((hW.cell (p := ⟨w1.heap.size, 0, none⟩) (by show w1.heap.size < _; omega)).trans hc)
  have HC := Lib.hid C
  have HK := Lib.hid K
  clear C K h hX hd hft ht hr h1 h2
  generalize num rows o s.d (s.f s.d) = v at HC HK
  go_enter Try.func19, Try.ntmps19
  go_wp2_with (first | (go_at_call 23; refine HK.out.mono ?_; rintro e w1 ⟨rfl, hd1⟩) | (go_at_call 43; refine (HC.out _ hd1).mono ?_; rintro e w' ⟨rfl, hw, hgr⟩))
  go_ret
  exact ⟨rfl, hw, grown_below (hd1.below_alloc _) hgr⟩

theorem seek_none (w : World) (n : Int) : Calls Try.prog 21 #[.pointer none, .int .i64 n] w fun e w' => e = .returned (.int .i64 1) ∧ Below w.heap.size w w' := by
  have hB := Lib.hid (below_a w)
  go_enter Try.func21, Try.ntmps21
  go_wp2_with (go_at_call 43; refine (on_none _ _).mono ?_; rintro e w' ⟨rfl, rfl⟩)
  go_ret
  exact ⟨rfl, hB.out _⟩
theorem seek_zero (w : World) (g : Nat) (n : Int) (h : w.cell? ⟨g, 0, none⟩ = some (.pointer none)) : Calls Try.prog 21 #[.pointer (some ⟨g, 0, none⟩), .int .i64 n] w fun e w' => e = .returned (.int .i64 1) ∧ Below w.heap.size w w' := by
  have hB := Lib.hid (below_a w)
  have hg := World.block_lt_of_cell? _ _ h
  have C : ∀ o v, Calls Try.prog 43 #[.pointer (some ⟨g, 0, none⟩), v] (w.alloc o) fun e w' => e = .returned (.int .i64 1) ∧ w.alloc o = w' := fun o v => on_zero _ g ((cell_alloc1 w g hg 0 o).trans h) v
  have HC := Lib.hid C
  clear C hg
  go_enter Try.func21, Try.ntmps21
  go_wp2_with (go_at_call 43; refine (HC.out _ _).mono ?_; rintro e w' ⟨rfl, rfl⟩)
  go_ret
  exact ⟨rfl, hB.out _⟩
theorem seek_no (w : World) (g X : Nat) (s : St) (n : Int) (h : w.heap[g]? = some (wkS X s)) (hg : g < w.heap.size) (hd : s.d ≤ 3) (hf : s.d = 0 ∨ s.t s.d ≤ s.f s.d) :
    Calls Try.prog 21 #[.pointer (some ⟨g, 0, none⟩), .int .i64 n] w fun e w' => e = .returned (.int .i64 3) ∧ Below w.heap.size w w' := by
  have hB := Lib.hid (below_a w)
  have C : ∀ o v, Calls Try.prog 43 #[.pointer (some ⟨g, 0, none⟩), v] (w.alloc o) fun e w' => e = .returned (.int .i64 3) ∧ ∃ m, w' = (w.alloc o).drewN m := fun o v => on_no _ g X s (((below_a w o).block g hg).trans h) hd hf v
  have HC := Lib.hid C
  clear C h hd hf
  go_enter Try.func21, Try.ntmps21
  go_wp2_with (go_at_call 43; refine (HC.out _ _).mono ?_; rintro e w' ⟨rfl, m, rfl⟩)
  go_ret
  exact ⟨rfl, below_drewN' (hB.out _) _⟩
set_option maxHeartbeats 1000000 in
theorem seek_at (w : World) (g X : Nat) (s : St) (o : Ord) (rows : List R3) (b off c : Nat) (n : Int) (h : w.heap[g]? = some (wkS X s)) (hX : Idx w X o rows b off c) (hd : 0 < s.d ∧ s.d ≤ 3) (hft : s.f s.d < s.t s.d) (ht : s.t s.d ≤ rows.length)
    (hg : g < w.heap.size) (hXs : X < w.heap.size) (hbs : b < w.heap.size)
    (r : Nat) (hr : s.f s.d ≤ r ∧ r ≤ s.t s.d) (h1 : ∀ k, s.f s.d ≤ k → k < r → num rows o s.d k < n) (h2 : ∀ k, r ≤ k → k < s.t s.d → n ≤ num rows o s.d k) :
    Calls Try.prog 21 #[.pointer (some ⟨g, 0, none⟩), .int .i64 n] w fun e w' => e = .returned (.int .i64 0) ∧ w'.heap[g]? = some (wkS X { s with f := upd s.f s.d r }) ∧ w.grownBy w' (some g) := by
  have e46 : ∀ args w, (callFunc 46 args).run Try.prog w = .ok (.enter 46 args) w := enters_of Try.func46 (by kernel_rfl) rfl
  have hb := below_a w (.cells #[.int .i64 n] 3)
  have C : Calls Try.prog 43 #[.pointer (some ⟨g, 0, none⟩), .func (.func 46) #[] #[.pointer (some ⟨w.heap.size, 0, none⟩)]] (w.alloc (.cells #[.int .i64 n] 3))
      fun e w' => e = .returned (.int .i64 0) ∧ w'.heap[g]? = some (wkS X { s with f := upd s.f s.d r }) ∧ (w.alloc (.cells #[.int .i64 n] 3)).grownBy w' (some g) := by
    have hsz := size_alloc w (.cells #[.int .i64 n] 3)
    have hc : (w.alloc (.cells #[.int .i64 n] 3)).cell? ⟨w.heap.size, 0, none⟩ = some (.int .i64 n) := cell_new1 w _ _ _
    refine on_at _ g X s o rows b off c ((hb.block g hg).trans h) (hX.below hb hXs hbs) hd hft ht (by omega) (by omega) (by omega) 46 _ e46 (fun x => decide (n ≤ x)) (fun W x hW => ?_) r hr (fun k hk hkr => decide_eq_false (by have := h1 k hk hkr; omega)) (fun k hk hkr => decide_eq_true (h2 k hk hkr))
    exact ge46 W w.heap.size x _ ((hW.cell (p := ⟨w.heap.size, 0, none⟩) (by show w.heap.size < _; omega)).trans hc)
  have HC := Lib.hid C
  have HB := Lib.hid hb
  clear C h hX hd hft ht hr h1 h2 hb
  go_enter Try.func21, Try.ntmps21
  go_wp2_with (go_at_call 43; refine HC.out.mono ?_; rintro e w' ⟨rfl, hw, hgr⟩)
  go_ret
  exact ⟨rfl, hw, grown_below HB.out hgr⟩
end Go.Proofs.Ythapkpgkcckapaa.Pw
