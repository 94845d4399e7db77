/-
  Walks of an index go on: on, Next, Seek. Conditions: the blocks lie as told; what is asked does not fall along the level.
-/
import Derived.Test.YthapkpgkcckapaaPw4
namespace Go.Proofs.Ythapkpgkcckapaa.Pw
open Go.RowKit Go.Proofs.YthapkpgkcckapaaW.PrintWords Go.Proofs.Ythapkpgkcckapaa.Pm

theorem grown_below {w w1 w2 : World} {row : Option Nat} (h : Below w.heap.size w w1) (hg : w1.grownBy w2 row) : w.grownBy w2 row :=
  ⟨hg.os.trans h.os, hg.tape.trans h.tape, hg.output.trans h.output, Nat.le_trans h.size hg.size, fun k hk hne => (hg.block k (Nat.lt_of_lt_of_le hk h.size) hne).trans (h.block k hk)⟩
/-- A place of a function, set. -/
def upd (f : Nat → Nat) (i v : Nat) : Nat → Nat := fun k => if k = i then v else f k

set_option maxHeartbeats 4000000 in
theorem on_at (w : World) (g X : Nat) (s : St) (o : Ord) (rows : List R3) (b off c : Nat) (h : w.heap[g]? = some (wkS X s)) (hX : Idx w X o rows b off c) (hd : 0 < s.d ∧ s.d ≤ 3) (hft : s.f s.d < s.t s.d) (ht : s.t s.d ≤ rows.length)
    (hg : g < w.heap.size) (hXs : X < w.heap.size) (hbs : b < w.heap.size)
    (gi : Nat) (cb : Array Value) (eg : ∀ args w, (callFunc gi args).run Try.prog w = .ok (.enter gi args) w) (p : Int → Bool)
    (hp : ∀ (W : World) (x : Int), Below w.heap.size w W → Calls Try.prog gi (#[.int .i64 x] ++ cb) W fun e w' => e = .returned (.bool (p x)) ∧ W = w')
    (r : Nat) (hr : s.f s.d ≤ r ∧ r ≤ s.t s.d) (h1 : ∀ k, s.f s.d ≤ k → k < r → p (num rows o s.d k) = false) (h2 : ∀ k, r ≤ k → k < s.t s.d → p (num rows o s.d k) = true) :
    Calls Try.prog 43 #[.pointer (some ⟨g, 0, none⟩), .func (.func gi) #[] cb] w fun e w' => e = .returned (.int .i64 0) ∧ w'.heap[g]? = some (wkS X { s with f := upd s.f s.d r }) ∧ w.grownBy w' (some g) := by
  obtain ⟨z0, z1, z2, z3, z4, z5, z6, z7, z8, z9⟩ := wk_cells h
  have fz : ∀ i, w.frozen? ⟨g, i, none⟩ = false := fun i => by simp [World.frozen?, h, wkS, wkO]
  have CS := fun W (hW : W.heap[g]? = some (wkS X s)) => stands_yes W g X s hW hd hft
  have CF := fun n : Nat => first_at (w.drewN n) g X s o rows b off c h (hX.drewN n) hd (Nat.le_of_lt hft) ht hg hXs hbs gi cb eg p (fun W x hb => hp W x ⟨hb.os, hb.tape, hb.output, hb.size, hb.block⟩) r hr h1 h2
  have HS := Lib.hid CS
  have HF := Lib.hid CF
  have H := Lib.hid h
  clear h hX hp h1 h2 hr hft ht CS CF
  obtain ⟨d, f, t⟩ := s
  simp only at hd z1 z2 z3 z4 z5 z6 z7 z8 z9 HF
  have hd' := hd
  obtain rfl | rfl | rfl : d = 1 ∨ d = 2 ∨ d = 3 := by omega
  all_goals
    clear hd hd'
    go_enter Try.func43, Try.ntmps43
    go_wp2_with (first | (go_at_call 37; refine (given_at _ g _ z0).mono ?_; rintro e w' ⟨rfl, rfl⟩) | (go_at_call 38; refine (HS.out _ H.out).mono ?_; rintro e w' ⟨rfl, n, rfl⟩))
    go_region_with (go_at_call 40; refine (HF.out _).mono ?_; rintro e w1 ⟨rfl, hb⟩; have qc : ∀ i, w1.cell? ⟨g, i, none⟩ = w.cell? ⟨g, i, none⟩ := fun i => hb.cell (p := ⟨g, i, none⟩) hg; have qf : ∀ i, w1.frozen? ⟨g, i, none⟩ = w.frozen? ⟨g, i, none⟩ := fun i => hb.frozen (p := ⟨g, i, none⟩) hg)
    all_goals
      go_wp2
      go_ret
      refine ⟨rfl, (heap_set _ g _ _ _ _ ((hb.block g hg).trans H.out)).trans rfl, grown_below ⟨hb.os, hb.tape, hb.output, hb.size, hb.block⟩ (grown_set _ _ _ _)⟩

end Go.Proofs.Ythapkpgkcckapaa.Pw
