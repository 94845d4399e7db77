/-
  A walk's 'first': the first row of the level, from where it stands, of which something is so. Conditions: the blocks lie as told; what is asked does not fall along the level.
-/
import Derived.Test.YthapkpgkcckapaaPw3
namespace Go.Proofs.Ythapkpgkcckapaa.Pw
open Go.RowKit Go.Proofs.YthapkpgkcckapaaW.PrintWords Go.Proofs.Ythapkpgkcckapaa.Pm

theorem Idx.below {w w' : World} {X : Nat} {o : Ord} {rows : List R3} {b off c : Nat} {B : Nat} (h : Idx w X o rows b off c) (hb : Below B w w') (hX : X < B) (hbB : b < B) : Idx w' X o rows b off c :=
  ⟨h.blk.imp fun _ ⟨h1, h2⟩ => ⟨h1, (hb.block X hX).trans h2⟩, h.ox, h.oy, h.oz, fun k i hk hi => (hb.cell (p := ⟨b, off + k * 3 + i, none⟩) hbB).trans (h.cell k i hk hi), h.lenc, h.small⟩

theorem cell_alloc1 (w : World) (b : Nat) (hb : b < w.heap.size) (i : Nat) (o1 : Obj) : (w.alloc o1).cell? ⟨b, i, none⟩ = w.cell? ⟨b, i, none⟩ :=
  World.cell?_of_block (w := w) (Below.heap_alloc w o1 b hb)
theorem cell_alloc2 (w : World) (b : Nat) (hb : b < w.heap.size) (i : Nat) (o1 o2 : Obj) : ((w.alloc o1).alloc o2).cell? ⟨b, i, none⟩ = w.cell? ⟨b, i, none⟩ :=
  (cell_alloc1 (w.alloc o1) b (by simp; omega) i o2).trans (cell_alloc1 w b hb i o1)
theorem cell_alloc3 (w : World) (b : Nat) (hb : b < w.heap.size) (i : Nat) (o1 o2 o3 : Obj) : (((w.alloc o1).alloc o2).alloc o3).cell? ⟨b, i, none⟩ = w.cell? ⟨b, i, none⟩ :=
  (cell_alloc1 ((w.alloc o1).alloc o2) b (by simp; omega) i o3).trans (cell_alloc2 w b hb i o1 o2)

theorem cell_new1 (W : World) (cs : Array Value) (t : TypeId) (i : Nat) : (W.alloc (.cells cs t)).cell? ⟨W.heap.size, i, none⟩ = cs[i]? := World.cell?_alloc_new W cs t i
theorem size_alloc (W : World) (o : Obj) : (W.alloc o).heap.size = W.heap.size + 1 := by
  show (W.heap.push o).size = _
  simp

theorem Idx.drewN {w : World} {X : Nat} {o : Ord} {rows : List R3} {b off c : Nat} (h : Idx w X o rows b off c) (n : Nat) : Idx (w.drewN n) X o rows b off c :=
  ⟨h.blk, h.ox, h.oy, h.oz, h.cell, h.lenc, h.small⟩

set_option maxHeartbeats 4000000 in
theorem first_at (w : World) (g X : Nat) (s : St) (o : Ord) (rows : List R3) (b off c : Nat) (h : w.heap[g]? = some (wkS X s)) (hX : Idx w X o rows b off c) (hd : 0 < s.d ∧ s.d ≤ 3) (hft : s.f s.d ≤ s.t s.d) (ht : s.t s.d ≤ rows.length)
    (hg : g < w.heap.size) (hXs : X < w.heap.size) (hbs : b < w.heap.size)
    (gi : Nat) (cb : Array Value) (eg : ∀ args w, (callFunc gi args).run Try.prog w = .ok (.enter gi args) w) (p : Int → Bool)
    (hp : ∀ (W : World) (x : Int), Below w.heap.size w W → Calls Try.prog gi (#[.int .i64 x] ++ cb) W fun e w' => e = .returned (.bool (p x)) ∧ W = w')
    (r : Nat) (hr : s.f s.d ≤ r ∧ r ≤ s.t s.d) (h1 : ∀ k, s.f s.d ≤ k → k < r → p (num rows o s.d k) = false) (h2 : ∀ k, r ≤ k → k < s.t s.d → p (num rows o s.d k) = true) :
    Calls Try.prog 40 #[.pointer (some ⟨g, 0, none⟩), .func (.func gi) #[] cb] w fun e w' => e = .returned (.int .i64 r) ∧ Below w.heap.size w w' := by
  obtain ⟨z0, z1, z2, z3, z4, z5, z6, z7, z8, z9⟩ := wk_cells h
  have hsm := hX.small
  have e52 : ∀ args w, (callFunc 52 args).run Try.prog w = .ok (.enter 52 args) w := enters_of Try.func52 (by kernel_rfl) rfl
  -- the search, at the world behind the boxes
  have C : ∀ (m : Nat), Calls Try.prog 51 #[.int .i64 ((s.t s.d - s.f s.d : Nat) : Int), .func (.func 52) #[] #[.pointer (some ⟨w.heap.size + 1, 0, none⟩), .pointer (some ⟨w.heap.size, 0, none⟩), .pointer (some ⟨w.heap.size + 1 + 1, 0, none⟩)]]
      ((((w.alloc (.cells #[.pointer (some ⟨g, 0, none⟩)] 35)).alloc (.cells #[.func (.func gi) #[] cb] 67)).alloc (.cells #[.int .i64 (s.f s.d), .int .i64 (s.t s.d)] 62)).drewN m)
      fun e w' => e = .returned (.int .i64 ((r - s.f s.d : Nat) : Int)) ∧ ∃ q, w' = ((((w.alloc (.cells #[.pointer (some ⟨g, 0, none⟩)] 35)).alloc (.cells #[.func (.func gi) #[] cb] 67)).alloc (.cells #[.int .i64 (s.f s.d), .int .i64 (s.t s.d)] 62)).drewN m).drewN q := by
    intro m
    have hb : Below w.heap.size w (((w.alloc (.cells #[.pointer (some ⟨g, 0, none⟩)] 35)).alloc (.cells #[.func (.func gi) #[] cb] 67)).alloc (.cells #[.int .i64 (s.f s.d), .int .i64 (s.t s.d)] 62)) :=
      (((Below.refl _ _).alloc (Nat.le_refl _) _).alloc (by simp) _).alloc (by simp; omega) _
    generalize hW : ((w.alloc (.cells #[.pointer (some ⟨g, 0, none⟩)] 35)).alloc (.cells #[.func (.func gi) #[] cb] 67)).alloc (.cells #[.int .i64 (s.f s.d), .int .i64 (s.t s.d)] 62) = W at hb ⊢
    have c0 : W.cell? ⟨w.heap.size, 0, none⟩ = some (.pointer (some ⟨g, 0, none⟩)) := by
      subst hW
      rw [cell_alloc2 _ _ (by rw [size_alloc]; omega), cell_new1]; rfl
    have c1 : W.cell? ⟨w.heap.size + 1, 0, none⟩ = some (.func (.func gi) #[] cb) := by
      subst hW
      rw [cell_alloc1 _ _ (by rw [size_alloc, size_alloc]; omega)]
      have e := cell_new1 (w.alloc (.cells #[.pointer (some ⟨g, 0, none⟩)] 35)) #[.func (.func gi) #[] cb] 67 0
      rw [size_alloc] at e
      rw [e]; rfl
    have c2 : W.cell? ⟨w.heap.size + 1 + 1, 0, none⟩ = some (.int .i64 (s.f s.d)) := by
      subst hW
      have e := cell_new1 ((w.alloc (.cells #[.pointer (some ⟨g, 0, none⟩)] 35)).alloc (.cells #[.func (.func gi) #[] cb] 67)) #[.int .i64 (s.f s.d), .int .i64 (s.t s.d)] 62 0
      rw [size_alloc, size_alloc] at e
      rw [e]; rfl
    refine search_calls 52 _ (s.t s.d - s.f s.d) (fun k => p (num rows o s.d (s.f s.d + k))) (r - s.f s.d) (W.drewN m) e52 (by omega) (fun m2 i hi => ?_) (by omega) (fun k hk => h1 _ (by omega) (by omega)) (fun k hk hkn => h2 _ (by omega) (by omega))
    have hbm : Below w.heap.size w ((W.drewN m).drewN m2) := ⟨hb.os, hb.tape, hb.output, hb.size, hb.block⟩
    exact pred52 _ g X s o rows b off c ((hbm.block g hg).trans h) (hX.below hbm hXs hbs) hd gi cb eg p (s.f s.d) (w.heap.size + 1) w.heap.size (w.heap.size + 1 + 1) c1 c0 c2
      (fun m3 x => hp _ x ⟨hb.os, hb.tape, hb.output, hb.size, hb.block⟩) i (by omega)
  have H := Lib.hid h
  have HC := Lib.hid C
  have q3 := cell_alloc3 w g hg
  have fr : s.f s.d + (r - s.f s.d) = r := by omega
  have hrr := hr
  clear h hX hp h1 h2 C
  obtain ⟨d, f, t⟩ := s
  simp only at hd z1 z2 z3 z4 z5 z6 z7 z8 z9 fr hrr hr hft ht HC
  have hd' := hd
  obtain rfl | rfl | rfl : d = 1 ∨ d = 2 ∨ d = 3 := by omega
  all_goals
    clear hd hd'
    have hB : ∀ (o1 o2 o3 : Obj) (n : Nat), Below w.heap.size w ((((w.alloc o1).alloc o2).alloc o3).drew.drewN n) := fun o1 o2 o3 n => by
      have hb := (((Below.refl w.heap.size w).alloc (Nat.le_refl _) o1).alloc (by simp) o2).alloc (by simp; omega) o3
      exact ⟨hb.os, hb.tape, hb.output, hb.size, hb.block⟩
    have e1 : ∀ a b : Nat, a ≤ b → b ≤ rows.length → IntKind.i64.wrap ((b : Int) - (a : Int)) = ((b - a : Nat) : Int) := fun a b hab hbn => by
      rw [show ((b - a : Nat) : Int) = (b : Int) - (a : Int) by omega]
      exact IntWalk.i64_in _ (by omega)
    have e2 : ∀ a : Nat, a ≤ r → r ≤ rows.length → IntKind.i64.wrap ((a : Int) + ((r - a : Nat) : Int)) = (r : Int) := fun a har hrn => by
      rw [show (a : Int) + ((r - a : Nat) : Int) = (r : Int) by omega]
      exact IntWalk.i64_in _ (by omega)
    have e1' := e1 _ _ hft ht
    have e2' := e2 _ hr.1 (Nat.le_trans hr.2 ht)
    have HB := Lib.hid hB
    clear fr hrr hr hft ht hsm e1 e2 hB
    go_enter Try.func40, Try.ntmps40
    go_wp2
    go_region
    go_wp2
    go_quiet ((go_at_call 51; exact quiet_add (HC.out _)))
    go_wp2
    go_ret
    exact ⟨rfl, HB.out _ _ _ _⟩
end Go.Proofs.Ythapkpgkcckapaa.Pw
