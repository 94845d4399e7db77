/-
  Walks of an index: whether one stands, and its number; the making of a walk. Conditions: the blocks lie as told.
-/
import Derived.Test.YthapkpgkcckapaaPw1
namespace Go.Proofs.Ythapkpgkcckapaa.Pw
open Go.RowKit Go.Proofs.YthapkpgkcckapaaW.PrintWords Go.Proofs.Ythapkpgkcckapaa.Pm

theorem quiet_add {P : Program} {f : FuncId} {args : Array Value} {w : World} {a n : Nat} {v : Value}
    (h : Calls P f args (w.drewN (a + n)) fun e w' => e = .returned v ∧ ∃ m, w' = (w.drewN (a + n)).drewN m) :
    Calls P f args (w.drewN (a + n)) fun e w'' => e = .returned v ∧ ∃ m, w'' = w.drewN (a + m) :=
  h.mono fun _ _ ⟨he, m, hm⟩ => ⟨he, n + m, by rw [hm, World.drewN_drewN, Nat.add_assoc]⟩

theorem stands_yes (w : World) (g X : Nat) (s : St) (h : w.heap[g]? = some (wkS X s)) (hd : 0 < s.d ∧ s.d ≤ 3) (hf : s.f s.d < s.t s.d) :
    Calls Try.prog 38 #[.pointer (some ⟨g, 0, none⟩)] w fun e w' => e = .returned (.bool true) ∧ ∃ n, w' = w.drewN n := by
  refine (stands_at w g _ _ _ _ _ _ _ _ _ _ (by omega) h).mono fun e w' ⟨he, hw⟩ => ⟨?_, hw⟩
  rw [he]
  obtain ⟨d, f, t⟩ := s
  simp only at hd hf
  obtain rfl | rfl | rfl : d = 1 ∨ d = 2 ∨ d = 3 := by omega
  all_goals
    refine congrArg (fun b => Ending.returned (.bool b)) ?_
    simp [spanF] <;> omega
theorem stands_no (w : World) (g X : Nat) (s : St) (h : w.heap[g]? = some (wkS X s)) (hd : s.d ≤ 3) (hf : s.d = 0 ∨ s.t s.d ≤ s.f s.d) :
    Calls Try.prog 38 #[.pointer (some ⟨g, 0, none⟩)] w fun e w' => e = .returned (.bool false) ∧ ∃ n, w' = w.drewN n := by
  refine (stands_at w g _ _ _ _ _ _ _ _ _ _ (by omega) h).mono fun e w' ⟨he, hw⟩ => ⟨?_, hw⟩
  rw [he]
  obtain ⟨d, f, t⟩ := s
  simp only at hd hf
  obtain rfl | rfl | rfl | rfl : d = 0 ∨ d = 1 ∨ d = 2 ∨ d = 3 := by omega
  all_goals
    refine congrArg (fun b => Ending.returned (.bool b)) ?_
    simp [spanF] <;> omega

/-- A row's number, asked by a walk. -/
theorem of_st (w : World) (g X : Nat) (s : St) (o : Ord) (rows : List R3) (b off c : Nat) (h : w.heap[g]? = some (wkS X s)) (hX : Idx w X o rows b off c) (hd : 0 < s.d ∧ s.d ≤ 3) (k : Nat) (hk : k < rows.length) :
    Calls Try.prog 39 #[.pointer (some ⟨g, 0, none⟩), .int .i64 k] w fun e w' => e = .returned (.int .i64 (num rows o s.d k)) ∧ ∃ n, w' = w.drewN n := by
  have hx := hX.ox
  have hy := hX.oy
  have hz := hX.oz
  have e : (o.at (s.d - 1) : Int) = (if (s.d : Int) = 1 then (o.x : Int) else if (s.d : Int) = 2 then (o.y : Int) else (o.z : Int)) := by
    unfold Ord.at
    obtain h1 | h1 | h1 : s.d = 1 ∨ s.d = 2 ∨ s.d = 3 := by omega
    all_goals simp [h1]
  have ho : o.at (s.d - 1) ≤ 2 := by
    unfold Ord.at
    split
    · exact hx
    · split
      · exact hy
      · exact hz
  obtain ⟨A, hA, hblk⟩ := hX.blk
  have hA' : A = some ⟨b, off, none⟩ := hA.elim id (fun h => absurd hk (by rw [h.2]; simp))
  rw [hA'] at hblk
  refine of_at w g X _ _ _ b off rows.length c true _ _ _ _ _ _ _ _ _ (by omega) h hblk k (by omega) (o.at (s.d - 1)) _ e (by omega) ?_
  rw [Int.toNat_natCast]
  exact hX.cell k _ hk (by omega)

theorem key_none (w : World) : Calls Try.prog 23 #[.pointer none] w fun e w' => e = .returned (.tuple #[.int .i64 0, .bool false]) ∧ w = w' := by
  go_enter Try.func23, Try.ntmps23
  go_wp2_with (go_at_call 37; refine (given_nil _).mono ?_; rintro e w' ⟨rfl, rfl⟩)
  go_ret2
  exact ⟨rfl, rfl⟩
theorem key_zero (w : World) (g : Nat) (h : w.cell? ⟨g, 0, none⟩ = some (.pointer none)) : Calls Try.prog 23 #[.pointer (some ⟨g, 0, none⟩)] w fun e w' => e = .returned (.tuple #[.int .i64 0, .bool false]) ∧ w = w' := by
  go_enter Try.func23, Try.ntmps23
  go_wp2_with (go_at_call 37; refine (given_at _ g none h).mono ?_; rintro e w' ⟨rfl, rfl⟩)
  go_ret2
  exact ⟨rfl, rfl⟩
theorem key_no (w : World) (g X : Nat) (s : St) (h : w.heap[g]? = some (wkS X s)) (hd : s.d ≤ 3) (hf : s.d = 0 ∨ s.t s.d ≤ s.f s.d) :
    Calls Try.prog 23 #[.pointer (some ⟨g, 0, none⟩)] w fun e w' => e = .returned (.tuple #[.int .i64 0, .bool false]) ∧ ∃ n, w' = w.drewN n := by
  obtain ⟨z0, _⟩ := wk_cells h
  have C := fun W (hW : W.heap[g]? = some (wkS X s)) => stands_no W g X s hW hd hf
  have H := Lib.hid h
  clear h hd hf
  go_enter Try.func23, Try.ntmps23
  go_wp2_with (first | (go_at_call 37; refine (given_at _ g _ z0).mono ?_; rintro e w' ⟨rfl, rfl⟩) | (go_at_call 38; refine (C _ H.out).mono ?_; rintro e w' ⟨rfl, n, rfl⟩))
  go_ret2
  exact ⟨rfl, _, rfl⟩
set_option maxHeartbeats 1000000 in
theorem key_yes (w : World) (g X : Nat) (s : St) (o : Ord) (rows : List R3) (b off c : Nat) (h : w.heap[g]? = some (wkS X s)) (hX : Idx w X o rows b off c) (hd : 0 < s.d ∧ s.d ≤ 3) (hf : s.f s.d < s.t s.d) (ht : s.t s.d ≤ rows.length) :
    Calls Try.prog 23 #[.pointer (some ⟨g, 0, none⟩)] w fun e w' => e = .returned (.tuple #[.int .i64 (num rows o s.d (s.f s.d)), .bool true]) ∧ ∃ n, w' = w.drewN n := by
  obtain ⟨z0, z1, z2, z3, z4, z5, z6, z7, z8, z9⟩ := wk_cells h
  have C := fun W (hW : W.heap[g]? = some (wkS X s)) => stands_yes W g X s hW hd hf
  have D := fun n : Nat => of_st (w.drewN n) g X s o rows b off c h ⟨hX.blk, hX.ox, hX.oy, hX.oz, hX.cell, hX.lenc, hX.small⟩ hd (s.f s.d) (by omega)
  have H := Lib.hid h
  obtain ⟨d, f, t⟩ := s
  simp only at hd hf ht z1 z2 z3 z4 z5 z6 z7 z8 z9 D
  clear hX hf ht h
  have hd' := hd
  obtain rfl | rfl | rfl : d = 1 ∨ d = 2 ∨ d = 3 := by omega
  all_goals
    clear hd hd'
    go_enter Try.func23, Try.ntmps23
    go_wp2_with (first | (go_at_call 37; refine (given_at _ g _ z0).mono ?_; rintro e w' ⟨rfl, rfl⟩) | (go_at_call 38; refine (C _ H.out).mono ?_; rintro e w' ⟨rfl, n, rfl⟩))
    go_quiet ((go_at_call 39; exact quiet_add (D _)))
    go_wp2
    go_ret2
    exact ⟨rfl, _, World.drewN_drewN _ _ _⟩
end Go.Proofs.Ythapkpgkcckapaa.Pw
