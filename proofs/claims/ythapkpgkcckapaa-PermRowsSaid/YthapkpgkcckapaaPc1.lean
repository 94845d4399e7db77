/-
  Two slices of rows, the same or not; a row's number in another list; an order out of a number. Conditions: the rows' cells lie as told.
-/
import Derived.Test.YthapkpgkcckapaaPb3
import Derived.Deep.LoopGhost
import Derived.Laws.Bits64
namespace Go.Proofs.Ythapkpgkcckapaa.Pw
open Go.RowKit Go.Proofs.YthapkpgkcckapaaW.PrintWords Go.Proofs.Ythapkpgkcckapaa.Pm

theorem at_cells {w : World} {b off : Nat} {l : List R3} (h : RowsAt w b off l) (k : Nat) (hk : k < l.length) :
    w.cell? ⟨b, off + k * 3, none⟩ = some (.int .i64 (l.getD k r0).a) ∧ w.cell? ⟨b, off + k * 3 + 1, none⟩ = some (.int .i64 (l.getD k r0).b) ∧ w.cell? ⟨b, off + k * 3 + 2, none⟩ = some (.int .i64 (l.getD k r0).c) :=
  ⟨h k 0 hk (by omega), h k 1 hk (by omega), h k 2 hk (by omega)⟩

set_option maxHeartbeats 2000000 in
theorem same_go (w : World) (A1 A2 : Option Addr) (n c1 c2 : Nat) (l1 l2 : List R3) (h1 : l1.length = n) (h2 : l2.length = n)
    (hA1 : ∀ k, k < n → ∃ b off, A1 = some ⟨b, off, none⟩ ∧ RowsAt w b off l1) (hA2 : ∀ k, k < n → ∃ b off, A2 = some ⟨b, off, none⟩ ∧ RowsAt w b off l2) (hn : n ≤ 1125899906842624) :
    Calls Try.prog 27 #[.slice A1 n c1, .slice A2 n c2] w fun e w' => e = .returned (.bool (decide (l1 = l2))) ∧ ∃ q, w' = w.drewN q := by
  have NE := fun (w : World) (a b c x y z : Int) => neq23 w a b c x y z
  have H1 := Lib.hid hA1
  have H2 := Lib.hid hA2
  clear hA1 hA2
  go_enter Try.func27, Try.ntmps27
  go_wp2
  go_loopg [5] n (fun g s5 wr => ∃ k q : Nat, k ≤ n ∧ n - k ≤ g ∧ s5 = .int .i64 k ∧ wr = w.drewN q ∧ ∀ j, j < k → l1.getD j r0 = l2.getD j r0)
  case atStart => exact ⟨0, 0, by omega, by omega, rfl, rfl, fun j hj => absurd hj (by omega)⟩
  case round =>
    obtain ⟨k, q, hk, hg, rfl, rfl, hall⟩ := hrel
    have A := Lib.hid hall
    clear hall
    by_cases hlt : k < n
    · obtain ⟨b, off, rfl, hr1⟩ := H1.out k hlt
      obtain ⟨b', off', rfl, hr2⟩ := H2.out k hlt
      obtain ⟨x0, x1, x2⟩ := at_cells hr1 k (by omega)
      obtain ⟨y0, y1, y2⟩ := at_cells hr2 k (by omega)
      clear hr1 hr2
      generalize hx : l1.getD k r0 = x at x0 x1 x2
      generalize hy : l2.getD k r0 = y at y0 y1 y2
      have B := Lib.hid (And.intro hx hy)
      clear hx hy
      by_cases hxy : x = y
      · subst hxy
        have hd : decide (x.a = x.a ∧ x.b = x.b ∧ x.c = x.c) = true := by simp
        go_wp2_with fail
        go_region
        go_wp2
        go_roundg (n - (k + 1))
        case measure => omega
        case rel =>
          refine ⟨k + 1, q + 1, by omega, Nat.le_refl _, by go_num, rfl, fun j hj => ?_⟩
          by_cases e : j = k
          · subst e; rw [B.out.1, B.out.2]
          · exact A.out j (by omega)
      · have hd : decide (x.a = y.a ∧ x.b = y.b ∧ x.c = y.c) = false := by rw [r3_eq]; simpa using hxy
        go_wp2_with fail
        go_region
        go_wp2
        go_ret
        have : l1 ≠ l2 := fun e => hxy (by rw [← B.out.1, ← B.out.2, e])
        exact ⟨by rw [decide_eq_false this]; rfl, _, rfl⟩
    · go_wp2
      go_ret
      have : l1 = l2 := by
        apply List.ext_getElem (by omega)
        intro j hj1 hj2
        have := A.out j (by omega)
        rw [List.getD_eq_getElem?_getD, List.getD_eq_getElem?_getD, List.getElem?_eq_getElem hj1, List.getElem?_eq_getElem hj2] at this
        exact this
      exact ⟨by rw [decide_eq_true this]; rfl, q, rfl⟩

set_option maxHeartbeats 1000000 in
theorem same_ne (w : World) (A1 A2 : Option Addr) (n m c1 c2 : Nat) (h : n ≠ m) :
    Calls Try.prog 27 #[.slice A1 n c1, .slice A2 m c2] w fun e w' => e = .returned (.bool false) ∧ ∃ q, w' = w.drewN q := by
  have h' : ((n : Int) == (m : Int)) = false := beq_eq_false_iff_ne.2 (by omega)
  go_enter Try.func27, Try.ntmps27
  go_wp2
  go_ret
  exact ⟨rfl, 0, rfl⟩

theorem SlR.out {w : World} {v : Value} {l : List R3} (h : SlR w v l) : ∃ A c, v = .slice A l.length c ∧ ∀ k, k < l.length → ∃ b off, A = some ⟨b, off, none⟩ ∧ RowsAt w b off l := by
  obtain ⟨A, c, rfl, _, ⟨_, rfl⟩ | ⟨b, off, rfl, _, hr⟩⟩ := h
  · exact ⟨A, c, rfl, fun k hk => absurd hk (by simp)⟩
  · exact ⟨_, c, rfl, fun _ _ => ⟨b, off, rfl, hr⟩⟩

theorem same_calls (w : World) (v1 v2 : Value) (l1 l2 : List R3) (h1 : SlR w v1 l1) (h2 : SlR w v2 l2) (hn : l1.length ≤ 1125899906842624) :
    Calls Try.prog 27 #[v1, v2] w fun e w' => e = .returned (.bool (decide (l1 = l2))) ∧ Drew w w' := by
  obtain ⟨A1, c1, rfl, k1⟩ := h1.out
  obtain ⟨A2, c2, rfl, k2⟩ := h2.out
  by_cases hl : l1.length = l2.length
  · rw [← hl] at k2 ⊢
    exact same_go w A1 A2 _ c1 c2 l1 l2 rfl hl.symm k1 k2 hn
  · have : l1 ≠ l2 := fun e => hl (by rw [e])
    rw [decide_eq_false this]
    exact same_ne w A1 A2 _ _ c1 c2 hl

theorem and16 (x : Int) : bits .and .i64 x 65535 = x % 65536 := by
  show IntKind.i64.wrap ((BitVec.ofInt 64 x &&& BitVec.ofInt 64 65535).toNat : Int) = _
  rw [BitVec.toNat_and]
  have e : (BitVec.ofInt 64 65535).toNat = 2 ^ 16 - 1 := by decide
  rw [e, Nat.and_two_pow_sub_one_eq_mod, BitVec.toNat_ofInt]
  have h : (((x % ((2 ^ 64 : Nat) : Int)).toNat % 2 ^ 16 : Nat) : Int) = x % 65536 := by
    rw [Int.natCast_emod, Int.toNat_of_nonneg (Int.emod_nonneg _ (by decide))]
    omega
  rw [h]
  exact IntWalk.i64_in _ (by omega)

/-- The orders, by their numbers. -/
def ordAt (r : Nat) : Ord := if r = 0 then ⟨0, 1, 2⟩ else if r = 1 then ⟨1, 2, 0⟩ else if r = 2 then ⟨2, 0, 1⟩ else if r = 3 then ⟨0, 2, 1⟩ else if r = 4 then ⟨1, 0, 2⟩ else ⟨2, 1, 0⟩
theorem ordAt_six (r : Nat) (h : r < 6) : Six (ordAt r) := by
  obtain rfl | rfl | rfl | rfl | rfl | rfl : r = 0 ∨ r = 1 ∨ r = 2 ∨ r = 3 ∨ r = 4 ∨ r = 5 := by omega
  all_goals decide
/-- The list of orders that two of the laws make. -/
def ordsO : Obj := .cells #[.int .i64 0, .int .i64 1, .int .i64 2, .int .i64 1, .int .i64 2, .int .i64 0, .int .i64 2, .int .i64 0, .int .i64 1, .int .i64 0, .int .i64 2, .int .i64 1, .int .i64 1, .int .i64 0, .int .i64 2, .int .i64 2, .int .i64 1, .int .i64 0] 23
theorem ords_at (w : World) (r : Nat) (h : r < 6) : (w.alloc ordsO).cell? ⟨w.heap.size, r * 3, none⟩ = some (.int .i64 (ordAt r).x) ∧ (w.alloc ordsO).cell? ⟨w.heap.size, r * 3 + 1, none⟩ = some (.int .i64 (ordAt r).y) ∧ (w.alloc ordsO).cell? ⟨w.heap.size, r * 3 + 2, none⟩ = some (.int .i64 (ordAt r).z) := by
  unfold ordsO
  rw [cell_new1, cell_new1, cell_new1]
  obtain rfl | rfl | rfl | rfl | rfl | rfl : r = 0 ∨ r = 1 ∨ r = 2 ∨ r = 3 ∨ r = 4 ∨ r = 5 := by omega
  all_goals exact ⟨rfl, rfl, rfl⟩
/-- Which order a number means. -/
def turnOf (t : Int) : Nat := (t % 65536 % 6).toNat
theorem turnOf_lt (t : Int) : turnOf t < 6 := by unfold turnOf; omega
theorem turn_rem (t : Int) : IntKind.i64.wrap (Int.tmod (t % 65536) 6) = (turnOf t : Int) := by
  rw [IntWalk.rem_in _ _ (by omega), IntWalk.i64_in _ (by omega)]
  unfold turnOf; omega
end Go.Proofs.Ythapkpgkcckapaa.Pw
