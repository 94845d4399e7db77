/-
  Joined by wip/tools/merge.py from the texts Sh0 Sh1 Sh2 Sl0. Conditions: as each says.
-/
import Derived.Laws.BitsAllLaws
import Derived.Test.YtcnffgcegimelaaGreatProg
import Derived.WalkKit
import Derived.Lib.Hide
import Derived.Below
import Derived.Deep.LoopGhost
import Derived.WalkSpells
import Derived.IntWalk
import Derived.Laws.Strings
section
/-
  A checksum: four bits by a table are four single bits, plain. No program in sight.
-/
namespace Go.Proofs.YtcnffgcegimelaaGreat.Ck
/-- One bit. -/
def bit1 (n : Nat) : Nat := (n * 2 % 4294967296) ^^^ (n / 2147483648 * 79764919)
def bits4 (n : Nat) : Nat := bit1 (bit1 (bit1 (bit1 n)))
theorem lt_xor {a b : Nat} (ha : a < 4294967296) (hb : b < 4294967296) : a ^^^ b < 4294967296 := Nat.xor_lt_two_pow (n := 32) ha hb
theorem bit1_lt {n : Nat} (h : n < 4294967296) : bit1 n < 4294967296 := by
  unfold bit1
  refine lt_xor (by omega) ?_
  have : n / 2147483648 ≤ 1 := by omega
  calc n / 2147483648 * 79764919 ≤ 1 * 79764919 := Nat.mul_le_mul_right _ this
    _ < _ := by omega
theorem bits4_lt {n : Nat} (h : n < 4294967296) : bits4 n < 4294967296 := bit1_lt (bit1_lt (bit1_lt (bit1_lt h)))
theorem shl1_xor (a b : Nat) : (a ^^^ b) * 2 % 4294967296 = (a * 2 % 4294967296) ^^^ (b * 2 % 4294967296) := by
  have h1 : ∀ x : Nat, x * 2 = x <<< 1 := fun x => by rw [Nat.shiftLeft_eq]
  have h2 : (4294967296 : Nat) = 2 ^ 32 := rfl
  rw [h1, h1, h1, h2, Nat.shiftLeft_xor_distrib, Nat.xor_mod_two_pow]
theorem top_xor (a b : Nat) (_ha : a < 4294967296) (_hb : b < 4294967296) : (a ^^^ b) / 2147483648 = (a / 2147483648) ^^^ (b / 2147483648) := by
  have h1 : ∀ x : Nat, x / 2147483648 = x >>> 31 := fun x => by rw [Nat.shiftRight_eq_div_pow]
  rw [h1, h1, h1, Nat.shiftRight_xor_distrib]
theorem bit1_xor {a b : Nat} (ha : a < 4294967296) (hb : b < 4294967296) : bit1 (a ^^^ b) = bit1 a ^^^ bit1 b := by
  unfold bit1
  rw [shl1_xor, top_xor a b ha hb]
  have ha' : a / 2147483648 = 0 ∨ a / 2147483648 = 1 := by omega
  have hb' : b / 2147483648 = 0 ∨ b / 2147483648 = 1 := by omega
  have comm : ∀ x y c d : Nat, (x ^^^ c) ^^^ (y ^^^ d) = (x ^^^ y) ^^^ (c ^^^ d) := fun x y c d => by
    rw [Nat.xor_assoc, Nat.xor_assoc, ← Nat.xor_assoc c y d, Nat.xor_comm c y, Nat.xor_assoc y c d]
  rw [comm]
  congr 1
  rcases ha' with e | e <;> rcases hb' with f | f <;> rw [e, f] <;> rfl
theorem bits4_xor {a b : Nat} (ha : a < 4294967296) (hb : b < 4294967296) : bits4 (a ^^^ b) = bits4 a ^^^ bits4 b := by
  unfold bits4
  rw [bit1_xor ha hb, bit1_xor (bit1_lt ha) (bit1_lt hb), bit1_xor (bit1_lt (bit1_lt ha)) (bit1_lt (bit1_lt hb)), bit1_xor (bit1_lt (bit1_lt (bit1_lt ha))) (bit1_lt (bit1_lt (bit1_lt hb)))]
theorem bit1_low {n : Nat} (h : n < 2147483648) : bit1 n = n * 2 := by
  unfold bit1
  rw [show n / 2147483648 = 0 by omega, Nat.zero_mul, Nat.xor_zero]
  omega
theorem bits4_low {n : Nat} (h : n < 268435456) : bits4 n = n * 16 := by
  unfold bits4
  rw [bit1_low (n := n) (by omega), bit1_low (n := n * 2) (by omega), bit1_low (n := n * 2 * 2) (by omega), bit1_low (n := n * 2 * 2 * 2) (by omega)]
  omega
theorem p28 : (2 : Nat) ^ 28 = 268435456 := by decide
theorem split28 {n : Nat} (_h : n < 4294967296) : n = (n / 268435456 * 268435456) ^^^ (n % 268435456) := by
  have h5 : (n / 268435456) <<< 28 + n % 268435456 = n := by rw [Nat.shiftLeft_eq, p28]; have h2 := Nat.div_add_mod n 268435456; omega
  have h1 : n / 268435456 * 268435456 = (n / 268435456) <<< 28 := by rw [Nat.shiftLeft_eq, p28]
  have h3 : n % 268435456 < 2 ^ 28 := by rw [p28]; exact Nat.mod_lt _ (by omega)
  have h4 := Nat.shiftLeft_add_eq_or_of_lt h3 (n / 268435456)
  rw [h1]
  apply Nat.eq_of_testBit_eq
  intro i
  have h6 : n.testBit i = ((n / 268435456) <<< 28 ||| n % 268435456).testBit i := by rw [← h4, h5]
  rw [h6, Nat.testBit_or, Nat.testBit_xor, Nat.testBit_shiftLeft]
  by_cases hi : 28 ≤ i
  · have : (n % 268435456).testBit i = false := Nat.testBit_lt_two_pow (Nat.lt_of_lt_of_le h3 (Nat.pow_le_pow_right (by omega) hi))
    simp [this]
  · simp [hi]
/-- Four bits by a table. -/
theorem bits4_tab {n : Nat} (h : n < 4294967296) : (n * 16 % 4294967296) ^^^ bits4 (n / 268435456 * 268435456) = bits4 n := by
  have hlt : n % 268435456 < 268435456 := Nat.mod_lt _ (by omega)
  have hlow : bits4 (n % 268435456) = n * 16 % 4294967296 := by
    rw [bits4_low hlt]; omega
  have hs := split28 h
  have e : bits4 n = bits4 (n / 268435456 * 268435456) ^^^ bits4 (n % 268435456) := by
    rw [← bits4_xor (by omega) (by omega), ← hs]
  rw [e, hlow, Nat.xor_comm]
/-- A checksum's state behind some bytes. -/
def sumS : Nat → List UInt8 → Nat
  | n, [] => n
  | n, b :: r => sumS (bits4 (bits4 (n ^^^ (b.toNat * 16777216)))) r
def sumN (l : List UInt8) : Nat := 4294967295 ^^^ sumS 4294967295 l
theorem sumS_snoc (n : Nat) (l : List UInt8) (b : UInt8) : sumS n (l ++ [b]) = bits4 (bits4 (sumS n l ^^^ (b.toNat * 16777216))) := by
  induction l generalizing n with
  | nil => rfl
  | cons a r ih => exact ih _
theorem byte_lt (b : UInt8) : b.toNat * 16777216 < 4294967296 := by
  have := b.toNat_lt
  omega
theorem sumS_lt {n : Nat} (h : n < 4294967296) : ∀ l : List UInt8, sumS n l < 4294967296
  | [] => h
  | b :: r => sumS_lt (bits4_lt (bits4_lt (lt_xor h (byte_lt b)))) r
theorem sumN_lt (l : List UInt8) : sumN l < 4294967296 := lt_xor (by omega) (sumS_lt (by omega) l)
end Go.Proofs.YtcnffgcegimelaaGreat.Ck
end
section
/-
  check.outs, check.Sum, check.Home walked. Conditions: none.
-/
namespace Go.Proofs.YtcnffgcegimelaaGreat.Ck
open Go.RowKit

def tv (k i : Nat) : Value := .int .u32 (if i < k then bits4 (i * 268435456) else 0 : Nat)
/-- The table, so far. -/
def tab (k : Nat) : Array Value := #[tv k 0, tv k 1, tv k 2, tv k 3, tv k 4, tv k 5, tv k 6, tv k 7, tv k 8, tv k 9, tv k 10, tv k 11, tv k 12, tv k 13, tv k 14, tv k 15]
theorem tv_done {k i : Nat} (h : i < k) : tv k i = .int .u32 (bits4 (i * 268435456) : Nat) := by unfold tv; rw [if_pos h]
theorem tv_other {k i : Nat} (h : i ≠ k) : tv (k + 1) i = tv k i := by
  unfold tv
  by_cases e : i < k
  · rw [if_pos e, if_pos (by omega)]
  · rw [if_neg e, if_neg (by omega)]
theorem tab_set : ∀ k, k < 16 → (tab k).setIfInBounds k (.int .u32 (bits4 (k * 268435456) : Nat)) = tab (k + 1)
  | 0, _ => by unfold tab; rw [← tv_done (k := 0 + 1) (i := 0) (by omega)]; simp [tv_other]
  | 1, _ => by unfold tab; rw [← tv_done (k := 1 + 1) (i := 1) (by omega)]; simp [tv_other]
  | 2, _ => by unfold tab; rw [← tv_done (k := 2 + 1) (i := 2) (by omega)]; simp [tv_other]
  | 3, _ => by unfold tab; rw [← tv_done (k := 3 + 1) (i := 3) (by omega)]; simp [tv_other]
  | 4, _ => by unfold tab; rw [← tv_done (k := 4 + 1) (i := 4) (by omega)]; simp [tv_other]
  | 5, _ => by unfold tab; rw [← tv_done (k := 5 + 1) (i := 5) (by omega)]; simp [tv_other]
  | 6, _ => by unfold tab; rw [← tv_done (k := 6 + 1) (i := 6) (by omega)]; simp [tv_other]
  | 7, _ => by unfold tab; rw [← tv_done (k := 7 + 1) (i := 7) (by omega)]; simp [tv_other]
  | 8, _ => by unfold tab; rw [← tv_done (k := 8 + 1) (i := 8) (by omega)]; simp [tv_other]
  | 9, _ => by unfold tab; rw [← tv_done (k := 9 + 1) (i := 9) (by omega)]; simp [tv_other]
  | 10, _ => by unfold tab; rw [← tv_done (k := 10 + 1) (i := 10) (by omega)]; simp [tv_other]
  | 11, _ => by unfold tab; rw [← tv_done (k := 11 + 1) (i := 11) (by omega)]; simp [tv_other]
  | 12, _ => by unfold tab; rw [← tv_done (k := 12 + 1) (i := 12) (by omega)]; simp [tv_other]
  | 13, _ => by unfold tab; rw [← tv_done (k := 13 + 1) (i := 13) (by omega)]; simp [tv_other]
  | 14, _ => by unfold tab; rw [← tv_done (k := 14 + 1) (i := 14) (by omega)]; simp [tv_other]
  | 15, _ => by unfold tab; rw [← tv_done (k := 15 + 1) (i := 15) (by omega)]; simp [tv_other]
  | k + 16, h => absurd h (by omega)
theorem tab_size (k : Nat) : (tab k).size = 16 := rfl
theorem tab_get (i : Nat) (h : i < 16) (k : Nat) : (tab k)[i]? = some (tv k i) := by
  match i, h with
  | 0, _ => rfl
  | 1, _ => rfl
  | 2, _ => rfl
  | 3, _ => rfl
  | 4, _ => rfl
  | 5, _ => rfl
  | 6, _ => rfl
  | 7, _ => rfl
  | 8, _ => rfl
  | 9, _ => rfl
  | 10, _ => rfl
  | 11, _ => rfl
  | 12, _ => rfl
  | 13, _ => rfl
  | 14, _ => rfl
  | 15, _ => rfl
  | i + 16, h => exact absurd h (by omega)
def bitsN : Nat → Nat → Nat
  | 0, n => n
  | j + 1, n => bit1 (bitsN j n)
theorem bitsN_lt : ∀ j {n : Nat}, n < 4294967296 → bitsN j n < 4294967296
  | 0, _, h => h
  | j + 1, _, h => bit1_lt (bitsN_lt j h)
theorem tab_cell {w : World} {b k : Nat} (h : w.heap[b]? = some (.cells (tab k) 134 (0, 0))) (i : Nat) (hi : i < 16) : w.cell? ⟨b, i, none⟩ = some (tv k i) := by
  simp [World.cell?, h, tab_get i hi]
theorem bit1_walk {n : Nat} (h : n < 4294967296) : bits .xor .u32 ((n : Int) * 2 % 4294967296) ((n : Int) / 2147483648 * 79764919) = (bit1 n : Nat) := by
  have e1 : (n : Int) * 2 % 4294967296 = ((n * 2 % 4294967296 : Nat) : Int) := by omega
  have e2 : (n : Int) / 2147483648 * 79764919 = ((n / 2147483648 * 79764919 : Nat) : Int) := by omega
  rw [e1, e2]
  exact u32_xor_nat _ _ (by omega) (by
    have : n / 2147483648 ≤ 1 := by omega
    calc n / 2147483648 * 79764919 ≤ 1 * 79764919 := Nat.mul_le_mul_right _ this
      _ < _ := by omega)
theorem tab_zero : tab 0 = #[.int .u32 0, .int .u32 0, .int .u32 0, .int .u32 0, .int .u32 0, .int .u32 0, .int .u32 0, .int .u32 0, .int .u32 0, .int .u32 0, .int .u32 0, .int .u32 0, .int .u32 0, .int .u32 0, .int .u32 0, .int .u32 0] := rfl
theorem heap_setC (w : World) (g k : Nat) (cs : Array Value) (e : TypeId) (u : Value) (h : w.heap[g]? = some (.cells cs e (0, 0))) : (w.setCell ⟨g, k, none⟩ u).heap[g]? = some (.cells (cs.setIfInBounds k u) e (0, 0)) := by
  simp only [World.setCell, Array.getElem?_modify, if_true, h]
  rfl
theorem outs_start (w : World) (o : Obj) : ((w.alloc o).alloc o).heap[w.heap.size + 1]? = some o ∧ ((w.alloc o).alloc o).heap[w.heap.size]? = some o := by
  have h1 : (w.alloc o).heap.size = w.heap.size + 1 := World.size_alloc w o
  refine ⟨?_, ?_⟩
  · rw [← h1]
    show ((w.alloc o).heap.push o)[(w.alloc o).heap.size]? = _
    rw [Array.getElem?_push, if_pos rfl]
  · rw [Below.heap_alloc _ _ _ (by omega)]
    show (w.heap.push o)[w.heap.size]? = _
    rw [Array.getElem?_push, if_pos rfl]
set_option maxRecDepth 100000 in
set_option maxHeartbeats 3200000 in
theorem outs_ok (w : World) : Calls Tryz.prog 87 #[] w fun e w' => e = .returned (.agg (tab 16)) ∧ Below w.heap.size w w' := by
  have S0 := Lib.hid (tab_size)
  go_enter Tryz.func87, Tryz.ntmps87
  go_wp2
  go_loopg [5] 17 (fun g s5 wr => ∃ k : Nat, k ≤ 16 ∧ 16 - k < g ∧ s5 = .int .i64 k ∧ Hid (wr.heap[w.heap.size + 1]? = some (.cells (tab k) 134 (0, 0)) ∧ wr.heap[w.heap.size]? = some (.cells (tab 0) 134 (0, 0)) ∧ Below w.heap.size w wr))
  case atStart => exact ⟨0, by omega, by omega, rfl, Lib.hid ⟨by rw [tab_zero]; exact (outs_start w _).1, by rw [tab_zero]; exact (outs_start w _).2, ((Below.refl _ w).alloc (Nat.le_refl _) _).alloc (by simp) _⟩⟩
  case round =>
    obtain ⟨k, hk, hg, rfl, HR⟩ := hrel
    by_cases hlt : k < 16
    · have n1 : (k : Int) < 16 := by omega
      have n0 : 0 ≤ (k : Int) := by omega
      have q1 := tab_cell HR.out.1 k hlt
      have q2 : wr.frozen? ⟨w.heap.size + 1, k, none⟩ = false := by simp [World.frozen?, HR.out.1]
      go_wp2
      go_loop [3, 11] (fun s3 s11 => ∃ j : Nat, j ≤ 4 ∧ s11 = .int .i64 j ∧ s3 = .int .u32 (bitsN j (k * 268435456) : Nat)) (fun _ s11 => 4 - (intOf s11).toNat)
      case atStart => exact ⟨0, by omega, rfl, by show _ = Value.int .u32 ((k * 268435456 : Nat) : Int); rw [Int.natCast_mul]; rfl⟩
      case round =>
        obtain ⟨j, hj, rfl, rfl⟩ := hrel
        by_cases hj4 : j < 4
        · have m1 : (j : Int) < 4 := by omega
          have hb := bitsN_lt j (n := k * 268435456) (by omega)
          obtain ⟨y, hy⟩ : ∃ y, bitsN j (k * 268435456) = y := ⟨_, rfl⟩
          rw [hy] at hb ⊢
          have HY := Lib.hid hy
          have hb2 : (y : Int) < 4294967296 := by omega
          have W := Lib.hid (bit1_walk hb)
          clear hy
          go_wp2
          go_round
          case rel => exact ⟨j + 1, by omega, by go_num, by show _ = Value.int .u32 ((bit1 (bitsN j (k * 268435456)) : Nat) : Int); rw [HY.out, ← W.out]⟩
          case measure => simp [intOf]; omega
        · have m1 : ¬ (j : Int) < 4 := by omega
          have hj' : j = 4 := by omega
          go_wp2
          go_roundg (16 - k)
          case measure => omega
          case rel =>
            refine ⟨k + 1, by omega, by omega, by go_num, Lib.hid ⟨?_, ?_, ?_⟩⟩
            · rw [← tab_set k hlt]
              exact heap_setC wr _ k _ _ _ HR.out.1
            · rw [Below.heap_setCell _ _ _ _ (by simp)]
              exact HR.out.2.1
            · exact HR.out.2.2.setCell (by simp) _
    · have n1 : ¬ (k : Int) < 16 := by omega
      have hk' : k = 16 := by omega
      subst hk'
      have hb := HR.out.1
      have hz := HR.out.2.1
      have c0 := tab_cell hb 0 (by omega)
      rw [tv_done (by omega)] at c0
      have z0 := tab_cell hz 0 (by omega)
      have f0 : wr.frozen? ⟨w.heap.size, 0, none⟩ = false := by simp [World.frozen?, hz]
      have c1 := tab_cell hb 1 (by omega)
      rw [tv_done (by omega)] at c1
      have z1 := tab_cell hz 1 (by omega)
      have f1 : wr.frozen? ⟨w.heap.size, 1, none⟩ = false := by simp [World.frozen?, hz]
      have c2 := tab_cell hb 2 (by omega)
      rw [tv_done (by omega)] at c2
      have z2 := tab_cell hz 2 (by omega)
      have f2 : wr.frozen? ⟨w.heap.size, 2, none⟩ = false := by simp [World.frozen?, hz]
      have c3 := tab_cell hb 3 (by omega)
      rw [tv_done (by omega)] at c3
      have z3 := tab_cell hz 3 (by omega)
      have f3 : wr.frozen? ⟨w.heap.size, 3, none⟩ = false := by simp [World.frozen?, hz]
      have c4 := tab_cell hb 4 (by omega)
      rw [tv_done (by omega)] at c4
      have z4 := tab_cell hz 4 (by omega)
      have f4 : wr.frozen? ⟨w.heap.size, 4, none⟩ = false := by simp [World.frozen?, hz]
      have c5 := tab_cell hb 5 (by omega)
      rw [tv_done (by omega)] at c5
      have z5 := tab_cell hz 5 (by omega)
      have f5 : wr.frozen? ⟨w.heap.size, 5, none⟩ = false := by simp [World.frozen?, hz]
      have c6 := tab_cell hb 6 (by omega)
      rw [tv_done (by omega)] at c6
      have z6 := tab_cell hz 6 (by omega)
      have f6 : wr.frozen? ⟨w.heap.size, 6, none⟩ = false := by simp [World.frozen?, hz]
      have c7 := tab_cell hb 7 (by omega)
      rw [tv_done (by omega)] at c7
      have z7 := tab_cell hz 7 (by omega)
      have f7 : wr.frozen? ⟨w.heap.size, 7, none⟩ = false := by simp [World.frozen?, hz]
      have c8 := tab_cell hb 8 (by omega)
      rw [tv_done (by omega)] at c8
      have z8 := tab_cell hz 8 (by omega)
      have f8 : wr.frozen? ⟨w.heap.size, 8, none⟩ = false := by simp [World.frozen?, hz]
      have c9 := tab_cell hb 9 (by omega)
      rw [tv_done (by omega)] at c9
      have z9 := tab_cell hz 9 (by omega)
      have f9 : wr.frozen? ⟨w.heap.size, 9, none⟩ = false := by simp [World.frozen?, hz]
      have c10 := tab_cell hb 10 (by omega)
      rw [tv_done (by omega)] at c10
      have z10 := tab_cell hz 10 (by omega)
      have f10 : wr.frozen? ⟨w.heap.size, 10, none⟩ = false := by simp [World.frozen?, hz]
      have c11 := tab_cell hb 11 (by omega)
      rw [tv_done (by omega)] at c11
      have z11 := tab_cell hz 11 (by omega)
      have f11 : wr.frozen? ⟨w.heap.size, 11, none⟩ = false := by simp [World.frozen?, hz]
      have c12 := tab_cell hb 12 (by omega)
      rw [tv_done (by omega)] at c12
      have z12 := tab_cell hz 12 (by omega)
      have f12 : wr.frozen? ⟨w.heap.size, 12, none⟩ = false := by simp [World.frozen?, hz]
      have c13 := tab_cell hb 13 (by omega)
      rw [tv_done (by omega)] at c13
      have z13 := tab_cell hz 13 (by omega)
      have f13 : wr.frozen? ⟨w.heap.size, 13, none⟩ = false := by simp [World.frozen?, hz]
      have c14 := tab_cell hb 14 (by omega)
      rw [tv_done (by omega)] at c14
      have z14 := tab_cell hz 14 (by omega)
      have f14 : wr.frozen? ⟨w.heap.size, 14, none⟩ = false := by simp [World.frozen?, hz]
      have c15 := tab_cell hb 15 (by omega)
      rw [tv_done (by omega)] at c15
      have z15 := tab_cell hz 15 (by omega)
      have f15 : wr.frozen? ⟨w.heap.size, 15, none⟩ = false := by simp [World.frozen?, hz]
      clear hb hz
      go_wp2
      refine bodyPost_ret (v := .agg (tab 16)) ?_ rfl ⟨rfl, ?_⟩
      · simp [results, Tryz.results87, go_sem, tab, tv, *]
      · iterate 16 refine Below.setCell ?_ (by simp) _
        exact HR.out.2.2
end Go.Proofs.YtcnffgcegimelaaGreat.Ck
end
section
/-
  check.Sum and check.Home walked. Conditions: none.
-/
namespace Go.Proofs.YtcnffgcegimelaaGreat.Ck
open Go.RowKit

theorem xor_in {n b : Nat} (hn : n < 4294967296) (hb : b < 256) : bits .xor .u32 (n : Int) ((b : Int) * 16777216) = ((n ^^^ (b * 16777216) : Nat) : Int) := by
  have e : (b : Int) * 16777216 = ((b * 16777216 : Nat) : Int) := by omega
  rw [e]
  exact u32_xor_nat _ _ hn (by omega)
theorem walk_tab {n d : Nat} (hn : n < 4294967296) (hd : n / 268435456 = d) : bits .xor .u32 ((n : Int) * 16 % 4294967296) ((bits4 (d * 268435456) : Nat) : Int) = ((bits4 n : Nat) : Int) := by
  have e : (n : Int) * 16 % 4294967296 = ((n * 16 % 4294967296 : Nat) : Int) := by omega
  rw [e, u32_xor_nat _ _ (by omega) (bits4_lt (by omega)), ← hd, bits4_tab hn]
theorem walk_not {n : Nat} (hn : n < 4294967296) : wrap64 (bits .xor .u32 IntKind.u32.max (n : Int)) = ((4294967295 ^^^ n : Nat) : Int) := by
  have e : IntKind.u32.max = ((4294967295 : Nat) : Int) := rfl
  rw [e, u32_xor_nat _ _ (by omega) hn]
  have := lt_xor (a := 4294967295) (by omega) hn
  exact IntWalk.wrap64_in _ (by omega)
theorem take_snocB (s : ByteArray) (k : Nat) (h : k < s.size) : s.data.toList.take (k + 1) = s.data.toList.take k ++ [s[k]] := by
  rw [List.take_succ_eq_append_getElem (by simpa using h)]; rfl
theorem new_cell (w : World) (cs : Array Value) (t : TypeId) (i : Nat) : (w.alloc (.cells cs t (0, 0))).cell? ⟨w.heap.size, i, none⟩ = cs[i]? := World.cell?_alloc_new w cs t i
theorem tab_lit : tab 16 = #[.int .u32 ((bits4 (0 * 268435456) : Nat) : Int), .int .u32 ((bits4 (1 * 268435456) : Nat) : Int), .int .u32 ((bits4 (2 * 268435456) : Nat) : Int), .int .u32 ((bits4 (3 * 268435456) : Nat) : Int), .int .u32 ((bits4 (4 * 268435456) : Nat) : Int), .int .u32 ((bits4 (5 * 268435456) : Nat) : Int), .int .u32 ((bits4 (6 * 268435456) : Nat) : Int), .int .u32 ((bits4 (7 * 268435456) : Nat) : Int), .int .u32 ((bits4 (8 * 268435456) : Nat) : Int), .int .u32 ((bits4 (9 * 268435456) : Nat) : Int), .int .u32 ((bits4 (10 * 268435456) : Nat) : Int), .int .u32 ((bits4 (11 * 268435456) : Nat) : Int), .int .u32 ((bits4 (12 * 268435456) : Nat) : Int), .int .u32 ((bits4 (13 * 268435456) : Nat) : Int), .int .u32 ((bits4 (14 * 268435456) : Nat) : Int), .int .u32 ((bits4 (15 * 268435456) : Nat) : Int)] := rfl
theorem outs_lit (w : World) : Calls Tryz.prog 87 #[] w fun e w' => e = .returned (.agg #[.int .u32 ((bits4 (0 * 268435456) : Nat) : Int), .int .u32 ((bits4 (1 * 268435456) : Nat) : Int), .int .u32 ((bits4 (2 * 268435456) : Nat) : Int), .int .u32 ((bits4 (3 * 268435456) : Nat) : Int), .int .u32 ((bits4 (4 * 268435456) : Nat) : Int), .int .u32 ((bits4 (5 * 268435456) : Nat) : Int), .int .u32 ((bits4 (6 * 268435456) : Nat) : Int), .int .u32 ((bits4 (7 * 268435456) : Nat) : Int), .int .u32 ((bits4 (8 * 268435456) : Nat) : Int), .int .u32 ((bits4 (9 * 268435456) : Nat) : Int), .int .u32 ((bits4 (10 * 268435456) : Nat) : Int), .int .u32 ((bits4 (11 * 268435456) : Nat) : Int), .int .u32 ((bits4 (12 * 268435456) : Nat) : Int), .int .u32 ((bits4 (13 * 268435456) : Nat) : Int), .int .u32 ((bits4 (14 * 268435456) : Nat) : Int), .int .u32 ((bits4 (15 * 268435456) : Nat) : Int)]) ∧ Below w.heap.size w w' := tab_lit ▸ outs_ok w
set_option maxRecDepth 100000 in
set_option maxHeartbeats 3200000 in
theorem sum_ok (s : ByteArray) (w : World) (hs : s.size ≤ maxLen) : Calls Tryz.prog 71 #[.string s] w fun e w' => e = .returned (.int .i64 (sumN s.data.toList : Nat)) ∧ Below w.heap.size w w' := by
  unfold maxLen at hs
  go_enter Tryz.func71, Tryz.ntmps71
  go_wp2_with (go_at_call 87; refine (outs_lit _).mono ?_; rintro e w1 ⟨rfl, hb⟩; have HB := Lib.hid hb; clear hb)
  have HC := Lib.hid (fun (d : Nat) (hd : d < 16) => ((new_cell w1 (tab 16) 134 d).trans ((tab_get d hd 16).trans (congrArg some (tv_done hd)))))
  rw [tab_lit] at HC
  generalize hW : w1.alloc (.cells #[.int .u32 ((bits4 (0 * 268435456) : Nat) : Int), .int .u32 ((bits4 (1 * 268435456) : Nat) : Int), .int .u32 ((bits4 (2 * 268435456) : Nat) : Int), .int .u32 ((bits4 (3 * 268435456) : Nat) : Int), .int .u32 ((bits4 (4 * 268435456) : Nat) : Int), .int .u32 ((bits4 (5 * 268435456) : Nat) : Int), .int .u32 ((bits4 (6 * 268435456) : Nat) : Int), .int .u32 ((bits4 (7 * 268435456) : Nat) : Int), .int .u32 ((bits4 (8 * 268435456) : Nat) : Int), .int .u32 ((bits4 (9 * 268435456) : Nat) : Int), .int .u32 ((bits4 (10 * 268435456) : Nat) : Int), .int .u32 ((bits4 (11 * 268435456) : Nat) : Int), .int .u32 ((bits4 (12 * 268435456) : Nat) : Int), .int .u32 ((bits4 (13 * 268435456) : Nat) : Int), .int .u32 ((bits4 (14 * 268435456) : Nat) : Int), .int .u32 ((bits4 (15 * 268435456) : Nat) : Int)] 134 (0, 0)) = W at *
  go_loop [4, 9] (fun s4 s9 => ∃ k : Nat, k ≤ s.size ∧ s9 = .int .i64 k ∧ s4 = .int .u32 (sumS 4294967295 (s.data.toList.take k) : Nat)) (fun _ s9 => s.size - (intOf s9).toNat)
  case atStart => exact ⟨0, Nat.zero_le _, rfl, rfl⟩
  case round =>
    obtain ⟨k, hk, rfl, rfl⟩ := hrel
    by_cases hlt : k < s.size
    · have hsn := Lib.hid (take_snocB s k hlt)
      have hlN := sumS_lt (n := 4294967295) (by omega) (s.data.toList.take k)
      obtain ⟨n0, h0⟩ : ∃ n0, sumS 4294967295 (s.data.toList.take k) = n0 := ⟨_, rfl⟩
      rw [h0] at hlN ⊢
      have H0 := Lib.hid h0
      clear h0
      have hb := (s[k]'hlt).toNat_lt
      obtain ⟨n1, h1⟩ : ∃ n1, n0 ^^^ ((s[k]'hlt).toNat * 16777216) = n1 := ⟨_, rfl⟩
      have E1 := xor_in hlN (b := (s[k]'hlt).toNat) (by omega)
      have l1 : n1 < 4294967296 := by rw [← h1]; exact lt_xor hlN (by omega)
      rw [h1] at E1
      obtain ⟨d1, hd1⟩ : ∃ d1, n1 / 268435456 = d1 := ⟨_, rfl⟩
      have D1 : (n1 : Int) / 268435456 = (d1 : Int) := by omega
      have d16 : d1 < 16 := by omega
      have d16i : (d1 : Int) < 16 := by omega
      have c1 := HC.out d1 d16
      have E2 := walk_tab l1 hd1
      have l2 := bits4_lt l1
      obtain ⟨n2, h2⟩ : ∃ n2, bits4 n1 = n2 := ⟨_, rfl⟩
      rw [h2] at E2 l2
      obtain ⟨d2, hd2⟩ : ∃ d2, n2 / 268435456 = d2 := ⟨_, rfl⟩
      have D2 : (n2 : Int) / 268435456 = (d2 : Int) := by omega
      have e16 : d2 < 16 := by omega
      have e16i : (d2 : Int) < 16 := by omega
      have c2 := HC.out d2 e16
      have E3 := walk_tab l2 hd2
      have HH := Lib.hid (And.intro h1 h2)
      clear h1 h2 hd1 hd2
      go_wp2
      go_round
      case rel => exact ⟨k + 1, by omega, by go_num, by rw [hsn.out, sumS_snoc, H0.out, HH.out.1, HH.out.2]⟩
      case measure => simp [intOf]; omega
    · have hk' : k = s.size := by omega
      have hlN := sumS_lt (n := 4294967295) (by omega) (s.data.toList.take k)
      have hT : s.data.toList.take k = s.data.toList := List.take_of_length_le (by rw [hk']; simp)
      rw [hT] at hlN ⊢
      have E1 := Lib.hid (walk_not hlN)
      go_wp2
      go_ret
      refine ⟨?_, ?_⟩
      · rw [← hW] at *
        exact congrArg (fun x => Ending.returned (.int .i64 x)) E1.out
      · rw [← hW]
        exact HB.out.alloc HB.out.size _
/-- Home. -/
def homeI (s : ByteArray) (n : Int) : Int × Int := if n < 1 ∨ 64 < n ∨ s.size = 0 then (0, 1) else ((sumN s.data.toList : Nat) % n, 0)
set_option maxRecDepth 100000 in
set_option maxHeartbeats 1000000 in
theorem home_ok (s : ByteArray) (n : Int) (w : World) (hs : s.size ≤ maxLen) : Calls Tryz.prog 47 #[.string s, .int .i64 n] w fun e w' => e = .returned (.tuple #[.int .i64 (homeI s n).1, .int .i64 (homeI s n).2]) ∧ Below w.heap.size w w' := by
  unfold homeI
  by_cases h1 : n < 1
  · rw [if_pos (Or.inl h1)]
    go_enter Tryz.func47, Tryz.ntmps47
    go_wp2
    go_ret2
    exact ⟨rfl, Below.refl _ _⟩
  · by_cases h2 : 64 < n
    · rw [if_pos (Or.inr (Or.inl h2))]
      go_enter Tryz.func47, Tryz.ntmps47
      go_wp2
      go_ret2
      exact ⟨rfl, Below.refl _ _⟩
    · by_cases h3 : s.size = 0
      · rw [if_pos (Or.inr (Or.inr h3))]
        obtain rfl : s = ByteArray.empty := ByteArray.ext (Array.eq_empty_of_size_eq_zero h3)
        clear h3 hs
        go_enter Tryz.func47, Tryz.ntmps47
        go_wp2
        go_ret2
        exact ⟨rfl, Below.refl _ _⟩
      · rw [if_neg (by omega)]
        have hne : (s.toList == []) = false := by
          rw [ByteArray.toList_eq]
          refine beq_eq_false_iff_ne.2 (fun e => h3 ?_)
          have := congrArg List.length e
          simpa using this
        have C := sum_ok s w hs
        have hl := sumN_lt s.data.toList
        obtain ⟨y, hy⟩ : ∃ y, sumN s.data.toList = y := ⟨_, rfl⟩
        rw [hy] at C hl ⊢
        clear hy hs
        have hn0 : ¬ n = 0 := by omega
        have hli : (y : Int) < 4294967296 := by omega
        have hl0 : 0 ≤ (y : Int) := by omega
        clear hl
        go_enter Tryz.func47, Tryz.ntmps47
        go_wp2_with (go_at_call 71; refine C.mono ?_; rintro e w1 ⟨rfl, hb⟩)
        go_ret2
        exact ⟨rfl, hb⟩
end Go.Proofs.YtcnffgcegimelaaGreat.Ck
end
section
/-
  The document's Sum and Home, walked. Conditions: as each says.
-/
namespace Go.Proofs.YtcnffgcegimelaaGreat.Ck
open Go.RowKit

theorem i64_xor_nat (a b : Nat) (ha : a < 4294967296) (hb : b < 4294967296) : bits .xor .i64 (a : Int) (b : Int) = ((a ^^^ b : Nat) : Int) := by
  have hx := lt_xor ha hb
  show IntKind.i64.wrap ((BitVec.ofInt 64 (a : Int) ^^^ BitVec.ofInt 64 (b : Int)).toNat : Int) = _
  have h64 : ∀ c : Nat, c < 4294967296 → (BitVec.ofInt 64 (c : Int)).toNat = c := fun c hc => by
    rw [BitVec.ofInt_natCast, BitVec.toNat_ofNat]; exact Nat.mod_eq_of_lt (by omega)
  rw [BitVec.toNat_xor, h64 a ha, h64 b hb]
  rw [IntKind.wrap_i64]
  omega
theorem ref_in {n b : Nat} (hn : n < 4294967296) (hb : b < 256) : bits .xor .i64 (n : Int) ((b : Int) * 16777216) = ((n ^^^ (b * 16777216) : Nat) : Int) := by
  have e : (b : Int) * 16777216 = ((b * 16777216 : Nat) : Int) := by omega
  rw [e]
  exact i64_xor_nat _ _ hn (by omega)
theorem ref_hi {n : Nat} (hn : n < 4294967296) (h : 2147483648 ≤ n) : bits .xor .i64 (2 * (n : Int) - 4294967295 - 1) 79764919 = ((bit1 n : Nat) : Int) := by
  have e : 2 * (n : Int) - 4294967295 - 1 = ((n * 2 % 4294967296 : Nat) : Int) := by omega
  have e2 : (79764919 : Int) = ((n / 2147483648 * 79764919 : Nat) : Int) := by
    have : n / 2147483648 = 1 := by omega
    rw [this]
    rfl
  rw [e, e2]
  exact i64_xor_nat _ _ (by omega) (by
    have : n / 2147483648 ≤ 1 := by omega
    calc n / 2147483648 * 79764919 ≤ 1 * 79764919 := Nat.mul_le_mul_right _ this
      _ < _ := by omega)
theorem ref_not {n : Nat} (hn : n < 4294967296) : bits .xor .i64 (n : Int) 4294967295 = ((4294967295 ^^^ n : Nat) : Int) := by
  rw [Nat.xor_comm]
  exact i64_xor_nat n 4294967295 hn (by omega)
theorem bits8 (n : Nat) : bitsN 8 n = bits4 (bits4 n) := rfl
set_option maxRecDepth 100000 in
set_option maxHeartbeats 3200000 in
theorem rsum_ok (s : ByteArray) (w : World) (hs : s.size ≤ maxLen) : Calls Tryz.prog 46 #[.string s] w fun e w' => e = .returned (.int .i64 (sumN s.data.toList : Nat)) ∧ w = w' := by
  unfold maxLen at hs
  go_enter Tryz.func46, Tryz.ntmps46
  go_wp2
  go_loop [3, 4] (fun s3 s4 => ∃ k : Nat, k ≤ s.size ∧ s4 = .int .i64 k ∧ s3 = .int .i64 (sumS 4294967295 (s.data.toList.take k) : Nat)) (fun _ s4 => s.size - (intOf s4).toNat)
  case atStart => exact ⟨0, Nat.zero_le _, rfl, rfl⟩
  case round =>
    obtain ⟨k, hk, rfl, rfl⟩ := hrel
    by_cases hlt : k < s.size
    · have hsn := Lib.hid (take_snocB s k hlt)
      have hlN := sumS_lt (n := 4294967295) (by omega) (s.data.toList.take k)
      obtain ⟨n0, h0⟩ : ∃ n0, sumS 4294967295 (s.data.toList.take k) = n0 := ⟨_, rfl⟩
      rw [h0] at hlN ⊢
      have H0 := Lib.hid h0
      clear h0
      have hb := (s[k]'hlt).toNat_lt
      obtain ⟨n1, h1⟩ : ∃ n1, n0 ^^^ ((s[k]'hlt).toNat * 16777216) = n1 := ⟨_, rfl⟩
      have E1 := ref_in hlN (b := (s[k]'hlt).toNat) (by omega)
      have l1 : n1 < 4294967296 := by rw [← h1]; exact lt_xor hlN (by omega)
      rw [h1] at E1
      have H1 := Lib.hid h1
      clear h1
      go_wp2
      go_loop [3, 5] (fun s3 s5 => ∃ j : Nat, j ≤ 8 ∧ s5 = .int .i64 j ∧ s3 = .int .i64 (bitsN j n1 : Nat)) (fun _ s5 => 8 - (intOf s5).toNat)
      case atStart => exact ⟨0, by omega, rfl, rfl⟩
      case round =>
        obtain ⟨j, hj, rfl, rfl⟩ := hrel
        by_cases hj8 : j < 8
        · have m1 : (j : Int) < 8 := by omega
          have hb2 := bitsN_lt j l1
          obtain ⟨y, hy⟩ : ∃ y, bitsN j n1 = y := ⟨_, rfl⟩
          rw [hy] at hb2 ⊢
          have HY := Lib.hid hy
          clear hy
          by_cases hhi : 2147483648 ≤ y
          · have W1 := ref_hi hb2 hhi
            have g1 : (4294967295 : Int) < 2 * (y : Int) := by omega
            go_wp2
            go_round
            case rel => exact ⟨j + 1, by omega, by go_num, by show _ = Value.int .i64 ((bit1 (bitsN j n1) : Nat) : Int); rw [HY.out]⟩
            case measure => simp [intOf]; omega
          · have W1 := Lib.hid (bit1_low (n := y) (by omega))
            have g1 : ¬ (4294967295 : Int) < 2 * (y : Int) := by omega
            go_wp2
            go_round
            case rel => exact ⟨j + 1, by omega, by go_num, by show _ = Value.int .i64 ((bit1 (bitsN j n1) : Nat) : Int); rw [HY.out, W1.out]; go_num⟩
            case measure => simp [intOf]; omega
        · have m1 : ¬ (j : Int) < 8 := by omega
          have hj' : j = 8 := by omega
          go_wp2
          go_round
          case rel => exact ⟨k + 1, by omega, by go_num, by rw [hsn.out, sumS_snoc, H0.out, H1.out, hj']; rfl⟩
          case measure => simp [intOf]; omega
    · have hk' : k = s.size := by omega
      have hlN := sumS_lt (n := 4294967295) (by omega) (s.data.toList.take k)
      have hT : s.data.toList.take k = s.data.toList := List.take_of_length_le (by rw [hk']; simp)
      rw [hT] at hlN ⊢
      have E1 := ref_not hlN
      go_wp2
      go_ret
      exact ⟨rfl, rfl⟩
set_option maxRecDepth 100000 in
set_option maxHeartbeats 1000000 in
theorem rhome_ok (s : ByteArray) (n : Int) (w : World) (hs : s.size ≤ maxLen) : Calls Tryz.prog 21 #[.string s, .int .i64 n] w fun e w' => e = .returned (.tuple #[.int .i64 (homeI s n).1, .int .i64 (homeI s n).2]) ∧ w = w' := by
  unfold homeI
  by_cases h1 : n < 1
  · rw [if_pos (Or.inl h1)]
    go_enter Tryz.func21, Tryz.ntmps21
    go_wp2
    go_ret2
    exact ⟨rfl, rfl⟩
  · by_cases h2 : 64 < n
    · rw [if_pos (Or.inr (Or.inl h2))]
      go_enter Tryz.func21, Tryz.ntmps21
      go_wp2
      go_ret2
      exact ⟨rfl, rfl⟩
    · by_cases h3 : s.size = 0
      · rw [if_pos (Or.inr (Or.inr h3))]
        obtain rfl : s = ByteArray.empty := ByteArray.ext (Array.eq_empty_of_size_eq_zero h3)
        clear h3 hs
        go_enter Tryz.func21, Tryz.ntmps21
        go_wp2
        go_ret2
        exact ⟨rfl, rfl⟩
      · rw [if_neg (by omega)]
        have hne : (s.toList == []) = false := by
          rw [ByteArray.toList_eq]
          refine beq_eq_false_iff_ne.2 (fun e => h3 ?_)
          have := congrArg List.length e
          simpa using this
        have C := rsum_ok s w hs
        have hl := sumN_lt s.data.toList
        obtain ⟨y, hy⟩ : ∃ y, sumN s.data.toList = y := ⟨_, rfl⟩
        rw [hy] at C hl ⊢
        clear hy hs
        have hn0 : ¬ n = 0 := by omega
        have hli : (y : Int) < 4294967296 := by omega
        have hl0 : 0 ≤ (y : Int) := by omega
        clear hl
        go_enter Tryz.func21, Tryz.ntmps21
        go_wp2_with (go_at_call 46; refine C.mono ?_; rintro e w1 ⟨rfl, rfl⟩)
        go_ret2
        exact ⟨rfl, rfl⟩
end Go.Proofs.YtcnffgcegimelaaGreat.Ck
end
