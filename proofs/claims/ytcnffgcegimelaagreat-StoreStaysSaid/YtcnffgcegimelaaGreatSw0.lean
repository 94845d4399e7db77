/-
  What a word is: words.Is and its literal. Conditions: none.
-/
import Derived.Test.YtcnffgcegimelaaGreatSm3
import Derived.Shelf.GgClosure.StringsIndexFuncTop
namespace Go.Proofs.YtcnffgcegimelaaGreat.Wd
open Go.RowKit Go.Shelf Go.Lib

def Tryz.l17_ren : Go.Shelf.Ren := ⟨fun | 17 => 89 | 15 => 103 | 20 => 126 | n => n, fun | 9 => 9 | 23 => 136 | 4 => 4 | 3 => 3 | 0 => 0 | 21 => 21 | n => n, fun | n => n⟩
theorem Tryz.l17 : Go.Proofs.LaysGw.n17 Tryz.prog Tryz.l17_ren := {
  mixed := by kernel_rfl
  f15 := Tryz.func103.trans (congrArg some (by kernel_rfl))
  f17 := Tryz.func89.trans (congrArg some (by kernel_rfl))
  f20 := Tryz.func126.trans (congrArg some (by kernel_rfl))
  t0 := Tryz.underlying0
  a0 := Tryz.isAgg0
  z0 := Tryz.sizeOf0
  v0 := Tryz.zeroValue0
  i0 := by kernel_rfl
  t3 := Tryz.underlying3
  a3 := Tryz.isAgg3
  z3 := Tryz.sizeOf3
  v3 := Tryz.zeroValue3
  i3 := by kernel_rfl
  t4 := Tryz.underlying4
  a4 := Tryz.isAgg4
  z4 := Tryz.sizeOf4
  v4 := Tryz.zeroValue4
  i4 := by kernel_rfl
  t9 := Tryz.underlying9
  a9 := Tryz.isAgg9
  z9 := Tryz.sizeOf9
  v9 := Tryz.zeroValue9
  i9 := by kernel_rfl
  t21 := Tryz.underlying21
  a21 := Tryz.isAgg21
  z21 := Tryz.sizeOf21
  v21 := Tryz.zeroValue21
  i21 := by kernel_rfl
  t23 := Tryz.underlying136
  a23 := Tryz.isAgg136
  z23 := Tryz.sizeOf136
  v23 := Tryz.zeroValue136
  i23 := by kernel_rfl }
/-- A rune that no word has. -/
def oddR (r : Nat) : Bool := (decide (r < 97) || decide (122 < r)) && (decide (r < 48) || decide (57 < r)) && decide (r ≠ 45) && decide (r ≠ 58)
/-- What a word is. -/
def isW (s : ByteArray) : Bool := decide (s.size ≠ 0) && decide (s.size ≤ 16) && !decide (0 ≤ Lib.idxFunc oddR true s)
theorem odd_at (w : World) : PredAt Tryz.prog 88 #[] encR oddR w := fun W r _ => by
  unfold FnGives
  have z1 : (r : Int) < 97 ↔ r < 97 := by omega
  have z2 : (122 : Int) < (r : Int) ↔ 122 < r := by omega
  have z3 : (r : Int) < 48 ↔ r < 48 := by omega
  have z4 : (57 : Int) < (r : Int) ↔ 57 < r := by omega
  have z5 : (r : Int) = 45 ↔ r = 45 := by omega
  have z6 : (r : Int) = 58 ↔ r = 58 := by omega
  by_cases h1 : r < 97 <;> by_cases h2 : 122 < r <;> by_cases h3 : r < 48 <;> by_cases h4 : 57 < r <;> by_cases h5 : r = 45 <;> by_cases h6 : r = 58
  all_goals first
    | (exfalso; omega)
    | (go_enter Tryz.func88, Tryz.ntmps88
       go_wp2
       go_ret
       refine ⟨?_, 0, rfl⟩
       simp [oddR, h1, h2, h3, h4, h5, h6] <;> omega)
theorem loop_ne (s : ByteArray) : ∀ (n i : Nat) (r : List UInt8), s.size - i = n → r ≠ [] → ByteArray.toList.loop s i r ≠ []
  | 0, i, r, hn, hr => by
    unfold ByteArray.toList.loop
    rw [if_neg (by omega)]
    simpa using hr
  | n + 1, i, r, hn, hr => by
    unfold ByteArray.toList.loop
    rw [if_pos (by omega)]
    exact loop_ne s n (i + 1) _ (by omega) (by simp)
theorem toList_ne {s : ByteArray} (h : s.size ≠ 0) : s.toList ≠ [] := by
  unfold ByteArray.toList ByteArray.toList.loop
  rw [if_pos (by omega)]
  exact loop_ne s _ _ _ rfl (by simp)
theorem is_ok (w : World) (s : ByteArray) : Calls Tryz.prog 74 #[.string s] w fun e w' => e = .returned (.bool (isW s)) ∧ Below w.heap.size w w' := by
  have hC := Any.strings_ContainsFunc Tryz.l17 88 #[] (enters_of Tryz.func88 (by kernel_rfl) rfl) oddR s w (odd_at w)
  change Calls Tryz.prog 89 _ _ _ at hC
  obtain ⟨c, hc⟩ : ∃ c, decide (0 ≤ Lib.idxFunc oddR true s) = c := ⟨_, rfl⟩
  unfold isW
  rw [hc] at hC ⊢
  by_cases h1 : s.size = 0
  · obtain rfl := ByteArray.size_eq_zero_iff.1 h1
    go_enter Tryz.func74, Tryz.ntmps74
    go_wp2
    go_ret
    exact ⟨by simp, Below.refl _ w⟩
  · have hl0 : s.toList ≠ [] := toList_ne h1
    have hl : s.toList.isEmpty = false := by cases hh : s.toList with
      | nil => exact absurd hh hl0
      | cons a r => rfl
    by_cases h2 : s.size ≤ 16
    · have h2' : (s.size : Int) ≤ 16 := by omega
      go_enter Tryz.func74, Tryz.ntmps74
      go_wp2_with (go_at_call 89; refine hC.mono ?_; rintro e w' ⟨rfl, hb⟩)
      go_ret
      exact ⟨by simp [h1, h2], hb⟩
    · have h2' : ¬ (s.size : Int) ≤ 16 := by omega
      go_enter Tryz.func74, Tryz.ntmps74
      go_wp2
      go_ret
      exact ⟨by simp [h1, h2], Below.refl _ w⟩
end Go.Proofs.YtcnffgcegimelaaGreat.Wd
