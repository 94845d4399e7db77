/-
  cmp.Compare at words. Conditions: none.
-/
import Derived.Test.YtcnffgcegimelaaGreatSp2
import Derived.WalkKit
import Derived.Lib.Hide
import Derived.Test.YtcnffgcegimelaaGreatProg
import Derived.Below
namespace Go.Proofs.YtcnffgcegimelaaGreat.So
open Go.RowKit Go.Proofs.YtcnffgcegimelaaGreat.Mp

theorem gtr_s (t : TypeId) (a b : ByteArray) : binOp .gtr t (.string a) (.string b) = pure (.bool !(Op.bytesLess a.toList b.toList || a.toList == b.toList)) := by simp [binOp, Op.stringOp]
theorem lss_s (t : TypeId) (a b : ByteArray) : binOp .lss t (.string a) (.string b) = pure (.bool (Op.bytesLess a.toList b.toList)) := by simp [binOp, Op.stringOp]
theorem nan_s (x : ByteArray) (w : World) : Calls Tryz.prog 77 #[.string x] w fun e w' => e = .returned (.bool false) ∧ w' = w := by
  go_enter Tryz.func77, Tryz.ntmps77
  go_wp2
  go_ret
  exact ⟨by simp, rfl⟩
theorem cmp_string (a b : ByteArray) (w : World) : Calls Tryz.prog 57 #[.string a, .string b] w fun e w' => e = .returned (.int .i64 (cmpS a b)) ∧ w' = w := by
  have hEq : (a.toList == b.toList) = decide (a = b) := by
    by_cases e : a = b
    · simp [e]
    · rw [decide_eq_false e]
      exact beq_eq_false_iff_ne.2 (fun k => e (bytes_ext k))
  obtain ⟨c, hc⟩ : ∃ c, cmpS a b = c := ⟨_, rfl⟩
  rw [hc]
  have HC := Lib.hid hc
  clear hc
  obtain ⟨x, hx⟩ : ∃ x, ltS a b = x := ⟨_, rfl⟩
  obtain ⟨y, hy⟩ : ∃ y, decide (a = b) = y := ⟨_, rfl⟩
  have hx' : Op.bytesLess a.toList b.toList = x := hx
  rw [hy] at hEq
  have qG : ∀ (w : World), (binOp .gtr 9 (.string a) (.string b)).run Tryz.prog w = .ok (.bool (!(x || y))) w := fun w => by
    rw [gtr_s, hEq, hx']; rfl
  have HX := Lib.hid hx
  have HY := Lib.hid hy
  clear hx hy
  cases x <;> cases y
  all_goals
    go_enter Tryz.func57, Tryz.ntmps57
    go_wp2_with (go_at_call 77; refine (nan_s _ _).mono ?_; rintro e w' ⟨rfl, rfl⟩)
    go_ret
    refine ⟨?_, rfl⟩
    rw [← HC.out]
    unfold cmpS
    rw [HX.out]
    first
      | rfl
      | (rw [if_neg (by simp), if_pos (of_decide_eq_true HY.out)]; rfl)
      | (rw [if_neg (by simp), if_neg (of_decide_eq_false HY.out)]; rfl)
end Go.Proofs.YtcnffgcegimelaaGreat.So
