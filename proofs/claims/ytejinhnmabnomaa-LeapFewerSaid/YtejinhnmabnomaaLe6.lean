/-
  Whether a relation has a pair. Conditions: the slice lies as told.
-/
import Derived.Test.YtejinhnmabnomaaLe5
namespace Go.Proofs.Ytejinhnmabnomaa.Lf
open Go.RowKit Go.Proofs.YtejinhnmabnomaaW.PrintWords Go.Proofs.Ytejinhnmabnomaa.Pm Go.Proofs.Ytejinhnmabnomaa.Pw

theorem eqIn22 (d : Nat) (w : World) (a b x y : Int) :
    (Op.equalIn (d + 2) 22 (.agg #[.int .i64 a, .int .i64 b]) (.agg #[.int .i64 x, .int .i64 y])).run Try.prog w = .ok (decide (a = x ∧ b = y)) w := by
  have h3 := run_underlying Try.underlying3
  have h23 := run_underlying Try.underlying22
  have s3 := Try.sizeOf3
  have g3 := Try.isAgg3
  have e3 : ∀ (u v : Int) w, (Op.equalIn (d + 1) 3 (.int .i64 u) (.int .i64 v)).run Try.prog w = .ok (u == v) w := fun u v w => by
    simp [Op.equalIn, h3]
  have r3 : List.range' 0 2 = [0, 1] := rfl
  unfold Op.equalIn
  simp [h23, s3, part, r3, g3]
  simp only [e3]
  by_cases h1 : a = x
  · by_cases h2 : b = y
    · simp [h1, h2]
    · simp [h1, h2]
  · simp [h1]
theorem eql22 (w : World) (a b x y : Int) :
    (binOp .eql 22 (.agg #[.int .i64 a, .int .i64 b]) (.agg #[.int .i64 x, .int .i64 y])).run Try.prog w = .ok (.bool (decide (a = x ∧ b = y))) w := by
  simp only [binOp]
  simp [Op.equal, Op.maxDepth, eqIn22 9998]
set_option maxHeartbeats 800000 in
theorem has_ok {w : World} {v : Value} {l : List (Int × Int)} (a b : Int) (hv : G.SlL w enc2 v l) (hl : l.length ≤ 140737488355328) :
    Calls Try.prog 14 #[v, .int .i64 a, .int .i64 b] w fun e w' => e = .returned (.bool (decide ((a, b) ∈ l))) ∧ w = w' := by
  obtain ⟨A, c, rfl, hc, _, _⟩ := id hv
  obtain ⟨n, hn⟩ : ∃ n, l.length = n := ⟨_, rfl⟩
  rw [hn] at hv hl hc ⊢
  have HV := Lib.hid (And.intro hv hn)
  clear hv hn hc
  have hnn : (n : Int) ≤ 140737488355328 := by omega
  go_enter Try.func14, Try.ntmps14
  go_wp2_with fail
  go_loopg [7] (n + 1) (fun g s8 wr => ∃ k : Nat, k ≤ n ∧ n - k < g ∧ s8 = .int .i64 k ∧ w = wr ∧ ∀ j, j < k → l.getD j (0, 0) ≠ (a, b))
  case atStart => exact ⟨0, by omega, by omega, rfl, rfl, fun j hj => absurd hj (by omega)⟩
  case round =>
    obtain ⟨k, hk, hg, rfl, rfl, hall⟩ := hrel
    have HA := Lib.hid hall
    clear hall
    by_cases hlt : k < n
    · obtain ⟨bb, off, c', hv', _, hcell⟩ := HV.out.1.at_ (k := 2) (fun _ => rfl) k (l.getD k (0, 0)) (by rw [List.getD_eq_getElem?_getD, List.getElem?_eq_getElem (by have := HV.out.2; omega)]; rfl)
      injection hv' with e1 e2 e3
      subst e1
      have hd : decide ((k : Int) < (n : Int)) = true := by simp; omega
      have hl2 : (k : Int) < (n : Int) := by omega
      obtain ⟨y, hy⟩ : ∃ y, l.getD k (0, 0) = y := ⟨_, rfl⟩
      rw [hy] at hcell
      obtain ⟨y1, y2⟩ := y
      have x0 := hcell 0 _ rfl
      have x1 := hcell 1 _ rfl
      rw [Nat.add_zero] at x0
      have HY := Lib.hid hy
      clear hy e2 e3 hcell
      have EQ := fun (w : World) (a b x y : Int) => eql22 w a b x y
      by_cases hq : y1 = a ∧ y2 = b
      · have HQ := Lib.hid hq
        have hqb : decide (y1 = a ∧ y2 = b) = true := by simpa using hq
        clear hq EQ
        have EQ := fun (w : World) (a b x y : Int) => eql22 w a b x y
        go_wp2_with fail
        go_ret
        exact ⟨ret_bool (decide_eq_true (mem_of (by have := HV.out.2; omega) (HY.out.trans (by rw [HQ.out.1, HQ.out.2])))).symm, rfl⟩
      · have HQ := Lib.hid hq
        have hqb : decide (y1 = a ∧ y2 = b) = false := by simpa using hq
        clear hq
        go_wp2_with fail
        go_roundg (n - k)
        case measure => exact hg
        case rel =>
          refine ⟨k + 1, by omega, by omega, by go_num, rfl, fun j hj => ?_⟩
          by_cases e : j < k
          · exact HA.out j e
          · rw [show j = k by omega, HY.out]
            intro e2
            injection e2 with e3 e4
            exact HQ.out ⟨e3, e4⟩
    · have hd : decide ((k : Int) < (n : Int)) = false := by simp; omega
      go_wp2_with fail
      go_ret
      exact ⟨ret_bool (decide_eq_false (not_mem_of (fun j hj => HA.out j (by have := HV.out.2; omega)))).symm, rfl⟩
end Go.Proofs.Ytejinhnmabnomaa.Lf
