/-
  cmp.Or of numbers, and the comparison of two rows by an order that the program hands to the sort. Conditions: the blocks lie as told; the order is one of the six.
-/
import Derived.Test.YthapkpgkcckapaaPw9
import Derived.Test.YthapkpgkcckapaaShelf
import Derived.StillTailTactics
namespace Go.Proofs.Ythapkpgkcckapaa.Pw
open Go.RowKit Go.Proofs.YthapkpgkcckapaaW.PrintWords Go.Proofs.Ythapkpgkcckapaa.Pm

/-- The first that is not zero. -/
def orL : List Int → Int
  | [] => 0
  | x :: l => if x = 0 then orL l else x
theorem orL_zeros : ∀ l : List Int, (∀ x ∈ l, x = 0) → orL l = 0
  | [], _ => rfl
  | x :: l, h => by
    simp only [orL]
    rw [if_pos (h x (by simp))]
    exact orL_zeros l (fun y hy => h y (by simp [hy]))
theorem orL_at : ∀ (l : List Int) (k : Nat), k < l.length → (∀ j, j < k → l.getD j 0 = 0) → l.getD k 0 ≠ 0 → orL l = l.getD k 0
  | x :: l, 0, _, _, h => by
    simp only [orL]
    rw [if_neg (by simpa using h)]
    simp
  | x :: l, k + 1, hk, hz, h => by
    simp only [orL]
    rw [if_pos (by simpa using hz 0 (by omega))]
    have := orL_at l k (by simpa using hk) (fun j hj => by simpa using hz (j + 1) (by omega)) (by simpa using h)
    rw [this]; simp

set_option maxHeartbeats 1000000 in
theorem or_calls (w : World) (b c : Nat) (l : List Int) (hl : l.length ≤ 100) (hc : ∀ i, i < l.length → w.cell? ⟨b, i, none⟩ = some (.int .i64 (l.getD i 0))) :
    Calls Try.prog 33 #[.slice (some ⟨b, 0, none⟩) l.length c] w fun e w' => e = .returned (.int .i64 (orL l)) ∧ w' = w := by
  have HC := Lib.hid hc
  clear hc
  go_enter Try.func33, Try.ntmps33
  go_wp2
  go_loop [8] (fun i => ∃ k : Nat, k ≤ l.length ∧ i = .int .i64 k ∧ Hid (∀ j, j < k → l.getD j 0 = 0)) (fun i => l.length - (intOf i).toNat)
  case atStart => exact ⟨0, Nat.zero_le _, rfl, Lib.hid (fun j hj => by omega)⟩
  case round =>
    obtain ⟨k, hk, rfl, Z⟩ := hrel
    by_cases hlt : k < l.length
    · have hcell := HC.out k hlt
      by_cases hz : l.getD k 0 = 0
      · rw [hz] at hcell
        have HZ := Lib.hid hz
        clear hz
        go_wp2
        go_round
        case rel => exact ⟨k + 1, by omega, by go_num, Lib.hid (fun j hj => by
          by_cases hjk : j < k
          · exact Z.out j hjk
          · rw [show j = k by omega]; exact HZ.out)⟩
        case measure => simp [intOf]; omega
      · have hor := orL_at l k hlt Z.out hz
        have HO := Lib.hid hor
        have hz1 : (l.getD k 0 == 0) = false := beq_eq_false_iff_ne.2 hz
        have hz2 : (l.getD k 0 != 0) = true := by rw [bne_iff_ne]; exact hz
        clear hor hz
        generalize hv : l.getD k 0 = v at hcell hz1 hz2 HO
        clear hv
        go_wp2
        go_ret
        exact ⟨by rw [HO.out]; rfl, rfl⟩
    · have hor : orL l = 0 := orL_zeros l (fun x hx => by
        obtain ⟨j, hj, rfl⟩ := List.getElem_of_mem hx
        have := Z.out j (by omega)
        rwa [List.getD_eq_getElem?_getD, List.getElem?_eq_getElem hj] at this)
      have HO := Lib.hid hor
      clear hor
      go_wp2
      go_ret
      exact ⟨by rw [HO.out]; rfl, rfl⟩
end Go.Proofs.Ythapkpgkcckapaa.Pw
