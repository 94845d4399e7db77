/-
  sort.Search with a function value that only reads; the predicates that a walk of an index hands to it. Conditions: the function value answers as told in every world that has drawn more; what it answers does not fall.
-/
import Derived.Test.YthapkpgkcckapaaPw2
import Derived.Shelf.Lays
import Derived.Deep.LoopGhost
import Derived.Deep.Draws
import Derived.LoopTactic
namespace Go.Proofs.Ythapkpgkcckapaa.Pw
open Go.RowKit Go.Proofs.YthapkpgkcckapaaW.PrintWords Go.Proofs.Ythapkpgkcckapaa.Pm

/-- What does not fall has a first place. -/
theorem first_ex (p : Nat → Bool) (f : Nat) : ∀ (d t : Nat), t = f + d → (∀ a b, f ≤ a → a ≤ b → b < t → p a = true → p b = true) →
    ∃ r, f ≤ r ∧ r ≤ t ∧ (∀ k, f ≤ k → k < r → p k = false) ∧ (∀ k, r ≤ k → k < t → p k = true)
  | 0, t, h, _ => ⟨f, Nat.le_refl _, by omega, fun k _ _ => by omega, fun k _ _ => by omega⟩
  | d + 1, t, h, hm => by
    obtain ⟨r, h1, h2, h3, h4⟩ := first_ex p f d (f + d) rfl (fun a b ha hab hb => hm a b ha hab (by omega))
    by_cases hr : r < f + d
    · refine ⟨r, h1, by omega, h3, fun k hk hkt => ?_⟩
      by_cases hkd : k < f + d
      · exact h4 k hk hkd
      · exact hm r k h1 hk hkt (h4 r (Nat.le_refl _) hr)
    · obtain rfl : r = f + d := by omega
      cases hp : p (f + d) with
      | true => exact ⟨f + d, h1, by omega, h3, fun k hk hkt => by rw [show k = f + d by omega]; exact hp⟩
      | false => exact ⟨f + d + 1, by omega, by omega, fun k hk hkt => by
          by_cases hkd : k < f + d
          · exact h3 k hk hkd
          · rw [show k = f + d by omega]; exact hp, fun k hk hkt => by omega⟩

set_option maxHeartbeats 4000000 in
set_option maxRecDepth 1000000 in
theorem search_calls (g : Nat) (cb : Array Value) (n : Nat) (p : Nat → Bool) (r : Nat) (w : World) (eg : ∀ args w, (callFunc g args).run Try.prog w = .ok (.enter g args) w) (hsz : n < 4611686018427387904)
    (hf : ∀ (m i : Nat), i < n → Calls Try.prog g (#[.int .i64 i] ++ cb) (w.drewN m) fun e w' => e = .returned (.bool (p i)) ∧ ∃ q, w' = (w.drewN m).drewN q)
    (hr : r ≤ n) (h1 : ∀ t, t < r → p t = false) (h2 : ∀ t, r ≤ t → t < n → p t = true) :
    Calls Try.prog 51 #[.int .i64 n, .func (.func g) #[] cb] w fun e w' => e = .returned (.int .i64 r) ∧ ∃ q, w' = w.drewN q := by
  have HF := Lib.hid hf
  have M1 := Lib.hid h1
  have M2 := Lib.hid h2
  clear hf h1 h2
  go_enter Try.func51, Try.ntmps51
  go_wp2
  go_loopg [5, 6] n (fun kx s5 s6 wr => ∃ (lo hi q : Nat), s5 = .int .i64 lo ∧ s6 = .int .i64 hi ∧ lo ≤ hi ∧ hi ≤ n ∧ hi - lo ≤ kx ∧ wr = w.drewN q ∧ lo ≤ r ∧ r ≤ hi)
  case atStart => exact ⟨0, n, 0, rfl, rfl, Nat.zero_le _, Nat.le_refl _, by omega, rfl, Nat.zero_le _, hr⟩
  case round =>
    obtain ⟨lo, hi, q, rfl, rfl, hlh, hin, hg, rfl, hlr, hrh⟩ := hrel
    by_cases hlt : lo < hi
    · have hc := HF.out q ((lo + hi) / 2) (by omega)
      rw [show (((lo + hi) / 2 : Nat) : Int) = ((lo : Int) + (hi : Int)) / 2 by omega] at hc
      cases hp : p ((lo + hi) / 2) <;> rw [hp] at hc
      · have HP : (lo + hi) / 2 < r := by
          by_cases h : (lo + hi) / 2 < r
          · exact h
          · have := M2.out ((lo + hi) / 2) (by omega) (by omega); rw [hp] at this; cases this
        clear hp
        go_wp2_with (go_at_fn g; refine hc.mono ?_; rintro e w' ⟨rfl, nq, rfl⟩)
        go_roundg (hi - ((lo + hi) / 2 + 1))
        case measure => omega
        case rel =>
          exact ⟨(lo + hi) / 2 + 1, hi, q + nq, by rw [show ((lo : Int) + (hi : Int)) / 2 + 1 = (((lo + hi) / 2 + 1 : Nat) : Int) by omega], rfl, by omega, hin, Nat.le_refl _, rfl, by omega, hrh⟩
      · have HP : r ≤ (lo + hi) / 2 := by
          by_cases h : r ≤ (lo + hi) / 2
          · exact h
          · have := M1.out ((lo + hi) / 2) (by omega); rw [hp] at this; cases this
        clear hp
        go_wp2_with (go_at_fn g; refine hc.mono ?_; rintro e w' ⟨rfl, nq, rfl⟩)
        go_roundg ((lo + hi) / 2 - lo)
        case measure => omega
        case rel =>
          exact ⟨lo, (lo + hi) / 2, q + nq, rfl, by rw [show ((lo : Int) + (hi : Int)) / 2 = (((lo + hi) / 2 : Nat) : Int) by omega], by omega, by omega, Nat.le_refl _, rfl, hlr, HP⟩
    · obtain rfl : hi = lo := by omega
      obtain rfl : hi = r := by omega
      go_wp2
      go_ret
      exact ⟨rfl, q, rfl⟩

/-- 'k > n', 'k >= n'. -/
theorem gt41 (w : World) (b : Nat) (x n : Int) (h : w.cell? ⟨b, 0, none⟩ = some (.int .i64 n)) : Calls Try.prog 41 #[.int .i64 x, .pointer (some ⟨b, 0, none⟩)] w fun e w' => e = .returned (.bool (decide (n < x))) ∧ w = w' := by
  go_enter Try.func41, Try.ntmps41
  go_wp2
  go_ret
  exact ⟨rfl, rfl⟩
theorem gt44 (w : World) (b : Nat) (x n : Int) (h : w.cell? ⟨b, 0, none⟩ = some (.int .i64 n)) : Calls Try.prog 44 #[.int .i64 x, .pointer (some ⟨b, 0, none⟩)] w fun e w' => e = .returned (.bool (decide (n < x))) ∧ w = w' := by
  go_enter Try.func44, Try.ntmps44
  go_wp2
  go_ret
  exact ⟨rfl, rfl⟩
theorem ge46 (w : World) (b : Nat) (x n : Int) (h : w.cell? ⟨b, 0, none⟩ = some (.int .i64 n)) : Calls Try.prog 46 #[.int .i64 x, .pointer (some ⟨b, 0, none⟩)] w fun e w' => e = .returned (.bool (decide (n ≤ x))) ∧ w = w' := by
  go_enter Try.func46, Try.ntmps46
  go_wp2
  go_ret
  exact ⟨rfl, rfl⟩

/-- What a walk's 'first' hands to the search: the predicate of a row's number. -/
theorem pred52 (w : World) (g X : Nat) (s : St) (o : Ord) (rows : List R3) (b off c : Nat) (h : w.heap[g]? = some (wkS X s)) (hX : Idx w X o rows b off c) (hd : 0 < s.d ∧ s.d ≤ 3)
    (gi : Nat) (cb : Array Value) (eg : ∀ args w, (callFunc gi args).run Try.prog w = .ok (.enter gi args) w) (p : Int → Bool) (from_ : Nat) (bi bw bs : Nat)
    (hi : w.cell? ⟨bi, 0, none⟩ = some (.func (.func gi) #[] cb)) (hw : w.cell? ⟨bw, 0, none⟩ = some (.pointer (some ⟨g, 0, none⟩))) (hs : w.cell? ⟨bs, 0, none⟩ = some (.int .i64 from_))
    (hp : ∀ (m : Nat) (x : Int), Calls Try.prog gi (#[.int .i64 x] ++ cb) (w.drewN m) fun e w' => e = .returned (.bool (p x)) ∧ w.drewN m = w')
    (k : Nat) (hk : from_ + k < rows.length) :
    Calls Try.prog 52 #[.int .i64 k, .pointer (some ⟨bi, 0, none⟩), .pointer (some ⟨bw, 0, none⟩), .pointer (some ⟨bs, 0, none⟩)] w fun e w' => e = .returned (.bool (p (num rows o s.d (from_ + k)))) ∧ ∃ q, w' = w.drewN q := by
  have D := fun n : Nat => of_st (w.drewN n) g X s o rows b off c h ⟨hX.blk, hX.ox, hX.oy, hX.oz, hX.cell, hX.lenc, hX.small⟩ hd (from_ + k) hk
  have hsm := hX.small
  have e1 : IntKind.i64.wrap ((from_ : Int) + (k : Int)) = ((from_ + k : Nat) : Int) := by
    rw [show ((from_ + k : Nat) : Int) = (from_ : Int) + (k : Int) by omega]
    exact IntWalk.i64_in _ (by omega)
  have HP := Lib.hid hp
  clear hp h hX hk hsm
  go_enter Try.func52, Try.ntmps52
  go_wp2
  go_quiet (first | (go_at_call 39; exact Calls.quiet_of (D _)) | (go_at_fn gi; exact (HP.out _ _).mono fun _ _ ⟨he, hq⟩ => ⟨he, _, hq.symm⟩))
  go_wp2
  go_ret
  exact ⟨rfl, _, rfl⟩
end Go.Proofs.Ythapkpgkcckapaa.Pw
