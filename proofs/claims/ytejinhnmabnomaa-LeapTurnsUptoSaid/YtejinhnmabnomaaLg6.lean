/-
  Whether a join is light. Conditions: the slices lie as told.
-/
import Derived.Test.YtejinhnmabnomaaLg3
namespace Go.Proofs.Ytejinhnmabnomaa.Lf
open Go.Deep Go.RowKit Go.Proofs.YtejinhnmabnomaaW.PrintWords Go.Proofs.Ytejinhnmabnomaa.Pm Go.Proofs.Ytejinhnmabnomaa.Pw

def sizesR (rels : List RelV) : List Nat := rels.map fun r => r.rows.length
def LiPost (w : World) (rels : List RelV) (e : Ending) (w' : World) : Prop := ∃ b : Bool, e = .returned (.bool b) ∧ (b = true → LightP (sizesR rels)) ∧ w = w'
set_option maxHeartbeats 1600000 in
theorem light_ok {w : World} {rv : Value} {rels : List RelV} (hr : G.SlL w encR rv rels) (hsv : ∀ r ∈ rels, ∃ A c, r.v = .slice A r.rows.length c) (hrl : rels.length ≤ 140737488355328) (hrs : ∀ r ∈ rels, r.rows.length ≤ 140737488355328) :
    Calls Try.prog 9 #[rv] w (LiPost w rels) := by
  obtain ⟨Ar, cr, rfl, hcr, _, _⟩ := id hr
  obtain ⟨nr, hnr⟩ : ∃ n, rels.length = n := ⟨_, rfl⟩
  rw [hnr] at hr hrl ⊢
  have HV := Lib.hid (And.intro hr (And.intro hnr (And.intro hsv hrs)))
  have hnrN : (nr : Int) ≤ 140737488355328 := by omega
  clear hr hnr hsv hrs hcr
  go_enter Try.func9, Try.ntmps9
  go_wp2_with fail
  go_loopg [3, 4] (nr + 1) (fun g s3 s4 wr => ∃ i Q : Nat, i ≤ nr ∧ i ≤ 9 ∧ nr - i < g ∧ s3 = .int .i64 Q ∧ s4 = .int .i64 i ∧ w = wr ∧ prodN (((sizesR rels).take i).map mL) = Q ∧ ∀ j, j ≤ i → prodN (((sizesR rels).take j).map mL) ≤ 20000)
  case atStart => exact ⟨0, 1, by omega, by omega, by omega, rfl, rfl, rfl, rfl, fun j hj => by
    have hj0 : j = 0 := by omega
    rw [hj0]
    show (1 : Nat) ≤ 20000
    omega⟩
  case round =>
    obtain ⟨i, Q, hi, hi9, hg, rfl, rfl, rfl, hQ, hall⟩ := hrel
    have HA := Lib.hid hall
    have hQb : Q ≤ 20000 := by rw [← hQ]; exact hall i (Nat.le_refl _)
    have HQ := Lib.hid hQ
    clear hQ hall
    by_cases hlt : i < nr
    · have hd : decide ((i : Int) < (nr : Int)) = true := by simp; omega
      have hd' : decide (i < nr) = true := by simp; omega
      have hi1 : (i : Int) < (nr : Int) := by omega
      by_cases h9 : i < 9
      · have hd9 : decide ((i : Int) < 9) = true := by simp; omega
        obtain ⟨r, hr⟩ : ∃ r, rels.getD i default = r := ⟨_, rfl⟩
        have hrm : r ∈ rels := by rw [← hr, getD_lt _ _ (by have := HV.out.2.1; omega)]; exact List.getElem_mem _
        obtain ⟨b, off, c', hv', hb, y0, y1, y2⟩ := rel_at HV.out.1 i (by have := HV.out.2.1; omega)
        injection hv' with e1 e2 e3
        subst e1
        rw [hr] at y2
        obtain ⟨A2, c2, hrv⟩ := HV.out.2.2.1 r hrm
        rw [hrv] at y2
        obtain ⟨nw, hnw⟩ : ∃ n, r.rows.length = n := ⟨_, rfl⟩
        have hnwb : nw ≤ 140737488355328 := by have := HV.out.2.2.2 r hrm; omega
        rw [hnw] at y2
        have hstep : prodN (((sizesR rels).take (i + 1)).map mL) = Q * mL nw := by
          have hs : i < (sizesR rels).length := by unfold sizesR; rw [List.length_map]; have := HV.out.2.1; omega
          rw [List.take_succ_eq_append_getElem hs, List.map_append, List.map_cons, List.map_nil, prodN_snoc, HQ.out]
          congr 1
          rw [← hnw, ← hr, getD_lt rels default (by have := HV.out.2.1; omega)]
          simp [sizesR]
        have hm1 : 1 ≤ mL nw := by unfold mL; omega
        have hm2 : mL nw ≤ 1000 := by unfold mL; omega
        have hmm : max (1 : Int) (min (nw : Int) 1000) = ((mL nw : Nat) : Int) := by unfold mL; omega
        obtain ⟨M, hM⟩ : ∃ M, mL nw = M := ⟨_, rfl⟩
        rw [hM] at hstep hm1 hm2 hmm
        obtain ⟨P, hP⟩ : ∃ P, Q * M = P := ⟨_, rfl⟩
        have hPb : P ≤ 20000000 := by
          rw [← hP]
          calc Q * M ≤ 20000 * 1000 := Nat.mul_le_mul hQb hm2
            _ = 20000000 := rfl
        have hPi : (Q : Int) * (M : Int) = (P : Int) := by rw [← hP]; exact (Int.natCast_mul Q M).symm
        have hPI : (P : Int) ≤ 20000000 := by omega
        rw [hP] at hstep
        have HS := Lib.hid hstep
        clear hr hrm hb y0 y1 e2 e3 hrv hnw hstep hM hP
        by_cases hp : P ≤ 20000
        · have hdp : decide ((20000 : Int) < (P : Int)) = false := by simp; omega
          have HPP := Lib.hid hp
          clear hp
          go_wp2_with fail
          go_roundg (nr - i)
          case measure => exact hg
          case rel =>
            refine ⟨i + 1, P, by omega, by omega, by omega, rfl, by go_num, rfl, HS.out, fun j hj => ?_⟩
            by_cases e : j = i + 1
            · rw [e, HS.out]; exact HPP.out
            · exact HA.out j (by omega)
        · have hdp : decide ((20000 : Int) < (P : Int)) = true := by simp; omega
          clear hp
          go_wp2_with fail
          go_ret
          exact ⟨false, rfl, (fun h => nomatch h), rfl⟩
      · have hd9 : decide ((i : Int) < 9) = false := by simp; omega
        have hn9 : decide ((nr : Int) ≤ 8) = false := by simp; omega
        go_wp2_with fail
        go_ret
        exact ⟨_, rfl, (fun h => absurd h (by simp)), rfl⟩
    · have hd : decide ((i : Int) < (nr : Int)) = false := by simp; omega
      have hd' : decide (i < nr) = false := by simp; omega
      by_cases hn8 : nr ≤ 8
      · have hn9 : decide ((nr : Int) ≤ 8) = true := by simp; omega
        have HL : Hid (LightP (sizesR rels)) := Lib.hid ⟨by unfold sizesR; rw [List.length_map]; have := HV.out.2.1; omega, fun j hj => HA.out j (by unfold sizesR at hj; rw [List.length_map] at hj; have := HV.out.2.1; omega)⟩
        go_wp2_with fail
        go_ret
        exact ⟨_, rfl, fun _ => HL.out, rfl⟩
      · have hn9 : decide ((nr : Int) ≤ 8) = false := by simp; omega
        go_wp2_with fail
        go_ret
        exact ⟨_, rfl, (fun h => absurd h (by simp)), rfl⟩
end Go.Proofs.Ytejinhnmabnomaa.Lf
