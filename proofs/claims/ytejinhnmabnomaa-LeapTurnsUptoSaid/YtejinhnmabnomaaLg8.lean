/-
  LeapJoins. Conditions: the slices lie as told, and are of a bounded bulk.
-/
import Derived.Test.YtejinhnmabnomaaLg5
import Derived.Test.YtejinhnmabnomaaLg6
namespace Go.Proofs.Ytejinhnmabnomaa.Lf
open Go.Deep Go.RowKit Go.Proofs.YtejinhnmabnomaaW.PrintWords Go.Proofs.Ytejinhnmabnomaa.Pm Go.Proofs.Ytejinhnmabnomaa.Pw
open Classical in
/-- What a join answers, as one word: its rows, and its number. -/
noncomputable def jAns (vars : Int) (keep : List Int) (rels : List RelV) (most : Int) : List (List Int) × Int :=
  if MayP vars keep rels most then (if most < ((joinL keep rels).length : Int) then ([], 110) else (joinL keep rels, 0)) else ([], 1)
theorem jAns_fit {vars : Int} {keep : List Int} {rels : List RelV} {most : Int} (hk : keep.length ≤ 1000) : (jAns vars keep rels most).1.length ≤ 1048576 ∧ ∀ r ∈ (jAns vars keep rels most).1, r.length ≤ 1000 := by
  unfold jAns
  split
  · rename_i hp
    split
    · exact ⟨by simp, by simp⟩
    · rename_i hn
      have := hp.m1
      refine ⟨by dsimp only; omega, fun r hr => ?_⟩
      obtain ⟨f, _, rfl⟩ := ((joinL_is hp).mem r).1 hr
      simp [keepN]; exact hk
  · exact ⟨by simp, by simp⟩
theorem jPost_ans {w : World} {vars : Int} {keep : List Int} {rels : List RelV} {most : Int} {e : Ending} {w' : World} (h : JPost w vars keep rels most e w') :
    ∃ A c, e = .returned (.tuple #[.slice A (jAns vars keep rels most).1.length c, .int .i64 (jAns vars keep rels most).2]) ∧ BelS w w' ∧ RowsOut w' (.slice A (jAns vars keep rels most).1.length c) (jAns vars keep rels most).1 := by
  obtain ⟨v, code, rfl, hb, hc⟩ := h
  have hnil : RowsOut w' (.slice none 0 0) [] := (rowsS_nil w').out
  unfold jAns
  rcases hc with ⟨hn, rfl, rfl⟩ | ⟨hp, hn, rfl, rfl⟩ | ⟨hp, hn, rfl, ho⟩
  · rw [if_neg hn]
    exact ⟨none, 0, rfl, hb, hnil⟩
  · rw [if_pos hp, if_pos hn]
    exact ⟨none, 0, rfl, hb, hnil⟩
  · rw [if_pos hp, if_neg (by omega)]
    obtain ⟨A, c, vs, rfl, _⟩ := id ho.own
    exact ⟨A, c, rfl, hb, ho⟩
theorem RelIn.more {w w' : World} {r : RelV} (h : RelIn w r) (hb : BelS w w') : RelIn w' r := ⟨h.sl.below hb, h.top⟩
set_option maxHeartbeats 1600000 in
set_option maxRecDepth 100000 in
theorem joins_ok (w : World) (a0 a1 : Int) (kv rv : Value) (keep : List Int) (rels : List RelV) (hk : G.SlL w enc1 kv keep) (hr : G.SlL w encR rv rels) (hin : ∀ r ∈ rels, RelIn w r ∧ r.rows.length ≤ 1048576) (hkl : keep.length ≤ 1048576) (hrl : rels.length ≤ 1048576) :
    Calls Try.prog 3 #[.agg #[.int .i64 a0, .int .i64 a1], kv, rv] w fun e w' => e = .returned (.bool true) ∧ BelS w w' := by
  obtain ⟨Ak, ck, rfl, _⟩ := id hk
  obtain ⟨Ar, cr, rfl, _⟩ := id hr
  have HA := Lib.hid (fun w => awake_ok w)
  have HV := Lib.hid (And.intro hk (And.intro hr hin))
  have HLI := Lib.hid (fun (W : World) (hW : BelS w W) => light_ok (hr.below hW) (fun r hr => by obtain ⟨A, c, h, _⟩ := (hin r hr).1.sl; exact ⟨A, c, h⟩) (by omega) (fun r hr => by have := (hin r hr).2; omega))
  clear hk hr hin
  go_enter Try.func3, Try.ntmps3
  go_wp2_with fail
  have hb0 := (BelS.refl w).alloc (.cells #[.int .i64 a0, .int .i64 a1] 22)
  have hbx := heap_alloc_new w (.cells #[.int .i64 a0, .int .i64 a1] 22)
  generalize w.alloc (.cells #[.int .i64 a0, .int .i64 a1] 22) = w1 at hb0 hbx ⊢
  have q0 : w1.cell? ⟨w.heap.size, 0, none⟩ = some (.int .i64 a0) := (heap_cell hbx 0).trans rfl
  have q1 : w1.cell? ⟨w.heap.size, 1, none⟩ = some (.int .i64 a1) := (heap_cell hbx 1).trans rfl
  refine (HLI.out w1 hb0).mono ?_
  rintro e w2 ⟨b, rfl, hb, rfl⟩
  have HB := Lib.hid hb
  have HB0 := Lib.hid hb0
  clear hb hb0 hbx
  cases b
  · go_wp2_with fail
    refine (HA.out _).mono ?_
    rintro e w5 ⟨rfl, hb5⟩
    have HB5 := Lib.hid (HB0.out.then hb5)
    clear hb5
    go_wp2
    go_ret
    exact ⟨rfl, HB5.out⟩
  · by_cases h40 : keep.length ≤ 40
    case neg =>
      go_wp2_with fail
      refine (HA.out _).mono ?_
      rintro e w5 ⟨rfl, hb5⟩
      have HB5 := Lib.hid (HB0.out.then hb5)
      clear hb5
      go_wp2
      go_ret
      exact ⟨rfl, HB5.out⟩
    have HF := Lib.hid (jAns_fit (vars := a0) (rels := rels) (most := a1) (show keep.length ≤ 1000 by omega))
    have HL := Lib.hid (HB.out rfl)
    have HLR := Lib.hid (show rels.length ≤ 8 by have := HL.out.len; unfold sizesR at this; rw [List.length_map] at this; exact this)
    have HSZ := Lib.hid (show ∀ i, i ≤ rels.length → prodL ((relN rels).take i) ≤ 34359738368 from fun i hi => light_few (relN rels) (fun r hr => by
      obtain ⟨q, hq, rfl⟩ := List.mem_map.1 hr
      exact (HV.out.2.2 q hq).2) (by
      have h := HL.out
      have e : (relN rels).map (fun r => r.rows.length) = sizesR rels := by unfold relN sizesR; rw [List.map_map]; rfl
      rw [e]; exact h) i (by unfold relN; rw [List.length_map]; exact hi))
    have HJ1 := Lib.hid (fun (W : World) (hW : BelS w W) => join_ok a0 a1 (.slice Ak keep.length ck) (.slice Ar rels.length cr) keep rels (HV.out.1.below hW) (HV.out.2.1.below hW) (fun r hr => (HV.out.2.2 r hr).1.more hW) (by omega) (by have := HLR.out; omega) (fun r hr => by have := (HV.out.2.2 r hr).2; omega))
    have HJ2 := Lib.hid (fun (W : World) (hW : BelS w W) => rjoin_ok a0 a1 (.slice Ak keep.length ck) (.slice Ar rels.length cr) keep rels (HV.out.1.below hW) (HV.out.2.1.below hW) (fun r hr => (HV.out.2.2 r hr).1.more hW) (by omega) (by have := HLR.out; omega) (fun r hr => by have := (HV.out.2.2 r hr).2; omega) HSZ.out)
    have hd40 : decide ((40 : Int) < (keep.length : Int)) = false := by simp; omega
    go_wp2_with fail
    refine (HJ1.out _ HB0.out).mono ?_
    rintro e w3 hp3
    obtain ⟨A3, c3, rfl, hb3, ho3⟩ := jPost_ans hp3
    have HB3 := Lib.hid (HB0.out.then hb3)
    have q0 := hb3.cell q0
    have q1 := hb3.cell q1
    have HO3 := Lib.hid ho3
    clear hp3 hb3 ho3
    generalize hans : jAns a0 keep rels a1 = ans at HF HO3 ⊢
    obtain ⟨J, code⟩ := ans
    have HANS := Lib.hid hans
    clear hans
    dsimp only at HF HO3 ⊢
    obtain ⟨nj, hnj⟩ : ∃ n, J.length = n := ⟨_, rfl⟩
    rw [hnj]
    have HNJ := Lib.hid hnj
    clear hnj
    go_wp2_with fail
    refine (HJ2.out _ HB3.out).mono ?_
    rintro e w4 hp4
    obtain ⟨A4, c4, rfl, hb4, ho4⟩ := jPost_ans hp4
    rw [HANS.out] at ho4 ⊢
    dsimp only at ho4 ⊢
    have HB4 := Lib.hid (HB3.out.then hb4)
    have HO3' := Lib.hid (HO3.out.more hb4)
    have HO4 := Lib.hid ho4
    clear hp4 hb4 ho4 q0 q1
    rw [HNJ.out]
    have HS := Lib.hid (same_ok HO3'.out HO4.out (by have := HF.out.1; omega) (by have := HF.out.1; omega) (fun r hr => by have := HF.out.2 r hr; omega) (fun r hr => by have := HF.out.2 r hr; omega))
    rw [HNJ.out] at HS
    go_wp2_with fail
    refine HS.out.mono ?_
    rintro e w5 ⟨he, q, hq⟩
    obtain rfl : e = .returned (.bool true) := by simpa using he
    clear he
    have HB5 := Lib.hid (show BelS w w5 by rw [hq]; exact HB4.out.drewN q)
    clear hq
    go_wp2_with fail
    refine (HA.out _).mono ?_
    rintro e w6 ⟨rfl, hb6⟩
    have HB6 := Lib.hid (HB5.out.then hb6)
    clear hb6
    go_wp2
    go_ret
    exact ⟨rfl, HB6.out⟩
end Go.Proofs.Ytejinhnmabnomaa.Lf
