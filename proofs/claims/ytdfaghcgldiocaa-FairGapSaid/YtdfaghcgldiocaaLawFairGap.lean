/-
  The law FairGap answers true for any two scripts, and leaves them as they were. No condition beyond the row's own.
-/
import Derived.Test.YtdfaghcgldiocaaRows
import Derived.Test.YtdfaghcgldiocaaRoundsPure
import Derived.Test.YtdfaghcgldiocaaGapWalk
import Derived.Test.YtdfaghcgldiocaaOpens
import Derived.WalkKit
import Derived.ProofKit
import Derived.OpenShut
import Derived.ShutString
import Derived.ChangeOld
import Derived.Below
import Derived.SizedLaws
namespace Go.Proofs.Ytdfaghcgldiocaa.fairGap
open Go.ChangeShapes Go.WideShapes Go.ChangeAt Go.RowKit Go.Proofs.Ytdfaghcgldiocaa.Opens Go.Proofs.YtdfaghcgldiocaaW.PrintWords Go.Proofs.Ytdfaghcgldiocaa.PFairRounds Go.Proofs.Ytdfaghcgldiocaa.Gaps Go.Proofs.Ytdfaghcgldiocaa.GapWalk
theorem own : ownKnob Try.prog.godebug = none := by kernel_rfl
theorem laidOut : laidOutB Try.prog = true := by kernel_rfl

theorem o3 : Opens Try.prog 3 (Kd.int .i64) := opens_int Try.underlying3
theorem o9 : Opens Try.prog 9 Kd.string := opens_string Try.underlying9
theorem c3 : Try.prog.cellsOf 3 = 1 := by kernel_rfl
theorem c9 : Try.prog.cellsOf 9 = 1 := by kernel_rfl
theorem c35 : Try.prog.cellsOf 35 = 5 := by kernel_rfl
theorem o35 : Opens Try.prog 35 k35 :=
  opens_iso (opens_struct Try.underlying35 (by
    rw [c35]
    exact opensF_cons (sz := 4) rfl c3 o3 (opensF_cons (sz := 3) rfl c3 o3 (opensF_cons (sz := 2) rfl c3 o3 (opensF_cons (sz := 1) rfl c3 o3 (opensF_one rfl c9 o9))))))
    (fun a => ⟨⟨a.1, a.2.1, a.2.2.1, a.2.2.2.1, a.2.2.2.2⟩, rfl⟩)

/-- What the config of two workers gives. -/
theorem gap_two (l : List S35) (hl : l.length ≤ 1000) : Ev (fun k => fair_Gap.f k 2 1 65536 l) (gap tk 3 l, 0) := by
  have h : fair_may.f 2 1 65536 = some true := by decide +kernel
  exact own_gap l hl 2 1 65536 true h (fun _ => by omega)

/-- The ticks of three nodes. -/
theorem ticks_cut (j : Nat) (hj : j < 3) (c : Int) (hc : 0 ≤ c) : mxr tk (j : Int) c (ticks 3) ≤ c + 3 ∧ cnt tk (j : Int) c (ticks 3) ≤ 3 := by
  have e : ticks 3 = [tick 0, tick 1, tick 2] := rfl
  rw [e]
  have h : ∀ (i n : Int) (d : Int), nxt tk n d (tick i) = if i = n then 0 else d + 1 := by
    intro i n d
    unfold nxt tk tick
    by_cases hi : i = n
    · rw [if_pos hi, if_pos (decide_eq_true ⟨rfl, hi⟩)]
    · rw [if_neg hi, if_neg (by rw [decide_eq_true_eq]; exact fun h => hi h.2)]
  simp only [mxr, cnt, h]
  obtain rfl | rfl | rfl : j = 0 ∨ j = 1 ∨ j = 2 := by omega
  · simp; omega
  · simp; omega
  · simp; omega

theorem gap_call (A0 : Option Addr) (c0 : Nat) (l0 : List S35) (A1 : Option Addr) (c1 : Nat) (l1 : List S35) (w : World) (hr0 : Kd.C k35 w A0 l0.length l0) (hc0 : l0.length ≤ c0) (hr1 : Kd.C k35 w A1 l1.length l1) (hc1 : l1.length ≤ c1) :
    Calls Try.prog 4 #[.slice A0 l0.length c0, .slice A1 l1.length c1] w fun e w' => e = .returned (.bool true) ∧ Below w.heap.size w w' := by
  obtain ⟨ka, ha⟩ := awake_ev
  by_cases h0 : l0.length ≤ 200
  · by_cases h1 : l1.length ≤ 200
    · have ht : (ticks 3).length = 3 := rfl
      obtain ⟨kp, hp⟩ := gap_two l0 (by omega)
      obtain ⟨kq, hq⟩ := gap_two l1 (by omega)
      obtain ⟨kr, hr⟩ := gap_two ([] ++ l0 ++ l1) (by simp; omega)
      obtain ⟨ks, hs⟩ := gap_two (l0 ++ ticks 3 ++ l1) (by simp [ht]; omega)
      have g0 : ∀ l : List S35, 0 ≤ gap tk 3 l := fun l => over_nonneg _ _
      refine walk_short (ka + kp + kq + kr + ks) A0 c0 l0 A1 c1 l1 _ _ rfl rfl _ _ _ _ w hr0 hc0 hr1 hc1 h0 h1 (hp _ (by omega)) (hq _ (by omega)) (hr _ (by omega)) (hs _ (by omega)) (ha _ (by omega))
        ⟨g0 _, gap_le_length tk 3 l0⟩ ⟨g0 _, gap_le_length tk 3 l1⟩ ⟨gap_append_ge tk 3 l0 l1, gap_append_le tk 3 l0 l1⟩ ⟨?_, gap_cut_le tk 3 l0 (ticks 3) l1 3 (by omega) ticks_cut⟩
      have := gap_append_ge tk 3 (l0 ++ ticks 3) l1
      have := gap_append_ge tk 3 l0 (ticks 3)
      omega
    · exact walk_long ka A0 c0 l0 A1 c1 l1 w (.inr ⟨h0, by omega⟩) (ha _ (Nat.le_refl _))
  · exact walk_long ka A0 c0 l0 A1 c1 l1 w (.inl (by omega)) (ha _ (Nat.le_refl _))

set_option maxRecDepth 100000 in
theorem lifted (os : Os) (started : os.Started) (H : Type) (enc : TypeId × Value → H) :
    ReturnsInHanded {} Try.checked os 4 .any (Rows.fairGapSpec.pre6 enc Try.prog Try.f4 Rows.fairGapRow.domain false) (Rows.fairGapSpec.post enc Try.prog Try.f4 false true false false) := by
  refine returnsInHanded_of_change_sized (C := Try.checked) own started (by kernel_rfl) Try.func4
    (ChangeSpec.witness6 (enc := enc) (C := Try.checked) false ⟨#[], #[.slice none 0 0, .slice none 0 0], []⟩ 8 (by kernel_rfl) (by kernel_rfl) (by kernel_rfl) (by kernel_rfl)) ?_
  intro W base args ds gs before hval0 hW hcnd hsz0 _
  have hval : ∀ (j : Nat) t v, Try.f4.params[j]? = some t → args[j]? = some v → Value.okWide Try.prog W .any base t v := hval0
  have hW' := hW
  obtain ⟨p, q, hA0, hV, rfl, hfz, hnd⟩ := hW
  have hA : DataW.TrodAll enc Try.prog W 0 (fun _ => true) true Try.f4.params.toList args.toList ds p := hA0
  rw [Try.params4] at hA hval
  obtain ⟨v0, vs0, d0, ds0, p0, q0, hargs, rfl, rfl, h0, r0⟩ := trodAll_cons hA
  obtain ⟨v1, vs1, d1, ds1, p1, q1, rfl, rfl, rfl, h1, r1⟩ := trodAll_cons r0
  obtain ⟨rfl, rfl, rfl⟩ := trodAll_nil r1
  obtain rfl : args = #[v0, v1] := by cases args; simp_all
  obtain ⟨rfl, rfl⟩ := trodVars_none hV
  have lt0 : ∀ x ∈ p0, x.block < W.heap.size := by obtain ⟨m, hm⟩ := h0; exact DataW.trod_lt m _ _ _ hm
  have lt1 : ∀ x ∈ p1, x.block < W.heap.size := by obtain ⟨m, hm⟩ := h1; exact DataW.trod_lt m _ _ _ hm
  obtain ⟨A0, n0, l0, rfl, hc0, k0⟩ := trod_slice Try.underlying24 c35 o35 (hval 0 24 v0 rfl rfl) h0
  obtain ⟨A1, n1, l1, rfl, hc1, k1⟩ := trod_slice Try.underlying24 c35 o35 (hval 1 24 v1 rfl rfl) h1
  clear hA0 hval0 hsz0
  refine (gap_call A0 n0 l0 A1 n1 l1 W k0 hc0 k1 hc1).mono fun e W' ⟨he, bel⟩ => ?_
  subst he
  exact ⟨_, rfl, _, _, _, [], _, [], hW', trodAll_mk1 (shut_bool Try.underlying4 _), (trodAll_cons_mk (Below.trod laidOut (by kernel_rfl) (of_decide_eq_true (by kernel_rfl)) h0 bel lt0) (trodAll_cons_mk (Below.trod laidOut (by kernel_rfl) (of_decide_eq_true (by kernel_rfl)) h1 bel lt1) trodAll_mk0)), rfl, bel.frame _, fun h => by cases h⟩
theorem over : Rows.fairGapRow.holds Try.pinned (OpenSpec.ofChange Rows.fairGapSpec) :=
  OpenClaim.holds_of_wide 4 Try.f4 rfl rfl rfl rfl rfl rfl rfl ⟨rfl, rfl, rfl, rfl, rfl⟩ rfl rfl rfl rfl rfl (by kernel_rfl) Try.func4 (by kernel_rfl)
    (of_decide_eq_true (by kernel_rfl)) (by unfold Func.isWrapper; first | (rw [if_pos (by decide +kernel)]; kernel_rfl) | (rw [if_neg (by decide +kernel)]; exact ⟨rfl, rfl⟩))
    (fun os started H enc _ => lifted os started H enc)
theorem proved : Rows.FairGapSaid := over
#print axioms proved
end Go.Proofs.Ytdfaghcgldiocaa.fairGap
namespace Go.Proofs.Ytdfaghcgldiocaa
/-- The row, under a short name, for the claim. -/
theorem fairGap_holds : Rows.FairGapSaid := fairGap.proved
end Go.Proofs.Ytdfaghcgldiocaa
