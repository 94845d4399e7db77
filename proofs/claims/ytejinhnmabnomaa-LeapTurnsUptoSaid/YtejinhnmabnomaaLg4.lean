/-
  The document's 'May'. Conditions: the slices lie as told.
-/
import Derived.Test.YtejinhnmabnomaaLg0
namespace Go.Proofs.Ytejinhnmabnomaa.Lf
open Go.Deep Go.RowKit Go.Proofs.YtejinhnmabnomaaW.PrintWords Go.Proofs.Ytejinhnmabnomaa.Pm Go.Proofs.Ytejinhnmabnomaa.Pw

theorem inE {w : World} {v : Value} {l : List Int} (x : Int) (p : Bool) (hp : decide (x ∈ l) = p) (hv : G.SlL w enc1 v l) (hl : l.length ≤ 140737488355328) :
    Calls Try.prog 35 #[v, .int .i64 x] w fun e w' => e = .returned (.bool p) ∧ ∃ m, w' = w.drewN m := by
  refine (in_ok x hv hl).mono ?_
  rintro e w' ⟨rfl, rfl⟩
  exact ⟨by rw [hp], 0, rfl⟩
theorem few_of_nodup {l : List Int} {n : Nat} (hd : l.Nodup) (h : ∀ x ∈ l, 0 ≤ x ∧ x < (n : Int)) : l.length ≤ n := by
  have := nodup_len (l := (List.range n).map fun i : Nat => [(i : Int)]) (E := l.map fun x : Int => [x]) (by
    rw [List.Nodup, List.pairwise_map]
    exact hd.imp (fun h e => h (by simpa using e))) (fun x hx => by
    obtain ⟨y, hy, rfl⟩ := List.mem_map.1 hx
    have := h y hy
    exact List.mem_map.2 ⟨y.toNat, List.mem_range.2 (by omega), by congr 1; omega⟩)
  simpa using this
/-- What the second loop has brought. -/
structure Mh (w wr : World) (v : Value) (rels : List RelV) (i : Nat) (nv : Nat) : Prop where
  own : G.OwnL wr w.heap.size 3 1 enc1 v (abs_ (rels.take i))
  below : BelS w wr
  rr : ∀ r ∈ rels.take i, 0 ≤ r.A ∧ r.A < (nv : Int) ∧ 0 ≤ r.B ∧ r.B < (nv : Int)
theorem abs_len (rels : List RelV) (i : Nat) : (abs_ (rels.take i)).length ≤ 2 * rels.length := by
  have h : ∀ l : List RelV, (abs_ l).length = 2 * l.length := fun l => by
    induction l with
    | nil => rfl
    | cons r l ih =>
      unfold abs_ at ih ⊢
      rw [List.flatMap_cons, List.length_append, ih]
      simp; omega
  rw [h, List.length_take]
  omega
theorem info_i : (Try.prog.info? 3).map (fun i => (i.zero, i.size, i.bytes)) = some (some (.int .i64 0), 1, 8) := by kernel_rfl
set_option maxHeartbeats 3200000 in
set_option maxRecDepth 100000 in
theorem rmay_ok {w : World} (vars most : Int) (kv rv : Value) (keep : List Int) (rels : List RelV) (hk : G.SlL w enc1 kv keep) (hr : G.SlL w encR rv rels) (hsv : ∀ r ∈ rels, ∃ A n c, r.v = .slice A n c) (hkl : keep.length ≤ 140737488355328) (hrl : rels.length ≤ 1000000000000) :
    Calls Try.prog 21 #[.int .i64 vars, kv, rv, .int .i64 most] w (MPost w (MayP vars keep rels most)) := by
  obtain ⟨Ak, ck, rfl, hck, _, _⟩ := id hk
  obtain ⟨Ar, cr, rfl, hcr, _, _⟩ := id hr
  obtain ⟨nk, hnk⟩ : ∃ n, keep.length = n := ⟨_, rfl⟩
  obtain ⟨nr, hnr⟩ : ∃ n, rels.length = n := ⟨_, rfl⟩
  rw [hnk] at hk hkl hck ⊢
  rw [hnr] at hr hrl ⊢
  have HV := Lib.hid (And.intro hk (And.intro hnk (And.intro hr hnr)))
  have HSV := Lib.hid hsv
  clear hsv hk hnk hr hnr hcr
  have hnkN : (nk : Int) ≤ 140737488355328 := by omega
  have hckN : (nk : Int) ≤ (ck : Int) := by omega
  have hnrN : (nr : Int) ≤ 1000000000000 := by omega
  by_cases h1 : vars < 1
  · have hd1 : decide (vars < 1) = true := by simpa using h1
    have HN : Hid (¬ MayP vars keep rels most) := Lib.hid (fun m => by have := m.v1; omega)
    clear h1
    go_enter Try.func21, Try.ntmps21
    go_wp2_with fail
    go_ret
    exact mp_no HN.out (Below.refl _ _)
  have hd1 : decide (vars < 1) = false := by simpa using h1
  by_cases h2 : 16 < vars
  · have hd2 : decide (16 < vars) = true := by simpa using h2
    have HN : Hid (¬ MayP vars keep rels most) := Lib.hid (fun m => by have := m.v16; omega)
    clear h1 h2
    go_enter Try.func21, Try.ntmps21
    go_wp2_with fail
    go_ret
    exact mp_no HN.out (Below.refl _ _)
  have hd2 : decide (16 < vars) = false := by simpa using h2
  by_cases h3 : most < 0
  · have hd3 : decide (most < 0) = true := by simpa using h3
    have HN : Hid (¬ MayP vars keep rels most) := Lib.hid (fun m => by have := m.m0; omega)
    clear h1 h2 h3
    go_enter Try.func21, Try.ntmps21
    go_wp2_with fail
    go_ret
    exact mp_no HN.out (Below.refl _ _)
  have hd3 : decide (most < 0) = false := by simpa using h3
  by_cases h4 : 1048576 < most
  · have hd4 : decide (1048576 < most) = true := by simpa using h4
    have HN : Hid (¬ MayP vars keep rels most) := Lib.hid (fun m => by have := m.m1; omega)
    clear h1 h2 h3 h4
    go_enter Try.func21, Try.ntmps21
    go_wp2_with fail
    go_ret
    exact mp_no HN.out (Below.refl _ _)
  have hd4 : decide (1048576 < most) = false := by simpa using h4
  by_cases h5 : nk = 0
  · have hd5 : ((nk : Int) == 0) = true := by simp; omega
    have HN : Hid (¬ MayP vars keep rels most) := Lib.hid (fun m => m.ne (List.eq_nil_of_length_eq_zero (by have := HV.out.2.1; omega)))
    clear h1 h2 h3 h4 h5
    go_enter Try.func21, Try.ntmps21
    go_wp2_with fail
    go_ret
    exact mp_no HN.out (Below.refl _ _)
  have hd5 : ((nk : Int) == 0) = false := by simp; omega
  by_cases h6 : 16 < nk
  · have hd6 : decide ((16 : Int) < (nk : Int)) = true := by simp; omega
    have HN : Hid (¬ MayP vars keep rels most) := Lib.hid (fun m => by have := few_of_nodup (n := 16) m.nd (fun x hx => by have := m.kr x hx; have := m.v16; omega); have := HV.out.2.1; omega)
    clear h1 h2 h3 h4 h5 h6
    go_enter Try.func21, Try.ntmps21
    go_wp2_with fail
    go_ret
    exact mp_no HN.out (Below.refl _ _)
  have hd6 : decide ((16 : Int) < (nk : Int)) = false := by simp; omega
  obtain ⟨nv, hnv⟩ : ∃ nv : Nat, vars = nv := ⟨vars.toNat, by omega⟩
  subst hnv
  have H0 : Hid (1 ≤ (nv : Int) ∧ (nv : Int) ≤ 16 ∧ 0 ≤ most ∧ most ≤ 1048576 ∧ keep ≠ []) := Lib.hid ⟨by omega, by omega, by omega, by omega, fun e => by have := HV.out.2.1; rw [e] at this; simp at this; omega⟩
  have hv1 : 1 ≤ (nv : Int) := by omega
  have hv16 : (nv : Int) ≤ 16 := by omega
  clear h1 h2 h3 h4 h5 h6
  go_enter Try.func21, Try.ntmps21
  go_wp2_with fail
  go_loopg [9] (nk + 1) (fun g s9 wr => ∃ k q : Nat, k ≤ nk ∧ nk - k < g ∧ s9 = .int .i64 k ∧ wr = w.drewN q ∧ M1 nv (keep.take k))
  case atStart => exact ⟨0, 0, by omega, by omega, rfl, rfl, ⟨by simp, by simp⟩⟩
  case round =>
    obtain ⟨k, q, hk, hg, rfl, rfl, hm1⟩ := hrel
    have HM := Lib.hid hm1
    clear hm1
    obtain ⟨wq, hwq⟩ : ∃ x, w.drewN q = x := ⟨_, rfl⟩
    rw [hwq]
    have HWQ := Lib.hid hwq
    have HBQ := Lib.hid (show BelS w wq by rw [← hwq]; exact below_drewN w q)
    have HBQ2 := Lib.hid (fun n => show BelS wq (wq.drewN n) from below_drewN wq n)
    clear hwq
    by_cases hlt : k < nk
    · have hd : decide ((k : Int) < (nk : Int)) = true := by simp; omega
      have hl2 : (k : Int) < (nk : Int) := by omega
      have hlc : (k : Int) ≤ (ck : Int) := by omega
      obtain ⟨b, off, c', hv', _, hb, hcell⟩ := sl_one HV.out.1 0 k (by have := HV.out.2.1; omega)
      injection hv' with e1 e2 e3
      subst e1
      have hcell := HBQ.out.cell hcell
      obtain ⟨x, hx⟩ : ∃ x, keep.getD k 0 = x := ⟨_, rfl⟩
      rw [hx] at hcell
      have HX := Lib.hid hx
      clear hx e2 e3 hb
      by_cases x0 : x < 0
      · have hdx : decide (x < 0) = true := by simpa using x0
        have HN := Lib.hid (not_m1 (vars := nv) (by have := HV.out.2.1; omega) HX.out (.inl x0))
        clear x0
        go_wp2_with fail
        go_quiet (fail)
        all_goals
          go_wp2_with fail
          go_ret
          exact mp_no (fun m => HN.out ⟨m.nd, m.kr⟩) (HBQ.out.then (HBQ2.out _))
      have hdx : decide (x < 0) = false := by simpa using x0
      by_cases x1 : (nv : Int) ≤ x
      · have hdy : decide ((nv : Int) ≤ x) = true := by simpa using x1
        have HN := Lib.hid (not_m1 (vars := nv) (by have := HV.out.2.1; omega) HX.out (.inr (.inl x1)))
        clear x0 x1
        go_wp2_with fail
        go_quiet (fail)
        all_goals
          go_wp2_with fail
          go_ret
          exact mp_no (fun m => HN.out ⟨m.nd, m.kr⟩) (HBQ.out.then (HBQ2.out _))
      have hdy : decide ((nv : Int) ≤ x) = false := by simpa using x1
      obtain ⟨p, hp⟩ : ∃ p, decide (x ∈ keep.take k) = p := ⟨_, rfl⟩
      have HC := Lib.hid (fun n => inE x p hp ((HV.out.1.take rfl k (by have := HV.out.2.1; omega)).below (HBQ.out.then (HBQ2.out n))) (by rw [List.length_take]; omega))
      have HX1 := Lib.hid (And.intro x0 x1)
      have HP := Lib.hid hp
      clear hp x0 x1
      cases p
      · go_wp2_with fail
        go_quiet ((go_at_call 35; with_reducible exact Calls.quiet_of (HC.out _)))
        all_goals
          go_wp2_with fail
          go_roundg (nk - k)
          case measure => exact hg
          case rel =>
            have ht := take_snoc keep 0 k (by have := HV.out.2.1; omega)
            rw [HX.out] at ht
            refine ⟨k + 1, _, by omega, by omega, by go_num, by rw [← HWQ.out]; exact World.drewN_drewN w q _, ?_⟩
            rw [ht]
            exact m1_snoc HM.out (by have := HX1.out.1; omega) (by have := HX1.out.2; omega) (of_decide_eq_false HP.out)
      · have HN := Lib.hid (not_m1 (vars := nv) (by have := HV.out.2.1; omega) HX.out (.inr (.inr (of_decide_eq_true HP.out))))
        go_wp2_with fail
        go_quiet ((go_at_call 35; with_reducible exact Calls.quiet_of (HC.out _)))
        all_goals
          go_wp2_with fail
          go_ret
          exact mp_no (fun m => HN.out ⟨m.nd, m.kr⟩) (HBQ.out.then (HBQ2.out _))
    · have HM1 : Hid (M1 nv keep) := Lib.hid (by have := HM.out; rwa [List.take_of_length_le (by have := HV.out.2.1; omega)] at this)
      have hd : decide ((k : Int) < (nk : Int)) = false := by simp; omega
      have hd' : decide (k < nk) = false := by simp; omega
      go_wp2_with fail
      go_loopg [10, 11] (nr + 1) (fun g s10 s11 wx => ∃ i : Nat, i ≤ nr ∧ nr - i < g ∧ s11 = .int .i64 i ∧ Mh w wx s10 rels i nv)
      case atStart => exact ⟨0, by omega, by omega, rfl, ⟨G.OwnL.nil _ _ _ _ _, HBQ.out, fun r hr => absurd hr (by simp)⟩⟩
      case round =>
        clear HM HWQ HBQ HBQ2
        obtain ⟨i, hi, hg2, rfl, hmh⟩ := hrel
        have HT := Lib.hid hmh
        clear hmh
        by_cases hlt2 : i < nr
        · have hd3 : decide ((i : Int) < (nr : Int)) = true := by simp; omega
          have hl3 : (i : Int) < (nr : Int) := by omega
          obtain ⟨b, off, c', hv', hb, y0, y1, y2⟩ := rel_at HV.out.2.2.1 i (by have := HV.out.2.2.2; omega)
          injection hv' with e1 e2 e3
          subst e1
          have y0 := HT.out.below.cell y0
          have y1 := HT.out.below.cell y1
          obtain ⟨r, hr⟩ : ∃ r, rels.getD i default = r := ⟨_, rfl⟩
          rw [hr] at y0 y1
          have HRR := Lib.hid hr
          clear hr e2 e3 hb y2
          have hrm : r ∈ rels := by rw [← HRR.out, getD_lt _ _ (by have := HV.out.2.2.2; omega)]; exact List.getElem_mem _
          have HRM := Lib.hid hrm
          obtain ⟨rA, hrA⟩ : ∃ x, r.A = x := ⟨_, rfl⟩
          obtain ⟨rB, hrB⟩ : ∃ x, r.B = x := ⟨_, rfl⟩
          rw [hrA] at y0
          rw [hrB] at y1
          have HAB := Lib.hid (And.intro hrA hrB)
          clear hrm hrA hrB
          go_wp2_with fail
          go_quiet (fail)
          obtain ⟨wy, hwy⟩ : ∃ x, wr.drewN nq = x := ⟨_, rfl⟩
          rw [hwy]
          have HBY := Lib.hid (show BelS wr wy by rw [← hwy]; exact below_drewN wr nq)
          clear hwy y0 y1
          have HOY := Lib.hid (HT.out.own.below HBY.out)
          have HBW := Lib.hid (HT.out.below.then HBY.out)
          by_cases z0 : rA < 0
          · have hz0 : decide (rA < 0) = true := by simpa using z0
            have HN : Hid (¬ MayP nv keep rels most) := Lib.hid (fun m => by have := m.rr r HRM.out; rw [HAB.out.1, HAB.out.2] at this; omega)
            clear z0
            go_wp2_with fail
            go_ret
            exact mp_no HN.out HBW.out
          have hz0 : decide (rA < 0) = false := by simpa using z0
          by_cases z1 : (nv : Int) ≤ rA
          · have hz1 : decide ((nv : Int) ≤ rA) = true := by simpa using z1
            have HN : Hid (¬ MayP nv keep rels most) := Lib.hid (fun m => by have := m.rr r HRM.out; rw [HAB.out.1, HAB.out.2] at this; omega)
            clear z1
            go_wp2_with fail
            go_ret
            exact mp_no HN.out HBW.out
          have hz1 : decide ((nv : Int) ≤ rA) = false := by simpa using z1
          by_cases z2 : rB < 0
          · have hz2 : decide (rB < 0) = true := by simpa using z2
            have HN : Hid (¬ MayP nv keep rels most) := Lib.hid (fun m => by have := m.rr r HRM.out; rw [HAB.out.1, HAB.out.2] at this; omega)
            clear z2
            go_wp2_with fail
            go_ret
            exact mp_no HN.out HBW.out
          have hz2 : decide (rB < 0) = false := by simpa using z2
          by_cases z3 : (nv : Int) ≤ rB
          · have hz3 : decide ((nv : Int) ≤ rB) = true := by simpa using z3
            have HN : Hid (¬ MayP nv keep rels most) := Lib.hid (fun m => by have := m.rr r HRM.out; rw [HAB.out.1, HAB.out.2] at this; omega)
            clear z3
            go_wp2_with fail
            go_ret
            exact mp_no HN.out HBW.out
          have hz3 : decide ((nv : Int) ≤ rB) = false := by simpa using z3
          have HZ := Lib.hid (show 0 ≤ rA ∧ rA < (nv : Int) ∧ 0 ≤ rB ∧ rB < (nv : Int) by omega)
          have HLA := Lib.hid (abs_len rels i)
          clear z0 z1 z2 z3
          go_wp2_with (at_builtin; (refine G.wp_app1 rfl _ _ 23 3 rfl _ 1 8 Try.underlying23 info_i rfl (by omega) (by omega) enc1 (fun _ => rfl) enc1_one w.heap.size u10 (abs_ (rels.take i)) rA _ rfl rfl _ rfl rfl HOY.out HBW.out.size (by have := HLA.out; have := HV.out.2.2.2; omega) ?_))
          intro v1 w1 ho1 hg1 _
          have HB1 := Lib.hid (HOY.out.next HBW.out HBW.out.size hg1)
          have HO1 := Lib.hid ho1
          clear ho1 hg1
          go_wp2_with (at_builtin; (refine G.wp_app1 rfl _ _ 23 3 rfl _ 1 8 Try.underlying23 info_i rfl (by omega) (by omega) enc1 (fun _ => rfl) enc1_one w.heap.size v1 (abs_ (rels.take i) ++ [rA]) rB _ rfl rfl _ rfl rfl HO1.out HB1.out.size (by have := HLA.out; have := HV.out.2.2.2; simp only [List.length_append, List.length_singleton]; omega) ?_))
          intro v2 w2 ho2 hg2' _
          have HB2 := Lib.hid (HO1.out.next HB1.out HB1.out.size hg2')
          have HO2 := Lib.hid ho2
          clear ho2 hg2'
          go_wp2_with fail
          go_roundg (nr - i)
          case measure => exact hg2
          case rel =>
            have ht := take_snoc rels default i (by have := HV.out.2.2.2; omega)
            have ha := abs_take rels i (by have := HV.out.2.2.2; omega)
            rw [HRR.out] at ht ha
            rw [HAB.out.1, HAB.out.2] at ha
            refine ⟨i + 1, by omega, by omega, by go_num, ⟨by rw [ha, List.append_assoc]; exact HO2.out, HB2.out, fun r' hr' => ?_⟩⟩
            rw [ht] at hr'
            rcases List.mem_append.1 hr' with h | h
            · exact HT.out.rr r' h
            · rw [List.mem_singleton.1 h, HAB.out.1, HAB.out.2]
              exact HZ.out
        · have hin : i = nr := by omega
          subst hin
          have HR1 := Lib.hid (show ∀ r ∈ rels, 0 ≤ r.A ∧ r.A < (nv : Int) ∧ 0 ≤ r.B ∧ r.B < (nv : Int) by have := HT.out.rr; rwa [List.take_of_length_le (by have := HV.out.2.2.2; omega)] at this)
          have HOX := Lib.hid (show G.SlL wr enc1 u10 (abs_ rels) by have := HT.out.own.sl; rwa [List.take_of_length_le (by have := HV.out.2.2.2; omega)] at this)
          have HBX := Lib.hid HT.out.below
          have HAL := Lib.hid (show (abs_ rels).length ≤ 140737488355328 by have := abs_len rels rels.length; rw [List.take_length] at this; have := HV.out.2.2.2; omega)
          have hd3 : decide ((i : Int) < (i : Int)) = false := by simp
          clear HT hi hlt2
          go_wp2_with fail
          go_loopg [14] (nv + 1) (fun g s14 wz => ∃ a : Nat, a ≤ nv ∧ nv - a < g ∧ s14 = .int .i64 a ∧ wr = wz ∧ ∀ b, b < a → (b : Int) ∈ abs_ rels)
          case atStart => exact ⟨0, by omega, by omega, rfl, rfl, fun b hb => absurd hb (by omega)⟩
          case round =>
            obtain ⟨a, ha, hg3, rfl, rfl, hall⟩ := hrel
            have HALL := Lib.hid hall
            clear hall
            by_cases hlt3 : a < nv
            · have hd4 : decide ((a : Int) < (nv : Int)) = true := by simp; omega
              obtain ⟨p, hp⟩ : ∃ p, decide ((a : Int) ∈ abs_ rels) = p := ⟨_, rfl⟩
              have HC := Lib.hid (in_ok (a : Int) HOX.out HAL.out)
              have HP := Lib.hid hp
              clear hp
              go_wp2_with fail
              refine HC.out.mono ?_
              rintro e w9 ⟨rfl, rfl⟩
              rw [HP.out]
              cases p
              · have HN : Hid (¬ MayP nv keep rels most) := Lib.hid (fun m => by
                  obtain ⟨r, hr, hv⟩ := m.all a (by omega) (by omega)
                  refine of_decide_eq_false HP.out (List.mem_flatMap.2 ⟨r, hr, ?_⟩)
                  simp only [List.mem_cons, List.not_mem_nil, or_false]
                  exact hv.imp (fun e => e.symm) (fun e => e.symm))
                go_wp2_with fail
                go_ret
                exact mp_no HN.out HBX.out
              · go_wp2_with fail
                go_roundg (nv - a)
                case measure => exact hg3
                case rel =>
                  refine ⟨a + 1, by omega, by omega, by go_num, rfl, fun b hb => ?_⟩
                  by_cases e : b < a
                  · exact HALL.out b e
                  · rw [show b = a by omega]; exact of_decide_eq_true HP.out
            · have hd4 : decide ((a : Int) < (nv : Int)) = false := by simp; omega
              have hd4' : decide (a < nv) = false := by simp; omega
              have HY : Hid (MayP nv keep rels most) := Lib.hid (by
                refine ⟨H0.out.1, H0.out.2.1, H0.out.2.2.1, H0.out.2.2.2.1, H0.out.2.2.2.2, HM1.out.nd, HM1.out.kr, HR1.out, fun v h0 h1 => ?_⟩
                have := HALL.out v.toNat (by omega)
                rw [show ((v.toNat : Nat) : Int) = v by omega] at this
                obtain ⟨r, hr, hv⟩ := List.mem_flatMap.1 this
                refine ⟨r, hr, ?_⟩
                simp only [List.mem_cons, List.not_mem_nil, or_false] at hv
                exact hv.imp (fun e => e.symm) (fun e => e.symm))
              go_wp2_with fail
              go_ret
              exact ⟨true, rfl, ⟨fun _ => HY.out, fun _ => rfl⟩, HBX.out⟩
end Go.Proofs.Ytejinhnmabnomaa.Lf
