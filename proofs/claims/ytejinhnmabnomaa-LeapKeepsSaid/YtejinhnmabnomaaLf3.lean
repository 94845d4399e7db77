/-
  LeapKeeps. Conditions: the slices lie as told.
-/
import Derived.Test.YtejinhnmabnomaaLf1
import Derived.Test.YtejinhnmabnomaaLf2

namespace Go.Proofs.Ytejinhnmabnomaa.Lf
open Go.Deep Go.RowKit Go.Proofs.YtejinhnmabnomaaW.PrintWords Go.Proofs.Ytejinhnmabnomaa.Pm Go.Proofs.Ytejinhnmabnomaa.Pw

theorem keep_relM {n : Nat} {wx : World} {v u : Value} {x y : List (Int × Int)} (h : wx.heap[n]? = some (.cells #[.int .i64 0, .int .i64 1, v, .int .i64 2, .int .i64 1, u] 35 (0, 0))) (hx : G.SlL wx enc2 v x) (hy : G.SlL wx enc2 u y) : RelM (pN n 2 2) (keepR v u x y) wx := by
  refine ⟨sl_block encR _ h rfl rfl, fun r hr => ?_⟩
  simp [keepR] at hr
  rcases hr with rfl | rfl
  · exact hx
  · exact hy
/-- The blocks of the law: relations, and what may be kept. -/
theorem keep_blocks {w : World} {v u : Value} {x y : List (Int × Int)} (hx : G.SlL w enc2 v x) (hy : G.SlL w enc2 u y) {wy : World}
    (hwy : wy = ((((((((w.alloc (.cells #[.int .i64 0, .int .i64 1, v, .int .i64 2, .int .i64 1, u] 35)).alloc (.cells #[.int .i64 0, .int .i64 1] 3)).alloc (.cells #[.int .i64 1, .int .i64 0] 3)).alloc (.cells #[.int .i64 0, .int .i64 2] 3)).alloc (.cells #[.int .i64 2, .int .i64 0] 3)).alloc (.cells #[.int .i64 1, .int .i64 2] 3)).alloc (.cells #[.int .i64 2] 3)).alloc (.cells #[.slice (some ⟨w.heap.size + 1, 0, none⟩) 2 2, .slice (some ⟨w.heap.size + 1 + 1, 0, none⟩) 2 2, .slice (some ⟨w.heap.size + 1 + 1 + 1, 0, none⟩) 2 2, .slice (some ⟨w.heap.size + 1 + 1 + 1 + 1, 0, none⟩) 2 2, .slice (some ⟨w.heap.size + 1 + 1 + 1 + 1 + 1, 0, none⟩) 2 2, .slice (some ⟨w.heap.size + 1 + 1 + 1 + 1 + 1 + 1, 0, none⟩) 1 1] 23))) :
    RelM (pN w.heap.size 2 2) (keepR v u x y) wy ∧ BelS w wy ∧ ∀ k, k < 6 → ∃ kb, wy.cell? ⟨w.heap.size + 1 + 1 + 1 + 1 + 1 + 1 + 1, k, none⟩ = some (.slice (some ⟨kb, 0, none⟩) (kpAt k).length (kpAt k).length) ∧ G.SlL wy enc1 (.slice (some ⟨kb, 0, none⟩) (kpAt k).length (kpAt k).length) (kpAt k) := by
  obtain ⟨w1, e1⟩ : ∃ z, z = w.alloc (.cells #[.int .i64 0, .int .i64 1, v, .int .i64 2, .int .i64 1, u] 35) := ⟨_, rfl⟩
  obtain ⟨w2, e2⟩ : ∃ z, z = w1.alloc (.cells #[.int .i64 0, .int .i64 1] 3) := ⟨_, rfl⟩
  obtain ⟨w3, e3⟩ : ∃ z, z = w2.alloc (.cells #[.int .i64 1, .int .i64 0] 3) := ⟨_, rfl⟩
  obtain ⟨w4, e4⟩ : ∃ z, z = w3.alloc (.cells #[.int .i64 0, .int .i64 2] 3) := ⟨_, rfl⟩
  obtain ⟨w5, e5⟩ : ∃ z, z = w4.alloc (.cells #[.int .i64 2, .int .i64 0] 3) := ⟨_, rfl⟩
  obtain ⟨w6, e6⟩ : ∃ z, z = w5.alloc (.cells #[.int .i64 1, .int .i64 2] 3) := ⟨_, rfl⟩
  obtain ⟨w7, e7⟩ : ∃ z, z = w6.alloc (.cells #[.int .i64 2] 3) := ⟨_, rfl⟩
  obtain ⟨w8, e8⟩ : ∃ z, z = w7.alloc (.cells #[.slice (some ⟨w.heap.size + 1, 0, none⟩) 2 2, .slice (some ⟨w.heap.size + 1 + 1, 0, none⟩) 2 2, .slice (some ⟨w.heap.size + 1 + 1 + 1, 0, none⟩) 2 2, .slice (some ⟨w.heap.size + 1 + 1 + 1 + 1, 0, none⟩) 2 2, .slice (some ⟨w.heap.size + 1 + 1 + 1 + 1 + 1, 0, none⟩) 2 2, .slice (some ⟨w.heap.size + 1 + 1 + 1 + 1 + 1 + 1, 0, none⟩) 1 1] 23) := ⟨_, rfl⟩
  have hwy : wy = w8 := by rw [hwy, e8, e7, e6, e5, e4, e3, e2, e1]
  subst hwy
  have s1 : w1.heap.size = w.heap.size + 1 := by rw [e1, World.size_alloc]
  have b1 : BelS w w1 := by rw [e1]; exact (BelS.refl _).alloc _
  have h1 : w1.heap[w.heap.size]? = some _ := (congrArg (fun z : World => z.heap[w.heap.size]?) e1).trans (heap_alloc_new w _)
  have s2 : w2.heap.size = w.heap.size + 1 + 1 := by rw [e2, World.size_alloc, s1]
  have b2 : BelS w1 w2 := by rw [e2]; exact (BelS.refl _).alloc _
  have h2 : w2.heap[w1.heap.size]? = some _ := (congrArg (fun z : World => z.heap[w1.heap.size]?) e2).trans (heap_alloc_new w1 _)
  have s3 : w3.heap.size = w.heap.size + 1 + 1 + 1 := by rw [e3, World.size_alloc, s2]
  have b3 : BelS w2 w3 := by rw [e3]; exact (BelS.refl _).alloc _
  have h3 : w3.heap[w2.heap.size]? = some _ := (congrArg (fun z : World => z.heap[w2.heap.size]?) e3).trans (heap_alloc_new w2 _)
  have s4 : w4.heap.size = w.heap.size + 1 + 1 + 1 + 1 := by rw [e4, World.size_alloc, s3]
  have b4 : BelS w3 w4 := by rw [e4]; exact (BelS.refl _).alloc _
  have h4 : w4.heap[w3.heap.size]? = some _ := (congrArg (fun z : World => z.heap[w3.heap.size]?) e4).trans (heap_alloc_new w3 _)
  have s5 : w5.heap.size = w.heap.size + 1 + 1 + 1 + 1 + 1 := by rw [e5, World.size_alloc, s4]
  have b5 : BelS w4 w5 := by rw [e5]; exact (BelS.refl _).alloc _
  have h5 : w5.heap[w4.heap.size]? = some _ := (congrArg (fun z : World => z.heap[w4.heap.size]?) e5).trans (heap_alloc_new w4 _)
  have s6 : w6.heap.size = w.heap.size + 1 + 1 + 1 + 1 + 1 + 1 := by rw [e6, World.size_alloc, s5]
  have b6 : BelS w5 w6 := by rw [e6]; exact (BelS.refl _).alloc _
  have h6 : w6.heap[w5.heap.size]? = some _ := (congrArg (fun z : World => z.heap[w5.heap.size]?) e6).trans (heap_alloc_new w5 _)
  have s7 : w7.heap.size = w.heap.size + 1 + 1 + 1 + 1 + 1 + 1 + 1 := by rw [e7, World.size_alloc, s6]
  have b7 : BelS w6 w7 := by rw [e7]; exact (BelS.refl _).alloc _
  have h7 : w7.heap[w6.heap.size]? = some _ := (congrArg (fun z : World => z.heap[w6.heap.size]?) e7).trans (heap_alloc_new w6 _)
  have s8 : wy.heap.size = w.heap.size + 1 + 1 + 1 + 1 + 1 + 1 + 1 + 1 := by rw [e8, World.size_alloc, s7]
  have b8 : BelS w7 wy := by rw [e8]; exact (BelS.refl _).alloc _
  have h8 : wy.heap[w7.heap.size]? = some _ := (congrArg (fun z : World => z.heap[w7.heap.size]?) e8).trans (heap_alloc_new w7 _)
  have t8 : BelS wy wy := BelS.refl _
  have t7 : BelS w7 wy := b8.then t8
  have t6 : BelS w6 wy := b7.then t7
  have t5 : BelS w5 wy := b6.then t6
  have t4 : BelS w4 wy := b5.then t5
  have t3 : BelS w3 wy := b4.then t4
  have t2 : BelS w2 wy := b3.then t3
  have t1 : BelS w1 wy := b2.then t2
  have t0 : BelS w wy := b1.then t1
  have g1 := t1.blk h1
  have g2 := t2.blk h2
  rw [s1] at g2
  have g3 := t3.blk h3
  rw [s2] at g3
  have g4 := t4.blk h4
  rw [s3] at g4
  have g5 := t5.blk h5
  rw [s4] at g5
  have g6 := t6.blk h6
  rw [s5] at g6
  have g7 := t7.blk h7
  rw [s6] at g7
  have g8 := t8.blk h8
  rw [s7] at g8
  refine ⟨keep_relM g1 (hx.below t0) (hy.below t0), t0, fun k hk => ?_⟩
  obtain rfl | rfl | rfl | rfl | rfl | rfl : k = 0 ∨ k = 1 ∨ k = 2 ∨ k = 3 ∨ k = 4 ∨ k = 5 := by omega
  · exact ⟨_, by simp only [World.cell?, g8]; rfl, sl_block enc1 (kpAt 0) g2 rfl rfl⟩
  · exact ⟨_, by simp only [World.cell?, g8]; rfl, sl_block enc1 (kpAt 1) g3 rfl rfl⟩
  · exact ⟨_, by simp only [World.cell?, g8]; rfl, sl_block enc1 (kpAt 2) g4 rfl rfl⟩
  · exact ⟨_, by simp only [World.cell?, g8]; rfl, sl_block enc1 (kpAt 3) g5 rfl rfl⟩
  · exact ⟨_, by simp only [World.cell?, g8]; rfl, sl_block enc1 (kpAt 4) g6 rfl rfl⟩
  · exact ⟨_, by simp only [World.cell?, g8]; rfl, sl_block enc1 (kpAt 5) g7 rfl rfl⟩
theorem cut_getD (kp row : List Int) (j : Nat) (hj : j < kp.length) : (cutK kp row).getD j 0 = row.getD (kp.getD j 0).toNat 0 := by
  unfold cutK
  rw [getD_lt _ _ (by rw [List.length_map]; exact hj), List.getElem_map, getD_lt kp _ hj]
set_option maxHeartbeats 3200000 in
set_option maxRecDepth 100000 in
theorem keeps_ok (w : World) (v u : Value) (x y : List (Int × Int)) (t : Int) (hx : G.SlL w enc2 v x) (hy : G.SlL w enc2 u y) (tx : ∀ p ∈ x, p.1 ≤ 9223372036854775807 ∧ p.2 ≤ 9223372036854775807) (ty : ∀ p ∈ y, p.1 ≤ 9223372036854775807 ∧ p.2 ≤ 9223372036854775807) :
    Calls Try.prog 5 #[v, u, .int .i64 t] w fun e w' => e = .returned (.bool true) ∧ BelS w w' := by
  obtain ⟨A, c, rfl, _⟩ := id hx
  obtain ⟨A', c', rfl, _⟩ := id hy
  have HA := Lib.hid (fun w => awake_ok w)
  have hl := Lib.hid hx
  have hl' := Lib.hid hy
  clear hx hy
  by_cases h1 : x.length ≤ 30
  case neg =>
    go_enter Try.func5, Try.ntmps5
    go_wp2_with fail
    refine (HA.out _).mono ?_
    rintro e w2 ⟨rfl, hb⟩
    go_wp2
    go_ret
    exact ⟨rfl, hb⟩
  by_cases h2 : y.length ≤ 30
  case neg =>
    go_enter Try.func5, Try.ntmps5
    go_wp2_with fail
    refine (HA.out _).mono ?_
    rintro e w2 ⟨rfl, hb⟩
    go_wp2
    go_ret
    exact ⟨rfl, hb⟩
  obtain ⟨nx, hnx⟩ : ∃ n, x.length = n := ⟨_, rfl⟩
  obtain ⟨ny, hny⟩ : ∃ n, y.length = n := ⟨_, rfl⟩
  have HS := Lib.hid (And.intro (show x.length ≤ 30 from h1) (And.intro (show y.length ≤ 30 from h2) (And.intro tx ty)))
  rw [hnx] at hl h1 ⊢
  rw [hny] at hl' h2 ⊢
  obtain ⟨m, k, hm, ha, hk, hr, hw⟩ := at_nat t 6 (by omega) (by omega)
  have hd1 : decide ((30 : Int) < (nx : Int)) = false := by simp; omega
  have hd2 : decide ((30 : Int) < (ny : Int)) = false := by simp; omega
  have hki : (k : Int) < 6 := by omega
  have hr6 : (m : Int) % 6 = (k : Int) := by omega
  have hw6 : IntKind.i64.wrap (Int.tmod (m : Int) 6) = (k : Int) := hw
  clear hr hw
  clear tx ty hnx hny
  go_enter Try.func5, Try.ntmps5
  go_upto_region 5 with fail
  obtain ⟨hR, hB, hK⟩ := keep_blocks hl.out hl'.out rfl
  obtain ⟨kb, k0, hk0⟩ := hK k hk
  have hKO := kpAt_ok k
  generalize kpAt k = kp at k0 hk0 hKO
  generalize hwc : World.alloc _ _ = wc at hR hB k0 hk0 ⊢
  have HKO := Lib.hid hKO
  have HR := Lib.hid hR
  have HB := Lib.hid hB
  have HK := Lib.hid hk0
  have hkl3 := hKO.len
  have hF := Lib.hid (keep_few (.slice A nx c) (.slice A' ny c') HS.out.1 HS.out.2.1 HS.out.2.2.1 HS.out.2.2.2)
  have hJ9 := keep_short (.slice A nx c) (.slice A' ny c') HS.out.1 HS.out.2.1
  have hM1 := Lib.hid (keep_may (.slice A nx c) (.slice A' ny c') x y kp_all (most := 1048576) (by omega) (by omega))
  have hM2 := Lib.hid (keep_may (.slice A nx c) (.slice A' ny c') x y hKO (most := 1048576) (by omega) (by omega))
  have hle := keep_less (.slice A nx c) (.slice A' ny c') x y hKO
  have hcut := keep_cut (.slice A nx c) (.slice A' ny c') x y hKO
  have hPs := (keep_is (.slice A nx c) (.slice A' ny c') x y hKO).rise
  have hWa := joinL_row hM1.out
  have hWs := joinL_row hM2.out
  generalize hJa : joinL [0, 1, 2] (keepR (.slice A nx c) (.slice A' ny c') x y) = JA at hJ9 hle hcut hWa
  generalize hJs : joinL kp (keepR (.slice A nx c) (.slice A' ny c') x y) = JS at hle hcut hPs hWs
  have hJa := Lib.hid hJa
  have hJs := Lib.hid hJs
  have HJ := Lib.hid (And.intro hcut (And.intro hPs (And.intro hWa hWs)))
  obtain ⟨kl, hkl⟩ : ∃ n, kp.length = n := ⟨_, rfl⟩
  have HKL := Lib.hid hkl
  rw [hkl] at hkl3 k0
  clear hKO hR hB hk0 hK hcut hPs hWa hWs hwc hkl
  go_wp2_with fail
  have hb1 : BelS wc (wc.alloc (.cells #[.int .i64 0, .int .i64 1, .int .i64 2] 3)) := (BelS.refl wc).alloc _
  have hk1 := sl_block enc1 [0, 1, 2] (heap_alloc_new wc (.cells #[.int .i64 0, .int .i64 1, .int .i64 2] 3)) rfl rfl
  refine (joinW_yes hJa.out hk1 (by simp) (HR.out.more hb1) hF.out hM1.out (by omega)).mono ?_
  rintro e w2 ⟨A2, c2, rfl, hb2, ho2⟩
  have HB2 := Lib.hid (HB.out.then (hb1.then hb2))
  have HR2 := Lib.hid (HR.out.more (hb1.then hb2))
  have HK2 := Lib.hid (HK.out.below (hb1.then hb2))
  have HO2 := Lib.hid ho2
  clear hb1 hb2 ho2 HR HB HK k0 hk1
  go_wp2_with fail
  refine (joinW_yes hJs.out (by have := HK2.out; rw [HKL.out] at this; exact this) (by have := HKL.out; omega) HR2.out hF.out hM2.out (by omega)).mono ?_
  rintro e w3 ⟨A3, c3, rfl, hb3, ho3⟩
  have HB3 := Lib.hid (HB2.out.then hb3)
  have HK3 := Lib.hid (show G.SlL w3 enc1 (.slice (some ⟨kb, 0, none⟩) kl kl) kp by have := HK2.out.below hb3; rw [HKL.out] at this; exact this)
  have HO2' := Lib.hid (HO2.out.more hb3)
  have HO3 := Lib.hid ho3
  clear hb3 ho3 HB2 HR2 HK2 HO2
  obtain ⟨na, hna⟩ : ∃ n, JA.length = n := ⟨_, rfl⟩
  obtain ⟨ns, hns⟩ : ∃ n, JS.length = n := ⟨_, rfl⟩
  rw [hna] at hJ9 hle ⊢
  rw [hns] at hle ⊢
  have HN := Lib.hid (And.intro hna hns)
  clear hna hns
  go_wp2_with fail
  go_loopg [14] (ns + 1) (fun g s14 wr => ∃ i q : Nat, i ≤ ns ∧ ns - i < g ∧ s14 = .int .i64 i ∧ wr = w3.drewN q)
  case atStart => exact ⟨0, 0, by omega, by omega, rfl, rfl⟩
  case round =>
    obtain ⟨i, q, hi, hg, rfl, rfl⟩ := hrel
    obtain ⟨wq, hwq⟩ : ∃ x, w3.drewN q = x := ⟨_, rfl⟩
    rw [hwq]
    have hbq : BelS w3 wq := by rw [← hwq]; exact below_drewN w3 q
    have HBQ := Lib.hid hbq
    have HWQ := Lib.hid hwq
    have HBQ2 := Lib.hid (fun n => show BelS wq (wq.drewN n) from below_drewN wq n)
    clear hwq hbq
    by_cases hlt : i < ns
    · have hd : decide ((i : Int) < (ns : Int)) = true := by simp; omega
      have hi1 : (i : Int) < (ns : Int) := by omega
      obtain ⟨b1, c1', xv, hv1, x0, hx⟩ := HO3.out.row i (by have := HN.out.2; omega)
      injection hv1 with e1 e2 e3
      subst e1
      have x0 := HBQ.out.cell x0
      have hx := hx.below HBQ.out
      obtain ⟨row, hrow⟩ : ∃ r, JS.getD i [] = r := ⟨_, rfl⟩
      rw [hrow] at hx
      have hrl : row.length = kl := by rw [HJ.out.2.2.2 row (by rw [← hrow, getD_lt _ _ (by have := HN.out.2; omega)]; exact List.getElem_mem _)]; exact HKL.out
      obtain ⟨Ar, cr, rfl, _⟩ := id hx
      rw [hrl] at x0 hx
      have HXR := Lib.hid hx
      have HRW := Lib.hid (And.intro hrow hrl)
      clear hrow hrl hx e2 e3
      by_cases hi0 : i = 0
      · have hd0 : decide ((0 : Int) < (i : Int)) = false := by simp; omega
        have hd0' : decide (0 < i) = false := by simp; omega
        have HI0 := Lib.hid hi0
        clear hi0
        go_wp2_with fail
        go_quiet (fail)
        all_goals
          go_wp2_with fail
          go_roundg (ns - i)
          case measure => exact hg
          case rel => exact ⟨i + 1, _, by omega, by omega, by go_num, by rw [← HWQ.out]; exact World.drewN_drewN w3 q _⟩
      · obtain ⟨y0, hy0⟩ : ∃ y0, i = y0 + 1 := ⟨i - 1, by omega⟩
        have hd0 : decide ((0 : Int) < (i : Int)) = true := by simp; omega
        have hd0' : decide (0 < i) = true := by simp; omega
        obtain ⟨bp, cp, xp, hvp, p0, hp⟩ := HO3.out.row y0 (by have := HN.out.2; omega)
        injection hvp with e14 e15 e16
        injection e14 with e14
        injection e14 with e17 e18
        subst e17
        have p0 := HBQ.out.cell p0
        have HLT := Lib.hid (show lexB (JS.getD y0 []) row = true by
          rw [← HRW.out.1, lexB_iff]
          exact rise_at HJ.out.2.1 (by omega) (by have := HN.out.2; omega))
        have HC4 := Lib.hid (fun n => lessD true HLT.out (hp.below (HBQ.out.then (HBQ2.out n))) (HXR.out.below (HBQ2.out n)) (by rw [HJ.out.2.2.2 _ (by rw [getD_lt _ _ (by have := HN.out.2; omega)]; exact List.getElem_mem _)]; have := HKL.out; omega) (by have := HRW.out.2; omega))
        have hsub : (i : Int) - 1 = (y0 : Int) := by omega
        have hyl : (y0 : Int) < (ns : Int) := by omega
        have HI0 := Lib.hid hi0
        have HY0 := Lib.hid hy0
        clear hi0 hy0 hp e15 e16
        go_wp2_with fail
        go_quiet (first | (go_at_call 15; with_reducible exact Calls.quiet_of (HC4.out _)))
        all_goals
          go_wp2_with fail
          go_roundg (ns - i)
          case measure => exact hg
          case rel => exact ⟨i + 1, _, by omega, by omega, by go_num, by rw [← HWQ.out]; exact World.drewN_drewN w3 q _⟩
    · have hd : decide ((i : Int) < (ns : Int)) = false := by simp; omega
      have HBW := Lib.hid (HB3.out.then HBQ.out)
      have HOA := Lib.hid (HO2'.out.more HBQ.out)
      have HOS := Lib.hid (HO3.out.more HBQ.out)
      have HKW := Lib.hid (HK3.out.below HBQ.out)
      have hd' : decide (i < ns) = false := by simp; omega
      clear HWQ hi hg hlt HB3 HO2' HO3 HK3 HBQ HBQ2
      go_wp2_with fail
      go_loopg [15] (na + 1) (fun g s15 wr => ∃ i q : Nat, i ≤ na ∧ na - i < g ∧ s15 = .int .i64 i ∧ wr = wq.drewN q)
      case atStart => exact ⟨0, 0, by omega, by omega, rfl, rfl⟩
      case round =>
        obtain ⟨i, q, hi, hg, rfl, rfl⟩ := hrel
        obtain ⟨wr, hwr⟩ : ∃ x, wq.drewN q = x := ⟨_, rfl⟩
        rw [hwr]
        have HWR := Lib.hid hwr
        have HBR := Lib.hid (show BelS wq wr by rw [← hwr]; exact below_drewN wq q)
        clear hwr
        by_cases hlt : i < na
        · have hd2 : decide ((i : Int) < (na : Int)) = true := by simp; omega
          have hi2 : (i : Int) < (na : Int) := by omega
          obtain ⟨ba, ca, av, hva, a0, haA⟩ := HOA.out.row i (by have := HN.out.1; omega)
          injection hva with e1 e2 e3
          subst e1
          have haA := haA.below HBR.out
          have a0 := HBR.out.cell a0
          obtain ⟨ra, hra⟩ : ∃ r, JA.getD i [] = r := ⟨_, rfl⟩
          rw [hra] at haA
          have hram : ra ∈ JA := by rw [← hra, getD_lt _ _ (by have := HN.out.1; omega)]; exact List.getElem_mem _
          have hral : ra.length = 3 := HJ.out.2.2.1 ra hram
          obtain ⟨m2, hm2, hcm⟩ := List.getElem_of_mem (HJ.out.1 ra hram)
          have hm2s : m2 < ns := by have := HN.out.2; omega
          have hcm2 : JS.getD m2 [] = cutK kp ra := by rw [getD_lt _ _ hm2]; exact hcm
          obtain ⟨Aa, caa, rfl, _⟩ := id haA
          rw [hral] at a0 haA
          have HRA := Lib.hid (And.intro haA (And.intro hral hcm2))
          clear haA hral hcm hcm2 hram hm2 hra e2 e3
          go_wp2_with fail
          go_loopg [16, 17] (ns + 1) (fun g s16 s17 wz => ∃ (k2 q : Nat) (f : Bool), k2 ≤ ns ∧ ns - k2 < g ∧ s16 = .bool f ∧ s17 = .int .i64 k2 ∧ wz = wr.drewN q ∧ (m2 < k2 → f = true))
          case atStart => exact ⟨0, 0, false, by omega, by omega, rfl, rfl, rfl, fun h => absurd h (by omega)⟩
          case round =>
            obtain ⟨k2, q2, f, hk2, hg2, rfl, rfl, rfl, hf2⟩ := hrel
            obtain ⟨wz, hwz⟩ : ∃ x, wr.drewN q2 = x := ⟨_, rfl⟩
            rw [hwz]
            have HWZ := Lib.hid hwz
            have HBZ := Lib.hid (show BelS wr wz by rw [← hwz]; exact below_drewN wr q2)
            have HF2 := Lib.hid hf2
            clear hwz hf2
            by_cases hlt2 : k2 < ns
            · have hd3 : decide ((k2 : Int) < (ns : Int)) = true := by simp; omega
              have hi3 : (k2 : Int) < (ns : Int) := by omega
              obtain ⟨bs, cs, sv, hvs, s0, hsS⟩ := HOS.out.row k2 (by have := HN.out.2; omega)
              injection hvs with e1 e2 e3
              subst e1
              have hsS := hsS.below (HBR.out.then HBZ.out)
              have s0 := (HBR.out.then HBZ.out).cell s0
              have a0 := HBZ.out.cell a0
              obtain ⟨rs, hrs⟩ : ∃ r, JS.getD k2 [] = r := ⟨_, rfl⟩
              rw [hrs] at hsS
              have hrsl : rs.length = kl := by rw [HJ.out.2.2.2 rs (by rw [← hrs, getD_lt _ _ (by have := HN.out.2; omega)]; exact List.getElem_mem _)]; exact HKL.out
              obtain ⟨As, css, rfl, _⟩ := id hsS
              rw [hrsl] at s0 hsS
              have HRS := Lib.hid (And.intro hsS (And.intro hrsl hrs))
              clear hsS hrsl hrs e2 e3
              go_wp2_with fail
              go_loopg [18, 19] (kl + 1) (fun g s18 s19 wy => ∃ (j q : Nat) (b : Bool), j ≤ kl ∧ kl - j < g ∧ s18 = .bool b ∧ s19 = .int .i64 j ∧ wy = wz.drewN q ∧ (k2 = m2 → b = true))
              case atStart => exact ⟨0, 0, true, by omega, by omega, rfl, rfl, rfl, fun _ => rfl⟩
              case round =>
                obtain ⟨j, q3, b, hj, hg3, rfl, rfl, rfl, hb⟩ := hrel
                obtain ⟨wy, hwy⟩ : ∃ x, wz.drewN q3 = x := ⟨_, rfl⟩
                rw [hwy]
                have HWY := Lib.hid hwy
                have HBY := Lib.hid (show BelS wz wy by rw [← hwy]; exact below_drewN wz q3)
                have HBB := Lib.hid hb
                clear hwy hb
                by_cases hlt3 : j < kl
                · have hd4 : decide ((j : Int) < (kl : Int)) = true := by simp; omega
                  have hi4 : (j : Int) < (kl : Int) := by omega
                  cases b
                  · go_wp2_with fail
                    go_quiet (fail)
                    all_goals
                      go_wp2_with fail
                      go_roundg (kl - j)
                      case measure => exact hg3
                      case rel => exact ⟨j + 1, _, false, by omega, by omega, rfl, by go_num, by rw [← HWY.out]; exact World.drewN_drewN wz q3 _, fun h => absurd (HBB.out h) (by simp)⟩
                  · have HKY := HKW.out.below (HBR.out.then (HBZ.out.then HBY.out))
                    have s0 := HBY.out.cell s0
                    have a0 := HBY.out.cell a0
                    obtain ⟨kn, hkn, hkn3⟩ : ∃ kn : Nat, kp.getD j 0 = (kn : Int) ∧ kn < 3 := by
                      have := HKO.out.lt (kp.getD j 0) (by rw [getD_lt _ _ (by have := HKL.out; omega)]; exact List.getElem_mem _)
                      exact ⟨(kp.getD j 0).toNat, by omega, by omega⟩
                    obtain ⟨b4, o4, c4, hv4, k0⟩ := sl_one' HKY 0 j (by have := HKL.out; omega)
                    obtain ⟨b5, o5, c5, hv5, y0⟩ := sl_one' (HRS.out.1.below HBY.out) 0 j (by have := HRS.out.2.1; omega)
                    obtain ⟨b6, o6, c6, hv6, z0⟩ := sl_one' (HRA.out.1.below (HBZ.out.then HBY.out)) 0 kn (by have := HRA.out.2.1; omega)
                    injection hv4 with e1 e2 e3
                    injection e1 with e1
                    injection e1 with e4 e5
                    subst e4 e5
                    injection hv5 with e6 e7 e8
                    injection hv6 with e9 e10 e11
                    subst e6 e9
                    rw [Nat.zero_add, hkn] at k0
                    obtain ⟨S, hS⟩ : ∃ S, rs.getD j 0 = S := ⟨_, rfl⟩
                    obtain ⟨R, hR⟩ : ∃ R, ra.getD kn 0 = R := ⟨_, rfl⟩
                    rw [hS] at y0
                    rw [hR] at z0
                    obtain ⟨e, he⟩ : ∃ e, (S == R) = e := ⟨_, rfl⟩
                    have HE := Lib.hid (show k2 = m2 → e = true by
                      intro h
                      have h1 : rs = cutK kp ra := by rw [← HRS.out.2.2, h]; exact HRA.out.2.2
                      have h2 : rs.getD j 0 = ra.getD kn 0 := by rw [h1, cut_getD kp ra j (by have := HKL.out; omega), hkn]; rfl
                      rw [← he, ← hS, ← hR, h2]
                      simp)
                    have hi5 : (kn : Int) < 3 := by omega
                    clear hkn hkn3 hS hR e2 e3 e7 e8 e10 e11 HKY
                    go_wp2_with fail
                    go_quiet (fail)
                    all_goals
                      go_wp2_with fail
                      go_roundg (kl - j)
                      case measure => exact hg3
                      case rel => exact ⟨j + 1, _, e, by omega, by omega, rfl, by go_num, by rw [← HWY.out]; exact World.drewN_drewN wz q3 _, fun h => HE.out h⟩
                · have hd4 : decide ((j : Int) < (kl : Int)) = false := by simp; omega
                  have hd4' : decide (j < kl) = false := by simp; omega
                  have HWQ2 := Lib.hid (show wy = wr.drewN (q2 + q3) by rw [← HWY.out, ← HWZ.out]; exact World.drewN_drewN wr q2 q3)
                  clear HWY
                  cases f
                  · go_wp2_with fail
                    go_roundg (ns - k2)
                    case measure => exact hg2
                    case rel => exact ⟨k2 + 1, _, b, by omega, by omega, rfl, by go_num, HWQ2.out, fun h => by
                      by_cases e : k2 = m2
                      · exact HBB.out e
                      · exact absurd (HF2.out (by omega)) (by simp)⟩
                  · go_wp2_with fail
                    go_roundg (ns - k2)
                    case measure => exact hg2
                    case rel => exact ⟨k2 + 1, _, true, by omega, by omega, rfl, by go_num, HWQ2.out, fun _ => rfl⟩
            · have hd3 : decide ((k2 : Int) < (ns : Int)) = false := by simp; omega
              have hd3' : decide (k2 < ns) = false := by simp; omega
              obtain rfl : f = true := HF2.out (by omega)
              have HWQ2 := Lib.hid (show wz = wq.drewN (q + q2) by rw [← HWZ.out, ← HWR.out]; exact World.drewN_drewN wq q q2)
              clear HWZ HWR
              go_wp2_with fail
              go_roundg (na - i)
              case measure => exact hg
              case rel => exact ⟨i + 1, _, by omega, by omega, by go_num, HWQ2.out⟩
        · have hd2 : decide ((i : Int) < (na : Int)) = false := by simp; omega
          have hd2' : decide (i < na) = false := by simp; omega
          have hc1 : decide ((ns : Int) ≤ (na : Int)) = true := by simp; omega
          have hc1' : decide (ns ≤ na) = true := by simp; omega
          have HBA := Lib.hid (HBW.out.then HBR.out)
          clear HBW HBR HWR
          go_wp2_with fail
          refine (HA.out _).mono ?_
          rintro e w5 ⟨rfl, hb5⟩
          have HB5 := Lib.hid (HBA.out.then hb5)
          clear hb5 HBA
          go_wp2
          go_ret
          exact ⟨rfl, HB5.out⟩
end Go.Proofs.Ytejinhnmabnomaa.Lf
