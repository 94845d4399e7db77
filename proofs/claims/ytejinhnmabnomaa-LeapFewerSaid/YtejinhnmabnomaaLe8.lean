/-
  LeapFewer. Conditions: the slices lie as told.
-/
import Derived.Test.YtejinhnmabnomaaLe7
import Derived.IntWalk

namespace Go.Proofs.Ytejinhnmabnomaa.Lf
open Go.Deep Go.RowKit Go.Proofs.YtejinhnmabnomaaW.PrintWords Go.Proofs.Ytejinhnmabnomaa.Pm Go.Proofs.Ytejinhnmabnomaa.Pw

theorem and16' (x : Int) : bits .and .i64 x 65535 = x % 65536 := by
  show IntKind.i64.wrap ((BitVec.ofInt 64 x &&& BitVec.ofInt 64 65535).toNat : Int) = _
  rw [BitVec.toNat_and]
  have e : (BitVec.ofInt 64 65535).toNat = 2 ^ 16 - 1 := by decide
  rw [e, Nat.and_two_pow_sub_one_eq_mod, BitVec.toNat_ofInt]
  have h : (((x % ((2 ^ 64 : Nat) : Int)).toNat % 2 ^ 16 : Nat) : Int) = x % 65536 := by
    rw [Int.natCast_emod, Int.toNat_of_nonneg (Int.emod_nonneg _ (by decide))]
    omega
  rw [h]
  exact IntWalk.i64_in _ (by omega)
theorem at_nat (t : Int) (n : Nat) (hn : 0 < n) (hb : n ≤ 30) : ∃ m k : Nat, m ≤ 65535 ∧ bits .and .i64 t 65535 = (m : Int) ∧ k < n ∧ (m : Int) % (n : Int) = (k : Int) ∧ IntKind.i64.wrap (Int.tmod (m : Int) (n : Int)) = (k : Int) := by
  obtain ⟨m, hm⟩ : ∃ m : Nat, t % 65536 = m := ⟨(t % 65536).toNat, by omega⟩
  have hk := Nat.mod_lt m hn
  have hle := Nat.mod_le m n
  have e : (m : Int) % (n : Int) = ((m % n : Nat) : Int) := (Int.natCast_emod m n).symm
  have hm2 : m ≤ 65535 := by omega
  refine ⟨m, m % n, hm2, by rw [and16']; exact hm, hk, e, ?_⟩
  rw [Int.tmod_eq_emod_of_nonneg (Int.natCast_nonneg m), e]
  exact IntWalk.i64_in _ (by omega)
theorem few_cut {w wx : World} {v : Value} {z : List (Int × Int)} (h : G.SlL wx enc2 v z) (hb : BelS w wx) : ∃ A1 c1, v = .slice A1 z.length c1 ∧ G.SlL wx enc2 v z ∧ BelS w wx := by
  obtain ⟨A, c, hv, _⟩ := id h
  exact ⟨A, c, hv, h, hb⟩
theorem fewR_relM {n : Nat} {wx : World} {v u : Value} {x y : List (Int × Int)} (h : wx.heap[n]? = some (.cells #[.int .i64 0, .int .i64 1, v, .int .i64 1, .int .i64 0, u] 35 (0, 0))) (hx : G.SlL wx enc2 v x) (hy : G.SlL wx enc2 u y) : RelM (pN n 2 2) (fewR v u x y) wx := by
  refine ⟨sl_block encR _ h rfl rfl, fun r hr => ?_⟩
  simp [fewR] at hr
  rcases hr with rfl | rfl
  · exact hx
  · exact hy
/-- The two blocks of a call: what is kept, and the relations. -/
theorem few_blocks {wx : World} {v u : Value} {x y : List (Int × Int)} (hx : G.SlL wx enc2 v x) (hy : G.SlL wx enc2 u y) {wy : World} (hwy : wy = (wx.alloc (.cells #[.int .i64 0, .int .i64 1] 3)).alloc (.cells #[.int .i64 0, .int .i64 1, v, .int .i64 1, .int .i64 0, u] 35)) :
    G.SlL wy enc1 (pN wx.heap.size 2 2) [0, 1] ∧ RelM (pN (wx.heap.size + 1) 2 2) (fewR v u x y) wy ∧ BelS wx wy := by
  subst hwy
  have hb := ((BelS.refl wx).alloc (.cells #[.int .i64 0, .int .i64 1] 3)).alloc (.cells #[.int .i64 0, .int .i64 1, v, .int .i64 1, .int .i64 0, u] 35)
  refine ⟨sl_block enc1 [0, 1] (((BelS.refl _).alloc _).blk (heap_alloc_new wx _)) rfl rfl, ?_, hb⟩
  have h := heap_alloc_new (wx.alloc (.cells #[.int .i64 0, .int .i64 1] 3)) (.cells #[.int .i64 0, .int .i64 1, v, .int .i64 1, .int .i64 0, u] 35)
  rw [World.size_alloc] at h
  exact fewR_relM h (hx.below hb) (hy.below hb)
theorem info22 : (Try.prog.info? 22).map (fun i => (i.zero, i.size, i.bytes)) = some (some (.agg #[.int .i64 0, .int .i64 0]), 2, 16) := by kernel_rfl
set_option maxHeartbeats 3200000 in
set_option maxRecDepth 100000 in
theorem few_ok (w : World) (v u : Value) (x y : List (Int × Int)) (t : Int) (hx : G.SlL w enc2 v x) (hy : G.SlL w enc2 u y) (tx : ∀ p ∈ x, p.1 ≤ 9223372036854775807 ∧ p.2 ≤ 9223372036854775807) (ty : ∀ p ∈ y, p.1 ≤ 9223372036854775807 ∧ p.2 ≤ 9223372036854775807) :
    Calls Try.prog 8 #[v, u, .int .i64 t] w fun e w' => e = .returned (.bool true) ∧ BelS w w' := by
  obtain ⟨A, c, rfl, hA, _⟩ := id hx
  obtain ⟨A', c', rfl, hA', _⟩ := id hy
  have HA := Lib.hid (fun w => awake_ok w)
  have hl := Lib.hid hx
  have hl' := Lib.hid hy
  clear hx hy
  by_cases h1 : x.length ≤ 30
  case neg =>
    go_enter Try.func8, Try.ntmps8
    go_wp2_with fail
    refine (HA.out _).mono ?_
    rintro e w2 ⟨rfl, hb⟩
    go_wp2
    go_ret
    exact ⟨rfl, hb⟩
  by_cases h2 : y.length ≤ 30
  case neg =>
    go_enter Try.func8, Try.ntmps8
    go_wp2_with fail
    refine (HA.out _).mono ?_
    rintro e w2 ⟨rfl, hb⟩
    go_wp2
    go_ret
    exact ⟨rfl, hb⟩
  by_cases h3 : x.length = 0
  case pos =>
    go_enter Try.func8, Try.ntmps8
    go_wp2_with fail
    refine (HA.out _).mono ?_
    rintro e w2 ⟨rfl, hb⟩
    go_wp2
    go_ret
    exact ⟨rfl, hb⟩
  obtain ⟨n, hn⟩ : ∃ n, x.length = n := ⟨_, rfl⟩
  obtain ⟨ny, hny⟩ : ∃ n, y.length = n := ⟨_, rfl⟩
  obtain ⟨b0, off0, c0, hv0, hb0, _⟩ := hl.out.at_ (k := 2) (fun _ => rfl) 0 (x.getD 0 (0, 0)) (by rw [List.getD_eq_getElem?_getD, List.getElem?_eq_getElem (by omega)]; rfl)
  injection hv0 with e1 e2 e3
  subst e1
  rw [hn] at hl h1 h3 hA ⊢
  rw [hny] at hl' h2 hA' ⊢
  obtain ⟨m, k, hm, ha, hk, hr, hw⟩ := at_nat t n (by omega) h1
  have hkx : k + 1 ≤ x.length := by rw [hn]; exact hk
  have HX := Lib.hid (And.intro hn (And.intro hny (And.intro hm (And.intro tx ty))))
  have HT := Lib.hid (hl.out.take rfl k (Nat.le_of_succ_le hkx))
  have HD := Lib.hid (hl.out.drop (k := 2) (fun _ => rfl) (k + 1) hkx b0 (off0 + (k + 1) * 2) (fun _ => ⟨rfl, rfl⟩))
  have HD0 := Lib.hid (fun (hc : c = k + 1) => hl.out.drop (k := 2) (fun _ => rfl) (k + 1) hkx b0 off0 (fun h => absurd hc h))
  clear hn hny hm tx ty e2 e3 hkx
  have hd1 : decide ((30 : Int) < (n : Int)) = false := by simp; omega
  have hd2 : decide ((30 : Int) < (ny : Int)) = false := by simp; omega
  have hd3 : ((n : Int) == 0) = false := by simp; omega
  have hkc : (k : Int) ≤ (c : Int) := by omega
  have hkn : (k : Int) + 1 ≤ (n : Int) := by omega
  have hnc : (n : Int) ≤ (c : Int) := by omega
  go_enter Try.func8, Try.ntmps8
  go_upto_region 6 with (at_builtin; (refine G.wp_appN rfl _ _ 33 22 rfl _ 2 16 Try.underlying33 info22 rfl (by omega) (by omega) enc2 (fun _ => rfl) enc2_one w.heap.size (.slice none 0 0) (.slice (some ⟨b0, off0, none⟩) k c) [] (x.take k) rfl rfl (G.OwnL.nil _ _ _ _ _) HT.out (Nat.le_refl _) (by simp only [List.length_take, List.length_nil]; omega) ?_))
  intro v9 w9 ho9 hg9 _
  have B9 := Lib.hid ((G.OwnL.nil w w.heap.size 22 2 enc2).next (Below.refl _ _) (Nat.le_refl _) hg9)
  have O9 := Lib.hid ho9
  clear ho9 hg9 HT
  go_upto_region 6 with fail
  go_cut [8] from 39 to 44 (fun s8 wx => ∃ A1 c1, s8 = .slice A1 (less1 x k).length c1 ∧ G.SlL wx enc2 s8 (less1 x k) ∧ BelS w wx)
  case first =>
    by_cases hck : c = k + 1
    · obtain rfl : n = k + 1 := by omega
      have HD9 := Lib.hid (show G.SlL w9 enc2 (.slice (some ⟨b0, off0, none⟩) 0 0) (x.drop (k + 1)) by
        have := (HD0.out hck).below B9.out
        rw [hck, Nat.sub_self] at this
        exact this)
      subst hck
      go_wp2_with (at_builtin; (refine G.wp_appN rfl _ _ 33 22 rfl _ 2 16 Try.underlying33 info22 rfl (by omega) (by omega) enc2 (fun _ => rfl) enc2_one w.heap.size v9 _ (x.take k) (x.drop (k + 1)) rfl rfl O9.out HD9.out B9.out.size (by have := HX.out.1; simp only [List.length_take, List.length_drop]; omega) ?_))
      intro v10 w10 ho10 hg10 _
      have B10 := Lib.hid (O9.out.next B9.out B9.out.size hg10)
      have O10 := Lib.hid ho10.sl
      clear ho10 hg10
      go_wp2_with fail
      go_meet
      exact few_cut O10.out B10.out
    · have HD9 := Lib.hid (HD.out.below B9.out)
      go_wp2_with (at_builtin; (refine G.wp_appN rfl _ _ 33 22 rfl _ 2 16 Try.underlying33 info22 rfl (by omega) (by omega) enc2 (fun _ => rfl) enc2_one w.heap.size v9 _ (x.take k) (x.drop (k + 1)) rfl rfl O9.out HD9.out B9.out.size (by have := HX.out.1; simp only [List.length_take, List.length_drop]; omega) ?_))
      intro v10 w10 ho10 hg10 _
      have B10 := Lib.hid (O9.out.next B9.out B9.out.size hg10)
      have O10 := Lib.hid ho10.sl
      clear ho10 hg10
      go_wp2_with fail
      go_meet
      exact few_cut O10.out B10.out
  case rest =>
    obtain ⟨A1, c1, rfl, hz, hbz⟩ := hcut
    have HZ := Lib.hid hz
    have HBZ := Lib.hid hbz
    have hlz := less1_len (x := x) (k := k)
    have hJa9 := few_short (.slice (some ⟨b0, off0, none⟩) n c) (.slice A' ny c') (x := x) (y := y) (by have := HX.out.1; omega)
    have hJs9 := few_less (.slice (some ⟨b0, off0, none⟩) n c) (.slice A' ny c') (.slice A1 (less1 x k).length c1) x y k
    have hJ1 := few_one (.slice (some ⟨b0, off0, none⟩) n c) (.slice A' ny c') (.slice A1 (less1 x k).length c1) x y k (by have := HX.out.1; omega)
    have hJsub := few_sub (.slice (some ⟨b0, off0, none⟩) n c) (.slice A' ny c') (.slice A1 (less1 x k).length c1) x y k
    have hPa := (few_is (.slice (some ⟨b0, off0, none⟩) n c) (.slice A' ny c') x y).rise
    have hPs := (few_is (.slice A1 (less1 x k).length c1) (.slice A' ny c') (less1 x k) y).rise
    have hWs := joinL_row (few_may (.slice A1 (less1 x k).length c1) (.slice A' ny c') (less1 x k) y (most := 0) (by omega) (by omega))
    have hWa := joinL_row (few_may (.slice (some ⟨b0, off0, none⟩) n c) (.slice A' ny c') x y (most := 0) (by omega) (by omega))
    have hFa := Lib.hid (few_few (.slice (some ⟨b0, off0, none⟩) n c) (.slice A' ny c') (x := x) (y := y) (by have := HX.out.1; omega) (by have := HX.out.2.1; omega) HX.out.2.2.2.1 HX.out.2.2.2.2)
    have hFs := Lib.hid (few_few (.slice A1 (less1 x k).length c1) (.slice A' ny c') (x := less1 x k) (y := y) (by have := HX.out.1; omega) (by have := HX.out.2.1; omega) (fun p hp => HX.out.2.2.2.1 p (less1_mem hp)) HX.out.2.2.2.2)
    generalize hJa : joinL [0, 1] (fewR (.slice (some ⟨b0, off0, none⟩) n c) (.slice A' ny c') x y) = JA at hJa9 hJs9 hJ1 hJsub hPa hWa
    generalize hJs : joinL [0, 1] (fewR (.slice A1 (less1 x k).length c1) (.slice A' ny c') (less1 x k) y) = JS at hJs9 hJ1 hJsub hPs hWs
    have hJa := Lib.hid hJa
    have hJs := Lib.hid hJs
    have HJ := Lib.hid (And.intro hJsub (And.intro hPa (And.intro hWa (And.intro hPs hWs))))
    clear hJsub hPa hWa hPs hWs hz hbz hlz
    go_wp2_with fail
    obtain ⟨hk1, hR1, hbb⟩ := few_blocks (hl.out.below HBZ.out) (hl'.out.below HBZ.out) rfl
    refine (joinW_yes hJa.out hk1 (by simp) hR1 hFa.out (few_may _ _ _ _ (by omega) (by omega)) (by omega)).mono ?_
    rintro e w2 ⟨A2, c2, rfl, hb2, ho2⟩
    have HB2 := Lib.hid ((HBZ.out.then hbb).then hb2)
    have HZ2 := Lib.hid (HZ.out.below (hbb.then hb2))
    have HO2 := Lib.hid ho2
    clear hk1 hR1 hbb hb2 ho2
    go_wp2_with fail
    obtain ⟨hk1, hR1, hbb⟩ := few_blocks HZ2.out (hl'.out.below HB2.out) rfl
    refine (joinW_yes hJs.out hk1 (by simp) hR1 hFs.out (few_may _ _ _ _ (by omega) (by omega)) (by omega)).mono ?_
    rintro e w3 ⟨A3, c3, rfl, hb3, ho3⟩
    have HB3 := Lib.hid ((HB2.out.then hbb).then hb3)
    have HO2' := Lib.hid (HO2.out.more (hbb.then hb3))
    have HO3 := Lib.hid ho3
    clear hk1 hR1 hbb hb3 ho3 HB2 HO2 HZ2
    obtain ⟨na, hna⟩ : ∃ n, JA.length = n := ⟨_, rfl⟩
    obtain ⟨ns, hns⟩ : ∃ n, JS.length = n := ⟨_, rfl⟩
    rw [hna] at hJa9 hJs9 hJ1 ⊢
    rw [hns] at hJs9 hJ1 ⊢
    have HN := Lib.hid (And.intro hna hns)
    clear hna hns
    go_wp2_with fail
    go_loopg [13, 14] (ns + 1) (fun g s13 s14 wr => ∃ i p q : Nat, i ≤ ns ∧ p ≤ na ∧ ns - i < g ∧ s13 = .int .i64 p ∧ s14 = .int .i64 i ∧ wr = w3.drewN q ∧ (i < ns → ∀ j, j < p → lexLt (JA.getD j []) (JS.getD i [])))
    case atStart => exact ⟨0, 0, 0, by omega, by omega, by omega, rfl, rfl, rfl, fun _ j hj => absurd hj (by omega)⟩
    case round =>
      obtain ⟨i, p, q, hi, hp, hg, rfl, rfl, rfl, hall⟩ := hrel
      have HL := Lib.hid hall
      clear hall
      by_cases hlt : i < ns
      · have hd : decide ((i : Int) < (ns : Int)) = true := by simp; omega
        have his : (i : Int) < (ns : Int) := by omega
        obtain ⟨row, hrow⟩ : ∃ r, JS.getD i [] = r := ⟨_, rfl⟩
        have hmem : row ∈ JA := HJ.out.1 row (by rw [← hrow, getD_lt _ _ (by have := HN.out.2; omega)]; exact List.getElem_mem _)
        have hrl : row.length ≤ 140737488355328 := by rw [HJ.out.2.2.1 row hmem]; simp
        obtain ⟨b3, c3', rv, hv3, y0, hy⟩ := HO3.out.row i (by have := HN.out.2; omega)
        injection hv3 with e1 e2 e3
        subst e1
        rw [hrow] at hy
        have HR := Lib.hid (And.intro hrow (And.intro hmem (And.intro hrl hy)))
        clear hrow hmem hrl hy e2 e3
        have HL2 := Lib.hid (show ∀ j, j < p → lexLt (JA.getD j []) row by rw [← HR.out.1]; exact HL.out hlt)
        clear HL
        go_wp2_with fail
        go_loopg [13] (na + 1) (fun g' s13 wr => ∃ p q : Nat, p ≤ na ∧ na - p < g' ∧ s13 = .int .i64 p ∧ wr = w3.drewN q ∧ ∀ j, j < p → lexLt (JA.getD j []) row)
        case atStart => exact ⟨p, q, hp, by omega, rfl, rfl, HL2.out⟩
        case round =>
          clear HL2 hp
          obtain ⟨p, q, hp, hg', rfl, rfl, hall⟩ := hrel
          have HL := Lib.hid hall
          clear hall
          have hpn : p < na := by
            by_cases h : p < na
            · exact h
            · have := rise_find HJ.out.2.1 HR.out.2.1 (n := p) (fun j hj _ => HL.out j hj) (fun h2 => absurd h2 (by have := HN.out.1; omega))
              have := HN.out.1
              omega
          obtain ⟨wq, hwq⟩ : ∃ x, w3.drewN q = x := ⟨_, rfl⟩
          rw [hwq]
          have hbq : BelS w3 wq := by rw [← hwq]; exact below_drewN w3 q
          have HBQ := Lib.hid hbq
          have HWQ := Lib.hid hwq
          clear hwq hbq
          have hd2 : decide ((p : Int) < (na : Int)) = true := by simp; omega
          have hi2 : (p : Int) < (na : Int) := by omega
          obtain ⟨b2, c2', av, hv2, x0, hx⟩ := HO2'.out.row p (by have := HN.out.1; omega)
          injection hv2 with e1 e2 e3
          subst e1
          have x0 := HBQ.out.cell x0
          have y0 := HBQ.out.cell y0
          obtain ⟨X, hX⟩ : ∃ X, JA.getD p [] = X := ⟨_, rfl⟩
          rw [hX] at hx
          have hXl : X.length ≤ 140737488355328 := by
            rw [HJ.out.2.2.1 X (by rw [← hX, getD_lt _ _ (by have := HN.out.1; omega)]; exact List.getElem_mem _)]; simp
          obtain ⟨p1, hp1⟩ : ∃ p, lexB X row = p := ⟨_, rfl⟩
          obtain ⟨p2, hp2⟩ : ∃ p, lexB row X = p := ⟨_, rfl⟩
          have C1 : ∀ n, Calls Try.prog 15 #[av, rv] (wq.drewN n) (fun e w' => e = .returned (.bool p1) ∧ ∃ m, w' = (wq.drewN n).drewN m) := fun n => by
            rw [← hp1]; exact less_ok (hx.below (HBQ.out.then (below_drewN _ n))) (HR.out.2.2.2.below (HBQ.out.then (below_drewN _ n))) hXl HR.out.2.2.1
          have C2 : ∀ n, Calls Try.prog 15 #[rv, av] (wq.drewN n) (fun e w' => e = .returned (.bool p2) ∧ ∃ m, w' = (wq.drewN n).drewN m) := fun n => by
            rw [← hp2]; exact less_ok (HR.out.2.2.2.below (HBQ.out.then (below_drewN _ n))) (hx.below (HBQ.out.then (below_drewN _ n))) HR.out.2.2.1 hXl
          have HC1 := Lib.hid C1
          have HC2 := Lib.hid C2
          have HP := Lib.hid (And.intro hp1 (And.intro hp2 hX))
          have HHX := Lib.hid (hx.below HBQ.out)
          have HXL := Lib.hid hXl
          clear C1 C2 hp1 hp2 hX hx hXl e2 e3
          cases p1
          · have hst : X = row := by
              have := rise_find HJ.out.2.1 HR.out.2.1 (n := p) (fun j hj _ => HL.out j hj) (fun _ h2 => by
                rw [HP.out.2.2] at h2
                have := (lexB_iff _ _).2 h2
                rw [HP.out.1] at this; cases this)
              rw [← HP.out.2.2]; exact this.2
            have hp2f : p2 = false := by
              have h := HP.out.2.1
              rw [hst] at h
              cases p2
              · rfl
              · exact absurd ((lexB_iff _ _).1 h) (lex_irrefl _)
            subst hp2f
            have hne : ((p : Int) == (na : Int)) = false := by simp; omega
            clear hst HC2
            go_wp2_with fail
            go_quiet ((go_at_call 15; with_reducible exact Calls.quiet_of (HC1.out _)))
            obtain ⟨wr, hwr⟩ : ∃ x, wq.drewN nq = x := ⟨_, rfl⟩
            rw [hwr]
            have HQ1' : ∃ q1, wr = w3.drewN q1 := ⟨q + nq, by rw [← hwr, ← HWQ.out]; exact World.drewN_drewN w3 q nq⟩
            obtain ⟨q1, hq1⟩ := HQ1'
            have HQ1 := Lib.hid hq1
            clear hq1
            have hbr : BelS wq wr := by rw [← hwr]; exact below_drewN wq nq
            have x0 := hbr.cell x0
            have y0 := hbr.cell y0
            have HHX := Lib.hid (HHX.out.below hbr)
            have hry := HR.out.2.2.2.below (HBQ.out.then hbr)
            have hxl := HR.out.2.2.1
            have C2 : ∀ n, Calls Try.prog 15 #[rv, av] (wr.drewN n) (fun e w' => e = .returned (.bool false) ∧ ∃ m, w' = (wr.drewN n).drewN m) := fun n => by
              rw [← HP.out.2.1]; exact less_ok (hry.below (below_drewN _ n)) (HHX.out.below (below_drewN _ n)) hxl HXL.out
            have HC2 := Lib.hid C2
            have HWR := Lib.hid hwr
            clear hwr hbr hry hxl C2 HC1
            go_wp2_with fail
            go_quiet ((go_at_call 15; with_reducible exact Calls.quiet_of (HC2.out _)))
            go_wp2_with fail
            go_roundg (ns - i)
            case measure => exact hg
            case rel =>
              refine ⟨i + 1, p, q1 + nq, by omega, by omega, by omega, by go_num, by go_num, by rw [HQ1.out]; exact World.drewN_drewN w3 q1 nq, fun h j hj => ?_⟩
              refine lex_trans (HL.out j hj) ?_
              rw [← HR.out.1]
              exact rise_at HJ.out.2.2.2.1 (Nat.lt_succ_self i) (by have := HN.out.2; omega)
          · clear HC2
            go_wp2_with fail
            go_quiet ((go_at_call 15; with_reducible exact Calls.quiet_of (HC1.out _)))
            go_wp2_with fail
            go_roundg (na - p)
            case measure => exact hg'
            case rel =>
              refine ⟨p + 1, q + nq, by omega, by omega, by go_num, by rw [← HWQ.out]; exact World.drewN_drewN w3 q nq, fun j hj => ?_⟩
              by_cases e : j < p
              · exact HL.out j e
              · rw [show j = p by omega, HP.out.2.2]
                exact (lexB_iff _ _).1 HP.out.1
      · have hd : decide ((i : Int) < (ns : Int)) = false := by simp; omega
        have HB4 := Lib.hid (show BelS w (w3.drewN q) from HB3.out.drewN q)
        have hc1 : decide ((ns : Int) ≤ (na : Int)) = true := by simp; omega
        have hc2 : decide ((na : Int) ≤ (ns : Int) + 1) = true := by simp; omega
        go_wp2_with fail
        refine (HA.out _).mono ?_
        rintro e w5 ⟨rfl, hb5⟩
        have HB5 := Lib.hid (HB4.out.then hb5)
        clear hb5 HB4
        go_wp2
        go_ret
        exact ⟨rfl, HB5.out⟩
end Go.Proofs.Ytejinhnmabnomaa.Lf
