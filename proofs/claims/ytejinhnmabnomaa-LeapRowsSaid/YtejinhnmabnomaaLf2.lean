/-
  LeapRows. Conditions: the slices lie as told.
-/
import Derived.Test.YtejinhnmabnomaaLe8
import Derived.Test.YtejinhnmabnomaaLe9

namespace Go.Proofs.Ytejinhnmabnomaa.Lf
open Go.Deep Go.RowKit Go.Proofs.YtejinhnmabnomaaW.PrintWords Go.Proofs.Ytejinhnmabnomaa.Pm Go.Proofs.Ytejinhnmabnomaa.Pw

theorem rows_relM {n : Nat} {wx : World} {v u s : Value} {x y z : List (Int × Int)} (h : wx.heap[n]? = some (.cells #[.int .i64 0, .int .i64 1, v, .int .i64 1, .int .i64 2, u, .int .i64 2, .int .i64 0, s] 35 (0, 0))) (hx : G.SlL wx enc2 v x) (hy : G.SlL wx enc2 u y) (hz : G.SlL wx enc2 s z) : RelM (pN n 3 3) (rowsR v u s x y z) wx := by
  refine ⟨sl_block encR _ h rfl rfl, fun r hr => ?_⟩
  simp [rowsR] at hr
  rcases hr with rfl | rfl | rfl
  · exact hx
  · exact hy
  · exact hz
theorem rows_blocks {wx : World} {v u s : Value} {x y z : List (Int × Int)} (hx : G.SlL wx enc2 v x) (hy : G.SlL wx enc2 u y) (hz : G.SlL wx enc2 s z) {wy : World} (hwy : wy = (wx.alloc (.cells #[.int .i64 0, .int .i64 1, v, .int .i64 1, .int .i64 2, u, .int .i64 2, .int .i64 0, s] 35)).alloc (.cells #[.int .i64 0, .int .i64 1, .int .i64 2] 3)) :
    G.SlL wy enc1 (pN (wx.heap.size + 1) 3 3) [0, 1, 2] ∧ RelM (pN wx.heap.size 3 3) (rowsR v u s x y z) wy ∧ BelS wx wy := by
  subst hwy
  have hb1 := (BelS.refl wx).alloc (.cells #[.int .i64 0, .int .i64 1, v, .int .i64 1, .int .i64 2, u, .int .i64 2, .int .i64 0, s] 35)
  have hb := hb1.alloc (.cells #[.int .i64 0, .int .i64 1, .int .i64 2] 3)
  have h := heap_alloc_new (wx.alloc (.cells #[.int .i64 0, .int .i64 1, v, .int .i64 1, .int .i64 2, u, .int .i64 2, .int .i64 0, s] 35)) (.cells #[.int .i64 0, .int .i64 1, .int .i64 2] 3)
  rw [World.size_alloc] at h
  refine ⟨sl_block enc1 [0, 1, 2] h rfl rfl, ?_, hb⟩
  exact (rows_relM (heap_alloc_new wx _) (hx.below hb1) (hy.below hb1) (hz.below hb1)).more ((BelS.refl _).alloc _)
theorem tC_len (a b k : Nat) : (tC a b k).length = k := by unfold tC; simp
theorem tB_len (a k : Nat) : (tB a k).length = k * 6 := by
  induction k with
  | zero => rfl
  | succ k ih => rw [tB_succ, List.length_append, ih, tC_len, Nat.succ_mul]
theorem tA_len (k : Nat) : (tA k).length = k * 36 := by
  induction k with
  | zero => rfl
  | succ k ih => rw [tA_succ, List.length_append, ih, tB_len]; omega
theorem tC_step (x y z : List (Int × Int)) (a b c : Nat) (p1 p2 p3 : Bool) (h1 : decide (((a : Int), (b : Int)) ∈ x) = p1) (h2 : decide (((b : Int), (c : Int)) ∈ y) = p2) (h3 : decide (((c : Int), (a : Int)) ∈ z) = p3) :
    (tC a b (c + 1)).countP (okR x y z) = (tC a b c).countP (okR x y z) + if p1 && p2 && p3 then 1 else 0 := by
  rw [tC_succ, List.countP_append, List.countP_singleton]
  congr 2
  rw [← h1, ← h2, ← h3]; rfl
/-- Whether a row of three numbers is small, as the code asks. -/
theorem in6_of (a b c : Int) : in6 [a, b, c] = decide (0 ≤ a ∧ a < 6 ∧ 0 ≤ b ∧ b < 6 ∧ 0 ≤ c ∧ c < 6) := rfl
theorem take_cnt (J : List (List Int)) (i : Nat) (hi : i < J.length) (row : List Int) (hr : J.getD i [] = row) (b : Bool) (hb : in6 row = b) : (J.take (i + 1)).countP in6 = (J.take i).countP in6 + if b then 1 else 0 := by
  rw [getD_lt _ _ hi] at hr
  rw [List.take_succ_eq_append_getElem hi, List.countP_append, List.countP_singleton, hr, hb]

/-- What is answered by 'has', where nothing is written. -/
theorem hasD {w : World} {v : Value} {l : List (Int × Int)} (a b : Int) (p : Bool) (hp : decide ((a, b) ∈ l) = p) (hv : G.SlL w enc2 v l) (hl : l.length ≤ 140737488355328) :
    Calls Try.prog 14 #[v, .int .i64 a, .int .i64 b] w fun e w' => e = .returned (.bool p) ∧ ∃ m, w' = w.drewN m := by
  refine (has_ok a b hv hl).mono ?_
  rintro e w' ⟨rfl, rfl⟩
  exact ⟨by rw [hp], 0, rfl⟩
theorem lessD {w : World} {u v : Value} {a b : List Int} (p : Bool) (hp : lexB a b = p) (ha : G.SlL w enc1 u a) (hb : G.SlL w enc1 v b) (hla : a.length ≤ 140737488355328) (hlb : b.length ≤ 140737488355328) :
    Calls Try.prog 15 #[u, v] w fun e w' => e = .returned (.bool p) ∧ ∃ m, w' = w.drewN m := by
  subst hp
  exact less_ok ha hb hla hlb
set_option maxHeartbeats 6400000 in
set_option maxRecDepth 100000 in
theorem rows_ok (w : World) (v u s : Value) (x y z : List (Int × Int)) (hx : G.SlL w enc2 v x) (hy : G.SlL w enc2 u y) (hz : G.SlL w enc2 s z) (tx : ∀ p ∈ x, p.1 ≤ 9223372036854775807 ∧ p.2 ≤ 9223372036854775807) (ty : ∀ p ∈ y, p.1 ≤ 9223372036854775807 ∧ p.2 ≤ 9223372036854775807) (tz : ∀ p ∈ z, p.1 ≤ 9223372036854775807 ∧ p.2 ≤ 9223372036854775807) :
    Calls Try.prog 4 #[v, u, s] w fun e w' => e = .returned (.bool true) ∧ BelS w w' := by
  obtain ⟨A, c, rfl, _⟩ := id hx
  obtain ⟨A', c', rfl, _⟩ := id hy
  obtain ⟨A'', c'', rfl, _⟩ := id hz
  have HA := Lib.hid (fun w => awake_ok w)
  have hl := Lib.hid hx
  have hl' := Lib.hid hy
  have hl'' := Lib.hid hz
  clear hx hy hz
  by_cases h1 : x.length ≤ 30
  case neg =>
    go_enter Try.func4, Try.ntmps4
    go_wp2_with fail
    refine (HA.out _).mono ?_
    rintro e w2 ⟨rfl, hb⟩
    go_wp2
    go_ret
    exact ⟨rfl, hb⟩
  by_cases h2 : y.length ≤ 30
  case neg =>
    go_enter Try.func4, Try.ntmps4
    go_wp2_with fail
    refine (HA.out _).mono ?_
    rintro e w2 ⟨rfl, hb⟩
    go_wp2
    go_ret
    exact ⟨rfl, hb⟩
  by_cases h3 : z.length ≤ 30
  case neg =>
    go_enter Try.func4, Try.ntmps4
    go_wp2_with fail
    refine (HA.out _).mono ?_
    rintro e w2 ⟨rfl, hb⟩
    go_wp2
    go_ret
    exact ⟨rfl, hb⟩
  have hF := Lib.hid (rows_few (.slice A x.length c) (.slice A' y.length c') (.slice A'' z.length c'') h1 h2 h3 tx ty tz)
  have hJ9 := rows_short (.slice A x.length c) (.slice A' y.length c') (.slice A'' z.length c'') (z := z) h1 h2
  have hM := Lib.hid (rows_may (.slice A x.length c) (.slice A' y.length c') (.slice A'' z.length c'') x y z (most := 1048576) (by omega) (by omega))
  have hW := joinL_row (rows_may (.slice A x.length c) (.slice A' y.length c') (.slice A'' z.length c'') x y z (most := 0) (by omega) (by omega))
  have hmem := rows_mem (.slice A x.length c) (.slice A' y.length c') (.slice A'' z.length c'') x y z
  have hcnt := count_same (.slice A x.length c) (.slice A' y.length c') (.slice A'' z.length c'') x y z
  have hP := (rows_is (.slice A x.length c) (.slice A' y.length c') (.slice A'' z.length c'') x y z).rise
  generalize hJ : joinL [0, 1, 2] (rowsR (.slice A x.length c) (.slice A' y.length c') (.slice A'' z.length c'') x y z) = J at hJ9 hW hmem hcnt hP
  have hJ := Lib.hid hJ
  have HJ := Lib.hid (And.intro hmem (And.intro hcnt (And.intro hP hW)))
  have HL := Lib.hid (And.intro h1 (And.intro h2 h3))
  clear tx ty tz hmem hcnt hP hW
  go_enter Try.func4, Try.ntmps4
  go_wp2_with fail
  obtain ⟨hk1, hR1, hbb⟩ := rows_blocks hl.out hl'.out hl''.out rfl
  refine (joinW_yes hJ.out hk1 (by simp) hR1 hF.out hM.out (by omega)).mono ?_
  rintro e w2 ⟨A2, c2, rfl, hb2, ho2⟩
  have HB2 := Lib.hid (hbb.then hb2)
  have HX := Lib.hid (And.intro (hl.out.below HB2.out) (And.intro (hl'.out.below HB2.out) (hl''.out.below HB2.out)))
  have HCx := Lib.hid (fun a b : Int => has_ok a b HX.out.1 (by have := HL.out; omega))
  have HCy := Lib.hid (fun a b : Int => has_ok a b HX.out.2.1 (by have := HL.out; omega))
  have HCz := Lib.hid (fun a b : Int => has_ok a b HX.out.2.2 (by have := HL.out; omega))
  have HO := Lib.hid ho2
  clear hk1 hR1 hbb hb2 ho2
  obtain ⟨nj, hnj⟩ : ∃ n, J.length = n := ⟨_, rfl⟩
  rw [hnj] at hJ9 ⊢
  have HN := Lib.hid hnj
  clear hnj h1 h2 h3
  go_wp2_with fail
  go_loopg [10, 11] 7 (fun g s10 s11 wr => ∃ a n : Nat, a ≤ 6 ∧ 6 - a < g ∧ s10 = .int .i64 n ∧ s11 = .int .i64 a ∧ w2 = wr ∧ n = (tA a).countP (okR x y z))
  case atStart => exact ⟨0, 0, by omega, by omega, rfl, rfl, rfl, rfl⟩
  case round =>
    obtain ⟨a, n, ha, hg, rfl, rfl, rfl, hn⟩ := hrel
    have HN2 := Lib.hid hn
    have hnb : n ≤ 216 := by have := List.countP_le_length (p := okR x y z) (l := tA a); rw [tA_len] at this; omega
    clear hn
    by_cases hlt : a < 6
    · have hd : decide ((a : Int) < 6) = true := by simp; omega
      go_wp2_with fail
      go_loopg [10, 12] 7 (fun g s10 s12 wr => ∃ b n : Nat, b ≤ 6 ∧ 6 - b < g ∧ s10 = .int .i64 n ∧ s12 = .int .i64 b ∧ w2 = wr ∧ n = (tA a).countP (okR x y z) + (tB a b).countP (okR x y z))
      case atStart => exact ⟨0, n, by omega, by omega, rfl, rfl, rfl, by rw [← HN2.out]; rfl⟩
      case round =>
        clear HN2 hnb
        obtain ⟨b, n, hb, hg2, rfl, rfl, rfl, hn⟩ := hrel
        have HN2 := Lib.hid hn
        have hnb : n ≤ 252 := by
          have h1 := List.countP_le_length (p := okR x y z) (l := tA a)
          have h2 := List.countP_le_length (p := okR x y z) (l := tB a b)
          rw [tA_len] at h1
          rw [tB_len] at h2
          omega
        clear hn
        by_cases hlt2 : b < 6
        · have hd2 : decide ((b : Int) < 6) = true := by simp; omega
          go_wp2_with fail
          go_loopg [10, 13] 7 (fun g s10 s13 wr => ∃ k n : Nat, k ≤ 6 ∧ 6 - k < g ∧ s10 = .int .i64 n ∧ s13 = .int .i64 k ∧ w2 = wr ∧ n = (tA a).countP (okR x y z) + (tB a b).countP (okR x y z) + (tC a b k).countP (okR x y z))
          case atStart => exact ⟨0, n, by omega, by omega, rfl, rfl, rfl, by rw [← HN2.out]; rfl⟩
          case round =>
            clear HN2 hnb
            obtain ⟨k, n, hk, hg3, rfl, rfl, rfl, hn⟩ := hrel
            have HN2 := Lib.hid hn
            have hnb : n ≤ 258 := by
              have h1 := List.countP_le_length (p := okR x y z) (l := tA a)
              have h2 := List.countP_le_length (p := okR x y z) (l := tB a b)
              have h3 := List.countP_le_length (p := okR x y z) (l := tC a b k)
              rw [tA_len] at h1
              rw [tB_len] at h2
              rw [tC_len] at h3
              omega
            clear hn
            by_cases hlt3 : k < 6
            · have hd3 : decide ((k : Int) < 6) = true := by simp; omega
              obtain ⟨p1, hp1⟩ : ∃ p, decide (((a : Int), (b : Int)) ∈ x) = p := ⟨_, rfl⟩
              obtain ⟨p2, hp2⟩ : ∃ p, decide (((b : Int), (k : Int)) ∈ y) = p := ⟨_, rfl⟩
              obtain ⟨p3, hp3⟩ : ∃ p, decide (((k : Int), (a : Int)) ∈ z) = p := ⟨_, rfl⟩
              have HS := Lib.hid (tC_step x y z a b k p1 p2 p3 hp1 hp2 hp3)
              have HP := Lib.hid (And.intro hp1 (And.intro hp2 hp3))
              clear hp1 hp2 hp3
              go_wp2_with fail
              refine (HCx.out a b).mono ?_
              rintro e w' ⟨rfl, rfl⟩
              rw [HP.out.1]
              cases p1
              · go_wp2_with fail
                go_roundg (6 - k)
                case measure => exact hg3
                case rel => exact ⟨k + 1, n, by omega, by omega, rfl, by go_num, rfl, by rw [HS.out, HN2.out]; rfl⟩
              · go_wp2_with fail
                refine (HCy.out b k).mono ?_
                rintro e w' ⟨rfl, rfl⟩
                rw [HP.out.2.1]
                cases p2
                · go_wp2_with fail
                  go_roundg (6 - k)
                  case measure => exact hg3
                  case rel => exact ⟨k + 1, n, by omega, by omega, rfl, by go_num, rfl, by rw [HS.out, HN2.out]; rfl⟩
                · go_wp2_with fail
                  refine (HCz.out k a).mono ?_
                  rintro e w' ⟨rfl, rfl⟩
                  rw [HP.out.2.2]
                  cases p3
                  · go_wp2_with fail
                    go_roundg (6 - k)
                    case measure => exact hg3
                    case rel => exact ⟨k + 1, n, by omega, by omega, rfl, by go_num, rfl, by rw [HS.out, HN2.out]; rfl⟩
                  · go_wp2_with fail
                    go_roundg (6 - k)
                    case measure => exact hg3
                    case rel => exact ⟨k + 1, n + 1, by omega, by omega, by go_num, by go_num, rfl, by rw [HS.out, HN2.out]; rfl⟩
            · have hd3 : decide ((k : Int) < 6) = false := by simp; omega
              obtain rfl : k = 6 := by omega
              go_wp2_with fail
              go_roundg (6 - b)
              case measure => exact hg2
              case rel => exact ⟨b + 1, n, by omega, by omega, rfl, by go_num, rfl, by rw [tB_succ, List.countP_append, HN2.out]; omega⟩
        · have hd2 : decide ((b : Int) < 6) = false := by simp; omega
          obtain rfl : b = 6 := by omega
          go_wp2_with fail
          go_roundg (6 - a)
          case measure => exact hg
          case rel => exact ⟨a + 1, n, by omega, by omega, rfl, by go_num, rfl, by rw [tA_succ, List.countP_append, HN2.out]⟩
    · have hd : decide ((a : Int) < 6) = false := by simp; omega
      obtain rfl : a = 6 := by omega
      have HN3 := Lib.hid (HN2.out.trans HJ.out.2.1)
      clear HN2
      go_wp2_with fail
      go_loopg [14, 15] (nj + 1) (fun g s14 s15 wr => ∃ i m q : Nat, i ≤ nj ∧ nj - i < g ∧ s14 = .int .i64 m ∧ s15 = .int .i64 i ∧ wr = w2.drewN q ∧ m = (J.take i).countP in6)
      case atStart => exact ⟨0, 0, 0, by omega, by omega, rfl, rfl, rfl, rfl⟩
      case round =>
        obtain ⟨i, m, q, hi, hg, rfl, rfl, rfl, hm⟩ := hrel
        have HM := Lib.hid hm
        have hmb : m ≤ 900 := by
          have := List.countP_le_length (p := in6) (l := J.take i)
          rw [List.length_take] at this
          omega
        clear hm
        obtain ⟨wq, hwq⟩ : ∃ x, w2.drewN q = x := ⟨_, rfl⟩
        rw [hwq]
        have hbq : BelS w2 wq := by rw [← hwq]; exact below_drewN w2 q
        have HBQ := Lib.hid hbq
        have HWQ := Lib.hid hwq
        have HBQ2 := Lib.hid (fun n => show BelS wq (wq.drewN n) from below_drewN wq n)
        clear hwq hbq
        by_cases hlt : i < nj
        · have hd : decide ((i : Int) < (nj : Int)) = true := by simp; omega
          have hi1 : (i : Int) < (nj : Int) := by omega
          obtain ⟨b1, c1', xv, hv1, x0, hx⟩ := HO.out.row i (by have := HN.out; omega)
          injection hv1 with e1 e2 e3
          subst e1
          have x0 := HBQ.out.cell x0
          have hx := hx.below HBQ.out
          obtain ⟨row, hrow⟩ : ∃ r, J.getD i [] = r := ⟨_, rfl⟩
          rw [hrow] at hx
          have hin : row ∈ J := by rw [← hrow, getD_lt _ _ (by have := HN.out; omega)]; exact List.getElem_mem _
          obtain ⟨a, b, k, rfl, hab, hbk, hka⟩ := (HJ.out.1 row).1 hin
          obtain ⟨b2, off, c2', hv2, z0⟩ := sl_one' hx 0 0 (by simp)
          obtain ⟨b3, off3, c3', hv3, z1⟩ := sl_one' hx 0 1 (by simp)
          obtain ⟨b4, off4, c4', hv4, z2⟩ := sl_one' hx 0 2 (by simp)
          rw [hv2] at hv3 hv4
          injection hv3 with e4 e5 e6
          injection hv4 with e7 e8 e9
          injection e4 with e4
          injection e7 with e7
          injection e4 with e10 e11
          injection e7 with e12 e13
          subst e10 e11 e12 e13 hv2
          rw [Nat.add_zero] at z0
          have z0 : wq.cell? ⟨b2, off, none⟩ = some (.int .i64 a) := z0
          have z1 : wq.cell? ⟨b2, off + 1, none⟩ = some (.int .i64 b) := z1
          have z2 : wq.cell? ⟨b2, off + 2, none⟩ = some (.int .i64 k) := z2
          have HC1 := Lib.hid (fun n => hasD a b true (decide_eq_true hab) (HX.out.1.below (HBQ.out.then (HBQ2.out n))) (by have := HL.out; omega))
          have HC2 := Lib.hid (fun n => hasD b k true (decide_eq_true hbk) (HX.out.2.1.below (HBQ.out.then (HBQ2.out n))) (by have := HL.out; omega))
          have HC3 := Lib.hid (fun n => hasD k a true (decide_eq_true hka) (HX.out.2.2.below (HBQ.out.then (HBQ2.out n))) (by have := HL.out; omega))
          have HR := Lib.hid hrow
          have HXR := Lib.hid hx
          clear hrow hin hab hbk hka hx e2 e3 e5 e6 e8 e9
          by_cases hi0 : i = 0
          · have hd0 : decide ((0 : Int) < (i : Int)) = false := by simp; omega
            have hd0' : decide (0 < i) = false := by simp; omega
            have HI0 := Lib.hid hi0
            clear hi0
            go_wp2_with fail
            go_quiet (first | (go_at_call 14; with_reducible exact Calls.quiet_of (HC1.out _)) | (go_at_call 14; with_reducible exact Calls.quiet_of (HC2.out _)) | (go_at_call 14; with_reducible exact Calls.quiet_of (HC3.out _)))
            obtain ⟨q1, hq1⟩ : ∃ q1, wq.drewN nq = w2.drewN q1 := ⟨q + nq, by rw [← HWQ.out]; exact World.drewN_drewN w2 q nq⟩
            rw [hq1]
            have z0 := (HBQ2.out nq).cell z0
            have z1 := (HBQ2.out nq).cell z1
            have z2 := (HBQ2.out nq).cell z2
            rw [hq1] at z0 z1 z2
            clear hq1
            have hcases : (decide ((0 : Int) ≤ a) = false ∧ in6 [a, b, k] = false) ∨ (decide ((0 : Int) ≤ a) = true ∧ decide (a < 6) = false ∧ in6 [a, b, k] = false) ∨ (decide ((0 : Int) ≤ a) = true ∧ decide (a < 6) = true ∧ decide ((0 : Int) ≤ b) = false ∧ in6 [a, b, k] = false) ∨ (decide ((0 : Int) ≤ a) = true ∧ decide (a < 6) = true ∧ decide ((0 : Int) ≤ b) = true ∧ decide (b < 6) = false ∧ in6 [a, b, k] = false) ∨ (decide ((0 : Int) ≤ a) = true ∧ decide (a < 6) = true ∧ decide ((0 : Int) ≤ b) = true ∧ decide (b < 6) = true ∧ decide ((0 : Int) ≤ k) = false ∧ in6 [a, b, k] = false) ∨ (decide ((0 : Int) ≤ a) = true ∧ decide (a < 6) = true ∧ decide ((0 : Int) ≤ b) = true ∧ decide (b < 6) = true ∧ decide ((0 : Int) ≤ k) = true ∧ decide (k < 6) = false ∧ in6 [a, b, k] = false) ∨ (decide ((0 : Int) ≤ a) = true ∧ decide (a < 6) = true ∧ decide ((0 : Int) ≤ b) = true ∧ decide (b < 6) = true ∧ decide ((0 : Int) ≤ k) = true ∧ decide (k < 6) = true ∧ in6 [a, b, k] = true) := by
              simp only [decide_eq_true_eq, decide_eq_false_iff_not, in6_of]; omega
            rcases hcases with ⟨g1, h6⟩ | ⟨g1, g2, h6⟩ | ⟨g1, g2, g3, h6⟩ | ⟨g1, g2, g3, g4, h6⟩ | ⟨g1, g2, g3, g4, g5, h6⟩ | ⟨g1, g2, g3, g4, g5, g6, h6⟩ | ⟨g1, g2, g3, g4, g5, g6, h6⟩
            · have H6 := Lib.hid (take_cnt J i (by have := HN.out; omega) [a, b, k] HR.out _ h6)
              clear h6
              go_wp2_with fail
              go_roundg (nj - i)
              case measure => exact hg
              case rel => exact ⟨i + 1, m, q1, by omega, by omega, rfl, by go_num, rfl, by rw [H6.out, HM.out]; rfl⟩
            · have H6 := Lib.hid (take_cnt J i (by have := HN.out; omega) [a, b, k] HR.out _ h6)
              clear h6
              go_wp2_with fail
              go_roundg (nj - i)
              case measure => exact hg
              case rel => exact ⟨i + 1, m, q1, by omega, by omega, rfl, by go_num, rfl, by rw [H6.out, HM.out]; rfl⟩
            · have H6 := Lib.hid (take_cnt J i (by have := HN.out; omega) [a, b, k] HR.out _ h6)
              clear h6
              go_wp2_with fail
              go_roundg (nj - i)
              case measure => exact hg
              case rel => exact ⟨i + 1, m, q1, by omega, by omega, rfl, by go_num, rfl, by rw [H6.out, HM.out]; rfl⟩
            · have H6 := Lib.hid (take_cnt J i (by have := HN.out; omega) [a, b, k] HR.out _ h6)
              clear h6
              go_wp2_with fail
              go_roundg (nj - i)
              case measure => exact hg
              case rel => exact ⟨i + 1, m, q1, by omega, by omega, rfl, by go_num, rfl, by rw [H6.out, HM.out]; rfl⟩
            · have H6 := Lib.hid (take_cnt J i (by have := HN.out; omega) [a, b, k] HR.out _ h6)
              clear h6
              go_wp2_with fail
              go_roundg (nj - i)
              case measure => exact hg
              case rel => exact ⟨i + 1, m, q1, by omega, by omega, rfl, by go_num, rfl, by rw [H6.out, HM.out]; rfl⟩
            · have H6 := Lib.hid (take_cnt J i (by have := HN.out; omega) [a, b, k] HR.out _ h6)
              clear h6
              go_wp2_with fail
              go_roundg (nj - i)
              case measure => exact hg
              case rel => exact ⟨i + 1, m, q1, by omega, by omega, rfl, by go_num, rfl, by rw [H6.out, HM.out]; rfl⟩
            · have H6 := Lib.hid (take_cnt J i (by have := HN.out; omega) [a, b, k] HR.out _ h6)
              clear h6
              go_wp2_with fail
              go_roundg (nj - i)
              case measure => exact hg
              case rel => exact ⟨i + 1, m + 1, q1, by omega, by omega, by go_num, by go_num, rfl, by rw [H6.out, HM.out]; rfl⟩
          · obtain ⟨y0, hy0⟩ : ∃ y0, i = y0 + 1 := ⟨i - 1, by omega⟩
            have hd0 : decide ((0 : Int) < (i : Int)) = true := by simp; omega
            have hd0' : decide (0 < i) = true := by simp; omega
            obtain ⟨bp, cp, xp, hvp, p0, hp⟩ := HO.out.row y0 (by have := HN.out; omega)
            injection hvp with e14 e15 e16
            injection e14 with e14
            injection e14 with e17 e18
            subst e17
            have p0 := HBQ.out.cell p0
            have HLT := Lib.hid (show lexB (J.getD y0 []) [a, b, k] = true by
              rw [← HR.out, lexB_iff]
              exact rise_at HJ.out.2.2.1 (by omega) (by have := HN.out; omega))
            have HC4 := Lib.hid (fun n => lessD true HLT.out (hp.below (HBQ.out.then (HBQ2.out n))) (HXR.out.below (HBQ2.out n)) (by rw [HJ.out.2.2.2 _ (by rw [getD_lt _ _ (by have := HN.out; omega)]; exact List.getElem_mem _)]; simp) (by simp))
            have hsub : (i : Int) - 1 = (y0 : Int) := by omega
            have hyl : (y0 : Int) < (nj : Int) := by omega
            have HI0 := Lib.hid hi0
            have HY0 := Lib.hid hy0
            clear hi0 hy0 hp e15 e16
            go_wp2_with fail
            go_quiet (first | (go_at_call 14; with_reducible exact Calls.quiet_of (HC1.out _)) | (go_at_call 14; with_reducible exact Calls.quiet_of (HC2.out _)) | (go_at_call 14; with_reducible exact Calls.quiet_of (HC3.out _)) | (go_at_call 15; with_reducible exact Calls.quiet_of (HC4.out _)))
            obtain ⟨q1, hq1⟩ : ∃ q1, wq.drewN nq = w2.drewN q1 := ⟨q + nq, by rw [← HWQ.out]; exact World.drewN_drewN w2 q nq⟩
            rw [hq1]
            have z0 := (HBQ2.out nq).cell z0
            have z1 := (HBQ2.out nq).cell z1
            have z2 := (HBQ2.out nq).cell z2
            rw [hq1] at z0 z1 z2
            clear hq1
            have hcases : (decide ((0 : Int) ≤ a) = false ∧ in6 [a, b, k] = false) ∨ (decide ((0 : Int) ≤ a) = true ∧ decide (a < 6) = false ∧ in6 [a, b, k] = false) ∨ (decide ((0 : Int) ≤ a) = true ∧ decide (a < 6) = true ∧ decide ((0 : Int) ≤ b) = false ∧ in6 [a, b, k] = false) ∨ (decide ((0 : Int) ≤ a) = true ∧ decide (a < 6) = true ∧ decide ((0 : Int) ≤ b) = true ∧ decide (b < 6) = false ∧ in6 [a, b, k] = false) ∨ (decide ((0 : Int) ≤ a) = true ∧ decide (a < 6) = true ∧ decide ((0 : Int) ≤ b) = true ∧ decide (b < 6) = true ∧ decide ((0 : Int) ≤ k) = false ∧ in6 [a, b, k] = false) ∨ (decide ((0 : Int) ≤ a) = true ∧ decide (a < 6) = true ∧ decide ((0 : Int) ≤ b) = true ∧ decide (b < 6) = true ∧ decide ((0 : Int) ≤ k) = true ∧ decide (k < 6) = false ∧ in6 [a, b, k] = false) ∨ (decide ((0 : Int) ≤ a) = true ∧ decide (a < 6) = true ∧ decide ((0 : Int) ≤ b) = true ∧ decide (b < 6) = true ∧ decide ((0 : Int) ≤ k) = true ∧ decide (k < 6) = true ∧ in6 [a, b, k] = true) := by
              simp only [decide_eq_true_eq, decide_eq_false_iff_not, in6_of]; omega
            rcases hcases with ⟨g1, h6⟩ | ⟨g1, g2, h6⟩ | ⟨g1, g2, g3, h6⟩ | ⟨g1, g2, g3, g4, h6⟩ | ⟨g1, g2, g3, g4, g5, h6⟩ | ⟨g1, g2, g3, g4, g5, g6, h6⟩ | ⟨g1, g2, g3, g4, g5, g6, h6⟩
            · have H6 := Lib.hid (take_cnt J i (by have := HN.out; omega) [a, b, k] HR.out _ h6)
              clear h6
              go_wp2_with fail
              go_roundg (nj - i)
              case measure => exact hg
              case rel => exact ⟨i + 1, m, q1, by omega, by omega, rfl, by go_num, rfl, by rw [H6.out, HM.out]; rfl⟩
            · have H6 := Lib.hid (take_cnt J i (by have := HN.out; omega) [a, b, k] HR.out _ h6)
              clear h6
              go_wp2_with fail
              go_roundg (nj - i)
              case measure => exact hg
              case rel => exact ⟨i + 1, m, q1, by omega, by omega, rfl, by go_num, rfl, by rw [H6.out, HM.out]; rfl⟩
            · have H6 := Lib.hid (take_cnt J i (by have := HN.out; omega) [a, b, k] HR.out _ h6)
              clear h6
              go_wp2_with fail
              go_roundg (nj - i)
              case measure => exact hg
              case rel => exact ⟨i + 1, m, q1, by omega, by omega, rfl, by go_num, rfl, by rw [H6.out, HM.out]; rfl⟩
            · have H6 := Lib.hid (take_cnt J i (by have := HN.out; omega) [a, b, k] HR.out _ h6)
              clear h6
              go_wp2_with fail
              go_roundg (nj - i)
              case measure => exact hg
              case rel => exact ⟨i + 1, m, q1, by omega, by omega, rfl, by go_num, rfl, by rw [H6.out, HM.out]; rfl⟩
            · have H6 := Lib.hid (take_cnt J i (by have := HN.out; omega) [a, b, k] HR.out _ h6)
              clear h6
              go_wp2_with fail
              go_roundg (nj - i)
              case measure => exact hg
              case rel => exact ⟨i + 1, m, q1, by omega, by omega, rfl, by go_num, rfl, by rw [H6.out, HM.out]; rfl⟩
            · have H6 := Lib.hid (take_cnt J i (by have := HN.out; omega) [a, b, k] HR.out _ h6)
              clear h6
              go_wp2_with fail
              go_roundg (nj - i)
              case measure => exact hg
              case rel => exact ⟨i + 1, m, q1, by omega, by omega, rfl, by go_num, rfl, by rw [H6.out, HM.out]; rfl⟩
            · have H6 := Lib.hid (take_cnt J i (by have := HN.out; omega) [a, b, k] HR.out _ h6)
              clear h6
              go_wp2_with fail
              go_roundg (nj - i)
              case measure => exact hg
              case rel => exact ⟨i + 1, m + 1, q1, by omega, by omega, by go_num, by go_num, rfl, by rw [H6.out, HM.out]; rfl⟩
        · have hd : decide ((i : Int) < (nj : Int)) = false := by simp; omega
          obtain rfl : i = nj := by omega
          have hmn : m = n := by
            have := HM.out
            rw [← HN.out, List.take_length] at this
            exact this.trans HN3.out.symm
          subst hmn
          have HBA := Lib.hid (HB2.out.then HBQ.out)
          clear HN3 HM
          go_wp2_with fail
          refine (HA.out _).mono ?_
          rintro e w5 ⟨rfl, hb5⟩
          have HB5 := Lib.hid (HBA.out.then hb5)
          clear hb5 HBA
          go_wp2
          go_ret
          exact ⟨rfl, HB5.out⟩
end Go.Proofs.Ytejinhnmabnomaa.Lf
