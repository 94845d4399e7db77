/-
  A join of a law's own relations; LeapMany. Conditions: as each says.
-/
import Derived.Test.YtejinhnmabnomaaJe
namespace Go.Proofs.Ytejinhnmabnomaa.Lf
open Go.Deep Go.RowKit Go.Proofs.YtejinhnmabnomaaW.PrintWords Go.Proofs.Ytejinhnmabnomaa.Pm Go.Proofs.Ytejinhnmabnomaa.Pw

/-- Relations as a law lays them: a block, and the arguments' pairs. -/
structure RelM (v : Value) (rels : List RelV) (wx : World) : Prop where
  sl : G.SlL wx encR v rels
  inn : ∀ r ∈ rels, G.SlL wx enc2 r.v r.rows
theorem RelM.more {v : Value} {rels : List RelV} {a b : World} (h : RelM v rels a) (k : BelS a b) : RelM v rels b := ⟨h.sl.below k, fun r hr => (h.inn r hr).below k⟩
/-- Pairs as an argument has them, few. -/
def Few (rels : List RelV) : Prop := rels.length ≤ 1000 ∧ ∀ r ∈ rels, r.rows.length ≤ 30 ∧ ∀ p ∈ r.rows, p.1 ≤ 9223372036854775807 ∧ p.2 ≤ 9223372036854775807
theorem joinW_few {wx : World} (vars most : Int) (kv rv : Value) (keep : List Int) (rels : List RelV) (hk : G.SlL wx enc1 kv keep) (hkl : keep.length ≤ 1000) (h : RelM rv rels wx) (hf : Few rels) :
    Calls Try.prog 11 #[.int .i64 vars, kv, rv, .int .i64 most] wx (JPost wx vars keep rels most) :=
  join_ok vars most kv rv keep rels hk h.sl (fun r hr => ⟨h.inn r hr, (hf.2 r hr).2⟩) hkl hf.1 (fun r hr => by have := (hf.2 r hr).1; omega)
theorem joinW_yes {wx : World} {vars most : Int} {kv rv : Value} {keep : List Int} {rels : List RelV} {J : List (List Int)} (hJ : joinL keep rels = J) (hk : G.SlL wx enc1 kv keep) (hkl : keep.length ≤ 1000) (h : RelM rv rels wx) (hf : Few rels) (hp : MayP vars keep rels most) (hl : (J.length : Int) ≤ most) :
    Calls Try.prog 11 #[.int .i64 vars, kv, rv, .int .i64 most] wx fun e w' => ∃ A c, e = .returned (.tuple #[.slice A J.length c, .int .i64 0]) ∧ BelS wx w' ∧ RowsOut w' (.slice A J.length c) J := by
  refine (joinW_few vars most kv rv keep rels hk hkl h hf).mono ?_
  rintro e w' ⟨v, code, rfl, hb, hc⟩
  rw [hJ] at hc
  rcases hc with ⟨hn, _⟩ | ⟨_, hn, _⟩ | ⟨_, _, rfl, ho⟩
  · exact absurd hp hn
  · exact absurd hn (by omega)
  · obtain ⟨A, c, vs, rfl, _⟩ := id ho.own
    exact ⟨A, c, rfl, hb, ho⟩
theorem joinW_many {wx : World} {vars most : Int} {kv rv : Value} {keep : List Int} {rels : List RelV} {J : List (List Int)} (hJ : joinL keep rels = J) (hk : G.SlL wx enc1 kv keep) (hkl : keep.length ≤ 1000) (h : RelM rv rels wx) (hf : Few rels) (hp : MayP vars keep rels most) (hl : most < (J.length : Int)) :
    Calls Try.prog 11 #[.int .i64 vars, kv, rv, .int .i64 most] wx fun e w' => e = .returned (.tuple #[.slice none 0 0, .int .i64 110]) ∧ BelS wx w' := by
  refine (joinW_few vars most kv rv keep rels hk hkl h hf).mono ?_
  rintro e w' ⟨v, code, rfl, hb, hc⟩
  rw [hJ] at hc
  rcases hc with ⟨hn, _⟩ | ⟨_, _, rfl, rfl⟩ | ⟨_, hn, _⟩
  · exact absurd hp hn
  · exact ⟨rfl, hb⟩
  · exact absurd hn (by omega)
theorem joinL_row {vars most : Int} {keep : List Int} {rels : List RelV} (hp : MayP vars keep rels most) : ∀ r ∈ joinL keep rels, r.length = keep.length := by
  intro r hr
  obtain ⟨f, _, rfl⟩ := ((joinL_is hp).mem r).1 hr
  simp [keepN]
/-- The relations of LeapMany. -/
def manyR (v u : Value) (x y : List (Int × Int)) : List RelV := [⟨0, 1, v, x⟩, ⟨1, 2, u, y⟩]
theorem many_may (v u : Value) (x y : List (Int × Int)) {most : Int} (h0 : 0 ≤ most) (h1 : most ≤ 1048576) : MayP 3 [0, 2] (manyR v u x y) most := by
  refine ⟨by omega, by omega, h0, h1, by simp, by simp, ?_, ?_, ?_⟩
  · intro x hx; simp at hx; omega
  · intro r hr
    simp [manyR] at hr
    rcases hr with rfl | rfl
    · show (0 : Int) ≤ 0 ∧ (0 : Int) < 3 ∧ (0 : Int) ≤ 1 ∧ (1 : Int) < 3; omega
    · show (0 : Int) ≤ 1 ∧ (1 : Int) < 3 ∧ (0 : Int) ≤ 2 ∧ (2 : Int) < 3; omega
  · intro a h0 h1
    by_cases e : a = 2
    · exact ⟨⟨1, 2, u, y⟩, by simp [manyR], .inr e.symm⟩
    · refine ⟨⟨0, 1, v, x⟩, by simp [manyR], ?_⟩
      show (0 : Int) = a ∨ (1 : Int) = a
      omega
theorem many_few (v u : Value) {x y : List (Int × Int)} (hx : x.length ≤ 30) (hy : y.length ≤ 30) (tx : ∀ p ∈ x, p.1 ≤ 9223372036854775807 ∧ p.2 ≤ 9223372036854775807) (ty : ∀ p ∈ y, p.1 ≤ 9223372036854775807 ∧ p.2 ≤ 9223372036854775807) : Few (manyR v u x y) := by
  refine ⟨by simp [manyR], fun r hr => ?_⟩
  simp [manyR] at hr
  rcases hr with rfl | rfl
  · exact ⟨hx, tx⟩
  · exact ⟨hy, ty⟩
theorem many_short (v u : Value) {x y : List (Int × Int)} (hx : x.length ≤ 30) (hy : y.length ≤ 30) : (joinL [0, 2] (manyR v u x y)).length ≤ 900 := by
  refine Nat.le_trans (many_len (ea := fun p => p.1) (eb := fun p => p.2) (many_may v u x y (most := 0) (by omega) (by omega)) (fun f hf => ?_)) (Nat.mul_le_mul hx hy)
  have h1 := hf ⟨0, 1, x⟩ (by simp [manyR, relN, rlOf])
  have h2 := hf ⟨1, 2, y⟩ (by simp [manyR, relN, rlOf])
  exact ⟨_, h1, _, h2, rfl⟩
theorem many_relM {n : Nat} {wx : World} {v u : Value} {x y : List (Int × Int)} (h : wx.heap[n]? = some (.cells #[.int .i64 0, .int .i64 1, v, .int .i64 1, .int .i64 2, u] 35 (0, 0))) (hx : G.SlL wx enc2 v x) (hy : G.SlL wx enc2 u y) : RelM (pN n 2 2) (manyR v u x y) wx := by
  refine ⟨sl_block encR _ h rfl rfl, fun r hr => ?_⟩
  simp [manyR] at hr
  rcases hr with rfl | rfl
  · exact hx
  · exact hy
set_option maxHeartbeats 1600000 in
theorem many_ok (w : World) (v u : Value) (x y : List (Int × Int)) (hx : G.SlL w enc2 v x) (hy : G.SlL w enc2 u y) (tx : ∀ p ∈ x, p.1 ≤ 9223372036854775807 ∧ p.2 ≤ 9223372036854775807) (ty : ∀ p ∈ y, p.1 ≤ 9223372036854775807 ∧ p.2 ≤ 9223372036854775807) :
    Calls Try.prog 7 #[v, u] w fun e w' => e = .returned (.bool true) ∧ BelS w w' := by
  obtain ⟨A, c, rfl, hA⟩ := id hx
  obtain ⟨A', c', rfl, hA'⟩ := id hy
  clear hA hA'
  have HA := Lib.hid (fun w => awake_ok w)
  have hl := Lib.hid hx
  have hl' := Lib.hid hy
  clear hx hy
  by_cases h1 : x.length ≤ 30
  case neg =>
    go_enter Try.func7, Try.ntmps7
    go_wp2_with fail
    refine (HA.out _).mono ?_
    rintro e w2 ⟨rfl, hb⟩
    go_wp2
    go_ret
    exact ⟨rfl, hb⟩
  by_cases h2 : y.length ≤ 30
  case neg =>
    go_enter Try.func7, Try.ntmps7
    go_wp2_with fail
    refine (HA.out _).mono ?_
    rintro e w2 ⟨rfl, hb⟩
    go_wp2
    go_ret
    exact ⟨rfl, hb⟩
  have hF := Lib.hid (many_few (.slice A x.length c) (.slice A' y.length c') h1 h2 tx ty)
  have hJ9 := many_short (.slice A x.length c) (.slice A' y.length c') h1 h2
  have hM := Lib.hid (fun most => many_may (.slice A x.length c) (.slice A' y.length c') x y (most := most))
  have hW := Lib.hid (joinL_row (many_may (.slice A x.length c) (.slice A' y.length c') x y (most := 0) (by omega) (by omega)))
  generalize hJ : joinL [0, 2] (manyR (.slice A x.length c) (.slice A' y.length c') x y) = J at hJ9 hW
  have hJ := Lib.hid hJ
  clear tx ty
  go_enter Try.func7, Try.ntmps7
  go_wp2_with fail
  have hB := (BelS.refl w).alloc (.cells #[.int .i64 0, .int .i64 1, .slice A x.length c, .int .i64 1, .int .i64 2, .slice A' y.length c'] 35)
  have hR := many_relM (heap_alloc_new w _) (hl.out.below hB) (hl'.out.below hB)
  have hz := World.size_alloc w (.cells #[.int .i64 0, .int .i64 1, .slice A x.length c, .int .i64 1, .int .i64 2, .slice A' y.length c'] 35)
  generalize hx : w.alloc (.cells #[.int .i64 0, .int .i64 1, .slice A x.length c, .int .i64 1, .int .i64 2, .slice A' y.length c'] 35) = wx at hB hR hz ⊢
  clear hx
  have hk := sl_block enc1 [0, 2] (heap_alloc_new wx (.cells #[.int .i64 0, .int .i64 2] 3)) rfl rfl
  rw [hz] at hk
  refine (joinW_yes hJ.out hk (by simp) (hR.more ((BelS.refl _).alloc _)) hF.out (hM.out _ (by omega) (by omega)) (by omega)).mono ?_
  rintro e w2 ⟨A2, c2, rfl, hb2, ho2⟩
  have hB2 := Lib.hid ((hB.alloc _).then hb2)
  have hR2 := Lib.hid ((hR.more ((BelS.refl _).alloc _)).more hb2)
  have hO2 := Lib.hid ho2
  clear hB hR hk hz ho2 hb2
  go_wp2_with fail
  have hk := sl_block enc1 [0, 2] (heap_alloc_new w2 (.cells #[.int .i64 0, .int .i64 2] 3)) rfl rfl
  refine (joinW_yes hJ.out hk (by simp) (hR2.out.more ((BelS.refl _).alloc _)) hF.out (hM.out _ (by omega) (by omega)) (by omega)).mono ?_
  rintro e w3 ⟨A3, c3, rfl, hb3, ho3⟩
  have hB3 := Lib.hid ((hB2.out.alloc _).then hb3)
  have hR3 := Lib.hid ((hR2.out.more ((BelS.refl _).alloc _)).more hb3)
  have hO3 := Lib.hid (hO2.out.more (((BelS.refl _).alloc _).then hb3))
  have hO3' := Lib.hid ho3
  clear hB2 hR2 hO2 hk ho3 hb3
  go_wp2_with fail
  refine (same_ok hO3.out hO3'.out (by omega) (by omega) (fun r hr => by rw [hW.out r hr]; simp) (fun r hr => by rw [hW.out r hr]; simp)).mono ?_
  rintro e w4 ⟨he, q, hq⟩
  have hB4 := Lib.hid (show BelS w w4 by rw [hq]; exact hB3.out.drewN q)
  have hR4 := Lib.hid (show RelM _ _ w4 by rw [hq]; exact hR3.out.more ((BelS.refl _).drewN q))
  rw [decide_eq_true rfl] at he
  subst he
  clear hB3 hR3 hO3 hO3' hq
  by_cases h0 : J.length = 0
  · go_wp2_with fail
    refine (HA.out _).mono ?_
    rintro e w5 ⟨rfl, hb5⟩
    have hB5 := Lib.hid (hB4.out.then hb5)
    clear hB4 hb5
    go_wp2
    go_ret
    exact ⟨rfl, hB5.out⟩
  · go_wp2_with fail
    have hk := sl_block enc1 [0, 2] (heap_alloc_new w4 (.cells #[.int .i64 0, .int .i64 2] 3)) rfl rfl
    refine (joinW_many hJ.out hk (by simp) (hR4.out.more ((BelS.refl _).alloc _)) hF.out (hM.out _ (by omega) (by omega)) (by omega)).mono ?_
    rintro e w5 ⟨rfl, hb5⟩
    have hB5 := Lib.hid ((hB4.out.alloc _).then hb5)
    clear hB4 hk hR4 hb5
    go_wp2_with fail
    refine (HA.out _).mono ?_
    rintro e w6 ⟨rfl, hb6⟩
    have hB6 := Lib.hid (hB5.out.then hb6)
    clear hB5 hb6
    go_wp2
    go_ret
    exact ⟨rfl, hB6.out⟩
end Go.Proofs.Ytejinhnmabnomaa.Lf
