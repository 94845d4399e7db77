/-
  The document's join: 'put'. Conditions: the slices lie as told.
-/
import Derived.Test.YtejinhnmabnomaaLg0
namespace Go.Proofs.Ytejinhnmabnomaa.Lf
open Go.Deep Go.RowKit Go.Proofs.YtejinhnmabnomaaW.PrintWords Go.Proofs.Ytejinhnmabnomaa.Pm Go.Proofs.Ytejinhnmabnomaa.Pw

theorem lessE {w : World} {u v : Value} {a b : List Int} (p : Bool) (hp : lexB a b = p) (ha : G.SlL w enc1 u a) (hb : G.SlL w enc1 v b) (hla : a.length ≤ 140737488355328) (hlb : b.length ≤ 140737488355328) :
    Calls Try.prog 15 #[u, v] w fun e w' => e = .returned (.bool p) ∧ ∃ m, w' = w.drewN m := by
  subst hp
  exact less_ok ha hb hla hlb
theorem info_sl : (Try.prog.info? 23).map (fun i => (i.zero, i.size, i.bytes)) = some (some (.slice none 0 0), 1, 24) := by kernel_rfl
def PutPost (w : World) (l : List (List Int)) (r : List Int) (e : Ending) (w' : World) : Prop := ∃ v' zs', e = .returned v' ∧ BelS w w' ∧ RowsS w' v' (ins r l) zs'
set_option maxHeartbeats 3200000 in
set_option maxRecDepth 100000 in
theorem put_ok {w : World} {lv rv : Value} {l : List (List Int)} {r : List Int} {zs : List SV} (hl : RowsS w lv l zs) (hr : G.SlL w enc1 rv r) (hll : l.length ≤ 4000000000000) (hrow : ∀ x ∈ l, x.length ≤ 140737488355328) (hrl : r.length ≤ 140737488355328) :
    Calls Try.prog 23 #[lv, rv] w (PutPost w l r) := by
  obtain ⟨A, c, rfl, hc, hA, _⟩ := id hl.sl
  obtain ⟨Ar, cr, rfl, _⟩ := id hr
  rw [hl.all.len] at hl hc ⊢
  obtain ⟨n, hn⟩ : ∃ n, l.length = n := ⟨_, rfl⟩
  obtain ⟨nr, hnr⟩ : ∃ n, r.length = n := ⟨_, rfl⟩
  rw [hn] at hl hll hc ⊢
  rw [hnr] at hr hrl ⊢
  have HN := Lib.hid (And.intro hn hnr)
  have HL := Lib.hid hl
  have HR := Lib.hid hr
  have HRL := Lib.hid (And.intro hrow hrl)
  have hA := hA
  clear hn hnr hl hr hrow hrl
  have hnN : (n : Int) ≤ 4000000000000 := by omega
  have hcN : (n : Int) ≤ (c : Int) := by omega
  go_enter Try.func23, Try.ntmps23
  go_wp2_with fail
  go_loopg [5] (n + 1) (fun g s5 wr => ∃ k q : Nat, k ≤ n ∧ n - k < g ∧ s5 = .int .i64 k ∧ wr = w.drewN q ∧ ∀ j, j < k → lexLt (l.getD j []) r)
  case atStart => exact ⟨0, 0, by omega, by omega, rfl, rfl, fun j hj => absurd hj (by omega)⟩
  case round =>
    obtain ⟨k, q, hk, hg, rfl, rfl, hall⟩ := hrel
    have HA := Lib.hid hall
    clear hall
    obtain ⟨wq, hwq⟩ : ∃ x, w.drewN q = x := ⟨_, rfl⟩
    rw [hwq]
    have HWQ := Lib.hid hwq
    have HBQ := Lib.hid (show BelS w wq by rw [← hwq]; exact below_drewN w q)
    clear hwq
    by_cases hlt : k < n
    · have hd : decide ((k : Int) < (n : Int)) = true := by simp; omega
      have hd' : decide (k < n) = true := by simp; omega
      have hi1 : (k : Int) < (n : Int) := by omega
      obtain ⟨b1, c1, hv1, x0, hx⟩ := HL.out.row k (by have := HN.out.1; omega)
      injection hv1 with e1 e2 e3
      subst e1
      have x0 := HBQ.out.cell x0
      obtain ⟨X, hX⟩ : ∃ X, l.getD k [] = X := ⟨_, rfl⟩
      rw [hX] at hx
      have hXl : X.length ≤ 140737488355328 := HRL.out.1 X (by rw [← hX, getD_lt _ _ (by have := HN.out.1; omega)]; exact List.getElem_mem _)
      generalize hzv : (zs.getD k svd).val = xv at x0 hx
      obtain ⟨Ax, cx, rfl, _⟩ := id hx
      clear hzv
      obtain ⟨nx, hnx⟩ : ∃ n, X.length = n := ⟨_, rfl⟩
      rw [hnx] at x0 hx
      obtain ⟨p, hp⟩ : ∃ p, lexB X r = p := ⟨_, rfl⟩
      obtain ⟨p2, hp2⟩ : ∃ p, lexB r X = p := ⟨_, rfl⟩
      have HC := Lib.hid (lessE p hp (hx.below HBQ.out) (HR.out.below HBQ.out) hXl (by have := HRL.out.2; have := HN.out.2; omega))
      have HP := Lib.hid (And.intro hX (And.intro hp hp2))
      have HX := Lib.hid (And.intro hx hXl)
      clear hX hp hp2 hx hXl hnx e2 e3
      cases p
      · go_wp2_with fail
        refine HC.out.mono ?_
        rintro e w2 ⟨rfl, q2, hq2⟩
        have HB2 := Lib.hid (HBQ.out.then (show BelS wq w2 by rw [hq2]; exact below_drewN wq q2))
        have x0 := (show BelS wq w2 by rw [hq2]; exact below_drewN wq q2).cell x0
        clear hq2
        have HC2 := Lib.hid (lessE p2 HP.out.2.2 (HR.out.below HB2.out) (HX.out.1.below HB2.out) (by have := HRL.out.2; have := HN.out.2; omega) HX.out.2)
        cases p2
        · have HEND : Hid (ins r l = l) := Lib.hid (by
            rw [ins_at r l k (by have := HN.out.1; omega) HA.out (fun _ => by rw [HP.out.1, ← lexB_iff, HP.out.2.1]; simp), if_pos ⟨by have := HN.out.1; omega, by rw [HP.out.1, ← lexB_iff, HP.out.2.2]; simp⟩])
          go_wp2_with fail
          refine HC2.out.mono ?_
          rintro e w3 ⟨rfl, q3, hq3⟩
          have HB3 := Lib.hid (HB2.out.then (show BelS w2 w3 by rw [hq3]; exact below_drewN w2 q3))
          clear hq3
          go_wp2_with fail
          go_ret
          refine ⟨_, zs, rfl, HB3.out, ?_⟩
          rw [HEND.out]
          exact HL.out.more HB3.out
        · have HEND : Hid (ins r l = l.take k ++ r :: l.drop k) := Lib.hid (by
            rw [ins_at r l k (by have := HN.out.1; omega) HA.out (fun _ => by rw [HP.out.1, ← lexB_iff, HP.out.2.1]; simp), if_neg (fun h => h.2 (by rw [HP.out.1, ← lexB_iff, HP.out.2.2]))])
          go_wp2_with fail
          refine HC2.out.mono ?_
          rintro e wz ⟨rfl, q3, hq3⟩
          have HB := Lib.hid (HB2.out.then (show BelS w2 wz by rw [hq3]; exact below_drewN w2 q3))
          clear hq3 x0 HX HC HC2 HBQ HB2 HWQ
          have hkc : (k : Int) ≤ (c : Int) := by omega
          have HZ := Lib.hid (HL.out.more HB.out)
          have HT := Lib.hid (HZ.out.sl.take rfl k (by have := HL.out.all.len; have := HN.out.1; omega))
          go_wp2_with (at_builtin; (refine G.wp_appN rfl _ _ 27 23 rfl _ 1 24 Try.underlying27 info_sl rfl (by omega) (by omega) encS (fun _ => rfl) encS_one wz.heap.size (.slice none 0 0) (.slice (some ⟨b1, 0, none⟩) k c) [] (zs.take k) rfl rfl (G.OwnL.nil _ _ _ _ _) HT.out (Nat.le_refl _) (by simp only [List.length_take, List.length_nil]; omega) ?_))
          intro v9 w9 ho9 hg9 _
          have B9 := Lib.hid ((G.OwnL.nil wz wz.heap.size 23 1 encS).next (Below.refl _ _) (Nat.le_refl _) hg9)
          have O9 := Lib.hid ho9
          clear ho9 hg9 HT
          go_wp2_with (at_builtin; (refine G.wp_app1 rfl _ _ 27 23 rfl _ 1 24 Try.underlying27 info_sl rfl (by omega) (by omega) encS (fun _ => rfl) encS_one wz.heap.size v9 (zs.take k) ⟨Ar, nr, cr⟩ _ rfl rfl _ rfl rfl O9.out B9.out.size (by simp only [List.length_take]; omega) ?_))
          intro v10 w10 ho10 hg10 _
          have B10 := Lib.hid (O9.out.next B9.out B9.out.size hg10)
          have O10 := Lib.hid ho10
          clear ho10 hg10
          by_cases hck : c = k
          · obtain rfl : n = k := by omega
            subst hck
            have HD := Lib.hid (show G.SlL w10 encS (.slice (some ⟨b1, 0, none⟩) 0 0) (zs.drop c) from by have := ((HZ.out.sl.below B10.out).drop (k := 1) (fun _ => rfl) c (by have := HL.out.all.len; have := HN.out.1; omega) b1 0 (fun h => absurd rfl h)); rw [Nat.sub_self] at this; exact this)
            go_wp2_with (at_builtin; (refine G.wp_appN rfl _ _ 27 23 rfl _ 1 24 Try.underlying27 info_sl rfl (by omega) (by omega) encS (fun _ => rfl) encS_one wz.heap.size v10 (.slice (some ⟨b1, 0, none⟩) 0 0) (zs.take c ++ [⟨Ar, nr, cr⟩]) (zs.drop c) rfl rfl O10.out HD.out B10.out.size (by have := HL.out.all.len; have := HN.out.1; simp only [List.length_append, List.length_take, List.length_drop, List.length_singleton]; omega) ?_))
            intro v11 w11 ho11 hg11 _
            have B11 := Lib.hid (O10.out.next B10.out B10.out.size hg11)
            have O11 := Lib.hid ho11
            clear ho11 hg11
            go_wp2_with fail
            go_ret
            refine ⟨_, _, rfl, HB.out.then B11.out, rowsS_own O11.out ?_⟩
            rw [HEND.out]
            have h1 := (HL.out.more (HB.out.then B11.out)).all
            have h2 : AllS w11 [⟨Ar, nr, cr⟩] [r] := ⟨HR.out.below (HB.out.then B11.out), trivial⟩
            have h3 := ((h1.take c).append h2).append (h1.drop c)
            rw [List.append_assoc, List.append_assoc] at h3
            exact h3
          · have hck2 : ¬ (c : Int) = (k : Int) := by omega
            have HD := Lib.hid (show G.SlL w10 encS (.slice (some ⟨b1, k, none⟩) (n - k) (c - k)) (zs.drop k) from by have := ((HZ.out.sl.below B10.out).drop (k := 1) (fun _ => rfl) k (by have := HL.out.all.len; have := HN.out.1; omega) b1 k (fun _ => ⟨rfl, by omega⟩)); exact this)
            go_wp2_with (at_builtin; (refine G.wp_appN rfl _ _ 27 23 rfl _ 1 24 Try.underlying27 info_sl rfl (by omega) (by omega) encS (fun _ => rfl) encS_one wz.heap.size v10 (.slice (some ⟨b1, k, none⟩) (n - k) (c - k)) (zs.take k ++ [⟨Ar, nr, cr⟩]) (zs.drop k) rfl rfl O10.out HD.out B10.out.size (by have := HL.out.all.len; have := HN.out.1; simp only [List.length_append, List.length_take, List.length_drop, List.length_singleton]; omega) ?_))
            intro v11 w11 ho11 hg11 _
            have B11 := Lib.hid (O10.out.next B10.out B10.out.size hg11)
            have O11 := Lib.hid ho11
            clear ho11 hg11
            go_wp2_with fail
            go_ret
            refine ⟨_, _, rfl, HB.out.then B11.out, rowsS_own O11.out ?_⟩
            rw [HEND.out]
            have h1 := (HL.out.more (HB.out.then B11.out)).all
            have h2 : AllS w11 [⟨Ar, nr, cr⟩] [r] := ⟨HR.out.below (HB.out.then B11.out), trivial⟩
            have h3 := ((h1.take k).append h2).append (h1.drop k)
            rw [List.append_assoc, List.append_assoc] at h3
            exact h3
      · go_wp2_with fail
        refine HC.out.mono ?_
        rintro e w2 ⟨rfl, q2, hq2⟩
        have HW2 := Lib.hid (show w2 = w.drewN (q + q2) by rw [hq2, ← HWQ.out]; exact World.drewN_drewN w q q2)
        clear hq2
        go_wp2_with fail
        go_roundg (n - k)
        case measure => exact hg
        case rel =>
          refine ⟨k + 1, _, by omega, by omega, by go_num, HW2.out, fun j hj => ?_⟩
          by_cases e : j < k
          · exact HA.out j e
          · rw [show j = k by omega, HP.out.1]
            exact (lexB_iff _ _).1 HP.out.2.1
    · have hd : decide ((k : Int) < (n : Int)) = false := by simp; omega
      have hd' : decide (k < n) = false := by simp; omega
      have HEND : Hid (ins r l = l.take k ++ r :: l.drop k) := Lib.hid (by
        rw [ins_at r l k (by have := HN.out.1; omega) HA.out (fun h => absurd h (by have := HN.out.1; omega)), if_neg (fun h => absurd h.1 (by have := HN.out.1; omega))])
      have HB := HBQ
      clear HBQ HWQ
      revert HB
      generalize wq = wz
      intro HB
      cases A with
      | none =>
        obtain rfl : c = 0 := hA rfl
        obtain rfl : n = 0 := by omega
        obtain rfl : k = 0 := by omega
        have hkc : (0 : Int) ≤ 0 := by omega
        have HZ := Lib.hid (HL.out.more HB.out)
        have HT := Lib.hid (HZ.out.sl.take rfl 0 (by have := HL.out.all.len; have := HN.out.1; omega))
        go_wp2_with (at_builtin; (refine G.wp_appN rfl _ _ 27 23 rfl _ 1 24 Try.underlying27 info_sl rfl (by omega) (by omega) encS (fun _ => rfl) encS_one wz.heap.size (.slice none 0 0) (.slice none 0 0) [] (zs.take 0) rfl rfl (G.OwnL.nil _ _ _ _ _) HT.out (Nat.le_refl _) (by simp only [List.length_take, List.length_nil]; omega) ?_))
        intro v9 w9 ho9 hg9 _
        have B9 := Lib.hid ((G.OwnL.nil wz wz.heap.size 23 1 encS).next (Below.refl _ _) (Nat.le_refl _) hg9)
        have O9 := Lib.hid ho9
        clear ho9 hg9 HT
        go_wp2_with (at_builtin; (refine G.wp_app1 rfl _ _ 27 23 rfl _ 1 24 Try.underlying27 info_sl rfl (by omega) (by omega) encS (fun _ => rfl) encS_one wz.heap.size v9 (zs.take 0) ⟨Ar, nr, cr⟩ _ rfl rfl _ rfl rfl O9.out B9.out.size (by simp only [List.length_take]; omega) ?_))
        intro v10 w10 ho10 hg10 _
        have B10 := Lib.hid (O9.out.next B9.out B9.out.size hg10)
        have O10 := Lib.hid ho10
        clear ho10 hg10
        have HD := Lib.hid (show G.SlL w10 encS (.slice none 0 0) (zs.drop 0) from by have h := List.eq_nil_of_length_eq_zero (HL.out.all.len.trans HN.out.1); rw [h]; exact G.SlL.nil _ _)
        go_wp2_with (at_builtin; (refine G.wp_appN rfl _ _ 27 23 rfl _ 1 24 Try.underlying27 info_sl rfl (by omega) (by omega) encS (fun _ => rfl) encS_one wz.heap.size v10 (.slice none 0 0) (zs.take 0 ++ [⟨Ar, nr, cr⟩]) (zs.drop 0) rfl rfl O10.out HD.out B10.out.size (by have := HL.out.all.len; have := HN.out.1; simp only [List.length_append, List.length_take, List.length_drop, List.length_singleton]; omega) ?_))
        intro v11 w11 ho11 hg11 _
        have B11 := Lib.hid (O10.out.next B10.out B10.out.size hg11)
        have O11 := Lib.hid ho11
        clear ho11 hg11
        go_wp2_with fail
        go_ret
        refine ⟨_, _, rfl, HB.out.then B11.out, rowsS_own O11.out ?_⟩
        rw [HEND.out]
        have h1 := (HL.out.more (HB.out.then B11.out)).all
        have h2 : AllS w11 [⟨Ar, nr, cr⟩] [r] := ⟨HR.out.below (HB.out.then B11.out), trivial⟩
        have h3 := ((h1.take 0).append h2).append (h1.drop 0)
        rw [List.append_assoc, List.append_assoc] at h3
        exact h3
      | some ad =>
        obtain ⟨b, rfl⟩ := HL.out.off ad n c rfl
        have hkc : (k : Int) ≤ (c : Int) := by omega
        have HZ := Lib.hid (HL.out.more HB.out)
        have HT := Lib.hid (HZ.out.sl.take rfl k (by have := HL.out.all.len; have := HN.out.1; omega))
        go_wp2_with (at_builtin; (refine G.wp_appN rfl _ _ 27 23 rfl _ 1 24 Try.underlying27 info_sl rfl (by omega) (by omega) encS (fun _ => rfl) encS_one wz.heap.size (.slice none 0 0) (.slice (some ⟨b, 0, none⟩) k c) [] (zs.take k) rfl rfl (G.OwnL.nil _ _ _ _ _) HT.out (Nat.le_refl _) (by simp only [List.length_take, List.length_nil]; omega) ?_))
        intro v9 w9 ho9 hg9 _
        have B9 := Lib.hid ((G.OwnL.nil wz wz.heap.size 23 1 encS).next (Below.refl _ _) (Nat.le_refl _) hg9)
        have O9 := Lib.hid ho9
        clear ho9 hg9 HT
        go_wp2_with (at_builtin; (refine G.wp_app1 rfl _ _ 27 23 rfl _ 1 24 Try.underlying27 info_sl rfl (by omega) (by omega) encS (fun _ => rfl) encS_one wz.heap.size v9 (zs.take k) ⟨Ar, nr, cr⟩ _ rfl rfl _ rfl rfl O9.out B9.out.size (by simp only [List.length_take]; omega) ?_))
        intro v10 w10 ho10 hg10 _
        have B10 := Lib.hid (O9.out.next B9.out B9.out.size hg10)
        have O10 := Lib.hid ho10
        clear ho10 hg10
        by_cases hck : c = k
        · obtain rfl : n = k := by omega
          subst hck
          have HD := Lib.hid (show G.SlL w10 encS (.slice (some ⟨b, 0, none⟩) 0 0) (zs.drop c) from by have := ((HZ.out.sl.below B10.out).drop (k := 1) (fun _ => rfl) c (by have := HL.out.all.len; have := HN.out.1; omega) b 0 (fun h => absurd rfl h)); rw [Nat.sub_self] at this; exact this)
          go_wp2_with (at_builtin; (refine G.wp_appN rfl _ _ 27 23 rfl _ 1 24 Try.underlying27 info_sl rfl (by omega) (by omega) encS (fun _ => rfl) encS_one wz.heap.size v10 (.slice (some ⟨b, 0, none⟩) 0 0) (zs.take c ++ [⟨Ar, nr, cr⟩]) (zs.drop c) rfl rfl O10.out HD.out B10.out.size (by have := HL.out.all.len; have := HN.out.1; simp only [List.length_append, List.length_take, List.length_drop, List.length_singleton]; omega) ?_))
          intro v11 w11 ho11 hg11 _
          have B11 := Lib.hid (O10.out.next B10.out B10.out.size hg11)
          have O11 := Lib.hid ho11
          clear ho11 hg11
          go_wp2_with fail
          go_ret
          refine ⟨_, _, rfl, HB.out.then B11.out, rowsS_own O11.out ?_⟩
          rw [HEND.out]
          have h1 := (HL.out.more (HB.out.then B11.out)).all
          have h2 : AllS w11 [⟨Ar, nr, cr⟩] [r] := ⟨HR.out.below (HB.out.then B11.out), trivial⟩
          have h3 := ((h1.take c).append h2).append (h1.drop c)
          rw [List.append_assoc, List.append_assoc] at h3
          exact h3
        · have hck2 : ¬ (c : Int) = (k : Int) := by omega
          have HD := Lib.hid (show G.SlL w10 encS (.slice (some ⟨b, k, none⟩) (n - k) (c - k)) (zs.drop k) from by have := ((HZ.out.sl.below B10.out).drop (k := 1) (fun _ => rfl) k (by have := HL.out.all.len; have := HN.out.1; omega) b k (fun _ => ⟨rfl, by omega⟩)); exact this)
          go_wp2_with (at_builtin; (refine G.wp_appN rfl _ _ 27 23 rfl _ 1 24 Try.underlying27 info_sl rfl (by omega) (by omega) encS (fun _ => rfl) encS_one wz.heap.size v10 (.slice (some ⟨b, k, none⟩) (n - k) (c - k)) (zs.take k ++ [⟨Ar, nr, cr⟩]) (zs.drop k) rfl rfl O10.out HD.out B10.out.size (by have := HL.out.all.len; have := HN.out.1; simp only [List.length_append, List.length_take, List.length_drop, List.length_singleton]; omega) ?_))
          intro v11 w11 ho11 hg11 _
          have B11 := Lib.hid (O10.out.next B10.out B10.out.size hg11)
          have O11 := Lib.hid ho11
          clear ho11 hg11
          go_wp2_with fail
          go_ret
          refine ⟨_, _, rfl, HB.out.then B11.out, rowsS_own O11.out ?_⟩
          rw [HEND.out]
          have h1 := (HL.out.more (HB.out.then B11.out)).all
          have h2 : AllS w11 [⟨Ar, nr, cr⟩] [r] := ⟨HR.out.below (HB.out.then B11.out), trivial⟩
          have h3 := ((h1.take k).append h2).append (h1.drop k)
          rw [List.append_assoc, List.append_assoc] at h3
          exact h3
end Go.Proofs.Ytejinhnmabnomaa.Lf
