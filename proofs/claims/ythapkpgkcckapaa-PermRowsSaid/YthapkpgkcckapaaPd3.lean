/-
  The law of a walk that tells all rows: the walk. Conditions: the rows' cells lie as told.
-/
import Derived.Test.YthapkpgkcckapaaPd2
import Derived.Test.YthapkpgkcckapaaG0
namespace Go.Proofs.Ythapkpgkcckapaa.Pw
open Go.RowKit Go.Proofs.YthapkpgkcckapaaW.PrintWords Go.Proofs.Ythapkpgkcckapaa.Pm

theorem enc3_one (x : R3) : ∀ u ∈ enc3 x, u.oneCell' = true := by
  intro u hu
  simp [enc3] at hu
  rcases hu with rfl | rfl | rfl <;> rfl
theorem At.mk' {w0 w : World} {g X b c : Nat} {o : Ord} {L : List R3} {s : St} (h : At w0 w g X b c o L s) : Mk w0 w X b c o L := ⟨h.wk.idx, h.wk.rise, h.below, h.wk.xs, h.wk.bs, h.xw, h.bw⟩

set_option maxHeartbeats 8000000 in
theorem all_long (w : World) (A : Option Addr) (n c : Nat) (t : Int) (hl : 100 < n) :
    Calls Try.prog 6 #[.slice A n c, .int .i64 t] w fun e w' => e = .returned (.bool true) ∧ Below w.heap.size w w' := by
  have hd : decide ((100 : Int) < (n : Int)) = true := by simp; omega
  obtain ⟨m1, p1, a1, i1, j1⟩ := turn_nat t
  have r1 := turnOf_lt t
  have q1 := ords_at w (turnOf t) r1
  generalize turnOf t = k1 at *
  generalize ordAt k1 = o at *
  obtain ⟨c0, c1, c2⟩ := q1
  unfold ordsO at c0 c1 c2
  have r1' : (k1 : Int) < 6 := by omega
  go_enter Try.func6, Try.ntmps6
  go_wp2_with fail
  refine (awake_calls _).mono ?_
  rintro e w1 ⟨rfl, h1⟩
  have H1 := Lib.hid h1
  clear h1
  go_wp2_with fail
  go_ret
  refine ⟨rfl, ?_⟩
  have hb := below_a w (.cells #[.int .i64 0, .int .i64 1, .int .i64 2, .int .i64 1, .int .i64 2, .int .i64 0, .int .i64 2, .int .i64 0, .int .i64 1, .int .i64 0, .int .i64 2, .int .i64 1, .int .i64 1, .int .i64 0, .int .i64 2, .int .i64 2, .int .i64 1, .int .i64 0] 23)
  have hb2 := hb.alloc hb.size (.cells #[.int .i64 o.x, .int .i64 o.y, .int .i64 o.z] 23)
  exact below_tr hb2 H1.out hb2.size

theorem all_new (w : World) (v : Value) (l : List R3) (hv : SlR w v l) (hl : l.length ≤ 100) (o : Ord) (h6 : Six o) :
    Calls Try.prog 10 #[v, .agg #[.int .i64 o.x, .int .i64 o.y, .int .i64 o.z]] ((w.alloc ordsO).alloc (.cells #[.int .i64 o.x, .int .i64 o.y, .int .i64 o.z] 23)) fun e w' => ∃ X b c, e = .returned (.tuple #[.pointer (some ⟨X, 0, none⟩), .int .i64 0]) ∧
      w'.heap[w.heap.size + 1]? = some (boxO (ordR o)) ∧ Mk w w' X b c o (rowsOf o l) ∧ w.heap.size + 2 ≤ X ∧ w.heap.size + 2 ≤ b := by
  have e1 := size_alloc w ordsO
  have hb := below_a w ordsO
  have hb2 := hb.alloc hb.size (.cells #[.int .i64 o.x, .int .i64 o.y, .int .i64 o.z] 23)
  have e2 := size_alloc (w.alloc ordsO) (.cells #[.int .i64 o.x, .int .i64 o.y, .int .i64 o.z] 23)
  refine (mk_new w _ hb2 v l ((hv.below hb).below (below_a _ _)) (by omega) o h6).mono ?_
  rintro e w' ⟨X, b, c, rfl, hm, hb', h1, h2⟩
  refine ⟨X, b, c, rfl, ?_, hm, by omega, by omega⟩
  refine (hb'.block _ (by omega)).trans ?_
  show ((w.alloc ordsO).heap.push _)[w.heap.size + 1]? = _
  rw [Array.getElem?_push, if_pos (by omega)]
  rfl

theorem lp_start {w0 w : World} {g X b c ob : Nat} {o : Ord} {L : List R3} {s : St} (h : At w0 w g X b c o L s) (hob : w.heap[ob]? = some (boxO (ordR o))) (hg : ob ≠ g) :
    Lp w0 (w.alloc (.cells #[.int .i64 0, .int .i64 0, .int .i64 0] 23)) (w.heap.size + 1) g X b c ob w.heap.size o L s (.slice none 0 0) [] ⟨0, 0, 0⟩ := by
  have hb := below_a w (.cells #[.int .i64 0, .int .i64 0, .int .i64 0] 23)
  have hs := size_alloc w (.cells #[.int .i64 0, .int .i64 0, .int .i64 0] 23)
  have hol : ob < w.heap.size := (Array.getElem?_eq_some_iff.1 hob).1
  have h1 := h.wk.gs
  have h2 := h.wk.xs
  have h3 := h.wk.bs
  have h4 := h.below.size
  refine ⟨h.more hb, OwnR.nil _ _, (hb.block ob hol).trans hob, ?_, by omega, by omega, by omega, by omega, by omega, hg, by omega, by omega, by omega, by omega, by omega, by omega, by omega⟩
  show (w.heap.push _)[w.heap.size]? = _
  rw [Array.getElem?_push, if_pos rfl]
  rfl

set_option maxHeartbeats 8000000 in
set_option maxRecDepth 100000 in
theorem all_short (w : World) (A : Option Addr) (n c : Nat) (l : List R3) (t : Int) (hn : l.length = n) (hv : SlR w (.slice A n c) l) (hl : n ≤ 100) :
    Calls Try.prog 6 #[.slice A n c, .int .i64 t] w fun e w' => e = .returned (.bool true) ∧ Below w.heap.size w w' := by
  have hd : decide ((100 : Int) < (n : Int)) = false := by simp; omega
  obtain ⟨m1, p1, a1, i1, j1⟩ := turn_nat t
  have r1 := turnOf_lt t
  have q1 := ords_at w (turnOf t) r1
  have h6 := ordAt_six _ r1
  generalize turnOf t = k1 at *
  generalize ordAt k1 = o at *
  obtain ⟨c0, c1, c2⟩ := q1
  have r1' : (k1 : Int) < 6 := by omega
  have N1 := Lib.hid (all_new w _ l hv (by omega) o h6)
  unfold ordsO at c0 c1 c2 N1
  have hLl := rowsOf_len o l
  have hst := rowsOf_strict o h6 l
  generalize rowsOf o l = L at *
  have hxyz : o.x < 3 ∧ o.y < 3 ∧ o.z < 3 := by rcases h6 with h | h | h | h | h | h <;> omega
  obtain ⟨ox, oy, oz⟩ := hxyz
  have HN := Lib.hid (And.intro hn (And.intro hLl (And.intro h6 hst)))
  clear hn hLl hst hv h6
  go_enter Try.func6, Try.ntmps6
  go_wp2_with fail
  refine N1.out.mono ?_
  rintro e w1 ⟨X, b, cc, rfl, hob, mk1, hX, hb⟩
  have M1 := Lib.hid mk1
  have OB := Lib.hid (And.intro hob (And.intro hX hb))
  clear mk1 hob hX hb c0 c1 c2 i1 j1 a1 N1
  go_wp2_with fail
  refine (mk_walk M1.out).mono ?_
  rintro e w2 ⟨g, rfl, at2, hb2, hg⟩
  have hob2 := (hb2.block (w.heap.size + 1) (by have := (Array.getElem?_eq_some_iff.1 OB.out.1).1; omega)).trans OB.out.1
  have LP0 := Lib.hid (lp_start at2 hob2 (by have := (Array.getElem?_eq_some_iff.1 OB.out.1).1; omega))
  clear at2 hb2 hg hob2
  go_wp2_with fail
  obtain ⟨ab, hab⟩ : ∃ x, w2.heap.size = x := ⟨_, rfl⟩
  obtain ⟨t0, ht0⟩ : ∃ x, w2.alloc (.cells #[.int .i64 0, .int .i64 0, .int .i64 0] 23) = x := ⟨_, rfl⟩
  rw [hab] at LP0 ⊢
  rw [ht0] at LP0 ⊢
  clear hab ht0
  go_loopg [10, 12] 600 (fun q s10 s12 wr => ∃ (i : Nat) (s : St) (r : R3), s12 = .int .i64 i ∧ i + left L s ≤ 600 ∧ left L s ≤ q ∧ All L o s ∧ Lp w wr (ab + 1) g X b cc (w.heap.size + 1) ab o L s s10 (L.take (pos s)) r)
  case atStart =>
    have hz : (root L.length).d = 0 := rfl
    refine ⟨0, root L.length, ⟨0, 0, 0⟩, rfl, ?_, ?_, all_root L o, LP0.out⟩
    · rw [left_0 hz]; have := HN.out.2.1; have := HN.out.1; omega
    · rw [left_0 hz]; have := HN.out.2.1; have := HN.out.1; omega
  case round =>
    obtain ⟨i, s, r, rfl, hi, hq, hall, hlp⟩ := hrel
    have hi2 : (i : Int) < 2000 := by omega
    have LP := Lib.hid hlp
    have AL := Lib.hid hall
    have HI := Lib.hid (And.intro hi hq)
    clear hlp hall hi hq
    by_cases hA : (opOpen L o s).2 = 0
    · have hop := all_open AL.out HN.out.2.2.2 hA
      obtain ⟨s', hs'⟩ : ∃ s', opOpen L o s = (s', 0) := ⟨(opOpen L o s).1, by rw [← hA]⟩
      rw [hs'] at hop
      have CO := Lib.hid (lp_open LP.out hs')
      have OP := Lib.hid hop
      clear hA hop hs'
      go_wp2_with fail
      refine CO.out.mono ?_
      rintro e w3 ⟨rfl, l3⟩
      have L3 := Lib.hid l3
      clear l3
      go_wp2_with fail
      go_roundg (left L s')
      case measure => have := HI.out.2; have := OP.out.2.2; omega
      case rel =>
        have h1 := HI.out.1
        have h2 := OP.out.2.2
        exact ⟨i + 1, s', r, by go_num, by omega, Nat.le_refl _, OP.out.1, by rw [OP.out.2.1]; exact L3.out⟩
    · have hs3 : opOpen L o s = (s, 3) := by
        unfold opOpen at hA ⊢
        split
        · rfl
        · rename_i h1
          rw [if_neg h1] at hA
          exfalso
          apply hA
          split <;> rfl
      have CO := Lib.hid (lp_open LP.out hs3)
      have HA := Lib.hid hA
      clear hA hs3
      by_cases hS : stand s = true
      · have h3 : s.d = 3 := by
          have hs := (stand_iff s).1 hS
          have hl3 := AL.out.lv hs.1
          have := AL.out.ok.d3
          by_cases e : s.d = 3
          · exact e
          · exfalso
            apply HA.out
            rw [open_eq hS (by omega) e rfl]
        obtain ⟨T⟩ := all_tell AL.out HN.out.2.2.2 h3 hS
        have TR := Lib.hid (tell_row HN.out.2.2.1 AL.out HN.out.2.2.2 h3 hS)
        have K0 := Lib.hid T.k0
        have DD := Lib.hid h3
        clear hS h3
        go_wp2_with fail
        refine CO.out.mono ?_
        rintro e w3 ⟨rfl, l3⟩
        have L3 := Lib.hid l3
        clear l3
        go_wp2_with fail
        refine (lp_key L3.out K0.out).mono ?_
        rintro e w4 ⟨rfl, l4⟩
        have L4 := Lib.hid l4
        clear l4
        go_wp2_with fail
        refine (lp_depth L4.out DD.out).mono ?_
        rintro e w' ⟨rfl, rfl⟩
        obtain ⟨x0, x1, x2⟩ := L4.out.ocells
        obtain ⟨⟨y, hy⟩, fz⟩ := L4.out.afree o.z oz
        go_wp2_with fail
        refine (lp_up (L4.out.store o.z oz _) T.u1).mono ?_
        rintro e w5 ⟨rfl, l5⟩
        have L5 := Lib.hid l5
        clear l5 x0 x1 x2 hy fz
        go_wp2_with fail
        refine (lp_key L5.out T.k1).mono ?_
        rintro e w6 ⟨rfl, l6⟩
        have L6 := Lib.hid l6
        clear l6
        obtain ⟨x0, x1, x2⟩ := L6.out.ocells
        obtain ⟨⟨y, hy⟩, fz⟩ := L6.out.afree o.y oy
        go_wp2_with fail
        refine (lp_up (L6.out.store o.y oy _) T.u2).mono ?_
        rintro e w7 ⟨rfl, l7⟩
        have L7 := Lib.hid l7
        clear l7 x0 x1 x2 hy fz
        go_wp2_with fail
        refine (lp_key L7.out T.k2).mono ?_
        rintro e w8 ⟨rfl, l8⟩
        have L8 := Lib.hid l8
        clear l8
        obtain ⟨x0, x1, x2⟩ := L8.out.ocells
        obtain ⟨⟨y, hy⟩, fz⟩ := L8.out.afree o.x ox
        have L9 := Lib.hid (L8.out.store o.x ox (num L o 1 (s.f 1)))
        have hrow := TR.out
        have hput : put3 (put3 (put3 r o.z (num L o 3 (s.f 3))) o.y (num L o 2 (s.f 2))) o.x (num L o 1 (s.f 1)) = L.getD (s.f 3) r0 := by
          rw [← hrow.2.1, ← hrow.2.2.1, ← hrow.2.2.2]
          exact put3_all o HN.out.2.2.1 r _
        rw [hput] at L9
        clear hput hrow
        obtain ⟨z0, z1, z2⟩ := L9.out.acells
        have HB := Lib.hid (And.intro L9.out.own (And.intro L9.out.bw (show ((L.take (pos s)).length + 1) * 24 ≤ 140737488355328 by
          have := HN.out.2.1; have := HN.out.1
          rw [List.length_take]; omega)))
        go_wp2_with (at_builtin; go_loud (refine G.wp_app1 rfl _ _ 22 23 rfl _ 3 24 Try.underlying22 info23 rfl (by omega) (by omega) enc3 (fun _ => rfl) enc3_one (ab + 1) u10 (L.take (pos s)) (L.getD (s.f 3) r0) _ rfl rfl _ rfl (size_set _ _ _).symm HB.out.1 HB.out.2.1 HB.out.2.2 ?_))
        intro v' w9 ho9 hg9 _
        have ho9 : OwnR w9 (ab + 1) v' (L.take (pos s) ++ [L.getD (s.f 3) r0]) := ho9
        have hM : L.take (pos s) ++ [L.getD (s.f 3) r0] = L.take (s.f 3 + 1) := by
          have : pos s = s.f 3 := by unfold pos; rw [DD.out]
          have hlt := TR.out.1
          rw [this, List.take_succ_eq_append_getElem hlt, List.getD_eq_getElem?_getD, List.getElem?_eq_getElem hlt]
          rfl
        rw [hM] at ho9
        have L10 := Lib.hid (L9.out.app ho9 hg9)
        clear ho9 hg9 hM x0 x1 x2 hy fz z0 z1 z2
        go_wp2_with fail
        refine (lp_open L10.out T.u3).mono ?_
        rintro e w10 ⟨rfl, l11⟩
        have L11 := Lib.hid l11
        clear l11
        go_wp2_with fail
        refine (lp_seek L11.out T.u4).mono ?_
        rintro e w11 ⟨rfl, l12⟩
        have L12 := Lib.hid l12
        clear l12
        go_wp2_with fail
        refine (lp_open L12.out T.u5).mono ?_
        rintro e w12 ⟨rfl, l13⟩
        have L13 := Lib.hid l13
        clear l13
        go_wp2_with fail
        refine (lp_seek L13.out T.u6).mono ?_
        rintro e w13 ⟨rfl, l14⟩
        have L14 := Lib.hid l14
        clear l14
        go_wp2_with fail
        refine (lp_next L14.out T.u7).mono ?_
        rintro e w14 ⟨rfl, l15⟩
        have L15 := Lib.hid l15
        clear l15
        go_wp2_with fail
        go_roundg (left L T.s7)
        case measure => have := HI.out.2; have := T.left; omega
        case rel =>
          have h1 := HI.out.1
          have h2 := T.left
          exact ⟨i + 1, T.s7, _, by go_num, by omega, Nat.le_refl _, T.all, by rw [T.pos]; exact L15.out⟩
      · have hS' : stand s = false := by simpa using hS
        have hk : opKey L o s = (0, false) := by unfold opKey; rw [hS']; rfl
        by_cases hd2 : 2 ≤ s.d
        · have ON := all_on AL.out hS' hd2
          obtain ⟨s1, hs1⟩ : ∃ s1, opUp s = (s1, 0) := ⟨(opUp s).1, by rw [← ON.1]⟩
          rw [hs1] at ON
          obtain ⟨s2, k2, hs2⟩ : ∃ s2 k2, opNext L o s1 = (s2, k2) := ⟨_, _, rfl⟩
          simp only [hs2] at ON
          have hdn : ¬ ((s1.d : Int) = 0) := by have := ON.2.1; omega
          have hdb : ((s1.d : Int) == 0) = false := beq_eq_false_iff_ne.2 hdn
          have HO := Lib.hid (And.intro hk (And.intro hs1 (And.intro hs2 ON)))
          clear hk hs1 hs2 ON hS hS' hdn
          go_wp2_with fail
          refine CO.out.mono ?_
          rintro e w3 ⟨rfl, l3⟩
          have L3 := Lib.hid l3
          clear l3
          go_wp2_with fail
          refine (lp_key L3.out HO.out.1).mono ?_
          rintro e w4 ⟨rfl, l4⟩
          have L4 := Lib.hid l4
          clear l4
          go_wp2_with fail
          refine (lp_up L4.out HO.out.2.1).mono ?_
          rintro e w5 ⟨rfl, l5⟩
          have L5 := Lib.hid l5
          clear l5
          go_wp2_with fail
          refine (lp_depth L5.out rfl).mono ?_
          rintro e w' ⟨rfl, rfl⟩
          go_wp2_with fail
          refine (lp_next L5.out HO.out.2.2.1).mono ?_
          rintro e w6 ⟨rfl, l6⟩
          have L6 := Lib.hid l6
          clear l6
          go_wp2_with fail
          go_roundg (left L s2)
          case measure => have := HI.out.2; have := HO.out.2.2.2.2.2.2.2; omega
          case rel =>
            have h1 := HI.out.1
            have h2 := HO.out.2.2.2.2.2.2.2
            exact ⟨i + 1, s2, r, by go_num, by omega, Nat.le_refl _, HO.out.2.2.2.2.2.1, by rw [HO.out.2.2.2.2.2.2.1]; exact L6.out⟩
        · have hend : L.take (pos s) = L := by rw [all_end AL.out HA.out hS' (by omega), List.take_length]
          obtain ⟨s1, k1', hu⟩ : ∃ s1 k, opUp s = (s1, k) := ⟨_, _, rfl⟩
          have hd1 : k1' = 0 → s1.d = 0 := fun h => by
            unfold opUp at hu
            split at hu
            · injection hu with e1 e2; omega
            · injection hu with e1 e2; rw [← e1]; show s.d - 1 = 0; omega
          have hLn : L.length ≤ 1125899906842624 := by have := HN.out.2.1; have := HN.out.1; omega
          have HO := Lib.hid (And.intro hk (And.intro hu (And.intro hd1 (And.intro hend hLn))))
          clear hk hu hd1 hend hS hS' hd2 hLn
          go_wp2_with fail
          refine CO.out.mono ?_
          rintro e w3 ⟨rfl, l3⟩
          have L3 := Lib.hid l3
          clear l3
          go_wp2_with fail
          refine (lp_key L3.out HO.out.1).mono ?_
          rintro e w4 ⟨rfl, l4⟩
          have L4 := Lib.hid l4
          clear l4
          by_cases hk0 : k1' = 0
          · subst hk0
            go_wp2_with fail
            refine (lp_up L4.out HO.out.2.1).mono ?_
            rintro e w5 ⟨rfl, l5⟩
            have L5 := Lib.hid l5
            clear l5
            go_wp2_with fail
            refine (lp_depth L5.out (HO.out.2.2.1 trivial)).mono ?_
            rintro e w' ⟨rfl, rfl⟩
            go_wp2_with fail
            refine (mk_rows L5.out.at_.mk').mono ?_
            rintro e w6 ⟨v6, rfl, s6, mk6, hb6⟩
            have L6 := Lib.hid (L5.out.more hb6)
            have S6 := Lib.hid s6
            clear s6 mk6 hb6
            go_wp2_with fail
            refine (same_self w6 _ _ L (by have := L6.out.own.sl; rwa [HO.out.2.2.2.1] at this) S6.out HO.out.2.2.2.2).mono ?_
            rintro e w7 ⟨rfl, hb7⟩
            have L7 := Lib.hid (L6.out.more hb7)
            clear hb7
            go_wp2_with fail
            refine (awake_calls _).mono ?_
            rintro e w8 ⟨rfl, hb8⟩
            have B8 := Lib.hid hb8
            clear hb8
            go_wp2_with fail
            go_ret
            exact ⟨rfl, below_tr L7.out.at_.below B8.out L7.out.at_.below.size⟩
          · have hkb : (k1' == 0) = false := beq_eq_false_iff_ne.2 hk0
            go_wp2_with fail
            refine (lp_up L4.out HO.out.2.1).mono ?_
            rintro e w5 ⟨rfl, l5⟩
            have L5 := Lib.hid l5
            clear l5
            go_wp2_with fail
            refine (mk_rows L5.out.at_.mk').mono ?_
            rintro e w6 ⟨v6, rfl, s6, mk6, hb6⟩
            have L6 := Lib.hid (L5.out.more hb6)
            have S6 := Lib.hid s6
            clear s6 mk6 hb6
            go_wp2_with fail
            refine (same_self w6 _ _ L (by have := L6.out.own.sl; rwa [HO.out.2.2.2.1] at this) S6.out HO.out.2.2.2.2).mono ?_
            rintro e w7 ⟨rfl, hb7⟩
            have L7 := Lib.hid (L6.out.more hb7)
            clear hb7
            go_wp2_with fail
            refine (awake_calls _).mono ?_
            rintro e w8 ⟨rfl, hb8⟩
            have B8 := Lib.hid hb8
            clear hb8
            go_wp2_with fail
            go_ret
            exact ⟨rfl, below_tr L7.out.at_.below B8.out L7.out.at_.below.size⟩

theorem all_calls (w : World) (v : Value) (l : List R3) (t : Int) (hv : SlR w v l) :
    Calls Try.prog 6 #[v, .int .i64 t] w fun e w' => e = .returned (.bool true) ∧ Below w.heap.size w w' := by
  have hv' := hv
  obtain ⟨A, c, rfl, _, _⟩ := hv'
  by_cases hl : l.length ≤ 100
  · exact all_short w A _ c l t rfl hv hl
  · exact all_long w A _ c t (by omega)
end Go.Proofs.Ythapkpgkcckapaa.Pw
