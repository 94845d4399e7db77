/-
  The law of seeking: the walk. Conditions: the rows' cells lie as told.
-/
import Derived.Test.YthapkpgkcckapaaPc4
namespace Go.Proofs.Ythapkpgkcckapaa.Pw
open Go.RowKit Go.Proofs.YthapkpgkcckapaaW.PrintWords Go.Proofs.Ythapkpgkcckapaa.Pm

/-- Two walks of one index. -/
structure Two (w0 w : World) (ga gb X b c : Nat) (o : Ord) (L : List R3) (sa sb : St) : Prop where
  a : At w0 w ga X b c o L sa
  b : At w0 w gb X b c o L sb
  ne : ga ≠ gb
theorem Two.stepA {w0 w w' : World} {ga gb X b c : Nat} {o : Ord} {L : List R3} {sa sb sa' : St} (h : Two w0 w ga gb X b c o L sa sb) (ha : At w0 w' ga X b c o L sa') (hg : w.grownBy w' (some ga)) : Two w0 w' ga gb X b c o L sa' sb :=
  ⟨ha, h.b.other hg h.a.gw (fun e => h.ne e.symm) (fun e => h.a.wk.gX e.symm) (fun e => h.a.wk.gb e.symm), h.ne⟩
theorem Two.stepB {w0 w w' : World} {ga gb X b c : Nat} {o : Ord} {L : List R3} {sa sb sb' : St} (h : Two w0 w ga gb X b c o L sa sb) (hb : At w0 w' gb X b c o L sb') (hg : w.grownBy w' (some gb)) : Two w0 w' ga gb X b c o L sa sb' :=
  ⟨h.a.other hg h.b.gw h.ne (fun e => h.b.wk.gX e.symm) (fun e => h.b.wk.gb e.symm), hb, h.ne⟩
theorem Two.more {w0 w w' : World} {ga gb X b c : Nat} {o : Ord} {L : List R3} {sa sb : St} (h : Two w0 w ga gb X b c o L sa sb) (hb : Below w.heap.size w w') : Two w0 w' ga gb X b c o L sa sb := ⟨h.a.more hb, h.b.more hb, h.ne⟩
theorem two_openA {w0 w : World} {ga gb X b c : Nat} {o : Ord} {L : List R3} {sa sb : St} (h : Two w0 w ga gb X b c o L sa sb) :
    Calls Try.prog 15 #[.pointer (some ⟨ga, 0, none⟩)] w fun e w' => e = .returned (.int .i64 (opOpen L o sa).2) ∧ Two w0 w' ga gb X b c o L (opOpen L o sa).1 sb := (at_open h.a).mono fun _ _ ⟨he, ha, hg⟩ => ⟨he, h.stepA ha hg⟩
theorem two_openB {w0 w : World} {ga gb X b c : Nat} {o : Ord} {L : List R3} {sa sb : St} (h : Two w0 w ga gb X b c o L sa sb) :
    Calls Try.prog 15 #[.pointer (some ⟨gb, 0, none⟩)] w fun e w' => e = .returned (.int .i64 (opOpen L o sb).2) ∧ Two w0 w' ga gb X b c o L sa (opOpen L o sb).1 := (at_open h.b).mono fun _ _ ⟨he, ha, hg⟩ => ⟨he, h.stepB ha hg⟩
theorem two_seekA {w0 w : World} {ga gb X b c : Nat} {o : Ord} {L : List R3} {sa sb : St} (h : Two w0 w ga gb X b c o L sa sb) (n : Int) :
    Calls Try.prog 21 #[.pointer (some ⟨ga, 0, none⟩), .int .i64 n] w fun e w' => e = .returned (.int .i64 (if stand sa then 0 else 3)) ∧ Two w0 w' ga gb X b c o L (opSeek L o sa n).1 sb := (at_seek h.a n).mono fun _ _ ⟨he, ha, hg⟩ => ⟨he.trans (by rw [seek_code]), h.stepA ha hg⟩
theorem two_nextB {w0 w : World} {ga gb X b c : Nat} {o : Ord} {L : List R3} {sa sb : St} (h : Two w0 w ga gb X b c o L sa sb) :
    Calls Try.prog 19 #[.pointer (some ⟨gb, 0, none⟩)] w fun e w' => (∃ k, e = .returned (.int .i64 k)) ∧ Two w0 w' ga gb X b c o L sa (opNext L o sb).1 := (at_next h.b).mono fun _ _ ⟨he, ha, hg⟩ => ⟨⟨_, he⟩, h.stepB ha hg⟩
theorem two_keyA {w0 w : World} {ga gb X b c : Nat} {o : Ord} {L : List R3} {sa sb : St} (h : Two w0 w ga gb X b c o L sa sb) {p : Int × Bool} (hp : opKey L o sa = p) :
    Calls Try.prog 23 #[.pointer (some ⟨ga, 0, none⟩)] w fun e w' => e = .returned (.tuple #[.int .i64 p.1, .bool p.2]) ∧ Two w0 w' ga gb X b c o L sa sb := (at_key h.a).mono fun _ _ ⟨he, _, hb⟩ => ⟨he.trans (by rw [hp]), h.more hb⟩
theorem two_keyB {w0 w : World} {ga gb X b c : Nat} {o : Ord} {L : List R3} {sa sb : St} (h : Two w0 w ga gb X b c o L sa sb) {p : Int × Bool} (hp : opKey L o sb = p) :
    Calls Try.prog 23 #[.pointer (some ⟨gb, 0, none⟩)] w fun e w' => e = .returned (.tuple #[.int .i64 p.1, .bool p.2]) ∧ Two w0 w' ga gb X b c o L sa sb := (at_key h.b).mono fun _ _ ⟨he, _, hb⟩ => ⟨he.trans (by rw [hp]), h.more hb⟩
theorem two_walks {w0 w : World} {X b c ga : Nat} {o : Ord} {L : List R3} (h : Mk w0 w X b c o L) (ha : At w0 w ga X b c o L (root L.length)) :
    Calls Try.prog 14 #[.pointer (some ⟨X, 0, none⟩)] w fun e w' => ∃ gb, e = .returned (.pointer (some ⟨gb, 0, none⟩)) ∧ Two w0 w' ga gb X b c o L (root L.length) (root L.length) := by
  refine (mk_walk h).mono ?_
  rintro e w' ⟨gb, rfl, hb, hbel, hge⟩
  exact ⟨gb, rfl, ha.more hbel, hb, by have := ha.wk.gs; omega⟩

theorem seek_new (w : World) (v : Value) (l : List R3) (hv : SlR w v l) (hsm : l.length * 24 ≤ 140737488355328) :
    Calls Try.prog 10 #[v, .agg #[.int .i64 0, .int .i64 1, .int .i64 2]] w fun e w' => ∃ X b c, e = .returned (.tuple #[.pointer (some ⟨X, 0, none⟩), .int .i64 0]) ∧ Mk w w' X b c O0 (rowsOf O0 l) := by
  refine (mk_new w w (Below.refl _ _) v l hv hsm O0 six0).mono ?_
  rintro e w' ⟨X, b, c, rfl, hm, _⟩
  exact ⟨X, b, c, rfl, hm⟩

set_option maxHeartbeats 8000000 in
theorem seek_long (w : World) (A : Option Addr) (m c : Nat) (l : List R3) (deep : Bool) (n : Int) (hm : l.length = m) (hv : SlR w (.slice A m c) l) (hsm : m * 24 ≤ 140737488355328) (hl : 60 < m) :
    Calls Try.prog 4 #[.slice A m c, .bool deep, .int .i64 n] w fun e w' => e = .returned (.bool true) ∧ Below w.heap.size w w' := by
  have hd : decide ((60 : Int) < (m : Int)) = true := by simp; omega
  have N1 := Lib.hid (seek_new w _ l hv (by omega))
  clear hv hsm
  go_enter Try.func4, Try.ntmps4
  go_wp2_with fail
  refine N1.out.mono ?_
  rintro e w1 ⟨X, b, c1, rfl, mk1⟩
  have M1 := Lib.hid mk1
  clear mk1
  go_wp2_with fail
  refine (awake_calls _).mono ?_
  rintro e w2 ⟨rfl, hb2⟩
  have B2 := Lib.hid hb2
  clear hb2
  go_wp2_with fail
  go_ret
  exact ⟨rfl, below_tr M1.out.below B2.out M1.out.below.size⟩

set_option maxHeartbeats 8000000 in
set_option maxRecDepth 100000 in
theorem seek_short (w : World) (A : Option Addr) (m c : Nat) (l : List R3) (deep : Bool) (n : Int) (hm : l.length = m) (hv : SlR w (.slice A m c) l) (hl : m ≤ 60) :
    Calls Try.prog 4 #[.slice A m c, .bool deep, .int .i64 n] w fun e w' => e = .returned (.bool true) ∧ Below w.heap.size w w' := by
  have hd : decide ((60 : Int) < (m : Int)) = false := by simp; omega
  have N1 := Lib.hid (seek_new w _ l hv (by omega))
  have hL60 : (rowsOf O0 l).length ≤ 60 := by have := rowsOf_len O0 l; omega
  generalize rowsOf O0 l = L at *
  generalize O0 = o at *
  clear hv
  cases deep
  all_goals
    go_enter Try.func4, Try.ntmps4
    go_wp2_with fail
    refine N1.out.mono ?_
    rintro e w1 ⟨X, b, c1, rfl, mk1⟩
    have M1 := Lib.hid mk1
    clear mk1
    go_wp2_with fail
    refine (mk_walk M1.out).mono ?_
    rintro e w2 ⟨ga, rfl, aa, hb2, _⟩
    have AA := Lib.hid aa
    have M2 := Lib.hid (M1.out.more hb2)
    clear aa hb2
    go_wp2_with fail
    refine (two_walks M2.out AA.out).mono ?_
    rintro e w3 ⟨gb, rfl, t3⟩
    have T3 := Lib.hid t3
    clear t3
    go_wp2_with fail
    refine (two_openA T3.out).mono ?_
    rintro e w4 ⟨rfl, t4⟩
    have T4 := Lib.hid t4
    clear t4
    go_wp2_with fail
    refine (two_openB T4.out).mono ?_
    rintro e w5 ⟨rfl, t5⟩
    have T5 := Lib.hid t5
    clear t5
    generalize (opOpen L o (root L.length)).1 = s1 at T5
    generalize (opOpen L o (root L.length)).2 = k1
    go_wp2_with fail
  rotate_left
  refine (two_openA T5.out).mono ?_
  rintro e w6 ⟨rfl, t6⟩
  have T6 := Lib.hid t6
  clear t6
  go_wp2_with fail
  refine (two_openB T6.out).mono ?_
  rintro e w7 ⟨rfl, t7⟩
  clear T5
  have T5 := Lib.hid t7
  clear t7
  go_wp2_with fail
  all_goals
    obtain ⟨sd, T9⟩ : ∃ sd, Hid (Two w _ ga gb X b c1 o L sd sd) := ⟨_, T5⟩
    obtain ⟨st, hst⟩ : ∃ st, stand sd = st := ⟨_, rfl⟩
    obtain ⟨pk, hp⟩ : ∃ pk, opKey L o sd = (pk, st) := ⟨(opKey L o sd).1, by rw [← hst, ← key_ok L o sd]⟩
    have T10 := Lib.hid T9.out
    have HP := Lib.hid (And.intro hp hst)
    clear T5 hp hst
    cases st
    all_goals
      refine (two_keyA T9.out HP.out.1).mono ?_
      rintro e w8 ⟨rfl, t8⟩
      have T8 := Lib.hid t8
      clear t8
      go_wp2_with fail
      have SKC := two_seekA T8.out n
      rw [HP.out.2] at SKC
      refine SKC.mono ?_
      clear SKC
      rintro e w9 ⟨rfl, t9⟩
      have T9' := Lib.hid t9
      clear t9
      go_wp2_with fail
      go_loopg [13] 71 (fun g s13 wr => ∃ (i : Nat) (s : St), s13 = .int .i64 i ∧ 71 - i ≤ g ∧ Sk L o n sd s i ∧ Two w wr ga gb X b c1 o L (opSeek L o sd n).1 s)
      case atStart => exact ⟨0, sd, rfl, by omega, Sk.start L o n sd, T9'.out⟩
      case round =>
        obtain ⟨i, s, rfl, hg, hsk, htw⟩ := hrel
        have hi := hsk.count T10.out.a.wk.ok htw.b.wk.ok
        have SK := Lib.hid hsk
        have T11' := Lib.hid htw
        clear hsk htw
        cases hst : stand s
        · have hk : opKey L o s = (0, false) := by unfold opKey; rw [hst]; rfl
          have KB := Lib.hid (two_keyB T11'.out hk)
          have HST := Lib.hid hst
          clear hk hst
          go_wp2_with fail
          refine KB.out.mono ?_
          rintro e w11 ⟨rfl, t11⟩
          have T11 := Lib.hid t11
          clear t11
          obtain ⟨r, hr⟩ : ∃ r, opKey L o s = r := ⟨_, rfl⟩
          have hra : opKey L o (opSeek L o sd n).1 = r := (Sk.key SK.out T10.out.a.wk.ok T11.out.b.wk.ok (.inl HST.out)).trans hr
          have HR := Lib.hid (And.intro hr hra)
          clear hr hra
          go_wp2_with fail
          refine (two_keyA T11.out HR.out.2).mono ?_
          rintro e w12 ⟨rfl, t12⟩
          have T12 := Lib.hid t12
          clear t12
          go_wp2_with fail
          refine (two_keyB T12.out HR.out.1).mono ?_
          rintro e w13 ⟨rfl, t13⟩
          have T13 := Lib.hid t13
          clear t13
          go_wp2_with fail
          refine (awake_calls _).mono ?_
          rintro e w14 ⟨rfl, hb14⟩
          have B14 := Lib.hid hb14
          clear hb14
          go_wp2_with fail
          go_ret
          exact ⟨rfl, below_tr T13.out.a.below B14.out T13.out.a.below.size⟩
        · have hk : opKey L o s = (nm L o s, true) := by unfold opKey; rw [hst]; rfl
          have KB := Lib.hid (two_keyB T11'.out hk)
          have SN := Lib.hid (fun h => SK.out.next hst h)
          clear hk hst
          by_cases hn : n ≤ nm L o s
          · have hnn := Lib.hid hn
            generalize hv : nm L o s = v at KB hn
            clear hv
            go_wp2_with fail
            refine KB.out.mono ?_
            rintro e w11 ⟨rfl, t11⟩
            have T11 := Lib.hid t11
            clear t11
            obtain ⟨r, hr⟩ : ∃ r, opKey L o s = r := ⟨_, rfl⟩
            have hra : opKey L o (opSeek L o sd n).1 = r := (Sk.key SK.out T10.out.a.wk.ok T11.out.b.wk.ok (.inr hnn.out)).trans hr
            have HR := Lib.hid (And.intro hr hra)
            clear hr hra
            go_wp2_with fail
            refine (two_keyA T11.out HR.out.2).mono ?_
            rintro e w12 ⟨rfl, t12⟩
            have T12 := Lib.hid t12
            clear t12
            go_wp2_with fail
            refine (two_keyB T12.out HR.out.1).mono ?_
            rintro e w13 ⟨rfl, t13⟩
            have T13 := Lib.hid t13
            clear t13
            go_wp2_with fail
            refine (awake_calls _).mono ?_
            rintro e w14 ⟨rfl, hb14⟩
            have B14 := Lib.hid hb14
            clear hb14
            go_wp2_with fail
            go_ret
            exact ⟨rfl, below_tr T13.out.a.below B14.out T13.out.a.below.size⟩
          · have hnn := Lib.hid (show nm L o s < n by omega)
            generalize hv : nm L o s = v at KB hn
            clear hv
            go_wp2_with fail
            refine KB.out.mono ?_
            rintro e w11 ⟨rfl, t11⟩
            have T11 := Lib.hid t11
            clear t11
            go_wp2_with fail
            refine (two_nextB T11.out).mono ?_
            rintro e w12 ⟨⟨kk, rfl⟩, t12⟩
            have T12 := Lib.hid t12
            clear t12
            go_wp2_with fail
            go_roundg (71 - (i + 1))
            case measure => omega
            case rel => exact ⟨i + 1, _, by go_num, Nat.le_refl _, SN.out hnn.out, T12.out⟩

theorem seek_calls' (w : World) (v : Value) (l : List R3) (deep : Bool) (n : Int) (hv : SlR w v l) (hsm : l.length * 24 ≤ 140737488355328) :
    Calls Try.prog 4 #[v, .bool deep, .int .i64 n] w fun e w' => e = .returned (.bool true) ∧ Below w.heap.size w w' := by
  have hv' := hv
  obtain ⟨A, c, rfl, _, _⟩ := hv'
  by_cases hl : l.length ≤ 60
  · exact seek_short w A _ c l deep n rfl hv hl
  · exact seek_long w A _ c l deep n rfl hv hsm (by omega)
end Go.Proofs.Ythapkpgkcckapaa.Pw
