/-
  The law of walks: the walk. Conditions: the rows' cells and the steps' lie as told; numbers of 64 bits.
-/
import Derived.Test.YthapkpgkcckapaaPf7
namespace Go.Proofs.Ythapkpgkcckapaa.Pw
open Go.RowKit Go.Proofs.YthapkpgkcckapaaW.PrintWords Go.Proofs.Ythapkpgkcckapaa.Pm

set_option maxHeartbeats 4000000 in
theorem walks_no (w : World) (A : Option Addr) (n c : Nat) (x y z : Int) (S : Option Addr) (p sc : Nat) (hno : isOrd x y z = false) :
    Calls Try.prog 3 #[.slice A n c, .agg #[.int .i64 x, .int .i64 y, .int .i64 z], .slice S p sc] w fun e w' => e = .returned (.bool true) ∧ Below w.heap.size w w' := by
  have hb := Lib.hid (below_a w (.cells #[.int .i64 x, .int .i64 y, .int .i64 z] 23))
  have HC := Lib.hid (box_in w x y z)
  have HN := Lib.hid hno
  have IC := Lib.hid (fun w => is_calls w x y z)
  rw [hno] at IC
  clear hno
  go_enter Try.func3, Try.ntmps3
  go_wp2_with fail
  refine (new_no _ _ x y z HN.out).mono ?_
  rintro e w1 ⟨rfl, h1⟩
  have d0 := pw_cell_below h1 HC.out.1
  have d1 := pw_cell_below h1 HC.out.2.1
  have d2 := pw_cell_below h1 HC.out.2.2
  have H1 := Lib.hid (below_tr hb.out h1 hb.out.size)
  clear h1
  go_wp2_with fail
  refine (IC.out _).mono ?_
  rintro e w2 ⟨rfl, h2⟩
  have H2 := Lib.hid (below_tr H1.out h2 H1.out.size)
  clear h2 d0 d1 d2
  go_wp2_with fail
  refine (awake_calls _).mono ?_
  rintro e w3 ⟨rfl, h3⟩
  have H3 := Lib.hid h3
  clear h3
  go_wp2_with fail
  go_ret
  exact ⟨rfl, below_tr H2.out H3.out H2.out.size⟩

theorem wk_new (w : World) (v : Value) (l : List R3) (hv : SlR w v l) (hsm : l.length * 24 ≤ 140737488355328) (o : Ord) (h6 : Six o) :
    Calls Try.prog 10 #[v, .agg #[.int .i64 o.x, .int .i64 o.y, .int .i64 o.z]] (w.alloc (.cells #[.int .i64 o.x, .int .i64 o.y, .int .i64 o.z] 23)) fun e w' => ∃ X b c, e = .returned (.tuple #[.pointer (some ⟨X, 0, none⟩), .int .i64 0]) ∧
      Mk w w' X b c o (rowsOf o l) ∧ SlR w' v l ∧ Bx w w' o := by
  have hb := below_a w (.cells #[.int .i64 o.x, .int .i64 o.y, .int .i64 o.z] 23)
  refine (mk_new w _ hb v l (hv.below hb) hsm o h6).mono ?_
  rintro e w' ⟨X, b, c, rfl, hm, hb', _, _⟩
  exact ⟨X, b, c, rfl, hm, (hv.below hb).below hb', Bx.more (box_in w o.x o.y o.z) hb'⟩

set_option maxHeartbeats 4000000 in
theorem walks_long (w : World) (A : Option Addr) (n c : Nat) (l : List R3) (o : Ord) (ho : Six o) (S : Option Addr) (p sc : Nat) (hn : l.length = n) (hv : SlR w (.slice A n c) l) (hsm : n * 24 ≤ 140737488355328) (hl : 60 < n) :
    Calls Try.prog 3 #[.slice A n c, .agg #[.int .i64 o.x, .int .i64 o.y, .int .i64 o.z], .slice S p sc] w fun e w' => e = .returned (.bool true) ∧ Below w.heap.size w w' := by
  have hd : decide ((60 : Int) < (n : Int)) = true := by simp; omega
  have N1 := Lib.hid (wk_new w _ l hv (by omega) o ho)
  have IC := Lib.hid (fun w => is_calls w o.x o.y o.z)
  rw [isOrd_of_six o ho] at IC
  clear hv hsm hn ho
  go_enter Try.func3, Try.ntmps3
  go_wp2_with fail
  refine N1.out.mono ?_
  rintro e w1 ⟨X, b, cc, rfl, mk1, _, u0, u1, u2⟩
  have M1 := Lib.hid mk1
  clear mk1
  go_wp2_with fail
  refine (IC.out _).mono ?_
  rintro e w2 ⟨rfl, h2⟩
  have H2 := Lib.hid (below_tr M1.out.below h2 M1.out.below.size)
  clear h2 u0 u1 u2
  go_wp2_with fail
  refine (awake_calls _).mono ?_
  rintro e w3 ⟨rfl, h3⟩
  have H3 := Lib.hid h3
  clear h3
  go_wp2_with fail
  go_ret
  exact ⟨rfl, below_tr H2.out H3.out H2.out.size⟩

/-- The start of the rounds. -/
theorem wl_start {w0 w : World} {g X b c : Nat} {o : Ord} {L : List R3} {A : Option Addr} {n lc : Nat} (h : At w0 w g X b c o L (root L.length)) (hv : SlR w (.slice A n lc) L) (hA : Value.ownBlock (.slice A n lc) ≠ some g) :
    Wl w0 (w.alloc (.cells #[.int .i64 o.x, .int .i64 o.y, .int .i64 o.z, .slice A n lc, .slice none 0 0, .bool false] 39)) g X b c w.heap.size o L (root L.length) A n lc (.slice none 0 0) ⟨[], false⟩ := by
  have hb := below_a w (.cells #[.int .i64 o.x, .int .i64 o.y, .int .i64 o.z, .slice A n lc, .slice none 0 0, .bool false] 39)
  have h1 := h.wk.gs
  have h2 := h.wk.xs
  have h3 := h.wk.bs
  have h4 := h.below.size
  refine ⟨h.more hb, hv.below hb, G.SlL.nil _ _, ?_, by omega, by omega, by omega, hA, fun e => ?_, fun h => absurd rfl h, fun h => absurd rfl h, h4⟩
  · show (w.heap.push _)[w.heap.size]? = _
    rw [Array.getElem?_push, if_pos rfl]
  · have := hv.blk _ e
    omega

theorem r_len {L : List R3} {o : Ord} {s : St} {r : RS} (h : Rel L o s r) : r.at_.length ≤ 3 := by rw [h.len]; exact h.full.ok.d3
theorem key64 {L : List R3} {o : Ord} {s : St} {r : RS} (h : Rel L o s r) (hb : ∀ e i, i < L.length → In64 (num L o e i)) : In64 (rKey r).1 := by
  rw [← sim_key h]
  unfold opKey
  split
  · rename_i hs
    have hs' := (stand_iff s).1 hs
    have := (h.full.ok.le s.d hs'.1 (Nat.le_refl _)).2
    exact hb s.d (s.f s.d) (by omega)
  · show In64 0
    unfold In64; omega

/-- At the end of a round's step. -/
theorem wl_done {w0 wr w7 w8 : World} {g X b c vb nb : Nat} {o : Ord} {L : List R3} {s s' : St} {A : Option Addr} {n lc : Nat} {av av8 : Value} {r r' : RS} (hW : Wl w0 wr g X b c vb o L s A n lc av r) (h8 : Wl w0 w8 g X b c vb o L s' A n lc av r) (hnb : wr.heap.size = nb)
    (hn7 : nb < w7.heap.size) (hg7 : g < w7.heap.size) (hv7 : vb < w7.heap.size) (hs : SlI w8 av8 r'.at_) (hf : r'.at_ ≠ [] → ∀ g, av8.ownBlock = some g → w7.heap.size ≤ g ∨ (r.at_ ≠ [] ∧ av.ownBlock = some g)) (u0 u1 u2 u3 u4 u5 : Value) :
    Wl w0 ((((((((((((w8.setCell ⟨nb, 0, none⟩ u0).setCell ⟨nb, 1, none⟩ u1).setCell ⟨nb, 2, none⟩ u2).setCell ⟨nb, 3, none⟩ u3).setCell ⟨nb, 4, none⟩ u4).setCell ⟨nb, 5, none⟩ u5).setCell ⟨vb, 0, none⟩ (.int .i64 o.x)).setCell ⟨vb, 1, none⟩ (.int .i64 o.y)).setCell ⟨vb, 2, none⟩ (.int .i64 o.z)).setCell ⟨vb, 3, none⟩ (.slice A n lc)).setCell ⟨vb, 4, none⟩ av8).setCell ⟨vb, 5, none⟩ (.bool r'.beh)) g X b c vb o L s' A n lc av8 r' := by
  have hgs := hW.at_.wk.gs
  have hxs := hW.at_.wk.xs
  have hbs := hW.at_.wk.bs
  have hvs := hW.vs
  have hwb := hW.at_.below.size
  have hav : r.at_ ≠ [] → ∀ q, av.ownBlock = some q → q < nb := fun hx q hq => by
    obtain ⟨g', h1, h2⟩ := SlI.blk hW.ai hx
    rw [hq] at h1
    have := Option.some.inj h1
    omega
  have hg6 := grown_set6 w8 nb u0 u1 u2 u3 u4 u5
  have ho := h8.other hg6 (by omega) (by omega) (by omega) (by omega) (by omega) (fun e => by have := hW.lv.blk _ e; omega) (fun hx e => by have := hav hx _ e; omega)
  refine ho.put (SlI.set hs hg6 fun hx e => ?_) (fun hx e => ?_) (fun hx e => ?_) rfl rfl rfl rfl
  · rcases hf hx _ e with h | ⟨h1, h2⟩
    · omega
    · have := hav h1 _ h2; omega
  · rcases hf hx _ e with h | ⟨h1, h2⟩
    · omega
    · exact hW.ag h1 h2
  · rcases hf hx _ e with h | ⟨h1, h2⟩
    · omega
    · exact hW.avv h1 h2

set_option maxHeartbeats 16000000 in
set_option maxRecDepth 100000 in
theorem walks_short (w : World) (A : Option Addr) (n c : Nat) (l : List R3) (o : Ord) (ho : Six o) (S : Option Addr) (p sc : Nat) (sl : List (Int × Int)) (hn : l.length = n) (hv : SlR w (.slice A n c) l) (hl : n ≤ 60) (hs : SlS w (.slice S p sc) sl) (h64 : ∀ x ∈ l, In64 x.a ∧ In64 x.b ∧ In64 x.c) :
    Calls Try.prog 3 #[.slice A n c, .agg #[.int .i64 o.x, .int .i64 o.y, .int .i64 o.z], .slice S p sc] w fun e w' => e = .returned (.bool true) ∧ Below w.heap.size w w' := by
  have hd : decide ((60 : Int) < (n : Int)) = false := by simp; omega
  have hLl := rowsOf_len o l
  have N1 := Lib.hid (wk_new w _ l hv (by omega) o ho)
  have hLb : ∀ e i, i < (rowsOf o l).length → In64 (num (rowsOf o l) o e i) := fun e i hi => by
    unfold num
    rw [List.getD_eq_getElem?_getD, List.getElem?_eq_getElem hi]
    have hm := (rowsOf_mem o l _).1 (List.getElem_mem hi)
    have := h64 _ hm
    show In64 (((rowsOf o l)[i]).at (o.at (e - 1)))
    unfold R3.at
    split
    · exact this.1
    · split
      · exact this.2.1
      · exact this.2.2
  have hst := rowsOf_strict o ho l
  obtain ⟨L, hL⟩ : ∃ L, rowsOf o l = L := ⟨_, rfl⟩
  rw [hL] at N1 hLl hLb hst
  obtain ⟨m, hm⟩ : ∃ m, L.length = m := ⟨_, rfl⟩
  have HN := Lib.hid (And.intro hn (And.intro hLl (And.intro ho (And.intro hL (And.intro hm (And.intro hLb hst))))))
  have HS := Lib.hid hs
  clear hn hLl ho hL hv hm hLb hst h64 hs
  go_enter Try.func3, Try.ntmps3
  go_wp2_with fail
  refine N1.out.mono ?_
  rintro e w1 ⟨X, b, cc, rfl, mk1, sv1, bx1⟩
  have M1 := Lib.hid mk1
  have SV1 := Lib.hid sv1
  obtain ⟨u0, u1, u2⟩ := bx1
  clear mk1 sv1
  go_wp2_with fail
  have R1 := prow_ref w w1 A n c l L o HN.out.2.2.1 HN.out.1 SV1.out (by omega) HN.out.2.2.2.1
  rw [HN.out.2.2.2.2.1] at R1
  refine R1.mono ?_
  clear R1
  rintro e w2 ⟨A', c', rfl, sl2, hb2⟩
  have hb3 := below_a w2 (.cells #[.int .i64 o.x, .int .i64 o.y, .int .i64 o.z, .slice A' m c'] 32)
  have hq := (box_cells (w := w2.alloc (.cells #[.int .i64 o.x, .int .i64 o.y, .int .i64 o.z, .slice A' m c'] 32)) (g := w2.heap.size) (cs := #[.int .i64 o.x, .int .i64 o.y, .int .i64 o.z, .slice A' m c']) (t := 32) (by show (w2.heap.push _)[w2.heap.size]? = _; rw [Array.getElem?_push, if_pos rfl])).1
  have M2 := Lib.hid ((M1.out.more hb2).more hb3)
  have S2 := Lib.hid (sl2.below hb3)
  have HQ := Lib.hid hq
  clear sl2 hb2 u0 u1 u2 hb3 hq
  go_wp2_with fail
  generalize w2.alloc (.cells #[.int .i64 o.x, .int .i64 o.y, .int .i64 o.z, .slice A' m c'] 32) = W3 at *
  refine (mk_walk M2.out).mono ?_
  rintro e w4 ⟨g, rfl, at4, hb4, hg4⟩
  have q0 := pw_cell_below hb4 (HQ.out 0)
  have q1 := pw_cell_below hb4 (HQ.out 1)
  have q2 := pw_cell_below hb4 (HQ.out 2)
  have q3 := pw_cell_below hb4 (HQ.out 3)
  have W0 := Lib.hid (wl_start at4 (S2.out.below hb4) (fun e => by have := S2.out.blk _ e; omega))
  clear at4 hb4 hg4
  go_wp2_with fail
  obtain ⟨vb, hvb⟩ : ∃ x, w4.heap.size = x := ⟨_, rfl⟩
  rw [hvb] at W0 ⊢
  generalize w4.alloc (.cells #[.int .i64 o.x, .int .i64 o.y, .int .i64 o.z, .slice A' m c', .slice none 0 0, .bool false] 39) = W5 at *
  clear hvb q0 q1 q2 q3 HQ
  have hm60 : m ≤ 60 := by have := HN.out.1; have := HN.out.2.1; have := HN.out.2.2.2.2.1; omega
  go_loopg [13] 201 (fun gg s13 wr => ∃ (i : Nat) (s : St) (r : RS) (av : Value), i ≤ 200 ∧ 201 - i ≤ gg ∧ s13 = .int .i64 i ∧ Wl w wr g X b cc vb o L s A' m c' av r ∧ Rel L o s r)
  case atStart => exact ⟨0, _, _, _, by omega, by omega, rfl, W0.out, rel_root L o⟩
  case round =>
    obtain ⟨i, s, r, av, hi, hgg, rfl, hw, hrel⟩ := hrel
    obtain ⟨B, d, hva⟩ := SlI.form hw.ai
    obtain ⟨ma, hma⟩ : ∃ ma, r.at_.length = ma := ⟨_, rfl⟩
    rw [hma] at hva
    subst hva
    have WL := Lib.hid hw
    have RL := Lib.hid hrel
    have HI := Lib.hid hgg
    clear hw hrel hgg hma
    by_cases hip : i < p ∧ i < 200
    · obtain ⟨hip, hi2⟩ := hip
      have hip' : (i : Int) < (p : Int) := by omega
      have hi2' : (i : Int) < 200 := by omega
      obtain ⟨sb, soff, kd, nn, rfl, hsb, zz0, zz1⟩ := SlS.cell HS.out i hip
      have HZ := Lib.hid (And.intro zz0 zz1)
      obtain ⟨nb, hnb⟩ : ∃ x, wr.heap.size = x := ⟨_, rfl⟩
      have hvlt := WL.out.vs
      obtain ⟨⟨x0, x1, x2, x3, x4, x5⟩, _⟩ := six_cells WL.out.vbk
      have hal := below_a wr (.cells #[.int .i64 o.x, .int .i64 o.y, .int .i64 o.z, .slice A' m c', .slice B ma d, .bool r.beh] 39)
      have hnbk : (wr.alloc (.cells #[.int .i64 o.x, .int .i64 o.y, .int .i64 o.z, .slice A' m c', .slice B ma d, .bool r.beh] 39)).heap[nb]? = some (.cells #[.int .i64 o.x, .int .i64 o.y, .int .i64 o.z, .slice A' m c', .slice B ma d, .bool r.beh] 39) := by
        rw [← hnb]
        show (wr.heap.push _)[wr.heap.size]? = _
        rw [Array.getElem?_push, if_pos rfl]
      have WA := Lib.hid (WL.out.more hal)
      have z0 := pw_cell_below WA.out.at_.below zz0
      have z1 := pw_cell_below WA.out.at_.below zz1
      have HNB := Lib.hid (And.intro hnb (And.intro hnbk (And.intro hal hvlt)))
      have hnv : ¬ nb = vb := by omega
      have hvn : ¬ vb = nb := by omega
      have hsn : ¬ sb = nb := by have := WL.out.at_.below.size; omega
      have hns : ¬ nb = sb := fun e => hsn e.symm
      clear hal hnbk hvlt hsb zz0 zz1
      obtain ⟨k0, hk0⟩ : ∃ k0 : Int, kd = k0 := ⟨_, rfl⟩
      by_cases h1 : kd = 1
      · subst h1
        clear hk0
        obtain ⟨s', k, hop⟩ : ∃ s' k, opOpen L o s = (s', k) := ⟨_, _, rfl⟩
        obtain ⟨r', k2, hro⟩ : ∃ r' k, rOpen L o r = (r', k) := ⟨_, _, rfl⟩
        have hsim := sim_open RL.out HN.out.2.2.2.2.2.2
        rw [hop, hro] at hsim
        obtain ⟨hk2, hrl, hpos⟩ := hsim
        simp only at hk2 hrl hpos
        subst hk2
        have HO := Lib.hid (And.intro hop (And.intro hro (And.intro hrl hpos)))
        clear hop hro hrl hpos
        go_wp2_with fail
        generalize wr.alloc (.cells #[.int .i64 o.x, .int .i64 o.y, .int .i64 o.z, .slice A' m c', .slice B ma d, .bool r.beh] 39) = W6 at *
        have C1 := at_open WA.out.at_
        rw [HO.out.1] at C1
        refine C1.mono ?_
        clear C1
        rintro e w7 ⟨rfl, ha7, hg7⟩
        have W7 := Lib.hid (WA.out.walk ha7 hg7)
        have hn7 := (hg7.block nb (by have := HNB.out.2.2.1.size; have := (Array.getElem?_eq_some_iff.1 HNB.out.2.1).1; omega) (fun e => by have := Option.some.inj e; have := WL.out.at_.wk.gs; have := HNB.out.1; omega)).trans HNB.out.2.1
        have N7 := Lib.hid (And.intro hn7 (And.intro (Array.getElem?_eq_some_iff.1 hn7).1 (And.intro W7.out.at_.wk.gs W7.out.vs)))
        obtain ⟨⟨x0, x1, x2, x3, x4, x5⟩, _⟩ := six_cells W7.out.vbk
        clear ha7 hg7 hn7 z0 z1
        go_wp2_with fail
        refine (ro_open HN.out.2.2.1 HN.out.2.2.2.2.1 W7.out.lv (by omega) W7.out.ai (r_len RL.out) HO.out.2.1 HO.out.2.2.2).mono ?_
        rintro e w8 ⟨B8, m8, d8, rfl, hm8, hs8, hb8, hf8⟩
        have W8 := Lib.hid (W7.out.more hb8)
        have hn8 := (hb8.block nb N7.out.2.1).trans N7.out.1
        have HF := Lib.hid (And.intro hm8 (And.intro hs8 hf8))
        have W9 := Lib.hid (wl_done WL.out W8.out HNB.out.1 N7.out.2.1 N7.out.2.2.1 N7.out.2.2.2 hs8 hf8 (.int .i64 o.x) (.int .i64 o.y) (.int .i64 o.z) (.slice A' m c') (.slice B8 m8 d8) (.bool r'.beh))
        obtain ⟨⟨y0, y1, y2, y3, y4, y5⟩, ⟨fy0, fy1, fy2, fy3, fy4, fy5⟩⟩ := six_cells hn8
        clear x0 x1 x2 x3 x4 x5
        obtain ⟨⟨x0, x1, x2, x3, x4, x5⟩, ⟨fx0, fx1, fx2, fx3, fx4, fx5⟩⟩ := six_cells W8.out.vbk
        clear hm8 hs8 hb8 hf8 hn8
        generalize hb' : r'.beh = bb' at *
        have HB' := Lib.hid hb'
        clear hb'
        go_wp2_with fail
        clear x0 x1 x2 x3 x4 x5 fx0 fx1 fx2 fx3 fx4 fx5 y0 y1 y2 y3 y4 y5 fy0 fy1 fy2 fy3 fy4 fy5
        obtain ⟨q, ok, hkey⟩ : ∃ q ok, opKey L o s' = (q, ok) := ⟨_, _, rfl⟩
        have C2 := at_key W9.out.at_
        rw [hkey] at C2
        have HK := Lib.hid hkey
        clear hkey
        refine C2.mono ?_
        clear C2
        rintro e w10 ⟨rfl, _, hb10⟩
        have W10 := Lib.hid (W9.out.more hb10)
        obtain ⟨⟨x0, x1, x2, x3, x4, x5⟩, _⟩ := six_cells W10.out.vbk
        clear hb10
        rw [HB'.out] at x5
        go_wp2_with fail
        have C3 := rkey_calls w10 o (.slice A' m c') (.slice B8 m8 d8) r' q ok (by rw [← sim_key HO.out.2.2.1]; exact HK.out) W10.out.ai (r_len HO.out.2.2.1)
        rw [HB'.out] at C3
        refine C3.mono ?_
        clear C3
        rintro e w11 ⟨rfl, hb11⟩
        have W11 := Lib.hid (W10.out.more hb11)
        clear x0 x1 x2 x3 x4 x5 hb11
        obtain ⟨⟨_, _, _, _, x4, _⟩, _⟩ := six_cells W11.out.vbk
        have hdm : s'.d = m8 := by rw [← HF.out.1]; exact HO.out.2.2.1.len.symm
        have DQ := Lib.hid (fun W => fun (h : Below w11.heap.size w11 W) => show Calls Try.prog 25 #[.pointer (some ⟨g, 0, none⟩)] W (fun e w' => e = .returned (.int .i64 m8) ∧ w' = W) from (at_depth (W11.out.more h).at_).mono fun _ _ ⟨h1, h2⟩ => ⟨h1.trans (by rw [hdm]), h2.symm⟩)
        clear hdm
        go_wp2_with fail
        have hkk : (k != k) = false := by simp
        have hqq : (q != q) = false := by simp
        have hoo : (ok != ok) = false := by simp
        go_quiet ((go_at_call 25; exact Calls.quiet_of_same (DQ.out _ (by repeat (first | exact Below.refl _ _ | refine pw_below_drewN ?_ _ | refine below_drew ?_)))))
        go_wp2_with fail
        go_roundg (201 - (i + 1))
        case measure => have := HI.out; omega
        case rel => exact ⟨i + 1, s', r', .slice B8 m8 d8, by omega, Nat.le_refl _, by go_num, W11.out.more (by repeat (first | exact Below.refl _ _ | refine pw_below_drewN ?_ _ | refine below_drew ?_)), HO.out.2.2.1⟩
      · by_cases h2 : kd = 2
        · subst h2
          clear hk0 h1
          obtain ⟨s', k, hop⟩ : ∃ s' k, opUp s = (s', k) := ⟨_, _, rfl⟩
          obtain ⟨r', k2, hro⟩ : ∃ r' k, rUp r = (r', k) := ⟨_, _, rfl⟩
          have hsim := sim_up RL.out
          rw [hop, hro] at hsim
          obtain ⟨hk2, hrl⟩ := hsim
          simp only at hk2 hrl
          subst hk2
          have HO := Lib.hid (And.intro hop (And.intro hro (And.intro hrl trivial)))
          clear hop hro hrl
          go_wp2_with fail
          generalize wr.alloc (.cells #[.int .i64 o.x, .int .i64 o.y, .int .i64 o.z, .slice A' m c', .slice B ma d, .bool r.beh] 39) = W6 at *
          have C1 := at_up WA.out.at_
          rw [HO.out.1] at C1
          refine C1.mono ?_
          clear C1
          rintro e w7 ⟨rfl, ha7, hg7⟩
          have W7 := Lib.hid (WA.out.walk ha7 hg7)
          have hn7 := (hg7.block nb (by have := HNB.out.2.2.1.size; have := (Array.getElem?_eq_some_iff.1 HNB.out.2.1).1; omega) (fun e => by have := Option.some.inj e; have := WL.out.at_.wk.gs; have := HNB.out.1; omega)).trans HNB.out.2.1
          have N7 := Lib.hid (And.intro hn7 (And.intro (Array.getElem?_eq_some_iff.1 hn7).1 (And.intro W7.out.at_.wk.gs W7.out.vs)))
          obtain ⟨⟨x0, x1, x2, x3, x4, x5⟩, _⟩ := six_cells W7.out.vbk
          clear ha7 hg7 hn7 z0 z1
          go_wp2_with fail
          refine (ro_up W7.out.ai (r_len RL.out) HO.out.2.1).mono ?_
          rintro e w8 ⟨B8, m8, d8, rfl, hm8, hs8, hb8, hf8⟩
          have W8 := Lib.hid (W7.out.more hb8)
          have hn8 := (hb8.block nb N7.out.2.1).trans N7.out.1
          have HF := Lib.hid (And.intro hm8 (And.intro hs8 hf8))
          have W9 := Lib.hid (wl_done WL.out W8.out HNB.out.1 N7.out.2.1 N7.out.2.2.1 N7.out.2.2.2 hs8 hf8 (.int .i64 o.x) (.int .i64 o.y) (.int .i64 o.z) (.slice A' m c') (.slice B8 m8 d8) (.bool r'.beh))
          obtain ⟨⟨y0, y1, y2, y3, y4, y5⟩, ⟨fy0, fy1, fy2, fy3, fy4, fy5⟩⟩ := six_cells hn8
          clear x0 x1 x2 x3 x4 x5
          obtain ⟨⟨x0, x1, x2, x3, x4, x5⟩, ⟨fx0, fx1, fx2, fx3, fx4, fx5⟩⟩ := six_cells W8.out.vbk
          clear hm8 hs8 hb8 hf8 hn8
          generalize hb' : r'.beh = bb' at *
          have HB' := Lib.hid hb'
          clear hb'
          go_wp2_with fail
          clear x0 x1 x2 x3 x4 x5 fx0 fx1 fx2 fx3 fx4 fx5 y0 y1 y2 y3 y4 y5 fy0 fy1 fy2 fy3 fy4 fy5
          obtain ⟨q, ok, hkey⟩ : ∃ q ok, opKey L o s' = (q, ok) := ⟨_, _, rfl⟩
          have C2 := at_key W9.out.at_
          rw [hkey] at C2
          have HK := Lib.hid hkey
          clear hkey
          refine C2.mono ?_
          clear C2
          rintro e w10 ⟨rfl, _, hb10⟩
          have W10 := Lib.hid (W9.out.more hb10)
          obtain ⟨⟨x0, x1, x2, x3, x4, x5⟩, _⟩ := six_cells W10.out.vbk
          clear hb10
          rw [HB'.out] at x5
          go_wp2_with fail
          have C3 := rkey_calls w10 o (.slice A' m c') (.slice B8 m8 d8) r' q ok (by rw [← sim_key HO.out.2.2.1]; exact HK.out) W10.out.ai (r_len HO.out.2.2.1)
          rw [HB'.out] at C3
          refine C3.mono ?_
          clear C3
          rintro e w11 ⟨rfl, hb11⟩
          have W11 := Lib.hid (W10.out.more hb11)
          clear x0 x1 x2 x3 x4 x5 hb11
          obtain ⟨⟨_, _, _, _, x4, _⟩, _⟩ := six_cells W11.out.vbk
          have hdm : s'.d = m8 := by rw [← HF.out.1]; exact HO.out.2.2.1.len.symm
          have DQ := Lib.hid (fun W => fun (h : Below w11.heap.size w11 W) => show Calls Try.prog 25 #[.pointer (some ⟨g, 0, none⟩)] W (fun e w' => e = .returned (.int .i64 m8) ∧ w' = W) from (at_depth (W11.out.more h).at_).mono fun _ _ ⟨h1, h2⟩ => ⟨h1.trans (by rw [hdm]), h2.symm⟩)
          clear hdm
          go_wp2_with fail
          have hkk : (k != k) = false := by simp
          have hqq : (q != q) = false := by simp
          have hoo : (ok != ok) = false := by simp
          go_quiet ((go_at_call 25; exact Calls.quiet_of_same (DQ.out _ (by repeat (first | exact Below.refl _ _ | refine pw_below_drewN ?_ _ | refine below_drew ?_)))))
          go_wp2_with fail
          go_roundg (201 - (i + 1))
          case measure => have := HI.out; omega
          case rel => exact ⟨i + 1, s', r', .slice B8 m8 d8, by omega, Nat.le_refl _, by go_num, W11.out.more (by repeat (first | exact Below.refl _ _ | refine pw_below_drewN ?_ _ | refine below_drew ?_)), HO.out.2.2.1⟩
        · by_cases h3 : kd = 3
          · subst h3
            clear hk0 h1 h2
            obtain ⟨s', k, hop⟩ : ∃ s' k, opNext L o s = (s', k) := ⟨_, _, rfl⟩
            obtain ⟨r', k2, hro⟩ : ∃ r' k, rNext L o r = (r', k) := ⟨_, _, rfl⟩
            have hsim := sim_next RL.out HN.out.2.2.2.2.2.2 (fun e i hi => (HN.out.2.2.2.2.2.1 e i hi).2)
            rw [hop, hro] at hsim
            obtain ⟨hk2, hrl⟩ := hsim
            simp only at hk2 hrl
            subst hk2
            have HO := Lib.hid (And.intro hop (And.intro hro (And.intro hrl (key64 RL.out HN.out.2.2.2.2.2.1))))
            clear hop hro hrl
            go_wp2_with fail
            generalize wr.alloc (.cells #[.int .i64 o.x, .int .i64 o.y, .int .i64 o.z, .slice A' m c', .slice B ma d, .bool r.beh] 39) = W6 at *
            have C1 := at_next WA.out.at_
            rw [HO.out.1] at C1
            refine C1.mono ?_
            clear C1
            rintro e w7 ⟨rfl, ha7, hg7⟩
            have W7 := Lib.hid (WA.out.walk ha7 hg7)
            have hn7 := (hg7.block nb (by have := HNB.out.2.2.1.size; have := (Array.getElem?_eq_some_iff.1 HNB.out.2.1).1; omega) (fun e => by have := Option.some.inj e; have := WL.out.at_.wk.gs; have := HNB.out.1; omega)).trans HNB.out.2.1
            have N7 := Lib.hid (And.intro hn7 (And.intro (Array.getElem?_eq_some_iff.1 hn7).1 (And.intro W7.out.at_.wk.gs W7.out.vs)))
            obtain ⟨⟨x0, x1, x2, x3, x4, x5⟩, _⟩ := six_cells W7.out.vbk
            clear ha7 hg7 hn7 z0 z1
            go_wp2_with fail
            refine (ro_next HN.out.2.2.1 HN.out.2.2.2.2.1 W7.out.lv (by omega) W7.out.ai (r_len RL.out) HO.out.2.1 HO.out.2.2.2).mono ?_
            rintro e w8 ⟨B8, m8, d8, rfl, hm8, hs8, hb8, hf8⟩
            have W8 := Lib.hid (W7.out.more hb8)
            have hn8 := (hb8.block nb N7.out.2.1).trans N7.out.1
            have HF := Lib.hid (And.intro hm8 (And.intro hs8 hf8))
            have W9 := Lib.hid (wl_done WL.out W8.out HNB.out.1 N7.out.2.1 N7.out.2.2.1 N7.out.2.2.2 hs8 hf8 (.int .i64 o.x) (.int .i64 o.y) (.int .i64 o.z) (.slice A' m c') (.slice B8 m8 d8) (.bool r'.beh))
            obtain ⟨⟨y0, y1, y2, y3, y4, y5⟩, ⟨fy0, fy1, fy2, fy3, fy4, fy5⟩⟩ := six_cells hn8
            clear x0 x1 x2 x3 x4 x5
            obtain ⟨⟨x0, x1, x2, x3, x4, x5⟩, ⟨fx0, fx1, fx2, fx3, fx4, fx5⟩⟩ := six_cells W8.out.vbk
            clear hm8 hs8 hb8 hf8 hn8
            generalize hb' : r'.beh = bb' at *
            have HB' := Lib.hid hb'
            clear hb'
            go_wp2_with fail
            clear x0 x1 x2 x3 x4 x5 fx0 fx1 fx2 fx3 fx4 fx5 y0 y1 y2 y3 y4 y5 fy0 fy1 fy2 fy3 fy4 fy5
            obtain ⟨q, ok, hkey⟩ : ∃ q ok, opKey L o s' = (q, ok) := ⟨_, _, rfl⟩
            have C2 := at_key W9.out.at_
            rw [hkey] at C2
            have HK := Lib.hid hkey
            clear hkey
            refine C2.mono ?_
            clear C2
            rintro e w10 ⟨rfl, _, hb10⟩
            have W10 := Lib.hid (W9.out.more hb10)
            obtain ⟨⟨x0, x1, x2, x3, x4, x5⟩, _⟩ := six_cells W10.out.vbk
            clear hb10
            rw [HB'.out] at x5
            go_wp2_with fail
            have C3 := rkey_calls w10 o (.slice A' m c') (.slice B8 m8 d8) r' q ok (by rw [← sim_key HO.out.2.2.1]; exact HK.out) W10.out.ai (r_len HO.out.2.2.1)
            rw [HB'.out] at C3
            refine C3.mono ?_
            clear C3
            rintro e w11 ⟨rfl, hb11⟩
            have W11 := Lib.hid (W10.out.more hb11)
            clear x0 x1 x2 x3 x4 x5 hb11
            obtain ⟨⟨_, _, _, _, x4, _⟩, _⟩ := six_cells W11.out.vbk
            have hdm : s'.d = m8 := by rw [← HF.out.1]; exact HO.out.2.2.1.len.symm
            have DQ := Lib.hid (fun W => fun (h : Below w11.heap.size w11 W) => show Calls Try.prog 25 #[.pointer (some ⟨g, 0, none⟩)] W (fun e w' => e = .returned (.int .i64 m8) ∧ w' = W) from (at_depth (W11.out.more h).at_).mono fun _ _ ⟨h1, h2⟩ => ⟨h1.trans (by rw [hdm]), h2.symm⟩)
            clear hdm
            go_wp2_with fail
            have hkk : (k != k) = false := by simp
            have hqq : (q != q) = false := by simp
            have hoo : (ok != ok) = false := by simp
            go_quiet ((go_at_call 25; exact Calls.quiet_of_same (DQ.out _ (by repeat (first | exact Below.refl _ _ | refine pw_below_drewN ?_ _ | refine below_drew ?_)))))
            go_wp2_with fail
            go_roundg (201 - (i + 1))
            case measure => have := HI.out; omega
            case rel => exact ⟨i + 1, s', r', .slice B8 m8 d8, by omega, Nat.le_refl _, by go_num, W11.out.more (by repeat (first | exact Below.refl _ _ | refine pw_below_drewN ?_ _ | refine below_drew ?_)), HO.out.2.2.1⟩
          · have h1b : (kd == 1) = false := beq_eq_false_iff_ne.2 h1
            have h2b : (kd == 2) = false := beq_eq_false_iff_ne.2 h2
            have h3b : (kd == 3) = false := beq_eq_false_iff_ne.2 h3
            clear hk0 h1 h2 h3
            obtain ⟨s', k, hop⟩ : ∃ s' k, opSeek L o s nn = (s', k) := ⟨_, _, rfl⟩
            obtain ⟨r', k2, hro⟩ : ∃ r' k, rSeek L o r nn = (r', k) := ⟨_, _, rfl⟩
            have hsim := sim_seek RL.out HN.out.2.2.2.2.2.2 nn
            rw [hop, hro] at hsim
            obtain ⟨hk2, hrl⟩ := hsim
            simp only at hk2 hrl
            subst hk2
            have HO := Lib.hid (And.intro hop (And.intro hro (And.intro hrl trivial)))
            clear hop hro hrl
            go_wp2_with fail
            generalize wr.alloc (.cells #[.int .i64 o.x, .int .i64 o.y, .int .i64 o.z, .slice A' m c', .slice B ma d, .bool r.beh] 39) = W6 at *
            have C1 := at_seek WA.out.at_ nn
            rw [HO.out.1] at C1
            refine C1.mono ?_
            clear C1
            rintro e w7 ⟨rfl, ha7, hg7⟩
            have W7 := Lib.hid (WA.out.walk ha7 hg7)
            have hn7 := (hg7.block nb (by have := HNB.out.2.2.1.size; have := (Array.getElem?_eq_some_iff.1 HNB.out.2.1).1; omega) (fun e => by have := Option.some.inj e; have := WL.out.at_.wk.gs; have := HNB.out.1; omega)).trans HNB.out.2.1
            have N7 := Lib.hid (And.intro hn7 (And.intro (Array.getElem?_eq_some_iff.1 hn7).1 (And.intro W7.out.at_.wk.gs W7.out.vs)))
            obtain ⟨⟨x0, x1, x2, x3, x4, x5⟩, _⟩ := six_cells W7.out.vbk
            clear ha7 hg7 hn7 z0 z1
            go_wp2_with fail
            have z1 := pw_cell_below W7.out.at_.below HZ.out.2
            have RS := Lib.hid (fun W => fun (h : Below w7.heap.size w7 W) => ro_seek (r' := r') (k := k) HN.out.2.2.1 HN.out.2.2.2.2.1 (W7.out.lv.below h) (by omega) (W7.out.ai.below h) (r_len RL.out) HO.out.2.1)
            go_region_held3 (fun W => (W.cell? ⟨vb, 0, none⟩ = some (.int .i64 o.x) ∧ W.cell? ⟨vb, 1, none⟩ = some (.int .i64 o.y) ∧ W.cell? ⟨vb, 2, none⟩ = some (.int .i64 o.z) ∧ W.cell? ⟨vb, 3, none⟩ = some (.slice A' m c') ∧ W.cell? ⟨vb, 4, none⟩ = some (.slice B ma d) ∧ W.cell? ⟨vb, 5, none⟩ = some (.bool r.beh)) ∧ W.cell? ⟨sb, soff + i * 2 + 1, none⟩ = some (.int .i64 nn))
              (first | go_keep | (refine ⟨⟨?_, ?_, ?_, ?_, ?_, ?_⟩, ?_⟩ <;> first | (exact pw_cell_below HH.out.2.2.1 (by assumption)) | go_keep))
              (first | (go_at_call 22; refine (RS.out _ (below_drew (Below.refl _ _))).mono ?_; rintro e w8 ⟨B8, m8, d8, rfl, hm8, hs8, hb8, hf8⟩; have HH := Lib.hid (And.intro hm8 (And.intro hs8 (And.intro hb8 hf8))); obtain ⟨⟨y0, y1, y2, y3, y4, y5⟩, ⟨fy0, fy1, fy2, fy3, fy4, fy5⟩⟩ := six_cells ((hb8.block nb N7.out.2.1).trans N7.out.1); clear hm8 hs8 hb8 hf8))
            have W8 := Lib.hid (W7.out.more (below_tr (below_drew (Below.refl _ _)) HH.out.2.2.1 (Nat.le_refl _)))
            have hm8 := HH.out.1
            have hs8 := HH.out.2.1
            have hf8 := HH.out.2.2.2
            have HF := Lib.hid (And.intro hm8 (And.intro hs8 hf8))
            have W9 := Lib.hid (wl_done WL.out W8.out HNB.out.1 (w7 := w7.drew) N7.out.2.1 N7.out.2.2.1 N7.out.2.2.2 hs8 hf8 (.int .i64 o.x) (.int .i64 o.y) (.int .i64 o.z) (.slice A' m c') (.slice B8 m8 d8) (.bool r'.beh))
            clear x0 x1 x2 x3 x4 x5
            obtain ⟨⟨x0, x1, x2, x3, x4, x5⟩, ⟨fx0, fx1, fx2, fx3, fx4, fx5⟩⟩ := six_cells W8.out.vbk
            clear hm8 hs8 hf8
            generalize hb' : r'.beh = bb' at *
            have HB' := Lib.hid hb'
            clear hb'
            go_wp2_with fail
            clear x0 x1 x2 x3 x4 x5 fx0 fx1 fx2 fx3 fx4 fx5 y0 y1 y2 y3 y4 y5 fy0 fy1 fy2 fy3 fy4 fy5
            obtain ⟨q, ok, hkey⟩ : ∃ q ok, opKey L o s' = (q, ok) := ⟨_, _, rfl⟩
            have C2 := at_key W9.out.at_
            rw [hkey] at C2
            have HK := Lib.hid hkey
            clear hkey
            refine C2.mono ?_
            clear C2
            rintro e w10 ⟨rfl, _, hb10⟩
            have W10 := Lib.hid (W9.out.more hb10)
            obtain ⟨⟨x0, x1, x2, x3, x4, x5⟩, _⟩ := six_cells W10.out.vbk
            clear hb10
            rw [HB'.out] at x5
            go_wp2_with fail
            have C3 := rkey_calls w10 o (.slice A' m c') (.slice B8 m8 d8) r' q ok (by rw [← sim_key HO.out.2.2.1]; exact HK.out) W10.out.ai (r_len HO.out.2.2.1)
            rw [HB'.out] at C3
            refine C3.mono ?_
            clear C3
            rintro e w11 ⟨rfl, hb11⟩
            have W11 := Lib.hid (W10.out.more hb11)
            clear x0 x1 x2 x3 x4 x5 hb11
            obtain ⟨⟨_, _, _, _, x4, _⟩, _⟩ := six_cells W11.out.vbk
            have hdm : s'.d = m8 := by rw [← HF.out.1]; exact HO.out.2.2.1.len.symm
            have DQ := Lib.hid (fun W => fun (h : Below w11.heap.size w11 W) => show Calls Try.prog 25 #[.pointer (some ⟨g, 0, none⟩)] W (fun e w' => e = .returned (.int .i64 m8) ∧ w' = W) from (at_depth (W11.out.more h).at_).mono fun _ _ ⟨h1, h2⟩ => ⟨h1.trans (by rw [hdm]), h2.symm⟩)
            clear hdm
            go_wp2_with fail
            have hkk : (k != k) = false := by simp
            have hqq : (q != q) = false := by simp
            have hoo : (ok != ok) = false := by simp
            go_quiet ((go_at_call 25; exact Calls.quiet_of_same (DQ.out _ (by repeat (first | exact Below.refl _ _ | refine pw_below_drewN ?_ _ | refine below_drew ?_)))))
            go_wp2_with fail
            go_roundg (201 - (i + 1))
            case measure => have := HI.out; omega
            case rel => exact ⟨i + 1, s', r', .slice B8 m8 d8, by omega, Nat.le_refl _, by go_num, W11.out.more (by repeat (first | exact Below.refl _ _ | refine pw_below_drewN ?_ _ | refine below_drew ?_)), HO.out.2.2.1⟩
    · have hend : ¬ ((i : Int) < (p : Int)) ∨ ¬ ((i : Int) < 200) := by omega
      rcases hend with he | he
      all_goals
        by_cases hip1 : (i : Int) < (p : Int)
        all_goals
          go_wp2_with fail
          refine (awake_calls _).mono ?_
          rintro e w12 ⟨rfl, hb12⟩
          have B12 := Lib.hid hb12
          clear hb12
          go_wp2_with fail
          go_ret
          exact ⟨rfl, below_tr WL.out.at_.below B12.out WL.out.at_.below.size⟩
end Go.Proofs.Ythapkpgkcckapaa.Pw
