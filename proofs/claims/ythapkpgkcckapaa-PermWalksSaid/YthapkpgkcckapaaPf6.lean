/-
  The document's walks: the walks of Seek and of Next. Conditions: the cells lie as told; numbers of 64 bits.
-/
import Derived.Test.YthapkpgkcckapaaPf5
namespace Go.Proofs.Ythapkpgkcckapaa.Pw
open Go.RowKit Go.Proofs.YthapkpgkcckapaaW.PrintWords Go.Proofs.Ythapkpgkcckapaa.Pm

theorem rkey_yes {r : RS} {n : Int} (h : rKey r = (n, true)) : r.at_.length ≠ 0 ∧ r.beh = false ∧ r.at_.getD (r.at_.length - 1) 0 = n := by
  unfold rKey at h
  split at h
  · cases h
  · rename_i hn
    injection h with h1 _
    refine ⟨fun e => hn (.inl e), ?_, h1⟩
    cases e : r.beh with
    | false => rfl
    | true => exact absurd (.inr e) hn
theorem Fr.tr {w w1 : World} {a b c : Value} (h : Fr w a b) (h2 : Fr w1 b c) (hs : w.heap.size ≤ w1.heap.size) : Fr w a c := fun g hg => by
  rcases h2 g hg with e | e
  · exact .inl (by omega)
  · exact h g e

set_option maxHeartbeats 4000000 in
theorem rseek_calls (w : World) (o : Ord) (ho : Six o) (A : Option Addr) (n c : Nat) (L : List R3) (hn : L.length = n) (hv : SlR w (.slice A n c) L) (hl : n ≤ 100) (av : Value) (r r' : RS) (x k : Int) (hk : rSeek L o r x = (r', k)) (ha : SlI w av r.at_) (hl3 : r.at_.length ≤ 3) :
    Calls Try.prog 22 #[V o (.slice A n c) av r.beh, .int .i64 x] w fun e w' => ∃ av', e = .returned (.tuple #[V o (.slice A n c) av' r'.beh, .int .i64 k]) ∧ SlI w' av' r'.at_ ∧ Below w.heap.size w w' ∧ Fr w av av' := by
  obtain ⟨B, d, hva⟩ := SlI.form ha
  obtain ⟨m, hm⟩ : ∃ m, r.at_.length = m := ⟨_, rfl⟩
  rw [hm] at hva
  subst hva
  obtain ⟨q, ok, hkey⟩ : ∃ q ok, rKey r = (q, ok) := ⟨_, _, rfl⟩
  unfold rSeek at hk
  rw [hkey] at hk
  simp only at hk
  obtain ⟨hbw, hx1, hx2, hsz⟩ := two_obj w (.cells #[.int .i64 o.x, .int .i64 o.y, .int .i64 o.z, .slice A n c, .slice B m d, .bool r.beh] 39) (.cells #[.int .i64 0, .int .i64 0, .int .i64 0, .slice none 0 0, .slice none 0 0, .bool false] 39) _ (Below.refl _ _)
  have HX := Lib.hid (And.intro hbw (And.intro hx1 (And.intro hx2 hsz)))
  have KC := Lib.hid (rkey_calls _ o (.slice A n c) (.slice B m d) r q ok hkey (ha.below hbw) hl3)
  have HT := Lib.hid (fun (h : ok = true) (W : World) (hW : Below w.heap.size w W) => rto_calls W o ho A n c L hn (hv.below hW) hl (.slice B m d) r x (m - 1) (by have := (rkey_yes (h ▸ hkey)).1; omega) (by omega) (ha.below hW))
  have HA := Lib.hid (And.intro ha (And.intro hm hkey))
  have HR := Lib.hid hk
  clear hv hn ha hm hkey hbw hx1 hx2 hsz hk
  generalize hbb : r.beh = bb at *
  go_enter Try.func22, Try.ntmps22
  go_wp2_with fail
  refine KC.out.mono ?_
  rintro e w1 ⟨rfl, hb1⟩
  have hbw1 := below_tr HX.out.1 hb1 HX.out.1.size
  have hy1 := (hb1.block w.heap.size (by have := HX.out.2.2.2; omega)).trans HX.out.2.1
  have hy3 := (hb1.block (w.heap.size + 1) (by have := HX.out.2.2.2; omega)).trans HX.out.2.2.1
  have hws : w.heap.size + 2 ≤ w1.heap.size := Nat.le_trans HX.out.2.2.2 hb1.size
  have HY := Lib.hid (And.intro hbw1 (And.intro hy1 (And.intro hy3 hws)))
  obtain ⟨⟨x0, x1, x2, x3, x4, x5⟩, ⟨fx0, fx1, fx2, fx3, fx4, fx5⟩⟩ := six_cells hy1
  obtain ⟨⟨y0, y1, y2, y3, y4, y5⟩, ⟨fy0, fy1, fy2, fy3, fy4, fy5⟩⟩ := six_cells hy3
  clear hb1 hbw1 hy1 hy3 hws fx0 fx1 fx2 fx3 fx4 fx5
  have hlow : ∀ (l : List Int) (av : Value), SlI w av l → l ≠ [] → av.ownBlock ≠ some (w.heap.size + 1) := fun l av h hx e => by
    obtain ⟨g, hg, hlt⟩ := SlI.blk h hx
    rw [hg] at e
    have := Option.some.inj e
    omega
  have HL := Lib.hid hlow
  clear hlow
  have same : Below w.heap.size w ((((((w1.setCell ⟨w.heap.size + 1, 0, none⟩ (.int .i64 o.x)).setCell ⟨w.heap.size + 1, 1, none⟩ (.int .i64 o.y)).setCell ⟨w.heap.size + 1, 2, none⟩ (.int .i64 o.z)).setCell ⟨w.heap.size + 1, 3, none⟩ (.slice A n c)).setCell ⟨w.heap.size + 1, 4, none⟩ (.slice B m d)).setCell ⟨w.heap.size + 1, 5, none⟩ (.bool bb)) ∧
      SlI ((((((w1.setCell ⟨w.heap.size + 1, 0, none⟩ (.int .i64 o.x)).setCell ⟨w.heap.size + 1, 1, none⟩ (.int .i64 o.y)).setCell ⟨w.heap.size + 1, 2, none⟩ (.int .i64 o.z)).setCell ⟨w.heap.size + 1, 3, none⟩ (.slice A n c)).setCell ⟨w.heap.size + 1, 4, none⟩ (.slice B m d)).setCell ⟨w.heap.size + 1, 5, none⟩ (.bool bb)) (.slice B m d) r.at_ :=
    ⟨below_set6 _ _ _ _ _ _ _ HY.out.1 HY.out.1.size (by omega), (SlI.set (HA.out.1.below HY.out.1) (grown_set6 _ _ _ _ _ _ _ _) (HL.out _ _ HA.out.1))⟩
  have SM := Lib.hid same
  clear same
  cases ok with
  | false =>
    have hk := HR.out
    rw [if_pos rfl] at hk
    injection hk with e1 e2
    subst e1 e2
    go_wp2_with fail
    refine bodyPost_ret (v := .tuple #[V o (.slice A n c) (.slice B m d) bb, .int .i64 3]) (by simp [results, Try.results22, go_sem, y0, y1, y2, y3, y4, y5]) rfl ⟨.slice B m d, by rw [hbb], ?_, ?_, Fr.refl _ _⟩
    · exact SM.out.2
    · exact SM.out.1
  | true =>
    have hk := HR.out
    rw [if_neg (by simp)] at hk
    by_cases hxq : x ≤ q
    · rw [if_pos hxq] at hk
      injection hk with e1 e2
      subst e1 e2
      go_wp2_with fail
      refine bodyPost_ret (v := .tuple #[V o (.slice A n c) (.slice B m d) bb, .int .i64 0]) (by simp [results, Try.results22, go_sem, y0, y1, y2, y3, y4, y5]) rfl ⟨.slice B m d, by rw [hbb], ?_, ?_, Fr.refl _ _⟩
      · exact SM.out.2
      · exact SM.out.1
    · rw [if_neg hxq] at hk
      injection hk with e1 e2
      have E := Lib.hid e1
      subst e2
      clear e1 y0 y1 y2 y3 y4 y5 fy0 fy1 fy2 fy3 fy4 fy5
      have hT := HT.out rfl w1 HY.out.1
      go_wp2_with fail
      refine hT.mono ?_
      rintro e w2 ⟨av2, rfl, hs2, hb2, hf2⟩
      obtain ⟨B2, d2, hva2⟩ := SlI.form hs2
      obtain ⟨m2, hm2⟩ : ∃ m2, (rTo L o r x).at_.length = m2 := ⟨_, rfl⟩
      rw [hm2] at hva2
      subst hva2
      have hy3 := (hb2.block (w.heap.size + 1) (by have := HY.out.2.2.2; omega)).trans HY.out.2.2.1
      obtain ⟨⟨y0, y1, y2, y3, y4, y5⟩, ⟨fy0, fy1, fy2, fy3, fy4, fy5⟩⟩ := six_cells hy3
      have HS := Lib.hid (And.intro hs2 (And.intro hb2 hf2))
      generalize hb2' : (rTo L o r x).beh = bb2 at *
      have HB := Lib.hid hb2'
      clear hT hs2 hb2 hf2 hm2 hy3 hb2'
      go_wp2_with fail
      refine bodyPost_ret (v := .tuple #[V o (.slice A n c) (.slice B2 m2 d2) bb2, .int .i64 0]) (by simp [results, Try.results22, go_sem, y0, y1, y2, y3, y4, y5]) rfl ⟨.slice B2 m2 d2, by rw [← E.out, HB.out], ?_, ?_, ?_⟩
      · rw [← E.out]
        refine SlI.set HS.out.1 (grown_set6 _ _ _ _ _ _ _ _) (fun _ e => ?_)
        rcases HS.out.2.2 _ e with h | h
        · have := HY.out.2.2.2; omega
        · exact HL.out _ _ HA.out.1 (fun e => (rkey_yes HA.out.2.2).1 (by rw [e]; rfl)) h
      · have hbb2 := below_tr HY.out.1 HS.out.2.1 HY.out.1.size
        exact below_set6 _ _ _ _ _ _ _ hbb2 hbb2.size (by omega)
      · exact (Fr.refl w _).tr HS.out.2.2 HY.out.1.size
def In64 (q : Int) : Prop := -9223372036854775808 ≤ q ∧ q ≤ 9223372036854775807
set_option maxHeartbeats 4000000 in
theorem rnext_calls (w : World) (o : Ord) (ho : Six o) (A : Option Addr) (n c : Nat) (L : List R3) (hn : L.length = n) (hv : SlR w (.slice A n c) L) (hl : n ≤ 100) (av : Value) (r r' : RS) (k : Int) (hk : rNext L o r = (r', k)) (hq64 : In64 (rKey r).1) (ha : SlI w av r.at_) (hl3 : r.at_.length ≤ 3) :
    Calls Try.prog 20 #[V o (.slice A n c) av r.beh] w fun e w' => ∃ av', e = .returned (.tuple #[V o (.slice A n c) av' r'.beh, .int .i64 k]) ∧ SlI w' av' r'.at_ ∧ Below w.heap.size w w' ∧ Fr w av av' := by
  obtain ⟨B, d, hva⟩ := SlI.form ha
  obtain ⟨m, hm⟩ : ∃ m, r.at_.length = m := ⟨_, rfl⟩
  rw [hm] at hva
  subst hva
  obtain ⟨q, ok, hkey⟩ : ∃ q ok, rKey r = (q, ok) := ⟨_, _, rfl⟩
  unfold rNext at hk
  rw [hkey] at hk hq64
  simp only at hk hq64
  have H64 := Lib.hid hq64
  clear hq64
  obtain ⟨hbw, hx1, hx2, hsz⟩ := two_obj w (.cells #[.int .i64 o.x, .int .i64 o.y, .int .i64 o.z, .slice A n c, .slice B m d, .bool r.beh] 39) (.cells #[.int .i64 0, .int .i64 0, .int .i64 0, .slice none 0 0, .slice none 0 0, .bool false] 39) _ (Below.refl _ _)
  have HX := Lib.hid (And.intro hbw (And.intro hx1 (And.intro hx2 hsz)))
  have KC := Lib.hid (rkey_calls _ o (.slice A n c) (.slice B m d) r q ok hkey (ha.below hbw) hl3)
  have HT := Lib.hid (fun (h : ok = true) (W : World) (hW : Below w.heap.size w W) => rto_calls W o ho A n c L hn (hv.below hW) hl (.slice B m d) r (q + 1) (m - 1) (by have := (rkey_yes (h ▸ hkey)).1; omega) (by omega) (ha.below hW))
  have HA := Lib.hid (And.intro ha (And.intro hm hkey))
  have HR := Lib.hid hk
  clear hv hn ha hm hkey hbw hx1 hx2 hsz hk
  generalize hbb : r.beh = bb at *
  go_enter Try.func20, Try.ntmps20
  go_wp2_with fail
  refine KC.out.mono ?_
  rintro e w1 ⟨rfl, hb1⟩
  have hbw1 := below_tr HX.out.1 hb1 HX.out.1.size
  have hy1 := (hb1.block w.heap.size (by have := HX.out.2.2.2; omega)).trans HX.out.2.1
  have hy3 := (hb1.block (w.heap.size + 1) (by have := HX.out.2.2.2; omega)).trans HX.out.2.2.1
  have hws : w.heap.size + 2 ≤ w1.heap.size := Nat.le_trans HX.out.2.2.2 hb1.size
  have HY := Lib.hid (And.intro hbw1 (And.intro hy1 (And.intro hy3 hws)))
  obtain ⟨⟨x0, x1, x2, x3, x4, x5⟩, ⟨fx0, fx1, fx2, fx3, fx4, fx5⟩⟩ := six_cells hy1
  obtain ⟨⟨y0, y1, y2, y3, y4, y5⟩, ⟨fy0, fy1, fy2, fy3, fy4, fy5⟩⟩ := six_cells hy3
  clear hb1 hbw1 hy1 hy3 hws fx0 fx1 fx2 fx3 fx4
  have hlow : ∀ (l : List Int) (av : Value), SlI w av l → l ≠ [] → av.ownBlock ≠ some (w.heap.size + 1) := fun l av h hx e => by
    obtain ⟨g, hg, hlt⟩ := SlI.blk h hx
    rw [hg] at e
    have := Option.some.inj e
    omega
  have HL := Lib.hid hlow
  clear hlow
  have same : Below w.heap.size w ((((((w1.setCell ⟨w.heap.size + 1, 0, none⟩ (.int .i64 o.x)).setCell ⟨w.heap.size + 1, 1, none⟩ (.int .i64 o.y)).setCell ⟨w.heap.size + 1, 2, none⟩ (.int .i64 o.z)).setCell ⟨w.heap.size + 1, 3, none⟩ (.slice A n c)).setCell ⟨w.heap.size + 1, 4, none⟩ (.slice B m d)).setCell ⟨w.heap.size + 1, 5, none⟩ (.bool bb)) ∧
      SlI ((((((w1.setCell ⟨w.heap.size + 1, 0, none⟩ (.int .i64 o.x)).setCell ⟨w.heap.size + 1, 1, none⟩ (.int .i64 o.y)).setCell ⟨w.heap.size + 1, 2, none⟩ (.int .i64 o.z)).setCell ⟨w.heap.size + 1, 3, none⟩ (.slice A n c)).setCell ⟨w.heap.size + 1, 4, none⟩ (.slice B m d)).setCell ⟨w.heap.size + 1, 5, none⟩ (.bool bb)) (.slice B m d) r.at_ :=
    ⟨below_set6 _ _ _ _ _ _ _ HY.out.1 HY.out.1.size (by omega), (SlI.set (HA.out.1.below HY.out.1) (grown_set6 _ _ _ _ _ _ _ _) (HL.out _ _ HA.out.1))⟩
  have SM := Lib.hid same
  clear same
  cases ok with
  | false =>
    have hk := HR.out
    rw [if_pos rfl] at hk
    injection hk with e1 e2
    subst e1 e2
    go_wp2_with fail
    refine bodyPost_ret (v := .tuple #[V o (.slice A n c) (.slice B m d) bb, .int .i64 3]) (by simp [results, Try.results20, go_sem, y0, y1, y2, y3, y4, y5]) rfl ⟨.slice B m d, by rw [hbb], ?_, ?_, Fr.refl _ _⟩
    · exact SM.out.2
    · exact SM.out.1
  | true =>
    have hk := HR.out
    rw [if_neg (by simp)] at hk
    by_cases hxq : q = 9223372036854775807
    · rw [if_pos hxq] at hk
      have hqb : (q == 9223372036854775807) = true := by rw [hxq]; rfl
      injection hk with e1 e2
      subst e1 e2
      have SM2 : Hid (Below w.heap.size w ((((((((w1.setCell ⟨w.heap.size, 5, none⟩ (.bool true))).setCell ⟨w.heap.size + 1, 0, none⟩ (.int .i64 o.x)).setCell ⟨w.heap.size + 1, 1, none⟩ (.int .i64 o.y)).setCell ⟨w.heap.size + 1, 2, none⟩ (.int .i64 o.z)).setCell ⟨w.heap.size + 1, 3, none⟩ (.slice A n c)).setCell ⟨w.heap.size + 1, 4, none⟩ (.slice B m d)).setCell ⟨w.heap.size + 1, 5, none⟩ (.bool true)) ∧
          SlI ((((((((w1.setCell ⟨w.heap.size, 5, none⟩ (.bool true))).setCell ⟨w.heap.size + 1, 0, none⟩ (.int .i64 o.x)).setCell ⟨w.heap.size + 1, 1, none⟩ (.int .i64 o.y)).setCell ⟨w.heap.size + 1, 2, none⟩ (.int .i64 o.z)).setCell ⟨w.heap.size + 1, 3, none⟩ (.slice A n c)).setCell ⟨w.heap.size + 1, 4, none⟩ (.slice B m d)).setCell ⟨w.heap.size + 1, 5, none⟩ (.bool true)) (.slice B m d) r.at_) := Lib.hid (by
        have hbb2 := HY.out.1.grown (grown_set w1 w.heap.size 5 (.bool true)) HY.out.1.size (by intro k hk; have := Option.some.inj hk; omega)
        have hfin := below_set6 (w.heap.size + 1) (.int .i64 o.x) (.int .i64 o.y) (.int .i64 o.z) (.slice A n c) (.slice B m d) (.bool true) hbb2 hbb2.size (by omega)
        exact ⟨hfin, HA.out.1.below hfin⟩)
      clear hxq
      go_wp2_with fail
      refine bodyPost_ret (v := .tuple #[V o (.slice A n c) (.slice B m d) true, .int .i64 0]) (by simp [results, Try.results20, go_sem, y0, y1, y2, y3, y4, y5]) rfl ⟨.slice B m d, rfl, ?_, ?_, Fr.refl _ _⟩
      · exact SM2.out.2
      · exact SM2.out.1
    · rw [if_neg hxq] at hk
      injection hk with e1 e2
      have E := Lib.hid e1
      subst e2
      clear e1 y0 y1 y2 y3 y4 y5 fy0 fy1 fy2 fy3 fy4 fy5
      have hT := HT.out rfl w1 HY.out.1
      have hqb : (q == 9223372036854775807) = false := beq_eq_false_iff_ne.2 hxq
      have hqw : IntKind.i64.wrap (q + 1) = q + 1 := IntWalk.i64_in _ (by have := H64.out; unfold In64 at this; omega)
      clear hxq
      go_wp2_with fail
      refine hT.mono ?_
      rintro e w2 ⟨av2, rfl, hs2, hb2, hf2⟩
      obtain ⟨B2, d2, hva2⟩ := SlI.form hs2
      obtain ⟨m2, hm2⟩ : ∃ m2, (rTo L o r (q + 1)).at_.length = m2 := ⟨_, rfl⟩
      rw [hm2] at hva2
      subst hva2
      have hy3 := (hb2.block (w.heap.size + 1) (by have := HY.out.2.2.2; omega)).trans HY.out.2.2.1
      obtain ⟨⟨y0, y1, y2, y3, y4, y5⟩, ⟨fy0, fy1, fy2, fy3, fy4, fy5⟩⟩ := six_cells hy3
      have HS := Lib.hid (And.intro hs2 (And.intro hb2 hf2))
      generalize hb2' : (rTo L o r (q + 1)).beh = bb2 at *
      have HB := Lib.hid hb2'
      clear hT hs2 hb2 hf2 hm2 hy3 hb2'
      go_wp2_with fail
      refine bodyPost_ret (v := .tuple #[V o (.slice A n c) (.slice B2 m2 d2) bb2, .int .i64 0]) (by simp [results, Try.results20, go_sem, y0, y1, y2, y3, y4, y5]) rfl ⟨.slice B2 m2 d2, by rw [← E.out, HB.out], ?_, ?_, ?_⟩
      · rw [← E.out]
        refine SlI.set HS.out.1 (grown_set6 _ _ _ _ _ _ _ _) (fun _ e => ?_)
        rcases HS.out.2.2 _ e with h | h
        · have := HY.out.2.2.2; omega
        · exact HL.out _ _ HA.out.1 (fun e => (rkey_yes HA.out.2.2).1 (by rw [e]; rfl)) h
      · have hbb2 := below_tr HY.out.1 HS.out.2.1 HY.out.1.size
        exact below_set6 _ _ _ _ _ _ _ hbb2 hbb2.size (by omega)
      · exact (Fr.refl w _).tr HS.out.2.2 HY.out.1.size
end Go.Proofs.Ythapkpgkcckapaa.Pw
