/-
  The law of an index's rows: the walk. Conditions: the rows' cells lie as told.
-/
import Derived.Test.YthapkpgkcckapaaPe2
namespace Go.Proofs.Ythapkpgkcckapaa.Pw
open Go.RowKit Go.Proofs.YthapkpgkcckapaaW.PrintWords Go.Proofs.Ythapkpgkcckapaa.Pm

set_option maxHeartbeats 4000000 in
theorem prows_long (w : World) (A : Option Addr) (n c : Nat) (x y z : Int) (hl : 100 < n) :
    Calls Try.prog 5 #[.slice A n c, .agg #[.int .i64 x, .int .i64 y, .int .i64 z]] w fun e w' => e = .returned (.bool true) ∧ Below w.heap.size w w' := by
  have hd : decide ((100 : Int) < (n : Int)) = true := by simp; omega
  have hb := Lib.hid (below_a w (.cells #[.int .i64 x, .int .i64 y, .int .i64 z] 23))
  go_enter Try.func5, Try.ntmps5
  go_wp2_with fail
  refine (awake_calls _).mono ?_
  rintro e w1 ⟨rfl, h1⟩
  have H1 := Lib.hid h1
  clear h1
  go_wp2_with fail
  go_ret
  exact ⟨rfl, below_tr hb.out H1.out hb.out.size⟩

theorem SlL.of {w : World} {v : Value} {l : List R3} (h : SlR w v l) : ∃ A c, v = .slice A l.length c := by
  obtain ⟨A, c, hv, _⟩ := h
  exact ⟨A, c, hv⟩

theorem box_in (w : World) (x y z : Int) : (w.alloc (.cells #[.int .i64 x, .int .i64 y, .int .i64 z] 23)).cell? ⟨w.heap.size, 0, none⟩ = some (.int .i64 x) ∧ (w.alloc (.cells #[.int .i64 x, .int .i64 y, .int .i64 z] 23)).cell? ⟨w.heap.size, 1, none⟩ = some (.int .i64 y) ∧ (w.alloc (.cells #[.int .i64 x, .int .i64 y, .int .i64 z] 23)).cell? ⟨w.heap.size, 2, none⟩ = some (.int .i64 z) :=
  ⟨cell_new1 w #[.int .i64 x, .int .i64 y, .int .i64 z] 23 0, cell_new1 w #[.int .i64 x, .int .i64 y, .int .i64 z] 23 1, cell_new1 w #[.int .i64 x, .int .i64 y, .int .i64 z] 23 2⟩
set_option maxHeartbeats 4000000 in
theorem prows_no (w : World) (A : Option Addr) (n c : Nat) (x y z : Int) (hl : n ≤ 100) (hno : isOrd x y z = false) :
    Calls Try.prog 5 #[.slice A n c, .agg #[.int .i64 x, .int .i64 y, .int .i64 z]] w fun e w' => e = .returned (.bool true) ∧ Below w.heap.size w w' := by
  have hd : decide ((100 : Int) < (n : Int)) = false := by simp; omega
  have hb := Lib.hid (below_a w (.cells #[.int .i64 x, .int .i64 y, .int .i64 z] 23))
  have HC := Lib.hid (box_in w x y z)
  have HN := Lib.hid hno
  clear hno
  go_enter Try.func5, Try.ntmps5
  go_wp2_with fail
  refine (new_no _ _ x y z HN.out).mono ?_
  rintro e w1 ⟨rfl, h1⟩
  have d0 := pw_cell_below h1 HC.out.1
  have d1 := pw_cell_below h1 HC.out.2.1
  have d2 := pw_cell_below h1 HC.out.2.2
  have H1 := Lib.hid (below_tr hb.out h1 hb.out.size)
  clear h1
  go_wp2_with fail
  refine (refnew_no _ _ x y z HN.out).mono ?_
  rintro e w2 ⟨rfl, h2⟩
  have H2 := Lib.hid (below_tr H1.out h2 H1.out.size)
  clear h2 d0 d1 d2
  go_wp2_with fail
  refine (awake_calls _).mono ?_
  rintro e w3 ⟨rfl, h3⟩
  have H3 := Lib.hid h3
  clear h3
  go_wp2_with fail
  go_ret
  have hba := H2.out.alloc H2.out.size (.cells #[.int .i64 0, .int .i64 0, .int .i64 0, .slice none 0 0] 32)
  exact ⟨rfl, by first | exact below_tr hba H3.out hba.size | exact below_tr (below_tr hba (grown_below4 _ _ _ _ _ _ hba.size) hba.size) H3.out (by simp)⟩

theorem prow_new (w : World) (v : Value) (l : List R3) (hv : SlR w v l) (hl : l.length ≤ 100) (o : Ord) (h6 : Six o) :
    Calls Try.prog 10 #[v, .agg #[.int .i64 o.x, .int .i64 o.y, .int .i64 o.z]] (w.alloc (.cells #[.int .i64 o.x, .int .i64 o.y, .int .i64 o.z] 23)) fun e w' => ∃ X b c, e = .returned (.tuple #[.pointer (some ⟨X, 0, none⟩), .int .i64 0]) ∧
      Mk w w' X b c o (rowsOf o l) ∧ SlR w' v l ∧ Bx w w' o := by
  have hb := below_a w (.cells #[.int .i64 o.x, .int .i64 o.y, .int .i64 o.z] 23)
  refine (mk_new w _ hb v l (hv.below hb) (by omega) o h6).mono ?_
  rintro e w' ⟨X, b, c, rfl, hm, hb', _, _⟩
  exact ⟨X, b, c, rfl, hm, (hv.below hb).below hb', Bx.more (box_in w o.x o.y o.z) hb'⟩

theorem prow_ref (w w1 : World) (A : Option Addr) (n c : Nat) (l L : List R3) (o : Ord) (ho : Six o) (hn : l.length = n) (hv : SlR w1 (.slice A n c) l) (hl : n ≤ 100) (hL : rowsOf o l = L) :
    Calls Try.prog 13 #[.slice A n c, .agg #[.int .i64 o.x, .int .i64 o.y, .int .i64 o.z]] w1 fun e w' => ∃ A' c', e = .returned (.tuple #[.agg #[.int .i64 o.x, .int .i64 o.y, .int .i64 o.z, .slice A' L.length c'], .int .i64 0]) ∧ SlR w' (.slice A' L.length c') L ∧ Below w1.heap.size w1 w' := by
  refine (refnew_yes w1 A n c l o ho hn hv hl).mono ?_
  rintro e w' ⟨v', rfl, hs, hb⟩
  rw [insAll_eq o ho, hL] at hs
  obtain ⟨A', c', rfl, hr⟩ := hs.sl
  exact ⟨A', c', rfl, hs.sl, hb⟩

set_option maxHeartbeats 4000000 in
theorem prows_yes (w : World) (A : Option Addr) (n c : Nat) (l : List R3) (o : Ord) (ho : Six o) (hn : l.length = n) (hv : SlR w (.slice A n c) l) (hl : n ≤ 100) :
    Calls Try.prog 5 #[.slice A n c, .agg #[.int .i64 o.x, .int .i64 o.y, .int .i64 o.z]] w fun e w' => e = .returned (.bool true) ∧ Below w.heap.size w w' := by
  have hd : decide ((100 : Int) < (n : Int)) = false := by simp; omega
  have hLl := rowsOf_len o l
  have N1 := Lib.hid (prow_new w _ l hv (by omega) o ho)
  obtain ⟨L, hL⟩ : ∃ L, rowsOf o l = L := ⟨_, rfl⟩
  rw [hL] at N1 hLl
  obtain ⟨m, hm⟩ : ∃ m, L.length = m := ⟨_, rfl⟩
  have HN := Lib.hid (And.intro hn (And.intro hLl (And.intro ho (And.intro hL hm))))
  clear hn hLl ho hL hv hm
  go_enter Try.func5, Try.ntmps5
  go_wp2_with fail
  refine N1.out.mono ?_
  rintro e w1 ⟨X, b, cc, rfl, mk1, sv1, bx1⟩
  have M1 := Lib.hid mk1
  have SV1 := Lib.hid sv1
  obtain ⟨u0, u1, u2⟩ := bx1
  clear mk1 sv1
  go_wp2_with fail
  have R1 := prow_ref w w1 A n c l L o HN.out.2.2.1 HN.out.1 SV1.out hl HN.out.2.2.2.1
  rw [HN.out.2.2.2.2] at R1
  refine R1.mono ?_
  clear R1
  rintro e w2 ⟨A', c', rfl, sl2, hb2⟩
  have M2 := Lib.hid (M1.out.more hb2)
  have S2 := Lib.hid sl2
  clear sl2 hb2 u0 u1 u2
  go_wp2_with fail
  have hb3 := below_a w2 (.cells #[.int .i64 o.x, .int .i64 o.y, .int .i64 o.z, .slice A' m c'] 32)
  have hq : (w2.alloc (.cells #[.int .i64 o.x, .int .i64 o.y, .int .i64 o.z, .slice A' m c'] 32)).cell? ⟨w2.heap.size, 3, none⟩ = some (.slice A' m c') := cell_new1 w2 #[.int .i64 o.x, .int .i64 o.y, .int .i64 o.z, .slice A' m c'] 32 3
  have M3 := Lib.hid ((M2.out.more hb3).more (below_dr _))
  have S3 := Lib.hid ((S2.out.below hb3).below (below_dr _))
  generalize w2.alloc (.cells #[.int .i64 o.x, .int .i64 o.y, .int .i64 o.z, .slice A' m c'] 32) = W3 at *
  obtain ⟨qb, hqb⟩ : ∃ x, w2.heap.size = x := ⟨_, rfl⟩
  rw [hqb] at hq ⊢
  clear hb3 hqb
  have hmn : m ≤ 1125899906842624 := by have := HN.out.1; have := HN.out.2.1; have := HN.out.2.2.2.2; omega
  go_region_held3 (fun W => W.cell? ⟨qb, 3, none⟩ = some (.slice A' m c'))
    (first | go_keep | exact pw_cell_below B4.out (by assumption) | exact pw_cell_below B5.out (by assumption) | exact pw_cell_below B6.out (by assumption))
    (first
      | (go_at_call 26; refine (len_is M3.out HN.out.2.2.2.2).mono ?_; rintro e w' ⟨rfl, rfl⟩)
      | (go_at_call 28; refine (mk_rows M3.out).mono ?_; rintro e w4 ⟨v4, rfl, s4, mk4, hb4⟩; have B4 := Lib.hid hb4; have S4 := Lib.hid s4; have M4 := Lib.hid mk4; clear s4 mk4 hb4)
      | (go_at_call 27; refine (same_self _ _ _ L S4.out (S3.out.below B4.out) (by rw [HN.out.2.2.2.2]; exact hmn)).mono ?_; rintro e w5 ⟨rfl, hb5⟩; have B5 := Lib.hid hb5; clear hb5)
      | (go_at_call 12; refine (awake_calls _).mono ?_; rintro e w6 ⟨rfl, hb6⟩; have B6 := Lib.hid hb6; clear hb6))
  go_wp2_with fail
  go_ret
  exact ⟨rfl, below_tr (below_tr M4.out.below B5.out M4.out.below.size) B6.out (below_tr M4.out.below B5.out M4.out.below.size).size⟩

theorem prows_calls (w : World) (v : Value) (l : List R3) (x y z : Int) (hv : SlR w v l) :
    Calls Try.prog 5 #[v, .agg #[.int .i64 x, .int .i64 y, .int .i64 z]] w fun e w' => e = .returned (.bool true) ∧ Below w.heap.size w w' := by
  have hv' := hv
  obtain ⟨A, c, rfl, _, _⟩ := hv'
  by_cases hl : l.length ≤ 100
  · cases h : isOrd x y z with
    | false => exact prows_no w A _ c x y z hl h
    | true =>
      obtain ⟨h6, hx, hy, hz⟩ := isOrd_six h
      rw [hx, hy, hz]
      exact prows_yes w A _ c l _ h6 rfl hv hl
  · exact prows_long w A _ c x y z (by omega)
end Go.Proofs.Ythapkpgkcckapaa.Pw
