/-
  The law of orders: the walk. Conditions: the rows' cells lie as told.
-/
import Derived.Test.YthapkpgkcckapaaPc1
namespace Go.Proofs.Ythapkpgkcckapaa.Pw
open Go.RowKit Go.Proofs.YthapkpgkcckapaaW.PrintWords Go.Proofs.Ythapkpgkcckapaa.Pm

/-- How often a row stands in a list. -/
def hits (x : R3) (m : List R3) : Nat := m.countP fun y => decide (x = y)
theorem hits_none (x : R3) (m : List R3) (h : x ∉ m) : hits x m = 0 := by
  unfold hits
  rw [List.countP_eq_zero]
  intro y hy
  simp only [decide_eq_true_eq]
  rintro rfl
  exact h hy
theorem hits_one (x : R3) : ∀ (m : List R3), m.Nodup → x ∈ m → hits x m = 1
  | [], _, h => absurd h (by simp)
  | a :: r, hn, h => by
    obtain ⟨h1, h2⟩ := List.nodup_cons.1 hn
    unfold hits
    rw [List.countP_cons]
    by_cases e : x = a
    · subst e
      have := hits_none x r h1
      unfold hits at this
      simp [this]
    · have := hits_one x r h2 ((List.mem_cons.1 h).resolve_left e)
      unfold hits at this
      simp [this, e]
theorem hits_take (x : R3) (m : List R3) (k : Nat) (hk : k < m.length) : hits x (m.take (k + 1)) = hits x (m.take k) + if x = m.getD k r0 then 1 else 0 := by
  unfold hits
  rw [List.take_succ_eq_append_getElem hk, List.countP_append, List.getD_eq_getElem?_getD, List.getElem?_eq_getElem hk]
  simp
theorem hits_le (x : R3) (m : List R3) : hits x m ≤ m.length := List.countP_le_length

/-- Rows in a slice of their own. -/
theorem rows_out {w0 w : World} {X b c : Nat} {o : Ord} {L : List R3} (h : Mk w0 w X b c o L) (n : Nat) (hn : L.length = n) :
    Calls Try.prog 28 #[.pointer (some ⟨X, 0, none⟩)] w fun e w' => ∃ A c', e = .returned (.slice A n c') ∧ (∀ k, k < n → ∃ b off, A = some ⟨b, off, none⟩ ∧ RowsAt w' b off L ∧ b < w'.heap.size) ∧ Below w.heap.size w w' := by
  subst hn
  refine (rows_at w X o L b 0 c h.idx).mono ?_
  rintro e w' ⟨v, rfl, ⟨A, c', rfl, _, ⟨_, rfl⟩ | ⟨b', off, rfl, hb, hr⟩⟩, hbel⟩
  · exact ⟨A, c', rfl, fun k hk => absurd hk (by simp), hbel⟩
  · exact ⟨_, c', rfl, fun _ _ => ⟨b', off, rfl, hr, hb⟩, hbel⟩

theorem turn_nat (t : Int) : ∃ m : Nat, m ≤ 65535 ∧ bits .and .i64 t 65535 = (m : Int) ∧ (m : Int) % 6 = (turnOf t : Int) ∧ IntKind.i64.wrap (Int.tmod (m : Int) 6) = (turnOf t : Int) := by
  refine ⟨(t % 65536).toNat, by omega, ?_, ?_, ?_⟩
  · rw [and16]; omega
  · unfold turnOf; omega
  · rw [← turn_rem, Int.toNat_of_nonneg (by omega)]

theorem len_is {w0 w : World} {X b c : Nat} {o : Ord} {L : List R3} (h : Mk w0 w X b c o L) {n : Nat} (hn : L.length = n) :
    Calls Try.prog 26 #[.pointer (some ⟨X, 0, none⟩)] w fun e w' => e = .returned (.int .i64 n) ∧ w = w' := by
  subst hn
  exact mk_len h

theorem same_len (o1 o2 : Ord) (h1 : Six o1) (h2 : Six o2) (l : List R3) : (rowsOf o1 l).length = (rowsOf o2 l).length :=
  ((List.perm_ext_iff_of_nodup (strict_nodup o1 (rowsOf_strict o1 h1 l)) (strict_nodup o2 (rowsOf_strict o2 h2 l))).2 (fun x => (rowsOf_mem o1 l x).trans (rowsOf_mem o2 l x).symm)).length_eq

/-- The first index of the law. -/
theorem ords_new1 (w : World) (v : Value) (l : List R3) (hv : SlR w v l) (hl : l.length ≤ 100) (r1 r2 : Nat) (h1 : r1 < 6) (h2 : r2 < 6) :
    Calls Try.prog 10 #[v, .agg #[.int .i64 (ordAt r1).x, .int .i64 (ordAt r1).y, .int .i64 (ordAt r1).z]] (w.alloc ordsO) fun e w' => ∃ X b c, e = .returned (.tuple #[.pointer (some ⟨X, 0, none⟩), .int .i64 0]) ∧
      (w'.cell? ⟨w.heap.size, r2 * 3, none⟩ = some (.int .i64 (ordAt r2).x) ∧ w'.cell? ⟨w.heap.size, r2 * 3 + 1, none⟩ = some (.int .i64 (ordAt r2).y) ∧ w'.cell? ⟨w.heap.size, r2 * 3 + 2, none⟩ = some (.int .i64 (ordAt r2).z)) ∧
      Mk w w' X b c (ordAt r1) (rowsOf (ordAt r1) l) ∧ SlR w' v l := by
  have hb := below_a w ordsO
  have hsz := size_alloc w ordsO
  refine (mk_new w _ hb v l (hv.below hb) (by omega) (ordAt r1) (ordAt_six r1 h1)).mono ?_
  rintro e w' ⟨X, b, c, rfl, hm, hb', _, _⟩
  obtain ⟨q0, q1, q2⟩ := ords_at w r2 h2
  have hlt : w.heap.size < (w.alloc ordsO).heap.size := by omega
  exact ⟨X, b, c, rfl, ⟨(hb'.cell (p := ⟨w.heap.size, r2 * 3, none⟩) hlt).trans q0, (hb'.cell (p := ⟨w.heap.size, r2 * 3 + 1, none⟩) hlt).trans q1, (hb'.cell (p := ⟨w.heap.size, r2 * 3 + 2, none⟩) hlt).trans q2⟩, hm, (hv.below hb).below hb'⟩

set_option maxHeartbeats 8000000 in
theorem orders_long (w : World) (A : Option Addr) (n c : Nat) (one two : Int) (hl : 100 < n) :
    Calls Try.prog 7 #[.slice A n c, .int .i64 one, .int .i64 two] w fun e w' => e = .returned (.bool true) ∧ Below w.heap.size w w' := by
  have hd : decide ((100 : Int) < (n : Int)) = true := by simp; omega
  have hb := Lib.hid (below_a w)
  go_enter Try.func7, Try.ntmps7
  go_wp2_with (go_at_call 12; refine (awake_calls _).mono ?_; rintro e w1 ⟨rfl, h1⟩; have H1 := Lib.hid h1; clear h1)
  go_ret
  exact ⟨rfl, below_tr (hb.out _) H1.out (hb.out _).size⟩

set_option maxHeartbeats 8000000 in
theorem orders_short (w : World) (A : Option Addr) (n c : Nat) (l : List R3) (one two : Int) (hn : l.length = n) (hv : SlR w (.slice A n c) l) (hl : n ≤ 100) :
    Calls Try.prog 7 #[.slice A n c, .int .i64 one, .int .i64 two] w fun e w' => e = .returned (.bool true) ∧ Below w.heap.size w w' := by
  have hd : decide ((100 : Int) < (n : Int)) = false := by simp; omega
  obtain ⟨m1, p1, a1, i1, j1⟩ := turn_nat one
  obtain ⟨m2, p2, a2, i2, j2⟩ := turn_nat two
  have r1 := turnOf_lt one
  have r2 := turnOf_lt two
  have q1 := ords_at w (turnOf one) r1
  have N1 := Lib.hid (ords_new1 w _ l hv (by omega) (turnOf one) (turnOf two) r1 r2)
  have hlen := same_len (ordAt (turnOf one)) (ordAt (turnOf two)) (ordAt_six _ r1) (ordAt_six _ r2) l
  have h6 := ordAt_six _ r1
  have h6' := ordAt_six _ r2
  generalize turnOf one = k1 at *
  generalize turnOf two = k2 at *
  generalize ho1 : ordAt k1 = o1 at *
  generalize ho2 : ordAt k2 = o2 at *
  obtain ⟨c0, c1, c2⟩ := q1
  unfold ordsO at N1 c0 c1 c2
  have r1' : (k1 : Int) < 6 := by omega
  have r2' : (k2 : Int) < 6 := by omega
  have N2 := Lib.hid (fun (W : World) (hW : Below w.heap.size w W) (hs : SlR W (.slice A n c) l) => mk_new w W hW (.slice A n c) l hs (by omega) o2 h6')
  generalize hL1 : rowsOf o1 l = L1 at *
  generalize hL2 : rowsOf o2 l = L2 at *
  generalize hm : L1.length = m at hlen
  have HN := Lib.hid (And.intro hn (And.intro hm (And.intro hlen.symm (And.intro h6 (And.intro h6' (And.intro hL1 hL2))))))
  clear hv hn hm hlen h6 h6' ho1 ho2 hL1 hL2
  go_enter Try.func7, Try.ntmps7
  go_wp2_with fail
  refine N1.out.mono ?_
  rintro e w1 ⟨X1, b1, k1, rfl, ⟨d0, d1, d2⟩, m1, s1⟩
  have M1 := Lib.hid m1
  have SV := Lib.hid s1
  clear m1 s1
  go_wp2_with fail
  refine (N2.out _ M1.out.below SV.out).mono ?_
  rintro e w2 ⟨X2, b2, k2, rfl, m2, hb2, _, _⟩
  have M1' := Lib.hid (M1.out.more hb2)
  have M2 := Lib.hid m2
  clear m2 hb2
  go_wp2_with fail
  refine (len_is M1'.out HN.out.2.1).mono ?_
  rintro e w' ⟨rfl, rfl⟩
  go_wp2_with fail
  refine (len_is M2.out HN.out.2.2.1).mono ?_
  rintro e w' ⟨rfl, rfl⟩
  go_wp2_with fail
  refine (rows_out M1'.out m HN.out.2.1).mono ?_
  rintro e w3 ⟨A1, c3, rfl, hr1, hb3⟩
  have R1 := Lib.hid hr1
  have M2' := Lib.hid (M2.out.more hb3)
  clear hr1 hb3
  go_wp2_with fail
  refine (rows_out M2'.out m HN.out.2.2.1).mono ?_
  rintro e w4 ⟨A2, c4, rfl, hr2, hb4⟩
  have R2 := Lib.hid hr2
  have B4 := Lib.hid hb4
  clear hr2 hb4
  go_wp2_with fail
  have hlt := HN.out
  have RW1 : ∀ k, k < m → ∃ b off, A1 = some ⟨b, off, none⟩ ∧ RowsAt w4 b off L1 := fun k hk => by
    obtain ⟨b, off, h1, h2, h3⟩ := R1.out k hk
    exact ⟨b, off, h1, h2.below B4.out h3⟩
  have RW2 : ∀ k, k < m → ∃ b off, A2 = some ⟨b, off, none⟩ ∧ RowsAt w4 b off L2 := fun k hk => by
    obtain ⟨b, off, h1, h2, _⟩ := R2.out k hk
    exact ⟨b, off, h1, h2⟩
  have hit : ∀ i, i < m → hits (L1.getD i r0) L2 = 1 := fun i hi => by
    obtain ⟨hn, hm, hm2, h6, h6', hL1, hL2⟩ := HN.out
    refine hits_one _ L2 (by rw [← hL2]; exact strict_nodup o2 (rowsOf_strict o2 h6' l)) ?_
    rw [← hL2, rowsOf_mem, ← rowsOf_mem o1, hL1, List.getD_eq_getElem?_getD, List.getElem?_eq_getElem (by omega)]
    exact List.getElem_mem _
  have hm50 : m ≤ 100 := by
    obtain ⟨hn, hm, hm2, h6, h6', hL1, hL2⟩ := HN.out
    have := rowsOf_len o1 l
    rw [hL1] at this
    omega
  have hm1 := HN.out.2.1
  have hm2 := HN.out.2.2.1
  have EQ := fun (w : World) (a b c x y z : Int) => eql23 w a b c x y z
  have K1 := Lib.hid RW1
  have K2 := Lib.hid RW2
  have HI := Lib.hid hit
  have HB : Hid (Below w.heap.size w w4) := Lib.hid (below_tr M2'.out.below B4.out M2'.out.below.size)
  clear RW1 RW2 hit hlt R1 R2 B4 c0 c1 c2 d0 d1 d2
  go_loopg [14] m (fun g s14 wr => ∃ i q : Nat, i ≤ m ∧ m - i ≤ g ∧ s14 = .int .i64 i ∧ wr = w4.drewN q)
  case atStart => exact ⟨0, 0, by omega, by omega, rfl, rfl⟩
  case round =>
    obtain ⟨i, q, hi, hg, rfl, rfl⟩ := hrel
    by_cases hlt : i < m
    · obtain ⟨b, off, rfl, hr1⟩ := K1.out i hlt
      obtain ⟨x0, x1, x2⟩ := at_cells hr1 i (by omega)
      have h1i := HI.out i hlt
      clear hr1
      generalize L1.getD i r0 = x at x0 x1 x2 h1i
      have H1 := Lib.hid h1i
      clear h1i
      go_wp2_with fail
      go_loopg [15, 16] m (fun g s15 s16 wr => ∃ k q2 : Nat, k ≤ m ∧ m - k ≤ g ∧ s16 = .int .i64 k ∧ s15 = .int .i64 (hits x (L2.take k)) ∧ wr = w4.drewN q2)
      case atStart => exact ⟨0, q, by omega, by omega, rfl, rfl, rfl⟩
      case round =>
        obtain ⟨k, q2, hk, hg2, rfl, rfl, rfl⟩ := hrel
        have hle := hits_le x (L2.take k)
        have hlk : (L2.take k).length ≤ 100 := by rw [List.length_take]; omega
        by_cases hlt2 : k < m
        · obtain ⟨b', off', rfl, hr2⟩ := K2.out k hlt2
          obtain ⟨y0, y1, y2⟩ := at_cells hr2 k (by omega)
          have ht := hits_take x L2 k (by omega)
          clear hr2
          generalize L2.getD k r0 = y at y0 y1 y2 ht
          generalize hits x (L2.take k) = h at *
          have HT := Lib.hid ht
          clear ht
          by_cases hxy : x = y
          · subst hxy
            have hd : decide (x.a = x.a ∧ x.b = x.b ∧ x.c = x.c) = true := by simp
            go_wp2_with fail
            go_region
            go_wp2_with fail
            go_roundg (m - (k + 1))
            case measure => omega
            case rel =>
              refine ⟨k + 1, q2 + 1, by omega, Nat.le_refl _, by go_num, ?_, rfl⟩
              rw [HT.out]
              simp
          · have hd : decide (x.a = y.a ∧ x.b = y.b ∧ x.c = y.c) = false := by rw [r3_eq]; simpa using hxy
            go_wp2_with fail
            go_region
            go_wp2_with fail
            go_roundg (m - (k + 1))
            case measure => omega
            case rel =>
              refine ⟨k + 1, q2 + 1, by omega, Nat.le_refl _, by go_num, ?_, rfl⟩
              rw [HT.out, if_neg hxy]
              rfl
        · have e1 : hits x (L2.take k) = 1 := by
            rw [List.take_of_length_le (by omega)]
            exact H1.out
          rw [e1]
          go_wp2_with fail
          go_roundg (m - (i + 1))
          case measure => omega
          case rel => exact ⟨i + 1, q2, by omega, Nat.le_refl _, by go_num, rfl⟩
    · go_wp2_with fail
      refine (awake_calls _).mono ?_
      rintro e w5 ⟨rfl, hb5⟩
      have B5 := Lib.hid hb5
      clear hb5
      go_wp2_with fail
      go_ret
      exact ⟨rfl, below_tr (below_drewN' HB.out q) B5.out HB.out.size⟩

theorem orders_calls (w : World) (v : Value) (l : List R3) (one two : Int) (hv : SlR w v l) :
    Calls Try.prog 7 #[v, .int .i64 one, .int .i64 two] w fun e w' => e = .returned (.bool true) ∧ Below w.heap.size w w' := by
  have hv' := hv
  obtain ⟨A, c, rfl, _, _⟩ := hv'
  by_cases hl : l.length ≤ 100
  · exact orders_short w A _ c l one two rfl hv hl
  · exact orders_long w A _ c one two (by omega)
end Go.Proofs.Ythapkpgkcckapaa.Pw
