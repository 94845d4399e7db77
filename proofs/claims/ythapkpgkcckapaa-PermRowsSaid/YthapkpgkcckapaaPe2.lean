/-
  The document's index: the walk of New. Conditions: the rows' cells lie as told.
-/
import Derived.Test.YthapkpgkcckapaaPe1
import Derived.Test.YthapkpgkcckapaaPd3
import Derived.Test.YthapkpgkcckapaaG1
import Derived.Deep.RegionHeld3
import Derived.Deep.DrawnRows
namespace Go.Proofs.Ythapkpgkcckapaa.Pw
open Go.RowKit Go.Proofs.YthapkpgkcckapaaW.PrintWords Go.Proofs.Ythapkpgkcckapaa.Pm

/-- The order's box and the result's, behind whatever makes memory alone. -/
theorem two_box (w : World) (a b c : Int) (W : World) (hb : Below ((w.alloc (.cells #[.int .i64 a, .int .i64 b, .int .i64 c] 23)).alloc (.cells #[.int .i64 0, .int .i64 0, .int .i64 0, .slice none 0 0] 32)).heap.size ((w.alloc (.cells #[.int .i64 a, .int .i64 b, .int .i64 c] 23)).alloc (.cells #[.int .i64 0, .int .i64 0, .int .i64 0, .slice none 0 0] 32)) W) :
    Below w.heap.size w W ∧ W.heap[w.heap.size]? = some (.cells #[.int .i64 a, .int .i64 b, .int .i64 c] 23) ∧ W.heap[w.heap.size + 1]? = some (.cells #[.int .i64 0, .int .i64 0, .int .i64 0, .slice none 0 0] 32) ∧ w.heap.size + 2 ≤ W.heap.size := by
  have b1 := below_a w (.cells #[.int .i64 a, .int .i64 b, .int .i64 c] 23)
  have s1 := size_alloc w (.cells #[.int .i64 a, .int .i64 b, .int .i64 c] 23)
  have b2 := b1.alloc b1.size (.cells #[.int .i64 0, .int .i64 0, .int .i64 0, .slice none 0 0] 32)
  have s2 := size_alloc (w.alloc (.cells #[.int .i64 a, .int .i64 b, .int .i64 c] 23)) (.cells #[.int .i64 0, .int .i64 0, .int .i64 0, .slice none 0 0] 32)
  refine ⟨below_tr b2 hb b2.size, (hb.block _ (by omega)).trans ?_, (hb.block _ (by omega)).trans ?_, by have := hb.size; omega⟩
  · rw [heap_al _ _ (by omega)]
    show (w.heap.push _)[w.heap.size]? = _
    rw [Array.getElem?_push, if_pos rfl]
  · show ((w.alloc _).heap.push _)[w.heap.size + 1]? = _
    rw [Array.getElem?_push, if_pos (by omega)]
theorem box_cells {w : World} {g : Nat} {cs : Array Value} {t : TypeId} (h : w.heap[g]? = some (.cells cs t)) : (∀ i, w.cell? ⟨g, i, none⟩ = cs[i]?) ∧ ∀ i, w.frozen? ⟨g, i, none⟩ = false :=
  ⟨fun i => by simp [World.cell?, h], fun i => by simp [World.frozen?, h]⟩

set_option maxHeartbeats 4000000 in
theorem refnew_no (w : World) (v : Value) (a b c : Int) (hno : isOrd a b c = false) :
    Calls Try.prog 13 #[v, .agg #[.int .i64 a, .int .i64 b, .int .i64 c]] w fun e w' => e = .returned (.tuple #[.agg #[.int .i64 0, .int .i64 0, .int .i64 0, .slice none 0 0], .int .i64 1]) ∧ Below w.heap.size w w' := by
  have IC := Lib.hid (fun w => is_calls w a b c)
  rw [hno] at IC
  go_enter Try.func13, Try.ntmps13
  go_wp2_with fail
  refine (IC.out _).mono ?_
  rintro e w1 ⟨rfl, hb⟩
  obtain ⟨hbw, _, h2, _⟩ := two_box w a b c w1 hb
  obtain ⟨hc, hf⟩ := box_cells h2
  have HB := Lib.hid hbw
  have c0 := hc 0
  have c1 := hc 1
  have c2 := hc 2
  have c3 := hc 3
  have f0 := hf 0
  have f1 := hf 1
  have f2 := hf 2
  have f3 := hf 3
  simp at c0 c1 c2 c3
  clear hb h2 hbw hc hf
  go_wp2_with fail
  refine bodyPost_ret (v := .tuple #[.agg #[.int .i64 0, .int .i64 0, .int .i64 0, .slice none 0 0], .int .i64 1]) (by simp [results, Try.results13, go_sem, c0, c1, c2, c3]) rfl ⟨rfl, ?_⟩
  exact (((HB.out.setCell (by simp) _).setCell (by simp) _).setCell (by simp) _).setCell (by simp) _

set_option maxHeartbeats 4000000 in
theorem refnew_yes (w : World) (A : Option Addr) (n c : Nat) (l : List R3) (o : Ord) (ho : Six o) (hn : l.length = n) (hv : SlR w (.slice A n c) l) (hl : n ≤ 100) :
    Calls Try.prog 13 #[.slice A n c, .agg #[.int .i64 o.x, .int .i64 o.y, .int .i64 o.z]] w fun e w' => ∃ v', e = .returned (.tuple #[.agg #[.int .i64 o.x, .int .i64 o.y, .int .i64 o.z, v'], .int .i64 0]) ∧ OwnR w' w.heap.size v' (insAll o l) ∧ Below w.heap.size w w' := by
  have IC := Lib.hid (fun w => is_calls w o.x o.y o.z)
  rw [isOrd_of_six o ho] at IC
  go_enter Try.func13, Try.ntmps13
  go_wp2_with fail
  refine (IC.out _).mono ?_
  rintro e w1 ⟨rfl, hb⟩
  obtain ⟨hbw, h1, h2, hsz⟩ := two_box w o.x o.y o.z w1 hb
  have HB := Lib.hid (And.intro hbw (And.intro h1 (And.intro h2 hsz)))
  have HV := Lib.hid (And.intro (hv.below hbw) (And.intro hn ho))
  clear hb h1 h2 hbw hsz hv IC
  have hN : (n : Int) ≤ 100 := by omega
  have hdn : ∀ i : Nat, i < n → decide ((i : Int) < (n : Int)) = true := fun i hi => by simp; omega
  go_wp2_with fail
  go_loopg [6, 7] n (fun g s6 s7 wr => ∃ i : Nat, i ≤ n ∧ n - i ≤ g ∧ s7 = .int .i64 i ∧ Below w1.heap.size w1 wr ∧ G.OwnL wr w1.heap.size 23 3 enc3 s6 (insAll o (l.take i)))
  case atStart => exact ⟨0, by omega, by omega, rfl, Below.refl _ _, G.OwnL.nil _ _ _ _ _⟩
  case round =>
    obtain ⟨i, hi, hg, rfl, hbw, hown⟩ := hrel
    by_cases hlt : i < n
    · have hil := insAll_len o l i (by have := HV.out.2.1; omega)
      have hst := insAll_take o l i (by have := HV.out.2.1; omega)
      have hrs := (HV.out.1.below hbw).rows i hlt
      obtain ⟨b, off, rfl, hr⟩ := hrs
      obtain ⟨x0, x1, x2⟩ := at_cells hr i (by have := HV.out.2.1; omega)
      generalize l.getD i r0 = r at *
      generalize insAll o (l.take i) = out at *
      obtain ⟨A6, c6, hu6⟩ := own_slice hown
      obtain ⟨m, hm⟩ : ∃ m, out.length = m := ⟨_, rfl⟩
      rw [hm] at hu6
      subst hu6
      have hm100 : m ≤ 100 := by omega
      have hmc : m ≤ c6 := by
        obtain ⟨A', c', hv', hc', _⟩ := hown.form
        injection hv' with e1 e2 e3
        omega
      obtain ⟨hob, _⟩ := box_cells ((hbw.block w.heap.size (by have := HB.out.2.2.2; omega)).trans HB.out.2.1)
      have o0 := hob 0
      have o1 := hob 1
      have o2 := hob 2
      simp at o0 o1 o2
      obtain ⟨wo, rfl⟩ : ∃ x : World, x = wr := ⟨_, rfl⟩
      have HC := Lib.hid (And.intro x0 (And.intro x1 (And.intro x2 (And.intro o0 (And.intro o1 o2)))))
      have HR := Lib.hid (And.intro hown (And.intro hbw (And.intro hst (And.intro hm (And.intro hil hr)))))
      clear hown hbw hst hm hil hr x0 x1 x2 o0 o1 o2 hob
      go_wp2_with fail
      go_loopg [8] (m + 1) (fun g2 s8 wr => ∃ k : Nat, k ≤ m ∧ m + 1 - k ≤ g2 ∧ s8 = .int .i64 k ∧ Below wo.heap.size wo wr ∧ ∀ j, j < k → ltR o (out.getD j r0) r)
      case atStart => exact ⟨0, by omega, by omega, rfl, Below.refl _ _, fun j hj => absurd hj (by omega)⟩
      case round =>
        obtain ⟨k, hk, hg2, rfl, hb2, hall⟩ := hrel
        have HA := Lib.hid hall
        have G2 := Lib.hid hg2
        obtain ⟨x0, x1, x2, o0, o1, o2⟩ := HC.out
        have x0 := (pw_cell_below hb2 x0)
        have x1 := (pw_cell_below hb2 x1)
        have x2 := (pw_cell_below hb2 x2)
        have o0 := (pw_cell_below hb2 o0)
        have o1 := (pw_cell_below hb2 o1)
        have o2 := (pw_cell_below hb2 o2)
        have hs6 := HR.out.1.sl.below hb2
        have B2 := Lib.hid hb2
        clear hall hg2 hb2
        by_cases hkm : k < m
        · have hkd : decide ((k : Int) < (m : Int)) = true := by simp; omega
          obtain ⟨b6, off6, c6', hv6, _, hcl⟩ := hs6.at_ (k := 3) (fun _ => rfl) k (out.getD k r0) (by rw [List.getD_eq_getElem?_getD, List.getElem?_eq_getElem (by have := HR.out.2.2.2.1; omega)]; rfl)
          injection hv6 with ha6 hb6 hc6
          subst ha6 hc6
          have y0 := hcl 0 _ rfl
          rw [Nat.add_zero] at y0
          have y1 := hcl 1 _ rfl
          have y2 := hcl 2 _ rfl
          clear hcl hs6
          have BC := Lib.hid (fun W => before_calls W (out.getD k r0) r o HV.out.2.2)
          obtain ⟨d, hd⟩ : ∃ d, decide (ltR o (out.getD k r0) r) = d := ⟨_, rfl⟩
          rw [hd] at BC
          obtain ⟨q, hq⟩ : ∃ q, out.getD k r0 = q := ⟨_, rfl⟩
          rw [hq] at y0 y1 y2 BC hd
          have HQ := Lib.hid (And.intro hq hd)
          clear hq hd hb6
          cases d
          · go_wp2_with fail
            go_region_held3 (fun W => (W.cell? ⟨b6, off6 + k * 3, none⟩ = some (.int .i64 q.a) ∧ W.cell? ⟨b6, off6 + k * 3 + 1, none⟩ = some (.int .i64 q.b) ∧ W.cell? ⟨b6, off6 + k * 3 + 2, none⟩ = some (.int .i64 q.c)) ∧ (W.cell? ⟨b, off + i * 3, none⟩ = some (.int .i64 r.a) ∧ W.cell? ⟨b, off + i * 3 + 1, none⟩ = some (.int .i64 r.b) ∧ W.cell? ⟨b, off + i * 3 + 2, none⟩ = some (.int .i64 r.c)) ∧ (W.cell? ⟨w.heap.size, 0, none⟩ = some (.int .i64 o.x) ∧ W.cell? ⟨w.heap.size, 1, none⟩ = some (.int .i64 o.y) ∧ W.cell? ⟨w.heap.size, 2, none⟩ = some (.int .i64 o.z)))
              (first | go_keep | (refine ⟨⟨?_, ?_, ?_⟩, ⟨?_, ?_, ?_⟩, ⟨?_, ?_, ?_⟩⟩ <;> (exact pw_cell_below B3.out (by assumption))))
              (first | (go_at_call 36; refine (BC.out _).mono ?_; rintro e w3 ⟨rfl, hb3⟩; have B3 := Lib.hid hb3; clear hb3))
            have hb3 := below_tr (below_drew B2.out) B3.out (by exact B2.out.size)
            obtain ⟨x0, x1, x2, o0, o1, o2⟩ := HC.out
            have x0 := (pw_cell_below hb3 x0)
            have x1 := (pw_cell_below hb3 x1)
            have x2 := (pw_cell_below hb3 x2)
            obtain ⟨b7, off7, c7, hv7, _, hcl⟩ := (HR.out.1.sl.below hb3).at_ (k := 3) (fun _ => rfl) k (out.getD k r0) (by rw [List.getD_eq_getElem?_getD, List.getElem?_eq_getElem (by have := HR.out.2.2.2.1; omega)]; rfl)
            injection hv7 with ha7 hb7 hc7
            injection ha7 with ha7
            injection ha7 with ha7 ha8
            subst ha7 ha8 hc7
            have y0 := hcl 0 _ rfl
            rw [Nat.add_zero] at y0
            have y1 := hcl 1 _ rfl
            have y2 := hcl 2 _ rfl
            rw [HQ.out.1] at y0 y1 y2
            have BN := Lib.hid hb3
            have FI := ins_at o r out k (by have := HR.out.2.2.2.1; omega) HA.out (fun _ h => by have := HQ.out.2; rw [HQ.out.1] at h; rw [decide_eq_true h] at this; cases this)
            clear hcl hb7 hb3 B3 B2
            have EQ := fun (w : World) (a b c x y z : Int) => eql23 w a b c x y z
            by_cases hqr : q = r
            · subst hqr
              rw [if_pos ⟨by have := HR.out.2.2.2.1; omega, HQ.out.1⟩] at FI
              have FI' := Lib.hid FI
              clear FI
              have hd : decide (q.a = q.a ∧ q.b = q.b ∧ q.c = q.c) = true := by simp
              go_wp2_with fail
              go_quiet (fail)
              go_wp2_with fail
              go_roundg (n - (i + 1))
              case measure => omega
              case rel => exact ⟨i + 1, by omega, Nat.le_refl _, by go_num, pw_below_drewN (below_tr HR.out.2.1 BN.out HR.out.2.1.size) _, by rw [HR.out.2.2.1, FI'.out]; exact HR.out.1.below (pw_below_drewN BN.out _)⟩
            · have hd : decide (q.a = r.a ∧ q.b = r.b ∧ q.c = r.c) = false := by rw [r3_eq]; simpa using hqr
              rw [if_neg (fun h => hqr (HQ.out.1.symm.trans h.2))] at FI
              have FI' := Lib.hid FI
              have hck : ¬ c6 = k := by omega
              have hkc : (k : Int) ≤ (c6 : Int) := by omega
              have HO3 := Lib.hid (HR.out.1.below BN.out)
              have HT := Lib.hid (HO3.out.sl.take rfl k (by have := HR.out.2.2.2.1; omega))
              have HD := Lib.hid (HO3.out.sl.drop (k := 3) (fun _ => rfl) k (by have := HR.out.2.2.2.1; omega) b6 (off6 + k * 3) (fun _ => ⟨rfl, rfl⟩))
              clear FI
              go_wp2_with fail
              go_quiet (fail)
              have HT := Lib.hid (HT.out.below (pw_below_drewN (Below.refl _ _) nq))
              have HD := Lib.hid (HD.out.below (pw_below_drewN (Below.refl _ _) nq))
              have BN := Lib.hid (pw_below_drewN BN.out nq)
              generalize w3.drewN nq = wN at *
              go_wp2_with (at_builtin; (refine G.wp_appN rfl _ _ 22 23 rfl _ 3 24 Try.underlying22 info23 rfl (by omega) (by omega) enc3 (fun _ => rfl) enc3_one wN.heap.size (.slice none 0 0) (.slice (some ⟨b6, off6, none⟩) k c6) [] (out.take k) rfl rfl (G.OwnL.nil _ _ _ _ _) HT.out (Nat.le_refl _) (by (try simp only [List.length_append, List.length_take, List.length_drop, List.length_nil, List.length_cons]); have := HR.out.2.2.2.1; omega) ?_))
              intro v9 w9 ho9 hg9 _
              have B9 := Lib.hid ((G.OwnL.nil wN wN.heap.size 23 3 enc3).next (Below.refl _ _) (Nat.le_refl _) hg9)
              have O9 := Lib.hid ho9
              clear ho9 hg9
              have q0 := pw_cell_below (below_tr BN.out B9.out BN.out.size) HC.out.1
              have q1 := pw_cell_below (below_tr BN.out B9.out BN.out.size) HC.out.2.1
              have q2 := pw_cell_below (below_tr BN.out B9.out BN.out.size) HC.out.2.2.1
              go_wp2_with (at_builtin; (refine G.wp_app1 rfl _ _ 22 23 rfl _ 3 24 Try.underlying22 info23 rfl (by omega) (by omega) enc3 (fun _ => rfl) enc3_one wN.heap.size v9 (out.take k) r _ rfl rfl _ rfl rfl O9.out B9.out.size (by (try simp only [List.length_append, List.length_take, List.length_drop, List.length_nil, List.length_cons]); have := HR.out.2.2.2.1; omega) ?_))
              intro v10 w10 ho10 hg10 _
              have B10 := Lib.hid (O9.out.next B9.out B9.out.size hg10)
              have O10 := Lib.hid ho10
              have HD10 := Lib.hid (HD.out.below B10.out)
              clear ho10 hg10 q0 q1 q2
              go_wp2_with (at_builtin; (refine G.wp_appN rfl _ _ 22 23 rfl _ 3 24 Try.underlying22 info23 rfl (by omega) (by omega) enc3 (fun _ => rfl) enc3_one wN.heap.size v10 _ (out.take k ++ [r]) (out.drop k) rfl rfl O10.out HD10.out B10.out.size (by (try simp only [List.length_append, List.length_take, List.length_drop, List.length_nil, List.length_cons]); have := HR.out.2.2.2.1; omega) ?_))
              intro v11 w11 ho11 hg11 _
              have B11 := Lib.hid (O10.out.next B10.out B10.out.size hg11)
              have O11 := Lib.hid ho11
              clear ho11 hg11
              go_wp2_with fail
              go_roundg (n - (i + 1))
              case measure => omega
              case rel =>
                refine ⟨i + 1, by omega, Nat.le_refl _, by go_num, below_tr HR.out.2.1 (below_tr BN.out B11.out BN.out.size) HR.out.2.1.size, ?_⟩
                rw [HR.out.2.2.1, FI'.out]
                have := O11.out.weaken (base' := w1.heap.size) (Nat.le_trans HR.out.2.1.size BN.out.size)
                simpa using this
          · go_wp2_with fail
            go_region_held3 (fun W => (W.cell? ⟨b6, off6 + k * 3, none⟩ = some (.int .i64 q.a) ∧ W.cell? ⟨b6, off6 + k * 3 + 1, none⟩ = some (.int .i64 q.b) ∧ W.cell? ⟨b6, off6 + k * 3 + 2, none⟩ = some (.int .i64 q.c)) ∧ (W.cell? ⟨b, off + i * 3, none⟩ = some (.int .i64 r.a) ∧ W.cell? ⟨b, off + i * 3 + 1, none⟩ = some (.int .i64 r.b) ∧ W.cell? ⟨b, off + i * 3 + 2, none⟩ = some (.int .i64 r.c)) ∧ (W.cell? ⟨w.heap.size, 0, none⟩ = some (.int .i64 o.x) ∧ W.cell? ⟨w.heap.size, 1, none⟩ = some (.int .i64 o.y) ∧ W.cell? ⟨w.heap.size, 2, none⟩ = some (.int .i64 o.z)))
              (first | go_keep | (refine ⟨⟨?_, ?_, ?_⟩, ⟨?_, ?_, ?_⟩, ⟨?_, ?_, ?_⟩⟩ <;> (exact pw_cell_below B3.out (by assumption))))
              (first | (go_at_call 36; refine (BC.out _).mono ?_; rintro e w3 ⟨rfl, hb3⟩; have B3 := Lib.hid hb3; clear hb3))
            go_wp2_with fail
            go_roundg (m + 1 - (k + 1))
            case measure => have := G2.out; omega
            case rel =>
              refine ⟨k + 1, by omega, Nat.le_refl _, by go_num, below_tr (below_drew B2.out) B3.out (by exact B2.out.size), fun j hj => ?_⟩
              by_cases e : j = k
              · subst e; rw [HQ.out.1]; exact of_decide_eq_true HQ.out.2
              · exact HA.out j (by omega)
        · obtain rfl : k = m := by omega
          have hkd : decide ((k : Int) < (k : Int)) = false := by simp
          have HO3 := Lib.hid (HR.out.1.below B2.out)
          have FI := ins_at o r out k (by have := HR.out.2.2.2.1; omega) HA.out (fun h => absurd h (by have := HR.out.2.2.2.1; omega))
          rw [if_neg (fun h => absurd h.1 (by have := HR.out.2.2.2.1; omega))] at FI
          have FI' := Lib.hid FI
          have hdrop : out.drop k = [] := List.drop_eq_nil_of_le (by have := HR.out.2.2.2.1; omega)
          have HDR := Lib.hid hdrop
          have hform := HO3.out.form
          rw [HR.out.2.2.2.1] at hform
          obtain ⟨A', c', hv', _, hnone, hsome⟩ := hform
          injection hv' with e1 e2 e3
          subst e1 e3
          have hkc : (k : Int) ≤ (c6 : Int) := by omega
          clear FI hdrop e2
          cases A6 with
          | none =>
            obtain ⟨h1, h2⟩ := hnone rfl
            subst h1 h2
            obtain rfl : k = 0 := by have := HR.out.2.2.2.1; simpa using this.symm
            have HT : Hid (G.SlL wr enc3 (.slice none 0 0) ([] : List R3)) := Lib.hid (G.SlL.nil wr enc3)
            have HD := HT
            clear hnone hsome
            go_wp2_with fail
            go_quiet (fail)
            have HT := Lib.hid (HT.out.below (pw_below_drewN (Below.refl _ _) nq))
            have HD := Lib.hid (HD.out.below (pw_below_drewN (Below.refl _ _) nq))
            have BN := Lib.hid (pw_below_drewN B2.out nq)
            generalize wr.drewN nq = wM at *
            go_wp2_with fail
            go_quiet (fail)
            have HT := Lib.hid (HT.out.below (pw_below_drewN (Below.refl _ _) nq))
            have HD := Lib.hid (HD.out.below (pw_below_drewN (Below.refl _ _) nq))
            have BN := Lib.hid (pw_below_drewN BN.out nq)
            generalize wM.drewN nq = wN at *
            go_wp2_with (at_builtin; (refine G.wp_appN rfl _ _ 22 23 rfl _ 3 24 Try.underlying22 info23 rfl (by omega) (by omega) enc3 (fun _ => rfl) enc3_one wN.heap.size (.slice none 0 0) (.slice none 0 0) [] (([] : List R3)) rfl rfl (G.OwnL.nil _ _ _ _ _) HT.out (Nat.le_refl _) (by (try simp only [List.length_append, List.length_take, List.length_drop, List.length_nil, List.length_cons]); have := HR.out.2.2.2.1; omega) ?_))
            intro v9 w9 ho9 hg9 _
            have B9 := Lib.hid ((G.OwnL.nil wN wN.heap.size 23 3 enc3).next (Below.refl _ _) (Nat.le_refl _) hg9)
            have O9 := Lib.hid ho9
            clear ho9 hg9
            have q0 := pw_cell_below (below_tr BN.out B9.out BN.out.size) HC.out.1
            have q1 := pw_cell_below (below_tr BN.out B9.out BN.out.size) HC.out.2.1
            have q2 := pw_cell_below (below_tr BN.out B9.out BN.out.size) HC.out.2.2.1
            go_wp2_with (at_builtin; (refine G.wp_app1 rfl _ _ 22 23 rfl _ 3 24 Try.underlying22 info23 rfl (by omega) (by omega) enc3 (fun _ => rfl) enc3_one wN.heap.size v9 (([] : List R3)) r _ rfl rfl _ rfl rfl O9.out B9.out.size (by (try simp only [List.length_append, List.length_take, List.length_drop, List.length_nil, List.length_cons]); have := HR.out.2.2.2.1; omega) ?_))
            intro v10 w10 ho10 hg10 _
            have B10 := Lib.hid (O9.out.next B9.out B9.out.size hg10)
            have O10 := Lib.hid ho10
            have HD10 := Lib.hid (HD.out.below B10.out)
            clear ho10 hg10 q0 q1 q2
            go_wp2_with (at_builtin; (refine G.wp_appN rfl _ _ 22 23 rfl _ 3 24 Try.underlying22 info23 rfl (by omega) (by omega) enc3 (fun _ => rfl) enc3_one wN.heap.size v10 _ (([] : List R3) ++ [r]) (([] : List R3)) rfl rfl O10.out HD10.out B10.out.size (by (try simp only [List.length_append, List.length_take, List.length_drop, List.length_nil, List.length_cons]); have := HR.out.2.2.2.1; omega) ?_))
            intro v11 w11 ho11 hg11 _
            have B11 := Lib.hid (O10.out.next B10.out B10.out.size hg11)
            have O11 := Lib.hid ho11
            clear ho11 hg11
            go_wp2_with fail
            go_roundg (n - (i + 1))
            case measure => omega
            case rel =>
              refine ⟨i + 1, by omega, Nat.le_refl _, by go_num, below_tr HR.out.2.1 (below_tr BN.out B11.out BN.out.size) HR.out.2.1.size, ?_⟩
              rw [HR.out.2.2.1, FI'.out]
              have := O11.out.weaken (base' := w1.heap.size) (Nat.le_trans HR.out.2.1.size BN.out.size)
              simpa using this
          | some a6 =>
            obtain ⟨b6, rfl, _, _⟩ := hsome _ rfl
            by_cases hck : c6 = k
            · subst hck
              have HT := Lib.hid (HO3.out.sl.take rfl c6 (by have := HR.out.2.2.2.1; omega))
              have HD : Hid (G.SlL wr enc3 (.slice (some ⟨b6, 0, none⟩) 0 0) ([] : List R3)) := Lib.hid (by have := HO3.out.sl.drop (k := 3) (fun _ => rfl) c6 (by have := HR.out.2.2.2.1; omega) b6 0 (fun h => absurd rfl h); rw [HDR.out] at this; simpa using this)
              clear hnone hsome
              go_wp2_with fail
              go_quiet (fail)
              have HT := Lib.hid (HT.out.below (pw_below_drewN (Below.refl _ _) nq))
              have HD := Lib.hid (HD.out.below (pw_below_drewN (Below.refl _ _) nq))
              have BN := Lib.hid (pw_below_drewN B2.out nq)
              generalize wr.drewN nq = wM at *
              go_wp2_with fail
              go_quiet (fail)
              have HT := Lib.hid (HT.out.below (pw_below_drewN (Below.refl _ _) nq))
              have HD := Lib.hid (HD.out.below (pw_below_drewN (Below.refl _ _) nq))
              have BN := Lib.hid (pw_below_drewN BN.out nq)
              generalize wM.drewN nq = wN at *
              go_wp2_with (at_builtin; (refine G.wp_appN rfl _ _ 22 23 rfl _ 3 24 Try.underlying22 info23 rfl (by omega) (by omega) enc3 (fun _ => rfl) enc3_one wN.heap.size (.slice none 0 0) (.slice (some ⟨b6, 0, none⟩) c6 c6) [] (out.take c6) rfl rfl (G.OwnL.nil _ _ _ _ _) HT.out (Nat.le_refl _) (by (try simp only [List.length_append, List.length_take, List.length_drop, List.length_nil, List.length_cons]); have := HR.out.2.2.2.1; omega) ?_))
              intro v9 w9 ho9 hg9 _
              have B9 := Lib.hid ((G.OwnL.nil wN wN.heap.size 23 3 enc3).next (Below.refl _ _) (Nat.le_refl _) hg9)
              have O9 := Lib.hid ho9
              clear ho9 hg9
              have q0 := pw_cell_below (below_tr BN.out B9.out BN.out.size) HC.out.1
              have q1 := pw_cell_below (below_tr BN.out B9.out BN.out.size) HC.out.2.1
              have q2 := pw_cell_below (below_tr BN.out B9.out BN.out.size) HC.out.2.2.1
              go_wp2_with (at_builtin; (refine G.wp_app1 rfl _ _ 22 23 rfl _ 3 24 Try.underlying22 info23 rfl (by omega) (by omega) enc3 (fun _ => rfl) enc3_one wN.heap.size v9 (out.take c6) r _ rfl rfl _ rfl rfl O9.out B9.out.size (by (try simp only [List.length_append, List.length_take, List.length_drop, List.length_nil, List.length_cons]); have := HR.out.2.2.2.1; omega) ?_))
              intro v10 w10 ho10 hg10 _
              have B10 := Lib.hid (O9.out.next B9.out B9.out.size hg10)
              have O10 := Lib.hid ho10
              have HD10 := Lib.hid (HD.out.below B10.out)
              clear ho10 hg10 q0 q1 q2
              go_wp2_with (at_builtin; (refine G.wp_appN rfl _ _ 22 23 rfl _ 3 24 Try.underlying22 info23 rfl (by omega) (by omega) enc3 (fun _ => rfl) enc3_one wN.heap.size v10 _ (out.take c6 ++ [r]) ([] : List R3) rfl rfl O10.out HD10.out B10.out.size (by (try simp only [List.length_append, List.length_take, List.length_drop, List.length_nil, List.length_cons]); have := HR.out.2.2.2.1; omega) ?_))
              intro v11 w11 ho11 hg11 _
              have B11 := Lib.hid (O10.out.next B10.out B10.out.size hg11)
              have O11 := Lib.hid ho11
              clear ho11 hg11
              go_wp2_with fail
              go_roundg (n - (i + 1))
              case measure => omega
              case rel =>
                refine ⟨i + 1, by omega, Nat.le_refl _, by go_num, below_tr HR.out.2.1 (below_tr BN.out B11.out BN.out.size) HR.out.2.1.size, ?_⟩
                rw [HR.out.2.2.1, FI'.out]
                have := O11.out.weaken (base' := w1.heap.size) (Nat.le_trans HR.out.2.1.size BN.out.size)
                rw [HDR.out]
                simpa using this
            · have HT := Lib.hid (HO3.out.sl.take rfl k (by have := HR.out.2.2.2.1; omega))
              have HD : Hid (G.SlL wr enc3 (.slice (some ⟨b6, k * 3, none⟩) 0 (c6 - k)) ([] : List R3)) := Lib.hid (by have := HO3.out.sl.drop (k := 3) (fun _ => rfl) k (by have := HR.out.2.2.2.1; omega) b6 (k * 3) (fun h => ⟨rfl, by omega⟩); rw [HDR.out] at this; simpa using this)
              clear hnone hsome
              go_wp2_with fail
              go_quiet (fail)
              have HT := Lib.hid (HT.out.below (pw_below_drewN (Below.refl _ _) nq))
              have HD := Lib.hid (HD.out.below (pw_below_drewN (Below.refl _ _) nq))
              have BN := Lib.hid (pw_below_drewN B2.out nq)
              generalize wr.drewN nq = wM at *
              go_wp2_with fail
              go_quiet (fail)
              have HT := Lib.hid (HT.out.below (pw_below_drewN (Below.refl _ _) nq))
              have HD := Lib.hid (HD.out.below (pw_below_drewN (Below.refl _ _) nq))
              have BN := Lib.hid (pw_below_drewN BN.out nq)
              generalize wM.drewN nq = wN at *
              go_wp2_with (at_builtin; (refine G.wp_appN rfl _ _ 22 23 rfl _ 3 24 Try.underlying22 info23 rfl (by omega) (by omega) enc3 (fun _ => rfl) enc3_one wN.heap.size (.slice none 0 0) (.slice (some ⟨b6, 0, none⟩) k c6) [] (out.take k) rfl rfl (G.OwnL.nil _ _ _ _ _) HT.out (Nat.le_refl _) (by (try simp only [List.length_append, List.length_take, List.length_drop, List.length_nil, List.length_cons]); have := HR.out.2.2.2.1; omega) ?_))
              intro v9 w9 ho9 hg9 _
              have B9 := Lib.hid ((G.OwnL.nil wN wN.heap.size 23 3 enc3).next (Below.refl _ _) (Nat.le_refl _) hg9)
              have O9 := Lib.hid ho9
              clear ho9 hg9
              have q0 := pw_cell_below (below_tr BN.out B9.out BN.out.size) HC.out.1
              have q1 := pw_cell_below (below_tr BN.out B9.out BN.out.size) HC.out.2.1
              have q2 := pw_cell_below (below_tr BN.out B9.out BN.out.size) HC.out.2.2.1
              go_wp2_with (at_builtin; (refine G.wp_app1 rfl _ _ 22 23 rfl _ 3 24 Try.underlying22 info23 rfl (by omega) (by omega) enc3 (fun _ => rfl) enc3_one wN.heap.size v9 (out.take k) r _ rfl rfl _ rfl rfl O9.out B9.out.size (by (try simp only [List.length_append, List.length_take, List.length_drop, List.length_nil, List.length_cons]); have := HR.out.2.2.2.1; omega) ?_))
              intro v10 w10 ho10 hg10 _
              have B10 := Lib.hid (O9.out.next B9.out B9.out.size hg10)
              have O10 := Lib.hid ho10
              have HD10 := Lib.hid (HD.out.below B10.out)
              clear ho10 hg10 q0 q1 q2
              go_wp2_with (at_builtin; (refine G.wp_appN rfl _ _ 22 23 rfl _ 3 24 Try.underlying22 info23 rfl (by omega) (by omega) enc3 (fun _ => rfl) enc3_one wN.heap.size v10 _ (out.take k ++ [r]) ([] : List R3) rfl rfl O10.out HD10.out B10.out.size (by (try simp only [List.length_append, List.length_take, List.length_drop, List.length_nil, List.length_cons]); have := HR.out.2.2.2.1; omega) ?_))
              intro v11 w11 ho11 hg11 _
              have B11 := Lib.hid (O10.out.next B10.out B10.out.size hg11)
              have O11 := Lib.hid ho11
              clear ho11 hg11
              go_wp2_with fail
              go_roundg (n - (i + 1))
              case measure => omega
              case rel =>
                refine ⟨i + 1, by omega, Nat.le_refl _, by go_num, below_tr HR.out.2.1 (below_tr BN.out B11.out BN.out.size) HR.out.2.1.size, ?_⟩
                rw [HR.out.2.2.1, FI'.out]
                have := O11.out.weaken (base' := w1.heap.size) (Nat.le_trans HR.out.2.1.size BN.out.size)
                rw [HDR.out]
                simpa using this
    · obtain rfl : i = n := by omega
      have hw2 := below_tr HB.out.1 hbw HB.out.1.size
      have hsz := HB.out.2.2.2
      obtain ⟨ho1, _⟩ := box_cells ((hbw.block w.heap.size (by omega)).trans HB.out.2.1)
      obtain ⟨hr1, fr1⟩ := box_cells ((hbw.block (w.heap.size + 1) (by omega)).trans HB.out.2.2.1)
      have o0 := ho1 0
      have o1 := ho1 1
      have o2 := ho1 2
      have c0 := hr1 0
      have c1 := hr1 1
      have c2 := hr1 2
      have c3 := hr1 3
      have f0 := fr1 0
      have f1 := fr1 1
      have f2 := fr1 2
      have f3 := fr1 3
      simp at o0 o1 o2 c0 c1 c2 c3
      have hlt2 : w.heap.size + 1 < w1.heap.size := by omega
      rw [List.take_of_length_le (by have := HV.out.2.1; omega)] at hown
      have HO := Lib.hid hown
      have HW := Lib.hid hw2
      have HZ := Lib.hid hlt2
      clear hown hw2 hlt2 hsz ho1 hr1 fr1 hbw
      obtain ⟨A6, c6, hu6⟩ := own_slice HO.out
      subst hu6
      go_wp2_with fail
      have hgr : wr.grownBy ((((wr.setCell ⟨w.heap.size + 1, 0, none⟩ (.int .i64 o.x)).setCell ⟨w.heap.size + 1, 1, none⟩ (.int .i64 o.y)).setCell ⟨w.heap.size + 1, 2, none⟩ (.int .i64 o.z)).setCell ⟨w.heap.size + 1, 3, none⟩ (.slice A6 (insAll o l).length c6)) (some (w.heap.size + 1)) :=
        grown_tr (grown_tr (grown_tr (grown_set _ _ _ _) (grown_set _ _ _ _)) (grown_set _ _ _ _)) (grown_set _ _ _ _)
      refine bodyPost_ret (v := .tuple #[.agg #[.int .i64 o.x, .int .i64 o.y, .int .i64 o.z, .slice A6 (insAll o l).length c6], .int .i64 0]) (by simp [results, Try.results13, go_sem, c0, c1, c2, c3]) rfl ⟨_, rfl, ?_, ?_⟩
      · exact (HO.out.other hgr HZ.out).weaken HB.out.1.size
      · exact HW.out.grown hgr (by have := HW.out.size; omega) (by intro k hk; have := Option.some.inj hk; omega)
end Go.Proofs.Ythapkpgkcckapaa.Pw
