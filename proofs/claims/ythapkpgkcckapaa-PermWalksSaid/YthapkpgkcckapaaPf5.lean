/-
  The document's walks: the walk of to. Conditions: the cells lie as told.
-/
import Derived.Test.YthapkpgkcckapaaPf4
namespace Go.Proofs.Ythapkpgkcckapaa.Pw
open Go.RowKit Go.Proofs.YthapkpgkcckapaaW.PrintWords Go.Proofs.Ythapkpgkcckapaa.Pm

theorem find_at (n : Int) : ∀ (l : List Int) (i : Nat), i < l.length → n ≤ l.getD i 0 → (∀ j, j < i → l.getD j 0 < n) → l.find? (fun x => decide (n ≤ x)) = some (l.getD i 0)
  | [], i, h, _, _ => absurd h (by simp)
  | a :: l, 0, _, h, _ => by
    rw [List.find?_cons_of_pos (by simpa using h)]
    rfl
  | a :: l, i + 1, hi, h, hall => by
    have h0 := hall 0 (by omega)
    rw [List.find?_cons_of_neg (by simpa using h0)]
    exact find_at n l i (by simpa using hi) (by simpa using h) (fun j hj => by have := hall (j + 1) (by omega); simpa using this)
theorem find_no (n : Int) (l : List Int) (h : ∀ j, j < l.length → l.getD j 0 < n) : l.find? (fun x => decide (n ≤ x)) = none := by
  rw [List.find?_eq_none]
  intro x hx
  obtain ⟨i, hi, rfl⟩ := List.getElem_of_mem hx
  have := h i hi
  rw [List.getD_eq_getElem?_getD, List.getElem?_eq_getElem hi] at this
  simp only [decide_eq_true_eq]
  simpa using this

set_option maxHeartbeats 4000000 in
theorem rto_calls (w : World) (o : Ord) (ho : Six o) (A : Option Addr) (n c : Nat) (L : List R3) (hn : L.length = n) (hv : SlR w (.slice A n c) L) (hl : n ≤ 100) (av : Value) (r : RS) (x : Int) (y : Nat) (hy : r.at_.length = y + 1) (hy2 : y ≤ 2) (ha : SlI w av r.at_) :
    Calls Try.prog 45 #[V o (.slice A n c) av r.beh, .int .i64 x] w fun e w' => ∃ av', e = .returned (V o (.slice A n c) av' (rTo L o r x).beh) ∧ SlI w' av' (rTo L o r x).at_ ∧ Below w.heap.size w w' ∧ Fr w av av' := by
  obtain ⟨b, off, d, hva, hlt, _⟩ := SlI.last ha y hy
  subst hva
  have hle : y + 1 ≤ d := by
    obtain ⟨A', c', hv', hc', _⟩ := ha
    injection hv' with e1 e2 e3
    omega
  obtain ⟨bb, hbb⟩ : ∃ b, r.beh = b := ⟨_, rfl⟩
  rw [hbb]
  have hyd : (y : Int) ≤ (d : Int) := by omega
  have hp : r.at_.take (r.at_.length - 1) = r.at_.take y := by rw [hy]; rfl
  have hpl : (r.at_.take y).length = y := by rw [List.length_take]; omega
  have hcut : SlI w (.slice (some ⟨b, off, none⟩) y d) (r.at_.take y) := by
    have := G.SlL.take ha rfl y (by omega)
    exact this
  obtain ⟨av', beh', hto⟩ : ∃ a b, rTo L o r x = ⟨a, b⟩ := ⟨_, _, rfl⟩
  rw [hto]
  have HL := Lib.hid (fun W => fun (hW : Below w.heap.size w W) => level_calls W o ho A n c L hn (hv.below hW) hl (some ⟨b, off, none⟩) y d (r.at_.take y) hpl (hcut.below hW) hy2)
  have HA := Lib.hid (And.intro hcut (And.intro hpl (And.intro hp (And.intro hbb (And.intro hto ha)))))
  have hb0 : Below w.heap.size w ((w.alloc (.cells #[.int .i64 o.x, .int .i64 o.y, .int .i64 o.z, .slice A n c, .slice (some ⟨b, off, none⟩) (y + 1) d, .bool bb] 39)).alloc (.cells #[.int .i64 0, .int .i64 0, .int .i64 0, .slice none 0 0, .slice none 0 0, .bool false] 39)) := (below_a w _).alloc (below_a w _).size _
  obtain ⟨hbw, hx1, hx2, hsz⟩ := two_obj w (.cells #[.int .i64 o.x, .int .i64 o.y, .int .i64 o.z, .slice A n c, .slice (some ⟨b, off, none⟩) (y + 1) d, .bool bb] 39) (.cells #[.int .i64 0, .int .i64 0, .int .i64 0, .slice none 0 0, .slice none 0 0, .bool false] 39) _ (Below.refl _ _)
  obtain ⟨⟨x0, x1, x2, x3, x4, x5⟩, _⟩ := six_cells hx1
  have HX := Lib.hid (And.intro hbw (And.intro hx1 (And.intro hx2 (And.intro hsz (And.intro x0 (And.intro x1 (And.intro x2 (And.intro x3 (And.intro x4 x5)))))))))
  have hz100 : (lvl L o (r.at_.take y)).length ≤ 100 := by
    have := lvl_len L o (r.at_.take y) L.length (Nat.le_refl _)
    rw [List.take_length] at this
    omega
  clear hv hn hbb ha hcut hpl hp hto hy hb0 hx1 hx2 hsz hbw x0 x1 x2 x3 x4 x5
  go_enter Try.func45, Try.ntmps45
  go_wp2_with fail
  generalize (w.alloc (.cells #[.int .i64 o.x, .int .i64 o.y, .int .i64 o.z, .slice A n c, .slice (some ⟨b, off, none⟩) (y + 1) d, .bool bb] 39)).alloc (.cells #[.int .i64 0, .int .i64 0, .int .i64 0, .slice none 0 0, .slice none 0 0, .bool false] 39) = W at *
  obtain ⟨hbw, hx1, hx2, hsz, x0, x1, x2, x3, x4, x5⟩ := HX.out
  have HW := Lib.hid hbw
  clear hbw hx1 hx2 hsz
  go_region_held3 (fun W => W.cell? ⟨w.heap.size, 0, none⟩ = some (.int .i64 o.x) ∧ W.cell? ⟨w.heap.size, 1, none⟩ = some (.int .i64 o.y) ∧ W.cell? ⟨w.heap.size, 2, none⟩ = some (.int .i64 o.z) ∧ W.cell? ⟨w.heap.size, 3, none⟩ = some (.slice A n c) ∧ W.cell? ⟨w.heap.size, 4, none⟩ = some (.slice (some ⟨b, off, none⟩) (y + 1) d))
    (first | go_keep | (refine ⟨?_, ?_, ?_, ?_, ?_⟩ <;> (exact pw_cell_below B1.out (by assumption))))
    (first | (go_at_call 42; refine (HL.out _ (below_drew HW.out)).mono ?_; rintro e w1 ⟨v6, rfl, ho6, hb6⟩; have B1 := Lib.hid hb6; have O6 := Lib.hid ho6; clear hb6 ho6))
  have hbW : Below w.heap.size w w1 := below_tr (below_drew HW.out) B1.out (by exact HW.out.size)
  have hB2 : Below W.heap.size W w1 := below_tr (below_drew (Below.refl _ _)) B1.out (by exact Nat.le_refl _)
  have hy1 := (hB2.block w.heap.size (by have := HX.out.2.2.2.1; omega)).trans HX.out.2.1
  have hy2' := (hB2.block (w.heap.size + 1) (by have := HX.out.2.2.2.1; omega)).trans HX.out.2.2.1
  have hws : w.heap.size + 2 ≤ w1.heap.size := Nat.le_trans HX.out.2.2.2.1 hB2.size
  have HY := Lib.hid (And.intro hy1 (And.intro hy2' (And.intro hws hbW)))
  have O6' := Lib.hid (O6.out.weaken (Nat.zero_le _))
  obtain ⟨A6, c6, hv6, _⟩ := O6'.out.form
  obtain ⟨lv, hlv⟩ : ∃ lv, lvl L o (r.at_.take y) = lv := ⟨_, rfl⟩
  rw [hlv] at hv6 O6' hz100
  obtain ⟨z, hz⟩ : ∃ z, lv.length = z := ⟨_, rfl⟩
  rw [hz] at hv6 hz100
  subst hv6
  have HZ := Lib.hid (And.intro hlv hz)
  clear hy1 hy2' hws hbW hB2 O6 hlv hz x0 x1 x2 x3 x4 x5
  go_wp2_with fail
  go_loopg [7] (z + 1) (fun g s7 wr => ∃ i : Nat, i ≤ z ∧ z + 1 - i ≤ g ∧ s7 = .int .i64 i ∧ wr = w1 ∧ ∀ j, j < i → lv.getD j 0 < x)
  case atStart => exact ⟨0, by omega, by omega, rfl, rfl, fun j hj => absurd hj (by omega)⟩
  case round =>
    obtain ⟨i, hi, hg, rfl, rfl, hall⟩ := hrel
    have HA2 := Lib.hid hall
    clear hall
    by_cases hlt2 : i < z
    · obtain ⟨b6, off6, c6', hv6, _, hcl⟩ := SlI.cell O6'.out.sl i (by rw [HZ.out.2]; exact hlt2)
      injection hv6 with e1 e2 e3
      subst e1 e3
      clear e2
      obtain ⟨u, hu⟩ : ∃ u, lv.getD i 0 = u := ⟨_, rfl⟩
      rw [hu] at hcl
      by_cases hxu : x ≤ u
      · have HU := Lib.hid hu
        have HXU := Lib.hid hxu
        obtain ⟨⟨x0, x1, x2, x3, x4, x5⟩, ⟨fx0, fx1, fx2, fx3, fx4, fx5⟩⟩ := six_cells HY.out.1
        have HS := Lib.hid (HA.out.1.below HY.out.2.2.2)
        clear hu fx0 fx1 fx2 fx3 fx4 fx5
        go_wp2_with (at_builtin; go_loud (refine G.wp_appN rfl _ _ 37 3 rfl _ 1 8 Try.underlying37 info3 rfl (by omega) (by omega) encI encI_len encI_one wr.heap.size (.slice none 0 0) (.slice (some ⟨b, off, none⟩) y d) [] (r.at_.take y) rfl rfl (G.OwnL.nil _ _ _ _ _) HS.out (Nat.le_refl _) (by have := HA.out.2.1; simp only [List.length_nil]; omega) ?_))
        intro v5 w2 ho2 hg2 _
        have B2 := Lib.hid ((G.OwnL.nil wr wr.heap.size 3 1 encI).next (Below.refl _ _) (Nat.le_refl _) hg2)
        have O2 := Lib.hid ho2
        have hcl2 := pw_cell_below B2.out hcl
        clear ho2 hg2 x0 x1 x2 x3 x4 x5 hcl
        go_wp2_with (at_builtin; go_loud (refine G.wp_app1 rfl _ _ 37 3 rfl _ 1 8 Try.underlying37 info3 rfl (by omega) (by omega) encI encI_len encI_one wr.heap.size v5 (r.at_.take y) u _ rfl rfl _ rfl rfl O2.out B2.out.size (by have := HA.out.2.1; omega) ?_))
        intro v7 w3 ho3 hg3 _
        have B3 := Lib.hid (O2.out.next B2.out B2.out.size hg3)
        have O3 := Lib.hid ho3
        obtain ⟨A7, c7, hv7, _⟩ := ho3.form
        have hlen : (r.at_.take y ++ [u]).length = y + 1 := by rw [List.length_append, HA.out.2.1]; rfl
        rw [hlen] at hv7
        subst hv7
        have hy1 := (B3.out.block w.heap.size (by have := HY.out.2.2.1; omega)).trans HY.out.1
        have hy3 := (B3.out.block (w.heap.size + 1) (by have := HY.out.2.2.1; omega)).trans HY.out.2.1
        obtain ⟨⟨x0, x1, x2, x3, x4, x5⟩, ⟨fx0, fx1, fx2, fx3, fx4, fx5⟩⟩ := six_cells hy1
        obtain ⟨⟨y0, y1, y2, y3, y4, y5⟩, ⟨fy0, fy1, fy2, fy3, fy4, fy5⟩⟩ := six_cells hy3
        clear ho3 hg3 hy1 hy3 hcl2 hlen fx0 fx1 fx2 fx3 fx5
        have HTO : Hid (av' = r.at_.take y ++ [u] ∧ beh' = bb) := Lib.hid (by
          have h1 := HA.out.2.2.2.2.1
          unfold rTo at h1
          rw [HA.out.2.2.1, HZ.out.1, find_at x lv i (by rw [HZ.out.2]; exact hlt2) (by rw [HU.out]; exact HXU.out) HA2.out, HU.out, HA.out.2.2.2.1] at h1
          injection h1 with h1 h2
          exact ⟨h1.symm, h2.symm⟩)
        go_wp2_with fail
        refine bodyPost_ret (v := V o (.slice A n c) (.slice A7 (y + 1) c7) bb) (by simp [results, Try.results45, go_sem, x0, x1, x2, x3, x5, y0, y1, y2, y3, y4, y5]) rfl ⟨.slice A7 (y + 1) c7, ?_, ?_, ?_, fun g hg => .inl (by have := O3.out.ge g hg; have := HY.out.2.2.1; omega)⟩
        · rw [HTO.out.2]
        · show SlI _ _ av'
          rw [HTO.out.1]
          exact ((O3.out.other (grown_set _ _ _ _) (by have := HY.out.2.2.1; omega)).other (grown_set6 _ _ _ _ _ _ _ _) (by have := HY.out.2.2.1; omega)).sl
        · have hbb := below_tr HY.out.2.2.2 B3.out HY.out.2.2.2.size
          exact (hbb.grown (grown_set _ _ _ _) hbb.size (by intro k hk; have := Option.some.inj hk; omega)).grown (grown_set6 _ _ _ _ _ _ _ _) (by rw [size_set]; exact hbb.size) (by intro k hk; have := Option.some.inj hk; omega)
      · have HU := Lib.hid hu
        clear hu
        go_wp2_with fail
        go_roundg (z + 1 - (i + 1))
        case measure => omega
        case rel =>
          refine ⟨i + 1, by omega, Nat.le_refl _, by go_num, rfl, fun j hj => ?_⟩
          by_cases e : j = i
          · subst e; rw [HU.out]; omega
          · exact HA2.out j (by omega)
    · obtain rfl : i = z := by omega
      obtain ⟨⟨x0, x1, x2, x3, x4, x5⟩, ⟨fx0, fx1, fx2, fx3, fx4, fx5⟩⟩ := six_cells HY.out.1
      obtain ⟨⟨y0, y1, y2, y3, y4, y5⟩, ⟨fy0, fy1, fy2, fy3, fy4, fy5⟩⟩ := six_cells HY.out.2.1
      have HTO : Hid (av' = r.at_ ∧ beh' = true) := Lib.hid (by
        have h1 := HA.out.2.2.2.2.1
        unfold rTo at h1
        rw [HA.out.2.2.1, HZ.out.1, find_no x lv (by rw [HZ.out.2]; exact HA2.out)] at h1
        injection h1 with h1 h2
        exact ⟨h1.symm, h2.symm⟩)
      clear fx0 fx1 fx2 fx3 fx4
      go_wp2_with fail
      refine bodyPost_ret (v := V o (.slice A n c) (.slice (some ⟨b, off, none⟩) (y + 1) d) true) (by simp [results, Try.results45, go_sem, x0, x1, x2, x3, x4, y0, y1, y2, y3, y4, y5]) rfl ⟨.slice (some ⟨b, off, none⟩) (y + 1) d, ?_, ?_, ?_, Fr.refl _ _⟩
      · rw [HTO.out.2]
      · show SlI _ _ av'
        rw [HTO.out.1]
        refine HA.out.2.2.2.2.2.below ?_
        have hbb := HY.out.2.2.2
        exact (hbb.grown (grown_set _ _ _ _) hbb.size (by intro k hk; have := Option.some.inj hk; omega)).grown (grown_set6 _ _ _ _ _ _ _ _) (by rw [size_set]; exact hbb.size) (by intro k hk; have := Option.some.inj hk; omega)
      · have hbb := HY.out.2.2.2
        exact (hbb.grown (grown_set _ _ _ _) hbb.size (by intro k hk; have := Option.some.inj hk; omega)).grown (grown_set6 _ _ _ _ _ _ _ _) (by rw [size_set]; exact hbb.size) (by intro k hk; have := Option.some.inj hk; omega)
end Go.Proofs.Ythapkpgkcckapaa.Pw
