/-
  The document's walks: the walks of Open and of to. Conditions: the cells lie as told.
-/
import Derived.Test.YthapkpgkcckapaaPf3
namespace Go.Proofs.Ythapkpgkcckapaa.Pw
open Go.RowKit Go.Proofs.YthapkpgkcckapaaW.PrintWords Go.Proofs.Ythapkpgkcckapaa.Pm

theorem two_obj (w : World) (o1 o2 : Obj) (W : World) (hb : Below ((w.alloc o1).alloc o2).heap.size ((w.alloc o1).alloc o2) W) : Below w.heap.size w W ∧ W.heap[w.heap.size]? = some o1 ∧ W.heap[w.heap.size + 1]? = some o2 ∧ w.heap.size + 2 ≤ W.heap.size := by
  have b1 := below_a w o1
  have s1 := size_alloc w o1
  have b2 := b1.alloc b1.size o2
  have s2 := size_alloc (w.alloc o1) o2
  refine ⟨below_tr b2 hb b2.size, (hb.block _ (by omega)).trans ?_, (hb.block _ (by omega)).trans ?_, by have := hb.size; omega⟩
  · rw [heap_al _ _ (by omega)]
    show (w.heap.push _)[w.heap.size]? = _
    rw [Array.getElem?_push, if_pos rfl]
  · show ((w.alloc _).heap.push _)[w.heap.size + 1]? = _
    rw [Array.getElem?_push, if_pos (by omega)]
/-- The six cells of a walk's box, and that they may be written. -/
theorem six_cells {w : World} {g : Nat} {u0 u1 u2 u3 u4 u5 : Value} {t : TypeId} (h : w.heap[g]? = some (.cells #[u0, u1, u2, u3, u4, u5] t)) :
    (w.cell? ⟨g, 0, none⟩ = some u0 ∧ w.cell? ⟨g, 1, none⟩ = some u1 ∧ w.cell? ⟨g, 2, none⟩ = some u2 ∧ w.cell? ⟨g, 3, none⟩ = some u3 ∧ w.cell? ⟨g, 4, none⟩ = some u4 ∧ w.cell? ⟨g, 5, none⟩ = some u5) ∧
    (w.frozen? ⟨g, 0, none⟩ = false ∧ w.frozen? ⟨g, 1, none⟩ = false ∧ w.frozen? ⟨g, 2, none⟩ = false ∧ w.frozen? ⟨g, 3, none⟩ = false ∧ w.frozen? ⟨g, 4, none⟩ = false ∧ w.frozen? ⟨g, 5, none⟩ = false) := by
  obtain ⟨hc, hf⟩ := box_cells h
  exact ⟨⟨hc 0, hc 1, hc 2, hc 3, hc 4, hc 5⟩, hf 0, hf 1, hf 2, hf 3, hf 4, hf 5⟩

theorem grown_set6 (W : World) (g : Nat) (u0 u1 u2 u3 u4 u5 : Value) : W.grownBy ((((((W.setCell ⟨g, 0, none⟩ u0).setCell ⟨g, 1, none⟩ u1).setCell ⟨g, 2, none⟩ u2).setCell ⟨g, 3, none⟩ u3).setCell ⟨g, 4, none⟩ u4).setCell ⟨g, 5, none⟩ u5) (some g) :=
  grown_tr (grown_tr (grown_tr (grown_tr (grown_tr (grown_set _ _ _ _) (grown_set _ _ _ _)) (grown_set _ _ _ _)) (grown_set _ _ _ _)) (grown_set _ _ _ _)) (grown_set _ _ _ _)

set_option maxHeartbeats 4000000 in
theorem ropen_calls (w : World) (o : Ord) (ho : Six o) (A : Option Addr) (n c : Nat) (L : List R3) (hn : L.length = n) (hv : SlR w (.slice A n c) L) (hl : n ≤ 100) (av : Value) (r r' : RS) (k : Int) (hk : rOpen L o r = (r', k)) (hpos : k = 0 → 0 < (lvl L o r.at_).length) (ha : SlI w av r.at_) (hl3 : r.at_.length ≤ 3) :
    Calls Try.prog 16 #[V o (.slice A n c) av r.beh] w fun e w' => ∃ av', e = .returned (.tuple #[V o (.slice A n c) av' r'.beh, .int .i64 k]) ∧ SlI w' av' r'.at_ ∧ Below w.heap.size w w' ∧ Fr w av av' ∧ (k = 0 → ∀ g, av'.ownBlock = some g → w.heap.size ≤ g) := by
  obtain ⟨B, d, hva⟩ := SlI.form ha
  obtain ⟨m, hm⟩ : ∃ m, r.at_.length = m := ⟨_, rfl⟩
  rw [hm] at hva hl3
  subst hva
  obtain ⟨bb, hbb⟩ : ∃ b, r.beh = b := ⟨_, rfl⟩
  rw [hbb]
  unfold rOpen at hk
  rw [hm, hbb, hn] at hk
  by_cases hc : m = 3 ∨ bb = true ∨ n = 0
  · rw [if_pos hc] at hk
    injection hk with e1 e2
    subst e1 e2
    rw [hbb]
    have HA := Lib.hid ha
    have HO : Hid (Below w.heap.size w ((w.alloc (.cells #[.int .i64 o.x, .int .i64 o.y, .int .i64 o.z, .slice A n c, .slice B m d, .bool bb] 39)).alloc (.cells #[.int .i64 o.x, .int .i64 o.y, .int .i64 o.z, .slice A n c, .slice B m d, .bool bb] 39))) := Lib.hid ((below_a w _).alloc (below_a w _).size _)
    clear hv hn hm hbb ha hpos
    have hd : ((((m : Int) == 3) = true) ∨ (((m : Int) == 3) = false ∧ bb = true)) ∨ (((m : Int) == 3) = false ∧ bb = false ∧ n = 0) := by
      cases e : ((m : Int) == 3)
      · have : m ≠ 3 := fun e' => by subst e'; simp at e
        cases bb <;> simp_all
      · simp
    clear hc
    rcases hd with (h1 | ⟨h1, rfl⟩) | ⟨h1, rfl, rfl⟩
    all_goals
      go_enter Try.func16, Try.ntmps16
      go_wp2_with fail
      exact bodyPost_ret (by simp [results, Try.results16, go_sem]) rfl ⟨_, rfl, HA.out.below HO.out, HO.out, Fr.refl _ _, fun h => absurd h (by decide)⟩
  · rw [if_neg hc] at hk
    injection hk with e1 e2
    subst e1 e2
    have hm2 : m ≤ 2 := by omega
    have h3 : ((m : Int) == 3) = false := beq_eq_false_iff_ne.2 (by omega)
    obtain rfl : bb = false := by cases bb <;> simp_all
    have hn0 : ((n : Int) == 0) = false := beq_eq_false_iff_ne.2 (by omega)
    have hq := hpos rfl
    have HL := Lib.hid (fun W => fun (hW : Below w.heap.size w W) => level_calls W o ho A n c L hn (hv.below hW) hl B m d r.at_ hm (ha.below hW) hm2)
    have HA := Lib.hid (And.intro ha (And.intro hm (And.intro hq hbb)))
    have HB0 : Hid (Below w.heap.size w ((w.alloc (.cells #[.int .i64 o.x, .int .i64 o.y, .int .i64 o.z, .slice A n c, .slice B m d, .bool false] 39)).alloc (.cells #[.int .i64 0, .int .i64 0, .int .i64 0, .slice none 0 0, .slice none 0 0, .bool false] 39))) := Lib.hid ((below_a w _).alloc (below_a w _).size _)
    clear hv hn hm hbb ha hpos hc hq hl3
    go_enter Try.func16, Try.ntmps16
    go_wp2_with fail
    refine (HL.out _ HB0.out).mono ?_
    rintro e w1 ⟨v6, rfl, ho6, hb6⟩
    obtain ⟨hbw, hx1, hx2, hsz⟩ := two_obj w _ _ w1 hb6
    have HB := Lib.hid (And.intro hbw (And.intro hx1 (And.intro hx2 hsz)))
    have HV := Lib.hid (ho6.weaken (Nat.zero_le _))
    obtain ⟨⟨x0, x1, x2, x3, x4, x5⟩, ⟨fx0, fx1, fx2, fx3, fx4, fx5⟩⟩ := six_cells hx1
    have HS := Lib.hid (HA.out.1.below hbw)
    clear hb6 hbw hx1 hx2 hsz ho6 fx0 fx1 fx2 fx3 fx4 fx5
    go_wp2_with (at_builtin; go_loud (refine G.wp_appN rfl _ _ 37 3 rfl _ 1 8 Try.underlying37 info3 rfl (by omega) (by omega) encI encI_len encI_one w1.heap.size (.slice none 0 0) (.slice B m d) [] r.at_ rfl rfl (G.OwnL.nil _ _ _ _ _) HS.out (Nat.le_refl _) (by have := HA.out.2.1; simp; omega) ?_))
    intro v5 w2 ho2 hg2 _
    have B2 := Lib.hid ((G.OwnL.nil w1 w1.heap.size 3 1 encI).next (Below.refl _ _) (Nat.le_refl _) hg2)
    have O2 := Lib.hid ho2
    obtain ⟨b6, off6, c6, hv6, _, hfst⟩ := SlI.cell (HV.out.sl.below B2.out) 0 HA.out.2.2.1
    rw [Nat.add_zero] at hfst
    subst hv6
    have hq2 := HA.out.2.2.1
    obtain ⟨x, hx⟩ : ∃ x, (lvl L o r.at_).getD 0 0 = x := ⟨_, rfl⟩
    obtain ⟨z, hz⟩ : ∃ z, (lvl L o r.at_).length = z := ⟨_, rfl⟩
    rw [hx] at hfst
    rw [hz] at hq2
    have hzi : (0 : Int) < (z : Int) := by omega
    rw [hz]
    have HX := Lib.hid (And.intro hx hz)
    clear ho2 hg2 x0 x1 x2 x3 x4 x5 hx hz
    go_wp2_with (at_builtin; go_loud (refine G.wp_app1 rfl _ _ 37 3 rfl _ 1 8 Try.underlying37 info3 rfl (by omega) (by omega) encI encI_len encI_one w1.heap.size v5 r.at_ x _ rfl rfl _ rfl rfl O2.out B2.out.size (by have := HA.out.2.1; omega) ?_))
    intro v7 w3 ho3 hg3 _
    have B3 := Lib.hid (O2.out.next B2.out B2.out.size hg3)
    have O3 := Lib.hid ho3
    obtain ⟨A7, c7, hv7, _⟩ := ho3.form
    have hlen : (r.at_ ++ [x]).length = m + 1 := by rw [List.length_append, HA.out.2.1]; rfl
    rw [hlen] at hv7
    subst hv7
    have hy1 := (B3.out.block w.heap.size (by have := HB.out.2.2.2; omega)).trans HB.out.2.1
    have hy2 := (B3.out.block (w.heap.size + 1) (by have := HB.out.2.2.2; omega)).trans HB.out.2.2.1
    obtain ⟨⟨x0, x1, x2, x3, x4, x5⟩, ⟨fx0, fx1, fx2, fx3, fx4, fx5⟩⟩ := six_cells hy1
    obtain ⟨⟨y0, y1, y2, y3, y4, y5⟩, ⟨fy0, fy1, fy2, fy3, fy4, fy5⟩⟩ := six_cells hy2
    clear ho3 hg3 hy1 hy2 hfst hlen fx0 fx1 fx2 fx3 fx5
    go_wp2_with fail
    refine bodyPost_ret (v := .tuple #[V o (.slice A n c) (.slice A7 (m + 1) c7) false, .int .i64 0]) (by simp [results, Try.results16, go_sem, x0, x1, x2, x3, x5, y0, y1, y2, y3, y4, y5]) rfl ⟨_, rfl, ?_, ?_, fun g hg => .inl (by have := O3.out.ge g hg; have := HB.out.2.2.2; omega), fun _ g hg => (by have := O3.out.ge g hg; have := HB.out.2.2.2; omega)⟩
    · show SlI _ _ (r.at_ ++ [(lvl L o r.at_).getD 0 0])
      rw [HX.out.1]
      exact ((O3.out.other (grown_set _ _ _ _) (by have := HB.out.2.2.2; omega)).other (grown_set6 _ _ _ _ _ _ _ _) (by have := HB.out.2.2.2; omega)).sl
    · have hbb := below_tr HB.out.1 B3.out HB.out.1.size
      exact (hbb.grown (grown_set _ _ _ _) hbb.size (by intro k hk; have := Option.some.inj hk; omega)).grown (grown_set6 _ _ _ _ _ _ _ _) (by rw [size_set]; exact hbb.size) (by intro k hk; have := Option.some.inj hk; omega)
end Go.Proofs.Ythapkpgkcckapaa.Pw
