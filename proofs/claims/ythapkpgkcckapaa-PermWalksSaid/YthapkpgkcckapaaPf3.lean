/-
  The document's walks: the walks of Key, Up and Open. Conditions: the cells lie as told.
-/
import Derived.Test.YthapkpgkcckapaaPf2
namespace Go.Proofs.Ythapkpgkcckapaa.Pw
open Go.RowKit Go.Proofs.YthapkpgkcckapaaW.PrintWords Go.Proofs.Ythapkpgkcckapaa.Pm

/-- A walk of the document, as a value. -/
abbrev V (o : Ord) (lv av : Value) (b : Bool) : Value := .agg #[.int .i64 o.x, .int .i64 o.y, .int .i64 o.z, lv, av, .bool b]
theorem SlI.last {w : World} {v : Value} {l : List Int} (h : SlI w v l) (y : Nat) (hy : l.length = y + 1) : ∃ b off c, v = .slice (some ⟨b, off, none⟩) (y + 1) c ∧ b < w.heap.size ∧ w.cell? ⟨b, off + y, none⟩ = some (.int .i64 (l.getD y 0)) := by
  obtain ⟨b, off, c, hv, hb, hc⟩ := SlI.cell h y (by omega)
  exact ⟨b, off, c, by rw [hv, hy], hb, hc⟩

set_option maxHeartbeats 4000000 in
theorem rkey_calls (w : World) (o : Ord) (lv av : Value) (r : RS) (n : Int) (k : Bool) (hk : rKey r = (n, k)) (ha : SlI w av r.at_) (hl : r.at_.length ≤ 3) :
    Calls Try.prog 24 #[V o lv av r.beh] w fun e w' => e = .returned (.tuple #[.int .i64 n, .bool k]) ∧ Below w.heap.size w w' := by
  have hb := Lib.hid (below_a w (.cells #[.int .i64 o.x, .int .i64 o.y, .int .i64 o.z, lv, av, .bool r.beh] 39))
  unfold rKey at hk
  by_cases h0 : r.at_.length = 0
  · rw [if_pos (.inl h0)] at hk
    obtain ⟨A, c, hv⟩ := SlI.form ha
    rw [h0] at hv
    subst hv
    injection hk with e1 e2
    subst e1 e2
    clear ha h0
    generalize r.beh = bb at *
    go_enter Try.func24, Try.ntmps24
    go_wp2
    go_ret2
    exact ⟨rfl, hb.out⟩
  · cases hbb : r.beh with
    | true =>
      rw [if_pos (.inr hbb)] at hk
      obtain ⟨A, c, hv⟩ := SlI.form ha
      rw [hbb] at hb
      have h1 : ((r.at_.length : Int) == 0) = false := beq_eq_false_iff_ne.2 (by omega)
      generalize r.at_.length = m at *
      subst hv
      injection hk with e1 e2
      subst e1 e2
      clear ha h0 hbb
      go_enter Try.func24, Try.ntmps24
      go_wp2
      go_ret2
      exact ⟨rfl, hb.out⟩
    | false =>
      rw [if_neg (by rw [hbb]; rintro (e | e); exact h0 e; cases e)] at hk
      obtain ⟨y, hy⟩ : ∃ y, r.at_.length = y + 1 := ⟨r.at_.length - 1, by omega⟩
      obtain ⟨b, off, c, hv, hlt, hc⟩ := SlI.last ha y hy
      rw [hbb] at hb
      rw [hy, show y + 1 - 1 = y by omega] at hk
      injection hk with e1 e2
      rw [e1] at hc
      have hy3 : y ≤ 2 := by omega
      subst hv e2
      have hc := pw_cell_below hb.out hc
      clear ha h0 hbb e1 hl
      go_enter Try.func24, Try.ntmps24
      go_wp2
      go_ret2
      exact ⟨rfl, hb.out⟩

/-- A slice that is an elder one's, or lies in new memory. -/
def Fr (w : World) (av av' : Value) : Prop := ∀ g, av'.ownBlock = some g → w.heap.size ≤ g ∨ av.ownBlock = some g
theorem Fr.refl (w : World) (av : Value) : Fr w av av := fun _ h => .inr h
theorem SlI.set {w w' : World} {v : Value} {l : List Int} (h : SlI w v l) {g : Nat} (hg : w.grownBy w' (some g)) (hne : l ≠ [] → v.ownBlock ≠ some g) : SlI w' v l := by
  obtain ⟨A, c, hv, hc, hn, hr⟩ := h
  refine ⟨A, c, hv, hc, hn, fun hx => ?_⟩
  obtain ⟨b, off, hA, hb, hcl⟩ := hr hx
  have hne := hne hx
  rw [hv, hA] at hne
  refine ⟨b, off, hA, Nat.lt_of_lt_of_le hb hg.size, fun j u hu => ?_⟩
  have e1 : w'.heap[b]? = w.heap[b]? := hg.block b hb (fun e => hne (by rw [← e]; rfl))
  have := hcl j u hu
  simp only [World.cell?, e1] at this ⊢
  exact this
theorem SlI.blk {w : World} {v : Value} {l : List Int} (h : SlI w v l) (hx : l ≠ []) : ∃ g, v.ownBlock = some g ∧ g < w.heap.size := by
  obtain ⟨A, c, hv, hc, hn, hr⟩ := h
  obtain ⟨b, off, hA, hb, _⟩ := hr hx
  exact ⟨b, by rw [hv, hA]; rfl, hb⟩

/-- The result's box, set. -/
theorem below_set6 {B : Nat} {w W : World} (g : Nat) (u0 u1 u2 u3 u4 u5 : Value) (h : Below B w W) (hB : B ≤ W.heap.size) (hg : B ≤ g) : Below B w ((((((W.setCell ⟨g, 0, none⟩ u0).setCell ⟨g, 1, none⟩ u1).setCell ⟨g, 2, none⟩ u2).setCell ⟨g, 3, none⟩ u3).setCell ⟨g, 4, none⟩ u4).setCell ⟨g, 5, none⟩ u5) := by
  have hgr : W.grownBy ((((((W.setCell ⟨g, 0, none⟩ u0).setCell ⟨g, 1, none⟩ u1).setCell ⟨g, 2, none⟩ u2).setCell ⟨g, 3, none⟩ u3).setCell ⟨g, 4, none⟩ u4).setCell ⟨g, 5, none⟩ u5) (some g) :=
    grown_tr (grown_tr (grown_tr (grown_tr (grown_tr (grown_set _ _ _ _) (grown_set _ _ _ _)) (grown_set _ _ _ _)) (grown_set _ _ _ _)) (grown_set _ _ _ _)) (grown_set _ _ _ _)
  exact h.grown hgr hB (by intro k hk; rw [Option.some.inj hk.symm]; exact hg)

theorem SlI.cut {w : World} {b off c y : Nat} {l : List Int} (h : SlI w (.slice (some ⟨b, off, none⟩) (y + 1) c) l) (hy : l.length = y + 1) : SlI w (.slice (some ⟨b, off, none⟩) y y) (l.take y) := by
  obtain ⟨A', c', hv, hc, hn, hr⟩ := h
  injection hv with e1 e2 e3
  subst e1 e3
  have hl : (l.take y).length = y := by rw [List.length_take]; omega
  refine ⟨some ⟨b, off, none⟩, y, by rw [hl], by omega, (fun h => nomatch h), fun hx => ?_⟩
  obtain ⟨b', off', hA, hb', hcl⟩ := hr (fun e => by rw [e] at hy; simp at hy)
  refine ⟨b', off', hA, hb', fun j u hu => hcl j u ?_⟩
  rw [← List.take_append_drop y l, List.flatMap_append, List.getElem?_append_left (List.getElem?_eq_some_iff.1 hu).1]
  exact hu

set_option maxHeartbeats 4000000 in
theorem rup_calls (w : World) (o : Ord) (A : Option Addr) (n c : Nat) (av : Value) (r r' : RS) (k : Int) (hk : rUp r = (r', k)) (ha : SlI w av r.at_) (hl : r.at_.length ≤ 3) :
    Calls Try.prog 18 #[V o (.slice A n c) av r.beh] w fun e w' => ∃ av', e = .returned (.tuple #[V o (.slice A n c) av' r'.beh, .int .i64 k]) ∧ SlI w' av' r'.at_ ∧ Below w.heap.size w w' ∧ Fr w av av' := by
  have hb := Lib.hid (below_a w (.cells #[.int .i64 o.x, .int .i64 o.y, .int .i64 o.z, .slice A n c, av, .bool r.beh] 39))
  unfold rUp at hk
  by_cases h0 : r.at_.length = 0
  · rw [if_pos h0] at hk
    obtain ⟨B, d, hv⟩ := SlI.form ha
    have HA := Lib.hid ha
    rw [h0] at hv
    subst hv
    injection hk with e1 e2
    subst e1 e2
    clear ha h0
    go_enter Try.func18, Try.ntmps18
    go_wp2
    refine bodyPost_ret (v := .tuple #[V o (.slice A n c) (.slice B 0 d) r.beh, .int .i64 3]) (by simp [results, Try.results18, go_sem]) rfl ⟨_, rfl, HA.out.below ((below_a w _).alloc (below_a w _).size _), (below_a w _).alloc (below_a w _).size _, Fr.refl _ _⟩
  · rw [if_neg h0] at hk
    obtain ⟨y, hy⟩ : ∃ y, r.at_.length = y + 1 := ⟨r.at_.length - 1, by omega⟩
    obtain ⟨b, off, d, hv, hlt, _⟩ := SlI.last ha y hy
    subst hv
    have hle : y + 1 ≤ d := by
      obtain ⟨A', c', hv', hc', _⟩ := ha
      injection hv' with e1 e2 e3
      omega
    have HA := Lib.hid (SlI.cut ha hy)
    rw [hy, show y + 1 - 1 = y by omega] at hk
    have hy2 : y ≤ 2 := by omega
    injection hk with e1 e2
    subst e1 e2
    clear ha h0 hlt hl hy
    go_enter Try.func18, Try.ntmps18
    go_wp2
    refine bodyPost_ret (v := .tuple #[V o (.slice A n c) (.slice (some ⟨b, off, none⟩) y y) false, .int .i64 0]) (by simp [results, Try.results18, go_sem]) rfl ⟨_, rfl, HA.out.below ((below_a w _).alloc (below_a w _).size _), (below_a w _).alloc (below_a w _).size _, fun g hg => .inr (by rw [← hg]; rfl)⟩
end Go.Proofs.Ythapkpgkcckapaa.Pw
