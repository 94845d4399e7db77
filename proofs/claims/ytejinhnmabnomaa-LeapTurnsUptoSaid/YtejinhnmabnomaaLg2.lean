/-
  The document's join: 'with'. Conditions: the slices lie as told.
-/
import Derived.Test.YtejinhnmabnomaaLg3
namespace Go.Proofs.Ytejinhnmabnomaa.Lf
open Go.Deep Go.RowKit Go.Proofs.YtejinhnmabnomaaW.PrintWords Go.Proofs.Ytejinhnmabnomaa.Pm Go.Proofs.Ytejinhnmabnomaa.Pw

/-- Where a choice's two slices lie. -/
structure CB where
  b1 : Nat
  c1 : Nat
  b2 : Nat
  c2 : Nat
def CB.v1 (x : CB) (nv : Nat) : Value := .slice (some ⟨x.b1, 0, none⟩) nv x.c1
def CB.v2 (x : CB) (nv : Nat) : Value := .slice (some ⟨x.b2, 0, none⟩) nv x.c2
def encC (nv : Nat) (x : CB) : List Value := [.slice (some ⟨x.b1, 0, none⟩) nv x.c1, .slice (some ⟨x.b2, 0, none⟩) nv x.c2]
theorem encC_one (nv : Nat) (x : CB) : ∀ u ∈ encC nv x, u.oneCell' = true := by intro u hu; simp [encC] at hu; rcases hu with rfl | rfl <;> rfl
/-- A choice in memory. -/
structure ChM (w : World) (nv : Nat) (c : Ch) (x : CB) : Prop where
  h1 : x.b1 < w.heap.size
  h2 : x.b2 < w.heap.size
  l1 : nv ≤ x.c1
  l2 : nv ≤ x.c2
  a : ∀ u, u < nv → w.cell? ⟨x.b1, u, none⟩ = some (.int .i64 ((c u).getD 0))
  b : ∀ u, u < nv → w.cell? ⟨x.b2, u, none⟩ = some (.bool (c u).isSome)
theorem ChM.more {w w' : World} {nv : Nat} {c : Ch} {x : CB} (h : ChM w nv c x) (hb : BelS w w') : ChM w' nv c x :=
  ⟨Nat.lt_of_lt_of_le h.h1 hb.size, Nat.lt_of_lt_of_le h.h2 hb.size, h.l1, h.l2, fun u hu => hb.cell (h.a u hu), fun u hu => hb.cell (h.b u hu)⟩
/-- A choice, behind what changed one block that is not its own. -/
theorem ChM.grown {w w' : World} {nv : Nat} {c : Ch} {x : CB} (h : ChM w nv c x) {row : Option Nat} (hg : w.grownBy w' row) (n1 : row ≠ some x.b1) (n2 : row ≠ some x.b2) : ChM w' nv c x := by
  have e1 := hg.block x.b1 h.h1 (fun e => n1 e.symm)
  have e2 := hg.block x.b2 h.h2 (fun e => n2 e.symm)
  refine ⟨Nat.lt_of_lt_of_le h.h1 hg.size, Nat.lt_of_lt_of_le h.h2 hg.size, h.l1, h.l2, fun u hu => ?_, fun u hu => ?_⟩
  · have := h.a u hu
    simp only [World.cell?, e1] at this ⊢
    exact this
  · have := h.b u hu
    simp only [World.cell?, e2] at this ⊢
    exact this
/-- The numbers of a choice, and which there are. -/
def atL (nv : Nat) (c : Ch) : List Int := (List.range nv).map fun u => (c u).getD 0
def hasL (nv : Nat) (c : Ch) : List Bool := (List.range nv).map fun u => (c u).isSome
theorem atL_len (nv : Nat) (c : Ch) : (atL nv c).length = nv := by simp [atL]
theorem hasL_len (nv : Nat) (c : Ch) : (hasL nv c).length = nv := by simp [hasL]
theorem encB_one (x : Bool) : ∀ u ∈ encB x, u.oneCell' = true := by intro u hu; simp [encB] at hu; subst hu; rfl
theorem info_i : (Try.prog.info? 3).map (fun i => (i.zero, i.size, i.bytes)) = some (some (.int .i64 0), 1, 8) := by kernel_rfl
theorem info_b : (Try.prog.info? 4).map (fun i => (i.zero, i.size, i.bytes)) = some (some (.bool false), 1, 1) := by kernel_rfl
theorem ch_at {w : World} {nv : Nat} {c : Ch} {x : CB} (h : ChM w nv c x) : G.SlL w enc1 (.slice (some ⟨x.b1, 0, none⟩) nv x.c1) (atL nv c) ∧ G.SlL w encB (.slice (some ⟨x.b2, 0, none⟩) nv x.c2) (hasL nv c) := by
  refine ⟨⟨some ⟨x.b1, 0, none⟩, x.c1, by rw [atL_len], by rw [atL_len]; exact h.l1, (fun h => nomatch h), fun _ => ⟨_, _, rfl, h.h1, fun j u hu => ?_⟩⟩, ⟨some ⟨x.b2, 0, none⟩, x.c2, by rw [hasL_len], by rw [hasL_len]; exact h.l2, (fun h => nomatch h), fun _ => ⟨_, _, rfl, h.h2, fun j u hu => ?_⟩⟩⟩
  · have hj : j < nv := by
      have := (List.getElem?_eq_some_iff.1 hu).1
      rwa [G.flat_length 1 enc1 (fun _ => rfl), Nat.mul_one, atL_len] at this
    have := G.flat_getElem 1 enc1 (fun _ => rfl) (atL nv c) j 0 ((c j).getD 0) (by simp [atL, List.getElem?_range hj]) (by omega)
    rw [Nat.mul_one, Nat.add_zero, hu] at this
    rw [Nat.zero_add, h.a j hj, this]; rfl
  · have hj : j < nv := by
      have := (List.getElem?_eq_some_iff.1 hu).1
      rwa [G.flat_length 1 encB (fun _ => rfl), Nat.mul_one, hasL_len] at this
    have := G.flat_getElem 1 encB (fun _ => rfl) (hasL nv c) j 0 (c j).isSome (by simp [hasL, List.getElem?_range hj]) (by omega)
    rw [Nat.mul_one, Nat.add_zero, hu] at this
    rw [Nat.zero_add, h.b j hj, this]; rfl
def WPost (w : World) (nv : Nat) (c : Ch) (x : CB) (v : Nat) (n : Int) (e : Ending) (w' : World) : Prop :=
  ∃ (y : CB) (b : Bool), e = .returned (.tuple #[.agg #[.slice (some ⟨y.b1, 0, none⟩) nv y.c1, .slice (some ⟨y.b2, 0, none⟩) nv y.c2], .bool b]) ∧ BelS w w' ∧ ChM w' nv ((withC c v n).getD c) y ∧ b = (withC c v n).isSome ∧ (y.b1 = x.b1 ∨ w.heap.size ≤ y.b1) ∧ (y.b2 = x.b2 ∨ w.heap.size ≤ y.b2)
/-- The box of the argument, and the result's cells. -/
structure Wa (w wa : World) (nv : Nat) (x : CB) : Prop where
  below : BelS w wa
  size : wa.heap.size = w.heap.size + 1 + 1
  p0 : wa.cell? ⟨w.heap.size, 0, none⟩ = some (.slice (some ⟨x.b1, 0, none⟩) nv x.c1)
  p1 : wa.cell? ⟨w.heap.size, 1, none⟩ = some (.slice (some ⟨x.b2, 0, none⟩) nv x.c2)
  r : wa.heap[w.heap.size + 1]? = some (.cells #[.slice none 0 0, .slice none 0 0] 56 (0, 0))
theorem wa_new (w : World) (nv : Nat) (x : CB) : Wa w ((w.alloc (.cells #[.slice (some ⟨x.b1, 0, none⟩) nv x.c1, .slice (some ⟨x.b2, 0, none⟩) nv x.c2] 56)).alloc (.cells #[.slice none 0 0, .slice none 0 0] 56)) nv x := by
  have hb1 := (BelS.refl w).alloc (.cells #[.slice (some ⟨x.b1, 0, none⟩) nv x.c1, .slice (some ⟨x.b2, 0, none⟩) nv x.c2] 56)
  have hz := World.size_alloc w (.cells #[.slice (some ⟨x.b1, 0, none⟩) nv x.c1, .slice (some ⟨x.b2, 0, none⟩) nv x.c2] 56)
  have h1 := heap_alloc_new w (.cells #[.slice (some ⟨x.b1, 0, none⟩) nv x.c1, .slice (some ⟨x.b2, 0, none⟩) nv x.c2] 56)
  generalize w.alloc (.cells #[.slice (some ⟨x.b1, 0, none⟩) nv x.c1, .slice (some ⟨x.b2, 0, none⟩) nv x.c2] 56) = w1 at hb1 hz h1 ⊢
  have hb2 := (BelS.refl w1).alloc (.cells #[.slice none 0 0, .slice none 0 0] 56)
  have h2 := heap_alloc_new w1 (.cells #[.slice none 0 0, .slice none 0 0] 56)
  rw [hz] at h2
  have h1' := hb2.blk h1
  exact ⟨hb1.then hb2, by rw [World.size_alloc, hz], by simp only [World.cell?, h1']; rfl, by simp only [World.cell?, h1']; rfl, h2⟩
/-- The block of a row that the call owns. -/
theorem own_block {α : Type} {w : World} {base : Nat} {e : TypeId} {enc : α → List Value} {v : Value} {xs : List α} (h : G.OwnL w base e 1 enc v xs) (hne : 0 < xs.length) :
    ∃ (g cap : Nat) (X : Array Value), v = .slice (some ⟨g, 0, none⟩) xs.length cap ∧ base ≤ g ∧ g < w.heap.size ∧ w.heap[g]? = some (.cells X e (0, 0)) ∧ xs.length ≤ cap ∧ ∀ (u : Nat) (y : Value), (xs.flatMap enc)[u]? = some y → X[u]? = some y := by
  obtain ⟨A, c, hv, hc, _, hr⟩ := h.sl
  obtain ⟨hl, ⟨_, hn⟩ | ⟨g, cap, cur, rfl, hg, hblk, hcap, _⟩⟩ := h
  · omega
  · injection hv with e1 e2 e3
    obtain ⟨b, off, hA, _, hcl⟩ := hr (fun e => by rw [e] at hne; simp at hne)
    rw [← e1] at hA
    injection hA with hA
    injection hA with e4 e5
    subst e4 e5
    refine ⟨g, cap, cur, rfl, hg, (Array.getElem?_eq_some_iff.1 hblk).1, hblk, by omega, fun u y hu => ?_⟩
    have := hcl u y hu
    rw [Nat.zero_add] at this
    simp only [World.cell?, hblk] at this
    exact this
/-- Behind both appends: the result's cells, the new choice's, and its two blocks. -/
structure Sw (w W : World) (g1 g2 : Nat) (res d X1 X2 : Array Value) : Prop where
  below : BelS w W
  r : W.heap[w.heap.size + 1]? = some (.cells res 56 (0, 0))
  d : W.heap[w.heap.size + 1 + 1]? = some (.cells d 56 (0, 0))
  a : W.heap[g1]? = some (.cells X1 3 (0, 0))
  b : W.heap[g2]? = some (.cells X2 4 (0, 0))
  n1 : w.heap.size + 1 + 1 < g1
  n2 : g1 < g2
theorem set_oth {W : World} {b i : Nat} {v : Value} {k : Nat} {o : Obj} (h : W.heap[k]? = some o) (hne : k ≠ b) : (W.setCell ⟨b, i, none⟩ v).heap[k]? = some o :=
  ((grown_set W b i v).block k (Array.getElem?_eq_some_iff.1 h).1 (fun e => hne (Option.some.inj e))).trans h
section
variable {w W : World} {g1 g2 : Nat} {res d X1 X2 : Array Value}
theorem Sw.setA (h : Sw w W g1 g2 res d X1 X2) (i : Nat) (v : Value) : Sw w (W.setCell ⟨g1, i, none⟩ v) g1 g2 res d (X1.setIfInBounds i v) X2 := by
  have := h.n1
  have := h.n2
  exact ⟨h.below.setCell (by show w.heap.size ≤ g1; omega) _, set_oth h.r (by omega), set_oth h.d (by omega), heap_set _ _ _ _ _ _ h.a, set_oth h.b (by omega), h.n1, h.n2⟩
theorem Sw.setB (h : Sw w W g1 g2 res d X1 X2) (i : Nat) (v : Value) : Sw w (W.setCell ⟨g2, i, none⟩ v) g1 g2 res d X1 (X2.setIfInBounds i v) := by
  have := h.n1
  have := h.n2
  exact ⟨h.below.setCell (by show w.heap.size ≤ g2; omega) _, set_oth h.r (by omega), set_oth h.d (by omega), set_oth h.a (by omega), heap_set _ _ _ _ _ _ h.b, h.n1, h.n2⟩
theorem Sw.setR (h : Sw w W g1 g2 res d X1 X2) (i : Nat) (v : Value) : Sw w (W.setCell ⟨w.heap.size + 1, i, none⟩ v) g1 g2 (res.setIfInBounds i v) d X1 X2 := by
  have := h.n1
  have := h.n2
  exact ⟨h.below.setCell (by show w.heap.size ≤ w.heap.size + 1; omega) _, heap_set _ _ _ _ _ _ h.r, set_oth h.d (by omega), set_oth h.a (by omega), set_oth h.b (by omega), h.n1, h.n2⟩
theorem heap_cell {W : World} {b : Nat} {cs : Array Value} {t : TypeId} (h : W.heap[b]? = some (.cells cs t (0, 0))) (i : Nat) : W.cell? ⟨b, i, none⟩ = cs[i]? := by
  simp only [World.cell?, h]; rfl
theorem heap_free {W : World} {b : Nat} {cs : Array Value} {t : TypeId} (h : W.heap[b]? = some (.cells cs t (0, 0))) (i : Nat) : W.frozen? ⟨b, i, none⟩ = false := by
  simp [World.frozen?, h]
end
set_option maxHeartbeats 3200000 in
set_option maxRecDepth 100000 in
theorem with_ok {w : World} {nv : Nat} {c : Ch} {x : CB} (h : ChM w nv c x) (v : Nat) (n : Int) (hv : v < nv) (hnv : nv ≤ 16) :
    Calls Try.prog 22 #[.agg #[.slice (some ⟨x.b1, 0, none⟩) nv x.c1, .slice (some ⟨x.b2, 0, none⟩) nv x.c2], .int .i64 v, .int .i64 n] w (WPost w nv c x v n) := by
  obtain ⟨b1, c1, b2, c2⟩ := x
  have H := Lib.hid h
  have hvi : (v : Int) < (nv : Int) := by omega
  have hvi2 : (nv : Int) ≤ 16 := by omega
  have a0 := h.a v hv
  have z0 := h.b v hv
  dsimp only at a0 z0
  cases hc : c v with
  | some m =>
    rw [hc] at a0 z0
    change w.cell? _ = some (.int .i64 m) at a0
    change w.cell? _ = some (.bool true) at z0
    have HC := Lib.hid hc
    clear h hc hv hnv
    dsimp only
    go_enter Try.func22, Try.ntmps22
    go_upto_region 1 with fail
    have hW := wa_new w nv ⟨b1, c1, b2, c2⟩
    dsimp only at hW
    generalize hwa : World.alloc _ _ = wa at hW ⊢
    have HW := Lib.hid hW
    have a0 := hW.below.cell a0
    have z0 := hW.below.cell z0
    have p0 : wa.cell? ⟨w.heap.size, 0, none⟩ = some (.slice (some ⟨b1, 0, none⟩) nv c1) := hW.p0
    have p1 : wa.cell? ⟨w.heap.size, 1, none⟩ = some (.slice (some ⟨b2, 0, none⟩) nv c2) := hW.p1
    have r0 : wa.cell? ⟨w.heap.size + 1, 0, none⟩ = some (.slice none 0 0) := by simp only [World.cell?, hW.r]; rfl
    have r1 : wa.cell? ⟨w.heap.size + 1, 1, none⟩ = some (.slice none 0 0) := by simp only [World.cell?, hW.r]; rfl
    have hb1N : b1 < w.heap.size := H.out.h1
    have f0 : wa.frozen? ⟨w.heap.size + 1, 0, none⟩ = false := by simp [World.frozen?, hW.r]
    have f1 : wa.frozen? ⟨w.heap.size + 1, 1, none⟩ = false := by simp [World.frozen?, hW.r]
    clear hW hwa
    go_wp2_with fail
    go_region_held3 (fun W => W.cell? ⟨w.heap.size, 0, none⟩ = some (.slice (some ⟨b1, 0, none⟩) nv c1) ∧ W.cell? ⟨w.heap.size, 1, none⟩ = some (.slice (some ⟨b2, 0, none⟩) nv c2) ∧ W.cell? ⟨b1, v, none⟩ = some (.int .i64 m)) (first | exact ⟨p0, p1, a0⟩ | exact ⟨cell_setT (by omega) (cell_setT (by omega) p0), cell_setT (by omega) (cell_setT (by omega) p1), cell_setT (by omega) (cell_setT (by omega) a0)⟩) (fail)
    have hbf : BelS w (((wa.setCell ⟨w.heap.size + 1, 0, none⟩ (.slice (some ⟨b1, 0, none⟩) nv c1)).setCell ⟨w.heap.size + 1, 1, none⟩ (.slice (some ⟨b2, 0, none⟩) nv c2)).drew) := ((HW.out.below.setCell (by show w.heap.size ≤ w.heap.size + 1; omega) _).setCell (by show w.heap.size ≤ w.heap.size + 1; omega) _).drew
    have hr2 := heap_set wa (w.heap.size + 1) 0 _ _ (.slice (some ⟨b1, 0, none⟩) nv c1) HW.out.r
    have hr3 : ((wa.setCell ⟨w.heap.size + 1, 0, none⟩ (.slice (some ⟨b1, 0, none⟩) nv c1)).setCell ⟨w.heap.size + 1, 1, none⟩ (.slice (some ⟨b2, 0, none⟩) nv c2)).drew.heap[w.heap.size + 1]? = some (.cells #[.slice (some ⟨b1, 0, none⟩) nv c1, .slice (some ⟨b2, 0, none⟩) nv c2] 56 (0, 0)) := (heap_set _ (w.heap.size + 1) 1 _ _ (.slice (some ⟨b2, 0, none⟩) nv c2) hr2).trans rfl
    generalize hwf : World.drew _ = wf at hbf hr3 ⊢
    have c0 : wf.cell? ⟨w.heap.size + 1, 0, none⟩ = some (.slice (some ⟨b1, 0, none⟩) nv c1) := by simp only [World.cell?, hr3]; rfl
    have c1' : wf.cell? ⟨w.heap.size + 1, 1, none⟩ = some (.slice (some ⟨b2, 0, none⟩) nv c2) := by simp only [World.cell?, hr3]; rfl
    have HBF := Lib.hid hbf
    clear hwf hr2 hr3 hbf
    go_wp2_with fail
    refine bodyPost_ret (v := .tuple #[.agg #[.slice (some ⟨b1, 0, none⟩) nv c1, .slice (some ⟨b2, 0, none⟩) nv c2], .bool (m == n)]) (by simp [results, Try.results22, go_sem, c0, c1']) rfl ⟨⟨b1, c1, b2, c2⟩, _, rfl, HBF.out, ?_, ?_, .inl rfl, .inl rfl⟩
    · rw [show (withC c v n).getD c = c by unfold withC; rw [HC.out]; by_cases e : m = n <;> simp [e]]
      exact H.out.more HBF.out
    · unfold withC
      rw [HC.out]
      by_cases e : m = n <;> simp [e]
  | none =>
    rw [hc] at a0 z0
    change w.cell? _ = some (.int .i64 0) at a0
    change w.cell? _ = some (.bool false) at z0
    have HC := Lib.hid hc
    clear h hc
    dsimp only
    go_enter Try.func22, Try.ntmps22
    go_upto_region 1 with fail
    have hW := wa_new w nv ⟨b1, c1, b2, c2⟩
    dsimp only at hW
    generalize hwa : World.alloc _ _ = wa at hW ⊢
    have HW := Lib.hid hW
    have a0 := hW.below.cell a0
    have z0 := hW.below.cell z0
    have p0 : wa.cell? ⟨w.heap.size, 0, none⟩ = some (.slice (some ⟨b1, 0, none⟩) nv c1) := hW.p0
    have p1 : wa.cell? ⟨w.heap.size, 1, none⟩ = some (.slice (some ⟨b2, 0, none⟩) nv c2) := hW.p1
    have hz := hW.size
    clear hW hwa
    go_upto_region 4 with fail
    have hbd : BelS wa (wa.alloc (.cells #[.slice none 0 0, .slice none 0 0] 56)) := (BelS.refl wa).alloc _
    have hd := heap_alloc_new wa (.cells #[.slice none 0 0, .slice none 0 0] 56)
    rw [hz] at hd
    generalize hwd : wa.alloc (.cells #[.slice none 0 0, .slice none 0 0] 56) = wd at hbd hd ⊢
    have hzd : wd.heap.size = w.heap.size + 1 + 1 + 1 := by rw [← hwd, World.size_alloc, hz]
    clear hwd
    have p0 := hbd.cell p0
    have p1 := hbd.cell p1
    have q0 : wd.cell? ⟨w.heap.size + 1 + 1, 0, none⟩ = some (.slice none 0 0) := by simp only [World.cell?, hd]; rfl
    have q1 : wd.cell? ⟨w.heap.size + 1 + 1, 1, none⟩ = some (.slice none 0 0) := by simp only [World.cell?, hd]; rfl
    have g0 : wd.frozen? ⟨w.heap.size + 1 + 1, 0, none⟩ = false := by simp [World.frozen?, hd]
    have g1 : wd.frozen? ⟨w.heap.size + 1 + 1, 1, none⟩ = false := by simp [World.frozen?, hd]
    have HBD := Lib.hid (HW.out.below.then hbd)
    have HD := Lib.hid hd
    have HZ := Lib.hid hzd
    have HA := Lib.hid (ch_at (H.out.more HBD.out))
    have HN := Lib.hid (And.intro hnv hv)
    have HR := Lib.hid (hbd.blk HW.out.r)
    clear hd hbd hz hzd hv
    go_wp2_with (at_builtin; (refine G.wp_appN rfl _ _ 23 3 rfl _ 1 8 Try.underlying23 info_i rfl (by omega) (by omega) enc1 (fun _ => rfl) enc1_one wd.heap.size (.slice none 0 0) (.slice (some ⟨b1, 0, none⟩) nv c1) [] (atL nv c) rfl rfl (G.OwnL.nil _ _ _ _ _) HA.out.1 (Nat.le_refl _) (by have := HN.out.1; rw [atL_len, List.length_nil]; omega) ?_))
    intro v9 w9 ho9 hg9 _
    have hb9 : BelS wd w9 := (G.OwnL.nil wd wd.heap.size 3 1 enc1).next (Below.refl _ _) (Nat.le_refl _) hg9
    obtain ⟨g1, k1, X1, rfl, hg1, hg1s, hX1, hk1, ht1⟩ := own_block ho9 (by have := HN.out.2; rw [atL_len]; omega)
    rw [atL_len] at hk1 ⊢
    have hr9 := hb9.blk HR.out
    have hd9 := hb9.blk HD.out
    have p1 := hb9.cell p1
    have g0 := heap_free hd9 0
    have d0 : w9.cell? ⟨w.heap.size + 1 + 1, 0, none⟩ = some (.slice none 0 0) := (heap_cell hd9 0).trans rfl
    have hbs : BelS w (w9.setCell ⟨w.heap.size + 1 + 1, 0, none⟩ (.slice (some ⟨g1, 0, none⟩) nv k1)) := (HBD.out.then hb9).setCell (by show w.heap.size ≤ w.heap.size + 1 + 1; omega) _
    have hrs := set_oth (b := w.heap.size + 1 + 1) (i := 0) (v := .slice (some ⟨g1, 0, none⟩) nv k1) hr9 (by omega)
    have hds := heap_set w9 (w.heap.size + 1 + 1) 0 _ _ (.slice (some ⟨g1, 0, none⟩) nv k1) hd9
    have hXs := set_oth (b := w.heap.size + 1 + 1) (i := 0) (v := .slice (some ⟨g1, 0, none⟩) nv k1) hX1 (by have := HZ.out; omega)
    have p1s : (w9.setCell ⟨w.heap.size + 1 + 1, 0, none⟩ (.slice (some ⟨g1, 0, none⟩) nv k1)).cell? ⟨w.heap.size, 1, none⟩ = some (.slice (some ⟨b2, 0, none⟩) nv c2) := cell_setT (by omega) p1
    have hzs : (w9.setCell ⟨w.heap.size + 1 + 1, 0, none⟩ (.slice (some ⟨g1, 0, none⟩) nv k1)).heap.size = w9.heap.size := size_set _ _ _
    have q1s : (w9.setCell ⟨w.heap.size + 1 + 1, 0, none⟩ (.slice (some ⟨g1, 0, none⟩) nv k1)).cell? ⟨w.heap.size + 1 + 1, 1, none⟩ = some (.slice none 0 0) := (heap_cell hds 1).trans rfl
    have H9 := Lib.hid (And.intro hbs (And.intro hrs (And.intro hds (And.intro hXs (And.intro hzs (And.intro hg1 (And.intro hg1s (And.intro hk1 ht1))))))))
    have HB2 := Lib.hid ((ch_at (H.out.more hbs)).2)
    clear hbs hrs hds hXs hzs hg1 hg1s hk1 ht1 hr9 hd9 hX1 ho9 hg9 hb9 p0 q0 q1
    go_wp2_with (at_builtin; (refine G.wp_appN rfl _ _ 54 4 rfl _ 1 1 Try.underlying54 info_b rfl (by omega) (by omega) encB (fun _ => rfl) encB_one (w9.setCell ⟨w.heap.size + 1 + 1, 0, none⟩ (.slice (some ⟨g1, 0, none⟩) nv k1)).heap.size (.slice none 0 0) (.slice (some ⟨b2, 0, none⟩) nv c2) [] (hasL nv c) rfl rfl (G.OwnL.nil _ _ _ _ _) HB2.out (Nat.le_refl _) (by have := HN.out.1; rw [hasL_len, List.length_nil]; omega) ?_))
    intro v10 w10 ho10 hg10 _
    have hb10 : BelS (w9.setCell ⟨w.heap.size + 1 + 1, 0, none⟩ (.slice (some ⟨g1, 0, none⟩) nv k1)) w10 := (G.OwnL.nil (w9.setCell ⟨w.heap.size + 1 + 1, 0, none⟩ (.slice (some ⟨g1, 0, none⟩) nv k1)) (w9.setCell ⟨w.heap.size + 1 + 1, 0, none⟩ (.slice (some ⟨g1, 0, none⟩) nv k1)).heap.size 4 1 encB).next (Below.refl _ _) (Nat.le_refl _) hg10
    obtain ⟨g2, k2, X2, rfl, hg2, hg2s, hX2, hk2, ht2⟩ := own_block ho10 (by have := HN.out.2; rw [hasL_len]; omega)
    rw [hasL_len] at hk2 ⊢
    obtain ⟨hbs, hrs, hds, hXs, hzs, hg1, hg1s, hk1, ht1⟩ := H9.out
    have hd10 := hb10.blk hds
    have gg1 := heap_free hd10 1
    have dd1 : w10.cell? ⟨w.heap.size + 1 + 1, 1, none⟩ = some (.slice none 0 0) := (heap_cell hd10 1).trans rfl
    have S : Sw w (w10.setCell ⟨w.heap.size + 1 + 1, 1, none⟩ (.slice (some ⟨g2, 0, none⟩) nv k2)) g1 g2 #[.slice none 0 0, .slice none 0 0] #[.slice (some ⟨g1, 0, none⟩) nv k1, .slice (some ⟨g2, 0, none⟩) nv k2] X1 X2 :=
      ⟨(hbs.then hb10).setCell (by show w.heap.size ≤ w.heap.size + 1 + 1; omega) _, set_oth (hb10.blk hrs) (by omega), (heap_set _ _ _ _ _ _ hd10).trans rfl, set_oth (hb10.blk hXs) (by have := HZ.out; omega), set_oth hX2 (by have := HZ.out; omega), by have := HZ.out; omega, by omega⟩
    have ht1v := ht1 v (.int .i64 ((c v).getD 0)) (by
      have := G.flat_getElem 1 enc1 (fun _ => rfl) (atL nv c) v 0 ((c v).getD 0) (by simp [atL, List.getElem?_range HN.out.2]) (by omega)
      rw [Nat.mul_one, Nat.add_zero] at this
      exact this)
    have ht2v := ht2 v (.bool (c v).isSome) (by
      have := G.flat_getElem 1 encB (fun _ => rfl) (hasL nv c) v 0 (c v).isSome (by simp [hasL, List.getElem?_range HN.out.2]) (by omega)
      rw [Nat.mul_one, Nat.add_zero] at this
      exact this)
    have HK := Lib.hid (And.intro hk1 (And.intro hk2 (And.intro ht1 (And.intro ht2 (And.intro hg1 (And.intro hg2 hzs))))))
    have HS := Lib.hid S
    have HT := Lib.hid (And.intro ht1v ht2v)
    clear S hbs hrs hds hXs hzs hg1 hg1s hk1 ht1 hg2 hg2s hX2 hk2 ht2 ht1v ht2v hd10 hb10 hg10 ho10 p1 q1s p1s g0 d0
    go_upto_region 6 with fail
    revert HS
    generalize hW1 : World.setCell _ _ _ = W1
    intro HS
    have y0 : W1.cell? ⟨w.heap.size + 1 + 1, 0, none⟩ = some (.slice (some ⟨g1, 0, none⟩) nv k1) := (heap_cell HS.out.d 0).trans rfl
    have y1 : W1.cell? ⟨g1, v, none⟩ = some (.int .i64 ((c v).getD 0)) := (heap_cell HS.out.a v).trans HT.out.1
    have y2 := heap_free HS.out.a v
    have S2 := Lib.hid (HS.out.setA v (.int .i64 n))
    clear hW1 gg1 dd1 H9
    go_upto_region 7 with fail
    revert S2
    generalize hW2 : World.setCell _ _ _ = W2
    intro S2
    have x0 : W2.cell? ⟨w.heap.size + 1 + 1, 1, none⟩ = some (.slice (some ⟨g2, 0, none⟩) nv k2) := (heap_cell S2.out.d 1).trans rfl
    have x1 : W2.cell? ⟨g2, v, none⟩ = some (.bool (c v).isSome) := (heap_cell S2.out.b v).trans HT.out.2
    have x2 := heap_free S2.out.b v
    have S3 := Lib.hid (S2.out.setB v (.bool true))
    clear hW2 y0 y1 y2
    go_upto_region 8 with fail
    revert S3
    generalize hW3 : World.setCell _ _ _ = W3
    intro S3
    have u0 : W3.cell? ⟨w.heap.size + 1 + 1, 0, none⟩ = some (.slice (some ⟨g1, 0, none⟩) nv k1) := (heap_cell S3.out.d 0).trans rfl
    have u1 : W3.cell? ⟨w.heap.size + 1 + 1, 1, none⟩ = some (.slice (some ⟨g2, 0, none⟩) nv k2) := (heap_cell S3.out.d 1).trans rfl
    have s0 : W3.cell? ⟨w.heap.size + 1, 0, none⟩ = some (.slice none 0 0) := (heap_cell S3.out.r 0).trans rfl
    have s1 : W3.cell? ⟨w.heap.size + 1, 1, none⟩ = some (.slice none 0 0) := (heap_cell S3.out.r 1).trans rfl
    have s2 := heap_free S3.out.r 0
    have s3 := heap_free S3.out.r 1
    have S4 := Lib.hid ((S3.out.setR 0 (.slice (some ⟨g1, 0, none⟩) nv k1)).setR 1 (.slice (some ⟨g2, 0, none⟩) nv k2))
    have e0 := (heap_cell S4.out.r 0).trans (show _ = some (.slice (some ⟨g1, 0, none⟩) nv k1) from rfl)
    have e1 := (heap_cell S4.out.r 1).trans (show _ = some (.slice (some ⟨g2, 0, none⟩) nv k2) from rfl)
    clear hW3 x0 x1 x2
    go_wp2_with fail
    refine bodyPost_ret (v := .tuple #[.agg #[.slice (some ⟨g1, 0, none⟩) nv k1, .slice (some ⟨g2, 0, none⟩) nv k2], .bool true]) (by simp [results, Try.results22, go_sem, e0, e1]) rfl ⟨⟨g1, k1, g2, k2⟩, true, rfl, S4.out.below, ?_, ?_, .inr (by have := S4.out.n1; show w.heap.size ≤ g1; omega), .inr (by have := S4.out.n1; have := S4.out.n2; show w.heap.size ≤ g2; omega)⟩
    · have hw : (withC c v n).getD c = fun u => if u = v then some n else c u := by unfold withC; rw [HC.out]; rfl
      rw [hw]
      obtain ⟨hk1, hk2, ht1, ht2, _⟩ := HK.out
      refine ⟨(Array.getElem?_eq_some_iff.1 S4.out.a).1, (Array.getElem?_eq_some_iff.1 S4.out.b).1, hk1, hk2, fun u hu => ?_, fun u hu => ?_⟩
      · refine (heap_cell S4.out.a u).trans ?_
        have hx := ht1 u (.int .i64 ((c u).getD 0)) (by
          have := G.flat_getElem 1 enc1 (fun _ => rfl) (atL nv c) u 0 ((c u).getD 0) (by simp [atL, List.getElem?_range hu]) (by omega)
          rw [Nat.mul_one, Nat.add_zero] at this
          exact this)
        by_cases e : u = v
        · subst e
          rw [Array.getElem?_setIfInBounds_self, if_pos (Array.getElem?_eq_some_iff.1 hx).1]
          simp
        · rw [Array.getElem?_setIfInBounds_ne (fun e2 => e e2.symm), hx]
          simp [e]
      · refine (heap_cell S4.out.b u).trans ?_
        have hx := ht2 u (.bool (c u).isSome) (by
          have := G.flat_getElem 1 encB (fun _ => rfl) (hasL nv c) u 0 (c u).isSome (by simp [hasL, List.getElem?_range hu]) (by omega)
          rw [Nat.mul_one, Nat.add_zero] at this
          exact this)
        by_cases e : u = v
        · subst e
          rw [Array.getElem?_setIfInBounds_self, if_pos (Array.getElem?_eq_some_iff.1 hx).1]
          simp
        · rw [Array.getElem?_setIfInBounds_ne (fun e2 => e e2.symm), hx]
          simp [e]
    · unfold withC
      rw [HC.out]
      rfl
end Go.Proofs.Ytejinhnmabnomaa.Lf
