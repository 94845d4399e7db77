/-
  StorePlays: what its loops keep. Conditions: as each says.
-/
import Derived.Test.YtcnffgcegimelaaGreatRu7
namespace Go.Proofs.YtcnffgcegimelaaGreat.So
open Go.Deep Go.RowKit Go.Proofs.YtcnffgcegimelaaGreat.Mp Go.Proofs.YtcnffgcegimelaaGreat.Wd Go.Proofs.YtcnffgcegimelaaGreat.Pm Go.Proofs.YtcnffgcegimelaaGreat.Pw Go.Proofs.YtcnffgcegimelaaGreatW.PrintWords Go.WideShapes

/-- Colours less one block. -/
def SW.hole (k : SW) (b : Nat) : SW := { k with col := fun i => if i = b then 0 else k.col i }
theorem hole_far {k : SW} {w : World} {b : Nat} (hb : b < w.heap.size) : (k.hole b).far w = (k.far w).hole b := by
  unfold SW.hole SW.far
  congr 1
  funext i
  show (if i < w.heap.size then (if i = b then 0 else k.col i) else 8) = (if i = b then 0 else (if i < w.heap.size then k.col i else 8))
  by_cases e : i = b
  · rw [if_pos e, if_pos e, if_pos (by omega)]
  · rw [if_neg e, if_neg e]
theorem StepS.hole {w w' : World} {k k' : SW} (g : StepS w k w' k') (b : Nat) : StepS w (k.hole b) w' (k'.hole b) :=
  ⟨fun i hi => by
    show (if i = b then 0 else k'.col i) = (if i = b then 0 else k.col i)
    split
    · rfl
    · exact g.col i hi, g.chg.mono fun i _ h => by
    show (if i = b then 0 else k.col i) < 7
    split
    · omega
    · exact h⟩
theorem HB.set {α : Type} {enc : α → List Value} {w : World} {k : SW} {b : Nat} {v : Value} {xs : List α} (h : HB w w (k.hole b) enc v xs) (u : Value) : HB (w.setCell ⟨b, 0, none⟩ u) (w.setCell ⟨b, 0, none⟩ u) ((k.far w).hole b) enc v xs := by
  have hs : (w.setCell ⟨b, 0, none⟩ u).heap.size = w.heap.size := by simp only [World.setCell, Array.size_modify]
  have key : ∀ g off n c, v = .slice (some ⟨g, off, none⟩) n c → n ≠ 0 → g < w.heap.size ∧ g ≠ b ∧ 7 ≤ k.col g := fun g off n c e hn => by
    obtain ⟨h1, h2⟩ := h.out g off n c e hn
    have h3 : 7 ≤ (if g = b then 0 else k.col g) := h2 h1
    by_cases e2 : g = b
    · rw [if_pos e2] at h3; omega
    · rw [if_neg e2] at h3; exact ⟨h1, e2, h3⟩
  have c : Chg (fun i => i = b) w (w.setCell ⟨b, 0, none⟩ u) := ⟨rfl, rfl, rfl, by rw [hs]; exact Nat.le_refl _, fun i hi hn => Below.heap_setCell _ _ _ _ (by simpa using hn)⟩
  refine ⟨sl_chg2 h.sl c fun g off n c2 e hn => (key g off n c2 e hn).2.1, fun g off n c2 e hn => ?_, h.nil⟩
  obtain ⟨h1, h2, h3⟩ := key g off n c2 e hn
  rw [hs]
  refine ⟨h1, fun _ => ?_⟩
  show 7 ≤ (if g = b then 0 else (if g < w.heap.size then k.col g else 8))
  rw [if_neg h2, if_pos h1]; exact h3
theorem HB.fresh {α : Type} {enc : α → List Value} {w : World} {k : SW} {v : Value} {xs : List α} (h : HB w w k enc v xs) (o : Obj) : HB (w.alloc o) (w.alloc o) ((k.far w).hole w.heap.size) enc v xs := by
  have b := (Below.refl w.heap.size w).alloc (Nat.le_refl _) o
  refine ⟨h.sl.below b, fun g off n c e hn => ?_, h.nil⟩
  obtain ⟨h1, h2⟩ := h.out g off n c e hn
  refine ⟨Nat.lt_of_lt_of_le h1 b.size, fun _ => ?_⟩
  show 7 ≤ (if g = w.heap.size then 0 else (if g < w.heap.size then k.col g else 8))
  rw [if_neg (by omega), if_pos h1]; exact h2 h1
section
variable {w w' : World} {k : SW} {b : Nat} {v : Value} {zs : List SV} {log : List (List Cng)}
theorem QS.set (h : QS w w (k.hole b) v zs log) (u : Value) : QS (w.setCell ⟨b, 0, none⟩ u) (w.setCell ⟨b, 0, none⟩ u) ((k.far w).hole b) v zs log := ⟨h.row.set u, h.zl, fun i z hz => ⟨(h.fact i z hz).1, (h.fact i z hz).2.set u⟩⟩
theorem QS.fresh (h : QS w w k v zs log) (o : Obj) : QS (w.alloc o) (w.alloc o) ((k.far w).hole w.heap.size) v zs log := ⟨h.row.fresh o, h.zl, fun i z hz => ⟨(h.fact i z hz).1, (h.fact i z hz).2.fresh o⟩⟩
theorem QS.mark {w1 w2 : World} (h : QS w w k v zs log) (b : Below w.heap.size w w2) : QS w1 w2 (k.mark w) v zs log := ⟨h.row.mark b, h.zl, fun i z hz => ⟨(h.fact i z hz).1, (h.fact i z hz).2.mark b⟩⟩
theorem QS.unmark {w1 w5 : World} {D : Nat → Prop} (h : QS w1 w5 (k.mark w) v zs log) (h1 : w.heap.size ≤ w1.heap.size) (c : Chg D w5 w') (hD : ∀ i, D i → w.heap.size ≤ i ∧ i < w1.heap.size) : QS w w' k v zs log := ⟨h.row.unmark h1 c hD, h.zl, fun i z hz => ⟨(h.fact i z hz).1, (h.fact i z hz).2.unmark h1 c hD⟩⟩
end
/-- The law under way. -/
structure PlK (p bl bq : Nat) (W wr : World) (k : SW) (log : List (List Cng)) (vq : Value) (zs : List SV) (x y z : ByteArray) : Prop where
  kt : At p W.heap.size wr k log
  be : Below W.heap.size W wr
  qs : QS wr wr (k.hole bq) vq zs log
  qb : wr.heap[bq]? = some (oneO vq)
  qc : k.col bq = 8
  lc : k.col bl = 8
  ll : bl < wr.heap.size
  ne : bl ≠ bq
  qw : W.heap.size ≤ bq
  c0 : wr.cell? ⟨bl, 0, none⟩ = some (.string x)
  c1 : wr.cell? ⟨bl, 1, none⟩ = some (.string y)
  c2 : wr.cell? ⟨bl, 2, none⟩ = some (.string z)
section
variable {p bl bq : Nat} {W wr w' : World} {k k' : SW} {log log' : List (List Cng)} {vq vq' : Value} {zs zs' : List SV} {x y z : ByteArray}
theorem PlK.qlt (h : PlK p bl bq W wr k log vq zs x y z) : bq < wr.heap.size := (Array.getElem?_eq_some_iff.1 h.qb).1
theorem PlK.step (h : PlK p bl bq W wr k log vq zs x y z) (hk : At p W.heap.size w' k' log) (g : StepS wr k w' k') : PlK p bl bq W w' k' log vq zs x y z := by
  have hc : ∀ i, w'.cell? ⟨bl, i, none⟩ = wr.cell? ⟨bl, i, none⟩ := fun i => World.cell?_of_block (g.chg.block bl h.ll (by rw [h.lc]; omega))
  exact ⟨hk, h.kt.since g h.be (Nat.le_refl _), h.qs.step (g.hole bq), (g.chg.block bq h.qlt (by rw [h.qc]; omega)).trans h.qb, (g.col bq h.qlt).trans h.qc, (g.col bl h.ll).trans h.lc, Nat.lt_of_lt_of_le h.ll g.chg.size, h.ne, h.qw, (hc 0).trans h.c0, (hc 1).trans h.c1, (hc 2).trans h.c2⟩
theorem PlK.below (h : PlK p bl bq W wr k log vq zs x y z) (b : Below wr.heap.size wr w') : PlK p bl bq W w' (k.far wr) log vq zs x y z := h.step (h.kt.below b) (StepS.below b)
/-- The document's next store, put into its box. -/
theorem PlK.more {wx w6 : World} {k6 : SW} (h : PlK p bl bq W wr k log vq zs x y z) (b : Below wr.heap.size wr wx) (hq : QS wr wx (k.hole bq) vq' zs' log') (hk : At p W.heap.size w6 k6 log') (g : StepS wx (k.far wr) w6 k6) : PlK p bl bq W (w6.setCell ⟨bq, 0, none⟩ vq') (k6.far w6) log' vq' zs' x y z := by
  have h1 := h.below b
  have hqx : QS wx wx ((k.far wr).hole bq) vq' zs' log' := by
    have := hq.now
    rwa [hole_far h.qlt] at this
  have hq6 := hqx.step (g.hole bq)
  have hc : ∀ i, w6.cell? ⟨bl, i, none⟩ = wx.cell? ⟨bl, i, none⟩ := fun i => World.cell?_of_block (g.chg.block bl h1.ll (by rw [h1.lc]; omega))
  have qb6 := (g.chg.block bq h1.qlt (by rw [h1.qc]; omega)).trans h1.qb
  have lb6 := Nat.lt_of_lt_of_le h1.ll g.chg.size
  have hs : (w6.setCell ⟨bq, 0, none⟩ vq').heap.size = w6.heap.size := by simp only [World.setCell, Array.size_modify]
  have c : Chg (fun i => i = bq) w6 (w6.setCell ⟨bq, 0, none⟩ vq') := ⟨rfl, rfl, rfl, by rw [hs]; exact Nat.le_refl _, fun i hi hn => Below.heap_setCell _ _ _ _ (by simpa using hn)⟩
  have q6 : k6.col bq = 8 := (g.col bq h1.qlt).trans h1.qc
  have l6 : k6.col bl = 8 := (g.col bl h1.ll).trans h1.lc
  have hw : ∀ i, (w6.setCell ⟨bq, 0, none⟩ vq').cell? ⟨bl, i, none⟩ = w6.cell? ⟨bl, i, none⟩ := fun i => World.cell?_of_block (Below.heap_setCell _ _ _ _ (by simpa using h.ne))
  have hb6 := h1.kt.since g h1.be (Nat.le_refl _)
  refine ⟨hk.far c (fun i hi e => by rw [e]; exact q6), ?_, hq6.set vq', one_set qb6, ?_, ?_, by rw [hs]; exact lb6, h.ne, h.qw, (hw 0).trans ((hc 0).trans h1.c0), (hw 1).trans ((hc 1).trans h1.c1), (hw 2).trans ((hc 2).trans h1.c2)⟩
  · exact Chg.below hb6 c (fun i e => by rw [e]; exact h.qw)
  · show (if bq < w6.heap.size then k6.col bq else 8) = 8
    rw [if_pos (Nat.lt_of_lt_of_le h1.qlt g.chg.size)]; exact q6
  · show (if bl < w6.heap.size then k6.col bl else 8) = 8
    rw [if_pos lb6]; exact l6
/-- The beginning. -/
theorem PlK.start {w1 w2 : World} {k1 : SW} (hk : At p W.heap.size w1 k1 []) (hb : Below W.heap.size W w1) (h8 : ∀ i, i < W.heap.size → k1.col i = 8) (hl : bl < W.heap.size ∧ W.cell? ⟨bl, 0, none⟩ = some (.string x) ∧ W.cell? ⟨bl, 1, none⟩ = some (.string y) ∧ W.cell? ⟨bl, 2, none⟩ = some (.string z)) (b2 : Below w1.heap.size w1 w2) (hq : QS w1 w2 k1 vq zs []) (v : Value) (hv : v = vq) :
    PlK p bl w2.heap.size W (w2.alloc (oneO v)) ((k1.far w1).far w2) [] vq zs x y z := by
  subst hv
  have b3 := (Below.refl w2.heap.size w2).alloc (Nat.le_refl _) (oneO v)
  have h2 := hk.below b2
  have l1 : bl < w1.heap.size := Nat.lt_of_lt_of_le hl.1 hb.size
  have l2 : bl < w2.heap.size := Nat.lt_of_lt_of_le l1 b2.size
  have hc : ∀ i, (w2.alloc (oneO v)).cell? ⟨bl, i, none⟩ = W.cell? ⟨bl, i, none⟩ := fun i => (b3.cell (p := ⟨bl, i, none⟩) l2).trans ((b2.cell (p := ⟨bl, i, none⟩) l1).trans (hb.cell (p := ⟨bl, i, none⟩) hl.1))
  refine ⟨h2.below b3, (hb.trans (b2.mono hb.size)).trans (b3.mono (Nat.le_trans hb.size b2.size)), (hq.now).fresh _, heap_alloc_new w2 _, ?_, ?_, Nat.lt_of_lt_of_le l2 b3.size, by omega, Nat.le_trans hb.size b2.size, (hc 0).trans hl.2.1, (hc 1).trans hl.2.2.1, (hc 2).trans hl.2.2.2⟩
  · show (if w2.heap.size < w2.heap.size then _ else 8) = 8
    rw [if_neg (by omega)]
  · show (if bl < w2.heap.size then (if bl < w1.heap.size then k1.col bl else 8) else 8) = 8
    rw [if_pos l2, if_pos l1]; exact h8 bl hl.1
end
theorem HB.unhole {α : Type} {enc : α → List Value} {w w' : World} {k : SW} {b : Nat} {v : Value} {xs : List α} (h : HB w w' (k.hole b) enc v xs) : Held w' (k.far w) enc v xs :=
  ⟨h.sl, fun g off n c e hn => by
    obtain ⟨h1, h2⟩ := h.out g off n c e hn
    refine ⟨h1, ?_⟩
    show 7 ≤ (if g < w.heap.size then k.col g else 8)
    by_cases e2 : g < w.heap.size
    · rw [if_pos e2]
      have h3 : 7 ≤ (if g = b then 0 else k.col g) := h2 e2
      by_cases e3 : g = b
      · rw [if_pos e3] at h3; omega
      · rw [if_neg e3] at h3; exact h3
    · rw [if_neg e2]; omega⟩
theorem rfacts_law {w : World} {k : SW} {A : Option Addr} {nq cq nd : Nat} {zs : List SV} {log : List (List Cng)} {v r : Int} {D : List Tri} (h : QS w w k (.slice A nq cq) zs log) (hlog : log.length ≤ 40) (hr : factsE log.length v = r) (hD : factsL log v = D) (hn : D.length = nd) :
    Calls Tryz.prog 27 #[.agg #[.slice A nq cq], .int .i64 v] w fun e w' => ∃ A' c', e = .returned (.tuple #[.slice A' nd c', .int .i64 r]) ∧ Below w.heap.size w w' ∧ HB w w' k encT (.slice A' nd c') D := by
  subst hr hD hn
  refine (rfacts_ok v h hlog).mono ?_
  rintro e w' ⟨A', n, c, rfl, hb, hh⟩
  obtain ⟨A2, c2, e2, _⟩ := id hh.sl
  injection e2 with _ e3 _
  subst e3
  exact ⟨A', c, rfl, hb, hh⟩
theorem rmatch_law {w : World} {k : SW} {A : Option Addr} {nq cq nm : Nat} {zs : List SV} {log : List (List Cng)} {v r : Int} {x y z : ByteArray} {M : List Tri} (h : QS w w k (.slice A nq cq) zs log) (hlog : log.length ≤ 40) (hlen : (factsL log v).length ≤ 4096) (hr : factsE log.length v = r) (hM : matchL log v ⟨x, y, z⟩ = M) (hn : M.length = nm) :
    Calls Tryz.prog 28 #[.agg #[.slice A nq cq], .int .i64 v, .agg #[.string x, .string y, .string z]] w fun e w' => ∃ A' c', e = .returned (.tuple #[.slice A' nm c', .int .i64 r]) ∧ Below w.heap.size w w' ∧ HB w w' k encT (.slice A' nm c') M := by
  subst hr hM hn
  refine (rmatch_ok v x y z h hlog hlen).mono ?_
  rintro e w' ⟨A', n, c, rfl, hb, hh⟩
  obtain ⟨A2, c2, e2, _⟩ := id hh.sl
  injection e2 with _ e3 _
  subst e3
  exact ⟨A', c, rfl, hb, hh⟩
theorem logA_len (log : List (List Cng)) (n : Int) (l : List Cng) : (logA log n l).length ≤ log.length + 1 := by
  unfold logA
  split
  · rw [List.length_append, List.length_singleton]; exact Nat.le_refl _
  · omega
/-- Behind the document's Apply: its answer lies in a box. -/
def BxQ (w W : World) (k : SW) (log : List (List Cng)) (n : Int) (l : List Cng) (s t : Value) : Prop :=
  ∃ bx A m c zs', s = .pointer (some ⟨bx, 0, none⟩) ∧ t = .int .i64 (applyE (allL log) log.length n l) ∧ w.heap.size ≤ bx ∧ Below w.heap.size w W ∧ W.heap[bx]? = some (oneO (.slice A m c)) ∧ QS w W k (.slice A m c) zs' (logA log n l)
theorem bel2 {w W : World} (hb : Below w.heap.size w W) {A B : Addr} {a b : Value} (h1 : w.cell? A = some a) (h2 : w.cell? B = some b) : W.cell? A = some a ∧ W.cell? B = some b :=
  ⟨(hb.cell (World.block_lt_of_cell? w A h1)).trans h1, (hb.cell (World.block_lt_of_cell? w B h2)).trans h2⟩
theorem bxqA {w W1 w3 : World} {k : SW} {log : List (List Cng)} {n r : Int} {l : List Cng} {A : Option Addr} {m c : Nat} {zs' : List SV} (h1 : Below w.heap.size w W1) (hb : Below W1.heap.size W1 w3) (hq : QS W1 w3 (k.mark w) (.slice A m c) zs' (logA log n l)) (hr : applyE (allL log) log.length n l = r) : BxQ w (w3.alloc (.cells #[.slice A m c] 52 (0, 0))) k log n l (.pointer (some ⟨w3.heap.size, 0, none⟩)) (.int .i64 r) := by
  have b3 := (Below.refl w3.heap.size w3).alloc (Nat.le_refl _) (.cells #[.slice A m c] 52 (0, 0))
  have hb3 : Below w.heap.size w w3 := h1.trans (hb.mono h1.size)
  exact ⟨_, A, m, c, zs', rfl, by rw [hr], hb3.size, hb3.trans (b3.mono hb3.size), heap_alloc_new w3 _, hq.unmark h1.size (Chg.of_below (fun _ => False) b3) (fun i e => e.elim)⟩
theorem bxqB {w W1 w3 : World} {k : SW} {log : List (List Cng)} {n r : Int} {l : List Cng} {A : Option Addr} {m c : Nat} {zs' : List SV} (h1 : Below w.heap.size w W1) (hs : w.heap.size < W1.heap.size) (hb : Below W1.heap.size W1 w3) (hz : W1.heap[w.heap.size]? = some (oneO (.slice none 0 0))) (hq : QS W1 w3 (k.mark w) (.slice A m c) zs' (logA log n l)) (hr : applyE (allL log) log.length n l = r) : BxQ w (w3.setCell ⟨w.heap.size, 0, none⟩ (.slice A m c)) k log n l (.pointer (some ⟨w.heap.size, 0, none⟩)) (.int .i64 r) := by
  have hs3 : (w3.setCell ⟨w.heap.size, 0, none⟩ (.slice A m c)).heap.size = w3.heap.size := by simp only [World.setCell, Array.size_modify]
  have c1 : Chg (fun i => i = w.heap.size) w3 (w3.setCell ⟨w.heap.size, 0, none⟩ (.slice A m c)) := ⟨rfl, rfl, rfl, by rw [hs3]; exact Nat.le_refl _, fun i hi hn => Below.heap_setCell _ _ _ _ (by simpa using hn)⟩
  have hb3 : Below w.heap.size w w3 := h1.trans (hb.mono h1.size)
  exact ⟨_, A, m, c, zs', rfl, by rw [hr], Nat.le_refl _, Chg.below hb3 c1 (fun i e => by rw [e]; exact Nat.le_refl _), one_set ((hb.block _ hs).trans hz), hq.unmark h1.size c1 (fun i e => by rw [e]; exact ⟨Nat.le_refl _, hs⟩)⟩
end Go.Proofs.YtcnffgcegimelaaGreat.So
