/-
  Joined by wip/tools/merge.py from the texts Ld7 Ld8 Ld9. Conditions: as each says.
-/
import Derived.Test.YtejinhnmabnomaaJb
import Derived.Test.YtejinhnmabnomaaJa
import Derived.Test.YtejinhnmabnomaaJ7
import Derived.Laws.MakeOwn
section
/-
  A join is made: its memory on the way. Conditions: the blocks lie as told.
-/
namespace Go.Proofs.Ytejinhnmabnomaa.Lf
open Go.RowKit Go.Proofs.YtejinhnmabnomaaW.PrintWords Go.Proofs.Ytejinhnmabnomaa.Pm Go.Proofs.Ytejinhnmabnomaa.Pw

/-! ### Memory that was made since -/
def BelS (a b : World) : Prop := Below a.heap.size a b
theorem BelS.refl (a : World) : BelS a a := Below.refl _ _
theorem BelS.alloc {a b : World} (h : BelS a b) (o : Obj) : BelS a (b.alloc o) := Below.alloc h h.size o
theorem BelS.drew {a b : World} (h : BelS a b) : BelS a b.drew := Below.drew h
theorem BelS.then {a b c : World} (h : BelS a b) (k : BelS b c) : BelS a c := below_tr h k h.size
theorem BelS.cell {a b : World} (h : BelS a b) {ad : Addr} {v : Value} (hc : a.cell? ad = some v) : b.cell? ad = some v := (Below.cell (p := ad) h (World.block_lt_of_cell? a _ hc)).trans hc
theorem BelS.blk {a b : World} (h : BelS a b) {k : Nat} {o : Obj} (hc : a.heap[k]? = some o) : b.heap[k]? = some o := (Below.block h k (Array.getElem?_eq_some_iff.1 hc).1).trans hc

/-! ### What 'make' lays -/
def nilRows (n : Nat) : Array Value := madeCells (Value.slice none 0 0).cells (n * 1)
def zeros (n : Nat) : Array Value := madeCells (Value.int .i64 0).cells (n * 1)
theorem info_walks : (Try.prog.info? 52).map (fun i => (i.zero, i.size, i.bytes)) = some (some (.slice none 0 0), 1, 24) := by kernel_rfl
theorem info_int : (Try.prog.info? 3).map (fun i => (i.zero, i.size, i.bytes)) = some (some (.int .i64 0), 1, 8) := by kernel_rfl
theorem make_rows (n : Nat) (hn : n ≤ 1000) (w : World) : (Instr.makeSlice 46 (.int .i64 n) (.int .i64 n)).run Try.prog w = .ok (.slice (some ⟨w.heap.size, 0, none⟩) n n) (w.alloc (.cells (nilRows n) 52)) := by
  obtain ⟨i0, hi0, hz0, hz1, hz2⟩ := info_parts info_walks
  have := run_make (P := Try.prog) w 46 52 i0 _ Try.underlying46 hi0 hz0 .i64 .i64 n n (by omega) (Int.le_refl _) (by rw [hz2]; omega) (by omega)
  rw [hz1] at this
  exact this
theorem make_ints (n : Nat) (hn : n ≤ 1000) (w : World) : (Instr.makeSlice 23 (.int .i64 n) (.int .i64 n)).run Try.prog w = .ok (.slice (some ⟨w.heap.size, 0, none⟩) n n) (w.alloc (.cells (zeros n) 3)) := by
  obtain ⟨i0, hi0, hz0, hz1, hz2⟩ := info_parts info_int
  have := run_make (P := Try.prog) w 23 3 i0 _ Try.underlying23 hi0 hz0 .i64 .i64 n n (by omega) (Int.le_refl _) (by rw [hz2]; omega) (by omega)
  rw [hz1] at this
  exact this
theorem made_one (v : Value) (hv : v.cells = #[v]) (n : Nat) : madeCells v.cells (n * 1) = (List.replicate n v).toArray := by
  rw [hv, Nat.mul_one]
  refine Array.ext_getElem? fun k => ?_
  unfold madeCells
  by_cases h : k < n
  · simp [h, Nat.mod_one]
  · simp [h]
theorem zeros_eq (n : Nat) : zeros n = ((List.replicate n (0 : Int)).map (Value.int .i64)).toArray := by
  unfold zeros
  rw [made_one _ rfl, List.map_replicate]
theorem nilRows_eq (n : Nat) : nilRows n = (List.replicate n (Value.slice none 0 0)).toArray := made_one _ rfl n

/-! ### The joiner -/
def encN (v : Nat) : Value := .int .i64 (v : Int)
/-- The joiner is made; its order grows. -/
structure Jb (w wr : World) (J wb nb nv kl : Nat) (most : Int) (ov : Value) (l : List Nat) : Prop where
  bJ : wr.heap[J]? = some (.cells #[ov, .int .i64 kl, .slice (some ⟨wb, 0, none⟩) nv nv, .slice (some ⟨nb, 0, none⟩) nv nv, .int .i64 most, .slice none 0 0] 48 (0, 0))
  bW : wr.heap[wb]? = some (.cells (nilRows nv) 52 (0, 0))
  bN : wr.heap[nb]? = some (.cells (zeros nv) 3 (0, 0))
  own : wr.ownsRow w.heap.size 3 1 ov l.length (l.map encN)
  below : BelS w wr
  hi : w.heap.size ≤ J ∧ w.heap.size ≤ wb ∧ w.heap.size ≤ nb
  ne : J ≠ wb ∧ J ≠ nb ∧ wb ≠ nb
  on : ∀ g, ov.ownBlock = some g → g ≠ J ∧ g ≠ wb ∧ g ≠ nb
theorem jb_new {w F XA XB XC : World} {a b nv kl n : Nat} {most : Int} {v : Value} {xs : List Nat} (hA : XA.heap[a]? = some (.cells (nilRows nv) 52 (0, 0))) (bA : BelS XA F) (hB : XB.heap[b]? = some (.cells (zeros nv) 3 (0, 0))) (bB : BelS XB F)
    (hC : XC.ownsRow w.heap.size 3 1 v n (xs.map encN)) (hn : xs.length = n) (bC : BelS XC F) (bW : BelS w F) (ha : w.heap.size ≤ a) (hb : w.heap.size ≤ b) (hab : a ≠ b) (hg : ∀ g, v.ownBlock = some g → g ≠ a ∧ g ≠ b) :
    Jb w (F.alloc (.cells #[v, .int .i64 kl, .slice (some ⟨a, 0, none⟩) nv nv, .slice (some ⟨b, 0, none⟩) nv nv, .int .i64 most, .slice none 0 0] 48)) F.heap.size a b nv kl most v xs := by
  have bJ : BelS F (F.alloc (.cells #[v, .int .i64 kl, .slice (some ⟨a, 0, none⟩) nv nv, .slice (some ⟨b, 0, none⟩) nv nv, .int .i64 most, .slice none 0 0] 48)) := (BelS.refl F).alloc _
  have la := (Array.getElem?_eq_some_iff.1 (bA.blk hA)).1
  have lb := (Array.getElem?_eq_some_iff.1 (bB.blk hB)).1
  have hs := bW.size
  have hC2 := own_below hC bC
  refine ⟨heap_alloc_new F _, bJ.blk (bA.blk hA), bJ.blk (bB.blk hB), ?_, bW.then bJ, ⟨hs, ha, hb⟩, ⟨by omega, by omega, hab⟩, fun g e => ?_⟩
  · rw [hn]; exact own_below hC2 bJ
  · have hlt := (World.ownsRow.lt hC2 g e).2
    have := hg g e
    exact ⟨by omega, this.1, this.2⟩
/-- A variable is put behind the order. -/
theorem Jb.app {w wr w3 w4 : World} {J wb nb nv kl : Nat} {most : Int} {ov v1 : Value} {l : List Nat} {x : Nat} (h : Jb w wr J wb nb nv kl most ov l) (hb : BelS wr w3) (hg : w3.grownBy w4 ov.ownBlock) (h4 : w4.ownsRow w.heap.size 3 1 v1 (l.length + 1) (l.map encN ++ [encN x])) (hv : ∀ g, v1.ownBlock = some g → ov.ownBlock = some g ∨ w3.heap.size ≤ g) :
    Jb w (w4.setCell ⟨J, 0, none⟩ v1) J wb nb nv kl most v1 (l ++ [x]) := by
  have on := h.on
  have hJ3 := hb.blk h.bJ
  have hW3 := hb.blk h.bW
  have hN3 := hb.blk h.bN
  have lJ := (Array.getElem?_eq_some_iff.1 hJ3).1
  have lW := (Array.getElem?_eq_some_iff.1 hW3).1
  have lN := (Array.getElem?_eq_some_iff.1 hN3).1
  have hJ4 := (hg.block J lJ (fun e => (on J e.symm).1 rfl)).trans hJ3
  have hW4 := (hg.block wb lW (fun e => (on wb e.symm).2.1 rfl)).trans hW3
  have hN4 := (hg.block nb lN (fun e => (on nb e.symm).2.2 rfl)).trans hN3
  have c5 := grown_set w4 J 0 v1
  have l4 := hg.size
  have hon1 : ∀ g, v1.ownBlock = some g → g ≠ J ∧ g ≠ wb ∧ g ≠ nb := fun g e => by
    rcases hv g e with e | e
    · exact on g e
    · exact ⟨by omega, by omega, by omega⟩
  refine ⟨(heap_set w4 J 0 _ _ _ hJ4).trans rfl, (c5.block wb (by omega) (fun e => h.ne.1 (Option.some.inj e).symm)).trans hW4, (c5.block nb (by omega) (fun e => h.ne.2.1 (Option.some.inj e).symm)).trans hN4, ?_, ?_, h.hi, h.ne, hon1⟩
  · rw [List.length_append, List.length_singleton, List.map_append]
    refine World.ownsRow.kept h4 c5 ?_
    cases e : v1.ownBlock with
    | none => exact .inl rfl
    | some g => exact .inr (fun e2 => (hon1 g e).1 (Option.some.inj e2))
  · have b4 : BelS w w4 := Below.grown (h.below.then hb) hg (h.below.then hb).size (fun g e => (World.ownsRow.lt h.own g e).1)
    exact Below.setCell b4 h.hi.1 _
end Go.Proofs.Ytejinhnmabnomaa.Lf
end
section
/-
  A join's relations are given walks: memory on the way. Conditions: the blocks lie as told.
-/
namespace Go.Proofs.Ytejinhnmabnomaa.Lf
open Go.RowKit Go.Proofs.YtejinhnmabnomaaW.PrintWords Go.Proofs.Ytejinhnmabnomaa.Pm Go.Proofs.Ytejinhnmabnomaa.Pw

def rlOf (r : RelV) : Rl := ⟨r.A.toNat, r.B.toNat, r.rows⟩
def rowsV (nv : Nat) (rv : Nat → Value) : Array Value := ((List.range nv).map rv).toArray
def updV {α : Type} (f : Nat → α) (i : Nat) (x : α) : Nat → α := fun j => if j = i then x else f j
theorem updV_self {α : Type} (f : Nat → α) (i : Nat) (x : α) : updV f i x i = x := if_pos rfl
theorem updV_ne {α : Type} (f : Nat → α) {i j : Nat} (x : α) (h : j ≠ i) : updV f i x j = f j := if_neg h
theorem rowsV_get (nv : Nat) (rv : Nat → Value) (k : Nat) : (rowsV nv rv)[k]? = if k < nv then some (rv k) else none := by
  unfold rowsV
  by_cases h : k < nv
  · simp [h]
  · simp [h]
theorem rowsV_set (nv : Nat) (rv : Nat → Value) (i : Nat) (x : Value) (hi : i < nv) : (rowsV nv rv).setIfInBounds i x = rowsV nv (updV rv i x) := by
  refine Array.ext_getElem? fun k => ?_
  have hs : (rowsV nv rv).size = nv := by simp [rowsV]
  by_cases e : i = k
  · subst e
    rw [Array.getElem?_setIfInBounds_self, rowsV_get, updV_self]
    simp [hs, hi]
  · rw [Array.getElem?_setIfInBounds_ne e, rowsV_get, rowsV_get, updV_ne _ _ (fun e2 => e e2.symm)]
theorem nilRows_V (n : Nat) : nilRows n = rowsV n (fun _ => .slice none 0 0) := by
  rw [nilRows_eq]
  refine Array.ext_getElem? fun k => ?_
  rw [rowsV_get]
  by_cases h : k < n
  · simp [h]
  · simp [h]
theorem rowsV_cell {w : World} {wb nv : Nat} {rv : Nat → Value} {t : TypeId} (h : w.heap[wb]? = some (.cells (rowsV nv rv) t (0, 0))) (v : Nat) (hv : v < nv) : w.cell? ⟨wb, v, none⟩ = some (rv v) ∧ w.frozen? ⟨wb, v, none⟩ = false := by
  constructor
  · simp only [World.cell?, h]
    rw [rowsV_get, if_pos hv]
    rfl
  · simp [World.frozen?, h]
/-- The fixed words of a join under way. -/
structure Jp where
  J : Nat
  wb : Nat
  nb : Nat
  ob : Nat
  oc : Nat
  rb : Nat
  nv : Nat
  kl : Nat
  B : Nat
  most : Int
  ord : Nat → Nat
  rank : Nat → Nat
/-- So many relations have walks, and rows of them have been laid. -/
structure Jr (w wr : World) (p : Jp) (rels : List Rl) (m : Nat) (k : Nat → Wr) (rl : Nat → List Nat) (rv : Nat → Value) : Prop where
  bJ : wr.heap[p.J]? = some (.cells #[.slice (some ⟨p.ob, 0, none⟩) p.nv p.oc, .int .i64 p.kl, .slice (some ⟨p.wb, 0, none⟩) p.nv p.nv, .slice (some ⟨p.nb, 0, none⟩) p.nv p.nv, .int .i64 p.most, .slice none 0 0] 48 (0, 0))
  ordc : ∀ j, j < p.nv → wr.cell? ⟨p.ob, j, none⟩ = some (.int .i64 (p.ord j))
  rankc : ∀ j, j < p.nv → wr.cell? ⟨p.rb, j, none⟩ = some (.int .i64 (p.rank j))
  bN : wr.heap[p.nb]? = some (.cells (zeros p.nv) 3 (0, 0))
  bW : wr.heap[p.wb]? = some (.cells (rowsV p.nv rv) 52 (0, 0))
  own : ∀ v, v < p.nv → wr.ownsRow p.B 50 1 (rv v) (rl v).length ((rl v).map fun r => (k r).ptr)
  ap : ∀ u v, u < p.nv → v < p.nv → u ≠ v → ∀ g, (rv u).ownBlock = some g → (rv v).ownBlock ≠ some g
  apw : ∀ v, v < p.nv → ∀ r, r < m → ∀ g, (rv v).ownBlock = some g → g ≠ (k r).g ∧ g ≠ (k r).X ∧ g ≠ (k r).b
  ws : ∀ r, r < m → Ws w wr (k r) ⟨[], false⟩
  L : ∀ r, r < m → (k r).L = (rkOf p.rank (rels.getD r ⟨0, 0, []⟩)).L
  new : ∀ r, r < m → p.B ≤ (k r).g ∧ p.B ≤ (k r).X ∧ p.B ≤ (k r).b
  gg : ∀ r s, r < m → s < m → r ≠ s → (k r).g ≠ (k s).g
  gx : ∀ r s, r < m → s < m → (k r).X ≠ (k s).g ∧ (k r).b ≠ (k s).g
  below : BelS w wr
  big : p.B ≤ wr.heap.size
  low : p.J < p.B ∧ p.wb < p.B ∧ p.nb < p.B ∧ p.ob < p.B ∧ p.rb < p.B
  hi : w.heap.size ≤ p.J ∧ w.heap.size ≤ p.nb ∧ w.heap.size ≤ p.B ∧ w.heap.size ≤ p.wb
  ne : p.J ≠ p.wb ∧ p.J ≠ p.nb ∧ p.wb ≠ p.nb ∧ p.ob ≠ p.J ∧ p.ob ≠ p.wb ∧ p.ob ≠ p.nb ∧ p.rb ≠ p.wb
section
variable {w wr w2 w3 w4 : World} {p : Jp} {rels : List Rl} {m : Nat} {k : Nat → Wr} {rl : Nat → List Nat} {rv : Nat → Value}
theorem Jr.more (h : Jr w wr p rels m k rl rv) (hb : BelS wr w2) : Jr w w2 p rels m k rl rv :=
  ⟨hb.blk h.bJ, fun j hj => hb.cell (h.ordc j hj), fun j hj => hb.cell (h.rankc j hj), hb.blk h.bN, hb.blk h.bW, fun v hv => own_below (h.own v hv) hb, h.ap, h.apw, fun r hr => (h.ws r hr).more hb, h.L, h.new, h.gg, h.gx, h.below.then hb, Nat.le_trans h.big hb.size, h.low, h.hi, h.ne⟩
/-- One relation more has its walk. -/
theorem Jr.walk (h : Jr w wr p rels m k rl rv) {x : Wr} {L : List R3} (hx : Wnew w wr w2 x L) (hL : L = (rkOf p.rank (rels.getD m ⟨0, 0, []⟩)).L) (hrl : ∀ v, v < p.nv → ∀ r ∈ rl v, r < m) : Jr w w2 p rels (m + 1) (updV k m x) rl rv := by
  have h2 := h.more (show BelS wr w2 from hx.below)
  have old : ∀ r, r < m → updV k m x r = k r := fun r hr => updV_ne _ _ (by omega)
  have hn := hx.new
  have hrow : ∀ v, v < p.nv → ∀ g, (rv v).ownBlock = some g → g < wr.heap.size := fun v hv g e => (World.ownsRow.lt (h.own v hv) g e).2
  have hks : ∀ r, r < m → (k r).g < wr.heap.size ∧ (k r).X < wr.heap.size ∧ (k r).b < wr.heap.size := fun r hr => by have := (h.ws r hr).gs; exact ⟨this.1, this.2.1, this.2.2.1⟩
  have hbig := h.big
  refine ⟨h2.bJ, h2.ordc, h2.rankc, h2.bN, h2.bW, fun v hv => ?_, h2.ap, fun v hv r hr g e => ?_, fun r hr => ?_, fun r hr => ?_, fun r hr => ?_, fun r s hr hs hne => ?_, fun r s hr hs => ?_, h2.below, h2.big, h2.low, h2.hi, h2.ne⟩
  · have := h2.own v hv
    rwa [show (rl v).map (fun r => (updV k m x r).ptr) = (rl v).map fun r => (k r).ptr from List.map_congr_left fun r hr => by rw [old r (hrl v hv r hr)]]
  · by_cases e2 : r = m
    · subst e2
      rw [updV_self]
      have := hrow v hv g e
      exact ⟨by omega, by omega, by omega⟩
    · rw [old r (by omega)]; exact h.apw v hv r (by omega) g e
  · by_cases e2 : r = m
    · subst e2; rw [updV_self]; exact hx.ws
    · rw [old r (by omega)]; exact h2.ws r (by omega)
  · by_cases e2 : r = m
    · subst e2; rw [updV_self, hx.L]; exact hL
    · rw [old r (by omega)]; exact h.L r (by omega)
  · by_cases e2 : r = m
    · subst e2; rw [updV_self]; exact ⟨by omega, by omega, by omega⟩
    · rw [old r (by omega)]; exact h.new r (by omega)
  · by_cases e1 : r = m
    · subst e1
      rw [updV_self, old s (by omega)]
      have := hks s (by omega)
      omega
    · rw [old r (by omega)]
      by_cases e2 : s = m
      · subst e2
        rw [updV_self]
        have := hks r (by omega)
        omega
      · rw [old s (by omega)]; exact h.gg r s (by omega) (by omega) hne
  · by_cases e1 : r = m
    · subst e1
      rw [updV_self]
      by_cases e2 : s = r
      · subst e2; rw [updV_self]; exact hx.ne
      · rw [old s (by omega)]
        have := hks s (by omega)
        exact ⟨by omega, by omega⟩
    · rw [old r (by omega)]
      by_cases e2 : s = m
      · subst e2
        rw [updV_self]
        have := hks r (by omega)
        exact ⟨by omega, by omega⟩
      · rw [old s (by omega)]; exact h.gx r s (by omega) (by omega)
/-- A walk is put behind a variable's row. -/
theorem Jr.app (h : Jr w wr p rels m k rl rv) (hb : BelS wr w3) {v : Nat} (hv : v < p.nv) {r : Nat} {v1 : Value} (h4 : w4.ownsRow p.B 50 1 v1 ((rl v).length + 1) ((rl v).map (fun r => (k r).ptr) ++ [(k r).ptr])) (hg : w3.grownBy w4 (rv v).ownBlock) (hv1 : ∀ g, v1.ownBlock = some g → (rv v).ownBlock = some g ∨ w3.heap.size ≤ g) :
    Jr w (w4.setCell ⟨p.wb, v, none⟩ v1) p rels m k (updV rl v (rl v ++ [r])) (updV rv v v1) := by
  have h3 := h.more hb
  have hlow := h.low
  have hhi := h.hi
  have hne := h.ne
  have hB : ∀ g, (rv v).ownBlock = some g → p.B ≤ g ∧ g < w3.heap.size := fun g e => World.ownsRow.lt (h3.own v hv) g e
  have c4 : Chg (fun i => (rv v).ownBlock = some i) w3 w4 := ⟨hg.os, hg.tape, hg.output, hg.size, fun i hi hn => hg.block i hi (fun e => hn e.symm)⟩
  have c5 := Chg.of_grown (grown_set w4 p.wb v v1)
  have c : Chg (fun i => i = p.wb ∨ (rv v).ownBlock = some i) w3 (w4.setCell ⟨p.wb, v, none⟩ v1) := (c4.mono (fun i _ e => .inr e)).trans c5 (fun i _ e => .inl e)
  have nl : ∀ i, i < p.B → i ≠ p.wb → ¬ (i = p.wb ∨ (rv v).ownBlock = some i) := fun i hi hn e => e.elim hn (fun e => by have := (hB i e).1; omega)
  have hbig := h3.big
  have hW4 : w4.heap[p.wb]? = some (.cells (rowsV p.nv rv) 52 (0, 0)) := (c4.block _ (by omega) (fun e => by have := (hB _ e).1; omega)).trans h3.bW
  have lt1 : ∀ g, v1.ownBlock = some g → p.B ≤ g ∧ g < w4.heap.size := fun g e => World.ownsRow.lt h4 g e
  refine ⟨(c.block _ (by omega) (nl _ hlow.1 hne.1)).trans h3.bJ, fun j hj => c.cell (h3.ordc j hj) (nl _ hlow.2.2.2.1 hne.2.2.2.2.1), fun j hj => c.cell (h3.rankc j hj) (nl _ hlow.2.2.2.2 hne.2.2.2.2.2.2), (c.block _ (by omega) (nl _ hlow.2.2.1 (fun e => hne.2.2.1 e.symm))).trans h3.bN, ?_, fun u hu => ?_, fun u x hu hx hux g e => ?_, fun u hu s hs g e => ?_, fun s hs => ?_, h.L, h.new, h.gg, h.gx, ?_, Nat.le_trans h3.big c.size, h.low, h.hi, h.ne⟩
  · rw [heap_set _ _ _ _ _ _ hW4, rowsV_set _ _ _ _ hv]
  · by_cases e : u = v
    · subst e
      rw [updV_self, updV_self, List.length_append, List.length_singleton, List.map_append]
      refine World.ownsRow.kept h4 (grown_set w4 p.wb u v1) ?_
      cases e : v1.ownBlock with
      | none => exact .inl rfl
      | some g => exact .inr (fun e2 => by have := (lt1 g e).1; have := Option.some.inj e2; omega)
    · rw [updV_ne _ _ e, updV_ne _ _ e]
      have ho := h3.own u hu
      have hg2 : w3.grownBy (w4.setCell ⟨p.wb, v, none⟩ v1) ((rv v).ownBlock) ∨ True := .inr trivial
      refine World.ownsRow.kept (World.ownsRow.kept ho hg ?_) (grown_set w4 p.wb v v1) ?_
      · cases e2 : (rv u).ownBlock with
        | none => exact .inl rfl
        | some g => exact .inr (fun e3 => h.ap u v hu hv e g e2 e3.symm)
      · cases e2 : (rv u).ownBlock with
        | none => exact .inl rfl
        | some g => exact .inr (fun e3 => by have := (World.ownsRow.lt ho g e2).1; have := Option.some.inj e3; omega)
  · have lt3 : ∀ y, y < p.nv → ∀ g, (rv y).ownBlock = some g → g < w3.heap.size := fun y hy g e => (World.ownsRow.lt (h3.own y hy) g e).2
    by_cases e1 : u = v
    · subst e1
      rw [updV_self] at e
      rw [updV_ne _ _ (fun e => hux e.symm)]
      intro e2
      rcases hv1 g e with e3 | e3
      · exact h.ap u x hu hx hux g e3 e2
      · have := lt3 x hx g e2; omega
    · rw [updV_ne _ _ e1] at e
      by_cases e2 : x = v
      · subst e2
        rw [updV_self]
        intro e3
        rcases hv1 g e3 with e4 | e4
        · exact h.ap u x hu hx hux g e e4
        · have := lt3 u hu g e; omega
      · rw [updV_ne _ _ e2]
        exact h.ap u x hu hx hux g e
  · by_cases e1 : u = v
    · subst e1
      rw [updV_self] at e
      rcases hv1 g e with e3 | e3
      · exact h.apw u hu s hs g e3
      · have := (h3.ws s hs).gs
        exact ⟨by omega, by omega, by omega⟩
    · rw [updV_ne _ _ e1] at e
      exact h.apw u hu s hs g e
  · have hns := h.new s hs
    refine (h3.ws s hs).chg c ?_ ?_ ?_ ?_
    · rintro i (rfl | e)
      · exact hhi.2.2.2
      · have := (hB i e).1; omega
    · rintro (e | e)
      · omega
      · exact (h.apw v hv s hs _ e).1 rfl
    · rintro (e | e)
      · omega
      · exact (h.apw v hv s hs _ e).2.1 rfl
    · rintro (e | e)
      · omega
      · exact (h.apw v hv s hs _ e).2.2 rfl
  · exact Chg.below h3.below c (fun i e => by rcases e with rfl | e <;> first | exact hhi.2.2.2 | (have := (hB i e).1; omega))
end
end Go.Proofs.Ytejinhnmabnomaa.Lf
end
section
/-
  All walks are made: the join is gone through, and what it brings. Conditions: the blocks lie as told.
-/
namespace Go.Proofs.Ytejinhnmabnomaa.Lf
open Go.RowKit Go.Proofs.YtejinhnmabnomaaW.PrintWords Go.Proofs.Ytejinhnmabnomaa.Pm Go.Proofs.Ytejinhnmabnomaa.Pw

def blkOf : Value → Nat
  | .slice (some a) _ _ => a.block
  | _ => 0
def capOf : Value → Nat
  | .slice _ _ c => c
  | _ => 0
def jdOf (p : Jp) (rels : List Rl) (m : Nat) (k : Nat → Wr) (rv : Nat → Value) : Jd where
  J := p.J
  ob := p.ob
  wb := p.wb
  nb := p.nb
  oc := p.oc
  wc := p.nv
  nc := p.nv
  vars := p.nv
  keep := p.kl
  most := p.most.toNat
  ord := p.ord
  m := m
  k := k
  row := fun v => rowN rels v m
  lb := fun v => blkOf (rv v)
  lc := fun v => capOf (rv v)
  rk := fun r => rkOf p.rank (rels.getD r ⟨0, 0, []⟩)
theorem own_form {w : World} {B : Nat} {e : TypeId} {v : Value} {n : Nat} {xs : List Value} (h : w.ownsRow B e 1 v n xs) (hn : 0 < n) : v = .slice (some ⟨blkOf v, 0, none⟩) n (capOf v) ∧ B ≤ blkOf v ∧ blkOf v < w.heap.size ∧ n ≤ capOf v ∧ (∀ j u, xs[j]? = some u → w.cell? ⟨blkOf v, j, none⟩ = some u) ∧ v.ownBlock = some (blkOf v) := by
  obtain ⟨g, cap, rfl, h1, h2, h3, h4⟩ := cl_form h (fun e => by
    subst e
    rcases h with ⟨_, ⟨_, h⟩ | ⟨g, cap, cur, h, _⟩⟩
    · omega
    · cases h)
  exact ⟨rfl, h1, h2, h3, h4, rfl⟩
theorem jr_ready {w wr : World} {p : Jp} {rels : List Rl} {m : Nat} {k : Nat → Wr} {rl : Nat → List Nat} {rv : Nat → Value} {keep : List Nat} (h : Jr w wr p rels m k rl rv) (hrl : ∀ v, v < p.nv → rl v = rowN rels v m) (hm : m = rels.length) (hm8 : m ≤ 1000) (hv1 : p.nv ≤ 16) (hk : ∀ v ∈ keep, v < p.nv) (hn : keep.Nodup) (hne : keep ≠ []) (hkl : p.kl = keep.length)
    (hord : p.ord = ordF keep p.nv) (hrank : p.rank = rankF keep p.nv) (hrr : ∀ r ∈ rels, r.a < p.nv ∧ r.b < p.nv) (hall : ∀ v, v < p.nv → ∃ r ∈ rels, r.a = v ∨ r.b = v) (h0 : 0 ≤ p.most) (h1 : p.most ≤ 1048576) :
    Jw w wr.heap.size (jdOf p rels m k rv) ∧ Js w wr wr.heap.size (jdOf p rels m k rv) (List.replicate p.nv 0) (.slice none 0 0) [] (fun r => s0 ((jdOf p rels m k rv).rk r) []) := by
  have hR := ord_rank keep p.nv hk hn
  have hO := rank_ord keep p.nv hk hn
  have hrm : ∀ r, r < m → (rels.getD r ⟨0, 0, []⟩) ∈ rels := fun r hr => by rw [getD_lt _ _ (by omega)]; exact List.getElem_mem _
  have hpos : ∀ v, v < p.nv → 0 < (rowN rels v m).length := fun v hv => by
    obtain ⟨r, hr, e⟩ := hall v hv
    obtain ⟨i, hi, e2⟩ := List.getElem_of_mem hr
    refine List.length_pos_of_mem ((rowN_mem rels v m i).2 ⟨by omega, ?_⟩)
    rw [getD_lt _ _ hi, e2]
    exact e
  have hof : ∀ v, v < p.nv → rv v = .slice (some ⟨blkOf (rv v), 0, none⟩) (rowN rels v m).length (capOf (rv v)) ∧ p.B ≤ blkOf (rv v) ∧ blkOf (rv v) < wr.heap.size ∧ (rowN rels v m).length ≤ capOf (rv v) ∧ (∀ j u, ((rowN rels v m).map fun r => (k r).ptr)[j]? = some u → wr.cell? ⟨blkOf (rv v), j, none⟩ = some u) ∧ (rv v).ownBlock = some (blkOf (rv v)) := fun v hv => by
    have := h.own v hv
    rw [hrl v hv] at this
    exact own_form this (hpos v hv)
  have hlow := h.low
  have hbig := h.big
  have hhi := h.hi
  have hkn : keep.length ≤ p.nv := by rw [← ordL_len keep p.nv hk hn]; unfold ordL; rw [List.length_append]; omega
  have hgs : ∀ r, r < m → (k r).g < wr.heap.size ∧ (k r).X < wr.heap.size ∧ (k r).b < wr.heap.size := fun r hr => by have := (h.ws r hr).gs; exact ⟨this.1, this.2.1, this.2.2.1⟩
  have hkl1 : 0 < keep.length := List.length_pos_iff.2 hne
  have hw : Jw w wr.heap.size (jdOf p rels m k rv) := by
    refine ⟨hv1, by show 1 ≤ p.kl; omega, by show p.kl ≤ p.nv; omega, by show p.most.toNat ≤ 1048576; omega, hm8, Nat.le_refl _, fun i hi => by show p.ord i < p.nv; rw [hord]; exact (hO i hi).2, hpos, fun v hv => ⟨(hof v hv).2.2.2.1, Nat.le_trans (rowN_len rels v m) hm8⟩, fun v _ => rowN_nodup rels v m, fun i hi r => ?_, fun r hr => (h.L r hr).symm, fun r hr => ⟨(rkOf_fit p.rank _).1, ?_⟩, fun r hr => (rkOf_fit p.rank _).2, ⟨by show p.J < _; omega, by show p.ob < _; omega, by show p.wb < _; omega, by show p.nb < _; omega, fun v hv => (hof v hv).2.2.1, hgs⟩, ⟨hhi.1, hhi.2.1, h.below.size⟩, h.gg, h.gx, fun r hr => ?_, fun v r hv hr => ?_, fun v hv => ?_, h.ne.2.1, h.ne.2.2.2.1, h.ne.2.2.2.2.2.1, fun e => h.ne.1 e.symm, h.ne.2.2.1⟩
    · show r ∈ rowN rels (p.ord i) m ↔ r < m ∧ onLevel (rkOf p.rank (rels.getD r ⟨0, 0, []⟩)) i
      rw [rowN_mem, hord, hrank]
      constructor
      · rintro ⟨a1, a2⟩
        exact ⟨a1, (hasV_level hk hn (hrr _ (hrm r a1)).1 (hrr _ (hrm r a1)).2 i hi).2 a2⟩
      · rintro ⟨a1, a2⟩
        exact ⟨a1, (hasV_level hk hn (hrr _ (hrm r a1)).1 (hrr _ (hrm r a1)).2 i hi).1 a2⟩
    · show max (p.rank _) (p.rank _) < p.nv
      rw [hrank]
      have a1 := (hR _ (hrr _ (hrm r hr)).1).2
      have a2 := (hR _ (hrr _ (hrm r hr)).2).2
      omega
    · have := h.new r hr
      show p.J ≠ (k r).g ∧ p.J ≠ (k r).X ∧ p.J ≠ (k r).b ∧ p.nb ≠ (k r).g ∧ p.nb ≠ (k r).X ∧ p.nb ≠ (k r).b ∧ p.ob ≠ (k r).g ∧ p.wb ≠ (k r).g
      omega
    · exact (h.apw v hv r hr _ (hof v hv).2.2.2.2.2).1
    · have := (hof v hv).2.1
      exact ⟨by show blkOf _ ≠ p.J; omega, by show blkOf _ ≠ p.nb; omega⟩
  refine ⟨hw, ?_, ?_, ?_, ⟨fun i hi => h.ordc i hi, fun v hv => ?_, fun v hv j hj => ?_⟩, ⟨[], ?_, rfl, fun i hi => absurd hi (by simp)⟩, fun r hr => ?_, Nat.le_refl _⟩
  · have := h.bJ
    rw [show p.most = ((p.most.toNat : Nat) : Int) by omega] at this
    exact this
  · rw [← zeros_eq]; exact h.bN
  · rw [List.length_replicate]; rfl
  · have := (rowsV_cell h.bW v hv).1
    rw [(hof v hv).1] at this
    exact this
  · refine (hof v hv).2.2.2.2.1 j _ ?_
    have hj2 : j < (rowN rels v m).length := hj
    rw [List.getElem?_map, List.getElem?_eq_getElem hj2]
    show _ = some (k ((rowN rels v m).getD j 0)).ptr
    rw [getD_lt _ _ hj2]
    rfl
  · exact ⟨by simp, .inl ⟨rfl, rfl⟩⟩
  · have := h.ws r hr
    exact this

/-- The rows of a result. -/
structure RowsOut (w : World) (v : Value) (l : List (List Int)) : Prop where
  own : ∃ (A : Option Addr) (c : Nat) (vs : List Value), v = .slice A l.length c ∧ l.length ≤ c ∧ vs.length = l.length ∧ (∀ i, i < l.length → ∃ b, A = some ⟨b, 0, none⟩ ∧ w.cell? ⟨b, i, none⟩ = some (vs.getD i undef)) ∧ ∀ i, i < l.length → G.SlL w enc1 (vs.getD i undef) (l.getD i [])
theorem rowI_sl {w : World} {B : Nat} {ow : Option Nat} {x : Value} {l : List Int} (h : RowI w B ow x l) : G.SlL w enc1 x l := by
  obtain ⟨b, c, h1, h2, _, h4, _, h6⟩ := h
  refine ⟨_, c, h1, h2, (fun h => nomatch h), fun _ => ⟨b, 0, rfl, h4, fun j u hu => ?_⟩⟩
  have hj : j < l.length := by
    have := (List.getElem?_eq_some_iff.1 hu).1
    rwa [G.flat_length 1 enc1 (fun _ => rfl), Nat.mul_one] at this
  have := G.flat_getElem 1 enc1 (fun _ => rfl) l j 0 (l.getD j 0) (by rw [List.getD_eq_getElem?_getD, List.getElem?_eq_getElem hj]; rfl) (by omega)
  rw [Nat.mul_one, Nat.add_zero, hu] at this
  have e : u = .int .i64 (l.getD j 0) := by simpa [enc1] using this
  rw [e, Nat.zero_add]
  exact h6 j hj
theorem out_rows {w : World} {B : Nat} {v : Value} {l : List (List Int)} (h : Out w B v l) : RowsOut w v l := by
  obtain ⟨vs, h1, h2, h3⟩ := h.own
  obtain ⟨hl, ⟨rfl, hn⟩ | ⟨g, cap, cur, rfl, hg, hh, hc, _, _, htk⟩⟩ := h1
  · exact ⟨⟨none, 0, vs, by rw [hn], by omega, h2, fun i hi => by omega, fun i hi => rowI_sl (h3 i hi)⟩⟩
  · refine ⟨⟨_, cap, vs, rfl, hc, h2, fun i hi => ⟨g, rfl, ?_⟩, fun i hi => rowI_sl (h3 i hi)⟩⟩
    have hi2 : i < vs.length := by omega
    have hu : vs[i]? = some (vs.getD i undef) := by rw [List.getD_eq_getElem?_getD, List.getElem?_eq_getElem hi2]; rfl
    rw [← htk, List.getElem?_take] at hu
    split at hu
    · simp only [World.cell?, hh]
      rw [← htk]
      simpa using hu
    · cases hu
end Go.Proofs.Ytejinhnmabnomaa.Lf
end
