/-
  Joined by wip/tools/merge.py from the texts Lc6 Lc7 Lc8 Lc9. Conditions: as each says.
-/
import Derived.Test.YtejinhnmabnomaaJ8
import Derived.Test.YtejinhnmabnomaaJ7
import Derived.Deep.RegionHeld3
import Derived.Deep.CutRange
import Derived.Deep.AppendLies
import Derived.Deep.LoopGhost
import Derived.Deep.Light
section
/-
  What a join holds in memory while it goes through its variables. Conditions: the blocks lie as told.
-/
namespace Go.Proofs.Ytejinhnmabnomaa.Lf
open Go.RowKit Go.Proofs.YtejinhnmabnomaaW.PrintWords Go.Proofs.Ytejinhnmabnomaa.Pm Go.Proofs.Ytejinhnmabnomaa.Pw

/-- What of a join stays as it is. -/
structure Jd where
  J : Nat
  ob : Nat
  wb : Nat
  nb : Nat
  oc : Nat
  wc : Nat
  nc : Nat
  vars : Nat
  keep : Nat
  most : Nat
  ord : Nat → Nat
  m : Nat
  k : Nat → Wr
  row : Nat → List Nat
  lb : Nat → Nat
  lc : Nat → Nat
  rk : Nat → Rk
def Jd.rks (d : Jd) : List Rk := rksOf d.m d.rk
/-- The blocks that a visit writes. -/
def Jd.D (d : Jd) (v : Value) (i : Nat) : Prop := (∃ r, r < d.m ∧ i = (d.k r).g) ∨ i = d.J ∨ i = d.nb ∨ v.ownBlock = some i
/-- What holds of it, whatever the memory is. -/
structure Jw (w0 : World) (base : Nat) (d : Jd) : Prop where
  v16 : d.vars ≤ 16
  k1 : 1 ≤ d.keep
  kv : d.keep ≤ d.vars
  most : d.most ≤ 1048576
  m8 : d.m ≤ 1000
  nc : d.vars ≤ d.nc
  ord : ∀ i, i < d.vars → d.ord i < d.vars
  pos : ∀ v, v < d.vars → 0 < (d.row v).length
  len : ∀ v, v < d.vars → (d.row v).length ≤ d.lc v ∧ (d.row v).length ≤ 1000
  nd : ∀ v, v < d.vars → (d.row v).Nodup
  mem : ∀ i, i < d.vars → ∀ r, r ∈ d.row (d.ord i) ↔ r < d.m ∧ onLevel (d.rk r) i
  rkL : ∀ r, r < d.m → (d.rk r).L = (d.k r).L
  rkv : ∀ r, r < d.m → (d.rk r).p ≤ (d.rk r).q ∧ (d.rk r).q < d.vars
  rise : ∀ r, r < d.m → (d.rk r).L.Pairwise (ltR o1)
  low : d.J < base ∧ d.ob < base ∧ d.wb < base ∧ d.nb < base ∧ (∀ v, v < d.vars → d.lb v < base) ∧ ∀ r, r < d.m → (d.k r).g < base ∧ (d.k r).X < base ∧ (d.k r).b < base
  high : w0.heap.size ≤ d.J ∧ w0.heap.size ≤ d.nb ∧ w0.heap.size ≤ base
  gg : ∀ r s, r < d.m → s < d.m → r ≠ s → (d.k r).g ≠ (d.k s).g
  gx : ∀ r s, r < d.m → s < d.m → (d.k r).X ≠ (d.k s).g ∧ (d.k r).b ≠ (d.k s).g
  jg : ∀ r, r < d.m → d.J ≠ (d.k r).g ∧ d.J ≠ (d.k r).X ∧ d.J ≠ (d.k r).b ∧ d.nb ≠ (d.k r).g ∧ d.nb ≠ (d.k r).X ∧ d.nb ≠ (d.k r).b ∧ d.ob ≠ (d.k r).g ∧ d.wb ≠ (d.k r).g
  lg : ∀ v r, v < d.vars → r < d.m → d.lb v ≠ (d.k r).g
  lj : ∀ v, v < d.vars → d.lb v ≠ d.J ∧ d.lb v ≠ d.nb
  jn : d.J ≠ d.nb ∧ d.ob ≠ d.J ∧ d.ob ≠ d.nb ∧ d.wb ≠ d.J ∧ d.wb ≠ d.nb
theorem Jw.fit {w0 : World} {base : Nat} {d : Jd} (h : Jw w0 base d) : Fit d.rks := ⟨fun k hk => by obtain ⟨r, hr, rfl⟩ := mem_rksOf.1 hk; exact (h.rkv r hr).1, fun k hk => by obtain ⟨r, hr, rfl⟩ := mem_rksOf.1 hk; exact h.rise r hr⟩

/-- The cells that nothing writes. -/
structure Jf (w : World) (d : Jd) : Prop where
  ord : ∀ i, i < d.vars → w.cell? ⟨d.ob, i, none⟩ = some (.int .i64 (d.ord i))
  wk : ∀ v, v < d.vars → w.cell? ⟨d.wb, v, none⟩ = some (.slice (some ⟨d.lb v, 0, none⟩) (d.row v).length (d.lc v))
  ptr : ∀ v, v < d.vars → ∀ j, j < (d.row v).length → w.cell? ⟨d.lb v, j, none⟩ = some (d.k ((d.row v).getD j 0)).ptr
/-- A slice of numbers of the join's own. -/
def RowI (w : World) (base : Nat) (ow : Option Nat) (x : Value) (l : List Int) : Prop := ∃ b c, x = .slice (some ⟨b, 0, none⟩) l.length c ∧ l.length ≤ c ∧ base ≤ b ∧ b < w.heap.size ∧ some b ≠ ow ∧ ∀ j, j < l.length → w.cell? ⟨b, j, none⟩ = some (.int .i64 (l.getD j 0))
/-- The rows so far. -/
structure Out (w : World) (base : Nat) (v : Value) (out : List (List Int)) : Prop where
  own : ∃ vs : List Value, w.ownsRow base 23 1 v out.length vs ∧ vs.length = out.length ∧ ∀ i, i < out.length → RowI w base v.ownBlock (vs.getD i undef) (out.getD i [])
/-- A join's memory. -/
structure Js (w0 w : World) (base : Nat) (d : Jd) (now : List Int) (v : Value) (out : List (List Int)) (rs : Nat → RS) : Prop where
  J : w.heap[d.J]? = some (.cells #[.slice (some ⟨d.ob, 0, none⟩) d.vars d.oc, .int .i64 d.keep, .slice (some ⟨d.wb, 0, none⟩) d.vars d.wc, .slice (some ⟨d.nb, 0, none⟩) d.vars d.nc, .int .i64 d.most, v] 48 (0, 0))
  N : w.heap[d.nb]? = some (.cells (now.map (Value.int .i64)).toArray 3 (0, 0))
  nl : now.length = d.vars
  fix : Jf w d
  out : Out w base v out
  ws : ∀ r, r < d.m → Ws w0 w (d.k r) (rs r)
  base : base ≤ w.heap.size

theorem own_ge {w : World} {base : Nat} {v : Value} {out : List (List Int)} (h : Out w base v out) {g : Nat} (hg : v.ownBlock = some g) : base ≤ g ∧ g < w.heap.size := by
  obtain ⟨vs, h1, h2, _⟩ := h.own
  rcases h1.2 with ⟨rfl, _⟩ | ⟨g', cap, cur, rfl, hb, hh, _⟩
  · simp [Value.ownBlock] at hg
  · have : g' = g := by simpa [Value.ownBlock] using hg
    subst this
    exact ⟨hb, (Array.getElem?_eq_some_iff.1 hh).1⟩
theorem RowI.chg {w w' : World} {base : Nat} {ow : Option Nat} {x : Value} {l : List Int} {D : Nat → Prop} (h : RowI w base ow x l) (c : Chg D w w') (hD : ∀ i, D i → base ≤ i → ow = some i) : RowI w' base ow x l := by
  obtain ⟨b, cc, h1, h2, h3, h4, h5, h6⟩ := h
  exact ⟨b, cc, h1, h2, h3, Nat.lt_of_lt_of_le h4 c.size, h5, fun j hj => c.cell (h6 j hj) (fun e => h5 (hD b e h3).symm)⟩
/-- Blocks that are not the rows' own have changed. -/
theorem Out.chg {w w' : World} {base : Nat} {v : Value} {out : List (List Int)} {D : Nat → Prop} (h : Out w base v out) (c : Chg D w w') (hD : ∀ i, D i → i < base) : Out w' base v out := by
  obtain ⟨vs, h1, h2, h3⟩ := h.own
  refine ⟨⟨vs, ?_, h2, fun i hi => (h3 i hi).chg c (fun i e hb => by have := hD i e; omega)⟩⟩
  rcases h1 with ⟨hl, ⟨rfl, hn⟩ | ⟨g, cap, cur, rfl, hg, hh, hr⟩⟩
  · exact ⟨hl, .inl ⟨rfl, hn⟩⟩
  · exact ⟨hl, .inr ⟨g, cap, cur, rfl, hg, (c.block g (Array.getElem?_eq_some_iff.1 hh).1 (fun e => by have := hD g e; omega)).trans hh, hr⟩⟩
theorem Jf.chg {w w' : World} {d : Jd} {D : Nat → Prop} (h : Jf w d) (c : Chg D w w') (h1 : ¬ D d.ob) (h2 : ¬ D d.wb) (h3 : ∀ v, v < d.vars → ¬ D (d.lb v)) : Jf w' d :=
  ⟨fun i hi => c.cell (h.ord i hi) h1, fun v hv => c.cell (h.wk v hv) h2, fun v hv j hj => c.cell (h.ptr v hv j hj) (h3 v hv)⟩
/-- Memory was made. -/
theorem Js.more {w0 w w' : World} {base : Nat} {d : Jd} {now : List Int} {v : Value} {out : List (List Int)} {rs : Nat → RS} (hw : Jw w0 base d) (h : Js w0 w base d now v out rs) (c : Below w.heap.size w w') : Js w0 w' base d now v out rs := by
  have hc := Chg.of_below (fun _ => False) c
  have hb := h.base
  have hl := hw.low
  exact ⟨(hc.block _ (by omega) id).trans h.J, (hc.block _ (by omega) id).trans h.N, h.nl, h.fix.chg hc id id (fun _ _ => id), h.out.chg hc (fun _ e => e.elim), fun r hr => (h.ws r hr).more c, Nat.le_trans h.base c.size⟩
theorem Jd.g_ne {w0 : World} {base : Nat} {d : Jd} (hw : Jw w0 base d) {r : Nat} (hr : r < d.m) : d.J ≠ (d.k r).g ∧ d.nb ≠ (d.k r).g ∧ d.ob ≠ (d.k r).g ∧ d.wb ≠ (d.k r).g := by
  have := hw.jg r hr
  exact ⟨this.1, this.2.2.2.1, this.2.2.2.2.2.2.1, this.2.2.2.2.2.2.2⟩
/-- Walks of some relations have gone on. -/
theorem Js.walks {w0 w w' : World} {base : Nat} {d : Jd} {now : List Int} {v : Value} {out : List (List Int)} {rs rs' : Nat → RS} {S : Nat → Prop} (hw : Jw w0 base d) (h : Js w0 w base d now v out rs)
    (c : Chg (fun i => ∃ r, r < d.m ∧ S r ∧ i = (d.k r).g) w w') (hS : ∀ r, r < d.m → S r → Ws w0 w' (d.k r) (rs' r)) (hn : ∀ r, r < d.m → ¬ S r → rs' r = rs r) (hdec : ∀ r, S r ∨ ¬ S r) : Js w0 w' base d now v out rs' := by
  have hl := hw.low
  have hb := h.base
  refine ⟨(c.block _ (by omega) ?_).trans h.J, (c.block _ (by omega) ?_).trans h.N, h.nl, h.fix.chg c ?_ ?_ ?_, h.out.chg c ?_, fun r hr => ?_, Nat.le_trans h.base c.size⟩
  · rintro ⟨r, hr, _, e⟩; exact (Jd.g_ne hw hr).1 e
  · rintro ⟨r, hr, _, e⟩; exact (Jd.g_ne hw hr).2.1 e
  · rintro ⟨r, hr, _, e⟩; exact (Jd.g_ne hw hr).2.2.1 e
  · rintro ⟨r, hr, _, e⟩; exact (Jd.g_ne hw hr).2.2.2 e
  · rintro v hv ⟨r, hr, _, e⟩; exact hw.lg v r hv hr e
  · rintro i ⟨r, hr, _, e⟩; have := hl.2.2.2.2.2 r hr; omega
  · rcases hdec r with hs | hs
    · exact hS r hr hs
    · rw [hn r hr hs]
      refine (h.ws r hr).chg c ?_ ?_ ?_ ?_
      · rintro i ⟨s, hs', _, rfl⟩; exact (h.ws s hs').gs.2.2.2.1
      · rintro ⟨s, hs', hs2, e⟩
        by_cases e2 : r = s
        · subst e2; exact hs hs2
        · exact hw.gg r s hr hs' e2 e
      · rintro ⟨s, hs', _, e⟩; exact (hw.gx r s hr hs').1 e
      · rintro ⟨s, hs', _, e⟩; exact (hw.gx r s hr hs').2 e
/-- Other states, the same at each relation. -/
theorem Js.congr {w0 w : World} {base : Nat} {d : Jd} {now : List Int} {v : Value} {out : List (List Int)} {rs rs' : Nat → RS} (h : Js w0 w base d now v out rs) (e : ∀ r, r < d.m → rs' r = rs r) : Js w0 w base d now v out rs' :=
  ⟨h.J, h.N, h.nl, h.fix, h.out, fun r hr => by rw [e r hr]; exact h.ws r hr, h.base⟩
end Go.Proofs.Ytejinhnmabnomaa.Lf
end
section
/-
  What a visit of a variable has in memory, and what its steps do to it. Conditions: the blocks lie as told.
-/
namespace Go.Proofs.Ytejinhnmabnomaa.Lf
open Go.RowKit Go.Proofs.YtejinhnmabnomaaW.PrintWords Go.Proofs.Ytejinhnmabnomaa.Pm Go.Proofs.Ytejinhnmabnomaa.Pw

theorem getD_al {α : Type} {l m : List α} {x : α} {i : Nat} (h : i < l.length) : (l ++ m).getD i x = l.getD i x := by
  rw [List.getD_eq_getElem?_getD, List.getElem?_append_left h, List.getD_eq_getElem?_getD]
theorem getD_ar {α : Type} {l m : List α} {x : α} {i : Nat} (h : l.length ≤ i) : (l ++ m).getD i x = m.getD (i - l.length) x := by
  rw [List.getD_eq_getElem?_getD, List.getElem?_append_right h, List.getD_eq_getElem?_getD]
/-- A visit's own variables: the walks' slice in A, the number of those opened in O, the slice's cells in b. -/
structure Lv (w0 w wr : World) (base : Nat) (d : Jd) (A O b c : Nat) (row : List Nat) (i : Nat) (v0 : Value) (now : List Int) (v : Value) (out : List (List Int)) (rs : Nat → RS) : Prop where
  js : Js w0 wr base d now v out rs
  cA : wr.cell? ⟨A, 0, none⟩ = some (.slice (some ⟨b, 0, none⟩) row.length c)
  cO : wr.heap[O]? = some (.cells #[.int .i64 i] 3 (0, 0))
  cells : ∀ j, j < row.length → wr.cell? ⟨b, j, none⟩ = some (d.k (row.getD j 0)).ptr
  cap : row.length ≤ c
  chg : Chg (d.D v0) w wr
  hi : w.heap.size ≤ A ∧ w.heap.size ≤ O ∧ w.heap.size ≤ b
  lt : A < wr.heap.size ∧ b < wr.heap.size
  ne : A ≠ O ∧ b ≠ O
  own : ∀ g, v.ownBlock = some g → (v0.ownBlock = some g ∨ w.heap.size ≤ g) ∧ g ≠ A ∧ g ≠ O ∧ g ≠ b
  bw : base ≤ w.heap.size

section
variable {w0 w wr w2 : World} {base : Nat} {d : Jd} {A O b c : Nat} {row : List Nat} {i : Nat} {v0 : Value} {now now2 : List Int} {v v2 : Value} {out out2 : List (List Int)} {rs rs2 : Nat → RS} {D' : Nat → Prop}
theorem Lv.lO (h : Lv w0 w wr base d A O b c row i v0 now v out rs) : O < wr.heap.size := (Array.getElem?_eq_some_iff.1 h.cO).1
theorem Lv.to (h : Lv w0 w wr base d A O b c row i v0 now v out rs) (c2 : Chg D' wr w2) (hj : Js w0 w2 base d now2 v2 out2 rs2) (hD : ∀ i, i < w.heap.size → D' i → d.D v0 i) (hA : ¬ D' A) (hO : ¬ D' O) (hb : ¬ D' b)
    (hown : ∀ g, v2.ownBlock = some g → v.ownBlock = some g ∨ wr.heap.size ≤ g) : Lv w0 w w2 base d A O b c row i v0 now2 v2 out2 rs2 := by
  have hs := h.chg.size
  refine ⟨hj, c2.cell h.cA hA, (c2.block O h.lO hO).trans h.cO, fun j hj => c2.cell (h.cells j hj) hb, h.cap, h.chg.trans c2 hD, h.hi, ⟨Nat.lt_of_lt_of_le h.lt.1 c2.size, Nat.lt_of_lt_of_le h.lt.2 c2.size⟩, h.ne, fun g hg => ?_, h.bw⟩
  rcases hown g hg with e | e
  · exact h.own g e
  · have := h.lt; have := h.lO
    exact ⟨.inr (by omega), by omega, by omega, by omega⟩
theorem Jd.D_low (hw : Jw w0 base d) {x : Nat} (h : d.D v x) : x < base ∨ v.ownBlock = some x := by
  have hl := hw.low
  rcases h with ⟨r, hr, rfl⟩ | rfl | rfl | h
  · exact .inl (hl.2.2.2.2.2 r hr).1
  · exact .inl hl.1
  · exact .inl hl.2.2.2.1
  · exact .inr h
/-- What a visit writes is not the visit's own above it. -/
theorem Lv.notD (hw : Jw w0 base d) (h : Lv w0 w wr base d A O b c row i v0 now v out rs) : ¬ d.D v A ∧ ¬ d.D v O ∧ ¬ d.D v b := by
  have hi := h.hi
  have hb := h.bw
  refine ⟨fun e => ?_, fun e => ?_, fun e => ?_⟩
  · rcases Jd.D_low hw e with e | e
    · omega
    · exact (h.own _ e).2.1 rfl
  · rcases Jd.D_low hw e with e | e
    · omega
    · exact (h.own _ e).2.2.1 rfl
  · rcases Jd.D_low hw e with e | e
    · omega
    · exact (h.own _ e).2.2.2 rfl
theorem Lv.subD (h : Lv w0 w wr base d A O b c row i v0 now v out rs) : ∀ x, x < w.heap.size → d.D v x → d.D v0 x := by
  rintro x hx (⟨r, hr, rfl⟩ | rfl | rfl | e)
  · exact .inl ⟨r, hr, rfl⟩
  · exact .inr (.inl rfl)
  · exact .inr (.inr (.inl rfl))
  · refine .inr (.inr (.inr ?_))
    rcases (h.own x e).1 with e | e
    · exact e
    · omega
theorem Lv.more (hw : Jw w0 base d) (h : Lv w0 w wr base d A O b c row i v0 now v out rs) (hb : Below wr.heap.size wr w2) : Lv w0 w w2 base d A O b c row i v0 now v out rs :=
  h.to (Chg.of_below (fun _ => False) hb) (h.js.more hw hb) (fun _ _ e => e.elim) id id id (fun _ e => .inl e)
/-- The walks' slice. -/
theorem Lv.wl (h : Lv w0 w wr base d A O b c row i v0 now v out rs) (hm : ∀ r ∈ row, r < d.m) : WL w0 wr b row.length (fun j => d.k (row.getD j 0)) (fun j => rs (row.getD j 0)) :=
  ⟨fun j hj => h.cells j hj, fun j hj => h.js.ws _ (hm _ (row_at row hj))⟩
theorem Jd.sep (hw : Jw w0 base d) (hm : ∀ r ∈ row, r < d.m) (hn : row.Nodup) (hb : base ≤ b) : Sep row.length (fun j => d.k (row.getD j 0)) b := by
  have ne : ∀ i j, i < row.length → j < row.length → i ≠ j → row.getD i 0 ≠ row.getD j 0 := fun i j hi hj hne e => by
    rw [getD_lt _ _ hi, getD_lt _ _ hj] at e
    exact hne ((List.getElem_inj hn).1 e)
  refine ⟨fun i j hi hj hne => hw.gg _ _ (hm _ (row_at row hi)) (hm _ (row_at row hj)) (ne i j hi hj hne), fun i j hi hj => hw.gx _ _ (hm _ (row_at row hi)) (hm _ (row_at row hj)), fun i hi => ?_⟩
  have := (hw.low.2.2.2.2.2 _ (hm _ (row_at row hi))).1
  show b ≠ (d.k (row.getD i 0)).g
  omega
/-- Walks of the row have gone on. -/
theorem Lv.walks (hw : Jw w0 base d) (h : Lv w0 w wr base d A O b c row i v0 now v out rs) (hm : ∀ r ∈ row, r < d.m) (hn : row.Nodup) {a : Nat → RS} (hWL : WL w0 w2 b row.length (fun j => d.k (row.getD j 0)) a) (hc : Chg (OfG row.length (fun j => d.k (row.getD j 0))) wr w2) :
    Lv w0 w w2 base d A O b c row i v0 now v out (lift row a rs) := by
  have hc2 : Chg (fun i => ∃ r, r < d.m ∧ r ∈ row ∧ i = (d.k r).g) wr w2 := hc.mono (fun x _ ⟨j, hj, e⟩ => ⟨_, hm _ (row_at row hj), row_at row hj, e⟩)
  have hlow : ∀ x, (∃ r, r < d.m ∧ r ∈ row ∧ x = (d.k r).g) → x < base := fun x ⟨r, hr, _, e⟩ => by rw [e]; exact (hw.low.2.2.2.2.2 r hr).1
  have hi := h.hi
  have hb := h.bw
  refine h.to hc2 (h.js.walks hw (S := fun r => r ∈ row) hc2 (fun r hr hs => ?_) (fun r hr hs => lift_out _ _ hs) (fun r => Decidable.em _)) (fun x _ ⟨r, hr, _, e⟩ => .inl ⟨r, hr, e⟩) (fun e => by have := hlow _ e; omega) (fun e => by have := hlow _ e; omega) (fun e => by have := hlow _ e; omega) (fun _ e => .inl e)
  obtain ⟨j, hj, e⟩ := List.getElem_of_mem hs
  have := hWL.ws j hj
  have e2 : row.getD j 0 = r := by rw [getD_lt _ _ hj, e]
  simp only [e2] at this
  rw [← e2, lift_in hn _ _ hj, e2]
  exact this
/-- One walk of the row has gone on. -/
theorem Lv.walk (hw : Jw w0 base d) (h : Lv w0 w wr base d A O b c row i v0 now v out rs) (hm : ∀ r ∈ row, r < d.m) {j : Nat} (hj : j < row.length) {x : RS} (hx : Ws w0 w2 (d.k (row.getD j 0)) x) (hc : Chg (fun i => i = (d.k (row.getD j 0)).g) wr w2) :
    Lv w0 w w2 base d A O b c row i v0 now v out (setR rs (row.getD j 0) x) := by
  have hr := hm _ (row_at row hj)
  have hl := (hw.low.2.2.2.2.2 _ hr).1
  have hi := h.hi
  have hb := h.bw
  have hc2 : Chg (fun i => ∃ r, r < d.m ∧ r = row.getD j 0 ∧ i = (d.k r).g) wr w2 := hc.mono (fun x _ e => ⟨_, hr, rfl, e⟩)
  refine h.to hc (h.js.walks hw (S := fun r => r = row.getD j 0) hc2 (fun r hr hs => ?_) (fun r hr hs => setR_ne _ _ _ _ hs) (fun r => Decidable.em _)) (fun x _ e => .inl ⟨_, hr, e⟩) (by omega) (by omega) (by omega) (fun _ e => .inl e)
  subst hs
  rw [setR_self]
  exact hx
theorem Lv.congr (h : Lv w0 w wr base d A O b c row i v0 now v out rs) (e : ∀ r, r < d.m → rs2 r = rs r) : Lv w0 w wr base d A O b c row i v0 now v out rs2 :=
  ⟨h.js.congr e, h.cA, h.cO, h.cells, h.cap, h.chg, h.hi, h.lt, h.ne, h.own, h.bw⟩
theorem Js.drew (h : Js w0 w base d now v out rs) (hw : Jw w0 base d) : Js w0 w.drew base d now v out rs := h.more hw (Below.drew (Below.refl _ _))
/-- While walks are opened. -/
structure Lo (w0 w wr : World) (base : Nat) (d : Jd) (A O b c : Nat) (row : List Nat) (i : Nat) (rs : Nat → RS) : Prop where
  cA : wr.cell? ⟨A, 0, none⟩ = some (.slice (some ⟨b, 0, none⟩) row.length c)
  cO : wr.heap[O]? = some (.cells #[.int .i64 i] 3 (0, 0))
  cells : ∀ j, j < row.length → wr.cell? ⟨b, j, none⟩ = some (d.k (row.getD j 0)).ptr
  cap : row.length ≤ c
  chg : Chg (fun x => ∃ r, r < d.m ∧ True ∧ x = (d.k r).g) w wr
  ws : ∀ r, r < d.m → Ws w0 wr (d.k r) (rs r)
  hi : w.heap.size ≤ A ∧ w.heap.size ≤ O ∧ w.heap.size ≤ b
  lt : A < wr.heap.size ∧ b < wr.heap.size
  ne : A ≠ O ∧ b ≠ O
  bw : base ≤ w.heap.size
theorem Lo.lv (hw : Jw w0 base d) {rs0 : Nat → RS} (h : Lo w0 w wr base d A O b c row i rs) (hj : Js w0 w base d now v out rs0) : Lv w0 w wr base d A O b c row i v now v out rs := by
  have hi := h.hi
  have hb := h.bw
  refine ⟨hj.walks hw (S := fun _ => True) h.chg (fun r hr _ => h.ws r hr) (fun r hr hs => absurd trivial hs) (fun r => .inl trivial), h.cA, h.cO, h.cells, h.cap, h.chg.mono (fun x _ ⟨r, hr, _, e⟩ => .inl ⟨r, hr, e⟩), h.hi, h.lt, h.ne, fun g hg => ?_, h.bw⟩
  have := (own_ge hj.out hg).2
  exact ⟨.inl hg, by omega, by omega, by omega⟩
theorem Lo.walk (hw : Jw w0 base d) (h : Lo w0 w wr base d A O b c row i rs) (hm : ∀ r ∈ row, r < d.m) {j : Nat} (hj : j < row.length) {x : RS} (hx : Ws w0 w2 (d.k (row.getD j 0)) x) (hc : Chg (fun i => i = (d.k (row.getD j 0)).g) wr w2) :
    Lo w0 w w2 base d A O b c row i (setR rs (row.getD j 0) x) := by
  have hr := hm _ (row_at row hj)
  have hl := (hw.low.2.2.2.2.2 _ hr).1
  have hi := h.hi
  have hb := h.bw
  have hO : O < wr.heap.size := (Array.getElem?_eq_some_iff.1 h.cO).1
  refine ⟨hc.cell h.cA (by show A ≠ _; omega), (hc.block O hO (by show O ≠ _; omega)).trans h.cO, fun i hi2 => hc.cell (h.cells i hi2) (by show b ≠ _; omega), h.cap, h.chg.trans hc (fun x _ e => ⟨_, hr, trivial, e⟩), fun r hr2 => ?_, h.hi, ⟨Nat.lt_of_lt_of_le h.lt.1 hc.size, Nat.lt_of_lt_of_le h.lt.2 hc.size⟩, h.ne, h.bw⟩
  by_cases e : r = row.getD j 0
  · subst e
    rw [setR_self]
    exact hx
  · rw [setR_ne _ _ _ _ e]
    refine (h.ws r hr2).chg hc ?_ (hw.gg r _ hr2 hr e) (hw.gx r _ hr2 hr).1 (hw.gx r _ hr2 hr).2
    rintro i rfl
    exact (h.ws _ hr).gs.2.2.2.1
theorem Lo.more (h : Lo w0 w wr base d A O b c row i rs) (hb : Below wr.heap.size wr w2) : Lo w0 w w2 base d A O b c row i rs := by
  have hc := Chg.of_below (fun _ => False) hb
  have hO : O < wr.heap.size := (Array.getElem?_eq_some_iff.1 h.cO).1
  exact ⟨hc.cell h.cA id, (hc.block O hO id).trans h.cO, fun i hi2 => hc.cell (h.cells i hi2) id, h.cap, h.chg.trans hc (fun x _ e => e.elim), fun r hr => (h.ws r hr).more hb, h.hi, ⟨Nat.lt_of_lt_of_le h.lt.1 hc.size, Nat.lt_of_lt_of_le h.lt.2 hc.size⟩, h.ne, h.bw⟩
/-- One more is open. -/
theorem Lo.opened (hw : Jw w0 base d) (h : Lo w0 w wr base d A O b c row i rs) (n : Nat) : Lo w0 w (wr.setCell ⟨O, 0, none⟩ (.int .i64 n)) base d A O b c row n rs := by
  have hc := Chg.of_grown (grown_set wr O 0 (.int .i64 n))
  have hi := h.hi
  have hb := h.bw
  have hl := hw.low
  have hh := hw.high
  refine ⟨hc.cell h.cA h.ne.1, (heap_set wr O 0 _ _ _ h.cO).trans rfl, fun j hj => hc.cell (h.cells j hj) h.ne.2, h.cap, ⟨hc.os.trans h.chg.os, hc.tape.trans h.chg.tape, hc.output.trans h.chg.output, Nat.le_trans h.chg.size hc.size, fun x hx hn => (hc.block x (Nat.lt_of_lt_of_le hx h.chg.size) (by show x ≠ O; omega)).trans (h.chg.block x hx hn)⟩, fun r hr => (h.ws r hr).chg hc ?_ ?_ ?_ ?_, h.hi, ⟨Nat.lt_of_lt_of_le h.lt.1 hc.size, Nat.lt_of_lt_of_le h.lt.2 hc.size⟩, h.ne, h.bw⟩
  · rintro x rfl; omega
  · have := (hl.2.2.2.2.2 r hr).1; omega
  · have := (hl.2.2.2.2.2 r hr).2.1; omega
  · have := (hl.2.2.2.2.2 r hr).2.2; omega

/-- A number is put down. -/
theorem Js.put (hw : Jw w0 base d) (h : Js w0 w base d now v out rs) (k : Nat) (x : Int) : Js w0 (w.setCell ⟨d.nb, k, none⟩ (.int .i64 x)) base d (now.set k x) v out rs ∧ Chg (fun i => i = d.nb) w (w.setCell ⟨d.nb, k, none⟩ (.int .i64 x)) := by
  have hc := Chg.of_grown (grown_set w d.nb k (.int .i64 x))
  have hl := hw.low
  have hb := h.base
  refine ⟨⟨(hc.block _ (by omega) hw.jn.1).trans h.J, ?_, by rw [List.length_set]; exact h.nl, h.fix.chg hc hw.jn.2.2.1 hw.jn.2.2.2.2 (fun v hv => (hw.lj v hv).2), h.out.chg hc (fun i e => by rw [e]; exact hl.2.2.2.1), fun r hr => ?_, Nat.le_trans h.base hc.size⟩, hc⟩
  · rw [heap_set w d.nb k _ _ _ h.N]
    simp [List.map_set]
  · have hg := hw.jg r hr
    exact (h.ws r hr).chg hc (fun i e => by rw [e]; exact hw.high.2.1) (fun e => hg.2.2.2.1 e.symm) (fun e => hg.2.2.2.2.1 e.symm) (fun e => hg.2.2.2.2.2.1 e.symm)
/-- A row is put behind the others. -/
theorem Js.app (hw : Jw w0 base d) (h : Js w0 w base d now v out rs) {w3 w4 : World} (hb : Below w.heap.size w w3) {vs : List Value} (hvl : vs.length = out.length) (hvs : ∀ i, i < out.length → RowI w base v.ownBlock (vs.getD i undef) (out.getD i [])) {x : Value} {l : List Int} (hx : RowI w3 w.heap.size none x l)
    {v1 : Value} (h4 : w4.ownsRow base 23 1 v1 (out.length + 1) (vs ++ [x])) (hg : w3.grownBy w4 v.ownBlock) (hv1 : ∀ g, v1.ownBlock = some g → v.ownBlock = some g ∨ w3.heap.size ≤ g) :
    Js w0 (w4.setCell ⟨d.J, 5, none⟩ v1) base d now v1 (out ++ [l]) rs ∧ Chg (fun i => i = d.J ∨ v.ownBlock = some i) w (w4.setCell ⟨d.J, 5, none⟩ v1) := by
  have hl := hw.low
  have hbs := h.base
  have hown : ∀ g, v.ownBlock = some g → base ≤ g ∧ g < w.heap.size := fun g e => own_ge h.out e
  have c4 : Chg (fun i => v.ownBlock = some i) w w4 := (Chg.of_below (fun i => v.ownBlock = some i) hb).trans ⟨hg.os, hg.tape, hg.output, hg.size, fun k hk hn => hg.block k hk (fun e => hn e.symm)⟩ (fun _ _ e => e)
  have c5 := Chg.of_grown (grown_set w4 d.J 5 v1)
  have c : Chg (fun i => i = d.J ∨ v.ownBlock = some i) w (w4.setCell ⟨d.J, 5, none⟩ v1) := (c4.mono (fun i _ e => .inr e)).trans c5 (fun i _ e => .inl e)
  have nd : ∀ i, i < base → i ≠ d.J → ¬ (i = d.J ∨ v.ownBlock = some i) := fun i hi hn e => e.elim hn (fun e => by have := (hown i e).1; omega)
  have hJ4 : w4.heap[d.J]? = w.heap[d.J]? := c4.block _ (by omega) (fun e => by have := (hown _ e).1; omega)
  refine ⟨⟨?_, (c.block _ (by omega) (nd _ hl.2.2.2.1 (fun e => hw.jn.1 e.symm))).trans h.N, h.nl, h.fix.chg c (nd _ hl.2.1 hw.jn.2.1) (nd _ hl.2.2.1 hw.jn.2.2.2.1) (fun v hv => nd _ (hl.2.2.2.2.1 v hv) (hw.lj v hv).1), ⟨⟨vs ++ [x], ?_, by simp [hvl], fun i hi => ?_⟩⟩, fun r hr => ?_, Nat.le_trans h.base c.size⟩, c⟩
  · rw [heap_set w4 d.J 5 _ _ _ (hJ4.trans h.J)]
    rfl
  · rw [List.length_append, List.length_singleton]
    rcases h4 with ⟨q, ⟨rfl, hn⟩ | ⟨g, cap, cur, rfl, hg2, hh, hr⟩⟩
    · exact ⟨q, .inl ⟨rfl, hn⟩⟩
    · exact ⟨q, .inr ⟨g, cap, cur, rfl, hg2, (c5.block g (Array.getElem?_eq_some_iff.1 hh).1 (by show g ≠ d.J; omega)).trans hh, hr⟩⟩
  · rw [List.length_append, List.length_singleton] at hi
    by_cases e : i < out.length
    · obtain ⟨b, cc, h1, h2, h3, h5, h6, h7⟩ := hvs i e
      rw [getD_al (by omega), getD_al e]
      refine ⟨b, cc, h1, h2, h3, Nat.lt_of_lt_of_le h5 c.size, fun e2 => ?_, fun j hj => c.cell (h7 j hj) (fun e2 => ?_)⟩
      · rcases hv1 b e2.symm with e3 | e3
        · exact h6 e3.symm
        · have := hb.size; omega
      · rcases e2 with e2 | e2
        · have e2 : b = d.J := e2
          omega
        · exact h6 e2.symm
    · obtain rfl : i = out.length := by omega
      obtain ⟨b, cc, h1, h2, h3, h5, _, h7⟩ := hx
      rw [getD_ar (by omega), getD_ar (by omega), hvl, Nat.sub_self]
      have c45 : Chg (fun i => i = d.J ∨ v.ownBlock = some i) w3 (w4.setCell ⟨d.J, 5, none⟩ v1) := (show Chg (fun i => i = d.J ∨ v.ownBlock = some i) w3 w4 from ⟨hg.os, hg.tape, hg.output, hg.size, fun k hk hn => hg.block k hk (fun e => hn (.inr e.symm))⟩).trans c5 (fun i _ e => .inl e)
      have nb : ¬ (b = d.J ∨ v.ownBlock = some b) := fun e => e.elim (fun e => by omega) (fun e => by have := (hown b e).2; omega)
      refine ⟨b, cc, h1, h2, by omega, Nat.lt_of_lt_of_le h5 c45.size, fun e2 => ?_, fun j hj => c45.cell (h7 j hj) nb⟩
      rcases hv1 b e2.symm with e3 | e3
      · exact nb (.inr e3)
      · omega
  · have hg := hw.jg r hr
    refine (h.ws r hr).chg c ?_ ?_ ?_ ?_
    · rintro i (rfl | e)
      · exact hw.high.1
      · have := (hown i e).1; have := hw.high.2.2; omega
    · exact nd _ (hl.2.2.2.2.2 r hr).1 (fun e => hg.1 e.symm)
    · exact nd _ (hl.2.2.2.2.2 r hr).2.1 (fun e => hg.2.1 e.symm)
    · exact nd _ (hl.2.2.2.2.2 r hr).2.2 (fun e => hg.2.2.1 e.symm)
end
end Go.Proofs.Ytejinhnmabnomaa.Lf
end
section
/-
  A visit of a variable: what it brings, and its ends. Conditions: the blocks lie as told.
-/
namespace Go.Proofs.Ytejinhnmabnomaa.Lf
open Go.RowKit Go.Proofs.YtejinhnmabnomaaW.PrintWords Go.Proofs.Ytejinhnmabnomaa.Pm Go.Proofs.Ytejinhnmabnomaa.Pw

/-- What a visit brings. -/
def Res (d : Jd) (k : Nat) (pre : List Int) (out E : List (List Int)) (res : Bool) : Prop :=
  (k < d.keep → IsS (P d.rks d.keep pre) E ∧ ((out ++ E).length ≤ d.most → IsE (P d.rks d.keep pre) E) ∧ (out ++ E).length ≤ d.most + 1) ∧ (d.keep ≤ k → E = [] ∧ (res = true ↔ ExA d.rks pre))
def GPost (w0 w : World) (base : Nat) (d : Jd) (k : Nat) (now : List Int) (v : Value) (out : List (List Int)) (e : Ending) (w' : World) : Prop :=
  ∃ (res : Bool) (now' : List Int) (v' : Value) (E : List (List Int)), e = .returned (.bool res) ∧ Js w0 w' base d now' v' (out ++ E) (fun r => s0 (d.rk r) (now.take k)) ∧ now'.take k = now.take k ∧ Chg (d.D v) w w' ∧
    (∀ g, v'.ownBlock = some g → v.ownBlock = some g ∨ w.heap.size ≤ g) ∧ Res d k (now.take k) out E res

theorem Js.cells {w0 w : World} {base : Nat} {d : Jd} {now : List Int} {v : Value} {out : List (List Int)} {rs : Nat → RS} (h : Js w0 w base d now v out rs) :
    w.cell? ⟨d.J, 0, none⟩ = some (.slice (some ⟨d.ob, 0, none⟩) d.vars d.oc) ∧ w.cell? ⟨d.J, 1, none⟩ = some (.int .i64 d.keep) ∧ w.cell? ⟨d.J, 2, none⟩ = some (.slice (some ⟨d.wb, 0, none⟩) d.vars d.wc) ∧ w.cell? ⟨d.J, 3, none⟩ = some (.slice (some ⟨d.nb, 0, none⟩) d.vars d.nc) ∧ w.cell? ⟨d.J, 4, none⟩ = some (.int .i64 d.most) ∧ w.cell? ⟨d.J, 5, none⟩ = some v ∧ w.frozen? ⟨d.J, 5, none⟩ = false := by
  have := h.J
  refine ⟨?_, ?_, ?_, ?_, ?_, ?_, ?_⟩ <;> simp [World.cell?, World.frozen?, this]
theorem Js.now_ {w0 w : World} {base : Nat} {d : Jd} {now : List Int} {v : Value} {out : List (List Int)} {rs : Nat → RS} (h : Js w0 w base d now v out rs) (i : Nat) (hi : i < d.vars) :
    w.cell? ⟨d.nb, i, none⟩ = some (.int .i64 (now.getD i 0)) ∧ w.frozen? ⟨d.nb, i, none⟩ = false := by
  have := h.N
  have hl := h.nl
  refine ⟨?_, ?_⟩
  · simp [World.cell?, this, getD_lt now 0 (show i < now.length by omega), List.getElem?_eq_getElem (show i < now.length by omega)]
  · simp [World.frozen?, this]

/-- A visit's end. -/
theorem Lv.fin {w0 w wr w2 : World} {base : Nat} {d : Jd} {A O b c k i : Nat} {row : List Nat} {v0 : Value} {now0 now : List Int} {v : Value} {out E : List (List Int)} {rs : Nat → RS} {res : Bool} (hw : Jw w0 base d) (h : Lv w0 w wr base d A O b c row i v0 now v (out ++ E) rs) (hm : ∀ r ∈ row, r < d.m) (hn : row.Nodup)
    (hWL : WL w0 w2 b row.length (fun j => d.k (row.getD j 0)) (upTo i (fun j => rs (row.getD j 0)))) (hc : Chg (OfG row.length (fun j => d.k (row.getD j 0))) wr w2)
    (hst : ∀ j, j < row.length → upTo i (fun j => rs (row.getD j 0)) j = s0 (d.rk (row.getD j 0)) (now0.take k)) (hso : ∀ r, r < d.m → r ∉ row → rs r = s0 (d.rk r) (now0.take k)) (hnow : now.take k = now0.take k) (hres : Res d k (now0.take k) out E res) :
    GPost w0 w base d k now0 v0 out (.returned (.bool res)) w2 := by
  have h2 := h.walks hw hm hn hWL hc
  refine ⟨res, now, v, E, rfl, h2.js.congr (fun r hr => ?_), hnow, h2.chg, fun g hg => (h2.own g hg).1, hres⟩
  by_cases e : r ∈ row
  · obtain ⟨j, hj, e2⟩ := List.getElem_of_mem e
    have e3 : row.getD j 0 = r := by rw [getD_lt _ _ hj, e2]
    rw [← e3, lift_in hn _ _ hj, hst j hj]
  · rw [lift_out _ _ e, hso r hr e]
theorem end_up {R : Ending → World → Prop} {tmps : Array Value} {A O : Nat} {w2 : World} {res : Bool} {Q : World → Prop} (ht : tmps.getD 4 undef = .bool res) (h : CallsD Try.prog 29 #[.pointer (some ⟨A, 0, none⟩), .pointer (some ⟨O, 0, none⟩)] .returning w2 fun e u' w' => u' = .returning ∧ (e = .returned (.tuple #[]) ∧ Q w'))
    (hq : ∀ w', Q w' → R (.returned (.bool res)) w') : bodyPostD Try.prog Try.f20 R .ret { tmps := tmps, defers := [{ target := .fn (.func 29) #[.pointer (some ⟨A, 0, none⟩), .pointer (some ⟨O, 0, none⟩)], args := #[] }] } w2 := by
  refine leaves_cons (f := 29) (args := #[.pointer (some ⟨A, 0, none⟩), .pointer (some ⟨O, 0, none⟩)]) (by simp) (by simp [go_sem]) (h.mono ?_)
  rintro e u' w' ⟨rfl, rfl, hq'⟩
  exact ⟨_, results_tmp (t := 4) rfl _ _ _, by rw [ht]; exact hq w' hq'⟩
/-- A visit returns. -/
theorem end_lv {w0 w wr : World} {base : Nat} {d : Jd} {A O b c k i : Nat} {row : List Nat} {v0 : Value} {now0 now : List Int} {v : Value} {out E : List (List Int)} {rs : Nat → RS} {res : Bool} {tmps : Array Value} (ht : tmps.getD 4 undef = .bool res) (hw : Jw w0 base d) (h : Lv w0 w wr base d A O b c row i v0 now v (out ++ E) rs) (hm : ∀ r ∈ row, r < d.m) (hn : row.Nodup) (hi : i ≤ row.length) (hl : row.length ≤ 1000)
    (hst : ∀ j, j < row.length → upTo i (fun j => rs (row.getD j 0)) j = s0 (d.rk (row.getD j 0)) (now0.take k)) (hso : ∀ r, r < d.m → r ∉ row → rs r = s0 (d.rk r) (now0.take k)) (hnow : now.take k = now0.take k) (hres : Res d k (now0.take k) out E res) :
    bodyPostD Try.prog Try.f20 (GPost w0 w base d k now0 v0 out) .ret { tmps := tmps, defers := [{ target := .fn (.func 29) #[.pointer (some ⟨A, 0, none⟩), .pointer (some ⟨O, 0, none⟩)], args := #[] }] } wr :=
  end_up ht (ups_ok (h.wl hm) (Jd.sep hw hm hn (by have := h.hi; have := h.bw; omega)) h.cA (cell1 h.cO).1 hi h.cap hl) (fun w' ⟨h1, h2⟩ => h.fin hw hm hn h1 h2 hst hso hnow hres)
/-- All variables have values. -/
theorem goes_end {w0 w : World} {base : Nat} {d : Jd} {now : List Int} {v : Value} {out : List (List Int)} (hw : Jw w0 base d) (h : Js w0 w base d now v out (fun r => s0 (d.rk r) (now.take d.vars))) (ho : OkP d.rks (now.take d.vars)) (hl : out.length ≤ d.most) :
    Calls Try.prog 20 #[.pointer (some ⟨d.J, 0, none⟩), .int .i64 d.vars] w (GPost w0 w base d d.vars now v out) := by
  have HP : GPost w0 w base d d.vars now v out (.returned (.bool true)) w := by
    have hlen : (now.take d.vars).length = d.vars := by rw [List.length_take]; have := h.nl; omega
    refine ⟨true, now, v, [], rfl, by rw [List.append_nil]; exact h, rfl, Chg.refl _ _, fun g hg => .inl hg, fun hk => ?_, fun _ => ⟨rfl, fun _ => ?_, fun _ => rfl⟩⟩
    · have := hw.kv; omega
    · exact ok_all ho (fun k hk => by
        obtain ⟨r, hr, rfl⟩ := mem_rksOf.1 hk
        have := hw.rkv r hr
        rw [hlen]
        omega)
  obtain ⟨c0, _⟩ := h.cells
  have HP := Lib.hid HP
  clear h ho
  go_enter_defers Try.func20, Try.ntmps20
  go_wp2
  exact ⟨.bool true, results_tmp (t := 4) rfl _ _ _, HP.out⟩
end Go.Proofs.Ytejinhnmabnomaa.Lf
end
section
/-
  A visit of a variable, and those behind it. Conditions: the blocks lie as told.
-/
namespace Go.Proofs.Ytejinhnmabnomaa.Lf
open Go.RowKit Go.Proofs.YtejinhnmabnomaaW.PrintWords Go.Proofs.Ytejinhnmabnomaa.Pm Go.Proofs.Ytejinhnmabnomaa.Pw

/-- The slice of a visit's walks has been made. -/
structure Mk0 (w wx : World) (d : Jd) (A b c : Nat) (row : List Nat) : Prop where
  cA : wx.cell? ⟨A, 0, none⟩ = some (.slice (some ⟨b, 0, none⟩) row.length c)
  cells : ∀ j, j < row.length → wx.cell? ⟨b, j, none⟩ = some (d.k (row.getD j 0)).ptr
  cap : row.length ≤ c
  hi : w.heap.size ≤ A ∧ w.heap.size ≤ b
  lt : A < wx.heap.size ∧ b < wx.heap.size
  below : Below w.heap.size w wx
theorem row_ptrs {d : Jd} {row : List Nat} {w : World} {b0 : Nat} (h : ∀ j, j < row.length → w.cell? ⟨b0, j, none⟩ = some (d.k (row.getD j 0)).ptr) : ∀ j k, (row.map d.k)[j]? = some k → w.cell? ⟨b0, 0 + j, none⟩ = some k.ptr := fun j k hj => by
  rw [List.getElem?_map] at hj
  obtain ⟨r, hr, rfl⟩ := Option.map_eq_some_iff.1 hj
  have hlt := (List.getElem?_eq_some_iff.1 hr).1
  have := h j hlt
  rw [Nat.zero_add, this, getD_lt _ _ hlt, (List.getElem?_eq_some_iff.1 hr).2]
theorem cl_form {w : World} {base : Nat} {e : TypeId} {v : Value} {n : Nat} {xs : List Value} (h : w.ownsRow base e 1 v n xs) (hn : v ≠ .slice none 0 0) : ∃ g cap, v = .slice (some ⟨g, 0, none⟩) n cap ∧ base ≤ g ∧ g < w.heap.size ∧ n ≤ cap ∧ ∀ j u, xs[j]? = some u → w.cell? ⟨g, j, none⟩ = some u := by
  obtain ⟨hl, ⟨rfl, _⟩ | ⟨g, cap, cur, rfl, hg, hh, hc, _, _, htk⟩⟩ := h
  · exact absurd rfl hn
  · refine ⟨g, cap, rfl, hg, (Array.getElem?_eq_some_iff.1 hh).1, hc, fun j u hu => ?_⟩
    rw [← htk, List.getElem?_take] at hu
    split at hu
    · simp only [World.cell?, hh]
      simpa using hu
    · cases hu
theorem kept_new {w w1 : World} {v : Value} {t : TypeId} (h : Below ((w.alloc (.cells #[v] t)).drew).heap.size ((w.alloc (.cells #[v] t)).drew) w1) : w1.cell? ⟨w.heap.size, 0, none⟩ = some v ∧ w1.frozen? ⟨w.heap.size, 0, none⟩ = false := by
  have hz : w.heap.size < ((w.alloc (.cells #[v] t)).drew).heap.size := by show w.heap.size < (w.alloc (.cells #[v] t)).heap.size; rw [World.size_alloc]; omega
  exact cell1 ((h.block w.heap.size hz).trans (heap_alloc_new w (.cells #[v] t)))
theorem mk0_one {w w1 W : World} {d : Jd} {row : List Nat} {g1 c1 : Nat} (h : W.heap.size ≤ g1 ∧ g1 < w1.heap.size ∧ row.length ≤ c1 ∧ (∀ j u, ((row.map d.k).map Wr.ptr)[j]? = some u → w1.cell? ⟨g1, j, none⟩ = some u) ∧ Below w.heap.size w w1) (hW : w.heap.size ≤ W.heap.size) :
    Mk0 w (w1.alloc (.cells #[.slice (some ⟨g1, 0, none⟩) row.length c1] 52)) d w1.heap.size g1 c1 row := by
  obtain ⟨h1, h2, h3, h4, h5⟩ := h
  have hb : Below w1.heap.size w1 (w1.alloc (.cells #[.slice (some ⟨g1, 0, none⟩) row.length c1] 52)) := (Below.refl _ _).alloc (Nat.le_refl _) _
  have hs := h5.size
  refine ⟨(cell1 (heap_alloc_new w1 _)).1, fun j hj => (hb.cell (p := ⟨g1, j, none⟩) h2).trans (h4 j _ ?_), h3, ⟨by omega, by omega⟩, ⟨by rw [World.size_alloc]; omega, by rw [World.size_alloc]; omega⟩, below_tr h5 hb hs⟩
  rw [List.map_map, List.getElem?_map, List.getElem?_eq_getElem hj, getD_lt _ _ hj]
  rfl
theorem mk0_two {w w1 W : World} {d : Jd} {row : List Nat} {g1 c1 : Nat} {v : Value} (z : w1.cell? ⟨w.heap.size, 0, none⟩ = some v) (h : W.heap.size ≤ g1 ∧ g1 < w1.heap.size ∧ row.length ≤ c1 ∧ (∀ j u, ((row.map d.k).map Wr.ptr)[j]? = some u → w1.cell? ⟨g1, j, none⟩ = some u) ∧ Below w.heap.size w w1) (hW : w.heap.size < W.heap.size) :
    Mk0 w (w1.setCell ⟨w.heap.size, 0, none⟩ (.slice (some ⟨g1, 0, none⟩) row.length c1)) d w.heap.size g1 c1 row := by
  obtain ⟨h1, h2, h3, h4, h5⟩ := h
  have hc := Chg.of_grown (grown_set w1 w.heap.size 0 (.slice (some ⟨g1, 0, none⟩) row.length c1))
  have hs := h5.size
  have hz := World.block_lt_of_cell? w1 _ z
  refine ⟨World.cell?_setCell_same _ _ _ z, fun j hj => hc.cell (h4 j _ ?_) (by show g1 ≠ _; omega), h3, ⟨by omega, by omega⟩, ⟨Nat.lt_of_lt_of_le hz hc.size, Nat.lt_of_lt_of_le h2 hc.size⟩, h5.setCell (Nat.le_refl _) _⟩
  rw [List.map_map, List.getElem?_map, List.getElem?_eq_getElem hj, getD_lt _ _ hj]
  rfl
/-- So many of a row's walks are open. -/
structure Opn (d : Jd) (row : List Nat) (pre : List Int) (i : Nat) (rs : Nat → RS) : Prop where
  at_ : ∀ j, j < row.length → rs (row.getD j 0) = if j < i then ⟨path (d.rk (row.getD j 0)) pre ++ [(lvl (d.rk (row.getD j 0)).L o1 (path (d.rk (row.getD j 0)) pre)).getD 0 0], false⟩ else s0 (d.rk (row.getD j 0)) pre
  pos : ∀ j, j < row.length → j < i → 0 < (lvl (d.rk (row.getD j 0)).L o1 (path (d.rk (row.getD j 0)) pre)).length
  off : ∀ r, r ∉ row → rs r = s0 (d.rk r) pre
theorem opn_zero (d : Jd) (row : List Nat) (pre : List Int) : Opn d row pre 0 (fun r => s0 (d.rk r) pre) := ⟨fun j _ => by rw [if_neg (by omega)], fun j _ h => by omega, fun _ _ => rfl⟩
theorem Opn.step {d : Jd} {row : List Nat} {pre : List Int} {i : Nat} {rs : Nat → RS} (h : Opn d row pre i rs) (hn : row.Nodup) (hi : i < row.length) (hp : 0 < (lvl (d.rk (row.getD i 0)).L o1 (path (d.rk (row.getD i 0)) pre)).length) :
    Opn d row pre (i + 1) (setR rs (row.getD i 0) ⟨path (d.rk (row.getD i 0)) pre ++ [(lvl (d.rk (row.getD i 0)).L o1 (path (d.rk (row.getD i 0)) pre)).getD 0 0], false⟩) := by
  refine ⟨fun j hj => ?_, fun j hj h1 => ?_, fun r hr => ?_⟩
  · by_cases e : j = i
    · subst e
      rw [setR_self, if_pos (by omega)]
    · rw [setR_ne _ _ _ _ (fun e2 => e (by rw [getD_lt _ _ hj, getD_lt _ _ hi] at e2; exact (List.getElem_inj hn).1 e2)), h.at_ j hj]
      by_cases e2 : j < i
      · rw [if_pos e2, if_pos (by omega)]
      · rw [if_neg e2, if_neg (by omega)]
  · by_cases e : j = i
    · subst e; exact hp
    · exact h.pos j hj (by omega)
  · rw [setR_ne _ _ _ _ (fun e => hr (by rw [e]; exact row_at row hi))]
    exact h.off r hr
theorem Opn.up {d : Jd} {row : List Nat} {pre : List Int} {i : Nat} {rs : Nat → RS} (h : Opn d row pre i rs) : ∀ j, j < row.length → upTo i (fun j => rs (row.getD j 0)) j = s0 (d.rk (row.getD j 0)) pre := fun j hj => by
  show (if j < i then (rUp (rs (row.getD j 0))).1 else rs (row.getD j 0)) = _
  rw [h.at_ j hj]
  by_cases e2 : j < i
  · rw [if_pos e2, if_pos e2]
    exact on_up (on_first (h.pos j hj e2))
  · rw [if_neg e2, if_neg e2]
theorem setR_id {rs : Nat → RS} {r : Nat} {x : RS} (h : rs r = x) : setR rs r x = rs := by
  funext i
  by_cases e : i = r
  · subst e; rw [setR_self, h]
  · exact setR_ne _ _ _ _ e
theorem mk_lo {w0 w wc : World} {base : Nat} {d : Jd} {A b c : Nat} {row : List Nat} {rs : Nat → RS} (h : Mk0 w wc d A b c row) (hb : base ≤ w.heap.size) (hws : ∀ r, r < d.m → Ws w0 w (d.k r) (rs r)) :
    Lo w0 w (wc.alloc (.cells #[.int .i64 0] 3)) base d A wc.heap.size b c row 0 rs := by
  have hbl : Below wc.heap.size wc (wc.alloc (.cells #[.int .i64 0] 3)) := (Below.refl _ _).alloc (Nat.le_refl _) _
  have hs := h.below.size
  have ht := below_tr h.below hbl hs
  have hl := h.lt
  refine ⟨(hbl.cell (p := ⟨A, 0, none⟩) hl.1).trans h.cA, (heap_alloc_new wc _).trans rfl, fun j hj => (hbl.cell (p := ⟨b, j, none⟩) hl.2).trans (h.cells j hj), h.cap, Chg.of_below _ ht, fun r hr => (hws r hr).more ht, ⟨h.hi.1, hs, h.hi.2⟩, ⟨by rw [World.size_alloc]; omega, by rw [World.size_alloc]; omega⟩, ⟨by omega, by omega⟩, hb⟩
theorem res_none {d : Jd} {k : Nat} {pre : List Int} {out : List (List Int)} (hl : out.length ≤ d.most) (h : ¬ ExA d.rks pre) : Res d k pre out [] false :=
  ⟨fun _ => ⟨isS_nil _, fun _ => isE_none h, by rw [List.append_nil]; omega⟩, fun _ => ⟨rfl, fun e => (nomatch e), fun e => absurd e h⟩⟩
/-- What a visit's rounds have brought so far, below bd. -/
def RR (d : Jd) (k : Nat) (pre : List Int) (E : List (List Int)) (any : Bool) (bd : Int) : Prop := (k < d.keep → IsE (PB d.rks d.keep pre (· < bd)) E) ∧ (d.keep ≤ k → E = [] ∧ any = false ∧ ¬ Ex d.rks pre (· < bd))
/-- The rounds of a visit. -/
structure L2 (w0 w wr : World) (base : Nat) (d : Jd) (A O b c : Nat) (row : List Nat) (k : Nat) (now0 : List Int) (v0 : Value) (out0 : List (List Int)) (now : List Int) (v : Value) (E : List (List Int)) (rs : Nat → RS) (any : Bool) (bd : Int) : Prop where
  lv : Lv w0 w wr base d A O b c row row.length v0 now v (out0 ++ E) rs
  pre : now.take k = now0.take k
  lp : Lp row.length (fun j => (d.k (row.getD j 0)).L) (fun j => path (d.rk (row.getD j 0)) (now0.take k)) bd (fun j => rs (row.getD j 0))
  off : ∀ r, r < d.m → r ∉ row → rs r = s0 (d.rk r) (now0.take k)
  len : (out0 ++ E).length ≤ d.most
  rr : RR d k (now0.take k) E any bd
theorem l2_start {w0 w wr : World} {base : Nat} {d : Jd} {A O b c : Nat} {row : List Nat} {k : Nat} {now : List Int} {v : Value} {out : List (List Int)} {rs rs0 : Nat → RS} (hw : Jw w0 base d) (hj : Js w0 w base d now v out rs0) (h : Lo w0 w wr base d A O b c row row.length rs) (ho : Opn d row (now.take k) row.length rs) (hm : ∀ r, r ∈ row ↔ r < d.m ∧ onLevel (d.rk r) k) (hk : k < d.vars) (hp : 0 < row.length) (hl : out.length ≤ d.most) :
    L2 w0 w wr base d A O b c row k now v out now v [] rs false ((lvl (d.k (row.getD 0 0)).L o1 (path (d.rk (row.getD 0 0)) (now.take k))).getD 0 0) := by
  have hlk : (now.take k).length = k := by rw [List.length_take]; have := hj.nl; omega
  have hr : ∀ j, j < row.length → (d.rk (row.getD j 0)).L = (d.k (row.getD j 0)).L := fun j hj => hw.rkL _ ((hm _).1 (row_at row hj)).1
  have hri : ∀ j, j < row.length → (d.k (row.getD j 0)).L.Pairwise (ltR o1) := fun j hj => by rw [← hr j hj]; exact hw.rise _ ((hm _).1 (row_at row hj)).1
  have hlv := h.lv hw hj
  rw [← List.append_nil out] at hlv
  have hmin : ∀ c, Com d.rks (now.take k) c → (lvl (d.k (row.getD 0 0)).L o1 (path (d.rk (row.getD 0 0)) (now.take k))).getD 0 0 ≤ c := fun c hc => by
    have := (com_iff (pre := now.take k) (fun r => by rw [hlk]; exact hm r) c).1 hc 0 hp
    rw [hr 0 hp] at this
    exact head_le (rise_lvl (hri 0 hp) _ (path_le2 _ _)) this
  refine ⟨hlv, rfl, lp_start hri (fun _ _ => path_le2 _ _) hp (fun j hj => ⟨?_, ?_⟩), fun r _ hr => ho.off r hr, by rw [List.append_nil]; exact hl, fun _ => isE_start hw.fit hmin, fun _ => ⟨rfl, rfl, ex_start hw.fit hmin⟩⟩
  · have := ho.at_ j hj
    rw [if_pos hj, hr j hj] at this
    exact this
  · have := ho.pos j hj hj
    rwa [hr j hj] at this
/-- The walks have leapt. -/
theorem L2.leapt {w0 w wr w2 : World} {base : Nat} {d : Jd} {A O b c : Nat} {row : List Nat} {k : Nat} {now0 now : List Int} {v0 v : Value} {out0 E : List (List Int)} {rs : Nat → RS} {any : Bool} {bd : Int} (hw : Jw w0 base d) (h : L2 w0 w wr base d A O b c row k now0 v0 out0 now v E rs any bd) (hm : ∀ r, r ∈ row ↔ r < d.m ∧ onLevel (d.rk r) k) (hn : row.Nodup) {r' : Nat → RS}
    (h1 : WL w0 w2 b row.length (fun j => d.k (row.getD j 0)) r') (h2 : Lp row.length (fun j => (d.k (row.getD j 0)).L) (fun j => path (d.rk (row.getD j 0)) (now0.take k)) bd r') (h3 : Chg (OfG row.length (fun j => d.k (row.getD j 0))) wr w2) :
    L2 w0 w w2 base d A O b c row k now0 v0 out0 now v E (lift row r' rs) any bd ∧ ∀ j, j < row.length → lift row r' rs (row.getD j 0) = r' j := by
  have e : ∀ j, j < row.length → lift row r' rs (row.getD j 0) = r' j := fun j hj => lift_in hn _ _ hj
  refine ⟨⟨h.lv.walks hw (fun r hr => ((hm r).1 hr).1) hn h1 h3, h.pre, ⟨fun i hi => ?_, ?_, fun c hc hb i hi => ?_⟩, fun r hr2 hr => (lift_out _ _ hr).trans (h.off r hr2 hr), h.len, h.rr⟩, e⟩
  · have := h2.on i hi
    rw [← e i hi] at this
    exact this
  · obtain ⟨i, hi, hg⟩ := h2.ge
    rw [← e i hi] at hg
    exact ⟨i, hi, hg⟩
  · have := h2.fin c hc hb i hi
    rw [← e i hi] at this
    exact this
theorem take_set (l : List Int) (k : Nat) (x : Int) (h : k < l.length) : (l.set k x).take (k + 1) = l.take k ++ [x] := by
  refine List.ext_getElem (by simp; omega) fun i h1 h2 => ?_
  rw [List.getElem_take, List.getElem_set]
  by_cases e : k = i
  · subst e
    rw [if_pos rfl, List.getElem_append_right (by simp; omega)]
    simp
  · rw [if_neg e, List.getElem_append_left (by simp at h1 ⊢; omega), List.getElem_take]
/-- All stand at a number, which is put down: what those behind find. -/
theorem L2.down {w0 w w2 w4 : World} {base : Nat} {d : Jd} {A O b c : Nat} {row : List Nat} {k : Nat} {now0 now : List Int} {v0 v : Value} {out0 E : List (List Int)} {rs : Nat → RS} {any : Bool} {bd x : Int} (hw : Jw w0 base d) (h : L2 w0 w w2 base d A O b c row k now0 v0 out0 now v E rs any bd) (hm : ∀ r, r ∈ row ↔ r < d.m ∧ onLevel (d.rk r) k) (hk : k < d.vars) (hp : 0 < row.length)
    (ho : OkP d.rks (now0.take k)) (hx : ∀ j, j < row.length → (rs (row.getD j 0)).beh = false ∧ ky (path (d.rk (row.getD j 0)) (now0.take k)) (rs (row.getD j 0)) = x) (hb : Below w2.heap.size w2 w4) :
    Lv w0 w (w4.setCell ⟨d.nb, k, none⟩ (.int .i64 x)) base d A O b c row row.length v0 (now.set k x) v (out0 ++ E) (fun r => s0 (d.rk r) ((now.set k x).take (k + 1))) ∧
    OkP d.rks ((now.set k x).take (k + 1)) ∧ (now.set k x).take (k + 1) = now0.take k ++ [x] ∧ bd ≤ x ∧ Com d.rks (now0.take k) x ∧ (∀ c, Com d.rks (now0.take k) c → bd ≤ c → x ≤ c) := by
  have hlk : (now0.take k).length = k := by
    have := h.lv.js.nl
    rw [← h.pre, List.length_take]; omega
  have hr : ∀ j, j < row.length → (d.rk (row.getD j 0)).L = (d.k (row.getD j 0)).L := fun j hj => hw.rkL _ ((hm _).1 (row_at row hj)).1
  have hci := com_iff (m := d.m) (rk := d.rk) (pre := now0.take k) (row := row) (fun r => by rw [hlk]; exact hm r)
  obtain ⟨q1, q2, q3⟩ := h.lp.hit hx hp
  have hcx : Com d.rks (now0.take k) x := (hci x).2 (fun i hi => by rw [hr i hi]; exact q2 i hi)
  have he : (now.set k x).take (k + 1) = now0.take k ++ [x] := by rw [take_set _ _ _ (by have := h.lv.js.nl; omega), h.pre]
  refine ⟨?_, by rw [he]; exact ok_snoc hw.fit ho hcx, he, q1, hcx, fun c hc hb2 => q3 c (fun i hi => by have := (hci c).1 hc i hi; rwa [hr i hi] at this) hb2⟩
  have l4 := h.lv.more hw hb
  obtain ⟨p1, p2⟩ := l4.js.put hw k x
  have hi := h.lv.hi
  have hbw := h.lv.bw
  have hlow := hw.low.2.2.2.1
  have l5 := l4.to p2 p1 (fun i _ e => .inr (.inr (.inl e))) (by omega) (by omega) (by omega) (fun _ e => .inl e)
  refine l5.congr (fun r hr2 => ?_)
  rw [he]
  by_cases e : r ∈ row
  · obtain ⟨j, hj, e2⟩ := List.getElem_of_mem e
    have e3 : row.getD j 0 = r := by rw [getD_lt _ _ hj, e2]
    have on := h.lp.on j hj
    have hx2 := hx j hj
    subst e3
    unfold s0
    rw [path_snoc_on (hw.rkv _ hr2).1 (by rw [hlk]; exact ((hm _).1 e).2)]
    exact (on_eq on hx2.1 hx2.2).symm
  · rw [h.off r hr2 e]
    unfold s0
    rw [path_snoc_off (by rw [hlk]; exact fun o => e ((hm r).2 ⟨hr2, o⟩))]
/-- What those behind found, and the row put behind the others. -/
structure L3 (w0 w wr : World) (base : Nat) (d : Jd) (A O b c : Nat) (row : List Nat) (k : Nat) (now0 : List Int) (v0 : Value) (out0 : List (List Int)) (now : List Int) (v : Value) (E : List (List Int)) (any found : Bool) (x : Int) : Prop where
  lv : Lv w0 w wr base d A O b c row row.length v0 now v (out0 ++ E) (fun r => s0 (d.rk r) (now0.take k ++ [x]))
  pre : now.take k = now0.take k
  lo : k < d.keep → IsS (P d.rks d.keep (now0.take k)) E ∧ ((out0 ++ E).length ≤ d.most → IsE (PB d.rks d.keep (now0.take k) (· < x + 1)) E) ∧ (out0 ++ E).length ≤ d.most + 1
  hi : d.keep ≤ k → E = [] ∧ any = found ∧ (found = true → ExA d.rks (now0.take k)) ∧ (found = false → ¬ Ex d.rks (now0.take k) (· < x + 1))
section
variable {w0 w wr w2 w5 : World} {base : Nat} {d : Jd} {A O b c : Nat} {row : List Nat} {k : Nat} {now0 now now5 : List Int} {v0 v v5 : Value} {out0 E E5 : List (List Int)} {any found res5 : Bool} {bd x : Int}
/-- Behind a visit of the next variable. -/
theorem nest (hw : Jw w0 base d) (h : Lv w0 w wr base d A O b c row row.length v0 (now.set k x) v (out0 ++ E) (fun r => s0 (d.rk r) ((now.set k x).take (k + 1)))) (he : (now.set k x).take (k + 1) = now0.take k ++ [x])
    (hj : Js w0 w5 base d now5 v5 (out0 ++ E ++ E5) (fun r => s0 (d.rk r) ((now.set k x).take (k + 1)))) (hn : now5.take (k + 1) = (now.set k x).take (k + 1)) (hc : Chg (d.D v) wr w5) (ho : ∀ g, v5.ownBlock = some g → v.ownBlock = some g ∨ wr.heap.size ≤ g) :
    Lv w0 w w5 base d A O b c row row.length v0 now5 v5 (out0 ++ (E ++ E5)) (fun r => s0 (d.rk r) (now0.take k ++ [x])) ∧ now5.take (k + 1) = now0.take k ++ [x] := by
  obtain ⟨n1, n2, n3⟩ := h.notD hw
  refine ⟨?_, hn.trans he⟩
  have := h.to hc hj h.subD n1 n2 n3 ho
  rw [List.append_assoc, he] at this
  exact this
theorem take_pre (h : now5.take (k + 1) = now0.take k ++ [x]) (hl : (now0.take k).length = k) : now5.take k = now0.take k := by
  have h1 : now5.take k = (now5.take (k + 1)).take k := by rw [List.take_take, Nat.min_eq_left (by omega)]
  rw [h1, h, List.take_append_of_le_length (by omega)]
  exact List.take_of_length_le (by omega)
variable (hk3 : k < d.vars) (hw : Jw w0 base d) (hlk : (now0.take k).length = k) (hrr : RR d k (now0.take k) E any bd) (hq : bd ≤ x ∧ Com d.rks (now0.take k) x ∧ (∀ c, Com d.rks (now0.take k) c → bd ≤ c → x ≤ c))
  (hres : Res d (k + 1) (now0.take k ++ [x]) (out0 ++ E) E5 res5)
include hw hlk hrr hq hres
theorem l3_a (hk : k + 1 < d.keep) (hl : Lv w0 w w5 base d A O b c row row.length v0 now5 v5 (out0 ++ (E ++ E5)) (fun r => s0 (d.rk r) (now0.take k ++ [x]))) (hn : now5.take (k + 1) = now0.take k ++ [x]) (any2 : Bool) :
    L3 w0 w w5 base d A O b c row k now0 v0 out0 now5 v5 (E ++ E5) any2 res5 x := by
  obtain ⟨r1, r2, r3⟩ := hres.1 hk
  have hE := hrr.1 (by omega)
  rw [List.append_assoc] at r2 r3
  exact ⟨hl, take_pre hn hlk, fun _ => ⟨isS_step hE hq.1 r1 (by omega), fun h => isE_step hw.fit hE hq.2.2 hq.1 (r2 h) (by omega), r3⟩, fun h => by omega⟩
theorem l3_b (hk : k + 1 = d.keep) (hlen : (out0 ++ E).length ≤ d.most) : E5 = [] ∧
    (res5 = true → Lv w0 w w5 base d A O b c row row.length v0 now5 v5 (out0 ++ E ++ [now0.take k ++ [x]]) (fun r => s0 (d.rk r) (now0.take k ++ [x])) → now5.take (k + 1) = now0.take k ++ [x] → ∀ any2, L3 w0 w w5 base d A O b c row k now0 v0 out0 now5 v5 (E ++ [now0.take k ++ [x]]) any2 res5 x) ∧
    (res5 = false → Lv w0 w w5 base d A O b c row row.length v0 now5 v5 (out0 ++ E) (fun r => s0 (d.rk r) (now0.take k ++ [x])) → now5.take (k + 1) = now0.take k ++ [x] → ∀ any2, L3 w0 w w5 base d A O b c row k now0 v0 out0 now5 v5 E any2 res5 x) := by
  obtain ⟨r1, r2⟩ := hres.2 (by omega)
  have hE := hrr.1 (by omega)
  have hlast := isE_last (rks := d.rks) (keep := d.keep) (pre := now0.take k ++ [x]) (by rw [List.length_append, hlk, List.length_singleton]; exact hk) res5 r2
  refine ⟨r1, fun e hl hn any2 => ?_, fun e hl hn any2 => ?_⟩
  · rw [if_pos e] at hlast
    rw [List.append_assoc] at hl
    have := isE_step hw.fit hE hq.2.2 hq.1 hlast (by omega)
    refine ⟨hl, take_pre hn hlk, fun _ => ⟨isS_step hE hq.1 hlast.toS (by omega), fun _ => this, ?_⟩, fun h => by omega⟩
    rw [← List.append_assoc, List.length_append, List.length_singleton]
    omega
  · rw [e, if_neg (by simp)] at hlast
    have := isE_step hw.fit hE hq.2.2 hq.1 hlast (by omega)
    rw [List.append_nil] at this
    have h2 := isS_step hE hq.1 hlast.toS (by omega)
    rw [List.append_nil] at h2
    exact ⟨hl, take_pre hn hlk, fun _ => ⟨h2, fun _ => this, by omega⟩, fun h => by omega⟩
theorem l3_c (hk : d.keep ≤ k) (hl : Lv w0 w w5 base d A O b c row row.length v0 now5 v5 (out0 ++ (E ++ E5)) (fun r => s0 (d.rk r) (now0.take k ++ [x]))) (hn : now5.take (k + 1) = now0.take k ++ [x]) :
    any = false ∧ L3 w0 w w5 base d A O b c row k now0 v0 out0 now5 v5 (E ++ E5) res5 res5 x := by
  obtain ⟨r1, r2⟩ := hres.2 (by omega)
  obtain ⟨q1, q2, q3⟩ := hrr.2 hk
  refine ⟨q2, hl, take_pre hn hlk, fun h => by omega, fun _ => ⟨by rw [q1, r1]; rfl, rfl, fun e => ?_, fun e hex => ?_⟩⟩
  · obtain ⟨g, a1, a2⟩ := r2.1 e
    exact ⟨g, a1, ((agr_snoc _ _ _).1 a2).1⟩
  · rcases (ex_step hw.fit hq.2.2 hq.1).1 hex with h | h
    · exact q3 h
    · have := r2.2 h; rw [e] at this; cases this
/-- No row is put down. -/
theorem l3_skip (hlen : (out0 ++ E).length ≤ d.most) (hf : res5 = false ∨ k + 1 ≠ d.keep) (hl : Lv w0 w w5 base d A O b c row row.length v0 now5 v5 (out0 ++ (E ++ E5)) (fun r => s0 (d.rk r) (now0.take k ++ [x]))) (hn : now5.take (k + 1) = now0.take k ++ [x]) :
    L3 w0 w w5 base d A O b c row k now0 v0 out0 now5 v5 (E ++ E5) (any || res5) res5 x := by
  by_cases h1 : k + 1 < d.keep
  · exact l3_a hw hlk hrr hq hres h1 hl hn _
  · by_cases h2 : k + 1 = d.keep
    · obtain ⟨e1, _, e3⟩ := l3_b hw hlk hrr hq hres (w5 := w5) (w := w) (w0 := w0) (base := base) (A := A) (O := O) (b := b) (c := c) (row := row) (v0 := v0) (now5 := now5) (v5 := v5) h2 hlen
      rw [e1, List.append_nil] at hl ⊢
      exact e3 (hf.resolve_right (fun e => e h2)) hl hn _
    · obtain ⟨e1, e2⟩ := l3_c hw hlk hrr hq hres (by omega) hl hn
      rw [e1]
      exact e2
end
/-- A row is put down. -/
theorem Lv.app {w0 w w5 w3 w4 : World} {base : Nat} {d : Jd} {A O b c i : Nat} {row : List Nat} {v0 : Value} {now : List Int} {v : Value} {out : List (List Int)} {rs : Nat → RS} (hw : Jw w0 base d) (h : Lv w0 w w5 base d A O b c row i v0 now v out rs) (hb : Below w5.heap.size w5 w3) {vs : List Value} (hvl : vs.length = out.length) (hvs : ∀ i, i < out.length → RowI w5 base v.ownBlock (vs.getD i undef) (out.getD i [])) {x : Value} {l : List Int} (hx : RowI w3 w5.heap.size none x l)
    {v1 : Value} (h4 : w4.ownsRow base 23 1 v1 (out.length + 1) (vs ++ [x])) (hg : w3.grownBy w4 v.ownBlock) (hv1 : ∀ g, v1.ownBlock = some g → v.ownBlock = some g ∨ w3.heap.size ≤ g) :
    Lv w0 w (w4.setCell ⟨d.J, 5, none⟩ v1) base d A O b c row i v0 now v1 (out ++ [l]) rs := by
  obtain ⟨j1, j2⟩ := h.js.app hw hb hvl hvs hx h4 hg hv1
  have hi := h.hi
  have hbw := h.bw
  have hl := hw.low.1
  have hs := hb.size
  refine h.to j2 j1 (fun x hx e => ?_) (fun e => ?_) (fun e => ?_) (fun e => ?_) (fun g e => ?_)
  · rcases e with e | e
    · exact .inr (.inl e)
    · rcases (h.own x e).1 with e | e
      · exact .inr (.inr (.inr e))
      · omega
  · rcases e with e | e
    · have e : A = d.J := e
      omega
    · exact (h.own _ e).2.1 rfl
  · rcases e with e | e
    · have e : O = d.J := e
      omega
    · exact (h.own _ e).2.2.1 rfl
  · rcases e with e | e
    · have e : b = d.J := e
      omega
    · exact (h.own _ e).2.2.2 rfl
  · rcases hv1 g e with e | e
    · exact .inl e
    · exact .inr (by omega)
theorem keepJ {w3 w4 : World} {o : Obj} {ow : Option Nat} {J : Nat} (hg : (w3.alloc o).grownBy w4 ow) (hJ : some J ≠ ow) (hl : J < w3.heap.size) (i : Nat) : w4.cell? ⟨J, i, none⟩ = w3.cell? ⟨J, i, none⟩ ∧ w4.frozen? ⟨J, i, none⟩ = w3.frozen? ⟨J, i, none⟩ := by
  have hb : Below w3.heap.size w3 (w3.alloc o) := (Below.refl _ _).alloc (Nat.le_refl _) _
  have h1 : w4.heap[J]? = w3.heap[J]? := (hg.block J (Nat.lt_of_lt_of_le hl hb.size) hJ).trans (hb.block J hl)
  exact ⟨World.cell?_of_block h1, World.frozen?_of_block h1⟩
/-- What a cell holds. -/
def cellV (W : World) (a : Addr) : Value := (W.cell? a).getD undef
theorem cellV_of {W : World} {a : Addr} {v : Value} (h : W.cell? a = some v) : W.cell? a = some (cellV W a) := by unfold cellV; rw [h]; rfl
theorem cellV_is {W : World} {a : Addr} {v : Value} (h : W.cell? a = some v) : cellV W a = v := by unfold cellV; rw [h]; rfl
theorem set_other {W : World} {J i j : Nat} {v u : Value} (h : W.cell? ⟨J, i, none⟩ = some v) (hn : j ≠ i) : (W.setCell ⟨J, j, none⟩ u).cell? ⟨J, i, none⟩ = some v :=
  (World.cell?_setCell_other _ _ _ _ (fun e => hn (by injection e))).trans h
theorem alloc_cell {W : World} {o : Obj} {J i : Nat} {v : Value} (h : W.cell? ⟨J, i, none⟩ = some v) : (W.alloc o).cell? ⟨J, i, none⟩ = some v :=
  (((Below.refl _ W).alloc (Nat.le_refl _) o).cell (p := ⟨J, i, none⟩) (World.block_lt_of_cell? W _ h)).trans h
theorem own_below {w w' : World} {base : Nat} {e : TypeId} {v : Value} {n : Nat} {xs : List Value} (h : w.ownsRow base e 1 v n xs) (hb : Below w.heap.size w w') : w'.ownsRow base e 1 v n xs :=
  World.ownsRow.kept h (row := none) ⟨hb.os, hb.tape, hb.output, hb.size, fun i hi _ => hb.block i hi⟩ (by cases v.ownBlock <;> simp)
theorem app_end {w0 w w5 w3 w4 : World} {base : Nat} {d : Jd} {A O b c k n gg cp g3 cp3 : Nat} {row : List Nat} {now0 now5 : List Int} {v0 v5 : Value} {out0 E : List (List Int)} {any res5 : Bool} {x : Int} {Av : Option Addr} {cv : Nat} {vs : List Value} (hw : Jw w0 base d)
    (hB : Lv w0 w w5 base d A O b c row row.length v0 now5 v5 (out0 ++ E) (fun r => s0 (d.rk r) (now0.take k ++ [x])) ∧ v5 = .slice Av (out0 ++ E).length cv ∧ k + 1 = d.keep ∧ res5 = true ∧ ((∀ (w6 : World) (v6 : Value), Lv w0 w w6 base d A O b c row row.length v0 now5 v6 (out0 ++ E ++ [now0.take k ++ [x]]) (fun r => s0 (d.rk r) (now0.take k ++ [x])) → now5.take (k + 1) = now0.take k ++ [x] → ∀ any2, L3 w0 w w6 base d A O b c row k now0 v0 out0 now5 v6 (E ++ [now0.take k ++ [x]]) any2 res5 x)))
    (hV : w5.ownsRow base 23 1 (.slice Av n cv) n vs ∧ vs.length = n ∧ ∀ i, i < n → RowI w5 base v5.ownBlock (vs.getD i undef) ((out0 ++ E).getD i [])) (hn : (out0 ++ E).length = n)
    (hC : w5.drew.heap.size ≤ g3 ∧ g3 < w3.heap.size ∧ d.keep ≤ cp3 ∧ (∀ j u, ((now5.take d.keep).map (Value.int .i64))[j]? = some u → w3.cell? ⟨g3, j, none⟩ = some u) ∧ Below w5.drew.heap.size w5.drew w3)
    (hD : w4.ownsRow base 23 1 (.slice (some ⟨gg, 0, none⟩) (n + 1) cp) (n + 1) (vs ++ [.slice (some ⟨g3, 0, none⟩) d.keep cp3]) ∧ (w3.alloc (.cells #[.slice (some ⟨g3, 0, none⟩) d.keep cp3] 23)).grownBy w4 (Value.slice Av n cv).ownBlock ∧ ((Value.slice Av n cv).ownBlock = some gg ∨ gg = w3.heap.size + 1)) (h5 : now5.take (k + 1) = now0.take k ++ [x]) :
    ∃ (any' : Bool) (now6 : List Int) (v6 : Value) (E6 : List (List Int)), Value.bool (any || res5) = .bool any' ∧ L3 w0 w (w4.setCell ⟨d.J, 5, none⟩ (.slice (some ⟨gg, 0, none⟩) (n + 1) cp)) base d A O b c row k now0 v0 out0 now6 v6 E6 any' res5 x := by
  obtain ⟨hB, hv5, hkk, _, hL3⟩ := hB
  obtain ⟨hV1, hV2, hV3⟩ := hV
  obtain ⟨hC1, hC2, hC3, hC4, hC5⟩ := hC
  obtain ⟨hD1, hD2, hD3⟩ := hD
  have hb3 : Below w5.heap.size w5 w3 := below_tr (Below.drew (Below.refl _ _)) hC5 (Nat.le_refl _)
  have hba : Below w3.heap.size w3 (w3.alloc (.cells #[.slice (some ⟨g3, 0, none⟩) d.keep cp3] 23)) := (Below.refl _ _).alloc (Nat.le_refl _) _
  have hl5 : (now5.take d.keep).length = d.keep := by rw [List.length_take, hB.js.nl]; have := hw.kv; omega
  have he : now5.take d.keep = now0.take k ++ [x] := by rw [← hkk]; exact h5
  refine ⟨_, now5, _, _, rfl, hL3 _ _ (hB.app hw (w3 := w3.alloc (.cells #[.slice (some ⟨g3, 0, none⟩) d.keep cp3] 23)) (below_tr hb3 hba hb3.size) (vs := vs) (by rw [hn]; exact hV2) (by rw [hn]; exact hV3) (x := .slice (some ⟨g3, 0, none⟩) d.keep cp3) (l := now0.take k ++ [x]) ?_ (by rw [hn]; exact hD1) (by rw [hv5, hn]; exact hD2) ?_) h5 _⟩
  · refine ⟨g3, cp3, by rw [← he, hl5], by rw [← he, hl5]; exact hC3, hC1, Nat.lt_of_lt_of_le hC2 hba.size, (fun e => nomatch e), fun j hj => ?_⟩
    refine alloc_cell (hC4 j _ ?_)
    rw [he, List.getElem?_map, List.getElem?_eq_getElem hj, getD_lt _ _ hj]
    rfl
  · intro g hg
    have hg : gg = g := by simpa [Value.ownBlock] using hg
    subst hg
    rcases hD3 with e | e
    · exact .inl (by rw [hv5, hn]; exact e)
    · exact .inr (by rw [World.size_alloc]; omega)
/-- The first walk goes on. -/
theorem L3.next {w0 w wr w2 : World} {base : Nat} {d : Jd} {A O b c : Nat} {row : List Nat} {k : Nat} {now0 now : List Int} {v0 v : Value} {out0 E : List (List Int)} {any found : Bool} {x : Int} (hw : Jw w0 base d) (h : L3 w0 w wr base d A O b c row k now0 v0 out0 now v E any found x) (hm : ∀ r, r ∈ row ↔ r < d.m ∧ onLevel (d.rk r) k) (hn : row.Nodup) (hlk : (now0.take k).length = k) (hk : k < d.vars) (hp : 0 < row.length) (hc : Com d.rks (now0.take k) x) (hlen : (out0 ++ E).length ≤ d.most) (hf : d.keep ≤ k → found = false)
    (hws : Ws w0 w2 (d.k (row.getD 0 0)) (rNext (d.k (row.getD 0 0)).L o1 (s0 (d.rk (row.getD 0 0)) (now0.take k ++ [x]))).1) (hch : Chg (fun i => i = (d.k (row.getD 0 0)).g) wr w2) :
    ∃ rs, L2 w0 w w2 base d A O b c row k now0 v0 out0 now v E rs any (x + 1) := by
  have hmr : ∀ r ∈ row, r < d.m := fun r hr => ((hm r).1 hr).1
  have hr : ∀ j, j < row.length → (d.rk (row.getD j 0)).L = (d.k (row.getD j 0)).L := fun j hj => hw.rkL _ (hmr _ (row_at row hj))
  have hri : ∀ j, j < row.length → (d.k (row.getD j 0)).L.Pairwise (ltR o1) := fun j hj => by rw [← hr j hj]; exact hw.rise _ (hmr _ (row_at row hj))
  have hsn : ∀ j, j < row.length → path (d.rk (row.getD j 0)) (now0.take k ++ [x]) = path (d.rk (row.getD j 0)) (now0.take k) ++ [x] := fun j hj => path_snoc_on (hw.rkv _ (hmr _ (row_at row hj))).1 (by rw [hlk]; exact ((hm _).1 (row_at row hj)).2) x
  have hci := (com_iff (m := d.m) (rk := d.rk) (pre := now0.take k) (row := row) (fun r => by rw [hlk]; exact hm r) x).1 hc
  have top := (h.lv.js.ws _ (hmr _ (row_at row hp))).top
  have lv2 := h.lv.walk hw hmr hp hws hch
  have lpn := Lp.next (n := row.length) (L := fun j => (d.k (row.getD j 0)).L) (p := fun j => path (d.rk (row.getD j 0)) (now0.take k)) (x := x) (r := fun j => s0 (d.rk (row.getD j 0)) (now0.take k ++ [x])) (fun i hi => by
      show On _ _ (s0 _ _)
      unfold s0
      rw [hsn i hi]
      exact ⟨by simp, by simp, fun _ => by rw [ky_snoc, ← hr i hi]; exact hci i hi⟩) (fun i hi => ⟨rfl, by
      show ky _ (s0 _ _) = x
      unfold s0
      rw [hsn i hi, ky_snoc]⟩) hri (fun _ _ => path_le2 _ _) hp (fun c hc2 => by
      obtain ⟨i, hi, _, e⟩ := ((lvl_sorted _ o1 _ (hri 0 hp) (path_le2 _ _)).2 c).1 hc2
      rw [← e]
      exact top _ i hi)
  refine ⟨_, lv2, h.pre, ?_, fun r hr3 hr2 => ?_, hlen, fun hk2 => (h.lo hk2).2.1 hlen, fun hk2 => ?_⟩
  · have e : ∀ j, j < row.length → setR (fun r => s0 (d.rk r) (now0.take k ++ [x])) (row.getD 0 0) (rNext (d.k (row.getD 0 0)).L o1 (s0 (d.rk (row.getD 0 0)) (now0.take k ++ [x]))).1 (row.getD j 0) = setR (fun j => s0 (d.rk (row.getD j 0)) (now0.take k ++ [x])) 0 (rNext (d.k (row.getD 0 0)).L o1 (s0 (d.rk (row.getD 0 0)) (now0.take k ++ [x]))).1 j := fun j hj => by
      by_cases e : j = 0
      · subst e; rw [setR_self, setR_self]
      · rw [setR_ne _ _ _ _ e, setR_ne _ _ _ _ (fun e2 => e (by rw [getD_lt _ _ hj, getD_lt _ _ hp] at e2; exact (List.getElem_inj hn).1 e2))]
    refine ⟨fun i hi => ?_, ?_, fun c hc2 hb i hi => ?_⟩
    · have := lpn.on i hi
      rw [← e i hi] at this
      exact this
    · obtain ⟨i, hi, hg⟩ := lpn.ge
      rw [← e i hi] at hg
      exact ⟨i, hi, hg⟩
    · have := lpn.fin c hc2 hb i hi
      rw [← e i hi] at this
      exact this
  · rw [setR_ne _ _ _ _ (fun e => hr2 (by rw [e]; exact row_at row hp))]
    unfold s0
    rw [path_snoc_off (by rw [hlk]; exact fun o => hr2 ((hm r).2 ⟨hr3, o⟩))]
  · obtain ⟨q1, q2, _, q4⟩ := h.hi hk2
    exact ⟨q1, by rw [q2, hf hk2], q4 (hf hk2)⟩
theorem Out.form {w : World} {base : Nat} {v : Value} {out : List (List Int)} (h : Out w base v out) : ∃ A c, v = .slice A out.length c ∧ out.length ≤ c := by
  obtain ⟨vs, ⟨_, ⟨rfl, hn⟩ | ⟨g, cap, cur, rfl, _, _, hc, _⟩⟩, _⟩ := h.own
  · exact ⟨none, 0, by rw [hn], by omega⟩
  · exact ⟨_, cap, rfl, hc⟩
/-- One of the walks is behind its last number. -/
theorem L2.fin {w0 w wr : World} {base : Nat} {d : Jd} {A O b c : Nat} {row : List Nat} {k : Nat} {now0 now : List Int} {v0 v : Value} {out0 E : List (List Int)} {rs : Nat → RS} {any : Bool} {bd : Int} (hw : Jw w0 base d) (h : L2 w0 w wr base d A O b c row k now0 v0 out0 now v E rs any bd) (hm : ∀ r, r ∈ row ↔ r < d.m ∧ onLevel (d.rk r) k) (hlk : (now0.take k).length = k)
    (hb : ∃ j, j < row.length ∧ (rs (row.getD j 0)).beh = true) : (∀ j, j < row.length → upTo row.length (fun j => rs (row.getD j 0)) j = s0 (d.rk (row.getD j 0)) (now0.take k)) ∧ Res d k (now0.take k) out0 E any := by
  have hmiss : ∀ c, Com d.rks (now0.take k) c → ¬ bd ≤ c := fun c hc => h.lp.miss hb c (fun i hi => by
    have := (com_iff (m := d.m) (rk := d.rk) (pre := now0.take k) (row := row) (fun r => by rw [hlk]; exact hm r) c).1 hc i hi
    rwa [hw.rkL _ ((hm _).1 (row_at row hi)).1] at this)
  refine ⟨fun j hj => ?_, fun hk => ?_, fun hk => ?_⟩
  · show (if j < row.length then (rUp (rs (row.getD j 0))).1 else _) = _
    rw [if_pos hj]
    exact on_up (h.lp.on j hj)
  · have := isE_end hw.fit (h.rr.1 hk) hmiss
    exact ⟨this.toS, fun _ => this, by have := h.len; omega⟩
  · obtain ⟨q1, q2, q3⟩ := h.rr.2 hk
    refine ⟨q1, ⟨fun e => ?_, fun e => absurd ((ex_end hw.fit hmiss).1 e) q3⟩⟩
    rw [q2] at e; cases e
/-- A visit returns behind what those behind found. -/
theorem L3.up {d : Jd} {row : List Nat} {k : Nat} {pre : List Int} {x : Int} {w0 : World} {base : Nat} (hw : Jw w0 base d) (hm : ∀ r, r ∈ row ↔ r < d.m ∧ onLevel (d.rk r) k) (hlk : pre.length = k) :
    (∀ j, j < row.length → upTo row.length (fun j => s0 (d.rk (row.getD j 0)) (pre ++ [x])) j = s0 (d.rk (row.getD j 0)) pre) ∧ ∀ r, r < d.m → r ∉ row → s0 (d.rk r) (pre ++ [x]) = s0 (d.rk r) pre := by
  refine ⟨fun j hj => ?_, fun r hr hn => ?_⟩
  · show (if j < row.length then (rUp (s0 (d.rk (row.getD j 0)) (pre ++ [x]))).1 else _) = _
    rw [if_pos hj]
    unfold s0
    rw [path_snoc_on (hw.rkv _ ((hm _).1 (row_at row hj)).1).1 (by rw [hlk]; exact ((hm _).1 (row_at row hj)).2)]
    unfold rUp
    rw [if_neg (by simp)]
    simp
  · unfold s0
    rw [path_snoc_off (by rw [hlk]; exact fun o => hn ((hm r).2 ⟨hr, o⟩))]
theorem below_drewN (w : World) (n : Nat) : Below w.heap.size w (w.drewN n) := ⟨rfl, rfl, rfl, Nat.le_refl _, fun _ _ => rfl⟩
theorem L3.more {w0 w wr w2 : World} {base : Nat} {d : Jd} {A O b c : Nat} {row : List Nat} {k : Nat} {now0 now : List Int} {v0 v : Value} {out0 E : List (List Int)} {any found : Bool} {x : Int} (hw : Jw w0 base d) (h : L3 w0 w wr base d A O b c row k now0 v0 out0 now v E any found x) (hb : Below wr.heap.size wr w2) : L3 w0 w w2 base d A O b c row k now0 v0 out0 now v E any found x :=
  ⟨h.lv.more hw hb, h.pre, h.lo, h.hi⟩
theorem L3.many {w0 w wr : World} {base : Nat} {d : Jd} {A O b c : Nat} {row : List Nat} {k : Nat} {now0 now : List Int} {v0 v : Value} {out0 E : List (List Int)} {any found : Bool} {x : Int} (h : L3 w0 w wr base d A O b c row k now0 v0 out0 now v E any found x) (hl : out0.length ≤ d.most) (hm : d.most < (out0 ++ E).length) : Res d k (now0.take k) out0 E any :=
  ⟨fun hk => ⟨(h.lo hk).1, fun e => by omega, (h.lo hk).2.2⟩, fun hk => by have := (h.hi hk).1; rw [this, List.append_nil] at hm; omega⟩
theorem L3.some {w0 w wr : World} {base : Nat} {d : Jd} {A O b c : Nat} {row : List Nat} {k : Nat} {now0 now : List Int} {v0 v : Value} {out0 E : List (List Int)} {any : Bool} {x : Int} (h : L3 w0 w wr base d A O b c row k now0 v0 out0 now v E any true x) (hk : d.keep ≤ k) : Res d k (now0.take k) out0 E any :=
  ⟨fun hk => by omega, fun _ => ⟨(h.hi hk).1, fun _ => (h.hi hk).2.2.1 rfl, fun _ => (h.hi hk).2.1⟩⟩
end Go.Proofs.Ytejinhnmabnomaa.Lf
end
