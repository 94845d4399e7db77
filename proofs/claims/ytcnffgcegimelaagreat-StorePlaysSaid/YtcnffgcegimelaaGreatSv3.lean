/-
  A store in memory: a version's indexes. Conditions: the store lies as told.
-/
import Derived.Test.YtcnffgcegimelaaGreatK6
namespace Go.Proofs.YtcnffgcegimelaaGreat.So
open Go.RowKit Go.Proofs.YtcnffgcegimelaaGreat.Mp Go.Proofs.YtcnffgcegimelaaGreat.Wd Go.Proofs.YtcnffgcegimelaaGreat.Pm Go.Proofs.YtcnffgcegimelaaGreat.Pw

theorem roundA (wr : World) (a b c : ByteArray) : Below wr.heap.size wr (((wr.alloc (.cells #[.string a, .string b, .string c] 35 (0, 0))).alloc (.cells #[.int .i64 0, .int .i64 0, .int .i64 0] 80 (0, 0))).alloc (.cells #[.string a, .string b, .string c] 9 (0, 0))) ∧
    (((wr.alloc (.cells #[.string a, .string b, .string c] 35 (0, 0))).alloc (.cells #[.int .i64 0, .int .i64 0, .int .i64 0] 80 (0, 0))).alloc (.cells #[.string a, .string b, .string c] 9 (0, 0))).heap[wr.heap.size + 1]? = some (.cells #[.int .i64 0, .int .i64 0, .int .i64 0] 80 (0, 0)) ∧
    (((wr.alloc (.cells #[.string a, .string b, .string c] 35 (0, 0))).alloc (.cells #[.int .i64 0, .int .i64 0, .int .i64 0] 80 (0, 0))).alloc (.cells #[.string a, .string b, .string c] 9 (0, 0))).heap[wr.heap.size + 1 + 1]? = some (.cells #[.string a, .string b, .string c] 9 (0, 0)) := by
  refine ⟨(((Below.refl _ _).alloc (Nat.le_refl _) _).alloc (by simp) _).alloc (by simp; omega) _, ?_, ?_⟩
  · rw [Below.heap_alloc _ _ _ (by simp)]
    have := heap_alloc_new (wr.alloc (.cells #[.string a, .string b, .string c] 35 (0, 0))) (.cells #[.int .i64 0, .int .i64 0, .int .i64 0] 80 (0, 0))
    rwa [World.size_alloc] at this
  · have := heap_alloc_new ((wr.alloc (.cells #[.string a, .string b, .string c] 35 (0, 0))).alloc (.cells #[.int .i64 0, .int .i64 0, .int .i64 0] 80 (0, 0))) (.cells #[.string a, .string b, .string c] 9 (0, 0))
    rwa [World.size_alloc, World.size_alloc] at this
theorem sliceA {wA wx : World} {t : Tri} {col : Nat → Nat} {wr : World} (h : wA.heap[wr.heap.size + 1 + 1]? = some (.cells #[.string t.S, .string t.P, .string t.O] 9 (0, 0))) (c : Chg (fun i => farC col wr i < 7 ∨ i = wr.heap.size + 1) wA wx) (j : Nat) (hj : j < 3) : wx.cell? ⟨wr.heap.size + 1 + 1, j, none⟩ = some (.string (wAt t j)) := by
  refine c.cell ?_ (fun e => ?_)
  · match j, hj with
    | 0, _ => simp [World.cell?, h, wAt]
    | 1, _ => simp [World.cell?, h, wAt]
    | 2, _ => simp [World.cell?, h, wAt]
  · rcases e with e | e
    · have e' : farC col wr (wr.heap.size + 1 + 1) < 7 := e
      rw [farC_new (by omega)] at e'
      omega
    · have e' : wr.heap.size + 1 + 1 = wr.heap.size + 1 := e
      omega
theorem rowC {wx : World} {B : Nat} {ws : List ByteArray} {t : Tri} {j : Nat} (h : wx.heap[B]? = some (.cells (rowJ ws t j) 80 (0, 0))) (i : Nat) (hi : i < 3) : wx.cell? ⟨B, i, none⟩ = some (.int .i64 (numJ ws t j i)) := by
  simp [World.cell?, h, rowJ_get ws t j i hi]
theorem rowB {w0 : Nat} {wA wx w2 : World} {k : SW} {s : SS} {col col2 col3 : Nat → Nat} {wsA ws2 : List ByteArray} {t : Tri} {j : Nat} {dv2 dv3 : Value} {wr : World} (h : L2 w0 wA wx (wr.heap.size + 1) k s (farC col wr) wsA t j dv2 col2 ws2) (hB : wr.heap.size + 1 < wA.heap.size) (hst : StepS wx { k with dv := dv2, col := col2 } w2 { k with dv := dv3, col := col3 }) :
    (∀ i, i < 3 → w2.cell? ⟨wr.heap.size + 1, i, none⟩ = some (.int .i64 (numJ ws2 t j i))) ∧ ∀ i, w2.frozen? ⟨wr.heap.size + 1, i, none⟩ = false := by
  have hc : farC col wr (wr.heap.size + 1) = 8 := farC_new (by omega)
  have sA := h.chg.size
  have c2 : col2 (wr.heap.size + 1) = 8 := (h.like _ hB).trans hc
  have b2 : w2.heap[wr.heap.size + 1]? = some (.cells (rowJ ws2 t j) 80 (0, 0)) := (hst.chg.block _ (by omega) (fun e => by have e' : col2 (wr.heap.size + 1) < 7 := e; omega)).trans h.row
  exact ⟨rowC b2, fun i => heap_free b2 i⟩
/-- Rows that the call owns, as a slice of rows. -/
theorem own_slr {w : World} {base : Nat} {v : Value} {l : List R3} (h : G.OwnL w base 80 3 enc3 v l) : SlR w v l := by
  obtain ⟨A, c, hv, hc, hA, hr⟩ := h.sl
  by_cases hl : l = []
  · subst hl
    obtain ⟨_, ⟨rfl, _⟩ | ⟨g, cap, cur, rfl, hg, hb, hcap, _⟩⟩ := id h
    · exact ⟨none, 0, rfl, Nat.le_refl _, Or.inl ⟨rfl, rfl⟩⟩
    · exact ⟨_, cap, rfl, hcap, Or.inr ⟨g, 0, rfl, (Array.getElem?_eq_some_iff.1 hb).1, fun k i hk _ => by simp at hk⟩⟩
  · obtain ⟨b, off, hA', hb, hcl⟩ := hr hl
    refine ⟨A, c, hv, hc, Or.inr ⟨b, off, hA', hb, fun k i hk hi => ?_⟩⟩
    have h1 := G.flat_getElem 3 enc3 enc3_len l k i (l.getD k r0) (by rw [List.getD_eq_getElem?_getD, List.getElem?_eq_getElem hk]; rfl) hi
    have h2 : (enc3 (l.getD k r0))[i]? = some (.int .i64 ((l.getD k r0).at i)) := by
      match i, hi with
      | 0, _ => rfl
      | 1, _ => rfl
      | 2, _ => rfl
    have := hcl (k * 3 + i) _ (h1.trans h2)
    rwa [show off + (k * 3 + i) = off + k * 3 + i by omega] at this
theorem cAl {D : Nat → Prop} {a b : World} (h : Chg D a b) (o : Obj) : Chg D a (b.alloc o) := h.trans (Chg.of_below (fun _ => False) ((Below.refl _ _).alloc (Nat.le_refl _) o)) (fun _ _ e => e.elim)
theorem cBel {D : Nat → Prop} {a b c : World} (h : Chg D a b) (k : Below b.heap.size b c) : Chg D a c := h.trans (Chg.of_below (fun _ => False) k) (fun _ _ e => e.elim)
theorem cSet {g : Nat} {a b : World} (h : Chg (fun i => i = g) a b) (i : Nat) (u : Value) : Chg (fun i => i = g) a (b.setCell ⟨g, i, none⟩ u) := h.trans (Chg.of_grown (Wd.grown_set b g i u)) (fun _ _ e => e)
/-- An index that came. -/
def NewP (W : World) (o : Ord) (l : List R3) (X b c : Nat) (w' : World) : Prop := Idx w' X o (rowsOf o l) b 0 c ∧ W.heap.size ≤ X ∧ X < w'.heap.size ∧ W.heap.size ≤ b ∧ b < w'.heap.size ∧ Below W.heap.size W w'
theorem newAll {w0 : Nat} {w W1 wz : World} {k : SW} {s : SS} {D : List Tri} {n : Nat} {v7 dv1 : Value} {col1 : Nat → Nat} {ws1 : List ByteArray} (h : L1 w0 w W1 wz k s D n v7 dv1 col1 ws1) (hn : D.length ≤ n) (h4 : D.length ≤ 4096) (hs : w.heap.size + 2 ≤ W1.heap.size) :
    (∀ W, Chg (fun i => i = w.heap.size + 1) wz W → Calls Tryz.prog 59 #[v7, .agg #[.int .i64 0, .int .i64 1, .int .i64 2]] W fun e w' => ∃ X b c, e = .returned (.tuple #[.pointer (some ⟨X, 0, none⟩), .int .i64 0]) ∧ NewP W o0 (D.map (rowT ws1)) X b c w') ∧
    (∀ W, Chg (fun i => i = w.heap.size + 1) wz W → Calls Tryz.prog 59 #[v7, .agg #[.int .i64 1, .int .i64 2, .int .i64 0]] W fun e w' => ∃ X b c, e = .returned (.tuple #[.pointer (some ⟨X, 0, none⟩), .int .i64 0]) ∧ NewP W o1 (D.map (rowT ws1)) X b c w') ∧
    (∀ W, Chg (fun i => i = w.heap.size + 1) wz W → Calls Tryz.prog 59 #[v7, .agg #[.int .i64 2, .int .i64 0, .int .i64 1]] W fun e w' => ∃ X b c, e = .returned (.tuple #[.pointer (some ⟨X, 0, none⟩), .int .i64 0]) ∧ NewP W o2 (D.map (rowT ws1)) X b c w') := by
  have hr := h.rows
  rw [List.take_of_length_le hn] at hr
  have key : ∀ W, Chg (fun i => i = w.heap.size + 1) wz W → SlR W v7 (D.map (rowT ws1)) := fun W c => by
    refine own_slr (row_same hr (fun g hg => c.block g (hr.lt_ g hg) (fun e => ?_)))
    have h1 := hr.ge g hg
    have h2 := h.rcol g hg
    have e' : g = w.heap.size + 1 := e
    omega
  have hl : (D.map (rowT ws1)).length * 24 ≤ 140737488355328 := by rw [List.length_map]; omega
  exact ⟨fun W c => Pw.new_ok W v7 _ (key W c) hl o0 six0, fun W c => Pw.new_ok W v7 _ (key W c) hl o1 six1, fun W c => Pw.new_ok W v7 _ (key W c) hl o2 six2⟩
theorem ptrs {w : World} {B : Nat} {x y z : Value} (h : w.heap[B]? = some (.cells #[x, y, z] 78 (0, 0))) : w.cell? ⟨B, 0, none⟩ = some x ∧ w.cell? ⟨B, 1, none⟩ = some y ∧ w.cell? ⟨B, 2, none⟩ = some z ∧ w.frozen? ⟨B, 0, none⟩ = false ∧ w.frozen? ⟨B, 1, none⟩ = false ∧ w.frozen? ⟨B, 2, none⟩ = false :=
  ⟨by simp [World.cell?, h], by simp [World.cell?, h], by simp [World.cell?, h], heap_free h 0, heap_free h 1, heap_free h 2⟩
theorem boxStep {W x2 : World} {B : Nat} {cs : Array Value} {T : TypeId} (bx : W.heap[B]? = some (.cells cs T (0, 0))) (i : Nat) (u : Value) (o : Obj) (hb : Below ((W.setCell ⟨B, i, none⟩ u).alloc o).heap.size ((W.setCell ⟨B, i, none⟩ u).alloc o) x2) : x2.heap[B]? = some (.cells (cs.setIfInBounds i u) T (0, 0)) := by
  have h1 := (Array.getElem?_eq_some_iff.1 bx).1
  have h2 : B < (W.setCell ⟨B, i, none⟩ u).heap.size := by simpa [World.setCell] using h1
  rw [hb.block B (by rw [World.size_alloc]; omega), Below.heap_alloc _ _ _ h2]
  exact Wd.heap_set W B i cs T u bx
/-- The two cells of the call's own. -/
theorem boxesZ {w w1 wz : World} {k : SW} (_hw : Below w.heap.size w w1) (hb : Below ((w.alloc (.cells #[.pointer none, .pointer none, .pointer none] 78 (0, 0))).alloc (.cells #[.pointer none, .pointer none, .pointer none] 78 (0, 0))).heap.size ((w.alloc (.cells #[.pointer none, .pointer none, .pointer none] 78 (0, 0))).alloc (.cells #[.pointer none, .pointer none, .pointer none] 78 (0, 0))) w1) (hc : Chg (fun j => (k.far w).col j < 7) w1 wz) :
    wz.heap[w.heap.size + 1]? = some (.cells #[.pointer none, .pointer none, .pointer none] 78 (0, 0)) ∧ wz.heap[w.heap.size]? = some (.cells #[.pointer none, .pointer none, .pointer none] 78 (0, 0)) := by
  have s1 := hb.size
  rw [World.size_alloc, World.size_alloc] at s1
  have hcol : ∀ j, w.heap.size ≤ j → ¬ (k.far w).col j < 7 := fun j hj => by
    show ¬ (if j < w.heap.size then k.col j else 8) < 7
    rw [if_neg (by omega)]
    omega
  refine ⟨?_, ?_⟩
  · rw [hc.block _ (by omega) (hcol _ (by omega)), hb.block _ (by rw [World.size_alloc, World.size_alloc]; omega)]
    have := heap_alloc_new (w.alloc (.cells #[.pointer none, .pointer none, .pointer none] 78 (0, 0))) (.cells #[.pointer none, .pointer none, .pointer none] 78 (0, 0))
    rwa [World.size_alloc] at this
  · rw [hc.block _ (by omega) (hcol _ (by omega)), hb.block _ (by rw [World.size_alloc, World.size_alloc]; omega), Below.heap_alloc _ _ _ (by rw [World.size_alloc]; omega)]
    exact heap_alloc_new w _
theorem sto4 {w0 : Nat} {wz x1 x2 x3 x4 W0 W1 W2 : World} {B : Nat} {k : SW} {s : SS} {D : List Tri} {X0 b0 c0 X1 b1 c1 X2 b2 c2 : Nat} (h : Sto w0 wz k s) (hB : k.col B = 8) (hBz : B < wz.heap.size) (CZ : Chg (fun i => i = B) wz x4)
    (p0 : NewP W0 o0 (D.map (rowT s.ws)) X0 b0 c0 x1) (p1 : NewP W1 o1 (D.map (rowT s.ws)) X1 b1 c1 x2) (p2 : NewP W2 o2 (D.map (rowT s.ws)) X2 b2 c2 x3) (s0 : wz.heap.size ≤ W0.heap.size) (s1 : wz.heap.size ≤ W1.heap.size) (s2 : wz.heap.size ≤ W2.heap.size)
    (C1 : Chg (fun i => i = B) x1 x4) (C2 : Chg (fun i => i = B) x2 x4) (C3 : Chg (fun i => i = B) x3 x4) (hw : ∀ t ∈ D, t.S ∈ s.ws ∧ t.P ∈ s.ws ∧ t.O ∈ s.ws) :
    ∃ col4, Sto w0 x4 { k with col := col4 } s ∧ Like wz k.col col4 ∧ IxsAt x4 col4 s.ws D ⟨⟨X0, b0, c0⟩, ⟨X1, b1, c1⟩, ⟨X2, b2, c2⟩⟩ := by
  obtain ⟨col4, hcol⟩ : ∃ col4 : Nat → Nat, col4 = fun i => if i < wz.heap.size then k.col i else if i = X0 ∨ i = b0 ∨ i = X1 ∨ i = b1 ∨ i = X2 ∨ i = b2 then 7 else 8 := ⟨_, rfl⟩
  have hl : Like wz k.col col4 := fun i hi => by rw [hcol]; exact if_pos hi
  have h7 : ∀ i, wz.heap.size ≤ i → (i = X0 ∨ i = b0 ∨ i = X1 ∨ i = b1 ∨ i = X2 ∨ i = b2) → col4 i = 7 := fun i hi e => by
    rw [hcol]
    show (if i < wz.heap.size then k.col i else if i = X0 ∨ i = b0 ∨ i = X1 ∨ i = b1 ∨ i = X2 ∨ i = b2 then 7 else 8) = 7
    rw [if_neg (by omega), if_pos e]
  have mk : ∀ {W x : World} {o : Ord} {X b c : Nat}, Six o → NewP W o (D.map (rowT s.ws)) X b c x → wz.heap.size ≤ W.heap.size → Chg (fun i => i = B) x x4 → col4 X = 7 → col4 b = 7 → IxAt x4 col4 ⟨X, b, c⟩ o (rowsOf o (D.map (rowT s.ws))) := fun ho p sW c e1 e2 => by
    obtain ⟨q1, q2, q3, q4, q5, q6⟩ := p
    exact ⟨idx_chg q1 c q3 q5 (fun e => by have e' : _ = B := e; dsimp only at e'; omega) (fun e => by have e' : _ = B := e; dsimp only at e'; omega), rowsOf_strict _ ho _, Nat.lt_of_lt_of_le q3 c.size, Nat.lt_of_lt_of_le q5 c.size, e1, e2⟩
  have g0 := p0.2
  have g1 := p1.2
  have g2 := p2.2
  refine ⟨col4, h.chg CZ col4 hl (fun i hi => ?_) (fun i hi e => by rw [e]; exact hB), hl, hw, mk six0 p0 s0 C1 (h7 _ (by omega) (Or.inl rfl)) (h7 _ (by omega) (Or.inr (Or.inl rfl))), mk six1 p1 s1 C2 (h7 _ (by omega) (Or.inr (Or.inr (Or.inl rfl)))) (h7 _ (by omega) (Or.inr (Or.inr (Or.inr (Or.inl rfl))))), mk six2 p2 s2 C3 (h7 _ (by omega) (Or.inr (Or.inr (Or.inr (Or.inr (Or.inl rfl)))))) (h7 _ (by omega) (Or.inr (Or.inr (Or.inr (Or.inr (Or.inr rfl))))))⟩
  rw [hcol]
  show 7 ≤ (if i < wz.heap.size then k.col i else if i = X0 ∨ i = b0 ∨ i = X1 ∨ i = b1 ∨ i = X2 ∨ i = b2 then 7 else 8)
  rw [if_neg (by omega)]
  split <;> omega
/-- A store that keeps another version's indexes. -/
theorem Sto.indexed {w0 : Nat} {w W : World} {k : SW} {s : SS} {m : Nat} {i : I3} (h : Sto w0 w k s) (c : Chg (fun j => j = k.bi) w W) (hK : KMap intX encI W k.bi (Mp.upd s.ix (m : Int) (some i)) (if (m : Int) ∈ s.Li then s.Li else (m : Int) :: s.Li)) (hm : m ≤ s.log.length) (hi : IxsAt w k.col s.ws (verL (s.log.take m)) i) :
    Sto w0 W (k.far w) { s with ix := Mp.upd s.ix (m : Int) (some i), Li := if (m : Int) ∈ s.Li then s.Li else (m : Int) :: s.Li } ∧ IxsAt W (k.far w).col s.ws (verL (s.log.take m)) i ∧ StepS w k W (k.far w) := by
  have n7 : ∀ j, j < w.heap.size → k.col j ≠ 6 → ¬ j = k.bi := fun j _ h3 e => h3 (by rw [e, h.ci])
  have hl := k.far_like w
  have hbn := h.now.lt
  have hbi := h.idx.lt
  have hbd := h.dic.map.lt
  have hi' := hi.chg c hl (fun j hj e => n7 j hj (by omega))
  refine ⟨⟨(c.block k.p h.ps (n7 _ h.ps (by rw [h.cp]; omega))).trans h.blk, h.now.chg c (n7 _ hbn (by rw [h.cn]; omega)), ?_, h.zl, fun i z l h1 h2 => (h.all i z l h1 h2).chg c hl (fun i hi e => n7 i hi (by omega)), ?_, hK, ?_, Nat.le_trans h.base c.size, (hl _ h.ps).trans h.cp, (hl _ hbn).trans h.cn, ?_, (hl _ h.pds).trans h.cd, (hl _ hbd).trans h.cb, ?_, (hl _ hbi).trans h.ci, fun j hj => ?_, h.good, h.nd, h.wsub⟩, hi', hl, c.mono (fun j _ e => by show k.col j < 7; rw [e, h.ci]; omega)⟩
  · exact row_same h.row (fun g hg => c.block g (h.lvs hg) (n7 _ (h.lvs hg) (by rw [h.cl g hg]; omega)))
  · exact h.dic.chg c (n7 _ h.pds (by rw [h.cd]; omega)) (n7 _ hbd (by rw [h.cb]; omega)) (fun g hg => n7 _ (h.dvs hg) (by rw [h.cv g hg]; omega))
  · intro v i' hv
    have hv' : Mp.upd s.ix (m : Int) (some i) v = some i' := hv
    unfold Mp.upd at hv'
    by_cases e : v = (m : Int)
    · rw [if_pos e] at hv'
      injection hv' with hv'
      subst hv'
      exact ⟨m, e, hm, hi'⟩
    · rw [if_neg e] at hv'
      obtain ⟨n, e1, e2, e3⟩ := h.ixs v i' hv'
      exact ⟨n, e1, e2, e3.chg c hl (fun j hj e => n7 j hj (by omega))⟩
  · exact fun g hg => (hl _ (h.lvs hg)).trans (h.cl g hg)
  · exact fun g hg => (hl _ (h.dvs hg)).trans (h.cv g hg)
  · by_cases e : j < w.heap.size
    · exact h.lo j (by rw [← hl j e]; exact hj)
    · have hj' : (if j < w.heap.size then k.col j else 8) < 7 := hj
      rw [if_neg e] at hj'
      omega
theorem Sto.Li_len {w0 : Nat} {w : World} {k : SW} {s : SS} (h : Sto w0 w k s) : s.Li.length ≤ s.log.length + 1 := by
  have h1 := nodup_len s.Li ((List.range (s.log.length + 1)).map Int.ofNat) h.idx.nd (fun v hv => by
    obtain ⟨i, hi⟩ := Option.isSome_iff_exists.1 ((h.idx.mem v).1 hv)
    obtain ⟨n, e1, e2, _⟩ := h.ixs v i hi
    exact List.mem_map.2 ⟨n, List.mem_range.2 (by omega), e1.symm⟩)
  rwa [List.length_map, List.length_range] at h1
def IdxPost (w0 : Nat) (w : World) (k : SW) (s : SS) (m : Nat) (e : Ending) (w' : World) : Prop :=
  ∃ i k' s', e = .returned (encI i) ∧ Sto w0 w' k' s' ∧ s'.log = s.log ∧ k'.p = k.p ∧ IxsAt w' k'.col s'.ws (verL (s.log.take m)) i ∧ StepS w k w' k'
theorem run_look_ok {w : World} {b : Nat} {f : Int → Option I3} {L : List Int} (h : KMap intX encI w b f L) (m : Nat) (hm : m ≤ 1000000) (i : I3) (hf : f m = some i) :
    (Instr.lookup 63 (.map (some b)) (.int .i64 m) true).run Tryz.prog w = .ok (.tuple #[.agg #[.pointer (some ⟨i.i0.X, 0, none⟩), .pointer (some ⟨i.i1.X, 0, none⟩), .pointer (some ⟨i.i2.X, 0, none⟩)], .bool true]) w := by
  have h1 := h.look_ok Tryz.underlying63 (Tryz.zeroValue78 w) (x := (m : Int)) (int_fit (by omega) (by omega))
  rw [hf] at h1
  exact h1
theorem run_look_no {w : World} {b : Nat} {f : Int → Option I3} {L : List Int} (h : KMap intX encI w b f L) (m : Nat) (hm : m ≤ 1000000) (hf : f m = none) :
    (Instr.lookup 63 (.map (some b)) (.int .i64 m) true).run Tryz.prog w = .ok (.tuple #[.agg #[.pointer none, .pointer none, .pointer none], .bool false]) w := by
  have h1 := h.look_ok Tryz.underlying63 (Tryz.zeroValue78 w) (x := (m : Int)) (int_fit (by omega) (by omega))
  rw [hf] at h1
  exact h1
theorem StepS.newer {w w' w'' : World} {k k' : SW} {D : Nat → Prop} (h : StepS w k w' k') (c : Chg D w' w'') (hD : ∀ i, i < w.heap.size → ¬ D i) : StepS w k w'' (k'.far w') := by
  refine ⟨fun i hi => ?_, h.chg.trans c (fun i hi e => absurd e (hD i hi))⟩
  rw [SW.far_like k' w' i (Nat.lt_of_lt_of_le hi h.chg.size)]
  exact h.col i hi
theorem indexes_end {w0 : Nat} {w w1 wz x4 w7 : World} {k : SW} {s : SS} {D : List Tri} {n m : Nat} {v7 dv1 : Value} {col1 col4 : Nat → Nat} {ws1 : List ByteArray} {i : I3} (p0 p1 p2 : Value) (hb : Below w.heap.size w w1) (hs1 : w.heap.size + 2 ≤ w1.heap.size) (h : L1 w0 w w1 wz k s D n v7 dv1 col1 ws1) (cz : Chg (fun j => j = w.heap.size + 1) wz x4)
    (h4 : Sto w0 x4 { k with dv := dv1, col := col4 } { s with ws := ws1 }) (hl : Like wz col1 col4) (hi : IxsAt x4 col4 ws1 D i) (hK : KMap intX encI w7 k.bi (Mp.upd s.ix (m : Int) (some i)) (if (m : Int) ∈ s.Li then s.Li else (m : Int) :: s.Li)) (hg : x4.drew.grownBy w7 (some k.bi)) (hD : verL (s.log.take m) = D) (hm : m ≤ s.log.length) :
    IdxPost w0 w k s m (.returned (encI i)) (((w7.setCell ⟨w.heap.size, 0, none⟩ p0).setCell ⟨w.heap.size, 1, none⟩ p1).setCell ⟨w.heap.size, 2, none⟩ p2) := by
  have c7 : Chg (fun j => j = k.bi) x4 w7 := (Chg.of_below (w := x4) (w' := x4.drew) (fun _ => False) (Below.drew (Below.refl _ _))).mono (fun _ _ e => e.elim) |>.trans (Chg.of_grown hg) (fun _ _ e => e)
  obtain ⟨s7, i7, st7⟩ := h4.indexed c7 hK hm (by rw [← hD] at hi; exact hi)
  have c8 : Chg (fun j => j = w.heap.size) w7 (((w7.setCell ⟨w.heap.size, 0, none⟩ p0).setCell ⟨w.heap.size, 1, none⟩ p1).setCell ⟨w.heap.size, 2, none⟩ p2) := cSet (cSet (cSet (Chg.refl _ _) _ _) _ _) _ _
  have z1 := h.chg.size
  have z2 := cz.size
  have hT : col4 w.heap.size = 8 := by
    rw [hl _ (by omega), h.like _ (by omega)]
    exact farC_new (col := k.col) (Nat.le_refl _)
  have hfar : (SW.far { k with dv := dv1, col := col4 } x4).col w.heap.size = 8 := by
    show (if w.heap.size < x4.heap.size then col4 w.heap.size else 8) = 8
    rw [if_pos (by omega)]
    exact hT
  have f8 : ∀ j, j < w7.heap.size → j = w.heap.size → (SW.far { k with dv := dv1, col := col4 } x4).col j = 8 := fun j _ e => by rw [e]; exact hfar
  have st4 : StepS w k x4 { k with dv := dv1, col := col4 } := by
    have z0 := hb.size
    refine ⟨fun j hj => ?_, ?_⟩
    · show col4 j = k.col j
      rw [hl j (by omega), h.like j (by omega)]
      exact farC_old (col := k.col) hj
    · refine ((Chg.of_below (fun j => k.col j < 7) hb).trans h.chg (fun j hj e => ?_)).trans cz (fun j hj e => by omega)
      have e' : (if j < w.heap.size then k.col j else 8) < 7 := e
      rw [if_pos hj] at e'
      exact e'
  exact ⟨i, _, _, rfl, s7.far c8 f8, rfl, rfl, i7.chg c8 (SW.far_like _ _) (fun j hj e1 e2 => by have := f8 j hj e2; omega), (st4.trans st7).newer c8 (fun j hj e => by omega)⟩
set_option maxRecDepth 100000 in
set_option maxHeartbeats 3200000 in
theorem indexes_old {w0 : Nat} {w : World} {k : SW} {s : SS} (h : Sto w0 w k s) (m : Nat) (hm : m ≤ 1000000) (i : I3) (hi : s.ix m = some i) :
    Calls Tryz.prog 38 #[.pointer (some ⟨k.p, 0, none⟩), .int .i64 m] w (IdxPost w0 w k s m) := by
  obtain ⟨q0, q1, q2, q3⟩ := h.cells
  have hps := h.ps
  have LK := fun (o : Obj) => run_look_ok (h.idx.kept (World.grownBy_alloc w o none) (by simp)) m hm i hi
  have H := Lib.hid h
  have HI := Lib.hid hi
  clear h hi
  go_enter Tryz.func38, Tryz.ntmps38
  go_wp2
  refine bodyPost_ret (v := .agg #[.pointer (some ⟨i.i0.X, 0, none⟩), .pointer (some ⟨i.i1.X, 0, none⟩), .pointer (some ⟨i.i2.X, 0, none⟩)]) ?_ rfl ⟨i, k.far w, s, rfl, H.out.below ?_, rfl, rfl, ?_, StepS.below ?_⟩
  · simp [results, Tryz.results38, go_sem]
  · exact ((Below.refl _ w).alloc (Nat.le_refl _) _).alloc (by simp) _
  · obtain ⟨n, e1, e2, e3⟩ := H.out.ixs m i HI.out
    have e4 : m = n := by omega
    rw [e4]
    exact e3.chg (Chg.of_below (fun _ => False) (((Below.refl _ w).alloc (Nat.le_refl _) _).alloc (by simp) _)) (k.far_like w) (fun _ _ _ e => e)
  · exact ((Below.refl _ w).alloc (Nat.le_refl _) _).alloc (by simp) _
set_option maxRecDepth 100000 in
set_option maxHeartbeats 3200000 in
theorem indexes_new {w0 : Nat} {w : World} {k : SW} {s : SS} (h : Sto w0 w k s) (m : Nat) (hm : m ≤ s.log.length) (hlog : s.log.length ≤ 4000) (hi : s.ix m = none) :
    Calls Tryz.prog 38 #[.pointer (some ⟨k.p, 0, none⟩), .int .i64 m] w (IdxPost w0 w k s m) := by
  obtain ⟨q0, q1, q2, q3⟩ := h.cells
  have hps := h.ps
  have LK := fun (o : Obj) => run_look_no (h.idx.kept (World.grownBy_alloc w o none) (by simp)) m (by omega) hi
  obtain ⟨D, hD⟩ : ∃ D, verL (s.log.take m) = D := ⟨_, rfl⟩
  have hDl : D.length ≤ 4096 := by rw [← hD]; exact h.good.len m hm
  have hDw : ∀ t ∈ D, isT t = true ∧ ∀ j, ∃ l ∈ s.log, ∃ c ∈ l, wAt t j = c.T.S ∨ wAt t j = c.T.P ∨ wAt t j = c.T.O := fun t ht => by
    rw [← hD] at ht
    exact ⟨h.good.word m t ht, word_sub ht⟩
  obtain ⟨n, hn⟩ : ∃ n, D.length = n := ⟨_, rfl⟩
  have FO := Lib.hid (fun (W : World) (hW : Below w.heap.size w W) => (facts_ok (h.below hW) (m : Int) hlog).mono (R' := fun e w' => ∃ A c, e = .returned (.tuple #[.slice A n c, .int .i64 0]) ∧ Out3 W.heap.size w' (.slice A n c) D ∧ Below W.heap.size W w') (fun e w' ⟨v, h1, h2, h3⟩ => by
    have e1 : factsE s.log.length (m : Int) = 0 := if_pos ⟨by omega, by omega⟩
    have e2 : factsL s.log (m : Int) = D := by
      unfold factsL
      rw [if_pos ⟨by omega, by omega⟩, Int.toNat_natCast, hD]
    rw [e1] at h1
    rw [e2] at h2
    obtain ⟨A, c, e3, _⟩ := id h2.1
    rw [hn] at e3
    subst e3
    exact ⟨A, c, h1, h2, h3⟩))
  have H := Lib.hid h
  have HI := Lib.hid hi
  have HM := Lib.hid hm
  have HG := Lib.hid hlog
  have HD := Lib.hid (And.intro hD hn)
  have HDW := Lib.hid hDw
  have hn4 : n ≤ 4096 := by omega
  have hn4i : (n : Int) ≤ 4096 := by omega
  clear h hi hm hlog hD hn hDl hDw
  go_enter Tryz.func38, Tryz.ntmps38
  go_wp2_with (go_at_call 13; refine (FO.out _ (((Below.refl _ w).alloc (Nat.le_refl _) _).alloc (by simp) _)).mono ?_; rintro e w1 ⟨A, cf, rfl, ho, hb⟩; have F1 := Lib.hid (And.intro ho hb); clear ho hb)
  have hbw : Below w.heap.size w w1 := ((Below.refl _ w).alloc (Nat.le_refl _) _).alloc (by simp) _ |>.trans (F1.out.2.mono (by simp; omega))
  have HBW := Lib.hid hbw
  clear hbw
  go_loopg [7, 36] (n + 1) (fun g s7 s36 wr => ∃ (i : Nat) (dv1 : Value) (col1 : Nat → Nat) (ws1 : List ByteArray), i ≤ n ∧ n - i < g ∧ s36 = .int .i64 i ∧ Hid (L1 w0 w w1 wr k s D i s7 dv1 col1 ws1))
  case atStart => exact ⟨0, _, _, _, by omega, by omega, rfl, Lib.hid (L1.start H.out HBW.out)⟩
  case round =>
    obtain ⟨i, dv1, col1, ws1, hi, hg, rfl, HR⟩ := hrel
    by_cases him : i < n
    · obtain ⟨t, ht⟩ : ∃ t, D[i]? = some t := ⟨D[i]'(by have := HD.out.2; omega), List.getElem?_eq_getElem _⟩
      obtain ⟨b, off, c, hv, hb, hcl⟩ := F1.out.1.1.at_ (k := 3) encT_len i t ht
      injection hv with hv e2 e3
      subst hv
      clear e2 e3
      have hb8 : ¬ (k.far w).col b < 7 := by
        have hw : w.heap.size ≤ b := by
          rcases F1.out.1.2 with e | ⟨g, cap, e1, e2, _⟩
          · cases e
          · injection e1 with e1
            injection e1 with e1
            injection e1 with e1 _
            rw [World.size_alloc, World.size_alloc] at e2
            omega
        show ¬ (if b < w.heap.size then k.col b else 8) < 7
        rw [if_neg (by omega)]
        omega
      have q0 : wr.cell? ⟨b, off + i * 3, none⟩ = some (.string t.S) := HR.out.chg.cell (hcl 0 _ rfl) hb8
      have q1 := HR.out.chg.cell (hcl 1 _ rfl) hb8
      have q2 := HR.out.chg.cell (hcl 2 _ rfl) hb8
      have n1 : (i : Int) < (n : Int) := by omega
      have n0 : (0 : Int) ≤ (i : Int) := by omega
      have HT := Lib.hid (And.intro ht (HDW.out t (List.mem_of_getElem? ht)))
      clear hcl hb ht hb8
      go_wp2
      have hA := roundA wr t.S t.P t.O
      generalize hWA : ((wr.alloc (.cells #[.string t.S, .string t.P, .string t.O] 35 (0, 0))).alloc (.cells #[.int .i64 0, .int .i64 0, .int .i64 0] 80 (0, 0))).alloc (.cells #[.string t.S, .string t.P, .string t.O] 9 (0, 0)) = wA at *
      have HA := Lib.hid hA
      clear hA hWA
      go_loopg [48] 4 (fun g s48 wx => ∃ (j : Nat) (dv2 : Value) (col2 : Nat → Nat) (ws2 : List ByteArray), j ≤ 3 ∧ 3 - j < g ∧ s48 = .int .i64 j ∧ Hid (L2 w0 wA wx (wr.heap.size + 1) k s (farC col1 wr) ws1 t j dv2 col2 ws2))
      case atStart => exact ⟨0, _, _, _, by omega, by omega, rfl, Lib.hid (L2.start HR.out HA.out.1 HA.out.2.1)⟩
      case round =>
        obtain ⟨wq, rfl⟩ : ∃ wq, wq = wr := ⟨_, rfl⟩
        obtain ⟨j, dv2, col2, ws2, hj, hgj, rfl, HJ⟩ := hrel
        by_cases hj3 : j < 3
        · have m1 : (j : Int) < 3 := by omega
          have m0 : (0 : Int) ≤ (j : Int) := by omega
          have c0 := sliceA HA.out.2.2 HJ.out.chg j hj3
          have d0 := HJ.out.sto.cells.2.2.1
          have PO := Lib.hid (put_sto HJ.out.sto (wAt t j) (word_isW HT.out.2.1 j) (HT.out.2.2 j) HG.out)
          have hBA : wr.heap.size + 1 < wA.heap.size := (Array.getElem?_eq_some_iff.1 HA.out.2.1).1
          have HBA := Lib.hid hBA
          clear hBA
          go_wp2_with (go_at_call 58; refine PO.out.mono ?_; rintro e w2 ⟨dv3, col3, ws3, rfl, hs3, he3, hm3, hst3⟩; have P3 := Lib.hid (And.intro hs3 (And.intro he3 (And.intro hm3 hst3))); have r2 := rowB HJ.out HBA.out hst3; have r3 := r2.1 j hj3; have r4 := r2.2 j; clear hs3 he3 hm3 hst3 r2)
          go_roundg (3 - j)
          case measure => omega
          case rel => exact ⟨j + 1, _, _, _, by omega, by omega, by go_num, Lib.hid (HJ.out.step hj3 HBA.out (farC_new (by omega)) P3.out.1 P3.out.2.1 P3.out.2.2.1 P3.out.2.2.2)⟩
        · have hj' : j = 3 := by omega
          have m1 : ¬ (j : Int) < 3 := by omega
          rw [hj'] at HJ
          have z0 := rowC HJ.out.row 0 (by omega)
          have z1 := rowC HJ.out.row 1 (by omega)
          have z2 := rowC HJ.out.row 2 (by omega)
          have HO := Lib.hid (HR.out.rowsAt HA.out.1 HJ.out)
          have HIF := Lib.hid (show (Tryz.prog.info? 80).map (fun i => (i.zero, i.size, i.bytes)) = some (some (.agg #[.int .i64 0, .int .i64 0, .int .i64 0]), 3, 24) by kernel_rfl)
          have HSZ := Lib.hid (show w1.heap.size ≤ wq.heap.size from Nat.le_trans HR.out.chg.size (Nat.le_trans HA.out.1.size HJ.out.chg.size))
          have HLE := Lib.hid (show (((D.take i).map (rowT ws2)).length + 1) * 24 ≤ 140737488355328 by rw [List.length_map]; have := List.length_take_le i D; omega)
          go_wp2_with (at_builtin; (refine G.wp_app1 rfl _ _ 106 80 rfl _ 3 24 Tryz.underlying106 HIF.out rfl (by omega) (by omega) enc3 enc3_len enc3_one w1.heap.size u7 ((D.take i).map (rowT ws2)) (rowT ws2 t) _ rfl rfl _ rfl rfl HO.out HSZ.out HLE.out ?_); intro v1 w6 ho6 hg6 hat6; have O6 := Lib.hid (And.intro ho6 (And.intro hg6 hat6)); clear ho6 hg6 hat6)
          go_roundg (n - i)
          case measure => omega
          case rel => exact ⟨i + 1, _, _, _, by omega, by omega, by go_num, Lib.hid (HR.out.step HA.out.1 HJ.out HT.out.1 O6.out.1 O6.out.2.1 O6.out.2.2)⟩
    · have him' : i = n := by omega
      have n1 : ¬ (i : Int) < (n : Int) := by omega
      rw [him'] at HR
      obtain ⟨wz, rfl⟩ : ∃ wz, wz = wr := ⟨_, rfl⟩
      have NO := Lib.hid (newAll HR.out (by have := HD.out.2; omega) (by have := HD.out.2; omega) (by have h1 := F1.out.2.size; simp at h1; omega))
      have BX := Lib.hid (boxesZ HBW.out F1.out.2 HR.out.chg)
      have HSZ := Lib.hid (show w.heap.size + 1 < wz.heap.size from (Array.getElem?_eq_some_iff.1 BX.out.1).1)
      have i0 := fun w => (idx81 w (.int .i64 0) (.int .i64 1) (.int .i64 2) (.int .i64 1) (.int .i64 2) (.int .i64 0) (.int .i64 2) (.int .i64 0) (.int .i64 1)).1
      have i1 := fun w => (idx81 w (.int .i64 0) (.int .i64 1) (.int .i64 2) (.int .i64 1) (.int .i64 2) (.int .i64 0) (.int .i64 2) (.int .i64 0) (.int .i64 1)).2.1
      have i2 := fun w => (idx81 w (.int .i64 0) (.int .i64 1) (.int .i64 2) (.int .i64 1) (.int .i64 2) (.int .i64 0) (.int .i64 2) (.int .i64 0) (.int .i64 1)).2.2
      go_wp2_with (go_at_call 39; refine (orders_ok _).mono ?_; rintro e a0 ⟨rfl, hb⟩; have A0 := Lib.hid hb; clear hb)
      refine wp_loop_rounds 4 ?_
      rw [rounds_succ]
      go_wp2_with (go_at_call 59; refine (NO.out.1 _ (cAl (cBel (Chg.refl _ _) A0.out) _)).mono ?_; rintro e x1 ⟨X0, b0, c0, rfl, hp0⟩; have P0 := Lib.hid hp0; have bx1 := (P0.out.2.2.2.2.2.block _ (by have := HSZ.out; have := A0.out.size; simp; omega)).trans ((Below.heap_alloc a0 _ _ (by have := HSZ.out; have := A0.out.size; omega)).trans ((A0.out.block _ HSZ.out).trans BX.out.1)); have y10 := ptrs bx1; have B1 := Lib.hid bx1; clear hp0 bx1)
      rw [rounds_succ]
      go_wp2_with (go_at_call 59; refine (NO.out.2.1 _ (cAl (cSet (cBel (cAl (cBel (Chg.refl _ _) A0.out) _) P0.out.2.2.2.2.2) _ _) _)).mono ?_; rintro e x2 ⟨X1, b1, c1, rfl, hp1⟩; have P1 := Lib.hid hp1; have bx2 := boxStep B1.out 0 _ _ P1.out.2.2.2.2.2; have y20 := ptrs bx2; have B2 := Lib.hid bx2; clear hp1 bx2)
      rw [rounds_succ]
      go_wp2_with (go_at_call 59; refine (NO.out.2.2 _ (cAl (cSet (cBel (cAl (cSet (cBel (cAl (cBel (Chg.refl _ _) A0.out) _) P0.out.2.2.2.2.2) _ _) _) P1.out.2.2.2.2.2) _ _) _)).mono ?_; rintro e x3 ⟨X2, b2, c2, rfl, hp2⟩; have P2 := Lib.hid hp2; have bx3 := boxStep B2.out 1 _ _ P2.out.2.2.2.2.2; have y30 := ptrs bx3; have B3 := Lib.hid bx3; clear hp2 bx3)
      rw [rounds_succ]
      go_wp2
      have C3 : Chg (fun i => i = w.heap.size + 1) x3 (x3.setCell ⟨w.heap.size + 1, 2, none⟩ (.pointer (some ⟨X2, 0, none⟩))) := cSet (Chg.refl _ _) _ _
      have C2 : Chg (fun i => i = w.heap.size + 1) x2 (x3.setCell ⟨w.heap.size + 1, 2, none⟩ (.pointer (some ⟨X2, 0, none⟩))) := cSet (cBel (cAl (cSet (Chg.refl _ _) _ _) _) P2.out.2.2.2.2.2) _ _
      have C1 : Chg (fun i => i = w.heap.size + 1) x1 (x3.setCell ⟨w.heap.size + 1, 2, none⟩ (.pointer (some ⟨X2, 0, none⟩))) := cSet (cBel (cAl (cSet (cBel (cAl (cSet (Chg.refl _ _) _ _) _) P1.out.2.2.2.2.2) _ _) _) P2.out.2.2.2.2.2) _ _
      have CZ : Chg (fun i => i = w.heap.size + 1) wz (x3.setCell ⟨w.heap.size + 1, 2, none⟩ (.pointer (some ⟨X2, 0, none⟩))) := cBel (cAl (cBel (Chg.refl _ _) A0.out) _) P0.out.2.2.2.2.2 |>.trans C1 (fun _ _ e => e)
      have bx4 := Wd.heap_set x3 (w.heap.size + 1) 2 _ _ (.pointer (some ⟨X2, 0, none⟩)) B3.out
      have sz : wz.heap.size ≤ x1.heap.size ∧ wz.heap.size ≤ x2.heap.size := by
        have h1 := A0.out.size
        have h2 := P0.out.2.2.2.2.2.size
        have h3 := P1.out.2.2.2.2.2.size
        simp [World.size_setCell] at h2 h3
        omega
      have DB : (k.far w).col (w.heap.size + 1) = 8 := farC_new (col := k.col) (by omega)
      have S4 := sto4 HR.out.sto ((HR.out.like _ (by have h1 := F1.out.2.size; simp at h1; omega)).trans DB) HSZ.out CZ P0.out P1.out P2.out (by have h1 := A0.out.size; simp; omega) (by simp [World.size_setCell]; omega) (by simp [World.size_setCell]; omega) C1 C2 C3 (fun t ht => HR.out.word t (by rw [List.take_of_length_le (by have := HD.out.2; omega)]; exact ht))
      have q3x := CZ.cell HR.out.sto.cells.2.2.2 (show k.p ≠ w.heap.size + 1 by omega)
      have BZ := Lib.hid (CZ.block w.heap.size (by have := HSZ.out; omega) (fun e => by omega) |>.trans BX.out.2)
      have CZ' := Lib.hid CZ
      clear C1 C2 C3 CZ sz DB
      generalize hx4 : x3.setCell ⟨w.heap.size + 1, 2, none⟩ (.pointer (some ⟨X2, 0, none⟩)) = x4 at *
      obtain ⟨col4, hS4, hL4, hI4⟩ := S4
      have HS4 := Lib.hid (And.intro hS4 (And.intro hL4 hI4))
      have B4 := Lib.hid bx4
      clear hS4 hL4 hI4 bx4 hx4
      obtain ⟨y40, y41, y42, _⟩ := ptrs B4.out
      refine wp_region_still_tail 6 mixed (by kernel_rfl) ?_
      change wpStill _ _ x4.drew _ _ _
      simp only [List.take_succ_cons, List.take_zero, List.drop_succ_cons, List.drop_zero]
      have z40 : x4.drew.cell? ⟨w.heap.size + 1, 0, none⟩ = some (.pointer (some ⟨X0, 0, none⟩)) := y40
      have z41 : x4.drew.cell? ⟨w.heap.size + 1, 1, none⟩ = some (.pointer (some ⟨X1, 0, none⟩)) := y41
      have z42 : x4.drew.cell? ⟨w.heap.size + 1, 2, none⟩ = some (.pointer (some ⟨X2, 0, none⟩)) := y42
      have q3y : x4.drew.cell? ⟨k.p, 3, none⟩ = some (.map (some k.bi)) := q3x
      repeat still_step
      refine wpStill_nil ?_
      have HK4 := Lib.hid (show KMap intX encI x4.drew k.bi s.ix s.Li from HS4.out.1.idx.chg (Chg.of_below (fun _ => False) (Below.drew (Below.refl _ _))) (fun e => e))
      have HLI := Lib.hid (show s.Li.length < maxLen by have h1 := HS4.out.1.Li_len; have h2 := HG.out; have h3 : s.Li.length ≤ s.log.length + 1 := h1; unfold maxLen; omega)
      go_wp2_with (at_mapUpdate; (refine wpk_put _ rfl _ _ _ _ rfl Tryz.underlying63 rfl HK4.out HLI.out (m : Int) (int_fit (by omega) (by have := HM.out; have := HG.out; omega)) ⟨⟨X0, b0, c0⟩, ⟨X1, b1, c1⟩, ⟨X2, b2, c2⟩⟩ rfl rfl ?_); intro w7 hm7 ht7 hg7; have M7 := Lib.hid (And.intro hm7 hg7); have y7 := ptrs (grown_block hg7 B4.out (fun e => by have e1 := Option.some.inj e; have e2 := H.out.idx.lt; omega)); have t7 := ptrs (grown_block hg7 BZ.out (fun e => by have e1 := Option.some.inj e; have e2 := H.out.idx.lt; omega)); clear hm7 ht7 hg7)
      refine bodyPost_ret (v := .agg #[.pointer (some ⟨X0, 0, none⟩), .pointer (some ⟨X1, 0, none⟩), .pointer (some ⟨X2, 0, none⟩)]) ?_ rfl (indexes_end (i := ⟨⟨X0, b0, c0⟩, ⟨X1, b1, c1⟩, ⟨X2, b2, c2⟩⟩) _ _ _ HBW.out (by have h1 := F1.out.2.size; simp at h1; omega) HR.out CZ'.out HS4.out.1 HS4.out.2.1 HS4.out.2.2 M7.out.1 M7.out.2 HD.out.1 HM.out)
      simp [results, Tryz.results38, go_sem, t7]
end Go.Proofs.YtcnffgcegimelaaGreat.So
