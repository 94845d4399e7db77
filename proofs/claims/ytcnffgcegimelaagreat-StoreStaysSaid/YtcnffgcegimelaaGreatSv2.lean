/-
  A store in memory: the loops that make a version's indexes, told. Conditions: as each says.
-/
import Derived.Test.YtcnffgcegimelaaGreatSv1
namespace Go.Proofs.YtcnffgcegimelaaGreat.So
open Go.RowKit Go.Proofs.YtcnffgcegimelaaGreat.Mp Go.Proofs.YtcnffgcegimelaaGreat.Wd Go.Proofs.YtcnffgcegimelaaGreat.Pm Go.Proofs.YtcnffgcegimelaaGreat.Pw

theorem enc3_len (x : R3) : (enc3 x).length = 3 := rfl
theorem enc3_one (x : R3) : ∀ u ∈ enc3 x, u.oneCell' = true := by
  intro u hu
  simp only [enc3, List.mem_cons, List.not_mem_nil, or_false] at hu
  rcases hu with rfl | rfl | rfl <;> rfl
/-- The outer loop. -/
structure L1 (w0 : Nat) (w W1 wx : World) (k : SW) (s : SS) (D : List Tri) (i : Nat) (v7 dv1 : Value) (col1 : Nat → Nat) (ws1 : List ByteArray) : Prop where
  sto : Sto w0 wx { k with dv := dv1, col := col1 } { s with ws := ws1 }
  ext : Ext s.ws ws1
  like : Like W1 (k.far w).col col1
  chg : Chg (fun j => (k.far w).col j < 7) W1 wx
  rows : G.OwnL wx W1.heap.size 80 3 enc3 v7 ((D.take i).map (rowT ws1))
  rcol : ∀ g, v7.ownBlock = some g → col1 g = 8
  word : ∀ t ∈ D.take i, t.S ∈ ws1 ∧ t.P ∈ ws1 ∧ t.O ∈ ws1
/-- A word of a fact. -/
def wAt (t : Tri) (j : Nat) : ByteArray := if j = 0 then t.S else if j = 1 then t.P else t.O
def numJ (ws : List ByteArray) (t : Tri) (j i : Nat) : Int := if i < j then numW ws (wAt t i) else 0
/-- A row that is being filled. -/
def rowJ (ws : List ByteArray) (t : Tri) (j : Nat) : Array Value := #[.int .i64 (numJ ws t j 0), .int .i64 (numJ ws t j 1), .int .i64 (numJ ws t j 2)]
theorem rowJ_zero (ws : List ByteArray) (t : Tri) : rowJ ws t 0 = #[.int .i64 0, .int .i64 0, .int .i64 0] := rfl
theorem rowJ_get (ws : List ByteArray) (t : Tri) (j i : Nat) (hi : i < 3) : (rowJ ws t j)[i]? = some (.int .i64 (numJ ws t j i)) := by
  match i, hi with
  | 0, _ => rfl
  | 1, _ => rfl
  | 2, _ => rfl
theorem numJ_done (ws : List ByteArray) (t : Tri) : (numJ ws t 3 0 = (rowT ws t).a) ∧ (numJ ws t 3 1 = (rowT ws t).b) ∧ (numJ ws t 3 2 = (rowT ws t).c) := ⟨rfl, rfl, rfl⟩
theorem rowJ_step {ws ws' : List ByteArray} {t : Tri} (e : Ext ws ws') : ∀ j, j < 3 → (∀ i, i < j → wAt t i ∈ ws) → (rowJ ws t j).setIfInBounds j (.int .i64 (numW ws' (wAt t j))) = rowJ ws' t (j + 1)
  | 0, _, _ => rfl
  | 1, _, h => by
    have h0 := e.num (h 0 (by omega))
    show #[_, _, _] = #[_, _, _]
    have e0 : numJ ws t 1 0 = numJ ws' t 2 0 := by unfold numJ; rw [if_pos (by omega), if_pos (by omega), h0]
    rw [e0]
    rfl
  | 2, _, h => by
    have h0 := e.num (h 0 (by omega))
    have h1 := e.num (h 1 (by omega))
    show #[_, _, _] = #[_, _, _]
    have e0 : numJ ws t 2 0 = numJ ws' t 3 0 := by unfold numJ; rw [if_pos (by omega), if_pos (by omega), h0]
    have e1 : numJ ws t 2 1 = numJ ws' t 3 1 := by unfold numJ; rw [if_pos (by omega), if_pos (by omega), h1]
    rw [e0, e1]
    rfl
  | j + 3, h, _ => absurd h (by omega)
/-- The inner loop. -/
structure L2 (w0 : Nat) (wA wx : World) (B : Nat) (k : SW) (s : SS) (colA : Nat → Nat) (wsA : List ByteArray) (t : Tri) (j : Nat) (dv2 : Value) (col2 : Nat → Nat) (ws2 : List ByteArray) : Prop where
  sto : Sto w0 wx { k with dv := dv2, col := col2 } { s with ws := ws2 }
  ext : Ext wsA ws2
  like : Like wA colA col2
  chg : Chg (fun i => colA i < 7 ∨ i = B) wA wx
  row : wx.heap[B]? = some (.cells (rowJ ws2 t j) 80 (0, 0))
  word : ∀ i, i < j → wAt t i ∈ ws2
theorem L2.step {w0 : Nat} {wA wx w2 : World} {B : Nat} {k : SW} {s : SS} {colA col2 col3 : Nat → Nat} {wsA ws2 ws3 : List ByteArray} {t : Tri} {j : Nat} {dv2 dv3 : Value} (h : L2 w0 wA wx B k s colA wsA t j dv2 col2 ws2) (hj : j < 3) (hB : B < wA.heap.size) (hc : colA B = 8)
    (hs : Sto w0 w2 { k with dv := dv3, col := col3 } { s with ws := ws3 }) (he : Ext ws2 ws3) (hm : wAt t j ∈ ws3) (hst : StepS wx { k with dv := dv2, col := col2 } w2 { k with dv := dv3, col := col3 }) :
    L2 w0 wA (w2.setCell ⟨B, j, none⟩ (.int .i64 (numW ws3 (wAt t j)))) B k s colA wsA t (j + 1) dv3 (SW.far { k with dv := dv3, col := col3 } w2).col ws3 := by
  have sA := h.chg.size
  have hB2 : B < wx.heap.size := Nat.lt_of_lt_of_le hB sA
  have c2 : col2 B = 8 := (h.like B hB).trans hc
  have c3 : col3 B = 8 := (hst.col B hB2).trans c2
  have b2 : w2.heap[B]? = some (.cells (rowJ ws2 t j) 80 (0, 0)) := (hst.chg.block B hB2 (fun e => by have e' : col2 B < 7 := e; omega)).trans h.row
  have g := Chg.of_grown (Wd.grown_set w2 B j (.int .i64 (numW ws3 (wAt t j))))
  refine ⟨hs.far g (fun i _ e => by rw [e]; exact c3), h.ext.trans he, fun i hi => ?_, ?_, ?_, fun i hi => ?_⟩
  · have h1 := hst.chg.size
    show (if i < w2.heap.size then col3 i else 8) = colA i
    rw [if_pos (by omega)]
    exact (hst.col i (by omega)).trans (h.like i hi)
  · refine (h.chg.trans hst.chg (fun i hi e => Or.inl ?_)).trans g (fun i _ e => Or.inr e)
    rw [← h.like i hi]
    exact e
  · rw [← rowJ_step he j hj h.word]
    exact Wd.heap_set w2 B j _ _ _ b2
  · by_cases e : i = j
    · rw [e]; exact hm
    · exact he.mem (h.word i (by omega))
section
variable {w0 : Nat} {w W1 wr wA wx w6 : World} {k : SW} {s : SS} {D : List Tri} {i : Nat} {v7 dv1 dv2 : Value} {col1 col2 : Nat → Nat} {ws1 ws2 : List ByteArray} {t : Tri}
/-- The colouring of what is at hand in a round. -/
def farC (col : Nat → Nat) (w : World) : Nat → Nat := fun i => if i < w.heap.size then col i else 8
theorem farC_old {col : Nat → Nat} {w : World} {i : Nat} (h : i < w.heap.size) : farC col w i = col i := if_pos h
theorem farC_new {col : Nat → Nat} {w : World} {i : Nat} (h : w.heap.size ≤ i) : farC col w i = 8 := if_neg (by omega)
theorem L2.start (h : L1 w0 w W1 wr k s D i v7 dv1 col1 ws1) (hb : Below wr.heap.size wr wA) (hrow : wA.heap[wr.heap.size + 1]? = some (.cells (rowJ ws1 t 0) 80 (0, 0))) :
    L2 w0 wA wA (wr.heap.size + 1) k s (farC col1 wr) ws1 t 0 dv1 (farC col1 wr) ws1 :=
  ⟨h.sto.below hb, Ext.refl _, fun _ _ => rfl, Chg.refl _ _, hrow, fun i hi => absurd hi (by omega)⟩
theorem L1.rowsAt (h : L1 w0 w W1 wr k s D i v7 dv1 col1 ws1) (hb : Below wr.heap.size wr wA) (h2 : L2 w0 wA wx (wr.heap.size + 1) k s (farC col1 wr) ws1 t 3 dv2 col2 ws2) : G.OwnL wx W1.heap.size 80 3 enc3 v7 ((D.take i).map (rowT ws2)) := by
  rw [h2.ext.rows h.word]
  refine row_same h.rows (fun g hg => ?_)
  have h1 := h.rows.lt_ g hg
  have h3 := h.rcol g hg
  rw [h2.chg.block g (Nat.lt_of_lt_of_le h1 hb.size) (fun e => ?_), hb.block g h1]
  rcases e with e | e
  · rw [farC_old h1] at e; omega
  · omega
theorem L1.step (h : L1 w0 w W1 wr k s D i v7 dv1 col1 ws1) (hb : Below wr.heap.size wr wA) (h2 : L2 w0 wA wx (wr.heap.size + 1) k s (farC col1 wr) ws1 t 3 dv2 col2 ws2) (ht : D[i]? = some t) {v1 : Value} (ho : G.OwnL w6 W1.heap.size 80 3 enc3 v1 ((D.take i).map (rowT ws2) ++ [rowT ws2 t])) (hg : wx.grownBy w6 v7.ownBlock) (hat : v1.ownBlock = v7.ownBlock ∨ ∃ b, v1.ownBlock = some b ∧ wx.heap.size ≤ b) :
    L1 w0 w W1 w6 k s D (i + 1) v1 dv2 (farC col2 wx) ws2 := by
  have s1 := h.chg.size
  have s2 := hb.size
  have s3 := h2.chg.size
  have cv : ∀ g, v7.ownBlock = some g → g < wr.heap.size ∧ col2 g = 8 := fun g e => by
    have h1 := h.rows.lt_ g e
    exact ⟨h1, by rw [h2.like g (by omega), farC_old h1]; exact h.rcol g e⟩
  have c6 : Chg (fun g => some g = v7.ownBlock) wx w6 := Chg.of_row hg
  refine ⟨h2.sto.far c6 (fun g _ e => (cv g e.symm).2), h.ext.trans h2.ext, fun j hj => ?_, ?_, ?_, fun g hg1 => ?_, fun t' ht' => ?_⟩
  · rw [farC_old (by omega), h2.like j (by omega), farC_old (by omega)]
    exact h.like j hj
  · refine ((h.chg.trans (Chg.of_below (fun _ => False) hb) (fun _ _ e => e.elim)).trans h2.chg (fun j hj e => ?_)).trans c6 (fun j hj e => ?_)
    · rcases e with e | e
      · rw [farC_old (by omega), h.like j hj] at e; exact e
      · omega
    · have := h.rows.ge j e.symm
      omega
  · rw [take_snoc ht, List.map_append]
    exact ho
  · rcases hat with e | ⟨b, e1, e2⟩
    · rw [e] at hg1
      have := cv g hg1
      rw [farC_old (by omega)]
      exact this.2
    · rw [e1] at hg1
      injection hg1 with hg1
      rw [← hg1]
      exact farC_new e2
  · rw [take_snoc ht] at ht'
    rcases List.mem_append.1 ht' with ht' | ht'
    · have := h.word t' ht'
      exact ⟨h2.ext.mem this.1, h2.ext.mem this.2.1, h2.ext.mem this.2.2⟩
    · rw [List.mem_singleton.1 ht']
      exact ⟨h2.word 0 (by omega), h2.word 1 (by omega), h2.word 2 (by omega)⟩
theorem L1.start (h : Sto w0 w k s) (hb : Below w.heap.size w W1) : L1 w0 w W1 W1 k s D 0 (.slice none 0 0) k.dv (k.far w).col s.ws :=
  ⟨h.below hb, Ext.refl _, fun _ _ => rfl, Chg.refl _ _, G.OwnL.nil _ _ _ _ _, (fun g e => by cases e), fun t ht => by simp at ht⟩
end
/-- The words of a fact of a version are words of batches. -/
theorem ver_sub_done : ∀ (l : List Cng) (D : List Tri) (t : Tri), t ∈ doneR ltT D l → t ∈ D ∨ ∃ c ∈ l, c.T = t
  | [], _, _, h => Or.inl h
  | c :: r, D, t, h => by
    rcases ver_sub_done r (if c.gone then dropR D c.T else putR ltT D c.T) t h with e | ⟨c', h1, h2⟩
    · split at e
      · exact Or.inl (List.mem_filter.1 e).1
      · rcases mem_putR.1 e with e | e
        · exact Or.inr ⟨c, List.mem_cons_self, e.symm⟩
        · exact Or.inl e
    · exact Or.inr ⟨c', List.mem_cons_of_mem _ h1, h2⟩
theorem ver_sub_from : ∀ (log : List (List Cng)) (D : List Tri) (t : Tri), t ∈ log.foldl (doneR ltT) D → t ∈ D ∨ ∃ l ∈ log, ∃ c ∈ l, c.T = t
  | [], _, _, h => Or.inl h
  | l :: r, D, t, h => by
    rcases ver_sub_from r (doneR ltT D l) t h with e | ⟨l', h1, h2⟩
    · rcases ver_sub_done l D t e with e | e
      · exact Or.inl e
      · exact Or.inr ⟨l, List.mem_cons_self, e⟩
    · exact Or.inr ⟨l', List.mem_cons_of_mem _ h1, h2⟩
theorem ver_sub {log : List (List Cng)} {n : Nat} {t : Tri} (h : t ∈ verL (log.take n)) : ∃ l ∈ log, ∃ c ∈ l, c.T = t := by
  rcases ver_sub_from (log.take n) [] t h with e | ⟨l, h1, h2⟩
  · cases e
  · exact ⟨l, List.mem_of_mem_take h1, h2⟩
theorem word_sub {log : List (List Cng)} {n : Nat} {t : Tri} (h : t ∈ verL (log.take n)) (j : Nat) : ∃ l ∈ log, ∃ c ∈ l, wAt t j = c.T.S ∨ wAt t j = c.T.P ∨ wAt t j = c.T.O := by
  obtain ⟨l, h1, c, h2, h3⟩ := ver_sub h
  refine ⟨l, h1, c, h2, ?_⟩
  rw [h3]
  unfold wAt
  split
  · exact Or.inl rfl
  · split
    · exact Or.inr (Or.inl rfl)
    · exact Or.inr (Or.inr rfl)
theorem word_isW {t : Tri} (h : isT t = true) (j : Nat) : isW (wAt t j) = true := by
  unfold isT at h
  simp only [Bool.and_eq_true] at h
  unfold wAt
  split
  · exact h.1.1
  · split
    · exact h.1.2
    · exact h.2
end Go.Proofs.YtcnffgcegimelaaGreat.So
