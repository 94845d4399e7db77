/-
  A store in memory: its dictionary grows. Conditions: the store lies as told.
-/
import Derived.Test.YtcnffgcegimelaaGreatSv0
namespace Go.Proofs.YtcnffgcegimelaaGreat.So
open Go.RowKit Go.Proofs.YtcnffgcegimelaaGreat.Mp Go.Proofs.YtcnffgcegimelaaGreat.Wd Go.Proofs.YtcnffgcegimelaaGreat.Pm Go.Proofs.YtcnffgcegimelaaGreat.Pw

/-- Words that have grown. -/
def Ext (a b : List ByteArray) : Prop := ∃ r, b = a ++ r
theorem Ext.refl (a : List ByteArray) : Ext a a := ⟨[], by simp⟩
theorem Ext.trans {a b c : List ByteArray} (h : Ext a b) (g : Ext b c) : Ext a c := by
  obtain ⟨r, rfl⟩ := h
  obtain ⟨t, rfl⟩ := g
  exact ⟨r ++ t, by simp⟩
theorem Ext.mem {a b : List ByteArray} (h : Ext a b) {x : ByteArray} (hx : x ∈ a) : x ∈ b := by
  obtain ⟨r, rfl⟩ := h
  exact List.mem_append_left _ hx
theorem idxF_app : ∀ (a r : List ByteArray) (y : ByteArray), y ∈ a → idxF (a ++ r) y = idxF a y
  | [], _, y, h => by cases h
  | z :: a, r, y, h => by
    rw [List.cons_append]
    unfold idxF
    by_cases e : y = z
    · rw [if_pos e, if_pos e]
    · rw [if_neg e, if_neg e, idxF_app a r y ((List.mem_cons.1 h).resolve_left e)]
theorem Ext.num {a b : List ByteArray} (h : Ext a b) {x : ByteArray} (hx : x ∈ a) : numW b x = numW a x := by
  obtain ⟨r, rfl⟩ := h
  unfold numW
  rw [idxF_app a r x hx]
theorem Ext.row {a b : List ByteArray} (h : Ext a b) {t : Tri} (ht : t.S ∈ a ∧ t.P ∈ a ∧ t.O ∈ a) : rowT b t = rowT a t := by
  unfold rowT
  rw [h.num ht.1, h.num ht.2.1, h.num ht.2.2]
theorem Ext.rows {a b : List ByteArray} (h : Ext a b) {D : List Tri} (ht : ∀ t ∈ D, t.S ∈ a ∧ t.P ∈ a ∧ t.O ∈ a) : D.map (rowT b) = D.map (rowT a) := List.map_congr_left fun t hD => h.row (ht t hD)
theorem IxsAt.ext {w : World} {col : Nat → Nat} {a b : List ByteArray} {D : List Tri} {i : I3} (h : IxsAt w col a D i) (e : Ext a b) : IxsAt w col b D i := by
  have hr := e.rows h.word
  exact ⟨fun t ht => ⟨e.mem (h.word t ht).1, e.mem (h.word t ht).2.1, e.mem (h.word t ht).2.2⟩, by rw [hr]; exact h.a0, by rw [hr]; exact h.a1, by rw [hr]; exact h.a2⟩
theorem nodup_len {α : Type} [DecidableEq α] : ∀ (a U : List α), a.Nodup → (∀ x ∈ a, x ∈ U) → a.length ≤ U.length
  | [], _, _, _ => by simp
  | x :: a, U, h, hs => by
    obtain ⟨h1, h2⟩ := List.nodup_cons.1 h
    have hx := hs x List.mem_cons_self
    have h3 := nodup_len a (U.filter (fun y => decide (y ≠ x))) h2 fun y hy => List.mem_filter.2 ⟨hs y (List.mem_cons_of_mem _ hy), decide_eq_true (fun e => h1 (by rw [← e]; exact hy))⟩
    have h4 : (U.filter (fun y => decide (y ≠ x))).length < U.length := List.length_filter_lt_length_iff_exists.2 ⟨x, hx, by simp⟩
    rw [List.length_cons]
    omega
/-- All words of batches. -/
def wordsB (l : List Cng) : List ByteArray := l.flatMap fun c => [c.T.S, c.T.P, c.T.O]
def wordsOf (log : List (List Cng)) : List ByteArray := log.flatMap wordsB
theorem wordsB_len (l : List Cng) : (wordsB l).length = 3 * l.length := by
  unfold wordsB
  induction l with
  | nil => rfl
  | cons c r ih => rw [List.flatMap_cons, List.length_append, ih, List.length_cons]; simp; omega
theorem wordsOf_len : ∀ (log : List (List Cng)), (∀ l ∈ log, May l) → (wordsOf log).length ≤ 192 * log.length
  | [], _ => by simp [wordsOf]
  | l :: r, h => by
    have h1 := wordsOf_len r (fun x hx => h x (List.mem_cons_of_mem _ hx))
    have h2 := (h l List.mem_cons_self).1
    show ((l :: r).flatMap wordsB).length ≤ _
    rw [List.flatMap_cons, List.length_append, wordsB_len, List.length_cons]
    have h3 : (r.flatMap wordsB).length ≤ 192 * r.length := h1
    omega
theorem mem_words {log : List (List Cng)} {x : ByteArray} (h : ∃ l ∈ log, ∃ c ∈ l, x = c.T.S ∨ x = c.T.P ∨ x = c.T.O) : x ∈ wordsOf log := by
  obtain ⟨l, hl, c, hc, hx⟩ := h
  exact List.mem_flatMap.2 ⟨l, hl, List.mem_flatMap.2 ⟨c, hc, by simpa using hx⟩⟩
section
variable {w0 : Nat} {w W : World} {k : SW} {s : SS}
theorem Sto.ws_len (h : Sto w0 w k s) : s.ws.length ≤ 192 * s.log.length :=
  Nat.le_trans (nodup_len _ _ h.nd (fun x hx => mem_words (h.wsub x hx))) (wordsOf_len _ h.good.may)
/-- A store whose dictionary has grown. -/
theorem Sto.grown (h : Sto w0 w k s) {dv' : Value} {x : ByteArray} (hd : Dic w0 W k.pd k.bd dv' (s.ws ++ [x])) (c : Chg (fun i => i = k.pd ∨ i = k.bd ∨ some i = k.dv.ownBlock) w W) (hv : dv'.ownBlock = k.dv.ownBlock ∨ ∀ g, dv'.ownBlock = some g → w.heap.size ≤ g)
    (hx : x ∉ s.ws) (hs : ∃ l ∈ s.log, ∃ c ∈ l, x = c.T.S ∨ x = c.T.P ∨ x = c.T.O) :
    ∃ col', Sto w0 W { k with dv := dv', col := col' } { s with ws := s.ws ++ [x] } ∧ StepS w k W { k with dv := dv', col := col' } := by
  have hbn := h.now.lt
  have hbi := h.idx.lt
  have hbd := h.dic.map.lt
  obtain ⟨col', hcol⟩ : ∃ col' : Nat → Nat, col' = fun i => if i < w.heap.size then k.col i else if some i = dv'.ownBlock then 5 else 8 := ⟨_, rfl⟩
  have hl : Like w k.col col' := fun i hi => by rw [hcol]; exact if_pos hi
  have c5 : ∀ i, i < w.heap.size → (i = k.pd ∨ i = k.bd ∨ some i = k.dv.ownBlock) → 3 ≤ k.col i ∧ k.col i ≤ 5 := fun i hi e => by
    rcases e with e | e | e
    · rw [e, h.cd]; omega
    · rw [e, h.cb]; omega
    · rw [h.cv i e.symm]; omega
  have n7 : ∀ i, i < w.heap.size → (k.col i < 3 ∨ 5 < k.col i) → ¬ (i = k.pd ∨ i = k.bd ∨ some i = k.dv.ownBlock) := fun i hi h3 e => by have := c5 i hi e; omega
  have hdv : ∀ g, dv'.ownBlock = some g → col' g = 5 := fun g hg => by
    rcases hv with e | e
    · rw [e] at hg
      rw [hl g (h.dvs hg)]
      exact h.cv g hg
    · have := e g hg
      rw [hcol]
      show (if g < w.heap.size then k.col g else if some g = dv'.ownBlock then 5 else 8) = 5
      rw [if_neg (by omega), if_pos hg.symm]
  have ex : Ext s.ws (s.ws ++ [x]) := ⟨[x], rfl⟩
  refine ⟨col', ⟨(c.block k.p h.ps (n7 _ h.ps (by rw [h.cp]; omega))).trans h.blk, h.now.chg c (n7 _ hbn (by rw [h.cn]; omega)), ?_, h.zl, fun i z l h1 h2 => (h.all i z l h1 h2).chg c hl (fun i hi e => n7 i hi (by omega)), hd, h.idx.chg c (n7 _ hbi (by rw [h.ci]; omega)), ?_, Nat.le_trans h.base c.size, (hl _ h.ps).trans h.cp, (hl _ hbn).trans h.cn, ?_, (hl _ h.pds).trans h.cd, (hl _ hbd).trans h.cb, hdv, (hl _ hbi).trans h.ci, fun i hi => ?_, h.good, ?_, fun y hy => ?_⟩, hl, c.mono (fun i hi e => by have := c5 i hi e; show k.col i < 7; omega)⟩
  · exact row_same h.row (fun g hg => c.block g (h.lvs hg) (n7 _ (h.lvs hg) (by rw [h.cl g hg]; omega)))
  · intro v i hv
    obtain ⟨n, e1, e2, e3⟩ := h.ixs v i hv
    exact ⟨n, e1, e2, (e3.chg c hl (fun i hi e => n7 i hi (by omega))).ext ex⟩
  · exact fun g hg => (hl _ (h.lvs hg)).trans (h.cl g hg)
  · by_cases e : i < w.heap.size
    · exact h.lo i (by rw [← hl i e]; exact hi)
    · have hb := h.base
      omega
  · refine List.nodup_append.2 ⟨h.nd, by simp, fun a ha b hb e => ?_⟩
    rw [List.mem_singleton.1 hb] at e
    exact hx (e ▸ ha)
  · rcases List.mem_append.1 hy with hy | hy
    · exact h.wsub y hy
    · rw [List.mem_singleton.1 hy]; exact hs
end
def PutPost (w0 : Nat) (w : World) (k : SW) (s : SS) (x : ByteArray) (e : Ending) (w' : World) : Prop :=
  ∃ dv' col' ws', e = .returned (.tuple #[.int .i64 (numW ws' x), .int .i64 0]) ∧ Sto w0 w' { k with dv := dv', col := col' } { s with ws := ws' } ∧ Ext s.ws ws' ∧ x ∈ ws' ∧ StepS w k w' { k with dv := dv', col := col' }
/-- Put, at a store's dictionary. -/
theorem put_sto {w0 : Nat} {w : World} {k : SW} {s : SS} (h : Sto w0 w k s) (x : ByteArray) (hw : isW x = true) (hs : ∃ l ∈ s.log, ∃ c ∈ l, x = c.T.S ∨ x = c.T.P ∨ x = c.T.O) (hlog : s.log.length ≤ 4000) :
    Calls Tryz.prog 58 #[.pointer (some ⟨k.pd, 0, none⟩), .string x] w (PutPost w0 w k s x) := by
  have hL := h.ws_len
  cases hf : idxF s.ws x with
  | some n =>
    refine (put_old h.dic x hw n hf).mono fun e w' ⟨h1, h2⟩ => ⟨k.dv, (k.far w).col, s.ws, ?_, h.below h2, Ext.refl _, (idxF_mem s.ws x).2 (by rw [hf]; rfl), StepS.below h2⟩
    rw [h1]
    unfold numW
    rw [hf]
    rfl
  | none =>
    have hx : x ∉ s.ws := fun e => by
      have := (idxF_mem s.ws x).1 e
      rw [hf] at this
      cases this
    refine (put_new h.dic h.base (by omega) x hw hf).mono fun e w' ⟨h1, v', h2, h3, h4⟩ => ?_
    obtain ⟨col', h5, h6⟩ := h.grown h2 h3 h4 hx hs
    refine ⟨v', col', s.ws ++ [x], ?_, h5, ⟨[x], rfl⟩, by simp, h6⟩
    rw [h1]
    unfold numW
    rw [idxF_snoc s.ws x x hx, if_pos rfl]
    rfl
end Go.Proofs.YtcnffgcegimelaaGreat.So
