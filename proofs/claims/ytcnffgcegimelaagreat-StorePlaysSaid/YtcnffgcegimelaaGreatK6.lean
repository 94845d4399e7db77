/-
  Joined by wip/tools/merge.py from the texts Sv0 Sv1 Sv2. Conditions: as each says.
-/
import Derived.Test.YtcnffgcegimelaaGreatSu3
import Derived.LoopN
section
/-
  store.orders and store.best walked. Conditions: none.
-/
namespace Go.Proofs.YtcnffgcegimelaaGreat.So
open Go.RowKit Go.Proofs.YtcnffgcegimelaaGreat.Mp Go.Proofs.YtcnffgcegimelaaGreat.Wd Go.Proofs.YtcnffgcegimelaaGreat.Pm Go.Proofs.YtcnffgcegimelaaGreat.Pw

set_option maxRecDepth 100000 in
set_option maxHeartbeats 1000000 in
theorem orders_ok (w : World) : Calls Tryz.prog 39 #[] w fun e w' => e = .returned (.agg #[.int .i64 0, .int .i64 1, .int .i64 2, .int .i64 1, .int .i64 2, .int .i64 0, .int .i64 2, .int .i64 0, .int .i64 1]) ∧ Below w.heap.size w w' := by
  go_enter Tryz.func39, Tryz.ntmps39
  go_wp2
  refine bodyPost_ret (v := .agg #[.int .i64 0, .int .i64 1, .int .i64 2, .int .i64 1, .int .i64 2, .int .i64 0, .int .i64 2, .int .i64 0, .int .i64 1]) ?_ rfl ⟨rfl, ?_⟩
  · simp [results, Tryz.results39, go_sem]
  · exact (Below.refl _ _).alloc (Nat.le_refl _) _
theorem idx81 (w : World) (a b c d e f g h i : Value) :
    ((Instr.index 81 (.agg #[a, b, c, d, e, f, g, h, i]) (.int .i64 0)).run Tryz.prog w = .ok (.agg #[a, b, c]) w) ∧ ((Instr.index 81 (.agg #[a, b, c, d, e, f, g, h, i]) (.int .i64 1)).run Tryz.prog w = .ok (.agg #[d, e, f]) w) ∧ ((Instr.index 81 (.agg #[a, b, c, d, e, f, g, h, i]) (.int .i64 2)).run Tryz.prog w = .ok (.agg #[g, h, i]) w) := by
  have u := run_underlying Tryz.underlying81 w
  have z := Tryz.sizeOf80 w
  have g1 := Tryz.isAgg80 w
  refine ⟨?_, ?_, ?_⟩ <;> simp [Instr.index, go_sem, u, z, part]
/-- The order that begins with the words that are there, and how many these are. -/
def bestN (s p o : Bool) : Nat × Nat := if s then (if p then (if o then (0, 3) else (0, 2)) else (if o then (2, 2) else (0, 1))) else (if p then (if o then (1, 2) else (1, 1)) else (if o then (2, 1) else (0, 0)))
/-- Whether a word is there. -/
def hasW (x : ByteArray) : Bool := x.size != 0
theorem has_cases (x : ByteArray) : (x = ByteArray.empty ∧ hasW x = false) ∨ (hasW x = true ∧ (x.toList == []) = false ∧ (x.toList != []) = true) := by
  by_cases h : x.size = 0
  · exact Or.inl ⟨ByteArray.ext (Array.eq_empty_of_size_eq_zero h), by unfold hasW; simp [h]⟩
  · refine Or.inr ⟨by unfold hasW; simpa using h, ?_, ?_⟩
    · rw [ByteArray.toList_eq]
      refine beq_eq_false_iff_ne.2 (fun e => h ?_)
      have := congrArg List.length e
      simpa using this
    · rw [ByteArray.toList_eq, bne_iff_ne]
      refine fun e => h ?_
      have := congrArg List.length e
      simpa using this
theorem box3 {w w1 : World} {a b c : Value} {t : TypeId} (h : Below (w.alloc (.cells #[a, b, c] t)).heap.size (w.alloc (.cells #[a, b, c] t)) w1) : w1.cell? ⟨w.heap.size, 0, none⟩ = some a ∧ w1.cell? ⟨w.heap.size, 1, none⟩ = some b ∧ w1.cell? ⟨w.heap.size, 2, none⟩ = some c := by
  have e : ∀ i, w1.cell? ⟨w.heap.size, i, none⟩ = #[a, b, c][i]? := fun i => (h.cell (p := ⟨w.heap.size, i, none⟩) (by rw [World.size_alloc]; exact Nat.lt_succ_self _)).trans (World.cell?_alloc_new w _ _ i)
  exact ⟨e 0, e 1, e 2⟩
set_option maxRecDepth 100000 in
set_option maxHeartbeats 3200000 in
theorem best_ok (w : World) (s p o : ByteArray) : Calls Tryz.prog 37 #[.agg #[.string s, .string p, .string o]] w fun e w' => e = .returned (.tuple #[.int .i64 (bestN (hasW s) (hasW p) (hasW o)).1, .int .i64 (bestN (hasW s) (hasW p) (hasW o)).2]) ∧ Below w.heap.size w w' := by
  obtain ⟨n, hn⟩ : ∃ n, bestN (hasW s) (hasW p) (hasW o) = n := ⟨_, rfl⟩
  rw [hn]
  have HN := Lib.hid hn
  clear hn
  have i0 := fun w => (idx81 w (.int .i64 0) (.int .i64 1) (.int .i64 2) (.int .i64 1) (.int .i64 2) (.int .i64 0) (.int .i64 2) (.int .i64 0) (.int .i64 1)).1
  have i1 := fun w => (idx81 w (.int .i64 0) (.int .i64 1) (.int .i64 2) (.int .i64 1) (.int .i64 2) (.int .i64 0) (.int .i64 2) (.int .i64 0) (.int .i64 1)).2.1
  have i2 := fun w => (idx81 w (.int .i64 0) (.int .i64 1) (.int .i64 2) (.int .i64 1) (.int .i64 2) (.int .i64 0) (.int .i64 2) (.int .i64 0) (.int .i64 1)).2.2
  rcases has_cases s with ⟨rfl, h1⟩ | ⟨h1, a1, a2⟩ <;> rcases has_cases p with ⟨rfl, h2⟩ | ⟨h2, b1, b2⟩ <;> rcases has_cases o with ⟨rfl, h3⟩ | ⟨h3, c1, c2⟩
  all_goals
    have H := Lib.hid (And.intro h1 (And.intro h2 h3))
    clear h1 h2 h3
    go_enter Tryz.func37, Tryz.ntmps37
    go_wp2_with (go_at_call 39; refine (orders_ok _).mono ?_; rintro e w1 ⟨rfl, hb⟩; have HB := Lib.hid hb; obtain ⟨y0, y1, y2⟩ := box3 hb; have hz : w.heap.size < w1.heap.size := (by have := hb.size; rw [World.size_alloc] at this; exact this); have hz2 : w.heap.size < w1.heap.size + 1 := (by omega); have hz3 : w.heap.size < w1.heap.size + 1 + 1 := (by omega); clear hb)
    repeat (first | (rw [rounds_succ]; go_wp2) | (refine wp_loop_rounds 4 ?_))
    go_ret2
    obtain ⟨e1, e2, e3⟩ := H.out
    have e4 := HN.out
    simp only [e1, e2, e3] at e4
    subst e4
    refine ⟨rfl, ?_⟩
    have hb : Below w.heap.size w w1 := ((Below.refl _ w).alloc (Nat.le_refl _) _).trans (HB.out.mono (by simp))
    exact ((hb.alloc hb.size _).alloc (by simp; omega) _).alloc (by simp; omega) _
end Go.Proofs.YtcnffgcegimelaaGreat.So
end
section
/-
  A store in memory: its dictionary grows. Conditions: the store lies as told.
-/
namespace Go.Proofs.YtcnffgcegimelaaGreat.So
open Go.RowKit Go.Proofs.YtcnffgcegimelaaGreat.Mp Go.Proofs.YtcnffgcegimelaaGreat.Wd Go.Proofs.YtcnffgcegimelaaGreat.Pm Go.Proofs.YtcnffgcegimelaaGreat.Pw

/-- Words that have grown. -/
def Ext (a b : List ByteArray) : Prop := ∃ r, b = a ++ r
theorem Ext.refl (a : List ByteArray) : Ext a a := ⟨[], by simp⟩
theorem Ext.trans {a b c : List ByteArray} (h : Ext a b) (g : Ext b c) : Ext a c := by
  obtain ⟨r, rfl⟩ := h
  obtain ⟨t, rfl⟩ := g
  exact ⟨r ++ t, by simp⟩
theorem Ext.mem {a b : List ByteArray} (h : Ext a b) {x : ByteArray} (hx : x ∈ a) : x ∈ b := by
  obtain ⟨r, rfl⟩ := h
  exact List.mem_append_left _ hx
theorem idxF_app : ∀ (a r : List ByteArray) (y : ByteArray), y ∈ a → idxF (a ++ r) y = idxF a y
  | [], _, y, h => by cases h
  | z :: a, r, y, h => by
    rw [List.cons_append]
    unfold idxF
    by_cases e : y = z
    · rw [if_pos e, if_pos e]
    · rw [if_neg e, if_neg e, idxF_app a r y ((List.mem_cons.1 h).resolve_left e)]
theorem Ext.num {a b : List ByteArray} (h : Ext a b) {x : ByteArray} (hx : x ∈ a) : numW b x = numW a x := by
  obtain ⟨r, rfl⟩ := h
  unfold numW
  rw [idxF_app a r x hx]
theorem Ext.row {a b : List ByteArray} (h : Ext a b) {t : Tri} (ht : t.S ∈ a ∧ t.P ∈ a ∧ t.O ∈ a) : rowT b t = rowT a t := by
  unfold rowT
  rw [h.num ht.1, h.num ht.2.1, h.num ht.2.2]
theorem Ext.rows {a b : List ByteArray} (h : Ext a b) {D : List Tri} (ht : ∀ t ∈ D, t.S ∈ a ∧ t.P ∈ a ∧ t.O ∈ a) : D.map (rowT b) = D.map (rowT a) := List.map_congr_left fun t hD => h.row (ht t hD)
theorem IxsAt.ext {w : World} {col : Nat → Nat} {a b : List ByteArray} {D : List Tri} {i : I3} (h : IxsAt w col a D i) (e : Ext a b) : IxsAt w col b D i := by
  have hr := e.rows h.word
  exact ⟨fun t ht => ⟨e.mem (h.word t ht).1, e.mem (h.word t ht).2.1, e.mem (h.word t ht).2.2⟩, by rw [hr]; exact h.a0, by rw [hr]; exact h.a1, by rw [hr]; exact h.a2⟩
theorem nodup_len {α : Type} [DecidableEq α] : ∀ (a U : List α), a.Nodup → (∀ x ∈ a, x ∈ U) → a.length ≤ U.length
  | [], _, _, _ => by simp
  | x :: a, U, h, hs => by
    obtain ⟨h1, h2⟩ := List.nodup_cons.1 h
    have hx := hs x List.mem_cons_self
    have h3 := nodup_len a (U.filter (fun y => decide (y ≠ x))) h2 fun y hy => List.mem_filter.2 ⟨hs y (List.mem_cons_of_mem _ hy), decide_eq_true (fun e => h1 (by rw [← e]; exact hy))⟩
    have h4 : (U.filter (fun y => decide (y ≠ x))).length < U.length := List.length_filter_lt_length_iff_exists.2 ⟨x, hx, by simp⟩
    rw [List.length_cons]
    omega
/-- All words of batches. -/
def wordsB (l : List Cng) : List ByteArray := l.flatMap fun c => [c.T.S, c.T.P, c.T.O]
def wordsOf (log : List (List Cng)) : List ByteArray := log.flatMap wordsB
theorem wordsB_len (l : List Cng) : (wordsB l).length = 3 * l.length := by
  unfold wordsB
  induction l with
  | nil => rfl
  | cons c r ih => rw [List.flatMap_cons, List.length_append, ih, List.length_cons]; simp; omega
theorem wordsOf_len : ∀ (log : List (List Cng)), (∀ l ∈ log, May l) → (wordsOf log).length ≤ 192 * log.length
  | [], _ => by simp [wordsOf]
  | l :: r, h => by
    have h1 := wordsOf_len r (fun x hx => h x (List.mem_cons_of_mem _ hx))
    have h2 := (h l List.mem_cons_self).1
    show ((l :: r).flatMap wordsB).length ≤ _
    rw [List.flatMap_cons, List.length_append, wordsB_len, List.length_cons]
    have h3 : (r.flatMap wordsB).length ≤ 192 * r.length := h1
    omega
theorem mem_words {log : List (List Cng)} {x : ByteArray} (h : ∃ l ∈ log, ∃ c ∈ l, x = c.T.S ∨ x = c.T.P ∨ x = c.T.O) : x ∈ wordsOf log := by
  obtain ⟨l, hl, c, hc, hx⟩ := h
  exact List.mem_flatMap.2 ⟨l, hl, List.mem_flatMap.2 ⟨c, hc, by simpa using hx⟩⟩
section
variable {w0 : Nat} {w W : World} {k : SW} {s : SS}
theorem Sto.ws_len (h : Sto w0 w k s) : s.ws.length ≤ 192 * s.log.length :=
  Nat.le_trans (nodup_len _ _ h.nd (fun x hx => mem_words (h.wsub x hx))) (wordsOf_len _ h.good.may)
/-- A store whose dictionary has grown. -/
theorem Sto.grown (h : Sto w0 w k s) {dv' : Value} {x : ByteArray} (hd : Dic w0 W k.pd k.bd dv' (s.ws ++ [x])) (c : Chg (fun i => i = k.pd ∨ i = k.bd ∨ some i = k.dv.ownBlock) w W) (hv : dv'.ownBlock = k.dv.ownBlock ∨ ∀ g, dv'.ownBlock = some g → w.heap.size ≤ g)
    (hx : x ∉ s.ws) (hs : ∃ l ∈ s.log, ∃ c ∈ l, x = c.T.S ∨ x = c.T.P ∨ x = c.T.O) :
    ∃ col', Sto w0 W { k with dv := dv', col := col' } { s with ws := s.ws ++ [x] } ∧ StepS w k W { k with dv := dv', col := col' } := by
  have hbn := h.now.lt
  have hbi := h.idx.lt
  have hbd := h.dic.map.lt
  obtain ⟨col', hcol⟩ : ∃ col' : Nat → Nat, col' = fun i => if i < w.heap.size then k.col i else if some i = dv'.ownBlock then 5 else 8 := ⟨_, rfl⟩
  have hl : Like w k.col col' := fun i hi => by rw [hcol]; exact if_pos hi
  have c5 : ∀ i, i < w.heap.size → (i = k.pd ∨ i = k.bd ∨ some i = k.dv.ownBlock) → 3 ≤ k.col i ∧ k.col i ≤ 5 := fun i hi e => by
    rcases e with e | e | e
    · rw [e, h.cd]; omega
    · rw [e, h.cb]; omega
    · rw [h.cv i e.symm]; omega
  have n7 : ∀ i, i < w.heap.size → (k.col i < 3 ∨ 5 < k.col i) → ¬ (i = k.pd ∨ i = k.bd ∨ some i = k.dv.ownBlock) := fun i hi h3 e => by have := c5 i hi e; omega
  have hdv : ∀ g, dv'.ownBlock = some g → col' g = 5 := fun g hg => by
    rcases hv with e | e
    · rw [e] at hg
      rw [hl g (h.dvs hg)]
      exact h.cv g hg
    · have := e g hg
      rw [hcol]
      show (if g < w.heap.size then k.col g else if some g = dv'.ownBlock then 5 else 8) = 5
      rw [if_neg (by omega), if_pos hg.symm]
  have ex : Ext s.ws (s.ws ++ [x]) := ⟨[x], rfl⟩
  refine ⟨col', ⟨(c.block k.p h.ps (n7 _ h.ps (by rw [h.cp]; omega))).trans h.blk, h.now.chg c (n7 _ hbn (by rw [h.cn]; omega)), ?_, h.zl, fun i z l h1 h2 => (h.all i z l h1 h2).chg c hl (fun i hi e => n7 i hi (by omega)), hd, h.idx.chg c (n7 _ hbi (by rw [h.ci]; omega)), ?_, Nat.le_trans h.base c.size, (hl _ h.ps).trans h.cp, (hl _ hbn).trans h.cn, ?_, (hl _ h.pds).trans h.cd, (hl _ hbd).trans h.cb, hdv, (hl _ hbi).trans h.ci, fun i hi => ?_, h.good, ?_, fun y hy => ?_⟩, hl, c.mono (fun i hi e => by have := c5 i hi e; show k.col i < 7; omega)⟩
  · exact row_same h.row (fun g hg => c.block g (h.lvs hg) (n7 _ (h.lvs hg) (by rw [h.cl g hg]; omega)))
  · intro v i hv
    obtain ⟨n, e1, e2, e3⟩ := h.ixs v i hv
    exact ⟨n, e1, e2, (e3.chg c hl (fun i hi e => n7 i hi (by omega))).ext ex⟩
  · exact fun g hg => (hl _ (h.lvs hg)).trans (h.cl g hg)
  · by_cases e : i < w.heap.size
    · exact h.lo i (by rw [← hl i e]; exact hi)
    · have hb := h.base
      omega
  · refine List.nodup_append.2 ⟨h.nd, by simp, fun a ha b hb e => ?_⟩
    rw [List.mem_singleton.1 hb] at e
    exact hx (e ▸ ha)
  · rcases List.mem_append.1 hy with hy | hy
    · exact h.wsub y hy
    · rw [List.mem_singleton.1 hy]; exact hs
end
def PutPost (w0 : Nat) (w : World) (k : SW) (s : SS) (x : ByteArray) (e : Ending) (w' : World) : Prop :=
  ∃ dv' col' ws', e = .returned (.tuple #[.int .i64 (numW ws' x), .int .i64 0]) ∧ Sto w0 w' { k with dv := dv', col := col' } { s with ws := ws' } ∧ Ext s.ws ws' ∧ x ∈ ws' ∧ StepS w k w' { k with dv := dv', col := col' }
/-- Put, at a store's dictionary. -/
theorem put_sto {w0 : Nat} {w : World} {k : SW} {s : SS} (h : Sto w0 w k s) (x : ByteArray) (hw : isW x = true) (hs : ∃ l ∈ s.log, ∃ c ∈ l, x = c.T.S ∨ x = c.T.P ∨ x = c.T.O) (hlog : s.log.length ≤ 4000) :
    Calls Tryz.prog 58 #[.pointer (some ⟨k.pd, 0, none⟩), .string x] w (PutPost w0 w k s x) := by
  have hL := h.ws_len
  cases hf : idxF s.ws x with
  | some n =>
    refine (put_old h.dic x hw n hf).mono fun e w' ⟨h1, h2⟩ => ⟨k.dv, (k.far w).col, s.ws, ?_, h.below h2, Ext.refl _, (idxF_mem s.ws x).2 (by rw [hf]; rfl), StepS.below h2⟩
    rw [h1]
    unfold numW
    rw [hf]
    rfl
  | none =>
    have hx : x ∉ s.ws := fun e => by
      have := (idxF_mem s.ws x).1 e
      rw [hf] at this
      cases this
    refine (put_new h.dic h.base (by omega) x hw hf).mono fun e w' ⟨h1, v', h2, h3, h4⟩ => ?_
    obtain ⟨col', h5, h6⟩ := h.grown h2 h3 h4 hx hs
    refine ⟨v', col', s.ws ++ [x], ?_, h5, ⟨[x], rfl⟩, by simp, h6⟩
    rw [h1]
    unfold numW
    rw [idxF_snoc s.ws x x hx, if_pos rfl]
    rfl
end Go.Proofs.YtcnffgcegimelaaGreat.So
end
section
/-
  A store in memory: the loops that make a version's indexes, told. Conditions: as each says.
-/
namespace Go.Proofs.YtcnffgcegimelaaGreat.So
open Go.RowKit Go.Proofs.YtcnffgcegimelaaGreat.Mp Go.Proofs.YtcnffgcegimelaaGreat.Wd Go.Proofs.YtcnffgcegimelaaGreat.Pm Go.Proofs.YtcnffgcegimelaaGreat.Pw

theorem enc3_len (x : R3) : (enc3 x).length = 3 := rfl
theorem enc3_one (x : R3) : ∀ u ∈ enc3 x, u.oneCell' = true := by
  intro u hu
  simp only [enc3, List.mem_cons, List.not_mem_nil, or_false] at hu
  rcases hu with rfl | rfl | rfl <;> rfl
/-- The outer loop. -/
structure L1 (w0 : Nat) (w W1 wx : World) (k : SW) (s : SS) (D : List Tri) (i : Nat) (v7 dv1 : Value) (col1 : Nat → Nat) (ws1 : List ByteArray) : Prop where
  sto : Sto w0 wx { k with dv := dv1, col := col1 } { s with ws := ws1 }
  ext : Ext s.ws ws1
  like : Like W1 (k.far w).col col1
  chg : Chg (fun j => (k.far w).col j < 7) W1 wx
  rows : G.OwnL wx W1.heap.size 80 3 enc3 v7 ((D.take i).map (rowT ws1))
  rcol : ∀ g, v7.ownBlock = some g → col1 g = 8
  word : ∀ t ∈ D.take i, t.S ∈ ws1 ∧ t.P ∈ ws1 ∧ t.O ∈ ws1
/-- A word of a fact. -/
def wAt (t : Tri) (j : Nat) : ByteArray := if j = 0 then t.S else if j = 1 then t.P else t.O
def numJ (ws : List ByteArray) (t : Tri) (j i : Nat) : Int := if i < j then numW ws (wAt t i) else 0
/-- A row that is being filled. -/
def rowJ (ws : List ByteArray) (t : Tri) (j : Nat) : Array Value := #[.int .i64 (numJ ws t j 0), .int .i64 (numJ ws t j 1), .int .i64 (numJ ws t j 2)]
theorem rowJ_zero (ws : List ByteArray) (t : Tri) : rowJ ws t 0 = #[.int .i64 0, .int .i64 0, .int .i64 0] := rfl
theorem rowJ_get (ws : List ByteArray) (t : Tri) (j i : Nat) (hi : i < 3) : (rowJ ws t j)[i]? = some (.int .i64 (numJ ws t j i)) := by
  match i, hi with
  | 0, _ => rfl
  | 1, _ => rfl
  | 2, _ => rfl
theorem numJ_done (ws : List ByteArray) (t : Tri) : (numJ ws t 3 0 = (rowT ws t).a) ∧ (numJ ws t 3 1 = (rowT ws t).b) ∧ (numJ ws t 3 2 = (rowT ws t).c) := ⟨rfl, rfl, rfl⟩
theorem rowJ_step {ws ws' : List ByteArray} {t : Tri} (e : Ext ws ws') : ∀ j, j < 3 → (∀ i, i < j → wAt t i ∈ ws) → (rowJ ws t j).setIfInBounds j (.int .i64 (numW ws' (wAt t j))) = rowJ ws' t (j + 1)
  | 0, _, _ => rfl
  | 1, _, h => by
    have h0 := e.num (h 0 (by omega))
    show #[_, _, _] = #[_, _, _]
    have e0 : numJ ws t 1 0 = numJ ws' t 2 0 := by unfold numJ; rw [if_pos (by omega), if_pos (by omega), h0]
    rw [e0]
    rfl
  | 2, _, h => by
    have h0 := e.num (h 0 (by omega))
    have h1 := e.num (h 1 (by omega))
    show #[_, _, _] = #[_, _, _]
    have e0 : numJ ws t 2 0 = numJ ws' t 3 0 := by unfold numJ; rw [if_pos (by omega), if_pos (by omega), h0]
    have e1 : numJ ws t 2 1 = numJ ws' t 3 1 := by unfold numJ; rw [if_pos (by omega), if_pos (by omega), h1]
    rw [e0, e1]
    rfl
  | j + 3, h, _ => absurd h (by omega)
/-- The inner loop. -/
structure L2 (w0 : Nat) (wA wx : World) (B : Nat) (k : SW) (s : SS) (colA : Nat → Nat) (wsA : List ByteArray) (t : Tri) (j : Nat) (dv2 : Value) (col2 : Nat → Nat) (ws2 : List ByteArray) : Prop where
  sto : Sto w0 wx { k with dv := dv2, col := col2 } { s with ws := ws2 }
  ext : Ext wsA ws2
  like : Like wA colA col2
  chg : Chg (fun i => colA i < 7 ∨ i = B) wA wx
  row : wx.heap[B]? = some (.cells (rowJ ws2 t j) 80 (0, 0))
  word : ∀ i, i < j → wAt t i ∈ ws2
theorem L2.step {w0 : Nat} {wA wx w2 : World} {B : Nat} {k : SW} {s : SS} {colA col2 col3 : Nat → Nat} {wsA ws2 ws3 : List ByteArray} {t : Tri} {j : Nat} {dv2 dv3 : Value} (h : L2 w0 wA wx B k s colA wsA t j dv2 col2 ws2) (hj : j < 3) (hB : B < wA.heap.size) (hc : colA B = 8)
    (hs : Sto w0 w2 { k with dv := dv3, col := col3 } { s with ws := ws3 }) (he : Ext ws2 ws3) (hm : wAt t j ∈ ws3) (hst : StepS wx { k with dv := dv2, col := col2 } w2 { k with dv := dv3, col := col3 }) :
    L2 w0 wA (w2.setCell ⟨B, j, none⟩ (.int .i64 (numW ws3 (wAt t j)))) B k s colA wsA t (j + 1) dv3 (SW.far { k with dv := dv3, col := col3 } w2).col ws3 := by
  have sA := h.chg.size
  have hB2 : B < wx.heap.size := Nat.lt_of_lt_of_le hB sA
  have c2 : col2 B = 8 := (h.like B hB).trans hc
  have c3 : col3 B = 8 := (hst.col B hB2).trans c2
  have b2 : w2.heap[B]? = some (.cells (rowJ ws2 t j) 80 (0, 0)) := (hst.chg.block B hB2 (fun e => by have e' : col2 B < 7 := e; omega)).trans h.row
  have g := Chg.of_grown (Wd.grown_set w2 B j (.int .i64 (numW ws3 (wAt t j))))
  refine ⟨hs.far g (fun i _ e => by rw [e]; exact c3), h.ext.trans he, fun i hi => ?_, ?_, ?_, fun i hi => ?_⟩
  · have h1 := hst.chg.size
    show (if i < w2.heap.size then col3 i else 8) = colA i
    rw [if_pos (by omega)]
    exact (hst.col i (by omega)).trans (h.like i hi)
  · refine (h.chg.trans hst.chg (fun i hi e => Or.inl ?_)).trans g (fun i _ e => Or.inr e)
    rw [← h.like i hi]
    exact e
  · rw [← rowJ_step he j hj h.word]
    exact Wd.heap_set w2 B j _ _ _ b2
  · by_cases e : i = j
    · rw [e]; exact hm
    · exact he.mem (h.word i (by omega))
section
variable {w0 : Nat} {w W1 wr wA wx w6 : World} {k : SW} {s : SS} {D : List Tri} {i : Nat} {v7 dv1 dv2 : Value} {col1 col2 : Nat → Nat} {ws1 ws2 : List ByteArray} {t : Tri}
/-- The colouring of what is at hand in a round. -/
def farC (col : Nat → Nat) (w : World) : Nat → Nat := fun i => if i < w.heap.size then col i else 8
theorem farC_old {col : Nat → Nat} {w : World} {i : Nat} (h : i < w.heap.size) : farC col w i = col i := if_pos h
theorem farC_new {col : Nat → Nat} {w : World} {i : Nat} (h : w.heap.size ≤ i) : farC col w i = 8 := if_neg (by omega)
theorem L2.start (h : L1 w0 w W1 wr k s D i v7 dv1 col1 ws1) (hb : Below wr.heap.size wr wA) (hrow : wA.heap[wr.heap.size + 1]? = some (.cells (rowJ ws1 t 0) 80 (0, 0))) :
    L2 w0 wA wA (wr.heap.size + 1) k s (farC col1 wr) ws1 t 0 dv1 (farC col1 wr) ws1 :=
  ⟨h.sto.below hb, Ext.refl _, fun _ _ => rfl, Chg.refl _ _, hrow, fun i hi => absurd hi (by omega)⟩
theorem L1.rowsAt (h : L1 w0 w W1 wr k s D i v7 dv1 col1 ws1) (hb : Below wr.heap.size wr wA) (h2 : L2 w0 wA wx (wr.heap.size + 1) k s (farC col1 wr) ws1 t 3 dv2 col2 ws2) : G.OwnL wx W1.heap.size 80 3 enc3 v7 ((D.take i).map (rowT ws2)) := by
  rw [h2.ext.rows h.word]
  refine row_same h.rows (fun g hg => ?_)
  have h1 := h.rows.lt_ g hg
  have h3 := h.rcol g hg
  rw [h2.chg.block g (Nat.lt_of_lt_of_le h1 hb.size) (fun e => ?_), hb.block g h1]
  rcases e with e | e
  · rw [farC_old h1] at e; omega
  · omega
theorem L1.step (h : L1 w0 w W1 wr k s D i v7 dv1 col1 ws1) (hb : Below wr.heap.size wr wA) (h2 : L2 w0 wA wx (wr.heap.size + 1) k s (farC col1 wr) ws1 t 3 dv2 col2 ws2) (ht : D[i]? = some t) {v1 : Value} (ho : G.OwnL w6 W1.heap.size 80 3 enc3 v1 ((D.take i).map (rowT ws2) ++ [rowT ws2 t])) (hg : wx.grownBy w6 v7.ownBlock) (hat : v1.ownBlock = v7.ownBlock ∨ ∃ b, v1.ownBlock = some b ∧ wx.heap.size ≤ b) :
    L1 w0 w W1 w6 k s D (i + 1) v1 dv2 (farC col2 wx) ws2 := by
  have s1 := h.chg.size
  have s2 := hb.size
  have s3 := h2.chg.size
  have cv : ∀ g, v7.ownBlock = some g → g < wr.heap.size ∧ col2 g = 8 := fun g e => by
    have h1 := h.rows.lt_ g e
    exact ⟨h1, by rw [h2.like g (by omega), farC_old h1]; exact h.rcol g e⟩
  have c6 : Chg (fun g => some g = v7.ownBlock) wx w6 := Chg.of_row hg
  refine ⟨h2.sto.far c6 (fun g _ e => (cv g e.symm).2), h.ext.trans h2.ext, fun j hj => ?_, ?_, ?_, fun g hg1 => ?_, fun t' ht' => ?_⟩
  · rw [farC_old (by omega), h2.like j (by omega), farC_old (by omega)]
    exact h.like j hj
  · refine ((h.chg.trans (Chg.of_below (fun _ => False) hb) (fun _ _ e => e.elim)).trans h2.chg (fun j hj e => ?_)).trans c6 (fun j hj e => ?_)
    · rcases e with e | e
      · rw [farC_old (by omega), h.like j hj] at e; exact e
      · omega
    · have := h.rows.ge j e.symm
      omega
  · rw [take_snoc ht, List.map_append]
    exact ho
  · rcases hat with e | ⟨b, e1, e2⟩
    · rw [e] at hg1
      have := cv g hg1
      rw [farC_old (by omega)]
      exact this.2
    · rw [e1] at hg1
      injection hg1 with hg1
      rw [← hg1]
      exact farC_new e2
  · rw [take_snoc ht] at ht'
    rcases List.mem_append.1 ht' with ht' | ht'
    · have := h.word t' ht'
      exact ⟨h2.ext.mem this.1, h2.ext.mem this.2.1, h2.ext.mem this.2.2⟩
    · rw [List.mem_singleton.1 ht']
      exact ⟨h2.word 0 (by omega), h2.word 1 (by omega), h2.word 2 (by omega)⟩
theorem L1.start (h : Sto w0 w k s) (hb : Below w.heap.size w W1) : L1 w0 w W1 W1 k s D 0 (.slice none 0 0) k.dv (k.far w).col s.ws :=
  ⟨h.below hb, Ext.refl _, fun _ _ => rfl, Chg.refl _ _, G.OwnL.nil _ _ _ _ _, (fun g e => by cases e), fun t ht => by simp at ht⟩
end
/-- The words of a fact of a version are words of batches. -/
theorem ver_sub_done : ∀ (l : List Cng) (D : List Tri) (t : Tri), t ∈ doneR ltT D l → t ∈ D ∨ ∃ c ∈ l, c.T = t
  | [], _, _, h => Or.inl h
  | c :: r, D, t, h => by
    rcases ver_sub_done r (if c.gone then dropR D c.T else putR ltT D c.T) t h with e | ⟨c', h1, h2⟩
    · split at e
      · exact Or.inl (List.mem_filter.1 e).1
      · rcases mem_putR.1 e with e | e
        · exact Or.inr ⟨c, List.mem_cons_self, e.symm⟩
        · exact Or.inl e
    · exact Or.inr ⟨c', List.mem_cons_of_mem _ h1, h2⟩
theorem ver_sub_from : ∀ (log : List (List Cng)) (D : List Tri) (t : Tri), t ∈ log.foldl (doneR ltT) D → t ∈ D ∨ ∃ l ∈ log, ∃ c ∈ l, c.T = t
  | [], _, _, h => Or.inl h
  | l :: r, D, t, h => by
    rcases ver_sub_from r (doneR ltT D l) t h with e | ⟨l', h1, h2⟩
    · rcases ver_sub_done l D t e with e | e
      · exact Or.inl e
      · exact Or.inr ⟨l, List.mem_cons_self, e⟩
    · exact Or.inr ⟨l', List.mem_cons_of_mem _ h1, h2⟩
theorem ver_sub {log : List (List Cng)} {n : Nat} {t : Tri} (h : t ∈ verL (log.take n)) : ∃ l ∈ log, ∃ c ∈ l, c.T = t := by
  rcases ver_sub_from (log.take n) [] t h with e | ⟨l, h1, h2⟩
  · cases e
  · exact ⟨l, List.mem_of_mem_take h1, h2⟩
theorem word_sub {log : List (List Cng)} {n : Nat} {t : Tri} (h : t ∈ verL (log.take n)) (j : Nat) : ∃ l ∈ log, ∃ c ∈ l, wAt t j = c.T.S ∨ wAt t j = c.T.P ∨ wAt t j = c.T.O := by
  obtain ⟨l, h1, c, h2, h3⟩ := ver_sub h
  refine ⟨l, h1, c, h2, ?_⟩
  rw [h3]
  unfold wAt
  split
  · exact Or.inl rfl
  · split
    · exact Or.inr (Or.inl rfl)
    · exact Or.inr (Or.inr rfl)
theorem word_isW {t : Tri} (h : isT t = true) (j : Nat) : isW (wAt t j) = true := by
  unfold isT at h
  simp only [Bool.and_eq_true] at h
  unfold wAt
  split
  · exact h.1.1
  · split
    · exact h.1.2
    · exact h.2
end Go.Proofs.YtcnffgcegimelaaGreat.So
end
