/-
  Joined by wip/tools/merge.py from the texts Sy0 Sy1 Sy2. Conditions: as each says.
-/
import Derived.Test.YtcnffgcegimelaaGreatSx3
import Derived.BigQuiet
import Derived.Deep.QuietTactic
import Derived.Test.YtcnffgcegimelaaGreatWEqStruct
section
/-
  What matches some words, plain. Conditions: as each says.
-/
namespace Go.Proofs.YtcnffgcegimelaaGreat.So
open Go.RowKit Go.Proofs.YtcnffgcegimelaaGreat.Mp Go.Proofs.YtcnffgcegimelaaGreat.Wd Go.Proofs.YtcnffgcegimelaaGreat.Pm Go.Proofs.YtcnffgcegimelaaGreat.Pw

/-- Whether a fact has the words that are there. -/
def likeB (like t : Tri) : Bool := (!hasW like.S || decide (like.S = t.S)) && (!hasW like.P || decide (like.P = t.P)) && (!hasW like.O || decide (like.O = t.O))
def matchL (log : List (List Cng)) (n : Int) (like : Tri) : List Tri := (factsL log n).filter (likeB like)
theorem likeB_iff (like t : Tri) : likeB like t = true ↔ ∀ i, i < 3 → hasW (wAt like i) = true → wAt like i = wAt t i := by
  unfold likeB
  simp only [Bool.and_eq_true, Bool.or_eq_true, Bool.not_eq_true', decide_eq_true_eq]
  constructor
  · rintro ⟨⟨h0, h1⟩, h2⟩ i hi hw
    have : i = 0 ∨ i = 1 ∨ i = 2 := by omega
    rcases this with rfl | rfl | rfl
    · rcases h0 with e | e
      · have hw' : hasW like.S = true := hw
        rw [e] at hw'; cases hw'
      · exact e
    · rcases h1 with e | e
      · have hw' : hasW like.P = true := hw
        rw [e] at hw'; cases hw'
      · exact e
    · rcases h2 with e | e
      · have hw' : hasW like.O = true := hw
        rw [e] at hw'; cases hw'
      · exact e
  · intro h
    refine ⟨⟨?_, ?_⟩, ?_⟩
    · cases e : hasW like.S with
      | false => exact Or.inl rfl
      | true => exact Or.inr (h 0 (by omega) e)
    · cases e : hasW like.P with
      | false => exact Or.inl rfl
      | true => exact Or.inr (h 1 (by omega) e)
    · cases e : hasW like.O with
      | false => exact Or.inl rfl
      | true => exact Or.inr (h 2 (by omega) e)
def ordK (kk : Nat) : Ord := if kk = 0 then o0 else if kk = 1 then o1 else o2
theorem six_K (kk : Nat) : Six (ordK kk) := by
  unfold ordK
  split
  · exact six0
  · split
    · exact six1
    · exact six2
theorem best_ord (like : Tri) : (bestN (hasW like.S) (hasW like.P) (hasW like.O)).1 ≤ 2 ∧ (bestN (hasW like.S) (hasW like.P) (hasW like.O)).2 ≤ 3 ∧ ∀ i, i < 3 → (hasW (wAt like ((ordK (bestN (hasW like.S) (hasW like.P) (hasW like.O)).1).at i)) = true ↔ i < (bestN (hasW like.S) (hasW like.P) (hasW like.O)).2) := by
  have key : ∀ (f : Nat → Bool) (a b c : Bool), f 0 = a → f 1 = b → f 2 = c → (bestN a b c).1 ≤ 2 ∧ (bestN a b c).2 ≤ 3 ∧ ∀ i, i < 3 → (f ((ordK (bestN a b c).1).at i) = true ↔ i < (bestN a b c).2) := by
    intro f a b c h0 h1 h2
    cases a <;> cases b <;> cases c <;>
    · refine ⟨by decide, by decide, fun i hi => ?_⟩
      have : i = 0 ∨ i = 1 ∨ i = 2 := by omega
      rcases this with rfl | rfl | rfl <;> simp [bestN, ordK, o0, o1, o2, Ord.at, h0, h1, h2]
  exact key (fun i => hasW (wAt like i)) _ _ _ rfl rfl rfl
theorem likeB_ord {like t : Tri} {o : Ord} {kn : Nat} (ho : Six o) (h : ∀ i, i < 3 → (hasW (wAt like (o.at i)) = true ↔ i < kn)) : likeB like t = true ↔ ∀ i, i < kn → i < 3 → wAt like (o.at i) = wAt t (o.at i) := by
  rw [likeB_iff]
  constructor
  · intro g i hi h3
    exact g _ ((six_at ho).2 i h3) ((h i h3).2 hi)
  · intro g i h3 hw
    obtain ⟨j, hj, rfl⟩ := (six_at ho).1 i h3
    exact g j ((h j hj).1 hw) hj
section
variable {ws : List ByteArray} {D : List Tri} {o : Ord}
theorem num_inj {a b : ByteArray} (ha : a ∈ ws) (hb : b ∈ ws) (h : numW ws a = numW ws b) : a = b := by
  have h1 := (numW_ok ha).2
  have h2 := (numW_ok hb).2
  rw [h, h2] at h1
  exact h1.symm
theorem fact_row {t : Tri} (h : t.S ∈ ws ∧ t.P ∈ ws ∧ t.O ∈ ws) : factR ws (rowT ws t) = t := by
  unfold factR rowT
  simp only
  rw [(numW_ok h.1).2, (numW_ok h.2.1).2, (numW_ok h.2.2).2]
theorem row_at (t : Tri) (i : Nat) : (rowT ws t).at i = numW ws (wAt t i) := by
  unfold rowT R3.at wAt
  split
  · rfl
  · split <;> rfl
theorem wAt_mem {t : Tri} (h : t.S ∈ ws ∧ t.P ∈ ws ∧ t.O ∈ ws) (i : Nat) : wAt t i ∈ ws := by
  unfold wAt
  split
  · exact h.1
  · split
    · exact h.2.1
    · exact h.2.2
/-- The numbers of the first words that are asked for. -/
def pathK (ws : List ByteArray) (like : Tri) (o : Ord) (j : Nat) : List Int := (List.range j).map fun i => numW ws (wAt like (o.at i))
theorem pathK_len (like : Tri) (j : Nat) : (pathK ws like o j).length = j := by unfold pathK; rw [List.length_map, List.length_range]
theorem pathK_get (like : Tri) (j i : Nat) (hi : i < j) : (pathK ws like o j).getD i 0 = numW ws (wAt like (o.at i)) := by
  unfold pathK
  rw [List.getD_eq_getElem?_getD, List.getElem?_map, List.getElem?_range hi]
  rfl
theorem pathK_snoc (like : Tri) (j : Nat) : pathK ws like o (j + 1) = pathK ws like o j ++ [numW ws (wAt like (o.at j))] := by
  unfold pathK
  rw [List.range_succ, List.map_append]
  rfl
theorem mem_rows {r : R3} : r ∈ rowsOf o (D.map (rowT ws)) ↔ ∃ t ∈ D, rowT ws t = r := by
  rw [rowsOf_mem, List.mem_map]
theorem under_path {like : Tri} {j : Nat} (hw : ∀ t ∈ D, t.S ∈ ws ∧ t.P ∈ ws ∧ t.O ∈ ws) (hl : ∀ i, i < j → wAt like (o.at i) ∈ ws) (r : R3) : r ∈ under (rowsOf o (D.map (rowT ws))) o (pathK ws like o j) ↔ ∃ t ∈ D, rowT ws t = r ∧ ∀ i, i < j → wAt like (o.at i) = wAt t (o.at i) := by
  rw [mem_under, mem_rows, pathK_len]
  constructor
  · rintro ⟨⟨t, ht, rfl⟩, h⟩
    refine ⟨t, ht, rfl, fun i hi => ?_⟩
    have := h i hi
    rw [pathK_get like j i hi, row_at] at this
    exact (num_inj (wAt_mem (hw t ht) _) (hl i hi) this).symm
  · rintro ⟨t, ht, rfl, h⟩
    refine ⟨⟨t, ht, rfl⟩, fun i hi => ?_⟩
    rw [pathK_get like j i hi, row_at, h i hi]
/-- What is gathered is what matches. -/
theorem gath_match {like : Tri} {kn : Nat} {Y : List Tri} (ho : Six o) (hD : Rises ltT D) (hw : ∀ t ∈ D, t.S ∈ ws ∧ t.P ∈ ws ∧ t.O ∈ ws) (h3 : kn ≤ 3) (hl : ∀ i, i < kn → wAt like (o.at i) ∈ ws) (hb : ∀ i, i < 3 → (hasW (wAt like (o.at i)) = true ↔ i < kn))
    (hY : Y.Perm ((under (rowsOf o (D.map (rowT ws))) o (pathK ws like o kn)).map (factR ws))) : srtT Y = D.filter (likeB like) := by
  have hn : ((under (rowsOf o (D.map (rowT ws))) o (pathK ws like o kn)).map (factR ws)).Nodup := by
    refine List.pairwise_map.2 ?_
    have h1 : (under (rowsOf o (D.map (rowT ws))) o (pathK ws like o kn)).Nodup := (rows_nodup (rowsOf_strict o ho _)).filter _
    refine h1.imp_of_mem fun {a b} ha hb' hab e => hab ?_
    obtain ⟨t, ht, rfl, _⟩ := (under_path hw hl a).1 ha
    obtain ⟨t', ht', rfl, _⟩ := (under_path hw hl b).1 hb'
    rw [fact_row (hw t ht), fact_row (hw t' ht')] at e
    rw [e]
  refine rises_one ltT_swh (srtT_rises (hY.nodup_iff.2 hn)) (hD.filter _) fun t => ?_
  rw [(srtT_perm Y).mem_iff, hY.mem_iff, List.mem_map, List.mem_filter, likeB_ord ho hb]
  constructor
  · rintro ⟨r, hr, rfl⟩
    obtain ⟨t, ht, rfl, h⟩ := (under_path hw hl r).1 hr
    rw [fact_row (hw t ht)]
    exact ⟨ht, fun i hi _ => h i hi⟩
  · rintro ⟨ht, h⟩
    exact ⟨rowT ws t, (under_path hw hl _).2 ⟨t, ht, rfl, fun i hi => h i hi (by omega)⟩, fact_row (hw t ht)⟩
/-- Nothing matches: a word is not there. -/
theorem none_word {like : Tri} {kn j : Nat} (ho : Six o) (hw : ∀ t ∈ D, t.S ∈ ws ∧ t.P ∈ ws ∧ t.O ∈ ws) (h3 : kn ≤ 3) (hj : j < kn) (hno : wAt like (o.at j) ∉ ws) (hb : ∀ i, i < 3 → (hasW (wAt like (o.at i)) = true ↔ i < kn)) : D.filter (likeB like) = [] := by
  refine List.filter_eq_nil_iff.2 fun t ht e => hno ?_
  rw [(likeB_ord ho hb).1 e j hj (by omega)]
  exact wAt_mem (hw t ht) _
/-- Nothing matches: a number does not stand there. -/
theorem none_path {like : Tri} {kn j : Nat} (ho : Six o) (hw : ∀ t ∈ D, t.S ∈ ws ∧ t.P ∈ ws ∧ t.O ∈ ws) (h3 : kn ≤ 3) (hj : j < kn) (hl : ∀ i, i < j + 1 → wAt like (o.at i) ∈ ws) (hno : numW ws (wAt like (o.at j)) ∉ lvl (rowsOf o (D.map (rowT ws))) o (pathK ws like o j)) (hb : ∀ i, i < 3 → (hasW (wAt like (o.at i)) = true ↔ i < kn)) : D.filter (likeB like) = [] := by
  refine List.filter_eq_nil_iff.2 fun t ht e => hno ?_
  have h1 := (likeB_ord ho hb).1 e
  refine (mem_lvl (rowsOf_strict o ho _) (by rw [pathK_len]; omega) _).2 ⟨rowT ws t, (under_path hw (fun i hi => hl i (by omega)) _).2 ⟨t, ht, rfl, fun i hi => h1 i (by omega) (by omega)⟩, ?_⟩
  rw [pathK_len, row_at, h1 j hj (by omega)]
theorem none_empty {like : Tri} (_hw : ∀ t ∈ D, t.S ∈ ws ∧ t.P ∈ ws ∧ t.O ∈ ws) (h : (rowsOf o (D.map (rowT ws))).length = 0) : D.filter (likeB like) = [] := by
  refine List.filter_eq_nil_iff.2 fun t ht _ => ?_
  have := mem_rows (o := o) (ws := ws) (D := D) |>.2 ⟨t, ht, rfl⟩
  rw [List.eq_nil_of_length_eq_zero h] at this
  cases this
theorem rows_ok (hw : ∀ t ∈ D, t.S ∈ ws ∧ t.P ∈ ws ∧ t.O ∈ ws) (hf : ws.length ≤ 1000000) : RowsOk ws (rowsOf o (D.map (rowT ws))) := by
  refine ⟨fun r hr => ?_, hf⟩
  obtain ⟨t, ht, rfl⟩ := mem_rows.1 hr
  have h := hw t ht
  exact ⟨(numW_ok h.1).1, (numW_ok h.2.1).1, (numW_ok h.2.2).1⟩
theorem rows_top (hw : ∀ t ∈ D, t.S ∈ ws ∧ t.P ∈ ws ∧ t.O ∈ ws) (hf : ws.length ≤ 1000000) : ∀ e i, i < (rowsOf o (D.map (rowT ws))).length → num (rowsOf o (D.map (rowT ws))) o e i ≤ 9223372036854775807 := fun e i hi => by
  have h1 := (rows_ok (o := o) hw hf).at (r := (rowsOf o (D.map (rowT ws))).getD i r0) (by
    rw [List.getD_eq_getElem?_getD, List.getElem?_eq_getElem hi]
    exact List.getElem_mem _) (o.at (e - 1))
  obtain ⟨m, h2, h3⟩ := h1
  unfold num
  rw [h2]
  omega
end
end Go.Proofs.YtcnffgcegimelaaGreat.So
end
section
/-
  store.Match walked. Conditions: the store lies as told; words have lengths that an int holds.
-/
namespace Go.Proofs.YtcnffgcegimelaaGreat.So
open Go.RowKit Go.Proofs.YtcnffgcegimelaaGreat.Mp Go.Proofs.YtcnffgcegimelaaGreat.Wd Go.Proofs.YtcnffgcegimelaaGreat.Pm Go.Proofs.YtcnffgcegimelaaGreat.Pw

def MatchPost (w0 : Nat) (w : World) (k : SW) (s : SS) (n : Int) (like : Tri) (e : Ending) (w' : World) : Prop :=
  ∃ v k' s', e = .returned (.tuple #[v, .int .i64 (factsE s.log.length n)]) ∧ Sto w0 w' k' s' ∧ s'.log = s.log ∧ k'.p = k.p ∧ StepS w k w' k' ∧ Out3 w.heap.size w' v (matchL s.log n like) ∧ ∀ g, v.ownBlock = some g → k'.col g = 8
theorem match_no {w0 : Nat} {w w' : World} {k : SW} {s : SS} {n : Int} {like : Tri} (h : Sto w0 w k s) (hn : ¬ (0 ≤ n ∧ n ≤ s.log.length)) (hb : Below w.heap.size w w') : MatchPost w0 w k s n like (.returned (.tuple #[.slice none 0 0, .int .i64 71])) w' :=
  ⟨_, k.far w, s, by unfold factsE; rw [if_neg hn], h.below hb, rfl, rfl, StepS.below hb, ⟨by unfold matchL factsL; rw [if_neg hn]; exact G.SlL.nil _ _, Or.inl rfl⟩, fun g e => by cases e⟩
set_option maxRecDepth 100000 in
set_option maxHeartbeats 3200000 in
theorem match_below {w0 : Nat} {w : World} {k : SW} {s : SS} (h : Sto w0 w k s) (n : Int) (a b c : ByteArray) (hn : n < 0) :
    Calls Tryz.prog 18 #[.pointer (some ⟨k.p, 0, none⟩), .int .i64 n, .agg #[.string a, .string b, .string c]] w (MatchPost w0 w k s n ⟨a, b, c⟩) := by
  obtain ⟨q0, q1, q2, q3⟩ := h.cells
  have hps := h.ps
  have hno := Lib.hid (show ¬ (0 ≤ n ∧ n ≤ s.log.length) by omega)
  have G0 := fun W (e : W.cell? ⟨k.p, 0, none⟩ = some (.map (some k.bn))) => given_sto W k.p (some k.bn) e
  have H := Lib.hid h
  clear h
  have r0 := (((Below.refl _ w).alloc (Nat.le_refl _) (.cells #[.string a, .string b, .string c] 35 (0, 0))).cell (p := ⟨k.p, 0, none⟩) hps).trans q0
  go_enter Tryz.func18, Tryz.ntmps18
  go_wp2_with (go_at_call 31; refine (G0 _ r0).mono ?_; rintro e w' ⟨rfl, rfl⟩)
  go_ret2
  exact match_no H.out hno.out ((Below.refl _ w).alloc (Nat.le_refl _) _)
set_option maxRecDepth 100000 in
set_option maxHeartbeats 3200000 in
theorem match_above {w0 : Nat} {w : World} {k : SW} {s : SS} (h : Sto w0 w k s) (n : Int) (a b c : ByteArray) (hn : (s.log.length : Int) < n) :
    Calls Tryz.prog 18 #[.pointer (some ⟨k.p, 0, none⟩), .int .i64 n, .agg #[.string a, .string b, .string c]] w (MatchPost w0 w k s n ⟨a, b, c⟩) := by
  obtain ⟨q0, q1, q2, q3⟩ := h.cells
  have hps := h.ps
  have hno := Lib.hid (show ¬ (0 ≤ n ∧ n ≤ s.log.length) by omega)
  have G0 := fun W (e : W.cell? ⟨k.p, 0, none⟩ = some (.map (some k.bn))) => given_sto W k.p (some k.bn) e
  obtain ⟨Al, cl, hlv, _⟩ := h.row.sl
  rw [hlv, h.zl] at q1
  have h0 : ¬ n < 0 := by omega
  have H := Lib.hid h
  clear h hlv
  have bb := ((Below.refl _ w).alloc (Nat.le_refl _) (.cells #[.string a, .string b, .string c] 35 (0, 0)))
  have r0 := (bb.cell (p := ⟨k.p, 0, none⟩) hps).trans q0
  have r1 := (bb.cell (p := ⟨k.p, 1, none⟩) hps).trans q1
  clear bb
  go_enter Tryz.func18, Tryz.ntmps18
  go_wp2_with (go_at_call 31; refine (G0 _ r0).mono ?_; rintro e w' ⟨rfl, rfl⟩)
  go_ret2
  exact match_no H.out hno.out ((Below.refl _ w).alloc (Nat.le_refl _) _)
/-- The index of an order. -/
def ixK (i : I3) (kk : Nat) : IX := if kk = 0 then i.i0 else if kk = 1 then i.i1 else i.i2
theorem idx78 (i : I3) (kk : Nat) (hk : kk ≤ 2) (w : World) : (Instr.index 78 (.agg #[.pointer (some ⟨i.i0.X, 0, none⟩), .pointer (some ⟨i.i1.X, 0, none⟩), .pointer (some ⟨i.i2.X, 0, none⟩)]) (.int .i64 kk)).run Tryz.prog w = .ok (.pointer (some ⟨(ixK i kk).X, 0, none⟩)) w := by
  have u := run_underlying Tryz.underlying78 w
  have z := Tryz.sizeOf77 w
  have g1 := Tryz.isAgg77 w
  have : kk = 0 ∨ kk = 1 ∨ kk = 2 := by omega
  rcases this with rfl | rfl | rfl <;> simp [Instr.index, go_sem, u, z, part, ixK]
theorem idxO (kk : Nat) (hk : kk ≤ 2) (w : World) : (Instr.index 81 (.agg #[.int .i64 0, .int .i64 1, .int .i64 2, .int .i64 1, .int .i64 2, .int .i64 0, .int .i64 2, .int .i64 0, .int .i64 1]) (.int .i64 kk)).run Tryz.prog w = .ok (.agg #[.int .i64 (ordK kk).x, .int .i64 (ordK kk).y, .int .i64 (ordK kk).z]) w := by
  have h := idx81 w (.int .i64 0) (.int .i64 1) (.int .i64 2) (.int .i64 1) (.int .i64 2) (.int .i64 0) (.int .i64 2) (.int .i64 0) (.int .i64 1)
  have : kk = 0 ∨ kk = 1 ∨ kk = 2 := by omega
  rcases this with rfl | rfl | rfl
  · exact h.1
  · exact h.2.1
  · exact h.2.2
theorem ixs_K {w : World} {col : Nat → Nat} {ws : List ByteArray} {D : List Tri} {i : I3} (h : IxsAt w col ws D i) (kk : Nat) : IxAt w col (ixK i kk) (ordK kk) (rowsOf (ordK kk) (D.map (rowT ws))) := by
  unfold ixK ordK
  split
  · exact h.a0
  · split
    · exact h.a1
    · exact h.a2
/-- indexes, at any version. -/
theorem indexes_ok {w0 : Nat} {w : World} {k : SW} {s : SS} (h : Sto w0 w k s) (m : Nat) (hm : m ≤ s.log.length) (hlog : s.log.length ≤ 4000) : Calls Tryz.prog 38 #[.pointer (some ⟨k.p, 0, none⟩), .int .i64 m] w (IdxPost w0 w k s m) := by
  cases hi : s.ix m with
  | none => exact indexes_new h m hm hlog hi
  | some i => exact indexes_old h m (by omega) i hi
theorem walk_at2 {w0 : Nat} {w2 : World} {k2 : SW} {s s2 : SS} {D : List Tri} {i : I3} (h : Sto w0 w2 k2 s2) (hi : IxsAt w2 k2.col s2.ws D i) (kk : Nat) (hl : s2.log = s.log) (h4 : s.log.length ≤ 4000) (W : World) (hW : Below w2.heap.size w2 W) :
    Calls Tryz.prog 40 #[.pointer (some ⟨(ixK i kk).X, 0, none⟩)] W fun e w' => e = .returned (.pointer (some ⟨W.heap.size, 0, none⟩)) ∧ WkR w' W.heap.size (ixK i kk) (ordK kk) (rowsOf (ordK kk) (D.map (rowT s2.ws))) ⟨[], false⟩ ∧ Below W.heap.size W w' := by
  have h1 := h.ws_len
  rw [hl] at h1
  exact wr_walk ((ixs_K hi kk).chg (col' := k2.col) (Chg.of_below (fun _ => False) hW) (fun _ _ => rfl) (fun _ _ _ e => e)) (rows_top hi.word (by omega))
/-- Match, under way. -/
structure MK (w w2 wx : World) (g bo : Nat) (x : IX) (o : Ord) (L : List R3) (s2 : SS) (like : Tri) (j : Nat) : Prop where
  b : Below w2.heap.size w2 wx
  wk : WkR wx g x o L ⟨pathK s2.ws like o j, false⟩
  ball : wx.heap[w.heap.size + 1]? = some (.cells #[.string like.S, .string like.P, .string like.O] 74 (0, 0))
  bo : wx.heap[bo]? = some (.cells #[.int .i64 o.x, .int .i64 o.y, .int .i64 o.z] 80 (0, 0))
  mem : ∀ i, i < j → wAt like (o.at i) ∈ s2.ws
  non : j ≠ 0 → under L o (pathK s2.ws like o j) ≠ []
theorem below_g {w2 W W' : World} {g : Nat} (h : Below w2.heap.size w2 W) (hg : W.grownBy W' (some g)) (h1 : w2.heap.size ≤ g) : Below w2.heap.size w2 W' := h.grown hg h.size (fun j e => by have := Option.some.inj e; omega)
/-- Nothing matches. -/
theorem match_nil {w0 : Nat} {w w2 wx : World} {k k2 : SW} {s s2 : SS} {m : Nat} {like : Tri} {D : List Tri} (h : Sto w0 w2 k2 s2) (hl : s2.log = s.log) (hp : k2.p = k.p) (st : StepS w k w2 k2) (hb : Below w2.heap.size w2 wx) (hm : m ≤ s.log.length) (hD : verL (s.log.take m) = D) (hn : D.filter (likeB like) = []) : MatchPost w0 w k s m like (.returned (.tuple #[.slice none 0 0, .int .i64 0])) wx := by
  have hc : 0 ≤ (m : Int) ∧ (m : Int) ≤ s.log.length := by omega
  refine ⟨_, k2.far w2, s2, by unfold factsE; rw [if_pos hc], h.below hb, hl, hp, st.newer (Chg.of_below (fun _ => False) hb) (fun _ _ e => e), ⟨?_, Or.inl rfl⟩, fun g e => by cases e⟩
  unfold matchL factsL
  rw [if_pos hc, Int.toNat_natCast, hD, hn]
  exact G.SlL.nil _ _
theorem seek_yes {w : World} {g : Nat} {x : IX} {o : Ord} {L : List R3} {p : List Int} {z : Int} (h : WkR w g x o L ⟨p ++ [(lvl L o p).getD 0 0], false⟩) (hL : L.Pairwise (ltR o)) (hp : p.length ≤ 2) (hpos : 0 < (lvl L o p).length) (hz : z ∈ lvl L o p) :
    Calls Tryz.prog 43 #[.pointer (some ⟨g, 0, none⟩), .int .i64 z] w fun e w' => e = .returned (.int .i64 0) ∧ WkR w' g x o L ⟨p ++ [z], false⟩ ∧ w.grownBy w' (some g) := by
  have h1 := rSeek_at hL hp hpos z
  have h2 := wr_seek h z
  rw [h1.1, h1.2.1 hz] at h2
  exact h2
theorem key_at {w : World} {g : Nat} {x : IX} {o : Ord} {L : List R3} {p : List Int} {z : Int} (h : WkR w g x o L ⟨p ++ [z], false⟩) :
    Calls Tryz.prog 44 #[.pointer (some ⟨g, 0, none⟩)] w fun e w' => e = .returned (.tuple #[.int .i64 z, .bool true]) ∧ Below w.heap.size w w' := by
  have h2 := wr_key h
  rw [rKey_at] at h2
  exact h2
theorem seek_no {w : World} {g : Nat} {x : IX} {o : Ord} {L : List R3} {p : List Int} {z : Int} (h : WkR w g x o L ⟨p ++ [(lvl L o p).getD 0 0], false⟩) (hL : L.Pairwise (ltR o)) (hp : p.length ≤ 2) (hpos : 0 < (lvl L o p).length) (hz : z ∉ lvl L o p) :
    Calls Tryz.prog 43 #[.pointer (some ⟨g, 0, none⟩), .int .i64 z] w fun e w' => e = .returned (.int .i64 0) ∧ (∃ r, WkR w' g x o L r ∧ rKey r ≠ (z, true)) ∧ w.grownBy w' (some g) := by
  have h1 := rSeek_at hL hp hpos z
  have h2 := wr_seek h z
  rw [h1.1] at h2
  exact h2.mono fun e w' ⟨a, b, c⟩ => ⟨a, ⟨_, b, h1.2.2 hz⟩, c⟩
theorem key_no {w : World} {g : Nat} {x : IX} {o : Ord} {L : List R3} {r : RS} (h : WkR w g x o L r) :
    Calls Tryz.prog 44 #[.pointer (some ⟨g, 0, none⟩)] w fun e w' => ∃ y ok, e = .returned (.tuple #[.int .i64 y, .bool ok]) ∧ rKey r = (y, ok) ∧ Below w.heap.size w w' := by
  have h2 := wr_key h
  exact h2.mono fun e w' ⟨a, b⟩ => ⟨_, _, a, rfl, b⟩
theorem keyCases {r : RS} {z y : Int} {ok : Bool} (h : rKey r ≠ (z, true)) (e : rKey r = (y, ok)) : ok = false ∨ (ok = true ∧ (y == z) = false ∧ (y != z) = true) := by
  cases ok with
  | false => exact Or.inl rfl
  | true =>
    have hne : y ≠ z := fun e2 => h (by rw [e, e2])
    exact Or.inr ⟨rfl, by simpa using hne, by simpa using hne⟩
theorem MK.step {w w2 wr w5 w6 w7 : World} {bo n : Nat} {x : IX} {o : Ord} {L : List R3} {s2 : SS} {like : Tri} {j : Nat} {z : Int} (h : MK w w2 wr (bo + 1) bo x o L s2 like j) (hg : w2.heap.size ≤ bo) (hp : (pathK s2.ws like o j).length ≤ 2) (hs : w.heap.size + 1 < w2.heap.size) (hm : wAt like (o.at j) ∈ s2.ws) (hz : numW s2.ws (wAt like (o.at j)) = z) (hL : L.Pairwise (ltR o)) (hl : z ∈ lvl L o (pathK s2.ws like o j)) (hw : WkR w6 (bo + 1) x o L ⟨pathK s2.ws like o j ++ [z], false⟩) (g5 : (wr.drewN n).grownBy w5 (some (bo + 1))) (g6 : w5.grownBy w6 (some (bo + 1))) (b7 : Below w6.heap.size w6 w7) :
    MK w w2 w7 (bo + 1) bo x o L s2 like (j + 1) := by
  have e : pathK s2.ws like o (j + 1) = pathK s2.ws like o j ++ [z] := by rw [pathK_snoc, hz]
  have c0 : Chg (fun i => i = bo + 1) wr (wr.drewN n) := Chg.of_below _ (below_drewN (Below.refl _ wr) n)
  have c : Chg (fun i => i = bo + 1) wr w7 := ((c0.trans (Chg.of_grown g5) (fun _ _ e => e)).trans (Chg.of_grown g6) (fun _ _ e => e)).trans (Chg.of_below (fun _ => False) b7) (fun _ _ e => e.elim)
  have s1 := h.b.size
  refine ⟨Chg.below h.b c (fun i e => by omega), ?_, (c.block _ (by omega) (fun e => by omega)).trans h.ball, (c.block _ (Array.getElem?_eq_some_iff.1 h.bo).1 (fun e => by omega)).trans h.bo, fun i hi => ?_, fun _ e2 => ?_⟩
  · rw [e]
    exact hw.chg (Chg.of_below (fun _ => False) b7) (fun e => e) (fun e => e) (fun e => e)
  · by_cases e2 : i = j
    · rw [e2]; exact hm
    · exact h.mem i (by omega)
  · obtain ⟨r, hr, h2⟩ := (mem_lvl hL hp z).1 hl
    have h3 := under_snoc.2 ⟨hr, h2⟩
    rw [← e, e2] at h3
    cases h3
/-- Where below begins. -/
theorem match_bk {w0 : Nat} {w w2 wr : World} {k2 : SW} {s2 : SS} {bo kn : Nat} {x : IX} {o : Ord} {L : List R3} {like : Tri} (hS : Sto w0 w2 k2 s2) (h : MK w w2 wr (bo + 1) bo x o L s2 like kn) (hx : IxAt w2 k2.col x o L) (hg : w2.heap.size ≤ bo) :
    BK w0 (wr.heap.size + 2) (bo + 1) wr.heap.size ((wr.alloc (.cells #[.slice none 0 0] 29 (0, 0))).alloc (.cells #[.int .i64 0, .int .i64 0, .int .i64 0] 80 (0, 0))) (k2.far w2) s2 x o L ⟨pathK s2.ws like o kn, false⟩ [] (.slice none 0 0) := by
  have b1 : Below wr.heap.size wr ((wr.alloc (.cells #[.slice none 0 0] 29 (0, 0))).alloc (.cells #[.int .i64 0, .int .i64 0, .int .i64 0] 80 (0, 0))) := ((Below.refl _ _).alloc (Nat.le_refl _) _).alloc (by simp) _
  have hgs := h.wk.gs.1
  have s1 := h.b.size
  refine ⟨hS.below (h.b.trans (b1.mono s1)), fun i hi _ => ?_, h.wk.chg (Chg.of_below (fun _ => False) b1) (fun e => e) (fun e => e) (fun e => e), ?_, G.OwnL.nil _ _ _ _ _, ⟨by omega, by omega, by omega, by simp only [World.size_alloc]; omega⟩, ?_⟩
  · show (if i < w2.heap.size then k2.col i else 8) = 8
    rw [if_neg (by omega)]
  · rw [Below.heap_alloc _ _ _ (by simp)]
    exact heap_alloc_new wr _
  · rw [SW.far_like k2 w2 _ hx.xs, SW.far_like k2 w2 _ hx.bs]
    exact ⟨hx.cx, hx.cb⟩
theorem like_path {ws : List ByteArray} {a b c : ByteArray} {o : Ord} {kn : Nat} (_ho : Six o) (hb : ∀ i, i < 3 → (hasW (wAt ⟨a, b, c⟩ (o.at i)) = true ↔ i < kn)) (hm : ∀ i, i < kn → wAt ⟨a, b, c⟩ (o.at i) ∈ ws) (h3 : kn ≤ 3 := by omega) : LikeOk ws o (pathK ws ⟨a, b, c⟩ o kn) kn (sel a b c) := by
  refine ⟨by rw [pathK_len]; exact Nat.le_refl _, fun j h1 h2 => ?_, fun j hj => ⟨?_, fun e => ?_⟩⟩
  · rcases has_cases (sel a b c (o.at j)) with ⟨e, _⟩ | ⟨e, _⟩
    · exact e
    · have := (hb j h2).1 e
      omega
  · rw [pathK_get _ kn j hj]
    exact (numW_ok (hm j hj)).2.symm
  · have h1 := (hb j (by omega)).2 hj
    have e' : wAt ⟨a, b, c⟩ (o.at j) = ByteArray.empty := e
    rw [e'] at h1
    exact absurd h1 (by decide)
/-- The boxes of a walk's beginning. -/
theorem yBoxes {w w2 wr : World} {bo g kn : Nat} {x : IX} {o : Ord} {L : List R3} {s2 : SS} {like : Tri} (h : MK w w2 wr g bo x o L s2 like kn) :
    ((wr.alloc (.cells #[.slice none 0 0] 29 (0, 0))).alloc (.cells #[.int .i64 0, .int .i64 0, .int .i64 0] 80 (0, 0))).heap[bo]? = some (.cells #[.int .i64 o.x, .int .i64 o.y, .int .i64 o.z] 80 (0, 0)) ∧
    ((wr.alloc (.cells #[.slice none 0 0] 29 (0, 0))).alloc (.cells #[.int .i64 0, .int .i64 0, .int .i64 0] 80 (0, 0))).heap[wr.heap.size + 1]? = some (.cells #[.int .i64 0, .int .i64 0, .int .i64 0] 80 (0, 0)) ∧
    ((wr.alloc (.cells #[.slice none 0 0] 29 (0, 0))).alloc (.cells #[.int .i64 0, .int .i64 0, .int .i64 0] 80 (0, 0))).heap[w.heap.size + 1]? = some (.cells #[.string like.S, .string like.P, .string like.O] 74 (0, 0)) ∧
    Below wr.heap.size wr ((wr.alloc (.cells #[.slice none 0 0] 29 (0, 0))).alloc (.cells #[.int .i64 0, .int .i64 0, .int .i64 0] 80 (0, 0))) ∧
    ((wr.alloc (.cells #[.slice none 0 0] 29 (0, 0))).alloc (.cells #[.int .i64 0, .int .i64 0, .int .i64 0] 80 (0, 0))).heap.size = wr.heap.size + 2 := by
  have h1 := (Array.getElem?_eq_some_iff.1 h.bo).1
  have h2 := (Array.getElem?_eq_some_iff.1 h.ball).1
  refine ⟨?_, ?_, ?_, ((Below.refl _ _).alloc (Nat.le_refl _) _).alloc (by simp) _, by simp only [World.size_alloc]⟩
  · rw [Below.heap_alloc _ _ _ (by rw [World.size_alloc]; omega), Below.heap_alloc _ _ _ h1]
    exact h.bo
  · have := heap_alloc_new (wr.alloc (.cells #[.slice none 0 0] 29 (0, 0))) (.cells #[.int .i64 0, .int .i64 0, .int .i64 0] 80 (0, 0))
    rwa [World.size_alloc] at this
  · rw [Below.heap_alloc _ _ _ (by rw [World.size_alloc]; omega), Below.heap_alloc _ _ _ h2]
    exact h.ball
theorem obCell {w : World} {ob : Nat} {v : Value} {t : TypeId} (h : w.heap[ob]? = some (.cells #[v] t (0, 0))) : w.cell? ⟨ob, 0, none⟩ = some v := by simp [World.cell?, h]
theorem yLen {L : List R3} {o : Ord} {p : List Int} {ws : List ByteArray} {Y : List Tri} (h : Y.Perm ((under L o p).map (factR ws))) (hL : L.length ≤ 4096) : ([] ++ Y).length ≤ 1000000 := by
  have h1 := h.length_eq
  rw [List.length_map] at h1
  have h2 : (under L o p).length ≤ L.length := List.length_filter_le _ _
  rw [List.nil_append]
  omega
/-- The end of Match. -/
theorem match_end {w0 : Nat} {w w2 wr wy w6 w7 : World} {k k2 : SW} {s s2 : SS} {m bo kn : Nat} {x : IX} {o : Ord} {L : List R3} {like : Tri} {D Y : List Tri} {v6 : Value} {col6 : Nat → Nat} (_hS : Sto w0 w2 k2 s2) (hl : s2.log = s.log) (hp : k2.p = k.p) (hix : ∀ t ∈ D, t.S ∈ s2.ws ∧ t.P ∈ s2.ws ∧ t.O ∈ s2.ws) (st : StepS w k w2 k2) (hK : MK w w2 wr (bo + 1) bo x o L s2 like kn) (hg : w2.heap.size ≤ bo) (hby : Below wr.heap.size wr wy) (hsy : wy.heap.size = wr.heap.size + 2)
    (hb6 : BK w0 (wr.heap.size + 2) (bo + 1) wr.heap.size w6 { (k2.far w2) with col := col6 } s2 x o L ⟨pathK s2.ws like o kn, false⟩ ([] ++ Y) v6) (hy6 : Y.Perm ((under L o (pathK s2.ws like o kn)).map (factR s2.ws))) (hl6 : Like wy (k2.far w2).col col6) (hc6 : Chg (fun i => i = bo + 1 ∨ i = wr.heap.size ∨ some i = (Value.slice none 0 0).ownBlock) wy w6)
    (ho7 : Out3 (wr.heap.size + 2) w7 v6 (srtT ([] ++ Y))) (hg7 : w6.grownBy w7 v6.ownBlock) (hm : m ≤ s.log.length) (hD : verL (s.log.take m) = D) (hL : rowsOf o (D.map (rowT s2.ws)) = L) (ho : Six o) (h3 : kn ≤ 3) (hb : ∀ i, i < 3 → (hasW (wAt like (o.at i)) = true ↔ i < kn)) :
    MatchPost w0 w k s m like (.returned (.tuple #[v6, .int .i64 0])) w7 := by
  have hc : 0 ≤ (m : Int) ∧ (m : Int) ≤ s.log.length := by omega
  have s1 := hK.b.size
  have s2' := st.chg.size
  have s3 := hby.size
  have s6 := hc6.size
  have s7 := hg7.size
  have c7 : Chg (fun i => some i = v6.ownBlock) w6 w7 := Chg.of_row hg7
  have hv : ∀ g, v6.ownBlock = some g → wr.heap.size + 2 ≤ g ∧ g < w6.heap.size := fun g e => ⟨hb6.own.ge g e, hb6.own.lt_ g e⟩
  have hfin := hb6.sto.far c7 (fun i hi e => hb6.c8 i (Or.inr (Or.inr (hv i e.symm).1)) hi)
  have cAll : Chg (fun i => w2.heap.size ≤ i) w2 w7 := ((((Chg.of_below _ hK.b).trans (Chg.of_below (fun _ => False) hby) (fun _ _ e => e.elim)).trans hc6 (fun i hi e => by
    rcases e with e | e | e
    · omega
    · omega
    · cases e)).trans c7 (fun i hi e => by have := (hv i e.symm).1; omega))
  have hsrt : srtT ([] ++ Y) = D.filter (likeB like) := by
    rw [List.nil_append]
    exact gath_match ho (by rw [← hD]; exact (ver_ok _).1) hix h3 hK.mem hb (by rw [hL]; exact hy6)
  refine ⟨v6, SW.far { (k2.far w2) with col := col6 } w6, s2, by unfold factsE; rw [if_pos hc], hfin, hl, hp, ⟨fun i hi => ?_, ?_⟩, ?_, fun g e => ?_⟩
  · rw [SW.far_like { (k2.far w2) with col := col6 } w6 i (by omega)]
    show col6 i = k.col i
    rw [hl6 i (by omega), SW.far_like k2 w2 i (by omega)]
    exact st.col i hi
  · exact st.chg.trans cAll (fun i hi e => by omega)
  · unfold matchL factsL
    rw [if_pos hc, Int.toNat_natCast, hD, ← hsrt]
    exact ⟨ho7.1, ho7.2.imp id (fun ⟨g, cap, e1, e2, e3⟩ => ⟨g, cap, e1, by omega, e3⟩)⟩
  · have h1 := hv g e
    rw [SW.far_like { (k2.far w2) with col := col6 } w6 g h1.2]
    exact hb6.c8 g (Or.inr (Or.inr h1.1)) h1.2
/-- The box of what is asked for. -/
theorem matchBox {w w1 w2 w4 : World} {k k2 : SW} {a b c : ByteArray} (_hw : Below w.heap.size w w1) (hb : Below ((w.alloc (.cells #[.string a, .string b, .string c] 35 (0, 0))).alloc (.cells #[.string a, .string b, .string c] 74 (0, 0))).heap.size ((w.alloc (.cells #[.string a, .string b, .string c] 35 (0, 0))).alloc (.cells #[.string a, .string b, .string c] 74 (0, 0))) w1) (st : StepS w1 (k.far w) w2 k2) (h4 : Below w2.heap.size w2 w4) :
    w4.heap[w.heap.size + 1]? = some (.cells #[.string a, .string b, .string c] 74 (0, 0)) := by
  have s1 := hb.size
  rw [World.size_alloc, World.size_alloc] at s1
  have s2 := st.chg.size
  rw [h4.block _ (by omega), st.chg.block _ (by omega) (fun e => by
    have e' : (if w.heap.size + 1 < w.heap.size then k.col (w.heap.size + 1) else 8) < 7 := e
    rw [if_neg (by omega)] at e'
    omega), hb.block _ (by rw [World.size_alloc, World.size_alloc]; omega)]
  have := heap_alloc_new (w.alloc (.cells #[.string a, .string b, .string c] 35 (0, 0))) (.cells #[.string a, .string b, .string c] 74 (0, 0))
  rwa [World.size_alloc] at this
set_option maxRecDepth 100000 in
set_option maxHeartbeats 3200000 in
theorem match_in {w0 : Nat} {w : World} {k : SW} {s : SS} (h : Sto w0 w k s) (m : Nat) (hm : m ≤ s.log.length) (hlog : s.log.length ≤ 4000) (a b c : ByteArray) (hsz : a.size ≤ maxLen ∧ b.size ≤ maxLen ∧ c.size ≤ maxLen) :
    Calls Tryz.prog 18 #[.pointer (some ⟨k.p, 0, none⟩), .int .i64 m, .agg #[.string a, .string b, .string c]] w (MatchPost w0 w k s m ⟨a, b, c⟩) := by
  obtain ⟨q0, q1, q2, q3⟩ := h.cells
  have hps := h.ps
  have G0 := fun W (e : W.cell? ⟨k.p, 0, none⟩ = some (.map (some k.bn))) => given_sto W k.p (some k.bn) e
  obtain ⟨Al, cl, hlv, _⟩ := h.row.sl
  rw [hlv, h.zl] at q1
  have n0 : ¬ (m : Int) < 0 := by omega
  have n1 : ¬ (s.log.length : Int) < (m : Int) := by omega
  have BO := best_ord ⟨a, b, c⟩
  have BC := fun W => best_ok W a b c
  simp only at BO
  obtain ⟨kk, hkk⟩ : ∃ kk, (bestN (hasW a) (hasW b) (hasW c)).1 = kk := ⟨_, rfl⟩
  obtain ⟨kn, hkn⟩ : ∃ kn, (bestN (hasW a) (hasW b) (hasW c)).2 = kn := ⟨_, rfl⟩
  simp only [hkk, hkn] at BO BC
  have HBO := Lib.hid BO.2.2
  have hk2 := BO.1
  have hk3 := BO.2.1
  have hk3i : (kn : Int) ≤ 3 := by omega
  have hk0i : 0 ≤ (kn : Int) := by omega
  have HBC := Lib.hid BC
  have IO := Lib.hid (fun (W : World) (hW : Below w.heap.size w W) => indexes_ok (h.below hW) m hm hlog)
  have i78 := fun i w => idx78 i kk hk2 w
  have i81 := fun w => idxO kk hk2 w
  have H := Lib.hid h
  have HM := Lib.hid (And.intro hm hlog)
  have HZ := Lib.hid hsz
  clear h hlv BO BC hkk hkn hm hlog hsz
  have bb := ((Below.refl _ w).alloc (Nat.le_refl _) (.cells #[.string a, .string b, .string c] 35 (0, 0)))
  have r0 := (bb.cell (p := ⟨k.p, 0, none⟩) hps).trans q0
  have r1 := (bb.cell (p := ⟨k.p, 1, none⟩) hps).trans q1
  clear bb
  go_enter Tryz.func18, Tryz.ntmps18
  go_wp2_with (first | (go_at_call 31; refine (G0 _ r0).mono ?_; rintro e w' ⟨rfl, rfl⟩) | (go_at_call 37; refine (HBC.out _).mono ?_; rintro e w1 ⟨rfl, hb1⟩; have B1 := Lib.hid hb1; clear hb1))
  have hw1 : Below w.heap.size w w1 := ((Below.refl _ w).alloc (Nat.le_refl _) _).alloc (by simp) _ |>.trans (B1.out.mono (by simp; omega))
  have HW1 := Lib.hid hw1
  clear hw1
  go_wp2_with (first | (go_at_call 38; refine (IO.out _ HW1.out).mono ?_; rintro e w2 ⟨i, k2, s2, he, hS2, hlog2, hp2, hix2, hst2⟩; have he' : e = .returned (.agg #[.pointer (some ⟨i.i0.X, 0, none⟩), .pointer (some ⟨i.i1.X, 0, none⟩), .pointer (some ⟨i.i2.X, 0, none⟩)]) := he; clear he; subst he'; have S2 := Lib.hid (And.intro hS2 (And.intro hlog2 (And.intro hp2 (And.intro hix2 hst2)))); have WK := Lib.hid (walk_at2 hS2 hix2 kk hlog2 HM.out.2); clear hS2 hlog2 hp2 hix2 hst2) | (go_at_call 39; refine (orders_ok _).mono ?_; rintro e w3 ⟨rfl, hb3⟩; have B3 := Lib.hid hb3; clear hb3) | (go_at_call 40; refine (WK.out _ (B3.out.alloc B3.out.size _)).mono ?_; rintro e w4 ⟨rfl, hw4, hb4⟩; have W4 := Lib.hid (And.intro hw4 hb4); clear hw4 hb4))
  obtain ⟨D, hD⟩ : ∃ D, verL (s.log.take m) = D := ⟨_, rfl⟩
  have HD := Lib.hid hD
  rw [hD] at S2 W4
  obtain ⟨L, hL⟩ : ∃ L, rowsOf (ordK kk) (D.map (rowT s2.ws)) = L := ⟨_, rfl⟩
  rw [hL] at W4
  have HL := Lib.hid hL
  clear hD hL
  have HST := Lib.hid (StepS.trans (StepS.below HW1.out) S2.out.2.2.2.2)
  have HB4 := Lib.hid (show Below w2.heap.size w2 w4 from (B3.out.alloc B3.out.size _).trans (W4.out.2.mono (by have := B3.out.size; simp; omega)))
  have HG := Lib.hid (show w2.heap.size ≤ w3.heap.size ∧ w3.heap.size + 1 < w4.heap.size from ⟨B3.out.size, by have h1 := W4.out.1.gs.1; rw [World.size_alloc] at h1; exact h1⟩)
  have hW4 : WkR w4 (w3.heap.size + 1) (ixK i kk) (ordK kk) L ⟨[], false⟩ := by
    have h1 := W4.out.1
    rwa [World.size_alloc] at h1
  have HSZ := Lib.hid (show w.heap.size + 1 < w2.heap.size from by have h1 := B1.out.size; have h2 := S2.out.2.2.2.2.chg.size; rw [World.size_alloc, World.size_alloc] at h1; omega)
  have HMK := Lib.hid (show MK w w2 w4 (w3.heap.size + 1) w3.heap.size (ixK i kk) (ordK kk) L s2 ⟨a, b, c⟩ 0 from ⟨HB4.out, hW4, matchBox HW1.out B1.out S2.out.2.2.2.2 HB4.out, (W4.out.2.block _ (by rw [World.size_alloc]; exact Nat.lt_succ_self _)).trans (heap_alloc_new w3 _), fun i hi => absurd hi (by omega), fun h => absurd rfl h⟩)
  clear hW4
  go_loopg [61] (kn + 1) (fun g' s61 wx => ∃ j : Nat, j ≤ kn ∧ kn - j < g' ∧ s61 = .int .i64 j ∧ Hid (MK w w2 wx (w3.heap.size + 1) w3.heap.size (ixK i kk) (ordK kk) L s2 ⟨a, b, c⟩ j))
  case atStart => exact ⟨0, by omega, by omega, rfl, HMK⟩
  case round =>
    obtain ⟨j, hj, hgj, rfl, HK⟩ := hrel
    by_cases hjk : j < kn
    · have j1 : (j : Int) < (kn : Int) := by omega
      have j0 : 0 ≤ (j : Int) := by omega
      obtain ⟨q, hq⟩ : ∃ q, (ordK kk).at j = q := ⟨_, rfl⟩
      have hq3 : q < 3 := by rw [← hq]; exact (six_at (six_K kk)).2 j (by omega)
      have HQ := Lib.hid hq
      obtain ⟨wq, hwq⟩ : ∃ wq, wAt ⟨a, b, c⟩ q = wq := ⟨_, rfl⟩
      have HWQ := Lib.hid hwq
      have cb0 : wr.cell? ⟨w3.heap.size, j, none⟩ = some (.int .i64 (q : Int)) := by
        have h1 := int_cell HK.out.bo j (by omega)
        rw [sel_nat (ordK kk).x (ordK kk).y (ordK kk).z j] at h1
        rw [← hq]
        exact h1
      have cb1 : wr.cell? ⟨w.heap.size + 1, q, none⟩ = some (.string wq) := by
        have h1 := str_cell HK.out.ball q hq3
        rw [← hwq]
        exact h1
      have S6 := Lib.hid (S2.out.1.below HK.out.b)
      have cd : wr.cell? ⟨k.p, 2, none⟩ = some (.pointer (some ⟨k2.pd, 0, none⟩)) := by
        have h1 : wr.cell? ⟨k2.p, 2, none⟩ = some (.pointer (some ⟨k2.pd, 0, none⟩)) := S6.out.cells.2.2.1
        rwa [show k2.p = k.p from S2.out.2.2.1] at h1
      have hfit : strX.fit wq := by
        show wq.size ≤ maxLen
        rw [← hwq]
        unfold wAt
        split
        · exact HZ.out.1
        · split
          · exact HZ.out.2.1
          · exact HZ.out.2.2
      have IDC := Lib.hid (fun (n : Nat) => (show Calls Tryz.prog 41 #[.pointer (some ⟨k2.pd, 0, none⟩), .string wq] (wr.drewN n) fun e w' => e = .returned (.tuple (match idxF s2.ws wq with | some n => #[.int .i64 n, .int .i64 0] | none => #[.int .i64 0, .int .i64 3])) ∧ w' = wr.drewN n from (id_ok (S6.out.dic.below (below_drewN (Below.refl _ wr) n)) wq hfit).mono fun e w' ⟨h1, h2⟩ => ⟨h1, h2.symm⟩))
      have q3i : (q : Int) < 3 := by omega
      have q0i : 0 ≤ (q : Int) := by omega
      clear hq hwq hfit
      cases hf : idxF s2.ws wq with
      | none =>
        rw [hf] at IDC
        have HF := Lib.hid hf
        clear hf
        go_wp2
        go_quiet ((go_at_call 41; exact Calls.quiet_of_same (IDC.out _)))
        go_wp2
        go_ret2
        exact match_nil S2.out.1 S2.out.2.1 S2.out.2.2.1 HST.out (below_drewN HK.out.b _) HM.out.1 HD.out (none_word (six_K kk) S2.out.2.2.2.1.word hk3 hjk (by
          rw [HQ.out, HWQ.out]
          intro e
          have h1 := (idxF_mem s2.ws wq).1 e
          rw [HF.out] at h1
          cases h1) HBO.out)
      | some z =>
        rw [hf] at IDC
        have HF := Lib.hid hf
        have hmem : wq ∈ s2.ws := (idxF_mem s2.ws wq).2 (by rw [hf]; rfl)
        have HME := Lib.hid hmem
        have HNW := Lib.hid (show numW s2.ws wq = (z : Int) by unfold numW; rw [hf]; rfl)
        clear hf hmem
        have WO := Lib.hid (fun (n : Nat) => wr_open (HK.out.wk.chg (Chg.of_below (fun _ => False) (below_drewN (Below.refl _ wr) n)) (fun e => e) (fun e => e) (fun e => e)))
        by_cases hl0 : L.length = 0
        · have HL0 := Lib.hid hl0
          have WO2 := Lib.hid (fun (n : Nat) => by
            have h1 := WO.out n
            rw [rOpen_nil (ordK kk) (pathK s2.ws ⟨a, b, c⟩ (ordK kk) j) hl0] at h1
            exact h1)
          clear WO hl0
          go_wp2
          go_quiet ((go_at_call 41; exact Calls.quiet_of_same (IDC.out _)))
          go_wp2_with (go_at_call 42; refine (WO2.out _).mono ?_; rintro e w5 ⟨rfl, hw5, _, hg5⟩; have G5 := Lib.hid hg5; clear hw5 hg5)
          go_ret2
          exact match_nil S2.out.1 S2.out.2.1 S2.out.2.2.1 HST.out (below_g (below_drewN HK.out.b _) G5.out (by have := HG.out.1; omega)) HM.out.1 HD.out (none_empty (o := ordK kk) S2.out.2.2.2.1.word (by rw [HL.out]; exact HL0.out))
        · have HLP := Lib.hid (show L.Pairwise (ltR (ordK kk)) by rw [← HL.out]; exact rowsOf_strict _ (six_K kk) _)
          obtain ⟨p, hp⟩ : ∃ p, pathK s2.ws ⟨a, b, c⟩ (ordK kk) j = p := ⟨_, rfl⟩
          have hpl : p.length ≤ 2 := by rw [← hp, pathK_len]; omega
          have HPL := Lib.hid hpl
          have HPP := Lib.hid hp
          have WO2 := Lib.hid (fun (n : Nat) => by
            have h1 := WO.out n
            rw [hp, rOpen_some (ordK kk) p hl0 hpl] at h1
            exact h1)
          clear WO hl0 hp hpl
          by_cases hz : (z : Int) ∈ lvl L (ordK kk) p
          · have HZV := Lib.hid hz
            clear hz
            go_wp2
            go_quiet ((go_at_call 41; exact Calls.quiet_of_same (IDC.out _)))
            go_wp2_with (first | (go_at_call 42; refine (WO2.out _).mono ?_; rintro e w5 ⟨rfl, hw5, hpos, hg5⟩; have G5 := Lib.hid hg5; have SK := Lib.hid (seek_yes hw5 HLP.out HPL.out (hpos (by first | rfl | trivial)) HZV.out); clear hw5 hpos hg5) | (go_at_call 43; refine SK.out.mono ?_; rintro e w6 ⟨rfl, hw6, hg6⟩; have G6 := Lib.hid (And.intro hw6 hg6); have KY := Lib.hid (key_at hw6); clear hw6 hg6) | (go_at_call 44; refine KY.out.mono ?_; rintro e w7 ⟨rfl, hb7⟩; have B7 := Lib.hid hb7; clear hb7))
            go_roundg (kn - j)
            case measure => omega
            case rel => exact ⟨j + 1, by omega, by omega, by go_num, Lib.hid (HK.out.step (z := (z : Int)) HG.out.1 (by rw [HPP.out]; exact HPL.out) HSZ.out (by rw [HQ.out, HWQ.out]; exact HME.out) (by rw [HQ.out, HWQ.out]; exact HNW.out) HLP.out (by rw [HPP.out]; exact HZV.out) (by rw [HPP.out]; exact G6.out.1) G5.out G6.out.2 B7.out)⟩
          · have HZV := Lib.hid hz
            clear hz
            go_wp2
            go_quiet ((go_at_call 41; exact Calls.quiet_of_same (IDC.out _)))
            go_wp2_with (first | (go_at_call 42; refine (WO2.out _).mono ?_; rintro e w5 ⟨rfl, hw5, hpos, hg5⟩; have G5 := Lib.hid hg5; have SK := Lib.hid (seek_no hw5 HLP.out HPL.out (hpos (by first | rfl | trivial)) HZV.out); clear hw5 hpos hg5) | (go_at_call 43; refine SK.out.mono ?_; rintro e w6 ⟨rfl, ⟨r6, hw6, hne⟩, hg6⟩; have G6 := Lib.hid (And.intro hne hg6); have KY := Lib.hid (key_no hw6); clear hw6 hne hg6) | (go_at_call 44; refine KY.out.mono ?_; rintro e w7 ⟨y, ok, rfl, hyk, hb7⟩; have B7 := Lib.hid hb7; rcases keyCases G6.out.1 hyk with rfl | ⟨rfl, hk1, hk2⟩ <;> clear hyk hb7))
            all_goals
              go_ret2
              exact match_nil S2.out.1 S2.out.2.1 S2.out.2.2.1 HST.out ((below_g (below_g (below_drewN HK.out.b _) G5.out (by have := HG.out.1; omega)) G6.out.2 (by have := HG.out.1; omega)).trans (B7.out.mono (by have h1 := G5.out.size; have h2 := G6.out.2.size; have h3 := HK.out.b.size; have h4 : (wr.drewN nq).heap.size = wr.heap.size := rfl; omega))) HM.out.1 HD.out (none_path (six_K kk) S2.out.2.2.2.1.word hk3 hjk (fun i hi => by
                by_cases e : i = j
                · rw [e, HQ.out, HWQ.out]; exact HME.out
                · exact HK.out.mem i (by omega)) (by rw [HQ.out, HWQ.out, HNW.out, HL.out, HPP.out]; exact HZV.out) HBO.out)
    · have hje : j = kn := by omega
      have j1 : ¬ (j : Int) < (kn : Int) := by omega
      rw [hje] at HK
      have HX := Lib.hid (show IxAt w2 k2.col (ixK i kk) (ordK kk) L by rw [← HL.out]; exact ixs_K S2.out.2.2.2.1 kk)
      have HLP := Lib.hid (show L.Pairwise (ltR (ordK kk)) by rw [← HL.out]; exact rowsOf_strict _ (six_K kk) _)
      have BKY := Lib.hid (match_bk S2.out.1 HK.out HX.out HG.out.1)
      have HLW := Lib.hid (show s2.ws.length ≤ 1000000 by have h1 := S2.out.1.ws_len; rw [S2.out.2.1] at h1; have h2 := HM.out.2; omega)
      have HDL := Lib.hid (show L.length ≤ 4096 by
        rw [← HL.out]
        refine Nat.le_trans (rowsOf_len _ _) ?_
        rw [List.length_map, ← HD.out, ← S2.out.2.1]
        exact S2.out.1.good.len m (by rw [S2.out.2.1]; exact HM.out.1))
      go_upto_region 22 with fail
      have BCC := belC_all (w0 := w0) (base := wr.heap.size + 2) (g := w3.heap.size + 1) (ob := wr.heap.size) (s := s2) (x := ixK i kk) (l0 := a) (l1 := b) (l2 := c) (six_K kk) HLP.out (by rw [← HL.out]; exact rows_ok S2.out.2.2.2.1.word HLW.out) hk3 _ (k2.far w2) (pathK s2.ws ⟨a, b, c⟩ (ordK kk) kn) [] (.slice none 0 0) 0 0 0 (pathK_len _ _) BKY.out HK.out.non (like_path (six_K kk) HBO.out HK.out.mem hk3) (fun j h1 h2 => by omega) (by
        have h1 : (under L (ordK kk) (pathK s2.ws ⟨a, b, c⟩ (ordK kk) kn)).length ≤ L.length := List.length_filter_le _ _
        have h2 := HDL.out
        simp only [List.length_nil]
        omega)
      have BC2 : Calls Tryz.prog 45 #[.pointer (some ⟨k2.p, 0, none⟩), .pointer (some ⟨w3.heap.size + 1, 0, none⟩), .agg #[.int .i64 (ordK kk).x, .int .i64 (ordK kk).y, .int .i64 (ordK kk).z], .int .i64 kn, .agg #[.int .i64 0, .int .i64 0, .int .i64 0], .agg #[.string a, .string b, .string c], .pointer (some ⟨wr.heap.size, 0, none⟩)] _ _ := BCC
      rw [show k2.p = k.p from S2.out.2.2.1] at BC2
      have YB := yBoxes HK.out
      generalize hwy : (wr.alloc (.cells #[.slice none 0 0] 29 (0, 0))).alloc (.cells #[.int .i64 0, .int .i64 0, .int .i64 0] 80 (0, 0)) = wy at *
      have HBC2 := Lib.hid BC2
      have HYB := Lib.hid YB
      clear hwy BCC BC2 YB
      have cc0 := int_cell HYB.out.1 0 (by omega)
      have cc1 := int_cell HYB.out.1 1 (by omega)
      have cc2 := int_cell HYB.out.1 2 (by omega)
      have cd0 := int_cell HYB.out.2.1 0 (by omega)
      have cd1 := int_cell HYB.out.2.1 1 (by omega)
      have cd2 := int_cell HYB.out.2.1 2 (by omega)
      have ce0 := str_cell HYB.out.2.2.1 0 (by omega)
      have ce1 := str_cell HYB.out.2.2.1 1 (by omega)
      have ce2 := str_cell HYB.out.2.2.1 2 (by omega)
      rw [show sel ((ordK kk).x : Int) (ordK kk).y (ordK kk).z 0 = ((ordK kk).x : Int) from rfl] at cc0
      rw [show sel ((ordK kk).x : Int) (ordK kk).y (ordK kk).z 1 = ((ordK kk).y : Int) from rfl] at cc1
      rw [show sel ((ordK kk).x : Int) (ordK kk).y (ordK kk).z 2 = ((ordK kk).z : Int) from rfl] at cc2
      rw [show sel (0 : Int) 0 0 0 = 0 from rfl] at cd0
      rw [show sel (0 : Int) 0 0 1 = 0 from rfl] at cd1
      rw [show sel (0 : Int) 0 0 2 = 0 from rfl] at cd2
      rw [show sel a b c 0 = a from rfl] at ce0
      rw [show sel a b c 1 = b from rfl] at ce1
      rw [show sel a b c 2 = c from rfl] at ce2
      go_wp2_with (first | (go_at_call 45; refine HBC2.out.mono ?_; rintro e w6 ⟨⟨u, rfl⟩, col6, v6, Y, hb6, hy6, hl6, hc6, _⟩; have K6 := Lib.hid (And.intro hb6 (And.intro hy6 (And.intro hl6 hc6))); have c6 := obCell hb6.obk; clear hb6 hy6 hl6 hc6) | (go_at_call 35; refine (sorted_ok K6.out.1.own (yLen K6.out.2.1 HDL.out)).mono ?_; rintro e w7 ⟨rfl, ho7, hg7⟩; have K7 := Lib.hid (And.intro ho7 hg7); clear ho7 hg7))
      go_ret2
      exact match_end S2.out.1 S2.out.2.1 S2.out.2.2.1 S2.out.2.2.2.1.word HST.out HK.out HG.out.1 HYB.out.2.2.2.1 HYB.out.2.2.2.2 K6.out.1 K6.out.2.1 K6.out.2.2.1 K6.out.2.2.2 K7.out.1 K7.out.2 HM.out.1 HD.out HL.out (six_K kk) hk3 HBO.out
end Go.Proofs.YtcnffgcegimelaaGreat.So
end
section
/-
  Match at any version, and what lies behind a store's steps. Conditions: the store lies as told.
-/
namespace Go.Proofs.YtcnffgcegimelaaGreat.So
open Go.RowKit Go.Proofs.YtcnffgcegimelaaGreat.Mp Go.Proofs.YtcnffgcegimelaaGreat.Wd Go.Proofs.YtcnffgcegimelaaGreat.Pm Go.Proofs.YtcnffgcegimelaaGreat.Pw Go.Proofs.YtcnffgcegimelaaGreatW.PrintWords

theorem match_ok {w0 : Nat} {w : World} {k : SW} {s : SS} (h : Sto w0 w k s) (n : Int) (hlog : s.log.length ≤ 4000) (a b c : ByteArray) (hsz : a.size ≤ maxLen ∧ b.size ≤ maxLen ∧ c.size ≤ maxLen) :
    Calls Tryz.prog 18 #[.pointer (some ⟨k.p, 0, none⟩), .int .i64 n, .agg #[.string a, .string b, .string c]] w (MatchPost w0 w k s n ⟨a, b, c⟩) := by
  by_cases h0 : n < 0
  · exact match_below h n a b c h0
  · by_cases h1 : (s.log.length : Int) < n
    · exact match_above h n a b c h1
    · obtain ⟨m, rfl⟩ := Int.eq_ofNat_of_zero_le (by omega : 0 ≤ n)
      exact match_in h m (by omega) hlog a b c hsz
theorem sl_block {α : Type} {w : World} {b n : Nat} {cs : Array Value} {t : TypeId} (enc : α → List Value) (xs : List α) (h : w.heap[b]? = some (.cells cs t (0, 0))) (hn : xs.length = n) (hcs : cs.toList = xs.flatMap enc) : G.SlL w enc (.slice (some ⟨b, 0, none⟩) n n) xs := by
  subst hn
  refine ⟨some ⟨b, 0, none⟩, xs.length, rfl, Nat.le_refl _, (fun h => nomatch h), fun _ => ⟨b, 0, rfl, (Array.getElem?_eq_some_iff.1 h).1, fun j u hu => ?_⟩⟩
  rw [← hcs] at hu
  simp only [World.cell?, h]
  simpa using hu
/-- A slice that lies where the store is not. -/
structure Held {α : Type} (w : World) (k : SW) (enc : α → List Value) (v : Value) (xs : List α) : Prop where
  sl : G.SlL w enc v xs
  out : ∀ b off n c, v = .slice (some ⟨b, off, none⟩) n c → n ≠ 0 → b < w.heap.size ∧ 7 ≤ k.col b
section
variable {α : Type} {enc : α → List Value} {w0 : Nat} {w w' : World} {k k' : SW} {v : Value} {xs : List α}
theorem Held.fgn (h : Held w k enc v xs) : Fgn k v := fun b off n c e en => (h.out b off n c e en).2
theorem Held.step (h : Held w k enc v xs) (g : StepS w k w' k') : Held w' k' enc v xs :=
  ⟨sl_chg2 h.sl g.chg (fun b off n c e en hb => by have := (h.out b off n c e en).2; omega), fun b off n c e en => by
    obtain ⟨h1, h2⟩ := h.out b off n c e en
    exact ⟨Nat.lt_of_lt_of_le h1 g.chg.size, by rw [g.col b h1]; exact h2⟩⟩
theorem Held.below (h : Held w k enc v xs) (b : Below w.heap.size w w') : Held w' (k.far w) enc v xs := h.step (StepS.below b)
/-- What was there ahead of the store. -/
theorem Held.old {s : SS} (hS : Sto w0 w k s) {W : World} (hv : G.SlL W enc v xs) (hin : ∀ b off n c, v = .slice (some ⟨b, off, none⟩) n c → n ≠ 0 → b < W.heap.size) (hW : W.heap.size ≤ w0) (c : Below W.heap.size W w) : Held w k enc v xs := by
  refine ⟨sl_chg hv (Chg.of_below (fun _ => False) c) (fun _ _ _ _ _ e => e), fun b off n c2 e en => ?_⟩
  have h1 := hin b off n c2 e en
  refine ⟨Nat.lt_of_lt_of_le h1 c.size, ?_⟩
  by_cases h7 : k.col b < 7
  · have := hS.lo b h7; omega
  · omega
end
/-- What a call has made. -/
theorem Held.new_ {w w' : World} {k' : SW} {v : Value} {xs : List Tri} (h : Out3 w.heap.size w' v xs) (h8 : ∀ g, v.ownBlock = some g → 7 ≤ k'.col g) : Held w' k' encT v xs := by
  refine ⟨h.1, fun b off n c e _ => ?_⟩
  rcases h.2 with e2 | ⟨g, cap, e2, e3, e4⟩
  · rw [e] at e2; cases e2
  · rw [e] at e2
    have : b = g := by injection e2 with e5; injection e5 with e6; injection e6
    subst this
    exact ⟨e4, h8 b (by rw [e]; rfl)⟩
/-- Facts: the store as it was. -/
theorem facts_any {w0 : Nat} {w : World} {k : SW} {s : SS} (h : Sto w0 w k s) (n : Int) (hlog : s.log.length ≤ 4000) :
    Calls Tryz.prog 13 #[.pointer (some ⟨k.p, 0, none⟩), .int .i64 n] w fun e w' => ∃ v, e = .returned (.tuple #[v, .int .i64 (factsE s.log.length n)]) ∧ Sto w0 w' (k.far w) s ∧ StepS w k w' (k.far w) ∧ Held w' (k.far w) encT v (factsL s.log n) := by
  refine (facts_ok h n hlog).mono ?_
  rintro e w' ⟨v, rfl, ho, hb⟩
  refine ⟨v, rfl, h.below hb, StepS.below hb, Held.new_ ho fun g hg => ?_⟩
  rcases ho.2 with e2 | ⟨g2, cap, e2, e3, e4⟩
  · rw [e2] at hg; cases hg
  · rw [e2] at hg
    have : g2 = g := by injection hg
    subst this
    show 7 ≤ (if g2 < w.heap.size then k.col g2 else 8)
    rw [if_neg (by omega)]; omega
/-- Match, likewise. -/
theorem match_any {w0 : Nat} {w : World} {k : SW} {s : SS} (h : Sto w0 w k s) (n : Int) (hlog : s.log.length ≤ 4000) (a b c : ByteArray) (hsz : a.size ≤ maxLen ∧ b.size ≤ maxLen ∧ c.size ≤ maxLen) :
    Calls Tryz.prog 18 #[.pointer (some ⟨k.p, 0, none⟩), .int .i64 n, .agg #[.string a, .string b, .string c]] w fun e w' => ∃ v k' s', e = .returned (.tuple #[v, .int .i64 (factsE s.log.length n)]) ∧ Sto w0 w' k' s' ∧ s'.log = s.log ∧ k'.p = k.p ∧ StepS w k w' k' ∧ Held w' k' encT v (matchL s.log n ⟨a, b, c⟩) := by
  refine (match_ok h n hlog a b c hsz).mono ?_
  rintro e w' ⟨v, k', s', rfl, h1, h2, h3, h4, ho, h8⟩
  exact ⟨v, k', s', rfl, h1, h2, h3, h4, Held.new_ ho fun g hg => by rw [h8 g hg]; omega⟩
/-- Apply of any batch. -/
theorem apply_any {w0 : Nat} {w : World} {k : SW} {s : SS} (h : Sto w0 w k s) (n : Int) {v : Value} {l : List Cng} (hv : Held w k encC v l) (hlog : s.log.length ≤ 4000) :
    Calls Tryz.prog 12 #[.pointer (some ⟨k.p, 0, none⟩), .int .i64 n, v] w (ApplyPost w0 w k s n l) := by
  by_cases hll : l.length ≤ 1000000
  · exact apply_ok h n hv.sl hv.fgn hlog hll
  · obtain ⟨A, cp, rfl, _⟩ := id hv.sl
    obtain ⟨q0, q1, q2, q3⟩ := h.cells
    have hC := check_long w k.p cp l.length A (by omega)
    have G0 := fun W (e : W.cell? ⟨k.p, 0, none⟩ = some (.map (some k.bn))) => given_sto W k.p (some k.bn) e
    have HE := Lib.hid (show applyE (allL s.log) s.log.length n l = 1 by unfold applyE chkE; rw [if_pos (by rw [if_pos (Or.inl (by omega))])])
    have H := Lib.hid h
    clear h hv hll
    go_enter Tryz.func12, Tryz.ntmps12
    go_wp2_with (first | (go_at_call 31; refine (G0 _ q0).mono ?_; rintro e w' ⟨rfl, rfl⟩) | (go_at_call 32; refine hC.mono ?_; rintro e w1 ⟨rfl, rfl⟩))
    go_ret
    exact post_no H.out (Below.refl _ _) HE.out (by decide)
/-! ### What a law sees of a store -/
structure At (p w0 : Nat) (w : World) (k : SW) (log : List (List Cng)) : Prop where
  kp : k.p = p
  sto : ∃ s, Sto w0 w k s ∧ s.log = log
section
variable {p w0 : Nat} {w w' : World} {k : SW} {log : List (List Cng)}
theorem At.far (h : At p w0 w k log) {D : Nat → Prop} (c : Chg D w w') (hD : ∀ i, i < w.heap.size → D i → k.col i = 8) : At p w0 w' (k.far w) log := by
  obtain ⟨h1, s, h2, h3⟩ := h
  exact ⟨h1, s, h2.far c hD, h3⟩
theorem At.below (h : At p w0 w k log) (c : Below w.heap.size w w') : At p w0 w' (k.far w) log := h.far (Chg.of_below (fun _ => False) c) (fun _ _ e => e.elim)
theorem At.since {k' : SW} (h : At p w0 w k log) (g : StepS w k w' k') {W : World} (hW : Below W.heap.size W w) (hw : W.heap.size ≤ w0) : Below W.heap.size W w' := by
  obtain ⟨h1, s, h2, h3⟩ := h
  exact g.since h2 hW hw
theorem new_law (w : World) : Calls Tryz.prog 11 #[] w fun e w' => ∃ p k, e = .returned (.pointer (some ⟨p, 0, none⟩)) ∧ At p w.heap.size w' k [] ∧ Below w.heap.size w w' :=
  (new_sto w).mono fun _e _w' ⟨h1, h2, h3⟩ => ⟨_, newK w, h1, ⟨rfl, newS, h2, rfl⟩, h3⟩
/-- The log behind a batch. -/
def logA (log : List (List Cng)) (n : Int) (l : List Cng) : List (List Cng) := if applyE (allL log) log.length n l = 0 then log ++ [l] else log
theorem apply_law (h : At p w0 w k log) (n : Int) {v : Value} {l : List Cng} (hv : Held w k encC v l) (hlog : log.length ≤ 4000) {r : Int} (hr : applyE (allL log) log.length n l = r) {log' : List (List Cng)} (hl : logA log n l = log') :
    Calls Tryz.prog 12 #[.pointer (some ⟨p, 0, none⟩), .int .i64 n, v] w fun e w' => ∃ k', e = .returned (.int .i64 r) ∧ At p w0 w' k' log' ∧ StepS w k w' k' := by
  obtain ⟨rfl, s, h2, rfl⟩ := h
  refine (apply_any h2 n hv hlog).mono ?_
  rintro e w' ⟨rfl, k', h3, h4, h5⟩
  refine ⟨k', by rw [hr], ⟨h3, _, h4, ?_⟩, h5⟩
  rw [← hl]
  unfold logA
  split <;> rfl
theorem facts_law (h : At p w0 w k log) (n : Int) (hlog : log.length ≤ 4000) {r : Int} (hr : factsE log.length n = r) {D : List Tri} (hD : factsL log n = D) :
    Calls Tryz.prog 13 #[.pointer (some ⟨p, 0, none⟩), .int .i64 n] w fun e w' => ∃ A c k', e = .returned (.tuple #[.slice A D.length c, .int .i64 r]) ∧ At p w0 w' k' log ∧ StepS w k w' k' ∧ Held w' k' encT (.slice A D.length c) D := by
  obtain ⟨rfl, s, h2, rfl⟩ := h
  subst hr hD
  refine (facts_any h2 n hlog).mono ?_
  rintro e w' ⟨v, rfl, h3, h4, h5⟩
  obtain ⟨A, c, rfl, _⟩ := id h5.sl
  exact ⟨A, c, k.far w, rfl, ⟨rfl, s, h3, rfl⟩, h4, h5⟩
theorem match_law (h : At p w0 w k log) (n : Int) (a b c : ByteArray) (hsz : a.size ≤ maxLen ∧ b.size ≤ maxLen ∧ c.size ≤ maxLen) (hlog : log.length ≤ 4000) {r : Int} (hr : factsE log.length n = r) {D : List Tri} (hD : matchL log n ⟨a, b, c⟩ = D) :
    Calls Tryz.prog 18 #[.pointer (some ⟨p, 0, none⟩), .int .i64 n, .agg #[.string a, .string b, .string c]] w fun e w' => ∃ A c k', e = .returned (.tuple #[.slice A D.length c, .int .i64 r]) ∧ At p w0 w' k' log ∧ StepS w k w' k' ∧ Held w' k' encT (.slice A D.length c) D := by
  obtain ⟨rfl, s, h2, rfl⟩ := h
  subst hr hD
  refine (match_any h2 n hlog a b c hsz).mono ?_
  rintro e w' ⟨v, k', s', rfl, h3, h4, h5, h6, h7⟩
  obtain ⟨A, c, rfl, _⟩ := id h7.sl
  exact ⟨A, c, k', rfl, ⟨h5, s', h3, h4⟩, h6, h7⟩
theorem version_law (h : At p w0 w k log) : Calls Tryz.prog 16 #[.pointer (some ⟨p, 0, none⟩)] w fun e w' => e = .returned (.int .i64 log.length) ∧ w = w' := by
  obtain ⟨rfl, s, h2, rfl⟩ := h
  exact version_ok h2
theorem room_law (h : At p w0 w k log) {v : Value} {l : List Cng} (hv : G.SlL w encC v l) : Calls Tryz.prog 20 #[.pointer (some ⟨p, 0, none⟩), v] w fun e w' => e = .returned (.bool (decide (chkE (allL log) l = 0))) ∧ Below w.heap.size w w' := by
  obtain ⟨rfl, s, h2, rfl⟩ := h
  exact room_ok h2 hv
/-- A literal slice, made behind steps of the law's own. -/
theorem lit_law {α : Type} (enc : α → List Value) (xs : List α) {t : TypeId} {cs : Array Value} {n : Nat} {w3 : World} (h : At p w0 w k log) (hb : Below w.heap.size w w3) (hn : xs.length = n) (hcs : cs.toList = xs.flatMap enc) :
    At p w0 (w3.alloc (.cells cs t (0, 0))) (k.far w) log ∧ StepS w k (w3.alloc (.cells cs t (0, 0))) (k.far w) ∧ Held (w3.alloc (.cells cs t (0, 0))) (k.far w) enc (.slice (some ⟨w3.heap.size, 0, none⟩) n n) xs := by
  have b := hb.alloc hb.size (.cells cs t (0, 0))
  refine ⟨h.below b, StepS.below b, sl_block enc xs (heap_alloc_new w3 _) hn hcs, fun b off n c e _ => ?_⟩
  have h1 : w3.heap.size = b := by injection e with e5; injection e5 with e6; injection e6
  subst h1
  refine ⟨by rw [World.size_alloc]; omega, ?_⟩
  show 7 ≤ (if w3.heap.size < w.heap.size then k.col w3.heap.size else 8)
  rw [if_neg (by have := hb.size; omega)]; omega
theorem nil_law {α : Type} (enc : α → List Value) (w : World) (k : SW) : Held w k enc (.slice none 0 0) ([] : List α) := ⟨G.SlL.nil _ _, fun b off n c e _ => by cases e⟩
end
/-! ### Facts that are compared -/
theorem beq_bytes (a b : ByteArray) : (a.toList == b.toList) = decide (a = b) := by
  rw [← beq_toListBytes, Bool.eq_iff_iff, decide_eq_true_iff]
  obtain ⟨x⟩ := a
  obtain ⟨y⟩ := b
  show (x == y) = true ↔ _
  simp
theorem eqIn_tri (w : World) (a b c x y z : ByteArray) : (Op.equalIn 10000 35 (.agg #[.string a, .string b, .string c]) (.agg #[.string x, .string y, .string z])).run Tryz.prog w = .ok (decide ((⟨a, b, c⟩ : Tri) = ⟨x, y, z⟩)) w := by
  rw [show decide ((⟨a, b, c⟩ : Tri) = ⟨x, y, z⟩) = ((a.toList == x.toList) && ((b.toList == y.toList) && (c.toList == z.toList))) by
    rw [beq_bytes, beq_bytes, beq_bytes, Bool.eq_iff_iff]
    simp [Tri.mk.injEq]]
  refine eqA_of Tryz.underlying35 (by kernel_rfl) ?_
  refine eqf_cons (by rfl) (by go_simp; rfl) (by go_simp; rfl) (by go_simp) ?_
  refine eqf_cons (by rfl) (by go_simp; rfl) (by go_simp; rfl) (by go_simp) ?_
  exact eqf_last (by rfl) (by go_simp; rfl) (by go_simp; rfl) (by go_simp)
theorem eql_tri (w : World) (a b c x y z : ByteArray) : (binOp .eql 35 (.agg #[.string a, .string b, .string c]) (.agg #[.string x, .string y, .string z])).run Tryz.prog w = .ok (.bool (decide ((⟨a, b, c⟩ : Tri) = ⟨x, y, z⟩))) w := by
  rw [run_eql_struct, eqIn_tri]
  rfl
theorem neq_tri (w : World) (a b c x y z : ByteArray) : (binOp .neq 35 (.agg #[.string a, .string b, .string c]) (.agg #[.string x, .string y, .string z])).run Tryz.prog w = .ok (.bool (!decide ((⟨a, b, c⟩ : Tri) = ⟨x, y, z⟩))) w := by
  rw [run_neq_struct, eqIn_tri]
  rfl
end Go.Proofs.YtcnffgcegimelaaGreat.So
end
