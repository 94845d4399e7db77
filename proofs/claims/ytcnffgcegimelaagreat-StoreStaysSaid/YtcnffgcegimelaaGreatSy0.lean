/-
  What matches some words, plain. Conditions: as each says.
-/
import Derived.Test.YtcnffgcegimelaaGreatSx3
namespace Go.Proofs.YtcnffgcegimelaaGreat.So
open Go.RowKit Go.Proofs.YtcnffgcegimelaaGreat.Mp Go.Proofs.YtcnffgcegimelaaGreat.Wd Go.Proofs.YtcnffgcegimelaaGreat.Pm Go.Proofs.YtcnffgcegimelaaGreat.Pw

/-- Whether a fact has the words that are there. -/
def likeB (like t : Tri) : Bool := (!hasW like.S || decide (like.S = t.S)) && (!hasW like.P || decide (like.P = t.P)) && (!hasW like.O || decide (like.O = t.O))
def matchL (log : List (List Cng)) (n : Int) (like : Tri) : List Tri := (factsL log n).filter (likeB like)
theorem likeB_iff (like t : Tri) : likeB like t = true ↔ ∀ i, i < 3 → hasW (wAt like i) = true → wAt like i = wAt t i := by
  unfold likeB
  simp only [Bool.and_eq_true, Bool.or_eq_true, Bool.not_eq_true', decide_eq_true_eq]
  constructor
  · rintro ⟨⟨h0, h1⟩, h2⟩ i hi hw
    have : i = 0 ∨ i = 1 ∨ i = 2 := by omega
    rcases this with rfl | rfl | rfl
    · rcases h0 with e | e
      · have hw' : hasW like.S = true := hw
        rw [e] at hw'; cases hw'
      · exact e
    · rcases h1 with e | e
      · have hw' : hasW like.P = true := hw
        rw [e] at hw'; cases hw'
      · exact e
    · rcases h2 with e | e
      · have hw' : hasW like.O = true := hw
        rw [e] at hw'; cases hw'
      · exact e
  · intro h
    refine ⟨⟨?_, ?_⟩, ?_⟩
    · cases e : hasW like.S with
      | false => exact Or.inl rfl
      | true => exact Or.inr (h 0 (by omega) e)
    · cases e : hasW like.P with
      | false => exact Or.inl rfl
      | true => exact Or.inr (h 1 (by omega) e)
    · cases e : hasW like.O with
      | false => exact Or.inl rfl
      | true => exact Or.inr (h 2 (by omega) e)
def ordK (kk : Nat) : Ord := if kk = 0 then o0 else if kk = 1 then o1 else o2
theorem six_K (kk : Nat) : Six (ordK kk) := by
  unfold ordK
  split
  · exact six0
  · split
    · exact six1
    · exact six2
theorem best_ord (like : Tri) : (bestN (hasW like.S) (hasW like.P) (hasW like.O)).1 ≤ 2 ∧ (bestN (hasW like.S) (hasW like.P) (hasW like.O)).2 ≤ 3 ∧ ∀ i, i < 3 → (hasW (wAt like ((ordK (bestN (hasW like.S) (hasW like.P) (hasW like.O)).1).at i)) = true ↔ i < (bestN (hasW like.S) (hasW like.P) (hasW like.O)).2) := by
  have key : ∀ (f : Nat → Bool) (a b c : Bool), f 0 = a → f 1 = b → f 2 = c → (bestN a b c).1 ≤ 2 ∧ (bestN a b c).2 ≤ 3 ∧ ∀ i, i < 3 → (f ((ordK (bestN a b c).1).at i) = true ↔ i < (bestN a b c).2) := by
    intro f a b c h0 h1 h2
    cases a <;> cases b <;> cases c <;>
    · refine ⟨by decide, by decide, fun i hi => ?_⟩
      have : i = 0 ∨ i = 1 ∨ i = 2 := by omega
      rcases this with rfl | rfl | rfl <;> simp [bestN, ordK, o0, o1, o2, Ord.at, h0, h1, h2]
  exact key (fun i => hasW (wAt like i)) _ _ _ rfl rfl rfl
theorem likeB_ord {like t : Tri} {o : Ord} {kn : Nat} (ho : Six o) (h : ∀ i, i < 3 → (hasW (wAt like (o.at i)) = true ↔ i < kn)) : likeB like t = true ↔ ∀ i, i < kn → i < 3 → wAt like (o.at i) = wAt t (o.at i) := by
  rw [likeB_iff]
  constructor
  · intro g i hi h3
    exact g _ ((six_at ho).2 i h3) ((h i h3).2 hi)
  · intro g i h3 hw
    obtain ⟨j, hj, rfl⟩ := (six_at ho).1 i h3
    exact g j ((h j hj).1 hw) hj
section
variable {ws : List ByteArray} {D : List Tri} {o : Ord}
theorem num_inj {a b : ByteArray} (ha : a ∈ ws) (hb : b ∈ ws) (h : numW ws a = numW ws b) : a = b := by
  have h1 := (numW_ok ha).2
  have h2 := (numW_ok hb).2
  rw [h, h2] at h1
  exact h1.symm
theorem fact_row {t : Tri} (h : t.S ∈ ws ∧ t.P ∈ ws ∧ t.O ∈ ws) : factR ws (rowT ws t) = t := by
  unfold factR rowT
  simp only
  rw [(numW_ok h.1).2, (numW_ok h.2.1).2, (numW_ok h.2.2).2]
theorem row_at (t : Tri) (i : Nat) : (rowT ws t).at i = numW ws (wAt t i) := by
  unfold rowT R3.at wAt
  split
  · rfl
  · split <;> rfl
theorem wAt_mem {t : Tri} (h : t.S ∈ ws ∧ t.P ∈ ws ∧ t.O ∈ ws) (i : Nat) : wAt t i ∈ ws := by
  unfold wAt
  split
  · exact h.1
  · split
    · exact h.2.1
    · exact h.2.2
/-- The numbers of the first words that are asked for. -/
def pathK (ws : List ByteArray) (like : Tri) (o : Ord) (j : Nat) : List Int := (List.range j).map fun i => numW ws (wAt like (o.at i))
theorem pathK_len (like : Tri) (j : Nat) : (pathK ws like o j).length = j := by unfold pathK; rw [List.length_map, List.length_range]
theorem pathK_get (like : Tri) (j i : Nat) (hi : i < j) : (pathK ws like o j).getD i 0 = numW ws (wAt like (o.at i)) := by
  unfold pathK
  rw [List.getD_eq_getElem?_getD, List.getElem?_map, List.getElem?_range hi]
  rfl
theorem pathK_snoc (like : Tri) (j : Nat) : pathK ws like o (j + 1) = pathK ws like o j ++ [numW ws (wAt like (o.at j))] := by
  unfold pathK
  rw [List.range_succ, List.map_append]
  rfl
theorem mem_rows {r : R3} : r ∈ rowsOf o (D.map (rowT ws)) ↔ ∃ t ∈ D, rowT ws t = r := by
  rw [rowsOf_mem, List.mem_map]
theorem under_path {like : Tri} {j : Nat} (hw : ∀ t ∈ D, t.S ∈ ws ∧ t.P ∈ ws ∧ t.O ∈ ws) (hl : ∀ i, i < j → wAt like (o.at i) ∈ ws) (r : R3) : r ∈ under (rowsOf o (D.map (rowT ws))) o (pathK ws like o j) ↔ ∃ t ∈ D, rowT ws t = r ∧ ∀ i, i < j → wAt like (o.at i) = wAt t (o.at i) := by
  rw [mem_under, mem_rows, pathK_len]
  constructor
  · rintro ⟨⟨t, ht, rfl⟩, h⟩
    refine ⟨t, ht, rfl, fun i hi => ?_⟩
    have := h i hi
    rw [pathK_get like j i hi, row_at] at this
    exact (num_inj (wAt_mem (hw t ht) _) (hl i hi) this).symm
  · rintro ⟨t, ht, rfl, h⟩
    refine ⟨⟨t, ht, rfl⟩, fun i hi => ?_⟩
    rw [pathK_get like j i hi, row_at, h i hi]
/-- What is gathered is what matches. -/
theorem gath_match {like : Tri} {kn : Nat} {Y : List Tri} (ho : Six o) (hD : Rises ltT D) (hw : ∀ t ∈ D, t.S ∈ ws ∧ t.P ∈ ws ∧ t.O ∈ ws) (h3 : kn ≤ 3) (hl : ∀ i, i < kn → wAt like (o.at i) ∈ ws) (hb : ∀ i, i < 3 → (hasW (wAt like (o.at i)) = true ↔ i < kn))
    (hY : Y.Perm ((under (rowsOf o (D.map (rowT ws))) o (pathK ws like o kn)).map (factR ws))) : srtT Y = D.filter (likeB like) := by
  have hn : ((under (rowsOf o (D.map (rowT ws))) o (pathK ws like o kn)).map (factR ws)).Nodup := by
    refine List.pairwise_map.2 ?_
    have h1 : (under (rowsOf o (D.map (rowT ws))) o (pathK ws like o kn)).Nodup := (rows_nodup (rowsOf_strict o ho _)).filter _
    refine h1.imp_of_mem fun {a b} ha hb' hab e => hab ?_
    obtain ⟨t, ht, rfl, _⟩ := (under_path hw hl a).1 ha
    obtain ⟨t', ht', rfl, _⟩ := (under_path hw hl b).1 hb'
    rw [fact_row (hw t ht), fact_row (hw t' ht')] at e
    rw [e]
  refine rises_one ltT_swh (srtT_rises (hY.nodup_iff.2 hn)) (hD.filter _) fun t => ?_
  rw [(srtT_perm Y).mem_iff, hY.mem_iff, List.mem_map, List.mem_filter, likeB_ord ho hb]
  constructor
  · rintro ⟨r, hr, rfl⟩
    obtain ⟨t, ht, rfl, h⟩ := (under_path hw hl r).1 hr
    rw [fact_row (hw t ht)]
    exact ⟨ht, fun i hi _ => h i hi⟩
  · rintro ⟨ht, h⟩
    exact ⟨rowT ws t, (under_path hw hl _).2 ⟨t, ht, rfl, fun i hi => h i hi (by omega)⟩, fact_row (hw t ht)⟩
/-- Nothing matches: a word is not there. -/
theorem none_word {like : Tri} {kn j : Nat} (ho : Six o) (hw : ∀ t ∈ D, t.S ∈ ws ∧ t.P ∈ ws ∧ t.O ∈ ws) (h3 : kn ≤ 3) (hj : j < kn) (hno : wAt like (o.at j) ∉ ws) (hb : ∀ i, i < 3 → (hasW (wAt like (o.at i)) = true ↔ i < kn)) : D.filter (likeB like) = [] := by
  refine List.filter_eq_nil_iff.2 fun t ht e => hno ?_
  rw [(likeB_ord ho hb).1 e j hj (by omega)]
  exact wAt_mem (hw t ht) _
/-- Nothing matches: a number does not stand there. -/
theorem none_path {like : Tri} {kn j : Nat} (ho : Six o) (hw : ∀ t ∈ D, t.S ∈ ws ∧ t.P ∈ ws ∧ t.O ∈ ws) (h3 : kn ≤ 3) (hj : j < kn) (hl : ∀ i, i < j + 1 → wAt like (o.at i) ∈ ws) (hno : numW ws (wAt like (o.at j)) ∉ lvl (rowsOf o (D.map (rowT ws))) o (pathK ws like o j)) (hb : ∀ i, i < 3 → (hasW (wAt like (o.at i)) = true ↔ i < kn)) : D.filter (likeB like) = [] := by
  refine List.filter_eq_nil_iff.2 fun t ht e => hno ?_
  have h1 := (likeB_ord ho hb).1 e
  refine (mem_lvl (rowsOf_strict o ho _) (by rw [pathK_len]; omega) _).2 ⟨rowT ws t, (under_path hw (fun i hi => hl i (by omega)) _).2 ⟨t, ht, rfl, fun i hi => h1 i (by omega) (by omega)⟩, ?_⟩
  rw [pathK_len, row_at, h1 j hj (by omega)]
theorem none_empty {like : Tri} (hw : ∀ t ∈ D, t.S ∈ ws ∧ t.P ∈ ws ∧ t.O ∈ ws) (h : (rowsOf o (D.map (rowT ws))).length = 0) : D.filter (likeB like) = [] := by
  refine List.filter_eq_nil_iff.2 fun t ht _ => ?_
  have := mem_rows (o := o) (ws := ws) (D := D) |>.2 ⟨t, ht, rfl⟩
  rw [List.eq_nil_of_length_eq_zero h] at this
  cases this
theorem rows_ok (hw : ∀ t ∈ D, t.S ∈ ws ∧ t.P ∈ ws ∧ t.O ∈ ws) (hf : ws.length ≤ 1000000) : RowsOk ws (rowsOf o (D.map (rowT ws))) := by
  refine ⟨fun r hr => ?_, hf⟩
  obtain ⟨t, ht, rfl⟩ := mem_rows.1 hr
  have h := hw t ht
  exact ⟨(numW_ok h.1).1, (numW_ok h.2.1).1, (numW_ok h.2.2).1⟩
theorem rows_top (hw : ∀ t ∈ D, t.S ∈ ws ∧ t.P ∈ ws ∧ t.O ∈ ws) (hf : ws.length ≤ 1000000) : ∀ e i, i < (rowsOf o (D.map (rowT ws))).length → num (rowsOf o (D.map (rowT ws))) o e i ≤ 9223372036854775807 := fun e i hi => by
  have h1 := (rows_ok (o := o) hw hf).at (r := (rowsOf o (D.map (rowT ws))).getD i r0) (by
    rw [List.getD_eq_getElem?_getD, List.getElem?_eq_getElem hi]
    exact List.getElem_mem _) (o.at (e - 1))
  obtain ⟨m, h2, h3⟩ := h1
  unfold num
  rw [h2]
  omega
end
end Go.Proofs.YtcnffgcegimelaaGreat.So
