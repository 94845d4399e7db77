/-
  The document's store, walked: Apply. Conditions: slices lie as told.
-/
import Derived.Test.YtcnffgcegimelaaGreatRu3
namespace Go.Proofs.YtcnffgcegimelaaGreat.So
open Go.Deep Go.RowKit Go.Proofs.YtcnffgcegimelaaGreat.Mp Go.Proofs.YtcnffgcegimelaaGreat.Wd Go.Proofs.YtcnffgcegimelaaGreat.Pm Go.Proofs.YtcnffgcegimelaaGreat.Pw

section
variable {α : Type} {enc : α → List Value} {w0 w w' : World} {k k' : SW} {v : Value} {xs : List α}
theorem HB.step (h : HB w w k enc v xs) (g : StepS w k w' k') : HB w' w' k' enc v xs :=
  ⟨sl_chg2 h.sl g.chg (fun b off n c e en => by
    obtain ⟨h1, h2⟩ := h.out b off n c e en
    have := h2 h1
    omega), fun b off n c e en => by
    obtain ⟨h1, h2⟩ := h.out b off n c e en
    exact ⟨Nat.lt_of_lt_of_le h1 g.chg.size, fun _ => by rw [g.col b h1]; exact h2 h1⟩, h.nil⟩
theorem HB.now (h : HB w0 w k enc v xs) : HB w w (k.far w0) enc v xs :=
  ⟨h.sl, fun b off n c e en => ⟨(h.out b off n c e en).1, fun _ => by
    show 7 ≤ (if b < w0.heap.size then k.col b else 8)
    split
    · rename_i hl; exact (h.out b off n c e en).2 hl
    · omega⟩, h.nil⟩
end
/-- The document's store: all versions' facts. -/
structure QS (w0 w : World) (k : SW) (v : Value) (zs : List SV) (log : List (List Cng)) : Prop where
  row : HB w0 w k encS v zs
  zl : zs.length = log.length + 1
  fact : ∀ (i : Nat) (z : SV), zs[i]? = some z → z.n = (verL (log.take i)).length ∧ HB w0 w k encT z.val (verL (log.take i))
section
variable {w0 w w' : World} {k k' : SW} {v : Value} {zs : List SV} {log : List (List Cng)}
theorem QS.below (h : QS w0 w k v zs log) (b : Below w.heap.size w w') : QS w0 w' k v zs log := ⟨h.row.below b, h.zl, fun i z hz => ⟨(h.fact i z hz).1, (h.fact i z hz).2.below b⟩⟩
theorem QS.step (h : QS w w k v zs log) (g : StepS w k w' k') : QS w' w' k' v zs log := ⟨h.row.step g, h.zl, fun i z hz => ⟨(h.fact i z hz).1, (h.fact i z hz).2.step g⟩⟩
theorem QS.now (h : QS w0 w k v zs log) : QS w w (k.far w0) v zs log := ⟨h.row.now, h.zl, fun i z hz => ⟨(h.fact i z hz).1, (h.fact i z hz).2.now⟩⟩
end
/-- A block of one slice's words. -/
def oneO (v : Value) : Obj := .cells #[v] 52 (0, 0)
theorem one_cell {w : World} {b : Nat} {v : Value} (h : w.heap[b]? = some (oneO v)) : w.cell? ⟨b, 0, none⟩ = some v ∧ w.frozen? ⟨b, 0, none⟩ = false := by
  unfold oneO at h
  exact ⟨by simp [World.cell?, h], by simp [World.frozen?, h]⟩
theorem one_set {w : World} {b : Nat} {v u : Value} (h : w.heap[b]? = some (oneO v)) : (w.setCell ⟨b, 0, none⟩ u).heap[b]? = some (oneO u) := by
  unfold oneO at h ⊢
  exact Ck.heap_setC w b 0 _ _ _ h
theorem one_keep {w : World} {b b' : Nat} {v u : Value} (h : w.heap[b]? = some (oneO v)) (hne : b' ≠ b) : (w.setCell ⟨b', 0, none⟩ u).heap[b]? = some (oneO v) := by
  rw [Below.heap_setCell _ _ _ _ (by simpa using fun e => hne (Eq.symm e))]
  exact h
/-- Colours: what has come since is the callee's. -/
def SW.mark (k : SW) (w : World) : SW := { k with col := fun i => if i < w.heap.size then k.col i else 0 }
theorem HB.mark {α : Type} {enc : α → List Value} {w w1 w2 : World} {k : SW} {v : Value} {xs : List α} (h : HB w w k enc v xs) (b : Below w.heap.size w w2) : HB w1 w2 (k.mark w) enc v xs :=
  ⟨h.sl.below b, fun g off n c e hn => by
    obtain ⟨h1, h2⟩ := h.out g off n c e hn
    refine ⟨Nat.lt_of_lt_of_le h1 b.size, fun _ => ?_⟩
    show 7 ≤ (if g < w.heap.size then k.col g else 0)
    rw [if_pos h1]; exact h2 h1, h.nil⟩
/-- .. and back, behind stores into what the callee has made. -/
theorem HB.unmark {α : Type} {enc : α → List Value} {w w1 w5 w' : World} {k : SW} {v : Value} {xs : List α} {D : Nat → Prop} (h : HB w1 w5 (k.mark w) enc v xs) (h1 : w.heap.size ≤ w1.heap.size) (c : Chg D w5 w') (hD : ∀ i, D i → w.heap.size ≤ i ∧ i < w1.heap.size) : HB w w' k enc v xs := by
  have key : ∀ b off n c2, v = .slice (some ⟨b, off, none⟩) n c2 → n ≠ 0 → b < w5.heap.size ∧ (b < w1.heap.size → b < w.heap.size ∧ 7 ≤ k.col b) := fun b off n c2 e hn => by
    obtain ⟨g1, g2⟩ := h.out b off n c2 e hn
    refine ⟨g1, fun hb => ?_⟩
    have g3 := g2 hb
    have g4 : 7 ≤ (if b < w.heap.size then k.col b else 0) := g3
    by_cases e2 : b < w.heap.size
    · rw [if_pos e2] at g4; exact ⟨e2, g4⟩
    · rw [if_neg e2] at g4; omega
  refine ⟨sl_chg2 h.sl c fun b off n c2 e hn hd => ?_, fun b off n c2 e hn => ?_, h.nil⟩
  · obtain ⟨d1, d2⟩ := hD b hd
    have := ((key b off n c2 e hn).2 d2).1
    omega
  · obtain ⟨g1, g2⟩ := key b off n c2 e hn
    exact ⟨Nat.lt_of_lt_of_le g1 c.size, fun hb => (g2 (by omega)).2⟩
/-- What Apply answers. -/
def RApply (w : World) (k : SW) (log : List (List Cng)) (n : Int) (l : List Cng) (e : Ending) (w' : World) : Prop :=
  ∃ A' n' c' zs', e = .returned (.tuple #[.agg #[.slice A' n' c'], .int .i64 (applyE (allL log) log.length n l)]) ∧ Below w.heap.size w w' ∧ QS w w' k (.slice A' n' c') zs' (logA log n l)
theorem rapply_no {w w' : World} {k : SW} {log : List (List Cng)} {n : Int} {l : List Cng} {A : Option Addr} {nq c : Nat} {zs : List SV} {r : Int} (h : QS w w k (.slice A nq c) zs log) (b : Below w.heap.size w w') (hr : applyE (allL log) log.length n l = r) (h0 : r ≠ 0) : RApply w k log n l (.returned (.tuple #[.agg #[.slice A nq c], .int .i64 r])) w' := by
  subst hr
  exact ⟨A, nq, c, zs, rfl, b, by rw [log_same h0]; exact h.below b⟩
theorem done_len {log : List (List Cng)} (l : List Cng) : (doneR ltT (verL log) l).length = (doesL (allL log) l).length := by
  rw [← verL_snoc, ← allL_snoc, ver_len]
theorem chk_may {L : List Tri} {l : List Cng} (h : mayB l = true) : chkE L l = if 4096 < (doesL L l).length then 2 else 0 := by
  have hm := (mayB_iff l).1 h
  unfold chkE
  rw [if_neg (by rintro (e | e); · have := hm.1; omega
                 · rw [hm.2] at e; cases e)]
theorem chk_not {L : List Tri} {l : List Cng} (h : mayB l = false) : chkE L l = 1 := by
  unfold chkE
  rw [if_pos]
  by_cases e : 64 < l.length
  · exact Or.inl e
  · right
    cases ha : l.any (fun c => !isT c.T) with
    | true => rfl
    | false =>
      have := (mayB_iff l).2 ⟨by omega, ha⟩
      rw [h] at this
      cases this
theorem chg_set2 {w5 w10 : World} {b b' : Nat} (u u' : Value) (h : Below w5.heap.size w5 w10) : Chg (fun i => i = b ∨ i = b') w5 ((w10.setCell ⟨b, 0, none⟩ u).setCell ⟨b', 0, none⟩ u') := by
  refine ⟨h.os, h.tape, h.output, ?_, fun i hi hn => ?_⟩
  · simp only [World.setCell, Array.size_modify]
    exact h.size
  · rw [Below.heap_setCell _ _ _ _ (by simpa using fun e => hn (Or.inr e)), Below.heap_setCell _ _ _ _ (by simpa using fun e => hn (Or.inl e))]
    exact h.block i hi
/-- Behind a batch that was done. -/
theorem rapply_yes {w w1 w5 w10 : World} {k : SW} {v : Value} {zs : List SV} {log : List (List Cng)} {l : List Cng} {n : Int} {bs n5 nz c5 c10 : Nat} {A5 A10 : Option Addr} {N : List Tri} {u u' : Value} (h : QS w w k v zs log) (hN : doneR ltT (verL log) l = N) (hn5 : n5 = N.length) (hbs : w.heap.size ≤ bs) (hb1 : bs + 1 < w1.heap.size) (h5 : Below w.heap.size w w5) (h15 : Below w1.heap.size w1 w5)
    (hh : HB w1 w5 (k.mark w) encT (.slice A5 n5 c5) N) (h10 : Below w5.heap.size w5 w10) (ho : G.OwnL w10 w5.heap.size 29 1 encS (.slice A10 nz c10) (zs ++ [⟨A5, n5, c5⟩])) (hr : applyE (allL log) log.length n l = 0) :
    RApply w k log n l (.returned (.tuple #[.agg #[.slice A10 nz c10], .int .i64 0])) ((w10.setCell ⟨bs, 0, none⟩ u).setCell ⟨bs + 1, 0, none⟩ u') := by
  have c := chg_set2 (b := bs) (b' := bs + 1) u u' h10
  have hw1 : w.heap.size ≤ w1.heap.size := by omega
  have hD : ∀ i, (i = bs ∨ i = bs + 1) → w.heap.size ≤ i ∧ i < w1.heap.size := fun i hi => by omega
  have hrow := row_same ho (w' := (w10.setCell ⟨bs, 0, none⟩ u).setCell ⟨bs + 1, 0, none⟩ u') (fun g hg => by
    have := ho.ge g hg
    have := h15.size
    rw [Below.heap_setCell _ _ _ _ (by simp; omega), Below.heap_setCell _ _ _ _ (by simp; omega)])
  refine ⟨A10, nz, c10, zs ++ [⟨A5, n5, c5⟩], by rw [hr], Chg.below h5 c (fun i hi => (hD i hi).1), ?_⟩
  rw [log_one hr]
  refine ⟨HB.own (base := w5.heap.size) hrow h5.size (fun e => by simp at e), by rw [List.length_append, List.length_append, List.length_singleton, List.length_singleton, h.zl], fun i z hz => ?_⟩
  by_cases e : i < zs.length
  · rw [List.getElem?_append_left e] at hz
    rw [List.take_append_of_le_length (by have := h.zl; omega)]
    exact ⟨(h.fact i z hz).1, ((h.fact i z hz).2.mark h5).unmark hw1 c hD⟩
  · rw [List.getElem?_append_right (by omega)] at hz
    have h0 : i - zs.length < 1 := (List.getElem?_eq_some_iff.1 hz).1
    have h1 : i - zs.length = 0 := by omega
    rw [h1] at hz
    obtain rfl : (⟨A5, n5, c5⟩ : SV) = z := Option.some.inj hz
    have hv : verL ((log ++ [l]).take i) = N := by
      rw [List.take_of_length_le (by rw [List.length_append, List.length_singleton]; have := h.zl; omega), verL_snoc, hN]
    rw [hv]
    exact ⟨hn5, hh.unmark hw1 c hD⟩
set_option maxRecDepth 100000 in
set_option maxHeartbeats 3200000 in
theorem rapply_ok {w : World} {k : SW} {A B : Option Addr} {nq cq m cb : Nat} {zs : List SV} {log : List (List Cng)} {l : List Cng} (n : Int) (h : QS w w k (.slice A nq cq) zs log) (hlog : log.length ≤ 40) (hver : (verL log).length ≤ 4096) (hl : G.SlL w encC (.slice B m cb) l) (hm : l.length = m) (hm6 : m ≤ 9223372036854775807) (hf : ∀ c ∈ l, FitT c.T) :
    Calls Tryz.prog 26 #[.agg #[.slice A nq cq], .int .i64 n, .slice B m cb] w (RApply w k log n l) := by
  have H := Lib.hid h
  have HL := Lib.hid hl
  have HM := Lib.hid hm
  have HF := Lib.hid hf
  have HV := Lib.hid hver
  have HNQ := Lib.hid (show nq = log.length + 1 by
    obtain ⟨A2, c2, e, _⟩ := h.row.sl
    injection e with _ e2 _
    rw [e2, h.zl])
  have hnq : nq ≤ 41 := by have := HNQ.out; omega
  have hnq1 : 1 ≤ nq := by have := HNQ.out; omega
  obtain ⟨w1, hw1⟩ : ∃ w1, (w.alloc (oneO (.slice A nq cq))).alloc (oneO (.slice none 0 0)) = w1 := ⟨_, rfl⟩
  obtain ⟨bs, hbs⟩ : ∃ b, w.heap.size = b := ⟨_, rfl⟩
  have W1 := Lib.hid (show Below w.heap.size w w1 ∧ w1.heap[bs]? = some (oneO (.slice A nq cq)) ∧ w1.heap[bs + 1]? = some (oneO (.slice none 0 0)) by
    rw [← hw1, ← hbs]
    refine ⟨((Below.refl _ w).alloc (Nat.le_refl _) _).alloc (by simp) _, ?_, ?_⟩
    · rw [Below.heap_alloc _ _ _ (by rw [World.size_alloc]; omega)]
      exact heap_alloc_new w _
    · have := heap_alloc_new (w.alloc (oneO (.slice A nq cq))) (oneO (.slice none 0 0))
      rwa [World.size_alloc] at this)
  unfold oneO at hw1
  clear h hl hm hf hver
  cases hmay : mayB l with
  | false =>
    have HMY := Lib.hid hmay
    have HE := Lib.hid (show applyE (allL log) log.length n l = 1 by unfold applyE; rw [if_pos (chk_not hmay)])
    clear hmay
    go_enter Tryz.func26, Tryz.ntmps26
    go_wp2_with fail
    refine (rmay_ok (HL.out.below W1.out.1) HM.out hm6 HF.out).mono ?_
    rw [HMY.out]
    rintro e w2 ⟨rfl, hb2⟩
    have X2 := Lib.hid (show Below w.heap.size w w2 ∧ w2.heap[bs]? = some (oneO (.slice A nq cq)) ∧ w2.heap[bs + 1]? = some (oneO (.slice none 0 0)) from ⟨W1.out.1.trans (hb2.mono W1.out.1.size), (hb2.block bs (Array.getElem?_eq_some_iff.1 W1.out.2.1).1).trans W1.out.2.1, (hb2.block (bs + 1) (Array.getElem?_eq_some_iff.1 W1.out.2.2).1).trans W1.out.2.2⟩)
    clear hb2
    obtain ⟨s0, s1⟩ := one_cell X2.out.2.1
    obtain ⟨r0, r1⟩ := one_cell X2.out.2.2
    have c5 := (one_cell (one_set (u := .slice A nq cq) X2.out.2.2)).1
    have B5 := Lib.hid (show Below w.heap.size w (w2.setCell ⟨bs + 1, 0, none⟩ (.slice A nq cq)) from X2.out.1.setCell (by rw [← hbs]; simp) _)
    go_wp2_with fail
    refine bodyPost_ret (v := .tuple #[.agg #[.slice A nq cq], .int .i64 1]) ?_ rfl (rapply_no H.out B5.out HE.out (by decide))
    simp [results, Tryz.results26, go_sem, c5]
  | true =>
    have HMY := Lib.hid hmay
    have HCH := Lib.hid (chk_may (L := allL log) hmay)
    clear hmay
    by_cases hnn : n = (nq : Int)
    · subst hnn
      obtain ⟨lg, hlg⟩ : ∃ lg, log.length = lg := ⟨_, rfl⟩
      have HLG := Lib.hid hlg
      have hnl : nq = lg + 1 := by rw [← hlg]; exact HNQ.out
      obtain ⟨z, hz⟩ : ∃ z, zs[lg]? = some z := ⟨zs[lg]'(by have := H.out.zl; omega), List.getElem?_eq_getElem _⟩
      obtain ⟨sa, sao, sc, hva, hsa, hcell⟩ := G.SlL.at_ H.out.row.sl encS_len lg z hz
      have hA : A = some ⟨sa, sao, none⟩ := by injection hva
      have HZ := Lib.hid (show HB w w k encT (.slice z.A z.n z.c) (verL log) ∧ z.n = (verL log).length by
        have := H.out.fact lg z hz
        rw [List.take_of_length_le (by omega)] at this
        exact ⟨this.2, this.1⟩)
      have hzn : z.n ≤ 4096 := by rw [HZ.out.2]; exact HV.out
      have q0 : w.cell? ⟨sa, sao + lg, none⟩ = some (.slice z.A z.n z.c) := by
        have := hcell 0 _ rfl
        rw [Nat.mul_one, Nat.add_zero] at this
        exact this
      have HQ0 := Lib.hid (And.intro hsa q0)
      have hw1' : wrap64 ((nq : Int) - 1) = (lg : Int) := by rw [IntWalk.wrap64_in _ (by omega)]; omega
      have HLQ := Lib.hid (show nq - 1 = lg by omega)
      have hg0 : (0 : Int) ≤ (lg : Int) := by omega
      have hg1 : (lg : Int) < (nq : Int) := by omega
      clear hva hcell hz q0 hlog hlg hnl hsa
      subst hA
      obtain ⟨N, hN⟩ : ∃ N, doneR ltT (verL log) l = N := ⟨_, rfl⟩
      have HN := Lib.hid hN
      have HNL := Lib.hid (show N.length = (doesL (allL log) l).length by rw [← hN]; exact done_len l)
      have HAE := Lib.hid (show applyE (allL log) log.length (nq : Int) l = if 4096 < N.length then 2 else 0 by
        rw [HNL.out]
        unfold applyE
        rw [HCH.out, if_neg (by split <;> decide), if_neg (by rw [HNQ.out]; simp)])
      clear hN
      go_enter Tryz.func26, Tryz.ntmps26
      go_wp2_with fail
      refine (rmay_ok (HL.out.below W1.out.1) HM.out hm6 HF.out).mono ?_
      rw [HMY.out]
      rintro e w2 ⟨rfl, hb2⟩
      have X2 := Lib.hid (show Below w.heap.size w w2 ∧ Below w1.heap.size w1 w2 ∧ w2.heap[bs]? = some (oneO (.slice (some ⟨sa, sao, none⟩) nq cq)) ∧ w2.heap[bs + 1]? = some (oneO (.slice none 0 0)) from ⟨W1.out.1.trans (hb2.mono W1.out.1.size), hb2, (hb2.block bs (Array.getElem?_eq_some_iff.1 W1.out.2.1).1).trans W1.out.2.1, (hb2.block (bs + 1) (Array.getElem?_eq_some_iff.1 W1.out.2.2).1).trans W1.out.2.2⟩)
      clear hb2
      obtain ⟨s0, s1⟩ := one_cell X2.out.2.2.1
      obtain ⟨r0, r1⟩ := one_cell X2.out.2.2.2
      have q2 : w2.cell? ⟨sa, sao + lg, none⟩ = some (.slice z.A z.n z.c) := (X2.out.1.cell (p := ⟨sa, sao + lg, none⟩) HQ0.out.1).trans HQ0.out.2
      have q3 : w2.cell? ⟨sa, sao + (nq - 1), none⟩ = some (.slice z.A z.n z.c) := by rw [HLQ.out]; exact q2
      have hm64 : m ≤ 64 := by rw [← HM.out]; exact ((mayB_iff l).1 HMY.out).1
      go_wp2_with fail
      refine (rdone_ok (w0 := w1) (k0 := k.mark w) (HZ.out.1.mark X2.out.1) (by omega) (HL.out.below X2.out.1) HM.out hm64 X2.out.2.1.size).mono ?_
      rintro e w5 ⟨A5, n5, c5', rfl, hb5, hh5⟩
      have X5 := Lib.hid (show Below w.heap.size w w5 ∧ Below w1.heap.size w1 w5 ∧ w5.heap[bs]? = some (oneO (.slice (some ⟨sa, sao, none⟩) nq cq)) ∧ w5.heap[bs + 1]? = some (oneO (.slice none 0 0)) from ⟨X2.out.1.trans (hb5.mono X2.out.1.size), X2.out.2.1.trans (hb5.mono X2.out.2.1.size), (hb5.block bs (Array.getElem?_eq_some_iff.1 X2.out.2.2.1).1).trans X2.out.2.2.1, (hb5.block (bs + 1) (Array.getElem?_eq_some_iff.1 X2.out.2.2.2).1).trans X2.out.2.2.2⟩)
      rw [HN.out] at hh5
      have H5 := Lib.hid hh5
      have hn5 : n5 = N.length := by
        obtain ⟨A2, c2, e, _⟩ := hh5.sl
        injection e
      have HN5 := Lib.hid hn5
      clear hb5 hh5 s0 s1 r0 r1 q2 q3 X2 hn5
      obtain ⟨s0, s1⟩ := one_cell X5.out.2.2.1
      obtain ⟨r0, r1⟩ := one_cell X5.out.2.2.2
      by_cases hfull : 4096 < n5
      · have g5 : (4096 : Int) < (n5 : Int) := by omega
        have HE := Lib.hid (show applyE (allL log) log.length (nq : Int) l = 2 by rw [HAE.out, if_pos (by rw [← HN5.out]; exact hfull)])
        have c5 := (one_cell (one_set (u := .slice (some ⟨sa, sao, none⟩) nq cq) X5.out.2.2.2)).1
        have B5 := Lib.hid (show Below w.heap.size w (w5.setCell ⟨bs + 1, 0, none⟩ (.slice (some ⟨sa, sao, none⟩) nq cq)) from X5.out.1.setCell (by rw [← hbs]; simp) _)
        go_wp2_with fail
        refine bodyPost_ret (v := .tuple #[.agg #[.slice (some ⟨sa, sao, none⟩) nq cq], .int .i64 2]) ?_ rfl (rapply_no H.out B5.out HE.out (by decide))
        simp [results, Tryz.results26, go_sem, c5]
      · have g5 : ¬ (4096 : Int) < (n5 : Int) := by omega
        have HE := Lib.hid (show applyE (allL log) log.length (nq : Int) l = 0 by rw [HAE.out, if_neg (by rw [← HN5.out]; exact hfull)])
        have HI := Lib.hid (show (Tryz.prog.info? 29).map (fun i => (i.zero, i.size, i.bytes)) = some (some (.slice none 0 0), 1, 24) by kernel_rfl)
        have HR5 := Lib.hid (H.out.row.sl.below X5.out.1)
        have hzl : zs.length ≤ 41 := by rw [H.out.zl, HLG.out]; have := HNQ.out; have := HLG.out; omega
        go_wp2_with (at_builtin; (refine G.wp_appN rfl _ _ 25 29 rfl _ 1 24 Tryz.underlying25 HI.out rfl (by omega) (by omega) encS encS_len encS_one w5.heap.size (.slice none 0 0) (.slice (some ⟨sa, sao, none⟩) nq cq) [] zs rfl rfl (G.OwnL.nil _ _ _ _ _) HR5.out (Nat.le_refl _) (by simp only [List.length_nil]; omega) ?_))
        intro v9 w9 ho9 hg9 _
        have B9 := Lib.hid ((G.OwnL.nil w5 w5.heap.size 29 1 encS).next (Below.refl _ _) (Nat.le_refl _) hg9)
        have O9 := Lib.hid ho9
        clear ho9 hg9 s0 s1 r0 r1
        go_wp2_with (at_builtin; (refine G.wp_app1 rfl _ _ 25 29 rfl _ 1 24 Tryz.underlying25 HI.out rfl (by omega) (by omega) encS encS_len encS_one w5.heap.size v9 ([] ++ zs) ⟨A5, n5, c5'⟩ _ rfl rfl _ rfl rfl O9.out B9.out.size (by simp only [List.length_append, List.length_nil]; omega) ?_))
        intro v10 w10 ho10 hg10 _
        have B10 := Lib.hid (O9.out.next B9.out B9.out.size hg10)
        have O10 := Lib.hid ho10
        obtain ⟨A10, c10, rfl, _⟩ := id ho10.sl
        clear ho10 hg10
        have X10 := Lib.hid (show w10.heap[bs]? = some (oneO (.slice (some ⟨sa, sao, none⟩) nq cq)) ∧ w10.heap[bs + 1]? = some (oneO (.slice none 0 0)) from ⟨(B10.out.block bs (Array.getElem?_eq_some_iff.1 X5.out.2.2.1).1).trans X5.out.2.2.1, (B10.out.block (bs + 1) (Array.getElem?_eq_some_iff.1 X5.out.2.2.2).1).trans X5.out.2.2.2⟩)
        obtain ⟨s0, s1⟩ := one_cell X10.out.1
        generalize hnz : (zs ++ [(⟨A5, n5, c5'⟩ : SV)]).length = nz at O10 ⊢
        clear hnz
        have O11 := Lib.hid (show G.OwnL w10 w5.heap.size 29 1 encS (.slice A10 nz c10) (zs ++ [⟨A5, n5, c5'⟩]) from O10.out)
        have Y0 := one_cell (one_set (u := .slice A10 nz c10) X10.out.1)
        have y0 := Y0.1
        obtain ⟨r0, r1⟩ := one_cell (one_keep (u := .slice A10 nz c10) X10.out.2 (b' := bs) (by omega))
        have c5 := (one_cell (one_set (u := .slice A10 nz c10) (one_keep (u := .slice A10 nz c10) X10.out.2 (b' := bs) (by omega)))).1
        have HFIN := Lib.hid (rapply_yes (n := (nq : Int)) (u := .slice A10 nz c10) (u' := .slice A10 nz c10) H.out HN.out HN5.out (Nat.le_of_eq hbs) (Array.getElem?_eq_some_iff.1 W1.out.2.2).1 X5.out.1 X5.out.2.1 H5.out B10.out O11.out HE.out)
        clear Y0
        go_wp2_with fail
        refine bodyPost_ret (v := .tuple #[.agg #[.slice A10 nz c10], .int .i64 0]) ?_ rfl HFIN.out
        simp [results, Tryz.results26, go_sem, c5]
    · have hne : (n != (nq : Int)) = true := by simpa using hnn
      have HE := Lib.hid (show applyE (allL log) log.length n l = 70 by
        unfold applyE
        rw [HCH.out, if_neg (by split <;> decide), if_pos (by rw [HNQ.out] at hnn; simpa using hnn)])
      clear hnn
      go_enter Tryz.func26, Tryz.ntmps26
      go_wp2_with fail
      refine (rmay_ok (HL.out.below W1.out.1) HM.out hm6 HF.out).mono ?_
      rw [HMY.out]
      rintro e w2 ⟨rfl, hb2⟩
      have X2 := Lib.hid (show Below w.heap.size w w2 ∧ w2.heap[bs]? = some (oneO (.slice A nq cq)) ∧ w2.heap[bs + 1]? = some (oneO (.slice none 0 0)) from ⟨W1.out.1.trans (hb2.mono W1.out.1.size), (hb2.block bs (Array.getElem?_eq_some_iff.1 W1.out.2.1).1).trans W1.out.2.1, (hb2.block (bs + 1) (Array.getElem?_eq_some_iff.1 W1.out.2.2).1).trans W1.out.2.2⟩)
      clear hb2
      obtain ⟨s0, s1⟩ := one_cell X2.out.2.1
      obtain ⟨r0, r1⟩ := one_cell X2.out.2.2
      have c5 := (one_cell (one_set (u := .slice A nq cq) X2.out.2.2)).1
      have B5 := Lib.hid (show Below w.heap.size w (w2.setCell ⟨bs + 1, 0, none⟩ (.slice A nq cq)) from X2.out.1.setCell (by rw [← hbs]; simp) _)
      go_wp2_with fail
      refine bodyPost_ret (v := .tuple #[.agg #[.slice A nq cq], .int .i64 70]) ?_ rfl (rapply_no H.out B5.out HE.out (by decide))
      simp [results, Tryz.results26, go_sem, c5]
end Go.Proofs.YtcnffgcegimelaaGreat.So
