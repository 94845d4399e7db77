/-
  A store in memory: Apply. Conditions: the store and the batch lie as told.
-/
import Derived.Test.YtcnffgcegimelaaGreatK4
import Derived.Test.YtcnffgcegimelaaGreatGh
import Derived.Deep.AppendLies
import Derived.RegionTactic
namespace Go.Proofs.YtcnffgcegimelaaGreat.So
open Go.RowKit Go.Proofs.YtcnffgcegimelaaGreat.Mp Go.Proofs.YtcnffgcegimelaaGreat.Wd Go.Proofs.YtcnffgcegimelaaGreat.Pm Go.Proofs.YtcnffgcegimelaaGreat.Pw

/-- The number that Apply answers. -/
def applyE (L : List Tri) (len : Nat) (n : Int) (l : List Cng) : Int := if chkE L l = 1 then 1 else if n ≠ len + 1 then 70 else chkE L l
theorem chkE_vals (L : List Tri) (l : List Cng) : chkE L l = 1 ∨ (chkE L l = 0 ∧ May l ∧ (doesL L l).length ≤ 4096) ∨ chkE L l = 2 := by
  unfold chkE May
  split
  · exact Or.inl rfl
  · split
    · exact Or.inr (Or.inr rfl)
    · rename_i h1 h2
      refine Or.inr (Or.inl ⟨rfl, ⟨?_, ?_⟩, by omega⟩)
      · have : ¬ 64 < l.length := fun e => h1 (Or.inl e)
        omega
      · cases e : l.any (fun c => !isT c.T) with
        | false => rfl
        | true => exact absurd (Or.inr e) h1
section
variable {w0 : Nat} {w W : World} {k : SW} {s : SS} {D : Nat → Prop}
/-- A store behind a batch. -/
theorem Sto.applied (h : Sto w0 w k s) (c : Chg D w W) (hD : ∀ i, i < w.heap.size → D i → k.col i ≤ 2 ∨ k.col i = 8) {lv' : Value} {z : SV} {col' : Nat → Nat} {l : List Cng} (hl : Like w k.col col') (hn : ∀ i, w.heap.size ≤ i → 7 ≤ col' i ∨ w0 ≤ i)
    (blk' : W.heap[k.p]? = some (stoO { k with lv := lv', zs := k.zs ++ [z], col := col' })) (now' : KMap triX encB W k.bn (doesF (allF s.log) l) (doesL (allL s.log) l)) (row' : G.OwnL W w0 28 1 encS lv' (k.zs ++ [z]))
    (hlv : ∀ g, lv'.ownBlock = some g → col' g = 2) (bat : BatchAt W col' z l) (hm : May l) (hlen : (doesL (allL s.log) l).length ≤ 4096) : Sto w0 W { k with lv := lv', zs := k.zs ++ [z], col := col' } { s with log := s.log ++ [l] } := by
  have n7 : ∀ i, i < w.heap.size → 3 ≤ k.col i → k.col i ≤ 7 → ¬ D i := fun i hi h3 h7 hd => by rcases hD i hi hd with e | e <;> omega
  have hbn := h.now.lt
  have hbi := h.idx.lt
  have hbd := h.dic.map.lt
  refine ⟨blk', ?_, row', ?_, fun i z' l' h1 h2 => ?_, ?_, h.idx.chg c (n7 _ hbi (by rw [h.ci]; omega) (by rw [h.ci]; omega)), ?_, Nat.le_trans h.base c.size, ?_, ?_, hlv, ?_, ?_, ?_, ?_, fun i hi => ?_, h.good.snoc hm hlen, h.nd, fun x hx => ?_⟩
  · rw [allF_snoc, allL_snoc]; exact now'
  · rw [List.length_append, List.length_append, h.zl]; rfl
  · by_cases e : i < k.zs.length
    · rw [List.getElem?_append_left e] at h1
      rw [List.getElem?_append_left (by rw [← h.zl]; exact e)] at h2
      exact (h.all i z' l' h1 h2).chg c hl (fun i hi e => n7 i hi (by omega) (by omega))
    · have e1 : i = k.zs.length := by
        have := (List.getElem?_eq_some_iff.1 h1).1
        rw [List.length_append, List.length_singleton] at this
        omega
      rw [e1, List.getElem?_concat_length] at h1
      rw [e1, h.zl, List.getElem?_concat_length] at h2
      injection h1 with h1
      injection h2 with h2
      subst h1 h2
      exact bat
  · exact h.dic.chg c (n7 _ h.pds (by rw [h.cd]; omega) (by rw [h.cd]; omega)) (n7 _ hbd (by rw [h.cb]; omega) (by rw [h.cb]; omega)) (fun g hg => n7 _ (h.dvs hg) (by rw [h.cv g hg]; omega) (by rw [h.cv g hg]; omega))
  · intro v i hv
    obtain ⟨n, e1, e2, e3⟩ := h.ixs v i hv
    refine ⟨n, e1, by rw [List.length_append]; omega, ?_⟩
    rw [List.take_append_of_le_length e2]
    exact e3.chg c hl (fun i hi e => n7 i hi (by omega) (by omega))
  · exact (hl _ h.ps).trans h.cp
  · exact (hl _ hbn).trans h.cn
  · exact (hl _ h.pds).trans h.cd
  · exact (hl _ hbd).trans h.cb
  · exact fun g hg => (hl _ (h.dvs hg)).trans (h.cv g hg)
  · exact (hl _ hbi).trans h.ci
  · by_cases e : i < w.heap.size
    · exact h.lo i (by rw [← hl i e]; exact hi)
    · rcases hn i (by omega) with e1 | e1
      · have hi' : col' i < 7 := hi
        omega
      · exact e1
  · obtain ⟨l', h1, h2⟩ := h.wsub x hx
    exact ⟨l', List.mem_append_left _ h1, h2⟩
end
/-- A slice that is not a store's to write. -/
def Fgn (k : SW) (v : Value) : Prop := ∀ b off n c, v = .slice (some ⟨b, off, none⟩) n c → n ≠ 0 → 7 ≤ k.col b
theorem sl_chg2 {α : Type} {enc : α → List Value} {D : Nat → Prop} {w w' : World} {v : Value} {xs : List α} (h : G.SlL w enc v xs) (c : Chg D w w') (hne : ∀ b off n c, v = .slice (some ⟨b, off, none⟩) n c → n ≠ 0 → ¬ D b) : G.SlL w' enc v xs := by
  obtain ⟨A, cp, hv, hc, hn, hr⟩ := h
  refine ⟨A, cp, hv, hc, hn, fun hx => ?_⟩
  obtain ⟨b, off, hA, hb', hcl⟩ := hr hx
  exact ⟨b, off, hA, Nat.lt_of_lt_of_le hb' c.size, fun j u hu => c.cell (hcl j u hu) (hne b off _ cp (by rw [hv, hA]) (fun e => hx (List.eq_nil_of_length_eq_zero e)))⟩
set_option maxRecDepth 100000 in
theorem does_nil {w : World} {b cp : Nat} {A : Option Addr} : Calls Tryz.prog 33 #[.map (some b), .slice A 0 cp] w fun e w' => (∃ v, e = .returned v) ∧ w = w' := by
  go_enter Tryz.func33, Tryz.ntmps33
  go_wp2
  refine wp_loop_rounds 1 ?_
  rw [rounds_succ]
  go_wp2
  exact bodyPost_end (v := .tuple #[]) (by simp [results, Tryz.results33, go_sem]) rfl ⟨⟨_, rfl⟩, rfl⟩
def ApplyPost (w0 : Nat) (w : World) (k : SW) (s : SS) (n : Int) (l : List Cng) (e : Ending) (w' : World) : Prop :=
  e = .returned (.int .i64 (applyE (allL s.log) s.log.length n l)) ∧ ∃ k', k'.p = k.p ∧ Sto w0 w' k' (if applyE (allL s.log) s.log.length n l = 0 then { s with log := s.log ++ [l] } else s) ∧ StepS w k w' k'
theorem post_no {w0 : Nat} {w w1 : World} {k : SW} {s : SS} {n : Int} {l : List Cng} {r : Int} (h : Sto w0 w k s) (hb : Below w.heap.size w w1) (hr : applyE (allL s.log) s.log.length n l = r) (h0 : r ≠ 0) : ApplyPost w0 w k s n l (.returned (.int .i64 r)) w1 := by
  unfold ApplyPost
  rw [hr, if_neg h0]
  exact ⟨rfl, k.far w, rfl, h.below hb, StepS.below hb⟩
theorem keepP {w3 w4 : World} {o : Obj} {ow : Option Nat} {J : Nat} (hg : (w3.alloc o).grownBy w4 ow) (hJ : some J ≠ ow) (hl : J < w3.heap.size) (i : Nat) : w4.cell? ⟨J, i, none⟩ = w3.cell? ⟨J, i, none⟩ ∧ w4.frozen? ⟨J, i, none⟩ = w3.frozen? ⟨J, i, none⟩ := by
  have hb : Below w3.heap.size w3 (w3.alloc o) := (Below.refl _ _).alloc (Nat.le_refl _) _
  have h1 : w4.heap[J]? = w3.heap[J]? := (hg.block J (Nat.lt_of_lt_of_le hl hb.size) hJ).trans (hb.block J hl)
  exact ⟨World.cell?_of_block h1, World.frozen?_of_block h1⟩
theorem alloc_cell {W : World} {o : Obj} {J i : Nat} {v : Value} (h : W.cell? ⟨J, i, none⟩ = some v) : (W.alloc o).cell? ⟨J, i, none⟩ = some v :=
  (((Below.refl _ W).alloc (Nat.le_refl _) o).cell (p := ⟨J, i, none⟩) (World.block_lt_of_cell? W _ h)).trans h
theorem row_below {w w' : World} {base : Nat} {e : TypeId} {k : Nat} {v : Value} {n : Nat} {xs : List Value} (h : w.ownsRow base e k v n xs) (hb : Below w.heap.size w w') : w'.ownsRow base e k v n xs :=
  row_same h (fun g hg => hb.block g (h.lt g hg).2)
/-- The end of Apply. -/
theorem apply_end {w0 : Nat} {w w1 w2 w3 w4 : World} {k : SW} {s : SS} {n : Int} {l : List Cng} {Al A3 : Option Addr} {nl cl ln cp3 gg cp4 : Nat} (h : Sto w0 w k s) (hlv : k.lv = .slice Al nl cl) (hb : Below w.heap.size w w1) (hK : KMap triX encB w2 k.bn (doesF (allF s.log) l) (doesL (allL s.log) l)) (hc : Chg (fun i => i = k.bn) w1 w2)
    (hr : applyE (allL s.log) s.log.length n l = 0) (hm : May l) (hlen : (doesL (allL s.log) l).length ≤ 4096) (hln : l.length = ln)
    (ho3 : G.OwnL w3 w2.drew.heap.size 40 4 encC (.slice A3 ln cp3) l) (hb3 : Below w2.drew.heap.size w2.drew w3)
    (hown4 : w4.ownsRow w0 28 1 (.slice (some ⟨gg, 0, none⟩) (nl + 1) cp4) (nl + 1) (k.zs.flatMap encS ++ [.slice A3 ln cp3])) (hgrow : (w3.alloc (.cells #[.slice A3 ln cp3] 28 (0, 0))).grownBy w4 (Value.slice Al nl cl).ownBlock) (hat : (Value.slice Al nl cl).ownBlock = some gg ∨ w3.heap.size + 1 ≤ gg) :
    ApplyPost w0 w k s n l (.returned (.int .i64 0)) (w4.setCell ⟨k.p, 1, none⟩ (.slice (some ⟨gg, 0, none⟩) (nl + 1) cp4)) := by
  have s12 := hc.size
  have s01 := hb.size
  have s23 : w2.heap.size ≤ w3.heap.size := hb3.size
  have sa : (w3.alloc (.cells #[.slice A3 ln cp3] 28 (0, 0))).heap.size = w3.heap.size + 1 := World.size_alloc _ _
  have s34 := hgrow.size
  rw [sa] at s34
  have hnl : k.zs.length = nl := by
    obtain ⟨A, c, e1, _⟩ := h.row.sl
    rw [hlv] at e1
    injection e1 with _ e2 _
    exact e2.symm
  have hlvb : ∀ i, some i = (Value.slice Al nl cl).ownBlock → k.col i = 2 ∧ i < w.heap.size := fun i e => by
    rw [← hlv] at e
    exact ⟨h.cl i e.symm, h.lvs e.symm⟩
  have hgs : gg < w4.heap.size := (hown4.lt gg rfl).2
  have pbn : k.p ≠ k.bn := fun e => by have h1 := h.cp; have h2 := h.cn; rw [e] at h1; omega
  have plv : some k.p ≠ (Value.slice Al nl cl).ownBlock := fun e => by have h1 := h.cp; have h2 := (hlvb _ e).1; omega
  have blv : some k.bn ≠ (Value.slice Al nl cl).ownBlock := fun e => by have h1 := h.cn; have h2 := (hlvb _ e).1; omega
  have pgg : k.p ≠ gg := fun e => by
    rcases hat with e1 | e1
    · exact plv (by rw [e1, e])
    · have := h.ps; omega
  have c1 : Chg (fun i => i = k.bn) w w2 := (Chg.of_below _ hb).trans hc (fun i _ e => e)
  have c2 : Chg (fun i => i = k.bn) w w3 := c1.trans (Chg.of_below (w := w2) (fun _ => False) ⟨hb3.os, hb3.tape, hb3.output, hb3.size, hb3.block⟩) (fun i _ e => e.elim)
  have c3 : Chg (fun i => some i = (Value.slice Al nl cl).ownBlock) w3 w4 := by
    have a3 : Chg (fun _ => False) w3 (w3.alloc (.cells #[.slice A3 ln cp3] 28 (0, 0))) := Chg.of_below _ ((Below.refl _ _).alloc (Nat.le_refl _) _)
    exact (a3.mono (fun i _ e => e.elim)).trans (Chg.of_row hgrow) (fun i _ e => e)
  have c4 : Chg (fun i => i = k.bn ∨ some i = (Value.slice Al nl cl).ownBlock) w w4 := (c2.mono (fun i _ e => Or.inl e)).trans c3 (fun i _ e => Or.inr e)
  have c5 : Chg (fun i => i = k.bn ∨ some i = (Value.slice Al nl cl).ownBlock ∨ i = k.p) w (w4.setCell ⟨k.p, 1, none⟩ (.slice (some ⟨gg, 0, none⟩) (nl + 1) cp4)) :=
    (c4.mono (fun i _ e => e.elim Or.inl (fun e => Or.inr (Or.inl e)))).trans (Chg.of_grown (Wd.grown_set w4 k.p 1 _)) (fun i _ e => Or.inr (Or.inr e))
  have hbn := h.now.lt
  obtain ⟨col', hcol⟩ : ∃ col' : Nat → Nat, col' = fun i => if i < w.heap.size then k.col i else if i = gg then 2 else if some i = (Value.slice A3 ln cp3).ownBlock then 7 else 8 := ⟨_, rfl⟩
  have hlike : Like w k.col col' := fun i hi => by rw [hcol]; exact if_pos hi
  have hgc : col' gg = 2 := by
    rw [hcol]
    by_cases e : gg < w.heap.size
    · show (if gg < w.heap.size then k.col gg else _) = 2
      rw [if_pos e]
      rcases hat with e1 | e1
      · exact (hlvb gg e1.symm).1
      · omega
    · show (if gg < w.heap.size then k.col gg else if gg = gg then 2 else _) = 2
      rw [if_neg e, if_pos rfl]
  have g0 : w0 ≤ gg := (hown4.lt gg rfl).1
  unfold ApplyPost
  rw [hr, if_pos rfl]
  refine ⟨rfl, { k with lv := .slice (some ⟨gg, 0, none⟩) (nl + 1) cp4, zs := k.zs ++ [⟨A3, ln, cp3⟩], col := col' }, rfl, h.applied c5 (fun i hi e => ?_) hlike (fun i hi => ?_) ?_ ?_ ?_ (fun g hg => ?_) ?_ hm hlen, ⟨hlike, c5.mono (fun i hi e => ?_)⟩⟩
  · rcases e with e | e | e
    · rw [e, h.cn]; omega
    · rw [(hlvb i e).1]; omega
    · rw [e, h.cp]; omega
  · by_cases e : i = gg
    · rw [e]; exact Or.inr g0
    · refine Or.inl ?_
      rw [hcol]
      show 7 ≤ (if i < w.heap.size then k.col i else if i = gg then 2 else if some i = (Value.slice A3 ln cp3).ownBlock then 7 else 8)
      rw [if_neg (by omega), if_neg e]
      split <;> omega
  · have b4 : w4.heap[k.p]? = some (stoO k) := (c4.block k.p h.ps (fun e => e.elim pbn plv)).trans h.blk
    exact Wd.heap_set w4 k.p 1 _ _ _ b4
  · have k3 : KMap triX encB w3 k.bn (doesF (allF s.log) l) (doesL (allL s.log) l) := hK.chg (Chg.of_below (fun _ => False) ⟨hb3.os, hb3.tape, hb3.output, hb3.size, hb3.block⟩) (fun e => e)
    have k4 := k3.chg c3 blv
    exact k4.chg (Chg.of_grown (Wd.grown_set w4 k.p 1 (.slice (some ⟨gg, 0, none⟩) (nl + 1) cp4))) (fun e => pbn e.symm)
  · unfold G.OwnL
    rw [List.length_append, List.length_singleton, hnl, List.flatMap_append]
    exact ownsRow_setCell_other hown4 (a := ⟨k.p, 1, none⟩) (fun e => pgg (by have e' : some gg = some k.p := e; exact (Option.some.inj e').symm)) _
  · have : gg = g := Option.some.inj hg
    rw [← this]; exact hgc
  · have hsl := ho3.sl
    have hgA : ∀ b off, A3 = some ⟨b, off, none⟩ → w2.heap.size ≤ b ∧ b < w3.heap.size ∧ b ≠ gg := fun b off e => by
      have e1 : (Value.slice A3 ln cp3).ownBlock = some b := by rw [e]; rfl
      have h1 := ho3.ge b e1
      have h2 := ho3.lt_ b e1
      refine ⟨h1, h2, fun e2 => ?_⟩
      rcases hat with e3 | e3
      · have := (hlvb gg e3.symm).2
        have h1' : w2.heap.size ≤ b := h1
        omega
      · omega
    refine ⟨hln.symm, ?_, fun b off e => ?_⟩
    · have h4 := sl_chg hsl c3 (fun b off n' c' e1 e2 => by
        have e3 : A3 = some ⟨b, off, none⟩ := by injection e1
        have h5 := (hgA b off e3).1
        have h6 := (hlvb b e2).2
        omega)
      exact sl_chg h4 (Chg.of_grown (Wd.grown_set w4 k.p 1 _)) (fun b off n' c' e1 e2 => by
        have e3 : A3 = some ⟨b, off, none⟩ := by injection e1
        have h5 := (hgA b off e3).1
        have h6 := h.ps
        have e4 : b = k.p := e2
        omega)
    · have h5 := hgA b off e
      refine ⟨Nat.lt_of_lt_of_le h5.2.1 (by rw [show (w4.setCell ⟨k.p, 1, none⟩ (.slice (some ⟨gg, 0, none⟩) (nl + 1) cp4)).heap.size = w4.heap.size by simp [World.setCell]]; omega), ?_⟩
      rw [hcol]
      show (if b < w.heap.size then k.col b else if b = gg then 2 else if some b = (Value.slice A3 ln cp3).ownBlock then 7 else 8) = 7
      have e' : A3 = some ⟨b, off, none⟩ := e
      rw [if_neg (by omega), if_neg h5.2.2, if_pos (by rw [e']; rfl)]
  · rcases e with e | e | e
    · rw [e, h.cn]; omega
    · rw [(hlvb i e).1]; omega
    · rw [e, h.cp]; omega
set_option maxRecDepth 100000 in
set_option maxHeartbeats 3200000 in
/-- Apply. -/
theorem apply_ok {w0 : Nat} {w : World} {k : SW} {s : SS} (h : Sto w0 w k s) (n : Int) {v : Value} {l : List Cng} (hv : G.SlL w encC v l) (hf : Fgn k v) (hlog : s.log.length ≤ 4000) (hll : l.length ≤ 1000000) :
    Calls Tryz.prog 12 #[.pointer (some ⟨k.p, 0, none⟩), .int .i64 n, v] w (ApplyPost w0 w k s n l) := by
  obtain ⟨A, cp, rfl, _⟩ := id hv
  have HL0 := lies_of hv
  obtain ⟨q0, q1, q2, q3⟩ := h.cells
  have hps := h.ps
  have hC := check_any (cp := cp) q0 hps h.now (allF_true s.log) HL0.2 (by have := h.good.now; omega)
  have HB0 := Lib.hid h.base
  obtain ⟨Al, cl, hlv, _⟩ := h.row.sl
  have G0 := fun W (e : W.cell? ⟨k.p, 0, none⟩ = some (.map (some k.bn))) => given_sto W k.p (some k.bn) e
  obtain ⟨nl, hnl⟩ : ∃ nl, k.zs.length = nl := ⟨_, rfl⟩
  have hnl2 := hnl.symm.trans h.zl
  rw [hnl] at hlv
  rw [hlv] at q1
  obtain ⟨ln, hln⟩ : ∃ ln, l.length = ln := ⟨_, rfl⟩
  rw [hln] at hC hv hll hf ⊢
  have H := Lib.hid h
  have HLV := Lib.hid hlv
  have HV := Lib.hid hv
  have HF := Lib.hid hf
  have HLN := Lib.hid hln
  have HLL := Lib.hid (show l.length ≤ 1000000 by rw [hln]; exact hll)
  have HNL := Lib.hid hnl2
  have HNZ := Lib.hid hnl
  have hnl4 : nl ≤ 4000 := hnl2 ▸ hlog
  have hnli : (nl : Int) ≤ 4000 := by omega
  have hnl0 : 0 ≤ (nl : Int) := by omega
  have hwr : wrap64 ((nl : Int) + 1) = nl + 1 := IntWalk.wrap64_in _ (by omega)
  have HW := Lib.hid hwr
  have VV := chkE_vals (allL s.log) l
  obtain ⟨c, hc⟩ : ∃ c, chkE (allL s.log) l = c := ⟨_, rfl⟩
  rw [hc] at hC VV
  have HCC := Lib.hid hc
  have HL1 := Lib.hid HL0
  clear h hlv hv hf hln hnl hnl2 hlog hll hc HL0 hwr
  by_cases hc1 : c = 1
  · subst hc1
    clear VV
    go_enter Tryz.func12, Tryz.ntmps12
    go_wp2_with (first | (go_at_call 31; refine (G0 _ q0).mono ?_; rintro e w' ⟨rfl, rfl⟩) | (go_at_call 32; refine hC.mono ?_; rintro e w1 ⟨rfl, hb⟩; have HB := Lib.hid hb; clear hb))
    go_ret
    exact post_no H.out HB.out (by unfold applyE; rw [HCC.out, if_pos rfl]) (by decide)
  · by_cases hn : n = (nl : Int) + 1
    · subst hn
      by_cases hc0 : c = 0
      · have VM := Lib.hid (show May l ∧ (doesL (allL s.log) l).length ≤ 4096 by
          rcases VV with e | e | e
          · exact absurd e hc1
          · exact e.2
          · rw [hc0] at e; cases e)
        subst hc0
        clear VV hc1
        have DO := Lib.hid (fun (W : World) (hW : Below w.heap.size w W) => by
          have h0 := HL1.out.2
          have h1 : Cells W A l := h0.1.chg (Chg.of_below (fun _ => False) hW) (fun _ _ _ e => e)
          have h2 : Calls Tryz.prog 33 #[.map (some k.bn), .slice A l.length cp] W fun e w' => (∃ v, e = .returned v) ∧ KMap triX encB w' k.bn (doesF (allF s.log) l) (doesL (allL s.log) l) ∧ Chg (fun i => i = k.bn) W w' := by
            have hk := H.out.now.chg (Chg.of_below (fun _ => False) hW) (fun e => e)
            by_cases hl0 : l = []
            · subst hl0
              exact does_nil.mono fun e w' ⟨h3, h4⟩ => ⟨h3, by rw [← h4]; exact hk, by rw [← h4]; exact Chg.refl _ _⟩
            · exact does_ok (cp := cp) hk (fun sb off e => fun e2 => by
                have h3 := HF.out sb off ln cp (by rw [e]) (fun e3 => hl0 (List.eq_nil_of_length_eq_zero (by rw [HLN.out, e3])))
                rw [e2, H.out.cn] at h3
                omega) h1 (fun c hc => isT_fit (by
                have h4 := List.any_eq_false.1 VM.out.1.2 c hc
                cases hh : isT c.T with
                | true => rfl
                | false =>
                  rw [hh] at h4
                  exact absurd rfl h4)) HLL.out (by have := H.out.good.now; omega)
          rw [HLN.out] at h2
          exact h2)
        obtain ⟨i0, hi, hz⟩ := Option.map_eq_some_iff.1 (show (Tryz.prog.info? 28).map (fun i => (i.zero, i.size, i.bytes)) = some (some (.slice none 0 0), 1, 24) by kernel_rfl)
        simp only [Prod.mk.injEq] at hz
        have hm1 : nl + 1 ≤ maxLen := by unfold maxLen; omega
        have hm2 : (nl + 1) * 24 ≤ 140737488355328 := by omega
        have HZ := Lib.hid (And.intro hi (And.intro hz.1 (And.intro hz.2.1 (And.intro hz.2.2 (And.intro hm1 hm2)))))
        have HLP := Lib.hid (show some k.p ≠ (Value.slice Al nl cl).ownBlock from fun e => by
          have h1 := H.out.cp
          have h2 := H.out.cl k.p (by rw [HLV.out, ← e])
          omega)
        have HBP := Lib.hid (show k.p ≠ k.bn from fun e => by
          have h1 := H.out.cp
          have h2 := H.out.cn
          rw [e] at h1
          omega)
        clear hi hz hm1 hm2
        go_enter Tryz.func12, Tryz.ntmps12
        go_wp2_with (first | (go_at_call 31; refine (G0 _ q0).mono ?_; rintro e w' ⟨rfl, rfl⟩) | (go_at_call 32; refine hC.mono ?_; rintro e w1 ⟨rfl, hb⟩; have HB := Lib.hid hb; have r0 := (hb.cell (p := ⟨k.p, 0, none⟩) hps).trans q0; have r1 := (hb.cell (p := ⟨k.p, 1, none⟩) hps).trans q1; clear hb) | (go_at_call 33; refine (DO.out _ HB.out).mono ?_; rintro e w2 ⟨⟨vv, rfl⟩, hk2, hc2⟩; have c1w := hc2.cell r1 HBP.out; have K2 := Lib.hid (And.intro hk2 hc2); clear hk2 hc2))
        have hblk2 : w2.heap[k.p]? = some (stoO k) := (K2.out.2.block k.p (Nat.lt_of_lt_of_le hps HB.out.size) HBP.out).trans ((HB.out.block k.p hps).trans H.out.blk)
        have f1w : w2.drew.frozen? ⟨k.p, 1, none⟩ = false := heap_free hblk2 1
        have hpl : k.p < w2.drew.heap.size := (Array.getElem?_eq_some_iff.1 hblk2).1
        clear hblk2
        have HV2 := Lib.hid (show G.SlL w2.drew encC (.slice A ln cp) l from
          sl_chg2 (sl_chg HV.out (Chg.of_below (fun _ => False) HB.out) (fun _ _ _ _ _ e => e)) (K2.out.2.trans (c := w2.drew) (Chg.of_below (fun _ => False) (Below.drew (Below.refl _ _))) (fun _ _ e => e.elim)) (fun b off n' c' e en e2 => by
            have h3 := HF.out b off n' c' e en
            rw [e2, H.out.cn] at h3
            omega))
        have HR2 := Lib.hid (show w2.drew.ownsRow w0 28 1 (.slice Al nl cl) nl (k.zs.flatMap encS) from by
          have h0 := H.out.row
          unfold G.OwnL at h0
          rw [HNZ.out, HLV.out] at h0
          exact row_same h0 (fun g hg => (K2.out.2.block g (Nat.lt_of_lt_of_le (h0.lt g hg).2 HB.out.size) (fun e => by
            have h1 := H.out.cl g (by rw [HLV.out]; exact hg)
            rw [e, H.out.cn] at h1
            omega)).trans (HB.out.block g (h0.lt g hg).2)))
        have HS2 := Lib.hid (show w0 ≤ w2.heap.size from Nat.le_trans HB0.out (Nat.le_trans HB.out.size K2.out.2.size))
        have c1w' : w2.drew.cell? ⟨k.p, 1, none⟩ = some (.slice Al nl cl) := c1w
        have hnlm : nl + 1 ≤ 4001 := by omega
        refine wp_region_noPanic ?_
        refine Gh.start_G (fun W => W.cell? ⟨k.p, 1, none⟩ = some (.slice Al nl cl)) 11 (by kernel_rfl) c1w' (fun hHeld => ?_)
        refine Gh.take_G (i := 0) (v := ?_) rfl (by kernel_rfl) (fun _ _ _ h => h) (Or.inl ⟨by rfl, ?_⟩) (by assumption) ?_
        rotate_left
        · (intro wS hSw; (try dsimp only at hSw); go_simp; try with_reducible rfl)
        try simp only [Act.put, List.setIfInBounds_toArray, List.set_cons_zero, List.set_cons_succ]
        refine Gh.take_G (i := 1) (v := ?_) rfl (by kernel_rfl) (fun _ _ _ h => h) (Or.inl ⟨by rfl, ?_⟩) (by assumption) ?_
        rotate_left
        · (intro wS hSw; (try dsimp only at hSw); go_simp; try with_reducible rfl)
        try simp only [Act.put, List.setIfInBounds_toArray, List.set_cons_zero, List.set_cons_succ]
        refine Gh.take_G (i := 2) (v := ?_) rfl (by kernel_rfl) (fun _ _ _ h => h) (Or.inl ⟨by rfl, ?_⟩) (by assumption) ?_
        rotate_left
        · (intro wS hSw; (try dsimp only at hSw); go_simp; try with_reducible rfl)
        try simp only [Act.put, List.setIfInBounds_toArray, List.set_cons_zero, List.set_cons_succ]
        refine Gh.take_G (i := 3) (v := ?_) rfl (by kernel_rfl) (fun _ _ _ h => h) (Or.inl ⟨by rfl, ?_⟩) (by assumption) ?_
        rotate_left
        · (intro wS hSw; (try dsimp only at hSw); go_simp; try with_reducible rfl)
        try simp only [Act.put, List.setIfInBounds_toArray, List.set_cons_zero, List.set_cons_succ]
        refine Gh.take_G (i := 4) (v := ?_) rfl (by kernel_rfl) (fun _ _ _ h => h) (Or.inl ⟨by rfl, ?_⟩) (by assumption) ?_
        rotate_left
        · (intro wS hSw; (try dsimp only at hSw); go_simp; try with_reducible rfl)
        try simp only [Act.put, List.setIfInBounds_toArray, List.set_cons_zero, List.set_cons_succ]
        refine Gh.take_G (i := 5) (v := ?_) rfl (by kernel_rfl) (fun _ _ _ h => h) (Or.inl ⟨by rfl, ?_⟩) (by assumption) ?_
        rotate_left
        · (intro wS hSw; (try dsimp only at hSw); go_simp; try with_reducible rfl)
        try simp only [Act.put, List.setIfInBounds_toArray, List.set_cons_zero, List.set_cons_succ]
        refine Gh.one_G (i := 6) (by kernel_rfl) rfl (fun K hK => ?_)
        go_simp
        refine (clone_b HV2.out HLL.out).mono ?_
        rintro e w3 ⟨v3, rfl, ho3, hb3⟩
        obtain ⟨A3, cp3, hv3, _⟩ := ho3.form
        rw [HLN.out] at hv3
        subst hv3
        have k1 := (hb3.cell (p := ⟨k.p, 1, none⟩) hpl).trans c1w'
        have kf := (hb3.frozen (p := ⟨k.p, 1, none⟩) hpl).trans f1w
        have hp3 := Nat.lt_of_lt_of_le hpl hb3.size
        have HR3 := Lib.hid (World.ownsRow.alloc (row_below HR2.out hb3) (.cells #[.slice A3 ln cp3] 28 (0, 0)))
        have HS3 := Lib.hid (Nat.le_trans HS2.out hb3.size)
        have HC3 := Lib.hid (And.intro ho3 hb3)
        clear ho3 hb3
        try go_wp2_with fail
        refine hK.out _ _ (fun _ => k1) (fun hHeld2 => ?_)
        have hHeld := hHeld2 (by decide)
        clear hHeld2
        clear hK K
        try simp only [Act.put, List.setIfInBounds_toArray, List.set_cons_zero, List.set_cons_succ]
        refine Gh.one_G (i := 7) (by kernel_rfl) rfl (fun K hK => ?_)
        go_simp
        refine hK.out _ _ (fun _ => alloc_cell k1) (fun hHeld2 => ?_)
        have hHeld := hHeld2 (by decide)
        clear hHeld2
        clear hK K
        try simp only [Act.put, List.setIfInBounds_toArray, List.set_cons_zero, List.set_cons_succ]
        refine Gh.one_G (i := 8) (by kernel_rfl) rfl (fun K hK => ?_)
        refine step_append_lies _ (by rfl) _ _ _ (by rfl) w0 28 i0 _ 1 24 Tryz.underlying22 HZ.out.1 HZ.out.2.1 HZ.out.2.2.1 HZ.out.2.2.2.1 rfl (by omega) (.slice Al nl cl) nl (k.zs.flatMap encS) (by rfl) HR3.out ⟨w3.heap.size, 0, none⟩ 1 1 [.slice A3 ln cp3] (by rfl) (by rfl) (World.news_of_block (cs := #[.slice A3 ln cp3]) (t := 28) (fr := (0, 0)) (heap_alloc_new w3 _)) (by simp [Value.oneCell']) (by omega) HZ.out.2.2.2.2.1 HZ.out.2.2.2.2.2 (Nat.le_trans HS3.out (by rw [World.size_alloc]; exact Nat.le_succ _)) (w3.heap.size + 1) (by simp) ?_
        intro gg cp4 w4 hown4 hgrow hat hlt
        have m1 := (keepP hgrow HLP.out hp3 1).1.trans k1
        have mf := (keepP hgrow HLP.out hp3 1).2.trans kf
        have HC4 := Lib.hid (And.intro hown4 (And.intro hgrow hat))
        clear hown4 hgrow hat hlt
        refine hK.out _ _ (fun _ => m1) (fun hHeld2 => ?_)
        have hHeld := hHeld2 (by decide)
        clear hHeld2
        clear hK K
        try simp only [Act.put, List.setIfInBounds_toArray, List.set_cons_zero, List.set_cons_succ]
        refine Gh.take_G (i := 9) (v := ?_) rfl (by kernel_rfl) (fun _ _ _ h => h) (Or.inl ⟨by rfl, ?_⟩) (by assumption) ?_
        rotate_left
        · (intro wS hSw; (try dsimp only at hSw); go_simp; try with_reducible rfl)
        try simp only [Act.put, List.setIfInBounds_toArray, List.set_cons_zero, List.set_cons_succ]
        refine Gh.take_G (i := 10) (v := ?_) rfl (by kernel_rfl) (fun _ _ _ h => h) (Or.inl ⟨by rfl, ?_⟩) (by assumption) ?_
        rotate_left
        · (intro wS hSw; (try dsimp only at hSw); go_simp; try with_reducible rfl)
        try simp only [Act.put, List.setIfInBounds_toArray, List.set_cons_zero, List.set_cons_succ]
        refine Gh.one_G (i := 11) (by kernel_rfl) rfl (fun K hK => ?_)
        go_simp
        refine hK.out _ _ (fun e => absurd rfl e) (fun _ => ?_)
        clear hK K
        try simp only [Act.put, List.setIfInBounds_toArray, List.set_cons_zero, List.set_cons_succ]
        refine Gh.done_G (by kernel_rfl) ?_ _
        refine NoPanic.normal ?_
        go_wp2_with fail
        go_ret
        exact apply_end H.out HLV.out HB.out K2.out.1 K2.out.2 (by unfold applyE; rw [HCC.out, if_neg (by decide), if_neg (by have := HNL.out; omega)]) VM.out.1 VM.out.2 HLN.out HC3.out.1 HC3.out.2 HC4.out.1 HC4.out.2.1 (HC4.out.2.2.imp id (fun e => Nat.le_of_eq e.symm))
      · have h2 : c = 2 := by
          rcases VV with e | e | e
          · exact absurd e hc1
          · exact absurd e.1 hc0
          · exact e
        subst h2
        clear VV hc0 hc1
        go_enter Tryz.func12, Tryz.ntmps12
        go_wp2_with (first | (go_at_call 31; refine (G0 _ q0).mono ?_; rintro e w' ⟨rfl, rfl⟩) | (go_at_call 32; refine hC.mono ?_; rintro e w1 ⟨rfl, hb⟩; have HB := Lib.hid hb; have r1 := (hb.cell (p := ⟨k.p, 1, none⟩) hps).trans q1; clear hb))
        go_ret
        exact post_no H.out HB.out (by unfold applyE; rw [HCC.out, if_neg (by decide), if_neg (by have := HNL.out; omega)]) (by decide)
    · have hnb : (n != (nl : Int) + 1) = true := by simpa using hn
      have HN := Lib.hid hn
      clear hn
      have hcb : (c == 1) = false := by simpa using hc1
      have hcb2 : (c != 1) = true := by simpa using hc1
      have HC1 := Lib.hid hc1
      clear hc1 VV
      go_enter Tryz.func12, Tryz.ntmps12
      go_wp2_with (first | (go_at_call 31; refine (G0 _ q0).mono ?_; rintro e w' ⟨rfl, rfl⟩) | (go_at_call 32; refine hC.mono ?_; rintro e w1 ⟨rfl, hb⟩; have HB := Lib.hid hb; have r1 := (hb.cell (p := ⟨k.p, 1, none⟩) hps).trans q1; clear hb))
      go_ret
      exact post_no H.out HB.out (by unfold applyE; rw [HCC.out, if_neg HC1.out, if_pos (by have := HNL.out; have := HN.out; omega)]) (by decide)
end Go.Proofs.YtcnffgcegimelaaGreat.So
