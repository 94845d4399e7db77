/-
  A dictionary in memory: Put of a new word. Conditions: the blocks lie as told.
-/
import Derived.Test.YtcnffgcegimelaaGreatSw2
import Derived.OneCell
namespace Go.Proofs.YtcnffgcegimelaaGreat.Wd
open Go.RowKit Go.Proofs.YtcnffgcegimelaaGreat.Mp

theorem heap_free {W : World} {b : Nat} {cs : Array Value} {t : TypeId} (h : W.heap[b]? = some (.cells cs t (0, 0))) (i : Nat) : W.frozen? ⟨b, i, none⟩ = false := by
  simp [World.frozen?, h]
theorem dict_free {w : World} {p : Nat} {m : Option Nat} {v : Value} (h : w.heap[p]? = some (dictO m v)) : w.frozen? ⟨p, 1, none⟩ = false := heap_free h 1
theorem grown_block {w w' : World} {row : Option Nat} (h : w.grownBy w' row) {i : Nat} {o : Obj} (hb : w.heap[i]? = some o) (hne : row ≠ some i) : w'.heap[i]? = some o :=
  (h.block i (Array.getElem?_eq_some_iff.1 hb).1 (fun e => hne e.symm)).trans hb
theorem alloc_block (w : World) {i : Nat} {o : Obj} (hb : w.heap[i]? = some o) (o' : Obj) : (w.alloc o').heap[i]? = some o :=
  ((MapKept.heap_alloc w o').2 i (Array.getElem?_eq_some_iff.1 hb).1).trans hb
theorem heap_set (w : World) (g k : Nat) (cs : Array Value) (e : TypeId) (u : Value) (h : w.heap[g]? = some (.cells cs e (0, 0))) : (w.setCell ⟨g, k, none⟩ u).heap[g]? = some (.cells (cs.setIfInBounds k u) e (0, 0)) := by
  simp only [World.setCell, Array.getElem?_modify, if_true, h]
  rfl
theorem grown_set (w : World) (g k : Nat) (u : Value) : w.grownBy (w.setCell ⟨g, k, none⟩ u) (some g) :=
  ⟨rfl, rfl, rfl, by simp [World.setCell], fun i _ hne => Below.heap_setCell w ⟨g, k, none⟩ u i (fun e => hne (by rw [e]))⟩
set_option maxRecDepth 100000 in
set_option maxHeartbeats 3200000 in
/-- Put of a new word. -/
theorem put_new {w0 : Nat} {w : World} {p b : Nat} {v : Value} {ws : List ByteArray} (h : Dic w0 w p b v ws) (h0 : w0 ≤ w.heap.size) (hL : ws.length ≤ 1000000) (x : ByteArray) (hw : isW x = true) (hf : idxF ws x = none) :
    Calls Tryz.prog 58 #[.pointer (some ⟨p, 0, none⟩), .string x] w fun e w' => e = .returned (.tuple #[.int .i64 ws.length, .int .i64 0]) ∧ ∃ v', Dic w0 w' p b v' (ws ++ [x]) ∧ Chg (fun i => i = p ∨ i = b ∨ some i = v.ownBlock) w w' ∧ (v'.ownBlock = v.ownBlock ∨ ∀ g, v'.ownBlock = some g → w.heap.size ≤ g) := by
  obtain ⟨c0, c1⟩ := dict_cells h.blk
  have hC := is_ok w x
  rw [hw] at hC
  obtain ⟨A, cp, hv⟩ := h.slice
  obtain ⟨N, hN⟩ : ∃ N, ws.length = N := ⟨_, rfl⟩
  have hxs : x ∉ ws := fun e => by
    have := (idxF_mem ws x).1 e
    rw [hf] at this
    cases this
  obtain ⟨i0, hi, hz⟩ := Option.map_eq_some_iff.1 (show (Tryz.prog.info? 9).map (fun i => (i.zero, i.size, i.bytes)) = some (some (.string ByteArray.empty), 1, 16) by kernel_rfl)
  simp only [Prod.mk.injEq] at hz
  have HZ := Lib.hid hz
  have hL' : N ≤ 1000000 := hN ▸ hL
  have HL := Lib.hid hL'
  have HV := Lib.hid hv
  have HN := Lib.hid hN
  have H := Lib.hid h
  clear hz hL hL' hv hN h
  have c1' : w.cell? ⟨p, 1, none⟩ = some (.slice A N cp) := by rw [c1, HV.out, HN.out]
  clear c1
  have hvp : (Value.slice A N cp).ownBlock ≠ some p := by have := H.out.pv; rwa [HV.out, HN.out] at this
  have HVP := Lib.hid hvp
  clear hvp
  go_enter Tryz.func58, Tryz.ntmps58
  go_wp2_with (first | (go_at_call 60; refine (given_at _ p _ c0).mono ?_; rintro e w' ⟨rfl, rfl⟩) | (go_at_call 74; refine hC.mono ?_; rintro e w1 ⟨rfl, hb⟩; have H1 := Lib.hid (H.out.below hb); have d0 := (dict_cells H1.out.blk).1; have d1 := (dict_cells H1.out.blk).2; rw [HV.out, HN.out] at d1) | (at_lookup; refine wpk_ok_none _ rfl _ _ _ rfl Tryz.underlying95 (zeroI _) rfl H1.out.map x (fit_of hw) rfl hf ?_) | (at_mapUpdate; refine wpk_put _ rfl _ _ _ _ rfl Tryz.underlying95 rfl H1.out.map (by have := HL.out; have := HN.out; unfold maxLen; omega) x (fit_of hw) N rfl rfl ?_; intro w2 hm2 ht2 hg2; have B2 := Lib.hid (grown_block hg2 H1.out.blk (fun e => H1.out.pb (Option.some.inj e).symm)); have e0 := (dict_cells B2.out).1; have e1 := (dict_cells B2.out).2; rw [HV.out, HN.out] at e1; have r2 := H1.out.row.kept hg2 (Or.inr H1.out.bv); rw [HV.out, HN.out] at r2; have R2 := Lib.hid r2; have S2 := Lib.hid (Nat.le_trans h0 (Nat.le_trans hb.size hg2.size)); have M2 := Lib.hid (And.intro hm2 (And.intro ht2 hg2)); clear r2 hm2 ht2 hg2) | (at_builtin; refine wpList_append_lies _ rfl _ _ _ rfl w0 9 i0 _ 1 16 Tryz.underlying96 hi HZ.out.1 HZ.out.2.1 HZ.out.2.2 rfl (by omega) (.slice A N cp) N (ws.map Value.string) rfl (R2.out.alloc _) ⟨w2.heap.size, 0, none⟩ 1 1 [.string x] rfl rfl (World.news_of_block (cs := #[.string x]) (t := 9) (fr := (0, 0)) (heap_alloc_new w2 _)) (by simp [Value.oneCell']) (by omega) (by have := HL.out; unfold maxLen; omega) (by have := HL.out; omega) (Nat.le_trans S2.out (by rw [World.size_alloc]; exact Nat.le_succ _)) (w2.heap.size + 1) (by simp) ?_; intro g cp4 w4 hown4 hgrow hat hlt4; have B4 := Lib.hid (grown_block hgrow (alloc_block w2 B2.out _) HVP.out); have g1 := (dict_cells B4.out).2; rw [HV.out, HN.out] at g1; have g2 := dict_free B4.out; have A4 := Lib.hid (And.intro hown4 (And.intro hgrow (And.intro hat hlt4))); clear hown4 hgrow hat hlt4))
  go_ret2
  obtain ⟨hm2, ht2, hg2⟩ := M2.out
  obtain ⟨hown4, hgrow, hat, hlt4⟩ := A4.out
  have hV := HV.out
  have hN := HN.out
  have b4 := B4.out
  have hpb := H1.out.pb
  have hp1 := (Array.getElem?_eq_some_iff.1 H1.out.blk).1
  have hbv := H1.out.bv
  have hvp := HVP.out
  rw [hV, hN] at hbv
  have hgp : g ≠ p := by
    rcases hat with e | e
    · intro e'; exact hvp (by rw [e, e'])
    · have := hg2.size; omega
  have e1 : upd (idxF ws) x (some N) = idxF (ws ++ [x]) := by
    funext y
    unfold upd
    rw [idxF_snoc ws x y hxs, hN]
  rw [e1, if_neg hxs] at hm2
  have hm4 := ((((hm2.perm (List.perm_append_singleton x ws).symm).kept (World.grownBy_alloc w2 (.cells #[.string x] 9 (0, 0)) none) (by simp)).kept hgrow (Ne.symm hbv)).kept (grown_set w4 p 1 (.slice (some ⟨g, 0, none⟩) (N + 1) cp4)) (fun e => hpb (Option.some.inj e).symm))
  refine ⟨by rw [hN]; rfl, .slice (some ⟨g, 0, none⟩) (N + 1) cp4, ⟨?_, hm4, ?_, ?_⟩, ?_, ?_⟩
  · exact heap_set w4 p 1 _ _ _ b4
  · rw [List.length_append, List.length_singleton, hN, List.map_append]
    exact ownsRow_setCell_other hown4 (a := ⟨p, 1, none⟩) (fun e => hgp (by have e' : some g = some p := e; exact Option.some.inj e')) _
  · intro y hy
    rcases List.mem_append.1 hy with hy | hy
    · exact H.out.word y hy
    · rw [List.mem_singleton.1 hy]; exact hw
  · rw [hV, hN]
    have k1 := Chg.of_below (fun i => i = p ∨ i = b ∨ some i = (Value.slice A N cp).ownBlock) hb
    have k2 := k1.trans (Chg.of_grown hg2) (fun i _ e => Or.inr (Or.inl e))
    have k3 := k2.trans (Chg.of_row (World.grownBy_alloc w2 (.cells #[.string x] 9 (0, 0)) none)) (fun i _ e => by cases e)
    have k4 := k3.trans (Chg.of_row hgrow) (fun i _ e => Or.inr (Or.inr e))
    exact k4.trans (Chg.of_grown (grown_set w4 p 1 (.slice (some ⟨g, 0, none⟩) (N + 1) cp4))) (fun i _ e => Or.inl e)
  · rw [hV, hN]
    rcases hat with e | e
    · exact Or.inl e.symm
    · refine Or.inr fun g' hg' => ?_
      have h1 : g = g' := Option.some.inj hg'
      have h2 := hg2.size
      have h3 := hb.size
      omega
end Go.Proofs.YtcnffgcegimelaaGreat.Wd
