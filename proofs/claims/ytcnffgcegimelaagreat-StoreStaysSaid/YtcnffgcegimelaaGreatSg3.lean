/-
  store.sorted walked. Conditions: the facts lie in a row of the call's own.
-/
import Derived.Test.YtcnffgcegimelaaGreatSg2
namespace Go.Proofs.YtcnffgcegimelaaGreat.So
open Go.RowKit Go.Proofs.YtcnffgcegimelaaGreat.Mp Go.Proofs.YtcnffgcegimelaaGreat.Wd Go.Proofs.YtcnffgcegimelaaGreat.Pm Go.Proofs.YtcnffgcegimelaaGreat.Pw
open Go.Sort (HoldsK putRowK flatK size_flatK get_flatK holdsK_grow holdsK_ahead holdsK_putRowK cell?_putRowK_other)

/-- Facts in memory, that may be written. -/
def FactsIn (w : World) (b off : Nat) (l : List Tri) : Prop := ∀ k i, k < l.length → i < 3 → w.cell? ⟨b, off + k * 3 + i, none⟩ = some ((encT (l.getD k default))[i]!) ∧ w.frozen? ⟨b, off + k * 3 + i, none⟩ = false
theorem get_listT (l : List Tri) (k : Nat) (hk : k < l.length) : l.toArray[k]! = l.getD k default := by
  rw [getElem!_pos _ k (by simpa using hk), List.getD_eq_getElem?_getD, List.getElem?_eq_getElem hk]
  simp
theorem facts_holds {w : World} {b off : Nat} {l : List Tri} (h : FactsIn w b off l) : HoldsK encT 3 w b off l.toArray := by
  intro j hj
  rw [size_flatK] at hj
  rw [get_flatK encT 3 l.toArray j hj]
  have hs : l.toArray.size = l.length := by simp
  have hk : j / 3 < l.length := by omega
  have hm : j % 3 < 3 := Nat.mod_lt _ (by omega)
  rw [get_listT l _ hk, show off + j = off + j / 3 * 3 + j % 3 by omega]
  exact h _ _ hk hm
theorem holds_facts {w : World} {b off : Nat} {l : List Tri} (h : HoldsK encT 3 w b off l.toArray) : FactsIn w b off l := by
  intro k i hk hi
  have hs : l.toArray.size = l.length := by simp
  have := h.cell (i := k) (c := i) (by omega) hi
  rwa [get_listT l k hk] at this
theorem facts_of_own {w : World} {base g n cap : Nat} {l : List Tri} (h : G.OwnL w base 35 3 encT (.slice (some ⟨g, 0, none⟩) n cap) l) : FactsIn w g 0 l := by
  intro k i hk hi
  obtain ⟨_, ⟨h1, _⟩ | ⟨g', cap', cur, h1, _, h2, _⟩⟩ := id h
  · cases h1
  · injection h1 with h1
    injection h1 with h1
    injection h1 with h1
    subst h1
    obtain ⟨b, off, c, hv, hb, hcl⟩ := h.sl.at_ (k := 3) encT_len k (l.getD k default) (by rw [List.getD_eq_getElem?_getD, List.getElem?_eq_getElem hk]; rfl)
    injection hv with hv
    injection hv with hv
    injection hv with e1 e2
    subst e1 e2
    refine ⟨hcl i _ ?_, heap_free h2 _⟩
    rw [getElem!_pos _ i (by rw [encT_len]; exact hi)]
    exact List.getElem?_eq_getElem _
theorem sl_of_facts {w : World} {g cap : Nat} {l : List Tri} (h : FactsIn w g 0 l) (hg : g < w.heap.size) (hc : l.length ≤ cap) : G.SlL w encT (.slice (some ⟨g, 0, none⟩) l.length cap) l := by
  refine ⟨_, _, rfl, hc, (fun e => by cases e), fun _ => ⟨g, 0, rfl, hg, fun j u hu => ?_⟩⟩
  have hj := (List.getElem?_eq_some_iff.1 hu).1
  rw [G.flat_length 3 encT encT_len] at hj
  have hk : j / 3 < l.length := by omega
  have h1 := (h (j / 3) (j % 3) hk (Nat.mod_lt _ (by omega))).1
  have h2 := G.flat_getElem 3 encT encT_len l (j / 3) (j % 3) (l.getD (j / 3) default) (by rw [List.getD_eq_getElem?_getD, List.getElem?_eq_getElem hk]; rfl) (Nat.mod_lt _ (by omega))
  rw [show j / 3 * 3 + j % 3 = j by omega, hu] at h2
  rw [show 0 + j = 0 + j / 3 * 3 + j % 3 by omega, h1, getElem!_pos _ (j % 3) (by rw [encT_len]; exact Nat.mod_lt _ (by omega))]
  rw [List.getElem?_eq_getElem (by rw [encT_len]; exact Nat.mod_lt _ (by omega))] at h2
  exact h2.symm
/-- Facts, sorted. -/
def srtT (l : List Tri) : List Tri := l.mergeSort fun x y => !(ltOf cmpT) y x
theorem srtT_perm (l : List Tri) : (srtT l).Perm l := List.mergeSort_perm _ _
theorem srtT_length (l : List Tri) : (srtT l).length = l.length := (srtT_perm l).length_eq
theorem ltOf_T (x y : Tri) : ltOf cmpT x y = ltT x y := cmpT_neg x y
theorem ltT_ntr (x y z : Tri) (h1 : ltT x y = false) (h2 : ltT y z = false) : ltT x z = false := by
  cases h : ltT x z with
  | false => rfl
  | true =>
    by_cases e : x = y
    · rw [e, h2] at h; cases h
    · rcases ltT_swh.tot x y e with k | k
      · rw [h1] at k; cases k
      · have := ltT_swh.tr _ _ _ k h
        rw [h2] at this; cases this
theorem srtT_rises {l : List Tri} (hn : l.Nodup) : Rises ltT (srtT l) := by
  have h := List.pairwise_mergeSort (le := fun x y => !(ltOf cmpT) y x)
    (fun a b c h1 h2 => by
      simp only [ltOf_T, Bool.not_eq_true'] at *
      exact ltT_ntr _ _ _ h2 h1)
    (fun a b => by
      simp only [ltOf_T, Bool.or_eq_true, Bool.not_eq_true']
      by_cases e : a = b
      · rw [e]; exact Or.inl (ltT_swh.irr b)
      · rcases ltT_swh.tot a b e with k | k
        · refine Or.inl ?_
          cases h : ltT b a with
          | false => rfl
          | true => have := ltT_swh.tr _ _ _ k h; rw [ltT_swh.irr] at this; cases this
        · refine Or.inr ?_
          cases h : ltT a b with
          | false => rfl
          | true => have := ltT_swh.tr _ _ _ k h; rw [ltT_swh.irr] at this; cases this) l
  have hn' : (srtT l).Nodup := (srtT_perm l).nodup_iff.2 hn
  refine (h.and hn').imp fun {a b} hab => ?_
  obtain ⟨h1, h2⟩ := hab
  simp only [ltOf_T, Bool.not_eq_true'] at h1
  rcases ltT_swh.tot a b h2 with k | k
  · exact k
  · rw [h1] at k; cases k
theorem swoT : Sort.SWO (ltOf cmpT) where
  irrefl x := by rw [ltOf_T]; exact ltT_swh.irr x
  trans x y z h1 h2 := by
    rw [ltOf_T] at *
    exact ltT_swh.tr _ _ _ h1 h2
  ntrans x y z h1 h2 := by
    rw [ltOf_T] at *
    exact ltT_ntr _ _ _ h1 h2
theorem totT (x y : Tri) (h1 : ltOf cmpT x y = false) (h2 : ltOf cmpT y x = false) : x = y := by
  rw [ltOf_T] at *
  by_cases e : x = y
  · exact e
  · rcases ltT_swh.tot x y e with k | k
    · rw [h1] at k; cases k
    · rw [h2] at k; cases k
theorem sortWorldT (w : World) (blk off : Nat) (l l' : List Tri) (hH : FactsIn w blk off l) (hl : l'.length = l.length) (hblk : blk < w.heap.size) (n : Nat) (os : Array Obj) :
    FactsIn (sortWorldK encT 3 w blk off n l'.toArray os) blk off l' ∧ w.grownBy (sortWorldK encT 3 w blk off n l'.toArray os) (some blk) := by
  have hs : (putRowK encT 3 (Sort.ahead w n) blk off l'.toArray).heap.size = w.heap.size := by
    unfold putRowK
    rw [Sort.size_putRow]
    rfl
  refine ⟨holds_facts ?_, ?_⟩
  · unfold sortWorldK
    refine holdsK_grow _ _ _ _ _ _ _ (by rw [hs]; exact hblk) ?_
    exact holdsK_putRowK _ _ _ _ _ l.toArray _ (holdsK_ahead _ _ _ _ _ _ _ (facts_holds hH)) (by simp [hl])
  · refine ⟨rfl, rfl, rfl, ?_, fun k hk hne => ?_⟩
    · unfold sortWorldK
      show w.heap.size ≤ ((putRowK encT 3 (Sort.ahead w n) blk off l'.toArray).heap ++ os).size
      rw [Array.size_append, hs]
      omega
    · unfold sortWorldK
      rw [Sort.heap_grow_old _ _ (by rw [hs]; exact hk)]
      unfold putRowK Sort.putRow Sort.mapBlock
      show ((Sort.ahead w n).heap.modify blk _)[k]? = _
      rw [Array.getElem?_modify, if_neg (fun e => hne (by rw [e]))]
      rfl
theorem cmpLaysT (blk off size : Nat) (w : World) : CmpLays Tryz.prog 55 #[] encT 3 cmpT blk off size w := by
  intro m os dk _ x y
  refine (cmpT_calls (sortWorldK encT 3 w blk off m dk os) x y).mono fun e w' ⟨he, o1, o2, o3, hw⟩ => ⟨he, 1, #[o1, o2, o3], ?_⟩
  rw [hw, Sort.alloc_eq_grow, Sort.alloc_eq_grow, Sort.alloc_eq_grow, Sort.grow_grow, Sort.grow_grow]
  rfl
theorem isAggT : ∀ w, (isAgg 35).run Tryz.prog w = .ok true w := Tryz.isAgg35
theorem sizeOfT : ∀ w, (Go.sizeOf 35).run Tryz.prog w = .ok 3 w := Tryz.sizeOf35
theorem sort_calls (w : World) (blk off cap : Nat) (l : List Tri) (hH : FactsIn w blk off l) (hblk : blk < w.heap.size) (hl : l.length < 4611686018427387904) :
    Calls Tryz.prog 54 #[.slice (some ⟨blk, off, none⟩) l.length cap, .func (.func 55) #[] #[]] w fun e w' => e = .returned (.tuple #[]) ∧ FactsIn w' blk off (srtT l) ∧ w.grownBy w' (some blk) := by
  have e32 : ∀ args w, (callFunc 55 args).run Tryz.prog w = .ok (.enter 55 args) w := enters_of Tryz.func55 (by kernel_rfl) rfl
  have h := AnyQ.slices_SortFunc_total laysTri 3 isAggT sizeOfT encT (fun _ => rfl) encT_one cmpT swoT 55 #[] blk off cap l.toArray w e32
    (cmpLaysT blk off _ w) (facts_holds hH) hblk (by simpa using hl) totT
  have hs : l.toArray.size = l.length := by simp
  rw [hs] at h
  refine Calls.mono h fun e w' ⟨he, n, os, hw⟩ => ⟨he, ?_⟩
  rw [hw]
  exact sortWorldT w blk off l (srtT l) hH (srtT_length l) hblk n os
/-- Facts that came out: a slice, and a block of their own. -/
def Out3 (w0 : Nat) (w : World) (v : Value) (D : List Tri) : Prop := G.SlL w encT v D ∧ (v = .slice none 0 0 ∨ ∃ g cap, v = .slice (some ⟨g, 0, none⟩) D.length cap ∧ w0 ≤ g ∧ g < w.heap.size)
set_option maxRecDepth 100000 in
set_option maxHeartbeats 1000000 in
/-- sorted. -/
theorem sorted_ok {w : World} {base : Nat} {v : Value} {l : List Tri} (h : G.OwnL w base 35 3 encT v l) (hl : l.length ≤ 1000000) :
    Calls Tryz.prog 35 #[v] w fun e w' => e = .returned v ∧ Out3 base w' v (srtT l) ∧ w.grownBy w' v.ownBlock := by
  obtain ⟨hh, ⟨rfl, hn⟩ | ⟨g, cap, cur, rfl, hg, hb, hc, _⟩⟩ := id h
  · have h0 : l = [] := List.eq_nil_of_length_eq_zero hn
    subst h0
    have C := fun W => AnyF.slices_SortFunc_none laysTri none 0 (.func (.func 55) #[] #[]) W
    have HC := Lib.hid C
    clear C h hh hn hl
    go_enter Tryz.func35, Tryz.ntmps35
    go_wp2_with (go_at_call 54; refine (HC.out _).mono ?_; rintro e w' ⟨rfl, hw⟩; subst hw)
    go_ret
    have e0 : srtT [] = [] := List.eq_nil_of_length_eq_zero (srtT_length [])
    exact ⟨rfl, ⟨by rw [e0]; exact G.SlL.nil _ _, Or.inl rfl⟩, World.grownBy.refl _ _⟩
  · have hgs := (Array.getElem?_eq_some_iff.1 hb).1
    have C := sort_calls w g 0 cap l (facts_of_own h) hgs (by omega)
    obtain ⟨n, hn⟩ : ∃ n, l.length = n := ⟨_, rfl⟩
    rw [hn] at C hc
    have HN := Lib.hid hn
    have HG := Lib.hid (And.intro hg (And.intro hgs hc))
    have HV : (Value.slice (some ⟨g, 0, none⟩) l.length cap) = .slice (some ⟨g, 0, none⟩) n cap := by rw [hn]
    rw [HV]
    have HC := Lib.hid C
    clear C h hh hn hl hb hg hgs hc HV
    go_enter Tryz.func35, Tryz.ntmps35
    go_wp2_with (go_at_call 54; refine HC.out.mono ?_; rintro e w1 ⟨rfl, hf, hgr⟩; have HF := Lib.hid (And.intro hf hgr); clear hf hgr)
    go_ret
    have hlen : (srtT l).length = n := (srtT_length l).trans HN.out
    have hg1 := Nat.lt_of_lt_of_le HG.out.2.1 HF.out.2.size
    have hs := sl_of_facts (cap := cap) HF.out.1 hg1 (by rw [hlen]; exact HG.out.2.2)
    rw [hlen] at hs
    exact ⟨rfl, ⟨hs, Or.inr ⟨g, cap, by rw [hlen], HG.out.1, hg1⟩⟩, HF.out.2⟩
end Go.Proofs.YtcnffgcegimelaaGreat.So
