/-
  Joined by wip/tools/merge.py from the texts Sg0 Sg1 Sg2 Sg3. Conditions: as each says.
-/
import Derived.Ground.SlsfProg
import Derived.Shelf.SlSortCmp.NoneTotal
import Derived.Test.YtcnffgcegimelaaGreatProg
import Derived.Test.YtcnffgcegimelaaGreatK2
import Derived.WalkKit
import Derived.Lib.Hide
import Derived.Below
import Derived.Test.YtcnffgcegimelaaGreatK4
import Derived.StillTailTactics
section
/-
  The library's sort at triples, laid. Conditions: none.
-/
namespace Go.Proofs.YtcnffgcegimelaaGreat.So
open Go.Shelf
def laysTri_ren : Go.Shelf.Ren := ⟨fun | 6 => 54 | 15 => 76 | 14 => 75 | 28 => 98 | 29 => 99 | 20 => 90 | 21 => 91 | 22 => 92 | 23 => 93 | 24 => 94 | 25 => 95 | 26 => 96 | 27 => 97 | 46 => 104 | 47 => 105 | 48 => 106 | 49 => 107 | 50 => 108 | 57 => 127 | n => n, fun | 22 => 29 | 24 => 35 | 25 => 104 | 3 => 3 | 39 => 122 | 0 => 0 | 53 => 133 | 55 => 147 | 4 => 4 | 46 => 140 | 45 => 139 | 50 => 88 | 5 => 5 | 9 => 9 | 66 => 151 | 70 => 155 | 76 => 168 | 77 => 75 | n => n, fun | n => n⟩
theorem laysTri : Go.Proofs.SlLaysF0.n6 Tryz.prog laysTri_ren := {
  mixed := by kernel_rfl
  f6 := ⟨Tryz.f54.name, by decide, Tryz.func54.trans (congrArg some (by kernel_rfl))⟩
  f14 := ⟨Tryz.f75.name, by decide, Tryz.func75.trans (congrArg some (by kernel_rfl))⟩
  f15 := Tryz.func76.trans (congrArg some (by kernel_rfl))
  f20 := ⟨Tryz.f90.name, by decide, Tryz.func90.trans (congrArg some (by kernel_rfl))⟩
  f21 := ⟨Tryz.f91.name, by decide, Tryz.func91.trans (congrArg some (by kernel_rfl))⟩
  f22 := ⟨Tryz.f92.name, by decide, Tryz.func92.trans (congrArg some (by kernel_rfl))⟩
  f23 := ⟨Tryz.f93.name, by decide, Tryz.func93.trans (congrArg some (by kernel_rfl))⟩
  f24 := ⟨Tryz.f94.name, by decide, Tryz.func94.trans (congrArg some (by kernel_rfl))⟩
  f25 := ⟨Tryz.f95.name, by decide, Tryz.func95.trans (congrArg some (by kernel_rfl))⟩
  f26 := ⟨Tryz.f96.name, by decide, Tryz.func96.trans (congrArg some (by kernel_rfl))⟩
  f27 := ⟨Tryz.f97.name, by decide, Tryz.func97.trans (congrArg some (by kernel_rfl))⟩
  f28 := Tryz.func98.trans (congrArg some (by kernel_rfl))
  f29 := Tryz.func99.trans (congrArg some (by kernel_rfl))
  f46 := ⟨Tryz.f104.name, by decide, Tryz.func104.trans (congrArg some (by kernel_rfl))⟩
  f47 := Tryz.func105.trans (congrArg some (by kernel_rfl))
  f48 := Tryz.func106.trans (congrArg some (by kernel_rfl))
  f49 := ⟨Tryz.f107.name, by decide, Tryz.func107.trans (congrArg some (by kernel_rfl))⟩
  f50 := ⟨Tryz.f108.name, by decide, Tryz.func108.trans (congrArg some (by kernel_rfl))⟩
  f57 := ⟨Tryz.f127.name, by decide, Tryz.func127.trans (congrArg some (by kernel_rfl))⟩
  t0 := Tryz.underlying0
  a0 := Tryz.isAgg0
  z0 := Tryz.sizeOf0
  v0 := Tryz.zeroValue0
  t3 := Tryz.underlying3
  a3 := Tryz.isAgg3
  z3 := Tryz.sizeOf3
  v3 := Tryz.zeroValue3
  t4 := Tryz.underlying4
  a4 := Tryz.isAgg4
  z4 := Tryz.sizeOf4
  v4 := Tryz.zeroValue4
  t5 := Tryz.underlying5
  a5 := Tryz.isAgg5
  z5 := Tryz.sizeOf5
  v5 := Tryz.zeroValue5
  t9 := Tryz.underlying9
  a9 := Tryz.isAgg9
  z9 := Tryz.sizeOf9
  v9 := Tryz.zeroValue9
  t22 := Tryz.underlying29
  a22 := Tryz.isAgg29
  z22 := Tryz.sizeOf29
  v22 := Tryz.zeroValue29
  t25 := Tryz.underlying104
  a25 := Tryz.isAgg104
  z25 := Tryz.sizeOf104
  v25 := Tryz.zeroValue104
  t39 := Tryz.underlying122
  a39 := Tryz.isAgg122
  z39 := Tryz.sizeOf122
  v39 := Tryz.zeroValue122
  t45 := Tryz.underlying139
  a45 := Tryz.isAgg139
  z45 := Tryz.sizeOf139
  v45 := Tryz.zeroValue139
  t46 := Tryz.underlying140
  a46 := Tryz.isAgg140
  z46 := Tryz.sizeOf140
  v46 := Tryz.zeroValue140
  t50 := Tryz.underlying88
  a50 := Tryz.isAgg88
  z50 := Tryz.sizeOf88
  v50 := Tryz.zeroValue88
  t53 := Tryz.underlying133
  a53 := Tryz.isAgg133
  z53 := Tryz.sizeOf133
  v53 := Tryz.zeroValue133
  t55 := Tryz.underlying147
  a55 := Tryz.isAgg147
  z55 := Tryz.sizeOf147
  v55 := Tryz.zeroValue147
  t66 := Tryz.underlying151
  a66 := Tryz.isAgg151
  z66 := Tryz.sizeOf151
  v66 := Tryz.zeroValue151
  t70 := Tryz.underlying155
  a70 := Tryz.isAgg155
  z70 := Tryz.sizeOf155
  v70 := Tryz.zeroValue155
  t76 := Tryz.underlying168
  a76 := Tryz.isAgg168
  z76 := Tryz.sizeOf168
  v76 := Tryz.zeroValue168
  t77 := Tryz.underlying75
  a77 := Tryz.isAgg75
  z77 := Tryz.sizeOf75
  v77 := Tryz.zeroValue75 }
end Go.Proofs.YtcnffgcegimelaaGreat.So
end
section
/-
  cmp.Compare at words. Conditions: none.
-/
namespace Go.Proofs.YtcnffgcegimelaaGreat.So
open Go.RowKit Go.Proofs.YtcnffgcegimelaaGreat.Mp

theorem gtr_s (t : TypeId) (a b : ByteArray) : binOp .gtr t (.string a) (.string b) = pure (.bool !(Op.bytesLess a.toList b.toList || a.toList == b.toList)) := by simp [binOp, Op.stringOp]
theorem lss_s (t : TypeId) (a b : ByteArray) : binOp .lss t (.string a) (.string b) = pure (.bool (Op.bytesLess a.toList b.toList)) := by simp [binOp, Op.stringOp]
theorem nan_s (x : ByteArray) (w : World) : Calls Tryz.prog 77 #[.string x] w fun e w' => e = .returned (.bool false) ∧ w' = w := by
  go_enter Tryz.func77, Tryz.ntmps77
  go_wp2
  go_ret
  exact ⟨by simp, rfl⟩
theorem cmp_string (a b : ByteArray) (w : World) : Calls Tryz.prog 57 #[.string a, .string b] w fun e w' => e = .returned (.int .i64 (cmpS a b)) ∧ w' = w := by
  have hEq : (a.toList == b.toList) = decide (a = b) := by
    by_cases e : a = b
    · simp [e]
    · rw [decide_eq_false e]
      exact beq_eq_false_iff_ne.2 (fun k => e (bytes_ext k))
  obtain ⟨c, hc⟩ : ∃ c, cmpS a b = c := ⟨_, rfl⟩
  rw [hc]
  have HC := Lib.hid hc
  clear hc
  obtain ⟨x, hx⟩ : ∃ x, ltS a b = x := ⟨_, rfl⟩
  obtain ⟨y, hy⟩ : ∃ y, decide (a = b) = y := ⟨_, rfl⟩
  have hx' : Op.bytesLess a.toList b.toList = x := hx
  rw [hy] at hEq
  have qG : ∀ (w : World), (binOp .gtr 9 (.string a) (.string b)).run Tryz.prog w = .ok (.bool (!(x || y))) w := fun w => by
    rw [gtr_s, hEq, hx']; rfl
  have HX := Lib.hid hx
  have HY := Lib.hid hy
  clear hx hy
  cases x <;> cases y
  all_goals
    go_enter Tryz.func57, Tryz.ntmps57
    go_wp2_with (go_at_call 77; refine (nan_s _ _).mono ?_; rintro e w' ⟨rfl, rfl⟩)
    go_ret
    refine ⟨?_, rfl⟩
    rw [← HC.out]
    unfold cmpS
    rw [HX.out]
    first
      | rfl
      | (rw [if_neg (by simp), if_pos (of_decide_eq_true HY.out)]; rfl)
      | (rw [if_neg (by simp), if_neg (of_decide_eq_false HY.out)]; rfl)
end Go.Proofs.YtcnffgcegimelaaGreat.So
end
section
/-
  The sort of facts: what the library's sort leaves in memory. Conditions: the facts' cells lie as told.
-/
namespace Go.Proofs.YtcnffgcegimelaaGreat.So
open Go.RowKit Go.Proofs.YtcnffgcegimelaaGreat.Mp Go.Proofs.YtcnffgcegimelaaGreat.Wd Go.Proofs.YtcnffgcegimelaaGreat.Pm Go.Proofs.YtcnffgcegimelaaGreat.Pw
open Go.Sort (HoldsK putRowK flatK size_flatK get_flatK holdsK_grow holdsK_ahead holdsK_putRowK cell?_putRowK_other)

/-- A fact's cells. -/
def encT (t : Tri) : List Value := [.string t.S, .string t.P, .string t.O]
theorem encT_len (t : Tri) : (encT t).length = 3 := rfl
theorem encT_one (t : Tri) : ∀ u ∈ encT t, u.oneCell' = true := by
  intro u hu
  simp only [encT, List.mem_cons, List.not_mem_nil, or_false] at hu
  rcases hu with rfl | rfl | rfl <;> rfl
theorem cmpT_or (a b : Tri) : orL [cmpS a.S b.S, cmpS a.P b.P, cmpS a.O b.O] = cmpT a b := by
  unfold cmpT
  simp only [orL]
  split
  · split
    · split <;> simp_all
    · rfl
  · rfl
theorem boxesT (W : World) (x0 x1 x2 y0 y1 y2 : Value) (W1 : World) (hW : (W.alloc (.cells #[x0, x1, x2] 35)).alloc (.cells #[y0, y1, y2] 35) = W1) :
    W1.drew.cell? ⟨W.heap.size, 0, none⟩ = some x0 ∧ W1.drew.cell? ⟨W.heap.size, 1, none⟩ = some x1 ∧ W1.drew.cell? ⟨W.heap.size, 2, none⟩ = some x2 ∧
    W1.drew.cell? ⟨W.heap.size + 1, 0, none⟩ = some y0 ∧ W1.drew.cell? ⟨W.heap.size + 1, 1, none⟩ = some y1 ∧ W1.drew.cell? ⟨W.heap.size + 1, 2, none⟩ = some y2 ∧ W1.heap.size = W.heap.size + 1 + 1 := by
  subst hW
  have e : ∀ i, ((W.alloc (.cells #[x0, x1, x2] 35)).alloc (.cells #[y0, y1, y2] 35)).cell? ⟨W.heap.size + 1, i, none⟩ = #[y0, y1, y2][i]? := fun i => by
    have := cell_new1 (W.alloc (.cells #[x0, x1, x2] 35)) #[y0, y1, y2] 35 i
    rw [size_alloc] at this
    exact this
  have f : ∀ i, ((W.alloc (.cells #[x0, x1, x2] 35)).alloc (.cells #[y0, y1, y2] 35)).cell? ⟨W.heap.size, i, none⟩ = #[x0, x1, x2][i]? := fun i =>
    (cell_alloc1 (W.alloc (.cells #[x0, x1, x2] 35)) W.heap.size (by rw [size_alloc]; omega) i _).trans (cell_new1 W _ _ i)
  refine ⟨f 0, f 1, f 2, e 0, e 1, e 2, ?_⟩
  rw [size_alloc, size_alloc]
set_option maxHeartbeats 1000000 in
set_option maxRecDepth 100000 in
theorem cmpT_calls (W : World) (x y : Tri) :
    Calls Tryz.prog 55 #[.agg #[.string x.S, .string x.P, .string x.O], .agg #[.string y.S, .string y.P, .string y.O]] W fun e w' =>
      e = .returned (.int .i64 (cmpT x y)) ∧ ∃ o1 o2 o3, w' = (((W.alloc o1).alloc o2).alloc o3).drew := by
  have CC := fun (a b : ByteArray) (w : World) => cmp_string a b w
  rw [← cmpT_or]
  obtain ⟨xs, xp, xo⟩ := x
  obtain ⟨ys, yp, yo⟩ := y
  go_enter Tryz.func55, Tryz.ntmps55
  go_wp2
  generalize hW1 : (W.alloc (.cells #[.string xs, .string xp, .string xo] 35)).alloc (.cells #[.string ys, .string yp, .string yo] 35) = W1
  obtain ⟨a0, a1, a2, b0, b1, b2, hs⟩ := boxesT W _ _ _ _ _ _ W1 hW1
  have H1 := Lib.hid hW1
  clear hW1
  refine wp_region_still_tail 15 mixed (by kernel_rfl) ?_
  change wpStill _ _ W1.drew _ _ _
  simp only [List.take_succ_cons, List.take_zero, List.drop_succ_cons, List.drop_zero]
  generalize hW2 : W1.drew = W2 at *
  have H2 := Lib.hid hW2
  clear hW2
  repeat (first | still_call (CC _ _ _) | still_step)
  refine wpStill_nil ?_
  go_wp2_with (go_at_call 56; refine (or3 W1 _ _ hs _ _ _).mono ?_; rintro e w' ⟨rfl, rfl⟩)
  go_ret
  exact ⟨rfl, _, _, _, by rw [← H1.out]⟩
end Go.Proofs.YtcnffgcegimelaaGreat.So
end
section
/-
  store.sorted walked. Conditions: the facts lie in a row of the call's own.
-/
namespace Go.Proofs.YtcnffgcegimelaaGreat.So
open Go.RowKit Go.Proofs.YtcnffgcegimelaaGreat.Mp Go.Proofs.YtcnffgcegimelaaGreat.Wd Go.Proofs.YtcnffgcegimelaaGreat.Pm Go.Proofs.YtcnffgcegimelaaGreat.Pw
open Go.Sort (HoldsK putRowK flatK size_flatK get_flatK holdsK_grow holdsK_ahead holdsK_putRowK cell?_putRowK_other)

/-- Facts in memory, that may be written. -/
def FactsIn (w : World) (b off : Nat) (l : List Tri) : Prop := ∀ k i, k < l.length → i < 3 → w.cell? ⟨b, off + k * 3 + i, none⟩ = some ((encT (l.getD k default))[i]!) ∧ w.frozen? ⟨b, off + k * 3 + i, none⟩ = false
theorem get_listT (l : List Tri) (k : Nat) (hk : k < l.length) : l.toArray[k]! = l.getD k default := by
  rw [getElem!_pos _ k (by simpa using hk), List.getD_eq_getElem?_getD, List.getElem?_eq_getElem hk]
  simp
theorem facts_holds {w : World} {b off : Nat} {l : List Tri} (h : FactsIn w b off l) : HoldsK encT 3 w b off l.toArray := by
  intro j hj
  rw [size_flatK] at hj
  rw [get_flatK encT 3 l.toArray j hj]
  have hs : l.toArray.size = l.length := by simp
  have hk : j / 3 < l.length := by omega
  have hm : j % 3 < 3 := Nat.mod_lt _ (by omega)
  rw [get_listT l _ hk, show off + j = off + j / 3 * 3 + j % 3 by omega]
  exact h _ _ hk hm
theorem holds_facts {w : World} {b off : Nat} {l : List Tri} (h : HoldsK encT 3 w b off l.toArray) : FactsIn w b off l := by
  intro k i hk hi
  have hs : l.toArray.size = l.length := by simp
  have := h.cell (i := k) (c := i) (by omega) hi
  rwa [get_listT l k hk] at this
theorem facts_of_own {w : World} {base g n cap : Nat} {l : List Tri} (h : G.OwnL w base 35 3 encT (.slice (some ⟨g, 0, none⟩) n cap) l) : FactsIn w g 0 l := by
  intro k i hk hi
  obtain ⟨_, ⟨h1, _⟩ | ⟨g', cap', cur, h1, _, h2, _⟩⟩ := id h
  · cases h1
  · injection h1 with h1
    injection h1 with h1
    injection h1 with h1
    subst h1
    obtain ⟨b, off, c, hv, hb, hcl⟩ := h.sl.at_ (k := 3) encT_len k (l.getD k default) (by rw [List.getD_eq_getElem?_getD, List.getElem?_eq_getElem hk]; rfl)
    injection hv with hv
    injection hv with hv
    injection hv with e1 e2
    subst e1 e2
    refine ⟨hcl i _ ?_, heap_free h2 _⟩
    rw [getElem!_pos _ i (by rw [encT_len]; exact hi)]
    exact List.getElem?_eq_getElem _
theorem sl_of_facts {w : World} {g cap : Nat} {l : List Tri} (h : FactsIn w g 0 l) (hg : g < w.heap.size) (hc : l.length ≤ cap) : G.SlL w encT (.slice (some ⟨g, 0, none⟩) l.length cap) l := by
  refine ⟨_, _, rfl, hc, (fun e => by cases e), fun _ => ⟨g, 0, rfl, hg, fun j u hu => ?_⟩⟩
  have hj := (List.getElem?_eq_some_iff.1 hu).1
  rw [G.flat_length 3 encT encT_len] at hj
  have hk : j / 3 < l.length := by omega
  have h1 := (h (j / 3) (j % 3) hk (Nat.mod_lt _ (by omega))).1
  have h2 := G.flat_getElem 3 encT encT_len l (j / 3) (j % 3) (l.getD (j / 3) default) (by rw [List.getD_eq_getElem?_getD, List.getElem?_eq_getElem hk]; rfl) (Nat.mod_lt _ (by omega))
  rw [show j / 3 * 3 + j % 3 = j by omega, hu] at h2
  rw [show 0 + j = 0 + j / 3 * 3 + j % 3 by omega, h1, getElem!_pos _ (j % 3) (by rw [encT_len]; exact Nat.mod_lt _ (by omega))]
  rw [List.getElem?_eq_getElem (by rw [encT_len]; exact Nat.mod_lt _ (by omega))] at h2
  exact h2.symm
/-- Facts, sorted. -/
def srtT (l : List Tri) : List Tri := l.mergeSort fun x y => !(ltOf cmpT) y x
theorem srtT_perm (l : List Tri) : (srtT l).Perm l := List.mergeSort_perm _ _
theorem srtT_length (l : List Tri) : (srtT l).length = l.length := (srtT_perm l).length_eq
theorem ltOf_T (x y : Tri) : ltOf cmpT x y = ltT x y := cmpT_neg x y
theorem ltT_ntr (x y z : Tri) (h1 : ltT x y = false) (h2 : ltT y z = false) : ltT x z = false := by
  cases h : ltT x z with
  | false => rfl
  | true =>
    by_cases e : x = y
    · rw [e, h2] at h; cases h
    · rcases ltT_swh.tot x y e with k | k
      · rw [h1] at k; cases k
      · have := ltT_swh.tr _ _ _ k h
        rw [h2] at this; cases this
theorem srtT_rises {l : List Tri} (hn : l.Nodup) : Rises ltT (srtT l) := by
  have h := List.pairwise_mergeSort (le := fun x y => !(ltOf cmpT) y x)
    (fun a b c h1 h2 => by
      simp only [ltOf_T, Bool.not_eq_true'] at *
      exact ltT_ntr _ _ _ h2 h1)
    (fun a b => by
      simp only [ltOf_T, Bool.or_eq_true, Bool.not_eq_true']
      by_cases e : a = b
      · rw [e]; exact Or.inl (ltT_swh.irr b)
      · rcases ltT_swh.tot a b e with k | k
        · refine Or.inl ?_
          cases h : ltT b a with
          | false => rfl
          | true => have := ltT_swh.tr _ _ _ k h; rw [ltT_swh.irr] at this; cases this
        · refine Or.inr ?_
          cases h : ltT a b with
          | false => rfl
          | true => have := ltT_swh.tr _ _ _ k h; rw [ltT_swh.irr] at this; cases this) l
  have hn' : (srtT l).Nodup := (srtT_perm l).nodup_iff.2 hn
  refine (h.and hn').imp fun {a b} hab => ?_
  obtain ⟨h1, h2⟩ := hab
  simp only [ltOf_T, Bool.not_eq_true'] at h1
  rcases ltT_swh.tot a b h2 with k | k
  · exact k
  · rw [h1] at k; cases k
theorem swoT : Sort.SWO (ltOf cmpT) where
  irrefl x := by rw [ltOf_T]; exact ltT_swh.irr x
  trans x y z h1 h2 := by
    rw [ltOf_T] at *
    exact ltT_swh.tr _ _ _ h1 h2
  ntrans x y z h1 h2 := by
    rw [ltOf_T] at *
    exact ltT_ntr _ _ _ h1 h2
theorem totT (x y : Tri) (h1 : ltOf cmpT x y = false) (h2 : ltOf cmpT y x = false) : x = y := by
  rw [ltOf_T] at *
  by_cases e : x = y
  · exact e
  · rcases ltT_swh.tot x y e with k | k
    · rw [h1] at k; cases k
    · rw [h2] at k; cases k
theorem sortWorldT (w : World) (blk off : Nat) (l l' : List Tri) (hH : FactsIn w blk off l) (hl : l'.length = l.length) (hblk : blk < w.heap.size) (n : Nat) (os : Array Obj) :
    FactsIn (sortWorldK encT 3 w blk off n l'.toArray os) blk off l' ∧ w.grownBy (sortWorldK encT 3 w blk off n l'.toArray os) (some blk) := by
  have hs : (putRowK encT 3 (Sort.ahead w n) blk off l'.toArray).heap.size = w.heap.size := by
    unfold putRowK
    rw [Sort.size_putRow]
    rfl
  refine ⟨holds_facts ?_, ?_⟩
  · unfold sortWorldK
    refine holdsK_grow _ _ _ _ _ _ _ (by rw [hs]; exact hblk) ?_
    exact holdsK_putRowK _ _ _ _ _ l.toArray _ (holdsK_ahead _ _ _ _ _ _ _ (facts_holds hH)) (by simp [hl])
  · refine ⟨rfl, rfl, rfl, ?_, fun k hk hne => ?_⟩
    · unfold sortWorldK
      show w.heap.size ≤ ((putRowK encT 3 (Sort.ahead w n) blk off l'.toArray).heap ++ os).size
      rw [Array.size_append, hs]
      omega
    · unfold sortWorldK
      rw [Sort.heap_grow_old _ _ (by rw [hs]; exact hk)]
      unfold putRowK Sort.putRow Sort.mapBlock
      show ((Sort.ahead w n).heap.modify blk _)[k]? = _
      rw [Array.getElem?_modify, if_neg (fun e => hne (by rw [e]))]
      rfl
theorem cmpLaysT (blk off size : Nat) (w : World) : CmpLays Tryz.prog 55 #[] encT 3 cmpT blk off size w := by
  intro m os dk _ x y
  refine (cmpT_calls (sortWorldK encT 3 w blk off m dk os) x y).mono fun e w' ⟨he, o1, o2, o3, hw⟩ => ⟨he, 1, #[o1, o2, o3], ?_⟩
  rw [hw, Sort.alloc_eq_grow, Sort.alloc_eq_grow, Sort.alloc_eq_grow, Sort.grow_grow, Sort.grow_grow]
  rfl
theorem isAggT : ∀ w, (isAgg 35).run Tryz.prog w = .ok true w := Tryz.isAgg35
theorem sizeOfT : ∀ w, (Go.sizeOf 35).run Tryz.prog w = .ok 3 w := Tryz.sizeOf35
theorem sort_calls (w : World) (blk off cap : Nat) (l : List Tri) (hH : FactsIn w blk off l) (hblk : blk < w.heap.size) (hl : l.length < 4611686018427387904) :
    Calls Tryz.prog 54 #[.slice (some ⟨blk, off, none⟩) l.length cap, .func (.func 55) #[] #[]] w fun e w' => e = .returned (.tuple #[]) ∧ FactsIn w' blk off (srtT l) ∧ w.grownBy w' (some blk) := by
  have e32 : ∀ args w, (callFunc 55 args).run Tryz.prog w = .ok (.enter 55 args) w := enters_of Tryz.func55 (by kernel_rfl) rfl
  have h := AnyQ.slices_SortFunc_total laysTri 3 isAggT sizeOfT encT (fun _ => rfl) encT_one cmpT swoT 55 #[] blk off cap l.toArray w e32
    (cmpLaysT blk off _ w) (facts_holds hH) hblk (by simpa using hl) totT
  have hs : l.toArray.size = l.length := by simp
  rw [hs] at h
  refine Calls.mono h fun e w' ⟨he, n, os, hw⟩ => ⟨he, ?_⟩
  rw [hw]
  exact sortWorldT w blk off l (srtT l) hH (srtT_length l) hblk n os
/-- Facts that came out: a slice, and a block of their own. -/
def Out3 (w0 : Nat) (w : World) (v : Value) (D : List Tri) : Prop := G.SlL w encT v D ∧ (v = .slice none 0 0 ∨ ∃ g cap, v = .slice (some ⟨g, 0, none⟩) D.length cap ∧ w0 ≤ g ∧ g < w.heap.size)
set_option maxRecDepth 100000 in
set_option maxHeartbeats 1000000 in
/-- sorted. -/
theorem sorted_ok {w : World} {base : Nat} {v : Value} {l : List Tri} (h : G.OwnL w base 35 3 encT v l) (hl : l.length ≤ 1000000) :
    Calls Tryz.prog 35 #[v] w fun e w' => e = .returned v ∧ Out3 base w' v (srtT l) ∧ w.grownBy w' v.ownBlock := by
  obtain ⟨hh, ⟨rfl, hn⟩ | ⟨g, cap, cur, rfl, hg, hb, hc, _⟩⟩ := id h
  · have h0 : l = [] := List.eq_nil_of_length_eq_zero hn
    subst h0
    have C := fun W => AnyF.slices_SortFunc_none laysTri none 0 (.func (.func 55) #[] #[]) W
    have HC := Lib.hid C
    clear C h hh hn hl
    go_enter Tryz.func35, Tryz.ntmps35
    go_wp2_with (go_at_call 54; refine (HC.out _).mono ?_; rintro e w' ⟨rfl, hw⟩; subst hw)
    go_ret
    have e0 : srtT [] = [] := List.eq_nil_of_length_eq_zero (srtT_length [])
    exact ⟨rfl, ⟨by rw [e0]; exact G.SlL.nil _ _, Or.inl rfl⟩, World.grownBy.refl _ _⟩
  · have hgs := (Array.getElem?_eq_some_iff.1 hb).1
    have C := sort_calls w g 0 cap l (facts_of_own h) hgs (by omega)
    obtain ⟨n, hn⟩ : ∃ n, l.length = n := ⟨_, rfl⟩
    rw [hn] at C hc
    have HN := Lib.hid hn
    have HG := Lib.hid (And.intro hg (And.intro hgs hc))
    have HV : (Value.slice (some ⟨g, 0, none⟩) l.length cap) = .slice (some ⟨g, 0, none⟩) n cap := by rw [hn]
    rw [HV]
    have HC := Lib.hid C
    clear C h hh hn hl hb hg hgs hc HV
    go_enter Tryz.func35, Tryz.ntmps35
    go_wp2_with (go_at_call 54; refine HC.out.mono ?_; rintro e w1 ⟨rfl, hf, hgr⟩; have HF := Lib.hid (And.intro hf hgr); clear hf hgr)
    go_ret
    have hlen : (srtT l).length = n := (srtT_length l).trans HN.out
    have hg1 := Nat.lt_of_lt_of_le HG.out.2.1 HF.out.2.size
    have hs := sl_of_facts (cap := cap) HF.out.1 hg1 (by rw [hlen]; exact HG.out.2.2)
    rw [hlen] at hs
    exact ⟨rfl, ⟨hs, Or.inr ⟨g, cap, by rw [hlen], HG.out.1, hg1⟩⟩, HF.out.2⟩
end Go.Proofs.YtcnffgcegimelaaGreat.So
end
