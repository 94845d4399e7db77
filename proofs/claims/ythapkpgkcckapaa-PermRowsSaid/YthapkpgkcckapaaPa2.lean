/-
  The sort of rows by an order: what the library's sort leaves in memory. Conditions: the rows' cells lie as told; the order's block lies apart.
-/
import Derived.Test.YthapkpgkcckapaaPa1
import Derived.Shelf.SlSortCmp.NoneTotal
namespace Go.Proofs.Ythapkpgkcckapaa.Pw
open Go.RowKit Go.Proofs.YthapkpgkcckapaaW.PrintWords Go.Proofs.Ythapkpgkcckapaa.Pm
open Go.Sort (HoldsK putRowK flatK size_flatK get_flatK holdsK_grow holdsK_ahead holdsK_putRowK cell?_putRowK_other)

/-- Rows in memory, that may be written. -/
def RowsIn (w : World) (b off : Nat) (l : List R3) : Prop := ∀ k i, k < l.length → i < 3 → w.cell? ⟨b, off + k * 3 + i, none⟩ = some (.int .i64 ((l.getD k r0).at i)) ∧ w.frozen? ⟨b, off + k * 3 + i, none⟩ = false

instance : Inhabited R3 := ⟨r0⟩

theorem compareInt_lt (x y : Int) : Lib.compareInt x y < 0 ↔ x < y := by unfold Lib.compareInt; repeat' split <;> omega
theorem compareInt_zero (x y : Int) : Lib.compareInt x y = 0 ↔ x = y := by unfold Lib.compareInt; repeat' split <;> omega

/-- A row ahead of another one. -/
def ltR (o : Ord) (x y : R3) : Prop := x.at o.x < y.at o.x ∨ (x.at o.x = y.at o.x ∧ (x.at o.y < y.at o.y ∨ (x.at o.y = y.at o.y ∧ x.at o.z < y.at o.z)))
instance (o : Ord) (x y : R3) : Decidable (ltR o x y) := by unfold ltR; infer_instance
theorem ltOf_ltR (o : Ord) (x y : R3) : ltOf (cmpR o) x y = decide (ltR o x y) := by
  unfold ltOf
  refine decide_eq_decide.2 ?_
  unfold cmpR ltR
  have h1 := compareInt_zero (x.at o.x) (y.at o.x)
  have h2 := compareInt_zero (x.at o.y) (y.at o.y)
  have l1 := compareInt_lt (x.at o.x) (y.at o.x)
  have l2 := compareInt_lt (x.at o.y) (y.at o.y)
  have l3 := compareInt_lt (x.at o.z) (y.at o.z)
  simp only [orL]
  repeat' split
  all_goals omega

theorem swoR (o : Ord) : Sort.SWO (ltOf (cmpR o)) where
  irrefl x := by rw [ltOf_ltR]; exact decide_eq_false (by unfold ltR; omega)
  trans x y z h1 h2 := by
    rw [ltOf_ltR] at *
    have h1 := of_decide_eq_true h1
    have h2 := of_decide_eq_true h2
    unfold ltR at h1 h2
    exact decide_eq_true (by unfold ltR; omega)
  ntrans x y z h1 h2 := by
    rw [ltOf_ltR] at *
    have h1 := of_decide_eq_false h1
    have h2 := of_decide_eq_false h2
    unfold ltR at h1 h2
    exact decide_eq_false (by unfold ltR; omega)

theorem at_six (o : Ord) (ho : Six o) (x y : R3) (h : x.at o.x = y.at o.x ∧ x.at o.y = y.at o.y ∧ x.at o.z = y.at o.z) : x = y := by
  obtain ⟨xa, xb, xc⟩ := x
  obtain ⟨ya, yb, yc⟩ := y
  obtain ⟨h1, h2, h3⟩ := h
  rcases ho with ⟨e1, e2, e3⟩ | ⟨e1, e2, e3⟩ | ⟨e1, e2, e3⟩ | ⟨e1, e2, e3⟩ | ⟨e1, e2, e3⟩ | ⟨e1, e2, e3⟩ <;>
    (rw [e1] at h1; rw [e2] at h2; rw [e3] at h3; simp [R3.at] at h1 h2 h3; simp [h1, h2, h3])

theorem totR (o : Ord) (ho : Six o) (x y : R3) (h1 : ltOf (cmpR o) x y = false) (h2 : ltOf (cmpR o) y x = false) : x = y := by
  rw [ltOf_ltR] at *
  have h1 := of_decide_eq_false h1
  have h2 := of_decide_eq_false h2
  unfold ltR at h1 h2
  exact at_six o ho x y (by omega)

/-- Sorted by an order. -/
def srt (o : Ord) (l : List R3) : List R3 := l.mergeSort fun x y => !(ltOf (cmpR o)) y x
theorem srt_perm (o : Ord) (l : List R3) : (srt o l).Perm l := List.mergeSort_perm _ _
theorem srt_length (o : Ord) (l : List R3) : (srt o l).length = l.length := (srt_perm o l).length_eq

theorem enc3_get (r : R3) (i : Nat) (hi : i < 3) : (enc3 r)[i]! = .int .i64 (r.at i) := by
  match i, hi with
  | 0, _ => rfl
  | 1, _ => rfl
  | 2, _ => rfl
theorem get_list (l : List R3) (k : Nat) (hk : k < l.length) : l.toArray[k]! = l.getD k r0 := by
  rw [getElem!_pos _ k (by simpa using hk), List.getD_eq_getElem?_getD, List.getElem?_eq_getElem hk]
  simp

theorem rows_holds {w : World} {b off : Nat} {l : List R3} (h : RowsIn w b off l) : HoldsK enc3 3 w b off l.toArray := by
  intro j hj
  rw [size_flatK] at hj
  rw [get_flatK enc3 3 l.toArray j hj]
  have hs : l.toArray.size = l.length := by simp
  have hk : j / 3 < l.length := by omega
  have hm : j % 3 < 3 := Nat.mod_lt _ (by omega)
  rw [get_list l _ hk, enc3_get _ _ hm, show off + j = off + j / 3 * 3 + j % 3 by omega]
  exact h _ _ hk hm
theorem holds_rows {w : World} {b off : Nat} {l : List R3} (h : HoldsK enc3 3 w b off l.toArray) : RowsIn w b off l := by
  intro k i hk hi
  have hs : l.toArray.size = l.length := by simp
  have := h.cell (i := k) (c := i) (by omega) hi
  rwa [get_list l k hk, enc3_get _ _ hi] at this

/-- What the sort leaves: the row put anew, some draws, new blocks. -/
theorem sortWorld_facts (w : World) (blk off : Nat) (l l' : List R3) (hH : RowsIn w blk off l) (hl : l'.length = l.length) (hblk : blk < w.heap.size) (n : Nat) (os : Array Obj) :
    RowsIn (sortWorldK enc3 3 w blk off n l'.toArray os) blk off l' ∧ w.grownBy (sortWorldK enc3 3 w blk off n l'.toArray os) (some blk) := by
  have hs : (putRowK enc3 3 (Sort.ahead w n) blk off l'.toArray).heap.size = w.heap.size := by
    unfold putRowK
    rw [Sort.size_putRow]
    rfl
  refine ⟨holds_rows ?_, ?_⟩
  · unfold sortWorldK
    refine holdsK_grow _ _ _ _ _ _ _ (by rw [hs]; exact hblk) ?_
    exact holdsK_putRowK _ _ _ _ _ l.toArray _ (holdsK_ahead _ _ _ _ _ _ _ (rows_holds hH)) (by simp [hl])
  · refine ⟨rfl, rfl, rfl, ?_, fun k hk hne => ?_⟩
    · unfold sortWorldK
      show w.heap.size ≤ ((putRowK enc3 3 (Sort.ahead w n) blk off l'.toArray).heap ++ os).size
      rw [Array.size_append, hs]
      omega
    · unfold sortWorldK
      rw [Sort.heap_grow_old _ _ (by rw [hs]; exact hk)]
      unfold putRowK Sort.putRow Sort.mapBlock
      show ((Sort.ahead w n).heap.modify blk _)[k]? = _
      rw [Array.getElem?_modify, if_neg (fun e => hne (by rw [e]))]
      rfl

theorem cmpLays (ob blk off size : Nat) (o : Ord) (ho : Six o) (w : World) (h0 : w.cell? ⟨ob, 0, none⟩ = some (.int .i64 o.x)) (h1 : w.cell? ⟨ob, 1, none⟩ = some (.int .i64 o.y)) (h2 : w.cell? ⟨ob, 2, none⟩ = some (.int .i64 o.z)) (hob : ob < w.heap.size) (hne : ob ≠ blk) :
    CmpLays Try.prog 32 #[.pointer (some ⟨ob, 0, none⟩)] enc3 3 (cmpR o) blk off size w := by
  intro m os dk _ x y
  have hc : ∀ i, (sortWorldK enc3 3 w blk off m dk os).cell? ⟨ob, i, none⟩ = w.cell? ⟨ob, i, none⟩ := fun i => by
    unfold sortWorldK
    rw [Sort.cell?_grow _ _ _ (by unfold putRowK; rw [Sort.size_putRow]; exact hob), cell?_putRowK_other _ _ _ _ _ _ _ hne]
    rfl
  have hsz : ob < (sortWorldK enc3 3 w blk off m dk os).heap.size := by
    unfold sortWorldK
    show ob < ((putRowK enc3 3 (Sort.ahead w m) blk off dk).heap ++ os).size
    rw [Array.size_append]
    have : (putRowK enc3 3 (Sort.ahead w m) blk off dk).heap.size = w.heap.size := by unfold putRowK; rw [Sort.size_putRow]; rfl
    omega
  refine (cmp_calls (sortWorldK enc3 3 w blk off m dk os) ob o ho x y ((hc 0).trans h0) ((hc 1).trans h1) ((hc 2).trans h2) hsz).mono fun e w' ⟨he, o1, o2, o3, hw⟩ => ⟨he, 1, #[o1, o2, o3], ?_⟩
  rw [hw, Sort.alloc_eq_grow, Sort.alloc_eq_grow, Sort.alloc_eq_grow, Sort.grow_grow, Sort.grow_grow]
  rfl

theorem isAgg23 : ∀ w, (isAgg 23).run Try.prog w = .ok true w := Try.isAgg23
theorem sizeOf23 : ∀ w, (Go.sizeOf 23).run Try.prog w = .ok 3 w := Try.sizeOf23

/-- **The sort of rows.** -/
theorem sort_calls (w : World) (blk off cap ob : Nat) (l : List R3) (o : Ord) (ho : Six o) (hH : RowsIn w blk off l) (hblk : blk < w.heap.size) (hl : l.length < 4611686018427387904)
    (h0 : w.cell? ⟨ob, 0, none⟩ = some (.int .i64 o.x)) (h1 : w.cell? ⟨ob, 1, none⟩ = some (.int .i64 o.y)) (h2 : w.cell? ⟨ob, 2, none⟩ = some (.int .i64 o.z)) (hob : ob < w.heap.size) (hne : ob ≠ blk) :
    Calls Try.prog 31 #[.slice (some ⟨blk, off, none⟩) l.length cap, .func (.func 32) #[] #[.pointer (some ⟨ob, 0, none⟩)]] w fun e w' => e = .returned (.tuple #[]) ∧ RowsIn w' blk off (srt o l) ∧ w.grownBy w' (some blk) := by
  have e32 : ∀ args w, (callFunc 32 args).run Try.prog w = .ok (.enter 32 args) w := enters_of Try.func32 (by kernel_rfl) rfl
  have h := AnyQ.slices_SortFunc_total Try.laysSlF06_f31 3 isAgg23 sizeOf23 enc3 (fun _ => rfl) (fun x v hv => by simp [enc3] at hv; rcases hv with rfl | rfl | rfl <;> rfl) (cmpR o) (swoR o) 32 #[.pointer (some ⟨ob, 0, none⟩)] blk off cap l.toArray w e32
    (cmpLays ob blk off _ o ho w h0 h1 h2 hob hne) (rows_holds hH) hblk (by simpa using hl) (totR o ho)
  have hs : l.toArray.size = l.length := by simp
  rw [hs] at h
  refine Calls.mono h fun e w' ⟨he, n, os, hw⟩ => ⟨he, ?_⟩
  rw [hw]
  exact sortWorld_facts w blk off l (srt o l) hH (srt_length o l) hblk n os
end Go.Proofs.Ythapkpgkcckapaa.Pw
