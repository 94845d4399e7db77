/-
  The making of an index: what the copy of rows, the sort of an order and the making leave in memory. Conditions: the rows' cells lie as told.
-/
import Derived.Test.YthapkpgkcckapaaPa4

namespace Go.Proofs.Ythapkpgkcckapaa.Pw
open Go.RowKit Go.Proofs.YthapkpgkcckapaaW.PrintWords Go.Proofs.Ythapkpgkcckapaa.Pm
open Go.Sort (flatK size_flatK get_flatK)

/-- Rows that read as told. -/
def RowsAt (w : World) (b off : Nat) (l : List R3) : Prop := ∀ k i, k < l.length → i < 3 → w.cell? ⟨b, off + k * 3 + i, none⟩ = some (.int .i64 ((l.getD k r0).at i))
theorem RowsIn.at {w : World} {b off : Nat} {l : List R3} (h : RowsIn w b off l) : RowsAt w b off l := fun k i hk hi => (h k i hk hi).1

theorem info23 : (Try.prog.info? 23).map (fun i => (i.zero, i.size, i.bytes)) = some (some (.agg #[.int .i64 0, .int .i64 0, .int .i64 0]), 3, 24) := by kernel_rfl

theorem clone_calls (w : World) (b off n c : Nat) (l : List R3) (hn : l.length = n) (h : RowsAt w b off l) (hs : n * 24 ≤ 140737488355328) :
    Calls Try.prog 30 #[.slice (some ⟨b, off, none⟩) n c] w fun e w' => ∃ g c', e = .returned (.slice (some ⟨g, 0, none⟩) n c') ∧ w.heap.size ≤ g ∧ g < w'.heap.size ∧ n ≤ c' ∧ RowsIn w' g 0 l ∧ Below w.heap.size w w' := by
  subst hn
  have hsz : (flatK enc3 3 l.toArray).size = l.length * 3 := by rw [size_flatK]; simp
  have hget : ∀ j, j < l.length * 3 → (flatK enc3 3 l.toArray).toList[j]? = some (.int .i64 ((l.getD (j / 3) r0).at (j % 3))) := fun j hj => by
    have := get_flatK enc3 3 l.toArray j (by simpa using hj)
    rw [get_list l _ (by omega), enc3_get _ _ (Nat.mod_lt _ (by omega))] at this
    rw [List.getElem?_eq_getElem (by simpa [hsz] using hj), ← this, getElem!_pos _ j (by omega)]
    simp
  obtain ⟨i0, hi0, hi1⟩ := Option.map_eq_some_iff.1 info23
  simp only [Prod.mk.injEq] at hi1
  obtain ⟨hz0, hz1, hz2⟩ := hi1
  refine (Try.slices_Clone i0 (.agg #[.int .i64 0, .int .i64 0, .int .i64 0]) 3 24 hi0 hz0 hz1 hz2 rfl (by omega) Try.sizeOf23 b off l.length c (flatK enc3 3 l.toArray).toList w (by simp) (by unfold maxLen; omega) hs (fun j u hu => ?_) (fun u hu => ?_)).mono ?_
  · have hj : j < l.length * 3 := by
      have := (List.getElem?_eq_some_iff.1 hu).1
      simpa [hsz] using this
    rw [hget j hj] at hu
    have := h (j / 3) (j % 3) (by omega) (Nat.mod_lt _ (by omega))
    rw [show off + j / 3 * 3 + j % 3 = off + j by omega, hu] at this
    exact this
  · obtain ⟨j, hj, rfl⟩ := List.getElem_of_mem hu
    have := hget j (by simpa [hsz] using hj)
    rw [List.getElem?_eq_getElem hj] at this
    rw [Option.some.inj this]
    rfl
  · rintro e w' ⟨v', rfl, ho, hnil, hb⟩
    obtain ⟨_, ⟨rfl, _⟩ | ⟨g, cap, cur, rfl, hg, hblk, hcap, _, hcs, htk⟩⟩ := ho
    · exact absurd rfl hnil
    · have hgs : g < w'.heap.size := (Array.getElem?_eq_some_iff.1 hblk).1
      refine ⟨g, cap, rfl, hg, hgs, hcap, fun k i hk hi => ⟨?_, ?_⟩, hb⟩
      · have := hget (k * 3 + i) (by omega)
        rw [← htk, List.getElem?_take, if_pos (by omega), show (k * 3 + i) / 3 = k by omega, show (k * 3 + i) % 3 = i by omega] at this
        simp only [World.cell?, hblk, Nat.zero_add]
        simpa using this
      · simp [World.frozen?, hblk]

/-- Three numbers, sorted. -/
def s3 (a b c : Int) : List Int := [a, b, c].mergeSort fun x y => decide (x ≤ y)
theorem s3_perm (a b c : Int) : (s3 a b c).Perm [a, b, c] := List.mergeSort_perm _ _
theorem s3_ex (a b c : Int) : ∃ x y z, s3 a b c = [x, y, z] := by
  have h := (s3_perm a b c).length_eq
  match hs : s3 a b c, h with
  | [x, y, z], _ => exact ⟨x, y, z, rfl⟩

theorem sort3_calls (w : World) (g : Nat) (a b c x y z : Int) (hs : s3 a b c = [x, y, z]) (hg : g < w.heap.size) (h0 : w.cell? ⟨g, 0, none⟩ = some (.int .i64 a)) (h1 : w.cell? ⟨g, 1, none⟩ = some (.int .i64 b)) (h2 : w.cell? ⟨g, 2, none⟩ = some (.int .i64 c))
    (f : ∀ i, w.frozen? ⟨g, i, none⟩ = false) :
    Calls Try.prog 29 #[.slice (some ⟨g, 0, none⟩) 3 3] w fun e w' => e = .returned (.tuple #[]) ∧ w'.cell? ⟨g, 0, none⟩ = some (.int .i64 x) ∧ w'.cell? ⟨g, 1, none⟩ = some (.int .i64 y) ∧ w'.cell? ⟨g, 2, none⟩ = some (.int .i64 z) ∧ w.grownBy w' (some g) := by
  have hH : Sort.Holds (Value.int .i64) w g 0 [a, b, c].toArray := by
    intro j hj
    have hj : j < 3 := hj
    rw [Nat.zero_add]
    obtain rfl | rfl | rfl : j = 0 ∨ j = 1 ∨ j = 2 := by omega
    · exact ⟨h0, f _⟩
    · exact ⟨h1, f _⟩
    · exact ⟨h2, f _⟩
  refine (Try.slices_Sort_int g 0 3 [a, b, c] w hH hg (by simp)).mono ?_
  rintro e w' ⟨rfl, n, os, rfl⟩
  change _ ∧ _
  rw [show ([a, b, c].mergeSort fun x y => decide (x ≤ y)) = [x, y, z] from hs]
  have hc : ∀ j, j < 3 → (Sort.grow (Sort.putRow (Value.int .i64) (Sort.ahead w n) g 0 [x, y, z].toArray) os).cell? ⟨g, j, none⟩ = some (.int .i64 [x, y, z].toArray[j]!) := fun j hj => by
    rw [Sort.cell?_grow _ _ _ (by rw [Sort.size_putRow]; exact hg)]
    have := Sort.cell?_putRow (Value.int .i64) (Sort.ahead w n) g 0 [a, b, c].toArray [x, y, z].toArray hH rfl j hj
    rwa [Nat.zero_add] at this
  refine ⟨rfl, hc 0 (by omega), hc 1 (by omega), hc 2 (by omega), rfl, rfl, rfl, ?_, fun k hk hne => ?_⟩
  · show w.heap.size ≤ ((Sort.putRow (Value.int .i64) (Sort.ahead w n) g 0 _).heap ++ os).size
    rw [Array.size_append, Sort.size_putRow]
    show w.heap.size ≤ w.heap.size + _
    omega
  · rw [Sort.heap_grow_old _ _ (by rw [Sort.size_putRow]; exact hk)]
    unfold Sort.putRow Sort.mapBlock
    show ((Sort.ahead w n).heap.modify g _)[k]? = _
    rw [Array.getElem?_modify, if_neg (fun e => hne (by rw [e]))]
    rfl

instance (o : Ord) : Decidable (Six o) := by unfold Six; infer_instance

/-- An order out of three numbers. -/
def ordOf (a b c : Int) : Ord := ⟨a.toNat, b.toNat, c.toNat⟩
def isOrd (a b c : Int) : Bool := decide (s3 a b c = [0, 1, 2])
theorem isOrd_six {a b c : Int} (h : isOrd a b c = true) : Six (ordOf a b c) ∧ a = (ordOf a b c).x ∧ b = (ordOf a b c).y ∧ c = (ordOf a b c).z := by
  have hp : [a, b, c].Perm [0, 1, 2] := (s3_perm a b c).symm.trans (of_decide_eq_true h ▸ List.Perm.refl _)
  have ha : a ∈ [0, 1, 2] := hp.subset (by simp)
  have hb : b ∈ [0, 1, 2] := hp.subset (by simp)
  have hc : c ∈ [0, 1, 2] := hp.subset (by simp)
  have h0 : (0 : Int) ∈ [a, b, c] := hp.symm.subset (by simp)
  have h1 : (1 : Int) ∈ [a, b, c] := hp.symm.subset (by simp)
  have h2 : (2 : Int) ∈ [a, b, c] := hp.symm.subset (by simp)
  simp only [List.mem_cons, List.not_mem_nil, or_false] at ha hb hc h0 h1 h2
  unfold Six ordOf
  simp only
  omega
theorem s3_sorted (a b c x y z : Int) (h : s3 a b c = [x, y, z]) : x ≤ y ∧ y ≤ z := by
  have := List.pairwise_mergeSort (le := fun x y : Int => decide (x ≤ y)) (fun a b c h1 h2 => by have := of_decide_eq_true h1; have := of_decide_eq_true h2; exact decide_eq_true (by omega)) (fun a b => by simp; omega) [a, b, c]
  rw [show ([a, b, c].mergeSort fun x y => decide (x ≤ y)) = [x, y, z] from h] at this
  simp at this
  omega
theorem isOrd_of_six (o : Ord) (h : Six o) : isOrd o.x o.y o.z = true := by
  obtain ⟨p, q, r⟩ := o
  obtain ⟨x, y, z, e⟩ := s3_ex p q r
  have hs := s3_sorted _ _ _ _ _ _ e
  have hp := s3_perm p q r
  rw [e] at hp
  have ha : (p : Int) ∈ [x, y, z] := hp.symm.subset (by simp)
  have hb : (q : Int) ∈ [x, y, z] := hp.symm.subset (by simp)
  have hc : (r : Int) ∈ [x, y, z] := hp.symm.subset (by simp)
  have h0 : x ∈ [(p : Int), (q : Int), (r : Int)] := hp.subset (by simp)
  have h1 : y ∈ [(p : Int), (q : Int), (r : Int)] := hp.subset (by simp)
  have h2 : z ∈ [(p : Int), (q : Int), (r : Int)] := hp.subset (by simp)
  simp only [List.mem_cons, List.not_mem_nil, or_false] at ha hb hc h0 h1 h2
  unfold isOrd
  simp only [e]
  rcases h with ⟨rfl, rfl, rfl⟩ | ⟨rfl, rfl, rfl⟩ | ⟨rfl, rfl, rfl⟩ | ⟨rfl, rfl, rfl⟩ | ⟨rfl, rfl, rfl⟩ | ⟨rfl, rfl, rfl⟩ <;>
    (simp at ha hb hc h0 h1 h2 ⊢; omega)
end Go.Proofs.Ythapkpgkcckapaa.Pw
