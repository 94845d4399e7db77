/-
  The document's Same, at two slices of the same facts. Conditions: they lie as told, and are not too many.
-/
import Derived.Test.YtcnffgcegimelaaGreatSz0
namespace Go.Proofs.YtcnffgcegimelaaGreat.So
open Go.RowKit Go.Proofs.YtcnffgcegimelaaGreat.Mp Go.Proofs.YtcnffgcegimelaaGreat.Wd Go.Proofs.YtcnffgcegimelaaGreat.Pm Go.Proofs.YtcnffgcegimelaaGreat.Pw

/-- A fact in a slice. -/
def CellsT (w : World) (A : Option Addr) (l : List Tri) : Prop := ∀ i t, l[i]? = some t → ∃ s off, A = some ⟨s, off, none⟩ ∧ s < w.heap.size ∧ ∀ j u, (encT t)[j]? = some u → w.cell? ⟨s, off + i * 3 + j, none⟩ = some u
theorem cellsT_of {w : World} {A : Option Addr} {n cp : Nat} {l : List Tri} (h : G.SlL w encT (.slice A n cp) l) : CellsT w A l := by
  obtain ⟨A', c', hv, _, _, hr⟩ := h
  injection hv with h1 h2 h3
  subst h1
  intro i t ht
  obtain ⟨b, off, rfl, hb, hcl⟩ := hr (fun e => by rw [e] at ht; simp at ht)
  refine ⟨b, off, rfl, hb, fun j u hu => ?_⟩
  have hj : j < 3 := (List.getElem?_eq_some_iff.1 hu).1
  have := hcl (i * 3 + j) u ((G.flat_getElem 3 encT encT_len l i j t ht hj).trans hu)
  rwa [show off + (i * 3 + j) = off + i * 3 + j by omega] at this
set_option maxRecDepth 100000 in
set_option maxHeartbeats 3200000 in
theorem same_tri {w : World} {A B : Option Addr} {n ca cb : Nat} {D : List Tri} (h1 : G.SlL w encT (.slice A n ca) D) (h2 : G.SlL w encT (.slice B n cb) D) (hn : D.length = n) (hn6 : n ≤ 1000000) :
    Calls Tryz.prog 14 #[.slice A n ca, .slice B n cb] w fun e w' => e = .returned (.bool true) ∧ Below w.heap.size w w' := by
  have C1 := Lib.hid (cellsT_of h1)
  have C2 := Lib.hid (cellsT_of h2)
  have HN := Lib.hid hn
  clear h1 h2 hn
  have hne : ((n : Int) != (n : Int)) = false := by simp
  go_enter Tryz.func14, Tryz.ntmps14
  go_wp2
  go_loopg [5] (n + 1) (fun g s5 wr => ∃ k q : Nat, k ≤ n ∧ n - k < g ∧ s5 = .int .i64 k ∧ wr = w.drewN q)
  case atStart => exact ⟨0, 0, by omega, by omega, rfl, rfl⟩
  case round =>
    obtain ⟨k, q, hk, hg, rfl, rfl⟩ := hrel
    by_cases hlt : k < n
    · obtain ⟨T, hT⟩ : ∃ T, D[k]? = some T := ⟨D[k]'(by have := HN.out; omega), List.getElem?_eq_getElem _⟩
      obtain ⟨a, oa, rfl, _, ha⟩ := C1.out k T hT
      obtain ⟨b, ob, rfl, _, hb⟩ := C2.out k T hT
      obtain ⟨x, y, z⟩ := T
      have a0 : (w.drewN q).cell? ⟨a, oa + k * 3, none⟩ = some (.string x) := ha 0 _ rfl
      have a1 : (w.drewN q).cell? ⟨a, oa + k * 3 + 1, none⟩ = some (.string y) := ha 1 _ rfl
      have a2 : (w.drewN q).cell? ⟨a, oa + k * 3 + 2, none⟩ = some (.string z) := ha 2 _ rfl
      have b0 : (w.drewN q).cell? ⟨b, ob + k * 3, none⟩ = some (.string x) := hb 0 _ rfl
      have b1 : (w.drewN q).cell? ⟨b, ob + k * 3 + 1, none⟩ = some (.string y) := hb 1 _ rfl
      have b2 : (w.drewN q).cell? ⟨b, ob + k * 3 + 2, none⟩ = some (.string z) := hb 2 _ rfl
      have qN : ∀ w, (binOp .neq 35 (.agg #[.string x, .string y, .string z]) (.agg #[.string x, .string y, .string z])).run Tryz.prog w = .ok (.bool false) w := fun w => by
        rw [neq_tri, decide_eq_true rfl]; rfl
      have n1 : (k : Int) < (n : Int) := by omega
      have n0 : (0 : Int) ≤ (k : Int) := by omega
      obtain ⟨wq, hwq⟩ : ∃ x, w.drewN q = x := ⟨_, rfl⟩
      rw [hwq] at a0 a1 a2 b0 b1 b2 ⊢
      have HWQ := Lib.hid hwq
      clear ha hb hT hwq
      go_wp2
      go_quiet (fail)
      go_wp2
      go_roundg (n - k)
      case measure => omega
      case rel => exact ⟨k + 1, q + nq, by omega, by omega, by go_num, by rw [← HWQ.out]; exact (World.drewN_drewN _ _ _)⟩
    · have n1 : ¬ (k : Int) < (n : Int) := by omega
      go_wp2
      go_ret
      exact ⟨rfl, below_drewN (Below.refl _ _) _⟩
end Go.Proofs.YtcnffgcegimelaaGreat.So
