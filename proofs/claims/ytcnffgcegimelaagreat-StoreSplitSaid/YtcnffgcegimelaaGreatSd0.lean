/-
  StoreMatch, plain; the document's Like where it holds. Conditions: as each says.
-/
import Derived.Test.YtcnffgcegimelaaGreatK9
import Derived.BigQuiet
import Derived.Deep.QuietTactic
import Derived.Deep.RegionHeld3
namespace Go.Proofs.YtcnffgcegimelaaGreat.So
open Go.RowKit Go.Proofs.YtcnffgcegimelaaGreat.Mp Go.Proofs.YtcnffgcegimelaaGreat.Wd Go.Proofs.YtcnffgcegimelaaGreat.Pm Go.Proofs.YtcnffgcegimelaaGreat.Pw

def eB : ByteArray := ByteArray.empty
/-- The eight askings by a fact's words. -/
def likes8 (t : Tri) : List Tri := [⟨t.S, eB, eB⟩, ⟨eB, t.P, eB⟩, ⟨eB, eB, t.O⟩, ⟨t.S, t.P, eB⟩, ⟨eB, t.P, t.O⟩, ⟨t.S, eB, t.O⟩, t, ⟨eB, eB, eB⟩]
theorem likes_yes (t : Tri) : ∀ x ∈ likes8 t, likeB x t = true := by
  intro x hx
  have h0 : hasW eB = false := rfl
  simp only [likes8, List.mem_cons, List.not_mem_nil, or_false] at hx
  rcases hx with rfl | rfl | rfl | rfl | rfl | rfl | rfl | rfl <;> simp [likeB, h0]
theorem likes_fit {t : Tri} (h : t.fit) : ∀ x ∈ likes8 t, x.fit := by
  obtain ⟨h1, h2, h3⟩ := h
  have h0 : eB.size ≤ maxLen := by decide
  intro x hx
  simp only [likes8, List.mem_cons, List.not_mem_nil, or_false] at hx
  rcases hx with rfl | rfl | rfl | rfl | rfl | rfl | rfl | rfl <;> exact ⟨by first | exact h0 | exact h1, by first | exact h0 | exact h2, by first | exact h0 | exact h3⟩
def seenU (M : List Tri) (t : Tri) (k : Nat) : Bool := (M.take k).any (fun x => decide (x = t))
theorem seenU_step {M : List Tri} {t : Tri} {k : Nat} {x : Tri} (h : M[k]? = some x) : seenU M t (k + 1) = (seenU M t k || decide (x = t)) := by
  unfold seenU
  rw [take_snoc h, List.any_append]
  simp
theorem seenU_all {M : List Tri} {t : Tri} (h : t ∈ M) : seenU M t M.length = true := by
  unfold seenU
  rw [List.take_length, List.any_eq_true]
  exact ⟨t, h, by simp⟩
theorem like_part {x a : ByteArray} (h : (!hasW x || decide (x = a)) = true) : (x = ByteArray.empty) ∨ (x = a ∧ (x.toList == []) = false) := by
  rcases has_cases x with ⟨e, _⟩ | ⟨e, e2, _⟩
  · exact Or.inl e
  · rw [e] at h
    exact Or.inr ⟨by simpa using h, e2⟩
set_option maxRecDepth 100000 in
set_option maxHeartbeats 3200000 in
theorem like_ok (w : World) (a b c x y z : ByteArray) (h : likeB ⟨x, y, z⟩ ⟨a, b, c⟩ = true) : Calls Tryz.prog 19 #[.agg #[.string a, .string b, .string c], .agg #[.string x, .string y, .string z]] w fun e w' => e = .returned (.bool true) ∧ Below w.heap.size w w' := by
  unfold likeB at h
  simp only [Bool.and_eq_true] at h
  have hb : Below w.heap.size w ((w.alloc (.cells #[.string a, .string b, .string c] 35 (0, 0))).alloc (.cells #[.string x, .string y, .string z] 35 (0, 0))) := ((Below.refl _ w).alloc (Nat.le_refl _) _).alloc (by simp) _
  have HB := Lib.hid hb
  clear hb
  rcases like_part h.1.1 with rfl | ⟨rfl, h1⟩ <;> rcases like_part h.1.2 with rfl | ⟨rfl, h2⟩ <;> rcases like_part h.2 with rfl | ⟨rfl, h3⟩ <;> clear h
  all_goals
    go_enter Tryz.func19, Tryz.ntmps19
    go_wp2
    go_ret
    exact ⟨by first | rfl | simp, by first | exact HB.out | exact below_drewN HB.out _⟩
end Go.Proofs.YtcnffgcegimelaaGreat.So
