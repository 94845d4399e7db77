/-
  A dictionary that is made; and what a triple of words is. Conditions: as each says.
-/
import Derived.Test.YtcnffgcegimelaaGreatSw3
namespace Go.Proofs.YtcnffgcegimelaaGreat.Wd
open Go.RowKit Go.Proofs.YtcnffgcegimelaaGreat.Mp

set_option maxRecDepth 100000 in
set_option maxHeartbeats 1000000 in
/-- New. -/
theorem new_ok (w : World) (w0 : Nat) : Calls Tryz.prog 30 #[] w fun e w' => e = .returned (.pointer (some ⟨w.heap.size + 1, 0, none⟩)) ∧ Dic w0 w' (w.heap.size + 1) w.heap.size (.slice none 0 0) [] ∧ Below w.heap.size w w' ∧ w'.heap.size = w.heap.size + 2 := by
  have hmm := @run_makeMap Tryz.prog
  go_enter Tryz.func30, Tryz.ntmps30
  go_wp2
  go_ret
  refine ⟨by simp, ⟨?_, ?_, ?_, fun x hx => absurd hx (by simp)⟩, ?_, by simp⟩
  · have := heap_alloc_new (w.alloc (.map #[] 0)) (dictO (some w.heap.size) (.slice none 0 0))
    rw [World.size_alloc] at this
    exact this
  · have := (kmap_made strX encN w).kept (World.grownBy_alloc _ (dictO (some w.heap.size) (.slice none 0 0)) none) (by simp)
    exact this
  · exact World.ownsRow_nil _ _ _ _
  · exact ((Below.refl _ w).alloc (Nat.le_refl _) _).alloc (by simp) _
/-- Three words are words. -/
def isT (t : Tri) : Bool := isW t.S && isW t.P && isW t.O
theorem isT_fit {t : Tri} (h : isT t = true) : t.fit := by
  unfold isT at h
  simp only [Bool.and_eq_true] at h
  exact ⟨fit_of h.1.1, fit_of h.1.2, fit_of h.2⟩
set_option maxRecDepth 100000 in
set_option maxHeartbeats 3200000 in
/-- fact. -/
theorem fact_ok (w : World) (t : Tri) : Calls Tryz.prog 53 #[t.val] w fun e w' => e = .returned (.bool (isT t)) ∧ Below w.heap.size w w' := by
  obtain ⟨s, p, o⟩ := t
  have hC := fun W x => is_ok W x
  unfold isT Tri.val
  dsimp only
  obtain ⟨x1, hx1⟩ : ∃ c, isW s = c := ⟨_, rfl⟩
  obtain ⟨x2, hx2⟩ : ∃ c, isW p = c := ⟨_, rfl⟩
  obtain ⟨x3, hx3⟩ : ∃ c, isW o = c := ⟨_, rfl⟩
  have C1 := fun W => is_ok W s
  have C2 := fun W => is_ok W p
  have C3 := fun W => is_ok W o
  rw [hx1, hx2, hx3]
  simp only [hx1, hx2, hx3] at C1 C2 C3
  have b0 : (w.alloc (.cells #[.string s, .string p, .string o] 35 (0, 0))).heap[w.heap.size]? = some (.cells #[.string s, .string p, .string o] 35 (0, 0)) := heap_alloc_new w _
  have B0 := Lib.hid b0
  clear b0 hC
  have cut : ∀ W, Below (w.heap.size + 1) (w.alloc (.cells #[.string s, .string p, .string o] 35 (0, 0))) W → W.cell? ⟨w.heap.size, 0, none⟩ = some (.string s) ∧ W.cell? ⟨w.heap.size, 1, none⟩ = some (.string p) ∧ W.cell? ⟨w.heap.size, 2, none⟩ = some (.string o) := fun W hW => by
    have e : W.heap[w.heap.size]? = some (.cells #[.string s, .string p, .string o] 35 (0, 0)) := (hW.block _ (by omega)).trans B0.out
    exact ⟨by simp [World.cell?, e], by simp [World.cell?, e], by simp [World.cell?, e]⟩
  cases x1 <;> cases x2 <;> cases x3
  all_goals
    go_enter Tryz.func53, Tryz.ntmps53
    go_wp2_with (first | (go_at_call 74; with_reducible refine (C1 _).mono ?_; rintro e w1 ⟨rfl, hb1⟩; have HB1 := Lib.hid (hb1.mono (by simp) : Below (w.heap.size + 1) _ w1); obtain ⟨_, q1, q2⟩ := cut _ HB1.out; clear hb1) | (go_at_call 74; with_reducible refine (C2 _).mono ?_; rintro e w2 ⟨rfl, hb2⟩; have HB2 := Lib.hid (HB1.out.trans (hb2.mono (by have := HB1.out.size; simp at this; omega))); obtain ⟨_, _, q3⟩ := cut _ HB2.out; clear hb2) | (go_at_call 74; with_reducible refine (C3 _).mono ?_; rintro e w3 ⟨rfl, hb3⟩; have HB3 := Lib.hid (HB2.out.trans (hb3.mono (by have := HB2.out.size; simp at this; omega))); clear hb3))
    go_ret
    refine ⟨rfl, ((Below.refl _ w).alloc (Nat.le_refl _) (.cells #[.string s, .string p, .string o] 35 (0, 0))).trans ?_⟩
    first | exact HB3.out.mono (by simp) | exact HB2.out.mono (by simp) | exact HB1.out.mono (by simp)
end Go.Proofs.YtcnffgcegimelaaGreat.Wd
