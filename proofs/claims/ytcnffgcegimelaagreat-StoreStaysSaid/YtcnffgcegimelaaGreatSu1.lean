/-
  A store in memory: New, given, Version, Room. Conditions: the blocks lie as told.
-/
import Derived.Test.YtcnffgcegimelaaGreatSu0
namespace Go.Proofs.YtcnffgcegimelaaGreat.So
open Go.RowKit Go.Proofs.YtcnffgcegimelaaGreat.Mp Go.Proofs.YtcnffgcegimelaaGreat.Wd Go.Proofs.YtcnffgcegimelaaGreat.Pm Go.Proofs.YtcnffgcegimelaaGreat.Pw

set_option maxRecDepth 100000 in
set_option maxHeartbeats 400000 in
theorem given_none (w : World) : Calls Tryz.prog 31 #[.pointer none] w fun e w' => e = .returned (.bool false) ∧ w = w' := by
  go_enter Tryz.func31, Tryz.ntmps31
  go_wp2
  go_ret
  exact ⟨rfl, rfl⟩
set_option maxRecDepth 100000 in
set_option maxHeartbeats 400000 in
theorem given_sto (w : World) (p : Nat) (m : Option Nat) (h : w.cell? ⟨p, 0, none⟩ = some (.map m)) : Calls Tryz.prog 31 #[.pointer (some ⟨p, 0, none⟩)] w fun e w' => e = .returned (.bool m.isSome) ∧ w = w' := by
  have qT : ∀ (w : World) (r : Option Nat), (binOp .neq 61 (.map r) (.map none)).run Tryz.prog w = .ok (.bool (!r.isNone)) w := fun w r => Go.run_neq_map_nil w _ _ _ r Tryz.underlying61
  cases m with
  | none =>
    go_enter Tryz.func31, Tryz.ntmps31
    go_wp2
    go_ret
    exact ⟨rfl, rfl⟩
  | some a =>
    go_enter Tryz.func31, Tryz.ntmps31
    go_wp2
    go_ret
    exact ⟨rfl, rfl⟩
/-- The words of a new store. -/
def newK (w : World) : SW := ⟨w.heap.size + 4, w.heap.size, w.heap.size + 2, w.heap.size + 1, w.heap.size + 3, .slice none 0 0, .slice none 0 0, [], fun i => if i = w.heap.size + 4 then 0 else if i = w.heap.size then 1 else if i = w.heap.size + 2 then 3 else if i = w.heap.size + 1 then 4 else if i = w.heap.size + 3 then 6 else 8⟩
def newS : SS := ⟨[], [], fun _ => none, []⟩
theorem new_at {w w1 : World} (hd : Dic w.heap.size w1 (w.heap.size + 2) (w.heap.size + 1) (.slice none 0 0) []) (hb : Below (w.heap.size + 1) (w.alloc (.map #[] 0)) w1) (hs : w1.heap.size = w.heap.size + 3) :
    Sto w.heap.size ((w1.alloc (.map #[] 0)).alloc (stoO (newK w))) (newK w) newS ∧ Below w.heap.size w ((w1.alloc (.map #[] 0)).alloc (stoO (newK w))) := by
  have b1 : Below w.heap.size w w1 := ((Below.refl _ w).alloc (Nat.le_refl _) _).trans (hb.mono (Nat.le_succ _))
  have b2 := (b1.alloc b1.size (.map #[] 0))
  have b3 := b2.alloc b2.size (stoO (newK w))
  have c1 : Below w1.heap.size w1 ((w1.alloc (.map #[] 0)).alloc (stoO (newK w))) := ((Below.refl _ w1).alloc (Nat.le_refl _) _).alloc (by simp) _
  have s2 : (w1.alloc (.map #[] 0)).heap.size = w.heap.size + 4 := by rw [World.size_alloc, hs]
  refine ⟨⟨?_, ?_, G.OwnL.nil _ _ _ _ _, rfl, (fun i z l h => by simp [newK] at h), hd.below c1, ?_, (fun v i h => by cases h), b3.size, ?_, ?_, (fun g h => by cases h), ?_, ?_, (fun g h => by cases h), ?_, fun i h => ?_, Good.nil, List.nodup_nil, (fun x h => by cases h)⟩, b3⟩
  · have := heap_alloc_new (w1.alloc (.map #[] 0)) (stoO (newK w))
    rw [s2] at this
    exact this
  · have h0 := kmap_made triX encB w
    have h1 : KMap triX encB w1 w.heap.size (fun _ => none) [] := h0.chg (Chg.of_below (fun _ => False) (hb.mono (by simp))) (fun e => e)
    exact h1.chg (Chg.of_below (fun _ => False) c1) (fun e => e)
  · have h0 := kmap_made intX encI w1
    rw [hs] at h0
    exact h0.kept (World.grownBy_alloc _ (stoO (newK w)) none) (by simp)
  · simp [newK]
  · simp [newK]
  · simp [newK]
  · simp [newK]
  · simp [newK]
  · unfold newK at h
    dsimp only at h
    repeat (first | (split at h; omega) | split at h)
    all_goals omega
def NewPost (w : World) (e : Ending) (w' : World) : Prop := e = .returned (.pointer (some ⟨w.heap.size + 4, 0, none⟩)) ∧ Sto w.heap.size w' (newK w) newS ∧ Below w.heap.size w w'
set_option maxRecDepth 100000 in
set_option maxHeartbeats 1000000 in
/-- New. -/
theorem new_sto (w : World) : Calls Tryz.prog 11 #[] w (NewPost w) := by
  have hmm := @run_makeMap Tryz.prog
  go_enter Tryz.func11, Tryz.ntmps11
  go_wp2_with (go_at_call 30; refine (Wd.new_ok _ w.heap.size).mono ?_; rintro e w1 ⟨rfl, hd, hb, hs⟩; have D1 := Lib.hid (And.intro hd hb); have S1 := Lib.hid hs; rw [World.size_alloc] at hs; clear hd hb)
  go_ret
  have hh := new_at (w := w) (w1 := w1) (by simpa using D1.out.1) (by simpa using D1.out.2) hs
  unfold NewPost
  refine ⟨by simp, ?_, ?_⟩
  · exact hh.1
  · exact hh.2
end Go.Proofs.YtcnffgcegimelaaGreat.So
