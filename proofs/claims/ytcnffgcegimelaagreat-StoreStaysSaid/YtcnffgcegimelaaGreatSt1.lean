/-
  Whether a batch is of words: slices.ContainsFunc with store.check's literal. Conditions: the blocks lie as told.
-/
import Derived.Test.YtcnffgcegimelaaGreatSt0
import Derived.Shelf.SlicesQ.IndexFunc
namespace Go.Proofs.YtcnffgcegimelaaGreat.So
open Go.RowKit Go.Shelf Go.Proofs.YtcnffgcegimelaaGreat.Mp Go.Proofs.YtcnffgcegimelaaGreat.Wd

def laysCf_ren : Go.Shelf.Ren := ⟨fun | 8 => 51 | 6 => 73 | n => n, fun | 0 => 0 | 3 => 3 | 4 => 4 | 22 => 28 | 23 => 40 | 25 => 100 | n => n, fun | n => n⟩
theorem laysCf : Go.Proofs.SlLaysH0.n8 Tryz.prog laysCf_ren := {
  mixed := by kernel_rfl
  f6 := ⟨Tryz.f73.name, by decide, Tryz.func73.trans (congrArg some (by kernel_rfl))⟩
  f8 := ⟨Tryz.f51.name, by decide, Tryz.func51.trans (congrArg some (by kernel_rfl))⟩
  t0 := Tryz.underlying0
  a0 := Tryz.isAgg0
  z0 := Tryz.sizeOf0
  v0 := Tryz.zeroValue0
  t3 := Tryz.underlying3
  a3 := Tryz.isAgg3
  z3 := Tryz.sizeOf3
  v3 := Tryz.zeroValue3
  t4 := Tryz.underlying4
  a4 := Tryz.isAgg4
  z4 := Tryz.sizeOf4
  v4 := Tryz.zeroValue4
  t22 := Tryz.underlying28
  a22 := Tryz.isAgg28
  z22 := Tryz.sizeOf28
  v22 := Tryz.zeroValue28
  t25 := Tryz.underlying100
  a25 := Tryz.isAgg100
  z25 := Tryz.sizeOf100
  v25 := Tryz.zeroValue100 }
set_option maxRecDepth 100000 in
set_option maxHeartbeats 1000000 in
theorem bad_ok (w : World) (c : Cng) : Calls Tryz.prog 52 #[.agg #[.bool c.gone, .string c.T.S, .string c.T.P, .string c.T.O]] w fun e w' => e = .returned (.bool (!isT c.T)) ∧ Below w.heap.size w w' := by
  obtain ⟨x, hx⟩ : ∃ x, isT c.T = x := ⟨_, rfl⟩
  have C := fun W => fact_ok W c.T
  rw [hx]
  simp only [hx] at C
  obtain ⟨gone, ⟨s, p, o⟩⟩ := c
  dsimp only
  simp only [Tri.val] at C
  clear hx
  go_enter Tryz.func52, Tryz.ntmps52
  go_wp2_with (go_at_call 53; refine (C _).mono ?_; rintro e w' ⟨rfl, hb⟩)
  go_ret
  exact ⟨rfl, ((Below.refl _ w).alloc (Nat.le_refl _) _).trans (hb.mono (by simp))⟩
theorem bad_at (w : World) : PredBelow Tryz.prog 52 #[] (fun c : Cng => .agg (encC c).toArray) (fun c => !isT c.T) w := fun W c hb =>
  (bad_ok W c).mono fun e w' ⟨h1, h2⟩ => ⟨h1, hb.trans (h2.mono hb.size)⟩
/-- ContainsFunc at a batch that is not nil. -/
theorem contains_ok {w : World} {s off cp : Nat} {l : List Cng} (hl : Cells w (some ⟨s, off, none⟩) l) (hs : s < w.heap.size) (hn : l.length ≤ 1000000) :
    Calls Tryz.prog 51 #[.slice (some ⟨s, off, none⟩) l.length cp, .func (.func 52) #[] #[]] w fun e w' => e = .returned (.bool (l.any (fun c => !isT c.T))) ∧ Below w.heap.size w w' := by
  have h := AnyQ.slices_ContainsFunc laysCf 4 (fun w => Tryz.isAgg40 w) (fun w => Tryz.sizeOf40 w) encC (fun _ => rfl) (fun c : Cng => !isT c.T) 52 #[] (enters_of Tryz.func52 (by kernel_rfl) rfl) s off l.length cp l w (bad_at w) (Nat.le_refl _) (by omega) hs (fun j hj i v hv => by
    have e : l[j]? = some l[j]! := by rw [getElem!_pos l j hj]; exact List.getElem?_eq_getElem hj
    obtain ⟨s', off', he, hc⟩ := hl j _ e
    have h1 : (⟨s, off, none⟩ : Addr) = ⟨s', off', none⟩ := Option.some.inj he
    injection h1 with h1 h2
    subst h1 h2
    exact hc i v hv)
  rw [List.take_length] at h
  exact h
end Go.Proofs.YtcnffgcegimelaaGreat.So
