/-
  slices.Clone at changes. Conditions: the batch lies as told.
-/
import Derived.Test.YtcnffgcegimelaaGreatSt2
import Derived.Test.YtcnffgcegimelaaGreatJ0
import Derived.Shelf.SlicesE.Clone
namespace Go.Proofs.YtcnffgcegimelaaGreat.So
open Go.RowKit Go.Shelf Go.Proofs.YtcnffgcegimelaaGreat.Mp Go.Proofs.YtcnffgcegimelaaGreat.Wd

def laysCb_ren : Go.Shelf.Ren := ⟨fun | 41 => 34 | n => n, fun | 22 => 28 | 23 => 40 | 4 => 4 | n => n, fun | n => n⟩
theorem laysCb : Go.Proofs.SlLaysE0.n41 Tryz.prog laysCb_ren := {
  mixed := by kernel_rfl
  f41 := ⟨Tryz.f34.name, by decide, Tryz.func34.trans (congrArg some (by kernel_rfl))⟩
  t4 := Tryz.underlying4
  a4 := Tryz.isAgg4
  z4 := Tryz.sizeOf4
  v4 := Tryz.zeroValue4
  t22 := Tryz.underlying28
  a22 := Tryz.isAgg28
  z22 := Tryz.sizeOf28
  v22 := Tryz.zeroValue28 }
theorem encC_len (c : Cng) : (encC c).length = 4 := rfl
theorem encC_one (c : Cng) : ∀ u ∈ encC c, u.oneCell' = true := by
  intro u hu
  simp only [encC, List.mem_cons, List.not_mem_nil, or_false] at hu
  rcases hu with rfl | rfl | rfl | rfl <;> rfl
/-- A batch's slice, read, is a batch that lies somewhere. -/
theorem lies_of {w : World} {A : Option Addr} {n cp : Nat} {l : List Cng} (h : G.SlL w encC (.slice A n cp) l) : n = l.length ∧ LiesC w A l := by
  obtain ⟨A', c', hv, _, _, hr⟩ := h
  injection hv with h1 h2 h3
  subst h1
  refine ⟨h2, fun i c hc => ?_, fun hne => ?_⟩
  · obtain ⟨b, off, rfl, _, hcl⟩ := hr (fun e => by rw [e] at hc; simp at hc)
    refine ⟨b, off, rfl, fun j u hu => ?_⟩
    have hj : j < 4 := (List.getElem?_eq_some_iff.1 hu).1
    have := hcl (i * 4 + j) u ((G.flat_getElem 4 encC encC_len l i j c hc hj).trans hu)
    rwa [show off + (i * 4 + j) = off + i * 4 + j by omega] at this
  · obtain ⟨b, off, e, hb, _⟩ := hr hne
    exact ⟨b, off, e, hb⟩
set_option maxRecDepth 100000 in
set_option maxHeartbeats 3200000 in
/-- Clone of a batch. -/
theorem clone_b {w : World} {v : Value} {l : List Cng} (h : G.SlL w encC v l) (hn : l.length ≤ 1000000) :
    Calls Tryz.prog 34 #[v] w fun e w' => ∃ v', e = .returned v' ∧ G.OwnL w' w.heap.size 40 4 encC v' l ∧ Below w.heap.size w w' := by
  obtain ⟨A, c, hv, hc, hA, hr⟩ := id h
  cases A with
  | none =>
    have hl : l = [] := List.eq_nil_of_length_eq_zero (by have := hA rfl; omega)
    subst hv
    refine (AnyE.slices_Clone_nil laysCb _ _ _).mono fun e w' ⟨h1, h2⟩ => ⟨_, h1, ?_, ?_⟩
    · rw [hl]; exact G.OwnL.nil _ _ _ _ _
    · rw [h2]; exact Below.refl _ _
  | some a =>
    have q22 : ∀ (w : World) (a : Option Addr) (n c n' c' : Nat), (binOp .eql 28 (.slice a n c) (.slice none n' c')).run Tryz.prog w = .ok (.bool a.isNone) w := fun w a n c n' c' => Lib.run_eql_slice_nil w _ _ a n c n' c' Tryz.underlying28
    have hinfo := show (Tryz.prog.info? 40).map (fun i => (i.zero, i.size, i.bytes)) = some (some (.agg #[.bool false, .string ByteArray.empty, .string ByteArray.empty, .string ByteArray.empty]), 4, 56) by kernel_rfl
    obtain ⟨n, hn0⟩ : ∃ n, l.length = n := ⟨_, rfl⟩
    rw [hn0] at hv hn
    have HI := Lib.hid hinfo
    have HN := Lib.hid hn0
    have HN2 := Lib.hid hn
    have H := Lib.hid h
    subst hv
    clear hinfo hn0 hn h hc hA hr
    go_enter Tryz.func34, Tryz.ntmps34
    go_wp2_with (at_builtin; (refine G.wp_appN rfl _ _ 28 40 rfl _ 4 56 Tryz.underlying28 HI.out rfl (by omega) (by omega) encC encC_len encC_one w.heap.size _ _ [] l rfl rfl (World.ownsRow_made w #[] 0 (Nat.le_refl _) (Nat.zero_le _) (by simp)) (H.out.below ((Below.refl _ w).alloc (Nat.le_refl _) _)) (by simp) (by have := HN.out; have := HN2.out; simp; omega) ?_); intro v1 w1 ho1 hg1 hat1; have O1 := Lib.hid (And.intro ho1 (And.intro hg1 hat1)); clear ho1 hg1 hat1)
    go_ret
    exact ⟨_, rfl, O1.out.1, ((Below.refl _ w).alloc (Nat.le_refl _) _).grown O1.out.2.1 (by simp) (fun k e => by have : w.heap.size = k := Option.some.inj e; omega)⟩
end Go.Proofs.YtcnffgcegimelaaGreat.So
