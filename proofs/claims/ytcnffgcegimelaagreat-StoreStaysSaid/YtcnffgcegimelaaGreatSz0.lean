/-
  The law's awake. Conditions: none.
-/
import Derived.Test.YtcnffgcegimelaaGreatSy2
import Derived.Deep.RegionHeld3
import Derived.BigQuiet
import Derived.Deep.QuietTactic
namespace Go.Proofs.YtcnffgcegimelaaGreat.So
open Go.RowKit Go.Proofs.YtcnffgcegimelaaGreat.Mp Go.Proofs.YtcnffgcegimelaaGreat.Wd Go.Proofs.YtcnffgcegimelaaGreat.Pm Go.Proofs.YtcnffgcegimelaaGreat.Pw

def sB (c : UInt8) : ByteArray := ⟨#[c]⟩
def awT (c : UInt8) : Tri := ⟨sB 97, sB 112, sB c⟩
def awL1 : List Cng := [⟨false, awT 98⟩, ⟨false, awT 99⟩]
def awL2 : List Cng := [⟨true, awT 98⟩]
theorem aw_1 : applyE (allL []) 0 1 awL1 = 0 := by decide +kernel
theorem aw_2 : applyE (allL [awL1]) 1 1 [] = 70 := by decide +kernel
theorem aw_3 : applyE (allL [awL1]) 1 2 awL2 = 0 := by decide +kernel
theorem aw_4 : factsL [awL1, awL2] 1 = [awT 98, awT 99] := by decide +kernel
theorem aw_5 : matchL [awL1, awL2] 2 ⟨ByteArray.empty, sB 112, ByteArray.empty⟩ = [awT 99] := by decide +kernel
theorem aw_6 : factsE 2 3 = 71 := by decide +kernel
set_option maxRecDepth 100000 in
set_option maxHeartbeats 1000000 in
theorem aw_fact (w : World) (o : ByteArray) : Calls Tryz.prog 36 #[.string o] w fun e w' => e = .returned (.agg #[.string (sB 97), .string (sB 112), .string o]) ∧ Below w.heap.size w w' := by
  go_enter Tryz.func36, Tryz.ntmps36
  go_wp2
  refine bodyPost_ret (v := .agg #[.string (sB 97), .string (sB 112), .string o]) ?_ rfl ⟨rfl, ?_⟩
  · simp [results, Tryz.results36, go_sem, sB]
  · exact (Below.refl _ _).alloc (Nat.le_refl _) _
def AwS (x : World) (b off : Nat) (W : World) : Prop := Below x.heap.size x W ∧ W.cell? ⟨b, off, none⟩ = some (.string (sB 97)) ∧ W.cell? ⟨b, off + 1, none⟩ = some (.string (sB 112)) ∧ W.cell? ⟨b, off + 2, none⟩ = some (.string (sB 99))
theorem AwS.next {x W W' : World} {b off : Nat} (hb0 : b < x.heap.size) (h : AwS x b off W) (hb : Below W.heap.size W W') : AwS x b off W' := by
  have hl := Nat.lt_of_lt_of_le hb0 h.1.size
  have hc : ∀ i, W'.cell? ⟨b, i, none⟩ = W.cell? ⟨b, i, none⟩ := fun i => hb.cell (p := ⟨b, i, none⟩) hl
  exact ⟨h.1.trans (hb.mono h.1.size), (hc _).trans h.2.1, (hc _).trans h.2.2.1, (hc _).trans h.2.2.2⟩
set_option maxRecDepth 100000 in
set_option maxHeartbeats 3200000 in
theorem awake_ok (w : World) : Calls Tryz.prog 17 #[] w fun e w' => e = .returned (.bool true) ∧ Below w.heap.size w w' := by
  go_enter Tryz.func17, Tryz.ntmps17
  go_wp2_with (go_at_call 11; refine (new_law _).mono ?_; rintro e w1 ⟨p, k1, rfl, hk1, hb1⟩; have K1 := Lib.hid hk1; have B1 := Lib.hid hb1; clear hk1 hb1)
  go_wp2_with fail
  refine (aw_fact _ _).mono ?_
  rintro e w2 ⟨rfl, hb2⟩
  have B2 := Lib.hid hb2
  clear hb2
  go_wp2_with fail
  refine (aw_fact _ _).mono ?_
  rintro e w3 ⟨rfl, hb3⟩
  have B3 := Lib.hid (B2.out.trans (hb3.mono B2.out.size))
  clear hb3
  go_wp2_with fail
  have L4 := lit_law encC awL1 (t := 40) (cs := #[.bool false, .string (sB 97), .string (sB 112), .string (sB 98), .bool false, .string (sB 97), .string (sB 112), .string (sB 99)]) (n := 2) K1.out B3.out rfl rfl
  refine (apply_law L4.1 1 L4.2.2 (by decide) aw_1 (log' := [awL1]) rfl).mono ?_
  rintro e w4 ⟨k4, rfl, hk4, hs4⟩
  have K4 := Lib.hid hk4
  have B4 := Lib.hid (L4.1.since hs4 (W := w) (B1.out.trans ((B3.out.alloc B3.out.size _).mono B1.out.size)) (Nat.le_refl _))
  clear hk4 hs4 L4 K1 B1 B2 B3
  go_wp2_with fail
  refine (apply_law K4.out 1 (nil_law encC _ _) (by decide) aw_2 (log' := [awL1]) rfl).mono ?_
  rintro e w5 ⟨k5, rfl, hk5, hs5⟩
  have K5 := Lib.hid hk5
  have B5 := Lib.hid (K4.out.since hs5 B4.out (Nat.le_refl _))
  clear hk5 hs5 K4 B4
  go_wp2_with fail
  refine (aw_fact _ _).mono ?_
  rintro e w6 ⟨rfl, hb6⟩
  have B6 := Lib.hid hb6
  clear hb6
  go_wp2_with fail
  have L6 := lit_law encC awL2 (t := 40) (cs := #[.bool true, .string (sB 97), .string (sB 112), .string (sB 98)]) (n := 1) K5.out B6.out rfl rfl
  refine (apply_law L6.1 2 L6.2.2 (by decide) aw_3 (log' := [awL1, awL2]) rfl).mono ?_
  rintro e w7 ⟨k7, rfl, hk7, hs7⟩
  have K7 := Lib.hid hk7
  have B7 := Lib.hid (L6.1.since hs7 (W := w) (B5.out.trans ((B6.out.alloc B6.out.size _).mono B5.out.size)) (Nat.le_refl _))
  clear hk7 hs7 L6 K5 B5 B6
  go_wp2_with fail
  refine (facts_law K7.out 1 (by decide) (r := 0) rfl aw_4).mono ?_
  rintro e w8 ⟨A8, c8, k8, rfl, hk8, hs8, _⟩
  have K8 := Lib.hid hk8
  have B8 := Lib.hid (K7.out.since hs8 B7.out (Nat.le_refl _))
  clear hk8 hs8 K7 B7
  go_wp2_with fail
  refine (match_law K8.out 2 ByteArray.empty (sB 112) ByteArray.empty (by decide +kernel) (by decide) (r := 0) rfl aw_5).mono ?_
  rintro e w9 ⟨A9, c9, k9, rfl, hk9, hs9, hh9⟩
  have K9 := Lib.hid hk9
  have B9 := Lib.hid (K8.out.since hs9 B8.out (Nat.le_refl _))
  have H9 := Lib.hid hh9
  clear hk9 hs9 hh9 K8 B8
  go_wp2_with fail
  refine (facts_law K9.out 3 (by decide) (r := 71) aw_6 (D := []) rfl).mono ?_
  rintro e w10 ⟨A10, c10, k10, rfl, hk10, hs10, _⟩
  have K10 := Lib.hid hk10
  have H10 := Lib.hid (H9.out.step hs10)
  have B10 := Lib.hid (K9.out.since hs10 B9.out (Nat.le_refl _))
  clear hk10 hs10 H9 K9 B9
  go_wp2_with fail
  obtain ⟨b, off, rfl, hbb, hcl⟩ : ∃ b off, A9 = some ⟨b, off, none⟩ ∧ b < w10.heap.size ∧ ∀ j u, (([awT 99] : List Tri).flatMap encT)[j]? = some u → w10.cell? ⟨b, off + j, none⟩ = some u := by
    obtain ⟨A, c, hv, _, _, hr⟩ := H10.out.sl
    obtain ⟨b, off, e, h1, h2⟩ := hr (by simp)
    injection hv with e1
    exact ⟨b, off, e1.trans e, h1, h2⟩
  have c0 : w10.cell? ⟨b, off, none⟩ = some (.string (sB 97)) := hcl 0 _ rfl
  have c1 : w10.cell? ⟨b, off + 1, none⟩ = some (.string (sB 112)) := hcl 1 _ rfl
  have c2 : w10.cell? ⟨b, off + 2, none⟩ = some (.string (sB 99)) := hcl 2 _ rfl
  have FC := Lib.hid (fun (n : Nat) => aw_fact (w10.drewN n) (sB 99))
  have VC := Lib.hid (fun (W : World) (h : Below w10.heap.size w10 W) => version_law (K10.out.below h))
  clear hcl
  have S0 : AwS w10 b off w10.drew := ⟨Below.drew (Below.refl _ _), c0, c1, c2⟩
  have qE : ∀ w, (binOp .eql 35 (.agg #[.string (sB 97), .string (sB 112), .string (sB 99)]) (.agg #[.string (sB 97), .string (sB 112), .string ⟨#[99]⟩])).run Tryz.prog w = .ok (.bool true) w := fun w => eql_tri w (sB 97) (sB 112) (sB 99) (sB 97) (sB 112) (sB 99)
  go_region_held3 (fun W => Below w10.heap.size w10 W ∧ W.cell? ⟨b, off, none⟩ = some (.string (sB 97)) ∧ W.cell? ⟨b, off + 1, none⟩ = some (.string (sB 112)) ∧ W.cell? ⟨b, off + 2, none⟩ = some (.string (sB 99))) (first | exact S0 | exact AwS.next hbb S0 B11.out) ((first | (go_at_call 36; refine (aw_fact _ _).mono ?_; rintro e w11 ⟨rfl, hb11⟩; have B11 := Lib.hid hb11; clear hb11) | (go_at_call 16; refine (VC.out _ (AwS.next hbb S0 B11.out).1).mono ?_; rintro e w12 ⟨rfl, rfl⟩)))
  go_wp2
  go_ret
  exact ⟨rfl, B10.out.trans ((AwS.next hbb S0 B11.out).1.mono B10.out.size)⟩
end Go.Proofs.YtcnffgcegimelaaGreat.So
