/-
  Joined by wip/tools/merge.py from the texts Sz0 Sz1 Sr0 Sa0 Sb0. Conditions: as each says.
-/
import Derived.Test.YtcnffgcegimelaaGreatK8
import Derived.Deep.RegionHeld3
import Derived.BigQuiet
import Derived.Deep.QuietTactic
import Derived.ChangeArms
import Derived.WideShapes
section
/-
  The law's awake. Conditions: none.
-/
namespace Go.Proofs.YtcnffgcegimelaaGreat.So
open Go.RowKit Go.Proofs.YtcnffgcegimelaaGreat.Mp Go.Proofs.YtcnffgcegimelaaGreat.Wd Go.Proofs.YtcnffgcegimelaaGreat.Pm Go.Proofs.YtcnffgcegimelaaGreat.Pw

def sB (c : UInt8) : ByteArray := ⟨#[c]⟩
def awT (c : UInt8) : Tri := ⟨sB 97, sB 112, sB c⟩
def awL1 : List Cng := [⟨false, awT 98⟩, ⟨false, awT 99⟩]
def awL2 : List Cng := [⟨true, awT 98⟩]
theorem aw_1 : applyE (allL []) 0 1 awL1 = 0 := by decide +kernel
theorem aw_2 : applyE (allL [awL1]) 1 1 [] = 70 := by decide +kernel
theorem aw_3 : applyE (allL [awL1]) 1 2 awL2 = 0 := by decide +kernel
theorem aw_4 : factsL [awL1, awL2] 1 = [awT 98, awT 99] := by decide +kernel
theorem aw_5 : matchL [awL1, awL2] 2 ⟨ByteArray.empty, sB 112, ByteArray.empty⟩ = [awT 99] := by decide +kernel
theorem aw_6 : factsE 2 3 = 71 := by decide +kernel
set_option maxRecDepth 100000 in
set_option maxHeartbeats 1000000 in
theorem aw_fact (w : World) (o : ByteArray) : Calls Tryz.prog 36 #[.string o] w fun e w' => e = .returned (.agg #[.string (sB 97), .string (sB 112), .string o]) ∧ Below w.heap.size w w' := by
  go_enter Tryz.func36, Tryz.ntmps36
  go_wp2
  refine bodyPost_ret (v := .agg #[.string (sB 97), .string (sB 112), .string o]) ?_ rfl ⟨rfl, ?_⟩
  · simp [results, Tryz.results36, go_sem, sB]
  · exact (Below.refl _ _).alloc (Nat.le_refl _) _
def AwS (x : World) (b off : Nat) (W : World) : Prop := Below x.heap.size x W ∧ W.cell? ⟨b, off, none⟩ = some (.string (sB 97)) ∧ W.cell? ⟨b, off + 1, none⟩ = some (.string (sB 112)) ∧ W.cell? ⟨b, off + 2, none⟩ = some (.string (sB 99))
theorem AwS.next {x W W' : World} {b off : Nat} (hb0 : b < x.heap.size) (h : AwS x b off W) (hb : Below W.heap.size W W') : AwS x b off W' := by
  have hl := Nat.lt_of_lt_of_le hb0 h.1.size
  have hc : ∀ i, W'.cell? ⟨b, i, none⟩ = W.cell? ⟨b, i, none⟩ := fun i => hb.cell (p := ⟨b, i, none⟩) hl
  exact ⟨h.1.trans (hb.mono h.1.size), (hc _).trans h.2.1, (hc _).trans h.2.2.1, (hc _).trans h.2.2.2⟩
set_option maxRecDepth 100000 in
set_option maxHeartbeats 3200000 in
theorem awake_ok (w : World) : Calls Tryz.prog 17 #[] w fun e w' => e = .returned (.bool true) ∧ Below w.heap.size w w' := by
  go_enter Tryz.func17, Tryz.ntmps17
  go_wp2_with (go_at_call 11; refine (new_law _).mono ?_; rintro e w1 ⟨p, k1, rfl, hk1, hb1⟩; have K1 := Lib.hid hk1; have B1 := Lib.hid hb1; clear hk1 hb1)
  go_wp2_with fail
  refine (aw_fact _ _).mono ?_
  rintro e w2 ⟨rfl, hb2⟩
  have B2 := Lib.hid hb2
  clear hb2
  go_wp2_with fail
  refine (aw_fact _ _).mono ?_
  rintro e w3 ⟨rfl, hb3⟩
  have B3 := Lib.hid (B2.out.trans (hb3.mono B2.out.size))
  clear hb3
  go_wp2_with fail
  have L4 := lit_law encC awL1 (t := 40) (cs := #[.bool false, .string (sB 97), .string (sB 112), .string (sB 98), .bool false, .string (sB 97), .string (sB 112), .string (sB 99)]) (n := 2) K1.out B3.out rfl rfl
  refine (apply_law L4.1 1 L4.2.2 (by decide) aw_1 (log' := [awL1]) rfl).mono ?_
  rintro e w4 ⟨k4, rfl, hk4, hs4⟩
  have K4 := Lib.hid hk4
  have B4 := Lib.hid (L4.1.since hs4 (W := w) (B1.out.trans ((B3.out.alloc B3.out.size _).mono B1.out.size)) (Nat.le_refl _))
  clear hk4 hs4 L4 K1 B1 B2 B3
  go_wp2_with fail
  refine (apply_law K4.out 1 (nil_law encC _ _) (by decide) aw_2 (log' := [awL1]) rfl).mono ?_
  rintro e w5 ⟨k5, rfl, hk5, hs5⟩
  have K5 := Lib.hid hk5
  have B5 := Lib.hid (K4.out.since hs5 B4.out (Nat.le_refl _))
  clear hk5 hs5 K4 B4
  go_wp2_with fail
  refine (aw_fact _ _).mono ?_
  rintro e w6 ⟨rfl, hb6⟩
  have B6 := Lib.hid hb6
  clear hb6
  go_wp2_with fail
  have L6 := lit_law encC awL2 (t := 40) (cs := #[.bool true, .string (sB 97), .string (sB 112), .string (sB 98)]) (n := 1) K5.out B6.out rfl rfl
  refine (apply_law L6.1 2 L6.2.2 (by decide) aw_3 (log' := [awL1, awL2]) rfl).mono ?_
  rintro e w7 ⟨k7, rfl, hk7, hs7⟩
  have K7 := Lib.hid hk7
  have B7 := Lib.hid (L6.1.since hs7 (W := w) (B5.out.trans ((B6.out.alloc B6.out.size _).mono B5.out.size)) (Nat.le_refl _))
  clear hk7 hs7 L6 K5 B5 B6
  go_wp2_with fail
  refine (facts_law K7.out 1 (by decide) (r := 0) rfl aw_4).mono ?_
  rintro e w8 ⟨A8, c8, k8, rfl, hk8, hs8, _⟩
  have K8 := Lib.hid hk8
  have B8 := Lib.hid (K7.out.since hs8 B7.out (Nat.le_refl _))
  clear hk8 hs8 K7 B7
  go_wp2_with fail
  refine (match_law K8.out 2 ByteArray.empty (sB 112) ByteArray.empty (by decide +kernel) (by decide) (r := 0) rfl aw_5).mono ?_
  rintro e w9 ⟨A9, c9, k9, rfl, hk9, hs9, hh9⟩
  have K9 := Lib.hid hk9
  have B9 := Lib.hid (K8.out.since hs9 B8.out (Nat.le_refl _))
  have H9 := Lib.hid hh9
  clear hk9 hs9 hh9 K8 B8
  go_wp2_with fail
  refine (facts_law K9.out 3 (by decide) (r := 71) aw_6 (D := []) rfl).mono ?_
  rintro e w10 ⟨A10, c10, k10, rfl, hk10, hs10, _⟩
  have K10 := Lib.hid hk10
  have H10 := Lib.hid (H9.out.step hs10)
  have B10 := Lib.hid (K9.out.since hs10 B9.out (Nat.le_refl _))
  clear hk10 hs10 H9 K9 B9
  go_wp2_with fail
  obtain ⟨b, off, rfl, hbb, hcl⟩ : ∃ b off, A9 = some ⟨b, off, none⟩ ∧ b < w10.heap.size ∧ ∀ j u, (([awT 99] : List Tri).flatMap encT)[j]? = some u → w10.cell? ⟨b, off + j, none⟩ = some u := by
    obtain ⟨A, c, hv, _, _, hr⟩ := H10.out.sl
    obtain ⟨b, off, e, h1, h2⟩ := hr (by simp)
    injection hv with e1
    exact ⟨b, off, e1.trans e, h1, h2⟩
  have c0 : w10.cell? ⟨b, off, none⟩ = some (.string (sB 97)) := hcl 0 _ rfl
  have c1 : w10.cell? ⟨b, off + 1, none⟩ = some (.string (sB 112)) := hcl 1 _ rfl
  have c2 : w10.cell? ⟨b, off + 2, none⟩ = some (.string (sB 99)) := hcl 2 _ rfl
  have FC := Lib.hid (fun (n : Nat) => aw_fact (w10.drewN n) (sB 99))
  have VC := Lib.hid (fun (W : World) (h : Below w10.heap.size w10 W) => version_law (K10.out.below h))
  clear hcl
  have S0 : AwS w10 b off w10.drew := ⟨Below.drew (Below.refl _ _), c0, c1, c2⟩
  have qE : ∀ w, (binOp .eql 35 (.agg #[.string (sB 97), .string (sB 112), .string (sB 99)]) (.agg #[.string (sB 97), .string (sB 112), .string ⟨#[99]⟩])).run Tryz.prog w = .ok (.bool true) w := fun w => eql_tri w (sB 97) (sB 112) (sB 99) (sB 97) (sB 112) (sB 99)
  go_region_held3 (fun W => Below w10.heap.size w10 W ∧ W.cell? ⟨b, off, none⟩ = some (.string (sB 97)) ∧ W.cell? ⟨b, off + 1, none⟩ = some (.string (sB 112)) ∧ W.cell? ⟨b, off + 2, none⟩ = some (.string (sB 99))) (first | exact S0 | exact AwS.next hbb S0 B11.out) ((first | (go_at_call 36; refine (aw_fact _ _).mono ?_; rintro e w11 ⟨rfl, hb11⟩; have B11 := Lib.hid hb11; clear hb11) | (go_at_call 16; refine (VC.out _ (AwS.next hbb S0 B11.out).1).mono ?_; rintro e w12 ⟨rfl, rfl⟩)))
  go_wp2
  go_ret
  exact ⟨rfl, B10.out.trans ((AwS.next hbb S0 B11.out).1.mono B10.out.size)⟩
end Go.Proofs.YtcnffgcegimelaaGreat.So
end
section
/-
  The document's Same, at two slices of the same facts. Conditions: they lie as told, and are not too many.
-/
namespace Go.Proofs.YtcnffgcegimelaaGreat.So
open Go.RowKit Go.Proofs.YtcnffgcegimelaaGreat.Mp Go.Proofs.YtcnffgcegimelaaGreat.Wd Go.Proofs.YtcnffgcegimelaaGreat.Pm Go.Proofs.YtcnffgcegimelaaGreat.Pw

/-- A fact in a slice. -/
def CellsT (w : World) (A : Option Addr) (l : List Tri) : Prop := ∀ i t, l[i]? = some t → ∃ s off, A = some ⟨s, off, none⟩ ∧ s < w.heap.size ∧ ∀ j u, (encT t)[j]? = some u → w.cell? ⟨s, off + i * 3 + j, none⟩ = some u
theorem cellsT_of {w : World} {A : Option Addr} {n cp : Nat} {l : List Tri} (h : G.SlL w encT (.slice A n cp) l) : CellsT w A l := by
  obtain ⟨A', c', hv, _, _, hr⟩ := h
  injection hv with h1 h2 h3
  subst h1
  intro i t ht
  obtain ⟨b, off, rfl, hb, hcl⟩ := hr (fun e => by rw [e] at ht; simp at ht)
  refine ⟨b, off, rfl, hb, fun j u hu => ?_⟩
  have hj : j < 3 := (List.getElem?_eq_some_iff.1 hu).1
  have := hcl (i * 3 + j) u ((G.flat_getElem 3 encT encT_len l i j t ht hj).trans hu)
  rwa [show off + (i * 3 + j) = off + i * 3 + j by omega] at this
set_option maxRecDepth 100000 in
set_option maxHeartbeats 3200000 in
theorem same_tri {w : World} {A B : Option Addr} {n ca cb : Nat} {D : List Tri} (h1 : G.SlL w encT (.slice A n ca) D) (h2 : G.SlL w encT (.slice B n cb) D) (hn : D.length = n) (hn6 : n ≤ 1000000) :
    Calls Tryz.prog 14 #[.slice A n ca, .slice B n cb] w fun e w' => e = .returned (.bool true) ∧ Below w.heap.size w w' := by
  have C1 := Lib.hid (cellsT_of h1)
  have C2 := Lib.hid (cellsT_of h2)
  have HN := Lib.hid hn
  clear h1 h2 hn
  have hne : ((n : Int) != (n : Int)) = false := by simp
  go_enter Tryz.func14, Tryz.ntmps14
  go_wp2
  go_loopg [5] (n + 1) (fun g s5 wr => ∃ k q : Nat, k ≤ n ∧ n - k < g ∧ s5 = .int .i64 k ∧ wr = w.drewN q)
  case atStart => exact ⟨0, 0, by omega, by omega, rfl, rfl⟩
  case round =>
    obtain ⟨k, q, hk, hg, rfl, rfl⟩ := hrel
    by_cases hlt : k < n
    · obtain ⟨T, hT⟩ : ∃ T, D[k]? = some T := ⟨D[k]'(by have := HN.out; omega), List.getElem?_eq_getElem _⟩
      obtain ⟨a, oa, rfl, _, ha⟩ := C1.out k T hT
      obtain ⟨b, ob, rfl, _, hb⟩ := C2.out k T hT
      obtain ⟨x, y, z⟩ := T
      have a0 : (w.drewN q).cell? ⟨a, oa + k * 3, none⟩ = some (.string x) := ha 0 _ rfl
      have a1 : (w.drewN q).cell? ⟨a, oa + k * 3 + 1, none⟩ = some (.string y) := ha 1 _ rfl
      have a2 : (w.drewN q).cell? ⟨a, oa + k * 3 + 2, none⟩ = some (.string z) := ha 2 _ rfl
      have b0 : (w.drewN q).cell? ⟨b, ob + k * 3, none⟩ = some (.string x) := hb 0 _ rfl
      have b1 : (w.drewN q).cell? ⟨b, ob + k * 3 + 1, none⟩ = some (.string y) := hb 1 _ rfl
      have b2 : (w.drewN q).cell? ⟨b, ob + k * 3 + 2, none⟩ = some (.string z) := hb 2 _ rfl
      have qN : ∀ w, (binOp .neq 35 (.agg #[.string x, .string y, .string z]) (.agg #[.string x, .string y, .string z])).run Tryz.prog w = .ok (.bool false) w := fun w => by
        rw [neq_tri, decide_eq_true rfl]; rfl
      have n1 : (k : Int) < (n : Int) := by omega
      have n0 : (0 : Int) ≤ (k : Int) := by omega
      obtain ⟨wq, hwq⟩ : ∃ x, w.drewN q = x := ⟨_, rfl⟩
      rw [hwq] at a0 a1 a2 b0 b1 b2 ⊢
      have HWQ := Lib.hid hwq
      clear ha hb hT hwq
      go_wp2
      go_quiet (fail)
      go_wp2
      go_roundg (n - k)
      case measure => omega
      case rel => exact ⟨k + 1, q + nq, by omega, by omega, by go_num, by rw [← HWQ.out]; exact (World.drewN_drewN _ _ _)⟩
    · have n1 : ¬ (k : Int) < (n : Int) := by omega
      go_wp2
      go_ret
      exact ⟨rfl, below_drewN (Below.refl _ _) _⟩
end Go.Proofs.YtcnffgcegimelaaGreat.So
end
section
/-
  What an argument of changes reads as. Conditions: none.
-/
namespace Go.Proofs.YtcnffgcegimelaaGreat.So
open Go.Deep Go.RowKit Go.Proofs.YtcnffgcegimelaaGreat.Mp Go.Proofs.YtcnffgcegimelaaGreat.Wd Go.Proofs.YtcnffgcegimelaaGreat.Pm Go.Proofs.YtcnffgcegimelaaGreat.Pw Go.Proofs.YtcnffgcegimelaaGreatW.PrintWords Go.WideShapes

theorem cellsTri : Tryz.prog.cellsOf 35 = 3 := by kernel_rfl
theorem cellsCng : Tryz.prog.cellsOf 40 = 4 := by kernel_rfl
def FitT (t : Tri) : Prop := t.S.size ≤ maxLen ∧ t.P.size ≤ maxLen ∧ t.O.size ≤ maxLen
set_option maxRecDepth 100000 in
theorem trod_tri {H : Type} {en : TypeId × Value → H} {w : World} {base : Nat} {sp : Nat → Bool} {held : Bool} {fuel : Nat} {cs : List Value} {y : DataW H × List MemPlace}
    (h : DataW.trod en Tryz.prog w base sp held fuel 35 cs = some y) (hl : cs.length = 3) : ∃ t : Tri, cs = encT t ∧ FitT t := by
  obtain ⟨xs, n, _, rfl, _, hxl, hf⟩ := DataW.trod_struct Tryz.underlying35 h
  obtain ⟨c0, c1, c2, rfl⟩ : ∃ a b c, cs = [a, b, c] := by
    match cs, hl with
    | [a, b, c], _ => exact ⟨a, b, c, rfl⟩
  obtain ⟨x0, x1, x2, rfl⟩ : ∃ a b c, xs = [a, b, c] := by
    match xs, hxl with
    | [a, b, c], _ => exact ⟨a, b, c, rfl⟩
  have e0 : DataW.trod en Tryz.prog w base sp held n 9 [c0] = some x0 := hf 0 _ rfl
  have e1 : DataW.trod en Tryz.prog w base sp held n 9 [c1] = some x1 := hf 1 _ rfl
  have e2 : DataW.trod en Tryz.prog w base sp held n 9 [c2] = some x2 := hf 2 _ rfl
  obtain ⟨a, ha, _, la⟩ := DataW.trod_string Tryz.underlying9 e0
  obtain ⟨b, hb, _, lb⟩ := DataW.trod_string Tryz.underlying9 e1
  obtain ⟨c, hc, _, lc⟩ := DataW.trod_string Tryz.underlying9 e2
  injection ha with ha
  injection hb with hb
  injection hc with hc
  subst ha hb hc
  exact ⟨⟨a, b, c⟩, rfl, la, lb, lc⟩
set_option maxRecDepth 100000 in
theorem trod_cng {H : Type} {en : TypeId × Value → H} {w : World} {base : Nat} {sp : Nat → Bool} {held : Bool} {fuel : Nat} {cs : List Value} {y : DataW H × List MemPlace}
    (h : DataW.trod en Tryz.prog w base sp held fuel 40 cs = some y) (hl : cs.length = 4) : ∃ c : Cng, cs = encC c ∧ FitT c.T := by
  obtain ⟨xs, n, _, rfl, _, hxl, hf⟩ := DataW.trod_struct Tryz.underlying40 h
  obtain ⟨c0, c1, c2, c3, rfl⟩ : ∃ a b c d, cs = [a, b, c, d] := by
    match cs, hl with
    | [a, b, c, d], _ => exact ⟨a, b, c, d, rfl⟩
  obtain ⟨x0, x1, rfl⟩ : ∃ a b, xs = [a, b] := by
    match xs, hxl with
    | [a, b], _ => exact ⟨a, b, rfl⟩
  have e0 : DataW.trod en Tryz.prog w base sp held n 4 [c0] = some x0 := hf 0 _ rfl
  have e1 : DataW.trod en Tryz.prog w base sp held n 35 [c1, c2, c3] = some x1 := hf 1 _ rfl
  obtain ⟨a, ha, _⟩ := DataW.trod_bool Tryz.underlying4 e0
  obtain ⟨t, ht, ft⟩ := trod_tri e1 rfl
  injection ha with ha
  subst ha
  exact ⟨⟨a, t⟩, by rw [ht]; rfl, ft⟩
theorem ok_in {P : Program} {w : World} {b0 : Nat} {t e : TypeId} (hu : P.underlying t = some (.slice e)) {v : Value} (hv : Value.okWide P w .any b0 t v) : ∀ b off n c, v = .slice (some ⟨b, off, none⟩) n c → b < w.heap.size := by
  rintro b off n c rfl
  have hok : w.has P .any b0 ⟨b, off, none⟩ e c := by
    have hv' := hv
    simp only [Value.okWide, hu, Cell.okWide, Cell.ok] at hv'
    exact hv'.2.2
  obtain ⟨_, _, row, cells, hsh, _⟩ := hok
  unfold World.shape? at hsh
  cases e2 : w.heap[b]? with
  | none => simp [e2] at hsh
  | some o => exact (Array.getElem?_eq_some_iff.1 e2).1
set_option maxRecDepth 100000 in
/-- An argument of changes. -/
theorem arg_cngs {H : Type} {en : TypeId × Value → H} {w : World} {base b0 : Nat} {sp : Nat → Bool} {held : Bool} {v : Value} {x : DataW H} {p : List MemPlace}
    (hv : Value.okWide Tryz.prog w .any b0 28 v) (h : DataW.Trod en Tryz.prog w base sp held 28 v x p) : ∃ l : List Cng, G.SlL w encC v l ∧ (∀ c ∈ l, FitT c.T) ∧ ∀ b off n c, v = .slice (some ⟨b, off, none⟩) n c → b < w.heap.size := by
  obtain ⟨l, h1, h2⟩ := G.arg_slice_of encC 4 Tryz.underlying28 cellsCng (fun _ => rfl) (fun c => FitT c.T) (fun fuel cs y hy hl => trod_cng hy hl) hv h
  exact ⟨l, h1, h2, ok_in Tryz.underlying28 hv⟩
end Go.Proofs.YtcnffgcegimelaaGreat.So
end
section
/-
  The law StoreAgain, walked. Conditions: two batches that lie as told.
-/
namespace Go.Proofs.YtcnffgcegimelaaGreat.So
open Go.RowKit Go.Proofs.YtcnffgcegimelaaGreat.Mp Go.Proofs.YtcnffgcegimelaaGreat.Wd Go.Proofs.YtcnffgcegimelaaGreat.Pm Go.Proofs.YtcnffgcegimelaaGreat.Pw

theorem doesL_again (L : List Tri) (l : List Cng) (x : Tri) : x ∈ doesL (doesL L l) l ↔ x ∈ doesL L l := by
  have m1 := mem_doesL l (fun _ => none) L L (by simp) x
  have m2 := mem_doesL l (fun _ => none) (doesL L l) (doesL L l) (by simp) x
  rw [m2, m1]
  constructor
  · rintro (h | ⟨_, h⟩)
    · exact Or.inl h
    · exact h
  · rintro (h | ⟨h1, h2⟩)
    · exact Or.inl h
    · exact Or.inr ⟨h1, Or.inr ⟨h1, h2⟩⟩
theorem again_chk {log : List (List Cng)} {l : List Cng} (h : chkE (allL log) l = 0) : chkE (allL (log ++ [l])) l = 0 := by
  have hn := (ver_ok log).2.1
  rw [allL_snoc]
  have hlen : (doesL (doesL (allL log) l) l).length = (doesL (allL log) l).length := (perm_of_mem (doesL_nodup l _ (doesL_nodup l _ hn)) (doesL_nodup l _ hn) (doesL_again _ l)).length_eq
  unfold chkE at h ⊢
  rwa [hlen]
theorem again_ver (log : List (List Cng)) (l : List Cng) : verL (log ++ [l] ++ [l]) = verL (log ++ [l]) := by
  refine rises_one ltT_swh (ver_ok _).1 (ver_ok _).1 fun x => ?_
  rw [← (ver_ok (log ++ [l] ++ [l])).2.2, ← (ver_ok (log ++ [l])).2.2, allL_snoc, allL_snoc]
  exact doesL_again _ l x
theorem apply_zero {L : List Tri} {len : Nat} {n : Int} {l : List Cng} (h : applyE L len n l = 0) : chkE L l = 0 ∧ n = len + 1 := by
  unfold applyE at h
  split at h
  · cases h
  · split at h
    · cases h
    · rename_i h2
      exact ⟨h, by simpa using h2⟩
theorem apply_is {L : List Tri} {len : Nat} {l : List Cng} (h : chkE L l = 0) : applyE L len (len + 1) l = 0 := by
  unfold applyE
  rw [if_neg (by rw [h]; decide), if_neg (by simp), h]
/-- A batch that was done, done again. -/
theorem again_E {l1 l2 : List Cng} (h : applyE (allL [l1]) 1 2 l2 = 0) : applyE (allL [l1, l2]) 2 3 l2 = 0 := apply_is (len := 2) (again_chk (log := [l1]) (apply_zero h).1)
theorem again_F {l1 l2 : List Cng} : factsL [l1, l2, l2] 3 = verL [l1, l2] := again_ver [l1] l2
theorem ver_le {log : List (List Cng)} {p w0 : Nat} {w : World} {k : SW} (h : At p w0 w k log) : (verL log).length ≤ 4096 := by
  obtain ⟨_, s, h2, rfl⟩ := h
  have := h2.good.now
  rw [ver_len] at this
  exact this
theorem log_one {l : List Cng} {log : List (List Cng)} {n : Int} (h : applyE (allL log) log.length n l = 0) : logA log n l = log ++ [l] := by unfold logA; rw [if_pos h]
theorem log_same {l : List Cng} {log : List (List Cng)} {n : Int} (h : applyE (allL log) log.length n l ≠ 0) : logA log n l = log := by unfold logA; rw [if_neg h]
set_option maxRecDepth 100000 in
set_option maxHeartbeats 3200000 in
theorem again_ok (w : World) (v0 v1 : Value) (l1 l2 : List Cng) (hv0 : G.SlL w encC v0 l1) (hv1 : G.SlL w encC v1 l2) (hi0 : ∀ b off n c, v0 = .slice (some ⟨b, off, none⟩) n c → b < w.heap.size) (hi1 : ∀ b off n c, v1 = .slice (some ⟨b, off, none⟩) n c → b < w.heap.size) :
    Calls Tryz.prog 6 #[v0, v1] w fun e w' => e = .returned (.bool true) ∧ Below w.heap.size w w' := by
  have HA := Lib.hid (And.intro hv0 (And.intro hv1 (And.intro hi0 hi1)))
  obtain ⟨A0, c0, rfl, _⟩ := id hv0
  obtain ⟨A1, c1, rfl, _⟩ := id hv1
  obtain ⟨n0, hn0⟩ : ∃ n, l1.length = n := ⟨_, rfl⟩
  obtain ⟨n1, hn1⟩ : ∃ n, l2.length = n := ⟨_, rfl⟩
  rw [hn0, hn1] at HA ⊢
  clear hv0 hv1 hi0 hi1 hn0 hn1
  obtain ⟨r1, hr1⟩ : ∃ r, applyE (allL []) 0 1 l1 = r := ⟨_, rfl⟩
  have HR1 := Lib.hid hr1
  clear hr1
  by_cases h1 : r1 = 0
  · subst h1
    obtain ⟨r2, hr2⟩ : ∃ r, applyE (allL [l1]) 1 2 l2 = r := ⟨_, rfl⟩
    have HR2 := Lib.hid hr2
    clear hr2
    by_cases h2 : r2 = 0
    · subst h2
      go_enter Tryz.func6, Tryz.ntmps6
      go_wp2_with fail
      refine (new_law _).mono ?_
      rintro e w1 ⟨p, k1, rfl, hk1, hb1⟩
      have K1 := Lib.hid hk1
      have B1 := Lib.hid hb1
      have V0 := Lib.hid (Held.old hk1.sto.choose_spec.1 HA.out.1 (fun b off n c e _ => HA.out.2.2.1 b off n c e) (Nat.le_refl _) hb1)
      have V1 := Lib.hid (Held.old hk1.sto.choose_spec.1 HA.out.2.1 (fun b off n c e _ => HA.out.2.2.2 b off n c e) (Nat.le_refl _) hb1)
      clear hk1 hb1
      go_wp2_with fail
      refine (apply_law K1.out 1 V0.out (by decide) HR1.out (log' := [l1]) (log_one HR1.out)).mono ?_
      rintro e w2 ⟨k2, rfl, hk2, hs2⟩
      have K2 := Lib.hid hk2
      have B2 := Lib.hid (K1.out.since hs2 B1.out (Nat.le_refl _))
      have V2 := Lib.hid (V1.out.step hs2)
      clear hk2 hs2 K1 B1 V0 V1
      go_wp2_with fail
      refine (apply_law K2.out 2 V2.out (by simp) HR2.out (log' := [l1, l2]) (log_one HR2.out)).mono ?_
      rintro e w3 ⟨k3, rfl, hk3, hs3⟩
      have K3 := Lib.hid hk3
      have B3 := Lib.hid (K2.out.since hs3 B2.out (Nat.le_refl _))
      have V3 := Lib.hid (V2.out.step hs3)
      clear hk3 hs3 K2 B2 V2
      obtain ⟨D, hD⟩ : ∃ D, verL [l1, l2] = D := ⟨_, rfl⟩
      obtain ⟨nd, hnd⟩ : ∃ n, D.length = n := ⟨_, rfl⟩
      have HD := Lib.hid (And.intro hD hnd)
      have hd6 : nd ≤ 1000000 := by have := ver_le K3.out; rw [hD] at this; omega
      have HD6 := Lib.hid hd6
      clear hd6
      go_wp2_with fail
      refine (facts_law K3.out 2 (by simp) (r := 0) rfl (D := D) hD).mono ?_
      rw [hnd]
      clear hD hnd
      rintro e w4 ⟨A4, c4, k4, rfl, hk4, hs4, hh4⟩
      have K4 := Lib.hid hk4
      have B4 := Lib.hid (K3.out.since hs4 B3.out (Nat.le_refl _))
      have V4 := Lib.hid (V3.out.step hs4)
      have H4 := Lib.hid hh4
      clear hk4 hs4 hh4 K3 B3 V3
      go_wp2_with fail
      refine (apply_law K4.out 3 V4.out (by simp) (again_E HR2.out) (log' := [l1, l2, l2]) (log_one (again_E HR2.out))).mono ?_
      rintro e w5 ⟨k5, rfl, hk5, hs5⟩
      have K5 := Lib.hid hk5
      have B5 := Lib.hid (K4.out.since hs5 B4.out (Nat.le_refl _))
      have H5 := Lib.hid (H4.out.step hs5)
      clear hk5 hs5 K4 B4 V4 H4
      go_wp2_with fail
      refine (facts_law K5.out 3 (by simp) (r := 0) rfl (D := D) (again_F.trans HD.out.1)).mono ?_
      rw [HD.out.2]
      rintro e w6 ⟨A6, c6, k6, rfl, hk6, hs6, hh6⟩
      have B6 := Lib.hid (K5.out.since hs6 B5.out (Nat.le_refl _))
      have H6 := Lib.hid (And.intro (H5.out.step hs6) hh6)
      clear hk6 hs6 hh6 K5 B5 H5
      go_wp2_with fail
      refine (same_tri H6.out.1.sl H6.out.2.sl HD.out.2 HD6.out).mono ?_
      rintro e w7 ⟨rfl, hb7⟩
      have B7 := Lib.hid (B6.out.trans (hb7.mono B6.out.size))
      clear hb7
      go_wp2_with fail
      refine (awake_ok _).mono ?_
      rintro e w8 ⟨rfl, hb8⟩
      have B8 := Lib.hid (B7.out.trans (hb8.mono B7.out.size))
      clear hb8
      go_wp2
      go_ret
      exact ⟨rfl, B8.out⟩
    · have hne : (r2 != 0) = true := by simpa using h2
      have H2 := Lib.hid h2
      clear h2
      go_enter Tryz.func6, Tryz.ntmps6
      go_wp2_with fail
      refine (new_law _).mono ?_
      rintro e w1 ⟨p, k1, rfl, hk1, hb1⟩
      have K1 := Lib.hid hk1
      have B1 := Lib.hid hb1
      have V0 := Lib.hid (Held.old hk1.sto.choose_spec.1 HA.out.1 (fun b off n c e _ => HA.out.2.2.1 b off n c e) (Nat.le_refl _) hb1)
      have V1 := Lib.hid (Held.old hk1.sto.choose_spec.1 HA.out.2.1 (fun b off n c e _ => HA.out.2.2.2 b off n c e) (Nat.le_refl _) hb1)
      clear hk1 hb1
      go_wp2_with fail
      refine (apply_law K1.out 1 V0.out (by decide) HR1.out (log' := [l1]) (log_one HR1.out)).mono ?_
      rintro e w2 ⟨k2, rfl, hk2, hs2⟩
      have K2 := Lib.hid hk2
      have B2 := Lib.hid (K1.out.since hs2 B1.out (Nat.le_refl _))
      have V2 := Lib.hid (V1.out.step hs2)
      clear hk2 hs2 K1 B1 V0 V1
      go_wp2_with fail
      refine (apply_law K2.out 2 V2.out (by simp) HR2.out rfl).mono ?_
      rintro e w3 ⟨k3, rfl, hk3, hs3⟩
      have B3 := Lib.hid (K2.out.since hs3 B2.out (Nat.le_refl _))
      clear hk3 hs3 K2 B2 V2
      go_wp2_with fail
      refine (awake_ok _).mono ?_
      rintro e w8 ⟨rfl, hb8⟩
      have B8 := Lib.hid (B3.out.trans (hb8.mono B3.out.size))
      clear hb8
      go_wp2
      go_ret
      exact ⟨rfl, B8.out⟩
  · have hne : (r1 != 0) = true := by simpa using h1
    have H1 := Lib.hid h1
    clear h1
    go_enter Tryz.func6, Tryz.ntmps6
    go_wp2_with fail
    refine (new_law _).mono ?_
    rintro e w1 ⟨p, k1, rfl, hk1, hb1⟩
    have K1 := Lib.hid hk1
    have B1 := Lib.hid hb1
    have V0 := Lib.hid (Held.old hk1.sto.choose_spec.1 HA.out.1 (fun b off n c e _ => HA.out.2.2.1 b off n c e) (Nat.le_refl _) hb1)
    clear hk1 hb1
    go_wp2_with fail
    refine (apply_law K1.out 1 V0.out (by decide) HR1.out rfl).mono ?_
    rintro e w2 ⟨k2, rfl, hk2, hs2⟩
    have B2 := Lib.hid (K1.out.since hs2 B1.out (Nat.le_refl _))
    clear hk2 hs2 K1 B1 V0
    go_wp2_with fail
    refine (awake_ok _).mono ?_
    rintro e w8 ⟨rfl, hb8⟩
    have B8 := Lib.hid (B2.out.trans (hb8.mono B2.out.size))
    clear hb8
    go_wp2
    go_ret
    exact ⟨rfl, B8.out⟩
end Go.Proofs.YtcnffgcegimelaaGreat.So
end
section
/-
  StoreWhole, plain: what a batch's last changes do. Conditions: none.
-/
namespace Go.Proofs.YtcnffgcegimelaaGreat.So
open Go.RowKit Go.Proofs.YtcnffgcegimelaaGreat.Mp Go.Proofs.YtcnffgcegimelaaGreat.Wd Go.Proofs.YtcnffgcegimelaaGreat.Pm Go.Proofs.YtcnffgcegimelaaGreat.Pw

/-- Whether none of the changes behind the i-th, ahead of the k-th, speaks of t. -/
def lastU (l : List Cng) (t : Tri) (i k : Nat) : Bool := ((l.take k).drop (i + 1)).all (fun c => !decide (c.T = t))
theorem lastU_start (l : List Cng) (t : Tri) (i : Nat) : lastU l t i (i + 1) = true := by
  unfold lastU
  rw [List.drop_eq_nil_of_le (by rw [List.length_take]; omega)]
  rfl
theorem lastU_step {l : List Cng} {t : Tri} {i k : Nat} {c : Cng} (hi : i < k) (hc : l[k]? = some c) : lastU l t i (k + 1) = (lastU l t i k && !decide (c.T = t)) := by
  have hk : k < l.length := (List.getElem?_eq_some_iff.1 hc).1
  unfold lastU
  rw [take_snoc hc, List.drop_append_of_le_length (by rw [List.length_take]; omega), List.all_append]
  simp
theorem lastF_skip : ∀ (l : List Cng) (g : Tri → Option Bool) (t : Tri), (l.all (fun c => !decide (c.T = t))) = true → lastF g l t = g t
  | [], _, _, _ => rfl
  | c :: r, g, t, h => by
    rw [List.all_cons, Bool.and_eq_true] at h
    have h1 : t ≠ c.T := fun e => by
      have h2 := h.1
      rw [decide_eq_true e.symm] at h2
      cases h2
    have h3 := lastF_skip r (upd g c.T (some (!c.gone))) t h.2
    unfold lastF at h3 ⊢
    rw [List.foldl_cons, h3]
    show (if t = c.T then _ else g t) = g t
    rw [if_neg h1]
theorem lastF_last {l : List Cng} {i : Nat} {c : Cng} (g : Tri → Option Bool) (hc : l[i]? = some c) (h : lastU l c.T i l.length = true) : lastF g l c.T = some (!c.gone) := by
  have hi : i < l.length := (List.getElem?_eq_some_iff.1 hc).1
  have e : l = l.take (i + 1) ++ l.drop (i + 1) := (List.take_append_drop _ _).symm
  unfold lastU at h
  rw [List.take_length] at h
  have h1 : lastF g l c.T = lastF (lastF g (l.take (i + 1))) (l.drop (i + 1)) c.T := by
    unfold lastF
    rw [← List.foldl_append, ← e]
  rw [h1, lastF_skip _ _ _ h, take_snoc hc, lastF_snoc]
  show (if c.T = c.T then _ else _) = _
  rw [if_pos rfl]
theorem last_mem {L : List Tri} {l : List Cng} {i : Nat} {c : Cng} (hc : l[i]? = some c) (h : lastU l c.T i l.length = true) : c.T ∈ doesL L l ↔ c.gone = false := by
  rw [mem_doesL l (fun _ => none) L L (by simp), lastF_last _ hc h]
  cases c.gone <;> simp
theorem isW_has {s : ByteArray} (h : isW s = true) : hasW s = true := by
  unfold isW at h
  simp only [Bool.and_eq_true, decide_eq_true_eq] at h
  have := h.1.1
  unfold hasW
  simp only [bne_iff_ne, ne_eq]
  first | exact this | (intro e; apply this; rw [e]; rfl)
theorem like_self {t x : Tri} (h : isT t = true) : likeB t x = decide (x = t) := by
  unfold isT at h
  simp only [Bool.and_eq_true] at h
  unfold likeB
  rw [isW_has h.1.1, isW_has h.1.2, isW_has h.2]
  obtain ⟨a, b, c⟩ := t
  obtain ⟨x, y, z⟩ := x
  rw [Bool.eq_iff_iff]
  simp only [Bool.not_true, Bool.false_or, Bool.and_eq_true, decide_eq_true_eq, Tri.mk.injEq]
  constructor
  · rintro ⟨⟨rfl, rfl⟩, rfl⟩; exact ⟨rfl, rfl, rfl⟩
  · rintro ⟨rfl, rfl, rfl⟩; exact ⟨⟨rfl, rfl⟩, rfl⟩
theorem filter_one {l : List Tri} (hn : l.Nodup) (t : Tri) : (l.filter (fun x => decide (x = t))) = if t ∈ l then [t] else [] := by
  induction l with
  | nil => rfl
  | cons a r ih =>
    rw [List.nodup_cons] at hn
    rw [List.filter_cons, ih hn.2]
    by_cases e : a = t
    · subst e
      simp [hn.1]
    · have e2 : ¬ t = a := fun h => e h.symm
      simp [e, e2]
theorem match_self {log : List (List Cng)} {n : Int} {t : Tri} (hn : 0 ≤ n ∧ n ≤ log.length) (h : isT t = true) : matchL log n t = if t ∈ factsL log n then [t] else [] := by
  unfold matchL
  rw [show likeB t = fun x => decide (x = t) from funext fun x => like_self h]
  refine filter_one ?_ t
  unfold factsL
  rw [if_pos hn]
  exact (ver_ok _).1.nodup ltT_swh
theorem may_word {l : List Cng} {i : Nat} {c : Cng} (h : May l) (hc : l[i]? = some c) : isT c.T = true := by
  have h4 := List.any_eq_false.1 h.2 c (List.mem_of_getElem? hc)
  cases hh : isT c.T with
  | true => rfl
  | false => rw [hh] at h4; exact absurd rfl h4
end Go.Proofs.YtcnffgcegimelaaGreat.So
end
