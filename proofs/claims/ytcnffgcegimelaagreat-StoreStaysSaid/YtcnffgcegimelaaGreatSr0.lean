/-
  What an argument of changes reads as. Conditions: none.
-/
import Derived.Test.YtcnffgcegimelaaGreatSy2
import Derived.ChangeArms
import Derived.WideShapes
namespace Go.Proofs.YtcnffgcegimelaaGreat.So
open Go.Deep Go.RowKit Go.Proofs.YtcnffgcegimelaaGreat.Mp Go.Proofs.YtcnffgcegimelaaGreat.Wd Go.Proofs.YtcnffgcegimelaaGreat.Pm Go.Proofs.YtcnffgcegimelaaGreat.Pw Go.Proofs.YtcnffgcegimelaaGreatW.PrintWords Go.WideShapes

theorem cellsTri : Tryz.prog.cellsOf 35 = 3 := by kernel_rfl
theorem cellsCng : Tryz.prog.cellsOf 40 = 4 := by kernel_rfl
def FitT (t : Tri) : Prop := t.S.size ≤ maxLen ∧ t.P.size ≤ maxLen ∧ t.O.size ≤ maxLen
set_option maxRecDepth 100000 in
theorem trod_tri {H : Type} {en : TypeId × Value → H} {w : World} {base : Nat} {sp : Nat → Bool} {held : Bool} {fuel : Nat} {cs : List Value} {y : DataW H × List MemPlace}
    (h : DataW.trod en Tryz.prog w base sp held fuel 35 cs = some y) (hl : cs.length = 3) : ∃ t : Tri, cs = encT t ∧ FitT t := by
  obtain ⟨xs, n, _, rfl, _, hxl, hf⟩ := DataW.trod_struct Tryz.underlying35 h
  obtain ⟨c0, c1, c2, rfl⟩ : ∃ a b c, cs = [a, b, c] := by
    match cs, hl with
    | [a, b, c], _ => exact ⟨a, b, c, rfl⟩
  obtain ⟨x0, x1, x2, rfl⟩ : ∃ a b c, xs = [a, b, c] := by
    match xs, hxl with
    | [a, b, c], _ => exact ⟨a, b, c, rfl⟩
  have e0 : DataW.trod en Tryz.prog w base sp held n 9 [c0] = some x0 := hf 0 _ rfl
  have e1 : DataW.trod en Tryz.prog w base sp held n 9 [c1] = some x1 := hf 1 _ rfl
  have e2 : DataW.trod en Tryz.prog w base sp held n 9 [c2] = some x2 := hf 2 _ rfl
  obtain ⟨a, ha, _, la⟩ := DataW.trod_string Tryz.underlying9 e0
  obtain ⟨b, hb, _, lb⟩ := DataW.trod_string Tryz.underlying9 e1
  obtain ⟨c, hc, _, lc⟩ := DataW.trod_string Tryz.underlying9 e2
  injection ha with ha
  injection hb with hb
  injection hc with hc
  subst ha hb hc
  exact ⟨⟨a, b, c⟩, rfl, la, lb, lc⟩
set_option maxRecDepth 100000 in
theorem trod_cng {H : Type} {en : TypeId × Value → H} {w : World} {base : Nat} {sp : Nat → Bool} {held : Bool} {fuel : Nat} {cs : List Value} {y : DataW H × List MemPlace}
    (h : DataW.trod en Tryz.prog w base sp held fuel 40 cs = some y) (hl : cs.length = 4) : ∃ c : Cng, cs = encC c ∧ FitT c.T := by
  obtain ⟨xs, n, _, rfl, _, hxl, hf⟩ := DataW.trod_struct Tryz.underlying40 h
  obtain ⟨c0, c1, c2, c3, rfl⟩ : ∃ a b c d, cs = [a, b, c, d] := by
    match cs, hl with
    | [a, b, c, d], _ => exact ⟨a, b, c, d, rfl⟩
  obtain ⟨x0, x1, rfl⟩ : ∃ a b, xs = [a, b] := by
    match xs, hxl with
    | [a, b], _ => exact ⟨a, b, rfl⟩
  have e0 : DataW.trod en Tryz.prog w base sp held n 4 [c0] = some x0 := hf 0 _ rfl
  have e1 : DataW.trod en Tryz.prog w base sp held n 35 [c1, c2, c3] = some x1 := hf 1 _ rfl
  obtain ⟨a, ha, _⟩ := DataW.trod_bool Tryz.underlying4 e0
  obtain ⟨t, ht, ft⟩ := trod_tri e1 rfl
  injection ha with ha
  subst ha
  exact ⟨⟨a, t⟩, by rw [ht]; rfl, ft⟩
theorem ok_in {P : Program} {w : World} {b0 : Nat} {t e : TypeId} (hu : P.underlying t = some (.slice e)) {v : Value} (hv : Value.okWide P w .any b0 t v) : ∀ b off n c, v = .slice (some ⟨b, off, none⟩) n c → b < w.heap.size := by
  rintro b off n c rfl
  have hok : w.has P .any b0 ⟨b, off, none⟩ e c := by
    have hv' := hv
    simp only [Value.okWide, hu, Cell.okWide, Cell.ok] at hv'
    exact hv'.2.2
  obtain ⟨_, _, row, cells, hsh, _⟩ := hok
  unfold World.shape? at hsh
  cases e2 : w.heap[b]? with
  | none => simp [e2] at hsh
  | some o => exact (Array.getElem?_eq_some_iff.1 e2).1
set_option maxRecDepth 100000 in
/-- An argument of changes. -/
theorem arg_cngs {H : Type} {en : TypeId × Value → H} {w : World} {base b0 : Nat} {sp : Nat → Bool} {held : Bool} {v : Value} {x : DataW H} {p : List MemPlace}
    (hv : Value.okWide Tryz.prog w .any b0 28 v) (h : DataW.Trod en Tryz.prog w base sp held 28 v x p) : ∃ l : List Cng, G.SlL w encC v l ∧ (∀ c ∈ l, FitT c.T) ∧ ∀ b off n c, v = .slice (some ⟨b, off, none⟩) n c → b < w.heap.size := by
  obtain ⟨l, h1, h2⟩ := G.arg_slice_of encC 4 Tryz.underlying28 cellsCng (fun _ => rfl) (fun c => FitT c.T) (fun fuel cs y hy hl => trod_cng hy hl) hv h
  exact ⟨l, h1, h2, ok_in Tryz.underlying28 hv⟩
end Go.Proofs.YtcnffgcegimelaaGreat.So
