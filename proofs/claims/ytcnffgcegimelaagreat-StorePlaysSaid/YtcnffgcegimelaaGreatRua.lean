/-
  What StorePlays' arguments read as. Conditions: none.
-/
import Derived.Test.YtcnffgcegimelaaGreatRu9
import Derived.Test.YtcnffgcegimelaaGreatJ0
import Derived.ChangeArms
import Derived.WideShapes
namespace Go.Proofs.YtcnffgcegimelaaGreat.So
open Go.Deep Go.RowKit Go.Proofs.YtcnffgcegimelaaGreat.Mp Go.Proofs.YtcnffgcegimelaaGreat.Wd Go.Proofs.YtcnffgcegimelaaGreat.Pm Go.Proofs.YtcnffgcegimelaaGreat.Pw Go.Proofs.YtcnffgcegimelaaGreatW.PrintWords Go.WideShapes

/-- A slice that comes in is not too long. -/
theorem sl_max {α : Type} {P : Program} {t e : TypeId} {enc : α → List Value} (hu : P.underlying t = some (.slice e)) {H : Type} {en : TypeId × Value → H} {w : World} {base : Nat} {sp : Nat → Bool} {held : Bool} {fuel : Nat} {v : Value} {l : List α} {x : DataW H × List MemPlace}
    (h : DataW.trod en P w base sp held fuel t [v] = some x) (hs : G.SlL w enc v l) : l.length ≤ 9223372036854775807 := by
  obtain ⟨A, c, rfl, _⟩ := hs
  rcases open_slice hu h with ⟨e, _⟩ | ⟨a, n, c', m, k', D, Pl, e, _, hl, hm, _⟩
  · injection e with e1 _
    injection e1 with _ e2 _
    omega
  · injection e with e1 _
    injection e1 with _ e2 _
    unfold maxLen at hm
    omega
set_option maxRecDepth 100000 in
/-- An argument of batches, none too long. -/
theorem arg_batches2 {H : Type} {en : TypeId × Value → H} {w : World} {base b0 : Nat} {sp : Nat → Bool} {held : Bool} {v : Value} {x : DataW H} {p : List MemPlace}
    (hv : Value.okWide Tryz.prog w .any b0 22 v) (h : DataW.Trod en Tryz.prog w base sp held 22 v x p) : ∃ l : List BV, G.SlL w encV v l ∧ ∀ b ∈ l, BIn w b ∧ b.l.length ≤ 9223372036854775807 := by
  obtain ⟨A, n, c, rfl⟩ := okWide_slice Tryz.underlying22 hv
  obtain ⟨fuel, hf⟩ := h
  obtain ⟨v2, l, hv2, h1, h2⟩ := sl_of encV 1 (by omega) Tryz.underlying22 cellsBt (fun _ => rfl) (fun b => BIn w b ∧ b.l.length ≤ 9223372036854775807) (fun fuel cs y hy hl => by
    obtain ⟨v3, l3, rfl, h4, h5⟩ := sl_of encC 4 (by omega) Tryz.underlying28 cellsCng (fun _ => rfl) (fun c => FitT c.T) (fun fuel cs y hy hl => trod_cng hy hl) hy
    have h6 := sl_max Tryz.underlying28 hy h4
    obtain ⟨A3, c3, rfl, _⟩ := id h4
    exact ⟨⟨⟨A3, l3.length, c3⟩, l3⟩, rfl, ⟨h4, rfl, h5⟩, h6⟩) hf
  simp only [Value.cells, List.cons.injEq, and_true] at hv2
  subst hv2
  exact ⟨l, h1, h2⟩
theorem cellsInt : Tryz.prog.cellsOf 3 = 1 := by kernel_rfl
set_option maxRecDepth 100000 in
/-- An argument of numbers. -/
theorem arg_ints {H : Type} {en : TypeId × Value → H} {w : World} {base b0 : Nat} {sp : Nat → Bool} {held : Bool} {v : Value} {x : DataW H} {p : List MemPlace}
    (hv : Value.okWide Tryz.prog w .any b0 50 v) (h : DataW.Trod en Tryz.prog w base sp held 50 v x p) : ∃ l : List Int, G.SlL w encN v l := by
  obtain ⟨l, h1, _⟩ := G.arg_slice_of encN 1 Tryz.underlying50 cellsInt (fun _ => rfl) (fun _ => True) (fun fuel cs y hy hl => by
    obtain ⟨a, ha, _⟩ := DataW.trod_int Tryz.underlying3 hy
    exact ⟨a, ha, trivial⟩) hv h
  exact ⟨l, h1⟩
set_option maxRecDepth 100000 in
/-- An argument that is a triple. -/
theorem arg_tri {H : Type} {en : TypeId × Value → H} {w : World} {base b0 : Nat} {sp : Nat → Bool} {held : Bool} {v : Value} {x : DataW H} {p : List MemPlace}
    (hv : Value.okWide Tryz.prog w .any b0 35 v) (h : DataW.Trod en Tryz.prog w base sp held 35 v x p) : ∃ a b c : ByteArray, v = .agg #[.string a, .string b, .string c] ∧ FitT ⟨a, b, c⟩ := by
  have hv' := hv
  simp only [Value.okWide, Tryz.underlying35] at hv'
  obtain ⟨cs, rfl, hsz, _⟩ := hv'
  obtain ⟨fuel, hf⟩ := h
  have hsz3 : cs.toList.length = 3 := by
    first
      | (have h3 := hsz; rw [cellsTri] at h3; simpa using h3)
      | (simpa using hsz)
  obtain ⟨t, e, hft⟩ := trod_tri hf (by simpa [Value.cells] using hsz3)
  refine ⟨t.S, t.P, t.O, ?_, hft⟩
  simp only [Value.cells] at e
  rw [← Array.toArray_toList (xs := cs), e]
  rfl
end Go.Proofs.YtcnffgcegimelaaGreat.So
