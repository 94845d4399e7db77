/-
  The law of walks: all arguments; what they are in memory. Conditions: as each says.
-/
import Derived.Test.YthapkpgkcckapaaPf8
import Derived.Test.YthapkpgkcckapaaG2
import Derived.Test.YthapkpgkcckapaaArgs2
namespace Go.Proofs.Ythapkpgkcckapaa.Pw
open Go.RowKit Go.Proofs.YthapkpgkcckapaaW.PrintWords Go.Proofs.Ythapkpgkcckapaa.Pm Go.WideShapes Go.ChangeShapes

theorem walks_calls (w : World) (v sv : Value) (l : List R3) (sl : List (Int × Int)) (x y z : Int) (hv : SlR w v l) (hs : SlS w sv sl) (hsm : l.length * 24 ≤ 140737488355328) (h64 : ∀ x ∈ l, In64 x.a ∧ In64 x.b ∧ In64 x.c) :
    Calls Try.prog 3 #[v, .agg #[.int .i64 x, .int .i64 y, .int .i64 z], sv] w fun e w' => e = .returned (.bool true) ∧ Below w.heap.size w w' := by
  have hv' := hv
  obtain ⟨A, c, rfl, _, _⟩ := hv'
  have hs' := hs
  obtain ⟨S, sc, rfl, _⟩ := hs'
  cases h : isOrd x y z with
  | false => exact walks_no w A _ c x y z S _ sc h
  | true =>
    obtain ⟨h6, hx, hy, hz⟩ := isOrd_six h
    rw [hx, hy, hz]
    by_cases hl : l.length ≤ 60
    · exact walks_short w A _ c l _ h6 S _ sc sl rfl hv hl hs h64
    · exact walks_long w A _ c l _ h6 S _ sc rfl hv hsm (by omega)

theorem wf64 {n : Int} (h : (Lit.int .i64 n).wf = true) : In64 n := by
  simp only [Lit.wf, Bool.and_eq_true, decide_eq_true_eq] at h
  have e1 : IntKind.i64.min = -9223372036854775808 := by decide
  have e2 : IntKind.i64.max = 9223372036854775807 := by decide
  rw [e1, e2] at h
  exact h

theorem trod_int_one {P : Program} {t3 : TypeId} (u3 : P.underlying t3 = some (.int .i64)) {H : Type} {enc : TypeId × Value → H} {w : World} {base : Nat} {sp : Nat → Bool} {held : Bool} {fuel : Nat} {u : Value} {x : DataW H × List MemPlace} (h : DataW.trod enc P w base sp held fuel t3 [u] = some x) : ∃ a, u = .int .i64 a ∧ In64 a := by
  obtain ⟨n, hn, _, hw⟩ := DataW.trod_int u3 h
  exact ⟨n, by simpa using hn, wf64 hw⟩
theorem trod_three64 {P : Program} {t3 t23 : TypeId} (u3 : P.underlying t3 = some (.int .i64)) (u23 : P.underlying t23 = some (.array 3 t3)) (c3 : P.cellsOf t3 = 1) (c23 : P.cellsOf t23 = 3) {H : Type} {enc : TypeId × Value → H} {w : World} {base : Nat} {sp : Nat → Bool} {held : Bool} (fuel : Nat) (cs : List Value) (x : DataW H × List MemPlace)
    (h : DataW.trod enc P w base sp held fuel t23 cs = some x) (hl3 : cs.length = 3) : ∃ r : R3, cs = enc3 r ∧ (In64 r.a ∧ In64 r.b ∧ In64 r.c) := by
  obtain ⟨xs, m, _, _, hl, hn, hi⟩ := DataW.trod_array u23 h
  rw [c3] at hi
  obtain ⟨p, q, r, rfl⟩ : ∃ p q r, cs = [p, q, r] := by
    match cs, hl3 with
    | [p, q, r], _ => exact ⟨p, q, r, rfl⟩
  have g : ∀ i v, i < 3 → (([p, q, r].drop (i * 1)).take 1) = [v] → ∃ a, v = .int .i64 a ∧ In64 a := by
    intro i v hi3 hv
    have := hi i hi3
    rw [hv, List.getElem?_eq_getElem (by omega)] at this
    exact trod_int_one u3 this
  obtain ⟨a, rfl, ha⟩ := g 0 p (by omega) rfl
  obtain ⟨b, rfl, hb⟩ := g 1 q (by omega) rfl
  obtain ⟨c, rfl, hc⟩ := g 2 r (by omega) rfl
  exact ⟨⟨a, b, c⟩, rfl, ha, hb, hc⟩
theorem trod_step {P : Program} {t3 t41 : TypeId} {f0 f1 : Field} (u3 : P.underlying t3 = some (.int .i64)) (u41 : P.underlying t41 = some (.struct #[f0, f1])) (c3 : P.cellsOf t3 = 1) (h0 : f0.type = t3) (h1 : f1.type = t3) (o0 : f0.offset = 0) (o1 : f1.offset = 1) {H : Type} {enc : TypeId × Value → H} {w : World} {base : Nat} {sp : Nat → Bool} {held : Bool} (fuel : Nat) (cs : List Value) (x : DataW H × List MemPlace)
    (h : DataW.trod enc P w base sp held fuel t41 cs = some x) (hl : cs.length = 2) : ∃ r : Int × Int, cs = encS r ∧ True := by
  obtain ⟨y0, y1, n, _, _, g0, g1⟩ := trod_struct2 u41 h
  obtain ⟨p, q, rfl⟩ : ∃ p q, cs = [p, q] := by
    match cs, hl with
    | [p, q], _ => exact ⟨p, q, rfl⟩
  rw [h0, o0, c3] at g0
  rw [h1, o1, c3] at g1
  obtain ⟨a, rfl, _⟩ := trod_int_one u3 g0
  obtain ⟨b, rfl, _⟩ := trod_int_one u3 g1
  exact ⟨(a, b), rfl, trivial⟩

theorem rows_eq {w : World} {v : Value} {l l' : List R3} (h : SlR w v l) (h' : G.SlL w enc3 v l') : l = l' := by
  obtain ⟨A, c, rfl, _, hr⟩ := h
  have hlen : l.length = l'.length := by
    obtain ⟨A', c', hv, _⟩ := h'
    injection hv
  apply List.ext_getElem hlen
  intro k h1 h2
  obtain ⟨b, off, c', hv, hb, hcl⟩ := G.SlL.at_ (k := 3) h' (fun _ => rfl) k (l'[k]) (List.getElem?_eq_getElem h2)
  injection hv with e1 e2 e3
  subst e1
  rcases hr with ⟨e, _⟩ | ⟨b', off', e, _, hrows⟩
  · cases e
  · injection e with e
    injection e with e4 e5
    subst e4 e5
    have hd : l.getD k r0 = l[k] := by rw [List.getD_eq_getElem?_getD, List.getElem?_eq_getElem h1]; rfl
    have g : ∀ i, i < 3 → (l[k]).at i = (l'[k]).at i := fun i hi => by
      have a := hrows k i h1 hi
      have b := hcl i (.int .i64 ((l'[k]).at i)) (by obtain rfl | rfl | rfl : i = 0 ∨ i = 1 ∨ i = 2 := by omega
                                                     all_goals rfl)
      rw [a] at b
      rw [hd] at b
      injection b with b
      injection b
    have e0 := g 0 (by omega)
    have e1 := g 1 (by omega)
    have e2 := g 2 (by omega)
    generalize l[k] = u at *
    generalize l'[k] = u' at *
    obtain ⟨a, b, c⟩ := u
    obtain ⟨a', b', c'⟩ := u'
    simp [R3.at] at e0 e1 e2
    rw [e0, e1, e2]

theorem cells41 : Try.prog.cellsOf 41 = 2 := by kernel_rfl
set_option maxRecDepth 100000 in
theorem arg_rows64 {H : Type} {enc : TypeId × Value → H} {w : World} {base b0 : Nat} {sp : Nat → Bool} {held : Bool} {v : Value} {x : DataW H} {p : List MemPlace}
    (hv : Value.okWide Try.prog w .any b0 22 v) (h : DataW.Trod enc Try.prog w base sp held 22 v x p) : ∃ l, SlR w v l ∧ ∀ x ∈ l, In64 x.a ∧ In64 x.b ∧ In64 x.c := by
  obtain ⟨l, hl, _⟩ := arg_rows hv h
  obtain ⟨l', hl', h64⟩ := G.arg_slice_of enc3 3 Try.underlying22 cells23 (fun _ => rfl) (fun x : R3 => In64 x.a ∧ In64 x.b ∧ In64 x.c) (fun fuel cs y => trod_three64 Try.underlying3 Try.underlying23 cells3 cells23 fuel cs y) hv h
  rw [← rows_eq hl hl'] at h64
  exact ⟨l, hl, h64⟩
set_option maxRecDepth 100000 in
theorem arg_steps {H : Type} {enc : TypeId × Value → H} {w : World} {base b0 : Nat} {sp : Nat → Bool} {held : Bool} {v : Value} {x : DataW H} {p : List MemPlace}
    (hv : Value.okWide Try.prog w .any b0 24 v) (h : DataW.Trod enc Try.prog w base sp held 24 v x p) : ∃ l, SlS w v l := by
  obtain ⟨l, hl, _⟩ := G.arg_slice_of encS 2 Try.underlying24 cells41 encS_len (fun _ : Int × Int => True) (fun fuel cs y => trod_step Try.underlying3 Try.underlying41 cells3 rfl rfl rfl rfl fuel cs y) hv h
  exact ⟨l, hl⟩
end Go.Proofs.Ythapkpgkcckapaa.Pw
