/-
  What an argument of rows, or of an order, is in memory. No condition.
-/
import Derived.Test.YthapkpgkcckapaaPa7
import Derived.Test.YthapkpgkcckapaaOpens
import Derived.OpenShut
namespace Go.Proofs.Ythapkpgkcckapaa.Pw
open Go.Deep Go.RowKit Go.Proofs.YthapkpgkcckapaaW.PrintWords Go.Proofs.Ythapkpgkcckapaa.Pm Go.WideShapes

/-- The number in a cell. -/
def intAt (w : World) (b o : Nat) : Int := match w.cell? ⟨b, o, none⟩ with
  | some (.int .i64 n) => n
  | _ => 0
theorem intAt_some {w : World} {b o : Nat} {x : Int} (h : w.cell? ⟨b, o, none⟩ = some (.int .i64 x)) : w.cell? ⟨b, o, none⟩ = some (.int .i64 (intAt w b o)) := by
  unfold intAt; rw [h]
def readRows (w : World) (b off n : Nat) : List R3 := (List.range n).map fun k => ⟨intAt w b (off + k * 3), intAt w b (off + k * 3 + 1), intAt w b (off + k * 3 + 2)⟩
theorem readRows_len (w : World) (b off n : Nat) : (readRows w b off n).length = n := by simp [readRows]
theorem readRows_at (w : World) (b off n : Nat) (h : ∀ j, j < n * 3 → ∃ x, w.cell? ⟨b, off + j, none⟩ = some (.int .i64 x)) : RowsAt w b off (readRows w b off n) := by
  intro k i hk hi
  rw [readRows_len] at hk
  have e : (readRows w b off n).getD k r0 = ⟨intAt w b (off + k * 3), intAt w b (off + k * 3 + 1), intAt w b (off + k * 3 + 2)⟩ := by
    unfold readRows
    rw [List.getD_eq_getElem?_getD, List.getElem?_map, List.getElem?_range hk]
    rfl
  rw [e]
  obtain ⟨x, hx⟩ := h (k * 3 + i) (by omega)
  rw [← Nat.add_assoc] at hx
  rw [intAt_some hx]
  obtain rfl | rfl | rfl : i = 0 ∨ i = 1 ∨ i = 2 := by omega
  all_goals rfl

theorem trod_three_of {P : Program} {t3 t23 : TypeId} (u3 : P.underlying t3 = some (.int .i64)) (u23 : P.underlying t23 = some (.array 3 t3)) (c3 : P.cellsOf t3 = 1) (c23 : P.cellsOf t23 = 3) {H : Type} {enc : TypeId × Value → H} {w : World} {base : Nat} {sp : Nat → Bool} {held : Bool} {fuel : Nat} {cs : List Value} {x : DataW H × List MemPlace}
    (h : DataW.trod enc P w base sp held fuel t23 cs = some x) : ∃ a b c, cs = [.int .i64 a, .int .i64 b, .int .i64 c] := by
  obtain ⟨xs, m, _, _, hl, hn, hi⟩ := DataW.trod_array u23 h
  rw [c23] at hl
  rw [c3] at hi
  obtain ⟨p, q, r, rfl⟩ : ∃ p q r, cs = [p, q, r] := by
    match cs, hl with
    | [p, q, r], _ => exact ⟨p, q, r, rfl⟩
  have g : ∀ i v, i < 3 → (([p, q, r].drop (i * 1)).take 1) = [v] → ∃ a, v = .int .i64 a := by
    intro i v hi3 hv
    have := hi i hi3
    rw [hv, List.getElem?_eq_getElem (by omega)] at this
    obtain ⟨n, hn, _⟩ := DataW.trod_int u3 this
    exact ⟨n, by simpa using hn⟩
  obtain ⟨a, rfl⟩ := g 0 p (by omega) rfl
  obtain ⟨b, rfl⟩ := g 1 q (by omega) rfl
  obtain ⟨c, rfl⟩ := g 2 r (by omega) rfl
  exact ⟨a, b, c, rfl⟩

/-- An argument that is rows. -/
theorem arg_rows_of {P : Program} {t3 t22 t23 : TypeId} (u3 : P.underlying t3 = some (.int .i64)) (u22 : P.underlying t22 = some (.slice t23)) (u23 : P.underlying t23 = some (.array 3 t3)) (c3 : P.cellsOf t3 = 1) (c23 : P.cellsOf t23 = 3) {H : Type} {enc : TypeId × Value → H} {w : World} {base b0 : Nat} {sp : Nat → Bool} {held : Bool} {v : Value} {x : DataW H} {p : List MemPlace}
    (hv : Value.okWide P w .any b0 t22 v) (h : DataW.Trod enc P w base sp held t22 v x p) : ∃ l, SlR w v l ∧ l.length ≤ 9223372036854775807 := by
  obtain ⟨A, n, c, rfl⟩ := okWide_slice u22 hv
  obtain ⟨fuel, hf⟩ := h
  rcases open_slice u22 hf with ⟨h1, _⟩ | ⟨a, len, cap, m, k, D, Pl, h1, _, hl, hm, hmm, _, hi⟩
  · simp [Value.cells] at h1
    obtain ⟨rfl, rfl, rfl⟩ := h1
    exact ⟨[], ⟨none, 0, rfl, Nat.le_refl _, .inl ⟨rfl, rfl⟩⟩, by simp⟩
  · simp only [Value.cells, List.cons.injEq, Value.slice.injEq, and_true] at h1
    obtain ⟨rfl, rfl, rfl⟩ := h1
    have hok : w.has P .any b0 a t23 c := by
      have hv' := hv
      simp only [Value.okWide, u22, Cell.okWide, Cell.ok] at hv'
      exact hv'.2.2
    obtain ⟨_, hspot, row, cells, hsh, _⟩ := hok
    obtain ⟨b, off, spot⟩ := a
    simp only at hspot hsh
    subst hspot
    have hb : b < w.heap.size := by
      unfold World.shape? at hsh
      cases e : w.heap[b]? with
      | none => rw [e] at hsh; simp at hsh
      | some o => exact (Array.getElem?_eq_some_iff.1 e).1
    unfold maxLen at hm
    have hlm : n ≤ m := by rw [hmm]; split <;> omega
    rw [c23] at hi
    have hcell : ∀ j, j < n * 3 → ∃ x, w.cell? ⟨b, off + j, none⟩ = some (.int .i64 x) := by
      intro j hj
      obtain ⟨cs', h1, h2⟩ := hi (j / 3) (by omega)
      obtain ⟨_, hcl, hcell⟩ := World.cells?_some h1
      obtain ⟨p, q, r, rfl⟩ := trod_three_of u3 u23 c3 c23 h2
      have := hcell (j % 3) (Nat.mod_lt _ (by omega))
      rw [Go.Deep.add_add] at this
      have ea : (Addr.add ⟨b, off, none⟩ (j / 3 * 3 + j % 3)) = ⟨b, off + j, none⟩ := by
        rw [show j / 3 * 3 + j % 3 = j by omega]
        unfold Addr.add
        split
        · rename_i h0; subst h0; rfl
        · rfl
      rw [ea] at this
      rw [this]
      have hm3 : j % 3 = 0 ∨ j % 3 = 1 ∨ j % 3 = 2 := by omega
      rcases hm3 with e | e | e <;> rw [e]
      · exact ⟨p, rfl⟩
      · exact ⟨q, rfl⟩
      · exact ⟨r, rfl⟩
    have hlen := readRows_len w b off n
    exact ⟨readRows w b off n, ⟨some ⟨b, off, none⟩, c, by rw [hlen], by omega, .inr ⟨b, off, rfl, hb, readRows_at w b off n hcell⟩⟩, by omega⟩

/-- An argument that is three numbers. -/
theorem arg_three_of {P : Program} {t3 t23 : TypeId} (u3 : P.underlying t3 = some (.int .i64)) (u23 : P.underlying t23 = some (.array 3 t3)) (c3 : P.cellsOf t3 = 1) (c23 : P.cellsOf t23 = 3) {H : Type} {enc : TypeId × Value → H} {w : World} {base b0 : Nat} {sp : Nat → Bool} {held : Bool} {v : Value} {x : DataW H} {p : List MemPlace}
    (hv : Value.okWide P w .any b0 t23 v) (h : DataW.Trod enc P w base sp held t23 v x p) : ∃ a b c, v = .agg #[.int .i64 a, .int .i64 b, .int .i64 c] := by
  have hv' := hv
  simp only [Value.okWide, u23] at hv'
  obtain ⟨cs, rfl, _, _⟩ := hv'
  obtain ⟨fuel, hf⟩ := h
  obtain ⟨a, b, c, e⟩ := trod_three_of u3 u23 c3 c23 hf
  refine ⟨a, b, c, ?_⟩
  simp only [Value.cells] at e
  rw [← Array.toArray_toList (xs := cs), e]

theorem cells3 : Try.prog.cellsOf 3 = 1 := by kernel_rfl
theorem cells23 : Try.prog.cellsOf 23 = 3 := by kernel_rfl
set_option maxRecDepth 100000 in
theorem arg_rows {H : Type} {enc : TypeId × Value → H} {w : World} {base b0 : Nat} {sp : Nat → Bool} {held : Bool} {v : Value} {x : DataW H} {p : List MemPlace}
    (hv : Value.okWide Try.prog w .any b0 22 v) (h : DataW.Trod enc Try.prog w base sp held 22 v x p) : ∃ l, SlR w v l ∧ l.length ≤ 9223372036854775807 :=
  arg_rows_of (t3 := 3) (t23 := 23) Try.underlying3 Try.underlying22 Try.underlying23 cells3 cells23 hv h
set_option maxRecDepth 100000 in
theorem arg_three {H : Type} {enc : TypeId × Value → H} {w : World} {base b0 : Nat} {sp : Nat → Bool} {held : Bool} {v : Value} {x : DataW H} {p : List MemPlace}
    (hv : Value.okWide Try.prog w .any b0 23 v) (h : DataW.Trod enc Try.prog w base sp held 23 v x p) : ∃ a b c, v = .agg #[.int .i64 a, .int .i64 b, .int .i64 c] :=
  arg_three_of (t3 := 3) Try.underlying3 Try.underlying23 cells3 cells23 hv h
end Go.Proofs.Ythapkpgkcckapaa.Pw
