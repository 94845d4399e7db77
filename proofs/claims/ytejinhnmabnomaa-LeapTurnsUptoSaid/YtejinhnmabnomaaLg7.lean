/-
  What arguments are, where what comes in is of a known bulk: relations, numbers. Conditions: none.
-/
import Derived.Test.YtejinhnmabnomaaRows
import Derived.Test.YtejinhnmabnomaaJe
namespace Go.Proofs.Ytejinhnmabnomaa.Lf
open Go.Deep Go.RowKit Go.Proofs.YtejinhnmabnomaaW.PrintWords Go.Proofs.Ytejinhnmabnomaa.Pm Go.Proofs.Ytejinhnmabnomaa.Pw Go.WideShapes
open Go.Proofs.Ytejinhnmabnomaa.Rows (uptoBulk uptoBulkAll uptoSmall)

theorem bulk_one {H : Type} (d : DataW H) : 1 ≤ uptoBulk d := by
  cases d with
  | lit l => cases l <;> simp [uptoBulk]
  | nil => simp [uptoBulk]
  | ptr d => simp [uptoBulk]
  | slice elems spare => simp [uptoBulk]
  | agg parts => simp [uptoBulk]
  | iface t d => simp [uptoBulk]
  | map entries => simp [uptoBulk]
  | held h => simp [uptoBulk]
theorem bulk_part {H : Type} {d : DataW H} {l : List (DataW H)} (h : d ∈ l) : uptoBulk d ≤ uptoBulkAll l := by
  induction l with
  | nil => cases h
  | cons x r ih =>
    simp only [uptoBulkAll]
    cases List.mem_cons.1 h with
    | inl e => subst e; omega
    | inr e => have := ih e; omega
theorem bulk_len {H : Type} (l : List (DataW H)) : l.length ≤ uptoBulkAll l := by
  induction l with
  | nil => simp [uptoBulkAll]
  | cons x r ih => have := bulk_one x; simp only [uptoBulkAll, List.length_cons]; omega
/-- A slice, by its elements' own readings; its length and its elements' bulk. -/
theorem sl_trod {α : Type} [Inhabited α] {P : Program} {t e : TypeId} (enc : α → List Value) (k : Nat) (hk0 : 0 < k) (hu : P.underlying t = some (.slice e)) (hk : P.cellsOf e = k) (hlen : ∀ x, (enc x).length = k) (R : α → Prop) (N : Nat) {H : Type} {en : TypeId × Value → H} {w : World} {base : Nat} {sp : Nat → Bool} {held : Bool}
    (hel : ∀ fuel cs y, DataW.trod en P w base sp held fuel e cs = some y → cs.length = k → uptoBulk y.1 ≤ N → ∃ a, cs = enc a ∧ R a) {fuel : Nat} {cs : List Value} {x : DataW H × List MemPlace}
    (h : DataW.trod en P w base sp held fuel t cs = some x) (hN : uptoBulk x.1 ≤ N) : ∃ v l, cs = [v] ∧ G.SlL w enc v l ∧ (∀ a ∈ l, R a) ∧ l.length ≤ N := by
  rcases open_slice hu h with ⟨rfl, _⟩ | ⟨a, n, c, m, k', D, Pl, rfl, _, hl, hm, hmm, rfl, hi⟩
  · exact ⟨_, [], rfl, G.SlL.nil w enc, by simp, by simp⟩
  · have hlm : n ≤ m := by rw [hmm]; split <;> omega
    rw [hk] at hi
    have hD : ∀ i, i < n → uptoBulk (D i) ≤ N := fun i hi => by
      have := bulk_part (d := D i) (l := (List.range n).map D) (List.mem_map.2 ⟨i, List.mem_range.2 hi, rfl⟩)
      simp only [uptoBulk] at hN
      omega
    have hn : n ≤ N := by
      have := bulk_len ((List.range n).map D)
      rw [List.length_map, List.length_range] at this
      simp only [uptoBulk] at hN
      omega
    obtain ⟨f, hf2⟩ := choose_lt (n := n) (p := fun i z => w.cells? base (a.add (i * k)) k = some (enc z) ∧ R z) (fun i hin => by
      obtain ⟨cs', h1, h2⟩ := hi i (by omega)
      obtain ⟨_, hcl, _⟩ := World.cells?_some h1
      obtain ⟨z, rfl, hr⟩ := hel _ _ _ h2 hcl (hD i hin)
      exact ⟨z, h1, hr⟩)
    obtain ⟨b, off, spot⟩ := a
    refine ⟨_, (List.range n).map f, rfl, ⟨some ⟨b, off, spot⟩, c, by simp, by simpa using hl, (fun h => nomatch h), fun hx => ?_⟩, fun z hz => ?_, by simpa using hn⟩
    · have hn0 : 0 < n := by
        rcases Nat.eq_zero_or_pos n with e0 | e0
        · exact absurd (by rw [e0]; rfl) hx
        · exact e0
      have h00 : w.cell? ⟨b, off, spot⟩ = (enc (f 0))[0]? := by
        obtain ⟨_, _, hcell⟩ := World.cells?_some (hf2 0 hn0).1
        have := hcell 0 hk0
        rw [Nat.zero_mul] at this
        exact this
      rw [List.getElem?_eq_getElem (by rw [hlen]; exact hk0)] at h00
      have hb := World.block_lt_of_cell? w _ h00
      obtain rfl : spot = none := by
        cases spot with
        | none => rfl
        | some s =>
          exfalso
          simp only [World.cell?] at h00
          split at h00
          · simp at h00
          · cases h00
      have hb0 : ∀ i, i < n → ∀ j, j < k → w.cell? ⟨b, off + i * k + j, none⟩ = (enc (f i))[j]? := fun i hin j hj => by
        obtain ⟨_, _, hcell⟩ := World.cells?_some (hf2 i hin).1
        have := hcell j hj
        rw [Addr.add_lit, Addr.add_lit] at this
        exact this
      refine ⟨b, off, rfl, hb, fun j u hu2 => ?_⟩
      have hj := (List.getElem?_eq_some_iff.1 hu2).1
      rw [G.flat_length k enc hlen, List.length_map, List.length_range] at hj
      have hjn : j / k < n := Nat.div_lt_of_lt_mul (by rwa [Nat.mul_comm] at hj)
      have hjm : j % k < k := Nat.mod_lt _ hk0
      have hd : j = j / k * k + j % k := by rw [Nat.mul_comm]; exact (Nat.div_add_mod j k).symm
      rw [hd, G.flat_getElem k enc hlen _ (j / k) (j % k) (f (j / k)) (by rw [List.getElem?_map, List.getElem?_range hjn]; rfl) hjm] at hu2
      have := hb0 (j / k) hjn (j % k) hjm
      rw [hu2] at this
      rwa [show off + j / k * k + j % k = off + j by omega] at this
    · obtain ⟨i, hin, rfl⟩ := List.mem_map.1 hz
      exact (hf2 i (List.mem_range.1 hin)).2
set_option maxRecDepth 100000 in
theorem trod_rel {H : Type} {en : TypeId × Value → H} {w : World} {base : Nat} {sp : Nat → Bool} {held : Bool} {N fuel : Nat} {cs : List Value} {y : DataW H × List MemPlace}
    (h : DataW.trod en Try.prog w base sp held fuel 35 cs = some y) (hl : cs.length = 3) (hN : uptoBulk y.1 ≤ N) : ∃ r : RelV, cs = encR r ∧ (RelIn w r ∧ r.rows.length ≤ N) := by
  obtain ⟨xs, n, _, rfl, _, hxl, hf⟩ := DataW.trod_struct Try.underlying35 h
  obtain ⟨c0, c1, c2, rfl⟩ : ∃ a b c, cs = [a, b, c] := by
    match cs, hl with
    | [a, b, c], _ => exact ⟨a, b, c, rfl⟩
  obtain ⟨x0, x1, x2, rfl⟩ : ∃ a b c, xs = [a, b, c] := by
    match xs, hxl with
    | [a, b, c], _ => exact ⟨a, b, c, rfl⟩
  have f0 := hf 0 _ rfl
  have f1 := hf 1 _ rfl
  have f2 := hf 2 _ rfl
  have e0 : DataW.trod en Try.prog w base sp held n 3 [c0] = some x0 := f0
  have e1 : DataW.trod en Try.prog w base sp held n 3 [c1] = some x1 := f1
  have e2 : DataW.trod en Try.prog w base sp held n 33 [c2] = some x2 := f2
  obtain ⟨a, ha, _⟩ := DataW.trod_int Try.underlying3 e0
  obtain ⟨b, hb, _⟩ := DataW.trod_int Try.underlying3 e1
  have hb2 : uptoBulk x2.1 ≤ N := by
    simp only [List.map_cons, List.map_nil, uptoBulk, uptoBulkAll] at hN
    omega
  obtain ⟨v, l, hv, hsl, htop, hln⟩ := sl_trod enc2 2 (by omega) Try.underlying33 cellsP (fun _ => rfl) (fun p => p.1 ≤ 9223372036854775807 ∧ p.2 ≤ 9223372036854775807) N (fun fuel cs y hy _ _ => trod_two_of Try.underlying3 Try.underlying22 cellsI cellsP hy) e2 hb2
  injection ha with ha
  injection hb with hb
  injection hv with hv
  subst ha hb hv
  exact ⟨⟨a, b, c2, l⟩, rfl, ⟨hsl, htop⟩, hln⟩
theorem cellsR : Try.prog.cellsOf 35 = 3 := by kernel_rfl
set_option maxRecDepth 100000 in
/-- An argument that is relations. -/
theorem arg_rels {H : Type} {en : TypeId × Value → H} {w : World} {base b0 : Nat} {sp : Nat → Bool} {held : Bool} {v : Value} {x : DataW H} {p : List MemPlace} {N : Nat}
    (hv : Value.okWide Try.prog w .any b0 24 v) (h : DataW.Trod en Try.prog w base sp held 24 v x p) (hN : uptoBulk x ≤ N) : ∃ l : List RelV, G.SlL w encR v l ∧ (∀ r ∈ l, RelIn w r ∧ r.rows.length ≤ N) ∧ l.length ≤ N := by
  obtain ⟨A, n, c, rfl⟩ := okWide_slice Try.underlying24 hv
  obtain ⟨fuel, hf⟩ := h
  obtain ⟨v2, l, hv2, h1, h2, h3⟩ := sl_trod encR 3 (by omega) Try.underlying24 cellsR (fun _ => rfl) (fun r => RelIn w r ∧ r.rows.length ≤ N) N (fun fuel cs y hy hl hb => trod_rel hy hl hb) hf hN
  simp only [Value.cells, List.cons.injEq, and_true] at hv2
  subst hv2
  exact ⟨l, h1, h2, h3⟩
set_option maxRecDepth 100000 in
/-- An argument that is numbers. -/
theorem arg_nums {H : Type} {en : TypeId × Value → H} {w : World} {base b0 : Nat} {sp : Nat → Bool} {held : Bool} {v : Value} {x : DataW H} {p : List MemPlace} {N : Nat}
    (hv : Value.okWide Try.prog w .any b0 23 v) (h : DataW.Trod en Try.prog w base sp held 23 v x p) (hN : uptoBulk x ≤ N) : ∃ l : List Int, G.SlL w enc1 v l ∧ (∀ a ∈ l, a ≤ 9223372036854775807) ∧ l.length ≤ N := by
  obtain ⟨A, n, c, rfl⟩ := okWide_slice Try.underlying23 hv
  obtain ⟨fuel, hf⟩ := h
  obtain ⟨v2, l, hv2, h1, h2, h3⟩ := sl_trod enc1 1 (by omega) Try.underlying23 cellsI (fun _ => rfl) (fun a => a ≤ 9223372036854775807) N (fun fuel cs y hy hl _ => by
    obtain ⟨a, ha, hx⟩ := DataW.trod_int Try.underlying3 hy
    exact ⟨a, ha, wfI hx.2⟩) hf hN
  simp only [Value.cells, List.cons.injEq, and_true] at hv2
  subst hv2
  exact ⟨l, h1, h2, h3⟩
set_option maxRecDepth 100000 in
/-- An argument that is two numbers. -/
theorem arg_two {H : Type} {en : TypeId × Value → H} {w : World} {base b0 : Nat} {sp : Nat → Bool} {held : Bool} {v : Value} {x : DataW H} {p : List MemPlace}
    (hv : Value.okWide Try.prog w .any b0 22 v) (h : DataW.Trod en Try.prog w base sp held 22 v x p) : ∃ a b : Int, v = .agg #[.int .i64 a, .int .i64 b] := by
  have hv' := hv
  simp only [Value.okWide, Try.underlying22] at hv'
  obtain ⟨cs, rfl, _, _⟩ := hv'
  obtain ⟨fuel, hf⟩ := h
  obtain ⟨⟨a, b⟩, e, _⟩ := trod_two_of Try.underlying3 Try.underlying22 cellsI cellsP hf
  refine ⟨a, b, ?_⟩
  simp only [Value.cells] at e
  rw [← Array.toArray_toList (xs := cs), e]
  rfl
end Go.Proofs.Ytejinhnmabnomaa.Lf
