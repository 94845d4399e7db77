/-
  What an argument that is a slice is in memory, for any program: each element by its own reading. Conditions: as each says.
-/
import Derived.Test.YthapkpgkcckapaaG1
import Derived.Test.YthapkpgkcckapaaOpens
import Derived.OpenShut
namespace Go.Proofs.Ythapkpgkcckapaa.G
open Go.Deep Go.RowKit Go.WideShapes Go.ChangeShapes

theorem add_at (b off i j : Nat) : ((⟨b, off, none⟩ : Addr).add i).add j = ⟨b, off + i + j, none⟩ := by
  rw [Addr.add_lit, Addr.add_lit]

theorem arg_slice_of {α : Type} [Inhabited α] {P : Program} {t e : TypeId} (enc : α → List Value) (k : Nat) (hu : P.underlying t = some (.slice e)) (hk : P.cellsOf e = k) (hlen : ∀ x, (enc x).length = k) (R : α → Prop) {H : Type} {en : TypeId × Value → H} {w : World} {base b0 : Nat} {sp : Nat → Bool} {held : Bool} {v : Value} {x : DataW H} {p : List MemPlace}
    (hel : ∀ fuel cs y, DataW.trod en P w base sp held fuel e cs = some y → cs.length = k → ∃ a, cs = enc a ∧ R a)
    (hv : Value.okWide P w .any b0 t v) (h : DataW.Trod en P w base sp held t v x p) : ∃ l, SlL w enc v l ∧ ∀ a ∈ l, R a := by
  obtain ⟨A, n, c, rfl⟩ := okWide_slice hu hv
  obtain ⟨fuel, hf⟩ := h
  rcases open_slice hu hf with ⟨h1, _⟩ | ⟨a, len, cap, m, k', D, Pl, h1, _, hl, hm, hmm, _, hi⟩
  · simp [Value.cells] at h1
    obtain ⟨rfl, rfl, rfl⟩ := h1
    exact ⟨[], SlL_nil w enc, by simp⟩
  · simp only [Value.cells, List.cons.injEq, Value.slice.injEq, and_true] at h1
    obtain ⟨rfl, rfl, rfl⟩ := h1
    have hok : w.has P .any b0 a e c := by
      have hv' := hv
      simp only [Value.okWide, hu, Cell.okWide, Cell.ok] at hv'
      exact hv'.2.2
    obtain ⟨_, hspot, row, cells, hsh, _⟩ := hok
    obtain ⟨b, off, spot⟩ := a
    simp only at hspot hsh
    subst hspot
    have hb : b < w.heap.size := by
      unfold World.shape? at hsh
      cases e : w.heap[b]? with
      | none => rw [e] at hsh; simp at hsh
      | some o => exact (Array.getElem?_eq_some_iff.1 e).1
    have hlm : n ≤ m := by rw [hmm]; split <;> omega
    rw [hk] at hi
    obtain ⟨f, hf2⟩ := choose_lt (n := n) (p := fun i a => w.cells? base ((⟨b, off, none⟩ : Addr).add (i * k)) k = some (enc a) ∧ R a) (fun i hin => by
      obtain ⟨cs', h1, h2⟩ := hi i (by omega)
      obtain ⟨_, hcl, _⟩ := World.cells?_some h1
      obtain ⟨a, rfl, hr⟩ := hel _ _ _ h2 hcl
      exact ⟨a, h1, hr⟩)
    refine ⟨(List.range n).map f, ⟨some ⟨b, off, none⟩, c, by simp, by simpa using hl, (fun h => nomatch h), fun _ => ⟨b, off, rfl, hb, fun j u hu2 => ?_⟩⟩, fun a ha => ?_⟩
    · have hj := (List.getElem?_eq_some_iff.1 hu2).1
      rw [flat_length k enc hlen, List.length_map, List.length_range] at hj
      have hk0 : 0 < k := by
        rcases Nat.eq_zero_or_pos k with e | e
        · subst e; simp at hj
        · exact e
      have hjn : j / k < n := Nat.div_lt_of_lt_mul (by rwa [Nat.mul_comm] at hj)
      have hjm : j % k < k := Nat.mod_lt _ hk0
      have hd : j = j / k * k + j % k := by rw [Nat.mul_comm]; exact (Nat.div_add_mod j k).symm
      rw [hd, flat_getElem k enc hlen _ (j / k) (j % k) (f (j / k)) (by rw [List.getElem?_map, List.getElem?_range hjn]; rfl) hjm] at hu2
      obtain ⟨h1, _⟩ := hf2 (j / k) hjn
      obtain ⟨_, _, hcell⟩ := World.cells?_some h1
      have := hcell (j % k) hjm
      rw [add_at, hu2] at this
      rwa [show off + j / k * k + j % k = off + j by omega] at this
    · obtain ⟨i, hin, rfl⟩ := List.mem_map.1 ha
      exact (hf2 i (List.mem_range.1 hin)).2
where
  SlL_nil (w : World) (enc : α → List Value) : SlL w enc (.slice none 0 0) [] := ⟨none, 0, rfl, Nat.le_refl _, fun _ => rfl, fun h => absurd rfl h⟩
end Go.Proofs.Ythapkpgkcckapaa.G
