/-
  The law of seeking: the plain law, and the walk. Conditions: the rows' cells lie as told.
-/
import Derived.Test.YthapkpgkcckapaaPc2
namespace Go.Proofs.Ythapkpgkcckapaa.Pw
open Go.RowKit Go.Proofs.YthapkpgkcckapaaW.PrintWords Go.Proofs.Ythapkpgkcckapaa.Pm

/-- A walk that goes on step by step, i steps from where another one stands, all below a number. -/
structure Sk (L : List R3) (o : Ord) (n : Int) (sd s : St) (i : Nat) : Prop where
  d : s.d = sd.d
  t : s.t sd.d = sd.t sd.d
  f : sd.f sd.d + i ≤ s.f sd.d
  lt : ∀ k, sd.f sd.d ≤ k → k < s.f sd.d → num L o sd.d k < n
theorem Sk.start (L : List R3) (o : Ord) (n : Int) (s : St) : Sk L o n s s 0 := ⟨rfl, rfl, Nat.le_refl _, fun k h1 h2 => by omega⟩
theorem Sk.next {L : List R3} {o : Ord} {n : Int} {sd s : St} {i : Nat} (h : Sk L o n sd s i) (hs : stand s = true) (hn : nm L o s < n) : Sk L o n sd (opNext L o s).1 (i + 1) := by
  have hs' := (stand_iff s).1 hs
  have hle : s.f s.d ≤ s.t s.d := Nat.le_of_lt hs'.2
  have hg := hop_ge L o s fun x => decide (nm L o s < x)
  have hgt : s.f s.d < hop L o s fun x => decide (nm L o s < x) := by
    by_cases e : hop L o s (fun x => decide (nm L o s < x)) = s.f s.d
    · have := hop_at L o s (fun x => decide (nm L o s < x)) (by rw [e]; exact hs'.2)
      rw [e] at this
      have := of_decide_eq_true this
      unfold nm at this
      omega
    · omega
  have e : (opNext L o s).1 = { s with f := upd s.f s.d (hop L o s fun x => decide (nm L o s < x)) } := by unfold opNext; rw [if_pos hs]
  rw [e]
  have hd := h.d
  have ef : upd s.f s.d (hop L o s fun x => decide (nm L o s < x)) sd.d = hop L o s fun x => decide (nm L o s < x) := by rw [hd]; exact upd_self _ _ _
  have hf := h.f
  refine ⟨hd, h.t, ?_, fun k h1 h2 => ?_⟩
  · show sd.f sd.d + (i + 1) ≤ upd s.f s.d _ sd.d
    rw [ef]
    rw [hd] at hgt
    omega
  · change k < upd s.f s.d _ sd.d at h2
    rw [ef] at h2
    by_cases hk : k < s.f sd.d
    · exact h.lt k h1 hk
    · have := of_decide_eq_false (hop_below L o s (fun x => decide (nm L o s < x)) k (by rw [hd]; omega) h2)
      rw [hd] at this
      omega
theorem Sk.count {L : List R3} {o : Ord} {n : Int} {sd s : St} {i : Nat} (h : Sk L o n sd s i) (hd : Ok L o sd) (ho : Ok L o s) : i ≤ L.length := by
  have hf := h.f
  by_cases h0 : sd.d = 0
  · rw [h0, hd.f0, ho.f0] at hf
    omega
  · have := ho.le s.d (by rw [h.d]; omega) (Nat.le_refl _)
    rw [h.d] at this
    omega
theorem Sk.key {L : List R3} {o : Ord} {n : Int} {sd s : St} {i : Nat} (h : Sk L o n sd s i) (hd : Ok L o sd) (ho : Ok L o s) (he : stand s = false ∨ n ≤ nm L o s) : opKey L o (opSeek L o sd n).1 = opKey L o s := by
  have hf := h.f
  have hdd := h.d
  have ht := h.t
  by_cases hsd : stand sd = true
  · have hsd' := (stand_iff sd).1 hsd
    have hle := hd.le sd.d hsd'.1 (Nat.le_refl _)
    have hg := hop_ge L o sd fun x => decide (n ≤ x)
    have hl := hop_le L o sd (fun x => decide (n ≤ x)) hle.1
    have hso := ho.le s.d (by rw [hdd]; omega) (Nat.le_refl _)
    rw [hdd, ht] at hso
    have er : hop L o sd (fun x => decide (n ≤ x)) = s.f sd.d := by
      by_cases h1 : hop L o sd (fun x => decide (n ≤ x)) < s.f sd.d
      · have h2 := of_decide_eq_true (hop_at L o sd (fun x => decide (n ≤ x)) (by omega))
        have h3 := h.lt _ hg h1
        omega
      · by_cases h2 : s.f sd.d < hop L o sd fun x => decide (n ≤ x)
        · have h3 := of_decide_eq_false (hop_below L o sd (fun x => decide (n ≤ x)) (s.f sd.d) (by omega) h2)
          rcases he with he | he
          · rcases stand_no he with h4 | h4
            · omega
            · rw [hdd, ht] at h4; omega
          · unfold nm at he
            rw [hdd] at he
            omega
        · omega
    have e : (opSeek L o sd n).1 = { sd with f := upd sd.f sd.d (s.f sd.d) } := by unfold opSeek; rw [if_pos hsd, er]
    rw [e]
    have e1 : stand { sd with f := upd sd.f sd.d (s.f sd.d) } = stand s := by
      unfold stand
      simp only [upd_self, hdd, ht]
    have e2 : nm L o { sd with f := upd sd.f sd.d (s.f sd.d) } = nm L o s := by
      unfold nm
      simp only [upd_self, hdd]
    unfold opKey
    rw [e1, e2]
  · have hsd : stand sd = false := by simpa using hsd
    have e : (opSeek L o sd n).1 = sd := by unfold opSeek; rw [hsd]; rfl
    have hs : stand s = false := by
      rcases stand_no hsd with h1 | h1
      · unfold stand; exact decide_eq_false (by omega)
      · unfold stand; exact decide_eq_false (by rw [hdd, ht]; omega)
    rw [e]
    unfold opKey
    rw [hsd, hs]
    rfl
theorem seek_code (L : List R3) (o : Ord) (s : St) (n : Int) : (opSeek L o s n).2 = if stand s then 0 else 3 := by
  unfold opSeek; split <;> rfl
theorem key_ok (L : List R3) (o : Ord) (s : St) : (opKey L o s).2 = stand s := by
  unfold opKey; split <;> simp_all
end Go.Proofs.Ythapkpgkcckapaa.Pw
