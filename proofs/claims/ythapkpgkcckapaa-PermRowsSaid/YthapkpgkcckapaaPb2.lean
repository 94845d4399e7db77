/-
  A walk's calls, told by its state: each call leaves the state that the plain function tells. Conditions: rows that rise strictly; the blocks lie as told.
-/
import Derived.Test.YthapkpgkcckapaaPb1
import Derived.Test.YthapkpgkcckapaaPa7
namespace Go.Proofs.Ythapkpgkcckapaa.Pw
open Go.RowKit Go.Proofs.YthapkpgkcckapaaW.PrintWords Go.Proofs.Ythapkpgkcckapaa.Pm

/-- An index in memory, made since a world. -/
structure Ix (w0 w : World) (X b off c : Nat) (o : Ord) (L : List R3) : Prop where
  idx : Idx w X o L b off c
  rise : L.Pairwise (ltR o)
  below : Below w0.heap.size w w
  xs : X < w.heap.size
  bs : b < w.heap.size
  xw : w0.heap.size ≤ X
  bw : w0.heap.size ≤ b

/-- A walk in memory. -/
structure Wk (w : World) (g X b off c : Nat) (o : Ord) (L : List R3) (s : St) : Prop where
  idx : Idx w X o L b off c
  rise : L.Pairwise (ltR o)
  blk : w.heap[g]? = some (wkS X s)
  ok : Ok L o s
  xs : X < w.heap.size
  bs : b < w.heap.size
  gX : g ≠ X
  gb : g ≠ b
theorem Wk.gs {w : World} {g X b off c : Nat} {o : Ord} {L : List R3} {s : St} (h : Wk w g X b off c o L s) : g < w.heap.size := (Array.getElem?_eq_some_iff.1 h.blk).1

/-- An index behind what changed another block. -/
theorem idx_grown {w w' : World} {X b off c g : Nat} {o : Ord} {L : List R3} (h : Idx w X o L b off c) (hg : w.grownBy w' (some g)) (hX : X < w.heap.size) (hb : b < w.heap.size) (hXg : X ≠ g) (hbg : b ≠ g) : Idx w' X o L b off c := by
  have e1 : w'.heap[X]? = w.heap[X]? := hg.block X hX (fun e => hXg (Option.some.inj e))
  have e2 : w'.heap[b]? = w.heap[b]? := hg.block b hb (fun e => hbg (Option.some.inj e))
  refine ⟨h.blk.imp fun _ ⟨h1, h2⟩ => ⟨h1, e1.trans h2⟩, h.ox, h.oy, h.oz, fun k i hk hi => ?_, h.lenc, h.small⟩
  have := h.cell k i hk hi
  simp only [World.cell?, e2] at this ⊢
  exact this

theorem Wk.step {w w' : World} {g X b off c : Nat} {o : Ord} {L : List R3} {s s' : St} (h : Wk w g X b off c o L s) (hb : w'.heap[g]? = some (wkS X s')) (hg : w.grownBy w' (some g)) (ho : Ok L o s') : Wk w' g X b off c o L s' :=
  ⟨idx_grown h.idx hg h.xs h.bs (fun e => h.gX e.symm) (fun e => h.gb e.symm), h.rise, hb, ho, Nat.lt_of_lt_of_le h.xs hg.size, Nat.lt_of_lt_of_le h.bs hg.size, h.gX, h.gb⟩
/-- A walk, behind what changed another block. -/
theorem Wk.other {w w' : World} {g X b off c g' : Nat} {o : Ord} {L : List R3} {s : St} (h : Wk w g X b off c o L s) (hg : w.grownBy w' (some g')) (h1 : g ≠ g') (h2 : X ≠ g') (h3 : b ≠ g') : Wk w' g X b off c o L s :=
  ⟨idx_grown h.idx hg h.xs h.bs h2 h3, h.rise, (hg.block g h.gs (fun e => h1 (Option.some.inj e))).trans h.blk, h.ok, Nat.lt_of_lt_of_le h.xs hg.size, Nat.lt_of_lt_of_le h.bs hg.size, h.gX, h.gb⟩
/-- A walk, behind what made memory alone. -/
theorem Wk.below {w w' : World} {g X b off c : Nat} {o : Ord} {L : List R3} {s : St} (h : Wk w g X b off c o L s) (hb : Below w.heap.size w w') : Wk w' g X b off c o L s :=
  ⟨h.idx.below hb h.xs h.bs, h.rise, (hb.block g h.gs).trans h.blk, h.ok, Nat.lt_of_lt_of_le h.xs hb.size, Nat.lt_of_lt_of_le h.bs hb.size, h.gX, h.gb⟩
theorem Wk.grown {w w' : World} {g : Nat} (h : Below w.heap.size w w') : w.grownBy w' (some g) := ⟨h.os, h.tape, h.output, h.size, fun i hi _ => h.block i hi⟩

theorem stand_iff (s : St) : stand s = true ↔ 0 < s.d ∧ s.f s.d < s.t s.d := by unfold stand; exact decide_eq_true_iff
theorem stand_no {s : St} (h : stand s = false) : s.d = 0 ∨ s.t s.d ≤ s.f s.d := by unfold stand at h; have := of_decide_eq_false h; omega

theorem do_key {w : World} {g X b off c : Nat} {o : Ord} {L : List R3} {s : St} (h : Wk w g X b off c o L s) :
    Calls Try.prog 23 #[.pointer (some ⟨g, 0, none⟩)] w fun e w' => e = .returned (.tuple #[.int .i64 (opKey L o s).1, .bool (opKey L o s).2]) ∧ Drew w w' := by
  unfold opKey
  cases hs : stand s with
  | true =>
    have hs' := (stand_iff s).1 hs
    exact key_yes w g X s o L b off c h.blk h.idx ⟨hs'.1, h.ok.d3⟩ hs'.2 (h.ok.le s.d hs'.1 (Nat.le_refl _)).2
  | false => exact key_no w g X s h.blk h.ok.d3 (stand_no hs)
theorem do_next {w : World} {g X b off c : Nat} {o : Ord} {L : List R3} {s : St} (h : Wk w g X b off c o L s) :
    Calls Try.prog 19 #[.pointer (some ⟨g, 0, none⟩)] w fun e w' => e = .returned (.int .i64 (opNext L o s).2) ∧ Wk w' g X b off c o L (opNext L o s).1 ∧ w.grownBy w' (some g) := by
  have hok := ok_next h.ok
  unfold opNext at *
  cases hs : stand s with
  | true =>
    rw [hs] at hok
    have hs' := (stand_iff s).1 hs
    have hle := h.ok.le s.d hs'.1 (Nat.le_refl _)
    refine (next_at w g X s o L b off c h.blk h.idx ⟨hs'.1, h.ok.d3⟩ hs'.2 hle.2 h.gs h.xs h.bs (hop L o s fun x => decide (nm L o s < x)) ⟨hop_ge _ _ _ _, hop_le _ _ _ _ hle.1⟩
      (fun k h1 h2 => ?_) (fun k h1 h2 => ?_)).mono ?_
    · have := of_decide_eq_false (hop_below L o s (fun x => decide (nm L o s < x)) k h1 h2)
      unfold nm at this; omega
    · exact of_decide_eq_true (hop_behind L o s (fun x => decide (nm L o s < x)) h.ok h.rise hs'.1 (fun x y hxy hx => decide_eq_true (by have := of_decide_eq_true hx; omega)) k h1 h2)
    · rintro e w' ⟨rfl, h1, h2⟩
      exact ⟨rfl, h.step h1 h2 hok, h2⟩
  | false =>
    refine (next_no w g X s h.blk h.gs h.ok.d3 (stand_no hs)).mono ?_
    rintro e w' ⟨rfl, hb⟩
    exact ⟨rfl, h.below hb, Wk.grown hb⟩
theorem do_seek {w : World} {g X b off c : Nat} {o : Ord} {L : List R3} {s : St} (h : Wk w g X b off c o L s) (n : Int) :
    Calls Try.prog 21 #[.pointer (some ⟨g, 0, none⟩), .int .i64 n] w fun e w' => e = .returned (.int .i64 (opSeek L o s n).2) ∧ Wk w' g X b off c o L (opSeek L o s n).1 ∧ w.grownBy w' (some g) := by
  have hok := ok_seek h.ok n
  unfold opSeek at *
  cases hs : stand s with
  | true =>
    rw [hs] at hok
    have hs' := (stand_iff s).1 hs
    have hle := h.ok.le s.d hs'.1 (Nat.le_refl _)
    refine (seek_at w g X s o L b off c n h.blk h.idx ⟨hs'.1, h.ok.d3⟩ hs'.2 hle.2 h.gs h.xs h.bs (hop L o s fun x => decide (n ≤ x)) ⟨hop_ge _ _ _ _, hop_le _ _ _ _ hle.1⟩
      (fun k h1 h2 => ?_) (fun k h1 h2 => ?_)).mono ?_
    · have := of_decide_eq_false (hop_below L o s (fun x => decide (n ≤ x)) k h1 h2)
      omega
    · exact of_decide_eq_true (hop_behind L o s (fun x => decide (n ≤ x)) h.ok h.rise hs'.1 (fun x y hxy hx => decide_eq_true (by have := of_decide_eq_true hx; omega)) k h1 h2)
    · rintro e w' ⟨rfl, h1, h2⟩
      exact ⟨rfl, h.step h1 h2 hok, h2⟩
  | false =>
    refine (seek_no w g X s n h.blk h.gs h.ok.d3 (stand_no hs)).mono ?_
    rintro e w' ⟨rfl, hb⟩
    exact ⟨rfl, h.below hb, Wk.grown hb⟩
theorem do_up {w : World} {g X b off c : Nat} {o : Ord} {L : List R3} {s : St} (h : Wk w g X b off c o L s) :
    Calls Try.prog 17 #[.pointer (some ⟨g, 0, none⟩)] w fun e w' => e = .returned (.int .i64 (opUp s).2) ∧ Wk w' g X b off c o L (opUp s).1 ∧ w.grownBy w' (some g) := by
  have hok := ok_up h.ok
  unfold opUp at *
  by_cases hd : s.d = 0
  · rw [if_pos hd]
    refine (up_root w g X s hd h.blk).mono ?_
    rintro e w' ⟨rfl, rfl⟩
    exact ⟨rfl, h, Wk.grown (Below.refl _ _)⟩
  · rw [if_neg hd] at hok ⊢
    have := h.ok.d3
    refine (up_at w g X s (by omega) h.blk).mono ?_
    rintro e w' ⟨rfl, h1, h2⟩
    exact ⟨rfl, h.step h1 h2 hok, h2⟩
theorem do_open {w : World} {g X b off c : Nat} {o : Ord} {L : List R3} {s : St} (h : Wk w g X b off c o L s) :
    Calls Try.prog 15 #[.pointer (some ⟨g, 0, none⟩)] w fun e w' => e = .returned (.int .i64 (opOpen L o s).2) ∧ Wk w' g X b off c o L (opOpen L o s).1 ∧ w.grownBy w' (some g) := by
  have hok := ok_open h.ok h.rise
  have hd3 := h.ok.d3
  by_cases h1 : s.d = 3 ∨ (0 < s.d ∧ stand s = false)
  · have e : opOpen L o s = (s, 3) := by unfold opOpen; rw [if_pos (by rcases h1 with h1 | h1; exact .inl h1; exact .inr (.inl h1))]
    rw [e]
    refine (open_no w g X s h.blk hd3 ?_).mono ?_
    · rcases h1 with h1 | ⟨h1, h2⟩
      · exact .inl h1
      · have := stand_no h2; exact .inr ⟨h1, by omega⟩
    · rintro e w' ⟨rfl, hd⟩
      exact ⟨rfl, h.below hd.below, Wk.grown hd.below⟩
  · by_cases h2 : L.length = 0
    · have e : opOpen L o s = (s, 3) := by unfold opOpen; rw [if_pos (.inr (.inr h2))]
      rw [e]
      have hL : L = [] := List.eq_nil_of_length_eq_zero h2
      subst hL
      have hd : s.d = 0 := by
        by_cases hd : s.d = 0
        · exact hd
        · exfalso
          have hs : stand s = true := by
            cases e : stand s with
            | true => rfl
            | false => exact absurd (.inr ⟨by omega, e⟩) h1
          have hs' := (stand_iff s).1 hs
          have := (h.ok.le s.d hs'.1 (Nat.le_refl _)).2
          simp at this; omega
      refine (open_empty w g X s o b off c h.blk h.idx hd).mono ?_
      rintro e w' ⟨rfl, rfl⟩
      exact ⟨rfl, h, Wk.grown (Below.refl _ _)⟩
    · have hn : ¬ (s.d = 3 ∨ (0 < s.d ∧ stand s = false) ∨ L.length = 0) := by
        rintro (h | h | h)
        · exact h1 (.inl h)
        · exact h1 (.inr h)
        · exact h2 h
      by_cases hd : s.d = 0
      · have e : opOpen L o s = (⟨1, upd s.f 1 (s.f 0), upd s.t 1 (s.t 0)⟩, 0) := by unfold opOpen; rw [if_neg hn, if_pos hd]
        rw [e] at hok ⊢
        refine (open_root w g X s o L b off c h.blk h.idx hd (fun e => h2 (by rw [e]; rfl)) h.gs).mono ?_
        rintro e w' ⟨rfl, h3, h4⟩
        exact ⟨rfl, h.step h3 h4 hok, h4⟩
      · have hs : stand s = true := by
          cases e : stand s with
          | true => rfl
          | false => exact absurd (.inr ⟨by omega, e⟩) h1
        have hs' := (stand_iff s).1 hs
        have hle := h.ok.le s.d hs'.1 (Nat.le_refl _)
        have e : opOpen L o s = (⟨s.d + 1, upd s.f (s.d + 1) (s.f s.d), upd s.t (s.d + 1) (hop L o s fun x => decide (nm L o s < x))⟩, 0) := by unfold opOpen; rw [if_neg hn, if_neg hd]
        rw [e] at hok ⊢
        refine (open_at w g X s o L b off c h.blk h.idx (by have : s.d ≠ 3 := fun e => h1 (.inl e); omega) hs'.2 hle.2 h.gs h.xs h.bs (hop L o s fun x => decide (nm L o s < x)) ⟨hop_ge _ _ _ _, hop_le _ _ _ _ hle.1⟩
          (fun k h1 h2 => ?_) (fun k h1 h2 => ?_)).mono ?_
        · have := of_decide_eq_false (hop_below L o s (fun x => decide (nm L o s < x)) k h1 h2)
          unfold nm at this; omega
        · exact of_decide_eq_true (hop_behind L o s (fun x => decide (nm L o s < x)) h.ok h.rise hs'.1 (fun x y hxy hx => decide_eq_true (by have := of_decide_eq_true hx; omega)) k h1 h2)
        · rintro e w' ⟨rfl, h3, h4⟩
          exact ⟨rfl, h.step h3 h4 hok, h4⟩
end Go.Proofs.Ythapkpgkcckapaa.Pw
