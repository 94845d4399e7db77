/-
  StoreStays: what its loops keep. Conditions: as each says.
-/
import Derived.Test.YtcnffgcegimelaaGreatSs0
namespace Go.Proofs.YtcnffgcegimelaaGreat.So
open Go.Deep Go.RowKit Go.Proofs.YtcnffgcegimelaaGreat.Mp Go.Proofs.YtcnffgcegimelaaGreat.Wd Go.Proofs.YtcnffgcegimelaaGreat.Pm Go.Proofs.YtcnffgcegimelaaGreat.Pw

/-- The law under way: versions so far, and the facts of each. -/
structure StO (p : Nat) (W wr : World) (k : SW) (log : List (List Cng)) (va : Value) (zs : List SV) : Prop where
  kt : At p W.heap.size wr k log
  be : Below W.heap.size W wr
  row : G.OwnL wr W.heap.size 29 1 encS va zs
  col : ∀ g, va.ownBlock = some g → k.col g = 8
  zl : zs.length = log.length + 1
  fact : ∀ (v : Nat) (z : SV), zs[v]? = some z → z.n = (verL (log.take v)).length ∧ Held wr k encT z.val (verL (log.take v))
  apart : ∀ (v : Nat) (z : SV) b off, zs[v]? = some z → z.A = some ⟨b, off, none⟩ → z.n ≠ 0 → va.ownBlock ≠ some b
section
variable {p : Nat} {W wr wr' : World} {k k' : SW} {log : List (List Cng)} {va : Value} {zs : List SV}
theorem StO.step (h : StO p W wr k log va zs) (hk : At p W.heap.size wr' k' log) (g : StepS wr k wr' k') : StO p W wr' k' log va zs :=
  ⟨hk, h.kt.since g h.be (Nat.le_refl _), row_same h.row (fun b hb => g.chg.block b (h.row.lt_ b hb) (by rw [h.col b hb]; omega)), fun b hb => (g.col b (h.row.lt_ b hb)).trans (h.col b hb), h.zl, fun v z hz => ⟨(h.fact v z hz).1, (h.fact v z hz).2.step g⟩, h.apart⟩
theorem StO.row5 (h : StO p W wr k log va zs) (g : StepS wr k wr' k') : G.OwnL wr' W.heap.size 29 1 encS va zs := row_same h.row (fun b hb => g.chg.block b (h.row.lt_ b hb) (by rw [h.col b hb]; omega))
theorem StO.below (h : StO p W wr k log va zs) (b : Below wr.heap.size wr wr') : StO p W wr' (k.far wr) log va zs := h.step (h.kt.below b) (StepS.below b)
/-- A batch that was not done. -/
theorem StO.same {n : Int} {l : List Cng} (h : StO p W wr k log va zs) (hk : At p W.heap.size wr' k' (logA log n l)) (g : StepS wr k wr' k') (hl : applyE (allL log) log.length n l ≠ 0) : StO p W wr' k' log va zs := by
  rw [log_same hl] at hk
  exact h.step hk g
/-- A batch that was done, and its facts: they are put behind the others. -/
theorem StO.more {l : List Cng} {A : Option Addr} {c nd : Nat} {D : List Tri} {w5 w6 : World} {k5 : SW} {v1 : Value}
    (h : StO p W wr k log va zs) (hD : verL (log ++ [l]) = D) (hnd : D.length = nd) (g : StepS wr k w5 k5) (hk : At p W.heap.size w5 k5 (log ++ [l])) (hf : Held w5 k5 encT (.slice A nd c) D)
    (hap : ∀ b off, A = some ⟨b, off, none⟩ → wr.heap.size ≤ b)
    (ho : G.OwnL w6 W.heap.size 29 1 encS v1 (zs ++ [⟨A, nd, c⟩])) (hg : w5.grownBy w6 va.ownBlock) (hv : v1.ownBlock = va.ownBlock ∨ ∃ b, v1.ownBlock = some b ∧ w5.heap.size ≤ b) :
    StO p W w6 (k5.far w5) (log ++ [l]) v1 (zs ++ [⟨A, nd, c⟩]) := by
  subst hD
  subst hnd
  have c5 : Chg (fun i => some i = va.ownBlock) w5 w6 := Chg.of_row hg
  have hb5 : Below W.heap.size W w5 := h.kt.since g h.be (Nat.le_refl _)
  have h8 : ∀ b, va.ownBlock = some b → k5.col b = 8 := fun b hb => (g.col b (h.row.lt_ b hb)).trans (h.col b hb)
  have hlen : ∀ (v : Nat) (z : SV), zs[v]? = some z → v ≤ log.length := fun v z hz => by have := (List.getElem?_eq_some_iff.1 hz).1; have := h.zl; omega
  have htake : ∀ v, v ≤ log.length → (log ++ [l]).take v = log.take v := fun v hv => List.take_append_of_le_length hv
  have hend : (log ++ [l]).take zs.length = log ++ [l] := by rw [h.zl, List.take_of_length_le (by rw [List.length_append, List.length_singleton]; omega)]
  have hcase : ∀ (v : Nat) (z : SV), (zs ++ [(⟨A, (verL (log ++ [l])).length, c⟩ : SV)])[v]? = some z → zs[v]? = some z ∨ (v = zs.length ∧ z = ⟨A, (verL (log ++ [l])).length, c⟩) := fun v z hz => by
    by_cases e : v < zs.length
    · rw [List.getElem?_append_left e] at hz; exact Or.inl hz
    · rw [List.getElem?_append_right (by omega)] at hz
      have h0 : v - zs.length < 1 := (List.getElem?_eq_some_iff.1 hz).1
      have h1 : v - zs.length = 0 := by omega
      rw [h1] at hz
      exact Or.inr ⟨by omega, (Option.some.inj hz).symm⟩
  have hold : ∀ (v : Nat) (z : SV), zs[v]? = some z → ∀ b off, z.A = some ⟨b, off, none⟩ → z.n ≠ 0 → b < wr.heap.size := fun v z hz b off e hn => ((h.fact v z hz).2.out b off z.n z.c (by unfold SV.val; rw [e]) hn).1
  refine ⟨hk.far c5 (fun i _ e => h8 i e.symm), Chg.below hb5 c5 (fun i e => h.row.ge i e.symm), ho, fun b hb => ?_, by rw [List.length_append, List.length_append, List.length_singleton, List.length_singleton, h.zl], fun v z hz => ?_, fun v z b off hz hA hn e => ?_⟩
  · show (if b < w5.heap.size then k5.col b else 8) = 8
    split
    · rename_i hlt
      rcases hv with e | ⟨b', e, hge⟩
      · exact h8 b (by rw [← e]; exact hb)
      · have : b' = b := Option.some.inj (e.symm.trans hb)
        omega
    · rfl
  · rcases hcase v z hz with hz | ⟨rfl, rfl⟩
    · obtain ⟨h1, h2⟩ := h.fact v z hz
      rw [htake v (hlen v z hz)]
      refine ⟨h1, (h2.step g).chg c5 (fun b off n c2 e hn => ?_)⟩
      unfold SV.val at e
      injection e with e1 e2 e3
      exact fun e4 => h.apart v z b off hz e1 (by rw [e2]; exact hn) e4.symm
    · rw [hend]
      refine ⟨rfl, hf.chg c5 (fun b off n c2 e hn e4 => ?_)⟩
      injection e with e1 e2 e3
      have h1 := hap b off e1
      have h2 := h.row.lt_ b e4.symm
      omega
  · rcases hcase v z hz with hz | ⟨rfl, rfl⟩
    · have h1 := hold v z hz b off hA hn
      rcases hv with e5 | ⟨b', e5, hge⟩
      · exact h.apart v z b off hz hA hn (e5.symm.trans e)
      · have : b' = b := Option.some.inj (e5.symm.trans e)
        have := g.chg.size
        omega
    · have h1 := hap b off hA
      have h2 := (hf.out b off _ c (by rw [show A = some ⟨b, off, none⟩ from hA]) hn).1
      rcases hv with e5 | ⟨b', e5, hge⟩
      · have h3 := h.row.lt_ b (e5.symm.trans e)
        omega
      · have : b' = b := Option.some.inj (e5.symm.trans e)
        omega
/-- The beginning: no facts. -/
theorem StO.first {w1 w2 : World} {v1 : Value} (hk : At p W.heap.size w1 k []) (hb : Below W.heap.size W w1) (ho : G.OwnL w2 W.heap.size 29 1 encS v1 ([] ++ [⟨none, 0, 0⟩])) (hg : w1.grownBy w2 none) (hv : v1.ownBlock = none ∨ ∃ b, v1.ownBlock = some b ∧ w1.heap.size ≤ b) : StO p W w2 (k.far w1) [] v1 [⟨none, 0, 0⟩] := by
  have c1 : Chg (fun i => some i = none) w1 w2 := Chg.of_row hg
  refine ⟨hk.far c1 (fun i _ e => by cases e), Chg.below hb c1 (fun i e => by cases e), ho, fun b hb2 => ?_, rfl, fun v z hz => ?_, fun v z b off hz hA hn => ?_⟩
  · show (if b < w1.heap.size then k.col b else 8) = 8
    rcases hv with e | ⟨b', e, hge⟩
    · rw [e] at hb2; cases hb2
    · have : b' = b := Option.some.inj (e.symm.trans hb2)
      rw [if_neg (by omega)]
  · obtain ⟨rfl, rfl⟩ : v = 0 ∧ z = ⟨none, 0, 0⟩ := by
      cases v with
      | zero => exact ⟨rfl, (Option.some.inj hz).symm⟩
      | succ v => simp at hz
    exact ⟨rfl, G.SlL.nil _ _, fun b off n c e => by cases e⟩
  · obtain ⟨rfl, rfl⟩ : v = 0 ∧ z = ⟨none, 0, 0⟩ := by
      cases v with
      | zero => exact ⟨rfl, (Option.some.inj hz).symm⟩
      | succ v => simp at hz
    exact absurd rfl hn
end
/-- What a batch does behind a log: done, or not. -/
theorem stay_L2 (log : List (List Cng)) (l : List Cng) : factsL (log ++ [l]) ((log.length + 1 : Nat) : Int) = verL (log ++ [l]) := by
  unfold factsL
  rw [if_pos ⟨by omega, by rw [List.length_append, List.length_singleton]; exact Int.le_refl _⟩, Int.toNat_natCast, List.take_of_length_le (by rw [List.length_append, List.length_singleton]; omega)]
theorem stay_E (log : List (List Cng)) (l : List Cng) : factsE (log ++ [l]).length ((log.length + 1 : Nat) : Int) = 0 := by
  unfold factsE
  rw [if_pos ⟨by omega, by rw [List.length_append, List.length_singleton]; exact Int.le_refl _⟩]
theorem stay_L (log : List (List Cng)) {v : Nat} (hv : v ≤ log.length) : factsL log (v : Int) = verL (log.take v) := by
  unfold factsL
  rw [if_pos ⟨by omega, by omega⟩, Int.toNat_natCast]
theorem stay_0 (log : List (List Cng)) {v : Nat} (hv : v ≤ log.length) : factsE log.length (v : Int) = 0 := by
  unfold factsE
  rw [if_pos ⟨by omega, by omega⟩]
theorem ver_lt (log : List (List Cng)) {D : List Tri} (hD : verL log = D) {i : Nat} {a b : Tri} (ha : D[i]? = some a) (hb : D[i + 1]? = some b) : ltT a b = true := by
  subst hD
  obtain ⟨h1, e1⟩ := List.getElem?_eq_some_iff.1 ha
  obtain ⟨h2, e2⟩ := List.getElem?_eq_some_iff.1 hb
  have := List.pairwise_iff_getElem.1 (ver_ok log).1 i (i + 1) h1 h2 (Nat.lt_succ_self i)
  rw [e1, e2] at this
  exact this
end Go.Proofs.YtcnffgcegimelaaGreat.So
