/-
  Joined by wip/tools/merge.py from the texts Pd0 Pf0 Pd1 Pf1. Conditions: as each says.
-/
import Derived.Test.YtcnffgcegimelaaGreatJ5
section
/-
  The law of a walk that tells all rows: the plain law. Conditions: rows that rise strictly.
-/
namespace Go.Proofs.YtcnffgcegimelaaGreat.Pm
open Go.Proofs.YtcnffgcegimelaaGreat.Pw

theorem lo_eq (p : Nat → Bool) (f k r : Nat) (h1 : f ≤ r) (h2 : r ≤ f + k) (h3 : ∀ i, f ≤ i → i < r → p i = false) (h4 : r < f + k → p r = true) : lo p f k = r := by
  have a := lo_ge p k f
  have b := lo_le p k f
  by_cases e : lo p f k < r
  · have := lo_at p k f (by omega)
    rw [h3 _ a e] at this
    cases this
  · by_cases e2 : r < lo p f k
    · have := lo_below p k f r h1 e2
      rw [h4 (by omega)] at this
      cases this
    · omega

/-- To the first place of a level from f on of which something is so. -/
def hopN (L : List R3) (o : Ord) (e f t : Nat) (p : Int → Bool) : Nat := lo (fun k => p (num L o e k)) f (t - f)
theorem hop_N (L : List R3) (o : Ord) (s : St) (p : Int → Bool) : hop L o s p = hopN L o s.d (s.f s.d) (s.t s.d) p := rfl
def gt (x : Int) : Int → Bool := fun y => decide (x < y)
def ge (x : Int) : Int → Bool := fun y => decide (x ≤ y)

/-- What holds of each state of a walk that tells all rows. -/
structure All (L : List R3) (o : Ord) (s : St) : Prop where
  ok : Ok L o s
  t1 : 1 ≤ s.d → s.t 1 = L.length
  b2 : 2 ≤ s.d → s.f 1 < s.t 1 ∧ s.f 1 ≤ s.f 2 ∧ s.t 2 = hopN L o 1 (s.f 1) (s.t 1) (gt (num L o 1 (s.f 1))) ∧ (s.f 2 < s.t 2 → ∀ j, s.f 1 ≤ j → j < s.f 2 → num L o 2 j < num L o 2 (s.f 2))
  b3 : 3 ≤ s.d → s.f 2 < s.t 2 ∧ s.f 2 ≤ s.f 3 ∧ s.t 3 = hopN L o 2 (s.f 2) (s.t 2) (gt (num L o 2 (s.f 2)))
/-- The place of the row that comes. -/
def pos (s : St) : Nat := s.f s.d
theorem all_root (L : List R3) (o : Ord) : All L o (root L.length) := ⟨ok_root L o, fun h => by simp [root] at h, fun h => by simp [root] at h, fun h => by simp [root] at h⟩

theorem hopN_ge (L : List R3) (o : Ord) (e f t : Nat) (p : Int → Bool) : f ≤ hopN L o e f t p := lo_ge _ _ _
theorem hopN_le (L : List R3) (o : Ord) (e f t : Nat) (p : Int → Bool) (h : f ≤ t) : hopN L o e f t p ≤ t := by
  have := lo_le (fun k => p (num L o e k)) (t - f) f
  unfold hopN; omega
theorem hopN_below (L : List R3) (o : Ord) (e f t : Nat) (p : Int → Bool) (k : Nat) (h1 : f ≤ k) (h2 : k < hopN L o e f t p) : p (num L o e k) = false := lo_below (fun k => p (num L o e k)) _ _ k h1 h2
theorem hopN_at (L : List R3) (o : Ord) (e f t : Nat) (p : Int → Bool) (h : hopN L o e f t p < t) (hf : f ≤ t) : p (num L o e (hopN L o e f t p)) = true :=
  lo_at (fun k => p (num L o e k)) (t - f) f (by have := hopN_ge L o e f t p; unfold hopN at h this; omega)
theorem hopN_eq (L : List R3) (o : Ord) (e f t : Nat) (p : Int → Bool) (r : Nat) (h1 : f ≤ r) (h2 : r ≤ t) (h3 : ∀ i, f ≤ i → i < r → p (num L o e i) = false) (h4 : r < t → p (num L o e r) = true) : hopN L o e f t p = r :=
  lo_eq _ f (t - f) r h1 (by omega) h3 (fun h => h4 (by omega))
theorem gt_hop (L : List R3) (o : Ord) (e f t : Nat) (h : f < t) : f < hopN L o e f t (gt (num L o e f)) := by
  have h1 := hopN_ge L o e f t (gt (num L o e f))
  by_cases h2 : f = hopN L o e f t (gt (num L o e f))
  · have := hopN_at L o e f t (gt (num L o e f)) (by omega) (by omega)
    rw [← h2] at this
    have := of_decide_eq_true this
    omega
  · omega

/-- The facts of a state below the root. -/
theorem All.lv {L : List R3} {o : Ord} {s : St} (h : All L o s) (hd : 1 ≤ s.d) : s.f s.d ≤ s.t s.d ∧ s.t s.d ≤ L.length := h.ok.le s.d hd (Nat.le_refl _)

/-- How many rounds are left at the most. -/
def left (L : List R3) (s : St) : Nat := if s.d = 0 then 5 * L.length + 2 else if s.d = 1 then 5 * (L.length - s.f 1) + 1 else if s.d = 2 then 5 * (L.length - s.f 2) + (if s.f 2 < s.t 2 then 0 else 2)
  else 5 * (L.length - s.f 3) + 3 - (if s.f 3 < s.t 3 then 4 else 0)

theorem left_0 {L : List R3} {s : St} (h : s.d = 0) : left L s = 5 * L.length + 2 := by unfold left; rw [if_pos h]
theorem left_1 {L : List R3} {s : St} (h : s.d = 1) : left L s = 5 * (L.length - s.f 1) + 1 := by unfold left; rw [if_neg (by omega), if_pos h]
theorem left_2 {L : List R3} {s : St} (h : s.d = 2) : left L s = 5 * (L.length - s.f 2) + (if s.f 2 < s.t 2 then 0 else 2) := by unfold left; rw [if_neg (by omega), if_neg (by omega), if_pos h]
theorem left_3 {L : List R3} {s : St} (h : s.d = 3) : left L s = 5 * (L.length - s.f 3) + 3 - (if s.f 3 < s.t 3 then 4 else 0) := by unfold left; rw [if_neg (by omega), if_neg (by omega), if_neg (by omega)]

theorem d_cases {L : List R3} {o : Ord} {s : St} (h : Ok L o s) : s.d = 0 ∨ s.d = 1 ∨ s.d = 2 ∨ s.d = 3 := by have := h.d3; omega

theorem seek_eq {L : List R3} {o : Ord} {s : St} {n : Int} {r : Nat} (hs : stand s = true) (h : hopN L o s.d (s.f s.d) (s.t s.d) (ge n) = r) : opSeek L o s n = ({ s with f := upd s.f s.d r }, 0) := by
  unfold opSeek
  rw [if_pos hs]
  subst h
  rfl
theorem next_eq {L : List R3} {o : Ord} {s : St} {r : Nat} (hs : stand s = true) (h : hopN L o s.d (s.f s.d) (s.t s.d) (gt (num L o s.d (s.f s.d))) = r) : opNext L o s = ({ s with f := upd s.f s.d r }, 0) := by
  unfold opNext
  rw [if_pos hs]
  subst h
  rfl
theorem open_eq {L : List R3} {o : Ord} {s : St} {r : Nat} (hs : stand s = true) (hl : L.length ≠ 0) (h3 : s.d ≠ 3) (h : hopN L o s.d (s.f s.d) (s.t s.d) (gt (num L o s.d (s.f s.d))) = r) :
    opOpen L o s = (⟨s.d + 1, upd s.f (s.d + 1) (s.f s.d), upd s.t (s.d + 1) r⟩, 0) := by
  have hs' := (stand_iff s).1 hs
  unfold opOpen
  rw [if_neg (by rintro (h | ⟨_, h⟩ | h); exact h3 h; rw [hs] at h; cases h; exact hl h), if_neg (by omega)]
  subst h
  rfl
theorem up_eq {s : St} (h : s.d ≠ 0) : opUp s = ({ s with d := s.d - 1 }, 0) := by unfold opUp; rw [if_neg h]
theorem key_eq (L : List R3) (o : Ord) {s : St} (h : stand s = true) : opKey L o s = (num L o s.d (s.f s.d), true) := by unfold opKey; rw [if_pos h]; rfl

theorem all_open {L : List R3} {o : Ord} {s : St} (h : All L o s) (hL : L.Pairwise (ltR o)) (hc : (opOpen L o s).2 = 0) : All L o (opOpen L o s).1 ∧ pos (opOpen L o s).1 = pos s ∧ left L (opOpen L o s).1 < left L s := by
  have hok := ok_open h.ok hL
  have hn : ¬ (s.d = 3 ∨ (0 < s.d ∧ stand s = false) ∨ L.length = 0) := fun e => by
    unfold opOpen at hc
    rw [if_pos e] at hc
    exact absurd hc (by simp)
  have h3 : s.d ≠ 3 := fun e => hn (.inl e)
  have hl : L.length ≠ 0 := fun e => hn (.inr (.inr e))
  have hsd : s.d ≠ 0 → stand s = true := fun e => by
    cases hs : stand s with
    | true => rfl
    | false => exact absurd (.inr (.inl ⟨by omega, hs⟩)) hn
  obtain hd | hd | hd | hd := d_cases h.ok
  · have en : opOpen L o s = (⟨1, upd s.f 1 (s.f 0), upd s.t 1 (s.t 0)⟩, 0) := by unfold opOpen; rw [if_neg hn, if_pos hd]
    rw [en] at hok ⊢
    have f0 := h.ok.f0
    have t0 := h.ok.t0
    refine ⟨⟨hok, fun _ => t0, fun h2 => absurd h2 (by show ¬ 2 ≤ 1; omega), fun h2 => absurd h2 (by show ¬ 3 ≤ 1; omega)⟩, ?_, ?_⟩
    · show s.f 0 = s.f s.d
      rw [hd]
    · rw [left_0 hd, left_1 rfl]
      show 5 * (L.length - s.f 0) + 1 < _
      omega
  · have hs := hsd (by omega)
    have hst := ((stand_iff s).1 hs).2
    have ht1 := h.t1 (by omega)
    rw [hd] at hst
    have hg := gt_hop L o 1 (s.f 1) (s.t 1) hst
    have en : opOpen L o s = (⟨2, upd s.f 2 (s.f 1), upd s.t 2 (hopN L o 1 (s.f 1) (s.t 1) (gt (num L o 1 (s.f 1))))⟩, 0) := by rw [open_eq hs hl h3 rfl, hd]
    rw [en] at hok ⊢
    refine ⟨⟨hok, fun _ => ht1, fun _ => ⟨hst, Nat.le_refl _, rfl, fun _ j h1 h2 => ?_⟩, fun h2 => absurd h2 (by show ¬ 3 ≤ 2; omega)⟩, ?_, ?_⟩
    · exact absurd h2 (by show ¬ j < s.f 1; have : s.f 1 ≤ j := h1; omega)
    · show s.f 1 = s.f s.d
      rw [hd]
    · rw [left_1 hd, left_2 rfl]
      show 5 * (L.length - s.f 1) + (if s.f 1 < hopN L o 1 (s.f 1) (s.t 1) (gt (num L o 1 (s.f 1))) then 0 else 2) < _
      rw [if_pos hg]
      omega
  · have hs := hsd (by omega)
    have hst := ((stand_iff s).1 hs).2
    have ht1 := h.t1 (by omega)
    have hb2 := h.b2 (by omega)
    rw [hd] at hst
    have hg := gt_hop L o 2 (s.f 2) (s.t 2) hst
    have hl2 := h.lv (by omega)
    rw [hd] at hl2
    have en : opOpen L o s = (⟨3, upd s.f 3 (s.f 2), upd s.t 3 (hopN L o 2 (s.f 2) (s.t 2) (gt (num L o 2 (s.f 2))))⟩, 0) := by rw [open_eq hs hl h3 rfl, hd]
    rw [en] at hok ⊢
    refine ⟨⟨hok, fun _ => ht1, fun _ => hb2, fun _ => ⟨hst, Nat.le_refl _, rfl⟩⟩, ?_, ?_⟩
    · show s.f 2 = s.f s.d
      rw [hd]
    · rw [left_2 hd, left_3 rfl, if_pos hst]
      show 5 * (L.length - s.f 2) + 3 - (if s.f 2 < hopN L o 2 (s.f 2) (s.t 2) (gt (num L o 2 (s.f 2))) then 4 else 0) < _
      rw [if_pos hg]
      omega
  · exact absurd hd h3

/-- Where it did not open, and stands at no number. -/
theorem all_end {L : List R3} {o : Ord} {s : St} (h : All L o s) (hc : (opOpen L o s).2 ≠ 0) (hs : stand s = false) (hd : s.d ≤ 1) : pos s = L.length := by
  unfold pos
  obtain hd | hd : s.d = 0 ∨ s.d = 1 := by omega
  · rw [hd, h.ok.f0]
    unfold opOpen at hc
    rw [if_pos hd] at hc
    split at hc
    · rename_i h1
      rcases h1 with h1 | ⟨h1, _⟩ | h1
      · omega
      · omega
      · exact h1.symm
    · exact absurd rfl hc
  · have h1 := stand_no hs
    have h2 := h.lv (by omega)
    have h3 := h.t1 (by omega)
    rw [hd] at *
    omega

theorem all_on {L : List R3} {o : Ord} {s : St} (h : All L o s) (hs : stand s = false) (hd : 2 ≤ s.d) :
    (opUp s).2 = 0 ∧ (opUp s).1.d = s.d - 1 ∧ All L o (opNext L o (opUp s).1).1 ∧ pos (opNext L o (opUp s).1).1 = pos s ∧ left L (opNext L o (opUp s).1).1 < left L s := by
  have hok := ok_next (ok_up h.ok)
  have h1 := stand_no hs
  have h2 := h.lv (by omega)
  have ht1 := h.t1 (by omega)
  have hb2 := h.b2 hd
  have h0 : s.d ≠ 0 := by omega
  have eu : opUp s = ({ s with d := s.d - 1 }, 0) := by unfold opUp; rw [if_neg h0]
  obtain hd' | hd' : s.d = 2 ∨ s.d = 3 := by have := h.ok.d3; omega
  · have e1 : (fun x => decide (nm L o { s with d := s.d - 1 } < x)) = gt (num L o 1 (s.f 1)) := by unfold gt nm; rw [hd']
    have hst : stand { s with d := s.d - 1 } = true := (stand_iff _).2 ⟨by show 0 < s.d - 1; omega, by rw [hd']; exact hb2.1⟩
    have en : opNext L o { s with d := s.d - 1 } = ({ s with d := s.d - 1, f := upd s.f 1 (s.t 2) }, 0) := by
      unfold opNext
      rw [if_pos hst, hop_N, e1]
      simp only [hd', Nat.reduceSub]
      rw [← hb2.2.2.1]
    rw [eu] at hok ⊢
    refine ⟨rfl, rfl, ?_⟩
    show All L o (opNext L o { s with d := s.d - 1 }).1 ∧ pos (opNext L o { s with d := s.d - 1 }).1 = pos s ∧ left L (opNext L o { s with d := s.d - 1 }).1 < left L s
    have hok : Ok L o (opNext L o { s with d := s.d - 1 }).1 := hok
    rw [en] at hok ⊢
    have e2 : s.f 2 = s.t 2 := by rw [hd'] at h1 h2; omega
    refine ⟨⟨hok, fun _ => ht1, fun h => ?_, fun h => ?_⟩, ?_, ?_⟩
    · simp [hd'] at h
    · simp [hd'] at h
    · unfold pos
      simp only [hd', Nat.reduceSub, upd_self]
      exact e2.symm
    · rw [left_2 hd', left_1 (show s.d - 1 = 1 by omega), if_neg (by omega)]
      show 5 * (L.length - s.t 2) + 1 < _
      omega
  · have hb3 := h.b3 (by omega)
    have e1 : (fun x => decide (nm L o { s with d := s.d - 1 } < x)) = gt (num L o 2 (s.f 2)) := by unfold gt nm; rw [hd']
    have hst : stand { s with d := s.d - 1 } = true := (stand_iff _).2 ⟨by show 0 < s.d - 1; omega, by rw [hd']; exact hb3.1⟩
    have en : opNext L o { s with d := s.d - 1 } = ({ s with d := s.d - 1, f := upd s.f 2 (s.t 3) }, 0) := by
      unfold opNext
      rw [if_pos hst, hop_N, e1]
      simp only [hd', Nat.reduceSub]
      rw [← hb3.2.2]
    rw [eu] at hok ⊢
    refine ⟨rfl, rfl, ?_⟩
    show All L o (opNext L o { s with d := s.d - 1 }).1 ∧ pos (opNext L o { s with d := s.d - 1 }).1 = pos s ∧ left L (opNext L o { s with d := s.d - 1 }).1 < left L s
    have hok : Ok L o (opNext L o { s with d := s.d - 1 }).1 := hok
    rw [en] at hok ⊢
    have e2 : s.f 3 = s.t 3 := by rw [hd'] at h1 h2; omega
    have hle3 := hopN_le L o 2 (s.f 2) (s.t 2) (gt (num L o 2 (s.f 2))) (by omega)
    rw [← hb3.2.2] at hle3
    refine ⟨⟨hok, fun _ => ht1, fun _ => ?_, fun h => ?_⟩, ?_, ?_⟩
    · simp only [upd_self, upd_ne s.f 2 _ 1 (by omega)]
      refine ⟨hb2.1, by omega, hb2.2.2.1, fun hlt j hj1 hj2 => ?_⟩
      have hat := hopN_at L o 2 (s.f 2) (s.t 2) (gt (num L o 2 (s.f 2))) (by rw [← hb3.2.2]; exact hlt) (by omega)
      rw [← hb3.2.2] at hat
      have hat := of_decide_eq_true hat
      by_cases hj : j < s.f 2
      · have := hb2.2.2.2 hb3.1 j hj1 hj
        omega
      · have := hopN_below L o 2 (s.f 2) (s.t 2) (gt (num L o 2 (s.f 2))) j (by omega) (by rw [← hb3.2.2]; exact hj2)
        have := of_decide_eq_false this
        omega
    · simp [hd'] at h
    · unfold pos
      simp only [hd', Nat.reduceSub, upd_self]
      exact e2.symm
    · rw [left_3 hd', left_2 (show s.d - 1 = 2 by omega), if_neg (show ¬ s.f 3 < s.t 3 by omega)]
      show 5 * (L.length - s.t 3) + (if s.t 3 < s.t 2 then 0 else 2) < _
      split <;> omega
end Go.Proofs.YtcnffgcegimelaaGreat.Pm
end
section
/-
  The document's walks: the plain law: a walk's state and the document's numbers go together. Conditions: rows that rise strictly.
-/
namespace Go.Proofs.YtcnffgcegimelaaGreat.Pm
open Go.Proofs.YtcnffgcegimelaaGreat.Pw

/-! ### 1. Numbers, each once -/
def ddStep (acc : List Int) (x : Int) : List Int := if acc.getLast? = some x then acc else acc ++ [x]
theorem dd_aux : ∀ (M acc : List Int), acc.Pairwise (· < ·) → M.Pairwise (· ≤ ·) → (∀ a ∈ acc, ∀ x ∈ M, a ≤ x) → (M.foldl ddStep acc).Pairwise (· < ·) ∧ ∀ x, x ∈ M.foldl ddStep acc ↔ x ∈ acc ∨ x ∈ M
  | [], acc, h, _, _ => ⟨h, by simp⟩
  | y :: M, acc, h1, h2, h3 => by
    obtain ⟨p1, p2⟩ := List.pairwise_cons.1 h2
    have hs : (ddStep acc y).Pairwise (· < ·) ∧ (∀ x, x ∈ ddStep acc y ↔ x ∈ acc ∨ x = y) := by
      unfold ddStep
      split
      · rename_i hl
        refine ⟨h1, fun x => ⟨.inl, fun h => h.elim id ?_⟩⟩
        rintro rfl
        exact List.mem_of_getLast? hl
      · rename_i hl
        refine ⟨List.pairwise_append.2 ⟨h1, by simp, fun a ha b hb => ?_⟩, by simp⟩
        obtain rfl : b = y := by simpa using hb
        have hle := h3 a ha b (by simp)
        by_cases e : a = b
        · exfalso
          subst e
          apply hl
          cases hg : acc.getLast? with
          | none => rw [List.getLast?_eq_none_iff] at hg; subst hg; simp at ha
          | some z =>
            have hz := List.mem_of_getLast? hg
            have hz2 := h3 z hz a (by simp)
            obtain ⟨ys, hys⟩ := List.getLast?_eq_some_iff.1 hg
            subst hys
            rcases List.mem_append.1 ha with ha | ha
            · have := (List.pairwise_append.1 h1).2.2 a ha z (by simp)
              omega
            · have : a = z := by simpa using ha
              rw [this]
        · omega
    obtain ⟨q1, q2⟩ := dd_aux M (ddStep acc y) hs.1 p2 (fun a ha x hx => by
      rcases (hs.2 a).1 ha with ha | rfl
      · exact h3 a ha x (by simp [hx])
      · exact p1 x hx)
    refine ⟨q1, fun x => (q2 x).trans ?_⟩
    rw [hs.2, List.mem_cons, or_assoc]

/-! ### 2. The numbers of a level -/
def mtTo (o : Ord) (at_ : List Int) (r : R3) : Nat → Bool
  | 0 => true
  | k + 1 => mtTo o at_ r k && decide (r.at (o.at k) = at_.getD k 0)
theorem mtTo_iff (o : Ord) (at_ : List Int) (r : R3) : ∀ k, mtTo o at_ r k = true ↔ ∀ j, j < k → r.at (o.at j) = at_.getD j 0
  | 0 => by simp [mtTo]
  | k + 1 => by
    unfold mtTo
    rw [Bool.and_eq_true, mtTo_iff o at_ r k, decide_eq_true_iff]
    constructor
    · rintro ⟨h1, h2⟩ j hj
      by_cases e : j = k
      · subst e; exact h2
      · exact h1 j (by omega)
    · intro h
      exact ⟨fun j hj => h j (by omega), h k (by omega)⟩
def lvlStep (o : Ord) (at_ : List Int) (out : List Int) (r : R3) : List Int := if mtTo o at_ r at_.length then ddStep out (r.at (o.at at_.length)) else out
def lvl (L : List R3) (o : Ord) (at_ : List Int) : List Int := L.foldl (lvlStep o at_) []
theorem lvl_take (L : List R3) (o : Ord) (at_ : List Int) (k : Nat) (hk : k < L.length) : lvl (L.take (k + 1)) o at_ = lvlStep o at_ (lvl (L.take k) o at_) (L.getD k r0) := by
  unfold lvl
  rw [List.take_succ_eq_append_getElem hk, List.foldl_append, List.getD_eq_getElem?_getD, List.getElem?_eq_getElem hk]
  rfl
theorem lvl_dd (o : Ord) (at_ : List Int) : ∀ (L : List R3) (acc : List Int), L.foldl (lvlStep o at_) acc = ((L.filter fun r => mtTo o at_ r at_.length).map fun r => r.at (o.at at_.length)).foldl ddStep acc
  | [], _ => rfl
  | r :: L, acc => by
    rw [List.foldl_cons, lvl_dd o at_ L]
    unfold lvlStep
    rw [List.filter_cons]
    split <;> simp
theorem lvl_len (L : List R3) (o : Ord) (at_ : List Int) (k : Nat) (hk : k ≤ L.length) : (lvl (L.take k) o at_).length ≤ k := by
  induction k with
  | zero => simp [lvl]
  | succ k ih =>
    rw [lvl_take L o at_ k (by omega)]
    have := ih (by omega)
    unfold lvlStep ddStep
    split
    · split
      · omega
      · rw [List.length_append]; simp; omega
    · omega

theorem ordAt0 (o : Ord) : o.at 0 = o.x := rfl
theorem ordAt1 (o : Ord) : o.at 1 = o.y := rfl
theorem ordAt2 (o : Ord) : o.at 2 = o.z := rfl

theorem lvl_sorted (L : List R3) (o : Ord) (at_ : List Int) (hL : L.Pairwise (ltR o)) (ha : at_.length ≤ 2) : (lvl L o at_).Pairwise (· < ·) ∧ ∀ x, x ∈ lvl L o at_ ↔ ∃ i, i < L.length ∧ (∀ j, j < at_.length → num L o (j + 1) i = at_.getD j 0) ∧ num L o (at_.length + 1) i = x := by
  unfold lvl
  rw [lvl_dd]
  have hm : ((L.filter fun r => mtTo o at_ r at_.length).map fun r => r.at (o.at at_.length)).Pairwise (· ≤ ·) := by
    rw [List.pairwise_map, List.pairwise_filter]
    refine List.Pairwise.imp ?_ hL
    intro a b hab h1 h2
    rw [mtTo_iff] at h1 h2
    have hs : ∀ j, j < at_.length → a.at (o.at j) = b.at (o.at j) := fun j hj => (h1 j hj).trans (h2 j hj).symm
    unfold ltR at hab
    obtain e | e | e : at_.length = 0 ∨ at_.length = 1 ∨ at_.length = 2 := by omega
    · rw [e, ordAt0]; omega
    · have := hs 0 (by omega)
      rw [ordAt0] at this
      rw [e, ordAt1]; omega
    · have s0 := hs 0 (by omega)
      have s1 := hs 1 (by omega)
      rw [ordAt0] at s0
      rw [ordAt1] at s1
      rw [e, ordAt2]; omega
  obtain ⟨q1, q2⟩ := dd_aux _ [] List.Pairwise.nil hm (by simp)
  refine ⟨q1, fun x => (q2 x).trans ?_⟩
  have hn : ∀ j i (h : i < L.length), num L o (j + 1) i = (L[i]).at (o.at j) := fun j i h => by
    unfold num
    rw [List.getD_eq_getElem?_getD, List.getElem?_eq_getElem h]
    rfl
  simp only [List.not_mem_nil, false_or, List.mem_map, List.mem_filter]
  constructor
  · rintro ⟨r, ⟨hr, hmr⟩, rfl⟩
    obtain ⟨i, hi, rfl⟩ := List.getElem_of_mem hr
    rw [mtTo_iff] at hmr
    exact ⟨i, hi, fun j hj => by rw [hn j i hi]; exact hmr j hj, hn _ i hi⟩
  · rintro ⟨i, hi, h1, h2⟩
    refine ⟨L[i], ⟨List.getElem_mem hi, (mtTo_iff o at_ _ _).2 fun j hj => ?_⟩, ?_⟩
    · rw [← hn j i hi]; exact h1 j hj
    · rw [← hn _ i hi]; exact h2

/-! ### 3. What holds of each state -/
def FirstAt (L : List R3) (o : Ord) (e lo f t : Nat) : Prop := f < t → ∀ j, lo ≤ j → j < f → num L o e j < num L o e f
structure Full (L : List R3) (o : Ord) (s : St) : Prop where
  ok : Ok L o s
  t1 : 1 ≤ s.d → s.t 1 = L.length
  f1 : 1 ≤ s.d → FirstAt L o 1 0 (s.f 1) (s.t 1)
  b2 : 2 ≤ s.d → s.f 1 < s.t 1 ∧ s.f 1 ≤ s.f 2 ∧ s.t 2 = hopN L o 1 (s.f 1) (s.t 1) (gt (num L o 1 (s.f 1))) ∧ FirstAt L o 2 (s.f 1) (s.f 2) (s.t 2)
  b3 : 3 ≤ s.d → s.f 2 < s.t 2 ∧ s.f 2 ≤ s.f 3 ∧ s.t 3 = hopN L o 2 (s.f 2) (s.t 2) (gt (num L o 2 (s.f 2))) ∧ FirstAt L o 3 (s.f 2) (s.f 3) (s.t 3)
def loOf (s : St) : Nat := if s.d = 1 then 0 else s.f (s.d - 1)

theorem full_root (L : List R3) (o : Ord) : Full L o (root L.length) := ⟨ok_root L o, fun h => by simp [root] at h, fun h => by simp [root] at h, fun h => by simp [root] at h, fun h => by simp [root] at h⟩
theorem first_nil (L : List R3) (o : Ord) (e f t : Nat) : FirstAt L o e f f t := fun _ j h1 h2 => by omega

theorem full_open {L : List R3} {o : Ord} {s : St} (h : Full L o s) (hL : L.Pairwise (ltR o)) (hn : ¬ (s.d = 3 ∨ (0 < s.d ∧ stand s = false) ∨ L.length = 0)) :
    ∃ s', opOpen L o s = (s', 0) ∧ Full L o s' ∧ s'.d = s.d + 1 ∧ (∀ e, e ≤ s.d → s'.f e = s.f e) ∧ s'.f (s.d + 1) = s.f s.d ∧ s'.f s'.d = loOf s' ∧ s'.f s'.d < s'.t s'.d := by
  have hok := ok_open h.ok hL
  have h3 : s.d ≠ 3 := fun e => hn (.inl e)
  have hl : L.length ≠ 0 := fun e => hn (.inr (.inr e))
  have hsd : s.d ≠ 0 → stand s = true := fun e => by
    cases hs : stand s with
    | true => rfl
    | false => exact absurd (.inr (.inl ⟨by omega, hs⟩)) hn
  obtain hd | hd | hd | hd := d_cases h.ok
  · have en : opOpen L o s = (⟨1, upd s.f 1 (s.f 0), upd s.t 1 (s.t 0)⟩, 0) := by unfold opOpen; rw [if_neg hn, if_pos hd]
    rw [en] at hok
    have f0 := h.ok.f0
    have t0 := h.ok.t0
    refine ⟨_, en, ⟨hok, fun _ => t0, fun _ => ?_, fun h2 => absurd h2 (by show ¬ 2 ≤ 1; omega), fun h2 => absurd h2 (by show ¬ 3 ≤ 1; omega)⟩, by rw [hd], ?_, ?_, f0, ?_⟩
    · show FirstAt L o 1 0 (s.f 0) _
      rw [f0]; exact first_nil _ _ _ _ _
    · intro e he
      obtain rfl : e = 0 := by omega
      rfl
    · rw [hd]; rfl
    · show s.f 0 < s.t 0
      omega
  · have hs := hsd (by omega)
    have hst := ((stand_iff s).1 hs).2
    rw [hd] at hst
    have en : opOpen L o s = (⟨2, upd s.f 2 (s.f 1), upd s.t 2 (hopN L o 1 (s.f 1) (s.t 1) (gt (num L o 1 (s.f 1))))⟩, 0) := by rw [open_eq hs hl h3 rfl, hd]
    rw [en] at hok
    refine ⟨_, en, ⟨hok, fun _ => h.t1 (by omega), fun _ => h.f1 (by omega), fun _ => ⟨hst, Nat.le_refl _, rfl, first_nil _ _ _ _ _⟩, fun h2 => absurd h2 (by show ¬ 3 ≤ 2; omega)⟩, by rw [hd], ?_, ?_, rfl, ?_⟩
    · intro e he
      obtain rfl | rfl : e = 0 ∨ e = 1 := by omega
      all_goals rfl
    · rw [hd]; rfl
    · exact gt_hop L o 1 (s.f 1) (s.t 1) hst
  · have hs := hsd (by omega)
    have hst := ((stand_iff s).1 hs).2
    rw [hd] at hst
    have en : opOpen L o s = (⟨3, upd s.f 3 (s.f 2), upd s.t 3 (hopN L o 2 (s.f 2) (s.t 2) (gt (num L o 2 (s.f 2))))⟩, 0) := by rw [open_eq hs hl h3 rfl, hd]
    rw [en] at hok
    refine ⟨_, en, ⟨hok, fun _ => h.t1 (by omega), fun _ => h.f1 (by omega), fun _ => h.b2 (by omega), fun _ => ⟨hst, Nat.le_refl _, rfl, first_nil _ _ _ _ _⟩⟩, by rw [hd], ?_, ?_, rfl, ?_⟩
    · intro e he
      obtain rfl | rfl | rfl : e = 0 ∨ e = 1 ∨ e = 2 := by omega
      all_goals rfl
    · rw [hd]; rfl
    · exact gt_hop L o 2 (s.f 2) (s.t 2) hst
  · exact absurd hd h3

theorem full_up {L : List R3} {o : Ord} {s : St} (h : Full L o s) (hd : s.d ≠ 0) : opUp s = ({ s with d := s.d - 1 }, 0) ∧ Full L o { s with d := s.d - 1 } ∧ (s.d - 1 ≠ 0 → s.f (s.d - 1) < s.t (s.d - 1)) := by
  have hok := ok_up h.ok
  rw [up_eq hd] at hok
  refine ⟨up_eq hd, ⟨hok, fun h1 => h.t1 (by change 1 ≤ s.d - 1 at h1; omega), fun h1 => h.f1 (by change 1 ≤ s.d - 1 at h1; omega), fun h1 => h.b2 (by change 2 ≤ s.d - 1 at h1; omega), fun h1 => h.b3 (by change 3 ≤ s.d - 1 at h1; omega)⟩, fun h1 => ?_⟩
  have := h.ok.d3
  obtain e | e : s.d = 2 ∨ s.d = 3 := by omega
  · rw [e]; exact (h.b2 (by omega)).1
  · rw [e]; exact (h.b3 (by omega)).1

/-- To the first row from which on the numbers are no less than one. -/
theorem first_jump {L : List R3} {o : Ord} {e lo f t : Nat} (hf : FirstAt L o e lo f t) (hlt : f < t) (n : Int) (hmono : ∀ a b, f ≤ a → a ≤ b → b < t → num L o e a ≤ num L o e b) : FirstAt L o e lo (hopN L o e f t (ge n)) t := by
  intro h j h1 h2
  have hat := of_decide_eq_true (hopN_at L o e f t (ge n) h (by omega))
  by_cases hj : j < f
  · have := hf hlt j h1 hj
    have := hmono f (hopN L o e f t (ge n)) (Nat.le_refl _) (hopN_ge _ _ _ _ _ _) h
    omega
  · have := of_decide_eq_false (hopN_below L o e f t (ge n) j (by omega) h2)
    omega
theorem full_jump {L : List R3} {o : Ord} {s : St} (h : Full L o s) (hL : L.Pairwise (ltR o)) (hs : stand s = true) (n : Int) : Full L o { s with f := upd s.f s.d (hopN L o s.d (s.f s.d) (s.t s.d) (ge n)) } := by
  have hs' := (stand_iff s).1 hs
  have hok := ok_hop h.ok hs'.1 (ge n)
  rw [hop_N] at hok
  have hmono := fun a b => h.ok.mono hL hs'.1 a b
  have hge := hopN_ge L o s.d (s.f s.d) (s.t s.d) (ge n)
  obtain hd | hd | hd : s.d = 1 ∨ s.d = 2 ∨ s.d = 3 := by have := h.ok.d3; omega
  · rw [hd] at hs' hmono hge hok ⊢
    refine ⟨hok, fun _ => h.t1 (by omega), fun _ => first_jump (h.f1 (by omega)) hs'.2 n hmono, fun h1 => absurd h1 (by show ¬ 2 ≤ 1; omega), fun h1 => absurd h1 (by show ¬ 3 ≤ 1; omega)⟩
  · rw [hd] at hs' hmono hge hok ⊢
    have b2 := h.b2 (by omega)
    refine ⟨hok, fun _ => h.t1 (by omega), fun _ => h.f1 (by omega), fun _ => ⟨b2.1, Nat.le_trans b2.2.1 hge, b2.2.2.1, first_jump b2.2.2.2 hs'.2 n hmono⟩, fun h1 => absurd h1 (by show ¬ 3 ≤ 2; omega)⟩
  · rw [hd] at hs' hmono hge hok ⊢
    have b3 := h.b3 (by omega)
    refine ⟨hok, fun _ => h.t1 (by omega), fun _ => h.f1 (by omega), fun _ => h.b2 (by omega), fun _ => ⟨b3.1, Nat.le_trans b3.2.1 hge, b3.2.2.1, first_jump b3.2.2.2 hs'.2 n hmono⟩⟩
end Go.Proofs.YtcnffgcegimelaaGreat.Pm
end
section
/-
  The law of a walk that tells all rows: the plain law of a row that is told. Conditions: rows that rise strictly.
-/
namespace Go.Proofs.YtcnffgcegimelaaGreat.Pm
open Go.Proofs.YtcnffgcegimelaaGreat.Pw

/-- The numbers of the levels above are those of the row. -/
theorem num_up {L : List R3} {o : Ord} (hL : L.Pairwise (ltR o)) (e : Nat) (he : 1 ≤ e ∧ e ≤ 3) (f t k : Nat) (ht : t ≤ L.length) (hf : f ≤ t) (h1 : f ≤ k) (h2 : k < hopN L o e f t (gt (num L o e f))) (hs : ∀ j, 1 ≤ j → j < e → num L o j f = num L o j k) : num L o e k = num L o e f := by
  have h3 := of_decide_eq_false (hopN_below L o e f t (gt (num L o e f)) k h1 h2)
  have h4 := hopN_le L o e f t (gt (num L o e f)) hf
  have h5 := num_mono o L hL e he f k h1 (by omega) hs
  omega

/-- The states of a row that is told. -/
structure Tell (L : List R3) (o : Ord) (s : St) where
  s1 : St
  s2 : St
  s3 : St
  s4 : St
  s5 : St
  s6 : St
  s7 : St
  u1 : opUp s = (s1, 0)
  u2 : opUp s1 = (s2, 0)
  u3 : opOpen L o s2 = (s3, 0)
  u4 : opSeek L o s3 (num L o 2 (s.f 2)) = (s4, 0)
  u5 : opOpen L o s4 = (s5, 0)
  u6 : opSeek L o s5 (num L o 3 (s.f 3)) = (s6, 0)
  u7 : opNext L o s6 = (s7, 0)
  k0 : opKey L o s = (num L o 3 (s.f 3), true)
  k1 : opKey L o s1 = (num L o 2 (s.f 2), true)
  k2 : opKey L o s2 = (num L o 1 (s.f 1), true)
  all : All L o s7
  pos : pos s7 = s.f 3 + 1
  left : left L s7 < left L s

theorem all_tell {L : List R3} {o : Ord} {s : St} (h : All L o s) (hL : L.Pairwise (ltR o)) (hd : s.d = 3) (hs : stand s = true) : Nonempty (Tell L o s) := by
  have hs' := (stand_iff s).1 hs
  have h2 := h.lv (by omega)
  rw [hd] at h2 hs'
  have ht1 := h.t1 (by omega)
  have hb2 := h.b2 (by omega)
  have hb3 := h.b3 (by omega)
  have hl2 := h.ok.le 2 (by omega) (by omega)
  have hl : L.length ≠ 0 := by omega
  have q1 := h.ok.same 3 (by omega) (by omega) 1 (by omega) (by omega)
  have q2 := h.ok.same 3 (by omega) (by omega) 2 (by omega) (by omega)
  have q3 := h.ok.same 2 (by omega) (by omega) 1 (by omega) (by omega)
  have le3 := hopN_le L o 2 (s.f 2) (s.t 2) (gt (num L o 2 (s.f 2))) (by omega)
  rw [← hb3.2.2] at le3
  -- the states
  let s1 : St := { s with d := 2 }
  let s2 : St := { s with d := 1 }
  let s3 : St := ⟨2, upd s.f 2 (s.f 1), upd s.t 2 (s.t 2)⟩
  let s4 : St := ⟨2, upd (upd s.f 2 (s.f 1)) 2 (s.f 2), upd s.t 2 (s.t 2)⟩
  let s5 : St := ⟨3, upd (upd (upd s.f 2 (s.f 1)) 2 (s.f 2)) 3 (s.f 2), upd (upd s.t 2 (s.t 2)) 3 (s.t 3)⟩
  let s6 : St := ⟨3, upd (upd (upd (upd s.f 2 (s.f 1)) 2 (s.f 2)) 3 (s.f 2)) 3 (s.f 3), upd (upd s.t 2 (s.t 2)) 3 (s.t 3)⟩
  let s7 : St := ⟨3, upd (upd (upd (upd (upd s.f 2 (s.f 1)) 2 (s.f 2)) 3 (s.f 2)) 3 (s.f 3)) 3 (s.f 3 + 1), upd (upd s.t 2 (s.t 2)) 3 (s.t 3)⟩
  have gt2 := gt_hop L o 1 (s.f 1) (s.t 1) hb2.1
  rw [← hb2.2.2.1] at gt2
  have st1 : stand s1 = true := (stand_iff _).2 ⟨by show 0 < 2; omega, hb3.1⟩
  have st2 : stand s2 = true := (stand_iff _).2 ⟨by show 0 < 1; omega, hb2.1⟩
  have st3 : stand s3 = true := (stand_iff _).2 ⟨by show 0 < 2; omega, by show s.f 1 < s.t 2; omega⟩
  have st4 : stand s4 = true := (stand_iff _).2 ⟨by show 0 < 2; omega, by show s.f 2 < s.t 2; omega⟩
  have st5 : stand s5 = true := (stand_iff _).2 ⟨by show 0 < 3; omega, by show s.f 2 < s.t 3; omega⟩
  have st6 : stand s6 = true := (stand_iff _).2 ⟨by show 0 < 3; omega, by show s.f 3 < s.t 3; omega⟩
  have hst3 : ∀ a b, s.f 2 ≤ a → a < b → b < s.t 3 → num L o 3 a < num L o 3 b := fun a b h1 h3 h4 =>
    num_strict o L hL a b h3 (by omega) (fun j hj1 hj2 => by
      obtain rfl | rfl : j = 1 ∨ j = 2 := by omega
      · exact q3 a b (by omega) (by omega) (by omega) (by omega)
      · have e : ∀ k, s.f 2 ≤ k → k < s.t 3 → num L o 2 k = num L o 2 (s.f 2) := fun k hk1 hk2 =>
          num_up hL 2 (by omega) (s.f 2) (s.t 2) k hl2.2 hl2.1 hk1 (by rw [← hb3.2.2]; exact hk2) (fun j hj1 hj2 => by
            obtain rfl : j = 1 := by omega
            exact q3 _ _ (by omega) (by omega) (by omega) (by omega))
        rw [e a (by omega) (by omega), e b (by omega) h4])
  have u1 : opUp s = (s1, 0) := by rw [up_eq (by omega), hd]
  have u2 : opUp s1 = (s2, 0) := (up_eq (by show 2 ≠ 0; omega)).trans rfl
  have u3 : opOpen L o s2 = (s3, 0) := open_eq st2 hl (by show 1 ≠ 3; omega) hb2.2.2.1.symm
  have u4 : opSeek L o s3 (num L o 2 (s.f 2)) = (s4, 0) := by
    refine (seek_eq st3 (r := s.f 2) ?_).trans rfl
    show hopN L o 2 (s.f 1) (s.t 2) _ = _
    exact hopN_eq L o 2 _ _ _ _ hb2.2.1 (by omega) (fun i hi1 hi2 => decide_eq_false (by have := hb2.2.2.2 hb3.1 i hi1 hi2; omega)) (fun _ => decide_eq_true (Int.le_refl _))
  have u5 : opOpen L o s4 = (s5, 0) := by
    refine (open_eq st4 hl (by show 2 ≠ 3; omega) (r := s.t 3) ?_).trans ?_
    · exact hb3.2.2.symm
    · rfl
  have u6 : opSeek L o s5 (num L o 3 (s.f 3)) = (s6, 0) := by
    refine (seek_eq st5 (r := s.f 3) ?_).trans rfl
    show hopN L o 3 (s.f 2) (s.t 3) _ = _
    exact hopN_eq L o 3 _ _ _ _ hb3.2.1 (by omega) (fun i hi1 hi2 => decide_eq_false (by have := hst3 i (s.f 3) hi1 hi2 hs'.2; omega)) (fun _ => decide_eq_true (Int.le_refl _))
  have u7 : opNext L o s6 = (s7, 0) := by
    refine (next_eq st6 (r := s.f 3 + 1) ?_).trans rfl
    show hopN L o 3 (s.f 3) (s.t 3) (gt (num L o 3 (s.f 3))) = _
    exact hopN_eq L o 3 _ _ _ _ (by omega) (by omega) (fun i hi1 hi2 => decide_eq_false (by rw [show i = s.f 3 by omega]; omega)) (fun hlt => decide_eq_true (hst3 _ _ hb3.2.1 (by omega) hlt))
  have f71 : s7.f 1 = s.f 1 := rfl
  have f72 : s7.f 2 = s.f 2 := rfl
  have f73 : s7.f 3 = s.f 3 + 1 := rfl
  have t71 : s7.t 1 = s.t 1 := rfl
  have t72 : s7.t 2 = s.t 2 := rfl
  have t73 : s7.t 3 = s.t 3 := rfl
  have ok1 := ok_up h.ok
  rw [u1] at ok1
  have ok2 := ok_up ok1
  rw [u2] at ok2
  have ok3 := ok_open ok2 hL
  rw [u3] at ok3
  have ok4 := ok_seek ok3 (num L o 2 (s.f 2))
  rw [u4] at ok4
  have ok5 := ok_open ok4 hL
  rw [u5] at ok5
  have ok6 := ok_seek ok5 (num L o 3 (s.f 3))
  rw [u6] at ok6
  have ok7 := ok_next ok6
  rw [u7] at ok7
  have d7 : s7.d = 3 := rfl
  have hleft : left L s7 < left L s := by
    rw [left_3 hd, left_3 d7, f73, t73, if_pos hs'.2]
    split <;> omega
  exact ⟨⟨s1, s2, s3, s4, s5, s6, s7, u1, u2, u3, u4, u5, u6, u7, by rw [key_eq L o hs, hd], key_eq L o st1, key_eq L o st2,
    ⟨ok7, fun _ => ht1, fun _ => hb2, fun _ => ⟨hb3.1, by rw [f72, f73]; omega, hb3.2.2⟩⟩, rfl, hleft⟩⟩

/-- The row that is told. -/
theorem tell_row {L : List R3} {o : Ord} (_ho : Six o) {s : St} (h : All L o s) (hL : L.Pairwise (ltR o)) (hd : s.d = 3) (hs : stand s = true) :
    s.f 3 < L.length ∧ (L.getD (s.f 3) r0).at o.x = num L o 1 (s.f 1) ∧ (L.getD (s.f 3) r0).at o.y = num L o 2 (s.f 2) ∧ (L.getD (s.f 3) r0).at o.z = num L o 3 (s.f 3) := by
  have hs' := (stand_iff s).1 hs
  have h2 := h.lv (by omega)
  rw [hd] at h2 hs'
  have ht1 := h.t1 (by omega)
  have hb2 := h.b2 (by omega)
  have hb3 := h.b3 (by omega)
  have hl2 := h.ok.le 2 (by omega) (by omega)
  have q3 := h.ok.same 2 (by omega) (by omega) 1 (by omega) (by omega)
  have le3 := hopN_le L o 2 (s.f 2) (s.t 2) (gt (num L o 2 (s.f 2))) (by omega)
  rw [← hb3.2.2] at le3
  have e1 : num L o 1 (s.f 3) = num L o 1 (s.f 1) := num_up hL 1 (by omega) (s.f 1) (s.t 1) _ (by omega) (by omega) (by omega) (by rw [← hb2.2.2.1]; omega) (fun j h1 h2 => by omega)
  have e2 : num L o 2 (s.f 3) = num L o 2 (s.f 2) := num_up hL 2 (by omega) (s.f 2) (s.t 2) _ (by omega) (by omega) (by omega) (by rw [← hb3.2.2]; omega) (fun j h1 h2 => by
    obtain rfl : j = 1 := by omega
    exact q3 _ _ (by omega) (by omega) (by omega) (by omega))
  exact ⟨by omega, e1, e2, rfl⟩
end Go.Proofs.YtcnffgcegimelaaGreat.Pm
end
section
/-
  The document's walks: the plain law: each call goes from states that go together to such ones, with one answer. Conditions: rows that rise strictly, of numbers of 64 bits.
-/
namespace Go.Proofs.YtcnffgcegimelaaGreat.Pm
open Go.Proofs.YtcnffgcegimelaaGreat.Pw

theorem grp {L : List R3} {o : Ord} {s : St} (h : Full L o s) (hL : L.Pairwise (ltR o)) (hd : 1 ≤ s.d) (i : Nat) :
    (i < L.length ∧ ∀ j, 1 ≤ j → j < s.d → num L o j i = num L o j (s.f j)) ↔ loOf s ≤ i ∧ i < s.t s.d := by
  have h3 := h.ok.d3
  have t1 := h.t1 hd
  have step1 : 2 ≤ s.d → ∀ i, (i < L.length ∧ num L o 1 i = num L o 1 (s.f 1)) ↔ s.f 1 ≤ i ∧ i < s.t 2 := fun h2 i => by
    have b2 := h.b2 h2
    have f1 := h.f1 (by omega) b2.1
    have hle := hopN_le L o 1 (s.f 1) (s.t 1) (gt (num L o 1 (s.f 1))) (by omega)
    rw [← b2.2.2.1] at hle
    constructor
    · rintro ⟨hi, he⟩
      have hge : s.f 1 ≤ i := by
        by_cases e : i < s.f 1
        · have := f1 i (by omega) e; omega
        · omega
      refine ⟨hge, ?_⟩
      by_cases e : i < s.t 2
      · exact e
      · exfalso
        have hat := of_decide_eq_true (hopN_at L o 1 (s.f 1) (s.t 1) (gt (num L o 1 (s.f 1))) (by rw [← b2.2.2.1]; omega) (by omega))
        rw [← b2.2.2.1] at hat
        have := num_mono o L hL 1 (by omega) (s.t 2) i (by omega) hi (fun j h1 h2 => by omega)
        omega
    · rintro ⟨h1, h4⟩
      exact ⟨by omega, num_up hL 1 (by omega) (s.f 1) (s.t 1) i (by omega) (by omega) h1 (by rw [← b2.2.2.1]; exact h4) (fun j h1 h2 => by omega)⟩
  obtain e | e | e : s.d = 1 ∨ s.d = 2 ∨ s.d = 3 := by omega
  · unfold loOf
    rw [if_pos e, e, t1]
    exact ⟨fun h => ⟨by omega, h.1⟩, fun h => ⟨h.2, fun j h1 h2 => by omega⟩⟩
  · unfold loOf
    rw [if_neg (by omega), e]
    refine Iff.trans ?_ (step1 (by omega) i)
    exact ⟨fun h => ⟨h.1, h.2 1 (by omega) (by omega)⟩, fun h => ⟨h.1, fun j h1 h2 => (by rw [show j = 1 by omega]; exact h.2)⟩⟩
  · unfold loOf
    rw [if_neg (by omega), e]
    have b2 := h.b2 (by omega)
    have b3 := h.b3 (by omega)
    have hl2 := h.ok.le 2 (by omega) (by omega)
    have q3 := h.ok.same 2 (by omega) (by omega) 1 (by omega) (by omega)
    have hle := hopN_le L o 2 (s.f 2) (s.t 2) (gt (num L o 2 (s.f 2))) (by omega)
    rw [← b3.2.2.1] at hle
    show _ ↔ s.f 2 ≤ i ∧ i < s.t 3
    constructor
    · rintro ⟨hi, he⟩
      have e1 := he 1 (by omega) (by omega)
      have e2 := he 2 (by omega) (by omega)
      obtain ⟨g1, g2⟩ := (step1 (by omega) i).1 ⟨hi, e1⟩
      have hge : s.f 2 ≤ i := by
        by_cases e : i < s.f 2
        · have := b2.2.2.2 b3.1 i g1 e; omega
        · omega
      refine ⟨hge, ?_⟩
      by_cases e : i < s.t 3
      · exact e
      · exfalso
        have hat := of_decide_eq_true (hopN_at L o 2 (s.f 2) (s.t 2) (gt (num L o 2 (s.f 2))) (by rw [← b3.2.2.1]; omega) (by omega))
        rw [← b3.2.2.1] at hat
        have hge2 := hopN_ge L o 2 (s.f 2) (s.t 2) (gt (num L o 2 (s.f 2)))
        rw [← b3.2.2.1] at hge2
        have := num_mono o L hL 2 (by omega) (s.t 3) i (by omega) hi (fun j h1 h2 => by
          obtain rfl : j = 1 := by omega
          exact q3 _ _ (by omega) (by omega) (by omega) g2)
        omega
    · rintro ⟨h1, h4⟩
      refine ⟨by omega, fun j hj1 hj2 => ?_⟩
      obtain rfl | rfl : j = 1 ∨ j = 2 := by omega
      · exact ((step1 (by omega) i).2 ⟨by omega, by omega⟩).2
      · exact num_up hL 2 (by omega) (s.f 2) (s.t 2) i (by omega) (by omega) h1 (by rw [← b3.2.2.1]; exact h4) (fun j h1 h2 => by
          obtain rfl : j = 1 := by omega
          exact q3 _ _ (by omega) (by omega) (by omega) (by omega))

/-- The numbers of the level where a walk stands. -/
theorem lvl_at {L : List R3} {o : Ord} {s : St} (h : Full L o s) (hL : L.Pairwise (ltR o)) (hd : 1 ≤ s.d) (p : List Int) (hp : p.length = s.d - 1) (hn : ∀ j, j < p.length → p.getD j 0 = num L o (j + 1) (s.f (j + 1))) :
    (lvl L o p).Pairwise (· < ·) ∧ ∀ x, x ∈ lvl L o p ↔ ∃ i, loOf s ≤ i ∧ i < s.t s.d ∧ num L o s.d i = x := by
  have h3 := h.ok.d3
  obtain ⟨h1, h2⟩ := lvl_sorted L o p hL (by omega)
  refine ⟨h1, fun x => (h2 x).trans ?_⟩
  have e : p.length + 1 = s.d := by omega
  rw [e]
  constructor
  · rintro ⟨i, hi, hm, hx⟩
    have := (grp h hL hd i).1 ⟨hi, fun j hj1 hj2 => by
      have := hm (j - 1) (by omega)
      rw [hn (j - 1) (by omega), show j - 1 + 1 = j by omega] at this
      exact this⟩
    exact ⟨i, this.1, this.2, hx⟩
  · rintro ⟨i, g1, g2, hx⟩
    obtain ⟨hi, hm⟩ := (grp h hL hd i).2 ⟨g1, g2⟩
    exact ⟨i, hi, fun j hj => by rw [hn j hj]; exact hm (j + 1) (by omega) (by omega), hx⟩

theorem find_some (n v : Int) : ∀ (l : List Int), l.Pairwise (· < ·) → v ∈ l → n ≤ v → (∀ y ∈ l, n ≤ y → v ≤ y) → l.find? (fun x => decide (n ≤ x)) = some v
  | [], _, h, _, _ => absurd h (by simp)
  | a :: l, hp, hv, hn, hm => by
    obtain ⟨p1, p2⟩ := List.pairwise_cons.1 hp
    by_cases ha : n ≤ a
    · rw [List.find?_cons_of_pos (by simpa using ha)]
      have h1 := hm a (by simp) ha
      rcases List.mem_cons.1 hv with rfl | hv
      · rfl
      · have := p1 v hv; omega
    · rw [List.find?_cons_of_neg (by simpa using ha)]
      refine find_some n v l p2 ((List.mem_cons.1 hv).resolve_left (by rintro rfl; exact ha hn)) hn (fun y hy => hm y (by simp [hy]))
theorem head_some (v : Int) (l : List Int) (hp : l.Pairwise (· < ·)) (hv : v ∈ l) (hm : ∀ y ∈ l, v ≤ y) : l.getD 0 0 = v ∧ 0 < l.length := by
  match l, hp, hv, hm with
  | a :: l, hp, hv, hm =>
    refine ⟨?_, by simp⟩
    show a = v
    have h1 := hm a (by simp)
    rcases List.mem_cons.1 hv with rfl | hv
    · rfl
    · have := (List.pairwise_cons.1 hp).1 v hv; omega

/-! ### The document's walk -/
structure RS where
  at_ : List Int
  beh : Bool
def rKey (r : RS) : Int × Bool := if r.at_.length = 0 ∨ r.beh = true then (0, false) else (r.at_.getD (r.at_.length - 1) 0, true)
def rOpen (L : List R3) (o : Ord) (r : RS) : RS × Int := if r.at_.length = 3 ∨ r.beh = true ∨ L.length = 0 then (r, 3) else (⟨r.at_ ++ [(lvl L o r.at_).getD 0 0], r.beh⟩, 0)
def rUp (r : RS) : RS × Int := if r.at_.length = 0 then (r, 3) else (⟨r.at_.take (r.at_.length - 1), false⟩, 0)
def rTo (L : List R3) (o : Ord) (r : RS) (n : Int) : RS := match (lvl L o (r.at_.take (r.at_.length - 1))).find? (fun x => decide (n ≤ x)) with
  | some x => ⟨r.at_.take (r.at_.length - 1) ++ [x], r.beh⟩
  | none => ⟨r.at_, true⟩
def rSeek (L : List R3) (o : Ord) (r : RS) (n : Int) : RS × Int := if (rKey r).2 = false then (r, 3) else if n ≤ (rKey r).1 then (r, 0) else (rTo L o r n, 0)
def rNext (L : List R3) (o : Ord) (r : RS) : RS × Int := if (rKey r).2 = false then (r, 3) else if (rKey r).1 = 9223372036854775807 then (⟨r.at_, true⟩, 0) else (rTo L o r ((rKey r).1 + 1), 0)

structure Rel (L : List R3) (o : Ord) (s : St) (r : RS) : Prop where
  full : Full L o s
  len : r.at_.length = s.d
  up : ∀ j, j + 1 < s.d → r.at_.getD j 0 = num L o (j + 1) (s.f (j + 1))
  yes : s.d ≠ 0 → r.beh = false → s.f s.d < s.t s.d ∧ r.at_.getD (s.d - 1) 0 = num L o s.d (s.f s.d)
  no : s.d ≠ 0 → r.beh = true → s.t s.d ≤ s.f s.d
  zero : s.d = 0 → r.beh = false
theorem rel_root (L : List R3) (o : Ord) : Rel L o (root L.length) ⟨[], false⟩ := ⟨full_root L o, rfl, fun j h => by simp [root] at h, fun h => absurd rfl h, fun h => absurd rfl h, fun _ => rfl⟩

theorem Rel.stands {L : List R3} {o : Ord} {s : St} {r : RS} (h : Rel L o s r) : stand s = true ↔ (r.at_.length ≠ 0 ∧ r.beh = false) := by
  rw [stand_iff, h.len]
  constructor
  · rintro ⟨h1, h2⟩
    refine ⟨by omega, ?_⟩
    cases e : r.beh with
    | false => rfl
    | true => have := h.no (by omega) e; omega
  · rintro ⟨h1, h2⟩
    exact ⟨by omega, (h.yes h1 h2).1⟩
theorem sim_key {L : List R3} {o : Ord} {s : St} {r : RS} (h : Rel L o s r) : opKey L o s = rKey r := by
  unfold rKey
  by_cases hs : stand s = true
  · have hs2 := h.stands.1 hs
    rw [key_eq L o hs, if_neg (by rintro (e | e); exact hs2.1 e; rw [hs2.2] at e; cases e), h.len, (h.yes (by rw [← h.len]; exact hs2.1) hs2.2).2]
  · have hn : r.at_.length = 0 ∨ r.beh = true := by
      by_cases e : r.at_.length = 0
      · exact .inl e
      · cases eb : r.beh with
        | true => exact .inr rfl
        | false => exact absurd (h.stands.2 ⟨e, eb⟩) hs
    rw [if_pos hn]
    unfold opKey
    rw [if_neg hs]
theorem take_getD (l : List Int) (k j : Nat) (h : j < k) : (l.take k).getD j 0 = l.getD j 0 := by
  rw [List.getD_eq_getElem?_getD, List.getD_eq_getElem?_getD, List.getElem?_take, if_pos h]
theorem snoc_getD (l : List Int) (x : Int) (j : Nat) : (l ++ [x]).getD j 0 = if j < l.length then l.getD j 0 else if j = l.length then x else 0 := by
  rw [List.getD_eq_getElem?_getD, List.getD_eq_getElem?_getD]
  split
  · rw [List.getElem?_append_left (by assumption)]
  · rw [List.getElem?_append_right (by omega)]
    split
    · rename_i h; subst h; simp
    · rw [List.getElem?_eq_none (by simp; omega)]; rfl

theorem sim_up {L : List R3} {o : Ord} {s : St} {r : RS} (h : Rel L o s r) : (opUp s).2 = (rUp r).2 ∧ Rel L o (opUp s).1 (rUp r).1 := by
  unfold rUp
  by_cases hd : s.d = 0
  · rw [if_pos (by rw [h.len, hd])]
    have : opUp s = (s, 3) := by unfold opUp; rw [if_pos hd]
    rw [this]
    exact ⟨rfl, h⟩
  · obtain ⟨e, hf, hst⟩ := full_up h.full hd
    rw [e, if_neg (by rw [h.len]; exact hd)]
    refine ⟨rfl, hf, ?_, fun j hj => ?_, fun h1 _ => ?_, (fun _ h2 => nomatch h2), fun _ => rfl⟩
    · show (r.at_.take _).length = s.d - 1
      rw [List.length_take, h.len]; omega
    · change j + 1 < s.d - 1 at hj
      show (r.at_.take _).getD j 0 = _
      rw [take_getD _ _ _ (by rw [h.len]; omega)]
      exact h.up j (by omega)
    · change s.d - 1 ≠ 0 at h1
      refine ⟨hst h1, ?_⟩
      show (r.at_.take _).getD (s.d - 1 - 1) 0 = num L o (s.d - 1) (s.f (s.d - 1))
      rw [take_getD _ _ _ (by rw [h.len]; omega)]
      have := h.up (s.d - 1 - 1) (by omega)
      rwa [show s.d - 1 - 1 + 1 = s.d - 1 by omega] at this

theorem Rel.pre_ {L : List R3} {o : Ord} {s : St} {r : RS} (h : Rel L o s r) (j : Nat) (hj : j < (r.at_.take (r.at_.length - 1)).length) : (r.at_.take (r.at_.length - 1)).getD j 0 = num L o (j + 1) (s.f (j + 1)) := by
  rw [List.length_take, h.len] at hj
  rw [take_getD _ _ _ (by rw [h.len]; omega)]
  exact h.up j (by omega)

theorem sim_open {L : List R3} {o : Ord} {s : St} {r : RS} (h : Rel L o s r) (hL : L.Pairwise (ltR o)) : (opOpen L o s).2 = (rOpen L o r).2 ∧ Rel L o (opOpen L o s).1 (rOpen L o r).1 ∧ ((rOpen L o r).2 = 0 → 0 < (lvl L o r.at_).length) := by
  have hc : (s.d = 3 ∨ (0 < s.d ∧ stand s = false) ∨ L.length = 0) ↔ (r.at_.length = 3 ∨ r.beh = true ∨ L.length = 0) := by
    rw [h.len]
    have hst := h.stands
    rw [h.len] at hst
    have hz := h.zero
    have hst' : s.d ≠ 0 → (stand s = false ↔ r.beh = true) := fun h0 => by
      cases e : stand s <;> cases eb : r.beh <;> simp [e, eb] at hst ⊢ <;> omega
    constructor
    · rintro (e | ⟨e1, e2⟩ | e)
      · exact .inl e
      · exact .inr (.inl ((hst' (by omega)).1 e2))
      · exact .inr (.inr e)
    · rintro (e | e | e)
      · exact .inl e
      · have h0 : s.d ≠ 0 := fun h0 => by rw [hz h0] at e; cases e
        exact .inr (.inl ⟨by omega, (hst' h0).2 e⟩)
      · exact .inr (.inr e)
  unfold rOpen
  by_cases hn : s.d = 3 ∨ (0 < s.d ∧ stand s = false) ∨ L.length = 0
  · rw [if_pos (hc.1 hn)]
    have : opOpen L o s = (s, 3) := by unfold opOpen; rw [if_pos hn]
    rw [this]
    exact ⟨rfl, h, fun e => by cases e⟩
  · rw [if_neg (fun e => hn (hc.2 e))]
    obtain ⟨s', e, hf, hd, hsame, hfd, hlo, hlt⟩ := full_open h.full hL hn
    rw [e]
    have hbeh : r.beh = false := by
      cases eb : r.beh with
      | false => rfl
      | true => exact absurd (.inr (.inl eb)) (fun e => hn (hc.2 e))
    have hpre : ∀ j, j < r.at_.length → r.at_.getD j 0 = num L o (j + 1) (s'.f (j + 1)) := fun j hj => by
      rw [h.len] at hj
      rw [hsame (j + 1) (by omega)]
      by_cases e1 : j + 1 < s.d
      · exact h.up j e1
      · have := (h.yes (by omega) hbeh).2
        rw [show s.d - 1 = j by omega] at this
        rw [this, show s.d = j + 1 by omega]
    obtain ⟨q1, q2⟩ := lvl_at hf hL (by omega) r.at_ (by rw [h.len]; omega) hpre
    have hmem : num L o s'.d (loOf s') ∈ lvl L o r.at_ := (q2 _).2 ⟨loOf s', Nat.le_refl _, by rw [← hlo]; exact hlt, rfl⟩
    have hmin : ∀ y ∈ lvl L o r.at_, num L o s'.d (loOf s') ≤ y := fun y hy => by
      obtain ⟨i, g1, g2, rfl⟩ := (q2 y).1 hy
      rw [← hlo] at g1 ⊢
      exact hf.ok.mono hL (by omega) _ _ (Nat.le_refl _) g1 g2
    obtain ⟨w1, w2⟩ := head_some _ _ q1 hmem hmin
    refine ⟨rfl, ⟨hf, ?_, fun j hj => ?_, fun _ _ => ⟨hlt, ?_⟩, fun _ h2 => ?_, fun h0 => ?_⟩, fun _ => w2⟩
    · show (r.at_ ++ [_]).length = s'.d
      rw [List.length_append, h.len, hd]; rfl
    · change j + 1 < s'.d at hj
      show (r.at_ ++ [_]).getD j 0 = _
      rw [snoc_getD, if_pos (by rw [h.len]; omega)]
      exact hpre j (by rw [h.len]; omega)
    · show (r.at_ ++ [_]).getD (s'.d - 1) 0 = _
      rw [snoc_getD, if_neg (by rw [h.len]; omega), if_pos (by rw [h.len]; omega), w1, hlo]
    · change r.beh = true at h2
      rw [hbeh] at h2; cases h2
    · change s'.d = 0 at h0
      omega

theorem sim_to {L : List R3} {o : Ord} {s : St} {r : RS} (h : Rel L o s r) (hL : L.Pairwise (ltR o)) (hs : stand s = true) (n : Int) (hn : num L o s.d (s.f s.d) < n) :
    Rel L o { s with f := upd s.f s.d (hopN L o s.d (s.f s.d) (s.t s.d) (ge n)) } (rTo L o r n) := by
  have hs' := (stand_iff s).1 hs
  have hs2 := h.stands.1 hs
  have hf := full_jump h.full hL hs n
  obtain ⟨q1, q2⟩ := lvl_at h.full hL hs'.1 (r.at_.take (r.at_.length - 1)) (by rw [List.length_take, h.len]; omega) h.pre_
  have hge := hopN_ge L o s.d (s.f s.d) (s.t s.d) (ge n)
  have hle := hopN_le L o s.d (s.f s.d) (s.t s.d) (ge n) (by omega)
  have hlo : loOf s ≤ s.f s.d := by
    unfold loOf
    split
    · omega
    · have := h.full.ok.d3
      obtain e | e : s.d = 2 ∨ s.d = 3 := by omega
      · rw [e]; exact (h.full.b2 (by omega)).2.1
      · rw [e]; exact (h.full.b3 (by omega)).2.1
  have hfirst : ∀ i, loOf s ≤ i → i < s.f s.d → num L o s.d i < num L o s.d (s.f s.d) := by
    have := h.full.ok.d3
    unfold loOf
    obtain e | e | e : s.d = 1 ∨ s.d = 2 ∨ s.d = 3 := by omega
    · rw [if_pos e]
      rw [e] at hs' ⊢
      exact h.full.f1 (by omega) hs'.2
    · rw [if_neg (by omega)]
      rw [e] at hs' ⊢
      exact (h.full.b2 (by omega)).2.2.2 hs'.2
    · rw [if_neg (by omega)]
      rw [e] at hs' ⊢
      exact (h.full.b3 (by omega)).2.2.2 hs'.2
  generalize hh : hopN L o s.d (s.f s.d) (s.t s.d) (ge n) = q at *
  have eu : ∀ e, e < s.d → (upd s.f s.d q) e = s.f e := fun e he => upd_ne _ _ _ _ (by omega)
  have hlen : (r.at_.take (r.at_.length - 1)).length = s.d - 1 := by rw [List.length_take, h.len]; omega
  by_cases hq : q < s.t s.d
  · have hat := of_decide_eq_true (by have := hopN_at L o s.d (s.f s.d) (s.t s.d) (ge n) (by rw [hh]; exact hq) (by omega); rwa [hh] at this)
    have hfind : (lvl L o (r.at_.take (r.at_.length - 1))).find? (fun x => decide (n ≤ x)) = some (num L o s.d q) := by
      refine find_some n _ _ q1 ((q2 _).2 ⟨q, by omega, hq, rfl⟩) hat fun y hy hny => ?_
      obtain ⟨i, g1, g2, rfl⟩ := (q2 y).1 hy
      by_cases hi : i < s.f s.d
      · have := hfirst i g1 hi; omega
      · by_cases hi2 : i < q
        · have := of_decide_eq_false (hopN_below L o s.d (s.f s.d) (s.t s.d) (ge n) i (by omega) (by rw [hh]; exact hi2))
          omega
        · exact h.full.ok.mono hL hs'.1 q i (by omega) (by omega) g2
    unfold rTo
    rw [hfind]
    refine ⟨hf, ?_, fun j hj => ?_, fun _ _ => ⟨?_, ?_⟩, fun _ h2 => ?_, fun h0 => ?_⟩
    · show (r.at_.take _ ++ [_]).length = s.d
      rw [List.length_append, hlen]; simp; omega
    · change j + 1 < s.d at hj
      show (r.at_.take _ ++ [_]).getD j 0 = num L o (j + 1) (upd s.f s.d q (j + 1))
      rw [snoc_getD, if_pos (by omega), take_getD _ _ _ (by rw [h.len]; omega), eu _ hj]
      exact h.up j hj
    · show upd s.f s.d q s.d < s.t s.d
      rw [upd_self]; exact hq
    · show (r.at_.take _ ++ [_]).getD (s.d - 1) 0 = num L o s.d (upd s.f s.d q s.d)
      rw [snoc_getD, if_neg (by omega), if_pos hlen.symm, upd_self]
    · change r.beh = true at h2
      rw [hs2.2] at h2; cases h2
    · change s.d = 0 at h0
      omega
  · have hfind : (lvl L o (r.at_.take (r.at_.length - 1))).find? (fun x => decide (n ≤ x)) = none := by
      rw [List.find?_eq_none]
      intro y hy
      obtain ⟨i, g1, g2, rfl⟩ := (q2 y).1 hy
      simp only [decide_eq_true_eq]
      by_cases hi : i < s.f s.d
      · have := hfirst i g1 hi; omega
      · have := of_decide_eq_false (hopN_below L o s.d (s.f s.d) (s.t s.d) (ge n) i (by omega) (by rw [hh]; omega))
        omega
    unfold rTo
    rw [hfind]
    refine ⟨hf, h.len, fun j hj => ?_, fun _ h2 => (by cases h2), fun _ _ => ?_, fun h0 => ?_⟩
    · change j + 1 < s.d at hj
      show r.at_.getD j 0 = num L o (j + 1) (upd s.f s.d q (j + 1))
      rw [eu _ hj]
      exact h.up j hj
    · show s.t s.d ≤ upd s.f s.d q s.d
      rw [upd_self]; omega
    · change s.d = 0 at h0
      omega

theorem sim_seek {L : List R3} {o : Ord} {s : St} {r : RS} (h : Rel L o s r) (hL : L.Pairwise (ltR o)) (n : Int) : (opSeek L o s n).2 = (rSeek L o r n).2 ∧ Rel L o (opSeek L o s n).1 (rSeek L o r n).1 := by
  unfold rSeek
  rw [← sim_key h]
  by_cases hs : stand s = true
  · rw [key_eq L o hs, if_neg (by simp)]
    rw [seek_eq hs rfl]
    by_cases hn : n ≤ num L o s.d (s.f s.d)
    · rw [if_pos hn]
      have hs' := (stand_iff s).1 hs
      have e : hopN L o s.d (s.f s.d) (s.t s.d) (ge n) = s.f s.d := hopN_eq L o _ _ _ _ _ (Nat.le_refl _) (by omega) (fun i h1 h2 => by omega) (fun _ => decide_eq_true hn)
      have hf := full_jump h.full hL hs n
      rw [e] at hf ⊢
      have eu : ∀ k, upd s.f s.d (s.f s.d) k = s.f k := fun k => by unfold upd; split <;> simp_all
      refine ⟨rfl, hf, h.len, fun j hj => ?_, fun h1 h2 => ?_, fun h1 h2 => ?_, h.zero⟩
      · show _ = num L o (j + 1) (upd s.f s.d (s.f s.d) (j + 1))
        rw [eu]; exact h.up j hj
      · show upd s.f s.d (s.f s.d) s.d < s.t s.d ∧ _ = num L o s.d (upd s.f s.d (s.f s.d) s.d)
        rw [eu]; exact h.yes h1 h2
      · show s.t s.d ≤ upd s.f s.d (s.f s.d) s.d
        rw [eu]; exact h.no h1 h2
    · rw [if_neg hn]
      exact ⟨rfl, sim_to h hL hs n (by omega)⟩
  · have hk : opKey L o s = (0, false) := by unfold opKey; rw [if_neg hs]
    have e : opSeek L o s n = (s, 3) := by unfold opSeek; rw [if_neg hs]
    rw [hk, if_pos rfl, e]
    exact ⟨rfl, h⟩
theorem sim_next {L : List R3} {o : Ord} {s : St} {r : RS} (h : Rel L o s r) (hL : L.Pairwise (ltR o)) (hb : ∀ e i, i < L.length → num L o e i ≤ 9223372036854775807) : (opNext L o s).2 = (rNext L o r).2 ∧ Rel L o (opNext L o s).1 (rNext L o r).1 := by
  unfold rNext
  rw [← sim_key h]
  by_cases hs : stand s = true
  · have hs' := (stand_iff s).1 hs
    have hlv := h.full.ok.le s.d hs'.1 (Nat.le_refl _)
    rw [key_eq L o hs, if_neg (by simp), next_eq hs rfl]
    have ep : gt (num L o s.d (s.f s.d)) = ge (num L o s.d (s.f s.d) + 1) := by
      funext x
      unfold gt ge
      exact decide_eq_decide.2 (by omega)
    rw [ep]
    have hto := sim_to h hL hs (num L o s.d (s.f s.d) + 1) (by omega)
    by_cases hm : num L o s.d (s.f s.d) = 9223372036854775807
    · rw [if_pos hm]
      refine ⟨rfl, ?_⟩
      have hq : hopN L o s.d (s.f s.d) (s.t s.d) (ge (num L o s.d (s.f s.d) + 1)) = s.t s.d :=
        hopN_eq L o _ _ _ _ _ (by omega) (Nat.le_refl _) (fun i h1 h2 => decide_eq_false (by have := hb s.d i (by omega); omega)) (fun h => by omega)
      have hf := hto.full
      rw [hq] at hf ⊢
      refine ⟨hf, h.len, fun j hj => ?_, fun _ h2 => (by cases h2), fun _ _ => ?_, fun h0 => ?_⟩
      · change j + 1 < s.d at hj
        show r.at_.getD j 0 = num L o (j + 1) (upd s.f s.d _ (j + 1))
        rw [upd_ne _ _ _ _ (by omega)]
        exact h.up j hj
      · show s.t s.d ≤ upd s.f s.d _ s.d
        rw [upd_self]; omega
      · change s.d = 0 at h0
        omega
    · rw [if_neg hm]
      exact ⟨rfl, hto⟩
  · have hk : opKey L o s = (0, false) := by unfold opKey; rw [if_neg hs]
    have e : opNext L o s = (s, 3) := by unfold opNext; rw [if_neg hs]
    rw [hk, if_pos rfl, e]
    exact ⟨rfl, h⟩
end Go.Proofs.YtcnffgcegimelaaGreat.Pm
end
