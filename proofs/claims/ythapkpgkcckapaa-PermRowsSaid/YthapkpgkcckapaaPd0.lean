/-
  The law of a walk that tells all rows: the plain law. Conditions: rows that rise strictly.
-/
import Derived.Test.YthapkpgkcckapaaPc1
namespace Go.Proofs.Ythapkpgkcckapaa.Pm
open Go.Proofs.Ythapkpgkcckapaa.Pw

theorem lo_eq (p : Nat → Bool) (f k r : Nat) (h1 : f ≤ r) (h2 : r ≤ f + k) (h3 : ∀ i, f ≤ i → i < r → p i = false) (h4 : r < f + k → p r = true) : lo p f k = r := by
  have a := lo_ge p k f
  have b := lo_le p k f
  by_cases e : lo p f k < r
  · have := lo_at p k f (by omega)
    rw [h3 _ a e] at this
    cases this
  · by_cases e2 : r < lo p f k
    · have := lo_below p k f r h1 e2
      rw [h4 (by omega)] at this
      cases this
    · omega

/-- To the first place of a level from f on of which something is so. -/
def hopN (L : List R3) (o : Ord) (e f t : Nat) (p : Int → Bool) : Nat := lo (fun k => p (num L o e k)) f (t - f)
theorem hop_N (L : List R3) (o : Ord) (s : St) (p : Int → Bool) : hop L o s p = hopN L o s.d (s.f s.d) (s.t s.d) p := rfl
def gt (x : Int) : Int → Bool := fun y => decide (x < y)
def ge (x : Int) : Int → Bool := fun y => decide (x ≤ y)

/-- What holds of each state of a walk that tells all rows. -/
structure All (L : List R3) (o : Ord) (s : St) : Prop where
  ok : Ok L o s
  t1 : 1 ≤ s.d → s.t 1 = L.length
  b2 : 2 ≤ s.d → s.f 1 < s.t 1 ∧ s.f 1 ≤ s.f 2 ∧ s.t 2 = hopN L o 1 (s.f 1) (s.t 1) (gt (num L o 1 (s.f 1))) ∧ (s.f 2 < s.t 2 → ∀ j, s.f 1 ≤ j → j < s.f 2 → num L o 2 j < num L o 2 (s.f 2))
  b3 : 3 ≤ s.d → s.f 2 < s.t 2 ∧ s.f 2 ≤ s.f 3 ∧ s.t 3 = hopN L o 2 (s.f 2) (s.t 2) (gt (num L o 2 (s.f 2)))
/-- The place of the row that comes. -/
def pos (s : St) : Nat := s.f s.d
theorem all_root (L : List R3) (o : Ord) : All L o (root L.length) := ⟨ok_root L o, fun h => by simp [root] at h, fun h => by simp [root] at h, fun h => by simp [root] at h⟩

theorem hopN_ge (L : List R3) (o : Ord) (e f t : Nat) (p : Int → Bool) : f ≤ hopN L o e f t p := lo_ge _ _ _
theorem hopN_le (L : List R3) (o : Ord) (e f t : Nat) (p : Int → Bool) (h : f ≤ t) : hopN L o e f t p ≤ t := by
  have := lo_le (fun k => p (num L o e k)) (t - f) f
  unfold hopN; omega
theorem hopN_below (L : List R3) (o : Ord) (e f t : Nat) (p : Int → Bool) (k : Nat) (h1 : f ≤ k) (h2 : k < hopN L o e f t p) : p (num L o e k) = false := lo_below (fun k => p (num L o e k)) _ _ k h1 h2
theorem hopN_at (L : List R3) (o : Ord) (e f t : Nat) (p : Int → Bool) (h : hopN L o e f t p < t) (hf : f ≤ t) : p (num L o e (hopN L o e f t p)) = true :=
  lo_at (fun k => p (num L o e k)) (t - f) f (by have := hopN_ge L o e f t p; unfold hopN at h this; omega)
theorem hopN_eq (L : List R3) (o : Ord) (e f t : Nat) (p : Int → Bool) (r : Nat) (h1 : f ≤ r) (h2 : r ≤ t) (h3 : ∀ i, f ≤ i → i < r → p (num L o e i) = false) (h4 : r < t → p (num L o e r) = true) : hopN L o e f t p = r :=
  lo_eq _ f (t - f) r h1 (by omega) h3 (fun h => h4 (by omega))
theorem gt_hop (L : List R3) (o : Ord) (e f t : Nat) (h : f < t) : f < hopN L o e f t (gt (num L o e f)) := by
  have h1 := hopN_ge L o e f t (gt (num L o e f))
  by_cases h2 : f = hopN L o e f t (gt (num L o e f))
  · have := hopN_at L o e f t (gt (num L o e f)) (by omega) (by omega)
    rw [← h2] at this
    have := of_decide_eq_true this
    omega
  · omega

/-- The facts of a state below the root. -/
theorem All.lv {L : List R3} {o : Ord} {s : St} (h : All L o s) (hd : 1 ≤ s.d) : s.f s.d ≤ s.t s.d ∧ s.t s.d ≤ L.length := h.ok.le s.d hd (Nat.le_refl _)

/-- How many rounds are left at the most. -/
def left (L : List R3) (s : St) : Nat := if s.d = 0 then 5 * L.length + 2 else if s.d = 1 then 5 * (L.length - s.f 1) + 1 else if s.d = 2 then 5 * (L.length - s.f 2) + (if s.f 2 < s.t 2 then 0 else 2)
  else 5 * (L.length - s.f 3) + 3 - (if s.f 3 < s.t 3 then 4 else 0)

theorem left_0 {L : List R3} {s : St} (h : s.d = 0) : left L s = 5 * L.length + 2 := by unfold left; rw [if_pos h]
theorem left_1 {L : List R3} {s : St} (h : s.d = 1) : left L s = 5 * (L.length - s.f 1) + 1 := by unfold left; rw [if_neg (by omega), if_pos h]
theorem left_2 {L : List R3} {s : St} (h : s.d = 2) : left L s = 5 * (L.length - s.f 2) + (if s.f 2 < s.t 2 then 0 else 2) := by unfold left; rw [if_neg (by omega), if_neg (by omega), if_pos h]
theorem left_3 {L : List R3} {s : St} (h : s.d = 3) : left L s = 5 * (L.length - s.f 3) + 3 - (if s.f 3 < s.t 3 then 4 else 0) := by unfold left; rw [if_neg (by omega), if_neg (by omega), if_neg (by omega)]

theorem d_cases {L : List R3} {o : Ord} {s : St} (h : Ok L o s) : s.d = 0 ∨ s.d = 1 ∨ s.d = 2 ∨ s.d = 3 := by have := h.d3; omega

theorem seek_eq {L : List R3} {o : Ord} {s : St} {n : Int} {r : Nat} (hs : stand s = true) (h : hopN L o s.d (s.f s.d) (s.t s.d) (ge n) = r) : opSeek L o s n = ({ s with f := upd s.f s.d r }, 0) := by
  unfold opSeek
  rw [if_pos hs]
  subst h
  rfl
theorem next_eq {L : List R3} {o : Ord} {s : St} {r : Nat} (hs : stand s = true) (h : hopN L o s.d (s.f s.d) (s.t s.d) (gt (num L o s.d (s.f s.d))) = r) : opNext L o s = ({ s with f := upd s.f s.d r }, 0) := by
  unfold opNext
  rw [if_pos hs]
  subst h
  rfl
theorem open_eq {L : List R3} {o : Ord} {s : St} {r : Nat} (hs : stand s = true) (hl : L.length ≠ 0) (h3 : s.d ≠ 3) (h : hopN L o s.d (s.f s.d) (s.t s.d) (gt (num L o s.d (s.f s.d))) = r) :
    opOpen L o s = (⟨s.d + 1, upd s.f (s.d + 1) (s.f s.d), upd s.t (s.d + 1) r⟩, 0) := by
  have hs' := (stand_iff s).1 hs
  unfold opOpen
  rw [if_neg (by rintro (h | ⟨_, h⟩ | h); exact h3 h; rw [hs] at h; cases h; exact hl h), if_neg (by omega)]
  subst h
  rfl
theorem up_eq {s : St} (h : s.d ≠ 0) : opUp s = ({ s with d := s.d - 1 }, 0) := by unfold opUp; rw [if_neg h]
theorem key_eq (L : List R3) (o : Ord) {s : St} (h : stand s = true) : opKey L o s = (num L o s.d (s.f s.d), true) := by unfold opKey; rw [if_pos h]; rfl

theorem all_open {L : List R3} {o : Ord} {s : St} (h : All L o s) (hL : L.Pairwise (ltR o)) (hc : (opOpen L o s).2 = 0) : All L o (opOpen L o s).1 ∧ pos (opOpen L o s).1 = pos s ∧ left L (opOpen L o s).1 < left L s := by
  have hok := ok_open h.ok hL
  have hn : ¬ (s.d = 3 ∨ (0 < s.d ∧ stand s = false) ∨ L.length = 0) := fun e => by
    unfold opOpen at hc
    rw [if_pos e] at hc
    exact absurd hc (by simp)
  have h3 : s.d ≠ 3 := fun e => hn (.inl e)
  have hl : L.length ≠ 0 := fun e => hn (.inr (.inr e))
  have hsd : s.d ≠ 0 → stand s = true := fun e => by
    cases hs : stand s with
    | true => rfl
    | false => exact absurd (.inr (.inl ⟨by omega, hs⟩)) hn
  obtain hd | hd | hd | hd := d_cases h.ok
  · have en : opOpen L o s = (⟨1, upd s.f 1 (s.f 0), upd s.t 1 (s.t 0)⟩, 0) := by unfold opOpen; rw [if_neg hn, if_pos hd]
    rw [en] at hok ⊢
    have f0 := h.ok.f0
    have t0 := h.ok.t0
    refine ⟨⟨hok, fun _ => t0, fun h2 => absurd h2 (by show ¬ 2 ≤ 1; omega), fun h2 => absurd h2 (by show ¬ 3 ≤ 1; omega)⟩, ?_, ?_⟩
    · show s.f 0 = s.f s.d
      rw [hd]
    · rw [left_0 hd, left_1 rfl]
      show 5 * (L.length - s.f 0) + 1 < _
      omega
  · have hs := hsd (by omega)
    have hst := ((stand_iff s).1 hs).2
    have ht1 := h.t1 (by omega)
    rw [hd] at hst
    have hg := gt_hop L o 1 (s.f 1) (s.t 1) hst
    have en : opOpen L o s = (⟨2, upd s.f 2 (s.f 1), upd s.t 2 (hopN L o 1 (s.f 1) (s.t 1) (gt (num L o 1 (s.f 1))))⟩, 0) := by rw [open_eq hs hl h3 rfl, hd]
    rw [en] at hok ⊢
    refine ⟨⟨hok, fun _ => ht1, fun _ => ⟨hst, Nat.le_refl _, rfl, fun _ j h1 h2 => ?_⟩, fun h2 => absurd h2 (by show ¬ 3 ≤ 2; omega)⟩, ?_, ?_⟩
    · exact absurd h2 (by show ¬ j < s.f 1; have : s.f 1 ≤ j := h1; omega)
    · show s.f 1 = s.f s.d
      rw [hd]
    · rw [left_1 hd, left_2 rfl]
      show 5 * (L.length - s.f 1) + (if s.f 1 < hopN L o 1 (s.f 1) (s.t 1) (gt (num L o 1 (s.f 1))) then 0 else 2) < _
      rw [if_pos hg]
      omega
  · have hs := hsd (by omega)
    have hst := ((stand_iff s).1 hs).2
    have ht1 := h.t1 (by omega)
    have hb2 := h.b2 (by omega)
    rw [hd] at hst
    have hg := gt_hop L o 2 (s.f 2) (s.t 2) hst
    have hl2 := h.lv (by omega)
    rw [hd] at hl2
    have en : opOpen L o s = (⟨3, upd s.f 3 (s.f 2), upd s.t 3 (hopN L o 2 (s.f 2) (s.t 2) (gt (num L o 2 (s.f 2))))⟩, 0) := by rw [open_eq hs hl h3 rfl, hd]
    rw [en] at hok ⊢
    refine ⟨⟨hok, fun _ => ht1, fun _ => hb2, fun _ => ⟨hst, Nat.le_refl _, rfl⟩⟩, ?_, ?_⟩
    · show s.f 2 = s.f s.d
      rw [hd]
    · rw [left_2 hd, left_3 rfl, if_pos hst]
      show 5 * (L.length - s.f 2) + 3 - (if s.f 2 < hopN L o 2 (s.f 2) (s.t 2) (gt (num L o 2 (s.f 2))) then 4 else 0) < _
      rw [if_pos hg]
      omega
  · exact absurd hd h3

/-- Where it did not open, and stands at no number. -/
theorem all_end {L : List R3} {o : Ord} {s : St} (h : All L o s) (hc : (opOpen L o s).2 ≠ 0) (hs : stand s = false) (hd : s.d ≤ 1) : pos s = L.length := by
  unfold pos
  obtain hd | hd : s.d = 0 ∨ s.d = 1 := by omega
  · rw [hd, h.ok.f0]
    unfold opOpen at hc
    rw [if_pos hd] at hc
    split at hc
    · rename_i h1
      rcases h1 with h1 | ⟨h1, _⟩ | h1
      · omega
      · omega
      · exact h1.symm
    · exact absurd rfl hc
  · have h1 := stand_no hs
    have h2 := h.lv (by omega)
    have h3 := h.t1 (by omega)
    rw [hd] at *
    omega

theorem all_on {L : List R3} {o : Ord} {s : St} (h : All L o s) (hs : stand s = false) (hd : 2 ≤ s.d) :
    (opUp s).2 = 0 ∧ (opUp s).1.d = s.d - 1 ∧ All L o (opNext L o (opUp s).1).1 ∧ pos (opNext L o (opUp s).1).1 = pos s ∧ left L (opNext L o (opUp s).1).1 < left L s := by
  have hok := ok_next (ok_up h.ok)
  have h1 := stand_no hs
  have h2 := h.lv (by omega)
  have ht1 := h.t1 (by omega)
  have hb2 := h.b2 hd
  have h0 : s.d ≠ 0 := by omega
  have eu : opUp s = ({ s with d := s.d - 1 }, 0) := by unfold opUp; rw [if_neg h0]
  obtain hd' | hd' : s.d = 2 ∨ s.d = 3 := by have := h.ok.d3; omega
  · have e1 : (fun x => decide (nm L o { s with d := s.d - 1 } < x)) = gt (num L o 1 (s.f 1)) := by unfold gt nm; rw [hd']
    have hst : stand { s with d := s.d - 1 } = true := (stand_iff _).2 ⟨by show 0 < s.d - 1; omega, by rw [hd']; exact hb2.1⟩
    have en : opNext L o { s with d := s.d - 1 } = ({ s with d := s.d - 1, f := upd s.f 1 (s.t 2) }, 0) := by
      unfold opNext
      rw [if_pos hst, hop_N, e1]
      simp only [hd', Nat.reduceSub]
      rw [← hb2.2.2.1]
    rw [eu] at hok ⊢
    refine ⟨rfl, rfl, ?_⟩
    show All L o (opNext L o { s with d := s.d - 1 }).1 ∧ pos (opNext L o { s with d := s.d - 1 }).1 = pos s ∧ left L (opNext L o { s with d := s.d - 1 }).1 < left L s
    have hok : Ok L o (opNext L o { s with d := s.d - 1 }).1 := hok
    rw [en] at hok ⊢
    have e2 : s.f 2 = s.t 2 := by rw [hd'] at h1 h2; omega
    refine ⟨⟨hok, fun _ => ht1, fun h => ?_, fun h => ?_⟩, ?_, ?_⟩
    · simp [hd'] at h
    · simp [hd'] at h
    · unfold pos
      simp only [hd', Nat.reduceSub, upd_self]
      exact e2.symm
    · rw [left_2 hd', left_1 (show s.d - 1 = 1 by omega), if_neg (by omega)]
      show 5 * (L.length - s.t 2) + 1 < _
      omega
  · have hb3 := h.b3 (by omega)
    have e1 : (fun x => decide (nm L o { s with d := s.d - 1 } < x)) = gt (num L o 2 (s.f 2)) := by unfold gt nm; rw [hd']
    have hst : stand { s with d := s.d - 1 } = true := (stand_iff _).2 ⟨by show 0 < s.d - 1; omega, by rw [hd']; exact hb3.1⟩
    have en : opNext L o { s with d := s.d - 1 } = ({ s with d := s.d - 1, f := upd s.f 2 (s.t 3) }, 0) := by
      unfold opNext
      rw [if_pos hst, hop_N, e1]
      simp only [hd', Nat.reduceSub]
      rw [← hb3.2.2]
    rw [eu] at hok ⊢
    refine ⟨rfl, rfl, ?_⟩
    show All L o (opNext L o { s with d := s.d - 1 }).1 ∧ pos (opNext L o { s with d := s.d - 1 }).1 = pos s ∧ left L (opNext L o { s with d := s.d - 1 }).1 < left L s
    have hok : Ok L o (opNext L o { s with d := s.d - 1 }).1 := hok
    rw [en] at hok ⊢
    have e2 : s.f 3 = s.t 3 := by rw [hd'] at h1 h2; omega
    have hle3 := hopN_le L o 2 (s.f 2) (s.t 2) (gt (num L o 2 (s.f 2))) (by omega)
    rw [← hb3.2.2] at hle3
    refine ⟨⟨hok, fun _ => ht1, fun _ => ?_, fun h => ?_⟩, ?_, ?_⟩
    · simp only [upd_self, upd_ne s.f 2 _ 1 (by omega)]
      refine ⟨hb2.1, by omega, hb2.2.2.1, fun hlt j hj1 hj2 => ?_⟩
      have hat := hopN_at L o 2 (s.f 2) (s.t 2) (gt (num L o 2 (s.f 2))) (by rw [← hb3.2.2]; exact hlt) (by omega)
      rw [← hb3.2.2] at hat
      have hat := of_decide_eq_true hat
      by_cases hj : j < s.f 2
      · have := hb2.2.2.2 hb3.1 j hj1 hj
        omega
      · have := hopN_below L o 2 (s.f 2) (s.t 2) (gt (num L o 2 (s.f 2))) j (by omega) (by rw [← hb3.2.2]; exact hj2)
        have := of_decide_eq_false this
        omega
    · simp [hd'] at h
    · unfold pos
      simp only [hd', Nat.reduceSub, upd_self]
      exact e2.symm
    · rw [left_3 hd', left_2 (show s.d - 1 = 2 by omega), if_neg (show ¬ s.f 3 < s.t 3 by omega)]
      show 5 * (L.length - s.t 3) + (if s.t 3 < s.t 2 then 0 else 2) < _
      split <;> omega
end Go.Proofs.Ythapkpgkcckapaa.Pm
