/-
  A walk's calls as plain functions of its state, and what holds of each state that a walk comes to. Conditions: rows that rise strictly.
-/
import Derived.Test.YthapkpgkcckapaaPb0
import Derived.Test.YthapkpgkcckapaaPw9
namespace Go.Proofs.Ythapkpgkcckapaa.Pm
open Go.Proofs.Ythapkpgkcckapaa.Pw

theorem upd_self (f : Nat → Nat) (i v : Nat) : upd f i v i = v := by unfold upd; rw [if_pos rfl]
theorem upd_ne (f : Nat → Nat) (i v k : Nat) (h : k ≠ i) : upd f i v k = f k := by unfold upd; rw [if_neg h]

/-- The first place from f on, of k places, at which something is so; or the place behind them. -/
def lo (p : Nat → Bool) : Nat → Nat → Nat
  | f, 0 => f
  | f, k + 1 => if p f then f else lo p (f + 1) k
theorem lo_ge (p : Nat → Bool) : ∀ (k f : Nat), f ≤ lo p f k
  | 0, f => Nat.le_refl _
  | k + 1, f => by
    unfold lo
    split
    · exact Nat.le_refl _
    · exact Nat.le_trans (Nat.le_succ f) (lo_ge p k (f + 1))
theorem lo_le (p : Nat → Bool) : ∀ (k f : Nat), lo p f k ≤ f + k
  | 0, f => Nat.le_refl _
  | k + 1, f => by
    unfold lo
    split
    · omega
    · have := lo_le p k (f + 1); omega
theorem lo_below (p : Nat → Bool) : ∀ (k f : Nat) (i : Nat), f ≤ i → i < lo p f k → p i = false
  | 0, f, i, h1, h2 => by unfold lo at h2; omega
  | k + 1, f, i, h1, h2 => by
    unfold lo at h2
    split at h2
    · omega
    · rename_i hp
      by_cases e : i = f
      · subst e; simpa using hp
      · exact lo_below p k (f + 1) i (by omega) h2
theorem lo_at (p : Nat → Bool) : ∀ (k f : Nat), lo p f k < f + k → p (lo p f k) = true
  | 0, f, h => by unfold lo at h; omega
  | k + 1, f, h => by
    unfold lo at h ⊢
    split
    · assumption
    · rename_i hp
      rw [if_neg hp] at h
      exact lo_at p k (f + 1) (by omega)

/-- The number at which a walk stands. -/
def nm (L : List R3) (o : Ord) (s : St) : Int := num L o s.d (s.f s.d)
def stand (s : St) : Bool := decide (0 < s.d ∧ s.f s.d < s.t s.d)
def opKey (L : List R3) (o : Ord) (s : St) : Int × Bool := if stand s then (nm L o s, true) else (0, false)
/-- To the first row of the level of which something is so. -/
def hop (L : List R3) (o : Ord) (s : St) (p : Int → Bool) : Nat := lo (fun k => p (num L o s.d k)) (s.f s.d) (s.t s.d - s.f s.d)
def opNext (L : List R3) (o : Ord) (s : St) : St × Int := if stand s then ({ s with f := upd s.f s.d (hop L o s fun x => decide (nm L o s < x)) }, 0) else (s, 3)
def opSeek (L : List R3) (o : Ord) (s : St) (n : Int) : St × Int := if stand s then ({ s with f := upd s.f s.d (hop L o s fun x => decide (n ≤ x)) }, 0) else (s, 3)
def opUp (s : St) : St × Int := if s.d = 0 then (s, 3) else ({ s with d := s.d - 1 }, 0)
def opOpen (L : List R3) (o : Ord) (s : St) : St × Int :=
  if s.d = 3 ∨ (0 < s.d ∧ stand s = false) ∨ L.length = 0 then (s, 3)
  else if s.d = 0 then (⟨1, upd s.f 1 (s.f 0), upd s.t 1 (s.t 0)⟩, 0)
  else (⟨s.d + 1, upd s.f (s.d + 1) (s.f s.d), upd s.t (s.d + 1) (hop L o s fun x => decide (nm L o s < x))⟩, 0)

/-- What holds of each state that a walk comes to. -/
structure Ok (L : List R3) (o : Ord) (s : St) : Prop where
  d3 : s.d ≤ 3
  f0 : s.f 0 = 0
  t0 : s.t 0 = L.length
  le : ∀ e, 1 ≤ e → e ≤ s.d → s.f e ≤ s.t e ∧ s.t e ≤ L.length
  same : ∀ e, 1 ≤ e → e ≤ s.d → ∀ j, 1 ≤ j → j < e → ∀ a b, s.f e ≤ a → a < s.t e → s.f e ≤ b → b < s.t e → num L o j a = num L o j b

theorem ok_root (L : List R3) (o : Ord) : Ok L o (root L.length) := ⟨by simp [root], rfl, rfl, fun e h1 h2 => by simp [root] at h2; omega, fun e h1 h2 => by simp [root] at h2; omega⟩

theorem Ok.mono {L : List R3} {o : Ord} {s : St} (h : Ok L o s) (hL : L.Pairwise (ltR o)) (hd : 0 < s.d) (a b : Nat) (ha : s.f s.d ≤ a) (hab : a ≤ b) (hb : b < s.t s.d) : num L o s.d a ≤ num L o s.d b :=
  num_mono o L hL s.d ⟨hd, h.d3⟩ a b hab (by have := (h.le s.d hd (Nat.le_refl _)).2; omega) (fun j h1 h2 => h.same s.d hd (Nat.le_refl _) j h1 h2 a b ha (by omega) (by omega) hb)

theorem hop_ge (L : List R3) (o : Ord) (s : St) (p : Int → Bool) : s.f s.d ≤ hop L o s p := lo_ge _ _ _
theorem hop_le (L : List R3) (o : Ord) (s : St) (p : Int → Bool) (h : s.f s.d ≤ s.t s.d) : hop L o s p ≤ s.t s.d := by
  have := lo_le (fun k => p (num L o s.d k)) (s.t s.d - s.f s.d) (s.f s.d)
  unfold hop; omega
theorem hop_below (L : List R3) (o : Ord) (s : St) (p : Int → Bool) (k : Nat) (h1 : s.f s.d ≤ k) (h2 : k < hop L o s p) : p (num L o s.d k) = false := lo_below (fun k => p (num L o s.d k)) _ _ k h1 h2
theorem hop_at (L : List R3) (o : Ord) (s : St) (p : Int → Bool) (h : hop L o s p < s.t s.d) : p (num L o s.d (hop L o s p)) = true := by
  have hg := hop_ge L o s p
  refine lo_at (fun k => p (num L o s.d k)) (s.t s.d - s.f s.d) (s.f s.d) ?_
  unfold hop at h hg
  omega
theorem hop_behind (L : List R3) (o : Ord) (s : St) (p : Int → Bool) (h : Ok L o s) (hL : L.Pairwise (ltR o)) (hd : 0 < s.d) (hp : ∀ x y, x ≤ y → p x = true → p y = true) (k : Nat) (h1 : hop L o s p ≤ k) (h2 : k < s.t s.d) : p (num L o s.d k) = true :=
  hp _ _ (h.mono hL hd _ _ (hop_ge L o s p) h1 h2) (hop_at L o s p (by omega))

theorem ok_hop {L : List R3} {o : Ord} {s : St} (h : Ok L o s) (hd : 0 < s.d) (p : Int → Bool) : Ok L o { s with f := upd s.f s.d (hop L o s p) } := by
  have hle := h.le s.d hd (Nat.le_refl _)
  have hg := hop_ge L o s p
  have hl := hop_le L o s p hle.1
  refine ⟨h.d3, ?_, h.t0, ?_, ?_⟩
  · show upd s.f s.d _ 0 = 0
    unfold upd; rw [if_neg (by omega)]; exact h.f0
  · intro e h1 h2
    show upd s.f s.d _ e ≤ s.t e ∧ s.t e ≤ L.length
    unfold upd
    split
    · rename_i he; subst he; exact ⟨hl, hle.2⟩
    · exact h.le e h1 h2
  · intro e h1 h2 j hj1 hj2 a b ha1 ha2 hb1 hb2
    refine h.same e h1 h2 j hj1 hj2 a b ?_ ha2 ?_ hb2
    · change upd s.f s.d _ e ≤ a at ha1
      unfold upd at ha1
      split at ha1
      · rename_i he; subst he; omega
      · exact ha1
    · change upd s.f s.d _ e ≤ b at hb1
      unfold upd at hb1
      split at hb1
      · rename_i he; subst he; omega
      · exact hb1
theorem ok_next {L : List R3} {o : Ord} {s : St} (h : Ok L o s) : Ok L o (opNext L o s).1 := by
  unfold opNext
  split
  · rename_i hs; exact ok_hop h (of_decide_eq_true hs).1 _
  · exact h
theorem ok_seek {L : List R3} {o : Ord} {s : St} (h : Ok L o s) (n : Int) : Ok L o (opSeek L o s n).1 := by
  unfold opSeek
  split
  · rename_i hs; exact ok_hop h (of_decide_eq_true hs).1 _
  · exact h
theorem ok_up {L : List R3} {o : Ord} {s : St} (h : Ok L o s) : Ok L o (opUp s).1 := by
  unfold opUp
  split
  · exact h
  · have := h.d3
    exact ⟨by show s.d - 1 ≤ 3; omega, h.f0, h.t0, fun e h1 h2 => h.le e h1 (Nat.le_trans h2 (Nat.sub_le _ _)), fun e h1 h2 => h.same e h1 (Nat.le_trans h2 (Nat.sub_le _ _))⟩
theorem ok_open {L : List R3} {o : Ord} {s : St} (h : Ok L o s) (hL : L.Pairwise (ltR o)) : Ok L o (opOpen L o s).1 := by
  unfold opOpen
  split
  · exact h
  · rename_i hn
    have h3 : s.d ≠ 3 := fun e => hn (.inl e)
    have d3 := h.d3
    split
    · rename_i h0
      refine ⟨by show 1 ≤ 3; omega, ?_, ?_, ?_, ?_⟩
      · exact (upd_ne s.f 1 (s.f 0) 0 (by omega)).trans h.f0
      · exact (upd_ne s.t 1 (s.t 0) 0 (by omega)).trans h.t0
      · intro e h1 h2
        obtain rfl : e = 1 := by change e ≤ 1 at h2; omega
        show upd s.f 1 (s.f 0) 1 ≤ upd s.t 1 (s.t 0) 1 ∧ upd s.t 1 (s.t 0) 1 ≤ L.length
        rw [upd_self, upd_self, h.f0, h.t0]; omega
      · intro e h1 h2 j hj1 hj2
        change e ≤ 1 at h2; omega
    · rename_i h0
      have hs : stand s = true := by
        cases e : stand s with
        | true => rfl
        | false => exact absurd (.inr (.inl ⟨by omega, e⟩)) hn
      have hs' := of_decide_eq_true hs
      have hle := h.le s.d hs'.1 (Nat.le_refl _)
      have hg := hop_ge L o s fun x => decide (nm L o s < x)
      have hl := hop_le L o s (fun x => decide (nm L o s < x)) hle.1
      refine ⟨by show s.d + 1 ≤ 3; omega, ?_, ?_, ?_, ?_⟩
      · exact (upd_ne s.f (s.d + 1) (s.f s.d) 0 (by omega)).trans h.f0
      · exact (upd_ne s.t (s.d + 1) (hop L o s fun x => decide (nm L o s < x)) 0 (by omega)).trans h.t0
      · intro e h1 h2
        change e ≤ s.d + 1 at h2
        show upd s.f (s.d + 1) (s.f s.d) e ≤ upd s.t (s.d + 1) (hop L o s fun x => decide (nm L o s < x)) e ∧ upd s.t (s.d + 1) (hop L o s fun x => decide (nm L o s < x)) e ≤ L.length
        unfold upd
        by_cases he : e = s.d + 1
        · rw [if_pos he, if_pos he]; omega
        · rw [if_neg he, if_neg he]; exact h.le e h1 (by omega)
      · intro e h1 h2 j hj1 hj2 a b ha1 ha2 hb1 hb2
        change e ≤ s.d + 1 at h2
        change upd s.f (s.d + 1) (s.f s.d) e ≤ a at ha1
        change a < upd s.t (s.d + 1) (hop L o s fun x => decide (nm L o s < x)) e at ha2
        change upd s.f (s.d + 1) (s.f s.d) e ≤ b at hb1
        change b < upd s.t (s.d + 1) (hop L o s fun x => decide (nm L o s < x)) e at hb2
        unfold upd at ha1 ha2 hb1 hb2
        by_cases he : e = s.d + 1
        · rw [if_pos he] at ha1 ha2 hb1 hb2
          by_cases hj : j = s.d
          · subst hj
            have h5 := hop_below L o s (fun x => decide (nm L o s < x)) a ha1 ha2
            have h6 := hop_below L o s (fun x => decide (nm L o s < x)) b hb1 hb2
            have h7 := h.mono hL hs'.1 (s.f s.d) a (Nat.le_refl _) ha1 (by omega)
            have h8 := h.mono hL hs'.1 (s.f s.d) b (Nat.le_refl _) hb1 (by omega)
            have h5 := of_decide_eq_false h5
            have h6 := of_decide_eq_false h6
            unfold nm at h5 h6
            omega
          · exact h.same s.d hs'.1 (Nat.le_refl _) j hj1 (by omega) a b ha1 (by omega) hb1 (by omega)
        · rw [if_neg he] at ha1 ha2 hb1 hb2
          exact h.same e h1 (by omega) j hj1 hj2 a b ha1 ha2 hb1 hb2
end Go.Proofs.Ythapkpgkcckapaa.Pm
