/-
  The document's walks: the plain law: a walk's state and the document's numbers go together. Conditions: rows that rise strictly.
-/
import Derived.Test.YthapkpgkcckapaaPd0
namespace Go.Proofs.Ythapkpgkcckapaa.Pm
open Go.Proofs.Ythapkpgkcckapaa.Pw

/-! ### 1. Numbers, each once -/
def ddStep (acc : List Int) (x : Int) : List Int := if acc.getLast? = some x then acc else acc ++ [x]
theorem dd_aux : ∀ (M acc : List Int), acc.Pairwise (· < ·) → M.Pairwise (· ≤ ·) → (∀ a ∈ acc, ∀ x ∈ M, a ≤ x) → (M.foldl ddStep acc).Pairwise (· < ·) ∧ ∀ x, x ∈ M.foldl ddStep acc ↔ x ∈ acc ∨ x ∈ M
  | [], acc, h, _, _ => ⟨h, by simp⟩
  | y :: M, acc, h1, h2, h3 => by
    obtain ⟨p1, p2⟩ := List.pairwise_cons.1 h2
    have hs : (ddStep acc y).Pairwise (· < ·) ∧ (∀ x, x ∈ ddStep acc y ↔ x ∈ acc ∨ x = y) := by
      unfold ddStep
      split
      · rename_i hl
        refine ⟨h1, fun x => ⟨.inl, fun h => h.elim id ?_⟩⟩
        rintro rfl
        exact List.mem_of_getLast? hl
      · rename_i hl
        refine ⟨List.pairwise_append.2 ⟨h1, by simp, fun a ha b hb => ?_⟩, by simp⟩
        obtain rfl : b = y := by simpa using hb
        have hle := h3 a ha b (by simp)
        by_cases e : a = b
        · exfalso
          subst e
          apply hl
          cases hg : acc.getLast? with
          | none => rw [List.getLast?_eq_none_iff] at hg; subst hg; simp at ha
          | some z =>
            have hz := List.mem_of_getLast? hg
            have hz2 := h3 z hz a (by simp)
            obtain ⟨ys, hys⟩ := List.getLast?_eq_some_iff.1 hg
            subst hys
            rcases List.mem_append.1 ha with ha | ha
            · have := (List.pairwise_append.1 h1).2.2 a ha z (by simp)
              omega
            · have : a = z := by simpa using ha
              rw [this]
        · omega
    obtain ⟨q1, q2⟩ := dd_aux M (ddStep acc y) hs.1 p2 (fun a ha x hx => by
      rcases (hs.2 a).1 ha with ha | rfl
      · exact h3 a ha x (by simp [hx])
      · exact p1 x hx)
    refine ⟨q1, fun x => (q2 x).trans ?_⟩
    rw [hs.2, List.mem_cons, or_assoc]

/-! ### 2. The numbers of a level -/
def mtTo (o : Ord) (at_ : List Int) (r : R3) : Nat → Bool
  | 0 => true
  | k + 1 => mtTo o at_ r k && decide (r.at (o.at k) = at_.getD k 0)
theorem mtTo_iff (o : Ord) (at_ : List Int) (r : R3) : ∀ k, mtTo o at_ r k = true ↔ ∀ j, j < k → r.at (o.at j) = at_.getD j 0
  | 0 => by simp [mtTo]
  | k + 1 => by
    unfold mtTo
    rw [Bool.and_eq_true, mtTo_iff o at_ r k, decide_eq_true_iff]
    constructor
    · rintro ⟨h1, h2⟩ j hj
      by_cases e : j = k
      · subst e; exact h2
      · exact h1 j (by omega)
    · intro h
      exact ⟨fun j hj => h j (by omega), h k (by omega)⟩
def lvlStep (o : Ord) (at_ : List Int) (out : List Int) (r : R3) : List Int := if mtTo o at_ r at_.length then ddStep out (r.at (o.at at_.length)) else out
def lvl (L : List R3) (o : Ord) (at_ : List Int) : List Int := L.foldl (lvlStep o at_) []
theorem lvl_take (L : List R3) (o : Ord) (at_ : List Int) (k : Nat) (hk : k < L.length) : lvl (L.take (k + 1)) o at_ = lvlStep o at_ (lvl (L.take k) o at_) (L.getD k r0) := by
  unfold lvl
  rw [List.take_succ_eq_append_getElem hk, List.foldl_append, List.getD_eq_getElem?_getD, List.getElem?_eq_getElem hk]
  rfl
theorem lvl_dd (o : Ord) (at_ : List Int) : ∀ (L : List R3) (acc : List Int), L.foldl (lvlStep o at_) acc = ((L.filter fun r => mtTo o at_ r at_.length).map fun r => r.at (o.at at_.length)).foldl ddStep acc
  | [], _ => rfl
  | r :: L, acc => by
    rw [List.foldl_cons, lvl_dd o at_ L]
    unfold lvlStep
    rw [List.filter_cons]
    split <;> simp
theorem lvl_len (L : List R3) (o : Ord) (at_ : List Int) (k : Nat) (hk : k ≤ L.length) : (lvl (L.take k) o at_).length ≤ k := by
  induction k with
  | zero => simp [lvl]
  | succ k ih =>
    rw [lvl_take L o at_ k (by omega)]
    have := ih (by omega)
    unfold lvlStep ddStep
    split
    · split
      · omega
      · rw [List.length_append]; simp; omega
    · omega

theorem ordAt0 (o : Ord) : o.at 0 = o.x := rfl
theorem ordAt1 (o : Ord) : o.at 1 = o.y := rfl
theorem ordAt2 (o : Ord) : o.at 2 = o.z := rfl

theorem lvl_sorted (L : List R3) (o : Ord) (at_ : List Int) (hL : L.Pairwise (ltR o)) (ha : at_.length ≤ 2) : (lvl L o at_).Pairwise (· < ·) ∧ ∀ x, x ∈ lvl L o at_ ↔ ∃ i, i < L.length ∧ (∀ j, j < at_.length → num L o (j + 1) i = at_.getD j 0) ∧ num L o (at_.length + 1) i = x := by
  unfold lvl
  rw [lvl_dd]
  have hm : ((L.filter fun r => mtTo o at_ r at_.length).map fun r => r.at (o.at at_.length)).Pairwise (· ≤ ·) := by
    rw [List.pairwise_map, List.pairwise_filter]
    refine List.Pairwise.imp ?_ hL
    intro a b hab h1 h2
    rw [mtTo_iff] at h1 h2
    have hs : ∀ j, j < at_.length → a.at (o.at j) = b.at (o.at j) := fun j hj => (h1 j hj).trans (h2 j hj).symm
    unfold ltR at hab
    obtain e | e | e : at_.length = 0 ∨ at_.length = 1 ∨ at_.length = 2 := by omega
    · rw [e, ordAt0]; omega
    · have := hs 0 (by omega)
      rw [ordAt0] at this
      rw [e, ordAt1]; omega
    · have s0 := hs 0 (by omega)
      have s1 := hs 1 (by omega)
      rw [ordAt0] at s0
      rw [ordAt1] at s1
      rw [e, ordAt2]; omega
  obtain ⟨q1, q2⟩ := dd_aux _ [] List.Pairwise.nil hm (by simp)
  refine ⟨q1, fun x => (q2 x).trans ?_⟩
  have hn : ∀ j i (h : i < L.length), num L o (j + 1) i = (L[i]).at (o.at j) := fun j i h => by
    unfold num
    rw [List.getD_eq_getElem?_getD, List.getElem?_eq_getElem h]
    rfl
  simp only [List.not_mem_nil, false_or, List.mem_map, List.mem_filter]
  constructor
  · rintro ⟨r, ⟨hr, hmr⟩, rfl⟩
    obtain ⟨i, hi, rfl⟩ := List.getElem_of_mem hr
    rw [mtTo_iff] at hmr
    exact ⟨i, hi, fun j hj => by rw [hn j i hi]; exact hmr j hj, hn _ i hi⟩
  · rintro ⟨i, hi, h1, h2⟩
    refine ⟨L[i], ⟨List.getElem_mem hi, (mtTo_iff o at_ _ _).2 fun j hj => ?_⟩, ?_⟩
    · rw [← hn j i hi]; exact h1 j hj
    · rw [← hn _ i hi]; exact h2

/-! ### 3. What holds of each state -/
def FirstAt (L : List R3) (o : Ord) (e lo f t : Nat) : Prop := f < t → ∀ j, lo ≤ j → j < f → num L o e j < num L o e f
structure Full (L : List R3) (o : Ord) (s : St) : Prop where
  ok : Ok L o s
  t1 : 1 ≤ s.d → s.t 1 = L.length
  f1 : 1 ≤ s.d → FirstAt L o 1 0 (s.f 1) (s.t 1)
  b2 : 2 ≤ s.d → s.f 1 < s.t 1 ∧ s.f 1 ≤ s.f 2 ∧ s.t 2 = hopN L o 1 (s.f 1) (s.t 1) (gt (num L o 1 (s.f 1))) ∧ FirstAt L o 2 (s.f 1) (s.f 2) (s.t 2)
  b3 : 3 ≤ s.d → s.f 2 < s.t 2 ∧ s.f 2 ≤ s.f 3 ∧ s.t 3 = hopN L o 2 (s.f 2) (s.t 2) (gt (num L o 2 (s.f 2))) ∧ FirstAt L o 3 (s.f 2) (s.f 3) (s.t 3)
def loOf (s : St) : Nat := if s.d = 1 then 0 else s.f (s.d - 1)

theorem full_root (L : List R3) (o : Ord) : Full L o (root L.length) := ⟨ok_root L o, fun h => by simp [root] at h, fun h => by simp [root] at h, fun h => by simp [root] at h, fun h => by simp [root] at h⟩
theorem first_nil (L : List R3) (o : Ord) (e f t : Nat) : FirstAt L o e f f t := fun _ j h1 h2 => by omega

theorem full_open {L : List R3} {o : Ord} {s : St} (h : Full L o s) (hL : L.Pairwise (ltR o)) (hn : ¬ (s.d = 3 ∨ (0 < s.d ∧ stand s = false) ∨ L.length = 0)) :
    ∃ s', opOpen L o s = (s', 0) ∧ Full L o s' ∧ s'.d = s.d + 1 ∧ (∀ e, e ≤ s.d → s'.f e = s.f e) ∧ s'.f (s.d + 1) = s.f s.d ∧ s'.f s'.d = loOf s' ∧ s'.f s'.d < s'.t s'.d := by
  have hok := ok_open h.ok hL
  have h3 : s.d ≠ 3 := fun e => hn (.inl e)
  have hl : L.length ≠ 0 := fun e => hn (.inr (.inr e))
  have hsd : s.d ≠ 0 → stand s = true := fun e => by
    cases hs : stand s with
    | true => rfl
    | false => exact absurd (.inr (.inl ⟨by omega, hs⟩)) hn
  obtain hd | hd | hd | hd := d_cases h.ok
  · have en : opOpen L o s = (⟨1, upd s.f 1 (s.f 0), upd s.t 1 (s.t 0)⟩, 0) := by unfold opOpen; rw [if_neg hn, if_pos hd]
    rw [en] at hok
    have f0 := h.ok.f0
    have t0 := h.ok.t0
    refine ⟨_, en, ⟨hok, fun _ => t0, fun _ => ?_, fun h2 => absurd h2 (by show ¬ 2 ≤ 1; omega), fun h2 => absurd h2 (by show ¬ 3 ≤ 1; omega)⟩, by rw [hd], ?_, ?_, f0, ?_⟩
    · show FirstAt L o 1 0 (s.f 0) _
      rw [f0]; exact first_nil _ _ _ _ _
    · intro e he
      obtain rfl : e = 0 := by omega
      rfl
    · rw [hd]; rfl
    · show s.f 0 < s.t 0
      omega
  · have hs := hsd (by omega)
    have hst := ((stand_iff s).1 hs).2
    rw [hd] at hst
    have en : opOpen L o s = (⟨2, upd s.f 2 (s.f 1), upd s.t 2 (hopN L o 1 (s.f 1) (s.t 1) (gt (num L o 1 (s.f 1))))⟩, 0) := by rw [open_eq hs hl h3 rfl, hd]
    rw [en] at hok
    refine ⟨_, en, ⟨hok, fun _ => h.t1 (by omega), fun _ => h.f1 (by omega), fun _ => ⟨hst, Nat.le_refl _, rfl, first_nil _ _ _ _ _⟩, fun h2 => absurd h2 (by show ¬ 3 ≤ 2; omega)⟩, by rw [hd], ?_, ?_, rfl, ?_⟩
    · intro e he
      obtain rfl | rfl : e = 0 ∨ e = 1 := by omega
      all_goals rfl
    · rw [hd]; rfl
    · exact gt_hop L o 1 (s.f 1) (s.t 1) hst
  · have hs := hsd (by omega)
    have hst := ((stand_iff s).1 hs).2
    rw [hd] at hst
    have en : opOpen L o s = (⟨3, upd s.f 3 (s.f 2), upd s.t 3 (hopN L o 2 (s.f 2) (s.t 2) (gt (num L o 2 (s.f 2))))⟩, 0) := by rw [open_eq hs hl h3 rfl, hd]
    rw [en] at hok
    refine ⟨_, en, ⟨hok, fun _ => h.t1 (by omega), fun _ => h.f1 (by omega), fun _ => h.b2 (by omega), fun _ => ⟨hst, Nat.le_refl _, rfl, first_nil _ _ _ _ _⟩⟩, by rw [hd], ?_, ?_, rfl, ?_⟩
    · intro e he
      obtain rfl | rfl | rfl : e = 0 ∨ e = 1 ∨ e = 2 := by omega
      all_goals rfl
    · rw [hd]; rfl
    · exact gt_hop L o 2 (s.f 2) (s.t 2) hst
  · exact absurd hd h3

theorem full_up {L : List R3} {o : Ord} {s : St} (h : Full L o s) (hd : s.d ≠ 0) : opUp s = ({ s with d := s.d - 1 }, 0) ∧ Full L o { s with d := s.d - 1 } ∧ (s.d - 1 ≠ 0 → s.f (s.d - 1) < s.t (s.d - 1)) := by
  have hok := ok_up h.ok
  rw [up_eq hd] at hok
  refine ⟨up_eq hd, ⟨hok, fun h1 => h.t1 (by change 1 ≤ s.d - 1 at h1; omega), fun h1 => h.f1 (by change 1 ≤ s.d - 1 at h1; omega), fun h1 => h.b2 (by change 2 ≤ s.d - 1 at h1; omega), fun h1 => h.b3 (by change 3 ≤ s.d - 1 at h1; omega)⟩, fun h1 => ?_⟩
  have := h.ok.d3
  obtain e | e : s.d = 2 ∨ s.d = 3 := by omega
  · rw [e]; exact (h.b2 (by omega)).1
  · rw [e]; exact (h.b3 (by omega)).1

/-- To the first row from which on the numbers are no less than one. -/
theorem first_jump {L : List R3} {o : Ord} {e lo f t : Nat} (hf : FirstAt L o e lo f t) (hlt : f < t) (n : Int) (hmono : ∀ a b, f ≤ a → a ≤ b → b < t → num L o e a ≤ num L o e b) : FirstAt L o e lo (hopN L o e f t (ge n)) t := by
  intro h j h1 h2
  have hat := of_decide_eq_true (hopN_at L o e f t (ge n) h (by omega))
  by_cases hj : j < f
  · have := hf hlt j h1 hj
    have := hmono f (hopN L o e f t (ge n)) (Nat.le_refl _) (hopN_ge _ _ _ _ _ _) h
    omega
  · have := of_decide_eq_false (hopN_below L o e f t (ge n) j (by omega) h2)
    omega
theorem full_jump {L : List R3} {o : Ord} {s : St} (h : Full L o s) (hL : L.Pairwise (ltR o)) (hs : stand s = true) (n : Int) : Full L o { s with f := upd s.f s.d (hopN L o s.d (s.f s.d) (s.t s.d) (ge n)) } := by
  have hs' := (stand_iff s).1 hs
  have hok := ok_hop h.ok hs'.1 (ge n)
  rw [hop_N] at hok
  have hmono := fun a b => h.ok.mono hL hs'.1 a b
  have hge := hopN_ge L o s.d (s.f s.d) (s.t s.d) (ge n)
  obtain hd | hd | hd : s.d = 1 ∨ s.d = 2 ∨ s.d = 3 := by have := h.ok.d3; omega
  · rw [hd] at hs' hmono hge hok ⊢
    refine ⟨hok, fun _ => h.t1 (by omega), fun _ => first_jump (h.f1 (by omega)) hs'.2 n hmono, fun h1 => absurd h1 (by show ¬ 2 ≤ 1; omega), fun h1 => absurd h1 (by show ¬ 3 ≤ 1; omega)⟩
  · rw [hd] at hs' hmono hge hok ⊢
    have b2 := h.b2 (by omega)
    refine ⟨hok, fun _ => h.t1 (by omega), fun _ => h.f1 (by omega), fun _ => ⟨b2.1, Nat.le_trans b2.2.1 hge, b2.2.2.1, first_jump b2.2.2.2 hs'.2 n hmono⟩, fun h1 => absurd h1 (by show ¬ 3 ≤ 2; omega)⟩
  · rw [hd] at hs' hmono hge hok ⊢
    have b3 := h.b3 (by omega)
    refine ⟨hok, fun _ => h.t1 (by omega), fun _ => h.f1 (by omega), fun _ => h.b2 (by omega), fun _ => ⟨b3.1, Nat.le_trans b3.2.1 hge, b3.2.2.1, first_jump b3.2.2.2 hs'.2 n hmono⟩⟩
end Go.Proofs.Ythapkpgkcckapaa.Pm
