/-
  The document's walks: the plain law: each call goes from states that go together to such ones, with one answer. Conditions: rows that rise strictly, of numbers of 64 bits.
-/
import Derived.Test.YthapkpgkcckapaaPf0
import Derived.Test.YthapkpgkcckapaaPd1
namespace Go.Proofs.Ythapkpgkcckapaa.Pm
open Go.Proofs.Ythapkpgkcckapaa.Pw

theorem grp {L : List R3} {o : Ord} {s : St} (h : Full L o s) (hL : L.Pairwise (ltR o)) (hd : 1 ≤ s.d) (i : Nat) :
    (i < L.length ∧ ∀ j, 1 ≤ j → j < s.d → num L o j i = num L o j (s.f j)) ↔ loOf s ≤ i ∧ i < s.t s.d := by
  have h3 := h.ok.d3
  have t1 := h.t1 hd
  have step1 : 2 ≤ s.d → ∀ i, (i < L.length ∧ num L o 1 i = num L o 1 (s.f 1)) ↔ s.f 1 ≤ i ∧ i < s.t 2 := fun h2 i => by
    have b2 := h.b2 h2
    have f1 := h.f1 (by omega) b2.1
    have hle := hopN_le L o 1 (s.f 1) (s.t 1) (gt (num L o 1 (s.f 1))) (by omega)
    rw [← b2.2.2.1] at hle
    constructor
    · rintro ⟨hi, he⟩
      have hge : s.f 1 ≤ i := by
        by_cases e : i < s.f 1
        · have := f1 i (by omega) e; omega
        · omega
      refine ⟨hge, ?_⟩
      by_cases e : i < s.t 2
      · exact e
      · exfalso
        have hat := of_decide_eq_true (hopN_at L o 1 (s.f 1) (s.t 1) (gt (num L o 1 (s.f 1))) (by rw [← b2.2.2.1]; omega) (by omega))
        rw [← b2.2.2.1] at hat
        have := num_mono o L hL 1 (by omega) (s.t 2) i (by omega) hi (fun j h1 h2 => by omega)
        omega
    · rintro ⟨h1, h4⟩
      exact ⟨by omega, num_up hL 1 (by omega) (s.f 1) (s.t 1) i (by omega) (by omega) h1 (by rw [← b2.2.2.1]; exact h4) (fun j h1 h2 => by omega)⟩
  obtain e | e | e : s.d = 1 ∨ s.d = 2 ∨ s.d = 3 := by omega
  · unfold loOf
    rw [if_pos e, e, t1]
    exact ⟨fun h => ⟨by omega, h.1⟩, fun h => ⟨h.2, fun j h1 h2 => by omega⟩⟩
  · unfold loOf
    rw [if_neg (by omega), e]
    refine Iff.trans ?_ (step1 (by omega) i)
    exact ⟨fun h => ⟨h.1, h.2 1 (by omega) (by omega)⟩, fun h => ⟨h.1, fun j h1 h2 => (by rw [show j = 1 by omega]; exact h.2)⟩⟩
  · unfold loOf
    rw [if_neg (by omega), e]
    have b2 := h.b2 (by omega)
    have b3 := h.b3 (by omega)
    have hl2 := h.ok.le 2 (by omega) (by omega)
    have q3 := h.ok.same 2 (by omega) (by omega) 1 (by omega) (by omega)
    have hle := hopN_le L o 2 (s.f 2) (s.t 2) (gt (num L o 2 (s.f 2))) (by omega)
    rw [← b3.2.2.1] at hle
    show _ ↔ s.f 2 ≤ i ∧ i < s.t 3
    constructor
    · rintro ⟨hi, he⟩
      have e1 := he 1 (by omega) (by omega)
      have e2 := he 2 (by omega) (by omega)
      obtain ⟨g1, g2⟩ := (step1 (by omega) i).1 ⟨hi, e1⟩
      have hge : s.f 2 ≤ i := by
        by_cases e : i < s.f 2
        · have := b2.2.2.2 b3.1 i g1 e; omega
        · omega
      refine ⟨hge, ?_⟩
      by_cases e : i < s.t 3
      · exact e
      · exfalso
        have hat := of_decide_eq_true (hopN_at L o 2 (s.f 2) (s.t 2) (gt (num L o 2 (s.f 2))) (by rw [← b3.2.2.1]; omega) (by omega))
        rw [← b3.2.2.1] at hat
        have hge2 := hopN_ge L o 2 (s.f 2) (s.t 2) (gt (num L o 2 (s.f 2)))
        rw [← b3.2.2.1] at hge2
        have := num_mono o L hL 2 (by omega) (s.t 3) i (by omega) hi (fun j h1 h2 => by
          obtain rfl : j = 1 := by omega
          exact q3 _ _ (by omega) (by omega) (by omega) g2)
        omega
    · rintro ⟨h1, h4⟩
      refine ⟨by omega, fun j hj1 hj2 => ?_⟩
      obtain rfl | rfl : j = 1 ∨ j = 2 := by omega
      · exact ((step1 (by omega) i).2 ⟨by omega, by omega⟩).2
      · exact num_up hL 2 (by omega) (s.f 2) (s.t 2) i (by omega) (by omega) h1 (by rw [← b3.2.2.1]; exact h4) (fun j h1 h2 => by
          obtain rfl : j = 1 := by omega
          exact q3 _ _ (by omega) (by omega) (by omega) (by omega))

/-- The numbers of the level where a walk stands. -/
theorem lvl_at {L : List R3} {o : Ord} {s : St} (h : Full L o s) (hL : L.Pairwise (ltR o)) (hd : 1 ≤ s.d) (p : List Int) (hp : p.length = s.d - 1) (hn : ∀ j, j < p.length → p.getD j 0 = num L o (j + 1) (s.f (j + 1))) :
    (lvl L o p).Pairwise (· < ·) ∧ ∀ x, x ∈ lvl L o p ↔ ∃ i, loOf s ≤ i ∧ i < s.t s.d ∧ num L o s.d i = x := by
  have h3 := h.ok.d3
  obtain ⟨h1, h2⟩ := lvl_sorted L o p hL (by omega)
  refine ⟨h1, fun x => (h2 x).trans ?_⟩
  have e : p.length + 1 = s.d := by omega
  rw [e]
  constructor
  · rintro ⟨i, hi, hm, hx⟩
    have := (grp h hL hd i).1 ⟨hi, fun j hj1 hj2 => by
      have := hm (j - 1) (by omega)
      rw [hn (j - 1) (by omega), show j - 1 + 1 = j by omega] at this
      exact this⟩
    exact ⟨i, this.1, this.2, hx⟩
  · rintro ⟨i, g1, g2, hx⟩
    obtain ⟨hi, hm⟩ := (grp h hL hd i).2 ⟨g1, g2⟩
    exact ⟨i, hi, fun j hj => by rw [hn j hj]; exact hm (j + 1) (by omega) (by omega), hx⟩

theorem find_some (n v : Int) : ∀ (l : List Int), l.Pairwise (· < ·) → v ∈ l → n ≤ v → (∀ y ∈ l, n ≤ y → v ≤ y) → l.find? (fun x => decide (n ≤ x)) = some v
  | [], _, h, _, _ => absurd h (by simp)
  | a :: l, hp, hv, hn, hm => by
    obtain ⟨p1, p2⟩ := List.pairwise_cons.1 hp
    by_cases ha : n ≤ a
    · rw [List.find?_cons_of_pos (by simpa using ha)]
      have h1 := hm a (by simp) ha
      rcases List.mem_cons.1 hv with rfl | hv
      · rfl
      · have := p1 v hv; omega
    · rw [List.find?_cons_of_neg (by simpa using ha)]
      refine find_some n v l p2 ((List.mem_cons.1 hv).resolve_left (by rintro rfl; exact ha hn)) hn (fun y hy => hm y (by simp [hy]))
theorem head_some (v : Int) (l : List Int) (hp : l.Pairwise (· < ·)) (hv : v ∈ l) (hm : ∀ y ∈ l, v ≤ y) : l.getD 0 0 = v ∧ 0 < l.length := by
  match l, hp, hv, hm with
  | a :: l, hp, hv, hm =>
    refine ⟨?_, by simp⟩
    show a = v
    have h1 := hm a (by simp)
    rcases List.mem_cons.1 hv with rfl | hv
    · rfl
    · have := (List.pairwise_cons.1 hp).1 v hv; omega

/-! ### The document's walk -/
structure RS where
  at_ : List Int
  beh : Bool
def rKey (r : RS) : Int × Bool := if r.at_.length = 0 ∨ r.beh = true then (0, false) else (r.at_.getD (r.at_.length - 1) 0, true)
def rOpen (L : List R3) (o : Ord) (r : RS) : RS × Int := if r.at_.length = 3 ∨ r.beh = true ∨ L.length = 0 then (r, 3) else (⟨r.at_ ++ [(lvl L o r.at_).getD 0 0], r.beh⟩, 0)
def rUp (r : RS) : RS × Int := if r.at_.length = 0 then (r, 3) else (⟨r.at_.take (r.at_.length - 1), false⟩, 0)
def rTo (L : List R3) (o : Ord) (r : RS) (n : Int) : RS := match (lvl L o (r.at_.take (r.at_.length - 1))).find? (fun x => decide (n ≤ x)) with
  | some x => ⟨r.at_.take (r.at_.length - 1) ++ [x], r.beh⟩
  | none => ⟨r.at_, true⟩
def rSeek (L : List R3) (o : Ord) (r : RS) (n : Int) : RS × Int := if (rKey r).2 = false then (r, 3) else if n ≤ (rKey r).1 then (r, 0) else (rTo L o r n, 0)
def rNext (L : List R3) (o : Ord) (r : RS) : RS × Int := if (rKey r).2 = false then (r, 3) else if (rKey r).1 = 9223372036854775807 then (⟨r.at_, true⟩, 0) else (rTo L o r ((rKey r).1 + 1), 0)

structure Rel (L : List R3) (o : Ord) (s : St) (r : RS) : Prop where
  full : Full L o s
  len : r.at_.length = s.d
  up : ∀ j, j + 1 < s.d → r.at_.getD j 0 = num L o (j + 1) (s.f (j + 1))
  yes : s.d ≠ 0 → r.beh = false → s.f s.d < s.t s.d ∧ r.at_.getD (s.d - 1) 0 = num L o s.d (s.f s.d)
  no : s.d ≠ 0 → r.beh = true → s.t s.d ≤ s.f s.d
  zero : s.d = 0 → r.beh = false
theorem rel_root (L : List R3) (o : Ord) : Rel L o (root L.length) ⟨[], false⟩ := ⟨full_root L o, rfl, fun j h => by simp [root] at h, fun h => absurd rfl h, fun h => absurd rfl h, fun _ => rfl⟩

theorem Rel.stands {L : List R3} {o : Ord} {s : St} {r : RS} (h : Rel L o s r) : stand s = true ↔ (r.at_.length ≠ 0 ∧ r.beh = false) := by
  rw [stand_iff, h.len]
  constructor
  · rintro ⟨h1, h2⟩
    refine ⟨by omega, ?_⟩
    cases e : r.beh with
    | false => rfl
    | true => have := h.no (by omega) e; omega
  · rintro ⟨h1, h2⟩
    exact ⟨by omega, (h.yes h1 h2).1⟩
theorem sim_key {L : List R3} {o : Ord} {s : St} {r : RS} (h : Rel L o s r) : opKey L o s = rKey r := by
  unfold rKey
  by_cases hs : stand s = true
  · have hs2 := h.stands.1 hs
    rw [key_eq L o hs, if_neg (by rintro (e | e); exact hs2.1 e; rw [hs2.2] at e; cases e), h.len, (h.yes (by rw [← h.len]; exact hs2.1) hs2.2).2]
  · have hn : r.at_.length = 0 ∨ r.beh = true := by
      by_cases e : r.at_.length = 0
      · exact .inl e
      · cases eb : r.beh with
        | true => exact .inr rfl
        | false => exact absurd (h.stands.2 ⟨e, eb⟩) hs
    rw [if_pos hn]
    unfold opKey
    rw [if_neg hs]
theorem take_getD (l : List Int) (k j : Nat) (h : j < k) : (l.take k).getD j 0 = l.getD j 0 := by
  rw [List.getD_eq_getElem?_getD, List.getD_eq_getElem?_getD, List.getElem?_take, if_pos h]
theorem snoc_getD (l : List Int) (x : Int) (j : Nat) : (l ++ [x]).getD j 0 = if j < l.length then l.getD j 0 else if j = l.length then x else 0 := by
  rw [List.getD_eq_getElem?_getD, List.getD_eq_getElem?_getD]
  split
  · rw [List.getElem?_append_left (by assumption)]
  · rw [List.getElem?_append_right (by omega)]
    split
    · rename_i h; subst h; simp
    · rw [List.getElem?_eq_none (by simp; omega)]; rfl

theorem sim_up {L : List R3} {o : Ord} {s : St} {r : RS} (h : Rel L o s r) : (opUp s).2 = (rUp r).2 ∧ Rel L o (opUp s).1 (rUp r).1 := by
  unfold rUp
  by_cases hd : s.d = 0
  · rw [if_pos (by rw [h.len, hd])]
    have : opUp s = (s, 3) := by unfold opUp; rw [if_pos hd]
    rw [this]
    exact ⟨rfl, h⟩
  · obtain ⟨e, hf, hst⟩ := full_up h.full hd
    rw [e, if_neg (by rw [h.len]; exact hd)]
    refine ⟨rfl, hf, ?_, fun j hj => ?_, fun h1 _ => ?_, (fun _ h2 => nomatch h2), fun _ => rfl⟩
    · show (r.at_.take _).length = s.d - 1
      rw [List.length_take, h.len]; omega
    · change j + 1 < s.d - 1 at hj
      show (r.at_.take _).getD j 0 = _
      rw [take_getD _ _ _ (by rw [h.len]; omega)]
      exact h.up j (by omega)
    · change s.d - 1 ≠ 0 at h1
      refine ⟨hst h1, ?_⟩
      show (r.at_.take _).getD (s.d - 1 - 1) 0 = num L o (s.d - 1) (s.f (s.d - 1))
      rw [take_getD _ _ _ (by rw [h.len]; omega)]
      have := h.up (s.d - 1 - 1) (by omega)
      rwa [show s.d - 1 - 1 + 1 = s.d - 1 by omega] at this

theorem Rel.pre_ {L : List R3} {o : Ord} {s : St} {r : RS} (h : Rel L o s r) (j : Nat) (hj : j < (r.at_.take (r.at_.length - 1)).length) : (r.at_.take (r.at_.length - 1)).getD j 0 = num L o (j + 1) (s.f (j + 1)) := by
  rw [List.length_take, h.len] at hj
  rw [take_getD _ _ _ (by rw [h.len]; omega)]
  exact h.up j (by omega)

theorem sim_open {L : List R3} {o : Ord} {s : St} {r : RS} (h : Rel L o s r) (hL : L.Pairwise (ltR o)) : (opOpen L o s).2 = (rOpen L o r).2 ∧ Rel L o (opOpen L o s).1 (rOpen L o r).1 ∧ ((rOpen L o r).2 = 0 → 0 < (lvl L o r.at_).length) := by
  have hc : (s.d = 3 ∨ (0 < s.d ∧ stand s = false) ∨ L.length = 0) ↔ (r.at_.length = 3 ∨ r.beh = true ∨ L.length = 0) := by
    rw [h.len]
    have hst := h.stands
    rw [h.len] at hst
    have hz := h.zero
    have hst' : s.d ≠ 0 → (stand s = false ↔ r.beh = true) := fun h0 => by
      cases e : stand s <;> cases eb : r.beh <;> simp [e, eb] at hst ⊢ <;> omega
    constructor
    · rintro (e | ⟨e1, e2⟩ | e)
      · exact .inl e
      · exact .inr (.inl ((hst' (by omega)).1 e2))
      · exact .inr (.inr e)
    · rintro (e | e | e)
      · exact .inl e
      · have h0 : s.d ≠ 0 := fun h0 => by rw [hz h0] at e; cases e
        exact .inr (.inl ⟨by omega, (hst' h0).2 e⟩)
      · exact .inr (.inr e)
  unfold rOpen
  by_cases hn : s.d = 3 ∨ (0 < s.d ∧ stand s = false) ∨ L.length = 0
  · rw [if_pos (hc.1 hn)]
    have : opOpen L o s = (s, 3) := by unfold opOpen; rw [if_pos hn]
    rw [this]
    exact ⟨rfl, h, fun e => by cases e⟩
  · rw [if_neg (fun e => hn (hc.2 e))]
    obtain ⟨s', e, hf, hd, hsame, hfd, hlo, hlt⟩ := full_open h.full hL hn
    rw [e]
    have hbeh : r.beh = false := by
      cases eb : r.beh with
      | false => rfl
      | true => exact absurd (.inr (.inl eb)) (fun e => hn (hc.2 e))
    have hpre : ∀ j, j < r.at_.length → r.at_.getD j 0 = num L o (j + 1) (s'.f (j + 1)) := fun j hj => by
      rw [h.len] at hj
      rw [hsame (j + 1) (by omega)]
      by_cases e1 : j + 1 < s.d
      · exact h.up j e1
      · have := (h.yes (by omega) hbeh).2
        rw [show s.d - 1 = j by omega] at this
        rw [this, show s.d = j + 1 by omega]
    obtain ⟨q1, q2⟩ := lvl_at hf hL (by omega) r.at_ (by rw [h.len]; omega) hpre
    have hmem : num L o s'.d (loOf s') ∈ lvl L o r.at_ := (q2 _).2 ⟨loOf s', Nat.le_refl _, by rw [← hlo]; exact hlt, rfl⟩
    have hmin : ∀ y ∈ lvl L o r.at_, num L o s'.d (loOf s') ≤ y := fun y hy => by
      obtain ⟨i, g1, g2, rfl⟩ := (q2 y).1 hy
      rw [← hlo] at g1 ⊢
      exact hf.ok.mono hL (by omega) _ _ (Nat.le_refl _) g1 g2
    obtain ⟨w1, w2⟩ := head_some _ _ q1 hmem hmin
    refine ⟨rfl, ⟨hf, ?_, fun j hj => ?_, fun _ _ => ⟨hlt, ?_⟩, fun _ h2 => ?_, fun h0 => ?_⟩, fun _ => w2⟩
    · show (r.at_ ++ [_]).length = s'.d
      rw [List.length_append, h.len, hd]; rfl
    · change j + 1 < s'.d at hj
      show (r.at_ ++ [_]).getD j 0 = _
      rw [snoc_getD, if_pos (by rw [h.len]; omega)]
      exact hpre j (by rw [h.len]; omega)
    · show (r.at_ ++ [_]).getD (s'.d - 1) 0 = _
      rw [snoc_getD, if_neg (by rw [h.len]; omega), if_pos (by rw [h.len]; omega), w1, hlo]
    · change r.beh = true at h2
      rw [hbeh] at h2; cases h2
    · change s'.d = 0 at h0
      omega

theorem sim_to {L : List R3} {o : Ord} {s : St} {r : RS} (h : Rel L o s r) (hL : L.Pairwise (ltR o)) (hs : stand s = true) (n : Int) (hn : num L o s.d (s.f s.d) < n) :
    Rel L o { s with f := upd s.f s.d (hopN L o s.d (s.f s.d) (s.t s.d) (ge n)) } (rTo L o r n) := by
  have hs' := (stand_iff s).1 hs
  have hs2 := h.stands.1 hs
  have hf := full_jump h.full hL hs n
  obtain ⟨q1, q2⟩ := lvl_at h.full hL hs'.1 (r.at_.take (r.at_.length - 1)) (by rw [List.length_take, h.len]; omega) h.pre_
  have hge := hopN_ge L o s.d (s.f s.d) (s.t s.d) (ge n)
  have hle := hopN_le L o s.d (s.f s.d) (s.t s.d) (ge n) (by omega)
  have hlo : loOf s ≤ s.f s.d := by
    unfold loOf
    split
    · omega
    · have := h.full.ok.d3
      obtain e | e : s.d = 2 ∨ s.d = 3 := by omega
      · rw [e]; exact (h.full.b2 (by omega)).2.1
      · rw [e]; exact (h.full.b3 (by omega)).2.1
  have hfirst : ∀ i, loOf s ≤ i → i < s.f s.d → num L o s.d i < num L o s.d (s.f s.d) := by
    have := h.full.ok.d3
    unfold loOf
    obtain e | e | e : s.d = 1 ∨ s.d = 2 ∨ s.d = 3 := by omega
    · rw [if_pos e]
      rw [e] at hs' ⊢
      exact h.full.f1 (by omega) hs'.2
    · rw [if_neg (by omega)]
      rw [e] at hs' ⊢
      exact (h.full.b2 (by omega)).2.2.2 hs'.2
    · rw [if_neg (by omega)]
      rw [e] at hs' ⊢
      exact (h.full.b3 (by omega)).2.2.2 hs'.2
  generalize hh : hopN L o s.d (s.f s.d) (s.t s.d) (ge n) = q at *
  have eu : ∀ e, e < s.d → (upd s.f s.d q) e = s.f e := fun e he => upd_ne _ _ _ _ (by omega)
  have hlen : (r.at_.take (r.at_.length - 1)).length = s.d - 1 := by rw [List.length_take, h.len]; omega
  by_cases hq : q < s.t s.d
  · have hat := of_decide_eq_true (by have := hopN_at L o s.d (s.f s.d) (s.t s.d) (ge n) (by rw [hh]; exact hq) (by omega); rwa [hh] at this)
    have hfind : (lvl L o (r.at_.take (r.at_.length - 1))).find? (fun x => decide (n ≤ x)) = some (num L o s.d q) := by
      refine find_some n _ _ q1 ((q2 _).2 ⟨q, by omega, hq, rfl⟩) hat fun y hy hny => ?_
      obtain ⟨i, g1, g2, rfl⟩ := (q2 y).1 hy
      by_cases hi : i < s.f s.d
      · have := hfirst i g1 hi; omega
      · by_cases hi2 : i < q
        · have := of_decide_eq_false (hopN_below L o s.d (s.f s.d) (s.t s.d) (ge n) i (by omega) (by rw [hh]; exact hi2))
          omega
        · exact h.full.ok.mono hL hs'.1 q i (by omega) (by omega) g2
    unfold rTo
    rw [hfind]
    refine ⟨hf, ?_, fun j hj => ?_, fun _ _ => ⟨?_, ?_⟩, fun _ h2 => ?_, fun h0 => ?_⟩
    · show (r.at_.take _ ++ [_]).length = s.d
      rw [List.length_append, hlen]; simp; omega
    · change j + 1 < s.d at hj
      show (r.at_.take _ ++ [_]).getD j 0 = num L o (j + 1) (upd s.f s.d q (j + 1))
      rw [snoc_getD, if_pos (by omega), take_getD _ _ _ (by rw [h.len]; omega), eu _ hj]
      exact h.up j hj
    · show upd s.f s.d q s.d < s.t s.d
      rw [upd_self]; exact hq
    · show (r.at_.take _ ++ [_]).getD (s.d - 1) 0 = num L o s.d (upd s.f s.d q s.d)
      rw [snoc_getD, if_neg (by omega), if_pos hlen.symm, upd_self]
    · change r.beh = true at h2
      rw [hs2.2] at h2; cases h2
    · change s.d = 0 at h0
      omega
  · have hfind : (lvl L o (r.at_.take (r.at_.length - 1))).find? (fun x => decide (n ≤ x)) = none := by
      rw [List.find?_eq_none]
      intro y hy
      obtain ⟨i, g1, g2, rfl⟩ := (q2 y).1 hy
      simp only [decide_eq_true_eq]
      by_cases hi : i < s.f s.d
      · have := hfirst i g1 hi; omega
      · have := of_decide_eq_false (hopN_below L o s.d (s.f s.d) (s.t s.d) (ge n) i (by omega) (by rw [hh]; omega))
        omega
    unfold rTo
    rw [hfind]
    refine ⟨hf, h.len, fun j hj => ?_, fun _ h2 => (by cases h2), fun _ _ => ?_, fun h0 => ?_⟩
    · change j + 1 < s.d at hj
      show r.at_.getD j 0 = num L o (j + 1) (upd s.f s.d q (j + 1))
      rw [eu _ hj]
      exact h.up j hj
    · show s.t s.d ≤ upd s.f s.d q s.d
      rw [upd_self]; omega
    · change s.d = 0 at h0
      omega

theorem sim_seek {L : List R3} {o : Ord} {s : St} {r : RS} (h : Rel L o s r) (hL : L.Pairwise (ltR o)) (n : Int) : (opSeek L o s n).2 = (rSeek L o r n).2 ∧ Rel L o (opSeek L o s n).1 (rSeek L o r n).1 := by
  unfold rSeek
  rw [← sim_key h]
  by_cases hs : stand s = true
  · rw [key_eq L o hs, if_neg (by simp)]
    rw [seek_eq hs rfl]
    by_cases hn : n ≤ num L o s.d (s.f s.d)
    · rw [if_pos hn]
      have hs' := (stand_iff s).1 hs
      have e : hopN L o s.d (s.f s.d) (s.t s.d) (ge n) = s.f s.d := hopN_eq L o _ _ _ _ _ (Nat.le_refl _) (by omega) (fun i h1 h2 => by omega) (fun _ => decide_eq_true hn)
      have hf := full_jump h.full hL hs n
      rw [e] at hf ⊢
      have eu : ∀ k, upd s.f s.d (s.f s.d) k = s.f k := fun k => by unfold upd; split <;> simp_all
      refine ⟨rfl, hf, h.len, fun j hj => ?_, fun h1 h2 => ?_, fun h1 h2 => ?_, h.zero⟩
      · show _ = num L o (j + 1) (upd s.f s.d (s.f s.d) (j + 1))
        rw [eu]; exact h.up j hj
      · show upd s.f s.d (s.f s.d) s.d < s.t s.d ∧ _ = num L o s.d (upd s.f s.d (s.f s.d) s.d)
        rw [eu]; exact h.yes h1 h2
      · show s.t s.d ≤ upd s.f s.d (s.f s.d) s.d
        rw [eu]; exact h.no h1 h2
    · rw [if_neg hn]
      exact ⟨rfl, sim_to h hL hs n (by omega)⟩
  · have hk : opKey L o s = (0, false) := by unfold opKey; rw [if_neg hs]
    have e : opSeek L o s n = (s, 3) := by unfold opSeek; rw [if_neg hs]
    rw [hk, if_pos rfl, e]
    exact ⟨rfl, h⟩
theorem sim_next {L : List R3} {o : Ord} {s : St} {r : RS} (h : Rel L o s r) (hL : L.Pairwise (ltR o)) (hb : ∀ e i, i < L.length → num L o e i ≤ 9223372036854775807) : (opNext L o s).2 = (rNext L o r).2 ∧ Rel L o (opNext L o s).1 (rNext L o r).1 := by
  unfold rNext
  rw [← sim_key h]
  by_cases hs : stand s = true
  · have hs' := (stand_iff s).1 hs
    have hlv := h.full.ok.le s.d hs'.1 (Nat.le_refl _)
    rw [key_eq L o hs, if_neg (by simp), next_eq hs rfl]
    have ep : gt (num L o s.d (s.f s.d)) = ge (num L o s.d (s.f s.d) + 1) := by
      funext x
      unfold gt ge
      exact decide_eq_decide.2 (by omega)
    rw [ep]
    have hto := sim_to h hL hs (num L o s.d (s.f s.d) + 1) (by omega)
    by_cases hm : num L o s.d (s.f s.d) = 9223372036854775807
    · rw [if_pos hm]
      refine ⟨rfl, ?_⟩
      have hq : hopN L o s.d (s.f s.d) (s.t s.d) (ge (num L o s.d (s.f s.d) + 1)) = s.t s.d :=
        hopN_eq L o _ _ _ _ _ (by omega) (Nat.le_refl _) (fun i h1 h2 => decide_eq_false (by have := hb s.d i (by omega); omega)) (fun h => by omega)
      have hf := hto.full
      rw [hq] at hf ⊢
      refine ⟨hf, h.len, fun j hj => ?_, fun _ h2 => (by cases h2), fun _ _ => ?_, fun h0 => ?_⟩
      · change j + 1 < s.d at hj
        show r.at_.getD j 0 = num L o (j + 1) (upd s.f s.d _ (j + 1))
        rw [upd_ne _ _ _ _ (by omega)]
        exact h.up j hj
      · show s.t s.d ≤ upd s.f s.d _ s.d
        rw [upd_self]; omega
      · change s.d = 0 at h0
        omega
    · rw [if_neg hm]
      exact ⟨rfl, hto⟩
  · have hk : opKey L o s = (0, false) := by unfold opKey; rw [if_neg hs]
    have e : opNext L o s = (s, 3) := by unfold opNext; rw [if_neg hs]
    rw [hk, if_pos rfl, e]
    exact ⟨rfl, h⟩
end Go.Proofs.Ythapkpgkcckapaa.Pm
