/-
  StoreWhole, plain: what a batch's last changes do. Conditions: none.
-/
import Derived.Test.YtcnffgcegimelaaGreatSa0
namespace Go.Proofs.YtcnffgcegimelaaGreat.So
open Go.RowKit Go.Proofs.YtcnffgcegimelaaGreat.Mp Go.Proofs.YtcnffgcegimelaaGreat.Wd Go.Proofs.YtcnffgcegimelaaGreat.Pm Go.Proofs.YtcnffgcegimelaaGreat.Pw

/-- Whether none of the changes behind the i-th, ahead of the k-th, speaks of t. -/
def lastU (l : List Cng) (t : Tri) (i k : Nat) : Bool := ((l.take k).drop (i + 1)).all (fun c => !decide (c.T = t))
theorem lastU_start (l : List Cng) (t : Tri) (i : Nat) : lastU l t i (i + 1) = true := by
  unfold lastU
  rw [List.drop_eq_nil_of_le (by rw [List.length_take]; omega)]
  rfl
theorem lastU_step {l : List Cng} {t : Tri} {i k : Nat} {c : Cng} (hi : i < k) (hc : l[k]? = some c) : lastU l t i (k + 1) = (lastU l t i k && !decide (c.T = t)) := by
  have hk : k < l.length := (List.getElem?_eq_some_iff.1 hc).1
  unfold lastU
  rw [take_snoc hc, List.drop_append_of_le_length (by rw [List.length_take]; omega), List.all_append]
  simp
theorem lastF_skip : ∀ (l : List Cng) (g : Tri → Option Bool) (t : Tri), (l.all (fun c => !decide (c.T = t))) = true → lastF g l t = g t
  | [], _, _, _ => rfl
  | c :: r, g, t, h => by
    rw [List.all_cons, Bool.and_eq_true] at h
    have h1 : t ≠ c.T := fun e => by
      have h2 := h.1
      rw [decide_eq_true e.symm] at h2
      cases h2
    have h3 := lastF_skip r (upd g c.T (some (!c.gone))) t h.2
    unfold lastF at h3 ⊢
    rw [List.foldl_cons, h3]
    show (if t = c.T then _ else g t) = g t
    rw [if_neg h1]
theorem lastF_last {l : List Cng} {i : Nat} {c : Cng} (g : Tri → Option Bool) (hc : l[i]? = some c) (h : lastU l c.T i l.length = true) : lastF g l c.T = some (!c.gone) := by
  have hi : i < l.length := (List.getElem?_eq_some_iff.1 hc).1
  have e : l = l.take (i + 1) ++ l.drop (i + 1) := (List.take_append_drop _ _).symm
  unfold lastU at h
  rw [List.take_length] at h
  have h1 : lastF g l c.T = lastF (lastF g (l.take (i + 1))) (l.drop (i + 1)) c.T := by
    unfold lastF
    rw [← List.foldl_append, ← e]
  rw [h1, lastF_skip _ _ _ h, take_snoc hc, lastF_snoc]
  show (if c.T = c.T then _ else _) = _
  rw [if_pos rfl]
theorem last_mem {L : List Tri} {l : List Cng} {i : Nat} {c : Cng} (hc : l[i]? = some c) (h : lastU l c.T i l.length = true) : c.T ∈ doesL L l ↔ c.gone = false := by
  rw [mem_doesL l (fun _ => none) L L (by simp), lastF_last _ hc h]
  cases c.gone <;> simp
theorem isW_has {s : ByteArray} (h : isW s = true) : hasW s = true := by
  unfold isW at h
  simp only [Bool.and_eq_true, decide_eq_true_eq] at h
  have := h.1.1
  unfold hasW
  simp only [bne_iff_ne, ne_eq, Bool.not_eq_true', decide_eq_true_eq, decide_eq_false_iff_not]
  first | exact this | (intro e; apply this; rw [e]; rfl)
theorem like_self {t x : Tri} (h : isT t = true) : likeB t x = decide (x = t) := by
  unfold isT at h
  simp only [Bool.and_eq_true] at h
  unfold likeB
  rw [isW_has h.1.1, isW_has h.1.2, isW_has h.2]
  obtain ⟨a, b, c⟩ := t
  obtain ⟨x, y, z⟩ := x
  rw [Bool.eq_iff_iff]
  simp only [Bool.not_true, Bool.false_or, Bool.and_eq_true, decide_eq_true_eq, Tri.mk.injEq]
  constructor
  · rintro ⟨⟨rfl, rfl⟩, rfl⟩; exact ⟨rfl, rfl, rfl⟩
  · rintro ⟨rfl, rfl, rfl⟩; exact ⟨⟨rfl, rfl⟩, rfl⟩
theorem filter_one {l : List Tri} (hn : l.Nodup) (t : Tri) : (l.filter (fun x => decide (x = t))) = if t ∈ l then [t] else [] := by
  induction l with
  | nil => rfl
  | cons a r ih =>
    rw [List.nodup_cons] at hn
    rw [List.filter_cons, ih hn.2]
    by_cases e : a = t
    · subst e
      simp [hn.1]
    · have e2 : ¬ t = a := fun h => e h.symm
      simp [e, e2]
theorem match_self {log : List (List Cng)} {n : Int} {t : Tri} (hn : 0 ≤ n ∧ n ≤ log.length) (h : isT t = true) : matchL log n t = if t ∈ factsL log n then [t] else [] := by
  unfold matchL
  rw [show likeB t = fun x => decide (x = t) from funext fun x => like_self h]
  refine filter_one ?_ t
  unfold factsL
  rw [if_pos hn]
  exact (ver_ok _).1.nodup ltT_swh
theorem may_word {l : List Cng} {i : Nat} {c : Cng} (h : May l) (hc : l[i]? = some c) : isT c.T = true := by
  have h4 := List.any_eq_false.1 h.2 c (List.mem_of_getElem? hc)
  cases hh : isT c.T with
  | true => rfl
  | false => rw [hh] at h4; exact absurd rfl h4
end Go.Proofs.YtcnffgcegimelaaGreat.So
