/-
  Plain facts on gaps: of a list of steps and a node, how long the longest run of steps without that node's tick is; the greatest of such over nodes; what a list behind another one does to it. No condition.
-/
import Derived.Test.YtdfaghcgldiocaaProg
namespace Go.Proofs.Ytdfaghcgldiocaa.Gaps

section
variable {α : Type} (tk : α → Int → Bool)

/-- The count of steps without a tick, behind one step more. -/
def nxt (n c : Int) (s : α) : Int := if tk s n = true then 0 else c + 1
/-- The count behind all steps. -/
def cnt (n : Int) : Int → List α → Int
  | c, [] => c
  | c, s :: l => cnt n (nxt tk n c s) l
/-- The greatest count. -/
def mxr (n : Int) : Int → List α → Int
  | _, [] => 0
  | c, s :: l => max (nxt tk n c s) (mxr n (nxt tk n c s) l)

theorem nxt_nonneg {n c : Int} (s : α) (h : 0 ≤ c) : 0 ≤ nxt tk n c s := by unfold nxt; split <;> omega
theorem nxt_le {n c : Int} (s : α) (h : 0 ≤ c) : nxt tk n c s ≤ c + 1 := by unfold nxt; split <;> omega

theorem mxr_nonneg (n : Int) : ∀ (l : List α) (c : Int), 0 ≤ c → 0 ≤ mxr tk n c l
  | [], _, _ => Int.le_refl 0
  | s :: l, c, h => by
    have := mxr_nonneg n l _ (nxt_nonneg tk (n := n) s h)
    simp only [mxr]; omega

theorem cnt_nonneg (n : Int) : ∀ (l : List α) (c : Int), 0 ≤ c → 0 ≤ cnt tk n c l
  | [], _, h => h
  | s :: l, _, h => cnt_nonneg n l _ (nxt_nonneg tk (n := n) s h)

/-- The count at the end is no greater than the greatest one, but for the empty list. -/
theorem cnt_le_mxr (n : Int) : ∀ (l : List α) (c : Int), 0 ≤ c → cnt tk n c l ≤ max c (mxr tk n c l)
  | [], c, _ => by simp only [cnt, mxr]; omega
  | s :: l, c, h => by
    have h1 := nxt_nonneg tk (n := n) s h
    have := cnt_le_mxr n l _ h1
    simp only [cnt, mxr]; omega

theorem cnt_le_mxr0 (n : Int) (l : List α) : cnt tk n 0 l ≤ mxr tk n 0 l := by
  have := cnt_le_mxr tk n l 0 (Int.le_refl 0)
  have := mxr_nonneg tk n l 0 (Int.le_refl 0)
  omega

theorem mxr_append (n : Int) : ∀ (a b : List α) (c : Int), 0 ≤ c → mxr tk n c (a ++ b) = max (mxr tk n c a) (mxr tk n (cnt tk n c a) b)
  | [], b, c, h => by
    have := mxr_nonneg tk n b c h
    simp only [List.nil_append, mxr, cnt]; omega
  | s :: a, b, c, h => by
    have := mxr_append n a b _ (nxt_nonneg tk (n := n) s h)
    simp only [List.cons_append, mxr, cnt, this]; omega

theorem mxr_shift (n : Int) : ∀ (l : List α) (c d : Int), 0 ≤ d → d ≤ c → mxr tk n d l ≤ mxr tk n c l ∧ mxr tk n c l ≤ mxr tk n d l + (c - d)
  | [], c, d, h, h' => by simp only [mxr]; omega
  | s :: l, c, d, h, h' => by
    have h1 : nxt tk n d s ≤ nxt tk n c s := by unfold nxt; split <;> omega
    have h2 : nxt tk n c s ≤ nxt tk n d s + (c - d) := by unfold nxt; split <;> omega
    have h0 := nxt_nonneg tk (n := n) s h
    have := mxr_shift n l _ _ h0 h1
    simp only [mxr]; omega

theorem mxr_le_length (n : Int) : ∀ (l : List α) (c : Int), 0 ≤ c → mxr tk n c l ≤ c + l.length
  | [], c, h => by simp only [mxr, List.length_nil]; omega
  | s :: l, c, h => by
    have h0 := nxt_nonneg tk (n := n) s h
    have h1 := nxt_le tk (n := n) s h
    have := mxr_le_length n l _ h0
    simp only [mxr, List.length_cons]; omega

/-- The greatest over the first k nodes (nothing is less than 0). -/
def over (f : Nat → Int) : Nat → Int
  | 0 => 0
  | k + 1 => max (over f k) (f k)

theorem over_nonneg (f : Nat → Int) : ∀ k, 0 ≤ over f k
  | 0 => Int.le_refl 0
  | k + 1 => by have := over_nonneg f k; simp only [over]; omega

theorem le_over (f : Nat → Int) : ∀ k j, j < k → f j ≤ over f k
  | k + 1, j, h => by
    simp only [over]
    by_cases e : j = k
    · subst e; omega
    · have := le_over f k j (by omega); omega

theorem over_le (f : Nat → Int) (b : Int) (hb : 0 ≤ b) : ∀ k, (∀ j, j < k → f j ≤ b) → over f k ≤ b
  | 0, _ => hb
  | k + 1, h => by
    have := over_le f b hb k (fun j hj => h j (by omega))
    have := h k (by omega)
    simp only [over]; omega

theorem over_max (f g : Nat → Int) : ∀ k, over (fun n => max (f n) (g n)) k = max (over f k) (over g k)
  | 0 => by simp only [over]; omega
  | k + 1 => by have := over_max f g k; simp only [over, this]; omega

theorem over_congr {f g : Nat → Int} : ∀ k, (∀ j, j < k → f j = g j) → over f k = over g k
  | 0, _ => rfl
  | k + 1, h => by simp only [over, over_congr k (fun j hj => h j (by omega)), h k (by omega)]

/-- The gap of steps, over the first k nodes. -/
def gap (k : Nat) (l : List α) : Int := over (fun n => mxr tk (n : Int) 0 l) k

theorem gap_append_ge (k : Nat) (a b : List α) : max (gap tk k a) (gap tk k b) ≤ gap tk k (a ++ b) := by
  have ha : gap tk k a ≤ gap tk k (a ++ b) := over_le _ _ (over_nonneg _ _) k (fun j hj => by
    have h := le_over (fun n => mxr tk (n : Int) 0 (a ++ b)) k j hj
    have e := mxr_append tk (j : Int) a b 0 (Int.le_refl 0)
    omega)
  have hb : gap tk k b ≤ gap tk k (a ++ b) := over_le _ _ (over_nonneg _ _) k (fun j hj => by
    have h := le_over (fun n => mxr tk (n : Int) 0 (a ++ b)) k j hj
    have e := mxr_append tk (j : Int) a b 0 (Int.le_refl 0)
    have hc := cnt_nonneg tk (j : Int) a 0 (Int.le_refl 0)
    have hs := mxr_shift tk (j : Int) b _ 0 (Int.le_refl 0) hc
    omega)
  omega

theorem gap_append_le (k : Nat) (a b : List α) : gap tk k (a ++ b) ≤ gap tk k a + gap tk k b := by
  have h1 := over_nonneg (fun n => mxr tk (n : Int) 0 a) k
  have h2 := over_nonneg (fun n => mxr tk (n : Int) 0 b) k
  refine over_le _ _ (by unfold gap; omega) k (fun j hj => ?_)
  have e := mxr_append tk (j : Int) a b 0 (Int.le_refl 0)
  have hc := cnt_nonneg tk (j : Int) a 0 (Int.le_refl 0)
  have hs := mxr_shift tk (j : Int) b _ 0 (Int.le_refl 0) hc
  have hm := cnt_le_mxr0 tk (j : Int) a
  have ga := le_over (fun n => mxr tk (n : Int) 0 a) k j hj
  have gb := le_over (fun n => mxr tk (n : Int) 0 b) k j hj
  have na := mxr_nonneg tk (j : Int) a 0 (Int.le_refl 0)
  have nb := mxr_nonneg tk (j : Int) b 0 (Int.le_refl 0)
  unfold gap; omega

/-- Between two lists, for each node a step of a list in which its tick is: the gap is at most three longer. -/
theorem gap_cut_le (k : Nat) (a m b : List α) (d : Int) (hd : 0 ≤ d) (hm : ∀ j : Nat, j < k → ∀ c : Int, 0 ≤ c → mxr tk (j : Int) c m ≤ c + d ∧ cnt tk (j : Int) c m ≤ d) :
    gap tk k (a ++ m ++ b) ≤ max (gap tk k a) (gap tk k b) + d := by
  have h1 := over_nonneg (fun n => mxr tk (n : Int) 0 a) k
  refine over_le _ _ (by unfold gap; omega) k (fun j hj => ?_)
  have e1 := mxr_append tk (j : Int) (a ++ m) b 0 (Int.le_refl 0)
  have e2 := mxr_append tk (j : Int) a m 0 (Int.le_refl 0)
  have ec : cnt tk (j : Int) 0 (a ++ m) = cnt tk (j : Int) (cnt tk (j : Int) 0 a) m := by
    have : ∀ (l : List α) (c : Int), cnt tk (j : Int) c (l ++ m) = cnt tk (j : Int) (cnt tk (j : Int) c l) m := by
      intro l; induction l with
      | nil => intro c; rfl
      | cons s l ih => intro c; simp only [List.cons_append, cnt]; exact ih _
    exact this a 0
  have hc := cnt_nonneg tk (j : Int) a 0 (Int.le_refl 0)
  obtain ⟨k1, k2⟩ := hm j hj _ hc
  have hc2 := cnt_nonneg tk (j : Int) (a ++ m) 0 (Int.le_refl 0)
  rw [ec] at hc2
  have hs := mxr_shift tk (j : Int) b _ 0 (Int.le_refl 0) hc2
  have hm0 := cnt_le_mxr0 tk (j : Int) a
  have ga := le_over (fun n => mxr tk (n : Int) 0 a) k j hj
  have gb := le_over (fun n => mxr tk (n : Int) 0 b) k j hj
  rw [ec] at e1
  unfold gap; omega

theorem gap_le_length (k : Nat) (a : List α) : gap tk k a ≤ a.length :=
  over_le _ _ (by omega) k (fun j _ => by have := mxr_le_length tk (j : Int) a 0 (Int.le_refl 0); omega)

end
end Go.Proofs.Ytdfaghcgldiocaa.Gaps
