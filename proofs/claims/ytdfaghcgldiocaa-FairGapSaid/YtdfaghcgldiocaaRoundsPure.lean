/-
  The law FairRounds over numbers and lists alone: for every config, number of calls and script there are rounds after which the printed law answers true. No condition.
-/
import Derived.Test.YtdfaghcgldiocaaPFairRoundsx
import Derived.Test.YtdfaghcgldiocaaGaps
namespace Go.Proofs.Ytdfaghcgldiocaa.PFairRounds
open Go.RowKit Go.Proofs.YtdfaghcgldiocaaW.PrintWords Go.Proofs.YtdfaghcgldiocaaW.PrintLast Go.Proofs.YtdfaghcgldiocaaW.PrintMore
open Go.Proofs.Ytdfaghcgldiocaa.Gaps

theorem wr {i : Int} (h0 : 0 ≤ i) (h : i ≤ 1000000) : wrap64 i = i := by unfold wrap64; omega
theorem mx_max (a b : Int) : mx a b = max a b := by unfold mx; split <;> omega

theorem may_same (a b c : Int) : ∃ m, fair_may.f a b c = some m ∧ sinewrounds_May.f a b c = some m ∧ (m = true → 1 ≤ a ∧ a ≤ 64 ∧ 1 ≤ b ∧ b ≤ 8) := by
  refine ⟨decide (a > 0 ∧ a ≤ 64 ∧ b > 0 ∧ b ≤ 8 ∧ c ≥ 4096 ∧ c ≤ 67108864), ?_, ?_, ?_⟩
  · unfold fair_may.f
    repeat' split
    all_goals first
      | (congr 1; rw [eq_comm, decide_eq_false_iff_not]; omega)
      | (congr 1; rw [decide_eq_decide]; omega)
  · unfold sinewrounds_May.f
    repeat' split
    all_goals first
      | (congr 1; rw [eq_comm, decide_eq_false_iff_not]; omega)
      | (congr 1; rw [decide_eq_decide]; omega)
  · intro h
    have := of_decide_eq_true h
    omega

theorem rounds_same (a b c n : Int) : fair_Rounds.f a b c n = sinewrounds_Rounds.f a b c n ∧ ∃ r, fair_Rounds.f a b c n = some r := by
  obtain ⟨m, h1, h2, _⟩ := may_same a b c
  unfold fair_Rounds.f sinewrounds_Rounds.f
  rw [h1, h2]
  simp only [Option.bind_some, true_and]
  repeat' split
  all_goals exact ⟨_, rfl⟩

/-- A delivering, a tick, an asking again, a start. -/
def dl : S35 := ⟨3, 0, 0, 255, (⟨#[]⟩ : ByteArray)⟩
def tick (i : Int) : S35 := ⟨6, i, 0, 0, (⟨#[]⟩ : ByteArray)⟩
def again (i : Int) : S35 := ⟨2, i, 0, 0, (⟨#[]⟩ : ByteArray)⟩
def start (i : Int) : S35 := ⟨8, i, 0, 0, (⟨#[]⟩ : ByteArray)⟩

theorem with_eq (x l : List S35) (hx : x.length ≤ 1000000) (hl : l.length ≤ 1000000) : fair_with.f x l = some (x ++ l ++ [dl, dl, dl, dl]) := by
  unfold fair_with.f
  rw [if_pos (by omega)]
  simp only [Option.bind_some]
  rw [if_pos (by simp; omega)]
  rfl

theorem four_ev (x : List S35) (hx : x.length ≤ 1000000) : Ev (fun k => sinewrounds_four.f k x) (x ++ [dl, dl, dl, dl]) := by
  refine Ev.of (k := 5) (fun k => sinewrounds_four.mono x k) ?_
  unfold sinewrounds_four.f
  rw [if_pos (by simp; omega)]
  have w1 : wrap64 (0 + 1) = 1 := by unfold wrap64; omega
  have w2 : wrap64 (1 + 1) = 2 := by unfold wrap64; omega
  have w3 : wrap64 (2 + 1) = 3 := by unfold wrap64; omega
  have w4 : wrap64 (3 + 1) = 4 := by unfold wrap64; omega
  simp only [sinewrounds_four.l0]
  rw [if_pos (by omega), if_pos (by simp; omega), w1, if_pos (by omega), if_pos (by simp; omega), w2, if_pos (by omega), if_pos (by simp; omega), w3, if_pos (by omega), if_pos (by simp; omega), w4, if_neg (by omega)]
  simp [dl]

theorem agains_same (W C R : Int) (x : List S35) (hC : C ≤ 8) (hx : x.length ≤ 10000) : ∀ (d : Nat) (j : Int) (y : List S35), 0 ≤ j → C - j = d → y.length ≤ 10 + j →
    ∃ r, r.length ≤ 20000 ∧ Ev (fun k => fair_Round.l1 k x y C j) (r, 0) ∧ Ev (fun k => sinewrounds_Round.l1 k (x ++ y) j W C R) (r, 0)
  | 0, j, y, h0, hd, hy => by
    refine ⟨x ++ y ++ [dl, dl, dl, dl], by simp; omega, ?_, ?_⟩
    · refine Ev.step (f := fun _ => some (x ++ y ++ [dl, dl, dl, dl], 0)) (fun k => ?_) (Ev.now _)
      simp only [fair_Round.l1]
      rw [if_neg (by omega), with_eq _ _ (by omega) (by omega)]
      rfl
    · refine Ev.step (f := fun k => (sinewrounds_four.f k (x ++ y)).bind fun t => some (t, 0)) (fun k => ?_) (Ev.bind (four_ev _ (by simp; omega)) (Ev.now _))
      simp only [sinewrounds_Round.l1]
      rw [if_neg (by omega)]
  | d + 1, j, y, h0, hd, hy => by
    obtain ⟨r, hr, h1, h2⟩ := agains_same W C R x hC hx d (j + 1) (y ++ [again j]) (by omega) (by omega) (by simp; omega)
    refine ⟨r, hr, ?_, ?_⟩
    · refine Ev.step (fun k => ?_) h1
      simp only [fair_Round.l1]
      rw [if_pos (by omega), if_pos (by omega), wr (by omega) (by omega)]
      rfl
    · refine Ev.step (fun k => ?_) h2
      simp only [sinewrounds_Round.l1]
      rw [if_pos (by omega), if_pos (by simp; omega), wr (by omega) (by omega), List.append_assoc]
      rfl

theorem round_loop (W C R : Int) (hW : W ≤ 64) (hC0 : 0 ≤ C) (hC : C ≤ 8) : ∀ (d : Nat) (i : Int) (x : List S35), 0 ≤ i → W + 1 - i = d → x.length ≤ 10 * i →
    ∃ r, r.length ≤ 20000 ∧ Ev (fun k => fair_Round.l0 k x (W + 1) i W C R) (r, 0) ∧ Ev (fun k => sinewrounds_Round.l0 k x i W C R) (r, 0)
  | 0, i, x, h0, hd, hx => by
    obtain ⟨r, hr, h1, h2⟩ := agains_same W C R x hC (by omega) C.toNat 0 [] (by omega) (by omega) (by simp)
    refine ⟨r, hr, ?_, ?_⟩
    · refine Ev.step (fun k => ?_) h1
      simp only [fair_Round.l0]
      rw [if_neg (by omega)]
    · rw [List.append_nil] at h2
      refine Ev.step (fun k => ?_) h2
      simp only [sinewrounds_Round.l0]
      rw [if_neg (by omega)]
  | d + 1, i, x, h0, hd, hx => by
    obtain ⟨r, hr, h1, h2⟩ := round_loop W C R hW hC0 hC d (i + 1) (x ++ [tick i] ++ [dl, dl, dl, dl]) (by omega) (by omega) (by simp; omega)
    refine ⟨r, hr, ?_, ?_⟩
    · refine Ev.step (fun k => ?_) h1
      simp only [fair_Round.l0]
      rw [if_pos (by omega), show ([(⟨6, i, 0, 0, (⟨#[]⟩ : ByteArray)⟩ : S35)] : List S35) = [tick i] from rfl, with_eq _ _ (by omega) (by simp), wr (by omega) (by omega)]
      rfl
    · refine Ev.step (f := fun k => (sinewrounds_four.f k (x ++ [tick i])).bind fun t => sinewrounds_Round.l0 k t (i + 1) W C R) (fun k => ?_) (Ev.bind (four_ev _ (by simp; omega)) h2)
      simp only [sinewrounds_Round.l0]
      rw [if_pos (by omega), if_pos (by omega), wr (by omega) (by omega)]
      rfl

theorem round_same (a b c : Int) : ∃ r, r.1.length ≤ 20000 ∧ Ev (fun k => fair_Round.f k a b c) r ∧ Ev (fun k => sinewrounds_Round.f k a b c) r := by
  obtain ⟨m, h1, h2, h3⟩ := may_same a b c
  cases m with
  | false =>
    refine ⟨([], 1), by simp, Ev.congr (f := fun _ => some ([], 1)) (fun k => ?_) (Ev.now _), Ev.congr (f := fun _ => some ([], 1)) (fun k => ?_) (Ev.now _)⟩
    · unfold fair_Round.f; rw [h1]; rfl
    · unfold sinewrounds_Round.f; rw [h2]; rfl
  | true =>
    obtain ⟨g1, g2, g3, g4⟩ := h3 rfl
    obtain ⟨r, hr, e1, e2⟩ := round_loop a b c g2 (by omega) g4 (a + 1).toNat 0 [] (by omega) (by omega) (by simp)
    refine ⟨(r, 0), hr, Ev.congr (fun k => ?_) e1, Ev.congr (fun k => ?_) e2⟩
    · unfold fair_Round.f; rw [h1, wr (by omega) (by omega)]; rfl
    · unfold sinewrounds_Round.f; rw [h2]; rfl

theorem starts_loop (W C R : Int) (hW : W ≤ 64) : ∀ (d : Nat) (i : Int) (x : List S35), 0 ≤ i → W + 1 - i = d → x.length ≤ i →
    ∃ r, r.length ≤ 20000 ∧ Ev (fun k => fair_Starts.l0 k x (W + 1) i) (r, 0) ∧ Ev (fun k => sinewrounds_Starts.l0 k x i W C R) (r, 0)
  | 0, i, x, h0, hd, hx => by
    refine ⟨x, by omega, ?_, ?_⟩
    · refine Ev.step (f := fun _ => some (x, 0)) (fun k => ?_) (Ev.now _)
      simp only [fair_Starts.l0]
      rw [if_neg (by omega)]
    · refine Ev.step (f := fun _ => some (x, 0)) (fun k => ?_) (Ev.now _)
      simp only [sinewrounds_Starts.l0]
      rw [if_neg (by omega)]
  | d + 1, i, x, h0, hd, hx => by
    obtain ⟨r, hr, h1, h2⟩ := starts_loop W C R hW d (i + 1) (x ++ [start i]) (by omega) (by omega) (by simp; omega)
    refine ⟨r, hr, ?_, ?_⟩
    · refine Ev.step (fun k => ?_) h1
      simp only [fair_Starts.l0]
      rw [if_pos (by omega), if_pos (by omega), wr (by omega) (by omega)]
      rfl
    · refine Ev.step (fun k => ?_) h2
      simp only [sinewrounds_Starts.l0]
      rw [if_pos (by omega), if_pos (by omega), wr (by omega) (by omega)]
      rfl

theorem starts_same (a b c : Int) : ∃ r, r.1.length ≤ 20000 ∧ Ev (fun k => fair_Starts.f k a b c) r ∧ Ev (fun k => sinewrounds_Starts.f k a b c) r := by
  obtain ⟨m, h1, h2, h3⟩ := may_same a b c
  cases m with
  | false =>
    refine ⟨([], 1), by simp, Ev.congr (f := fun _ => some ([], 1)) (fun k => ?_) (Ev.now _), Ev.congr (f := fun _ => some ([], 1)) (fun k => ?_) (Ev.now _)⟩
    · unfold fair_Starts.f; rw [h1]; rfl
    · unfold sinewrounds_Starts.f; rw [h2]; rfl
  | true =>
    obtain ⟨g1, g2, g3, g4⟩ := h3 rfl
    obtain ⟨r, hr, e1, e2⟩ := starts_loop a b c g2 (a + 1).toNat 0 [] (by omega) (by omega) (by simp)
    refine ⟨(r, 0), hr, Ev.congr (fun k => ?_) e1, Ev.congr (fun k => ?_) e2⟩
    · unfold fair_Starts.f; rw [h1, wr (by omega) (by omega)]; rfl
    · unfold sinewrounds_Starts.f; rw [h2]; rfl

theorem same_loop (l : List S35) (hl : l.length ≤ 20000) : ∀ (d : Nat) (i : Int), 0 ≤ i → (l.length : Int) - i = d → Ev (fun k => sinewrounds_Same.l0 k l l i) true
  | 0, i, h0, hd => by
    refine Ev.step (f := fun _ => some true) (fun k => ?_) (Ev.now _)
    simp only [sinewrounds_Same.l0]
    rw [if_neg (by omega)]
  | d + 1, i, h0, hd => by
    refine Ev.step (fun k => ?_) (same_loop l hl d (i + 1) (by omega) (by omega))
    simp only [sinewrounds_Same.l0]
    rw [if_pos (by omega), if_pos (by omega), if_pos (by omega), if_neg (by simp), wr (by omega) (by omega)]

theorem same_self (l : List S35) (hl : l.length ≤ 20000) : Ev (fun k => sinewrounds_Same.f k l l) true := by
  refine Ev.congr (fun k => ?_) (same_loop l hl l.length 0 (by omega) (by omega))
  unfold sinewrounds_Same.f
  rw [if_pos rfl]

/-! ### gaps -/
def tk (s : S35) (n : Int) : Bool := decide (s.f0 = 6 ∧ s.f1 = n)

theorem rd_drop (l : List S35) (i : Int) (h0 : 0 ≤ i) (h : i < l.length) : l.drop i.toNat = rd_T35 l i :: l.drop (i + 1).toNat := by
  have hl : i.toNat < l.length := by omega
  rw [List.drop_eq_getElem_cons hl, show (i + 1).toNat = i.toNat + 1 by omega]
  congr 1
  unfold rd_T35
  rw [List.getD_eq_getElem?_getD, List.getElem?_eq_getElem hl, Option.getD_some]

/-- The reference's inner loop: one node, all steps. -/
theorem ref_inner (l : List S35) (hl : l.length ≤ 1000) (W C R : Int) (n : Int) : ∀ (d : Nat) (i m c : Int), 0 ≤ i → (l.length : Int) - i = d → 0 ≤ m → 0 ≤ c → c ≤ i → ∀ r,
    Ev (fun k => sinewrounds_Gap.l0 k l (max m (mxr tk n c (l.drop i.toNat))) (wrap64 (n + 1)) W C R) r → Ev (fun k => sinewrounds_Gap.l1 k l m n c i W C R) r
  | 0, i, m, c, h0, hd, hm, hc, hci, r, hr => by
    have hm2 : max m (mxr tk n c (l.drop i.toNat)) = m := by
      rw [List.drop_eq_nil_of_le (by omega)]; simp only [mxr]; omega
    rw [hm2] at hr
    refine Ev.step (fun k => ?_) hr
    simp only [sinewrounds_Gap.l1]
    rw [if_neg (by omega)]
  | d + 1, i, m, c, h0, hd, hm, hc, hci, r, hr => by
    rw [rd_drop l i h0 (by omega)] at hr
    simp only [mxr] at hr
    by_cases ht : tk (rd_T35 l i) n = true
    · have hn : nxt tk n c (rd_T35 l i) = 0 := by unfold nxt; rw [if_pos ht]
      obtain ⟨k1, k2⟩ := of_decide_eq_true ht
      rw [hn] at hr
      refine Ev.step (fun k => ?_) (ref_inner l hl W C R n d (i + 1) (max m 0) 0 (by omega) (by omega) (by omega) (by omega) (by omega) r ?_)
      · simp only [sinewrounds_Gap.l1]
        rw [if_pos (by omega), if_pos (by omega), if_pos k1, if_pos k2, mx_max, wr (i := i + 1) (by omega) (by omega)]
      · rw [show max (max m 0) (mxr tk n 0 (List.drop (i + 1).toNat l)) = max m (max 0 (mxr tk n 0 (List.drop (i + 1).toNat l))) by omega]
        exact hr
    · have hn : nxt tk n c (rd_T35 l i) = c + 1 := by unfold nxt; rw [if_neg ht]
      rw [hn] at hr
      refine Ev.step (fun k => ?_) (ref_inner l hl W C R n d (i + 1) (max m (c + 1)) (c + 1) (by omega) (by omega) (by omega) (by omega) (by omega) r ?_)
      · simp only [sinewrounds_Gap.l1]
        rw [if_pos (by omega), if_pos (by omega), wr (i := i + 1) (by omega) (by omega), wr (i := c + 1) (by omega) (by omega), mx_max m (c + 1)]
        by_cases k1 : (rd_T35 l i).f0 = 6
        · have k2 : ¬ (rd_T35 l i).f1 = n := fun k2 => ht (decide_eq_true ⟨k1, k2⟩)
          rw [if_pos k1, if_neg k2]
        · rw [if_neg k1]
      · rw [show max (max m (c + 1)) (mxr tk n (c + 1) (List.drop (i + 1).toNat l)) = max m (max (c + 1) (mxr tk n (c + 1) (List.drop (i + 1).toNat l))) by omega]
        exact hr

theorem ref_outer (l : List S35) (hl : l.length ≤ 1000) (W C R : Int) (hW : W ≤ 64) : ∀ (d : Nat) (n : Nat), W + 1 - n = d →
    Ev (fun k => sinewrounds_Gap.l0 k l (over (fun j => mxr tk (j : Int) 0 l) n) n W C R) (gap tk (n + d) l, 0)
  | 0, n, hd => by
    refine Ev.step (f := fun _ => some (gap tk n l, 0)) (fun k => ?_) (Ev.now _)
    simp only [sinewrounds_Gap.l0]
    rw [if_neg (by omega)]
    rfl
  | d + 1, n, hd => by
    have ih := ref_outer l hl W C R hW d (n + 1) (by omega)
    rw [show n + 1 + d = n + (d + 1) by omega] at ih
    refine Ev.step (fun k => ?_) (ref_inner l hl W C R n l.length 0 (over (fun j => mxr tk (j : Int) 0 l) n) 0 (by omega) (by omega) (over_nonneg _ _) (by omega) (by omega) _ ?_)
    · simp only [sinewrounds_Gap.l0]
      rw [if_pos (by omega)]
    · rw [wr (by omega) (by omega)]
      simp only [Int.toNat_zero, List.drop_zero]
      exact_mod_cast ih

theorem ref_gap (l : List S35) (hl : l.length ≤ 1000) (a b c : Int) (m : Bool) (h : sinewrounds_May.f a b c = some m) (h3 : m = true → 1 ≤ a ∧ a ≤ 64 ∧ 1 ≤ b ∧ b ≤ 8) :
    Ev (fun k => sinewrounds_Gap.f k a b c l) (if m = true then (gap tk (a + 1).toNat l, 0) else (0, 1)) := by
  cases m with
  | false =>
    refine Ev.congr (f := fun _ => some (0, 1)) (fun k => ?_) (Ev.now _)
    unfold sinewrounds_Gap.f; rw [h]; rfl
  | true =>
    obtain ⟨g1, g2, g3, g4⟩ := h3 rfl
    have e := ref_outer l hl a b c g2 (a + 1).toNat 0 (by omega)
    rw [Nat.zero_add] at e
    rw [if_pos rfl]
    refine Ev.congr (fun k => ?_) e
    unfold sinewrounds_Gap.f; rw [h]; rfl

/-- The program's: where each one's run began, of its count at a place. -/
def froms (W : Nat) (i : Int) (cf : Nat → Int) : List Int := (List.range (W + 1)).map fun n => i - cf n
theorem froms_length (W : Nat) (i : Int) (cf : Nat → Int) : (froms W i cf).length = W + 1 := by simp [froms]
theorem rd_froms (W : Nat) (i : Int) (cf : Nat → Int) (j : Nat) (h : j < W + 1) : rd (froms W i cf) (j : Int) = i - cf j := by
  unfold rd froms
  rw [List.getD_eq_getElem?_getD, List.getElem?_map, List.getElem?_range (by simpa using h)]
  simp

theorem froms_step (W : Nat) (i : Int) (cf : Nat → Int) (s : S35) : 
    froms W (i + 1) (fun n => nxt tk (n : Int) (cf n) s) = if s.f0 = 6 ∧ 0 ≤ s.f1 ∧ s.f1 ≤ W then (froms W i cf).set s.f1.toNat (i + 1) else froms W i cf := by
  apply List.ext_getElem
  · split <;> simp [froms]
  · intro j h1 h2
    have hj : j < W + 1 := by simpa [froms] using h1
    have e : (froms W (i + 1) (fun n => nxt tk (n : Int) (cf n) s))[j] = i + 1 - nxt tk (j : Int) (cf j) s := by simp [froms]
    rw [e]
    have e2 : ∀ h', (froms W i cf)[j]'h' = i - cf j := by intro h'; simp [froms]
    split
    · rename_i hc
      rw [List.getElem_set]
      by_cases hs : s.f1.toNat = j
      · rw [if_pos hs]
        have : tk s j = true := decide_eq_true ⟨hc.1, by omega⟩
        unfold nxt; rw [if_pos this]; omega
      · rw [if_neg hs, e2]
        have : ¬ tk s j = true := fun h => hs (by have := (of_decide_eq_true h).2; omega)
        unfold nxt; rw [if_neg this]; omega
    · rename_i hc
      rw [e2]
      have : ¬ tk s j = true := fun h => hc (by have := of_decide_eq_true h; omega)
      unfold nxt; rw [if_neg this]; omega

/-- The program's inner loop: all nodes. -/
theorem own_inner (l : List S35) (W : Nat) (B C R : Int) (x : List Int) (xl : x.length = W + 1) (i x20 x21 : Int) (hW : W ≤ 64) (hi0 : 0 ≤ i) (hi : i ≤ 1000) (cf : Nat → Int) (hcf : ∀ j : Nat, j < W + 1 → rd x (j : Int) = i + 1 - cf j ∧ 0 ≤ cf j ∧ cf j ≤ i + 1) (r : Int × Int) :
    ∀ (d : Nat) (j : Nat) (g : Int), W + 1 - j = d → j ≤ W + 1 → Ev (fun k => fair_Gap.l0 k x (max g (over cf (W + 1))) l x20 (wrap64 (x21 + 1)) B C R) r →
      Ev (fun k => fair_Gap.l1 k x (max g (over cf j)) i l x20 x21 x (x.length : Int) j B C R) r
  | 0, j, g, hd, hj, h => by
    obtain rfl : j = W + 1 := by omega
    refine Ev.step (fun k => ?_) h
    simp only [fair_Gap.l1]
    rw [if_neg (by omega)]
  | d + 1, j, g, hd, hj, h => by
    have ih := own_inner l W B C R x xl i x20 x21 hW hi0 hi cf hcf r d (j + 1) g (by omega) (by omega) h
    obtain ⟨e1, e2, e3⟩ := hcf j (by omega)
    refine Ev.step (fun k => ?_) ih
    simp only [fair_Gap.l1]
    rw [if_pos (by omega), if_pos (by omega), if_pos (by omega), e1, wr (i := i + 1) (by omega) (by omega), show i + 1 - (i + 1 - cf j) = cf j by omega, wr (i := cf j) (by omega) (by omega), wr (i := (j : Int) + 1) (by omega) (by omega), mx_max]
    rw [show max (max g (over cf j)) (cf j) = max g (over cf (j + 1)) by simp only [over]; omega]
    rfl

/-- The program's loop over the steps. -/
theorem own_outer (l : List S35) (hl : l.length ≤ 1000) (W : Nat) (C R : Int) (hW : W ≤ 64) : ∀ (d : Nat) (i : Int) (cf : Nat → Int) (g : Int), 0 ≤ i → (l.length : Int) - i = d → 0 ≤ g → (∀ j, 0 ≤ cf j ∧ cf j ≤ i) →
    Ev (fun k => fair_Gap.l0 k (froms W i cf) g l (l.length : Int) i (W : Int) C R) (max g (over (fun j => mxr tk (j : Int) (cf j) (l.drop i.toNat)) (W + 1)), 0)
  | 0, i, cf, g, h0, hd, hg, hcf => by
    have e : max g (over (fun j => mxr tk (j : Int) (cf j) (l.drop i.toNat)) (W + 1)) = g := by
      have := over_le (fun j => mxr tk (j : Int) (cf j) (l.drop i.toNat)) 0 (by omega) (W + 1) (fun j _ => by rw [List.drop_eq_nil_of_le (by omega)]; simp only [mxr]; omega)
      have := over_nonneg (fun j => mxr tk (j : Int) (cf j) (l.drop i.toNat)) (W + 1)
      omega
    rw [e]
    refine Ev.step (f := fun _ => some (g, 0)) (fun k => ?_) (Ev.now _)
    simp only [fair_Gap.l0]
    rw [if_neg (by omega)]
  | d + 1, i, cf, g, h0, hd, hg, hcf => by
    have hs : ∀ j : Nat, 0 ≤ nxt tk (j : Int) (cf j) (rd_T35 l i) ∧ nxt tk (j : Int) (cf j) (rd_T35 l i) ≤ i + 1 := fun j => ⟨nxt_nonneg tk _ (hcf j).1, by have := nxt_le tk (n := (j : Int)) (rd_T35 l i) (hcf j).1; have := (hcf j).2; omega⟩
    have ih := own_outer l hl W C R hW d (i + 1) (fun n => nxt tk (n : Int) (cf n) (rd_T35 l i)) (max g (over (fun n => nxt tk (n : Int) (cf n) (rd_T35 l i)) (W + 1))) (by omega) (by omega) (by omega) hs
    have e : max (max g (over (fun n => nxt tk (n : Int) (cf n) (rd_T35 l i)) (W + 1))) (over (fun j => mxr tk (j : Int) (nxt tk (j : Int) (cf j) (rd_T35 l i)) (l.drop (i + 1).toNat)) (W + 1)) = max g (over (fun j => mxr tk (j : Int) (cf j) (l.drop i.toNat)) (W + 1)) := by
      rw [rd_drop l i h0 (by omega)]
      simp only [mxr]
      rw [over_max]; omega
    rw [e] at ih
    have hin := own_inner l W W C R (froms W (i + 1) (fun n => nxt tk (n : Int) (cf n) (rd_T35 l i))) (froms_length _ _ _) i (l.length : Int) i hW h0 (by omega) (fun n => nxt tk (n : Int) (cf n) (rd_T35 l i)) (fun j hj => ⟨rd_froms _ _ _ j hj, hs j⟩)
      _ (W + 1) 0 g (by omega) (by omega) (by rw [wr (by omega) (by omega)]; exact ih)
    rw [show max g (over (fun n => nxt tk (n : Int) (cf n) (rd_T35 l i)) 0) = g by simp only [over]; omega] at hin
    have h2 := Ev.step (g := fun k => fair_Gap.j2 k (froms W (i + 1) (fun n => nxt tk (n : Int) (cf n) (rd_T35 l i))) g i l (l.length : Int) i (W : Int) C R) (fun k => by simp only [fair_Gap.j2]; rfl) hin
    rw [froms_step] at h2
    have h3 := Ev.step (g := fun k => fair_Gap.j1 k (froms W i cf) g i l (l.length : Int) i (decide ((rd_T35 l i).f0 = 6 ∧ 0 ≤ (rd_T35 l i).f1 ∧ (rd_T35 l i).f1 ≤ W)) (W : Int) C R (rd_T35 l i).f0 (rd_T35 l i).f1 (rd_T35 l i).f2 (rd_T35 l i).f3 (rd_T35 l i).f4) (fun k => by
      simp only [fair_Gap.j1]
      by_cases hc : (rd_T35 l i).f0 = 6 ∧ 0 ≤ (rd_T35 l i).f1 ∧ (rd_T35 l i).f1 ≤ W
      · rw [if_pos (decide_eq_true hc), if_pos hc.2.1, if_pos (by rw [froms_length]; omega), wr (i := i + 1) (by omega) (by omega)]
        rw [if_pos hc]
      · rw [if_neg (by rw [decide_eq_true_eq]; exact hc)]
        rw [if_neg hc]) h2
    refine Ev.step (fun k => ?_) h3
    simp only [fair_Gap.l0]
    rw [if_pos (by omega), if_pos (by omega), if_pos (by omega)]
    by_cases k1 : (rd_T35 l i).f0 = 6
    · by_cases k2 : (rd_T35 l i).f1 ≥ 0
      · rw [if_pos k1, if_pos k2]
        congr 1
        rw [decide_eq_decide]; omega
      · rw [if_pos k1, if_neg k2]
        congr 1
        rw [eq_comm, decide_eq_false_iff_not]; omega
    · rw [if_neg k1]
      congr 1
      rw [eq_comm, decide_eq_false_iff_not]; omega

theorem gap_f_true (l : List S35) (W : Nat) (b c : Int) (hW : W ≤ 64) (h : fair_may.f W b c = some true) (k : Nat) : fair_Gap.f k W b c l = fair_Gap.l0 k (List.replicate (W + 1) 0) 0 l (l.length : Int) 0 W b c := by
  have h0 : (0 : Int) ≤ (W : Int) + 1 := by omega
  have e : ((W : Int) + 1).toNat = W + 1 := by omega
  have hN : W + 1 ≤ 35184372088832 := Nat.le_trans (Nat.succ_le_succ hW) (by decide +kernel)
  unfold fair_Gap.f
  rw [h, Option.bind_some, if_pos rfl, wr h0 (by omega), if_pos h0, e, if_pos hN]

theorem own_gap (l : List S35) (hl : l.length ≤ 1000) (a b c : Int) (m : Bool) (h : fair_may.f a b c = some m) (h3 : m = true → 1 ≤ a ∧ a ≤ 64 ∧ 1 ≤ b ∧ b ≤ 8) :
    Ev (fun k => fair_Gap.f k a b c l) (if m = true then (gap tk (a + 1).toNat l, 0) else (0, 1)) := by
  cases m with
  | false =>
    refine Ev.congr (f := fun _ => some (0, 1)) (fun k => ?_) (Ev.now _)
    unfold fair_Gap.f; rw [h, Option.bind_some, if_neg (by simp)]
  | true =>
    obtain ⟨g1, g2, g3, g4⟩ := h3 rfl
    obtain ⟨W, rfl⟩ : ∃ W : Nat, a = W := ⟨a.toNat, by omega⟩
    have e := own_outer l hl W b c (by omega) l.length 0 (fun _ => 0) 0 (by omega) (by omega) (by omega) (fun _ => by omega)
    have ef : froms W 0 (fun _ => 0) = List.replicate (W + 1) 0 := by
      unfold froms
      apply List.ext_getElem <;> simp
    rw [ef, show max 0 (over (fun j => mxr tk (j : Int) 0 (l.drop (0 : Int).toNat)) (W + 1)) = gap tk ((W : Int) + 1).toNat l by
      have := over_nonneg (fun j => mxr tk (j : Int) 0 l) (W + 1)
      rw [show ((W : Int) + 1).toNat = W + 1 by omega]
      unfold gap
      simp only [Int.toNat_zero, List.drop_zero]
      omega] at e
    rw [if_pos rfl]
    exact Ev.congr (fun k => gap_f_true l W b c (by omega) h k) e

theorem awake_ev : Ev (fun k => sinewlaw20_awake.f k) true := by
  refine Ev.of (k := 200) (fun k => sinewlaw20_awake.mono k) ?_
  decide +kernel

theorem rounds_pure (a b c n : Int) (l : List S35) : ∃ k, sinewlaw20_FairRounds.f k a b c n l = some true := by
  obtain ⟨m, h1, h2, h3⟩ := may_same a b c
  obtain ⟨q1, q, hq⟩ := rounds_same a b c n
  obtain ⟨r, hr, r1, r2⟩ := round_same a b c
  obtain ⟨s, hs, s1, s2⟩ := starts_same a b c
  refine Ev.rounds (r := true) ?_
  unfold sinewlaw20_FairRounds.f
  have hj : Ev (fun k => sinewlaw20_FairRounds.j0 k l false a b c) true := by
    by_cases hl : (l.length : Int) > 300
    · refine Ev.step (f := fun k => (sinewlaw20_awake.f k).bind fun t => some t) (fun k => ?_) (Ev.bind awake_ev (Ev.now _))
      simp only [sinewlaw20_FairRounds.j0]
      rw [if_neg (by simp), if_pos hl]
    · refine Ev.step (f := fun k => (fair_Gap.f k a b c l).bind fun p => (sinewrounds_Gap.f k a b c l).bind fun p' => if p.1 = p'.1 then (if p.2 = p'.2 then ((sinewlaw20_awake.f k).bind fun t => some t) else some false) else some false) (fun k => ?_) ?_
      · simp only [sinewlaw20_FairRounds.j0]
        rw [if_neg (by simp), if_neg hl]
      · refine Ev.bind (own_gap l (by omega) a b c m h1 h3) (Ev.bind (ref_gap l (by omega) a b c m h2 h3) ?_)
        simp only [if_true]
        exact Ev.bind awake_ev (Ev.now _)
  rw [← q1, hq]
  simp only [Option.bind_some]
  refine Ev.bind r1 (Ev.bind r2 (Ev.bind s1 (Ev.bind s2 ?_)))
  simp only [if_true]
  refine Ev.bind (same_self r.1 hr) ?_
  simp only [if_true]
  refine Ev.bind (same_self s.1 hs) ?_
  simp only [if_true, bne_self_eq_false]
  exact hj

end Go.Proofs.Ytdfaghcgldiocaa.PFairRounds
