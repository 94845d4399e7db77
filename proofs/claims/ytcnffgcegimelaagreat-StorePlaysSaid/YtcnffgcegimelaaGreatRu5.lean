/-
  The document's store, walked: New, Facts, Like, Match, Homes. Conditions: slices lie as told.
-/
import Derived.Test.YtcnffgcegimelaaGreatRu4
namespace Go.Proofs.YtcnffgcegimelaaGreat.So
open Go.Deep Go.RowKit Go.Proofs.YtcnffgcegimelaaGreat.Mp Go.Proofs.YtcnffgcegimelaaGreat.Wd Go.Proofs.YtcnffgcegimelaaGreat.Pm Go.Proofs.YtcnffgcegimelaaGreat.Pw

set_option maxRecDepth 100000 in
set_option maxHeartbeats 1000000 in
theorem rnew_ok (w : World) (k : SW) : Calls Tryz.prog 23 #[] w fun e w' => ∃ b, e = .returned (.agg #[.slice (some ⟨b, 0, none⟩) 1 1]) ∧ Below w.heap.size w w' ∧ QS w w' k (.slice (some ⟨b, 0, none⟩) 1 1) [⟨none, 0, 0⟩] [] := by
  go_enter Tryz.func23, Tryz.ntmps23
  go_wp2
  have h0 : ((w.alloc (.cells #[.slice (some ⟨w.heap.size + 1, 0, none⟩) 1 1] 52 (0, 0))).alloc (.cells #[.slice none 0 0] 29 (0, 0))).heap[w.heap.size]? = some (.cells #[.slice (some ⟨w.heap.size + 1, 0, none⟩) 1 1] 52 (0, 0)) := (Below.heap_alloc _ _ _ (by rw [World.size_alloc]; omega)).trans (heap_alloc_new w _)
  have h1 : ((w.alloc (.cells #[.slice (some ⟨w.heap.size + 1, 0, none⟩) 1 1] 52 (0, 0))).alloc (.cells #[.slice none 0 0] 29 (0, 0))).heap[w.heap.size + 1]? = some (.cells #[.slice none 0 0] 29 (0, 0)) := by
    have := heap_alloc_new (w.alloc (.cells #[.slice (some ⟨w.heap.size + 1, 0, none⟩) 1 1] 52 (0, 0))) (.cells #[.slice none 0 0] 29 (0, 0))
    rwa [World.size_alloc] at this
  have c0 : ((w.alloc (.cells #[.slice (some ⟨w.heap.size + 1, 0, none⟩) 1 1] 52 (0, 0))).alloc (.cells #[.slice none 0 0] 29 (0, 0))).cell? ⟨w.heap.size, 0, none⟩ = some (.slice (some ⟨w.heap.size + 1, 0, none⟩) 1 1) := by simp [World.cell?, h0]
  refine bodyPost_ret (v := .agg #[.slice (some ⟨w.heap.size + 1, 0, none⟩) 1 1]) ?_ rfl ⟨w.heap.size + 1, rfl, ((Below.refl _ w).alloc (Nat.le_refl _) _).alloc (by simp) _, ⟨⟨sl_block encS [⟨none, 0, 0⟩] h1 rfl rfl, fun b off n c e hn => ?_, fun e => by cases e⟩, rfl, fun i z hz => ?_⟩⟩
  · simp [results, Tryz.results23, go_sem, c0]
  · have e1 : w.heap.size + 1 = b := by injection e with e5; injection e5 with e6; injection e6
    subst e1
    exact ⟨(Array.getElem?_eq_some_iff.1 h1).1, fun h => by omega⟩
  · obtain ⟨rfl, rfl⟩ : i = 0 ∧ z = ⟨none, 0, 0⟩ := by
      cases i with
      | zero => exact ⟨rfl, (Option.some.inj hz).symm⟩
      | succ i => simp at hz
    exact ⟨rfl, HB.empty _ _ _ _⟩
/-- What is asked of the document's store. -/
def RFacts (w : World) (k : SW) (log : List (List Cng)) (v : Int) (e : Ending) (w' : World) : Prop :=
  ∃ A n c, e = .returned (.tuple #[.slice A n c, .int .i64 (factsE log.length v)]) ∧ Below w.heap.size w w' ∧ HB w w' k encT (.slice A n c) (factsL log v)
set_option maxRecDepth 100000 in
set_option maxHeartbeats 1000000 in
theorem rfacts_ok {w : World} {k : SW} {A : Option Addr} {nq cq : Nat} {zs : List SV} {log : List (List Cng)} (v : Int) (h : QS w w k (.slice A nq cq) zs log) (hlog : log.length ≤ 40) :
    Calls Tryz.prog 27 #[.agg #[.slice A nq cq], .int .i64 v] w (RFacts w k log v) := by
  have HB1 := Lib.hid (show Below w.heap.size w (w.alloc (oneO (.slice A nq cq))) from (Below.refl _ w).alloc (Nat.le_refl _) _)
  have H := Lib.hid h
  have hnq : nq = log.length + 1 := by
    obtain ⟨A2, c2, e, _⟩ := h.row.sl
    injection e with _ e2 _
    rw [e2, h.zl]
  have HNQ := Lib.hid hnq
  clear h
  by_cases h0 : v < 0
  · have HE := Lib.hid (show factsE log.length v = 71 ∧ factsL log v = [] by unfold factsE factsL; rw [if_neg (by omega), if_neg (by omega)]; exact ⟨rfl, rfl⟩)
    clear hnq hlog
    go_enter Tryz.func27, Tryz.ntmps27
    go_wp2
    go_ret2
    exact ⟨none, 0, 0, by rw [HE.out.1]; rfl, HB1.out, by rw [HE.out.2]; exact HB.empty _ _ _ _⟩
  · by_cases h1 : (nq : Int) ≤ v
    · have HE := Lib.hid (show factsE log.length v = 71 ∧ factsL log v = [] by unfold factsE factsL; rw [if_neg (by omega), if_neg (by omega)]; exact ⟨rfl, rfl⟩)
      clear hnq hlog
      go_enter Tryz.func27, Tryz.ntmps27
      go_wp2
      go_ret2
      exact ⟨none, 0, 0, by rw [HE.out.1]; rfl, HB1.out, by rw [HE.out.2]; exact HB.empty _ _ _ _⟩
    · obtain ⟨m, rfl⟩ := Int.eq_ofNat_of_zero_le (by omega : 0 ≤ v)
      have hml : m ≤ log.length := by omega
      have HE := Lib.hid (show factsE log.length (m : Int) = 0 ∧ factsL log (m : Int) = verL (log.take m) by unfold factsE factsL; rw [if_pos (by omega), if_pos (by omega), Int.toNat_natCast]; exact ⟨rfl, rfl⟩)
      obtain ⟨z, hz⟩ : ∃ z, zs[m]? = some z := ⟨zs[m]'(by have := H.out.zl; omega), List.getElem?_eq_getElem _⟩
      obtain ⟨sa, sao, sc, hva, hsa, hcell⟩ := G.SlL.at_ H.out.row.sl encS_len m z hz
      have hA : A = some ⟨sa, sao, none⟩ := by injection hva
      have HZ := Lib.hid (show HB w w k encT (.slice z.A z.n z.c) (verL (log.take m)) from (H.out.fact m z hz).2)
      have q0 : (w.alloc (.cells #[.slice A nq cq] 52 (0, 0))).cell? ⟨sa, sao + m, none⟩ = some (.slice z.A z.n z.c) := by
        have := hcell 0 _ rfl
        rw [Nat.mul_one, Nat.add_zero] at this
        exact (HB1.out.cell (p := ⟨sa, sao + m, none⟩) hsa).trans this
      have g0 : (0 : Int) ≤ (m : Int) := by omega
      have g1 : (m : Int) < (nq : Int) := by omega
      clear hva hcell hz hnq hlog hml
      subst hA
      go_enter Tryz.func27, Tryz.ntmps27
      go_wp2
      go_ret2
      exact ⟨_, _, _, by rw [HE.out.1]; rfl, HB1.out, by rw [HE.out.2]; exact HZ.out.below HB1.out⟩
/-- One word of an asking. -/
theorem like_three (x a : ByteArray) : (x = ByteArray.empty ∧ (!hasW x || decide (x = a)) = true) ∨ (x = a ∧ (x.toList == []) = false ∧ (!hasW x || decide (x = a)) = true) ∨ (x ≠ a ∧ (x.toList == []) = false ∧ (!hasW x || decide (x = a)) = false) := by
  rcases has_cases x with ⟨e, e2⟩ | ⟨e, e2, _⟩
  · exact Or.inl ⟨e, by rw [e2]; rfl⟩
  · by_cases h : x = a
    · exact Or.inr (Or.inl ⟨h, e2, by rw [decide_eq_true h, Bool.or_true]⟩)
    · exact Or.inr (Or.inr ⟨h, e2, by rw [e, decide_eq_false h]; rfl⟩)
set_option maxRecDepth 100000 in
set_option maxHeartbeats 3200000 in
theorem rlike_ok (w : World) (a b c x y z : ByteArray) : Calls Tryz.prog 19 #[.agg #[.string a, .string b, .string c], .agg #[.string x, .string y, .string z]] w fun e w' => e = .returned (.bool (likeB ⟨x, y, z⟩ ⟨a, b, c⟩)) ∧ Below w.heap.size w w' := by
  have HB' := Lib.hid (show Below w.heap.size w ((w.alloc (.cells #[.string a, .string b, .string c] 35 (0, 0))).alloc (.cells #[.string x, .string y, .string z] 35 (0, 0))) from ((Below.refl _ w).alloc (Nat.le_refl _) _).alloc (by simp) _)
  have HL : likeB ⟨x, y, z⟩ ⟨a, b, c⟩ = ((!hasW x || decide (x = a)) && (!hasW y || decide (y = b)) && (!hasW z || decide (z = c))) := rfl
  rcases like_three x a with ⟨rfl, h1⟩ | ⟨rfl, h1', h1⟩ | ⟨hx, h1', h1⟩ <;> rcases like_three y b with ⟨rfl, h2⟩ | ⟨rfl, h2', h2⟩ | ⟨hy, h2', h2⟩ <;> rcases like_three z c with ⟨rfl, h3⟩ | ⟨rfl, h3', h3⟩ | ⟨hz, h3', h3⟩
  all_goals
    rw [h1, h2, h3] at HL
    have HR := Lib.hid HL
    clear HL h1 h2 h3
    try have x1 := beq_no hx
    try have y1 := beq_no hy
    try have z1 := beq_no hz
    try clear hx
    try clear hy
    try clear hz
    go_enter Tryz.func19, Tryz.ntmps19
    go_wp2
    go_ret
    exact ⟨by rw [HR.out]; first | rfl | simp, by first | exact HB'.out | exact below_drewN HB'.out _⟩
end Go.Proofs.YtcnffgcegimelaaGreat.So
