/-
  The document's Is of a word is the program's: by bytes, not by runes. Conditions: as each says.
-/
import Derived.Test.YtcnffgcegimelaaGreatK1
import Derived.Deep.LoopGhost
import Derived.IntWalk
namespace Go.Proofs.YtcnffgcegimelaaGreat.Wd
open Go.RowKit

def byN (s : ByteArray) (i : Nat) : Nat := (s.get! i).toNat
theorem odd_hi {r : Nat} (h : 128 ≤ r) : oddR r = true := by
  unfold oddR
  simp only [Bool.and_eq_true, Bool.or_eq_true, decide_eq_true_eq]
  omega
theorem dec_lo {s : ByteArray} {i : Nat} (h : byN s i < 128) : Utf8.decode s i = (byN s i, 1) := by
  unfold byN at h ⊢
  unfold Utf8.decode
  simp only [Nat.add_zero]
  rw [if_pos h]
theorem dec_hi {s : ByteArray} {i : Nat} (h : 128 ≤ byN s i) : 128 ≤ (Utf8.decode s i).1 := by
  unfold byN at h
  unfold Utf8.decode
  simp only [Nat.add_zero]
  rw [if_neg (by omega)]
  have e : Utf8.runeError = 65533 := rfl
  repeat' split
  all_goals first | omega | (simp only [Bool.and_eq_true, decide_eq_true_eq] at *; omega)
theorem idx_no (s : ByteArray) : ∀ (f pos : Nat), (∀ i, pos ≤ i → i < s.size → oddR (byN s i) = false) → Lib.idxFuncFrom oddR true s f pos = -1
  | 0, _, _ => rfl
  | f + 1, pos, h => by
    unfold Lib.idxFuncFrom
    split
    · rename_i hp
      have h1 := h pos (Nat.le_refl _) hp
      have hl : byN s pos < 128 := by
        rcases Nat.lt_or_ge (byN s pos) 128 with e | e
        · exact e
        · rw [odd_hi e] at h1; cases h1
      rw [dec_lo hl, h1, if_neg (by decide)]
      exact idx_no s f (pos + 1) (fun i hi => h i (by omega))
    · rfl
theorem idx_yes (s : ByteArray) : ∀ (d f pos i : Nat), i = pos + d → d < f → i < s.size → oddR (byN s i) = true → (∀ j, pos ≤ j → j < i → oddR (byN s j) = false) → 0 ≤ Lib.idxFuncFrom oddR true s f pos
  | _, 0, _, _, _, h, _, _, _ => absurd h (by omega)
  | 0, f + 1, pos, i, e, _, hi, ho, _ => by
    obtain rfl : i = pos := by omega
    unfold Lib.idxFuncFrom
    rw [if_pos hi]
    have : oddR (Utf8.decode s i).1 = true := by
      rcases Nat.lt_or_ge (byN s i) 128 with e | e
      · rw [dec_lo e]; exact ho
      · exact odd_hi (dec_hi e)
    rw [if_pos this]
    omega
  | d + 1, f + 1, pos, i, e, hd, hi, ho, hb => by
    unfold Lib.idxFuncFrom
    rw [if_pos (by omega)]
    have h1 := hb pos (Nat.le_refl _) (by omega)
    have hl : byN s pos < 128 := by
      rcases Nat.lt_or_ge (byN s pos) 128 with e | e
      · exact e
      · rw [odd_hi e] at h1; cases h1
    rw [dec_lo hl, h1, if_neg (by decide)]
    exact idx_yes s d f (pos + 1) i (by omega) (by omega) hi ho (fun j hj => hb j (by omega))
/-- None of the first bytes is odd. -/
def OkU (s : ByteArray) (k : Nat) : Prop := ∀ i, i < k → oddR (byN s i) = false
theorem OkU.zero (s : ByteArray) : OkU s 0 := fun i h => absurd h (by omega)
theorem OkU.step {s : ByteArray} {k : Nat} (h : OkU s k) (ho : oddR (byN s k) = false) : OkU s (k + 1) := fun i hi => by
  by_cases e : i = k
  · rw [e]; exact ho
  · exact h i (by omega)
theorem isW_ok {s : ByteArray} (h : OkU s s.size) : isW s = (decide (1 ≤ s.size) && decide (s.size ≤ 16)) := by
  unfold isW Lib.idxFunc
  rw [idx_no s s.size 0 (fun i _ hi => h i hi)]
  by_cases e : s.size = 0
  · simp [e]
  · have : 1 ≤ s.size := by omega
    simp [e, this]
theorem isW_odd {s : ByteArray} {i : Nat} (h : OkU s i) (hi : i < s.size) (ho : oddR (byN s i) = true) : isW s = false := by
  unfold isW Lib.idxFunc
  have := idx_yes s i s.size 0 i (by omega) hi hi ho (fun j _ hj => h j hj)
  rw [decide_eq_true this]
  simp
theorem byN_get {s : ByteArray} {i : Nat} (h : i < s.size) : (s[i]'h).toNat = byN s i := by
  unfold byN
  congr 1
  obtain ⟨a⟩ := s
  exact (getElem!_pos a i h).symm
set_option maxRecDepth 100000 in
set_option maxHeartbeats 3200000 in
theorem ris_ok (w : World) (s : ByteArray) (hs : s.size ≤ maxLen) : Calls Tryz.prog 72 #[.string s] w fun e w' => e = .returned (.bool (isW s)) ∧ w = w' := by
  unfold maxLen at hs
  go_enter Tryz.func72, Tryz.ntmps72
  go_wp2
  go_loopg [3] (s.size + 1) (fun g s3 wr => ∃ k : Nat, k ≤ s.size ∧ s.size - k < g ∧ s3 = .int .i64 k ∧ w = wr ∧ Hid (OkU s k))
  case atStart => exact ⟨0, by omega, by omega, rfl, rfl, Lib.hid (OkU.zero s)⟩
  case round =>
    obtain ⟨k, hk, hg, rfl, rfl, HO⟩ := hrel
    by_cases hlt : k < s.size
    · have HB := Lib.hid (byN_get hlt)
      have z0 : 0 ≤ (k : Int) := by omega
      have z9 : (k : Int) < (s.size : Int) := by omega
      obtain ⟨b, hb⟩ : ∃ b, (s[k]'hlt).toNat = b := ⟨_, rfl⟩
      have HBE := Lib.hid (show byN s k = b by rw [← HB.out, hb])
      by_cases h1 : b < 97 <;> by_cases h2 : 122 < b <;> by_cases h3 : b < 48 <;> by_cases h4 : 57 < b <;> by_cases h5 : b = 45 <;> by_cases h6 : b = 58
      all_goals first
        | (exfalso; omega)
        | (have z1 : ((s[k]'hlt).toNat : Int) < 97 ↔ b < 97 := by omega
           have z2 : 122 < ((s[k]'hlt).toNat : Int) ↔ 122 < b := by omega
           have z3 : ((s[k]'hlt).toNat : Int) < 48 ↔ b < 48 := by omega
           have z4 : 57 < ((s[k]'hlt).toNat : Int) ↔ 57 < b := by omega
           have z5 : (((s[k]'hlt).toNat : Int) != 45) = decide (b ≠ 45) := by rw [Bool.eq_iff_iff, bne_iff_ne, decide_eq_true_iff]; omega
           have z6 : (((s[k]'hlt).toNat : Int) != 58) = decide (b ≠ 58) := by rw [Bool.eq_iff_iff, bne_iff_ne, decide_eq_true_iff]; omega
           simp only [h1, h2, h3, h4, h5, h6, decide_true, decide_false, ne_eq, not_true_eq_false, not_false_eq_true, iff_true, iff_false] at z1 z2 z3 z4 z5 z6
           first
             | (have HF := Lib.hid (show oddR (byN s k) = false by rw [HBE.out, Bool.eq_false_iff]; unfold oddR; simp only [Bool.and_eq_true, Bool.or_eq_true, decide_eq_true_eq, ne_eq]; omega)
                clear h1 h2 h3 h4 h5 h6 hb
                go_wp2
                go_roundg (s.size - k)
                case measure => omega
                case rel => exact ⟨k + 1, by omega, by omega, by go_num, rfl, Lib.hid (HO.out.step HF.out)⟩)
             | (have HF := Lib.hid (isW_odd HO.out hlt (by rw [HBE.out]; unfold oddR; simp only [Bool.and_eq_true, Bool.or_eq_true, decide_eq_true_eq, ne_eq]; omega))
                clear h1 h2 h3 h4 h5 h6 hb
                go_wp2
                go_ret
                exact ⟨by rw [HF.out]; rfl, rfl⟩))
    · have hke : k = s.size := by omega
      have z9 : ¬ (k : Int) < (s.size : Int) := by omega
      have HW := Lib.hid (isW_ok (by rw [hke] at HO; exact HO.out))
      by_cases h1 : 1 ≤ s.size
      · by_cases h2 : s.size ≤ 16
        · have y1 : (1 : Int) ≤ (s.size : Int) := by omega
          have y2 : (s.size : Int) ≤ 16 := by omega
          have HR := Lib.hid (show isW s = true by rw [HW.out, decide_eq_true h1, decide_eq_true h2]; rfl)
          go_wp2
          go_ret
          exact ⟨by rw [HR.out]; rfl, rfl⟩
        · have y1 : (1 : Int) ≤ (s.size : Int) := by omega
          have y2 : ¬ (s.size : Int) ≤ 16 := by omega
          have HR := Lib.hid (show isW s = false by rw [HW.out, decide_eq_true h1, decide_eq_false h2]; rfl)
          go_wp2
          go_ret
          exact ⟨by rw [HR.out]; rfl, rfl⟩
      · have y1 : ¬ (1 : Int) ≤ (s.size : Int) := by omega
        have HR := Lib.hid (show isW s = false by rw [HW.out, decide_eq_false h1]; rfl)
        go_wp2
        go_ret
        exact ⟨by rw [HR.out]; rfl, rfl⟩
end Go.Proofs.YtcnffgcegimelaaGreat.Wd
