/-
  Joined by wip/tools/merge.py from the texts Sf0 Sf1 Sf2. Conditions: as each says.
-/
import Derived.Test.YtcnffgcegimelaaGreatK9
section
/-
  StoreFull, plain: the names of its facts. Conditions: none.
-/
namespace Go.Proofs.YtcnffgcegimelaaGreat.So
open Go.RowKit Go.Proofs.YtcnffgcegimelaaGreat.Mp Go.Proofs.YtcnffgcegimelaaGreat.Wd Go.Proofs.YtcnffgcegimelaaGreat.Pm Go.Proofs.YtcnffgcegimelaaGreat.Pw

/-- The n-th name: three letters. -/
def nmF (n : Nat) : ByteArray := ⟨#[(97 + n % 26).toUInt8, (97 + n / 26 % 26).toUInt8, (97 + n / 676).toUInt8]⟩
def fctF (n : Nat) : Tri := ⟨nmF n, ⟨#[112]⟩, ⟨#[111]⟩⟩
theorem nmF_inj {a b : Nat} (ha : a < 4096) (hb : b < 4096) (h : nmF a = nmF b) : a = b := by
  unfold nmF at h
  injection h with h
  have h0 : (97 + a % 26).toUInt8 = (97 + b % 26).toUInt8 := by injection h with h; injection h
  have h1 : (97 + a / 26 % 26).toUInt8 = (97 + b / 26 % 26).toUInt8 := by injection h with h; injection h with _ h; injection h
  have h2 : (97 + a / 676).toUInt8 = (97 + b / 676).toUInt8 := by injection h with h; injection h with _ h; injection h with _ h; injection h
  have g : ∀ x y : Nat, x < 256 → y < 256 → x.toUInt8 = y.toUInt8 → x = y := fun x y hx hy e => by
    have := congrArg UInt8.toNat e
    simp only [Nat.toUInt8, UInt8.toNat_ofNat'] at this
    omega
  have e0 := g _ _ (by omega) (by omega) h0
  have e1 := g _ _ (by omega) (by omega) h1
  have e2 := g _ _ (by omega) (by omega) h2
  omega
/-- The v-th batch (v from 0). -/
def batF (v : Nat) : List Cng := (List.range 64).map fun i => ⟨false, fctF (v * 64 + i)⟩
/-- What there is of the first n. -/
def upF (n : Nat) : List Tri := ((List.range n).map fctF).reverse
theorem upF_step (n : Nat) : upF (n + 1) = fctF n :: upF n := by
  unfold upF
  rw [List.range_succ, List.map_append, List.reverse_append]
  rfl
theorem upF_new {n : Nat} (h : n < 4096) : fctF n ∉ upF n := by
  unfold upF
  rw [List.mem_reverse, List.mem_map]
  rintro ⟨m, hm, e⟩
  have hm2 := List.mem_range.1 hm
  have e2 : nmF m = nmF n := congrArg Tri.S e
  have := nmF_inj (by omega) h e2
  omega
theorem does_up : ∀ (m n : Nat), n + m ≤ 4096 → doesL (upF n) ((List.range m).map fun i => (⟨false, fctF (n + i)⟩ : Cng)) = upF (n + m)
  | 0, n, _ => rfl
  | m + 1, n, h => by
    rw [List.range_succ, List.map_append, List.map_singleton, doesL_snoc, does_up m n (by omega)]
    simp only [Bool.false_eq_true, if_false]
    rw [if_neg (upF_new (by omega))]
    exact (upF_step (n + m)).symm
theorem does_bat {v : Nat} (h : v < 64) : doesL (upF (v * 64)) (batF v) = upF (v * 64 + 64) := does_up 64 (v * 64) (by omega)
theorem upF_len (n : Nat) : (upF n).length = n := by unfold upF; rw [List.length_reverse, List.length_map, List.length_range]
set_option maxRecDepth 1000000 in
theorem fct_words : (List.range 4096).all (fun n => isT (fctF n)) = true := by decide +kernel
theorem fct_word {n : Nat} (h : n < 4096) : isT (fctF n) = true := List.all_eq_true.1 fct_words n (List.mem_range.2 h)
theorem bat_may {v : Nat} (h : v < 64) : May (batF v) := by
  refine ⟨by unfold batF; rw [List.length_map, List.length_range]; exact Nat.le_refl _, ?_⟩
  rw [List.any_eq_false]
  intro c hc
  obtain ⟨i, hi, rfl⟩ := List.mem_map.1 hc
  have hi2 := List.mem_range.1 hi
  rw [fct_word (by omega)]
  simp
def logF (v : Nat) : List (List Cng) := (List.range v).map batF
theorem logF_step (v : Nat) : logF (v + 1) = logF v ++ [batF v] := by
  unfold logF
  rw [List.range_succ, List.map_append]
  rfl
theorem all_logF : ∀ v, v ≤ 64 → allL (logF v) = upF (v * 64)
  | 0, _ => rfl
  | v + 1, h => by
    rw [logF_step, allL_snoc, all_logF v (by omega), does_bat (by omega)]
    exact congrArg upF (by omega)
theorem full_chk {v : Nat} (h : v < 64) : chkE (allL (logF v)) (batF v) = 0 := by
  have hm := bat_may h
  unfold chkE
  rw [if_neg (by rintro (e | e); · have := hm.1; omega
                 · rw [hm.2] at e; cases e), all_logF v (by omega), does_bat h, upF_len, if_neg (by omega)]
theorem logF_len (v : Nat) : (logF v).length = v := by unfold logF; rw [List.length_map, List.length_range]
theorem full_apply {v : Nat} (h : v < 64) : applyE (allL (logF v)) (logF v).length ((v : Int) + 1) (batF v) = 0 := by
  rw [logF_len]
  exact apply_is (full_chk h)
end Go.Proofs.YtcnffgcegimelaaGreat.So
end
section
/-
  StoreFull, plain: what the last batch does. Conditions: none.
-/
namespace Go.Proofs.YtcnffgcegimelaaGreat.So
open Go.RowKit Go.Proofs.YtcnffgcegimelaaGreat.Mp Go.Proofs.YtcnffgcegimelaaGreat.Wd Go.Proofs.YtcnffgcegimelaaGreat.Pm Go.Proofs.YtcnffgcegimelaaGreat.Pw

theorem upF_nodup : ∀ n, n ≤ 4096 → (upF n).Nodup
  | 0, _ => List.nodup_nil
  | n + 1, h => by
    rw [upF_step]
    exact List.nodup_cons.2 ⟨upF_new (by omega), upF_nodup n (by omega)⟩
def newF (i : Nat) : Tri := ⟨⟨#[110, 101, 119]⟩, ⟨#[112]⟩, ⟨#[(97 + i).toUInt8]⟩⟩
theorem newF_new (i : Nat) : newF i ∉ upF 4096 := by
  unfold upF
  rw [List.mem_reverse, List.mem_map]
  rintro ⟨n, hn, e⟩
  have hn2 := List.mem_range.1 hn
  have e2 : nmF n = ⟨#[110, 101, 119]⟩ := congrArg Tri.S e
  unfold nmF at e2
  have h2 : (97 + n / 676).toUInt8 = 119 := by injection e2 with h; injection h with h; injection h with _ h; injection h with _ h; injection h
  have := congrArg UInt8.toNat h2
  simp only [Nat.toUInt8, UInt8.toNat_ofNat'] at this
  have h3 : (119 : UInt8).toNat = 119 := rfl
  omega
/-- What is there when the first fact has gone, or not. -/
def baseF (g : Bool) : List Tri := if g then (upF 4096).filter (fun z => decide (z ≠ fctF 0)) else upF 4096
theorem fct0_in : fctF 0 ∈ upF 4096 := by
  unfold upF
  rw [List.mem_reverse, List.mem_map]
  exact ⟨0, List.mem_range.2 (by omega), rfl⟩
theorem baseF_len (g : Bool) : (baseF g).length = if g then 4095 else 4096 := by
  cases g with
  | false => exact upF_len 4096
  | true =>
    have h := len_split (fun x => decide (x = fctF 0)) (upF 4096)
    rw [filter_one (upF_nodup 4096 (by omega)), if_pos fct0_in, upF_len] at h
    have e : (upF 4096).filter (fun z => decide (z ≠ fctF 0)) = (upF 4096).filter (fun x => !decide (x = fctF 0)) := by congr 1; funext z; simp
    show ((upF 4096).filter (fun z => decide (z ≠ fctF 0))).length = 4095
    rw [e]
    simp only [List.length_singleton] at h
    omega
end Go.Proofs.YtcnffgcegimelaaGreat.So
end
section
/-
  StoreFull, plain: what the last batch and Room answer. Conditions: none.
-/
namespace Go.Proofs.YtcnffgcegimelaaGreat.So
open Go.RowKit Go.Proofs.YtcnffgcegimelaaGreat.Mp Go.Proofs.YtcnffgcegimelaaGreat.Wd Go.Proofs.YtcnffgcegimelaaGreat.Pm Go.Proofs.YtcnffgcegimelaaGreat.Pw

/-- The last batch: with one that goes, or not; so many new ones. -/
def goneB (g : Bool) : List Cng := if g then [⟨true, fctF 0⟩] else []
def lastB (g : Bool) (k : Nat) : List Cng := goneB g ++ (List.range k).map fun i => ⟨false, newF i⟩
theorem lastB_step (g : Bool) (k : Nat) : lastB g (k + 1) = lastB g k ++ [⟨false, newF k⟩] := by
  unfold lastB
  rw [List.range_succ, List.map_append, List.map_singleton, List.append_assoc]
theorem doesL_app (L : List Tri) (a b : List Cng) : doesL L (a ++ b) = doesL (doesL L a) b := by unfold doesL; rw [List.foldl_append]
theorem does_gone_any (L : List Tri) (g : Bool) : doesL L (goneB g) = if g then L.filter (fun z => decide (z ≠ fctF 0)) else L := by cases g <;> rfl
theorem does_gone (g : Bool) : doesL (upF 4096) (goneB g) = baseF g := does_gone_any _ g
theorem newF_inj {a b : Nat} (ha : a < 4) (hb : b < 4) (h : newF a = newF b) : a = b := by
  have h3 : (⟨#[(97 + a).toUInt8]⟩ : ByteArray) = ⟨#[(97 + b).toUInt8]⟩ := congrArg Tri.O h
  have h2 : (97 + a).toUInt8 = (97 + b).toUInt8 := by injection h3 with h; injection h with h; injection h
  have := congrArg UInt8.toNat h2
  simp only [Nat.toUInt8, UInt8.toNat_ofNat'] at this
  omega
theorem base_new (g : Bool) (i : Nat) : newF i ∉ baseF g := by
  cases g with
  | false => exact newF_new i
  | true => exact fun h => newF_new i (List.mem_filter.1 h).1
theorem does_new (g : Bool) : ∀ k, k ≤ 4 → doesL (baseF g) ((List.range k).map fun i => (⟨false, newF i⟩ : Cng)) = ((List.range k).map newF).reverse ++ baseF g
  | 0, _ => rfl
  | k + 1, h => by
    rw [List.range_succ, List.map_append, List.map_singleton, doesL_snoc, does_new g k (by omega)]
    simp only [Bool.false_eq_true, if_false]
    rw [if_neg, List.map_append, List.map_singleton, List.reverse_append]
    · rfl
    · intro hm
      rcases List.mem_append.1 hm with hm | hm
      · rw [List.mem_reverse, List.mem_map] at hm
        obtain ⟨i, hi, e⟩ := hm
        have hi2 := List.mem_range.1 hi
        have := newF_inj (by omega) (by omega) e
        omega
      · exact base_new g k hm
theorem does_last (g : Bool) {k : Nat} (h : k ≤ 4) : doesL (upF 4096) (lastB g k) = ((List.range k).map newF).reverse ++ baseF g := by
  unfold lastB
  rw [doesL_app, does_gone, does_new g k h]
theorem does_last_len (g : Bool) {k : Nat} (h : k ≤ 4) : (doesL (upF 4096) (lastB g k)).length = k + (if g then 4095 else 4096) := by
  rw [does_last g h, List.length_append, List.length_reverse, List.length_map, List.length_range, baseF_len]
theorem new_words : (List.range 4).all (fun n => isT (newF n)) = true := by decide +kernel
theorem last_may (g : Bool) {k : Nat} (h : k ≤ 4) : May (lastB g k) := by
  refine ⟨?_, ?_⟩
  · unfold lastB goneB
    rw [List.length_append, List.length_map, List.length_range]
    cases g <;> simp <;> omega
  · rw [List.any_eq_false]
    intro c hc
    unfold lastB at hc
    rcases List.mem_append.1 hc with hc | hc
    · cases g with
      | false => cases hc
      | true =>
        have e : c = ⟨true, fctF 0⟩ := List.mem_singleton.1 hc
        rw [e, fct_word (by omega)]
        simp
    · obtain ⟨i, hi, rfl⟩ := List.mem_map.1 hc
      have hi2 := List.mem_range.1 hi
      have := List.all_eq_true.1 new_words i (List.mem_range.2 (by omega))
      simp only at this ⊢
      rw [this]
      simp
/-- Whether the last batch fits. -/
def fitsB (g : Bool) (k : Nat) : Bool := decide (k = 0) || (g && decide (k = 1))
theorem last_chk (g : Bool) {k : Nat} (h : k ≤ 3) : chkE (upF 4096) (lastB g k) = if fitsB g k then 0 else 2 := by
  have hm := last_may g (k := k) (by omega)
  unfold chkE
  rw [if_neg (by rintro (e | e); · have := hm.1; omega
                 · rw [hm.2] at e; cases e), does_last_len g (by omega)]
  unfold fitsB
  cases g
  · by_cases hk : k = 0
    · subst hk; rfl
    · rw [if_pos (by simp; omega), if_neg (by simp; omega)]
  · by_cases hk : k ≤ 1
    · rw [if_neg (by simp; omega), if_pos (by simp; omega)]
    · rw [if_pos (by simp; omega), if_neg (by simp; omega)]
theorem all_full : allL (logF 64) = upF 4096 := all_logF 64 (by omega)
theorem last_apply (g : Bool) {k : Nat} (h : k ≤ 3) : applyE (allL (logF 64)) (logF 64).length 65 (lastB g k) = if fitsB g k then 0 else 2 := by
  rw [all_full, logF_len]
  have hc := last_chk g h
  unfold applyE
  rw [hc, if_neg (by split <;> decide), if_neg (by decide)]
def zzT : Tri := ⟨⟨#[122, 122]⟩, ⟨#[112]⟩, ⟨#[111]⟩⟩
theorem zz_up (n : Nat) : zzT ∉ upF n := by
  unfold upF
  rw [List.mem_reverse, List.mem_map]
  rintro ⟨n, _, e⟩
  have e2 : nmF n = ⟨#[122, 122]⟩ := congrArg Tri.S e
  unfold nmF at e2
  have := congrArg ByteArray.size e2
  cases this
theorem zz_base (g : Bool) : zzT ∉ baseF g := by
  cases g with
  | false => exact zz_up 4096
  | true => exact fun h => zz_up 4096 (List.mem_filter.1 h).1
theorem zz_new (i : Nat) : zzT ≠ newF i := by
  intro e
  have e2 : (⟨#[122, 122]⟩ : ByteArray) = ⟨#[110, 101, 119]⟩ := congrArg Tri.S e
  have := congrArg ByteArray.size e2
  cases this
def roomB : List Cng := [⟨false, zzT⟩]
theorem zz_word : isT zzT = true := by decide +kernel
theorem room_chk {L : List Tri} (h : zzT ∉ L) : chkE L roomB = if 4096 < L.length + 1 then 2 else 0 := by
  unfold chkE
  rw [if_neg (by unfold roomB; simp [zz_word])]
  have e : doesL L roomB = zzT :: L := by
    show (if zzT ∈ L then L else zzT :: L) = _
    rw [if_neg h]
  rw [e, List.length_cons]
/-- What Room answers behind the last batch. -/
theorem last_room (g : Bool) {k : Nat} (h : k ≤ 3) {log : List (List Cng)} (hl : logA (logF 64) 65 (lastB g k) = log) : decide (chkE (allL log) roomB = 0) = (fitsB g k && g && decide (k = 0)) := by
  have ha := last_apply g h
  unfold logA at hl
  cases hf : fitsB g k with
  | false =>
    rw [hf] at ha
    rw [ha, if_neg (by decide)] at hl
    subst hl
    rw [all_full, room_chk (zz_up 4096), upF_len]
    rfl
  | true =>
    rw [hf] at ha
    rw [ha, if_pos (by rfl)] at hl
    subst hl
    have hn : zzT ∉ doesL (upF 4096) (lastB g k) := by
      rw [does_last g (by omega)]
      intro hm
      rcases List.mem_append.1 hm with hm | hm
      · rw [List.mem_reverse, List.mem_map] at hm
        obtain ⟨i, _, e⟩ := hm
        exact zz_new i e.symm
      · exact zz_base g hm
    rw [allL_snoc, all_full, room_chk hn, does_last_len g (by omega)]
    unfold fitsB at hf
    cases g
    · have hk : k = 0 := by simpa using hf
      subst hk
      rfl
    · by_cases hk : k = 0
      · subst hk; rfl
      · have hk1 : k = 1 := by simp at hf; omega
        subst hk1
        rfl
end Go.Proofs.YtcnffgcegimelaaGreat.So
end
