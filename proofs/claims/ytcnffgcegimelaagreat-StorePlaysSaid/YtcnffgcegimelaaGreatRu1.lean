/-
  The document's store, walked: Is, May, Drop. Conditions: slices lie as told.
-/
import Derived.Test.YtcnffgcegimelaaGreatRu0
import Derived.Test.YtcnffgcegimelaaGreatKa
import Derived.BigQuiet
import Derived.Deep.QuietTactic
import Derived.Deep.RegionHeld3
namespace Go.Proofs.YtcnffgcegimelaaGreat.So
open Go.Deep Go.RowKit Go.Proofs.YtcnffgcegimelaaGreat.Mp Go.Proofs.YtcnffgcegimelaaGreat.Wd Go.Proofs.YtcnffgcegimelaaGreat.Pm Go.Proofs.YtcnffgcegimelaaGreat.Pw

/-- A slice that lies where the store, as it was at w0, is not. -/
structure HB {α : Type} (w0 w : World) (k : SW) (enc : α → List Value) (v : Value) (xs : List α) : Prop where
  sl : G.SlL w enc v xs
  out : ∀ b off n c, v = .slice (some ⟨b, off, none⟩) n c → n ≠ 0 → b < w.heap.size ∧ (b < w0.heap.size → 7 ≤ k.col b)
  nil : xs = [] → v = .slice none 0 0
section
variable {α : Type} {enc : α → List Value} {w0 w w' : World} {k : SW} {v : Value} {xs : List α}
theorem HB.below (h : HB w0 w k enc v xs) (b : Below w.heap.size w w') : HB w0 w' k enc v xs :=
  ⟨h.sl.below b, fun g off n c e hn => ⟨Nat.lt_of_lt_of_le (h.out g off n c e hn).1 b.size, (h.out g off n c e hn).2⟩, h.nil⟩
theorem HB.held (h : HB w0 w k enc v xs) : Held w (k.far w0) enc v xs :=
  ⟨h.sl, fun b off n c e hn => ⟨(h.out b off n c e hn).1, by
    show 7 ≤ (if b < w0.heap.size then k.col b else 8)
    split
    · rename_i hl; exact (h.out b off n c e hn).2 hl
    · omega⟩⟩
theorem Held.hb (h : Held w k enc v xs) (hn : xs = [] → v = .slice none 0 0) : HB w w k enc v xs := ⟨h.sl, fun b off n c e hn => ⟨(h.out b off n c e hn).1, fun _ => (h.out b off n c e hn).2⟩, hn⟩
theorem HB.own {e : TypeId} {m base : Nat} (h : G.OwnL w base e m enc v xs) (hb : w0.heap.size ≤ base) (hnil : xs = [] → v = .slice none 0 0) : HB w0 w k enc v xs :=
  ⟨h.sl, fun b off n c ev hn => by
    have h1 : v.ownBlock = some b := by rw [ev]; rfl
    have h2 := h.lt_ b h1
    have h3 := h.ge b h1
    exact ⟨h2, fun hl => by omega⟩, hnil⟩
theorem HB.empty (w0 w : World) (k : SW) (enc : α → List Value) : HB w0 w k enc (.slice none 0 0) [] := ⟨G.SlL.nil _ _, (fun b off n c e => by cases e), fun _ => rfl⟩
end
set_option maxRecDepth 100000 in
set_option maxHeartbeats 1000000 in
theorem ris3_ok (w : World) (a b c : ByteArray) (hf : FitT ⟨a, b, c⟩) : Calls Tryz.prog 48 #[.agg #[.string a, .string b, .string c]] w fun e w' => e = .returned (.bool (isT ⟨a, b, c⟩)) ∧ Below w.heap.size w w' := by
  have CA := fun W => ris_ok W a hf.1
  have CB := fun W => ris_ok W b hf.2.1
  have CC := fun W => ris_ok W c hf.2.2
  have HBW := Lib.hid (show Below w.heap.size w (w.alloc (.cells #[.string a, .string b, .string c] 35 (0, 0))) from (Below.refl _ w).alloc (Nat.le_refl _) _)
  cases ha : isW a with
  | false =>
    simp only [ha] at CA
    have HT := Lib.hid (show isT ⟨a, b, c⟩ = false by unfold isT; rw [ha]; rfl)
    clear ha
    go_enter Tryz.func48, Tryz.ntmps48
    go_wp2_with fail
    refine (CA _).mono ?_
    rintro e w1 ⟨rfl, rfl⟩
    go_wp2
    go_ret
    exact ⟨by rw [HT.out]; rfl, HBW.out⟩
  | true =>
    simp only [ha] at CA
    cases hb : isW b with
    | false =>
      simp only [hb] at CB
      have HT := Lib.hid (show isT ⟨a, b, c⟩ = false by unfold isT; rw [ha, hb]; rfl)
      clear ha hb
      go_enter Tryz.func48, Tryz.ntmps48
      go_wp2_with fail
      refine (CA _).mono ?_
      rintro e w1 ⟨rfl, rfl⟩
      go_wp2_with fail
      refine (CB _).mono ?_
      rintro e w1 ⟨rfl, rfl⟩
      go_wp2
      go_ret
      exact ⟨by rw [HT.out]; rfl, HBW.out⟩
    | true =>
      simp only [hb] at CB
      obtain ⟨r, hr⟩ : ∃ r, isW c = r := ⟨_, rfl⟩
      simp only [hr] at CC
      have HT := Lib.hid (show isT ⟨a, b, c⟩ = r by unfold isT; rw [ha, hb, hr]; rfl)
      clear ha hb hr
      go_enter Tryz.func48, Tryz.ntmps48
      go_wp2_with fail
      refine (CA _).mono ?_
      rintro e w1 ⟨rfl, rfl⟩
      go_wp2_with fail
      refine (CB _).mono ?_
      rintro e w1 ⟨rfl, rfl⟩
      go_wp2_with fail
      refine (CC _).mono ?_
      rintro e w1 ⟨rfl, rfl⟩
      go_wp2
      go_ret
      exact ⟨by rw [HT.out]; rfl, HBW.out⟩
/-- Whether a batch may be. -/
def mayB (l : List Cng) : Bool := l.all (fun c => isT c.T) && decide (l.length ≤ 64)
theorem mayB_iff (l : List Cng) : mayB l = true ↔ May l := by
  unfold mayB May
  rw [Bool.and_eq_true, decide_eq_true_iff, List.all_eq_true, List.any_eq_false]
  constructor
  · rintro ⟨h1, h2⟩; exact ⟨h2, fun c hc => by rw [h1 c hc]; decide⟩
  · rintro ⟨h1, h2⟩
    exact ⟨fun c hc => by
      have := h2 c hc
      cases hh : isT c.T with
      | true => rfl
      | false => rw [hh] at this; exact absurd rfl this, h1⟩
def AllT (l : List Cng) (i : Nat) : Prop := ∀ c ∈ l.take i, isT c.T = true
theorem AllT.step {l : List Cng} {i : Nat} {c : Cng} (h : AllT l i) (hc : l[i]? = some c) (ht : isT c.T = true) : AllT l (i + 1) := by
  intro d hd
  rw [take_snoc hc] at hd
  rcases List.mem_append.1 hd with hd | hd
  · exact h d hd
  · rw [List.mem_singleton.1 hd]; exact ht
set_option maxRecDepth 100000 in
set_option maxHeartbeats 1000000 in
theorem rmay_ok {w : World} {A : Option Addr} {n cp : Nat} {l : List Cng} (h : G.SlL w encC (.slice A n cp) l) (hn : l.length = n) (hn6 : n ≤ 9223372036854775807) (hf : ∀ c ∈ l, FitT c.T) :
    Calls Tryz.prog 24 #[.slice A n cp] w fun e w' => e = .returned (.bool (mayB l)) ∧ Below w.heap.size w w' := by
  have H := Lib.hid h
  have HN := Lib.hid hn
  clear h hn
  go_enter Tryz.func24, Tryz.ntmps24
  go_wp2
  go_loopg [3] (n + 1) (fun g s3 wr => ∃ i, i ≤ n ∧ n - i < g ∧ s3 = .int .i64 i ∧ Hid (Below w.heap.size w wr ∧ AllT l i))
  case atStart => exact ⟨0, by omega, by omega, rfl, Lib.hid ⟨Below.refl _ _, fun c hc => by cases hc⟩⟩
  case round =>
    obtain ⟨i, hi, hg, rfl, HR⟩ := hrel
    by_cases hin : i < n
    · obtain ⟨c, hc⟩ : ∃ c, l[i]? = some c := ⟨l[i]'(by have := HN.out; omega), List.getElem?_eq_getElem _⟩
      obtain ⟨sb, so, cc, hv, hsb, hcell⟩ := G.SlL.at_ H.out encC_len i c hc
      have hA : A = some ⟨sb, so, none⟩ := by injection hv
      have HF := Lib.hid (hf c (List.mem_of_getElem? hc))
      have HC := Lib.hid hc
      clear hv hc
      subst hA
      obtain ⟨gone, x, y, z⟩ := c
      have q1 : wr.cell? ⟨sb, so + i * 4 + 1, none⟩ = some (.string x) := (HR.out.1.cell (p := ⟨sb, so + i * 4 + 1, none⟩) hsb).trans (hcell 1 _ rfl)
      have q2 : wr.cell? ⟨sb, so + i * 4 + 2, none⟩ = some (.string y) := (HR.out.1.cell (p := ⟨sb, so + i * 4 + 2, none⟩) hsb).trans (hcell 2 _ rfl)
      have q3 : wr.cell? ⟨sb, so + i * 4 + 3, none⟩ = some (.string z) := (HR.out.1.cell (p := ⟨sb, so + i * 4 + 3, none⟩) hsb).trans (hcell 3 _ rfl)
      clear hcell
      have n1 : (i : Int) < (n : Int) := by omega
      have n0 : (0 : Int) ≤ (i : Int) := by omega
      cases hT : isT ⟨x, y, z⟩ with
      | true =>
        have HT := Lib.hid hT
        clear hT
        go_wp2_with fail
        refine (ris3_ok _ x y z HF.out).mono ?_
        rw [HT.out]
        rintro e w1 ⟨rfl, hb1⟩
        have B1 := Lib.hid hb1
        clear hb1
        go_wp2
        go_roundg (n - i)
        case measure => omega
        case rel => exact ⟨i + 1, by omega, by omega, by go_num, Lib.hid ⟨HR.out.1.trans (B1.out.mono HR.out.1.size), HR.out.2.step HC.out HT.out⟩⟩
      | false =>
        have HM := Lib.hid (show mayB l = false by
          cases hh : mayB l with
          | false => rfl
          | true =>
            have h1 := (Bool.and_eq_true _ _ ▸ hh : _ ∧ _).1
            have h2 := List.all_eq_true.1 h1 _ (List.mem_of_getElem? HC.out)
            rw [show isT (Cng.mk gone ⟨x, y, z⟩).T = false from hT] at h2
            cases h2)
        have HT := Lib.hid hT
        clear hT
        go_wp2_with fail
        refine (ris3_ok _ x y z HF.out).mono ?_
        rw [HT.out]
        rintro e w1 ⟨rfl, hb1⟩
        have B1 := Lib.hid hb1
        clear hb1
        go_wp2
        go_ret
        exact ⟨by rw [HM.out]; rfl, HR.out.1.trans (B1.out.mono HR.out.1.size)⟩
    · have hie : i = n := by omega
      have n1 : ¬ (i : Int) < (n : Int) := by omega
      have HM := Lib.hid (show mayB l = decide (n ≤ 64) by
        unfold mayB
        have h1 := HR.out.2
        unfold AllT at h1
        rw [hie, List.take_of_length_le (Nat.le_of_eq HN.out)] at h1
        rw [List.all_eq_true.2 (fun c hc => h1 c hc), HN.out, Bool.true_and])
      by_cases h64 : n ≤ 64
      · have g1 : (n : Int) ≤ 64 := by omega
        have HM2 := Lib.hid (HM.out.trans (decide_eq_true h64))
        go_wp2
        go_ret
        exact ⟨by rw [HM2.out]; rfl, HR.out.1⟩
      · have g1 : ¬ (n : Int) ≤ 64 := by omega
        have HM2 := Lib.hid (HM.out.trans (decide_eq_false h64))
        go_wp2
        go_ret
        exact ⟨by rw [HM2.out]; rfl, HR.out.1⟩
set_option maxRecDepth 100000 in
set_option maxHeartbeats 1000000 in
theorem rdrop_ok {w0 w : World} {k : SW} {A : Option Addr} {n cp : Nat} {D : List Tri} (x y z : ByteArray) (h : G.SlL w encT (.slice A n cp) D) (hn : D.length = n) (hn6 : n ≤ 1000000) (h0 : w0.heap.size ≤ w.heap.size) :
    Calls Tryz.prog 49 #[.slice A n cp, .agg #[.string x, .string y, .string z]] w fun e w' => ∃ A' n' c', e = .returned (.slice A' n' c') ∧ Below w.heap.size w w' ∧ HB w0 w' k encT (.slice A' n' c') (dropR D ⟨x, y, z⟩) := by
  have HI := Lib.hid (show (Tryz.prog.info? 35).map (fun i => (i.zero, i.size, i.bytes)) = some (some (.agg #[.string ByteArray.empty, .string ByteArray.empty, .string ByteArray.empty]), 3, 48) by kernel_rfl)
  have H := Lib.hid h
  have HN := Lib.hid hn
  obtain ⟨w1, hw1⟩ : ∃ w1, w.alloc (.cells #[.string x, .string y, .string z] 35 (0, 0)) = w1 := ⟨_, rfl⟩
  have HB1 := Lib.hid (show Below w.heap.size w w1 by rw [← hw1]; exact (Below.refl _ w).alloc (Nat.le_refl _) _)
  obtain ⟨bx, hbx⟩ : ∃ b, w.heap.size = b := ⟨_, rfl⟩
  have HBX := Lib.hid (show bx < w1.heap.size ∧ w1.cell? ⟨bx, 0, none⟩ = some (.string x) ∧ w1.cell? ⟨bx, 1, none⟩ = some (.string y) ∧ w1.cell? ⟨bx, 2, none⟩ = some (.string z) by
    rw [← hw1, ← hbx]
    exact ⟨by rw [World.size_alloc]; omega, Ck.new_cell w _ _ 0, Ck.new_cell w _ _ 1, Ck.new_cell w _ _ 2⟩)
  have H0 := Lib.hid h0
  clear h hn h0
  go_enter Tryz.func49, Tryz.ntmps49
  go_wp2
  try rw [hw1]
  try rw [hbx]
  have HW1 := Lib.hid (And.intro hw1 hbx)
  clear hw1 hbx
  go_loopg [5, 6] (n + 1) (fun g s5 s6 wr => ∃ i, i ≤ n ∧ n - i < g ∧ s6 = .int .i64 i ∧ Hid (G.OwnL wr w1.heap.size 35 3 encT s5 (dropR (D.take i) ⟨x, y, z⟩) ∧ Below w1.heap.size w1 wr) ∧ Hid (dropR (D.take i) ⟨x, y, z⟩ = [] → s5 = .slice none 0 0))
  case atStart => exact ⟨0, by omega, by omega, rfl, Lib.hid ⟨G.OwnL.nil _ _ _ _ _, Below.refl _ _⟩, Lib.hid (fun _ => rfl)⟩
  case round =>
    obtain ⟨i, hi, hg, rfl, HR, HNI⟩ := hrel
    by_cases hin : i < n
    · obtain ⟨t, ht⟩ : ∃ t, D[i]? = some t := ⟨D[i]'(by have := HN.out; omega), List.getElem?_eq_getElem _⟩
      obtain ⟨sb, so, cc, hv, hsb, hcell⟩ := G.SlL.at_ H.out encT_len i t ht
      have hA : A = some ⟨sb, so, none⟩ := by injection hv
      have HT := Lib.hid (take_snoc ht)
      have HLE := Lib.hid (show (dropR (D.take i) ⟨x, y, z⟩).length ≤ n from Nat.le_trans (List.length_filter_le _ _) (by rw [List.length_take]; omega))
      clear hv ht
      subst hA
      obtain ⟨a, b, c⟩ := t
      have BW := Lib.hid (HB1.out.trans (HR.out.2.mono HB1.out.size))
      have q0 : wr.cell? ⟨sb, so + i * 3, none⟩ = some (.string a) := (BW.out.cell (p := ⟨sb, so + i * 3, none⟩) hsb).trans (hcell 0 _ rfl)
      have q1 : wr.cell? ⟨sb, so + i * 3 + 1, none⟩ = some (.string b) := (BW.out.cell (p := ⟨sb, so + i * 3 + 1, none⟩) hsb).trans (hcell 1 _ rfl)
      have q2 : wr.cell? ⟨sb, so + i * 3 + 2, none⟩ = some (.string c) := (BW.out.cell (p := ⟨sb, so + i * 3 + 2, none⟩) hsb).trans (hcell 2 _ rfl)
      have b0 : wr.cell? ⟨bx, 0, none⟩ = some (.string x) := (HR.out.2.cell (p := ⟨bx, 0, none⟩) HBX.out.1).trans HBX.out.2.1
      have b1 : wr.cell? ⟨bx, 1, none⟩ = some (.string y) := (HR.out.2.cell (p := ⟨bx, 1, none⟩) HBX.out.1).trans HBX.out.2.2.1
      have b2 : wr.cell? ⟨bx, 2, none⟩ = some (.string z) := (HR.out.2.cell (p := ⟨bx, 2, none⟩) HBX.out.1).trans HBX.out.2.2.2
      clear hcell
      have qN := fun w => neq_tri w a b c x y z
      obtain ⟨e2, he2⟩ : ∃ e2, (!decide ((⟨a, b, c⟩ : Tri) = ⟨x, y, z⟩)) = e2 := ⟨_, rfl⟩
      simp only [he2] at qN
      have HE2 := Lib.hid he2
      clear he2
      have n1 : (i : Int) < (n : Int) := by omega
      have n0 : (0 : Int) ≤ (i : Int) := by omega
      cases e2 with
      | true =>
        have HD := Lib.hid (show dropR (D.take (i + 1)) ⟨x, y, z⟩ = dropR (D.take i) ⟨x, y, z⟩ ++ [⟨a, b, c⟩] by
          rw [HT.out]
          unfold dropR
          rw [List.filter_append, List.filter_cons_of_pos (by have := HE2.out; simpa using this), List.filter_nil])
        go_wp2
        go_quiet (fail)
        have p0 : (wr.drewN nq).cell? ⟨sb, so + i * 3, none⟩ = some (.string a) := q0
        have p1 : (wr.drewN nq).cell? ⟨sb, so + i * 3 + 1, none⟩ = some (.string b) := q1
        have p2 : (wr.drewN nq).cell? ⟨sb, so + i * 3 + 2, none⟩ = some (.string c) := q2
        have HX := Lib.hid (show G.OwnL (wr.drewN nq) w1.heap.size 35 3 encT u5 (dropR (D.take i) ⟨x, y, z⟩) ∧ Below w1.heap.size w1 (wr.drewN nq) from ⟨HR.out.1.below (below_drewN (Below.refl _ _) _), below_drewN HR.out.2 _⟩)
        clear q0 q1 q2 b0 b1 b2 HR BW
        generalize wr.drewN nq = wz at p0 p1 p2 HX ⊢
        go_wp2_with (at_builtin; refine G.wp_app1 rfl _ _ 29 35 rfl _ 3 48 Tryz.underlying29 HI.out rfl (by omega) (by omega) encT encT_len encT_one w1.heap.size u5 (dropR (D.take i) ⟨x, y, z⟩) ⟨a, b, c⟩ _ rfl rfl _ rfl rfl HX.out.1 HX.out.2.size (by have := HLE.out; omega) ?_; intro v1 w5 ho5 hg5 hat5; have H5 := Lib.hid (And.intro ho5 (HX.out.2.grown hg5 HX.out.2.size (fun g e => HX.out.1.ge g e))); clear ho5 hg5 hat5)
        go_roundg (n - i)
        case measure => omega
        case rel => exact ⟨i + 1, by omega, by omega, by go_num, Lib.hid (by rw [HD.out]; exact H5.out), Lib.hid (fun e => by rw [HD.out] at e; simp at e)⟩
      | false =>
        have HD := Lib.hid (show dropR (D.take (i + 1)) ⟨x, y, z⟩ = dropR (D.take i) ⟨x, y, z⟩ by
          rw [HT.out]
          unfold dropR
          rw [List.filter_append, List.filter_cons_of_neg (by have := HE2.out; simpa using this), List.filter_nil, List.append_nil])
        go_wp2
        go_quiet (fail)
        go_wp2
        go_roundg (n - i)
        case measure => omega
        case rel => exact ⟨i + 1, by omega, by omega, by go_num, Lib.hid (by rw [HD.out]; exact ⟨HR.out.1.below (below_drewN (Below.refl _ _) _), below_drewN HR.out.2 _⟩), Lib.hid (by rw [HD.out]; exact HNI.out)⟩
    · have hie : i = n := by omega
      have n1 : ¬ (i : Int) < (n : Int) := by omega
      have HTK := Lib.hid (show D.take i = D by rw [hie]; exact List.take_of_length_le (Nat.le_of_eq HN.out))
      rw [HTK.out] at HR HNI
      obtain ⟨A', c', rfl, _⟩ := id HR.out.1.sl
      go_wp2
      go_ret
      exact ⟨_, _, _, rfl, HB1.out.trans (HR.out.2.mono HB1.out.size), HB.own HR.out.1 (Nat.le_trans H0.out HB1.out.size) HNI.out⟩
end Go.Proofs.YtcnffgcegimelaaGreat.So
