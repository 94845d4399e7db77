/-
  The document's store, walked: Done. Conditions: slices lie as told.
-/
import Derived.Test.YtcnffgcegimelaaGreatRu2
namespace Go.Proofs.YtcnffgcegimelaaGreat.So
open Go.Deep Go.RowKit Go.Proofs.YtcnffgcegimelaaGreat.Mp Go.Proofs.YtcnffgcegimelaaGreat.Wd Go.Proofs.YtcnffgcegimelaaGreat.Pm Go.Proofs.YtcnffgcegimelaaGreat.Pw

theorem putR_len (lt : Tri → Tri → Bool) (t : Tri) : ∀ l : List Tri, (putR lt l t).length ≤ l.length + 1
  | [] => Nat.le_refl _
  | a :: r => by
    have := putR_len lt t r
    unfold putR
    split
    · rw [List.length_cons, List.length_cons]; omega
    · split
      · omega
      · rw [List.length_cons]; omega
theorem doneR_snoc (lt : Tri → Tri → Bool) (D : List Tri) (l : List Cng) (c : Cng) : doneR lt D (l ++ [c]) = if c.gone then dropR (doneR lt D l) c.T else putR lt (doneR lt D l) c.T := by
  unfold doneR
  rw [List.foldl_append]
  rfl
theorem doneR_len (lt : Tri → Tri → Bool) (D : List Tri) (l : List Cng) : ∀ i, (doneR lt D (l.take i)).length ≤ D.length + i
  | 0 => by rw [List.take_zero]; exact Nat.le_refl _
  | i + 1 => by
    have ih := doneR_len lt D l i
    rw [List.take_add_one]
    cases h : l[i]? with
    | none => simp only [Option.toList]; rw [List.append_nil]; omega
    | some c =>
      simp only [Option.toList]
      rw [doneR_snoc]
      split
      · have := List.length_filter_le (fun z => decide (z ≠ c.T)) (doneR lt D (l.take i))
        unfold dropR
        omega
      · have := putR_len lt c.T (doneR lt D (l.take i))
        omega
set_option maxRecDepth 100000 in
set_option maxHeartbeats 3200000 in
theorem rdone_ok {w0 w : World} {k0 : SW} {A B : Option Addr} {n cp m cb : Nat} {D : List Tri} {l : List Cng} (h : HB w0 w k0 encT (.slice A n cp) D) (hn6 : n ≤ 10000) (hl : G.SlL w encC (.slice B m cb) l) (hm : l.length = m) (hm64 : m ≤ 64) (h0 : w0.heap.size ≤ w.heap.size) :
    Calls Tryz.prog 25 #[.slice A n cp, .slice B m cb] w fun e w' => ∃ A' n' c', e = .returned (.slice A' n' c') ∧ Below w.heap.size w w' ∧ HB w0 w' k0 encT (.slice A' n' c') (doneR ltT D l) := by
  have HH := Lib.hid h
  have HL := Lib.hid hl
  have HM := Lib.hid hm
  have H0 := Lib.hid h0
  have HN := Lib.hid (show D.length = n by
    obtain ⟨A2, c2, e, _⟩ := h.sl
    injection e with _ e2 _
    exact e2.symm)
  clear h hl hm h0
  go_enter Tryz.func25, Tryz.ntmps25
  go_wp2
  go_loopg [0, 5] (m + 1) (fun g s0 s5 wr => ∃ i, i ≤ m ∧ m - i < g ∧ s5 = .int .i64 i ∧ Hid (HB w0 wr k0 encT s0 (doneR ltT D (l.take i)) ∧ Below w.heap.size w wr))
  case atStart => exact ⟨0, by omega, by omega, rfl, Lib.hid ⟨HH.out, Below.refl _ _⟩⟩
  case round =>
    obtain ⟨i, hi, hg, rfl, HR⟩ := hrel
    obtain ⟨E, hE⟩ : ∃ E, doneR ltT D (l.take i) = E := ⟨_, rfl⟩
    have HLE := Lib.hid (show E.length ≤ n + i by rw [← hE]; exact Nat.le_trans (doneR_len ltT D l i) (by rw [HN.out]; exact Nat.le_refl _))
    rw [hE] at HR
    have HE := Lib.hid hE
    clear hE
    obtain ⟨A1, c1, rfl, _⟩ := id HR.out.1.sl
    obtain ⟨e1, he1⟩ : ∃ e, E.length = e := ⟨_, rfl⟩
    rw [he1] at HR HLE ⊢
    have HE1 := Lib.hid he1
    have hle1 := HLE.out
    clear he1
    by_cases hin : i < m
    · obtain ⟨c, hc⟩ : ∃ c, l[i]? = some c := ⟨l[i]'(by have := HM.out; omega), List.getElem?_eq_getElem _⟩
      obtain ⟨sb, so, cc, hv, hsb, hcell⟩ := G.SlL.at_ HL.out encC_len i c hc
      have hB : B = some ⟨sb, so, none⟩ := by injection hv
      have HT := Lib.hid (take_snoc hc)
      clear hv hc
      subst hB
      obtain ⟨gone, x, y, z⟩ := c
      have q0 : wr.cell? ⟨sb, so + i * 4, none⟩ = some (.bool gone) := (HR.out.2.cell (p := ⟨sb, so + i * 4, none⟩) hsb).trans (hcell 0 _ rfl)
      have q1 : wr.cell? ⟨sb, so + i * 4 + 1, none⟩ = some (.string x) := (HR.out.2.cell (p := ⟨sb, so + i * 4 + 1, none⟩) hsb).trans (hcell 1 _ rfl)
      have q2 : wr.cell? ⟨sb, so + i * 4 + 2, none⟩ = some (.string y) := (HR.out.2.cell (p := ⟨sb, so + i * 4 + 2, none⟩) hsb).trans (hcell 2 _ rfl)
      have q3 : wr.cell? ⟨sb, so + i * 4 + 3, none⟩ = some (.string z) := (HR.out.2.cell (p := ⟨sb, so + i * 4 + 3, none⟩) hsb).trans (hcell 3 _ rfl)
      clear hcell
      have n1 : (i : Int) < (m : Int) := by omega
      have n0 : (0 : Int) ≤ (i : Int) := by omega
      have HSN := Lib.hid (show doneR ltT D (l.take (i + 1)) = if gone then dropR E ⟨x, y, z⟩ else putR ltT E ⟨x, y, z⟩ by rw [HT.out, doneR_snoc, HE.out])
      cases gone with
      | true =>
        go_wp2_with fail
        refine (rdrop_ok (w0 := w0) (k := k0) x y z HR.out.1.sl HE1.out (by omega) (Nat.le_trans H0.out HR.out.2.size)).mono ?_
        rintro e w5 ⟨A5, n5, c5, rfl, hb5, hh5⟩
        have H5 := Lib.hid (show HB w0 w5 k0 encT (.slice A5 n5 c5) (doneR ltT D (l.take (i + 1))) ∧ Below w.heap.size w w5 by rw [HSN.out]; exact ⟨hh5, HR.out.2.trans (hb5.mono HR.out.2.size)⟩)
        clear hb5 hh5
        go_wp2
        go_roundg (m - i)
        case measure => omega
        case rel => exact ⟨i + 1, by omega, by omega, by go_num, H5⟩
      | false =>
        go_wp2_with fail
        refine (rput_ok (w0 := w0) (k0 := k0) x y z HR.out.1 HE1.out (by omega) (Nat.le_trans H0.out HR.out.2.size)).mono ?_
        rintro e w5 ⟨A5, n5, c5, rfl, hb5, hh5⟩
        have H5 := Lib.hid (show HB w0 w5 k0 encT (.slice A5 n5 c5) (doneR ltT D (l.take (i + 1))) ∧ Below w.heap.size w w5 by rw [HSN.out]; exact ⟨hh5, HR.out.2.trans (hb5.mono HR.out.2.size)⟩)
        clear hb5 hh5
        go_wp2
        go_roundg (m - i)
        case measure => omega
        case rel => exact ⟨i + 1, by omega, by omega, by go_num, H5⟩
    · have hie : i = m := by omega
      have n1 : ¬ (i : Int) < (m : Int) := by omega
      have HTK := Lib.hid (show l.take i = l by rw [hie]; exact List.take_of_length_le (Nat.le_of_eq HM.out))
      go_wp2
      go_ret
      refine ⟨_, _, _, rfl, HR.out.2, ?_⟩
      have h5 := HE.out
      rw [HTK.out] at h5
      rw [h5]
      exact HR.out.1
end Go.Proofs.YtcnffgcegimelaaGreat.So
