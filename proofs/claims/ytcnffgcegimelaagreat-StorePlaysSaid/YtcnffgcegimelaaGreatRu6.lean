/-
  The document's store, walked: Match. Conditions: slices lie as told.
-/
import Derived.Test.YtcnffgcegimelaaGreatRu5
namespace Go.Proofs.YtcnffgcegimelaaGreat.So
open Go.Deep Go.RowKit Go.Proofs.YtcnffgcegimelaaGreat.Mp Go.Proofs.YtcnffgcegimelaaGreat.Wd Go.Proofs.YtcnffgcegimelaaGreat.Pm Go.Proofs.YtcnffgcegimelaaGreat.Pw

theorem HB.back {α : Type} {enc : α → List Value} {w w1 w' : World} {k : SW} {v : Value} {xs : List α} (h : HB w1 w' (k.far w) enc v xs) (hw : w.heap.size ≤ w1.heap.size) : HB w w' k enc v xs :=
  ⟨h.sl, fun b off n c e hn => ⟨(h.out b off n c e hn).1, fun hb => by
    have g : 7 ≤ (if b < w.heap.size then k.col b else 8) := (h.out b off n c e hn).2 (by omega)
    rwa [if_pos hb] at g⟩, h.nil⟩
def RMatch (w : World) (k : SW) (log : List (List Cng)) (v : Int) (T : Tri) (e : Ending) (w' : World) : Prop :=
  ∃ A' n' c', e = .returned (.tuple #[.slice A' n' c', .int .i64 (factsE log.length v)]) ∧ Below w.heap.size w w' ∧ HB w w' k encT (.slice A' n' c') (matchL log v T)
theorem filt_snoc {D : List Tri} {i : Nat} {t : Tri} (p : Tri → Bool) (h : D[i]? = some t) : (D.take (i + 1)).filter p = if p t then (D.take i).filter p ++ [t] else (D.take i).filter p := by
  rw [take_snoc h, List.filter_append]
  cases hp : p t <;> simp [hp]
set_option maxRecDepth 100000 in
set_option maxHeartbeats 3200000 in
theorem rmatch_ok {w : World} {k : SW} {A : Option Addr} {nq cq : Nat} {zs : List SV} {log : List (List Cng)} (v : Int) (x y z : ByteArray) (h : QS w w k (.slice A nq cq) zs log) (hlog : log.length ≤ 40) (hlen : (factsL log v).length ≤ 4096) :
    Calls Tryz.prog 28 #[.agg #[.slice A nq cq], .int .i64 v, .agg #[.string x, .string y, .string z]] w (RMatch w k log v ⟨x, y, z⟩) := by
  have HI := Lib.hid (show (Tryz.prog.info? 35).map (fun i => (i.zero, i.size, i.bytes)) = some (some (.agg #[.string ByteArray.empty, .string ByteArray.empty, .string ByteArray.empty]), 3, 48) by kernel_rfl)
  have H := Lib.hid h
  have HLG := Lib.hid hlog
  have HLE := Lib.hid hlen
  obtain ⟨w1, hw1⟩ : ∃ w1, (w.alloc (.cells #[.slice A nq cq] 52 (0, 0))).alloc (.cells #[.string x, .string y, .string z] 35 (0, 0)) = w1 := ⟨_, rfl⟩
  obtain ⟨bs, hbs⟩ : ∃ b, w.heap.size = b := ⟨_, rfl⟩
  have W1 := Lib.hid (show Below w.heap.size w w1 ∧ bs + 1 < w1.heap.size ∧ w1.cell? ⟨bs, 0, none⟩ = some (.slice A nq cq) ∧ w1.cell? ⟨bs + 1, 0, none⟩ = some (.string x) ∧ w1.cell? ⟨bs + 1, 1, none⟩ = some (.string y) ∧ w1.cell? ⟨bs + 1, 2, none⟩ = some (.string z) by
    have e1 : (w.alloc (.cells #[.slice A nq cq] 52 (0, 0))).heap.size = bs + 1 := by rw [World.size_alloc, hbs]
    have e2 := fun i => Ck.new_cell (w.alloc (.cells #[.slice A nq cq] 52 (0, 0))) #[.string x, .string y, .string z] 35 i
    rw [e1, hw1] at e2
    have b1 : Below w.heap.size w w1 := by rw [← hw1]; exact ((Below.refl _ w).alloc (Nat.le_refl _) _).alloc (by simp) _
    refine ⟨b1, by rw [← hw1, World.size_alloc, e1]; omega, ?_, e2 0, e2 1, e2 2⟩
    have b2 : Below (w.alloc (.cells #[.slice A nq cq] 52 (0, 0))).heap.size (w.alloc (.cells #[.slice A nq cq] 52 (0, 0))) w1 := by rw [← hw1]; exact (Below.refl _ _).alloc (Nat.le_refl _) _
    have := (b2.cell (p := ⟨bs, 0, none⟩) (by rw [e1]; exact Nat.lt_succ_self _))
    rw [this, ← hbs]
    exact Ck.new_cell w _ _ 0)
  have s0 := W1.out.2.2.1
  have FC := Lib.hid (rfacts_ok v ((H.out.below W1.out.1).now) hlog)
  clear h hlog hlen
  go_enter Tryz.func28, Tryz.ntmps28
  go_wp2_with fail
  refine FC.out.mono ?_
  rintro e w2 ⟨A2, n2, c2, rfl, hb2, hh2⟩
  obtain ⟨F, hF⟩ : ∃ F, factsL log v = F := ⟨_, rfl⟩
  have HML := Lib.hid (show matchL log v ⟨x, y, z⟩ = F.filter (likeB ⟨x, y, z⟩) by rw [← hF]; rfl)
  have HF := Lib.hid (show HB w1 w2 (k.far w) encT (.slice A2 n2 c2) F by rw [← hF]; exact hh2)
  have hn2 : n2 = F.length := by
    obtain ⟨A3, c3, e, _⟩ := HF.out.sl
    injection e
  have HN2 := Lib.hid hn2.symm
  have hn4 : n2 ≤ 4096 := by rw [hn2, ← hF]; exact HLE.out
  generalize hr : factsE log.length v = r
  have HRE := Lib.hid (show r ≠ 0 → F = [] by
    rw [← hr, ← hF]
    unfold factsE factsL
    split
    · intro h; exact absurd rfl h
    · intro _; rfl)
  have HRR := Lib.hid hr
  have X2 := Lib.hid (show Below w.heap.size w w2 ∧ Below w1.heap.size w1 w2 ∧ bs + 1 < w2.heap.size ∧ w2.cell? ⟨bs + 1, 0, none⟩ = some (.string x) ∧ w2.cell? ⟨bs + 1, 1, none⟩ = some (.string y) ∧ w2.cell? ⟨bs + 1, 2, none⟩ = some (.string z) from
    ⟨W1.out.1.trans (hb2.mono W1.out.1.size), hb2, Nat.lt_of_lt_of_le W1.out.2.1 hb2.size, (hb2.cell (p := ⟨bs + 1, 0, none⟩) W1.out.2.1).trans W1.out.2.2.2.1, (hb2.cell (p := ⟨bs + 1, 1, none⟩) W1.out.2.1).trans W1.out.2.2.2.2.1, (hb2.cell (p := ⟨bs + 1, 2, none⟩) W1.out.2.1).trans W1.out.2.2.2.2.2⟩)
  clear hb2 hh2 hF hn2 hr s0 FC
  by_cases hr0 : r = 0
  · subst hr0
    go_wp2_with fail
    go_loopg [10, 11] (n2 + 1) (fun g s10 s11 wr => ∃ i, i ≤ n2 ∧ n2 - i < g ∧ s11 = .int .i64 i ∧ Hid (G.OwnL wr w2.heap.size 35 3 encT s10 ((F.take i).filter (likeB ⟨x, y, z⟩)) ∧ Below w2.heap.size w2 wr) ∧ Hid ((F.take i).filter (likeB ⟨x, y, z⟩) = [] → s10 = .slice none 0 0))
    case atStart => exact ⟨0, by omega, by omega, rfl, Lib.hid ⟨G.OwnL.nil _ _ _ _ _, Below.refl _ _⟩, Lib.hid (fun _ => rfl)⟩
    case round =>
      obtain ⟨i, hi, hg, rfl, HR, HNI⟩ := hrel
      by_cases hin : i < n2
      · obtain ⟨t, ht⟩ : ∃ t, F[i]? = some t := ⟨F[i]'(by have := HN2.out; omega), List.getElem?_eq_getElem _⟩
        obtain ⟨sb, so, rfl, hsb, hcell⟩ := cellsT_of HF.out.sl i t ht
        have HSN := Lib.hid (filt_snoc (likeB ⟨x, y, z⟩) ht)
        have HLN := Lib.hid (show ((F.take i).filter (likeB ⟨x, y, z⟩)).length ≤ n2 from Nat.le_trans (List.length_filter_le _ _) (by rw [List.length_take]; omega))
        clear ht
        obtain ⟨a, b, c⟩ := t
        have S0 : wr.drew.cell? ⟨sb, so + i * 3, none⟩ = some (.string a) ∧ wr.drew.cell? ⟨sb, so + i * 3 + 1, none⟩ = some (.string b) ∧ wr.drew.cell? ⟨sb, so + i * 3 + 2, none⟩ = some (.string c) ∧ wr.drew.cell? ⟨bs + 1, 0, none⟩ = some (.string x) ∧ wr.drew.cell? ⟨bs + 1, 1, none⟩ = some (.string y) ∧ wr.drew.cell? ⟨bs + 1, 2, none⟩ = some (.string z) :=
          ⟨(HR.out.2.cell (p := ⟨sb, so + i * 3, none⟩) hsb).trans (hcell 0 _ rfl), (HR.out.2.cell (p := ⟨sb, so + i * 3 + 1, none⟩) hsb).trans (hcell 1 _ rfl), (HR.out.2.cell (p := ⟨sb, so + i * 3 + 2, none⟩) hsb).trans (hcell 2 _ rfl), (HR.out.2.cell (p := ⟨bs + 1, 0, none⟩) X2.out.2.2.1).trans X2.out.2.2.2.1, (HR.out.2.cell (p := ⟨bs + 1, 1, none⟩) X2.out.2.2.1).trans X2.out.2.2.2.2.1, (HR.out.2.cell (p := ⟨bs + 1, 2, none⟩) X2.out.2.2.1).trans X2.out.2.2.2.2.2⟩
        have hs1 : sb < wr.drew.heap.size := Nat.lt_of_lt_of_le hsb HR.out.2.size
        have hs2 : bs + 1 < wr.drew.heap.size := Nat.lt_of_lt_of_le X2.out.2.2.1 HR.out.2.size
        have q0 : wr.cell? ⟨sb, so + i * 3, none⟩ = some (.string a) := S0.1
        have q1 : wr.cell? ⟨sb, so + i * 3 + 1, none⟩ = some (.string b) := S0.2.1
        have q2 : wr.cell? ⟨sb, so + i * 3 + 2, none⟩ = some (.string c) := S0.2.2.1
        have p0 : wr.cell? ⟨bs + 1, 0, none⟩ = some (.string x) := S0.2.2.2.1
        have p1 : wr.cell? ⟨bs + 1, 1, none⟩ = some (.string y) := S0.2.2.2.2.1
        have p2 : wr.cell? ⟨bs + 1, 2, none⟩ = some (.string z) := S0.2.2.2.2.2
        clear hcell hsb
        have n1 : (i : Int) < (n2 : Int) := by omega
        have n0 : (0 : Int) ≤ (i : Int) := by omega
        obtain ⟨lk, hlk⟩ : ∃ r, likeB ⟨x, y, z⟩ ⟨a, b, c⟩ = r := ⟨_, rfl⟩
        have HLK := Lib.hid hlk
        clear hlk
        cases lk with
        | true =>
          go_wp2_with fail
          go_region_held3 (fun W => W.cell? ⟨sb, so + i * 3, none⟩ = some (.string a) ∧ W.cell? ⟨sb, so + i * 3 + 1, none⟩ = some (.string b) ∧ W.cell? ⟨sb, so + i * 3 + 2, none⟩ = some (.string c) ∧ W.cell? ⟨bs + 1, 0, none⟩ = some (.string x) ∧ W.cell? ⟨bs + 1, 1, none⟩ = some (.string y) ∧ W.cell? ⟨bs + 1, 2, none⟩ = some (.string z)) (first | exact S0 | exact six_nx hs1 hs2 S0 B8.out) ((go_at_call 19; refine (rlike_ok _ _ _ _ _ _ _).mono ?_; rw [HLK.out]; rintro e w8 ⟨rfl, hb8⟩; have B8 := Lib.hid hb8; clear hb8))
          have S8 := six_nx hs1 hs2 S0 B8.out
          have HX := Lib.hid (show G.OwnL w8 w2.heap.size 35 3 encT u10 ((F.take i).filter (likeB ⟨x, y, z⟩)) ∧ Below w2.heap.size w2 w8 from ⟨HR.out.1.below ((Below.drew (Below.refl _ _)).trans B8.out), HR.out.2.trans (((Below.drew (Below.refl _ _)).trans B8.out).mono HR.out.2.size)⟩)
          clear q0 q1 q2 p0 p1 p2 S0 hs1 hs2
          have q0 := S8.1
          have q1 := S8.2.1
          have q2 := S8.2.2.1
          clear S8
          go_wp2_with (at_builtin; refine G.wp_app1 rfl _ _ 29 35 rfl _ 3 48 Tryz.underlying29 HI.out rfl (by omega) (by omega) encT encT_len encT_one w2.heap.size u10 ((F.take i).filter (likeB ⟨x, y, z⟩)) ⟨a, b, c⟩ _ rfl rfl _ rfl rfl HX.out.1 HX.out.2.size (by have := HLN.out; omega) ?_; intro vv w9 ho9 hg9 _; have H9 := Lib.hid (And.intro ho9 (HX.out.2.grown hg9 HX.out.2.size (fun g e => HX.out.1.ge g e))); clear ho9 hg9)
          go_roundg (n2 - i)
          case measure => omega
          case rel => exact ⟨i + 1, by omega, by omega, by go_num, Lib.hid (by rw [HSN.out, HLK.out]; exact H9.out), Lib.hid (fun e => by rw [HSN.out, HLK.out] at e; simp at e)⟩
        | false =>
          go_wp2_with fail
          go_region_held3 (fun W => W.cell? ⟨sb, so + i * 3, none⟩ = some (.string a) ∧ W.cell? ⟨sb, so + i * 3 + 1, none⟩ = some (.string b) ∧ W.cell? ⟨sb, so + i * 3 + 2, none⟩ = some (.string c) ∧ W.cell? ⟨bs + 1, 0, none⟩ = some (.string x) ∧ W.cell? ⟨bs + 1, 1, none⟩ = some (.string y) ∧ W.cell? ⟨bs + 1, 2, none⟩ = some (.string z)) (first | exact S0 | exact six_nx hs1 hs2 S0 B8.out) ((go_at_call 19; refine (rlike_ok _ _ _ _ _ _ _).mono ?_; rw [HLK.out]; rintro e w8 ⟨rfl, hb8⟩; have B8 := Lib.hid hb8; clear hb8))
          go_wp2
          go_roundg (n2 - i)
          case measure => omega
          case rel => exact ⟨i + 1, by omega, by omega, by go_num, Lib.hid (by rw [HSN.out, HLK.out]; exact ⟨HR.out.1.below ((Below.drew (Below.refl _ _)).trans B8.out), HR.out.2.trans (((Below.drew (Below.refl _ _)).trans B8.out).mono HR.out.2.size)⟩), Lib.hid (by rw [HSN.out, HLK.out]; exact HNI.out)⟩
      · have hie : i = n2 := by omega
        have n1 : ¬ (i : Int) < (n2 : Int) := by omega
        have HTK := Lib.hid (show F.take i = F by rw [hie]; exact List.take_of_length_le (Nat.le_of_eq HN2.out))
        rw [HTK.out] at HR HNI
        obtain ⟨A', c', rfl, _⟩ := id HR.out.1.sl
        go_wp2
        go_ret2
        exact ⟨A', _, c', by rw [HRR.out]; rfl, X2.out.1.trans (HR.out.2.mono X2.out.1.size), by rw [HML.out]; exact HB.own HR.out.1 X2.out.1.size HNI.out⟩
  · have hne : (r != 0) = true := by simpa using hr0
    have HF0 := Lib.hid (HRE.out hr0)
    clear hr0
    go_wp2
    go_ret2
    exact ⟨none, 0, 0, by rw [HRR.out]; rfl, X2.out.1, by rw [HML.out, HF0.out]; exact HB.empty _ _ _ _⟩
end Go.Proofs.YtcnffgcegimelaaGreat.So
