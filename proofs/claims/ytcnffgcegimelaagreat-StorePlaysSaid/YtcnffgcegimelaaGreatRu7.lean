/-
  The document's store, walked: Homes. Conditions: slices lie as told, facts are words.
-/
import Derived.Test.YtcnffgcegimelaaGreatRu6
namespace Go.Proofs.YtcnffgcegimelaaGreat.So
open Go.Deep Go.RowKit Go.Proofs.YtcnffgcegimelaaGreat.Mp Go.Proofs.YtcnffgcegimelaaGreat.Wd Go.Proofs.YtcnffgcegimelaaGreat.Pm Go.Proofs.YtcnffgcegimelaaGreat.Pw

def HomV (log : List (List Cng)) (wk n : Int) (i : Nat) : Prop := ∀ v, v < i → ∀ t ∈ verL (log.take v), homB wk n t = true
def HomD (D : List Tri) (wk n : Int) (j : Nat) : Prop := ∀ t ∈ D.take j, homB wk n t = true
theorem HomD.step {D : List Tri} {wk n : Int} {j : Nat} {t : Tri} (h : HomD D wk n j) (ht : D[j]? = some t) (hb : homB wk n t = true) : HomD D wk n (j + 1) := by
  intro d hd
  rw [take_snoc ht] at hd
  rcases List.mem_append.1 hd with hd | hd
  · exact h d hd
  · rw [List.mem_singleton.1 hd]; exact hb
theorem HomV.step {log : List (List Cng)} {wk n : Int} {i : Nat} (h : HomV log wk n i) (hd : ∀ t ∈ verL (log.take i), homB wk n t = true) : HomV log wk n (i + 1) := fun v hv => by
  by_cases e : v = i
  · rw [e]; exact hd
  · exact h v (by omega)
theorem homv_yes {log : List (List Cng)} {wk n : Int} (h : HomV log wk n (log.length + 1)) : homesB log wk n = true := homes_yes fun v hv t ht => h v (by omega) t (((ver_ok _).2.2 t).1 ht)
theorem homv_no {log : List (List Cng)} {wk n : Int} {i : Nat} (hi : i ≤ log.length) {t : Tri} (ht : t ∈ verL (log.take i)) (hb : homB wk n t = false) : homesB log wk n = false := homes_no hi (((ver_ok _).2.2 t).2 ht) hb
set_option maxRecDepth 100000 in
set_option maxHeartbeats 3200000 in
theorem rhomes_ok {w : World} {k : SW} {A : Option Addr} {nq cq : Nat} {zs : List SV} {log : List (List Cng)} (wk n : Int) (h : QS w w k (.slice A nq cq) zs log) (hlog : log.length ≤ 40) (hg : Good log) :
    Calls Tryz.prog 29 #[.agg #[.slice A nq cq], .int .i64 wk, .int .i64 n] w fun e w' => e = .returned (.bool (homesB log wk n)) ∧ Below w.heap.size w w' := by
  have H := Lib.hid h
  have HG := Lib.hid hg
  have HNQ := Lib.hid (show nq = log.length + 1 by
    obtain ⟨A2, c2, e, _⟩ := h.row.sl
    injection e with _ e2 _
    rw [e2, h.zl])
  have hnq : nq ≤ 41 := by have := HNQ.out; omega
  obtain ⟨z0, hz0⟩ : ∃ z, zs[0]? = some z := ⟨zs[0]'(by have := H.out.zl; omega), List.getElem?_eq_getElem _⟩
  obtain ⟨sa, sao, sc, hva, hsa, _⟩ := G.SlL.at_ H.out.row.sl encS_len 0 z0 hz0
  have hA : A = some ⟨sa, sao, none⟩ := by injection hva
  obtain ⟨w1, hw1⟩ : ∃ w1, w.alloc (.cells #[.slice A nq cq] 52 (0, 0)) = w1 := ⟨_, rfl⟩
  obtain ⟨bs, hbs⟩ : ∃ b, w.heap.size = b := ⟨_, rfl⟩
  have W1 := Lib.hid (show Below w.heap.size w w1 by rw [← hw1]; exact (Below.refl _ w).alloc (Nat.le_refl _) _)
  have s0 : w1.cell? ⟨bs, 0, none⟩ = some (.slice A nq cq) := by rw [← hw1, ← hbs]; exact Ck.new_cell w _ _ 0
  clear h hlog hg hva hz0
  subst hA
  go_enter Tryz.func29, Tryz.ntmps29
  go_wp2
  have HW1 := Lib.hid (And.intro hw1 hbs)
  clear hw1 hbs
  go_loopg [7] (nq + 1) (fun g s7 wr => ∃ i, i ≤ nq ∧ nq - i < g ∧ s7 = .int .i64 i ∧ w1 = wr ∧ Hid (HomV log wk n i))
  case atStart => exact ⟨0, by omega, by omega, rfl, rfl, Lib.hid (fun v hv => absurd hv (by omega))⟩
  case round =>
    obtain ⟨i, hi, hg, rfl, rfl, HR⟩ := hrel
    by_cases hin : i < nq
    · obtain ⟨z, hz⟩ : ∃ z, zs[i]? = some z := ⟨zs[i]'(by have := H.out.zl; have := HNQ.out; omega), List.getElem?_eq_getElem _⟩
      obtain ⟨sa', sao', sc', hva, hsa', hcell⟩ := G.SlL.at_ H.out.row.sl encS_len i z hz
      have he1 : (some ⟨sa, sao, none⟩ : Option Addr) = some ⟨sa', sao', none⟩ := by injection hva
      clear hva
      cases he1
      obtain ⟨D, hD⟩ : ∃ D, verL (log.take i) = D := ⟨_, rfl⟩
      obtain ⟨nd, hnd⟩ : ∃ n, D.length = n := ⟨_, rfl⟩
      have HZ := Lib.hid (show HB w w1 k encT (.slice z.A nd z.c) D ∧ z.n = nd by
        have := H.out.fact i z hz
        rw [hD, hnd] at this
        refine ⟨?_, this.1⟩
        rw [← this.1]
        exact this.2.below W1.out)
      have q0 : w1.cell? ⟨sa, sao + i, none⟩ = some (.slice z.A nd z.c) := by
        have := hcell 0 _ rfl
        rw [Nat.mul_one, Nat.add_zero] at this
        rw [← HZ.out.2]
        exact (W1.out.cell (p := ⟨sa, sao + i, none⟩) hsa).trans this
      have hnd4 : nd ≤ 4096 := by rw [← hnd, ← hD]; exact HG.out.len i (by have := HNQ.out; omega)
      have HD := Lib.hid (And.intro hD hnd)
      have HIL := Lib.hid (show i ≤ log.length by have := HNQ.out; omega)
      have HWD := Lib.hid (show ∀ t ∈ D, isT t = true by rw [← hD]; exact HG.out.word i)
      clear hcell hz hD hnd
      have n1 : (i : Int) < (nq : Int) := by omega
      have n0 : (0 : Int) ≤ (i : Int) := by omega
      go_wp2_with fail
      go_loopg [8] (nd + 1) (fun g s8 wx => ∃ j, j ≤ nd ∧ nd - j < g ∧ s8 = .int .i64 j ∧ w1 = wx ∧ Hid (HomD D wk n j))
      case atStart => exact ⟨0, by omega, by omega, rfl, rfl, Lib.hid (fun t ht => by cases ht)⟩
      case round =>
        rename_i hg2
        obtain ⟨j, hj, hg2, rfl, rfl, HJ⟩ := hrel
        by_cases hjn : j < nd
        · obtain ⟨t, ht⟩ : ∃ t, D[j]? = some t := ⟨D[j]'(by have := HD.out.2; omega), List.getElem?_eq_getElem _⟩
          obtain ⟨sb, so, hzA, hsb, hcell⟩ := cellsT_of HZ.out.1.sl j t ht
          have HT := Lib.hid ht
          have HFT := Lib.hid (isT_fit (HWD.out t (List.mem_of_getElem? ht)))
          clear ht
          obtain ⟨zA, zn, zc⟩ := z
          obtain rfl : zA = some ⟨sb, so, none⟩ := hzA
          obtain ⟨x, y, o⟩ := t
          have p0 : w1.cell? ⟨sb, so + j * 3, none⟩ = some (.string x) := hcell 0 _ rfl
          clear hcell
          have j1 : (j : Int) < (nd : Int) := by omega
          have j0 : (0 : Int) ≤ (j : Int) := by omega
          obtain ⟨a1, ha1⟩ : ∃ h, (Ck.homeI x n).1 = h := ⟨_, rfl⟩
          obtain ⟨a2, ha2⟩ : ∃ h, (Ck.homeI x n).2 = h := ⟨_, rfl⟩
          have CH := fun W => Ck.rhome_ok x n W HFT.out.1
          simp only [ha1, ha2] at CH
          have HCH := Lib.hid CH
          have HHB := Lib.hid (show homB wk n ⟨x, y, o⟩ = (decide (a1 = wk) && decide (a2 = 0)) by
            unfold homB
            rw [show Ck.homeI x n = (a1, a2) from Prod.ext ha1 ha2, Bool.eq_iff_iff]
            simp [Prod.mk.injEq])
          clear CH ha1 ha2
          by_cases g2 : a2 = 0
          · by_cases g3 : a1 = wk
            · have HB' := Lib.hid (show homB wk n ⟨x, y, o⟩ = true by rw [HHB.out, g2, g3]; simp)
              have e1 : (a1 != wk) = false := by simp [g3]
              have e2 : (a2 != 0) = false := by simp [g2]
              clear g2 g3
              go_wp2_with fail
              refine (HCH.out _).mono ?_
              rintro e w3 ⟨rfl, rfl⟩
              go_wp2
              go_roundg (nd - j)
              case measure => omega
              case rel => exact ⟨j + 1, by omega, by omega, by go_num, rfl, Lib.hid (HJ.out.step HT.out HB'.out)⟩
            · have HB' := Lib.hid (show homB wk n ⟨x, y, o⟩ = false by rw [HHB.out, decide_eq_false g3]; rfl)
              have e1 : (a1 != wk) = true := by simp [g3]
              have e2 : (a2 != 0) = false := by simp [g2]
              clear g2 g3
              have HNO := Lib.hid (homv_no HIL.out (by rw [HD.out.1]; exact List.mem_of_getElem? HT.out) HB'.out)
              go_wp2_with fail
              refine (HCH.out _).mono ?_
              rintro e w3 ⟨rfl, rfl⟩
              go_wp2
              go_ret
              exact ⟨by rw [HNO.out]; rfl, W1.out⟩
          · have HB' := Lib.hid (show homB wk n ⟨x, y, o⟩ = false by rw [HHB.out, decide_eq_false g2, Bool.and_false])
            have e2 : (a2 != 0) = true := by simp [g2]
            clear g2
            have HNO := Lib.hid (homv_no HIL.out (by rw [HD.out.1]; exact List.mem_of_getElem? HT.out) HB'.out)
            go_wp2_with fail
            refine (HCH.out _).mono ?_
            rintro e w3 ⟨rfl, rfl⟩
            go_wp2
            go_ret
            exact ⟨by rw [HNO.out]; rfl, W1.out⟩
        · have hje : j = nd := by omega
          have j1 : ¬ (j : Int) < (nd : Int) := by omega
          have HALL := Lib.hid (show ∀ t ∈ verL (log.take i), homB wk n t = true by
            have h5 := HJ.out
            unfold HomD at h5
            rw [hje, List.take_of_length_le (Nat.le_of_eq HD.out.2)] at h5
            rw [HD.out.1]
            exact h5)
          go_wp2
          go_roundg (nq - i)
          case measure => omega
          case rel => exact ⟨i + 1, by omega, by omega, by go_num, rfl, Lib.hid (HR.out.step HALL.out)⟩
    · have hie : i = nq := by omega
      have n1 : ¬ (i : Int) < (nq : Int) := by omega
      have HY := Lib.hid (homv_yes (log := log) (wk := wk) (n := n) (by have := HR.out; rwa [hie, HNQ.out] at this))
      go_wp2
      go_ret
      exact ⟨by rw [HY.out]; rfl, W1.out⟩
end Go.Proofs.YtcnffgcegimelaaGreat.So
