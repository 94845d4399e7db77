/-
  The law StoreMatch, walked. Conditions: a batch that lies as told.
-/
import Derived.Test.YtcnffgcegimelaaGreatSd0
namespace Go.Proofs.YtcnffgcegimelaaGreat.So
open Go.RowKit Go.Proofs.YtcnffgcegimelaaGreat.Mp Go.Proofs.YtcnffgcegimelaaGreat.Wd Go.Proofs.YtcnffgcegimelaaGreat.Pm Go.Proofs.YtcnffgcegimelaaGreat.Pw

/-- The law under way. -/
structure MtO (p : Nat) (W wr : World) (k : SW) (l1 : List Cng) (A4 : Option Addr) (n4 c4 : Nat) (D : List Tri) : Prop where
  kt : At p W.heap.size wr k [l1]
  hv : Held wr k encT (.slice A4 n4 c4) D
  be : Below W.heap.size W wr
structure MtI (p : Nat) (W wr : World) (k : SW) (l1 : List Cng) (A4 : Option Addr) (n4 c4 : Nat) (D : List Tri) (T : Tri) (bx bl : Nat) : Prop where
  o : MtO p W wr k l1 A4 n4 c4 D
  box : Held wr k encT (.slice (some ⟨bx, 0, none⟩) 1 1) [T]
  lk : Held wr k encT (.slice (some ⟨bl, 0, none⟩) 8 8) (likes8 T)
section
variable {p : Nat} {W wr wr' : World} {k k' : SW} {l1 : List Cng} {A4 : Option Addr} {n4 c4 bx bl : Nat} {D : List Tri} {T : Tri}
theorem MtO.step (h : MtO p W wr k l1 A4 n4 c4 D) (hk : At p W.heap.size wr' k' [l1]) (g : StepS wr k wr' k') : MtO p W wr' k' l1 A4 n4 c4 D := ⟨hk, h.hv.step g, h.kt.since g h.be (Nat.le_refl _)⟩
theorem MtI.step (h : MtI p W wr k l1 A4 n4 c4 D T bx bl) (hk : At p W.heap.size wr' k' [l1]) (g : StepS wr k wr' k') : MtI p W wr' k' l1 A4 n4 c4 D T bx bl := ⟨h.o.step hk g, h.box.step g, h.lk.step g⟩
theorem MtI.below (h : MtI p W wr k l1 A4 n4 c4 D T bx bl) (b : Below wr.heap.size wr wr') : MtI p W wr' (k.far wr) l1 A4 n4 c4 D T bx bl := h.step (h.o.kt.below b) (StepS.below b)
end
def mtW (wr : World) (x y z : ByteArray) : World := (wr.alloc (.cells #[.string x, .string y, .string z] 35)).alloc (.cells #[.string x, .string ⟨#[]⟩, .string ⟨#[]⟩, .string ⟨#[]⟩, .string y, .string ⟨#[]⟩, .string ⟨#[]⟩, .string ⟨#[]⟩, .string z, .string x, .string y, .string ⟨#[]⟩, .string ⟨#[]⟩, .string y, .string z, .string x, .string ⟨#[]⟩, .string z, .string x, .string y, .string z, .string ⟨#[]⟩, .string ⟨#[]⟩, .string ⟨#[]⟩] 35)
theorem mt_start {p : Nat} {W wr : World} {k : SW} {l1 : List Cng} {A4 : Option Addr} {n4 c4 : Nat} {D : List Tri} (h : MtO p W wr k l1 A4 n4 c4 D) (x y z : ByteArray) : MtI p W (mtW wr x y z) (k.far wr) l1 A4 n4 c4 D ⟨x, y, z⟩ wr.heap.size (wr.heap.size + 1) := by
  have b1 : Below wr.heap.size wr (wr.alloc (.cells #[.string x, .string y, .string z] 35)) := (Below.refl _ wr).alloc (Nat.le_refl _) _
  have L := lit_law encT (likes8 ⟨x, y, z⟩) (t := 35) (cs := #[.string x, .string ⟨#[]⟩, .string ⟨#[]⟩, .string ⟨#[]⟩, .string y, .string ⟨#[]⟩, .string ⟨#[]⟩, .string ⟨#[]⟩, .string z, .string x, .string y, .string ⟨#[]⟩, .string ⟨#[]⟩, .string y, .string z, .string x, .string ⟨#[]⟩, .string z, .string x, .string y, .string z, .string ⟨#[]⟩, .string ⟨#[]⟩, .string ⟨#[]⟩]) (n := 8) h.kt b1 rfl rfl
  rw [World.size_alloc] at L
  have hb : (mtW wr x y z).heap[wr.heap.size]? = some (.cells #[.string x, .string y, .string z] 35 (0, 0)) := (Below.heap_alloc _ _ _ (by rw [World.size_alloc]; omega)).trans (heap_alloc_new wr _)
  refine ⟨h.step L.1 L.2.1, ⟨sl_block encT [⟨x, y, z⟩] hb rfl rfl, fun b off n c e _ => ?_⟩, L.2.2⟩
  have e1 : wr.heap.size = b := by injection e with e5; injection e5 with e6; injection e6
  subst e1
  refine ⟨(Array.getElem?_eq_some_iff.1 hb).1, ?_⟩
  show 7 ≤ (if wr.heap.size < wr.heap.size then k.col wr.heap.size else 8)
  rw [if_neg (by omega)]; omega
theorem held_cells {w : World} {k : SW} {b n c : Nat} {l : List Tri} (h : Held w k encT (.slice (some ⟨b, 0, none⟩) n c) l) {i : Nat} {t : Tri} (ht : l[i]? = some t) : w.cell? ⟨b, i * 3, none⟩ = some (.string t.S) ∧ w.cell? ⟨b, i * 3 + 1, none⟩ = some (.string t.P) ∧ w.cell? ⟨b, i * 3 + 2, none⟩ = some (.string t.O) := by
  obtain ⟨s, off, e, _, hc⟩ := cellsT_of h.sl i t ht
  cases e
  have h0 := hc 0 _ rfl
  have h1 := hc 1 _ rfl
  have h2 := hc 2 _ rfl
  simp only [Nat.zero_add, Nat.add_zero] at h0 h1 h2
  exact ⟨h0, h1, h2⟩
theorem mt_next {p : Nat} {W wr w7 : World} {k : SW} {l1 : List Cng} {A4 : Option Addr} {n4 c4 bx bl : Nat} {D : List Tri} {T : Tri} {v : Value} {M : List Tri} (h : MtI p W wr k l1 A4 n4 c4 D T bx bl ∧ Held wr k encT v M) (b : Below wr.heap.size wr w7) : MtI p W w7 (k.far wr) l1 A4 n4 c4 D T bx bl ∧ Held w7 (k.far wr) encT v M := ⟨h.1.below b, h.2.below b⟩
theorem six_next {w w' : World} {b1 b2 i1 i2 i3 j1 j2 j3 : Nat} {u1 u2 u3 v1 v2 v3 : Value} (h1 : b1 < w.heap.size) (h2 : b2 < w.heap.size) (h : w.cell? ⟨b1, i1, none⟩ = some u1 ∧ w.cell? ⟨b1, i2, none⟩ = some u2 ∧ w.cell? ⟨b1, i3, none⟩ = some u3 ∧ w.cell? ⟨b2, j1, none⟩ = some v1 ∧ w.cell? ⟨b2, j2, none⟩ = some v2 ∧ w.cell? ⟨b2, j3, none⟩ = some v3) (b : Below w.heap.size w w') : w'.cell? ⟨b1, i1, none⟩ = some u1 ∧ w'.cell? ⟨b1, i2, none⟩ = some u2 ∧ w'.cell? ⟨b1, i3, none⟩ = some u3 ∧ w'.cell? ⟨b2, j1, none⟩ = some v1 ∧ w'.cell? ⟨b2, j2, none⟩ = some v2 ∧ w'.cell? ⟨b2, j3, none⟩ = some v3 := by
  have e1 : ∀ i, w'.cell? ⟨b1, i, none⟩ = w.cell? ⟨b1, i, none⟩ := fun i => b.cell (p := ⟨b1, i, none⟩) h1
  have e2 : ∀ i, w'.cell? ⟨b2, i, none⟩ = w.cell? ⟨b2, i, none⟩ := fun i => b.cell (p := ⟨b2, i, none⟩) h2
  rw [e1, e1, e1, e2, e2, e2]
  exact h
theorem below_mt {wr w7 : World} {n : Nat} (b : Below (wr.drewN n).drew.heap.size (wr.drewN n).drew w7) : Below wr.heap.size wr w7 := (Below.drew (below_drewN (Below.refl _ wr) n)).trans b
set_option maxRecDepth 100000 in
set_option maxHeartbeats 6400000 in
theorem storeMatch_ok (w : World) (v0 : Value) (l1 : List Cng) (hv0 : G.SlL w encC v0 l1) (hi0 : ∀ b off n c, v0 = .slice (some ⟨b, off, none⟩) n c → b < w.heap.size) :
    Calls Tryz.prog 5 #[v0] w fun e w' => e = .returned (.bool true) ∧ Below w.heap.size w w' := by
  have HA := Lib.hid (And.intro hv0 hi0)
  obtain ⟨A0, c0, rfl, _⟩ := id hv0
  obtain ⟨n0, hn0⟩ : ∃ n, l1.length = n := ⟨_, rfl⟩
  rw [hn0] at HA ⊢
  clear hv0 hi0 hn0
  obtain ⟨r1, hr1⟩ : ∃ r, applyE (allL []) 0 1 l1 = r := ⟨_, rfl⟩
  have HR1 := Lib.hid hr1
  clear hr1
  by_cases h1 : r1 = 0
  · subst h1
    obtain ⟨D, hD⟩ : ∃ D, verL [l1] = D := ⟨_, rfl⟩
    obtain ⟨nd, hnd⟩ : ∃ n, D.length = n := ⟨_, rfl⟩
    have HD := Lib.hid (And.intro hD hnd)
    clear hD hnd
    go_enter Tryz.func5, Tryz.ntmps5
    go_wp2_with fail
    refine (new_law _).mono ?_
    rintro e w1 ⟨p, k1, rfl, hk1, hb1⟩
    have K1 := Lib.hid hk1
    have B1 := Lib.hid hb1
    have V0 := Lib.hid (Held.old hk1.sto.choose_spec.1 HA.out.1 (fun b off n c e _ => HA.out.2 b off n c e) (Nat.le_refl _) hb1)
    clear hk1 hb1
    go_wp2_with fail
    refine (apply_law K1.out 1 V0.out (by decide) HR1.out (log' := [l1]) (log_one HR1.out)).mono ?_
    rintro e w2 ⟨k2, rfl, hk2, hs2⟩
    have K2 := Lib.hid hk2
    have B2 := Lib.hid (K1.out.since hs2 B1.out (Nat.le_refl _))
    clear hk2 hs2 K1 B1 V0
    have hd6 : nd ≤ 4096 := by have := ver_le K2.out; rw [HD.out.1, HD.out.2] at this; exact this
    go_wp2_with fail
    refine (facts_law K2.out 1 (by simp) (r := 0) rfl (D := D) HD.out.1).mono ?_
    rw [HD.out.2]
    rintro e w3 ⟨A4, c4, k3, rfl, hk3, hs3, hh3⟩
    have KO := Lib.hid (show MtO p w w3 k3 l1 A4 nd c4 D from ⟨hk3, hh3, K2.out.since hs3 B2.out (Nat.le_refl _)⟩)
    have HG := Lib.hid (show ∀ x ∈ D, isT x = true by
      obtain ⟨_, s, hs, e⟩ := hk3
      have := hs.good.word 1
      rw [e] at this
      rw [← HD.out.1]
      exact this)
    clear hk3 hs3 hh3 K2 B2
    go_wp2_with fail
    go_loopg [6] (nd + 1) (fun g s6 wr => ∃ (i : Nat) (k : SW), i ≤ nd ∧ nd - i < g ∧ s6 = .int .i64 i ∧ Hid (MtO p w wr k l1 A4 nd c4 D))
    case atStart => exact ⟨0, k3, by omega, by omega, rfl, KO⟩
    case round =>
      obtain ⟨i, k, hi, hg, rfl, HW⟩ := hrel
      clear KO
      by_cases hin : i < nd
      · obtain ⟨T, hT⟩ : ∃ T, D[i]? = some T := ⟨D[i]'(by have := HD.out.2; omega), List.getElem?_eq_getElem _⟩
        have HT := Lib.hid hT
        obtain ⟨sb, so, rfl, _, hcell⟩ := cellsT_of HW.out.hv.sl i T hT
        clear hT
        obtain ⟨x, y, z⟩ := T
        have q0 : wr.cell? ⟨sb, so + i * 3, none⟩ = some (.string x) := hcell 0 _ rfl
        have q1 : wr.cell? ⟨sb, so + i * 3 + 1, none⟩ = some (.string y) := hcell 1 _ rfl
        have q2 : wr.cell? ⟨sb, so + i * 3 + 2, none⟩ = some (.string z) := hcell 2 _ rfl
        clear hcell
        have n1' : (i : Int) < (nd : Int) := by omega
        have n0' : (0 : Int) ≤ (i : Int) := by omega
        go_wp2_with fail
        have HI := Lib.hid (mt_start HW.out x y z)
        unfold mtW at HI
        generalize hw4 : (wr.alloc (.cells #[.string x, .string y, .string z] 35)).alloc (.cells #[.string x, .string ⟨#[]⟩, .string ⟨#[]⟩, .string ⟨#[]⟩, .string y, .string ⟨#[]⟩, .string ⟨#[]⟩, .string ⟨#[]⟩, .string z, .string x, .string y, .string ⟨#[]⟩, .string ⟨#[]⟩, .string y, .string z, .string x, .string ⟨#[]⟩, .string z, .string x, .string y, .string z, .string ⟨#[]⟩, .string ⟨#[]⟩, .string ⟨#[]⟩] 35) = w4 at HI ⊢
        obtain ⟨k4, hk4⟩ : ∃ x, k.far wr = x := ⟨_, rfl⟩
        rw [hk4] at HI
        generalize hbx : wr.heap.size = bx at HI ⊢
        clear q0 q1 q2 HW hw4 hk4 hbx
        go_loopg [9] 9 (fun g s9 wx => ∃ (j : Nat) (kk : SW), j ≤ 8 ∧ 8 - j < g ∧ s9 = .int .i64 j ∧ Hid (MtI p w wx kk l1 (some ⟨sb, so, none⟩) nd c4 D ⟨x, y, z⟩ bx (bx + 1)))
        case atStart => exact ⟨0, k4, by omega, by omega, rfl, HI⟩
        case round =>
          obtain ⟨j, kk, hj, hgj, rfl, HX⟩ := hrel
          clear HI
          by_cases hj8 : j < 8
          · obtain ⟨L, hL⟩ : ∃ L, (likes8 ⟨x, y, z⟩)[j]? = some L := ⟨(likes8 ⟨x, y, z⟩)[j]'(by show j < 8; exact hj8), List.getElem?_eq_getElem _⟩
            have HL := Lib.hid hL
            have hcl := held_cells HX.out.lk hL
            have HYS := Lib.hid (likes_yes ⟨x, y, z⟩ L (List.mem_of_getElem? hL))
            have HFT := Lib.hid (likes_fit (isT_fit (HG.out _ (List.mem_of_getElem? HT.out))) L (List.mem_of_getElem? hL))
            clear hL
            obtain ⟨a, b, c⟩ := L
            have y0 : wr.cell? ⟨bx + 1, j * 3, none⟩ = some (.string a) := hcl.1
            have y1 : wr.cell? ⟨bx + 1, j * 3 + 1, none⟩ = some (.string b) := hcl.2.1
            have y2 : wr.cell? ⟨bx + 1, j * 3 + 2, none⟩ = some (.string c) := hcl.2.2
            clear hcl
            have j1' : (j : Int) < 8 := by omega
            have j0' : (0 : Int) ≤ (j : Int) := by omega
            obtain ⟨M, hM⟩ : ∃ M, matchL [l1] 1 ⟨a, b, c⟩ = M := ⟨_, rfl⟩
            have HM := Lib.hid hM
            clear hM
            obtain ⟨nm, hnm⟩ : ∃ n, M.length = n := ⟨_, rfl⟩
            have HNM := Lib.hid hnm
            clear hnm
            have hMD : M = D.filter (likeB ⟨a, b, c⟩) := by rw [← HM.out, ← HD.out.1]; rfl
            have HMD := Lib.hid hMD
            have hnm4 : nm ≤ 4096 := by
              have h5 := List.length_filter_le (likeB ⟨a, b, c⟩) D
              rw [← hMD, HNM.out, HD.out.2] at h5
              omega
            clear hMD
            go_wp2_with fail
            refine (match_law HX.out.o.kt 1 a b c HFT.out (by simp) (r := 0) rfl HM.out).mono ?_
            rw [HNM.out]
            rintro e w5 ⟨A6, c6, k6, rfl, hk6, hs6, hh6⟩
            have HY := Lib.hid (And.intro (HX.out.step hk6 hs6) hh6)
            clear hk6 hs6 hh6 HX y0 y1 y2
            go_wp2_with fail
            go_loopg [12, 13] (nm + 1) (fun g s12 s13 wy => ∃ (t : Nat) (kt : SW), t ≤ nm ∧ nm - t < g ∧ s12 = .bool (seenU M ⟨x, y, z⟩ t) ∧ s13 = .int .i64 t ∧ Hid (MtI p w wy kt l1 (some ⟨sb, so, none⟩) nd c4 D ⟨x, y, z⟩ bx (bx + 1) ∧ Held wy kt encT (.slice A6 nm c6) M))
            case atStart => exact ⟨0, k6, by omega, by omega, rfl, rfl, HY⟩
            case round =>
              obtain ⟨t, kt, ht, hgt, rfl, rfl, HZ⟩ := hrel
              clear HY
              by_cases htn : t < nm
              · obtain ⟨m, hm⟩ : ∃ m, M[t]? = some m := ⟨M[t]'(by have := HNM.out; omega), List.getElem?_eq_getElem _⟩
                have HST := Lib.hid (seenU_step (t := ⟨x, y, z⟩) hm)
                have HLK := Lib.hid (show likeB ⟨a, b, c⟩ m = true by
                  have h6 := List.mem_of_getElem? hm
                  rw [HMD.out] at h6
                  exact (List.mem_filter.1 h6).2)
                obtain ⟨sm, sn, rfl, hsm, hcell⟩ := cellsT_of HZ.out.2.sl t m hm
                have hsl : bx + 1 < wr.heap.size := (HZ.out.1.lk.out _ _ _ _ rfl (by decide)).1
                clear hm
                obtain ⟨mx, my, mz⟩ := m
                have m0 : wr.cell? ⟨sm, sn + t * 3, none⟩ = some (.string mx) := hcell 0 _ rfl
                have m1 : wr.cell? ⟨sm, sn + t * 3 + 1, none⟩ = some (.string my) := hcell 1 _ rfl
                have m2 : wr.cell? ⟨sm, sn + t * 3 + 2, none⟩ = some (.string mz) := hcell 2 _ rfl
                clear hcell
                have hbx := held_cells HZ.out.1.box (i := 0) rfl
                have b0 : wr.cell? ⟨bx, 0, none⟩ = some (.string x) := hbx.1
                have b1 : wr.cell? ⟨bx, 1, none⟩ = some (.string y) := hbx.2.1
                have b2 : wr.cell? ⟨bx, 2, none⟩ = some (.string z) := hbx.2.2
                have hcl := held_cells HZ.out.1.lk HL.out
                have y0 : wr.cell? ⟨bx + 1, j * 3, none⟩ = some (.string a) := hcl.1
                have y1 : wr.cell? ⟨bx + 1, j * 3 + 1, none⟩ = some (.string b) := hcl.2.1
                have y2 : wr.cell? ⟨bx + 1, j * 3 + 2, none⟩ = some (.string c) := hcl.2.2
                clear hbx hcl
                have t1' : (t : Int) < (nm : Int) := by omega
                have t0' : (0 : Int) ≤ (t : Int) := by omega
                have qE := fun w => eql_tri w mx my mz x y z
                obtain ⟨e2, he2⟩ : ∃ e2, decide ((⟨mx, my, mz⟩ : Tri) = ⟨x, y, z⟩) = e2 := ⟨_, rfl⟩
                simp only [he2] at qE
                have HE2 := Lib.hid he2
                clear he2
                obtain ⟨u, hu⟩ : ∃ u, seenU M ⟨x, y, z⟩ t = u := ⟨_, rfl⟩
                rw [hu]
                have HU := Lib.hid hu
                clear hu
                cases u with
                | true =>
                  go_wp2
                  go_quiet (fail)
                  generalize hwz : wr.drewN nq = wz
                  have S0 : wz.drew.cell? ⟨sm, sn + t * 3, none⟩ = some (.string mx) ∧ wz.drew.cell? ⟨sm, sn + t * 3 + 1, none⟩ = some (.string my) ∧ wz.drew.cell? ⟨sm, sn + t * 3 + 2, none⟩ = some (.string mz) ∧ wz.drew.cell? ⟨bx + 1, j * 3, none⟩ = some (.string a) ∧ wz.drew.cell? ⟨bx + 1, j * 3 + 1, none⟩ = some (.string b) ∧ wz.drew.cell? ⟨bx + 1, j * 3 + 2, none⟩ = some (.string c) := by rw [← hwz]; exact ⟨m0, m1, m2, y0, y1, y2⟩
                  have hsm : sm < wz.drew.heap.size := by rw [← hwz]; exact hsm
                  have hsl : bx + 1 < wz.drew.heap.size := by rw [← hwz]; exact hsl
                  have HWZ := Lib.hid hwz
                  clear hwz m0 m1 m2 b0 b1 b2 y0 y1 y2
                  have m0 : wz.cell? ⟨sm, sn + t * 3, none⟩ = some (.string mx) := S0.1
                  have m1 : wz.cell? ⟨sm, sn + t * 3 + 1, none⟩ = some (.string my) := S0.2.1
                  have m2 : wz.cell? ⟨sm, sn + t * 3 + 2, none⟩ = some (.string mz) := S0.2.2.1
                  have y0 : wz.cell? ⟨bx + 1, j * 3, none⟩ = some (.string a) := S0.2.2.2.1
                  have y1 : wz.cell? ⟨bx + 1, j * 3 + 1, none⟩ = some (.string b) := S0.2.2.2.2.1
                  have y2 : wz.cell? ⟨bx + 1, j * 3 + 2, none⟩ = some (.string c) := S0.2.2.2.2.2
                  go_wp2_with fail
                  go_region_held3 (fun W => W.cell? ⟨sm, sn + t * 3, none⟩ = some (.string mx) ∧ W.cell? ⟨sm, sn + t * 3 + 1, none⟩ = some (.string my) ∧ W.cell? ⟨sm, sn + t * 3 + 2, none⟩ = some (.string mz) ∧ W.cell? ⟨bx + 1, j * 3, none⟩ = some (.string a) ∧ W.cell? ⟨bx + 1, j * 3 + 1, none⟩ = some (.string b) ∧ W.cell? ⟨bx + 1, j * 3 + 2, none⟩ = some (.string c)) (first | exact S0 | exact six_next hsm hsl S0 B7.out) ((go_at_call 19; refine (like_ok _ _ _ _ _ _ _ HLK.out).mono ?_; rintro e w7 ⟨rfl, hb7⟩; have B7 := Lib.hid hb7; clear hb7))
                  go_wp2
                  go_roundg (nm - t)
                  case measure => omega
                  case rel => exact ⟨t + 1, _, by omega, by omega, by rw [HST.out, HU.out]; rfl, by go_num, Lib.hid (mt_next HZ.out (by rw [← HWZ.out] at B7; exact below_mt B7.out))⟩
                | false =>
                  go_wp2
                  go_quiet (fail)
                  generalize hwz : wr.drewN nq = wz
                  have S0 : wz.drew.cell? ⟨sm, sn + t * 3, none⟩ = some (.string mx) ∧ wz.drew.cell? ⟨sm, sn + t * 3 + 1, none⟩ = some (.string my) ∧ wz.drew.cell? ⟨sm, sn + t * 3 + 2, none⟩ = some (.string mz) ∧ wz.drew.cell? ⟨bx + 1, j * 3, none⟩ = some (.string a) ∧ wz.drew.cell? ⟨bx + 1, j * 3 + 1, none⟩ = some (.string b) ∧ wz.drew.cell? ⟨bx + 1, j * 3 + 2, none⟩ = some (.string c) := by rw [← hwz]; exact ⟨m0, m1, m2, y0, y1, y2⟩
                  have hsm : sm < wz.drew.heap.size := by rw [← hwz]; exact hsm
                  have hsl : bx + 1 < wz.drew.heap.size := by rw [← hwz]; exact hsl
                  have HWZ := Lib.hid hwz
                  clear hwz m0 m1 m2 b0 b1 b2 y0 y1 y2
                  have m0 : wz.cell? ⟨sm, sn + t * 3, none⟩ = some (.string mx) := S0.1
                  have m1 : wz.cell? ⟨sm, sn + t * 3 + 1, none⟩ = some (.string my) := S0.2.1
                  have m2 : wz.cell? ⟨sm, sn + t * 3 + 2, none⟩ = some (.string mz) := S0.2.2.1
                  have y0 : wz.cell? ⟨bx + 1, j * 3, none⟩ = some (.string a) := S0.2.2.2.1
                  have y1 : wz.cell? ⟨bx + 1, j * 3 + 1, none⟩ = some (.string b) := S0.2.2.2.2.1
                  have y2 : wz.cell? ⟨bx + 1, j * 3 + 2, none⟩ = some (.string c) := S0.2.2.2.2.2
                  go_wp2_with fail
                  go_region_held3 (fun W => W.cell? ⟨sm, sn + t * 3, none⟩ = some (.string mx) ∧ W.cell? ⟨sm, sn + t * 3 + 1, none⟩ = some (.string my) ∧ W.cell? ⟨sm, sn + t * 3 + 2, none⟩ = some (.string mz) ∧ W.cell? ⟨bx + 1, j * 3, none⟩ = some (.string a) ∧ W.cell? ⟨bx + 1, j * 3 + 1, none⟩ = some (.string b) ∧ W.cell? ⟨bx + 1, j * 3 + 2, none⟩ = some (.string c)) (first | exact S0 | exact six_next hsm hsl S0 B7.out) ((go_at_call 19; refine (like_ok _ _ _ _ _ _ _ HLK.out).mono ?_; rintro e w7 ⟨rfl, hb7⟩; have B7 := Lib.hid hb7; clear hb7))
                  go_wp2
                  go_roundg (nm - t)
                  case measure => omega
                  case rel => exact ⟨t + 1, _, by omega, by omega, by rw [HST.out, HU.out, HE2.out]; rfl, by go_num, Lib.hid (mt_next HZ.out (by rw [← HWZ.out] at B7; exact below_mt B7.out))⟩
              · have hte : t = nm := by omega
                have t1' : ¬ (t : Int) < (nm : Int) := by omega
                have hsn : seenU M ⟨x, y, z⟩ t = true := by
                  rw [hte, ← HNM.out]
                  refine seenU_all ?_
                  rw [HMD.out]
                  exact List.mem_filter.2 ⟨List.mem_of_getElem? HT.out, HYS.out⟩
                rw [hsn]
                clear hsn
                go_wp2
                go_roundg (8 - j)
                case measure => omega
                case rel => exact ⟨j + 1, kt, by omega, by omega, by go_num, Lib.hid HZ.out.1⟩
          · have j1' : ¬ (j : Int) < 8 := by omega
            go_wp2
            go_roundg (nd - i)
            case measure => omega
            case rel => exact ⟨i + 1, kk, by omega, by omega, by go_num, Lib.hid HX.out.o⟩
      · have n1' : ¬ (i : Int) < (nd : Int) := by omega
        go_wp2_with fail
        refine (awake_ok _).mono ?_
        rintro e w8 ⟨rfl, hb8⟩
        have B8 := Lib.hid (HW.out.be.trans (hb8.mono HW.out.be.size))
        clear hb8
        go_wp2
        go_ret
        exact ⟨rfl, B8.out⟩
  · have hne : (r1 != 0) = true := by simpa using h1
    have H1 := Lib.hid h1
    clear h1
    go_enter Tryz.func5, Tryz.ntmps5
    go_wp2_with fail
    refine (new_law _).mono ?_
    rintro e w1 ⟨p, k1, rfl, hk1, hb1⟩
    have K1 := Lib.hid hk1
    have B1 := Lib.hid hb1
    have V0 := Lib.hid (Held.old hk1.sto.choose_spec.1 HA.out.1 (fun b off n c e _ => HA.out.2 b off n c e) (Nat.le_refl _) hb1)
    clear hk1 hb1
    go_wp2_with fail
    refine (apply_law K1.out 1 V0.out (by decide) HR1.out rfl).mono ?_
    rintro e w2 ⟨k2, rfl, hk2, hs2⟩
    have B2 := Lib.hid (K1.out.since hs2 B1.out (Nat.le_refl _))
    clear hk2 hs2 K1 B1 V0
    go_wp2_with fail
    refine (awake_ok _).mono ?_
    rintro e w8 ⟨rfl, hb8⟩
    have B8 := Lib.hid (B2.out.trans (hb8.mono B2.out.size))
    clear hb8
    go_wp2
    go_ret
    exact ⟨rfl, B8.out⟩
end Go.Proofs.YtcnffgcegimelaaGreat.So
