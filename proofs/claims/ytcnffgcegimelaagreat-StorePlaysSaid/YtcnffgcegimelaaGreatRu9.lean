/-
  The law StorePlays, walked. Conditions: arguments that lie as told.
-/
import Derived.Test.YtcnffgcegimelaaGreatRu8
import Derived.Deep.Light
namespace Go.Proofs.YtcnffgcegimelaaGreat.So
open Go.Deep Go.RowKit Go.Proofs.YtcnffgcegimelaaGreat.Mp Go.Proofs.YtcnffgcegimelaaGreat.Wd Go.Proofs.YtcnffgcegimelaaGreat.Pm Go.Proofs.YtcnffgcegimelaaGreat.Pw Go.Proofs.YtcnffgcegimelaaGreatW.PrintWords Go.WideShapes

theorem andq (x : Int) : ∃ m : Nat, m ≤ 3 ∧ bits .and .i64 x 3 = (m : Int) := by
  have h : ((BitVec.ofInt 64 x &&& BitVec.ofInt 64 3).toNat : Int) < 4 := by
    rw [BitVec.toNat_and]
    have : (BitVec.ofInt 64 x).toNat &&& (BitVec.ofInt 64 3).toNat ≤ (BitVec.ofInt 64 3).toNat := Nat.and_le_right
    have e : (BitVec.ofInt 64 3).toNat = 3 := rfl
    omega
  refine ⟨(BitVec.ofInt 64 x &&& BitVec.ofInt 64 3).toNat, by omega, ?_⟩
  show IntKind.i64.wrap ((BitVec.ofInt 64 x &&& BitVec.ofInt 64 3).toNat : Int) = _
  rw [IntKind.wrap_i64]
  omega
def encN (z : Int) : List Value := [.int .i64 z]
/-- The facts of a round's loads. -/
theorem ld3_next {wx W W' : World} {a b c : Addr} {u v t : Value} (h : Below wx.heap.size wx W ∧ W.cell? a = some u ∧ W.cell? b = some v ∧ W.cell? c = some t) (hb : Below W.heap.size W W') : Below wx.heap.size wx W' ∧ W'.cell? a = some u ∧ W'.cell? b = some v ∧ W'.cell? c = some t :=
  ⟨h.1.trans (hb.mono h.1.size), (hb.cell (World.block_lt_of_cell? W a h.2.1)).trans h.2.1, (hb.cell (World.block_lt_of_cell? W b h.2.2.1)).trans h.2.2.1, (hb.cell (World.block_lt_of_cell? W c h.2.2.2)).trans h.2.2.2⟩
set_option maxRecDepth 100000 in
set_option maxHeartbeats 3200000 in
theorem plays_ok (w : World) (v0 v1 : Value) (x y z : ByteArray) (bs : List BV) (ts : List Int) (hv0 : G.SlL w encV v0 bs) (hb0 : ∀ b ∈ bs, BIn w b ∧ b.l.length ≤ 9223372036854775807) (hv1 : G.SlL w encN v1 ts) (hfT : FitT ⟨x, y, z⟩) :
    Calls Tryz.prog 9 #[v0, v1, .agg #[.string x, .string y, .string z]] w fun e w' => e = .returned (.bool true) ∧ Below w.heap.size w w' := by
  obtain ⟨wl, hwl⟩ : ∃ wl, w.alloc (.cells #[.string x, .string y, .string z] 35 (0, 0)) = wl := ⟨_, rfl⟩
  obtain ⟨bl, hbl⟩ : ∃ b, w.heap.size = b := ⟨_, rfl⟩
  have BL := Lib.hid (show Below w.heap.size w wl by rw [← hwl]; exact (Below.refl _ w).alloc (Nat.le_refl _) _)
  have LB := Lib.hid (show bl < wl.heap.size ∧ wl.cell? ⟨bl, 0, none⟩ = some (.string x) ∧ wl.cell? ⟨bl, 1, none⟩ = some (.string y) ∧ wl.cell? ⟨bl, 2, none⟩ = some (.string z) by
    rw [← hwl, ← hbl]
    exact ⟨by rw [World.size_alloc]; omega, Ck.new_cell w _ _ 0, Ck.new_cell w _ _ 1, Ck.new_cell w _ _ 2⟩)
  have HA := Lib.hid (show G.SlL wl encV v0 bs ∧ (∀ b ∈ bs, BIn wl b ∧ b.l.length ≤ 9223372036854775807) ∧ G.SlL wl encN v1 ts from
    ⟨hv0.below BL.out, fun b hb => ⟨⟨(hb0 b hb).1.1.below BL.out, (hb0 b hb).1.2⟩, (hb0 b hb).2⟩, hv1.below BL.out⟩)
  have HFT := Lib.hid hfT
  obtain ⟨A0, c0, rfl, _⟩ := id hv0
  obtain ⟨AT, cT, rfl, _⟩ := id hv1
  obtain ⟨nb, hnb⟩ : ∃ n, bs.length = n := ⟨_, rfl⟩
  obtain ⟨nt, hnt⟩ : ∃ n, ts.length = n := ⟨_, rfl⟩
  rw [hnb, hnt] at HA ⊢
  have HNB := Lib.hid hnb
  have HNT := Lib.hid hnt
  clear hv0 hb0 hv1 hfT hnb hnt
  go_enter Tryz.func9, Tryz.ntmps9
  go_wp2_with fail
  try rw [hwl]
  refine (new_law2 wl).mono ?_
  rintro e w1 ⟨p, k1, rfl, hk1, hb1, h81⟩
  go_wp2_with fail
  refine (rnew_ok w1 k1).mono ?_
  rintro e w2 ⟨b2, rfl, hb2, hq2⟩
  have K0 := Lib.hid (PlK.start (bl := bl) (x := x) (y := y) (z := z) hk1 hb1 h81 LB.out hb2 hq2 _ rfl)
  have HW := Lib.hid (And.intro hwl hbl)
  clear hk1 hb1 h81 hb2 hq2 hwl hbl
  go_wp2_with fail
  have HK0 := Lib.hid (show Below w2.heap.size w2 w2 from Below.refl _ _)
  generalize w2.heap.size = bq at K0 ⊢
  generalize hw3 : w2.alloc (.cells #[.slice (some ⟨b2, 0, none⟩) 1 1] 52 (0, 0)) = w3 at K0 ⊢
  unfold oneO at K0
  rw [hw3] at K0
  clear hw3 HK0
  go_loopg [9] (nb + 1) (fun g s9 wr => ∃ (i : Nat) (k : SW) (log : List (List Cng)) (vq : Value) (zs : List SV), i ≤ nb ∧ i ≤ 40 ∧ nb - i < g ∧ s9 = .int .i64 i ∧ log.length ≤ i ∧ Hid (PlK p bl bq wl wr k log vq zs x y z))
  case atStart => exact ⟨0, _, [], _, _, by omega, by omega, by omega, rfl, by simp, K0⟩
  case round =>
    obtain ⟨i, k, log, vq, zs, hi, hi40, hg, rfl, hli, HR⟩ := hrel
    clear K0
    obtain ⟨Aq, cq, rfl, _⟩ := id HR.out.qs.row.sl
    obtain ⟨nq, hnq⟩ : ∃ n, zs.length = n := ⟨_, rfl⟩
    rw [hnq] at HR
    have HNQ := Lib.hid (show log.length + 1 = nq by rw [← hnq]; exact HR.out.qs.zl.symm)
    have HLI := Lib.hid hli
    have hq41 : nq ≤ 41 := by have := HNQ.out; omega
    have hq1 : 1 ≤ nq := by have := HNQ.out; omega
    obtain ⟨s0, s1⟩ := one_cell HR.out.qb
    have HGD := Lib.hid (show Good log by obtain ⟨_, s, hs, e⟩ := HR.out.kt; rw [← e]; exact hs.good)
    clear hnq hli
    by_cases hin : i < nb ∧ i < 40
    · obtain ⟨hin, hi4⟩ := hin
      obtain ⟨b, hb⟩ : ∃ b, bs[i]? = some b := ⟨bs[i]'(by have := HNB.out; omega), List.getElem?_eq_getElem _⟩
      have HBI := Lib.hid (HA.out.2.1 b (List.mem_of_getElem? hb))
      obtain ⟨sb, so, cc, hv, hsb, hcell⟩ := G.SlL.at_ HA.out.1 encV_len i b hb
      have hA0 : A0 = some ⟨sb, so, none⟩ := by injection hv
      have q0 : wr.cell? ⟨sb, so + i, none⟩ = some (.slice b.z.A b.z.n b.z.c) := by
        have := (HR.out.be.cell (p := ⟨sb, so + i * 1 + 0, none⟩) hsb).trans (hcell 0 _ rfl)
        rwa [Nat.mul_one, Nat.add_zero] at this
      clear hv hcell hb
      subst hA0
      obtain ⟨lg, hlg⟩ : ∃ lg, nq - 1 = lg := ⟨_, rfl⟩
      obtain ⟨zq, hz⟩ : ∃ z, zs[lg]? = some z := ⟨zs[lg]'(by have := HR.out.qs.zl; have := HNQ.out; omega), List.getElem?_eq_getElem _⟩
      obtain ⟨sa, sao, sc, hva, hsa, hcell⟩ := G.SlL.at_ HR.out.qs.row.sl encS_len lg zq hz
      have hAq : Aq = some ⟨sa, sao, none⟩ := by injection hva
      have HZ := Lib.hid (show HB wr wr (k.hole bq) encT (.slice zq.A zq.n zq.c) (verL log) ∧ zq.n = (verL log).length by
        have := HR.out.qs.fact lg zq hz
        rw [List.take_of_length_le (by have := HNQ.out; omega)] at this
        exact ⟨this.2, this.1⟩)
      have qz : wr.cell? ⟨sa, sao + lg, none⟩ = some (.slice zq.A zq.n zq.c) := by
        have := hcell 0 _ rfl
        rw [Nat.mul_one, Nat.add_zero] at this
        exact this
      clear hva hcell hz
      subst hAq
      have n1 : (i : Int) < (nb : Int) := by omega
      have n2 : (i : Int) < 40 := by omega
      have n0 : (0 : Int) ≤ (i : Int) := by omega
      have g1 : (0 : Int) ≤ (lg : Int) := by omega
      have g2 : (lg : Int) < (nq : Int) := by omega
      have g3 : IntKind.i64.wrap ((nq : Int) - 1) = (lg : Int) := by rw [IntKind.wrap_i64]; omega
      have g4 : wrap64 ((nq : Int) - 1) = (lg : Int) := by rw [IntWalk.wrap64_in _ (by omega)]; omega
      have HLGN := Lib.hid hlg
      clear hlg
      have HVL := Lib.hid (show (verL log).length ≤ 4096 by have := HGD.out.len log.length (Nat.le_refl _); rwa [List.take_length] at this)
      have SLB := Lib.hid (fun (W : World) (hW : Below wr.heap.size wr W) => (show G.SlL W encC (.slice b.z.A b.z.n b.z.c) b.l from HBI.out.1.1.below (HR.out.be.trans (hW.mono HR.out.be.size))))
      obtain ⟨mb, hmb⟩ : ∃ m, mayB b.l = m := ⟨_, rfl⟩
      have HMB := Lib.hid hmb
      have MC := Lib.hid (fun (W : World) (hW : Below wr.heap.size wr W) => show Calls Tryz.prog 24 #[.slice b.z.A b.z.n b.z.c] W (fun e w' => e = .returned (.bool mb) ∧ Below W.heap.size W w') by
        rw [← hmb]
        exact rmay_ok (SLB.out W hW) HBI.out.1.2.1.symm (by rw [HBI.out.1.2.1]; exact HBI.out.2) HBI.out.1.2.2)
      obtain ⟨rm, hrm⟩ : ∃ r, decide (chkE (allL log) b.l = 0) = r := ⟨_, rfl⟩
      have HRM := Lib.hid hrm
      have RC := Lib.hid (fun (W : World) (hW : Below wr.heap.size wr W) => show Calls Tryz.prog 20 #[.pointer (some ⟨p, 0, none⟩), .slice b.z.A b.z.n b.z.c] W (fun e w' => e = .returned (.bool rm) ∧ Below W.heap.size W w') by
        rw [← hrm]
        exact room_law (HR.out.kt.below hW) (SLB.out W hW))
      obtain ⟨nN, hnN⟩ : ∃ n, (doneR ltT (verL log) b.l).length = n := ⟨_, rfl⟩
      have HNN := Lib.hid hnN
      have DC := Lib.hid (fun (hm : b.z.n ≤ 64) (W : World) (hW : Below wr.heap.size wr W) => (rdone_ok (w0 := wr) (k0 := k.hole bq) (HZ.out.1.below hW) (by rw [HZ.out.2]; exact Nat.le_trans HVL.out (by decide)) (SLB.out W hW) HBI.out.1.2.1.symm hm hW.size).mono (R' := fun e w' => ∃ A' c', e = .returned (.slice A' nN c') ∧ Below W.heap.size W w') (fun e w' h => by
        obtain ⟨A', n', c', he, hb, hh⟩ := h
        obtain ⟨A2, c2, e2, _⟩ := hh.sl
        have e3 : n' = nN := by injection e2 with _ e3 _; rw [e3, hnN]
        exact ⟨A', c', by rw [he, e3], hb⟩))
      clear hmb hrm hnN
      have L0 : Below wr.heap.size wr wr.drew ∧ wr.drew.cell? ⟨sb, so + i, none⟩ = some (.slice b.z.A b.z.n b.z.c) ∧ wr.drew.cell? ⟨bq, 0, none⟩ = some (.slice (some ⟨sa, sao, none⟩) nq cq) ∧ wr.drew.cell? ⟨sa, sao + lg, none⟩ = some (.slice zq.A zq.n zq.c) := ⟨Below.drew (Below.refl _ _), q0, s0, qz⟩
      go_upto_if 43 with fail
      go_cut [9, 10] from 27 to 100 (fun s9 s10 wx => s9 = .int .i64 i ∧ (∃ vv : Int, s10 = .int .i64 vv) ∧ wr = wx)
      case first =>
        by_cases hit : i < nt
        · have n3 : (i : Int) < (nt : Int) := by omega
          obtain ⟨tv, htv⟩ : ∃ t, ts[i]? = some t := ⟨ts[i]'(by have := HNT.out; omega), List.getElem?_eq_getElem _⟩
          obtain ⟨st, sto, sct, hvt, hst, hcellt⟩ := G.SlL.at_ HA.out.2.2 (k := 1) (fun _ => rfl) i tv htv
          have hAT : AT = some ⟨st, sto, none⟩ := by injection hvt
          have qt : wr.cell? ⟨st, sto + i, none⟩ = some (.int .i64 tv) := by
            have := (HR.out.be.cell (p := ⟨st, sto + i * 1 + 0, none⟩) hst).trans (hcellt 0 _ rfl)
            rwa [Nat.mul_one, Nat.add_zero] at this
          obtain ⟨m3, hm3, hand⟩ := andq tv
          clear hvt hcellt htv hst
          subst hAT
          go_wp2_with fail
          go_meet
          exact ⟨rfl, ⟨_, rfl⟩, rfl⟩
        · have n3 : ¬ (i : Int) < (nt : Int) := by omega
          go_wp2_with fail
          go_meet
          exact ⟨rfl, ⟨_, rfl⟩, rfl⟩
      case rest =>
        obtain ⟨rfl, ⟨vv, rfl⟩, rfl⟩ := hcut
        go_upto_region 11 with fail
        go_cut [9, 10, 80] from 27 to 100 (fun s9 s10 s80 wx => s9 = .int .i64 i ∧ s10 = .int .i64 vv ∧ s80 = .bool false ∧ Below wr.heap.size wr wx)
        case first =>
          cases mb with
          | true =>
            have hm64 : b.z.n ≤ 64 := by rw [HBI.out.1.2.1]; exact ((mayB_iff b.l).1 HMB.out).1
            by_cases hfit : nN ≤ 4096
            · have g5 : (nN : Int) ≤ 4096 := by omega
              obtain rfl : rm = true := by
                rw [← HRM.out, chk_may HMB.out, if_neg (by rw [← done_len, HNN.out]; omega)]
                rfl
              go_wp2_with fail
              go_region_held3 (fun W => Below wr.heap.size wr W ∧ W.cell? ⟨sb, so + i, none⟩ = some (.slice b.z.A b.z.n b.z.c) ∧ W.cell? ⟨bq, 0, none⟩ = some (.slice (some ⟨sa, sao, none⟩) nq cq) ∧ W.cell? ⟨sa, sao + lg, none⟩ = some (.slice zq.A zq.n zq.c)) (first | exact L0 | exact ld3_next L0 B8.out | exact ld3_next L0 B9.out | exact ld3_next L0 BA.out) ((first | (go_at_call 24; refine (MC.out _ L0.1).mono ?_; rintro e w8 ⟨rfl, hb8⟩; have B8 := Lib.hid hb8; clear hb8) | (go_at_call 20; refine (RC.out _ (ld3_next L0 B8.out).1).mono ?_; rintro e w9 ⟨rfl, hb9⟩; have B9 := Lib.hid (B8.out.trans (hb9.mono B8.out.size)); clear hb9) | (go_at_call 25; refine (DC.out hm64 _ (ld3_next L0 B9.out).1).mono ?_; rintro e wA ⟨A5, c5, rfl, hbA⟩; have BA := Lib.hid (B9.out.trans (hbA.mono B9.out.size)); clear hbA)))
              go_wp2_with fail
              go_meet
              exact ⟨rfl, rfl, rfl, L0.1.trans (BA.out.mono L0.1.size)⟩
            · have g5 : ¬ (nN : Int) ≤ 4096 := by omega
              obtain rfl : rm = false := by
                rw [← HRM.out, chk_may HMB.out, if_pos (by rw [← done_len, HNN.out]; omega)]
                rfl
              go_wp2_with fail
              go_region_held3 (fun W => Below wr.heap.size wr W ∧ W.cell? ⟨sb, so + i, none⟩ = some (.slice b.z.A b.z.n b.z.c) ∧ W.cell? ⟨bq, 0, none⟩ = some (.slice (some ⟨sa, sao, none⟩) nq cq) ∧ W.cell? ⟨sa, sao + lg, none⟩ = some (.slice zq.A zq.n zq.c)) (first | exact L0 | exact ld3_next L0 B8.out | exact ld3_next L0 B9.out | exact ld3_next L0 BA.out) ((first | (go_at_call 24; refine (MC.out _ L0.1).mono ?_; rintro e w8 ⟨rfl, hb8⟩; have B8 := Lib.hid hb8; clear hb8) | (go_at_call 20; refine (RC.out _ (ld3_next L0 B8.out).1).mono ?_; rintro e w9 ⟨rfl, hb9⟩; have B9 := Lib.hid (B8.out.trans (hb9.mono B8.out.size)); clear hb9) | (go_at_call 25; refine (DC.out hm64 _ (ld3_next L0 B9.out).1).mono ?_; rintro e wA ⟨A5, c5, rfl, hbA⟩; have BA := Lib.hid (B9.out.trans (hbA.mono B9.out.size)); clear hbA)))
              go_wp2_with fail
              go_meet
              exact ⟨rfl, rfl, by first | rfl | exact congrArg Value.bool (decide_eq_false (by omega)), L0.1.trans (BA.out.mono L0.1.size)⟩
          | false =>
            go_wp2_with fail
            refine wp_region_held_drew (S := (fun W => Below wr.heap.size wr W ∧ W.cell? ⟨sb, so + i, none⟩ = some (.slice b.z.A b.z.n b.z.c) ∧ W.cell? ⟨bq, 0, none⟩ = some (.slice (some ⟨sa, sao, none⟩) nq cq) ∧ W.cell? ⟨sa, sao + lg, none⟩ = some (.slice zq.A zq.n zq.c))) (by kernel_rfl) L0 (fun hHeld => ?_)
            refine wpAnyH_take (i := 0) (oi := ({ dst := some 52, op := Op.move (Operand.tmp 0), type := 22, pos := "law.go:38", after := #[], guard := none } : Oper)) (v := ?_) rfl (by kernel_rfl) (by kernel_rfl) (by kernel_rfl) (fun _ _ _ h => h) (Or.inl ⟨by rfl, ?_⟩) (by assumption) ?_
            rotate_left
            · intro w hSw
              go_simp
              try with_reducible rfl
            try simp only [Act.put, List.setIfInBounds_toArray, List.set_cons_zero, List.set_cons_succ]
            refine wpAnyH_take (i := 1) (oi := ({ dst := some 53, op := Op.move (Operand.tmp 9), type := 3, pos := "law.go:38", after := #[], guard := none } : Oper)) (v := ?_) rfl (by kernel_rfl) (by kernel_rfl) (by kernel_rfl) (fun _ _ _ h => h) (Or.inl ⟨by rfl, ?_⟩) (by assumption) ?_
            rotate_left
            · intro w hSw
              go_simp
              try with_reducible rfl
            try simp only [Act.put, List.setIfInBounds_toArray, List.set_cons_zero, List.set_cons_succ]
            refine wpAnyH_take (i := 2) (oi := ({ dst := some 54, op := Op.indexAddr 22 (Operand.tmp 52) (Operand.tmp 53), type := 0, pos := "law.go:38", after := #[{ on := 0, ground := Ground.data }, { on := 1, ground := Ground.data }], guard := none } : Oper)) (v := ?_) rfl (by kernel_rfl) (by kernel_rfl) (by kernel_rfl) (fun _ _ _ h => h) (Or.inl ⟨by rfl, ?_⟩) (by assumption) ?_
            rotate_left
            · intro w hSw
              go_simp
              try with_reducible rfl
            try simp only [Act.put, List.setIfInBounds_toArray, List.set_cons_zero, List.set_cons_succ]
            refine wpAnyH_take (i := 3) (oi := ({ dst := some 55, op := Op.load 28 (Operand.tmp 54), type := 28, pos := "law.go:38", after := #[{ on := 2, ground := Ground.data }], guard := none } : Oper)) (v := ?_) rfl (by kernel_rfl) (by kernel_rfl) (by kernel_rfl) (fun _ _ _ h => h) (Or.inl ⟨by rfl, ?_⟩) (by assumption) ?_
            rotate_left
            · intro w hSw
              go_simp
              try with_reducible rfl
            try simp only [Act.put, List.setIfInBounds_toArray, List.set_cons_zero, List.set_cons_succ]
            refine wpAnyH_ready (rs := [4]) (by kernel_rfl) (by simp) ?_
            refine AllReadyH.cons (o := _) rfl (fun K hK => ?_) AllReadyH.nil
            go_simp
            go_at_call 24
            refine (MC.out _ L0.1).mono ?_
            rintro e w8 ⟨rfl, hb8⟩
            have B8 := Lib.hid hb8
            clear hb8
            refine hK.out _ _ (ld3_next L0 B8.out) (fun hHeld2 => ?_)
            clear hK K hHeld
            try simp only [Act.put, List.setIfInBounds_toArray, List.set_cons_zero, List.set_cons_succ]
            refine wpAnyH_take (i := 5) (oi := ({ dst := some 57, op := Op.move (Operand.tmp 56), type := 4, pos := "law.go:38", after := #[{ on := 4, ground := Ground.data }, { on := 4, ground := Ground.chain }], guard := none } : Oper)) (v := ?_) rfl (by kernel_rfl) (by kernel_rfl) (by kernel_rfl) (fun _ _ _ h => h) (Or.inl ⟨by rfl, ?_⟩) (by assumption) ?_
            rotate_left
            · intro w hSw
              go_simp
              try with_reducible rfl
            try simp only [Act.put, List.setIfInBounds_toArray, List.set_cons_zero, List.set_cons_succ]
            refine wpAnyH_take (i := 6) (oi := ({ dst := some 58, op := Op.move (Operand.tmp 7), type := 23, pos := "law.go:38", after := #[{ on := 5, ground := Ground.guard }], guard := some (5, true) } : Oper)) (v := undef) rfl (by kernel_rfl) (by kernel_rfl) (by kernel_rfl) (fun _ _ _ h => h) (Or.inr ⟨by rfl, rfl⟩) (by assumption) ?_
            try simp only [Act.put, List.setIfInBounds_toArray, List.set_cons_zero, List.set_cons_succ]
            refine wpAnyH_take (i := 7) (oi := ({ dst := some 59, op := Op.move (Operand.tmp 0), type := 22, pos := "law.go:38", after := #[{ on := 5, ground := Ground.guard }], guard := some (5, true) } : Oper)) (v := undef) rfl (by kernel_rfl) (by kernel_rfl) (by kernel_rfl) (fun _ _ _ h => h) (Or.inr ⟨by rfl, rfl⟩) (by assumption) ?_
            try simp only [Act.put, List.setIfInBounds_toArray, List.set_cons_zero, List.set_cons_succ]
            refine wpAnyH_take (i := 8) (oi := ({ dst := some 60, op := Op.move (Operand.tmp 9), type := 3, pos := "law.go:38", after := #[{ on := 5, ground := Ground.guard }], guard := some (5, true) } : Oper)) (v := undef) rfl (by kernel_rfl) (by kernel_rfl) (by kernel_rfl) (fun _ _ _ h => h) (Or.inr ⟨by rfl, rfl⟩) (by assumption) ?_
            try simp only [Act.put, List.setIfInBounds_toArray, List.set_cons_zero, List.set_cons_succ]
            refine wpAnyH_take (i := 9) (oi := ({ dst := some 61, op := Op.indexAddr 22 (Operand.tmp 59) (Operand.tmp 60), type := 0, pos := "law.go:38", after := #[{ on := 7, ground := Ground.data }, { on := 8, ground := Ground.data }, { on := 5, ground := Ground.guard }], guard := some (5, true) } : Oper)) (v := undef) rfl (by kernel_rfl) (by kernel_rfl) (by kernel_rfl) (fun _ _ _ h => h) (Or.inr ⟨by rfl, rfl⟩) (by assumption) ?_
            try simp only [Act.put, List.setIfInBounds_toArray, List.set_cons_zero, List.set_cons_succ]
            refine wpAnyH_take (i := 10) (oi := ({ dst := some 62, op := Op.load 28 (Operand.tmp 61), type := 28, pos := "law.go:38", after := #[{ on := 9, ground := Ground.data }, { on := 5, ground := Ground.guard }], guard := some (5, true) } : Oper)) (v := undef) rfl (by kernel_rfl) (by kernel_rfl) (by kernel_rfl) (fun _ _ _ h => h) (Or.inr ⟨by rfl, rfl⟩) (by assumption) ?_
            try simp only [Act.put, List.setIfInBounds_toArray, List.set_cons_zero, List.set_cons_succ]
            refine wpAnyH_take (i := 11) (oi := ({ dst := some 63, op := Op.call { callee := Callee.value (Operand.func 20), args := #[Operand.tmp 58, Operand.tmp 62], argTypes := #[23, 28] }, type := 4, pos := "law.go:38", after := #[{ on := 6, ground := Ground.data }, { on := 10, ground := Ground.data }, { on := 5, ground := Ground.chain }, { on := 5, ground := Ground.guard }], guard := some (5, true) } : Oper)) (v := undef) rfl (by kernel_rfl) (by kernel_rfl) (by kernel_rfl) (fun _ _ _ h => h) (Or.inr ⟨by rfl, rfl⟩) (by assumption) ?_
            try simp only [Act.put, List.setIfInBounds_toArray, List.set_cons_zero, List.set_cons_succ]
            refine wpAnyH_take (i := 12) (oi := ({ dst := some 64, op := Op.fieldAddr 52 (Operand.tmp 8) 0, type := 0, pos := "law.go:38", after := #[{ on := 5, ground := Ground.guard }], guard := some (5, true) } : Oper)) (v := undef) rfl (by kernel_rfl) (by kernel_rfl) (by kernel_rfl) (fun _ _ _ h => h) (Or.inr ⟨by rfl, rfl⟩) (by assumption) ?_
            try simp only [Act.put, List.setIfInBounds_toArray, List.set_cons_zero, List.set_cons_succ]
            refine wpAnyH_take (i := 13) (oi := ({ dst := some 65, op := Op.load 25 (Operand.tmp 64), type := 25, pos := "law.go:38", after := #[{ on := 12, ground := Ground.data }, { on := 5, ground := Ground.guard }], guard := some (5, true) } : Oper)) (v := undef) rfl (by kernel_rfl) (by kernel_rfl) (by kernel_rfl) (fun _ _ _ h => h) (Or.inr ⟨by rfl, rfl⟩) (by assumption) ?_
            try simp only [Act.put, List.setIfInBounds_toArray, List.set_cons_zero, List.set_cons_succ]
            refine wpAnyH_take (i := 14) (oi := ({ dst := some 66, op := Op.fieldAddr 52 (Operand.tmp 8) 0, type := 0, pos := "law.go:38", after := #[{ on := 5, ground := Ground.guard }], guard := some (5, true) } : Oper)) (v := undef) rfl (by kernel_rfl) (by kernel_rfl) (by kernel_rfl) (fun _ _ _ h => h) (Or.inr ⟨by rfl, rfl⟩) (by assumption) ?_
            try simp only [Act.put, List.setIfInBounds_toArray, List.set_cons_zero, List.set_cons_succ]
            refine wpAnyH_take (i := 15) (oi := ({ dst := some 67, op := Op.load 25 (Operand.tmp 66), type := 25, pos := "law.go:38", after := #[{ on := 14, ground := Ground.data }, { on := 5, ground := Ground.guard }], guard := some (5, true) } : Oper)) (v := undef) rfl (by kernel_rfl) (by kernel_rfl) (by kernel_rfl) (fun _ _ _ h => h) (Or.inr ⟨by rfl, rfl⟩) (by assumption) ?_
            try simp only [Act.put, List.setIfInBounds_toArray, List.set_cons_zero, List.set_cons_succ]
            refine wpAnyH_take (i := 16) (oi := ({ dst := some 68, op := Op.call { callee := Callee.builtin Builtin.len, args := #[Operand.tmp 67], argTypes := #[25] }, type := 3, pos := "law.go:38", after := #[{ on := 15, ground := Ground.data }, { on := 5, ground := Ground.guard }], guard := some (5, true) } : Oper)) (v := undef) rfl (by kernel_rfl) (by kernel_rfl) (by kernel_rfl) (fun _ _ _ h => h) (Or.inr ⟨by rfl, rfl⟩) (by assumption) ?_
            try simp only [Act.put, List.setIfInBounds_toArray, List.set_cons_zero, List.set_cons_succ]
            refine wpAnyH_take (i := 17) (oi := ({ dst := some 69, op := Op.binOp BinOp.sub 3 (Operand.tmp 68) (Operand.const (Value.int IntKind.i64 1)) 3, type := 3, pos := "law.go:38", after := #[{ on := 16, ground := Ground.data }, { on := 5, ground := Ground.guard }], guard := some (5, true) } : Oper)) (v := undef) rfl (by kernel_rfl) (by kernel_rfl) (by kernel_rfl) (fun _ _ _ h => h) (Or.inr ⟨by rfl, rfl⟩) (by assumption) ?_
            try simp only [Act.put, List.setIfInBounds_toArray, List.set_cons_zero, List.set_cons_succ]
            refine wpAnyH_take (i := 18) (oi := ({ dst := some 70, op := Op.indexAddr 25 (Operand.tmp 65) (Operand.tmp 69), type := 0, pos := "law.go:38", after := #[{ on := 13, ground := Ground.data }, { on := 17, ground := Ground.data }, { on := 5, ground := Ground.guard }], guard := some (5, true) } : Oper)) (v := undef) rfl (by kernel_rfl) (by kernel_rfl) (by kernel_rfl) (fun _ _ _ h => h) (Or.inr ⟨by rfl, rfl⟩) (by assumption) ?_
            try simp only [Act.put, List.setIfInBounds_toArray, List.set_cons_zero, List.set_cons_succ]
            refine wpAnyH_take (i := 19) (oi := ({ dst := some 71, op := Op.load 29 (Operand.tmp 70), type := 29, pos := "law.go:38", after := #[{ on := 18, ground := Ground.data }, { on := 5, ground := Ground.guard }], guard := some (5, true) } : Oper)) (v := undef) rfl (by kernel_rfl) (by kernel_rfl) (by kernel_rfl) (fun _ _ _ h => h) (Or.inr ⟨by rfl, rfl⟩) (by assumption) ?_
            try simp only [Act.put, List.setIfInBounds_toArray, List.set_cons_zero, List.set_cons_succ]
            refine wpAnyH_take (i := 20) (oi := ({ dst := some 72, op := Op.move (Operand.tmp 0), type := 22, pos := "law.go:38", after := #[{ on := 5, ground := Ground.guard }], guard := some (5, true) } : Oper)) (v := undef) rfl (by kernel_rfl) (by kernel_rfl) (by kernel_rfl) (fun _ _ _ h => h) (Or.inr ⟨by rfl, rfl⟩) (by assumption) ?_
            try simp only [Act.put, List.setIfInBounds_toArray, List.set_cons_zero, List.set_cons_succ]
            refine wpAnyH_take (i := 21) (oi := ({ dst := some 73, op := Op.move (Operand.tmp 9), type := 3, pos := "law.go:38", after := #[{ on := 5, ground := Ground.guard }], guard := some (5, true) } : Oper)) (v := undef) rfl (by kernel_rfl) (by kernel_rfl) (by kernel_rfl) (fun _ _ _ h => h) (Or.inr ⟨by rfl, rfl⟩) (by assumption) ?_
            try simp only [Act.put, List.setIfInBounds_toArray, List.set_cons_zero, List.set_cons_succ]
            refine wpAnyH_take (i := 22) (oi := ({ dst := some 74, op := Op.indexAddr 22 (Operand.tmp 72) (Operand.tmp 73), type := 0, pos := "law.go:38", after := #[{ on := 20, ground := Ground.data }, { on := 21, ground := Ground.data }, { on := 5, ground := Ground.guard }], guard := some (5, true) } : Oper)) (v := undef) rfl (by kernel_rfl) (by kernel_rfl) (by kernel_rfl) (fun _ _ _ h => h) (Or.inr ⟨by rfl, rfl⟩) (by assumption) ?_
            try simp only [Act.put, List.setIfInBounds_toArray, List.set_cons_zero, List.set_cons_succ]
            refine wpAnyH_take (i := 23) (oi := ({ dst := some 75, op := Op.load 28 (Operand.tmp 74), type := 28, pos := "law.go:38", after := #[{ on := 22, ground := Ground.data }, { on := 5, ground := Ground.guard }], guard := some (5, true) } : Oper)) (v := undef) rfl (by kernel_rfl) (by kernel_rfl) (by kernel_rfl) (fun _ _ _ h => h) (Or.inr ⟨by rfl, rfl⟩) (by assumption) ?_
            try simp only [Act.put, List.setIfInBounds_toArray, List.set_cons_zero, List.set_cons_succ]
            refine wpAnyH_take (i := 24) (oi := ({ dst := some 76, op := Op.call { callee := Callee.value (Operand.func 25), args := #[Operand.tmp 71, Operand.tmp 75], argTypes := #[29, 28] }, type := 29, pos := "law.go:38", after := #[{ on := 19, ground := Ground.data }, { on := 23, ground := Ground.data }, { on := 11, ground := Ground.chain }, { on := 5, ground := Ground.guard }], guard := some (5, true) } : Oper)) (v := undef) rfl (by kernel_rfl) (by kernel_rfl) (by kernel_rfl) (fun _ _ _ h => h) (Or.inr ⟨by rfl, rfl⟩) (by assumption) ?_
            try simp only [Act.put, List.setIfInBounds_toArray, List.set_cons_zero, List.set_cons_succ]
            refine wpAnyH_take (i := 25) (oi := ({ dst := some 77, op := Op.call { callee := Callee.builtin Builtin.len, args := #[Operand.tmp 76], argTypes := #[29] }, type := 3, pos := "law.go:38", after := #[{ on := 24, ground := Ground.data }, { on := 5, ground := Ground.guard }], guard := some (5, true) } : Oper)) (v := undef) rfl (by kernel_rfl) (by kernel_rfl) (by kernel_rfl) (fun _ _ _ h => h) (Or.inr ⟨by rfl, rfl⟩) (by assumption) ?_
            try simp only [Act.put, List.setIfInBounds_toArray, List.set_cons_zero, List.set_cons_succ]
            refine wpAnyH_take (i := 26) (oi := ({ dst := some 78, op := Op.binOp BinOp.leq 3 (Operand.tmp 77) (Operand.const (Value.int IntKind.i64 4096)) 3, type := 4, pos := "law.go:38", after := #[{ on := 25, ground := Ground.data }, { on := 5, ground := Ground.guard }], guard := some (5, true) } : Oper)) (v := undef) rfl (by kernel_rfl) (by kernel_rfl) (by kernel_rfl) (fun _ _ _ h => h) (Or.inr ⟨by rfl, rfl⟩) (by assumption) ?_
            try simp only [Act.put, List.setIfInBounds_toArray, List.set_cons_zero, List.set_cons_succ]
            refine wpAnyH_take (i := 27) (oi := ({ dst := some 79, op := Op.binOp BinOp.neq 4 (Operand.tmp 63) (Operand.tmp 78) 4, type := 4, pos := "law.go:38", after := #[{ on := 11, ground := Ground.data }, { on := 26, ground := Ground.data }, { on := 5, ground := Ground.guard }], guard := some (5, true) } : Oper)) (v := undef) rfl (by kernel_rfl) (by kernel_rfl) (by kernel_rfl) (fun _ _ _ h => h) (Or.inr ⟨by rfl, rfl⟩) (by assumption) ?_
            try simp only [Act.put, List.setIfInBounds_toArray, List.set_cons_zero, List.set_cons_succ]
            refine wpAnyH_take (i := 28) (oi := ({ dst := some 80, op := Op.pick (Operand.tmp 57) (Operand.tmp 79) (Operand.const (Value.bool false)), type := 4, pos := "law.go:38", after := #[{ on := 5, ground := Ground.data }, { on := 27, ground := Ground.data }], guard := none } : Oper)) (v := ?_) rfl (by kernel_rfl) (by kernel_rfl) (by kernel_rfl) (fun _ _ _ h => h) (Or.inl ⟨by rfl, ?_⟩) (by assumption) ?_
            rotate_left
            · intro w hSw
              go_simp
              try with_reducible rfl
            try simp only [Act.put, List.setIfInBounds_toArray, List.set_cons_zero, List.set_cons_succ]
            refine wpAnyH_done (by kernel_rfl) ?_ _
            go_wp2_with fail
            go_meet
            exact ⟨rfl, rfl, rfl, L0.1.trans (B8.out.mono L0.1.size)⟩
        case rest =>
          obtain ⟨rfl, rfl, rfl, hbx⟩ := hcut
          have KX := Lib.hid (HR.out.below hbx)
          have SLX := Lib.hid (SLB.out _ hbx)
          obtain ⟨wx, rfl⟩ : ∃ wx, wx = wc := ⟨wc, rfl⟩
          have p0 : wx.cell? ⟨sb, so + i, none⟩ = some (.slice b.z.A b.z.n b.z.c) := (hbx.cell (World.block_lt_of_cell? _ _ q0)).trans q0
          have p1 : wx.cell? ⟨bq, 0, none⟩ = some (.slice (some ⟨sa, sao, none⟩) nq cq) := (one_cell KX.out.qb).1
          obtain ⟨kx, hkx⟩ : ∃ kx, k.far wr = kx := ⟨_, rfl⟩
          rw [hkx] at KX
          clear hkx hbx MC RC DC L0 q0 qz s0 s1 HZ
          have HPX := Lib.hid (And.intro p0 p1)
          have AC := Lib.hid (fun (W : World) (hW : Below wx.heap.size wx W) => rapply_ok (w := W) (k := (kx.hole bq).mark wx) vv (KX.out.qs.mark hW) (by have := HNQ.out; omega) HVL.out (SLX.out.below hW) HBI.out.1.2.1.symm (by rw [HBI.out.1.2.1]; exact HBI.out.2) HBI.out.1.2.2)
          obtain ⟨r, hr⟩ : ∃ r, applyE (allL log) log.length vv b.l = r := ⟨_, rfl⟩
          have HRR := Lib.hid hr
          clear hr
          go_upto_region 13 with fail
          go_cut [9, 10, 11, 12] from 27 to 100 (fun s9 s10 s11 s12 wy => s9 = .int .i64 i ∧ s10 = .int .i64 vv ∧ BxQ wx wy (kx.hole bq) log vv b.l s11 s12)
          case first =>
            go_wp2_with fail
            go_region_held3 (fun W => W.cell? ⟨sb, so + i, none⟩ = some (.slice b.z.A b.z.n b.z.c) ∧ W.cell? ⟨bq, 0, none⟩ = some (.slice (some ⟨sa, sao, none⟩) nq cq)) (with_reducible (first | exact ⟨p0, p1⟩ | exact bel2 (Below.drew (Below.refl _ wx)) p0 p1 | exact bel2 ((Below.refl _ wx).alloc (Nat.le_refl _) _) p0 p1 | exact bel2 (Below.drew ((Below.refl _ wx).alloc (Nat.le_refl _) _)) p0 p1 | exact bel2 hbr3 p0 p1 | exact bel2 (hbr3.alloc hbr3.size _) p0 p1 | exact bel2 (Below.setCell (hbr3.alloc hbr3.size _) hsz3 _) p0 p1 | exact bel2 (Below.setCell hbr3 (Nat.le_refl _) _) p0 p1))
              (first
               | (go_at_call 26; refine (AC.out wx.drew (Below.drew (Below.refl _ wx))).mono ?_; rintro e w3 ⟨A3, m3, c3, zs3, rfl, hb3, hq3⟩; have hbr3 : Below wx.heap.size wx w3 := (Below.drew (Below.refl _ wx)).trans hb3; have hsz3 := hbr3.size; have HA3 := Lib.hid (And.intro (Below.drew (Below.refl wx.heap.size wx)) (And.intro hb3 hq3)); clear hb3 hq3; rw [HRR.out])
               | (go_at_call 26; refine (AC.out (wx.alloc (.cells #[.slice none 0 0] 52)).drew (Below.drew ((Below.refl _ wx).alloc (Nat.le_refl _) _))).mono ?_; rintro e w3 ⟨A3, m3, c3, zs3, rfl, hb3, hq3⟩; have hbr3 : Below wx.heap.size wx w3 := (Below.drew ((Below.refl _ wx).alloc (Nat.le_refl _) _)).trans (hb3.mono (by show wx.heap.size ≤ (wx.alloc _).heap.size; rw [World.size_alloc]; omega)); have hsz3 := hbr3.size; have hz3 : w3.heap[wx.heap.size]? = some (oneO (.slice none 0 0)) := (hb3.block wx.heap.size (by show wx.heap.size < (wx.alloc _).heap.size; rw [World.size_alloc]; omega)).trans (heap_alloc_new wx _); obtain ⟨bz0, bz1⟩ := one_cell hz3; have HA4 := Lib.hid (And.intro (Below.drew ((Below.refl wx.heap.size wx).alloc (Nat.le_refl _) (.cells #[.slice none 0 0] 52))) (And.intro hb3 hq3)); clear hb3 hq3; rw [HRR.out]))
            all_goals
              go_wp2_with fail
              go_meet
              first
                | exact ⟨rfl, rfl, bxqA HA3.out.1 HA3.out.2.1 HA3.out.2.2 HRR.out⟩
                | exact ⟨rfl, rfl, bxqB HA4.out.1 (by show wx.heap.size < (wx.alloc _).heap.size; rw [World.size_alloc]; omega) HA4.out.2.1 (heap_alloc_new wx _) HA4.out.2.2 HRR.out⟩
          case rest =>
            obtain ⟨rfl, rfl, bx, Ax, mx, cx, zs', rfl, he12, hbxw, hbw, hbx2, hqx⟩ := hcut
            rw [HRR.out] at he12
            subst he12
            obtain ⟨wy, rfl⟩ : ∃ wy, wy = wc := ⟨wc, rfl⟩
            have KY := Lib.hid (KX.out.below hbw)
            have V := Lib.hid (show Held wy (kx.far wx) encC (.slice b.z.A b.z.n b.z.c) b.l from KY.out.kt.old HBI.out.1.1 (Nat.le_refl _) KY.out.be)
            have p2 : wy.cell? ⟨sb, so + i, none⟩ = some (.slice b.z.A b.z.n b.z.c) := (hbw.cell (World.block_lt_of_cell? _ _ p0)).trans p0
            have HQX := Lib.hid (And.intro hbw (And.intro hbx2 (And.intro hqx hbxw)))
            have hrr : (r != r) = false := by simp
            obtain ⟨log', hlog'⟩ : ∃ l', logA log vv b.l = l' := ⟨_, rfl⟩
            have HLGA := Lib.hid hlog'
            clear hbw hbx2 hqx p0 p1 hbxw hlog'
            go_wp2_with fail
            refine (apply_law KY.out.kt vv V.out (by have := HNQ.out; omega) HRR.out HLGA.out).mono ?_
            rintro e w6 ⟨k6, rfl, hk6, hs6⟩
            have x0 : w6.cell? ⟨bx, 0, none⟩ = some (.slice Ax mx cx) := by
              refine (World.cell?_of_block (hs6.chg.block bx (Array.getElem?_eq_some_iff.1 HQX.out.2.1).1 ?_)).trans (one_cell HQX.out.2.1).1
              show ¬ (if bx < wx.heap.size then kx.col bx else 8) < 7
              rw [if_neg (by have := HQX.out.2.2.2; omega)]; omega
            obtain ⟨y0, y1⟩ := one_cell ((hs6.chg.block bq KY.out.qlt (by rw [KY.out.qc]; omega)).trans KY.out.qb)
            have K7 := Lib.hid (KX.out.more HQX.out.1 (by have := HQX.out.2.2.1; rw [HLGA.out] at this; exact this) hk6 hs6)
            clear hk6 hs6 p2
            go_wp2_with fail
            go_roundg (nb - i)
            case measure => omega
            case rel => exact ⟨i + 1, _, log', _, zs', by omega, by omega, by omega, by go_num, by rw [← HLGA.out]; have := logA_len log vv b.l; have := HLI.out; omega, K7⟩
    · obtain ⟨sa, sao, hAq⟩ : ∃ sa sao, Aq = some ⟨sa, sao, none⟩ := by
        obtain ⟨z0, hz0⟩ : ∃ z, zs[0]? = some z := ⟨zs[0]'(by have := HR.out.qs.zl; omega), List.getElem?_eq_getElem _⟩
        obtain ⟨sa, sao, sc, hva, _, _⟩ := G.SlL.at_ HR.out.qs.row.sl encS_len 0 z0 hz0
        exact ⟨sa, sao, by injection hva⟩
      subst hAq
      by_cases hinb : i < nb
      · have n1 : (i : Int) < (nb : Int) := by omega
        have n2 : ¬ (i : Int) < 40 := by omega
        skip
        go_wp2_with fail
        go_loopg [13] (nq + 3) (fun g s13 wy => ∃ (j : Nat) (kk : SW), j ≤ nq + 2 ∧ nq + 2 - j < g ∧ s13 = .int .i64 ((j : Int) - 1) ∧ Hid (PlK p bl bq wl wy kk log (.slice (some ⟨sa, sao, none⟩) nq cq) zs x y z))
        case atStart => exact ⟨0, k, by omega, by omega, rfl, HR⟩
        case round =>
          rename_i hg1
          obtain ⟨j, kk, hj, hg1, rfl, HX⟩ := hrel
          clear HR
          obtain ⟨s0, s1⟩ := one_cell HX.out.qb
          obtain ⟨v, hv⟩ : ∃ v : Int, (j : Int) - 1 = v := ⟨_, rfl⟩
          rw [hv]
          have HVJ := Lib.hid hv
          have hvb : -1 ≤ v ∧ v ≤ 50 := by omega
          clear hv
          by_cases hjn : v ≤ (nq : Int)
          · have l0 := HX.out.c0
            have l1 := HX.out.c1
            have l2 := HX.out.c2
            obtain ⟨r, hr⟩ : ∃ r, factsE log.length v = r := ⟨_, rfl⟩
            obtain ⟨D, hD⟩ : ∃ D, factsL log v = D := ⟨_, rfl⟩
            obtain ⟨M, hM⟩ : ∃ D, matchL log v ⟨x, y, z⟩ = D := ⟨_, rfl⟩
            obtain ⟨nd, hnd⟩ : ∃ n, D.length = n := ⟨_, rfl⟩
            obtain ⟨nm, hnm⟩ : ∃ n, M.length = n := ⟨_, rfl⟩
            have HRR := Lib.hid hr
            have HDD := Lib.hid (And.intro hD hnd)
            have HMM := Lib.hid (And.intro hM hnm)
            have hnd4 : nd ≤ 4096 := by
              rw [← hnd, ← hD]
              unfold factsL
              split
              · exact HGD.out.len _ (by omega)
              · simp
            have hnm4 : nm ≤ 4096 := by
              have h5 : M.length ≤ D.length := by rw [← hM, ← hD]; exact List.length_filter_le _ _
              omega
            have hrr : (r != r) = false := by simp
            clear hr hD hM hnd hnm
            go_wp2_with fail
            refine (facts_law HX.out.kt v (by have := HNQ.out; omega) HRR.out HDD.out.1).mono ?_
            rw [HDD.out.2]
            rintro e w3 ⟨A3, c3, k3, rfl, hk3, hs3, hh3⟩
            have K3 := Lib.hid (And.intro (HX.out.step hk3 hs3) hh3)
            clear hk3 hs3 hh3 HX s0 s1 l0 l1 l2
            obtain ⟨s0, s1⟩ := one_cell K3.out.1.qb
            go_wp2_with fail
            refine (rfacts_law K3.out.1.qs (by have := HNQ.out; omega) HRR.out HDD.out.1 HDD.out.2).mono ?_
            rintro e w4 ⟨A4, c4, rfl, hb4, hh4⟩
            have K4 := Lib.hid (And.intro (K3.out.1.below hb4) (And.intro (K3.out.2.below hb4) (HB.unhole hh4)))
            obtain ⟨k4, hk4⟩ : ∃ x, k3.far w3 = x := ⟨_, rfl⟩
            rw [hk4] at K4
            clear hb4 hh4 K3 s0 s1 hk4
            have l0 := K4.out.1.c0
            have l1 := K4.out.1.c1
            have l2 := K4.out.1.c2
            go_wp2_with fail
            refine (match_law K4.out.1.kt v x y z HFT.out (by have := HNQ.out; omega) HRR.out HMM.out.1).mono ?_
            rw [HMM.out.2]
            rintro e w5 ⟨A5, c5, k5, rfl, hk5, hs5, hh5⟩
            have K5 := Lib.hid (And.intro (K4.out.1.step hk5 hs5) (And.intro (K4.out.2.1.step hs5) (And.intro (K4.out.2.2.step hs5) hh5)))
            clear hk5 hs5 hh5 K4 l0 l1 l2
            obtain ⟨s0, s1⟩ := one_cell K5.out.1.qb
            have l0 := K5.out.1.c0
            have l1 := K5.out.1.c1
            have l2 := K5.out.1.c2
            go_wp2_with fail
            refine (rmatch_law K5.out.1.qs (by have := HNQ.out; omega) (by rw [HDD.out.1, HDD.out.2]; exact hnd4) HRR.out HMM.out.1 HMM.out.2).mono ?_
            rintro e w6 ⟨A6, c6, rfl, hb6, hh6⟩
            have K6 := Lib.hid (And.intro (K5.out.1.below hb6) (And.intro (K5.out.2.1.below hb6) (And.intro (K5.out.2.2.1.below hb6) (And.intro (K5.out.2.2.2.below hb6) (HB.unhole hh6)))))
            obtain ⟨k6, hk6⟩ : ∃ x, k5.far w5 = x := ⟨_, rfl⟩
            rw [hk6] at K6
            clear hb6 hh6 K5 s0 s1 hk6 l0 l1 l2
            go_wp2_with fail
            refine (same_tri K6.out.2.1.sl K6.out.2.2.1.sl HDD.out.2 (by omega)).mono ?_
            rintro e w7 ⟨rfl, hb7⟩
            have K7 := Lib.hid (And.intro (K6.out.1.below hb7) (And.intro (K6.out.2.2.2.1.below hb7) (K6.out.2.2.2.2.below hb7)))
            obtain ⟨k7, hk7⟩ : ∃ x, k6.far w6 = x := ⟨_, rfl⟩
            rw [hk7] at K7
            clear hb7 K6 hk7
            go_wp2_with fail
            refine (same_tri K7.out.2.1.sl K7.out.2.2.sl HMM.out.2 (by omega)).mono ?_
            rintro e w8 ⟨rfl, hb8⟩
            have K8 := Lib.hid (K7.out.1.below hb8)
            obtain ⟨k8, hk8⟩ : ∃ x, k7.far w7 = x := ⟨_, rfl⟩
            rw [hk8] at K8
            clear hb8 K7 hk8
            go_wp2_with fail
            go_roundg (nq + 2 - j)
            case measure => have := HVJ.out; omega
            case rel => exact ⟨j + 1, k8, by have := HVJ.out; omega, by have := HVJ.out; omega, by have h5 := HVJ.out; first | (rw [show ((j + 1 : Nat) : Int) - 1 = v + 1 by omega]; done) | (rw [show ((j + 1 : Nat) : Int) - 1 = v + 1 by omega]; go_num), K8⟩
          · have HVN := Lib.hid hjn
            go_wp2_with fail
            go_loopg [22] 4 (fun g s22 wz => ∃ (q : Nat) (kq : SW), q ≤ 3 ∧ 3 - q < g ∧ s22 = .int .i64 q ∧ Hid (PlK p bl bq wl wz kq log (.slice (some ⟨sa, sao, none⟩) nq cq) zs x y z))
            case atStart => exact ⟨0, kk, by omega, by omega, rfl, HX⟩
            case round =>
              rename_i hg2
              obtain ⟨q, kq, hq, hg2, rfl, HQ⟩ := hrel
              clear HX s0 s1
              obtain ⟨s0, s1⟩ := one_cell HQ.out.qb
              have sd : wr.drew.cell? ⟨bq, 0, none⟩ = some (.slice (some ⟨sa, sao, none⟩) nq cq) := s0
              by_cases hq3 : q < 3
              · have m1 : (q : Int) < 3 := by omega
                obtain ⟨hb, hhb⟩ : ∃ b, homesB log q 3 = b := ⟨_, rfl⟩
                have HHB := Lib.hid hhb
                clear hhb
                have HC := Lib.hid (fun (W : World) (hW : Below wr.heap.size wr W) => homes_law (HQ.out.kt.below hW) (q : Int) 3 (by have := HNQ.out; omega) HHB.out)
                have RC := Lib.hid (fun (W : World) (hW : Below wr.heap.size wr W) => rhomes_ok (q : Int) 3 (((HQ.out.qs.below hW).now)) (by have := HNQ.out; omega) HGD.out)
                have hbb : (hb != hb) = false := by simp
                go_wp2_with fail
                go_region_held3 (fun W => Below wr.heap.size wr W ∧ W.cell? ⟨bq, 0, none⟩ = some (.slice (some ⟨sa, sao, none⟩) nq cq)) (first | exact ⟨Below.drew (Below.refl _ _), sd⟩ | exact ⟨(Below.drew (Below.refl _ wr)).trans B8.out, (B8.out.cell (World.block_lt_of_cell? _ _ sd)).trans sd⟩ | exact ⟨(Below.drew (Below.refl _ wr)).trans B9.out, (B9.out.cell (World.block_lt_of_cell? _ _ sd)).trans sd⟩) ((first | (go_at_call 22; refine (HC.out _ (Below.drew (Below.refl _ _))).mono ?_; rintro e w8 ⟨rfl, hb8⟩; have B8 := Lib.hid hb8; clear hb8) | (go_at_call 29; refine (RC.out _ ((Below.drew (Below.refl _ wr)).trans B8.out)).mono ?_; rw [HHB.out]; rintro e w9 ⟨rfl, hb9⟩; have B9 := Lib.hid (B8.out.trans (hb9.mono B8.out.size)); clear hb9)))
                go_wp2_with fail
                go_roundg (3 - q)
                case measure => omega
                case rel => exact ⟨q + 1, _, by omega, by omega, by go_num, Lib.hid (HQ.out.below ((Below.drew (Below.refl _ _)).trans B9.out))⟩
              · have m1 : ¬ (q : Int) < 3 := by omega
                obtain ⟨lg, hlg⟩ : ∃ n, log.length = n := ⟨_, rfl⟩
                have hln : (lg : Int) = (nq : Int) - 1 := by have := HNQ.out; omega
                have hl3 : IntKind.i64.wrap ((nq : Int) - 1) = (lg : Int) := by rw [IntKind.wrap_i64]; omega
                have hl4 : wrap64 ((nq : Int) - 1) = (lg : Int) := by rw [IntWalk.wrap64_in _ (by omega)]; omega
                have VC := Lib.hid (fun (W : World) (hW : Below wr.heap.size wr W) => (hlg ▸ version_law (HQ.out.kt.below hW) : Calls Tryz.prog 16 #[.pointer (some ⟨p, 0, none⟩)] W fun e w' => e = .returned (.int .i64 lg) ∧ W = w'))
                clear hln hlg
                go_wp2_with fail
                go_region_held3 (fun W => Below wr.heap.size wr W ∧ W.cell? ⟨bq, 0, none⟩ = some (.slice (some ⟨sa, sao, none⟩) nq cq)) (first | exact ⟨Below.drew (Below.refl _ _), sd⟩ | exact ⟨(Below.drew (Below.refl _ wr)).trans B8.out, (B8.out.cell (World.block_lt_of_cell? _ _ sd)).trans sd⟩) ((first | (go_at_call 16; refine (VC.out _ (Below.drew (Below.refl _ _))).mono ?_; rintro e w7 ⟨rfl, rfl⟩) | (go_at_call 17; refine (awake_ok _).mono ?_; rintro e w8 ⟨rfl, hb8⟩; have B8 := Lib.hid hb8; clear hb8)))
                go_wp2
                go_ret
                exact ⟨rfl, BL.out.trans ((HQ.out.be.trans (((Below.drew (Below.refl _ wr)).trans B8.out).mono HQ.out.be.size)).mono BL.out.size)⟩
      · have n1 : ¬ (i : Int) < (nb : Int) := by omega
        skip
        go_wp2_with fail
        go_loopg [13] (nq + 3) (fun g s13 wy => ∃ (j : Nat) (kk : SW), j ≤ nq + 2 ∧ nq + 2 - j < g ∧ s13 = .int .i64 ((j : Int) - 1) ∧ Hid (PlK p bl bq wl wy kk log (.slice (some ⟨sa, sao, none⟩) nq cq) zs x y z))
        case atStart => exact ⟨0, k, by omega, by omega, rfl, HR⟩
        case round =>
          rename_i hg1
          obtain ⟨j, kk, hj, hg1, rfl, HX⟩ := hrel
          clear HR
          obtain ⟨s0, s1⟩ := one_cell HX.out.qb
          obtain ⟨v, hv⟩ : ∃ v : Int, (j : Int) - 1 = v := ⟨_, rfl⟩
          rw [hv]
          have HVJ := Lib.hid hv
          have hvb : -1 ≤ v ∧ v ≤ 50 := by omega
          clear hv
          by_cases hjn : v ≤ (nq : Int)
          · have l0 := HX.out.c0
            have l1 := HX.out.c1
            have l2 := HX.out.c2
            obtain ⟨r, hr⟩ : ∃ r, factsE log.length v = r := ⟨_, rfl⟩
            obtain ⟨D, hD⟩ : ∃ D, factsL log v = D := ⟨_, rfl⟩
            obtain ⟨M, hM⟩ : ∃ D, matchL log v ⟨x, y, z⟩ = D := ⟨_, rfl⟩
            obtain ⟨nd, hnd⟩ : ∃ n, D.length = n := ⟨_, rfl⟩
            obtain ⟨nm, hnm⟩ : ∃ n, M.length = n := ⟨_, rfl⟩
            have HRR := Lib.hid hr
            have HDD := Lib.hid (And.intro hD hnd)
            have HMM := Lib.hid (And.intro hM hnm)
            have hnd4 : nd ≤ 4096 := by
              rw [← hnd, ← hD]
              unfold factsL
              split
              · exact HGD.out.len _ (by omega)
              · simp
            have hnm4 : nm ≤ 4096 := by
              have h5 : M.length ≤ D.length := by rw [← hM, ← hD]; exact List.length_filter_le _ _
              omega
            have hrr : (r != r) = false := by simp
            clear hr hD hM hnd hnm
            go_wp2_with fail
            refine (facts_law HX.out.kt v (by have := HNQ.out; omega) HRR.out HDD.out.1).mono ?_
            rw [HDD.out.2]
            rintro e w3 ⟨A3, c3, k3, rfl, hk3, hs3, hh3⟩
            have K3 := Lib.hid (And.intro (HX.out.step hk3 hs3) hh3)
            clear hk3 hs3 hh3 HX s0 s1 l0 l1 l2
            obtain ⟨s0, s1⟩ := one_cell K3.out.1.qb
            go_wp2_with fail
            refine (rfacts_law K3.out.1.qs (by have := HNQ.out; omega) HRR.out HDD.out.1 HDD.out.2).mono ?_
            rintro e w4 ⟨A4, c4, rfl, hb4, hh4⟩
            have K4 := Lib.hid (And.intro (K3.out.1.below hb4) (And.intro (K3.out.2.below hb4) (HB.unhole hh4)))
            obtain ⟨k4, hk4⟩ : ∃ x, k3.far w3 = x := ⟨_, rfl⟩
            rw [hk4] at K4
            clear hb4 hh4 K3 s0 s1 hk4
            have l0 := K4.out.1.c0
            have l1 := K4.out.1.c1
            have l2 := K4.out.1.c2
            go_wp2_with fail
            refine (match_law K4.out.1.kt v x y z HFT.out (by have := HNQ.out; omega) HRR.out HMM.out.1).mono ?_
            rw [HMM.out.2]
            rintro e w5 ⟨A5, c5, k5, rfl, hk5, hs5, hh5⟩
            have K5 := Lib.hid (And.intro (K4.out.1.step hk5 hs5) (And.intro (K4.out.2.1.step hs5) (And.intro (K4.out.2.2.step hs5) hh5)))
            clear hk5 hs5 hh5 K4 l0 l1 l2
            obtain ⟨s0, s1⟩ := one_cell K5.out.1.qb
            have l0 := K5.out.1.c0
            have l1 := K5.out.1.c1
            have l2 := K5.out.1.c2
            go_wp2_with fail
            refine (rmatch_law K5.out.1.qs (by have := HNQ.out; omega) (by rw [HDD.out.1, HDD.out.2]; exact hnd4) HRR.out HMM.out.1 HMM.out.2).mono ?_
            rintro e w6 ⟨A6, c6, rfl, hb6, hh6⟩
            have K6 := Lib.hid (And.intro (K5.out.1.below hb6) (And.intro (K5.out.2.1.below hb6) (And.intro (K5.out.2.2.1.below hb6) (And.intro (K5.out.2.2.2.below hb6) (HB.unhole hh6)))))
            obtain ⟨k6, hk6⟩ : ∃ x, k5.far w5 = x := ⟨_, rfl⟩
            rw [hk6] at K6
            clear hb6 hh6 K5 s0 s1 hk6 l0 l1 l2
            go_wp2_with fail
            refine (same_tri K6.out.2.1.sl K6.out.2.2.1.sl HDD.out.2 (by omega)).mono ?_
            rintro e w7 ⟨rfl, hb7⟩
            have K7 := Lib.hid (And.intro (K6.out.1.below hb7) (And.intro (K6.out.2.2.2.1.below hb7) (K6.out.2.2.2.2.below hb7)))
            obtain ⟨k7, hk7⟩ : ∃ x, k6.far w6 = x := ⟨_, rfl⟩
            rw [hk7] at K7
            clear hb7 K6 hk7
            go_wp2_with fail
            refine (same_tri K7.out.2.1.sl K7.out.2.2.sl HMM.out.2 (by omega)).mono ?_
            rintro e w8 ⟨rfl, hb8⟩
            have K8 := Lib.hid (K7.out.1.below hb8)
            obtain ⟨k8, hk8⟩ : ∃ x, k7.far w7 = x := ⟨_, rfl⟩
            rw [hk8] at K8
            clear hb8 K7 hk8
            go_wp2_with fail
            go_roundg (nq + 2 - j)
            case measure => have := HVJ.out; omega
            case rel => exact ⟨j + 1, k8, by have := HVJ.out; omega, by have := HVJ.out; omega, by have h5 := HVJ.out; first | (rw [show ((j + 1 : Nat) : Int) - 1 = v + 1 by omega]; done) | (rw [show ((j + 1 : Nat) : Int) - 1 = v + 1 by omega]; go_num), K8⟩
          · have HVN := Lib.hid hjn
            go_wp2_with fail
            go_loopg [22] 4 (fun g s22 wz => ∃ (q : Nat) (kq : SW), q ≤ 3 ∧ 3 - q < g ∧ s22 = .int .i64 q ∧ Hid (PlK p bl bq wl wz kq log (.slice (some ⟨sa, sao, none⟩) nq cq) zs x y z))
            case atStart => exact ⟨0, kk, by omega, by omega, rfl, HX⟩
            case round =>
              rename_i hg2
              obtain ⟨q, kq, hq, hg2, rfl, HQ⟩ := hrel
              clear HX s0 s1
              obtain ⟨s0, s1⟩ := one_cell HQ.out.qb
              have sd : wr.drew.cell? ⟨bq, 0, none⟩ = some (.slice (some ⟨sa, sao, none⟩) nq cq) := s0
              by_cases hq3 : q < 3
              · have m1 : (q : Int) < 3 := by omega
                obtain ⟨hb, hhb⟩ : ∃ b, homesB log q 3 = b := ⟨_, rfl⟩
                have HHB := Lib.hid hhb
                clear hhb
                have HC := Lib.hid (fun (W : World) (hW : Below wr.heap.size wr W) => homes_law (HQ.out.kt.below hW) (q : Int) 3 (by have := HNQ.out; omega) HHB.out)
                have RC := Lib.hid (fun (W : World) (hW : Below wr.heap.size wr W) => rhomes_ok (q : Int) 3 (((HQ.out.qs.below hW).now)) (by have := HNQ.out; omega) HGD.out)
                have hbb : (hb != hb) = false := by simp
                go_wp2_with fail
                go_region_held3 (fun W => Below wr.heap.size wr W ∧ W.cell? ⟨bq, 0, none⟩ = some (.slice (some ⟨sa, sao, none⟩) nq cq)) (first | exact ⟨Below.drew (Below.refl _ _), sd⟩ | exact ⟨(Below.drew (Below.refl _ wr)).trans B8.out, (B8.out.cell (World.block_lt_of_cell? _ _ sd)).trans sd⟩ | exact ⟨(Below.drew (Below.refl _ wr)).trans B9.out, (B9.out.cell (World.block_lt_of_cell? _ _ sd)).trans sd⟩) ((first | (go_at_call 22; refine (HC.out _ (Below.drew (Below.refl _ _))).mono ?_; rintro e w8 ⟨rfl, hb8⟩; have B8 := Lib.hid hb8; clear hb8) | (go_at_call 29; refine (RC.out _ ((Below.drew (Below.refl _ wr)).trans B8.out)).mono ?_; rw [HHB.out]; rintro e w9 ⟨rfl, hb9⟩; have B9 := Lib.hid (B8.out.trans (hb9.mono B8.out.size)); clear hb9)))
                go_wp2_with fail
                go_roundg (3 - q)
                case measure => omega
                case rel => exact ⟨q + 1, _, by omega, by omega, by go_num, Lib.hid (HQ.out.below ((Below.drew (Below.refl _ _)).trans B9.out))⟩
              · have m1 : ¬ (q : Int) < 3 := by omega
                obtain ⟨lg, hlg⟩ : ∃ n, log.length = n := ⟨_, rfl⟩
                have hln : (lg : Int) = (nq : Int) - 1 := by have := HNQ.out; omega
                have hl3 : IntKind.i64.wrap ((nq : Int) - 1) = (lg : Int) := by rw [IntKind.wrap_i64]; omega
                have hl4 : wrap64 ((nq : Int) - 1) = (lg : Int) := by rw [IntWalk.wrap64_in _ (by omega)]; omega
                have VC := Lib.hid (fun (W : World) (hW : Below wr.heap.size wr W) => (hlg ▸ version_law (HQ.out.kt.below hW) : Calls Tryz.prog 16 #[.pointer (some ⟨p, 0, none⟩)] W fun e w' => e = .returned (.int .i64 lg) ∧ W = w'))
                clear hln hlg
                go_wp2_with fail
                go_region_held3 (fun W => Below wr.heap.size wr W ∧ W.cell? ⟨bq, 0, none⟩ = some (.slice (some ⟨sa, sao, none⟩) nq cq)) (first | exact ⟨Below.drew (Below.refl _ _), sd⟩ | exact ⟨(Below.drew (Below.refl _ wr)).trans B8.out, (B8.out.cell (World.block_lt_of_cell? _ _ sd)).trans sd⟩) ((first | (go_at_call 16; refine (VC.out _ (Below.drew (Below.refl _ _))).mono ?_; rintro e w7 ⟨rfl, rfl⟩) | (go_at_call 17; refine (awake_ok _).mono ?_; rintro e w8 ⟨rfl, hb8⟩; have B8 := Lib.hid hb8; clear hb8)))
                go_wp2
                go_ret
                exact ⟨rfl, BL.out.trans ((HQ.out.be.trans (((Below.drew (Below.refl _ wr)).trans B8.out).mono HQ.out.be.size)).mono BL.out.size)⟩
end Go.Proofs.YtcnffgcegimelaaGreat.So
