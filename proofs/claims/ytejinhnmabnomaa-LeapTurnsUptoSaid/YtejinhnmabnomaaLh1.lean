/-
  LeapTurns. Conditions: the slices lie as told, and are of a bounded bulk.
-/
import Derived.Test.YtejinhnmabnomaaLh0
namespace Go.Proofs.Ytejinhnmabnomaa.Lf
open Go.Deep Go.RowKit Go.Proofs.YtejinhnmabnomaaW.PrintWords Go.Proofs.Ytejinhnmabnomaa.Pm Go.Proofs.Ytejinhnmabnomaa.Pw

theorem and8 (x : Int) : ∃ m : Nat, m ≤ 255 ∧ bits .and .i64 x 255 = (m : Int) := by
  have e0 : bits .and .i64 x 255 = x % 256 := by
    show IntKind.i64.wrap ((BitVec.ofInt 64 x &&& BitVec.ofInt 64 255).toNat : Int) = _
    rw [BitVec.toNat_and]
    have e : (BitVec.ofInt 64 255).toNat = 2 ^ 8 - 1 := by decide
    rw [e, Nat.and_two_pow_sub_one_eq_mod, BitVec.toNat_ofInt]
    have h : (((x % ((2 ^ 64 : Nat) : Int)).toNat % 2 ^ 8 : Nat) : Int) = x % 256 := by
      rw [Int.natCast_emod, Int.toNat_of_nonneg (Int.emod_nonneg _ (by decide))]
      omega
    rw [h]
    exact IntWalk.i64_in _ (by omega)
  exact ⟨(x % 256).toNat, by omega, by rw [e0]; omega⟩
/-- The place of a sum in a circle. -/
theorem at_sum (s n : Nat) (hn : 0 < n) (hs : s ≤ 9000000000) : (s : Int) % (n : Int) = ((s % n : Nat) : Int) ∧ IntKind.i64.wrap (Int.tmod (s : Int) (n : Int)) = ((s % n : Nat) : Int) := by
  have hk := Nat.mod_lt s hn
  have hle := Nat.mod_le s n
  have e : (s : Int) % (n : Int) = ((s % n : Nat) : Int) := (Int.natCast_emod s n).symm
  refine ⟨e, ?_⟩
  rw [Int.tmod_eq_emod_of_nonneg (Int.natCast_nonneg s), e]
  exact IntWalk.i64_in _ (by omega)
set_option maxHeartbeats 3200000 in
set_option maxRecDepth 100000 in
theorem turns_ok (w : World) (kv rv : Value) (keep : List Int) (rels : List RelV) (t : Int) (hk : G.SlL w enc1 kv keep) (hr : G.SlL w encR rv rels) (hin : ∀ r ∈ rels, RelIn w r ∧ r.rows.length ≤ 1048576) (hkl : keep.length ≤ 1048576) (hrl : rels.length ≤ 1048576) :
    Calls Try.prog 6 #[kv, rv, .int .i64 t] w fun e w' => e = .returned (.bool true) ∧ BelS w w' := by
  obtain ⟨Ak, ck, rfl, _⟩ := id hk
  obtain ⟨Ar, cr, rfl, _⟩ := id hr
  have HA := Lib.hid (fun w => awake_ok w)
  have HV := Lib.hid (And.intro hk (And.intro hr hin))
  have HLI := Lib.hid (light_ok hr (fun r hr => by obtain ⟨A, c, h, _⟩ := (hin r hr).1.sl; exact ⟨A, c, h⟩) (by omega) (fun r hr => by have := (hin r hr).2; omega))
  clear hk hr hin
  go_enter Try.func6, Try.ntmps6
  go_wp2_with fail
  refine HLI.out.mono ?_
  rintro e w2 ⟨b, rfl, hb, rfl⟩
  have HB := Lib.hid hb
  clear hb
  cases b
  · go_wp2_with fail
    refine (HA.out _).mono ?_
    rintro e w5 ⟨rfl, hb5⟩
    go_wp2
    go_ret
    exact ⟨rfl, hb5⟩
  · by_cases h40 : keep.length ≤ 40
    case neg =>
      go_wp2_with fail
      refine (HA.out _).mono ?_
      rintro e w5 ⟨rfl, hb5⟩
      go_wp2
      go_ret
      exact ⟨rfl, hb5⟩
    have HLR : rels.length ≤ 8 := by have := (HB.out rfl).len; unfold sizesR at this; rw [List.length_map] at this; exact this
    obtain ⟨nr, hnr⟩ : ∃ n, rels.length = n := ⟨_, rfl⟩
    obtain ⟨nk, hnk⟩ : ∃ n, keep.length = n := ⟨_, rfl⟩
    rw [hnr] at HLR HV ⊢
    rw [hnk] at h40 HV ⊢
    have HN := Lib.hid (And.intro hnr hnk)
    have hd40 : decide ((40 : Int) < (nk : Int)) = false := by simp; omega
    have hnrI : (nr : Int) ≤ 8 := by omega
    obtain ⟨r1, hr1, ha1⟩ := and8 t
    obtain ⟨r2, hr2, ha2⟩ := and8 (t / 256)
    clear hnr hnk HB HLI hkl hrl
    go_wp2_with fail
    go_loopg [7, 8] (nr + 1) (fun g s7 s8 wr => ∃ (i : Nat) (os : List RelS), i ≤ nr ∧ nr - i < g ∧ s8 = .int .i64 i ∧ Ot w wr s7 os ∧ IsOth rels (os.map RelS.toV) r1 r2 i)
    case atStart => exact ⟨0, [], by omega, by omega, rfl, ot_nil w, IsOth.nil _ _ _⟩
    case round =>
      obtain ⟨i, os, hi, hg, rfl, hot, hio⟩ := hrel
      have HO := Lib.hid (And.intro hot hio)
      clear hot hio
      by_cases hlt : i < nr
      · have hd : decide ((i : Int) < (nr : Int)) = true := by simp; omega
        have hd' : decide (i < nr) = true := by simp; omega
        obtain ⟨s, hs⟩ : ∃ s : Nat, i + r1 = s := ⟨_, rfl⟩
        have hsum : (i : Int) + (r1 : Int) = (s : Int) := by omega
        obtain ⟨hm1, hm2⟩ := at_sum s nr (by omega) (by omega)
        obtain ⟨k, hk⟩ : ∃ k, s % nr = k := ⟨_, rfl⟩
        have hkn : k < nr := by rw [← hk]; exact Nat.mod_lt _ (by omega)
        rw [hk] at hm1 hm2
        have hknI : (k : Int) < (nr : Int) := by omega
        obtain ⟨r, hr⟩ : ∃ r, rels.getD k default = r := ⟨_, rfl⟩
        have hrm : r ∈ rels := by rw [← hr, getD_lt _ _ (by have := HN.out.1; omega)]; exact List.getElem_mem _
        obtain ⟨b, off, c', hv', hb, y0, y1, y2⟩ := rel_at (show G.SlL w encR (.slice Ar nr cr) rels from HV.out.2.1) k (by have := HN.out.1; omega)
        injection hv' with e1 e2 e3
        subst e1
        rw [hr] at y0 y1 y2
        obtain ⟨A2, c2, hrv, _⟩ := id (HV.out.2.2 r hrm).1.sl
        have hsl := (HV.out.2.2 r hrm).1.sl
        have htop := (HV.out.2.2 r hrm).1.top
        have hlen := (HV.out.2.2 r hrm).2
        rw [hrv] at y2 hsl
        obtain ⟨rA, rB, rv', rows⟩ := r
        dsimp only at y0 y1 y2 hsl htop hlen hrv
        obtain ⟨nw, hnw⟩ : ∃ n, rows.length = n := ⟨_, rfl⟩
        rw [hnw] at y2 hsl hlen
        have y0 := HO.out.1.below.cell y0
        have y1 := HO.out.1.below.cell y1
        have y2 := HO.out.1.below.cell y2
        have hsl := hsl.below HO.out.1.below
        have HR := Lib.hid (And.intro hs (And.intro hk (And.intro hr (And.intro hsl (And.intro htop hnw)))))
        have hnwI : (nw : Int) ≤ 1048576 := by omega
        clear hs hk hr hrm hb hrv hsl htop hnw e2 e3
        obtain ⟨W0, rfl⟩ : ∃ x, x = wr := ⟨wr, rfl⟩
        go_wp2_with fail
        have hit := it_new W0 rA rB (.slice A2 nw c2)
        generalize (W0.alloc (.cells #[.int .i64 rA, .int .i64 rB, .slice A2 nw c2] 35)).alloc (.cells #[.int .i64 rB, .int .i64 rA, .slice none 0 0] 35) = Wb at hit ⊢
        have HIT := Lib.hid hit
        clear hit
        go_loopg [11] (2 * nw + 1) (fun g s11 wy => ∃ (j : Nat) (z : SV), j ≤ 2 * nw ∧ 2 * nw - j < g ∧ s11 = .int .i64 j ∧ It W0 wy rA rB (.slice A2 nw c2) z (turnRows rows r2 j))
        case atStart => exact ⟨0, svd, by omega, by omega, rfl, HIT.out⟩
        case round =>
          clear HIT
          obtain ⟨j, z, hj, hg2, rfl, hit⟩ := hrel
          have HIT := Lib.hid hit
          have x2 : wr.cell? ⟨W0.heap.size, 2, none⟩ = some (.slice A2 nw c2) := (heap_cell hit.x 2).trans rfl
          clear hit
          by_cases hlt2 : j < 2 * nw
          · have hd2 : decide ((j : Int) < 2 * (nw : Int)) = true := by simp; omega
            have hjI : (j : Int) < 2 * (nw : Int) := by omega
            obtain ⟨s2, hs2⟩ : ∃ s : Nat, j + r2 = s := ⟨_, rfl⟩
            have hsum2 : (j : Int) + (r2 : Int) = (s2 : Int) := by omega
            obtain ⟨hm3, hm4⟩ := at_sum s2 nw (by omega) (by omega)
            obtain ⟨k2, hk2⟩ : ∃ k, s2 % nw = k := ⟨_, rfl⟩
            have hkn2 : k2 < nw := by rw [← hk2]; exact Nat.mod_lt _ (by omega)
            rw [hk2] at hm3 hm4
            have hknI2 : (k2 : Int) < (nw : Int) := by omega
            obtain ⟨pb, poff, rfl, z0, z1⟩ := pair_at (HR.out.2.2.2.1.below HIT.out.below) k2 (by have := HR.out.2.2.2.2.2; omega)
            obtain ⟨⟨p, q⟩, hpq⟩ : ∃ pq, rows.getD k2 (0, 0) = pq := ⟨_, rfl⟩
            rw [hpq] at z0 z1
            dsimp only at z0 z1
            have HPQ := Lib.hid (show turnRows rows r2 (j + 1) = turnRows rows r2 j ++ [(q, p)] by
              rw [turnRows_next, HR.out.2.2.2.2.2, hs2, hk2, hpq]; rfl)
            have hm5 : IntKind.i64.wrap (Int.tmod (s2 : Int) (nw : Int)) = (k2 : Int) := hm4
            have hnz1 : ¬ (nw : Int) = 0 := by omega
            have hnz2 : ¬ nw = 0 := by omega
            have hnz3 : ((nw : Int) == 0) = false := by simp; omega
            have hw0 : IntKind.i64.wrap ((j : Int) + (r2 : Int)) = (s2 : Int) := by rw [hsum2]; exact IntWalk.i64_in _ (by omega)
            have hw1 : IntKind.i64.wrap (s2 : Int) = (s2 : Int) := IntWalk.i64_in _ (by omega)
            have hw2 : IntKind.i64.wrap (k2 : Int) = (k2 : Int) := IntWalk.i64_in _ (by omega)
            have hw3 : IntKind.i64.wrap (Int.tmod ((j : Int) + (r2 : Int)) (nw : Int)) = (k2 : Int) := by rw [hsum2]; exact hm4
            have hw4 : Int.tmod ((j : Int) + (r2 : Int)) (nw : Int) = (k2 : Int) := by rw [hsum2, Int.tmod_eq_emod_of_nonneg (Int.natCast_nonneg s2)]; exact hm3
            have hw5 : ((j : Int) + (r2 : Int)) % (nw : Int) = (k2 : Int) := by rw [hsum2]; exact hm3
            have hm6 : Int.tmod (s2 : Int) (nw : Int) = (k2 : Int) := by rw [Int.tmod_eq_emod_of_nonneg (Int.natCast_nonneg s2)]; exact hm3
            have hm7 : s2 % nw = k2 := hk2
            clear hs2 hk2 hpq hm4
            go_upto_region 12 with fail
            go_cut [12] from 47 to 77 (fun s12 wx => Px wr wx (p, q) s12)
            case first =>
              have HBZ := Lib.hid (BelS.refl wr)
              go_region_held3 (fun W => W.cell? ⟨W0.heap.size, 2, none⟩ = some (.slice (some ⟨pb, poff, none⟩) nw c2) ∧ W.cell? ⟨pb, poff + k2 * 2, none⟩ = some (.int .i64 p) ∧ W.cell? ⟨pb, poff + k2 * 2 + 1, none⟩ = some (.int .i64 q)) (with_reducible (first | exact ⟨x2, z0, z1⟩ | exact bel3 (BelS.refl wr).drew x2 z0 z1 | exact bel3 ((BelS.refl wr).alloc _) x2 z0 z1 | exact bel3 ((BelS.refl wr).alloc _).drew x2 z0 z1 | exact bel3 ((BelS.refl wr).drew.alloc _) x2 z0 z1 | exact bel3 (BelS.set ((BelS.refl wr).alloc _) (Nat.le_refl _) _ _) x2 z0 z1 | exact bel3 (BelS.set (BelS.set ((BelS.refl wr).alloc _) (Nat.le_refl _) _ _) (Nat.le_refl _) _ _) x2 z0 z1 | exact bel3 (BelS.set ((BelS.refl wr).alloc _).drew (Nat.le_refl _) _ _) x2 z0 z1 | exact bel3 (BelS.set (BelS.set ((BelS.refl wr).alloc _).drew (Nat.le_refl _) _ _) (Nat.le_refl _) _ _) x2 z0 z1)) (fail)
              all_goals
                go_wp2_with fail
                go_meet
                go_light
                first
                  | exact (pxA wr p q).drew
                  | exact pxA wr p q
                  | exact pxB wr p q _ _
                  | exact (pxB wr p q _ _).drew
            case rest =>
              obtain ⟨pc, rfl, hbc, u0, u1⟩ := hcut
              dsimp only at u0 u1
              have HIC := Lib.hid (HIT.out.more hbc)
              have yv := (heap_cell HIC.out.y 2).trans (show _ = some (.slice z.A z.n z.c) from rfl)
              have HLEN := Lib.hid (show (turnRows rows r2 j).length ≤ 2097152 by rw [turnRows_len]; omega)
              clear hbc x2 z0 z1
              go_wp2_with (at_builtin; (refine G.wp_app1 rfl _ _ 33 22 rfl _ 2 16 Try.underlying33 info_p2 rfl (by omega) (by omega) enc2 (fun _ => rfl) enc2_one (W0.heap.size + 1 + 1) (.slice z.A z.n z.c) (turnRows rows r2 j) (q, p) _ rfl rfl _ rfl rfl HIC.out.own (by have := (Array.getElem?_eq_some_iff.1 HIC.out.y).1; omega) (by have := HLEN.out; omega) ?_))
              intro v9 w9 ho9 hg9 _
              obtain ⟨A9, c9, rfl, _⟩ := ho9.form
              have hy9 := HIC.out.yblk hg9
              have yc9 := (heap_cell hy9 2).trans (show _ = some (.slice z.A z.n z.c) from rfl)
              have yf9 := heap_free hy9 2
              rw [List.length_append, List.length_singleton] at ho9
              have HI9 := Lib.hid (HIC.out.app (z1 := ⟨A9, (turnRows rows r2 j).length + 1, c9⟩) ho9 hg9)
              clear ho9 hg9 hy9 yv u0 u1
              go_wp2_with fail
              go_roundg (2 * nw - j)
              case measure => exact hg2
              case rel =>
                go_light
                exact ⟨j + 1, ⟨A9, (turnRows rows r2 j).length + 1, c9⟩, by omega, by omega, by go_num, by rw [HPQ.out]; exact HI9.out⟩
          · have hd2 : decide ((j : Int) < 2 * (nw : Int)) = false := by simp; omega
            have HJE := Lib.hid (show j = 2 * nw by omega)
            have yb0 := (heap_cell HIT.out.y 0).trans (show _ = some (.int .i64 rB) from rfl)
            have yb1 := (heap_cell HIT.out.y 1).trans (show _ = some (.int .i64 rA) from rfl)
            have yb2 := (heap_cell HIT.out.y 2).trans (show _ = some (.slice z.A z.n z.c) from rfl)
            have HOT := Lib.hid (HO.out.1.more HIT.out.below)
            have HAP := Lib.hid (show ApartV u7 (Value.slice z.A z.n z.c) ∧ ∀ b off n c, Value.slice z.A z.n z.c = .slice (some ⟨b, off, none⟩) n c → b < wr.heap.size by
              obtain ⟨Az, cz, hvz, _, _, hbz⟩ := HIT.out.own.form
              refine ⟨fun b off n c e e2 => ?_, fun b off n c e => ?_⟩
              · rw [hvz] at e
                injection e with e3
                obtain ⟨b2, e4, _, hge⟩ := hbz _ e3
                injection e4 with e5
                have := HO.out.1.own.lt_ b e2
                omega
              · rw [hvz] at e
                injection e with e3
                obtain ⟨b2, e4, hlt2, _⟩ := hbz _ e3
                injection e4 with e5
                omega)
            have HSL := Lib.hid (show G.SlL wr enc2 (Value.slice z.A z.n z.c) (turnRows rows r2 j) from HIT.out.own.sl)
            have HNX := Lib.hid (show IsOth rels ((os ++ [(⟨rB, rA, z, turnRows rows r2 j⟩ : RelS)]).map RelS.toV) r1 r2 (i + 1) by
              have h := HO.out.2.next (x := ⟨rA, rB, rv', rows⟩) (by rw [HN.out.1, HR.out.1, HR.out.2.1]; exact HR.out.2.2.1) (Value.slice z.A z.n z.c)
              dsimp only at h
              rw [HR.out.2.2.2.2.2, ← HJE.out] at h
              rw [List.map_append]
              exact h)
            have HLO := Lib.hid (show os.length ≤ 8 by have := HO.out.2.len; rw [List.length_map] at this; omega)
            go_wp2_with (at_builtin; (refine G.wp_app1 rfl _ _ 24 35 rfl _ 3 40 Try.underlying24 info_rel rfl (by omega) (by omega) encRS (fun _ => rfl) encRS_one w.heap.size u7 os ⟨rB, rA, z, turnRows rows r2 j⟩ _ rfl rfl _ rfl rfl HOT.out.own HOT.out.below.size (by have := HLO.out; omega) ?_))
            intro v9 w9 ho9 hg9 hv9
            have HO9 := Lib.hid (HOT.out.app (o := ⟨rB, rA, z, turnRows rows r2 j⟩) HSL.out HAP.out.1 HAP.out.2 ho9 hg9 hv9)
            clear ho9 hg9 hv9 yb0 yb1 yb2
            go_wp2_with fail
            go_roundg (nr - i)
            case measure => exact hg
            case rel =>
              go_light
              exact ⟨i + 1, os ++ [⟨rB, rA, z, turnRows rows r2 j⟩], by omega, by omega, by go_num, HO9.out, HNX.out⟩
      · obtain rfl : i = nr := by omega
        have hd : decide ((i : Int) < (i : Int)) = false := by simp
        obtain ⟨A7, c7, rfl, _⟩ := HO.out.1.own.form
        have hlo : os.length = i := by have := HO.out.2.len; rw [List.length_map] at this; exact this
        have hsl7 := sl_toV HO.out.1.own.sl
        rw [hlo] at hsl7 ⊢
        have HSL7 := Lib.hid hsl7
        have HIO := Lib.hid (show IsOth rels (os.map RelS.toV) r1 r2 rels.length by rw [HN.out.1]; exact HO.out.2)
        have HINN := Lib.hid HO.out.1.inn
        have HBW := Lib.hid HO.out.1.below
        have HSM := Lib.hid (fun (h : 0 < rels.length) => HIO.out.small h (N := 1048576) (fun r hr => ⟨(HV.out.2.2 r hr).1.top, (HV.out.2.2 r hr).2⟩))
        have HF := Lib.hid (jAns_fit (vars := 4) (rels := rels) (most := 65536) (show keep.length ≤ 1000 by have := HN.out.2; omega))
        have HJ1 := Lib.hid (fun (W : World) (hW : BelS w W) => join_ok 4 65536 (.slice Ak nk ck) (.slice Ar i cr) keep rels (HV.out.1.below hW) (HV.out.2.1.below hW) (fun r hr => (HV.out.2.2 r hr).1.more hW) (by have := HN.out.2; omega) (by have := HN.out.1; omega) (fun r hr => by have := (HV.out.2.2 r hr).2; omega))
        have HJ2 := Lib.hid (fun (W : World) (hW : BelS wr W) => join_ok 4 65536 (.slice Ak nk ck) (.slice A7 i c7) keep (os.map RelS.toV) (HV.out.1.below (HBW.out.then hW)) (HSL7.out.below hW) (fun r hr => by
          obtain ⟨o, ho, rfl⟩ := List.mem_map.1 hr
          have hpos : 0 < rels.length := by
            have h1 := HIO.out.len
            have h2 := List.length_pos_of_mem hr
            omega
          exact ⟨(HINN.out o ho).below hW, (HSM.out hpos _ hr).1⟩) (by have := HN.out.2; omega) (by have := HIO.out.len; have := HN.out.1; omega) (fun r hr => by
          have hpos : 0 < rels.length := by
            have h1 := HIO.out.len
            have h2 := List.length_pos_of_mem hr
            omega
          have := (HSM.out hpos _ hr).2
          omega))
        have HANS2 := Lib.hid (HIO.out.ans (vars := 4) (most := 65536) (keep := keep))
        clear hlo hsl7 HO hi hg hlt
        go_wp2_with fail
        refine (HJ1.out _ HBW.out).mono ?_
        rintro e w3 hp3
        obtain ⟨A3, c3, rfl, hb3, ho3⟩ := jPost_ans hp3
        have HB3 := Lib.hid hb3
        have HO3 := Lib.hid ho3
        clear hp3 hb3 ho3
        generalize hans : jAns 4 keep rels 65536 = ans at HF HO3 HANS2 ⊢
        obtain ⟨J, code⟩ := ans
        clear hans
        dsimp only at HF HO3 ⊢
        obtain ⟨nj, hnj⟩ : ∃ n, J.length = n := ⟨_, rfl⟩
        rw [hnj]
        have HNJ := Lib.hid hnj
        clear hnj
        go_wp2_with fail
        refine (HJ2.out _ HB3.out).mono ?_
        rintro e w4 hp4
        obtain ⟨A4, c4, rfl, hb4, ho4⟩ := jPost_ans hp4
        rw [HANS2.out] at ho4 ⊢
        dsimp only at ho4 ⊢
        have HB4 := Lib.hid ((HBW.out.then HB3.out).then hb4)
        have HO3' := Lib.hid (HO3.out.more hb4)
        have HO4 := Lib.hid ho4
        clear hp4 hb4 ho4
        rw [HNJ.out]
        have HS := Lib.hid (same_ok HO3'.out HO4.out (by have := HF.out.1; omega) (by have := HF.out.1; omega) (fun r hr => by have := HF.out.2 r hr; omega) (fun r hr => by have := HF.out.2 r hr; omega))
        rw [HNJ.out] at HS
        go_wp2_with fail
        refine HS.out.mono ?_
        rintro e w5 ⟨he, q, hq⟩
        obtain rfl : e = .returned (.bool true) := by simpa using he
        clear he
        have HB5 := Lib.hid (show BelS w w5 by rw [hq]; exact HB4.out.drewN q)
        clear hq
        go_wp2_with fail
        refine (HA.out _).mono ?_
        rintro e w6 ⟨rfl, hb6⟩
        have HB6 := Lib.hid (HB5.out.then hb6)
        clear hb6
        go_wp2
        go_ret
        exact ⟨rfl, HB6.out⟩
end Go.Proofs.Ytejinhnmabnomaa.Lf
