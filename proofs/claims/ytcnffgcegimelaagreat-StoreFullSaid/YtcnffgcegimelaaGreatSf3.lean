/-
  The law StoreFull, walked. Conditions: none.
-/
import Derived.Test.YtcnffgcegimelaaGreatKb
import Derived.Test.YtcnffgcegimelaaGreatKa
import Derived.Laws.IdiomStrings
import Derived.BigQuiet
import Derived.Deep.QuietTactic
namespace Go.Proofs.YtcnffgcegimelaaGreat.So
open Go.Deep Go.RowKit Go.Proofs.YtcnffgcegimelaaGreat.Mp Go.Proofs.YtcnffgcegimelaaGreat.Wd Go.Proofs.YtcnffgcegimelaaGreat.Pm Go.Proofs.YtcnffgcegimelaaGreat.Pw

theorem and3 (x : Int) : ∃ m : Nat, m ≤ 3 ∧ bits .and .i64 x 3 = (m : Int) := by
  have h : ((BitVec.ofInt 64 x &&& BitVec.ofInt 64 3).toNat : Int) < 4 := by
    rw [BitVec.toNat_and]
    have : (BitVec.ofInt 64 x).toNat &&& (BitVec.ofInt 64 3).toNat ≤ (BitVec.ofInt 64 3).toNat := Nat.and_le_right
    have e : (BitVec.ofInt 64 3).toNat = 3 := rfl
    omega
  refine ⟨(BitVec.ofInt 64 x &&& BitVec.ofInt 64 3).toNat, by omega, ?_⟩
  show IntKind.i64.wrap ((BitVec.ofInt 64 x &&& BitVec.ofInt 64 3).toNat : Int) = _
  rw [IntKind.wrap_i64]
  omega
/-- A batch under way. -/
def preF (v i : Nat) : List Cng := (List.range i).map fun j => ⟨false, fctF (v * 64 + j)⟩
theorem preF_step (v i : Nat) : preF v (i + 1) = preF v i ++ [⟨false, fctF (v * 64 + i)⟩] := by
  unfold preF
  rw [List.range_succ, List.map_append, List.map_singleton]
theorem preF_len (v i : Nat) : (preF v i).length = i := by unfold preF; rw [List.length_map, List.length_range]
theorem preF_all (v : Nat) : preF v 64 = batF v := rfl
theorem lastB_len (g : Bool) (k : Nat) : (lastB g k).length ≤ k + 1 := by
  unfold lastB goneB
  rw [List.length_append, List.length_map, List.length_range]
  cases g <;> simp <;> omega
/-- What the loop over batches keeps. -/
structure FullK (p : Nat) (W wr : World) (k : SW) (log : List (List Cng)) : Prop where
  kt : At p W.heap.size wr k log
  be : Below W.heap.size W wr
theorem FullK.below {p : Nat} {W wr w' : World} {k : SW} {log : List (List Cng)} (h : FullK p W wr k log) (b : Below wr.heap.size wr w') : FullK p W w' (k.far wr) log := ⟨h.kt.below b, h.be.trans (b.mono h.be.size)⟩
theorem u8i {m : Nat} (h : m < 256) : ((m.toUInt8.toNat : Nat) : Int) = (m : Int) := by
  have : m.toUInt8.toNat = m := by
    simp only [Nat.toUInt8, UInt8.toNat_ofNat']
    omega
  rw [this]
/-- A row that the law owns, as a slice that the store does not touch. -/
theorem own_held {W9 wx : World} {k : SW} {v : Value} {l : List Cng} (h : G.OwnL wx W9.heap.size 40 4 encC v l) (hs : G.SlL wx encC v l) : Held wx (k.far W9) encC v l :=
  ⟨hs, fun b off n c ev hn => by
    have h1 : v.ownBlock = some b := by rw [ev]; rfl
    have h2 := h.lt_ b h1
    have h3 := h.ge b h1
    refine ⟨h2, ?_⟩
    show 7 ≤ (if b < W9.heap.size then k.col b else 8)
    rw [if_neg (by omega)]; omega⟩
theorem conv_bytes (W : World) (l : List UInt8) (cs : Array Value) (hc : cs.toList = l.map (fun b => Value.int .u8 (b.toNat : Int))) : (convert 44 9 (.slice (some ⟨W.heap.size, 0, none⟩) l.length l.length)).run Tryz.prog (W.alloc (.cells cs 5 (0, 0))) = .ok (.string ⟨l.toArray⟩) (W.alloc (.cells cs 5 (0, 0))) := by
  refine run_convert_bytes_back _ _ _ 5 _ _ l Tryz.underlying44 Tryz.underlying5 Tryz.underlying9 fun j hj => ?_
  rw [Addr.add_lit, Nat.zero_add, Ck.new_cell, ← Array.getElem?_toList, hc, List.getElem?_map, List.getElem?_eq_getElem hj]
  rfl
theorem conv3 (W : World) (x y z : UInt8) : (convert 44 9 (.slice (some ⟨W.heap.size, 0, none⟩) 3 3)).run Tryz.prog (W.alloc (.cells #[.int .u8 (x.toNat : Int), .int .u8 (y.toNat : Int), .int .u8 (z.toNat : Int)] 5 (0, 0))) = .ok (.string ⟨#[x, y, z]⟩) (W.alloc (.cells #[.int .u8 (x.toNat : Int), .int .u8 (y.toNat : Int), .int .u8 (z.toNat : Int)] 5 (0, 0))) := conv_bytes W [x, y, z] _ rfl
theorem conv1 (W : World) (x : UInt8) : (convert 44 9 (.slice (some ⟨W.heap.size, 0, none⟩) 1 1)).run Tryz.prog (W.alloc (.cells #[.int .u8 (x.toNat : Int)] 5 (0, 0))) = .ok (.string ⟨#[x]⟩) (W.alloc (.cells #[.int .u8 (x.toNat : Int)] 5 (0, 0))) := conv_bytes W [x] _ rfl
set_option maxRecDepth 100000 in
set_option maxHeartbeats 3200000 in
theorem full_ok (w : World) (more : Int) (gone : Bool) :
    Calls Tryz.prog 7 #[.int .i64 more, .bool gone] w fun e w' => e = .returned (.bool true) ∧ Below w.heap.size w w' := by
  obtain ⟨m3, hm3, hand⟩ := and3 more
  have HI := Lib.hid (show (Tryz.prog.info? 40).map (fun i => (i.zero, i.size, i.bytes)) = some (some (.agg #[.bool false, .string ByteArray.empty, .string ByteArray.empty, .string ByteArray.empty]), 4, 56) by kernel_rfl)
  go_enter Tryz.func7, Tryz.ntmps7
  go_wp2_with fail
  refine (new_law _).mono ?_
  rintro e w1 ⟨p, k1, rfl, hk1, hb1⟩
  have K1 := Lib.hid (show FullK p w w1 k1 (logF 0) from ⟨hk1, hb1⟩)
  clear hk1 hb1
  go_wp2_with fail
  go_loopg [6, 7] 65 (fun g s6 s7 wr => ∃ (v : Nat) (k : SW), v ≤ 64 ∧ 64 - v < g ∧ s6 = .int .i64 (v * 64 : Nat) ∧ s7 = .int .i64 (v + 1 : Nat) ∧ Hid (FullK p w wr k (logF v)))
  case atStart => exact ⟨0, k1, by omega, by omega, rfl, rfl, K1⟩
  case round =>
    obtain ⟨v, k, hv, hg, rfl, rfl, HW⟩ := hrel
    clear K1
    obtain ⟨W9, rfl⟩ : ∃ W9, W9 = wr := ⟨wr, rfl⟩
    obtain ⟨n0, hn0⟩ : ∃ n, v * 64 = n := ⟨_, rfl⟩
    obtain ⟨v1, hv1⟩ : ∃ n, v + 1 = n := ⟨_, rfl⟩
    rw [hn0, hv1]
    have hn4 : n0 ≤ 4096 := by omega
    have hv65 : v1 ≤ 65 := by omega
    have HE := Lib.hid (And.intro hn0 hv1)
    clear hn0 hv1
    by_cases hlt : v1 ≤ 64
    · have g1 : (v1 : Int) ≤ 64 := by omega
      have hn5 : n0 + 64 ≤ 4096 := by have := HE.out; omega
      go_wp2_with fail
      go_loopg [6, 8, 9] 65 (fun g s6 s8 s9 wx => ∃ (i : Nat), i ≤ 64 ∧ 64 - i < g ∧ s6 = .int .i64 (n0 + i : Nat) ∧ s9 = .int .i64 i ∧ Hid (G.OwnL wx W9.heap.size 40 4 encC s8 (preF v i) ∧ Below W9.heap.size W9 wx))
      case atStart => exact ⟨0, by omega, by omega, rfl, rfl, Lib.hid ⟨G.OwnL.nil _ _ _ _ _, Below.refl _ _⟩⟩
      case round =>
        rename_i hg1
        obtain ⟨i, hi, hg1, rfl, rfl, HX⟩ := hrel
        obtain ⟨n, hn⟩ : ∃ n, n0 + i = n := ⟨_, rfl⟩
        rw [hn]
        have HNN := Lib.hid hn
        have hn4' : n ≤ 4096 := by omega
        by_cases hin : i < 64
        · have hn6 : n < 4096 := by omega
          have n1 : (i : Int) < 64 := by omega
          have HST := Lib.hid (show preF v (i + 1) = preF v i ++ [⟨false, fctF n⟩] by rw [preF_step, show v * 64 + i = n by rw [HE.out.1]; exact HNN.out])
          have cv := conv3 wr (97 + n % 26).toUInt8 (97 + n / 26 % 26).toUInt8 (97 + n / 676).toUInt8
          rw [u8i (show 97 + n % 26 < 256 by omega), u8i (show 97 + n / 26 % 26 < 256 by omega), u8i (show 97 + n / 676 < 256 by omega)] at cv
          change _ = Result.ok (Value.string (nmF n)) _ at cv
          rw [show ((97 + n % 26 : Nat) : Int) = 97 + (n : Int) % 26 by omega, show ((97 + n / 26 % 26 : Nat) : Int) = 97 + (n : Int) / 26 % 26 by omega, show ((97 + n / 676 : Nat) : Int) = 97 + (n : Int) / 676 by omega] at cv
          obtain ⟨nm, hnm⟩ : ∃ nm, nmF n = nm := ⟨_, rfl⟩
          rw [hnm] at cv
          have HNM := Lib.hid hnm
          obtain ⟨wb, hwb⟩ : ∃ x, wr.alloc (.cells #[.int .u8 (97 + (n : Int) % 26), .int .u8 (97 + (n : Int) / 26 % 26), .int .u8 (97 + (n : Int) / 676)] 5 (0, 0)) = x := ⟨_, rfl⟩
          have HWB := Lib.hid (show G.OwnL wb W9.heap.size 40 4 encC u8 (preF v i) ∧ Below W9.heap.size W9 wb by
            rw [← hwb]
            exact ⟨HX.out.1.below ((Below.refl _ wr).alloc (Nat.le_refl _) _), HX.out.2.alloc HX.out.2.size _⟩)
          rw [hwb] at cv
          clear hn hnm
          have HC := Lib.hid (show (⟨nm, ⟨#[112]⟩, ⟨#[111]⟩⟩ : Tri) = fctF n by rw [← HNM.out]; rfl)
          go_wp2_with (at_builtin; refine G.wp_app1 rfl _ _ 28 40 rfl _ 4 56 Tryz.underlying28 HI.out rfl (by omega) (by omega) encC encC_len encC_one W9.heap.size u8 (preF v i) ⟨false, ⟨nm, ⟨#[112]⟩, ⟨#[111]⟩⟩⟩ _ rfl rfl _ rfl rfl HWB.out.1 HWB.out.2.size (by rw [preF_len]; omega) ?_; intro vv w5 ho5 hg5 hat5; have H5 := Lib.hid (And.intro ho5 (HWB.out.2.grown hg5 HWB.out.2.size (fun g e => HWB.out.1.ge g e))); clear ho5 hg5 hat5)
          have hn1 : (n : Int) + 1 = ((n0 + (i + 1) : Nat) : Int) := by have := HNN.out; omega
          have HN1 := Lib.hid hn1
          clear hn1
          go_roundg (64 - i)
          case measure => omega
          case rel => exact ⟨i + 1, by omega, by omega, by first | (rw [← HN1.out]; done) | (rw [← HN1.out]; go_num), by go_num, Lib.hid (by rw [HST.out, ← HC.out]; exact H5.out)⟩
        · have hie : i = 64 := by omega
          have HNN2 := Lib.hid (show n0 + 64 = n by rw [← hie]; exact HNN.out)
          have n1 : ¬ (i : Int) < 64 := by omega
          rw [hie] at HX
          clear hn
          have HSX := Lib.hid HX.out.1.sl
          obtain ⟨A8, c8, hv8, _⟩ := id HX.out.1.sl
          subst hv8
          rw [show (preF v 64).length = 64 from preF_len v 64] at HX HSX ⊢
          clear hie
          have KX := Lib.hid (HW.out.below HX.out.2)
          have V := Lib.hid (show Held wr (k.far W9) encC (.slice A8 64 c8) (batF v) from own_held HX.out.1 HSX.out)
          have HAP := Lib.hid (show applyE (allL (logF v)) (logF v).length (v1 : Int) (batF v) = 0 by
            have h5 := full_apply (v := v) (by have := HE.out.2; omega)
            rw [← HE.out.2]
            exact h5)
          go_wp2_with fail
          refine (apply_law KX.out.kt (v1 : Int) V.out (by rw [logF_len]; omega) HAP.out (log' := logF v ++ [batF v]) (log_one HAP.out)).mono ?_
          rintro e w4 ⟨k4, rfl, hk4, hs4⟩
          have K4 := Lib.hid (show FullK p w w4 k4 (logF (v + 1)) by rw [logF_step]; exact ⟨hk4, KX.out.kt.since hs4 KX.out.be (Nat.le_refl _)⟩)
          clear hk4 hs4
          go_wp2
          go_roundg (64 - v)
          case measure => have := HE.out.2; omega
          case rel => exact ⟨v + 1, k4, by have := HE.out.2; omega, by have := HE.out.2; omega, by have h1 := HE.out.1; have h2 := HNN2.out; rw [show (v + 1) * 64 = n by omega], by have h2 := HE.out.2; rw [h2]; first | rfl | go_num, K4⟩
    · have g1 : ¬ (v1 : Int) ≤ 64 := by omega
      have HV := Lib.hid (show v = 64 by have := HE.out.2; omega)
      rw [HV.out] at HW
      clear hv hg hn4
      cases gone with
      | false =>
        go_wp2_with fail
        have HO := Lib.hid (show G.OwnL W9 W9.heap.size 40 4 encC (.slice none 0 0) (lastB false 0) ∧ Below W9.heap.size W9 W9 from ⟨G.OwnL.nil _ _ _ _ _, Below.refl _ _⟩)
        go_loopg [10, 12] (m3 + 1) (fun g s10 s12 wx => ∃ i, i ≤ m3 ∧ m3 - i < g ∧ s12 = .int .i64 i ∧ Hid (G.OwnL wx W9.heap.size 40 4 encC s10 (lastB false i) ∧ Below W9.heap.size W9 wx))
        case atStart => exact ⟨0, by omega, by omega, rfl, HO⟩
        case round =>
          rename_i hg1
          obtain ⟨i, hi, hg1, rfl, HX⟩ := hrel
          clear HO
          by_cases hin : i < m3
          · have n1 : (i : Int) < (m3 : Int) := by omega
            have n0' : (0 : Int) ≤ (i : Int) := by omega
            have HST := Lib.hid (lastB_step false i)
            have HLE := Lib.hid (lastB_len false i)
            have cv := conv1 wr (97 + i).toUInt8
            rw [u8i (show 97 + i < 256 by omega), show ((97 + i : Nat) : Int) = 97 + (i : Int) by omega] at cv
            obtain ⟨ob, hob⟩ : ∃ ob : ByteArray, ⟨#[(97 + i).toUInt8]⟩ = ob := ⟨_, rfl⟩
            rw [hob] at cv
            have HC := Lib.hid (show (⟨⟨#[110, 101, 119]⟩, ⟨#[112]⟩, ob⟩ : Tri) = newF i by rw [← hob]; rfl)
            obtain ⟨wb, hwb⟩ : ∃ x, wr.alloc (.cells #[.int .u8 (97 + (i : Int))] 5 (0, 0)) = x := ⟨_, rfl⟩
            have HWB := Lib.hid (show G.OwnL wb W9.heap.size 40 4 encC u10 (lastB false i) ∧ Below W9.heap.size W9 wb by
              rw [← hwb]
              exact ⟨HX.out.1.below ((Below.refl _ wr).alloc (Nat.le_refl _) _), HX.out.2.alloc HX.out.2.size _⟩)
            rw [hwb] at cv
            clear hob
            go_wp2_with (at_builtin; refine G.wp_app1 rfl _ _ 28 40 rfl _ 4 56 Tryz.underlying28 HI.out rfl (by omega) (by omega) encC encC_len encC_one W9.heap.size u10 (lastB false i) ⟨false, ⟨⟨#[110, 101, 119]⟩, ⟨#[112]⟩, ob⟩⟩ _ rfl rfl _ rfl rfl HWB.out.1 HWB.out.2.size (by have := HLE.out; omega) ?_; intro vv w5 ho5 hg5 hat5; have H5 := Lib.hid (And.intro ho5 (HWB.out.2.grown hg5 HWB.out.2.size (fun g e => HWB.out.1.ge g e))); clear ho5 hg5 hat5)
            go_roundg (m3 - i)
            case measure => omega
            case rel => exact ⟨i + 1, by omega, by omega, by go_num, Lib.hid (by rw [HST.out, ← HC.out]; exact H5.out)⟩
          · have hie : i = m3 := by omega
            subst hie
            have HSX := Lib.hid HX.out.1.sl
            obtain ⟨A8, c8, hv8, _⟩ := id HX.out.1.sl
            subst hv8
            have KX := Lib.hid (HW.out.below HX.out.2)
            have V := Lib.hid (show Held wr (k.far W9) encC (.slice A8 (lastB false i).length c8) (lastB false i) from own_held HX.out.1 HSX.out)
            clear HX HSX hin hg1
            have hi4 : i = 0 ∨ i = 1 ∨ i = 2 ∨ i = 3 := by omega
            obtain ⟨log', hlog⟩ : ∃ log', logA (logF 64) 65 (lastB false i) = log' := ⟨_, rfl⟩
            have HLG := Lib.hid hlog
            have HRM := Lib.hid (last_room false hm3 hlog)
            have HAP := Lib.hid (last_apply false hm3)
            have HLL := Lib.hid (show log'.length ≤ 4000 by
              rw [← hlog]
              unfold logA
              split
              · rw [List.length_append, logF_len, List.length_singleton]; omega
              · rw [logF_len]; omega)
            clear hlog
            generalize hnl : (lastB false i).length = nl at V ⊢
            clear hnl
            rcases hi4 with rfl | rfl | rfl | rfl
            · have HA2 := Lib.hid (show applyE (allL (logF 64)) (logF 64).length 65 (lastB false 0) = 0 from HAP.out.trans (by decide))
              have HR2 := Lib.hid (show decide (chkE (allL log') roomB = 0) = false from HRM.out.trans (by decide))
              clear HAP HRM
              go_wp2_with fail
              refine (apply_law KX.out.kt 65 V.out (by rw [logF_len]; omega) HA2.out HLG.out).mono ?_
              rintro e w5 ⟨k5, rfl, hk5, hs5⟩
              have K5 := Lib.hid (show FullK p w w5 k5 log' from ⟨hk5, KX.out.kt.since hs5 KX.out.be (Nat.le_refl _)⟩)
              clear hk5 hs5 KX V
              go_wp2_with fail
              have L6 := lit_law encC roomB (t := 40) (cs := #[.bool false, .string ⟨#[122, 122]⟩, .string ⟨#[112]⟩, .string ⟨#[111]⟩]) (n := 1) K5.out.kt (Below.refl _ _) rfl rfl
              refine (room_law L6.1 L6.2.2.sl).mono ?_
              rw [HR2.out]
              rintro e w6 ⟨rfl, hb6⟩
              have B6 := Lib.hid ((K5.out.be.trans (((Below.refl _ w5).alloc (Nat.le_refl _) _).mono K5.out.be.size)).trans (hb6.mono (Nat.le_trans K5.out.be.size (by rw [World.size_alloc]; omega))))
              clear hb6 L6
              go_wp2_with fail
              refine (awake_ok _).mono ?_
              rintro e w8 ⟨rfl, hb8⟩
              have B8 := Lib.hid (B6.out.trans (hb8.mono B6.out.size))
              clear hb8
              go_wp2
              go_ret
              exact ⟨rfl, B8.out⟩
            · have HA2 := Lib.hid (show applyE (allL (logF 64)) (logF 64).length 65 (lastB false 1) = 2 from HAP.out.trans (by decide))
              have HR2 := Lib.hid (show decide (chkE (allL log') roomB = 0) = false from HRM.out.trans (by decide))
              clear HAP HRM
              go_wp2_with fail
              refine (apply_law KX.out.kt 65 V.out (by rw [logF_len]; omega) HA2.out HLG.out).mono ?_
              rintro e w5 ⟨k5, rfl, hk5, hs5⟩
              have K5 := Lib.hid (show FullK p w w5 k5 log' from ⟨hk5, KX.out.kt.since hs5 KX.out.be (Nat.le_refl _)⟩)
              clear hk5 hs5 KX V
              go_wp2_with fail
              have L6 := lit_law encC roomB (t := 40) (cs := #[.bool false, .string ⟨#[122, 122]⟩, .string ⟨#[112]⟩, .string ⟨#[111]⟩]) (n := 1) K5.out.kt (Below.refl _ _) rfl rfl
              refine (room_law L6.1 L6.2.2.sl).mono ?_
              rw [HR2.out]
              rintro e w6 ⟨rfl, hb6⟩
              have B6 := Lib.hid ((K5.out.be.trans (((Below.refl _ w5).alloc (Nat.le_refl _) _).mono K5.out.be.size)).trans (hb6.mono (Nat.le_trans K5.out.be.size (by rw [World.size_alloc]; omega))))
              clear hb6 L6
              go_wp2_with fail
              refine (awake_ok _).mono ?_
              rintro e w8 ⟨rfl, hb8⟩
              have B8 := Lib.hid (B6.out.trans (hb8.mono B6.out.size))
              clear hb8
              go_wp2
              go_ret
              exact ⟨rfl, B8.out⟩
            · have HA2 := Lib.hid (show applyE (allL (logF 64)) (logF 64).length 65 (lastB false 2) = 2 from HAP.out.trans (by decide))
              have HR2 := Lib.hid (show decide (chkE (allL log') roomB = 0) = false from HRM.out.trans (by decide))
              clear HAP HRM
              go_wp2_with fail
              refine (apply_law KX.out.kt 65 V.out (by rw [logF_len]; omega) HA2.out HLG.out).mono ?_
              rintro e w5 ⟨k5, rfl, hk5, hs5⟩
              have K5 := Lib.hid (show FullK p w w5 k5 log' from ⟨hk5, KX.out.kt.since hs5 KX.out.be (Nat.le_refl _)⟩)
              clear hk5 hs5 KX V
              go_wp2_with fail
              have L6 := lit_law encC roomB (t := 40) (cs := #[.bool false, .string ⟨#[122, 122]⟩, .string ⟨#[112]⟩, .string ⟨#[111]⟩]) (n := 1) K5.out.kt (Below.refl _ _) rfl rfl
              refine (room_law L6.1 L6.2.2.sl).mono ?_
              rw [HR2.out]
              rintro e w6 ⟨rfl, hb6⟩
              have B6 := Lib.hid ((K5.out.be.trans (((Below.refl _ w5).alloc (Nat.le_refl _) _).mono K5.out.be.size)).trans (hb6.mono (Nat.le_trans K5.out.be.size (by rw [World.size_alloc]; omega))))
              clear hb6 L6
              go_wp2_with fail
              refine (awake_ok _).mono ?_
              rintro e w8 ⟨rfl, hb8⟩
              have B8 := Lib.hid (B6.out.trans (hb8.mono B6.out.size))
              clear hb8
              go_wp2
              go_ret
              exact ⟨rfl, B8.out⟩
            · have HA2 := Lib.hid (show applyE (allL (logF 64)) (logF 64).length 65 (lastB false 3) = 2 from HAP.out.trans (by decide))
              have HR2 := Lib.hid (show decide (chkE (allL log') roomB = 0) = false from HRM.out.trans (by decide))
              clear HAP HRM
              go_wp2_with fail
              refine (apply_law KX.out.kt 65 V.out (by rw [logF_len]; omega) HA2.out HLG.out).mono ?_
              rintro e w5 ⟨k5, rfl, hk5, hs5⟩
              have K5 := Lib.hid (show FullK p w w5 k5 log' from ⟨hk5, KX.out.kt.since hs5 KX.out.be (Nat.le_refl _)⟩)
              clear hk5 hs5 KX V
              go_wp2_with fail
              have L6 := lit_law encC roomB (t := 40) (cs := #[.bool false, .string ⟨#[122, 122]⟩, .string ⟨#[112]⟩, .string ⟨#[111]⟩]) (n := 1) K5.out.kt (Below.refl _ _) rfl rfl
              refine (room_law L6.1 L6.2.2.sl).mono ?_
              rw [HR2.out]
              rintro e w6 ⟨rfl, hb6⟩
              have B6 := Lib.hid ((K5.out.be.trans (((Below.refl _ w5).alloc (Nat.le_refl _) _).mono K5.out.be.size)).trans (hb6.mono (Nat.le_trans K5.out.be.size (by rw [World.size_alloc]; omega))))
              clear hb6 L6
              go_wp2_with fail
              refine (awake_ok _).mono ?_
              rintro e w8 ⟨rfl, hb8⟩
              have B8 := Lib.hid (B6.out.trans (hb8.mono B6.out.size))
              clear hb8
              go_wp2
              go_ret
              exact ⟨rfl, B8.out⟩
      | true =>
        have HC := Lib.hid (show (⟨true, ⟨⟨#[97, 97, 97]⟩, ⟨#[112]⟩, ⟨#[111]⟩⟩⟩ : Cng) = ⟨true, fctF 0⟩ from rfl)
        go_wp2_with (at_builtin; refine G.wp_app1 rfl _ _ 28 40 rfl _ 4 56 Tryz.underlying28 HI.out rfl (by omega) (by omega) encC encC_len encC_one W9.heap.size (.slice none 0 0) [] ⟨true, ⟨⟨#[97, 97, 97]⟩, ⟨#[112]⟩, ⟨#[111]⟩⟩⟩ _ rfl rfl _ rfl rfl (G.OwnL.nil _ _ _ _ _) (Nat.le_refl _) (by decide) ?_; intro vv w5 ho5 hg5 hat5; have HO := Lib.hid (show G.OwnL w5 W9.heap.size 40 4 encC vv (lastB true 0) ∧ Below W9.heap.size W9 w5 from ⟨ho5, (Below.refl _ W9).grown hg5 (Nat.le_refl _) (fun g e => by cases e)⟩); clear ho5 hg5 hat5)
        go_loopg [10, 12] (m3 + 1) (fun g s10 s12 wx => ∃ i, i ≤ m3 ∧ m3 - i < g ∧ s12 = .int .i64 i ∧ Hid (G.OwnL wx W9.heap.size 40 4 encC s10 (lastB true i) ∧ Below W9.heap.size W9 wx))
        case atStart => exact ⟨0, by omega, by omega, rfl, HO⟩
        case round =>
          rename_i hg1
          obtain ⟨i, hi, hg1, rfl, HX⟩ := hrel
          clear HO
          by_cases hin : i < m3
          · have n1 : (i : Int) < (m3 : Int) := by omega
            have n0' : (0 : Int) ≤ (i : Int) := by omega
            have HST := Lib.hid (lastB_step true i)
            have HLE := Lib.hid (lastB_len true i)
            have cv := conv1 wr (97 + i).toUInt8
            rw [u8i (show 97 + i < 256 by omega), show ((97 + i : Nat) : Int) = 97 + (i : Int) by omega] at cv
            obtain ⟨ob, hob⟩ : ∃ ob : ByteArray, ⟨#[(97 + i).toUInt8]⟩ = ob := ⟨_, rfl⟩
            rw [hob] at cv
            have HC := Lib.hid (show (⟨⟨#[110, 101, 119]⟩, ⟨#[112]⟩, ob⟩ : Tri) = newF i by rw [← hob]; rfl)
            obtain ⟨wb, hwb⟩ : ∃ x, wr.alloc (.cells #[.int .u8 (97 + (i : Int))] 5 (0, 0)) = x := ⟨_, rfl⟩
            have HWB := Lib.hid (show G.OwnL wb W9.heap.size 40 4 encC u10 (lastB true i) ∧ Below W9.heap.size W9 wb by
              rw [← hwb]
              exact ⟨HX.out.1.below ((Below.refl _ wr).alloc (Nat.le_refl _) _), HX.out.2.alloc HX.out.2.size _⟩)
            rw [hwb] at cv
            clear hob
            go_wp2_with (at_builtin; refine G.wp_app1 rfl _ _ 28 40 rfl _ 4 56 Tryz.underlying28 HI.out rfl (by omega) (by omega) encC encC_len encC_one W9.heap.size u10 (lastB true i) ⟨false, ⟨⟨#[110, 101, 119]⟩, ⟨#[112]⟩, ob⟩⟩ _ rfl rfl _ rfl rfl HWB.out.1 HWB.out.2.size (by have := HLE.out; omega) ?_; intro vv w5 ho5 hg5 hat5; have H5 := Lib.hid (And.intro ho5 (HWB.out.2.grown hg5 HWB.out.2.size (fun g e => HWB.out.1.ge g e))); clear ho5 hg5 hat5)
            go_roundg (m3 - i)
            case measure => omega
            case rel => exact ⟨i + 1, by omega, by omega, by go_num, Lib.hid (by rw [HST.out, ← HC.out]; exact H5.out)⟩
          · have hie : i = m3 := by omega
            subst hie
            have HSX := Lib.hid HX.out.1.sl
            obtain ⟨A8, c8, hv8, _⟩ := id HX.out.1.sl
            subst hv8
            have KX := Lib.hid (HW.out.below HX.out.2)
            have V := Lib.hid (show Held wr (k.far W9) encC (.slice A8 (lastB true i).length c8) (lastB true i) from own_held HX.out.1 HSX.out)
            clear HX HSX hin hg1
            have hi4 : i = 0 ∨ i = 1 ∨ i = 2 ∨ i = 3 := by omega
            obtain ⟨log', hlog⟩ : ∃ log', logA (logF 64) 65 (lastB true i) = log' := ⟨_, rfl⟩
            have HLG := Lib.hid hlog
            have HRM := Lib.hid (last_room true hm3 hlog)
            have HAP := Lib.hid (last_apply true hm3)
            have HLL := Lib.hid (show log'.length ≤ 4000 by
              rw [← hlog]
              unfold logA
              split
              · rw [List.length_append, logF_len, List.length_singleton]; omega
              · rw [logF_len]; omega)
            clear hlog
            generalize hnl : (lastB true i).length = nl at V ⊢
            clear hnl
            rcases hi4 with rfl | rfl | rfl | rfl
            · have HA2 := Lib.hid (show applyE (allL (logF 64)) (logF 64).length 65 (lastB true 0) = 0 from HAP.out.trans (by decide))
              have HR2 := Lib.hid (show decide (chkE (allL log') roomB = 0) = true from HRM.out.trans (by decide))
              clear HAP HRM
              go_wp2_with fail
              refine (apply_law KX.out.kt 65 V.out (by rw [logF_len]; omega) HA2.out HLG.out).mono ?_
              rintro e w5 ⟨k5, rfl, hk5, hs5⟩
              have K5 := Lib.hid (show FullK p w w5 k5 log' from ⟨hk5, KX.out.kt.since hs5 KX.out.be (Nat.le_refl _)⟩)
              clear hk5 hs5 KX V
              go_wp2_with fail
              have L6 := lit_law encC roomB (t := 40) (cs := #[.bool false, .string ⟨#[122, 122]⟩, .string ⟨#[112]⟩, .string ⟨#[111]⟩]) (n := 1) K5.out.kt (Below.refl _ _) rfl rfl
              refine (room_law L6.1 L6.2.2.sl).mono ?_
              rw [HR2.out]
              rintro e w6 ⟨rfl, hb6⟩
              have B6 := Lib.hid ((K5.out.be.trans (((Below.refl _ w5).alloc (Nat.le_refl _) _).mono K5.out.be.size)).trans (hb6.mono (Nat.le_trans K5.out.be.size (by rw [World.size_alloc]; omega))))
              clear hb6 L6
              go_wp2_with fail
              refine (awake_ok _).mono ?_
              rintro e w8 ⟨rfl, hb8⟩
              have B8 := Lib.hid (B6.out.trans (hb8.mono B6.out.size))
              clear hb8
              go_wp2
              go_ret
              exact ⟨rfl, B8.out⟩
            · have HA2 := Lib.hid (show applyE (allL (logF 64)) (logF 64).length 65 (lastB true 1) = 0 from HAP.out.trans (by decide))
              have HR2 := Lib.hid (show decide (chkE (allL log') roomB = 0) = false from HRM.out.trans (by decide))
              clear HAP HRM
              go_wp2_with fail
              refine (apply_law KX.out.kt 65 V.out (by rw [logF_len]; omega) HA2.out HLG.out).mono ?_
              rintro e w5 ⟨k5, rfl, hk5, hs5⟩
              have K5 := Lib.hid (show FullK p w w5 k5 log' from ⟨hk5, KX.out.kt.since hs5 KX.out.be (Nat.le_refl _)⟩)
              clear hk5 hs5 KX V
              go_wp2_with fail
              have L6 := lit_law encC roomB (t := 40) (cs := #[.bool false, .string ⟨#[122, 122]⟩, .string ⟨#[112]⟩, .string ⟨#[111]⟩]) (n := 1) K5.out.kt (Below.refl _ _) rfl rfl
              refine (room_law L6.1 L6.2.2.sl).mono ?_
              rw [HR2.out]
              rintro e w6 ⟨rfl, hb6⟩
              have B6 := Lib.hid ((K5.out.be.trans (((Below.refl _ w5).alloc (Nat.le_refl _) _).mono K5.out.be.size)).trans (hb6.mono (Nat.le_trans K5.out.be.size (by rw [World.size_alloc]; omega))))
              clear hb6 L6
              go_wp2_with fail
              refine (awake_ok _).mono ?_
              rintro e w8 ⟨rfl, hb8⟩
              have B8 := Lib.hid (B6.out.trans (hb8.mono B6.out.size))
              clear hb8
              go_wp2
              go_ret
              exact ⟨rfl, B8.out⟩
            · have HA2 := Lib.hid (show applyE (allL (logF 64)) (logF 64).length 65 (lastB true 2) = 2 from HAP.out.trans (by decide))
              have HR2 := Lib.hid (show decide (chkE (allL log') roomB = 0) = false from HRM.out.trans (by decide))
              clear HAP HRM
              go_wp2_with fail
              refine (apply_law KX.out.kt 65 V.out (by rw [logF_len]; omega) HA2.out HLG.out).mono ?_
              rintro e w5 ⟨k5, rfl, hk5, hs5⟩
              have K5 := Lib.hid (show FullK p w w5 k5 log' from ⟨hk5, KX.out.kt.since hs5 KX.out.be (Nat.le_refl _)⟩)
              clear hk5 hs5 KX V
              go_wp2_with fail
              have L6 := lit_law encC roomB (t := 40) (cs := #[.bool false, .string ⟨#[122, 122]⟩, .string ⟨#[112]⟩, .string ⟨#[111]⟩]) (n := 1) K5.out.kt (Below.refl _ _) rfl rfl
              refine (room_law L6.1 L6.2.2.sl).mono ?_
              rw [HR2.out]
              rintro e w6 ⟨rfl, hb6⟩
              have B6 := Lib.hid ((K5.out.be.trans (((Below.refl _ w5).alloc (Nat.le_refl _) _).mono K5.out.be.size)).trans (hb6.mono (Nat.le_trans K5.out.be.size (by rw [World.size_alloc]; omega))))
              clear hb6 L6
              go_wp2_with fail
              refine (awake_ok _).mono ?_
              rintro e w8 ⟨rfl, hb8⟩
              have B8 := Lib.hid (B6.out.trans (hb8.mono B6.out.size))
              clear hb8
              go_wp2
              go_ret
              exact ⟨rfl, B8.out⟩
            · have HA2 := Lib.hid (show applyE (allL (logF 64)) (logF 64).length 65 (lastB true 3) = 2 from HAP.out.trans (by decide))
              have HR2 := Lib.hid (show decide (chkE (allL log') roomB = 0) = false from HRM.out.trans (by decide))
              clear HAP HRM
              go_wp2_with fail
              refine (apply_law KX.out.kt 65 V.out (by rw [logF_len]; omega) HA2.out HLG.out).mono ?_
              rintro e w5 ⟨k5, rfl, hk5, hs5⟩
              have K5 := Lib.hid (show FullK p w w5 k5 log' from ⟨hk5, KX.out.kt.since hs5 KX.out.be (Nat.le_refl _)⟩)
              clear hk5 hs5 KX V
              go_wp2_with fail
              have L6 := lit_law encC roomB (t := 40) (cs := #[.bool false, .string ⟨#[122, 122]⟩, .string ⟨#[112]⟩, .string ⟨#[111]⟩]) (n := 1) K5.out.kt (Below.refl _ _) rfl rfl
              refine (room_law L6.1 L6.2.2.sl).mono ?_
              rw [HR2.out]
              rintro e w6 ⟨rfl, hb6⟩
              have B6 := Lib.hid ((K5.out.be.trans (((Below.refl _ w5).alloc (Nat.le_refl _) _).mono K5.out.be.size)).trans (hb6.mono (Nat.le_trans K5.out.be.size (by rw [World.size_alloc]; omega))))
              clear hb6 L6
              go_wp2_with fail
              refine (awake_ok _).mono ?_
              rintro e w8 ⟨rfl, hb8⟩
              have B8 := Lib.hid (B6.out.trans (hb8.mono B6.out.size))
              clear hb8
              go_wp2
              go_ret
              exact ⟨rfl, B8.out⟩
end Go.Proofs.YtcnffgcegimelaaGreat.So
