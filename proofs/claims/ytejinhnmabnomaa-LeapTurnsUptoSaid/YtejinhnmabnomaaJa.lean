/-
  Joined by wip/tools/merge.py from the texts Gh Ld0 Ld1. Conditions: as each says.
-/
import Derived.OrdersHeld
import Derived.StillTail
import Derived.Deep.RegionHeld3
import Derived.Lib.Hide
import Derived.Test.YtejinhnmabnomaaJ9
import Derived.Deep.CutRange
import Derived.Deep.AppendLies
import Derived.Deep.LoopGhost
import Derived.Deep.Light
import Derived.Deep.QuietTactic
import Derived.BigQuiet
section
/-
  A region that draws its order and ends in an operation that waits for all others: its loads are taken first although the last operation writes their cells. For any program. Conditions: as each says.
-/
namespace Go.Proofs.Ytejinhnmabnomaa.Gh
open Go.RowKit
section
variable {P : Program} {ops : Array Oper} {Q : Exit → Act → World → Prop} {md : Region.Mode} {S : World → Prop} {n : Nat}

/-- Whatever order is picked, and S holds behind each operation but number n. -/
def wpAnyG (P : Program) (md : Region.Mode) (ops : Array Oper) (Q : Exit → Act → World → Prop) (S : World → Prop) (n : Nat) : Nat → Array Bool → Act → World → Prop
  | 0, listed, a, w => Region.ready md ops listed = [] ∧ Q .normal a w
  | fuel + 1, listed, a, w =>
    (Region.ready md ops listed = [] → Q .normal a w) ∧
    ∀ i ∈ Region.ready md ops listed, wpOp P ops Q i (fun a' w' => (i ≠ n → S w') ∧ wpAnyG P md ops Q S n fuel (listed.setIfInBounds i true) a' w') a w
theorem wpAny_of_G : ∀ (fuel : Nat) (listed : Array Bool) (a : Act) (w : World), wpAnyG P md ops Q S n fuel listed a w → wpAny P md ops Q fuel listed a w
  | 0, _, _, _, h => h
  | fuel + 1, _, _, _, h => ⟨h.1, fun i hi => wpOp_mono (fun a' w' h' => wpAny_of_G fuel _ a' w' h'.2) (h.2 i hi)⟩

theorem first_G {i : Nat} {oi : Oper} {v : Value} (hi : ops[i]? = some oi) (hsel : ∀ (j : Nat) (o : Oper) cs b, ops[j]? = some o → o.op ≠ .select cs b)
    (hQ : ∀ c a w, Q (.panic c) (a.put oi.dst v) w → Q (.panic c) a w) (hs : Region.sinkB md ops n = true) (hc : Region.chainB md ops n = true) (hn : n < ops.size) (hin : i < n) :
    ∀ (fuel : Nat) (listed : Array Bool) (a : Act) (w : World), HeadInv md ops n listed →
      (∀ j oj, ops[j]? = some oj → j ≠ i → listed.getD j true = false → (∀ e ∈ oj.after, Region.binds md e = true → e.on ≠ i) → oi.apart ops oj = true) →
      i ∈ Region.ready md ops listed → YieldsIf P ops S oi v a → S w →
      wpAnyG P md ops Q S n fuel (listed.setIfInBounds i true) (a.put oi.dst v) w → wpAnyG P md ops Q S n (fuel + 1) listed a w := by
  intro fuel
  induction fuel with
  | zero =>
    intro listed a w _ hfree hr hy hS H
    refine ⟨fun h => (by rw [h] at hr; cases hr), fun j hj => ?_⟩
    by_cases hji : j = i
    · subst hji; exact hy.wpOp hi hS ⟨fun _ => hS, H⟩
    · have := ready_mono hj hji
      rw [H.1] at this
      cases this
  | succ fuel ih =>
    intro listed a w inv hfree hr hy hS H
    have hun := (mem_ready.1 hr).1
    refine ⟨fun h => (by rw [h] at hr; cases hr), fun j hj => ?_⟩
    have hjn : j < n := by
      rcases Nat.lt_or_ge j n with h | h
      · exact h
      · exact absurd hj (tail_waits hs hc hn inv _ i rfl hin hun j h)
    by_cases hji : j = i
    · subst hji; exact hy.wpOp hi hS ⟨fun _ => hS, H⟩
    · have h1 := H.2 j (ready_mono hj hji)
      obtain ⟨hjun, oj, hoj, hall⟩ := mem_ready.1 hj
      have hnot : ∀ e ∈ oj.after, Region.binds md e = true → e.on ≠ i := fun e he hb heq => by
        have h1 := hall e he hb
        rw [heq, getD_both hun] at h1
        cases h1
      have h2 := wpOp_putIf hoj (hfree j oj hoj hji hjun hnot) (fun cs b => hsel i oi cs b hi) (fun cs b => hsel j oj cs b hoj) hQ hy h1
      have hfree' : ∀ k ok, ops[k]? = some ok → k ≠ i → (listed.setIfInBounds j true).getD k true = false →
          (∀ e ∈ ok.after, Region.binds md e = true → e.on ≠ i) → oi.apart ops ok = true := fun k ok hk hki hun hno => by
        refine hfree k ok hk hki ?_ hno
        by_cases hjk : j = k
        · subst hjk; exact hjun
        · rw [getD_set_ne true hjk] at hun; exact hun
      refine wpOp_mono (fun a' w' h3 => ⟨fun h => h3.2.1 h, ih (listed.setIfInBounds j true) a' w' (inv.set hj hjn) hfree' (ready_mono hr (Ne.symm hji)) h3.1 (h3.2.1 (by omega)) ?_⟩) h2
      rw [Array.setIfInBounds_comm _ _ hji]
      exact h3.2.2

/-- What may have come up is closed, and the last has not. -/
def invB (md : Region.Mode) (ops : Array Oper) (n : Nat) (listed : Array Bool) : Bool :=
  decide (listed.size = ops.size) && decide (n + 1 = ops.size) && !listed.getD n true && (List.range ops.size).all fun j => !listed.getD j false || ((ops[j]?).map fun o => o.after.all fun e => !Region.binds md e || listed.getD e.on false).getD true
theorem inv_of {listed : Array Bool} (h : invB md ops n listed = true) : HeadInv md ops n listed ∧ n < ops.size ∧ Region.chainB md ops n = true := by
  unfold invB at h
  simp only [Bool.and_eq_true, decide_eq_true_eq, Bool.not_eq_true', List.all_eq_true, List.mem_range, Bool.or_eq_true] at h
  obtain ⟨⟨⟨h1, h2⟩, h3⟩, h4⟩ := h
  refine ⟨⟨h1, fun j oj hj hl e he hb => ?_, fun t ht1 ht2 => ?_⟩, by omega, ?_⟩
  · rcases h4 j (Array.getElem?_eq_some_iff.1 hj).1 with h | h
    · rw [h] at hl; cases hl
    · rw [hj] at h
      simp only [Option.map_some, Option.getD_some, Array.all_eq_true_iff_forall_mem, Bool.or_eq_true, Bool.not_eq_true'] at h
      exact (h e he).resolve_left (by rw [hb]; simp)
  · rw [show t = n by omega]; exact h3
  · unfold Region.chainB
    simp only [List.all_eq_true, List.mem_range, Bool.or_eq_true, decide_eq_true_eq]
    intro t ht
    exact .inl (by omega)
/-- Number i is taken first. -/
theorem take_G {i : Nat} {oi : Oper} {v : Value} {fuel : Nat} {listed : Array Bool} {a : Act} {w : World} (hi : ops[i]? = some oi)
    (hb : (Region.noSelect ops && Region.sinkB md ops n && decide (i < n) && invB md ops n listed && Region.free md ops listed i && (Region.ready md ops listed).contains i) = true)
    (hQ : ∀ c a w, Q (.panic c) (a.put oi.dst v) w → Q (.panic c) a w) (hy : YieldsIf P ops S oi v a) (hS : S w)
    (h : wpAnyG P md ops Q S n fuel (listed.setIfInBounds i true) (a.put oi.dst v) w) : wpAnyG P md ops Q S n (fuel + 1) listed a w := by
  simp only [Bool.and_eq_true] at hb
  obtain ⟨⟨⟨⟨⟨b1, b2⟩, b3⟩, b4⟩, b5⟩, b6⟩ := hb
  obtain ⟨i1, i2, i3⟩ := inv_of b4
  exact first_G hi (Region.noSelect_spec b1) hQ b2 i3 i2 (of_decide_eq_true b3) fuel listed a w i1 (Region.free_spec hi b5) (by simpa using b6) hy hS h
/-- Number i alone may come up, and is carried out. -/
theorem one_G {i : Nat} {o : Oper} {fuel : Nat} {listed : Array Bool} {a : Act} {w : World} (hr : Region.ready md ops listed = [i]) (ho : ops[i]? = some o)
    (h : ∀ K' : Act → World → Prop, Shut (∀ a w, (i ≠ n → S w) → ((i ≠ n → S w) → wpAnyG P md ops Q S n fuel (listed.setIfInBounds i true) a w) → K' a w) → if Region.wanted o (yielded ops a.tmps) = true then Oper.wp P o a w K' Q else K' (a.put o.dst undef) w) :
    wpAnyG P md ops Q S n (fuel + 1) listed a w := by
  refine ⟨fun h0 => (by rw [hr] at h0; cases h0), fun j hj => ?_⟩
  rw [hr] at hj
  obtain rfl : j = i := by simpa using hj
  exact wpOp_step ho (fun K' hK => h K' (fun a w hS hW => hK a w ⟨hS, hW hS⟩))
theorem done_G {listed : Array Bool} {a : Act} {w : World} (hr : Region.ready md ops listed = []) (h : Q .normal a w) : ∀ fuel, wpAnyG P md ops Q S n fuel listed a w
  | 0 => ⟨hr, h⟩
  | _ + 1 => ⟨fun _ => h, by rw [hr]; simp⟩
theorem start_G {id : Nat} {a : Act} {w : World} (S : World → Prop) (n : Nat) (hm : P.follows .mixedOrders = true) (hS : S w.drew)
    (h : S w.drew → wpAnyG P .any ops Q S n ops.size (Array.replicate ops.size false) a w.drew) : (Code.region id ops true).wp P Q a w :=
  wp_region_any hm (wpAny_of_G _ _ _ _ (h hS))
end
end Go.Proofs.Ytejinhnmabnomaa.Gh
end
section
/-
  A visit of a variable, walked. Conditions: the blocks lie as told.
-/
namespace Go.Proofs.Ytejinhnmabnomaa.Lf
open Go.RowKit Go.Proofs.YtejinhnmabnomaaW.PrintWords Go.Proofs.Ytejinhnmabnomaa.Pm Go.Proofs.Ytejinhnmabnomaa.Pw

theorem info_rows : (Try.prog.info? 23).map (fun i => (i.zero, i.size, i.bytes)) = some (some (.slice none 0 0), 1, 24) := by kernel_rfl
set_option maxHeartbeats 3200000 in
set_option maxRecDepth 100000 in
theorem goes_step {w0 : World} {base : Nat} {d : Jd} (hw : Jw w0 base d) (k : Nat) (hk : k < d.vars) (IH : ∀ (w : World) (now : List Int) (v : Value) (out : List (List Int)), Js w0 w base d now v out (fun r => s0 (d.rk r) (now.take (k + 1))) → OkP d.rks (now.take (k + 1)) → out.length ≤ d.most →
      Calls Try.prog 20 #[.pointer (some ⟨d.J, 0, none⟩), .int .i64 ((k : Int) + 1)] w (GPost w0 w base d (k + 1) now v out)) (w : World) (now : List Int) (v : Value) (out : List (List Int))
    (h : Js w0 w base d now v out (fun r => s0 (d.rk r) (now.take k))) (ho : OkP d.rks (now.take k)) (hl : out.length ≤ d.most) :
    Calls Try.prog 20 #[.pointer (some ⟨d.J, 0, none⟩), .int .i64 k] w (GPost w0 w base d k now v out) := by
  obtain ⟨c0, c1, c2, c3, c4, c5, _⟩ := h.cells
  have co := h.fix.ord k hk
  have cw := h.fix.wk _ (hw.ord k hk)
  have hb0 : d.lb (d.ord k) < w.heap.size := by have := hw.low.2.2.2.2.1 _ (hw.ord k hk); have := h.base; omega
  have hbJ : d.J < w.heap.size ∧ d.ob < w.heap.size ∧ d.wb < w.heap.size := by have := hw.low; have := h.base; omega
  have HP := Lib.hid (row_ptrs (d := d) (h.fix.ptr _ (hw.ord k hk)))
  have HL := Lib.hid (hw.len _ (hw.ord k hk))
  have HH := Lib.hid h
  have hkv : (k : Int) < (d.vars : Int) := by omega
  have hk0 : (0 : Int) ≤ (k : Int) := by omega
  have hov : (d.ord k : Int) < (d.vars : Int) := by have := hw.ord k hk; omega
  have ho0 : (0 : Int) ≤ (d.ord k : Int) := by omega
  have hkB : (k : Int) ≤ 1000 := by have := hw.v16; omega
  have hne : ((k : Int) == (d.vars : Int)) = false := by simp; omega
  have hcl : ∀ (W : World) , Below w.heap.size w W → ∀ j k', ((d.row (d.ord k)).map d.k)[j]? = some k' → W.cell? ⟨d.lb (d.ord k), 0 + j, none⟩ = some k'.ptr := fun W hW j k' hj => (hW.cell (p := ⟨_, 0 + j, none⟩) hb0).trans (HP.out j k' hj)
  have hkl : ∀ (W w1 : World), Below w.heap.size w W → Below W.heap.size W w1 → w1.cell? ⟨d.J, 0, none⟩ = some (.slice (some ⟨d.ob, 0, none⟩) d.vars d.oc) ∧ w1.cell? ⟨d.J, 2, none⟩ = some (.slice (some ⟨d.wb, 0, none⟩) d.vars d.wc) ∧ w1.cell? ⟨d.ob, k, none⟩ = some (.int .i64 (d.ord k)) ∧ w1.cell? ⟨d.wb, d.ord k, none⟩ = some (.slice (some ⟨d.lb (d.ord k), 0, none⟩) (d.row (d.ord k)).length (d.lc (d.ord k))) ∧ Below w.heap.size w w1 := fun W w1 h1 h2 => by
    have hb := below_tr h1 h2 h1.size
    exact ⟨(hb.cell (p := ⟨_, _, none⟩) hbJ.1).trans c0, (hb.cell (p := ⟨_, _, none⟩) hbJ.1).trans c2, (hb.cell (p := ⟨_, _, none⟩) hbJ.2.1).trans co, (hb.cell (p := ⟨_, _, none⟩) hbJ.2.2).trans cw, hb⟩
  have n0 := World.new_ne w _ c0
  have n2 := World.new_ne w _ c2
  have no := World.new_ne w _ co
  have nw := World.new_ne w _ cw
  have HC := Lib.hid hcl
  have HK := Lib.hid hkl
  clear hkl
  clear hcl h
  have HI := Lib.hid IH
  have HO := Lib.hid ho
  have HW := Lib.hid hw
  clear IH ho hw
  go_enter_defers Try.func20, Try.ntmps20
  go_upto_region 3 with fail
  go_cut [5] from 13 to 126 (fun s5 wx => ∃ A b c : Nat, s5 = .pointer (some ⟨A, 0, none⟩) ∧ Mk0 w wx d A b c (d.row (d.ord k)))
  case first =>
    go_region_held3 (fun W => W.cell? ⟨d.J, 0, none⟩ = some (.slice (some ⟨d.ob, 0, none⟩) d.vars d.oc) ∧ W.cell? ⟨d.J, 2, none⟩ = some (.slice (some ⟨d.wb, 0, none⟩) d.vars d.wc) ∧ W.cell? ⟨d.ob, k, none⟩ = some (.int .i64 (d.ord k)) ∧ W.cell? ⟨d.wb, d.ord k, none⟩ = some (.slice (some ⟨d.lb (d.ord k), 0, none⟩) (d.row (d.ord k)).length (d.lc (d.ord k)))) (go_keep)
      (first
       | (go_at_call 28; refine (clone_w w.drew (d.lb (d.ord k)) (d.row (d.ord k)).length (d.lc (d.ord k)) _ (List.length_map _) HL.out.2 (HC.out _ (Below.drew (Below.refl _ _)))).mono ?_; rintro e w1 ⟨v1, rfl, ho1, hn1, hb1⟩; have HB1 := Lib.hid hb1; obtain ⟨k0, k2, ko, kw, hbb⟩ := HK.out w.drew _ (Below.drew (Below.refl _ _)) hb1; obtain ⟨g1, cp1, rfl, hg1, hl1, hc1, hx1⟩ := cl_form ho1 hn1; have H1 := Lib.hid (And.intro hg1 (And.intro hl1 (And.intro hc1 (And.intro hx1 hbb)))); clear ho1 hn1 hb1 hbb hg1 hl1 hc1 hx1)
       | (go_at_call 28; refine (clone_w (w.alloc (.cells #[.slice none 0 0] 52)).drew (d.lb (d.ord k)) (d.row (d.ord k)).length (d.lc (d.ord k)) _ (List.length_map _) HL.out.2 (HC.out _ (Below.drew ((Below.refl _ _).alloc (Nat.le_refl _) _)))).mono ?_; rintro e w1 ⟨v1, rfl, ho1, hn1, hb1⟩; obtain ⟨z1, z2⟩ := kept_new hb1; have HB1 := Lib.hid hb1; obtain ⟨k0, k2, ko, kw, hbb⟩ := HK.out (w.alloc (.cells #[.slice none 0 0] 52)).drew _ (Below.drew ((Below.refl _ _).alloc (Nat.le_refl _) _)) hb1; obtain ⟨g1, cp1, rfl, hg1, hl1, hc1, hx1⟩ := cl_form ho1 hn1; have H1 := Lib.hid (And.intro hg1 (And.intro hl1 (And.intro hc1 (And.intro hx1 hbb)))); clear ho1 hn1 hb1 hbb hg1 hl1 hc1 hx1))
    · go_wp2_with fail
      go_meet
      go_light
      exact ⟨_, g1, cp1, rfl, mk0_one H1.out (Nat.le_refl _)⟩
    · go_wp2_with fail
      go_meet
      go_light
      exact ⟨_, g1, cp1, rfl, mk0_two z1 H1.out (by show w.heap.size < (w.alloc _).heap.size; rw [World.size_alloc]; omega)⟩
  case rest =>
    obtain ⟨A, b, c, rfl, hmk⟩ := hcut
    obtain ⟨wa, hwa⟩ : ∃ wa : World, wa = wc := ⟨_, rfl⟩
    subst hwa
    have hlo : Lo w0 w (wa.alloc (.cells #[.int .i64 0] 3)) base d A wa.heap.size b c (d.row (d.ord k)) 0 (fun r => s0 (d.rk r) (now.take k)) := mk_lo hmk HH.out.base HH.out.ws
    have hA := hlo.cA
    have HLO := Lib.hid hlo
    obtain ⟨row, hrow⟩ : ∃ row, d.row (d.ord k) = row := ⟨_, rfl⟩
    rw [hrow] at HLO hA HL
    have HR := Lib.hid hrow
    clear hmk hlo HC HK HP n0 n2 no nw c0 c1 c2 c3 c4 c5 co cw hbJ hb0 hrow
    have hnN := HL.out.2
    go_wp2_with fail
    go_loopg [37] (row.length + 1) (fun g s37 wr => ∃ (i : Nat) (rs : Nat → RS), i ≤ row.length ∧ row.length - i < g ∧ s37 = .int .i64 i ∧ Lo w0 w wr base d A wa.heap.size b c row i rs ∧ Opn d row (now.take k) i rs)
    case atStart => exact ⟨0, _, by omega, by omega, rfl, HLO.out, opn_zero d row (now.take k)⟩
    case round =>
      obtain ⟨i, rs, hi, hg, rfl, hL, hop⟩ := hrel
      have HLo := Lib.hid hL
      have HOp := Lib.hid hop
      have hmem := (HW.out.mem k hk)
      rw [HR.out] at hmem
      have HM := Lib.hid hmem
      have hnd : row.Nodup := by have := HW.out.nd _ (HW.out.ord k hk); rwa [HR.out] at this
      have HN := Lib.hid hnd
      clear hL hop hmem hnd
      by_cases hlt : i < row.length
      · have hcell := HLo.out.cells i hlt
        unfold Wr.ptr at hcell
        have hd : decide ((i : Int) < (row.length : Int)) = true := by simp; omega
        have hl2 : (i : Int) < (row.length : Int) := by omega
        have hO := (cell1 HLo.out.cO).1
        have hOf := (cell1 HLo.out.cO).2
        obtain ⟨r, hr⟩ : ∃ r, row.getD i 0 = r := ⟨_, rfl⟩
        rw [hr] at hcell
        have hrm : r < d.m ∧ onLevel (d.rk r) k := (HM.out r).1 (by rw [← hr]; exact row_at row hlt)
        have hws := HLo.out.ws r hrm.1
        have hst : rs r = s0 (d.rk r) (now.take k) := by
          have := HOp.out.at_ i hlt
          rwa [if_neg (by omega), hr] at this
        rw [hst] at hws
        have hlk : (now.take k).length = k := by rw [List.length_take]; have := HH.out.nl; omega
        have HRR := Lib.hid (And.intro hr (And.intro hrm (And.intro hst hlk)))
        have HWS := Lib.hid hws
        clear hws hr hrm hst hlk
        by_cases hz : (d.rk r).L.length = 0
        · have e1 : (rOpen (d.k r).L o1 (s0 (d.rk r) (now.take k))) = (s0 (d.rk r) (now.take k), 3) := by rw [← HW.out.rkL r HRR.out.2.1.1]; exact open_none hz
          have HE := Lib.hid e1
          have HZ := Lib.hid hz
          clear e1 hz hO hOf
          have e2 : (rOpen (d.k r).L o1 (s0 (d.rk r) (now.take k))).2 = 3 := by rw [HE.out]
          go_wp2_with (go_at_call 31; refine (ws_open HWS.out).mono ?_; rintro e w2 ⟨rfl, hw2, _, hg2⟩; rw [e2]; have H2 := Lib.hid (And.intro hw2 hg2); clear hw2 hg2)
          have hlo2 := HLo.out.walk HW.out (fun r hr => ((HM.out r).1 hr).1) hlt (x := s0 (d.rk r) (now.take k)) (by rw [HRR.out.1]; have := H2.out.1; rw [HE.out] at this; exact this) (by rw [HRR.out.1]; exact H2.out.2)
          rw [show setR rs (row.getD i 0) (s0 (d.rk r) (now.take k)) = rs from setR_id (by rw [HRR.out.1]; exact HRR.out.2.2.1)] at hlo2
          have hlv := hlo2.lv HW.out HH.out
          rw [← List.append_nil out] at hlv
          have hex : ¬ ExA d.rks (now.take k) := none_of HRR.out.2.1.1 HZ.out
          exact end_lv rfl HW.out hlv (fun r hr => ((HM.out r).1 hr).1) HN.out hi HL.out.2 HOp.out.up (fun r' _ hnr => HOp.out.off r' hnr) rfl (res_none hl hex)
        · have e1 := open_some (pre := now.take k) (HW.out.rkv r HRR.out.2.1.1).1 (by rw [HRR.out.2.2.2]; exact HRR.out.2.1.2) hz
          rw [HW.out.rkL r HRR.out.2.1.1] at e1
          have HE := Lib.hid e1
          clear e1 hz
          have e2 : (rOpen (d.k r).L o1 (s0 (d.rk r) (now.take k))).2 = 0 := by rw [HE.out]
          go_wp2_with (go_at_call 31; refine (ws_open HWS.out).mono ?_; rintro e w2 ⟨rfl, hw2, hp2, hg2⟩; rw [e2] at hp2 ⊢; have hlo2 := HLo.out.walk HW.out (fun r hr => ((HM.out r).1 hr).1) hlt (by rw [HRR.out.1]; exact hw2) (by rw [HRR.out.1]; exact hg2); have hO := (cell1 hlo2.cO).1; have hOf := (cell1 hlo2.cO).2; have H2 := Lib.hid (And.intro hlo2 (hp2 rfl)); clear hw2 hg2 hp2 hlo2)
          go_roundg (row.length - i)
          case measure => exact hg
          case rel =>
            go_light
            have hop2 := HOp.out.step HN.out hlt (by rw [HRR.out.1]; have := H2.out.2; rw [← HW.out.rkL r HRR.out.2.1.1] at this; exact this)
            refine ⟨i + 1, _, by omega, by omega, by go_num, (H2.out.1.opened HW.out (i + 1)), ?_⟩
            have e3 := HE.out
            rw [← HW.out.rkL r HRR.out.2.1.1] at e3
            rw [HRR.out.1] at hop2 ⊢
            rw [← HW.out.rkL r HRR.out.2.1.1, e3]
            exact hop2
      · have hin : i = row.length := by omega
        have hpos : 0 < row.length := by have := HW.out.pos _ (HW.out.ord k hk); rwa [HR.out] at this
        have hlk : (now.take k).length = k := by rw [List.length_take]; have := HH.out.nl; omega
        rw [hin] at HLo HOp
        have HL2 := Lib.hid (l2_start HW.out HH.out HLo.out HOp.out HM.out hk hpos hl)
        have hd : decide ((i : Int) < (row.length : Int)) = false := by simp; omega
        have hl2 : ¬ (i : Int) < (row.length : Int) := by omega
        have HKL := Lib.hid (And.intro hpos (And.intro hlk HL.out.2))
        clear hpos hlk hin
        obtain ⟨l0, hl0⟩ : ∃ l0, lvl (d.k (row.getD 0 0)).L o1 (path (d.rk (row.getD 0 0)) (now.take k)) = l0 := ⟨_, rfl⟩
        rw [hl0] at HL2
        have HL0 := Lib.hid hl0
        clear hl0
        go_wp2_with fail
        go_loopg [9] (cnt l0 (l0.getD 0 0) + 1) (fun g s9 wx => ∃ (bd : Int) (rs2 : Nat → RS) (v2 : Value) (now2 : List Int) (E : List (List Int)) (any : Bool), s9 = .bool any ∧ L2 w0 w wx base d A wa.heap.size b c row k now v out now2 v2 E rs2 any bd ∧ cnt l0 bd < g)
        case atStart => exact ⟨_, _, _, _, _, _, rfl, HL2.out, Nat.lt_succ_self _⟩
        case round =>
          obtain ⟨bd, rs2, v2, now2, E, any, rfl, hl2', hcnt⟩ := hrel
          have HX := Lib.hid (And.intro hl2' hcnt)
          have hA2 := hl2'.lv.cA
          clear hl2' hcnt
          go_wp2_with fail
          refine (leaps_ok (c := c) (HX.out.1.lv.wl (fun r hr => ((HM.out r).1 hr).1)) (Jd.sep HW.out (fun r hr => ((HM.out r).1 hr).1) HN.out (by have := HX.out.1.lv.hi; have := HX.out.1.lv.bw; omega)) HX.out.1.lp (fun _ _ => path_le2 _ _) HKL.out.1 HKL.out.2.2 (by have := HW.out.high; have := HX.out.1.lv.js.base; omega)).mono ?_
          rintro e w2 ⟨r', res, rfl, h1, h2, h3, h4, h5⟩
          obtain ⟨hl3, heq⟩ := HX.out.1.leapt HW.out HM.out HN.out h1 h2 h3
          have HY := Lib.hid (And.intro hl3 (And.intro heq (And.intro h2 (And.intro h4 h5))))
          have hA3 := hl3.lv.cA
          clear h1 h2 h3 h4 h5 heq hl3
          cases res
          · go_wp2_with fail
            obtain ⟨j, hj, hbj⟩ := HY.out.2.2.2.2 (by trivial)
            obtain ⟨f1, f2⟩ := HY.out.1.fin HW.out HM.out HKL.out.2.1 ⟨j, hj, by rw [HY.out.2.1 j hj]; exact hbj⟩
            exact end_lv rfl HW.out HY.out.1.lv (fun r hr => ((HM.out r).1 hr).1) HN.out (Nat.le_refl _) HKL.out.2.2 f1 (fun r' hr hnr => HY.out.1.off r' hr hnr) HY.out.1.pre f2
          · obtain ⟨x, hx⟩ := HY.out.2.2.2.1 (by trivial)
            have hxx : ∀ j, j < row.length → (lift row r' rs2 (row.getD j 0)).beh = false ∧ ky (path (d.rk (row.getD j 0)) (now.take k)) (lift row r' rs2 (row.getD j 0)) = x := fun j hj => by rw [HY.out.2.1 j hj]; exact hx j hj
            have hkey : rKey (lift row r' rs2 (row.getD 0 0)) = (x, true) := by
              have h1 := HY.out.1.lp.on 0 HKL.out.1
              rw [h1.key, (hxx 0 HKL.out.1).1, if_neg (by simp), (hxx 0 HKL.out.1).2]
            have HXX := Lib.hid (And.intro hxx hkey)
            have hws := HY.out.1.lv.js.ws _ ((HM.out _).1 (row_at row HKL.out.1)).1
            have hcell := HY.out.1.lv.cells 0 HKL.out.1
            unfold Wr.ptr at hcell
            obtain ⟨r0, hr0⟩ : ∃ r0, row.getD 0 0 = r0 := ⟨_, rfl⟩
            rw [hr0] at hcell hws hkey
            obtain ⟨st, hst⟩ : ∃ st, lift row r' rs2 r0 = st := ⟨_, rfl⟩
            rw [hst] at hws hkey
            have HR0 := Lib.hid (And.intro hr0 hst)
            have HWS := Lib.hid hws
            clear hr0 hws hst
            have hl0 : (0 : Int) < (row.length : Int) := by have := HKL.out.1; omega
            have hkeyK := hkey
            clear hx hxx hkey
            go_wp2_with fail
            refine (ws_key HWS.out).mono ?_
            rintro e w4 ⟨rfl, hb4⟩
            rw [hkeyK]
            have HB4 := Lib.hid hb4
            have hdn := HY.out.1.down HW.out HM.out hk HKL.out.1 HO.out HXX.out.1 hb4
            have HDN := Lib.hid hdn
            have hc3 := (HY.out.1.lv.more HW.out hb4).js.cells.2.2.2.1
            have hnk := ((HY.out.1.lv.more HW.out hb4).js.now_ k hk).1
            have hnf := ((HY.out.1.lv.more HW.out hb4).js.now_ k hk).2
            clear hb4 hdn hkeyK hcell hA3 hA2
            go_wp2_with fail
            refine (HI.out _ _ _ _ HDN.out.1.js HDN.out.2.1 HY.out.1.len).mono ?_
            rintro e w5 ⟨res5, now5, v5, E5, rfl, hj5, hn5, hg5, ho5, hr5⟩
            have H5 := Lib.hid (And.intro (nest HW.out HDN.out.1 HDN.out.2.2.1 hj5 hn5 hg5 ho5) hr5)
            clear hj5 hn5 hg5 ho5 hr5 hc3 hnk hnf
            go_upto_region 18 with fail
            go_cut [9] from 47 to 125 (fun s9 wx => s9 = .bool (any || res5) ∧ w5 = wx)
            case first => (cases any <;> cases res5 <;> (go_wp2_with fail; go_meet; exact ⟨rfl, rfl⟩))
            case rest =>
              obtain ⟨rfl, rfl⟩ := hcut
              obtain ⟨kl, hkl⟩ : ∃ kl, ((k : Int) == (d.keep : Int) - 1) = kl := ⟨_, rfl⟩
              have hc1 := H5.out.1.1.js.cells.2.1
              have hkv2 : (d.keep : Int) ≤ 1000 := by have := HW.out.kv; have := HW.out.v16; omega
              have hk02 : (0 : Int) ≤ (d.keep : Int) := by omega
              go_upto_region 19 with fail
              go_cut [80] from 47 to 125 (fun s80 wx => s80 = .bool (res5 && kl) ∧ w5 = wx)
              case first => (cases res5 <;> (go_wp2_with fail; go_meet; exact ⟨by simp, rfl⟩))
              case rest =>
                obtain ⟨rfl, rfl⟩ := hcut
                have HKL2 := Lib.hid hkl
                clear hc1 hkl
                go_upto_if 80 with fail
                go_cut [9] from 47 to 125 (fun s9 wx => ∃ (any' : Bool) (now6 : List Int) (v6 : Value) (E6 : List (List Int)), s9 = .bool any' ∧ L3 w0 w wx base d A wa.heap.size b c row k now v out now6 v6 E6 any' res5 x)
                case first =>
                  cases hrk : (res5 && kl)
                  · have hf : res5 = false ∨ k + 1 ≠ d.keep := by
                      rcases Bool.and_eq_false_iff.1 hrk with e | e
                      · exact .inl e
                      · have := HKL2.out
                        rw [e] at this
                        have := of_decide_eq_false this
                        exact .inr (by omega)
                    have HF := Lib.hid hf
                    clear hf
                    go_wp2_with fail
                    go_meet
                    exact ⟨_, _, _, _, rfl, l3_skip HW.out HKL.out.2.1 HY.out.1.rr HDN.out.2.2.2 (by rw [← HDN.out.2.2.1]; exact H5.out.2) HY.out.1.len HF.out H5.out.1.1 H5.out.1.2⟩
                  · obtain ⟨e1, e2⟩ := Bool.and_eq_true_iff.1 hrk
                    have hkk : k + 1 = d.keep := by
                      have := HKL2.out
                      rw [e2] at this
                      have := of_decide_eq_true this
                      omega
                    have hl3b := fun (w6 : World) (v6 : Value) => l3_b HW.out HKL.out.2.1 HY.out.1.rr HDN.out.2.2.2 (by rw [← HDN.out.2.2.1]; exact H5.out.2) (w5 := w6) (w := w) (w0 := w0) (base := base) (A := A) (O := wa.heap.size) (b := b) (c := c) (row := row) (v0 := v) (now5 := now5) (v5 := v6) hkk HY.out.1.len
                    have f1 := (hl3b w5 v5).1
                    have f2 := fun (w6 : World) (v6 : Value) => (hl3b w6 v6).2.1 e1
                    clear hl3b
                    have HLV := H5.out.1.1
                    rw [f1, List.append_nil] at HLV
                    obtain ⟨Av, cv, hv5, _⟩ := HLV.js.out.form
                    have hc1 := HLV.js.cells.2.1
                    have hc3 := HLV.js.cells.2.2.2.1
                    have hc5 := HLV.js.cells.2.2.2.2.2.1
                    have hf5 := HLV.js.cells.2.2.2.2.2.2
                    rw [hv5] at hc5
                    have HB := Lib.hid (And.intro HLV (And.intro hv5 (And.intro hkk (And.intro e1 f2))))
                    clear HLV hv5 hkk e1 e2 f1 f2
                    have hcap : (d.keep : Int) ≤ (d.nc : Int) := by have := HW.out.kv; have := HW.out.nc; omega
                    have hcap2 : d.keep ≤ d.nc := by omega
                    obtain ⟨vs, hvo, hvl, hvr⟩ := HB.out.1.js.out.own
                    rw [HB.out.2.1] at hvo
                    have HVS := Lib.hid (And.intro hvo (And.intro hvl hvr))
                    clear hvo hvl hvr
                    have hjl : d.J < w5.heap.size := by have := HW.out.low.1; have := HB.out.1.js.base; omega
                    have haj : some d.J ≠ (Value.slice Av (out ++ E).length cv).ownBlock := fun e => by
                      rw [← HB.out.2.1] at e
                      have := (own_ge HB.out.1.js.out e.symm).1
                      have := HW.out.low.1
                      omega
                    have hnl : (now5.take d.keep).length = d.keep := by rw [List.length_take, HB.out.1.js.nl]; have := HW.out.kv; omega
                    have hnc : ∀ j y, (now5.take d.keep)[j]? = some y → w5.drew.cell? ⟨d.nb, 0 + j, none⟩ = some (.int .i64 y) := fun j y hy => by
                      have hj := (List.getElem?_eq_some_iff.1 hy).1
                      rw [hnl] at hj
                      have h1 := (HB.out.1.js.now_ j (by have := HW.out.kv; omega)).1
                      rw [List.getElem?_take, if_pos hj] at hy
                      rw [Nat.zero_add]
                      refine h1.trans ?_
                      rw [List.getD_eq_getElem?_getD, hy]
                      rfl
                    have HNC := Lib.hid (And.intro hnl (And.intro hnc (show d.keep ≤ 1000 by have := HW.out.kv; have := HW.out.v16; omega)))
                    clear hnl hnc
                    obtain ⟨i0, hi0, hz0, hz1, hz2⟩ := info_parts info_rows
                    have hno : (out ++ E).length ≤ d.most := HY.out.1.len
                    have hmo := HW.out.most
                    obtain ⟨no_, hno_⟩ : ∃ n, (out ++ E).length = n := ⟨_, rfl⟩
                    rw [hno_] at hc5 haj hno HVS
                    have HNO := Lib.hid hno_
                    clear hno_
                    have hnm : no_ + 1 ≤ maxLen := by unfold maxLen; omega
                    have hnb : (no_ + 1) * 24 ≤ 140737488355328 := by omega
                    have HZ := Lib.hid (And.intro hi0 (And.intro hz0 (And.intro hz1 (And.intro hz2 (And.intro hnm hnb)))))
                    clear hi0 hz0 hz1 hz2 hnm hnb
                    have hdr : Below w5.heap.size w5 w5.drew := Below.drew (Below.refl _ _)
                    have HDR := Lib.hid hdr
                    clear hdr
                    go_upto_region 20 with fail
                    refine wp_region_noPanic ?_
                    refine Gh.start_G (fun W => W.cell? ⟨d.J, 5, none⟩ = some (.slice Av no_ cv) ∧ W.cell? ⟨d.J, 3, none⟩ = some (.slice (some ⟨d.nb, 0, none⟩) d.vars d.nc) ∧ W.cell? ⟨d.J, 1, none⟩ = some (.int .i64 d.keep)) 19 (by kernel_rfl) ⟨hc5, hc3, hc1⟩ (fun hHeld => ?_)
                    refine Gh.take_G (i := 0) (v := ?_) rfl (by kernel_rfl) (fun _ _ _ h => h) (Or.inl ⟨by rfl, ?_⟩) (by assumption) ?_
                    rotate_left
                    · (intro wS hSw; (try dsimp only at hSw); go_simp; try with_reducible rfl)
                    try simp only [Act.put, List.setIfInBounds_toArray, List.set_cons_zero, List.set_cons_succ]
                    refine Gh.take_G (i := 1) (v := ?_) rfl (by kernel_rfl) (fun _ _ _ h => h) (Or.inl ⟨by rfl, ?_⟩) (by assumption) ?_
                    rotate_left
                    · (intro wS hSw; (try dsimp only at hSw); go_simp; try with_reducible rfl)
                    try simp only [Act.put, List.setIfInBounds_toArray, List.set_cons_zero, List.set_cons_succ]
                    refine Gh.take_G (i := 2) (v := ?_) rfl (by kernel_rfl) (fun _ _ _ h => h) (Or.inl ⟨by rfl, ?_⟩) (by assumption) ?_
                    rotate_left
                    · (intro wS hSw; (try dsimp only at hSw); go_simp; try with_reducible rfl)
                    try simp only [Act.put, List.setIfInBounds_toArray, List.set_cons_zero, List.set_cons_succ]
                    refine Gh.take_G (i := 3) (v := ?_) rfl (by kernel_rfl) (fun _ _ _ h => h) (Or.inl ⟨by rfl, ?_⟩) (by assumption) ?_
                    rotate_left
                    · (intro wS hSw; (try dsimp only at hSw); go_simp; try with_reducible rfl)
                    try simp only [Act.put, List.setIfInBounds_toArray, List.set_cons_zero, List.set_cons_succ]
                    refine Gh.take_G (i := 4) (v := ?_) rfl (by kernel_rfl) (fun _ _ _ h => h) (Or.inl ⟨by rfl, ?_⟩) (by assumption) ?_
                    rotate_left
                    · (intro wS hSw; (try dsimp only at hSw); go_simp; try with_reducible rfl)
                    try simp only [Act.put, List.setIfInBounds_toArray, List.set_cons_zero, List.set_cons_succ]
                    refine Gh.take_G (i := 5) (v := ?_) rfl (by kernel_rfl) (fun _ _ _ h => h) (Or.inl ⟨by rfl, ?_⟩) (by assumption) ?_
                    rotate_left
                    · (intro wS hSw; (try dsimp only at hSw); go_simp; try with_reducible rfl)
                    try simp only [Act.put, List.setIfInBounds_toArray, List.set_cons_zero, List.set_cons_succ]
                    refine Gh.take_G (i := 6) (v := ?_) rfl (by kernel_rfl) (fun _ _ _ h => h) (Or.inl ⟨by rfl, ?_⟩) (by assumption) ?_
                    rotate_left
                    · (intro wS hSw; (try dsimp only at hSw); go_simp; try with_reducible rfl)
                    try simp only [Act.put, List.setIfInBounds_toArray, List.set_cons_zero, List.set_cons_succ]
                    refine Gh.take_G (i := 7) (v := ?_) rfl (by kernel_rfl) (fun _ _ _ h => h) (Or.inl ⟨by rfl, ?_⟩) (by assumption) ?_
                    rotate_left
                    · (intro wS hSw; (try dsimp only at hSw); go_simp; try with_reducible rfl)
                    try simp only [Act.put, List.setIfInBounds_toArray, List.set_cons_zero, List.set_cons_succ]
                    refine Gh.take_G (i := 8) (v := ?_) rfl (by kernel_rfl) (fun _ _ _ h => h) (Or.inl ⟨by rfl, ?_⟩) (by assumption) ?_
                    rotate_left
                    · (intro wS hSw; (try dsimp only at hSw); go_simp; try with_reducible rfl)
                    try simp only [Act.put, List.setIfInBounds_toArray, List.set_cons_zero, List.set_cons_succ]
                    refine Gh.take_G (i := 9) (v := ?_) rfl (by kernel_rfl) (fun _ _ _ h => h) (Or.inl ⟨by rfl, ?_⟩) (by assumption) ?_
                    rotate_left
                    · (intro wS hSw; (try dsimp only at hSw); go_simp; try with_reducible rfl)
                    try simp only [Act.put, List.setIfInBounds_toArray, List.set_cons_zero, List.set_cons_succ]
                    refine Gh.take_G (i := 10) (v := ?_) rfl (by kernel_rfl) (fun _ _ _ h => h) (Or.inl ⟨by rfl, ?_⟩) (by assumption) ?_
                    rotate_left
                    · (intro wS hSw; (try dsimp only at hSw); go_simp; try with_reducible rfl)
                    try simp only [Act.put, List.setIfInBounds_toArray, List.set_cons_zero, List.set_cons_succ]
                    refine Gh.take_G (i := 11) (v := ?_) rfl (by kernel_rfl) (fun _ _ _ h => h) (Or.inl ⟨by rfl, ?_⟩) (by assumption) ?_
                    rotate_left
                    · (intro wS hSw; (try dsimp only at hSw); go_simp; try with_reducible rfl)
                    try simp only [Act.put, List.setIfInBounds_toArray, List.set_cons_zero, List.set_cons_succ]
                    refine Gh.take_G (i := 12) (v := ?_) rfl (by kernel_rfl) (fun _ _ _ h => h) (Or.inl ⟨by rfl, ?_⟩) (by assumption) ?_
                    rotate_left
                    · (intro wS hSw; (try dsimp only at hSw); go_simp; try with_reducible rfl)
                    try simp only [Act.put, List.setIfInBounds_toArray, List.set_cons_zero, List.set_cons_succ]
                    refine Gh.take_G (i := 13) (v := ?_) rfl (by kernel_rfl) (fun _ _ _ h => h) (Or.inl ⟨by rfl, ?_⟩) (by assumption) ?_
                    rotate_left
                    · (intro wS hSw; (try dsimp only at hSw); go_simp; try with_reducible rfl)
                    try simp only [Act.put, List.setIfInBounds_toArray, List.set_cons_zero, List.set_cons_succ]
                    refine Gh.one_G (i := 14) (by kernel_rfl) rfl (fun K hK => ?_)
                    go_simp
                    refine (clone_i w5.drew d.nb 0 d.keep d.nc _ HNC.out.1 HNC.out.2.2 HNC.out.2.1).mono ?_
                    rintro e w3 ⟨v3, rfl, ho3, hn3, hb3⟩
                    obtain ⟨g3, cp3, rfl, hg3, hl3, hcc3, hx3⟩ := cl_form ho3 hn3
                    have k5 := (hb3.cell (p := ⟨d.J, 5, none⟩) hjl).trans hc5
                    have k3 := (hb3.cell (p := ⟨d.J, 3, none⟩) hjl).trans hc3
                    have k1 := (hb3.cell (p := ⟨d.J, 1, none⟩) hjl).trans hc1
                    have kf := (hb3.frozen (p := ⟨d.J, 5, none⟩) hjl).trans hf5
                    have hbs : base ≤ w3.heap.size := Nat.le_trans HB.out.1.js.base hb3.size
                    have HOW := Lib.hid (World.ownsRow.alloc (own_below HVS.out.1 (below_tr HDR.out hb3 (Nat.le_refl _))) (.cells #[.slice (some ⟨g3, 0, none⟩) d.keep cp3] 23))
                    have HC3 := Lib.hid (And.intro hg3 (And.intro hl3 (And.intro hcc3 (And.intro hx3 hb3))))
                    clear ho3 hn3 hb3 hg3 hl3 hcc3 hx3
                    try go_wp2_with fail
                    refine hK.out _ _ (fun _ => ⟨k5, k3, k1⟩) (fun hHeld2 => ?_)
                    have hHeld := hHeld2 (by decide)
                    clear hHeld2
                    clear hK K
                    try simp only [Act.put, List.setIfInBounds_toArray, List.set_cons_zero, List.set_cons_succ]
                    refine Gh.one_G (i := 15) (by kernel_rfl) rfl (fun K hK => ?_)
                    go_simp
                    refine hK.out _ _ (fun _ => ⟨alloc_cell k5, alloc_cell k3, alloc_cell k1⟩) (fun hHeld2 => ?_)
                    have hHeld := hHeld2 (by decide)
                    clear hHeld2
                    clear hK K
                    try simp only [Act.put, List.setIfInBounds_toArray, List.set_cons_zero, List.set_cons_succ]
                    refine Gh.one_G (i := 16) (by kernel_rfl) rfl (fun K hK => ?_)
                    refine step_append_lies _ (by rfl) _ _ _ (by rfl) base 23 i0 _ 1 24 Try.underlying27 HZ.out.1 HZ.out.2.1 HZ.out.2.2.1 HZ.out.2.2.2.1 rfl (by omega) (.slice Av no_ cv) no_ vs (by rfl) HOW.out ⟨w3.heap.size, 0, none⟩ 1 1 [.slice (some ⟨g3, 0, none⟩) d.keep cp3] (by rfl) (by rfl) (World.news_of_block (cs := #[.slice (some ⟨g3, 0, none⟩) d.keep cp3]) (t := 23) (fr := (0, 0)) (heap_alloc_new w3 _)) (by simp [Value.oneCell']) (by omega) HZ.out.2.2.2.2.1 HZ.out.2.2.2.2.2 (Nat.le_trans hbs (by rw [World.size_alloc]; exact Nat.le_succ _)) (w3.heap.size + 1) (by simp) ?_
                    intro gg cp4 w4 hown4 hgrow hat hlt
                    have hj3 := Nat.lt_of_lt_of_le hjl (Nat.le_trans HDR.out.size HC3.out.2.2.2.2.size)
                    have m5 := (keepJ hgrow haj hj3 5).1.trans k5
                    have m3 := (keepJ hgrow haj hj3 3).1.trans k3
                    have m1 := (keepJ hgrow haj hj3 1).1.trans k1
                    have mf := (keepJ hgrow haj hj3 5).2.trans kf
                    have HC4 := Lib.hid (And.intro hown4 (And.intro hgrow hat))
                    clear hown4 hgrow hat hlt hj3
                    refine hK.out _ _ (fun _ => ⟨m5, m3, m1⟩) (fun hHeld2 => ?_)
                    have hHeld := hHeld2 (by decide)
                    clear hHeld2
                    clear hK K
                    try simp only [Act.put, List.setIfInBounds_toArray, List.set_cons_zero, List.set_cons_succ]
                    refine Gh.take_G (i := 17) (v := ?_) rfl (by kernel_rfl) (fun _ _ _ h => h) (Or.inl ⟨by rfl, ?_⟩) (by assumption) ?_
                    rotate_left
                    · (intro wS hSw; (try dsimp only at hSw); go_simp; try with_reducible rfl)
                    try simp only [Act.put, List.setIfInBounds_toArray, List.set_cons_zero, List.set_cons_succ]
                    refine Gh.take_G (i := 18) (v := ?_) rfl (by kernel_rfl) (fun _ _ _ h => h) (Or.inl ⟨by rfl, ?_⟩) (by assumption) ?_
                    rotate_left
                    · (intro wS hSw; (try dsimp only at hSw); go_simp; try with_reducible rfl)
                    try simp only [Act.put, List.setIfInBounds_toArray, List.set_cons_zero, List.set_cons_succ]
                    refine Gh.one_G (i := 19) (by kernel_rfl) rfl (fun K hK => ?_)
                    go_simp
                    refine hK.out _ _ (fun e => absurd rfl e) (fun _ => ?_)
                    clear hK K
                    try simp only [Act.put, List.setIfInBounds_toArray, List.set_cons_zero, List.set_cons_succ]
                    refine Gh.done_G (by kernel_rfl) ?_ _
                    refine NoPanic.normal ?_
                    go_wp2_with fail
                    go_meet
                    exact app_end HW.out HB.out HVS.out HNO.out HC3.out HC4.out H5.out.1.2
                case rest =>
                  obtain ⟨any', now6, v6, E6, rfl, h3⟩ := hcut
                  obtain ⟨Av, cv, hv6, _⟩ := h3.lv.js.out.form
                  have hc1 := h3.lv.js.cells.2.1
                  have hc4 := h3.lv.js.cells.2.2.2.2.1
                  have hc5 := h3.lv.js.cells.2.2.2.2.2.1
                  obtain ⟨n6, hn6⟩ : ∃ n6, (out ++ E6).length = n6 := ⟨_, rfl⟩
                  rw [hn6] at hv6
                  rw [hv6] at hc5
                  have H3 := Lib.hid (And.intro h3 hn6)
                  clear h3 hn6 hv6
                  go_upto_region 21 with fail
                  have hsub := fun (r : Nat) (hr : r ∈ row) => ((HM.out r).1 hr).1
                  have HSU := Lib.hid hsub
                  clear hsub
                  by_cases hmm : d.most < n6
                  · have hdm : decide ((d.most : Int) < (n6 : Int)) = true := by simp; omega
                    go_quiet (fail)
                    all_goals
                      go_wp2_with fail
                      exact end_lv rfl HW.out (H3.out.1.lv.more HW.out (below_drewN _ _)) HSU.out HN.out (Nat.le_refl _) HKL.out.2.2 (L3.up HW.out HM.out HKL.out.2.1).1 (L3.up HW.out HM.out HKL.out.2.1).2 H3.out.1.pre (H3.out.1.many hl (by rw [H3.out.2]; exact hmm))
                  · have hdm : decide ((d.most : Int) < (n6 : Int)) = false := by simp; omega
                    have hle : n6 ≤ d.most := by omega
                    have hcell := H3.out.1.lv.cells 0 HKL.out.1
                    unfold Wr.ptr at hcell
                    rw [HR0.out.1] at hcell
                    have hcA := H3.out.1.lv.cA
                    have hws2 : ∀ nq, Ws w0 (wc.drewN nq) (d.k r0) (s0 (d.rk r0) (now.take k ++ [x])) := fun nq => by
                      have := (H3.out.1.lv.more HW.out (below_drewN wc nq)).js.ws _ ((HM.out _).1 (row_at row HKL.out.1)).1
                      rwa [HR0.out.1] at this
                    have HWS2 := Lib.hid hws2
                    have hxl : x ∈ l0 := by
                      have := (com_iff (m := d.m) (rk := d.rk) (pre := now.take k) (row := row) (fun r => by rw [HKL.out.2.1]; exact HM.out r) x).1 HDN.out.2.2.2.2.1 0 HKL.out.1
                      rw [← HL0.out, ← HW.out.rkL _ ((HM.out _).1 (row_at row HKL.out.1)).1]
                      exact this
                    have HXL := Lib.hid (And.intro (cnt_lt HDN.out.2.2.2.1 hxl) hle)
                    clear hxl hws2
                    have next : (d.keep ≤ k → res5 = false) → ∀ w7, Ws w0 w7 (d.k r0) (rNext (d.k r0).L o1 (s0 (d.rk r0) (now.take k ++ [x]))).1 → ∀ nq, Chg (fun i => i = (d.k r0).g) (wc.drewN nq) w7 → ∃ rs, L2 w0 w w7 base d A wa.heap.size b c row k now v out now6 v6 E6 rs any' (x + 1) := fun hf w7 h1 nq h2 => by
                      have h3' := H3.out.1.more HW.out (below_drewN wc nq)
                      rw [← HR0.out.1] at h1 h2
                      exact h3'.next HW.out HM.out HN.out HKL.out.2.1 hk HKL.out.1 HDN.out.2.2.2.2.1 (by rw [H3.out.2]; exact hle) hf h1 h2
                    have HNX := Lib.hid next
                    clear next hle
                    cases res5
                    · go_quiet (fail)
                      all_goals
                        go_wp2_with (go_at_call 34; refine (ws_next (HWS2.out _)).mono ?_; rintro e w7 ⟨rfl, hw7, hg7⟩; have H7 := Lib.hid (And.intro hw7 hg7); clear hw7 hg7)
                        go_roundg (cnt l0 bd)
                        case measure => exact HX.out.2
                        case rel =>
                          obtain ⟨rs7, h7⟩ := HNX.out (fun _ => by trivial) _ H7.out.1 _ H7.out.2
                          exact ⟨_, _, _, _, _, _, rfl, h7, HXL.out.1⟩
                    · by_cases hkk : d.keep ≤ k
                      · have hdk : decide ((k : Int) ≥ (d.keep : Int)) = true := by simp; omega
                        have hdk2 : decide ((d.keep : Int) ≤ (k : Int)) = true := by simp; omega
                        go_quiet (fail)
                        all_goals
                          go_wp2_with fail
                          exact end_lv rfl HW.out (H3.out.1.lv.more HW.out (below_drewN _ _)) HSU.out HN.out (Nat.le_refl _) HKL.out.2.2 (L3.up HW.out HM.out HKL.out.2.1).1 (L3.up HW.out HM.out HKL.out.2.1).2 H3.out.1.pre (H3.out.1.some hkk)
                      · have hdk : decide ((k : Int) ≥ (d.keep : Int)) = false := by simp; omega
                        have hdk2 : decide ((d.keep : Int) ≤ (k : Int)) = false := by simp; omega
                        go_quiet (fail)
                        all_goals
                          go_wp2_with (go_at_call 34; refine (ws_next (HWS2.out _)).mono ?_; rintro e w7 ⟨rfl, hw7, hg7⟩; have H7 := Lib.hid (And.intro hw7 hg7); clear hw7 hg7)
                          go_roundg (cnt l0 bd)
                          case measure => exact HX.out.2
                          case rel =>
                            obtain ⟨rs7, h7⟩ := HNX.out (fun e => absurd e hkk) _ H7.out.1 _ H7.out.2
                            exact ⟨_, _, _, _, _, _, rfl, h7, HXL.out.1⟩
end Go.Proofs.Ytejinhnmabnomaa.Lf
end
section
/-
  A join is gone through. Conditions: the blocks lie as told.
-/
namespace Go.Proofs.Ytejinhnmabnomaa.Lf
open Go.RowKit Go.Proofs.YtejinhnmabnomaaW.PrintWords Go.Proofs.Ytejinhnmabnomaa.Pm Go.Proofs.Ytejinhnmabnomaa.Pw

theorem goes_ok {w0 : World} {base : Nat} {d : Jd} (hw : Jw w0 base d) : ∀ (m k : Nat), d.vars - k = m → k ≤ d.vars → ∀ (w : World) (now : List Int) (v : Value) (out : List (List Int)), Js w0 w base d now v out (fun r => s0 (d.rk r) (now.take k)) → OkP d.rks (now.take k) → out.length ≤ d.most →
    Calls Try.prog 20 #[.pointer (some ⟨d.J, 0, none⟩), .int .i64 k] w (GPost w0 w base d k now v out)
  | 0, k, hm, hk, w, now, v, out, h, ho, hl => by
    obtain rfl : k = d.vars := by omega
    exact goes_end hw h ho hl
  | m + 1, k, hm, hk, w, now, v, out, h, ho, hl => goes_step hw k (by omega) (fun w now v out h ho hl => goes_ok hw m (k + 1) (by omega) (by omega) w now v out h ho hl) w now v out h ho hl
end Go.Proofs.Ytejinhnmabnomaa.Lf
end
