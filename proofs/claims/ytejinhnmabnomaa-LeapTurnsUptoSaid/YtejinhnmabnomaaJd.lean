/-
  Joined by wip/tools/merge.py from the texts Le0. Conditions: as each says.
-/
import Derived.Test.YtejinhnmabnomaaJc
import Derived.Test.YtejinhnmabnomaaJa
import Derived.Deep.CutRange
import Derived.Deep.AppendLies
import Derived.Deep.QuietTactic
import Derived.BigQuiet
section
/-
  A join, walked. Conditions: the slices lie as told.
-/
namespace Go.Proofs.Ytejinhnmabnomaa.Lf
open Go.RowKit Go.Proofs.YtejinhnmabnomaaW.PrintWords Go.Proofs.Ytejinhnmabnomaa.Pm Go.Proofs.Ytejinhnmabnomaa.Pw

def relN (rels : List RelV) : List Rl := rels.map rlOf
def keepN (keep : List Int) : List Nat := keep.map Int.toNat
def joinL (keep : List Int) (rels : List RelV) : List (List Int) := refJoin (relN rels) (keepN keep)
/-- What a join answers. -/
def JPost (w : World) (vars : Int) (keep : List Int) (rels : List RelV) (most : Int) (e : Ending) (w' : World) : Prop :=
  ∃ (v : Value) (code : Int), e = .returned (.tuple #[v, .int .i64 code]) ∧ Below w.heap.size w w' ∧
    ((¬ MayP vars keep rels most ∧ v = .slice none 0 0 ∧ code = 1) ∨ (MayP vars keep rels most ∧ most < ((joinL keep rels).length : Int) ∧ v = .slice none 0 0 ∧ code = 110) ∨ (MayP vars keep rels most ∧ ((joinL keep rels).length : Int) ≤ most ∧ code = 0 ∧ RowsOut w' v (joinL keep rels)))
theorem MayP.keep_lt {vars most : Int} {keep : List Int} {rels : List RelV} (h : MayP vars keep rels most) {nv : Nat} (hv : vars = nv) : (∀ v ∈ keepN keep, v < nv) ∧ (keepN keep).Nodup ∧ keepN keep ≠ [] ∧ (keepN keep).length = keep.length ∧ keep = (keepN keep).map (fun v : Nat => (v : Int)) := by
  subst hv
  have e : keep = (keepN keep).map (fun v : Nat => (v : Int)) := by
    unfold keepN
    rw [List.map_map]
    have : keep.map ((fun v : Nat => (v : Int)) ∘ Int.toNat) = keep.map id := List.map_congr_left fun x hx => by
      have := h.kr x hx
      show ((x.toNat : Nat) : Int) = x
      omega
    rw [this, List.map_id]
  refine ⟨fun v hv => ?_, ?_, fun e2 => h.ne ?_, by unfold keepN; simp, e⟩
  · unfold keepN at hv
    obtain ⟨x, hx, rfl⟩ := List.mem_map.1 hv
    have := h.kr x hx
    omega
  · unfold keepN
    refine List.pairwise_map.2 (List.Pairwise.imp_of_mem ?_ h.nd)
    intro x y hx hy hne e2
    have h1 := h.kr x hx
    have h2 := h.kr y hy
    exact hne (by omega)
  · rw [e, e2]; rfl
theorem MayP.rel_lt {vars most : Int} {keep : List Int} {rels : List RelV} (h : MayP vars keep rels most) {nv : Nat} (hv : vars = nv) : (∀ r ∈ relN rels, r.a < nv ∧ r.b < nv) ∧ ∀ v, v < nv → ∃ r ∈ relN rels, r.a = v ∨ r.b = v := by
  subst hv
  refine ⟨fun r hr => ?_, fun v hv => ?_⟩
  · obtain ⟨x, hx, rfl⟩ := List.mem_map.1 hr
    have := h.rr x hx
    show x.A.toNat < nv ∧ x.B.toNat < nv
    omega
  · obtain ⟨r, hr, e⟩ := h.all v (by omega) (by omega)
    have := h.rr r hr
    refine ⟨rlOf r, List.mem_map.2 ⟨r, hr, rfl⟩, ?_⟩
    show r.A.toNat = v ∨ r.B.toNat = v
    omega
theorem joinL_is {vars most : Int} {keep : List Int} {rels : List RelV} (h : MayP vars keep rels most) : IsJoin (relN rels) (keepN keep) (joinL keep rels) := by
  obtain ⟨nv, hv⟩ : ∃ nv : Nat, vars = nv := ⟨vars.toNat, by have := h.v1; omega⟩
  exact refJoin_is _ _ (fun v hv2 => by
    obtain ⟨r, hr, e⟩ := (h.rel_lt hv).2 v ((h.keep_lt hv).1 v hv2)
    exact ⟨r, hr, e.imp (fun e => e.symm) (fun e => e.symm)⟩)
set_option maxHeartbeats 400000 in
theorem join_no {w : World} (vars most : Int) (kv rv : Value) (keep : List Int) (rels : List RelV) (hk : G.SlL w enc1 kv keep) (hr : G.SlL w encR rv rels) (hsv : ∀ r ∈ rels, ∃ A n c, r.v = .slice A n c) (hkl : keep.length ≤ 140737488355328) (hrl : rels.length ≤ 140737488355328) (hp : ¬ MayP vars keep rels most) :
    Calls Try.prog 11 #[.int .i64 vars, kv, rv, .int .i64 most] w (JPost w vars keep rels most) := by
  have HM := Lib.hid (may_ok vars most kv rv keep rels hk hr hsv hkl hrl)
  have HP := Lib.hid hp
  clear hk hr hsv hp
  go_enter Try.func11, Try.ntmps11
  go_wp2_with fail
  refine HM.out.mono ?_
  rintro e w2 ⟨b, rfl, hb, hbl⟩
  have HB := Lib.hid hbl
  obtain rfl : b = false := by
    cases b with
    | false => rfl
    | true => exact absurd (hb.1 rfl) HP.out
  clear hb hbl
  go_wp2_with fail
  go_ret2
  exact ⟨_, _, rfl, HB.out, .inl ⟨HP.out, rfl, rfl⟩⟩
/-- The joiner, while its order grows. -/
structure Ja (w : World) (keep : List Int) (b off n c : Nat) : Prop where
  cell : ∀ j x, keep[j]? = some x → w.cell? ⟨b, off + j, none⟩ = some (.int .i64 x)
theorem clone_k {w W : World} {keep : List Int} {b off n c : Nat} (h : Ja w keep b off n c) (hl : keep.length = n) (hn : n ≤ 1000) (hb : BelS w W) :
    Calls Try.prog 17 #[.slice (some ⟨b, off, none⟩) n c] W fun e w' => ∃ v', e = .returned v' ∧ w'.ownsRow W.heap.size 3 1 v' n (keep.map (Value.int .i64)) ∧ v' ≠ .slice none 0 0 ∧ Below W.heap.size W w' :=
  clone_i W b off n c keep hl hn (fun j x hj => hb.cell (h.cell j x hj))
theorem ordL_zero (keep : List Nat) : ordL keep 0 = keep := by unfold ordL; simp
theorem jcell0 {w : World} {J : Nat} {a b c d e f : Value} {t : TypeId} (h : w.heap[J]? = some (.cells #[a, b, c, d, e, f] t (0, 0))) : w.cell? ⟨J, 0, none⟩ = some a ∧ w.frozen? ⟨J, 0, none⟩ = false := by
  constructor <;> simp [World.cell?, World.frozen?, h]
theorem mem_keepN {keep : List Int} (h : keep = (keepN keep).map (fun v : Nat => (v : Int))) (k : Nat) : (k : Int) ∈ keep ↔ k ∈ keepN keep := by
  rw [h, List.mem_map]
  have : keepN ((keepN keep).map (fun v : Nat => (v : Int))) = keepN keep := by rw [← h]
  rw [this]
  constructor
  · rintro ⟨a, ha, e⟩
    rwa [show k = a by omega]
  · intro h; exact ⟨k, h, rfl⟩
theorem jb_end {w wr w4 : World} {J wb nb nv kl no gg cp k : Nat} {most : Int} {ov : Value} {l : List Nat} (h : Jb w wr J wb nb nv kl most ov l) (hno : l.length = no) (hC : w4.ownsRow w.heap.size 3 1 (.slice (some ⟨gg, 0, none⟩) (no + 1) cp) (no + 1) (l.map encN ++ [.int .i64 k]) ∧ (wr.alloc (.cells #[.int .i64 k] 3)).grownBy w4 ov.ownBlock ∧ (ov.ownBlock = some gg ∨ gg = wr.heap.size + 1)) :
    Jb w (w4.setCell ⟨J, 0, none⟩ (.slice (some ⟨gg, 0, none⟩) (no + 1) cp)) J wb nb nv kl most (.slice (some ⟨gg, 0, none⟩) (no + 1) cp) (l ++ [k]) :=
  h.app ((BelS.refl _).alloc _) hC.2.1 (by rw [hno]; exact hC.1) (fun g e => by
    have e : gg = g := by simpa [Value.ownBlock] using e
    subst e
    rcases hC.2.2 with e | e
    · exact .inl e
    · exact .inr (by rw [World.size_alloc]; omega))
theorem Jb.more {w wr w2 : World} {J wb nb nv kl : Nat} {most : Int} {ov : Value} {l : List Nat} (h : Jb w wr J wb nb nv kl most ov l) (hb : BelS wr w2) : Jb w w2 J wb nb nv kl most ov l :=
  ⟨hb.blk h.bJ, hb.blk h.bW, hb.blk h.bN, own_below h.own hb, h.below.then hb, h.hi, h.ne, h.on⟩
def fR (keep : List Nat) (nv k v : Nat) : Value := encN (if rankF keep nv v < k then rankF keep nv v else 0)
theorem rowsV_congr (nv : Nat) (f g : Nat → Value) (h : ∀ v, v < nv → f v = g v) : rowsV nv f = rowsV nv g := by
  unfold rowsV
  congr 1
  exact List.map_congr_left fun v hv => h v (List.mem_range.1 hv)
theorem fR_zero (keep : List Nat) (nv : Nat) : zeros nv = rowsV nv (fR keep nv 0) := by
  rw [zeros_eq]
  refine Array.ext_getElem? fun k => ?_
  rw [rowsV_get]
  by_cases h : k < nv
  · simp [h, fR, encN]
  · simp [h]
theorem fR_step (keep : List Nat) (nv k : Nat) (hk : ∀ v ∈ keep, v < nv) (hn : keep.Nodup) (hlt : k < nv) : (rowsV nv (fR keep nv k)).setIfInBounds (ordF keep nv k) (.int .i64 k) = rowsV nv (fR keep nv (k + 1)) := by
  have hR := ord_rank keep nv hk hn
  have hO := rank_ord keep nv hk hn
  rw [rowsV_set _ _ _ _ (hO k hlt).2]
  refine rowsV_congr _ _ _ (fun v hv => ?_)
  by_cases e : v = ordF keep nv k
  · subst e
    rw [updV_self]
    unfold fR
    rw [(hO k hlt).1, if_pos (by omega)]
    rfl
  · rw [updV_ne _ _ e]
    unfold fR
    have : rankF keep nv v ≠ k := fun e2 => e (by rw [← e2, (hR v hv).1])
    by_cases e2 : rankF keep nv v < k
    · rw [if_pos e2, if_pos (by omega)]
    · rw [if_neg e2, if_neg (by omega)]
/-- The ranks are laid. -/
structure Jc (w wq wr : World) (J wb nb nv kl : Nat) (most : Int) (ob oc rb : Nat) (keep : List Nat) (k : Nat) : Prop where
  jb : Jb w wq J wb nb nv kl most (.slice (some ⟨ob, 0, none⟩) nv oc) (ordL keep nv)
  chg : Chg (fun i => i = rb) wq wr
  rk : wr.heap[rb]? = some (.cells (rowsV nv (fR keep nv k)) 3 (0, 0))
  rne : rb ≠ J ∧ rb ≠ wb ∧ rb ≠ nb ∧ rb ≠ ob
  rhi : w.heap.size ≤ rb
theorem Jc.ordc {w wq wr : World} {J wb nb nv kl : Nat} {most : Int} {ob oc rb : Nat} {keep : List Nat} {k : Nat} (h : Jc w wq wr J wb nb nv kl most ob oc rb keep k) (hl : (ordL keep nv).length = nv) (j : Nat) (hj : j < nv) : wr.cell? ⟨ob, j, none⟩ = some (.int .i64 (ordF keep nv j)) := by
  have := (own_form h.jb.own (by omega)).2.2.2.2.1 j (encN (ordF keep nv j)) (by
    rw [List.getElem?_map, List.getElem?_eq_getElem (by omega)]
    unfold ordF
    rw [getD_lt _ _ (by omega)]
    rfl)
  exact h.chg.cell this (fun e => h.rne.2.2.2 e.symm)
theorem Jc.step {w wq wr : World} {J wb nb nv kl : Nat} {most : Int} {ob oc rb : Nat} {keep : List Nat} {k : Nat} (h : Jc w wq wr J wb nb nv kl most ob oc rb keep k) (hk : ∀ v ∈ keep, v < nv) (hn : keep.Nodup) (hlt : k < nv) : Jc w wq (wr.setCell ⟨rb, ordF keep nv k, none⟩ (.int .i64 k)) J wb nb nv kl most ob oc rb keep (k + 1) := by
  refine ⟨h.jb, h.chg.trans (Chg.of_grown (grown_set wr rb (ordF keep nv k) (.int .i64 k))) (fun i _ e => e), ?_, h.rne, h.rhi⟩
  rw [heap_set _ _ _ _ _ _ h.rk, fR_step _ _ _ hk hn hlt]
theorem jc_new {w wr : World} {J wb nb nv kl : Nat} {most : Int} {ob oc : Nat} {keep : List Nat} (h : Jb w wr J wb nb nv kl most (.slice (some ⟨ob, 0, none⟩) nv oc) (ordL keep nv)) : Jc w (wr.alloc (.cells (zeros nv) 3)) (wr.alloc (.cells (zeros nv) 3)) J wb nb nv kl most ob oc wr.heap.size keep 0 := by
  have l1 := (Array.getElem?_eq_some_iff.1 h.bJ).1
  have l2 := (Array.getElem?_eq_some_iff.1 h.bW).1
  have l3 := (Array.getElem?_eq_some_iff.1 h.bN).1
  have l4 := (World.ownsRow.lt h.own ob rfl).2
  exact ⟨h.more ((BelS.refl _).alloc _), Chg.refl _ _, by rw [← fR_zero]; exact heap_alloc_new wr _, ⟨by omega, by omega, by omega, by omega⟩, h.below.size⟩
theorem jr_start {w wq wr : World} {J wb nb nv kl : Nat} {most : Int} {ob oc rb : Nat} {keep : List Nat} {rels : List Rl} (h : Jc w wq wr J wb nb nv kl most ob oc rb keep nv) (hk : ∀ v ∈ keep, v < nv) (hn : keep.Nodup) (k : Nat → Wr) :
    Jr w wr ⟨J, wb, nb, ob, oc, rb, nv, kl, wr.heap.size, most, ordF keep nv, rankF keep nv⟩ rels 0 k (fun _ => []) (fun _ => .slice none 0 0) := by
  have hl := ordL_len keep nv hk hn
  have hR := ord_rank keep nv hk hn
  have l1 := (Array.getElem?_eq_some_iff.1 h.jb.bJ).1
  have l2 := (Array.getElem?_eq_some_iff.1 h.jb.bW).1
  have l3 := (Array.getElem?_eq_some_iff.1 h.jb.bN).1
  have l4 := (World.ownsRow.lt h.jb.own ob rfl).2
  have l5 := (Array.getElem?_eq_some_iff.1 h.rk).1
  have ls := h.chg.size
  have ne := h.jb.ne
  have on := h.jb.on ob rfl
  have hi := h.jb.hi
  refine ⟨(h.chg.block _ l1 (fun e => h.rne.1 e.symm)).trans h.jb.bJ, fun j hj => h.ordc hl j hj, fun j hj => ?_, (h.chg.block _ l3 (fun e => h.rne.2.2.1 e.symm)).trans h.jb.bN, ?_, fun v hv => ⟨by simp, .inl ⟨rfl, rfl⟩⟩, fun u v hu hv hne g e => ?_, fun v hv r hr => absurd hr (by omega), fun r hr => absurd hr (by omega), fun r hr => absurd hr (by omega), fun r hr => absurd hr (by omega), fun r s hr => absurd hr (by omega), fun r s hr => absurd hr (by omega), Chg.below h.jb.below h.chg (fun i e => by have e : i = rb := e; rw [e]; exact h.rhi), Nat.le_refl _, ⟨by show J < wr.heap.size; omega, by show wb < wr.heap.size; omega, by show nb < wr.heap.size; omega, by show ob < wr.heap.size; omega, l5⟩, ⟨hi.1, hi.2.2, Nat.le_trans h.jb.below.size ls, hi.2.1⟩, ⟨ne.1, ne.2.1, ne.2.2, on.1, on.2.1, on.2.2, h.rne.2.1⟩⟩
  · have := (rowsV_cell h.rk j hj).1
    unfold fR at this
    rw [if_pos (hR j hj).2] at this
    exact this
  · rw [← nilRows_V]
    exact (h.chg.block _ l2 (fun e => h.rne.2.1 e.symm)).trans h.jb.bW
  · simp [Value.ownBlock] at e
theorem Jr.rows {w wr : World} {p : Jp} {rels : List Rl} {m : Nat} {k : Nat → Wr} {rl rl2 : Nat → List Nat} {rv : Nat → Value} (h : Jr w wr p rels m k rl rv) (e : ∀ v, v < p.nv → rl2 v = rl v) : Jr w wr p rels m k rl2 rv :=
  ⟨h.bJ, h.ordc, h.rankc, h.bN, h.bW, fun v hv => by rw [e v hv]; exact h.own v hv, h.ap, h.apw, h.ws, h.L, h.new, h.gg, h.gx, h.below, h.big, h.low, h.hi, h.ne⟩
theorem Jr.cells {w wr : World} {p : Jp} {rels : List Rl} {m : Nat} {k : Nat → Wr} {rl : Nat → List Nat} {rv : Nat → Value} (h : Jr w wr p rels m k rl rv) (v : Nat) (hv : v < p.nv) : wr.cell? ⟨p.J, 2, none⟩ = some (.slice (some ⟨p.wb, 0, none⟩) p.nv p.nv) ∧ wr.cell? ⟨p.wb, v, none⟩ = some (rv v) ∧ wr.frozen? ⟨p.wb, v, none⟩ = false := by
  have := h.bJ
  exact ⟨by simp [World.cell?, this], rowsV_cell h.bW v hv⟩
theorem info_ptr : (Try.prog.info? 50).map (fun i => (i.zero, i.size, i.bytes)) = some (some (.pointer none), 1, 8) := by kernel_rfl
/-- What is known ahead of a walk's being put behind a row. -/
structure Ap (w wr : World) (p : Jp) (rels : List Rl) (m : Nat) (k : Nat → Wr) (rl : Nat → List Nat) (rv : Nat → Value) (v n : Nat) (x : Wr) : Prop where
  jr : Jr w wr p rels m k rl rv
  hv : v < p.nv
  len : (rl v).length = n
  small : n ≤ 1000
  x : k (m - 1) = x
theorem Ap.own {w wr : World} {p : Jp} {rels : List Rl} {m : Nat} {k : Nat → Wr} {rl : Nat → List Nat} {rv : Nat → Value} {v n : Nat} {x : Wr} (h : Ap w wr p rels m k rl rv v n x) (o : Obj) : (wr.drew.alloc o).ownsRow p.B 50 1 (rv v) n ((rl v).map fun r => (k r).ptr) := by
  have := World.ownsRow.alloc (own_below (h.jr.own v h.hv) (show BelS wr wr.drew from (BelS.refl _).drew)) o
  rwa [h.len] at this
theorem Ap.ne {w wr : World} {p : Jp} {rels : List Rl} {m : Nat} {k : Nat → Wr} {rl : Nat → List Nat} {rv : Nat → Value} {v n : Nat} {x : Wr} (h : Ap w wr p rels m k rl rv v n x) : some p.wb ≠ (rv v).ownBlock ∧ some p.J ≠ (rv v).ownBlock := by
  have hl := h.jr.low
  refine ⟨fun e => ?_, fun e => ?_⟩ <;> (have := (World.ownsRow.lt (h.jr.own v h.hv) _ e.symm).1; omega)
theorem Ap.fin {w wr w4 : World} {p : Jp} {rels : List Rl} {m : Nat} {k : Nat → Wr} {rl : Nat → List Nat} {rv : Nat → Value} {v n gg cp : Nat} {x : Wr} (h : Ap w wr p rels m k rl rv v n x) (hC : w4.ownsRow p.B 50 1 (.slice (some ⟨gg, 0, none⟩) (n + 1) cp) (n + 1) (((rl v).map fun r => (k r).ptr) ++ [x.ptr]) ∧ (wr.drew.alloc (.cells #[x.ptr] 50)).grownBy w4 (rv v).ownBlock ∧ ((rv v).ownBlock = some gg ∨ gg = wr.heap.size + 1)) :
    Jr w (w4.setCell ⟨p.wb, v, none⟩ (.slice (some ⟨gg, 0, none⟩) (n + 1) cp)) p rels m k (updV rl v (rl v ++ [m - 1])) (updV rv v (.slice (some ⟨gg, 0, none⟩) (n + 1) cp)) := by
  refine h.jr.app (((BelS.refl _).drew).alloc _) h.hv (r := m - 1) ?_ hC.2.1 (fun g e => ?_)
  · rw [h.len, h.x]; exact hC.1
  · have e : gg = g := by simpa [Value.ownBlock] using e
    subst e
    rcases hC.2.2 with e | e
    · exact .inl e
    · refine .inr ?_
      rw [World.size_alloc]
      show wr.heap.size + 1 ≤ gg
      omega
theorem rne_of {w wr : World} {p : Jp} {rels : List Rl} {m : Nat} {k : Nat → Wr} {rl : Nat → List Nat} {rv : Nat → Value} {v n R : Nat} {x : Wr} (h : Ap w wr p rels m k rl rv v n x) (hR : ∀ v, v < p.nv → ∀ g, (rv v).ownBlock = some g → g < R) : some R ≠ (rv v).ownBlock := fun e => by
  have := hR v h.hv R e.symm
  omega
theorem rows_same {rels : List Rl} {i a b : Nat} {l : List (Int × Int)} (hr : rels.getD i ⟨0, 0, []⟩ = ⟨a, b, l⟩) (hab : a = b) (v : Nat) : rowN rels v (i + 1) = updV (fun v => rowN rels v i) a (rowN rels a i ++ [i]) v := by
  rw [rowN_step, hr]
  unfold hasV
  by_cases e : v = a
  · subst e; rw [updV_self]; simp
  · rw [updV_ne _ _ e, if_neg (by simp only [Bool.or_eq_true, decide_eq_true_eq]; omega)]
theorem rows_diff {rels : List Rl} {i a b : Nat} {l : List (Int × Int)} (hr : rels.getD i ⟨0, 0, []⟩ = ⟨a, b, l⟩) (hab : ¬ a = b) (v : Nat) : rowN rels v (i + 1) = updV (updV (fun v => rowN rels v i) a (rowN rels a i ++ [i])) b (updV (fun v => rowN rels v i) a (rowN rels a i ++ [i]) b ++ [i]) v := by
  rw [rowN_step, hr]
  unfold hasV
  by_cases e : v = b
  · subst e
    rw [updV_self, updV_ne _ _ (fun e => hab e.symm)]
    simp
  · rw [updV_ne _ _ e]
    by_cases e2 : v = a
    · subst e2; rw [updV_self]; simp
    · rw [updV_ne _ _ e2, if_neg (by simp only [Bool.or_eq_true, decide_eq_true_eq]; omega)]
theorem jd_below {w wr w5 : World} {p : Jp} {rels : List Rl} {m : Nat} {k : Nat → Wr} {rl : Nat → List Nat} {rv : Nat → Value} (h : Jr w wr p rels m k rl rv) (hc : Chg ((jdOf p rels m k rv).D (.slice none 0 0)) wr w5) : Below w.heap.size w w5 :=
  Chg.below h.below hc (fun i e => by
    have hhi := h.hi
    rcases e with ⟨r, hr, rfl⟩ | rfl | rfl | e
    · have := (h.new r hr).1
      show w.heap.size ≤ (k r).g
      omega
    · exact hhi.1
    · exact hhi.2.1
    · cases e)
section
variable {w wr w5 : World} {J wb nb ob oc rb nv nk B : Nat} {most : Int} {keep : List Int} {rels : List RelV} {nr : Nat} {k : Nat → Wr} {rl : Nat → List Nat} {rv : Nat → Value} {now5 : List Int} {v5 : Value} {E : List (List Int)} {Av : Option Addr} {cv : Nat} {res : Bool}
theorem join_many (hp : MayP nv keep rels most) (hR : Jr w wr ⟨J, wb, nb, ob, oc, rb, nv, nk, B, most, ordF (keepN keep) nv, rankF (keepN keep) nv⟩ (relN rels) nr k rl rv)
    (_hw : Jw w wr.heap.size (jdOf ⟨J, wb, nb, ob, oc, rb, nv, nk, B, most, ordF (keepN keep) nv, rankF (keepN keep) nv⟩ (relN rels) nr k rv) ∧ Js w wr wr.heap.size (jdOf ⟨J, wb, nb, ob, oc, rb, nv, nk, B, most, ordF (keepN keep) nv, rankF (keepN keep) nv⟩ (relN rels) nr k rv) (List.replicate nv 0) (.slice none 0 0) [] (fun r => s0 ((jdOf ⟨J, wb, nb, ob, oc, rb, nv, nk, B, most, ordF (keepN keep) nv, rankF (keepN keep) nv⟩ (relN rels) nr k rv).rk r) []))
    (h5 : Js w w5 wr.heap.size (jdOf ⟨J, wb, nb, ob, oc, rb, nv, nk, B, most, ordF (keepN keep) nv, rankF (keepN keep) nv⟩ (relN rels) nr k rv) now5 v5 ([] ++ E) (fun r => s0 ((jdOf ⟨J, wb, nb, ob, oc, rb, nv, nk, B, most, ordF (keepN keep) nv, rankF (keepN keep) nv⟩ (relN rels) nr k rv).rk r) ((List.replicate nv 0).take 0)) ∧ Chg ((jdOf ⟨J, wb, nb, ob, oc, rb, nv, nk, B, most, ordF (keepN keep) nv, rankF (keepN keep) nv⟩ (relN rels) nr k rv).D (.slice none 0 0)) wr w5 ∧ Res (jdOf ⟨J, wb, nb, ob, oc, rb, nv, nk, B, most, ordF (keepN keep) nv, rankF (keepN keep) nv⟩ (relN rels) nr k rv) 0 ((List.replicate nv 0).take 0) [] E res ∧ v5 = .slice Av ([] ++ E).length cv)
    (hm : most < (E.length : Int)) (hnk : keep.length = nk) (hnr : rels.length = nr) : JPost w nv keep rels most (.returned (.tuple #[.slice none 0 0, .int .i64 110])) w5 := by
  obtain ⟨h51, h52, h53, _⟩ := h5
  refine ⟨_, _, rfl, jd_below hR h52, .inr (.inl ⟨hp, ?_, rfl, rfl⟩)⟩
  obtain ⟨k1, k2, k3, k4, _⟩ := hp.keep_lt rfl
  have hpos := List.length_pos_iff.2 k3
  have hS := (h53.1 (by show 0 < nk; omega)).1
  have hkn : (keepN keep).length ≤ nv := by rw [← ordL_len (keepN keep) nv k1 k2]; unfold ordL; rw [List.length_append]; omega
  have := sub_len (l := joinL keep rels) (fun row hrow => ((joinL_is hp).mem row).2 ((P_iff (ord_rank _ nv k1 k2) (rank_ord _ nv k1 k2) hkn (ord_keep (keepN keep) nv) (hp.rel_lt rfl).1 (m := nr) (by unfold relN; rw [List.length_map, hnr]) (fun r _ => rfl) row).1 (by rw [k4, hnk]; exact hrow))) hS
  omega
theorem join_few (hp : MayP nv keep rels most) (hR : Jr w wr ⟨J, wb, nb, ob, oc, rb, nv, nk, B, most, ordF (keepN keep) nv, rankF (keepN keep) nv⟩ (relN rels) nr k rl rv)
    (_hw : Jw w wr.heap.size (jdOf ⟨J, wb, nb, ob, oc, rb, nv, nk, B, most, ordF (keepN keep) nv, rankF (keepN keep) nv⟩ (relN rels) nr k rv) ∧ Js w wr wr.heap.size (jdOf ⟨J, wb, nb, ob, oc, rb, nv, nk, B, most, ordF (keepN keep) nv, rankF (keepN keep) nv⟩ (relN rels) nr k rv) (List.replicate nv 0) (.slice none 0 0) [] (fun r => s0 ((jdOf ⟨J, wb, nb, ob, oc, rb, nv, nk, B, most, ordF (keepN keep) nv, rankF (keepN keep) nv⟩ (relN rels) nr k rv).rk r) []))
    (h5 : Js w w5 wr.heap.size (jdOf ⟨J, wb, nb, ob, oc, rb, nv, nk, B, most, ordF (keepN keep) nv, rankF (keepN keep) nv⟩ (relN rels) nr k rv) now5 v5 ([] ++ E) (fun r => s0 ((jdOf ⟨J, wb, nb, ob, oc, rb, nv, nk, B, most, ordF (keepN keep) nv, rankF (keepN keep) nv⟩ (relN rels) nr k rv).rk r) ((List.replicate nv 0).take 0)) ∧ Chg ((jdOf ⟨J, wb, nb, ob, oc, rb, nv, nk, B, most, ordF (keepN keep) nv, rankF (keepN keep) nv⟩ (relN rels) nr k rv).D (.slice none 0 0)) wr w5 ∧ Res (jdOf ⟨J, wb, nb, ob, oc, rb, nv, nk, B, most, ordF (keepN keep) nv, rankF (keepN keep) nv⟩ (relN rels) nr k rv) 0 ((List.replicate nv 0).take 0) [] E res ∧ v5 = .slice Av ([] ++ E).length cv)
    (hm : ¬ most < (E.length : Int)) (hnk : keep.length = nk) (hnr : rels.length = nr) : JPost w nv keep rels most (.returned (.tuple #[.slice Av E.length cv, .int .i64 0])) w5 := by
  obtain ⟨h51, h52, h53, h54⟩ := h5
  obtain ⟨k1, k2, k3, k4, _⟩ := hp.keep_lt rfl
  have hpos := List.length_pos_iff.2 k3
  have hm0 := hp.m0
  have hr := h53.1 (by show 0 < nk; omega)
  have hE := hr.2.1 (by show ([] ++ E).length ≤ most.toNat; rw [List.nil_append]; omega)
  have hkn : (keepN keep).length ≤ nv := by rw [← ordL_len (keepN keep) nv k1 k2]; unfold ordL; rw [List.length_append]; omega
  have hJ := join_of (E := E) (ord_rank _ nv k1 k2) (rank_ord _ nv k1 k2) hkn (ord_keep (keepN keep) nv) (hp.rel_lt rfl).1 (m := nr) (by unfold relN; rw [List.length_map, hnr]) (fun r _ => rfl) (by rw [k4, hnk]; exact hE)
  have e := hJ.uniq (joinL_is hp)
  have ho := out_rows h51.out
  rw [h54, List.nil_append] at ho
  refine ⟨_, _, rfl, jd_below hR h52, .inr (.inr ⟨hp, by rw [← e]; omega, rfl, by rw [← e]; exact ho⟩)⟩
end
theorem size_lt1 (w : World) (o : Obj) : w.heap.size < ((w.alloc o).drew).heap.size := by show w.heap.size < (w.alloc o).heap.size; rw [World.size_alloc]; omega
theorem size_lt2 (w : World) (o o2 : Obj) : w.heap.size < (((w.alloc o).alloc o2).drew).heap.size := by show w.heap.size < ((w.alloc o).alloc o2).heap.size; rw [World.size_alloc, World.size_alloc]; omega
theorem size_lt3 (w : World) (o o2 : Obj) : w.heap.size + 1 < (((w.alloc o).alloc o2).drew).heap.size := by show w.heap.size + 1 < ((w.alloc o).alloc o2).heap.size; rw [World.size_alloc, World.size_alloc]; omega
theorem size_of1 {w w3 : World} {o : Obj} (h : Below ((w.alloc o).drew).heap.size ((w.alloc o).drew) w3) : w.heap.size < w3.heap.size := Nat.lt_of_lt_of_le (size_lt1 w o) h.size
theorem own_weaken {w : World} {B B' : Nat} {e : TypeId} {v : Value} {n : Nat} {xs : List Value} (h : w.ownsRow B e 1 v n xs) (hB : B' ≤ B) : w.ownsRow B' e 1 v n xs := by
  obtain ⟨hl, ⟨rfl, hn⟩ | ⟨g, cap, cur, rfl, hg, hr⟩⟩ := h
  · exact ⟨hl, .inl ⟨rfl, hn⟩⟩
  · exact ⟨hl, .inr ⟨g, cap, cur, rfl, Nat.le_trans hB hg, hr⟩⟩
theorem heap_new2 (w : World) (o : Obj) (c : Array Value) (t : TypeId) : ((w.alloc o).alloc (.cells c t)).heap[w.heap.size + 1]? = some (.cells c t (0, 0)) := by
  have := heap_alloc_new (w.alloc o) (.cells c t)
  rw [World.size_alloc] at this
  exact this
theorem jbx {w w2 W w3 F XA XB : World} {a b nv kl n J : Nat} {most : Int} {v : Value} {keep : List Int} (HB : BelS w w2) (hW : BelS w2 W) (hc : w3.ownsRow W.heap.size 3 1 v n (keep.map (Value.int .i64)) ∧ Below W.heap.size W w3) (hn : keep.length = n) (hk : keep = (keepN keep).map (fun v : Nat => (v : Int))) (hF : BelS w3 F)
    (hA : XA.heap[a]? = some (.cells (nilRows nv) 52 (0, 0))) (bA : BelS XA F) (hB : XB.heap[b]? = some (.cells (zeros nv) 3 (0, 0))) (bB : BelS XB F) (hJ : J = F.heap.size) (ha : (w2.heap.size ≤ a ∧ a < W.heap.size) ∨ w3.heap.size ≤ a) (hb : (w2.heap.size ≤ b ∧ b < W.heap.size) ∨ w3.heap.size ≤ b) (hab : a ≠ b) :
    Jb w (F.alloc (.cells #[v, .int .i64 kl, .slice (some ⟨a, 0, none⟩) nv nv, .slice (some ⟨b, 0, none⟩) nv nv, .int .i64 most, .slice none 0 0] 48)) J a b nv kl most v (keepN keep) := by
  subst hJ
  obtain ⟨h1, h2⟩ := hc
  have s1 := HB.size
  have s2 := hW.size
  have s3 := h2.size
  have e : keep.map (Value.int .i64) = (keepN keep).map encN := by
    rw [hk, List.map_map]
    have : keepN ((keepN keep).map (fun v : Nat => (v : Int))) = keepN keep := by rw [← hk]
    rw [this]
    rfl
  rw [e] at h1
  exact jb_new hA bA hB bB (own_weaken h1 (by omega)) (by unfold keepN; simpa using hn) hF (((HB.then hW).then h2).then hF) (by omega) (by omega) hab (fun g hg => by have := World.ownsRow.lt h1 g hg; omega)
set_option maxHeartbeats 3200000 in
set_option maxRecDepth 100000 in
theorem join_yes {w : World} (nv : Nat) (most : Int) (kv rv : Value) (keep : List Int) (rels : List RelV) (hk : G.SlL w enc1 kv keep) (hr : G.SlL w encR rv rels) (hsv : ∀ r ∈ rels, RelIn w r) (hkl : keep.length ≤ 1000) (hrl : rels.length ≤ 1000) (hrs : ∀ r ∈ rels, r.rows.length * 24 ≤ 140737488355328) (hp : MayP nv keep rels most) :
    Calls Try.prog 11 #[.int .i64 nv, kv, rv, .int .i64 most] w (JPost w nv keep rels most) := by
  have HM := Lib.hid (may_ok nv most kv rv keep rels hk hr (fun r hr => by obtain ⟨A, c, h, _⟩ := (hsv r hr).sl; exact ⟨A, _, c, h⟩) (by omega) (by omega))
  obtain ⟨kb, koff, kc, rfl, hkc, hkb, _⟩ := sl_one hk 0 0 (List.length_pos_iff.2 hp.ne)
  obtain ⟨Ar, cr, rfl, hcr, _, _⟩ := id hr
  obtain ⟨nk, hnk⟩ : ∃ n, keep.length = n := ⟨_, rfl⟩
  obtain ⟨nr, hnr⟩ : ∃ n, rels.length = n := ⟨_, rfl⟩
  rw [hnk] at hk hkl hkc HM ⊢
  rw [hnr] at hr hrl HM ⊢
  have hja : Ja w keep kb koff nk kc := ⟨fun j x hj => by
    have hjl := (List.getElem?_eq_some_iff.1 hj).1
    obtain ⟨b2, off2, c2, e, _, _, hc⟩ := sl_one hk 0 j hjl
    injection e with e1 e2 e3
    injection e1 with e1
    injection e1 with e1 e4
    subst e1 e4
    rw [List.getD_eq_getElem?_getD, hj] at hc
    exact hc⟩
  have HV := Lib.hid (And.intro hk (And.intro hnk (And.intro hr (And.intro hnr (And.intro hsv (And.intro hrs (And.intro hp hja)))))))
  have hv1 : 1 ≤ (nv : Int) := hp.v1
  have hv16 : (nv : Int) ≤ 16 := hp.v16
  have hm0 : 0 ≤ most := hp.m0
  have hm1 : most ≤ 1048576 := hp.m1
  have hnkN : (nk : Int) ≤ 1000 := by omega
  have hnrN : (nr : Int) ≤ 1000 := by omega
  clear hk hnk hr hnr hsv hrs hp hja hkb hcr
  have hnv : nv ≤ 1000 := by omega
  go_enter Try.func11, Try.ntmps11
  go_wp2_with fail
  refine HM.out.mono ?_
  rintro e w2 ⟨b, rfl, hb, hbl⟩
  have HB : Hid (BelS w w2) := Lib.hid hbl
  obtain rfl : b = true := hb.2 HV.out.2.2.2.2.2.2.1
  clear hb hbl HM
  have MR := make_rows nv hnv
  have MI := make_ints nv hnv
  go_upto_region 3 with fail
  go_cut [10] from 18 to 134 (fun s10 wx => ∃ (J wb nb : Nat) (ov : Value), s10 = .pointer (some ⟨J, 0, none⟩) ∧ Jb w wx J wb nb nv nk most ov (keepN keep))
  case first =>
    go_region_held3 (fun W => True) (exact True.intro)
      (first | (go_at_call 17; refine (clone_k HV.out.2.2.2.2.2.2.2 HV.out.2.1 hkl (HB.out.then (by first | exact (BelS.refl _).drew | exact ((BelS.refl _).alloc _).drew | exact (((BelS.refl _).alloc _).alloc _).drew))).mono ?_; rintro e w3 ⟨v3, rfl, ho3, hn3, hb3⟩; obtain ⟨g3, cp3, rfl, hg3, hl3, hcc3, hx3⟩ := cl_form ho3 hn3; have HC3 := Lib.hid (And.intro ho3 hb3); clear ho3 hn3 hb3 hg3 hl3 hcc3 hx3))
    all_goals
      go_wp2_with fail
      go_meet
      go_light
      first
        | exact ⟨_, _, _, _, rfl, jbx (W := w2.drew) (F := (w3.alloc (.cells (nilRows nv) 52)).alloc (.cells (zeros nv) 3)) (XA := (w3.alloc (.cells (nilRows nv) 52))) (XB := (w3.alloc (.cells (nilRows nv) 52)).alloc (.cells (zeros nv) 3)) HB.out ((BelS.refl _).drew) HC3.out HV.out.2.1 (HV.out.2.2.2.2.2.2.1.keep_lt rfl).2.2.2.2 (((BelS.refl _).alloc _).alloc _) (heap_alloc_new _ _) ((BelS.refl _).alloc _) (heap_new2 _ _ _ _) (BelS.refl _) (by simp [World.size_alloc]) (.inr (Nat.le_refl _)) (.inr (Nat.le_succ _)) (by omega)⟩
        | exact ⟨_, _, _, _, rfl, jbx (W := w2.drew) (F := (w3.alloc (.cells (zeros nv) 3)).alloc (.cells (nilRows nv) 52)) (XA := (w3.alloc (.cells (zeros nv) 3)).alloc (.cells (nilRows nv) 52)) (XB := (w3.alloc (.cells (zeros nv) 3))) HB.out ((BelS.refl _).drew) HC3.out HV.out.2.1 (HV.out.2.2.2.2.2.2.1.keep_lt rfl).2.2.2.2 (((BelS.refl _).alloc _).alloc _) (heap_new2 _ _ _ _) (BelS.refl _) (heap_alloc_new _ _) ((BelS.refl _).alloc _) (by simp [World.size_alloc]) (.inr (Nat.le_succ _)) (.inr (Nat.le_refl _)) (by omega)⟩
        | exact ⟨_, _, _, _, rfl, jbx (W := (w2.alloc (.cells (nilRows nv) 52)).drew) (F := (w3.alloc (.cells (zeros nv) 3))) (XA := (w2.alloc (.cells (nilRows nv) 52))) (XB := (w3.alloc (.cells (zeros nv) 3))) HB.out (((BelS.refl _).alloc _).drew) HC3.out HV.out.2.1 (HV.out.2.2.2.2.2.2.1.keep_lt rfl).2.2.2.2 ((BelS.refl _).alloc _) (heap_alloc_new _ _) ((((BelS.refl _).drew).then HC3.out.2).alloc _) (heap_alloc_new _ _) (BelS.refl _) (by simp [World.size_alloc]) (.inl ⟨Nat.le_refl _, size_lt1 _ _⟩) (.inr (Nat.le_refl _)) (Nat.ne_of_lt (size_of1 HC3.out.2))⟩
        | exact ⟨_, _, _, _, rfl, jbx (W := ((w2.alloc (.cells (nilRows nv) 52)).alloc (.cells (zeros nv) 3)).drew) (F := w3) (XA := (w2.alloc (.cells (nilRows nv) 52))) (XB := ((w2.alloc (.cells (nilRows nv) 52)).alloc (.cells (zeros nv) 3))) HB.out ((((BelS.refl _).alloc _).alloc _).drew) HC3.out HV.out.2.1 (HV.out.2.2.2.2.2.2.1.keep_lt rfl).2.2.2.2 (BelS.refl _) (heap_alloc_new _ _) ((((BelS.refl _).alloc _).drew).then HC3.out.2) (heap_new2 _ _ _ _) (((BelS.refl _).drew).then HC3.out.2) (by simp [World.size_alloc]) (.inl ⟨Nat.le_refl _, size_lt2 _ _ _⟩) (.inl ⟨Nat.le_succ _, size_lt3 _ _ _⟩) (by omega)⟩
        | exact ⟨_, _, _, _, rfl, jbx (W := (w2.alloc (.cells (zeros nv) 3)).drew) (F := (w3.alloc (.cells (nilRows nv) 52))) (XA := (w3.alloc (.cells (nilRows nv) 52))) (XB := (w2.alloc (.cells (zeros nv) 3))) HB.out (((BelS.refl _).alloc _).drew) HC3.out HV.out.2.1 (HV.out.2.2.2.2.2.2.1.keep_lt rfl).2.2.2.2 ((BelS.refl _).alloc _) (heap_alloc_new _ _) (BelS.refl _) (heap_alloc_new _ _) ((((BelS.refl _).drew).then HC3.out.2).alloc _) (by simp [World.size_alloc]) (.inr (Nat.le_refl _)) (.inl ⟨Nat.le_refl _, size_lt1 _ _⟩) (fun e => Nat.ne_of_lt (size_of1 HC3.out.2) e.symm)⟩
        | exact ⟨_, _, _, _, rfl, jbx (W := ((w2.alloc (.cells (zeros nv) 3)).alloc (.cells (nilRows nv) 52)).drew) (F := w3) (XA := ((w2.alloc (.cells (zeros nv) 3)).alloc (.cells (nilRows nv) 52))) (XB := (w2.alloc (.cells (zeros nv) 3))) HB.out ((((BelS.refl _).alloc _).alloc _).drew) HC3.out HV.out.2.1 (HV.out.2.2.2.2.2.2.1.keep_lt rfl).2.2.2.2 (BelS.refl _) (heap_new2 _ _ _ _) (((BelS.refl _).drew).then HC3.out.2) (heap_alloc_new _ _) ((((BelS.refl _).alloc _).drew).then HC3.out.2) (by simp [World.size_alloc]) (.inl ⟨Nat.le_succ _, size_lt3 _ _ _⟩) (.inl ⟨Nat.le_refl _, size_lt2 _ _ _⟩) (by omega)⟩
  case rest =>
    obtain ⟨J, wb, nb, ov, rfl, hjb⟩ := hcut
    have HJ0 := Lib.hid hjb
    clear hjb MR
    go_wp2_with fail
    go_loopg [36] (nv + 1) (fun g s36 wr => ∃ (k : Nat) (ov : Value), k ≤ nv ∧ nv - k < g ∧ s36 = .int .i64 k ∧ Jb w wr J wb nb nv nk most ov (ordL (keepN keep) k))
    case atStart => exact ⟨0, _, by omega, by omega, rfl, by have := HJ0.out; rwa [ordL_zero]⟩
    case round =>
      obtain ⟨k, ov, hk, hg, rfl, hjb⟩ := hrel
      have HJ := Lib.hid hjb
      clear hjb
      by_cases hlt : k < nv
      · have hd : decide ((k : Int) < (nv : Int)) = true := by simp; omega
        have hl2 : (k : Int) < (nv : Int) := by omega
        obtain ⟨q, hq⟩ : ∃ q, decide ((k : Int) ∈ keep) = q := ⟨_, rfl⟩
        have hci := contains_i (k : Int) (HV.out.1.below HJ.out.below) (by have := HV.out.2.1; omega)
        rw [hq] at hci
        have HCI := Lib.hid hci
        have HQ := Lib.hid hq
        obtain ⟨j0, j0f⟩ := jcell0 HJ.out.bJ
        clear hci hq
        cases q
        · have hol := (ordL_len (keepN keep) nv (HV.out.2.2.2.2.2.2.1.keep_lt rfl).1 (HV.out.2.2.2.2.2.2.1.keep_lt rfl).2.1)
          obtain ⟨i0, hi0, hz0, hz1, hz2⟩ := info_parts info_int
          have HZ := Lib.hid (And.intro hi0 (And.intro hz0 (And.intro hz1 hz2)))
          have HO1 := Lib.hid (World.ownsRow.alloc HJ.out.own (.cells #[.int .i64 k] 3))
          have hoL : (ordL (keepN keep) k).length ≤ 1000 + k := by unfold ordL; rw [List.length_append]; have := List.length_filter_le (fun v => !(keepN keep).contains v) (List.range k); rw [List.length_range] at this; have h2 := (HV.out.2.2.2.2.2.2.1.keep_lt rfl).2.2.2.1; have := HV.out.2.1; omega
          obtain ⟨no, hno⟩ : ∃ n, (ordL (keepN keep) k).length = n := ⟨_, rfl⟩
          rw [hno] at HO1 hoL
          have HNO := Lib.hid hno
          have hjlt : J < wr.heap.size := (Array.getElem?_eq_some_iff.1 HJ.out.bJ).1
          have hwl : w.heap.size ≤ (wr.alloc (.cells #[.int .i64 k] 3)).heap.size := by rw [World.size_alloc]; have := HJ.out.below.size; omega
          have hjo : some J ≠ ov.ownBlock := fun e => (HJ.out.on J e.symm).1 rfl
          clear hi0 hz0 hz1 hz2 hol hno
          go_wp2_with (first
            | (go_at_call 18; refine HCI.out.mono ?_; rintro e w5 ⟨rfl, rfl⟩)
            | (at_builtin; refine wpList_append_lies _ rfl _ _ _ rfl w.heap.size 3 i0 _ 1 8 Try.underlying23 HZ.out.1 HZ.out.2.1 HZ.out.2.2.1 HZ.out.2.2.2 rfl (by omega) ov no ((ordL (keepN keep) k).map encN) rfl HO1.out ⟨wr.heap.size, 0, none⟩ 1 1 [.int .i64 k] rfl rfl (World.news_of_block (cs := #[.int .i64 k]) (t := 3) (fr := (0, 0)) (heap_alloc_new wr _)) (by simp [Value.oneCell']) (by omega) (by unfold maxLen; omega) (by omega) hwl (wr.heap.size + 1) (by simp) ?_; intro gg cp4 w4 hown4 hgrow hat hlt4; have m0 := (keepJ hgrow hjo hjlt 0).1.trans j0; have mf := (keepJ hgrow hjo hjlt 0).2.trans j0f; have HC4 := Lib.hid (And.intro hown4 (And.intro hgrow hat)); clear hown4 hgrow hat hlt4))
          go_roundg (nv - k)
          case measure => exact hg
          case rel =>
            go_light
            refine ⟨k + 1, .slice (some ⟨gg, 0, none⟩) (no + 1) cp4, by omega, by omega, by go_num, ?_⟩
            have hkq : k ∉ keepN keep := fun e => of_decide_eq_false HQ.out ((mem_keepN (HV.out.2.2.2.2.2.2.1.keep_lt rfl).2.2.2.2 k).2 e)
            rw [ordL_step, if_neg hkq]
            exact jb_end HJ.out HNO.out HC4.out
        · go_wp2_with (go_at_call 18; refine HCI.out.mono ?_; rintro e w5 ⟨rfl, rfl⟩)
          go_roundg (nv - k)
          case measure => exact hg
          case rel =>
            go_light
            refine ⟨k + 1, ov, by omega, by omega, by go_num, ?_⟩
            have hkq : k ∈ keepN keep := (mem_keepN (HV.out.2.2.2.2.2.2.1.keep_lt rfl).2.2.2.2 k).1 (of_decide_eq_true HQ.out)
            rw [ordL_step, if_pos hkq]
            exact HJ.out
      · have hkn : k = nv := by omega
        have hd : decide ((k : Int) < (nv : Int)) = false := by simp; omega
        have hl2 : ¬ (k : Int) < (nv : Int) := by omega
        rw [hkn] at HJ
        have HOL := Lib.hid (ordL_len (keepN keep) nv (HV.out.2.2.2.2.2.2.1.keep_lt rfl).1 (HV.out.2.2.2.2.2.2.1.keep_lt rfl).2.1)
        have hof := (own_form HJ.out.own (by rw [HOL.out]; omega)).1
        rw [HOL.out] at hof
        obtain ⟨ob, hob⟩ : ∃ ob, blkOf ov = ob := ⟨_, rfl⟩
        obtain ⟨oc, hoc⟩ : ∃ oc, capOf ov = oc := ⟨_, rfl⟩
        rw [hob, hoc] at hof
        subst hof
        have hjc := jc_new HJ.out
        obtain ⟨rb, hrb⟩ : ∃ rb, wr.heap.size = rb := ⟨_, rfl⟩
        obtain ⟨wq, hwq⟩ : ∃ wq, wr.alloc (.cells (zeros nv) 3) = wq := ⟨_, rfl⟩
        have j0 := ((jcell0 hjc.jb.bJ).1)
        have MZ : ∀ W : World, W = wr → (Instr.makeSlice 23 (.int .i64 nv) (.int .i64 nv)).run Try.prog W = .ok (.slice (some ⟨rb, 0, none⟩) nv nv) wq := fun W e => by subst e; rw [← hrb, ← hwq]; exact MI _
        have MZ := MZ wr rfl
        rw [hwq] at j0
        rw [hrb, hwq] at hjc
        have HC := Lib.hid hjc
        clear hkn hob hoc hjc MI hrb hwq
        go_wp2_with fail
        go_loopg [61] (nv + 1) (fun g s61 wx => ∃ k : Nat, k ≤ nv ∧ nv - k < g ∧ s61 = .int .i64 k ∧ Jc w wq wx J wb nb nv nk most ob oc rb (keepN keep) k)
        case atStart => exact ⟨0, by omega, by omega, rfl, HC.out⟩
        case round =>
          obtain ⟨k2, hk2, hg2, rfl, hjc⟩ := hrel
          have HK := Lib.hid hjc
          have HKL := Lib.hid (HV.out.2.2.2.2.2.2.1.keep_lt rfl)
          clear hjc
          by_cases hlt2 : k2 < nv
          · have hd2 : decide ((k2 : Int) < (nv : Int)) = true := by simp; omega
            have hl3 : (k2 : Int) < (nv : Int) := by omega
            have hcell := HK.out.ordc HOL.out k2 hlt2
            have hov := (rank_ord (keepN keep) nv HKL.out.1 HKL.out.2.1 k2 hlt2).2
            obtain ⟨c1, c2⟩ := rowsV_cell HK.out.rk (ordF (keepN keep) nv k2) hov
            obtain ⟨o2, ho2⟩ : ∃ o2, ordF (keepN keep) nv k2 = o2 := ⟨_, rfl⟩
            have HST := Lib.hid (HK.out.step HKL.out.1 HKL.out.2.1 hlt2)
            rw [ho2] at hcell hov c1 c2 HST
            have hoi : (o2 : Int) < (nv : Int) := by omega
            have ho0 : (0 : Int) ≤ (o2 : Int) := by omega
            unfold fR encN at c1
            clear ho2
            go_wp2_with fail
            go_roundg (nv - k2)
            case measure => exact hg2
            case rel => exact ⟨k2 + 1, by omega, by omega, by go_num, HST.out⟩
          · have hd2 : decide ((k2 : Int) < (nv : Int)) = false := by simp; omega
            have hl3 : ¬ (k2 : Int) < (nv : Int) := by omega
            have hkn2 : k2 = nv := by omega
            rw [hkn2] at HK
            clear hkn2
            go_wp2_with fail
            have hjr0 := jr_start (rels := relN rels) HK.out HKL.out.1 HKL.out.2.1 (fun _ => ⟨0, 0, 0, 0, []⟩)
            have HRL := Lib.hid (HV.out.2.2.2.2.2.2.1.rel_lt rfl)
            obtain ⟨wp, hwp⟩ : ∃ wp : World, wp = wr := ⟨_, rfl⟩
            rw [← hwp] at hjr0
            have HJ0' := Lib.hid hjr0
            clear hjr0
            obtain ⟨B, hB⟩ : ∃ B, wp.heap.size = B := ⟨_, rfl⟩
            rw [hB] at HJ0'
            clear hB
            subst hwp
            go_wp2_with fail
            go_loopg [73] (nr + 1) (fun g s73 wx => ∃ (i : Nat) (k : Nat → Wr) (rv : Nat → Value), i ≤ nr ∧ nr - i < g ∧ s73 = .int .i64 i ∧ Jr w wx ⟨J, wb, nb, ob, oc, rb, nv, nk, B, most, ordF (keepN keep) nv, rankF (keepN keep) nv⟩ (relN rels) i k (fun v => rowN (relN rels) v i) rv)
            case atStart => exact ⟨0, _, _, by omega, by omega, rfl, HJ0'.out.rows (fun v _ => rfl)⟩
            case round =>
              obtain ⟨i, k, rv, hi, hg3, rfl, hjr⟩ := hrel
              have HR := Lib.hid hjr
              clear hjr
              by_cases hlt3 : i < nr
              · have hd4 : decide ((i : Int) < (nr : Int)) = true := by simp; omega
                have hl4 : (i : Int) < (nr : Int) := by omega
                obtain ⟨rbl, off, c', hv', hrbl, y0, y1, y2⟩ := rel_at HV.out.2.2.1 i (by have := HV.out.2.2.2.1; omega)
                injection hv' with e1 e2 e3
                subst e1
                have y0 := HR.out.below.cell y0
                have y1 := HR.out.below.cell y1
                have y2 := HR.out.below.cell y2
                obtain ⟨r, hr⟩ : ∃ r, rels.getD i default = r := ⟨_, rfl⟩
                have hrm : r ∈ rels := by rw [← hr, getD_lt _ _ (by have := HV.out.2.2.2.1; omega)]; exact List.getElem_mem _
                have hri := HV.out.2.2.2.2.1 r hrm
                obtain ⟨A2, c2, hrv, _⟩ := id hri.sl
                obtain ⟨ra, hra⟩ : ∃ m : Nat, r.A = m := ⟨r.A.toNat, by have := HV.out.2.2.2.2.2.2.1.rr r hrm; omega⟩
                obtain ⟨rbv, hrb2⟩ : ∃ m : Nat, r.B = m := ⟨r.B.toNat, by have := HV.out.2.2.2.2.2.2.1.rr r hrm; omega⟩
                have hlt4 : ra < nv ∧ rbv < nv := by have := HV.out.2.2.2.2.2.2.1.rr r hrm; omega
                rw [hr] at y0 y1 y2
                rw [hra] at y0
                rw [hrb2] at y1
                rw [hrv] at y2
                obtain ⟨np, hnp⟩ : ∃ n, r.rows.length = n := ⟨_, rfl⟩
                rw [hnp] at y2 hrv
                have hrl : (relN rels).getD i ⟨0, 0, []⟩ = ⟨ra, rbv, r.rows⟩ := by
                  have hi2 : i < rels.length := by have := HV.out.2.2.2.1; omega
                  rw [getD_lt _ _ (by unfold relN; rw [List.length_map]; exact hi2)]
                  unfold relN
                  rw [List.getElem_map]
                  have : rels[i] = r := by rw [← hr, getD_lt _ _ hi2]
                  rw [this]
                  unfold rlOf
                  rw [hra, hrb2]
                  rfl
                have HRR := Lib.hid (And.intro hri (And.intro hrv (And.intro hnp (And.intro hrl (And.intro hrm hlt4)))))
                have hnp24 : np * 24 ≤ 140737488355328 := by rw [← hnp]; exact HV.out.2.2.2.2.2.1 r hrm
                have hba : BelS wr (wr.alloc (.cells #[.int .i64 ra, .int .i64 rbv, .slice A2 np c2] 35)) := (BelS.refl _).alloc _
                have HBA := Lib.hid (And.intro hba (HR.out.more hba))
                have hla := hlt4.1
                have hlb := hlt4.2
                have q0 : (wr.alloc (.cells #[.int .i64 ra, .int .i64 rbv, .slice A2 np c2] 35)).cell? ⟨wr.heap.size, 0, none⟩ = some (.int .i64 ra) := by simp [World.cell?_alloc_new]
                have q1 : (wr.alloc (.cells #[.int .i64 ra, .int .i64 rbv, .slice A2 np c2] 35)).cell? ⟨wr.heap.size, 1, none⟩ = some (.int .i64 rbv) := by simp [World.cell?_alloc_new]
                have HQ0 := Lib.hid (And.intro q0 q1)
                clear hba hri hrv hrl hrm hlt4 hr hra hrb2 hnp e2 e3 q0 q1
                go_wp2_with fail
                refine (walk_ok (w0 := w) HBA.out.2.below ra rbv np rb nv nv (rankF (keepN keep) nv ra) (rankF (keepN keep) nv rbv) A2 c2 r.rows (by have := HRR.out.1.sl; rw [HRR.out.2.1] at this; exact this.below HBA.out.2.below) HRR.out.2.2.1 hnp24 HRR.out.1.top hla hlb (HBA.out.2.rankc ra hla) (HBA.out.2.rankc rbv hlb) hnv (by have := (ord_rank (keepN keep) nv HKL.out.1 HKL.out.2.1 ra hla).2; omega) (by have := (ord_rank (keepN keep) nv HKL.out.1 HKL.out.2.1 rbv hlb).2; omega)).mono ?_
                rintro e w3 ⟨kk, rfl, hnew⟩
                have hJ3 := HBA.out.2.walk hnew (show _ = (rkOf (rankF (keepN keep) nv) ((relN rels).getD i ⟨0, 0, []⟩)).L by rw [HRR.out.2.2.2.1]; rfl) (fun v hv r hr => ((rowN_mem _ v i r).1 hr).1)
                have q0 : w3.cell? ⟨wr.heap.size, 0, none⟩ = some (.int .i64 ra) := BelS.cell (show BelS _ w3 from hnew.below) HQ0.out.1
                have q1 : w3.cell? ⟨wr.heap.size, 1, none⟩ = some (.int .i64 rbv) := BelS.cell (show BelS _ w3 from hnew.below) HQ0.out.2
                have hrB : ∀ v, v < nv → ∀ g, (rv v).ownBlock = some g → g < wr.heap.size := fun v hv g e => (World.ownsRow.lt (HR.out.own v hv) g e).2
                obtain ⟨na, hna⟩ : ∃ n, (rowN (relN rels) ra i).length = n := ⟨_, rfl⟩
                have AP1 : Hid (Ap w w3 ⟨J, wb, nb, ob, oc, rb, nv, nk, B, most, ordF (keepN keep) nv, rankF (keepN keep) nv⟩ (relN rels) (i + 1) (updV k i kk) (fun v => rowN (relN rels) v i) rv ra na kk) := Lib.hid ⟨hJ3, hla, hna, by have := rowN_len (relN rels) ra i; omega, by show updV k i kk i = kk; exact updV_self _ _ _⟩
                obtain ⟨i1, hi1, hz0, hz1, hz2⟩ := info_parts info_ptr
                have HZ1 := Lib.hid (And.intro hi1 (And.intro hz0 (And.intro hz1 hz2)))
                clear hnew hJ3 hna hi1 hz0 hz1 hz2
                unfold Wr.ptr
                have a2HC4 : w3.cell? ⟨J, 2, none⟩ = some (.slice (some ⟨wb, 0, none⟩) nv nv) := (AP1.out.jr.cells ra hla).1
                have awHC4 : w3.cell? ⟨wb, ra, none⟩ = some (rv ra) := (AP1.out.jr.cells ra hla).2.1
                have afHC4 : w3.frozen? ⟨wb, ra, none⟩ = false := (AP1.out.jr.cells ra hla).2.2
                have hwlHC4 : wb < w3.heap.size := World.block_lt_of_cell? _ _ awHC4
                have hbgHC4 : B ≤ (w3.alloc (.cells #[.pointer (some ⟨kk.g, 0, none⟩)] 50)).heap.size := by rw [World.size_alloc]; have : B ≤ w3.heap.size := AP1.out.jr.big; omega
                have hsmHC4 := AP1.out.small
                go_upto_region 20 with fail
                refine Gh.start_G (fun W => W.cell? ⟨J, 2, none⟩ = some (.slice (some ⟨wb, 0, none⟩) nv nv) ∧ W.cell? ⟨wr.heap.size, 0, none⟩ = some (.int .i64 ra) ∧ W.cell? ⟨wb, ra, none⟩ = some (rv ra)) 18 (by kernel_rfl) ⟨a2HC4, q0, awHC4⟩ (fun hHeld => ?_)
                refine Gh.take_G (i := 0) (v := ?_) rfl (by kernel_rfl) (fun _ _ _ h => h) (Or.inl ⟨by rfl, ?_⟩) (by assumption) ?_
                rotate_left
                · (intro wS hSw; (try dsimp only at hSw); go_simp; try with_reducible rfl)
                try simp only [Act.put, List.setIfInBounds_toArray, List.set_cons_zero, List.set_cons_succ]
                refine Gh.take_G (i := 1) (v := ?_) rfl (by kernel_rfl) (fun _ _ _ h => h) (Or.inl ⟨by rfl, ?_⟩) (by assumption) ?_
                rotate_left
                · (intro wS hSw; (try dsimp only at hSw); go_simp; try with_reducible rfl)
                try simp only [Act.put, List.setIfInBounds_toArray, List.set_cons_zero, List.set_cons_succ]
                refine Gh.take_G (i := 2) (v := ?_) rfl (by kernel_rfl) (fun _ _ _ h => h) (Or.inl ⟨by rfl, ?_⟩) (by assumption) ?_
                rotate_left
                · (intro wS hSw; (try dsimp only at hSw); go_simp; try with_reducible rfl)
                try simp only [Act.put, List.setIfInBounds_toArray, List.set_cons_zero, List.set_cons_succ]
                refine Gh.take_G (i := 3) (v := ?_) rfl (by kernel_rfl) (fun _ _ _ h => h) (Or.inl ⟨by rfl, ?_⟩) (by assumption) ?_
                rotate_left
                · (intro wS hSw; (try dsimp only at hSw); go_simp; try with_reducible rfl)
                try simp only [Act.put, List.setIfInBounds_toArray, List.set_cons_zero, List.set_cons_succ]
                refine Gh.take_G (i := 4) (v := ?_) rfl (by kernel_rfl) (fun _ _ _ h => h) (Or.inl ⟨by rfl, ?_⟩) (by assumption) ?_
                rotate_left
                · (intro wS hSw; (try dsimp only at hSw); go_simp; try with_reducible rfl)
                try simp only [Act.put, List.setIfInBounds_toArray, List.set_cons_zero, List.set_cons_succ]
                refine Gh.take_G (i := 5) (v := ?_) rfl (by kernel_rfl) (fun _ _ _ h => h) (Or.inl ⟨by rfl, ?_⟩) (by assumption) ?_
                rotate_left
                · (intro wS hSw; (try dsimp only at hSw); go_simp; try with_reducible rfl)
                try simp only [Act.put, List.setIfInBounds_toArray, List.set_cons_zero, List.set_cons_succ]
                refine Gh.take_G (i := 6) (v := ?_) rfl (by kernel_rfl) (fun _ _ _ h => h) (Or.inl ⟨by rfl, ?_⟩) (by assumption) ?_
                rotate_left
                · (intro wS hSw; (try dsimp only at hSw); go_simp; try with_reducible rfl)
                try simp only [Act.put, List.setIfInBounds_toArray, List.set_cons_zero, List.set_cons_succ]
                refine Gh.take_G (i := 7) (v := ?_) rfl (by kernel_rfl) (fun _ _ _ h => h) (Or.inl ⟨by rfl, ?_⟩) (by assumption) ?_
                rotate_left
                · (intro wS hSw; (try dsimp only at hSw); go_simp; try with_reducible rfl)
                try simp only [Act.put, List.setIfInBounds_toArray, List.set_cons_zero, List.set_cons_succ]
                refine Gh.take_G (i := 8) (v := ?_) rfl (by kernel_rfl) (fun _ _ _ h => h) (Or.inl ⟨by rfl, ?_⟩) (by assumption) ?_
                rotate_left
                · (intro wS hSw; (try dsimp only at hSw); go_simp; try with_reducible rfl)
                try simp only [Act.put, List.setIfInBounds_toArray, List.set_cons_zero, List.set_cons_succ]
                refine Gh.take_G (i := 9) (v := ?_) rfl (by kernel_rfl) (fun _ _ _ h => h) (Or.inl ⟨by rfl, ?_⟩) (by assumption) ?_
                rotate_left
                · (intro wS hSw; (try dsimp only at hSw); go_simp; try with_reducible rfl)
                try simp only [Act.put, List.setIfInBounds_toArray, List.set_cons_zero, List.set_cons_succ]
                refine Gh.take_G (i := 10) (v := ?_) rfl (by kernel_rfl) (fun _ _ _ h => h) (Or.inl ⟨by rfl, ?_⟩) (by assumption) ?_
                rotate_left
                · (intro wS hSw; (try dsimp only at hSw); go_simp; try with_reducible rfl)
                try simp only [Act.put, List.setIfInBounds_toArray, List.set_cons_zero, List.set_cons_succ]
                refine Gh.take_G (i := 11) (v := ?_) rfl (by kernel_rfl) (fun _ _ _ h => h) (Or.inl ⟨by rfl, ?_⟩) (by assumption) ?_
                rotate_left
                · (intro wS hSw; (try dsimp only at hSw); go_simp; try with_reducible rfl)
                try simp only [Act.put, List.setIfInBounds_toArray, List.set_cons_zero, List.set_cons_succ]
                refine Gh.take_G (i := 12) (v := ?_) rfl (by kernel_rfl) (fun _ _ _ h => h) (Or.inl ⟨by rfl, ?_⟩) (by assumption) ?_
                rotate_left
                · (intro wS hSw; (try dsimp only at hSw); go_simp; try with_reducible rfl)
                try simp only [Act.put, List.setIfInBounds_toArray, List.set_cons_zero, List.set_cons_succ]
                refine Gh.take_G (i := 13) (v := ?_) rfl (by kernel_rfl) (fun _ _ _ h => h) (Or.inl ⟨by rfl, ?_⟩) (by assumption) ?_
                rotate_left
                · (intro wS hSw; (try dsimp only at hSw); go_simp; try with_reducible rfl)
                try simp only [Act.put, List.setIfInBounds_toArray, List.set_cons_zero, List.set_cons_succ]
                refine Gh.take_G (i := 14) (v := ?_) rfl (by kernel_rfl) (fun _ _ _ h => h) (Or.inl ⟨by rfl, ?_⟩) (by assumption) ?_
                rotate_left
                · (intro wS hSw; (try dsimp only at hSw); go_simp; try with_reducible rfl)
                try simp only [Act.put, List.setIfInBounds_toArray, List.set_cons_zero, List.set_cons_succ]
                refine Gh.one_G (i := 15) (by kernel_rfl) rfl (fun K hK => ?_)
                go_simp
                refine hK.out _ _ (fun _ => ⟨alloc_cell a2HC4, alloc_cell q0, alloc_cell awHC4⟩) (fun hHeld2 => ?_)
                have hHeld := hHeld2 (by decide)
                clear hHeld2
                clear hK K
                try simp only [Act.put, List.setIfInBounds_toArray, List.set_cons_zero, List.set_cons_succ]
                refine Gh.one_G (i := 16) (by kernel_rfl) rfl (fun K hK => ?_)
                refine step_append_lies _ (by rfl) _ _ _ (by rfl) B 50 i1 _ 1 8 Try.underlying52 HZ1.out.1 HZ1.out.2.1 HZ1.out.2.2.1 HZ1.out.2.2.2 rfl (by omega) (rv ra) _ _ (by rfl) (AP1.out.own (.cells #[.pointer (some ⟨kk.g, 0, none⟩)] 50)) ⟨w3.heap.size, 0, none⟩ 1 1 [.pointer (some ⟨kk.g, 0, none⟩)] (by rfl) (by rfl) (World.news_of_block (cs := #[.pointer (some ⟨kk.g, 0, none⟩)]) (t := 50) (fr := (0, 0)) (heap_alloc_new w3 _)) (by simp [Value.oneCell']) (by omega) (by unfold maxLen; omega) (by omega) hbgHC4 (w3.heap.size + 1) (by simp) ?_
                intro ggHC4 cpHC4 w4HC4 hown4 hgrow hat hlt4
                have hgrow := (show (w3.drew.alloc (.cells #[.pointer (some ⟨kk.g, 0, none⟩)] 50)).grownBy w4HC4 (rv ra).ownBlock from hgrow)
                have n2HC4 := (keepJ hgrow AP1.out.ne.2 (World.block_lt_of_cell? _ _ a2HC4) 2).1.trans a2HC4
                have nwHC4 := (keepJ hgrow AP1.out.ne.1 hwlHC4 ra).1.trans awHC4
                have nfHC4 := (keepJ hgrow AP1.out.ne.1 hwlHC4 ra).2.trans afHC4
                have nrHC4 := (keepJ hgrow (rne_of AP1.out hrB) (World.block_lt_of_cell? _ _ q0) 0).1.trans q0
                have nsHC4 := (keepJ hgrow (rne_of AP1.out hrB) (World.block_lt_of_cell? _ _ q1) 1).1.trans q1
                have HC4 := Lib.hid (And.intro hown4 (And.intro hgrow hat))
                clear hown4 hgrow hat hlt4
                refine hK.out _ _ (fun _ => ⟨n2HC4, nrHC4, nwHC4⟩) (fun hHeld2 => ?_)
                have hHeld := hHeld2 (by decide)
                clear hHeld2
                clear hK K
                try simp only [Act.put, List.setIfInBounds_toArray, List.set_cons_zero, List.set_cons_succ]
                refine Gh.take_G (i := 17) (v := ?_) rfl (by kernel_rfl) (fun _ _ _ h => h) (Or.inl ⟨by rfl, ?_⟩) (by assumption) ?_
                rotate_left
                · (intro wS hSw; (try dsimp only at hSw); go_simp; try with_reducible rfl)
                try simp only [Act.put, List.setIfInBounds_toArray, List.set_cons_zero, List.set_cons_succ]
                refine Gh.one_G (i := 18) (by kernel_rfl) rfl (fun K hK => ?_)
                go_simp
                refine hK.out _ _ (fun e => absurd rfl e) (fun _ => ?_)
                clear hK K
                try simp only [Act.put, List.setIfInBounds_toArray, List.set_cons_zero, List.set_cons_succ]
                refine Gh.done_G (by kernel_rfl) ?_ _
                have hjA := AP1.out.fin HC4.out
                have hbw : wr.heap.size ≠ wb := by have : wb < wr.heap.size := (Array.getElem?_eq_some_iff.1 HR.out.bW).1; omega
                have qA0 := cell_setT (u := .slice (some ⟨ggHC4, 0, none⟩) (na + 1) cpHC4) (m := ra) hbw nrHC4
                have qA1 := cell_setT (u := .slice (some ⟨ggHC4, 0, none⟩) (na + 1) cpHC4) (m := ra) hbw nsHC4
                obtain ⟨wA, hwA⟩ : ∃ wA, (w4HC4.setCell ⟨wb, ra, none⟩ (.slice (some ⟨ggHC4, 0, none⟩) (na + 1) cpHC4)) = wA := ⟨_, rfl⟩
                rw [hwA] at hjA qA0 qA1 ⊢
                obtain ⟨rvA, hrvA⟩ : ∃ rvA, updV rv ra (.slice (some ⟨ggHC4, 0, none⟩) (na + 1) cpHC4) = rvA := ⟨_, rfl⟩
                rw [hrvA] at hjA
                have hrB2 : ∀ v, v < nv → v ≠ ra → ∀ g, (rvA v).ownBlock = some g → g < wr.heap.size := fun v hv hne g e => by rw [← hrvA, updV_ne _ _ hne] at e; exact hrB v hv g e
                have HJA := Lib.hid (And.intro hjA hrB2)
                clear hjA hwA hrvA hrB2 n2HC4 nwHC4 nfHC4 nrHC4 nsHC4 a2HC4 awHC4 afHC4 hwlHC4 hbgHC4 hsmHC4 q0 q1 hHeld
                by_cases hab : ra = rbv
                · have hdn : ((ra : Int) != (rbv : Int)) = false := by simp; omega
                  have HAB := Lib.hid hab
                  clear hab
                  go_wp2_with fail
                  go_roundg (nr - i)
                  case measure => exact hg3
                  case rel =>
                    go_light
                    exact ⟨i + 1, _, _, by omega, by omega, by go_num, HJA.out.1.rows (fun v _ => rows_same HRR.out.2.2.2.1 HAB.out v)⟩
                · have hdn : ((ra : Int) != (rbv : Int)) = true := by simp; omega
                  obtain ⟨nbv, hnb⟩ : ∃ n, (rowN (relN rels) rbv i).length = n := ⟨_, rfl⟩
                  have AP2 : Hid (Ap w wA ⟨J, wb, nb, ob, oc, rb, nv, nk, B, most, ordF (keepN keep) nv, rankF (keepN keep) nv⟩ (relN rels) (i + 1) (updV k i kk) (updV (fun v => rowN (relN rels) v i) ra (rowN (relN rels) ra i ++ [i])) rvA rbv nbv kk) := Lib.hid ⟨HJA.out.1, hlb, by rw [updV_ne _ _ (fun e => hab e.symm)]; exact hnb, by have := rowN_len (relN rels) rbv i; omega, by show updV k i kk i = kk; exact updV_self _ _ _⟩
                  have HAB := Lib.hid hab
                  have hrB3 : some wr.heap.size ≠ (rvA rbv).ownBlock := fun e => by have := HJA.out.2 rbv hlb (fun e => HAB.out e.symm) _ e.symm; omega
                  clear hab hnb
                  have a2HC5 : wA.cell? ⟨J, 2, none⟩ = some (.slice (some ⟨wb, 0, none⟩) nv nv) := (AP2.out.jr.cells rbv hlb).1
                  have awHC5 : wA.cell? ⟨wb, rbv, none⟩ = some (rvA rbv) := (AP2.out.jr.cells rbv hlb).2.1
                  have afHC5 : wA.frozen? ⟨wb, rbv, none⟩ = false := (AP2.out.jr.cells rbv hlb).2.2
                  have hwlHC5 : wb < wA.heap.size := World.block_lt_of_cell? _ _ awHC5
                  have hbgHC5 : B ≤ (wA.alloc (.cells #[.pointer (some ⟨kk.g, 0, none⟩)] 50)).heap.size := by rw [World.size_alloc]; have : B ≤ wA.heap.size := AP2.out.jr.big; omega
                  have hsmHC5 := AP2.out.small
                  go_upto_region 22 with fail
                  refine Gh.start_G (fun W => W.cell? ⟨J, 2, none⟩ = some (.slice (some ⟨wb, 0, none⟩) nv nv) ∧ W.cell? ⟨wr.heap.size, 1, none⟩ = some (.int .i64 rbv) ∧ W.cell? ⟨wb, rbv, none⟩ = some (rvA rbv)) 18 (by kernel_rfl) ⟨a2HC5, qA1, awHC5⟩ (fun hHeld => ?_)
                  refine Gh.take_G (i := 0) (v := ?_) rfl (by kernel_rfl) (fun _ _ _ h => h) (Or.inl ⟨by rfl, ?_⟩) (by assumption) ?_
                  rotate_left
                  · (intro wS hSw; (try dsimp only at hSw); go_simp; try with_reducible rfl)
                  try simp only [Act.put, List.setIfInBounds_toArray, List.set_cons_zero, List.set_cons_succ]
                  refine Gh.take_G (i := 1) (v := ?_) rfl (by kernel_rfl) (fun _ _ _ h => h) (Or.inl ⟨by rfl, ?_⟩) (by assumption) ?_
                  rotate_left
                  · (intro wS hSw; (try dsimp only at hSw); go_simp; try with_reducible rfl)
                  try simp only [Act.put, List.setIfInBounds_toArray, List.set_cons_zero, List.set_cons_succ]
                  refine Gh.take_G (i := 2) (v := ?_) rfl (by kernel_rfl) (fun _ _ _ h => h) (Or.inl ⟨by rfl, ?_⟩) (by assumption) ?_
                  rotate_left
                  · (intro wS hSw; (try dsimp only at hSw); go_simp; try with_reducible rfl)
                  try simp only [Act.put, List.setIfInBounds_toArray, List.set_cons_zero, List.set_cons_succ]
                  refine Gh.take_G (i := 3) (v := ?_) rfl (by kernel_rfl) (fun _ _ _ h => h) (Or.inl ⟨by rfl, ?_⟩) (by assumption) ?_
                  rotate_left
                  · (intro wS hSw; (try dsimp only at hSw); go_simp; try with_reducible rfl)
                  try simp only [Act.put, List.setIfInBounds_toArray, List.set_cons_zero, List.set_cons_succ]
                  refine Gh.take_G (i := 4) (v := ?_) rfl (by kernel_rfl) (fun _ _ _ h => h) (Or.inl ⟨by rfl, ?_⟩) (by assumption) ?_
                  rotate_left
                  · (intro wS hSw; (try dsimp only at hSw); go_simp; try with_reducible rfl)
                  try simp only [Act.put, List.setIfInBounds_toArray, List.set_cons_zero, List.set_cons_succ]
                  refine Gh.take_G (i := 5) (v := ?_) rfl (by kernel_rfl) (fun _ _ _ h => h) (Or.inl ⟨by rfl, ?_⟩) (by assumption) ?_
                  rotate_left
                  · (intro wS hSw; (try dsimp only at hSw); go_simp; try with_reducible rfl)
                  try simp only [Act.put, List.setIfInBounds_toArray, List.set_cons_zero, List.set_cons_succ]
                  refine Gh.take_G (i := 6) (v := ?_) rfl (by kernel_rfl) (fun _ _ _ h => h) (Or.inl ⟨by rfl, ?_⟩) (by assumption) ?_
                  rotate_left
                  · (intro wS hSw; (try dsimp only at hSw); go_simp; try with_reducible rfl)
                  try simp only [Act.put, List.setIfInBounds_toArray, List.set_cons_zero, List.set_cons_succ]
                  refine Gh.take_G (i := 7) (v := ?_) rfl (by kernel_rfl) (fun _ _ _ h => h) (Or.inl ⟨by rfl, ?_⟩) (by assumption) ?_
                  rotate_left
                  · (intro wS hSw; (try dsimp only at hSw); go_simp; try with_reducible rfl)
                  try simp only [Act.put, List.setIfInBounds_toArray, List.set_cons_zero, List.set_cons_succ]
                  refine Gh.take_G (i := 8) (v := ?_) rfl (by kernel_rfl) (fun _ _ _ h => h) (Or.inl ⟨by rfl, ?_⟩) (by assumption) ?_
                  rotate_left
                  · (intro wS hSw; (try dsimp only at hSw); go_simp; try with_reducible rfl)
                  try simp only [Act.put, List.setIfInBounds_toArray, List.set_cons_zero, List.set_cons_succ]
                  refine Gh.take_G (i := 9) (v := ?_) rfl (by kernel_rfl) (fun _ _ _ h => h) (Or.inl ⟨by rfl, ?_⟩) (by assumption) ?_
                  rotate_left
                  · (intro wS hSw; (try dsimp only at hSw); go_simp; try with_reducible rfl)
                  try simp only [Act.put, List.setIfInBounds_toArray, List.set_cons_zero, List.set_cons_succ]
                  refine Gh.take_G (i := 10) (v := ?_) rfl (by kernel_rfl) (fun _ _ _ h => h) (Or.inl ⟨by rfl, ?_⟩) (by assumption) ?_
                  rotate_left
                  · (intro wS hSw; (try dsimp only at hSw); go_simp; try with_reducible rfl)
                  try simp only [Act.put, List.setIfInBounds_toArray, List.set_cons_zero, List.set_cons_succ]
                  refine Gh.take_G (i := 11) (v := ?_) rfl (by kernel_rfl) (fun _ _ _ h => h) (Or.inl ⟨by rfl, ?_⟩) (by assumption) ?_
                  rotate_left
                  · (intro wS hSw; (try dsimp only at hSw); go_simp; try with_reducible rfl)
                  try simp only [Act.put, List.setIfInBounds_toArray, List.set_cons_zero, List.set_cons_succ]
                  refine Gh.take_G (i := 12) (v := ?_) rfl (by kernel_rfl) (fun _ _ _ h => h) (Or.inl ⟨by rfl, ?_⟩) (by assumption) ?_
                  rotate_left
                  · (intro wS hSw; (try dsimp only at hSw); go_simp; try with_reducible rfl)
                  try simp only [Act.put, List.setIfInBounds_toArray, List.set_cons_zero, List.set_cons_succ]
                  refine Gh.take_G (i := 13) (v := ?_) rfl (by kernel_rfl) (fun _ _ _ h => h) (Or.inl ⟨by rfl, ?_⟩) (by assumption) ?_
                  rotate_left
                  · (intro wS hSw; (try dsimp only at hSw); go_simp; try with_reducible rfl)
                  try simp only [Act.put, List.setIfInBounds_toArray, List.set_cons_zero, List.set_cons_succ]
                  refine Gh.take_G (i := 14) (v := ?_) rfl (by kernel_rfl) (fun _ _ _ h => h) (Or.inl ⟨by rfl, ?_⟩) (by assumption) ?_
                  rotate_left
                  · (intro wS hSw; (try dsimp only at hSw); go_simp; try with_reducible rfl)
                  try simp only [Act.put, List.setIfInBounds_toArray, List.set_cons_zero, List.set_cons_succ]
                  refine Gh.one_G (i := 15) (by kernel_rfl) rfl (fun K hK => ?_)
                  go_simp
                  refine hK.out _ _ (fun _ => ⟨alloc_cell a2HC5, alloc_cell qA1, alloc_cell awHC5⟩) (fun hHeld2 => ?_)
                  have hHeld := hHeld2 (by decide)
                  clear hHeld2
                  clear hK K
                  try simp only [Act.put, List.setIfInBounds_toArray, List.set_cons_zero, List.set_cons_succ]
                  refine Gh.one_G (i := 16) (by kernel_rfl) rfl (fun K hK => ?_)
                  refine step_append_lies _ (by rfl) _ _ _ (by rfl) B 50 i1 _ 1 8 Try.underlying52 HZ1.out.1 HZ1.out.2.1 HZ1.out.2.2.1 HZ1.out.2.2.2 rfl (by omega) (rvA rbv) _ _ (by rfl) (AP2.out.own (.cells #[.pointer (some ⟨kk.g, 0, none⟩)] 50)) ⟨wA.heap.size, 0, none⟩ 1 1 [.pointer (some ⟨kk.g, 0, none⟩)] (by rfl) (by rfl) (World.news_of_block (cs := #[.pointer (some ⟨kk.g, 0, none⟩)]) (t := 50) (fr := (0, 0)) (heap_alloc_new wA _)) (by simp [Value.oneCell']) (by omega) (by unfold maxLen; omega) (by omega) hbgHC5 (wA.heap.size + 1) (by simp) ?_
                  intro ggHC5 cpHC5 w4HC5 hown4 hgrow hat hlt4
                  have hgrow := (show (wA.drew.alloc (.cells #[.pointer (some ⟨kk.g, 0, none⟩)] 50)).grownBy w4HC5 (rvA rbv).ownBlock from hgrow)
                  have n2HC5 := (keepJ hgrow AP2.out.ne.2 (World.block_lt_of_cell? _ _ a2HC5) 2).1.trans a2HC5
                  have nwHC5 := (keepJ hgrow AP2.out.ne.1 hwlHC5 rbv).1.trans awHC5
                  have nfHC5 := (keepJ hgrow AP2.out.ne.1 hwlHC5 rbv).2.trans afHC5
                  have nrHC5 := (keepJ hgrow hrB3 (World.block_lt_of_cell? _ _ qA1) 1).1.trans qA1
                  have HC5 := Lib.hid (And.intro hown4 (And.intro hgrow hat))
                  clear hown4 hgrow hat hlt4
                  refine hK.out _ _ (fun _ => ⟨n2HC5, nrHC5, nwHC5⟩) (fun hHeld2 => ?_)
                  have hHeld := hHeld2 (by decide)
                  clear hHeld2
                  clear hK K
                  try simp only [Act.put, List.setIfInBounds_toArray, List.set_cons_zero, List.set_cons_succ]
                  refine Gh.take_G (i := 17) (v := ?_) rfl (by kernel_rfl) (fun _ _ _ h => h) (Or.inl ⟨by rfl, ?_⟩) (by assumption) ?_
                  rotate_left
                  · (intro wS hSw; (try dsimp only at hSw); go_simp; try with_reducible rfl)
                  try simp only [Act.put, List.setIfInBounds_toArray, List.set_cons_zero, List.set_cons_succ]
                  refine Gh.one_G (i := 18) (by kernel_rfl) rfl (fun K hK => ?_)
                  go_simp
                  refine hK.out _ _ (fun e => absurd rfl e) (fun _ => ?_)
                  clear hK K
                  try simp only [Act.put, List.setIfInBounds_toArray, List.set_cons_zero, List.set_cons_succ]
                  refine Gh.done_G (by kernel_rfl) ?_ _
                  go_wp2_with fail
                  go_roundg (nr - i)
                  case measure => exact hg3
                  case rel =>
                    go_light
                    exact ⟨i + 1, _, _, by omega, by omega, by go_num, (AP2.out.fin HC5.out).rows (fun v _ => rows_diff HRR.out.2.2.2.1 HAB.out v)⟩
              · have hkn3 : i = nr := by omega
                have hd4 : decide ((i : Int) < (nr : Int)) = false := by simp; omega
                have hl4 : ¬ (i : Int) < (nr : Int) := by omega
                rw [hkn3] at HR
                clear hkn3
                have HRD := Lib.hid (jr_ready (keep := keepN keep) HR.out (fun v _ => rfl) (by unfold relN; rw [List.length_map]; exact HV.out.2.2.2.1.symm) hrl (by show nv ≤ 16; omega) HKL.out.1 HKL.out.2.1 HKL.out.2.2.1 (by show nk = _; rw [HKL.out.2.2.2.1]; exact HV.out.2.1.symm) rfl rfl HRL.out.1 HRL.out.2 hm0 hm1)
                have hgo := goes_ok HRD.out.1 nv 0 rfl (Nat.zero_le _) wr (List.replicate nv 0) (.slice none 0 0) [] HRD.out.2 (ok_nil _) (Nat.zero_le _)
                rw [show ((0 : Nat) : Int) = 0 from rfl] at hgo
                have HGO := Lib.hid hgo
                clear hgo
                go_wp2_with fail
                refine HGO.out.mono ?_
                rintro e w5 ⟨res, now5, v5, E, rfl, hj5, _, hg5, _, hr5⟩
                obtain ⟨Av, cv, hv5, _⟩ := hj5.out.form
                have j5 := hj5.cells.2.2.2.2.2.1
                have H5 := Lib.hid (And.intro hj5 (And.intro hg5 (And.intro hr5 hv5)))
                rw [List.nil_append] at hv5
                rw [hv5] at j5
                have j5 := (show w5.cell? ⟨J, 5, none⟩ = some (.slice Av E.length cv) from j5)
                obtain ⟨ne, hne⟩ : ∃ n, E.length = n := ⟨_, rfl⟩
                rw [hne] at j5
                have HE := Lib.hid hne
                clear hj5 hg5 hr5 hv5 hne
                by_cases hmm : most < (ne : Int)
                · have hdm : decide (most < (ne : Int)) = true := by simpa using hmm
                  have HMM := Lib.hid hmm
                  clear hmm
                  go_wp2_with fail
                  go_ret2
                  exact join_many HV.out.2.2.2.2.2.2.1 HR.out HRD.out H5.out (by rw [HE.out]; exact HMM.out) HV.out.2.1 HV.out.2.2.2.1
                · have hdm : decide (most < (ne : Int)) = false := by simpa using hmm
                  have HMM := Lib.hid hmm
                  clear hmm
                  go_wp2_with fail
                  go_ret2
                  have := join_few HV.out.2.2.2.2.2.2.1 HR.out HRD.out H5.out (by rw [HE.out]; have := HMM.out; omega) HV.out.2.1 HV.out.2.2.2.1
                  rw [HE.out] at this
                  exact this
/-- **A join.** -/
theorem join_ok {w : World} (vars most : Int) (kv rv : Value) (keep : List Int) (rels : List RelV) (hk : G.SlL w enc1 kv keep) (hr : G.SlL w encR rv rels) (hsv : ∀ r ∈ rels, RelIn w r) (hkl : keep.length ≤ 1000) (hrl : rels.length ≤ 1000) (hrs : ∀ r ∈ rels, r.rows.length * 24 ≤ 140737488355328) :
    Calls Try.prog 11 #[.int .i64 vars, kv, rv, .int .i64 most] w (JPost w vars keep rels most) := by
  by_cases hp : MayP vars keep rels most
  · obtain ⟨nv, hv⟩ : ∃ nv : Nat, vars = nv := ⟨vars.toNat, by have := hp.v1; omega⟩
    subst hv
    exact join_yes nv most kv rv keep rels hk hr hsv hkl hrl hrs hp
  · exact join_no vars most kv rv keep rels hk hr (fun r hr => by obtain ⟨A, c, h, _⟩ := (hsv r hr).sl; exact ⟨A, _, c, h⟩) (by omega) (by omega) hp
end Go.Proofs.Ytejinhnmabnomaa.Lf
end
