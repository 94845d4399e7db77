/-
  A store in memory: Facts. Conditions: the store lies as told.
-/
import Derived.Test.YtcnffgcegimelaaGreatSu2
import Derived.Test.YtcnffgcegimelaaGreatK5
import Derived.Test.YtcnffgcegimelaaGreatSt2
namespace Go.Proofs.YtcnffgcegimelaaGreat.So
open Go.RowKit Go.Proofs.YtcnffgcegimelaaGreat.Mp Go.Proofs.YtcnffgcegimelaaGreat.Wd Go.Proofs.YtcnffgcegimelaaGreat.Pm Go.Proofs.YtcnffgcegimelaaGreat.Pw

/-- The number that Facts answers, and the facts. -/
def factsE (len : Nat) (n : Int) : Int := if 0 ≤ n ∧ n ≤ len then 0 else 71
def factsL (log : List (List Cng)) (n : Int) : List Tri := if 0 ≤ n ∧ n ≤ log.length then verL (log.take n.toNat) else []
def FactsPost (w : World) (log : List (List Cng)) (n : Int) (e : Ending) (w' : World) : Prop := ∃ v, e = .returned (.tuple #[v, .int .i64 (factsE log.length n)]) ∧ Out3 w.heap.size w' v (factsL log n) ∧ Below w.heap.size w w'
theorem facts_no {w w' : World} {log : List (List Cng)} {n : Int} (h : ¬ (0 ≤ n ∧ n ≤ log.length)) (hb : Below w.heap.size w w') : FactsPost w log n (.returned (.tuple #[.slice none 0 0, .int .i64 71])) w' :=
  ⟨.slice none 0 0, by unfold factsE; rw [if_neg h], ⟨by unfold factsL; rw [if_neg h]; exact G.SlL.nil _ _, Or.inl rfl⟩, hb⟩
theorem take_step (T : List Tri) (hT : T.Nodup) {x : Tri} (hx : x ∈ T) : T.Perm (x :: T.filter (fun y => decide (y ≠ x))) := by
  refine perm_of_mem hT (List.nodup_cons.2 ⟨fun h => ?_, hT.filter _⟩) fun y => ?_
  · have := (List.mem_filter.1 h).2
    simp at this
  · rw [List.mem_cons, List.mem_filter]
    by_cases e : y = x
    · simp [e, hx]
    · simp [e]
/-- What a loop that gathers facts has. -/
structure Gath (L X T : List Tri) : Prop where
  p : (X ++ T).Perm L
  t : T.Nodup
theorem Gath.start {L : List Tri} (h : L.Nodup) : Gath L [] L := ⟨List.Perm.refl _, h⟩
theorem Gath.step {L X T : List Tri} (h : Gath L X T) {x : Tri} (hx : x ∈ T) : Gath L (X ++ [x]) (T.filter (fun y => decide (y ≠ x))) := by
  refine ⟨?_, h.t.filter _⟩
  rw [List.append_assoc]
  exact ((take_step T h.t hx).symm.append_left X).trans h.p
theorem Gath.len {L X T : List Tri} (h : Gath L X T) : X.length + T.length = L.length := by
  have := h.p.length_eq
  rwa [List.length_append] at this
theorem Gath.done {L X D : List Tri} (h : Gath L X []) (hL : L.Nodup) (hD : Rises ltT D) (hm : ∀ x, x ∈ L ↔ x ∈ D) : srtT X = D := by
  have hp : X.Perm L := by have := h.p; rwa [List.append_nil] at this
  refine rises_one ltT_swh (srtT_rises (hp.nodup_iff.2 hL)) hD fun x => ?_
  rw [(srtT_perm X).mem_iff, hp.mem_iff, hm x]
set_option maxRecDepth 100000 in
set_option maxHeartbeats 3200000 in
theorem facts_below {w0 : Nat} {w : World} {k : SW} {s : SS} (h : Sto w0 w k s) (n : Int) (hn : n < 0) :
    Calls Tryz.prog 13 #[.pointer (some ⟨k.p, 0, none⟩), .int .i64 n] w (FactsPost w s.log n) := by
  obtain ⟨q0, q1, q2, q3⟩ := h.cells
  have hno := Lib.hid (show ¬ (0 ≤ n ∧ n ≤ s.log.length) by omega)
  have G0 := fun W (e : W.cell? ⟨k.p, 0, none⟩ = some (.map (some k.bn))) => given_sto W k.p (some k.bn) e
  clear h
  go_enter Tryz.func13, Tryz.ntmps13
  go_wp2_with (go_at_call 31; refine (G0 _ q0).mono ?_; rintro e w' ⟨rfl, rfl⟩)
  go_ret2
  exact facts_no hno.out (Below.refl _ _)
set_option maxRecDepth 100000 in
set_option maxHeartbeats 3200000 in
theorem facts_above {w0 : Nat} {w : World} {k : SW} {s : SS} (h : Sto w0 w k s) (n : Int) (hn : (s.log.length : Int) < n) :
    Calls Tryz.prog 13 #[.pointer (some ⟨k.p, 0, none⟩), .int .i64 n] w (FactsPost w s.log n) := by
  obtain ⟨q0, q1, q2, q3⟩ := h.cells
  have hno := Lib.hid (show ¬ (0 ≤ n ∧ n ≤ s.log.length) by omega)
  have G0 := fun W (e : W.cell? ⟨k.p, 0, none⟩ = some (.map (some k.bn))) => given_sto W k.p (some k.bn) e
  obtain ⟨Al, cl, hlv, _⟩ := h.row.sl
  rw [hlv, h.zl] at q1
  have h0 : ¬ n < 0 := by omega
  clear h hlv
  go_enter Tryz.func13, Tryz.ntmps13
  go_wp2_with (go_at_call 31; refine (G0 _ q0).mono ?_; rintro e w' ⟨rfl, rfl⟩)
  go_ret2
  exact facts_no hno.out (Below.refl _ _)
/-- A map of facts with what is to come of it. -/
structure Src (w W : World) (mb : Nat) (f : Tri → Option Bool) (L D : List Tri) : Prop where
  map : KMap triX encB W mb f L
  below : Below w.heap.size w W
  rise : Rises ltT D
  mem : ∀ x, x ∈ L ↔ x ∈ D
  len : L.length ≤ 4096
theorem own_step {w w5 : World} {r : Nat} {v : Value} {X : List Tri} (h : G.OwnL w (r + 1) 35 3 encT v X) (_hs : r + 1 ≤ w.heap.size) (hg : w.grownBy w5 (some r)) (o : Obj) : G.OwnL (w5.alloc o) (r + 1) 35 3 encT v X :=
  (h.other hg (Nat.lt_succ_self r)).below ((Below.refl _ _).alloc (Nat.le_refl _) o)
/-- What the loop that gathers keeps. -/
def GK (w wx : World) (mb r : Nat) (f : Tri → Option Bool) (L X T : List Tri) (v : Value) : Prop := KIter triX encB wx mb r f L T ∧ Below w.heap.size w wx ∧ G.OwnL wx (r + 1) 35 3 encT v X ∧ Gath L X T ∧ r + 1 ≤ wx.heap.size
theorem GK.round {w wr w5 w6 : World} {mb r : Nat} {f : Tri → Option Bool} {L X T : List Tri} {v v1 : Value} {x : Tri} {o : Obj} (h : GK w wr mb r f L X T v) (hm : mb < r) (hr : w.heap.size ≤ r) (hx : x ∈ T) (hit : KIter triX encB w5 mb r f L (T.filter (fun y => decide (y ≠ x)))) (hg5 : wr.grownBy w5 (some r)) (h6 : G.OwnL w6 (r + 1) 35 3 encT v1 (X ++ [x])) (hg6 : (w5.alloc o).grownBy w6 v.ownBlock) :
    GK w w6 mb r f L (X ++ [x]) (T.filter (fun y => decide (y ≠ x))) v1 := by
  have hv : ∀ g, v.ownBlock = some g → r + 1 ≤ g := fun g e => h.2.2.1.ge g e
  have e1 : some mb ≠ v.ownBlock := fun e => by have := hv mb e.symm; omega
  have e2 : some r ≠ v.ownBlock := fun e => by have := hv r e.symm; omega
  have b5 : Below w.heap.size w w5 := Chg.below h.2.1 (Chg.of_grown hg5) (fun j e => by rw [e]; exact hr)
  have b5a := b5.alloc b5.size o
  refine ⟨(hit.kept (World.grownBy_alloc w5 o none) (by simp) (by simp)).kept hg6 e1 e2, b5a.grown hg6 b5a.size (fun g e => by have := hv g e; omega), h6, h.2.2.2.1.step hx, ?_⟩
  have s1 := hg5.size
  have s2 := hg6.size
  have s3 := h.2.2.2.2
  rw [World.size_alloc] at s2
  omega
theorem facts_done {w wr w7 : World} {mb r m : Nat} {f : Tri → Option Bool} {L X T D : List Tri} {v : Value} {log : List (List Cng)} (h : GK w wr mb r f L X T v) (hT : T = []) (hr : w.heap.size ≤ r) (hL : L.Nodup) (hD : Rises ltT D) (hmem : ∀ x, x ∈ L ↔ x ∈ D) (ho : Out3 (r + 1) w7 v (srtT X)) (hg : wr.grownBy w7 v.ownBlock) (hm : m ≤ log.length) (he : D = verL (log.take m)) :
    FactsPost w log m (.returned (.tuple #[v, .int .i64 0])) w7 := by
  subst hT
  have e : srtT X = D := h.2.2.2.1.done hL hD hmem
  rw [e] at ho
  have hc : 0 ≤ (m : Int) ∧ (m : Int) ≤ log.length := by omega
  refine ⟨v, by unfold factsE; rw [if_pos hc], ?_, h.2.1.grown hg h.2.1.size (fun g e => by have := h.2.2.1.ge g e; omega)⟩
  unfold factsL
  rw [if_pos hc, Int.toNat_natCast, ← he]
  refine ⟨ho.1, ho.2.imp id (fun ⟨g, cap, e1, e2, e3⟩ => ⟨g, cap, e1, by omega, e3⟩)⟩
set_option maxRecDepth 100000 in
set_option maxHeartbeats 3200000 in
theorem facts_in {w0 : Nat} {w : World} {k : SW} {s : SS} (h : Sto w0 w k s) (m : Nat) (hm : m ≤ s.log.length) (hlog : s.log.length ≤ 4000) :
    Calls Tryz.prog 13 #[.pointer (some ⟨k.p, 0, none⟩), .int .i64 m] w (FactsPost w s.log m) := by
  obtain ⟨q0, q1, q2, q3⟩ := h.cells
  have hmm := @run_makeMap Tryz.prog
  have G0 := fun W (e : W.cell? ⟨k.p, 0, none⟩ = some (.map (some k.bn))) => given_sto W k.p (some k.bn) e
  obtain ⟨Al, cl, hlv, hlc, _⟩ := h.row.sl
  obtain ⟨nl, hnl⟩ : ∃ nl, k.zs.length = nl := ⟨_, rfl⟩
  have hnl2 := hnl.symm.trans h.zl
  rw [hnl] at hlv hlc
  rw [hlv] at q1
  rw [← hnl2] at hm hlog
  have HN := Lib.hid (And.intro hnl hnl2)
  have HLV := Lib.hid hlv
  have H := Lib.hid h
  have hps := h.ps
  have n0 : ¬ (m : Int) < 0 := by omega
  have n1 : ¬ (nl : Int) < (m : Int) := by omega
  have hinfo := show (Tryz.prog.info? 35).map (fun i => (i.zero, i.size, i.bytes)) = some (some (.agg #[.string ByteArray.empty, .string ByteArray.empty, .string ByteArray.empty]), 3, 48) by kernel_rfl
  have HI := Lib.hid hinfo
  clear h hlv hnl hnl2 hinfo
  by_cases hlt : m < nl
  · have n2 : (m : Int) < (nl : Int) := by omega
    have n3 : (m : Int) ≤ (cl : Int) := by omega
    have n4 : decide (nl < m) = false := by simp; omega
    go_enter Tryz.func13, Tryz.ntmps13
    go_wp2_with (go_at_call 31; refine (G0 _ q0).mono ?_; rintro e w' ⟨rfl, rfl⟩)
    go_loopg [44] (m + 1) (fun g s44 wr => ∃ i : Nat, i ≤ m ∧ m - i < g ∧ s44 = .int .i64 i ∧ Hid (KMap triX encB wr w.heap.size (allF (s.log.take i)) (allL (s.log.take i)) ∧ Below w.heap.size w wr))
    case atStart => exact ⟨0, Nat.zero_le _, by omega, rfl, Lib.hid ⟨kmap_made triX encB w, (Below.refl _ w).alloc (Nat.le_refl _) _⟩⟩
    case round =>
      obtain ⟨i, hi, hg, rfl, HR⟩ := hrel
      by_cases him : i < m
      · obtain ⟨l, hl⟩ : ∃ l, s.log[i]? = some l := ⟨s.log[i]'(by have := HN.out; omega), List.getElem?_eq_getElem _⟩
        obtain ⟨z, hz⟩ : ∃ z, k.zs[i]? = some z := ⟨k.zs[i]'(by have := HN.out; omega), List.getElem?_eq_getElem _⟩
        have BA := Lib.hid (H.out.all i z l hz hl)
        obtain ⟨b, off, c, hv, hb, hcl⟩ := H.out.row.sl.at_ (k := 1) encS_len i z hz
        rw [HLV.out] at hv
        injection hv with hv e2 e3
        subst hv
        clear e2 e3
        have hc0 := (HR.out.2.cell (p := ⟨b, off + i * 1 + 0, none⟩) hb).trans (hcl 0 _ rfl)
        unfold SV.val at hc0
        rw [BA.out.n, Nat.mul_one, Nat.add_zero] at hc0
        have i0 : 0 ≤ (i : Int) := by omega
        have i1 : (i : Int) < (m : Int) := by omega
        have hmay := H.out.good.may l (List.mem_of_getElem? hl)
        have hLi : (allL (s.log.take i)).length ≤ 4096 := by rw [ver_len]; exact H.out.good.len i (by have := HN.out; omega)
        have DO := Lib.hid (does_ok (cp := z.c) HR.out.1 (fun sb o e => by have := (BA.out.co sb o e).1; omega) (lies_of (BA.out.sl.below HR.out.2)).2.1 (fun c hc => isT_fit (by
          have h4 := List.any_eq_false.1 hmay.2 c hc
          cases hh : isT c.T with
          | true => rfl
          | false =>
            rw [hh] at h4
            exact absurd rfl h4)) (by have := hmay.1; omega) (by omega))
        have HT := Lib.hid (take_snoc hl)
        clear hz hl hcl hb hmay hLi
        go_wp2_with (go_at_call 33; refine DO.out.mono ?_; rintro e w2 ⟨⟨vv, rfl⟩, hk2, hc2⟩; have K2 := Lib.hid (And.intro hk2 hc2); clear hk2 hc2)
        go_roundg (m - i)
        case measure => omega
        case rel =>
          refine ⟨i + 1, by omega, by omega, by go_num, Lib.hid ?_⟩
          rw [HT.out, allF_snoc, allL_snoc]
          exact ⟨K2.out.1, Chg.below HR.out.2 K2.out.2 (fun j e => by rw [e]; exact Nat.le_refl _)⟩
      · have him' : i = m := by omega
        have i1 : ¬ (i : Int) < (m : Int) := by omega
        rw [him'] at HR
        obtain ⟨wq, rfl⟩ : ∃ wq, wq = wr := ⟨_, rfl⟩
        have SRC := Lib.hid (show Src w wq w.heap.size (allF (s.log.take m)) (allL (s.log.take m)) (verL (s.log.take m)) from ⟨HR.out.1, HR.out.2, (ver_ok _).1, (ver_ok _).2.2, by rw [ver_len]; exact H.out.good.len m (by have := HN.out; omega)⟩)
        go_wp2_with (at_range; refine wpk_range _ rfl _ _ rfl Tryz.underlying61 rfl SRC.out.map ?_; intro w3 hit hg3 hs3; have I3 := Lib.hid (And.intro hit (And.intro hg3 hs3)); clear hit hg3 hs3)
        obtain ⟨r, hr⟩ : ∃ r, wq.heap.size = r := ⟨_, rfl⟩
        have HMB := Lib.hid (show w.heap.size < r by rw [← hr]; exact SRC.out.map.lt)
        have HR1 := Lib.hid (show w.heap.size ≤ r by rw [← hr]; exact SRC.out.below.size)
        have B3 := Lib.hid (SRC.out.below.grown I3.out.2.1 SRC.out.below.size (fun k e => by cases e))
        have HR2 := Lib.hid (show r + 1 ≤ w3.heap.size by rw [I3.out.2.2, hr]; exact Nat.le_refl _)
        rw [hr] at I3
        rw [hr]
        have HR := Lib.hid hr
        try simp only [Act.put, List.setIfInBounds_toArray, List.set_cons_zero, List.set_cons_succ]
        clear hr
        go_loopg [9] ((allL (s.log.take m))).length (fun g s9 wx => ∃ (X T : List Tri), T.length ≤ g ∧ Hid (GK w wx w.heap.size r (allF (s.log.take m)) (allL (s.log.take m)) X T s9))
        case atStart => exact ⟨[], (allL (s.log.take m)), Nat.le_refl _, Lib.hid ⟨I3.out.1, B3.out, G.OwnL.nil _ _ _ _ _, Gath.start SRC.out.map.nd, HR2.out⟩⟩
        case round =>
          obtain ⟨X, T, hT, HK⟩ := hrel
          go_wp2_with (first | (at_next; refine next_tri triX rfl _ rfl _ rfl rfl HK.out.1 (fun hT0 => ?_) (fun ts tp tq u w5 hx5 hen => ?_)) | (go_at_call 35; refine (sorted_ok HK.out.2.2.1 (by have h1 := HK.out.2.2.2.1.len; have h2 := SRC.out.len; omega)).mono ?_; rintro e w7 ⟨rfl, ho7, hg7⟩; have H7 := Lib.hid (And.intro ho7 hg7); clear ho7 hg7) | (at_builtin; refine G.wp_app1 rfl _ _ 29 35 rfl _ 3 48 Tryz.underlying29 HI.out rfl (by omega) (by omega) encT encT_len encT_one (r + 1) _ X ⟨ts, tp, tq⟩ _ rfl rfl _ rfl (by rw [World.size_alloc, hx5.2.2.2.2.2]) (own_step HK.out.2.2.1 HK.out.2.2.2.2 hx5.2.2.2.2.1 _) (by have h1 := HK.out.2.2.2.2; rw [World.size_alloc, hx5.2.2.2.2.2]; omega) (by have h1 := HK.out.2.2.2.1.len; have h2 := SRC.out.len; omega) ?_; intro v1 w6 ho6 hg6 hat6; have H6 := Lib.hid (And.intro ho6 hg6); clear ho6 hg6 hat6))
          · go_ret2
            exact facts_done HK.out hT0 HR1.out SRC.out.map.nd SRC.out.rise SRC.out.mem H7.out.1 H7.out.2 (by have := HN.out; omega) rfl
          · have X5 := Lib.hid hx5
            clear hx5
            have hlen := Lib.hid (take_step T HK.out.2.2.2.1.t X5.out.1).length_eq
            go_roundg (T.filter (fun z => decide (z ≠ (⟨ts, tp, tq⟩ : Tri)))).length
            case measure => have h1 := hlen.out; rw [List.length_cons] at h1; omega
            case rel => exact ⟨_, _, Nat.le_refl _, Lib.hid (HK.out.round HMB.out HR1.out X5.out.1 X5.out.2.2.2.1 X5.out.2.2.2.2.1 H6.out.1 H6.out.2)⟩
  · have hme : m = nl := by omega
    subst hme
    go_enter Tryz.func13, Tryz.ntmps13
    have HDM := Lib.hid (show verL s.log = verL (s.log.take m) by rw [List.take_of_length_le (by have := HN.out; omega)])
    have SRC := Lib.hid (show Src w w k.bn (allF s.log) (allL s.log) (verL s.log) from ⟨H.out.now, Below.refl _ _, (ver_ok s.log).1, (ver_ok s.log).2.2, H.out.good.now⟩)
    go_wp2_with (first | (go_at_call 31; refine (G0 _ q0).mono ?_; rintro e w' ⟨rfl, rfl⟩) | (at_range; refine wpk_range _ rfl _ _ rfl Tryz.underlying61 rfl SRC.out.map ?_; intro w3 hit hg3 hs3; have I3 := Lib.hid (And.intro hit (And.intro hg3 hs3)); clear hit hg3 hs3))
    obtain ⟨r, hr⟩ : ∃ r, w.heap.size = r := ⟨_, rfl⟩
    have HMB := Lib.hid (show k.bn < r by rw [← hr]; exact SRC.out.map.lt)
    have HR1 := Lib.hid (show w.heap.size ≤ r by rw [← hr]; exact SRC.out.below.size)
    have B3 := Lib.hid (SRC.out.below.grown I3.out.2.1 SRC.out.below.size (fun k e => by cases e))
    have HR2 := Lib.hid (show r + 1 ≤ w3.heap.size by rw [I3.out.2.2, hr]; exact Nat.le_refl _)
    rw [hr] at I3
    rw [hr]
    have HR := Lib.hid hr
    try simp only [Act.put, List.setIfInBounds_toArray, List.set_cons_zero, List.set_cons_succ]
    clear hr
    go_loopg [9] ((allL s.log)).length (fun g s9 wx => ∃ (X T : List Tri), T.length ≤ g ∧ Hid (GK w wx k.bn r (allF s.log) (allL s.log) X T s9))
    case atStart => exact ⟨[], (allL s.log), Nat.le_refl _, Lib.hid ⟨I3.out.1, B3.out, G.OwnL.nil _ _ _ _ _, Gath.start SRC.out.map.nd, HR2.out⟩⟩
    case round =>
      obtain ⟨X, T, hT, HK⟩ := hrel
      go_wp2_with (first | (at_next; refine next_tri triX rfl _ rfl _ rfl rfl HK.out.1 (fun hT0 => ?_) (fun ts tp tq u w5 hx5 hen => ?_)) | (go_at_call 35; refine (sorted_ok HK.out.2.2.1 (by have h1 := HK.out.2.2.2.1.len; have h2 := SRC.out.len; omega)).mono ?_; rintro e w7 ⟨rfl, ho7, hg7⟩; have H7 := Lib.hid (And.intro ho7 hg7); clear ho7 hg7) | (at_builtin; refine G.wp_app1 rfl _ _ 29 35 rfl _ 3 48 Tryz.underlying29 HI.out rfl (by omega) (by omega) encT encT_len encT_one (r + 1) _ X ⟨ts, tp, tq⟩ _ rfl rfl _ rfl (by rw [World.size_alloc, hx5.2.2.2.2.2]) (own_step HK.out.2.2.1 HK.out.2.2.2.2 hx5.2.2.2.2.1 _) (by have h1 := HK.out.2.2.2.2; rw [World.size_alloc, hx5.2.2.2.2.2]; omega) (by have h1 := HK.out.2.2.2.1.len; have h2 := SRC.out.len; omega) ?_; intro v1 w6 ho6 hg6 hat6; have H6 := Lib.hid (And.intro ho6 hg6); clear ho6 hg6 hat6))
      · go_ret2
        exact facts_done HK.out hT0 HR1.out SRC.out.map.nd SRC.out.rise SRC.out.mem H7.out.1 H7.out.2 (by have := HN.out; omega) HDM.out
      · have X5 := Lib.hid hx5
        clear hx5
        have hlen := Lib.hid (take_step T HK.out.2.2.2.1.t X5.out.1).length_eq
        go_roundg (T.filter (fun z => decide (z ≠ (⟨ts, tp, tq⟩ : Tri)))).length
        case measure => have h1 := hlen.out; rw [List.length_cons] at h1; omega
        case rel => exact ⟨_, _, Nat.le_refl _, Lib.hid (HK.out.round HMB.out HR1.out X5.out.1 X5.out.2.2.2.1 X5.out.2.2.2.2.1 H6.out.1 H6.out.2)⟩
/-- Facts. -/
theorem facts_ok {w0 : Nat} {w : World} {k : SW} {s : SS} (h : Sto w0 w k s) (n : Int) (hlog : s.log.length ≤ 4000) :
    Calls Tryz.prog 13 #[.pointer (some ⟨k.p, 0, none⟩), .int .i64 n] w (FactsPost w s.log n) := by
  by_cases h0 : n < 0
  · exact facts_below h n h0
  · by_cases h1 : (s.log.length : Int) < n
    · exact facts_above h n h1
    · obtain ⟨m, rfl⟩ := Int.eq_ofNat_of_zero_le (by omega : 0 ≤ n)
      exact facts_in h m (by omega) hlog
set_option maxRecDepth 100000 in
set_option maxHeartbeats 1000000 in
/-- Version. -/
theorem version_ok {w0 : Nat} {w : World} {k : SW} {s : SS} (h : Sto w0 w k s) :
    Calls Tryz.prog 16 #[.pointer (some ⟨k.p, 0, none⟩)] w fun e w' => e = .returned (.int .i64 s.log.length) ∧ w = w' := by
  obtain ⟨q0, q1, q2, q3⟩ := h.cells
  have G0 := fun W (e : W.cell? ⟨k.p, 0, none⟩ = some (.map (some k.bn))) => given_sto W k.p (some k.bn) e
  obtain ⟨Al, cl, hlv, _⟩ := h.row.sl
  rw [hlv, h.zl] at q1
  clear h hlv
  go_enter Tryz.func16, Tryz.ntmps16
  go_wp2_with (go_at_call 31; refine (G0 _ q0).mono ?_; rintro e w' ⟨rfl, rfl⟩)
  go_ret
  exact ⟨rfl, rfl⟩
set_option maxRecDepth 100000 in
set_option maxHeartbeats 1000000 in
/-- Room. -/
theorem room_ok {w0 : Nat} {w : World} {k : SW} {s : SS} (h : Sto w0 w k s) {v : Value} {l : List Cng} (hv : G.SlL w encC v l) :
    Calls Tryz.prog 20 #[.pointer (some ⟨k.p, 0, none⟩), v] w fun e w' => e = .returned (.bool (decide (chkE (allL s.log) l = 0))) ∧ Below w.heap.size w w' := by
  obtain ⟨A, cp, rfl, _⟩ := id hv
  obtain ⟨q0, q1, q2, q3⟩ := h.cells
  have hC := check_any (cp := cp) q0 h.ps h.now (allF_true s.log) (lies_of hv).2 (by have := h.good.now; omega)
  have G0 := fun W (e : W.cell? ⟨k.p, 0, none⟩ = some (.map (some k.bn))) => given_sto W k.p (some k.bn) e
  obtain ⟨ln, hln⟩ : ∃ ln, l.length = ln := ⟨_, rfl⟩
  rw [hln] at hC ⊢
  obtain ⟨c, hc⟩ : ∃ c, chkE (allL s.log) l = c := ⟨_, rfl⟩
  rw [hc] at hC ⊢
  clear h hv hln hc
  by_cases h0 : c = 0
  · subst h0
    go_enter Tryz.func20, Tryz.ntmps20
    go_wp2_with (first | (go_at_call 31; refine (G0 _ q0).mono ?_; rintro e w' ⟨rfl, rfl⟩) | (go_at_call 32; refine hC.mono ?_; rintro e w1 ⟨rfl, hb⟩; have HB := Lib.hid hb; clear hb))
    go_ret
    exact ⟨rfl, HB.out⟩
  · have h1 : (c == 0) = false := by simpa using h0
    have H0 := Lib.hid h0
    clear h0
    go_enter Tryz.func20, Tryz.ntmps20
    go_wp2_with (first | (go_at_call 31; refine (G0 _ q0).mono ?_; rintro e w' ⟨rfl, rfl⟩) | (go_at_call 32; refine hC.mono ?_; rintro e w1 ⟨rfl, hb⟩; have HB := Lib.hid hb; clear hb))
    go_ret
    exact ⟨by rw [decide_eq_false H0.out]; rfl, HB.out⟩
end Go.Proofs.YtcnffgcegimelaaGreat.So
