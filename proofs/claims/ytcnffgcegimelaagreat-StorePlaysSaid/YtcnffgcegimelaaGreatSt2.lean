/-
  Why a batch is refused for itself: store.check. Conditions: the blocks lie as told.
-/
import Derived.Test.YtcnffgcegimelaaGreatK2
import Derived.Deep.QuietTactic
import Derived.BigQuiet
namespace Go.Proofs.YtcnffgcegimelaaGreat.So
open Go.RowKit Go.Shelf Go.Proofs.YtcnffgcegimelaaGreat.Mp Go.Proofs.YtcnffgcegimelaaGreat.Wd

theorem lastL_len : ∀ (l : List Cng) (L : List Tri), (lastL L l).length ≤ L.length + l.length
  | [], L => by simp [lastL]
  | c :: r, L => by
    have h := lastL_len r (if c.T ∈ L then L else c.T :: L)
    have e : lastL L (c :: r) = lastL (if c.T ∈ L then L else c.T :: L) r := rfl
    rw [e]
    refine Nat.le_trans h ?_
    rw [List.length_cons]
    split
    · omega
    · rw [List.length_cons]; omega
theorem filt_step {α : Type} [DecidableEq α] (p : α → Bool) {T : List α} (hT : T.Nodup) {x : α} (hx : x ∈ T) : (T.filter p).length = ((T.filter (fun y => decide (y ≠ x))).filter p).length + (if p x then 1 else 0) := by
  induction T with
  | nil => cases hx
  | cons a r ih =>
    obtain ⟨ha, hr⟩ := List.nodup_cons.1 hT
    by_cases e : a = x
    · subst e
      have e1 : (a :: r).filter (fun y => decide (y ≠ a)) = r := by
        rw [List.filter_cons_of_neg (by simp)]
        exact List.filter_eq_self.2 fun y hy => by
          have : y ≠ a := fun e => ha (e ▸ hy)
          simp [this]
      rw [e1]
      cases hp : p a
      · rw [List.filter_cons_of_neg (by simp [hp])]; simp
      · rw [List.filter_cons_of_pos hp]; simp
    · have hx' : x ∈ r := (List.mem_cons.1 hx).resolve_left (fun h => e h.symm)
      have h1 := ih hr hx'
      rw [List.filter_cons_of_pos (p := fun y => decide (y ≠ x)) (decide_eq_true e)]
      cases hp : p a
      · rw [List.filter_cons_of_neg (by simp [hp]), List.filter_cons_of_neg (by simp [hp])]; exact h1
      · rw [List.filter_cons_of_pos hp, List.filter_cons_of_pos hp, List.length_cons, List.length_cons, h1]; omega
theorem lastL_nodup : ∀ (l : List Cng) (L : List Tri), L.Nodup → (lastL L l).Nodup
  | [], _, h => h
  | c :: r, L, h => by
    refine lastL_nodup r (if c.T ∈ L then L else c.T :: L) ?_
    split
    · exact h
    · rename_i hm
      exact List.nodup_cons.2 ⟨hm, h⟩
theorem mem_lastL : ∀ (l : List Cng) (g : Tri → Option Bool) (L : List Tri), (∀ x, x ∈ L ↔ (g x).isSome) → ∀ x, x ∈ lastL L l ↔ (lastF g l x).isSome
  | [], _, _, h => h
  | c :: r, g, L, h => by
    refine mem_lastL r (upd g c.T (some (!c.gone))) (if c.T ∈ L then L else c.T :: L) fun x => ?_
    unfold upd
    by_cases e : x = c.T
    · rw [if_pos e]
      refine ⟨fun _ => rfl, fun _ => ?_⟩
      rw [e]
      split
      · assumption
      · exact List.mem_cons_self
    · rw [if_neg e, ← h x]
      split
      · exact Iff.rfl
      · exact ⟨fun hh => (List.mem_cons.1 hh).resolve_left e, List.mem_cons_of_mem _⟩
def addB (g : Tri → Option Bool) (L : List Tri) (x : Tri) : Bool := decide (g x = some true) && decide (x ∉ L)
def remB (g : Tri → Option Bool) (L : List Tri) (x : Tri) : Bool := decide (g x = some false) && decide (x ∈ L)
/-- The count of check, begun. -/
theorem count_start {L : List Tri} (l : List Cng) (hL : L.Nodup) : (L.length : Int) + ((lastL [] l).filter (addB (lastF (fun _ => none) l) L)).length = (doesL L l).length + ((lastL [] l).filter (remB (lastF (fun _ => none) l) L)).length := by
  have h := count_law (g := lastF (fun _ => none) l) (lastL_nodup l [] List.nodup_nil) hL (doesL_nodup l L hL) (mem_lastL l _ [] (fun x => by simp)) (mem_doesL l (fun _ => none) L L (fun x => by simp))
  unfold addB remB
  omega
/-- What a round of the count keeps. -/
def Cnt (g : Tri → Option Bool) (L : List Tri) (M : Nat) (T : List Tri) (k : Int) : Prop := k + (T.filter (addB g L)).length = M + (T.filter (remB g L)).length
theorem Cnt.step {g : Tri → Option Bool} {L : List Tri} {M : Nat} {T : List Tri} {k : Int} (h : Cnt g L M T k) (hT : T.Nodup) {x : Tri} (hx : x ∈ T) (u y : Bool) (hu : g x = some u) (hy : decide (x ∈ L) = y) :
    Cnt g L M (T.filter (fun z => decide (z ≠ x))) (k + (if u then (if y then 0 else 1) else (if y then -1 else 0))) := by
  have h1 := filt_step (addB g L) hT hx
  have h2 := filt_step (remB g L) hT hx
  have e1 : addB g L x = (u && !y) := by unfold addB; rw [hu, ← hy]; cases u <;> simp
  have e2 : remB g L x = (!u && y) := by unfold remB; rw [hu, ← hy]; cases u <;> simp
  rw [e1] at h1
  rw [e2] at h2
  unfold Cnt at h ⊢
  cases u <;> cases y <;> simp at h1 h2 ⊢ <;> omega
theorem Cnt.bound {g : Tri → Option Bool} {L : List Tri} {M : Nat} {T : List Tri} {k : Int} (h : Cnt g L M T k) {n : Nat} (hn : T.length ≤ n) : (M : Int) - n ≤ k ∧ k ≤ M + n := by
  have h1 := List.length_filter_le (addB g L) T
  have h2 := List.length_filter_le (remB g L) T
  unfold Cnt at h
  omega
theorem Cnt.done {g : Tri → Option Bool} {L : List Tri} {M : Nat} {k : Int} (h : Cnt g L M [] k) : k = M := by
  unfold Cnt at h
  simpa using h
/-- The step of a loop over facts, with the triple and its element written out. -/
theorem next_tri {P : Program} {k : TypeId} (X : KeyX P k Tri) (hX : X.val = Tri.val) (w : World) {b r : Nat} {f : Tri → Option Bool} {L T : List Tri} {ops : Array Oper} {rest : List Oper} {o : Oper} {a : Act} {Q : Exit → Act → World → Prop}
    (hg : o.guard = none) (it : Operand) (hop : o.op = Op.next it false) (hit : a.eval it = .pointer (some ⟨r, 0, none⟩)) (h : KIter X encB w b r f L T)
    (hDone : T = [] → wpList P ops Q rest (a.put o.dst (.tuple #[.bool false])) w)
    (hMore : ∀ (s p q : ByteArray) (u : Bool) (w' : World), (⟨s, p, q⟩ : Tri) ∈ T ∧ f ⟨s, p, q⟩ = some u ∧ X.fit ⟨s, p, q⟩ ∧ KIter X encB w' b r f L (T.filter (fun y => decide (y ≠ ⟨s, p, q⟩))) ∧ w.grownBy w' (some r) ∧ w'.heap.size = w.heap.size →
      (Instr.entry (.pointer (some ⟨r, 0, none⟩))).run P w' = .ok (.tuple #[.agg #[.string s, .string p, .string q], .bool u]) w' → wpList P ops Q rest (a.put o.dst (.tuple #[.bool true, .agg #[.string s, .string p, .string q], .bool u])) w') : wpList P ops Q (o :: rest) a w :=
  wpk_next w hg it hop hit h hDone fun x u w' h1 h2 h3 h4 _ h6 h7 h8 => by
    rw [hX] at h8 ⊢
    exact hMore x.S x.P x.O u w' ⟨h1, h2, h3, h4, h6, h7⟩ h8
theorem below_drewN {B : Nat} {w W : World} (h : Below B w W) (n : Nat) : Below B w (W.drewN n) := ⟨h.os, h.tape, h.output, h.size, h.block⟩
set_option maxRecDepth 100000 in
/-- What the look-up of a map of facts says. -/
theorem look_tri {W : World} {b : Nat} {f : Tri → Option Bool} {L : List Tri} (h : KMap triX encB W b f L) (hft : ∀ x v, f x = some v → v = true) {s p q : ByteArray} (hx : (⟨s, p, q⟩ : Tri).fit) (y : Bool) (hy : decide ((⟨s, p, q⟩ : Tri) ∈ L) = y) :
    (Instr.lookup 61 (.map (some b)) (.agg #[.string s, .string p, .string q]) false).run Tryz.prog W = .ok (.bool y) W := by
  have h1 := h.look Tryz.underlying61 (z := .bool false) (by rfl) (x := ⟨s, p, q⟩) hx
  have e : triX.val (⟨s, p, q⟩ : Tri) = .agg #[.string s, .string p, .string q] := rfl
  rw [e] at h1
  rw [h1]
  congr 1
  cases hf : f ⟨s, p, q⟩ with
  | none =>
    have : (⟨s, p, q⟩ : Tri) ∉ L := fun hm => by
      have := (h.mem _).1 hm
      rw [hf] at this
      cases this
    rw [decide_eq_false this] at hy
    rw [← hy]
  | some v =>
    have : (⟨s, p, q⟩ : Tri) ∈ L := (h.mem _).2 (by rw [hf]; rfl)
    rw [decide_eq_true this] at hy
    rw [← hy, hft _ _ hf]
    rfl
set_option maxRecDepth 100000 in
set_option maxHeartbeats 1000000 in
theorem index_none (w : World) (A : Option Addr) (cp : Nat) : Calls Tryz.prog 73 #[.slice A 0 cp, .func (.func 52) #[] #[]] w fun e w' => e = .returned (.int .i64 (-1)) ∧ w = w' := by
  go_enter Tryz.func73, Tryz.ntmps73
  go_wp2
  go_loop [8] (fun i => i = .int .i64 0) (fun _ => 0)
  case atStart => rfl
  case round =>
    obtain rfl := hrel
    go_wp2
    go_ret
    exact ⟨rfl, rfl⟩
set_option maxRecDepth 100000 in
set_option maxHeartbeats 1000000 in
theorem contains_none (w : World) (A : Option Addr) (cp : Nat) : Calls Tryz.prog 51 #[.slice A 0 cp, .func (.func 52) #[] #[]] w fun e w' => e = .returned (.bool false) ∧ Below w.heap.size w w' := by
  go_enter Tryz.func51, Tryz.ntmps51
  go_wp2_with (go_at_call 73; refine (index_none _ _ _).mono ?_; rintro e w' ⟨rfl, rfl⟩)
  go_ret
  exact ⟨rfl, Below.refl _ _⟩
/-- Where a batch lies: nowhere, if it is empty. -/
def LiesC (w : World) (A : Option Addr) (l : List Cng) : Prop := Cells w A l ∧ (l ≠ [] → ∃ s off, A = some ⟨s, off, none⟩ ∧ s < w.heap.size)
/-- ContainsFunc at any batch. -/
theorem contains_any {w : World} {A : Option Addr} {cp : Nat} {l : List Cng} (hl : LiesC w A l) (hn : l.length ≤ 1000000) :
    Calls Tryz.prog 51 #[.slice A l.length cp, .func (.func 52) #[] #[]] w fun e w' => e = .returned (.bool (l.any (fun c => !isT c.T))) ∧ Below w.heap.size w w' := by
  by_cases h0 : l = []
  · subst h0
    exact contains_none w A cp
  · obtain ⟨s, off, rfl, hs⟩ := hl.2 h0
    exact contains_ok hl.1 hs hn
set_option maxRecDepth 100000 in
set_option maxHeartbeats 3200000 in
/-- check of a batch that is of words. -/
theorem check_ok {w : World} {p b cp : Nat} {A : Option Addr} {f : Tri → Option Bool} {L : List Tri} {l : List Cng} (hp : w.cell? ⟨p, 0, none⟩ = some (.map (some b))) (hps : p < w.heap.size) (h : KMap triX encB w b f L) (hft : ∀ x v, f x = some v → v = true) (hl0 : LiesC w A l) (hany : l.any (fun c => !isT c.T) = false) (hn : l.length ≤ 64) (hL : L.length ≤ 1000000) :
    Calls Tryz.prog 32 #[.pointer (some ⟨p, 0, none⟩), .slice A l.length cp] w fun e w' => e = .returned (.int .i64 (if 4096 < (doesL L l).length then 2 else 0)) ∧ Below w.heap.size w w' := by
  have hC := contains_any (cp := cp) hl0 (by omega)
  rw [hany] at hC
  have hl := hl0.1
  have HS := Lib.hid hl0.2
  clear hl0
  have hmm := @run_makeMap Tryz.prog
  have hfit : ∀ c ∈ l, c.T.fit := fun c hc => isT_fit (by
    cases hh : isT c.T with
    | true => rfl
    | false =>
      have := List.any_eq_false.1 hany c hc
      rw [hh] at this
      exact absurd rfl this)
  have CS := Lib.hid (count_start l h.nd)
  have ML := Lib.hid (doesL_len l L)
  obtain ⟨M, hM⟩ : ∃ M, (doesL L l).length = M := ⟨_, rfl⟩
  rw [hM] at CS ML ⊢
  have HM := Lib.hid hM
  clear hM
  obtain ⟨R, hR⟩ : ∃ R : Int, (if 4096 < M then 2 else 0) = R := ⟨_, rfl⟩
  rw [hR]
  have HR0 := Lib.hid hR
  have FT := Lib.hid hft
  clear hR hft
  obtain ⟨n, hn0⟩ : ∃ n, l.length = n := ⟨_, rfl⟩
  have HN := Lib.hid hn0
  rw [hn0] at hC hn ⊢
  have n64 : (n : Int) ≤ 64 := by omega
  have H := Lib.hid h
  have HLs := Lib.hid hL
  clear hn0 h hL hany
  go_enter Tryz.func32, Tryz.ntmps32
  go_wp2_with (go_at_call 51; refine hC.mono ?_; rintro e w1 ⟨rfl, hb⟩; have HB1 := Lib.hid hb; clear hb)
  go_loopg [21] n (fun g s21 wr => ∃ i : Nat, i ≤ n ∧ n - i ≤ g ∧ s21 = .int .i64 i ∧ Hid (KMap triX encB wr w1.heap.size (lastF (fun _ => none) (l.take i)) (lastL [] (l.take i)) ∧ Below w.heap.size w wr))
  case atStart =>
    exact ⟨0, Nat.zero_le _, by omega, rfl, Lib.hid ⟨kmap_made triX encB w1, HB1.out.alloc HB1.out.size _⟩⟩
  case round =>
    obtain ⟨i, hi, hg, rfl, HR⟩ := hrel
    by_cases hin : i < n
    · have hx : ∃ c, l[i]? = some c := ⟨l[i]'(by have := HN.out; omega), List.getElem?_eq_getElem _⟩
      obtain ⟨c, hc⟩ := hx
      obtain ⟨sb, so, rfl, hcell⟩ := hl i c hc
      have hs : sb < w.heap.size := by
        obtain ⟨s1, o1, e1, h1⟩ := HS.out (fun e => by rw [e] at hc; cases hc)
        injection e1 with e1
        injection e1 with e1 _
        rw [e1]; exact h1
      have hbw := HR.out.2
      have q0 : wr.cell? ⟨sb, so + i * 4, none⟩ = some (.bool c.gone) := (hbw.cell (p := ⟨sb, so + i * 4, none⟩) hs).trans (hcell 0 _ rfl)
      have q1 := (hbw.cell (p := ⟨sb, so + i * 4 + 1, none⟩) hs).trans (hcell 1 _ rfl)
      have q2 := (hbw.cell (p := ⟨sb, so + i * 4 + 2, none⟩) hs).trans (hcell 2 _ rfl)
      have q3 := (hbw.cell (p := ⟨sb, so + i * 4 + 3, none⟩) hs).trans (hcell 3 _ rfl)
      have n1 : (i : Int) < (n : Int) := by omega
      have n0 : (0 : Int) ≤ (i : Int) := by omega
      clear hcell hbw
      have hkey := hfit c (List.mem_of_getElem? hc)
      have HT := Lib.hid (take_snoc hc)
      have HLN := Lib.hid (show (lastL [] (l.take i)).length < maxLen by
        have h1 := lastL_len (l.take i) []
        have h4 := HN.out
        have h5 := List.length_take_le i l
        simp only [List.length_nil] at h1
        unfold maxLen
        omega)
      go_wp2_with (at_mapUpdate; refine wpk_put _ rfl _ _ _ _ rfl Tryz.underlying61 rfl (HR.out.1.kept (World.grownBy_alloc wr _ none) (by simp)) HLN.out c.T hkey (!c.gone) rfl rfl ?_; intro w2 hm2 ht2 hg2; have M2 := Lib.hid (And.intro hm2 (And.intro ht2 hg2)); clear hm2 ht2 hg2)
      go_roundg (n - (i + 1))
      case measure => omega
      case rel =>
        refine ⟨i + 1, by omega, Nat.le_refl _, by go_num, Lib.hid ?_⟩
        rw [HT.out, lastF_snoc, lastL_snoc]
        refine ⟨M2.out.1, Chg.below (HR.out.2.alloc HR.out.2.size _) (Chg.of_grown M2.out.2.2) (fun j e => ?_)⟩
        have := HB1.out.size
        omega
    · have hie : i = n := by omega
      have n1 : ¬ (i : Int) < (n : Int) := by omega
      rw [hie, ← HN.out, List.take_length] at HR
      obtain ⟨wq, rfl⟩ : ∃ wq, wq = wr := ⟨_, rfl⟩
      have hp' : wq.cell? ⟨p, 0, none⟩ = some (.map (some b)) := (HR.out.2.cell (p := ⟨p, 0, none⟩) hps).trans hp
      have NOW := Lib.hid (H.out.chg (Chg.of_below (fun _ => False) HR.out.2) (fun e => e))
      obtain ⟨m, hm⟩ : ∃ m, L.length = m := ⟨_, rfl⟩
      rw [hm] at HLs CS ML
      have HMm := Lib.hid hm
      go_wp2_with (first | (at_len; refine wpk_len _ rfl _ _ rfl Tryz.underlying61 rfl NOW.out ?_) | (at_range; refine wpk_range _ rfl _ _ rfl Tryz.underlying61 rfl HR.out.1 ?_; intro w3 hit hg3 hs3; have I3 := Lib.hid (And.intro hit (And.intro hg3 hs3)); clear hit hg3 hs3))
      have GL := Lib.hid (lastL_len l [])
      obtain ⟨G, hG⟩ : ∃ G, lastL [] l = G := ⟨_, rfl⟩
      rw [hG] at I3 CS GL
      clear hm hG
      obtain ⟨gf, hgf⟩ : ∃ gf, lastF (fun _ => none) l = gf := ⟨_, rfl⟩
      rw [hgf] at I3 CS
      clear hgf
      have B3 := Lib.hid (HR.out.2.grown I3.out.2.1 HR.out.2.size (fun k e => by cases e))
      go_loopg [8] G.length (fun g s8 wx => ∃ (T : List Tri) (k : Int), s8 = .int .i64 k ∧ T.length ≤ g ∧ T.length ≤ 64 ∧ Hid (KIter triX encB wx w1.heap.size wq.heap.size gf G T ∧ Below w.heap.size w wx ∧ Cnt gf L M T k))
      case atStart => exact ⟨G, m, rfl, Nat.le_refl _, by
        have := GL.out
        have := HN.out
        simp only [List.length_nil] at *
        omega, Lib.hid ⟨I3.out.1, B3.out, by unfold Cnt; exact CS.out⟩⟩
      case round =>
        obtain ⟨T, k, rfl, hT, hT64, HK⟩ := hrel
        have kb := HK.out.2.2.bound hT64
        have mb := ML.out
        have ml := HLs.out
        have nn := HN.out
        have k0 : -64 ≤ k := by omega
        have k1 : k ≤ 1000200 := by omega
        clear kb mb ml nn
        go_wp2_with (at_next; refine next_tri triX rfl _ rfl _ rfl rfl HK.out.1 (fun hT0 => ?_) (fun ts tp tq u w5 hx5 hen => ?_))
        · rename_i hbig
          have hk : k = M := by have h1 := HK.out.2.2; rw [hT0] at h1; exact h1.done
          have e2 := HR0.out
          rw [if_pos (by omega)] at e2
          go_ret
          exact ⟨by rw [← e2]; rfl, HK.out.2.1⟩
        · rename_i hbig
          have hk : k = M := by have h1 := HK.out.2.2; rw [hT0] at h1; exact h1.done
          have e2 := HR0.out
          rw [if_neg (by omega)] at e2
          go_ret
          exact ⟨by rw [← e2]; rfl, HK.out.2.1⟩
        · have X5 := Lib.hid hx5
          clear hx5
          have hpos : 0 < T.length := List.length_pos_of_mem X5.out.1
          have hb5 : Below w.heap.size w w5 := Chg.below HK.out.2.1 (Chg.of_grown X5.out.2.2.2.2.1) (fun j e => by have h1 := HR.out.2.size; rw [e]; exact h1)
          have B5 := Lib.hid hb5
          obtain ⟨y, hy⟩ : ∃ y, decide ((⟨ts, tp, tq⟩ : Tri) ∈ L) = y := ⟨_, rfl⟩
          have hp6 : (w5.alloc (.cells #[.string ts, .string tp, .string tq] 35 (0, 0))).cell? ⟨p, 0, none⟩ = some (.map (some b)) := ((hb5.alloc hb5.size _).cell (p := ⟨p, 0, none⟩) hps).trans hp
          have hlk : ∀ nq, (Instr.lookup 61 (.map (some b)) (.agg #[.string ts, .string tp, .string tq]) false).run Tryz.prog ((w5.alloc (.cells #[.string ts, .string tp, .string tq] 35 (0, 0))).drewN nq) = .ok (.bool y) ((w5.alloc (.cells #[.string ts, .string tp, .string tq] 35 (0, 0))).drewN nq) := fun nq =>
            look_tri (H.out.chg (Chg.of_below (fun _ => False) (below_drewN (hb5.alloc hb5.size _) nq)) (fun e => e)) FT.out X5.out.2.2.1 y hy
          have ST := Lib.hid (HK.out.2.2.step HK.out.1.ndT X5.out.1 u y X5.out.2.1 hy)
          have LEN := Lib.hid (show (T.filter (fun z => decide (z ≠ (⟨ts, tp, tq⟩ : Tri)))).length < T.length by
            have h1 := filt_step (fun _ => true) HK.out.1.ndT X5.out.1
            rw [List.filter_eq_self.2 (fun _ _ => rfl), List.filter_eq_self.2 (fun _ _ => rfl), if_pos rfl] at h1
            omega)
          clear hb5 hy
          have KI := Lib.hid (fun (o : Obj) (nq mq : Nat) => (show KIter triX encB (((w5.alloc o).drewN nq).drewN mq) w1.heap.size wq.heap.size gf G (T.filter (fun z => decide (z ≠ (⟨ts, tp, tq⟩ : Tri)))) ∧ Below w.heap.size w (((w5.alloc o).drewN nq).drewN mq) from
            ⟨KIter.chg (D := fun _ => False) (X5.out.2.2.2.1.kept (World.grownBy_alloc w5 o none) (by simp) (by simp)) ⟨rfl, rfl, rfl, Nat.le_refl _, fun _ _ _ => rfl⟩ (fun e => e) (fun e => e), below_drewN (below_drewN (B5.out.alloc B5.out.size _) nq) mq⟩))
          have hsz := X5.out.2.2.2.2.2
          cases u <;> cases y
          all_goals
            go_quiet (fail)
            go_wp2
            try (go_quiet (fail); go_wp2)
            go_roundg (T.filter (fun z => decide (z ≠ (⟨ts, tp, tq⟩ : Tri)))).length
            case measure => have := LEN.out; omega
            case rel =>
              refine ⟨_, _, rfl, Nat.le_refl _, by have := LEN.out; omega, Lib.hid ?_⟩
              have hS := ST.out
              simp only [if_true, if_false, Bool.false_eq_true, Int.add_zero] at hS
              first
                | exact ⟨(KI.out _ _ _).1, (KI.out _ _ _).2, hS⟩
                | exact ⟨(KI.out _ _ 0).1, (KI.out _ _ 0).2, hS⟩
                | (rw [← World.drewN_drewN]; exact ⟨(KI.out _ _ _).1, (KI.out _ _ _).2, hS⟩)
/-- The number with which a batch is refused for itself. -/
def chkE (L : List Tri) (l : List Cng) : Int := if 64 < l.length ∨ l.any (fun c => !isT c.T) = true then 1 else if 4096 < (doesL L l).length then 2 else 0
set_option maxRecDepth 100000 in
set_option maxHeartbeats 3200000 in
theorem check_long (w : World) (p cp n : Nat) (A : Option Addr) (hn : 64 < n) :
    Calls Tryz.prog 32 #[.pointer (some ⟨p, 0, none⟩), .slice A n cp] w fun e w' => e = .returned (.int .i64 1) ∧ w = w' := by
  have h1 : (64 : Int) < (n : Int) := by omega
  go_enter Tryz.func32, Tryz.ntmps32
  go_wp2
  go_ret
  exact ⟨rfl, rfl⟩
set_option maxRecDepth 100000 in
set_option maxHeartbeats 3200000 in
theorem check_odd {w : World} {p cp : Nat} {A : Option Addr} {l : List Cng} (hl0 : LiesC w A l) (hany : l.any (fun c => !isT c.T) = true) (hn : l.length ≤ 64) :
    Calls Tryz.prog 32 #[.pointer (some ⟨p, 0, none⟩), .slice A l.length cp] w fun e w' => e = .returned (.int .i64 1) ∧ Below w.heap.size w w' := by
  have hC := contains_any (cp := cp) hl0 (by omega)
  rw [hany] at hC
  clear hl0 hany
  obtain ⟨n, hn0⟩ : ∃ n, l.length = n := ⟨_, rfl⟩
  rw [hn0] at hC hn ⊢
  clear hn0
  have h1 : ¬ (64 : Int) < (n : Int) := by omega
  go_enter Tryz.func32, Tryz.ntmps32
  go_wp2_with (go_at_call 51; refine hC.mono ?_; rintro e w1 ⟨rfl, hb⟩; have HB1 := Lib.hid hb; clear hb)
  go_ret
  exact ⟨rfl, HB1.out⟩
/-- check. -/
theorem check_any {w : World} {p b cp : Nat} {A : Option Addr} {f : Tri → Option Bool} {L : List Tri} {l : List Cng} (hp : w.cell? ⟨p, 0, none⟩ = some (.map (some b))) (hps : p < w.heap.size) (h : KMap triX encB w b f L) (hft : ∀ x v, f x = some v → v = true) (hl0 : LiesC w A l) (hL : L.length ≤ 1000000) :
    Calls Tryz.prog 32 #[.pointer (some ⟨p, 0, none⟩), .slice A l.length cp] w fun e w' => e = .returned (.int .i64 (chkE L l)) ∧ Below w.heap.size w w' := by
  unfold chkE
  by_cases h1 : 64 < l.length
  · rw [if_pos (Or.inl h1)]
    exact (check_long w p cp _ A h1).mono fun e w' ⟨h2, h3⟩ => ⟨h2, h3 ▸ Below.refl _ _⟩
  · by_cases h2 : l.any (fun c => !isT c.T) = true
    · rw [if_pos (Or.inr h2)]
      exact check_odd hl0 h2 (by omega)
    · rw [if_neg (fun e => e.elim h1 h2)]
      exact check_ok hp hps h hft hl0 (by simpa using h2) (by omega) hL
end Go.Proofs.YtcnffgcegimelaaGreat.So
