/-
  Joined by wip/tools/merge.py from the texts Sx0 Sx1. Conditions: as each says.
-/
import Derived.Test.YtcnffgcegimelaaGreatSv3
import Derived.Test.YtcnffgcegimelaaGreatJ6
section
/-
  Rows below where a walk stands, plain; a walk's steps by lists. Conditions: as each says.
-/
namespace Go.Proofs.YtcnffgcegimelaaGreat.So
open Go.RowKit Go.Proofs.YtcnffgcegimelaaGreat.Mp Go.Proofs.YtcnffgcegimelaaGreat.Wd Go.Proofs.YtcnffgcegimelaaGreat.Pm Go.Proofs.YtcnffgcegimelaaGreat.Pw

/-- Rows of an index that begin with some numbers. -/
def under (L : List R3) (o : Ord) (p : List Int) : List R3 := L.filter fun r => (List.range p.length).all fun j => r.at (o.at j) == p.getD j 0
theorem mem_under {L : List R3} {o : Ord} {p : List Int} {r : R3} : r ∈ under L o p ↔ r ∈ L ∧ ∀ j, j < p.length → r.at (o.at j) = p.getD j 0 := by
  unfold under
  rw [List.mem_filter, List.all_eq_true]
  simp only [List.mem_range, beq_iff_eq]
theorem under_nil (L : List R3) (o : Ord) : under L o [] = L := List.filter_eq_self.2 fun _r _ => rfl
theorem rows_nodup {L : List R3} {o : Ord} (h : L.Pairwise (ltR o)) : L.Nodup := h.imp fun {a b} hab e => by
  subst e
  unfold ltR at hab
  omega
theorem mem_lvl {L : List R3} {o : Ord} {p : List Int} (hL : L.Pairwise (ltR o)) (hp : p.length ≤ 2) (x : Int) : x ∈ lvl L o p ↔ ∃ r ∈ under L o p, r.at (o.at p.length) = x := by
  rw [(lvl_sorted L o p hL hp).2 x]
  constructor
  · rintro ⟨i, hi, h1, h2⟩
    refine ⟨L.getD i r0, mem_under.2 ⟨?_, fun j hj => ?_⟩, h2⟩
    · rw [List.getD_eq_getElem?_getD, List.getElem?_eq_getElem hi]
      exact List.getElem_mem _
    · exact h1 j hj
  · rintro ⟨r, hr, h2⟩
    obtain ⟨h3, h4⟩ := mem_under.1 hr
    obtain ⟨i, hi, rfl⟩ := List.getElem_of_mem h3
    have e : L.getD i r0 = L[i] := by rw [List.getD_eq_getElem?_getD, List.getElem?_eq_getElem hi]; rfl
    refine ⟨i, hi, fun j hj => ?_, ?_⟩
    · show (L.getD i r0).at (o.at j) = _
      rw [e]; exact h4 j hj
    · show (L.getD i r0).at (o.at p.length) = x
      rw [e]; exact h2
theorem getD_snoc (p : List Int) (a : Int) (j : Nat) (hj : j < p.length) : (p ++ [a]).getD j 0 = p.getD j 0 := by
  rw [List.getD_eq_getElem?_getD, List.getD_eq_getElem?_getD, List.getElem?_append_left hj]
theorem getD_last (p : List Int) (a : Int) : (p ++ [a]).getD p.length 0 = a := by
  rw [List.getD_eq_getElem?_getD, List.getElem?_concat_length]; rfl
theorem under_snoc {L : List R3} {o : Ord} {p : List Int} {a : Int} {r : R3} : r ∈ under L o (p ++ [a]) ↔ r ∈ under L o p ∧ r.at (o.at p.length) = a := by
  rw [mem_under, mem_under, List.length_append, List.length_singleton]
  constructor
  · rintro ⟨h1, h2⟩
    refine ⟨⟨h1, fun j hj => ?_⟩, ?_⟩
    · rw [h2 j (by omega), getD_snoc p a j hj]
    · rw [h2 p.length (by omega), getD_last]
  · rintro ⟨⟨h1, h2⟩, h3⟩
    refine ⟨h1, fun j hj => ?_⟩
    by_cases e : j < p.length
    · rw [h2 j e, getD_snoc p a j e]
    · rw [show j = p.length by omega, h3, getD_last]
/-- The rows are split by their next numbers. -/
theorem under_split {L : List R3} {o : Ord} {p : List Int} (hL : L.Pairwise (ltR o)) (hp : p.length ≤ 2) : ((lvl L o p).flatMap fun a => under L o (p ++ [a])).Perm (under L o p) := by
  refine perm_of_mem ?_ ((rows_nodup hL).filter _) fun r => ?_
  · refine List.pairwise_flatMap.2 ⟨fun a _ => (rows_nodup hL).filter _, (lvl_sorted L o p hL hp).1.imp fun {a b} hab x hx y hy e => ?_⟩
    rw [e] at hx
    have h1 := (under_snoc.1 hx).2
    have h2 := (under_snoc.1 hy).2
    omega
  · rw [List.mem_flatMap]
    constructor
    · rintro ⟨a, _, h⟩
      exact (under_snoc.1 h).1
    · intro h
      exact ⟨_, (mem_lvl hL hp _).2 ⟨r, h, rfl⟩, under_snoc.2 ⟨h, rfl⟩⟩
theorem under_three {L : List R3} {o : Ord} (ho : Six o) (hL : L.Pairwise (ltR o)) {p : List Int} (hp : p.length = 3) {r : R3} (hr : r ∈ under L o p) : under L o p = [r] := by
  have h1 : (under L o p).Nodup := (rows_nodup hL).filter _
  have h2 : ∀ x ∈ under L o p, x = r := fun x hx => by
    have h3 := (mem_under.1 hx).2
    have h4 := (mem_under.1 hr).2
    refine at_six o ho x r ⟨?_, ?_, ?_⟩
    · exact (h3 0 (by omega)).trans (h4 0 (by omega)).symm
    · exact (h3 1 (by omega)).trans (h4 1 (by omega)).symm
    · exact (h3 2 (by omega)).trans (h4 2 (by omega)).symm
  exact List.perm_singleton.1 (perm_of_mem h1 (show [r].Nodup by simp) fun x => by
    rw [List.mem_singleton]
    exact ⟨h2 x, fun e => e ▸ hr⟩)

/-! ### A walk's steps -/
theorem rOpen_nil {L : List R3} (o : Ord) (p : List Int) (h : L.length = 0) : rOpen L o ⟨p, false⟩ = (⟨p, false⟩, 3) := by unfold rOpen; rw [if_pos (Or.inr (Or.inr h))]
theorem rOpen_some {L : List R3} (o : Ord) (p : List Int) (h : L.length ≠ 0) (hp : p.length ≤ 2) : rOpen L o ⟨p, false⟩ = (⟨p ++ [(lvl L o p).getD 0 0], false⟩, 0) := by
  unfold rOpen
  rw [if_neg]
  rintro (e | e | e)
  · have e' : p.length = 3 := e
    omega
  · cases e
  · exact h e
theorem rKey_at (p : List Int) (a : Int) : rKey ⟨p ++ [a], false⟩ = (a, true) := by
  unfold rKey
  rw [if_neg (by simp)]
  show ((p ++ [a]).getD ((p ++ [a]).length - 1) 0, true) = (a, true)
  rw [List.length_append, List.length_singleton, Nat.add_sub_cancel, getD_last]
theorem rKey_beh (q : List Int) : rKey ⟨q, true⟩ = (0, false) := by unfold rKey; rw [if_pos (Or.inr rfl)]
theorem take_dropLast (p : List Int) (a : Int) : (p ++ [a]).take ((p ++ [a]).length - 1) = p := by
  rw [List.length_append, List.length_singleton, Nat.add_sub_cancel, List.take_left']
  rfl
theorem rUp_at (p : List Int) (a : Int) (b : Bool) : rUp ⟨p ++ [a], b⟩ = (⟨p, false⟩, 0) := by
  unfold rUp
  rw [if_neg (by simp)]
  show ((⟨(p ++ [a]).take ((p ++ [a]).length - 1), false⟩ : RS), (0 : Int)) = _
  rw [take_dropLast]
theorem find_next : ∀ (A : List Int) (i : Nat), A.Pairwise (· < ·) → i < A.length → A.find? (fun x => decide (A.getD i 0 + 1 ≤ x)) = A[i + 1]?
  | [], i, _, h => absurd h (by simp)
  | a :: A, 0, h, _ => by
    obtain ⟨h1, h2⟩ := List.pairwise_cons.1 h
    show (a :: A).find? (fun x => decide (a + 1 ≤ x)) = A[0]?
    rw [List.find?_cons_of_neg (by simp; omega)]
    cases A with
    | nil => rfl
    | cons b A =>
      have := h1 b List.mem_cons_self
      rw [List.find?_cons_of_pos (by simp; omega)]
      rfl
  | a :: A, i + 1, h, hi => by
    obtain ⟨h1, h2⟩ := List.pairwise_cons.1 h
    have hi' : i < A.length := by simpa using hi
    have e : (a :: A).getD (i + 1) 0 = A.getD i 0 := by simp
    have h3 : a < A.getD i 0 := by
      rw [List.getD_eq_getElem?_getD, List.getElem?_eq_getElem hi']
      exact h1 _ (List.getElem_mem _)
    rw [e, List.find?_cons_of_neg (by rw [decide_eq_true_eq]; omega), find_next A i h2 hi']
    simp
/-- Where a walk over a level stands behind so many of its numbers. -/
def lvAt (p A : List Int) (i : Nat) : RS := if i < A.length then ⟨p ++ [A.getD i 0], false⟩ else ⟨p ++ [A.getD (A.length - 1) 0], true⟩
theorem rNext_at {L : List R3} {o : Ord} {p : List Int} (hL : L.Pairwise (ltR o)) (hp : p.length ≤ 2) (i : Nat) (hi : i < (lvl L o p).length) (hm : (lvl L o p).getD i 0 < 9223372036854775807) : rNext L o (lvAt p (lvl L o p) i) = (lvAt p (lvl L o p) (i + 1), 0) := by
  have hA := (lvl_sorted L o p hL hp).1
  generalize hA' : lvl L o p = A at *
  unfold lvAt
  rw [if_pos hi]
  unfold rNext
  rw [rKey_at]
  rw [if_neg (by simp), if_neg (by show ¬ A.getD i 0 = 9223372036854775807; omega)]
  show (rTo L o ⟨p ++ [A.getD i 0], false⟩ (A.getD i 0 + 1), (0 : Int)) = _
  unfold rTo
  rw [take_dropLast, hA', find_next A i hA hi]
  by_cases h2 : i + 1 < A.length
  · rw [List.getElem?_eq_getElem h2, if_pos h2, List.getD_eq_getElem?_getD (i := i + 1), List.getElem?_eq_getElem h2]
    rfl
  · rw [List.getElem?_eq_none (by omega), if_neg h2, show A.length - 1 = i by omega]
theorem find_ge : ∀ (A : List Int) (n : Int), A.Pairwise (· < ·) → n ∈ A → A.find? (fun x => decide (n ≤ x)) = some n
  | [], n, _, h => by cases h
  | a :: A, n, h, hn => by
    obtain ⟨h1, h2⟩ := List.pairwise_cons.1 h
    rcases List.mem_cons.1 hn with e | e
    · subst e
      rw [List.find?_cons_of_pos (by simp)]
    · have := h1 n e
      rw [List.find?_cons_of_neg (by simp; omega), find_ge A n h2 e]
/-- Behind Open and Seek a walk stands at a number just if it is there. -/
theorem rSeek_at {L : List R3} {o : Ord} {p : List Int} (hL : L.Pairwise (ltR o)) (hp : p.length ≤ 2) (hpos : 0 < (lvl L o p).length) (n : Int) :
    (rSeek L o ⟨p ++ [(lvl L o p).getD 0 0], false⟩ n).2 = 0 ∧ (n ∈ lvl L o p → (rSeek L o ⟨p ++ [(lvl L o p).getD 0 0], false⟩ n).1 = ⟨p ++ [n], false⟩) ∧ (n ∉ lvl L o p → rKey (rSeek L o ⟨p ++ [(lvl L o p).getD 0 0], false⟩ n).1 ≠ (n, true)) := by
  have hA := (lvl_sorted L o p hL hp).1
  generalize hA' : lvl L o p = A at *
  obtain ⟨a, B, rfl⟩ : ∃ a B, A = a :: B := by
    cases A with
    | nil => simp at hpos
    | cons a B => exact ⟨a, B, rfl⟩
  have e0 : (a :: B).getD 0 0 = a := rfl
  rw [e0]
  unfold rSeek
  rw [rKey_at, if_neg (by simp)]
  have hmin := (List.pairwise_cons.1 hA).1
  by_cases h : n ≤ a
  · rw [if_pos h]
    refine ⟨rfl, fun hn => ?_, fun hn => ?_⟩
    · rcases List.mem_cons.1 hn with e | e
      · rw [e]
      · have := hmin n e; omega
    · show rKey ⟨p ++ [a], false⟩ ≠ (n, true)
      rw [rKey_at]
      intro e
      injection e with e _
      exact hn (by rw [← e]; exact List.mem_cons_self)
  · rw [if_neg h]
    refine ⟨rfl, fun hn => ?_, fun hn => ?_⟩
    · show rTo L o ⟨p ++ [a], false⟩ n = _
      unfold rTo
      rw [take_dropLast, hA', find_ge _ n hA hn]
    · show rKey (rTo L o ⟨p ++ [a], false⟩ n) ≠ (n, true)
      unfold rTo
      rw [take_dropLast, hA']
      cases hf : (a :: B).find? (fun x => decide (n ≤ x)) with
      | none =>
        show rKey ⟨p ++ [a], true⟩ ≠ (n, true)
        rw [rKey_beh]
        intro e
        injection e with _ e
        cases e
      | some x =>
        show rKey ⟨p ++ [x], false⟩ ≠ (n, true)
        rw [rKey_at]
        intro e
        injection e with e _
        exact hn (by rw [← e]; exact List.mem_of_find?_eq_some hf)
end Go.Proofs.YtcnffgcegimelaaGreat.So
end
section
/-
  A walk over a store's index under way, with what is gathered. Conditions: as each says.
-/
namespace Go.Proofs.YtcnffgcegimelaaGreat.So
open Go.RowKit Go.Proofs.YtcnffgcegimelaaGreat.Mp Go.Proofs.YtcnffgcegimelaaGreat.Wd Go.Proofs.YtcnffgcegimelaaGreat.Pm Go.Proofs.YtcnffgcegimelaaGreat.Pw

/-- A walk in memory, told by where it stands. -/
structure WkR (w : World) (g : Nat) (x : IX) (o : Ord) (L : List R3) (r : RS) : Prop where
  wk : ∃ s, Wk w g x.X x.b 0 x.c o L s ∧ Rel L o s r
  top : ∀ e i, i < L.length → num L o e i ≤ 9223372036854775807
section
variable {w w' : World} {g : Nat} {x : IX} {o : Ord} {L : List R3} {r : RS}
theorem WkR.rise (h : WkR w g x o L r) : L.Pairwise (ltR o) := let ⟨_, h, _⟩ := h.wk; h.rise
theorem WkR.gs (h : WkR w g x o L r) : g < w.heap.size ∧ x.X < w.heap.size ∧ x.b < w.heap.size ∧ g ≠ x.X ∧ g ≠ x.b := let ⟨_, h, _⟩ := h.wk; ⟨h.gs, h.xs, h.bs, h.gX, h.gb⟩
theorem WkR.chg {D : Nat → Prop} (h : WkR w g x o L r) (c : Chg D w w') (h1 : ¬ D g) (h2 : ¬ D x.X) (h3 : ¬ D x.b) : WkR w' g x o L r := by
  obtain ⟨s, hk, hr⟩ := h.wk
  exact ⟨⟨s, ⟨idx_chg hk.idx c hk.xs hk.bs h2 h3, hk.rise, (c.block g hk.gs h1).trans hk.blk, hk.ok, Nat.lt_of_lt_of_le hk.xs c.size, Nat.lt_of_lt_of_le hk.bs c.size, hk.gX, hk.gb⟩, hr⟩, h.top⟩
theorem wr_key (h : WkR w g x o L r) : Calls Tryz.prog 44 #[.pointer (some ⟨g, 0, none⟩)] w fun e w' => e = .returned (.tuple #[.int .i64 (rKey r).1, .bool (rKey r).2]) ∧ Below w.heap.size w w' := by
  obtain ⟨s, hk, hr⟩ := h.wk
  refine (do_key hk).mono fun e w' ⟨he, hd⟩ => ⟨?_, hd.below⟩
  rw [he, sim_key hr]
theorem wr_open (h : WkR w g x o L r) : Calls Tryz.prog 42 #[.pointer (some ⟨g, 0, none⟩)] w fun e w' => e = .returned (.int .i64 (rOpen L o r).2) ∧ WkR w' g x o L (rOpen L o r).1 ∧ ((rOpen L o r).2 = 0 → 0 < (lvl L o r.at_).length) ∧ w.grownBy w' (some g) := by
  obtain ⟨s, hk, hr⟩ := h.wk
  obtain ⟨h1, h2, h3⟩ := sim_open hr h.rise
  refine (do_open hk).mono fun e w' ⟨he, hA, hg⟩ => ⟨?_, ⟨⟨_, hA, h2⟩, h.top⟩, h3, hg⟩
  rw [he, h1]
theorem wr_up (h : WkR w g x o L r) : Calls Tryz.prog 70 #[.pointer (some ⟨g, 0, none⟩)] w fun e w' => e = .returned (.int .i64 (rUp r).2) ∧ WkR w' g x o L (rUp r).1 ∧ w.grownBy w' (some g) := by
  obtain ⟨s, hk, hr⟩ := h.wk
  obtain ⟨h1, h2⟩ := sim_up hr
  refine (do_up hk).mono fun e w' ⟨he, hA, hg⟩ => ⟨?_, ⟨⟨_, hA, h2⟩, h.top⟩, hg⟩
  rw [he, h1]
theorem wr_next (h : WkR w g x o L r) : Calls Tryz.prog 69 #[.pointer (some ⟨g, 0, none⟩)] w fun e w' => e = .returned (.int .i64 (rNext L o r).2) ∧ WkR w' g x o L (rNext L o r).1 ∧ w.grownBy w' (some g) := by
  obtain ⟨s, hk, hr⟩ := h.wk
  obtain ⟨h1, h2⟩ := sim_next hr h.rise h.top
  refine (do_next hk).mono fun e w' ⟨he, hA, hg⟩ => ⟨?_, ⟨⟨_, hA, h2⟩, h.top⟩, hg⟩
  rw [he, h1]
theorem wr_seek (h : WkR w g x o L r) (n : Int) : Calls Tryz.prog 43 #[.pointer (some ⟨g, 0, none⟩), .int .i64 n] w fun e w' => e = .returned (.int .i64 (rSeek L o r n).2) ∧ WkR w' g x o L (rSeek L o r n).1 ∧ w.grownBy w' (some g) := by
  obtain ⟨s, hk, hr⟩ := h.wk
  obtain ⟨h1, h2⟩ := sim_seek hr h.rise n
  refine (do_seek hk n).mono fun e w' ⟨he, hA, hg⟩ => ⟨?_, ⟨⟨_, hA, h2⟩, h.top⟩, hg⟩
  rw [he, h1]
end
theorem wr_walk {w : World} {col : Nat → Nat} {x : IX} {o : Ord} {L : List R3} (h : IxAt w col x o L) (top : ∀ e i, i < L.length → num L o e i ≤ 9223372036854775807) : Calls Tryz.prog 40 #[.pointer (some ⟨x.X, 0, none⟩)] w fun e w' => e = .returned (.pointer (some ⟨w.heap.size, 0, none⟩)) ∧ WkR w' w.heap.size x o L ⟨[], false⟩ ∧ Below w.heap.size w w' := by
  refine (walk_at w x.X o L x.b 0 x.c h.idx h.xs).mono fun e w' ⟨h1, h2, h3, _⟩ => ⟨h1, ⟨⟨root L.length, ⟨h.idx.below h3 h.xs h.bs, h.rise, h2, ok_root L o, Nat.lt_of_lt_of_le h.xs h3.size, Nat.lt_of_lt_of_le h.bs h3.size, ?_, ?_⟩, rel_root L o⟩, top⟩, h3⟩
  · have := h.xs; omega
  · have := h.bs; omega
/-- A number's word. -/
def wd (ws : List ByteArray) (n : Int) : ByteArray := ws.getD n.toNat ByteArray.empty
/-- A row as a fact. -/
def factR (ws : List ByteArray) (r : R3) : Tri := ⟨wd ws r.a, wd ws r.b, wd ws r.c⟩
/-- A number that has a word. -/
def NumOk (ws : List ByteArray) (n : Int) : Prop := ∃ m : Nat, n = m ∧ m < ws.length
theorem word_num {w0 : Nat} {w : World} {k : SW} {s : SS} (h : Sto w0 w k s) {n : Int} (hn : NumOk s.ws n) :
    Calls Tryz.prog 68 #[.pointer (some ⟨k.pd, 0, none⟩), .int .i64 n] w fun e w' => e = .returned (.tuple #[.string (wd s.ws n), .int .i64 0]) ∧ w = w' := by
  obtain ⟨m, rfl, hm⟩ := hn
  have e : s.ws[m]? = some (wd s.ws (m : Int)) := by
    unfold wd
    rw [Int.toNat_natCast, List.getD_eq_getElem?_getD, List.getElem?_eq_getElem hm]
    rfl
  exact word_ok h.dic m _ e
theorem numW_ok {ws : List ByteArray} {x : ByteArray} (h : x ∈ ws) : NumOk ws (numW ws x) ∧ wd ws (numW ws x) = x := by
  obtain ⟨n, hn⟩ := Option.isSome_iff_exists.1 ((idxF_mem ws x).1 h)
  have h1 := idxF_at ws x n hn
  unfold numW wd NumOk
  rw [hn]
  refine ⟨⟨n, rfl, (List.getElem?_eq_some_iff.1 h1).1⟩, ?_⟩
  show ws.getD (n : Int).toNat ByteArray.empty = x
  rw [Int.toNat_natCast, List.getD_eq_getElem?_getD, h1]
  rfl
/-- A walk under way, and what it has gathered. -/
structure BK (w0 base g ob : Nat) (w : World) (k : SW) (s : SS) (x : IX) (o : Ord) (L : List R3) (r : RS) (X : List Tri) (v : Value) : Prop where
  sto : Sto w0 w k s
  c8 : ∀ i, (i = g ∨ i = ob ∨ base ≤ i) → i < w.heap.size → k.col i = 8
  wk : WkR w g x o L r
  obk : w.heap[ob]? = some (.cells #[v] 29 (0, 0))
  own : G.OwnL w base 35 3 encT v X
  lt : g < base ∧ ob < base ∧ g ≠ ob ∧ base ≤ w.heap.size
  ix : k.col x.X = 7 ∧ k.col x.b = 7
section
variable {w0 base g ob : Nat} {w w' : World} {k : SW} {s : SS} {x : IX} {o : Ord} {L : List R3} {r r' : RS} {X : List Tri} {v : Value}
theorem BK.col_far (_h : BK w0 base g ob w k s x o L r X v) {i : Nat} (hi : i < w.heap.size) : (k.far w).col i = k.col i := SW.far_like k w i hi
theorem BK.far8 (h : BK w0 base g ob w k s x o L r X v) (_hs : w.heap.size ≤ w'.heap.size) : ∀ i, (i = g ∨ i = ob ∨ base ≤ i) → i < w'.heap.size → (k.far w).col i = 8 := fun i hi _ => by
  by_cases e : i < w.heap.size
  · rw [SW.far_like k w i e]; exact h.c8 i hi e
  · show (if i < w.heap.size then k.col i else 8) = 8
    rw [if_neg e]
theorem BK.farx (h : BK w0 base g ob w k s x o L r X v) : (k.far w).col x.X = 7 ∧ (k.far w).col x.b = 7 := by
  obtain ⟨_, h1, h2, _⟩ := h.wk.gs
  rw [SW.far_like k w _ h1, SW.far_like k w _ h2]
  exact h.ix
theorem BK.obs (h : BK w0 base g ob w k s x o L r X v) : ob < w.heap.size := (Array.getElem?_eq_some_iff.1 h.obk).1
/-- Behind what makes memory alone. -/
theorem BK.below (h : BK w0 base g ob w k s x o L r X v) (c : Below w.heap.size w w') : BK w0 base g ob w' (k.far w) s x o L r X v :=
  ⟨h.sto.below c, h.far8 c.size, h.wk.chg (Chg.of_below (fun _ => False) c) (fun e => e) (fun e => e) (fun e => e), (c.block ob h.obs).trans h.obk, h.own.below c, ⟨h.lt.1, h.lt.2.1, h.lt.2.2.1, Nat.le_trans h.lt.2.2.2 c.size⟩, h.farx⟩
/-- Behind a step of the walk. -/
theorem BK.walk (h : BK w0 base g ob w k s x o L r X v) (hw : WkR w' g x o L r') (hg : w.grownBy w' (some g)) : BK w0 base g ob w' (k.far w) s x o L r' X v := by
  have c := Chg.of_grown hg
  refine ⟨h.sto.far c (fun i hi e => h.c8 i (Or.inl e) hi), h.far8 c.size, hw, (c.block ob h.obs (fun e => h.lt.2.2.1 e.symm)).trans h.obk, h.own.other hg h.lt.1, ⟨h.lt.1, h.lt.2.1, h.lt.2.2.1, Nat.le_trans h.lt.2.2.2 c.size⟩, h.farx⟩
theorem BK.nots (h : BK w0 base g ob w k s x o L r X v) : ∀ i, (i = ob ∨ base ≤ i) → x.X ≠ i ∧ x.b ≠ i ∧ (i = ob → g ≠ i) := fun i hi => by
  obtain ⟨h0, h1, h2, _⟩ := h.wk.gs
  refine ⟨fun e => ?_, fun e => ?_, fun e => by rw [e]; exact h.lt.2.2.1⟩
  · have := h.c8 i (Or.inr hi) (by rw [← e]; exact h1)
    rw [← e, h.ix.1] at this
    omega
  · have := h.c8 i (Or.inr hi) (by rw [← e]; exact h2)
    rw [← e, h.ix.2] at this
    omega
/-- Behind one more fact. -/
theorem BK.app (h : BK w0 base g ob w k s x o L r X v) {v1 : Value} {X' : List Tri} {w1 : World} (hc : Chg (fun i => i = ob ∨ base ≤ i) w w1) (ho : w1.heap[ob]? = some (.cells #[v1] 29 (0, 0))) (hn : G.OwnL w1 base 35 3 encT v1 X') : BK w0 base g ob w1 (k.far w) s x o L r X' v1 := by
  obtain ⟨h0, h1, h2, _⟩ := h.wk.gs
  refine ⟨h.sto.far hc (fun i hi e => h.c8 i (Or.inr e) hi), h.far8 hc.size, h.wk.chg hc (fun e => ?_) (fun e => (h.nots _ e).1 rfl) (fun e => (h.nots _ e).2.1 rfl), ho, hn, ⟨h.lt.1, h.lt.2.1, h.lt.2.2.1, Nat.le_trans h.lt.2.2.2 hc.size⟩, h.farx⟩
  rcases e with e | e
  · exact h.lt.2.2.1 e
  · have := h.lt.1; omega
end
/-- Behind what changes blocks of nobody's. -/
theorem BK.side {w0 base g ob : Nat} {w w' : World} {k : SW} {s : SS} {x : IX} {o : Ord} {L : List R3} {r : RS} {X : List Tri} {v : Value} {D : Nat → Prop} (h : BK w0 base g ob w k s x o L r X v) (c : Chg D w w') (hD : ∀ i, D i → base ≤ i ∧ some i ≠ v.ownBlock) : BK w0 base g ob w' (k.far w) s x o L r X v := by
  obtain ⟨h0, h1, h2, _⟩ := h.wk.gs
  refine ⟨h.sto.far c (fun i hi e => h.c8 i (Or.inr (Or.inr (hD i e).1)) hi), h.far8 c.size, h.wk.chg c (fun e => ?_) (fun e => (h.nots _ (Or.inr (hD _ e).1)).1 rfl) (fun e => (h.nots _ (Or.inr (hD _ e).1)).2.1 rfl), (c.block ob h.obs (fun e => ?_)).trans h.obk, row_same h.own (fun j hj => c.block j (h.own.lt_ j hj) (fun e => (hD j e).2 hj.symm)), ⟨h.lt.1, h.lt.2.1, h.lt.2.2.1, Nat.le_trans h.lt.2.2.2 c.size⟩, h.farx⟩
  · have := (hD _ e).1; have := h.lt.1; omega
  · have := (hD _ e).1; have := h.lt.2.1; omega
/-- What a call of below leaves. -/
def BelPost (w0 base g ob : Nat) (w : World) (k : SW) (s : SS) (x : IX) (o : Ord) (L : List R3) (p : List Int) (X : List Tri) (v : Value) (e : Ending) (w' : World) : Prop :=
  (∃ u, e = .returned u) ∧ ∃ col' v' Y, BK w0 base g ob w' { k with col := col' } s x o L ⟨p, false⟩ (X ++ Y) v' ∧ Y.Perm ((under L o p).map (factR s.ws)) ∧ Like w k.col col' ∧ Chg (fun i => i = g ∨ i = ob ∨ some i = v.ownBlock) w w' ∧ (v'.ownBlock = v.ownBlock ∨ ∀ j, v'.ownBlock = some j → w.heap.size ≤ j)
/-- The words that are asked for lie on the path. -/
structure LikeOk (ws : List ByteArray) (o : Ord) (p : List Int) (kn : Nat) (like : Nat → ByteArray) : Prop where
  hk : kn ≤ p.length
  no : ∀ j, kn ≤ j → j < 3 → like (o.at j) = ByteArray.empty
  yes : ∀ j, j < kn → like (o.at j) = wd ws (p.getD j 0) ∧ like (o.at j) ≠ ByteArray.empty
end Go.Proofs.YtcnffgcegimelaaGreat.So
end
