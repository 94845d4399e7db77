/-
  A walk over a store's index under way, with what is gathered. Conditions: as each says.
-/
import Derived.Test.YtcnffgcegimelaaGreatSx0
namespace Go.Proofs.YtcnffgcegimelaaGreat.So
open Go.RowKit Go.Proofs.YtcnffgcegimelaaGreat.Mp Go.Proofs.YtcnffgcegimelaaGreat.Wd Go.Proofs.YtcnffgcegimelaaGreat.Pm Go.Proofs.YtcnffgcegimelaaGreat.Pw

/-- A walk in memory, told by where it stands. -/
structure WkR (w : World) (g : Nat) (x : IX) (o : Ord) (L : List R3) (r : RS) : Prop where
  wk : ∃ s, Wk w g x.X x.b 0 x.c o L s ∧ Rel L o s r
  top : ∀ e i, i < L.length → num L o e i ≤ 9223372036854775807
section
variable {w w' : World} {g : Nat} {x : IX} {o : Ord} {L : List R3} {r : RS}
theorem WkR.rise (h : WkR w g x o L r) : L.Pairwise (ltR o) := let ⟨_, h, _⟩ := h.wk; h.rise
theorem WkR.gs (h : WkR w g x o L r) : g < w.heap.size ∧ x.X < w.heap.size ∧ x.b < w.heap.size ∧ g ≠ x.X ∧ g ≠ x.b := let ⟨_, h, _⟩ := h.wk; ⟨h.gs, h.xs, h.bs, h.gX, h.gb⟩
theorem WkR.chg {D : Nat → Prop} (h : WkR w g x o L r) (c : Chg D w w') (h1 : ¬ D g) (h2 : ¬ D x.X) (h3 : ¬ D x.b) : WkR w' g x o L r := by
  obtain ⟨s, hk, hr⟩ := h.wk
  exact ⟨⟨s, ⟨idx_chg hk.idx c hk.xs hk.bs h2 h3, hk.rise, (c.block g hk.gs h1).trans hk.blk, hk.ok, Nat.lt_of_lt_of_le hk.xs c.size, Nat.lt_of_lt_of_le hk.bs c.size, hk.gX, hk.gb⟩, hr⟩, h.top⟩
theorem wr_key (h : WkR w g x o L r) : Calls Tryz.prog 44 #[.pointer (some ⟨g, 0, none⟩)] w fun e w' => e = .returned (.tuple #[.int .i64 (rKey r).1, .bool (rKey r).2]) ∧ Below w.heap.size w w' := by
  obtain ⟨s, hk, hr⟩ := h.wk
  refine (do_key hk).mono fun e w' ⟨he, hd⟩ => ⟨?_, hd.below⟩
  rw [he, sim_key hr]
theorem wr_open (h : WkR w g x o L r) : Calls Tryz.prog 42 #[.pointer (some ⟨g, 0, none⟩)] w fun e w' => e = .returned (.int .i64 (rOpen L o r).2) ∧ WkR w' g x o L (rOpen L o r).1 ∧ ((rOpen L o r).2 = 0 → 0 < (lvl L o r.at_).length) ∧ w.grownBy w' (some g) := by
  obtain ⟨s, hk, hr⟩ := h.wk
  obtain ⟨h1, h2, h3⟩ := sim_open hr h.rise
  refine (do_open hk).mono fun e w' ⟨he, hA, hg⟩ => ⟨?_, ⟨⟨_, hA, h2⟩, h.top⟩, h3, hg⟩
  rw [he, h1]
theorem wr_up (h : WkR w g x o L r) : Calls Tryz.prog 70 #[.pointer (some ⟨g, 0, none⟩)] w fun e w' => e = .returned (.int .i64 (rUp r).2) ∧ WkR w' g x o L (rUp r).1 ∧ w.grownBy w' (some g) := by
  obtain ⟨s, hk, hr⟩ := h.wk
  obtain ⟨h1, h2⟩ := sim_up hr
  refine (do_up hk).mono fun e w' ⟨he, hA, hg⟩ => ⟨?_, ⟨⟨_, hA, h2⟩, h.top⟩, hg⟩
  rw [he, h1]
theorem wr_next (h : WkR w g x o L r) : Calls Tryz.prog 69 #[.pointer (some ⟨g, 0, none⟩)] w fun e w' => e = .returned (.int .i64 (rNext L o r).2) ∧ WkR w' g x o L (rNext L o r).1 ∧ w.grownBy w' (some g) := by
  obtain ⟨s, hk, hr⟩ := h.wk
  obtain ⟨h1, h2⟩ := sim_next hr h.rise h.top
  refine (do_next hk).mono fun e w' ⟨he, hA, hg⟩ => ⟨?_, ⟨⟨_, hA, h2⟩, h.top⟩, hg⟩
  rw [he, h1]
theorem wr_seek (h : WkR w g x o L r) (n : Int) : Calls Tryz.prog 43 #[.pointer (some ⟨g, 0, none⟩), .int .i64 n] w fun e w' => e = .returned (.int .i64 (rSeek L o r n).2) ∧ WkR w' g x o L (rSeek L o r n).1 ∧ w.grownBy w' (some g) := by
  obtain ⟨s, hk, hr⟩ := h.wk
  obtain ⟨h1, h2⟩ := sim_seek hr h.rise n
  refine (do_seek hk n).mono fun e w' ⟨he, hA, hg⟩ => ⟨?_, ⟨⟨_, hA, h2⟩, h.top⟩, hg⟩
  rw [he, h1]
end
theorem wr_walk {w : World} {col : Nat → Nat} {x : IX} {o : Ord} {L : List R3} (h : IxAt w col x o L) (top : ∀ e i, i < L.length → num L o e i ≤ 9223372036854775807) : Calls Tryz.prog 40 #[.pointer (some ⟨x.X, 0, none⟩)] w fun e w' => e = .returned (.pointer (some ⟨w.heap.size, 0, none⟩)) ∧ WkR w' w.heap.size x o L ⟨[], false⟩ ∧ Below w.heap.size w w' := by
  refine (walk_at w x.X o L x.b 0 x.c h.idx h.xs).mono fun e w' ⟨h1, h2, h3, _⟩ => ⟨h1, ⟨⟨root L.length, ⟨h.idx.below h3 h.xs h.bs, h.rise, h2, ok_root L o, Nat.lt_of_lt_of_le h.xs h3.size, Nat.lt_of_lt_of_le h.bs h3.size, ?_, ?_⟩, rel_root L o⟩, top⟩, h3⟩
  · have := h.xs; omega
  · have := h.bs; omega
/-- A number's word. -/
def wd (ws : List ByteArray) (n : Int) : ByteArray := ws.getD n.toNat ByteArray.empty
/-- A row as a fact. -/
def factR (ws : List ByteArray) (r : R3) : Tri := ⟨wd ws r.a, wd ws r.b, wd ws r.c⟩
/-- A number that has a word. -/
def NumOk (ws : List ByteArray) (n : Int) : Prop := ∃ m : Nat, n = m ∧ m < ws.length
theorem word_num {w0 : Nat} {w : World} {k : SW} {s : SS} (h : Sto w0 w k s) {n : Int} (hn : NumOk s.ws n) :
    Calls Tryz.prog 68 #[.pointer (some ⟨k.pd, 0, none⟩), .int .i64 n] w fun e w' => e = .returned (.tuple #[.string (wd s.ws n), .int .i64 0]) ∧ w = w' := by
  obtain ⟨m, rfl, hm⟩ := hn
  have e : s.ws[m]? = some (wd s.ws (m : Int)) := by
    unfold wd
    rw [Int.toNat_natCast, List.getD_eq_getElem?_getD, List.getElem?_eq_getElem hm]
    rfl
  exact word_ok h.dic m _ e
theorem numW_ok {ws : List ByteArray} {x : ByteArray} (h : x ∈ ws) : NumOk ws (numW ws x) ∧ wd ws (numW ws x) = x := by
  obtain ⟨n, hn⟩ := Option.isSome_iff_exists.1 ((idxF_mem ws x).1 h)
  have h1 := idxF_at ws x n hn
  unfold numW wd NumOk
  rw [hn]
  refine ⟨⟨n, rfl, (List.getElem?_eq_some_iff.1 h1).1⟩, ?_⟩
  show ws.getD (n : Int).toNat ByteArray.empty = x
  rw [Int.toNat_natCast, List.getD_eq_getElem?_getD, h1]
  rfl
/-- A walk under way, and what it has gathered. -/
structure BK (w0 base g ob : Nat) (w : World) (k : SW) (s : SS) (x : IX) (o : Ord) (L : List R3) (r : RS) (X : List Tri) (v : Value) : Prop where
  sto : Sto w0 w k s
  c8 : ∀ i, (i = g ∨ i = ob ∨ base ≤ i) → i < w.heap.size → k.col i = 8
  wk : WkR w g x o L r
  obk : w.heap[ob]? = some (.cells #[v] 29 (0, 0))
  own : G.OwnL w base 35 3 encT v X
  lt : g < base ∧ ob < base ∧ g ≠ ob ∧ base ≤ w.heap.size
  ix : k.col x.X = 7 ∧ k.col x.b = 7
section
variable {w0 base g ob : Nat} {w w' : World} {k : SW} {s : SS} {x : IX} {o : Ord} {L : List R3} {r r' : RS} {X : List Tri} {v : Value}
theorem BK.col_far (h : BK w0 base g ob w k s x o L r X v) {i : Nat} (hi : i < w.heap.size) : (k.far w).col i = k.col i := SW.far_like k w i hi
theorem BK.far8 (h : BK w0 base g ob w k s x o L r X v) (hs : w.heap.size ≤ w'.heap.size) : ∀ i, (i = g ∨ i = ob ∨ base ≤ i) → i < w'.heap.size → (k.far w).col i = 8 := fun i hi _ => by
  by_cases e : i < w.heap.size
  · rw [SW.far_like k w i e]; exact h.c8 i hi e
  · show (if i < w.heap.size then k.col i else 8) = 8
    rw [if_neg e]
theorem BK.farx (h : BK w0 base g ob w k s x o L r X v) : (k.far w).col x.X = 7 ∧ (k.far w).col x.b = 7 := by
  obtain ⟨_, h1, h2, _⟩ := h.wk.gs
  rw [SW.far_like k w _ h1, SW.far_like k w _ h2]
  exact h.ix
theorem BK.obs (h : BK w0 base g ob w k s x o L r X v) : ob < w.heap.size := (Array.getElem?_eq_some_iff.1 h.obk).1
/-- Behind what makes memory alone. -/
theorem BK.below (h : BK w0 base g ob w k s x o L r X v) (c : Below w.heap.size w w') : BK w0 base g ob w' (k.far w) s x o L r X v :=
  ⟨h.sto.below c, h.far8 c.size, h.wk.chg (Chg.of_below (fun _ => False) c) (fun e => e) (fun e => e) (fun e => e), (c.block ob h.obs).trans h.obk, h.own.below c, ⟨h.lt.1, h.lt.2.1, h.lt.2.2.1, Nat.le_trans h.lt.2.2.2 c.size⟩, h.farx⟩
/-- Behind a step of the walk. -/
theorem BK.walk (h : BK w0 base g ob w k s x o L r X v) (hw : WkR w' g x o L r') (hg : w.grownBy w' (some g)) : BK w0 base g ob w' (k.far w) s x o L r' X v := by
  have c := Chg.of_grown hg
  refine ⟨h.sto.far c (fun i hi e => h.c8 i (Or.inl e) hi), h.far8 c.size, hw, (c.block ob h.obs (fun e => h.lt.2.2.1 e.symm)).trans h.obk, h.own.other hg h.lt.1, ⟨h.lt.1, h.lt.2.1, h.lt.2.2.1, Nat.le_trans h.lt.2.2.2 c.size⟩, h.farx⟩
theorem BK.nots (h : BK w0 base g ob w k s x o L r X v) : ∀ i, (i = ob ∨ base ≤ i) → x.X ≠ i ∧ x.b ≠ i ∧ (i = ob → g ≠ i) := fun i hi => by
  obtain ⟨h0, h1, h2, _⟩ := h.wk.gs
  refine ⟨fun e => ?_, fun e => ?_, fun e => by rw [e]; exact h.lt.2.2.1⟩
  · have := h.c8 i (Or.inr hi) (by rw [← e]; exact h1)
    rw [← e, h.ix.1] at this
    omega
  · have := h.c8 i (Or.inr hi) (by rw [← e]; exact h2)
    rw [← e, h.ix.2] at this
    omega
/-- Behind one more fact. -/
theorem BK.app (h : BK w0 base g ob w k s x o L r X v) {v1 : Value} {X' : List Tri} {w1 : World} (hc : Chg (fun i => i = ob ∨ base ≤ i) w w1) (ho : w1.heap[ob]? = some (.cells #[v1] 29 (0, 0))) (hn : G.OwnL w1 base 35 3 encT v1 X') : BK w0 base g ob w1 (k.far w) s x o L r X' v1 := by
  obtain ⟨h0, h1, h2, _⟩ := h.wk.gs
  refine ⟨h.sto.far hc (fun i hi e => h.c8 i (Or.inr e) hi), h.far8 hc.size, h.wk.chg hc (fun e => ?_) (fun e => (h.nots _ e).1 rfl) (fun e => (h.nots _ e).2.1 rfl), ho, hn, ⟨h.lt.1, h.lt.2.1, h.lt.2.2.1, Nat.le_trans h.lt.2.2.2 hc.size⟩, h.farx⟩
  rcases e with e | e
  · exact h.lt.2.2.1 e
  · have := h.lt.1; omega
end
/-- Behind what changes blocks of nobody's. -/
theorem BK.side {w0 base g ob : Nat} {w w' : World} {k : SW} {s : SS} {x : IX} {o : Ord} {L : List R3} {r : RS} {X : List Tri} {v : Value} {D : Nat → Prop} (h : BK w0 base g ob w k s x o L r X v) (c : Chg D w w') (hD : ∀ i, D i → base ≤ i ∧ some i ≠ v.ownBlock) : BK w0 base g ob w' (k.far w) s x o L r X v := by
  obtain ⟨h0, h1, h2, _⟩ := h.wk.gs
  refine ⟨h.sto.far c (fun i hi e => h.c8 i (Or.inr (Or.inr (hD i e).1)) hi), h.far8 c.size, h.wk.chg c (fun e => ?_) (fun e => (h.nots _ (Or.inr (hD _ e).1)).1 rfl) (fun e => (h.nots _ (Or.inr (hD _ e).1)).2.1 rfl), (c.block ob h.obs (fun e => ?_)).trans h.obk, row_same h.own (fun j hj => c.block j (h.own.lt_ j hj) (fun e => (hD j e).2 hj.symm)), ⟨h.lt.1, h.lt.2.1, h.lt.2.2.1, Nat.le_trans h.lt.2.2.2 c.size⟩, h.farx⟩
  · have := (hD _ e).1; have := h.lt.1; omega
  · have := (hD _ e).1; have := h.lt.2.1; omega
/-- What a call of below leaves. -/
def BelPost (w0 base g ob : Nat) (w : World) (k : SW) (s : SS) (x : IX) (o : Ord) (L : List R3) (p : List Int) (X : List Tri) (v : Value) (e : Ending) (w' : World) : Prop :=
  (∃ u, e = .returned u) ∧ ∃ col' v' Y, BK w0 base g ob w' { k with col := col' } s x o L ⟨p, false⟩ (X ++ Y) v' ∧ Y.Perm ((under L o p).map (factR s.ws)) ∧ Like w k.col col' ∧ Chg (fun i => i = g ∨ i = ob ∨ some i = v.ownBlock) w w' ∧ (v'.ownBlock = v.ownBlock ∨ ∀ j, v'.ownBlock = some j → w.heap.size ≤ j)
/-- The words that are asked for lie on the path. -/
structure LikeOk (ws : List ByteArray) (o : Ord) (p : List Int) (kn : Nat) (like : Nat → ByteArray) : Prop where
  hk : kn ≤ p.length
  no : ∀ j, kn ≤ j → j < 3 → like (o.at j) = ByteArray.empty
  yes : ∀ j, j < kn → like (o.at j) = wd ws (p.getD j 0) ∧ like (o.at j) ≠ ByteArray.empty
end Go.Proofs.YtcnffgcegimelaaGreat.So
