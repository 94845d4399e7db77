/-
  store.below: a number more. Conditions: the blocks lie as told; the call of one number more does as told.
-/
import Derived.Test.YtcnffgcegimelaaGreatSx2
namespace Go.Proofs.YtcnffgcegimelaaGreat.So
open Go.RowKit Go.Proofs.YtcnffgcegimelaaGreat.Mp Go.Proofs.YtcnffgcegimelaaGreat.Wd Go.Proofs.YtcnffgcegimelaaGreat.Pm Go.Proofs.YtcnffgcegimelaaGreat.Pw

/-- What below does, with so many numbers. -/
def BelC (w0 base g ob : Nat) (s : SS) (x : IX) (o : Ord) (L : List R3) (kn : Nat) (l0 l1 l2 : ByteArray) (d : Nat) : Prop :=
  ∀ (w : World) (k : SW) (p : List Int) (X : List Tri) (v : Value) (n0 n1 n2 : Int), p.length = d → BK w0 base g ob w k s x o L ⟨p, false⟩ X v → (d ≠ 0 → under L o p ≠ []) → LikeOk s.ws o p kn (sel l0 l1 l2) → (∀ j, kn ≤ j → j < d → sel n0 n1 n2 (o.at j) = p.getD j 0) → X.length + (under L o p).length ≤ 50000 →
    Calls Tryz.prog 45 #[.pointer (some ⟨k.p, 0, none⟩), .pointer (some ⟨g, 0, none⟩), .agg #[.int .i64 o.x, .int .i64 o.y, .int .i64 o.z], .int .i64 d, .agg #[.int .i64 n0, .int .i64 n1, .int .i64 n2], .agg #[.string l0, .string l1, .string l2], .pointer (some ⟨ob, 0, none⟩)] w (BelPost w0 base g ob w k s x o L p X v)
/-- What holds of all rows. -/
structure RowsOk (ws : List ByteArray) (L : List R3) : Prop where
  num : ∀ r ∈ L, NumOk ws r.a ∧ NumOk ws r.b ∧ NumOk ws r.c
  few : ws.length ≤ 1000000
theorem RowsOk.at {ws : List ByteArray} {L : List R3} (h : RowsOk ws L) {r : R3} (hr : r ∈ L) (j : Nat) : NumOk ws (r.at j) := by
  unfold R3.at
  split
  · exact (h.num r hr).1
  · split
    · exact (h.num r hr).2.1
    · exact (h.num r hr).2.2
theorem wAt_fact (ws : List ByteArray) (r : R3) (j : Nat) : wAt (factR ws r) j = wd ws (r.at j) := by
  unfold wAt factR R3.at
  split
  · rfl
  · split <;> rfl
/-- The six orders' places. -/
theorem six_at {o : Ord} (ho : Six o) : (∀ i, i < 3 → ∃ j, j < 3 ∧ o.at j = i) ∧ (∀ j, j < 3 → o.at j < 3) := by
  obtain ⟨x, y, z⟩ := o
  rcases ho with ⟨rfl, rfl, rfl⟩ | ⟨rfl, rfl, rfl⟩ | ⟨rfl, rfl, rfl⟩ | ⟨rfl, rfl, rfl⟩ | ⟨rfl, rfl, rfl⟩ | ⟨rfl, rfl, rfl⟩ <;>
  · refine ⟨fun i hi => ?_, fun j hj => ?_⟩
    · have : i = 0 ∨ i = 1 ∨ i = 2 := by omega
      rcases this with rfl | rfl | rfl <;> first | exact ⟨0, by omega, rfl⟩ | exact ⟨1, by omega, rfl⟩ | exact ⟨2, by omega, rfl⟩
    · have : j = 0 ∨ j = 1 ∨ j = 2 := by omega
      rcases this with rfl | rfl | rfl <;> simp [Ord.at]
theorem six_inj {o : Ord} (ho : Six o) : ∀ i j, i < 3 → j < 3 → o.at i = o.at j → i = j := by
  obtain ⟨x, y, z⟩ := o
  intro i j hi hj h
  rcases ho with ⟨rfl, rfl, rfl⟩ | ⟨rfl, rfl, rfl⟩ | ⟨rfl, rfl, rfl⟩ | ⟨rfl, rfl, rfl⟩ | ⟨rfl, rfl, rfl⟩ | ⟨rfl, rfl, rfl⟩ <;>
  · have h1 : i = 0 ∨ i = 1 ∨ i = 2 := by omega
    have h2 : j = 0 ∨ j = 1 ∨ j = 2 := by omega
    rcases h1 with rfl | rfl | rfl <;> rcases h2 with rfl | rfl | rfl <;> first | rfl | (simp [Ord.at] at h)
theorem sel_nat (x y z : Nat) (j : Nat) : sel (x : Int) (y : Int) (z : Int) j = ((⟨x, y, z⟩ : Ord).at j : Nat) := by
  unfold sel Ord.at
  split
  · rfl
  · split <;> rfl
/-- below with three numbers. -/
theorem belC_three {w0 base g ob : Nat} {s : SS} {x : IX} {o : Ord} {L : List R3} {kn : Nat} {l0 l1 l2 : ByteArray} (ho : Six o) (hL : L.Pairwise (ltR o)) (hR : RowsOk s.ws L) : BelC w0 base g ob s x o L kn l0 l1 l2 3 := by
  intro w k p X v n0 n1 n2 hp h hu hl hr hX
  obtain ⟨r, hr1⟩ := List.exists_mem_of_ne_nil _ (hu (by omega))
  have hu1 := under_three ho hL hp hr1
  obtain ⟨m1, m2⟩ := mem_under.1 hr1
  rw [hu1] at hX
  have key : ∀ i, i < 3 → WordOk s.ws (factR s.ws r) (sel l0 l1 l2 i) (sel n0 n1 n2 i) i := fun i hi => by
    obtain ⟨j, hj, rfl⟩ := (six_at ho).1 i hi
    have e1 := m2 j (by omega)
    unfold WordOk
    rw [wAt_fact, e1]
    by_cases e : j < kn
    · obtain ⟨h1, h2⟩ := hl.yes j e
      refine Or.inl ⟨?_, h1⟩
      rcases has_cases (sel l0 l1 l2 (o.at j)) with ⟨e2, _⟩ | ⟨e2, _⟩
      · exact absurd e2 h2
      · exact e2
    · refine Or.inr ⟨hl.no j (by omega) hj, ?_, ?_⟩
      · rw [hr j (by omega) hj]
      · rw [hr j (by omega) hj, ← e1]
        exact hR.at m1 _
  exact below3 h (by simp at hX; omega) hu1 l0 l1 l2 n0 n1 n2 (key 0 (by omega)) (key 1 (by omega)) (key 2 (by omega)) o.x o.y o.z
/-- Three numbers of which one is new. -/
def up3 (n : Int) (c : Int) (m i : Nat) : Int := if m = i then c else n
theorem sel_up (n0 n1 n2 c : Int) (m j : Nat) (hm : m < 3) (hj : j < 3) : sel (up3 n0 c m 0) (up3 n1 c m 1) (up3 n2 c m 2) j = if m = j then c else sel n0 n1 n2 j := by
  have h1 : m = 0 ∨ m = 1 ∨ m = 2 := by omega
  have h2 : j = 0 ∨ j = 1 ∨ j = 2 := by omega
  rcases h1 with rfl | rfl | rfl <;> rcases h2 with rfl | rfl | rfl <;> simp [sel, up3]
theorem set_up (n0 n1 n2 c : Int) (m : Nat) (hm : m < 3) : (#[Value.int .i64 n0, .int .i64 n1, .int .i64 n2]).setIfInBounds m (.int .i64 c) = #[.int .i64 (up3 n0 c m 0), .int .i64 (up3 n1 c m 1), .int .i64 (up3 n2 c m 2)] := by
  have h1 : m = 0 ∨ m = 1 ∨ m = 2 := by omega
  rcases h1 with rfl | rfl | rfl <;> rfl
/-- The loop over a level. -/
structure LK (w0 base g ob : Nat) (w wx : World) (k : SW) (s : SS) (x : IX) (o : Ord) (L : List R3) (p : List Int) (X : List Tri) (v : Value) (A : List Int) (i kn : Nat) (l0 l1 l2 : ByteArray) (n0 n1 n2 : Int) (col' : Nat → Nat) (v' : Value) (Y : List Tri) : Prop where
  bk : BK w0 base g ob wx { k with col := col' } s x o L (lvAt p A i) (X ++ Y) v'
  y : Y.Perm (((A.take i).flatMap fun c => under L o (p ++ [c])).map (factR s.ws))
  like : Like w k.col col'
  chg : Chg (fun i => i = g ∨ i = ob ∨ some i = v.ownBlock) w wx
  own : v'.ownBlock = v.ownBlock ∨ ∀ j, v'.ownBlock = some j → w.heap.size + 3 ≤ j
  b0 : wx.heap[w.heap.size]? = some (.cells #[.int .i64 o.x, .int .i64 o.y, .int .i64 o.z] 80 (0, 0))
  b1 : wx.heap[w.heap.size + 1]? = some (.cells #[.int .i64 n0, .int .i64 n1, .int .i64 n2] 80 (0, 0))
  b2 : wx.heap[w.heap.size + 1 + 1]? = some (.cells #[.string l0, .string l1, .string l2] 74 (0, 0))
  row : ∀ j, kn ≤ j → j < p.length → sel n0 n1 n2 (o.at j) = p.getD j 0
  sz : w.heap.size + 3 ≤ wx.heap.size
/-- Three boxes. -/
theorem boxes3 (w : World) (a0 a1 a2 b0 b1 b2 c0 c1 c2 : Value) (t1 t2 t3 : TypeId) (wa : World) (h : ((w.alloc (.cells #[a0, a1, a2] t1 (0, 0))).alloc (.cells #[b0, b1, b2] t2 (0, 0))).alloc (.cells #[c0, c1, c2] t3 (0, 0)) = wa) :
    Below w.heap.size w wa ∧ wa.heap[w.heap.size]? = some (.cells #[a0, a1, a2] t1 (0, 0)) ∧ wa.heap[w.heap.size + 1]? = some (.cells #[b0, b1, b2] t2 (0, 0)) ∧ wa.heap[w.heap.size + 1 + 1]? = some (.cells #[c0, c1, c2] t3 (0, 0)) ∧ wa.heap.size = w.heap.size + 3 := by
  subst h
  have e1 := heap_alloc_new w (.cells #[a0, a1, a2] t1 (0, 0))
  have e2 := heap_alloc_new (w.alloc (.cells #[a0, a1, a2] t1 (0, 0))) (.cells #[b0, b1, b2] t2 (0, 0))
  have e3 := heap_alloc_new ((w.alloc (.cells #[a0, a1, a2] t1 (0, 0))).alloc (.cells #[b0, b1, b2] t2 (0, 0))) (.cells #[c0, c1, c2] t3 (0, 0))
  simp only [World.size_alloc] at e2 e3
  refine ⟨(((Below.refl _ _).alloc (Nat.le_refl _) _).alloc (by simp <;> omega) _).alloc (by simp <;> omega) _, ?_, ?_, e3, by simp only [World.size_alloc]⟩
  · rw [Below.heap_alloc _ _ _ (by simp <;> omega), Below.heap_alloc _ _ _ (by simp <;> omega)]
    exact e1
  · rw [Below.heap_alloc _ _ _ (by simp <;> omega)]
    exact e2
theorem numA {ws : List ByteArray} {L : List R3} {o : Ord} {p A : List Int} (hL : L.Pairwise (ltR o)) (hR : RowsOk ws L) (hp : p.length ≤ 2) (hA : lvl L o p = A) (i : Nat) (hi : i < A.length) : NumOk ws (A.getD i 0) ∧ A.getD i 0 < 9223372036854775807 ∧ under L o (p ++ [A.getD i 0]) ≠ [] := by
  have h1 : A.getD i 0 ∈ lvl L o p := by
    rw [hA, List.getD_eq_getElem?_getD, List.getElem?_eq_getElem hi]
    exact List.getElem_mem _
  obtain ⟨r, hr, e⟩ := (mem_lvl hL hp _).1 h1
  have h2 := hR.at (mem_under.1 hr).1 (o.at p.length)
  rw [e] at h2
  refine ⟨h2, ?_, fun e2 => ?_⟩
  · obtain ⟨m, e3, e4⟩ := h2
    have := hR.few
    omega
  · have := under_snoc.2 ⟨hr, e⟩
    rw [e2] at this
    cases this
section
variable {w0 base g ob : Nat} {w wa wx w1 w3 w4 : World} {k : SW} {s : SS} {x : IX} {o : Ord} {L : List R3} {p : List Int} {X Y : List Tri} {v v' : Value} {A : List Int} {i kn : Nat} {l0 l1 l2 : ByteArray} {n0 n1 n2 : Int} {col' : Nat → Nat}
theorem below_nil_end (h : BK w0 base g ob w k s x o L ⟨p, false⟩ X v) (hb : Below w.heap.size w wa) (hw : WkR w1 g x o L ⟨p, false⟩) (hg : wa.grownBy w1 (some g)) (hL : L.length = 0) : BelPost w0 base g ob w k s x o L p X v (.returned (.tuple #[])) w1 := by
  have h1 := (h.below hb).walk hw hg
  refine ⟨⟨_, rfl⟩, ((k.far w).far wa).col, v, [], by rw [List.append_nil]; exact h1, ?_, fun i hi => ?_, ((Chg.of_below (fun _ => False) hb).mono (fun _ _ e => e.elim)).trans (Chg.of_grown hg) (fun i _ e => Or.inl e), Or.inl rfl⟩
  · rw [List.eq_nil_of_length_eq_zero hL]
    exact List.Perm.refl _
  · rw [SW.far_like (k.far w) wa i (Nat.lt_of_lt_of_le hi hb.size)]
    exact SW.far_like k w i hi
theorem LK.start (h : BK w0 base g ob w k s x o L ⟨p, false⟩ X v) (hb : Below w.heap.size w wa) (hs : wa.heap.size = w.heap.size + 3) (hb0 : wa.heap[w.heap.size]? = some (.cells #[.int .i64 o.x, .int .i64 o.y, .int .i64 o.z] 80 (0, 0))) (hb1 : wa.heap[w.heap.size + 1]? = some (.cells #[.int .i64 n0, .int .i64 n1, .int .i64 n2] 80 (0, 0))) (hb2 : wa.heap[w.heap.size + 1 + 1]? = some (.cells #[.string l0, .string l1, .string l2] 74 (0, 0)))
    (_hA : lvl L o p = A) (hpos : 0 < A.length) (hw : WkR w1 g x o L ⟨p ++ [A.getD 0 0], false⟩) (hg : wa.grownBy w1 (some g)) (hr : ∀ j, kn ≤ j → j < p.length → sel n0 n1 n2 (o.at j) = p.getD j 0) :
    LK w0 base g ob w w1 k s x o L p X v A 0 kn l0 l1 l2 n0 n1 n2 ((k.far w).far wa).col v [] := by
  have h1 := (h.below hb).walk hw hg
  have e : lvAt p A 0 = ⟨p ++ [A.getD 0 0], false⟩ := by unfold lvAt; rw [if_pos hpos]
  have gl := h.lt
  have hs1 := hg.size
  refine ⟨by rw [List.append_nil, e]; exact h1, List.Perm.refl _, fun i hi => ?_, ((Chg.of_below (fun _ => False) hb).mono (fun _ _ e => e.elim)).trans (Chg.of_grown hg) (fun i _ e => Or.inl e), Or.inl rfl, grown_block hg hb0 (fun e => by have := Option.some.inj e; omega), grown_block hg hb1 (fun e => by have := Option.some.inj e; omega), grown_block hg hb2 (fun e => by have := Option.some.inj e; omega), hr, by omega⟩
  rw [SW.far_like (k.far w) wa i (Nat.lt_of_lt_of_le hi hb.size)]
  exact SW.far_like k w i hi
theorem LK.call (h : LK w0 base g ob w wx k s x o L p X v A i kn l0 l1 l2 n0 n1 n2 col' v' Y) (hbw : base ≤ w.heap.size) (hv : ∀ j, v.ownBlock = some j → j < w.heap.size) (hi : i < A.length) (hb : Below wx.heap.size wx w1) (m : Nat) (c : Value) :
    BK w0 base g ob (w1.setCell ⟨w.heap.size + 1, m, none⟩ c) ((SW.far { k with col := col' } wx).far w1) s x o L ⟨p ++ [A.getD i 0], false⟩ (X ++ Y) v' := by
  have e : lvAt p A i = ⟨p ++ [A.getD i 0], false⟩ := by unfold lvAt; rw [if_pos hi]
  have h1 := h.bk
  rw [e] at h1
  refine (h1.below hb).side (Chg.of_grown (Wd.grown_set w1 (w.heap.size + 1) m c)) (fun j ej => ?_)
  refine ⟨by omega, fun e2 => ?_⟩
  rcases h.own with e3 | e3
  · rw [e3] at e2
    have := hv j e2.symm
    omega
  · have := e3 j e2.symm
    omega
theorem LK.len (h : LK w0 base g ob w wx k s x o L p X v A i kn l0 l1 l2 n0 n1 n2 col' v' Y) (hA : lvl L o p = A) (hL : L.Pairwise (ltR o)) (hp : p.length ≤ 2) (hi : i < A.length) : Y.length + (under L o (p ++ [A.getD i 0])).length ≤ (under L o p).length := by
  have h1 := h.y.length_eq
  rw [List.length_map] at h1
  have h2 := (under_split hL hp).length_eq
  rw [hA] at h2
  have e : A.take (i + 1) = A.take i ++ [A.getD i 0] := take_snoc (by rw [List.getD_eq_getElem?_getD, List.getElem?_eq_getElem hi]; rfl)
  have h3 : ((A.take (i + 1)).flatMap fun a => under L o (p ++ [a])).length ≤ (A.flatMap fun a => under L o (p ++ [a])).length := by
    have h4 : A.flatMap (fun a => under L o (p ++ [a])) = (A.take (i + 1)).flatMap (fun a => under L o (p ++ [a])) ++ (A.drop (i + 1)).flatMap (fun a => under L o (p ++ [a])) := by
      rw [← List.flatMap_append, List.take_append_drop]
    rw [h4, List.length_append]
    omega
  rw [e, List.flatMap_append, List.length_append, List.flatMap_singleton] at h3
  omega
theorem LK.step (h : LK w0 base g ob w wx k s x o L p X v A i kn l0 l1 l2 n0 n1 n2 col' v' Y) (ho : Six o) (hL : L.Pairwise (ltR o)) (hA : lvl L o p = A) (hp : p.length ≤ 2) (hbw : base ≤ w.heap.size) (hgo : g < base ∧ ob < base) (hv : ∀ j, v.ownBlock = some j → j < w.heap.size) (hi : i < A.length) (hmx : A.getD i 0 < 9223372036854775807) (hb : Below wx.heap.size wx w1) {e : Ending}
    (hpost : BelPost w0 base g ob (w1.setCell ⟨w.heap.size + 1, o.at p.length, none⟩ (.int .i64 (A.getD i 0))) ((SW.far { k with col := col' } wx).far w1) s x o L (p ++ [A.getD i 0]) (X ++ Y) v' e w3) (hw : WkR w4 g x o L (rNext L o ⟨p ++ [A.getD i 0], false⟩).1) (hg : w3.grownBy w4 (some g)) :
    ∃ col'' v'' Y', LK w0 base g ob w w4 k s x o L p X v A (i + 1) kn l0 l1 l2 (up3 n0 (A.getD i 0) (o.at p.length) 0) (up3 n1 (A.getD i 0) (o.at p.length) 1) (up3 n2 (A.getD i 0) (o.at p.length) 2) col'' v'' Y' := by
  obtain ⟨_, col3, v3, Y3, hk3, hy3, hl3, hc3, hv3⟩ := hpost
  have e0 : lvAt p A i = ⟨p ++ [A.getD i 0], false⟩ := by unfold lvAt; rw [if_pos hi]
  have hn := rNext_at hL hp i (by rw [hA]; exact hi) (by rw [hA]; exact hmx)
  rw [hA, e0] at hn
  rw [hn] at hw
  have h4 := hk3.walk hw hg
  have sb := hb.size
  have sx := h.sz
  have ss : (w1.setCell ⟨w.heap.size + 1, o.at p.length, none⟩ (.int .i64 (A.getD i 0))).heap.size = w1.heap.size := by simp [World.setCell]
  have s3 := hc3.size
  have s4 := hg.size
  rw [ss] at s3
  have vne : ∀ j, v'.ownBlock = some j → j < w.heap.size ∨ w.heap.size + 3 ≤ j := fun j ej => by
    rcases h.own with e3 | e3
    · rw [e3] at ej; exact Or.inl (hv j ej)
    · exact Or.inr (e3 j ej)
  have keep : ∀ B, w.heap.size ≤ B → B < w.heap.size + 3 → ∀ {ob' : Obj}, (w1.setCell ⟨w.heap.size + 1, o.at p.length, none⟩ (.int .i64 (A.getD i 0))).heap[B]? = some ob' → w4.heap[B]? = some ob' := fun B h1 h2 ob' h3 => by
    refine grown_block hg ((hc3.block B (by rw [ss]; omega) (fun e => ?_)).trans h3) (fun e => by have := Option.some.inj e; omega)
    rcases e with e | e | e
    · omega
    · omega
    · have := vne B e.symm; omega
  have old : ∀ B, B ≠ w.heap.size + 1 → B < wx.heap.size → ∀ {ob' : Obj}, wx.heap[B]? = some ob' → (w1.setCell ⟨w.heap.size + 1, o.at p.length, none⟩ (.int .i64 (A.getD i 0))).heap[B]? = some ob' := fun B h1 h2 ob' h3 => by
    rw [Below.heap_setCell _ _ _ _ h1, hb.block B h2]
    exact h3
  have hx1 : o.at p.length < 3 := (six_at ho).2 _ (by omega)
  have hbx1 : w1.heap[w.heap.size + 1]? = some (.cells #[.int .i64 n0, .int .i64 n1, .int .i64 n2] 80 (0, 0)) := (hb.block _ (by omega)).trans h.b1
  have hset := Wd.heap_set w1 (w.heap.size + 1) (o.at p.length) _ _ (.int .i64 (A.getD i 0)) hbx1
  rw [set_up n0 n1 n2 _ _ hx1] at hset
  have hlw : ∀ j, j < w.heap.size → col3 j = k.col j := fun j hj => by
    rw [hl3 j (by rw [ss]; omega), SW.far_like (SW.far { k with col := col' } wx) w1 j (by omega), SW.far_like { k with col := col' } wx j (by omega)]
    exact h.like j hj
  refine ⟨(SW.far { k with col := col3 } w3).col, v3, Y ++ Y3, ⟨by rw [← List.append_assoc]; exact h4, ?_, fun j hj => ?_, ?_, ?_, keep _ (by omega) (by omega) (old _ (by omega) (by omega) h.b0), keep _ (by omega) (by omega) hset, keep _ (by omega) (by omega) (old _ (by omega) (by omega) h.b2), fun j h1 h2 => ?_, by omega⟩⟩
  · have e : A.take (i + 1) = A.take i ++ [A.getD i 0] := take_snoc (by rw [List.getD_eq_getElem?_getD, List.getElem?_eq_getElem hi]; rfl)
    rw [e, List.flatMap_append, List.map_append, List.flatMap_singleton]
    exact h.y.append hy3
  · rw [SW.far_like { k with col := col3 } w3 j (by omega)]
    exact hlw j hj
  · refine (((h.chg.trans (Chg.of_below (fun _ => False) hb) (fun _ _ e => e.elim)).trans (Chg.of_grown (Wd.grown_set w1 (w.heap.size + 1) (o.at p.length) (.int .i64 (A.getD i 0)))) (fun j hj e => by omega)).trans hc3 (fun j hj e => ?_)).trans (Chg.of_grown hg) (fun j _ e => Or.inl e)
    rcases e with e | e | e
    · exact Or.inl e
    · exact Or.inr (Or.inl e)
    · rcases h.own with e3 | e3
      · rw [e3] at e; exact Or.inr (Or.inr e)
      · have := e3 j e.symm; omega
  · rcases hv3 with e | e
    · rw [e]
      exact h.own
    · refine Or.inr fun j hj => ?_
      have := e j hj
      rw [ss] at this
      omega
  · rw [sel_up n0 n1 n2 _ _ _ hx1 ((six_at ho).2 j (by omega)), if_neg (fun e => by have := six_inj ho p.length j (by omega) (by omega) e; omega)]
    exact h.row j h1 h2
theorem LK.done (h : LK w0 base g ob w wx k s x o L p X v A i kn l0 l1 l2 n0 n1 n2 col' v' Y) (hi : A.length ≤ i) (hA : lvl L o p = A) (hL : L.Pairwise (ltR o)) (hp : p.length ≤ 2) (hb : Below wx.heap.size wx w1) (hw : WkR w3 g x o L ⟨p, false⟩) (hg : w1.grownBy w3 (some g)) : BelPost w0 base g ob w k s x o L p X v (.returned (.tuple #[])) w3 := by
  have h1 := (h.bk.below hb).walk hw hg
  have sb := hb.size
  have sx := h.sz
  refine ⟨⟨_, rfl⟩, _, v', Y, h1, ?_, fun j hj => ?_, (h.chg.trans (Chg.of_below (fun _ => False) hb) (fun _ _ e => e.elim)).trans (Chg.of_grown hg) (fun j _ e => Or.inl e), ?_⟩
  · refine h.y.trans (List.Perm.map _ ?_)
    rw [List.take_of_length_le hi, ← hA]
    exact under_split hL hp
  · show ((SW.far { k with col := col' } wx).far w1).col j = k.col j
    rw [SW.far_like (SW.far { k with col := col' } wx) w1 j (by omega), SW.far_like { k with col := col' } wx j (by omega)]
    exact h.like j hj
  · exact h.own.imp id (fun e j hj => by have := e j hj; omega)
end
theorem bel_next {w0 base g ob : Nat} {w w6 : World} {k : SW} {s : SS} {x : IX} {o : Ord} {L : List R3} {p : List Int} {X : List Tri} {v : Value} {e : Ending} (h : BelPost w0 base g ob w k s x o L p X v e w6) :
    Calls Tryz.prog 69 #[.pointer (some ⟨g, 0, none⟩)] w6 fun e w' => ∃ n, e = .returned (.int .i64 n) ∧ WkR w' g x o L (rNext L o ⟨p, false⟩).1 ∧ w6.grownBy w' (some g) := by
  obtain ⟨_, col', v', Y, h1, _⟩ := h
  exact (wr_next h1.wk).mono fun e w' ⟨a, b, c⟩ => ⟨_, a, b, c⟩
theorem like_snoc {ws : List ByteArray} {o : Ord} {p : List Int} {kn : Nat} {like : Nat → ByteArray} {c : Int} (h : LikeOk ws o p kn like) (hk : kn ≤ p.length) : LikeOk ws o (p ++ [c]) kn like :=
  ⟨by rw [List.length_append]; omega, h.no, fun j hj => by rw [getD_snoc p c j (by omega)]; exact h.yes j hj⟩
theorem row_snoc {o : Ord} {p : List Int} {kn q d : Nat} {m0 m1 m2 c : Int} (ho : Six o) (hp : p.length ≤ 2) (hq : o.at d = q) (hr : ∀ j, kn ≤ j → j < p.length → sel m0 m1 m2 (o.at j) = p.getD j 0) (hd : p.length = d) {j : Nat} (h1 : kn ≤ j) (h2 : j < d + 1) : sel (up3 m0 c q 0) (up3 m1 c q 1) (up3 m2 c q 2) (o.at j) = (p ++ [c]).getD j 0 := by
  have hq3 : q < 3 := by rw [← hq]; exact (six_at ho).2 d (by omega)
  rw [sel_up m0 m1 m2 c q _ hq3 ((six_at ho).2 j (by omega))]
  by_cases e : j < d
  · rw [if_neg (fun e2 => by have := six_inj ho d j (by omega) (by omega) (hq.trans e2); omega), getD_snoc p c j (by omega)]
    exact hr j h1 (by omega)
  · have ej : j = d := by omega
    rw [ej, hq, if_pos rfl, ← hd, getD_last]
set_option maxRecDepth 100000 in
set_option maxHeartbeats 3200000 in
theorem belC_step {w0 base g ob : Nat} {s : SS} {x : IX} {o : Ord} {L : List R3} {kn : Nat} {l0 l1 l2 : ByteArray} {d : Nat} (ho : Six o) (hL : L.Pairwise (ltR o)) (hR : RowsOk s.ws L) (hd : d ≤ 2) (hkd : kn ≤ d) (IH : BelC w0 base g ob s x o L kn l0 l1 l2 (d + 1)) : BelC w0 base g ob s x o L kn l0 l1 l2 d := by
  intro w k p X v n0 n1 n2 hp h hu hl hr hX
  have H := Lib.hid h
  have HP := Lib.hid (And.intro hp (And.intro hu (And.intro hl (And.intro hr hX))))
  have HI := Lib.hid IH
  have d3 : ¬ (d : Int) = 3 := by omega
  have d3b : ((d : Int) == 3) = false := by simpa using d3
  have WO := Lib.hid (fun (W : World) (hW : Below w.heap.size w W) => wr_open (h.below hW).wk)
  by_cases hl0 : L.length = 0
  · have WO2 := Lib.hid (fun (W : World) (hW : Below w.heap.size w W) => by
      have h1 := WO.out W hW
      rw [rOpen_nil o p hl0] at h1
      exact h1)
    have HE := Lib.hid hl0
    clear h hp hu hl hr hX IH hl0 WO d3
    go_enter Tryz.func45, Tryz.ntmps45
    go_wp2_with (go_at_call 42; refine (WO2.out _ ((((Below.refl _ w).alloc (Nat.le_refl _) _).alloc (by simp) _).alloc (by simp <;> omega) _)).mono ?_; rintro e w1 ⟨rfl, hw1, _, hg1⟩; have W1 := Lib.hid (And.intro hw1 hg1); clear hw1 hg1)
    exact bodyPost_end (v := .tuple #[]) (by simp [results, Tryz.results45, go_sem]) rfl (below_nil_end H.out ((((Below.refl _ w).alloc (Nat.le_refl _) _).alloc (by simp) _).alloc (by simp <;> omega) _) W1.out.1 W1.out.2 HE.out)
  · have WO2 := Lib.hid (fun (W : World) (hW : Below w.heap.size w W) => by
      have h1 := WO.out W hW
      rw [rOpen_some o p hl0 (by omega)] at h1
      exact h1)
    clear h hp hu hl hr hX IH hl0 WO d3
    go_enter Tryz.func45, Tryz.ntmps45
    go_wp2_with (go_at_call 42; refine (WO2.out _ ((((Below.refl _ w).alloc (Nat.le_refl _) _).alloc (by simp) _).alloc (by simp <;> omega) _)).mono ?_; rintro e w1 ⟨rfl, hw1, hpos, hg1⟩; have W1 := Lib.hid (And.intro hw1 (And.intro (hpos rfl) hg1)); clear hw1 hg1 hpos)
    have BX := Lib.hid (boxes3 w (.int .i64 o.x) (.int .i64 o.y) (.int .i64 o.z) (.int .i64 n0) (.int .i64 n1) (.int .i64 n2) (.string l0) (.string l1) (.string l2) 80 80 74 _ rfl)
    obtain ⟨A, hA⟩ : ∃ A, lvl L o p = A := ⟨_, rfl⟩
    rw [hA] at W1
    obtain ⟨na, hna⟩ : ∃ na, A.length = na := ⟨_, rfl⟩
    have HA := Lib.hid (And.intro hA hna)
    have HAM := Lib.hid (fun (i : Nat) (hi : i < A.length) => numA hL hR (by have := HP.out.1; omega) hA i hi)
    have HBW := Lib.hid (And.intro H.out.lt.2.2.2 (And.intro H.out.lt.1 H.out.lt.2.1))
    have HVL := Lib.hid (fun (j : Nat) (e : v.ownBlock = some j) => H.out.own.lt_ j e)
    clear hA hna
    go_loopg [16] (na + 2) (fun g' s16 wx => ∃ (i : Nat) (m0 m1 m2 : Int) (col' : Nat → Nat) (v' : Value) (Y : List Tri), i ≤ na ∧ na - i < g' ∧ Hid (LK w0 base g ob w wx k s x o L p X v A i kn l0 l1 l2 m0 m1 m2 col' v' Y))
    case atStart => exact ⟨0, n0, n1, n2, _, _, _, by omega, by omega, Lib.hid (LK.start H.out BX.out.1 BX.out.2.2.2.2 BX.out.2.1 BX.out.2.2.1 BX.out.2.2.2.1 HA.out.1 W1.out.2.1 W1.out.1 W1.out.2.2 (by rw [HP.out.1]; exact HP.out.2.2.2.1))⟩
    case round =>
      obtain ⟨i, m0, m1, m2, col', v', Y, hi, hgi, HK⟩ := hrel
      by_cases hin : i < na
      · have hia := Lib.hid (show i < A.length by rw [HA.out.2]; exact hin)
        obtain ⟨c, hc⟩ : ∃ c, A.getD i 0 = c := ⟨_, rfl⟩
        have HC := Lib.hid hc
        have NC := HAM.out i hia.out
        rw [hc] at NC
        have HNC := Lib.hid NC
        have KO := Lib.hid (show Calls _ _ _ _ _ from wr_key HK.out.bk.wk)
        rw [show lvAt p A i = ⟨p ++ [A.getD i 0], false⟩ by unfold lvAt; rw [if_pos hia.out], rKey_at, hc] at KO
        have WD := Lib.hid (fun (W : World) (hW : Below wr.heap.size wr W) => (show Calls Tryz.prog 68 #[.pointer (some ⟨k.pd, 0, none⟩), .int .i64 c] W fun e w' => e = .returned (.tuple #[.string (wd s.ws c), .int .i64 0]) ∧ w' = W from word_num' (HK.out.bk.sto.below hW) HNC.out.1))
        have DP := Lib.hid (fun (W : World) (hW : Below wr.heap.size wr W) => (show W.cell? ⟨k.p, 2, none⟩ = some (.pointer (some ⟨k.pd, 0, none⟩)) from (HK.out.bk.sto.below hW).cells.2.2.1))
        obtain ⟨q, hq⟩ : ∃ q, o.at d = q := ⟨_, rfl⟩
        have hq3 : q < 3 := by rw [← hq]; exact (six_at ho).2 d (by omega)
        have HQ := Lib.hid hq
        have cb0 := int_cell HK.out.b0 d (by omega)
        rw [sel_nat o.x o.y o.z d] at cb0
        have cb0' : wr.cell? ⟨w.heap.size, d, none⟩ = some (.int .i64 (q : Int)) := by rw [← hq]; exact cb0
        have cb2 := str_cell HK.out.b2 q hq3
        rw [show sel l0 l1 l2 q = ByteArray.empty by rw [← hq]; exact HP.out.2.2.1.no d (by omega) (by omega)] at cb2
        have cb1 := int_cell HK.out.b1 q hq3
        have cf1 := heap_free HK.out.b1 q
        have QB := Lib.hid (And.intro cb0' (And.intro cb2 (And.intro cb1 cf1)))
        have HSZ := Lib.hid HK.out.sz
        have q3i : (q : Int) < 3 := by omega
        have q0i : 0 ≤ (q : Int) := by omega
        clear hc NC hq cb0 cb0' cb2 cb1 cf1
        go_upto_region 18 with (first | (go_at_call 44; refine KO.out.mono ?_; rintro e w1 ⟨rfl, hb1⟩; have B1 := Lib.hid hb1; have x0 := (hb1.cell (p := ⟨w.heap.size, d, none⟩) (Nat.lt_of_lt_of_le (Nat.lt_add_of_pos_right (by omega)) HSZ.out)).trans QB.out.1; have x1 := (hb1.cell (p := ⟨w.heap.size + 1 + 1, q, none⟩) (Nat.lt_of_lt_of_le (Nat.lt_succ_self (w.heap.size + 2)) HSZ.out)).trans QB.out.2.1; have x2 := (hb1.cell (p := ⟨w.heap.size + 1, q, none⟩) (Nat.lt_of_lt_of_le (Nat.add_lt_add_left (by omega) w.heap.size) HSZ.out)).trans QB.out.2.2.1; have x3 := (hb1.frozen (p := ⟨w.heap.size + 1, q, none⟩) (Nat.lt_of_lt_of_le (Nat.add_lt_add_left (by omega) w.heap.size) HSZ.out)).trans QB.out.2.2.2; have x4 := DP.out _ hb1; clear hb1) | (go_at_call 68; refine (WD.out _ B1.out).mono ?_; rintro e w2 ⟨rfl, rfl⟩))
        have HU := Lib.hid (HAM.out i hia.out)
        have BC := Lib.hid (HK.out.call HBW.out.1 HVL.out hia.out B1.out q (.int .i64 c))
        have bb0 := (B1.out.block w.heap.size (Nat.lt_of_lt_of_le (Nat.lt_add_of_pos_right (by omega)) HSZ.out)).trans HK.out.b0
        have bb2 := (B1.out.block (w.heap.size + 1 + 1) (Nat.lt_of_lt_of_le (Nat.lt_succ_self (w.heap.size + 2)) HSZ.out)).trans HK.out.b2
        have bb1 := (B1.out.block (w.heap.size + 1) (Nat.lt_of_lt_of_le (Nat.add_lt_add_left (by omega) w.heap.size) HSZ.out)).trans HK.out.b1
        have ss1 := Wd.heap_set w2 (w.heap.size + 1) q _ _ (.int .i64 c) bb1
        rw [set_up m0 m1 m2 c q hq3] at ss1
        have ss0 : (w2.setCell ⟨w.heap.size + 1, q, none⟩ (.int .i64 c)).heap[w.heap.size]? = some (.cells #[.int .i64 o.x, .int .i64 o.y, .int .i64 o.z] 80 (0, 0)) := by rw [Below.heap_setCell _ _ _ _ (by simp)]; exact bb0
        have ss2 : (w2.setCell ⟨w.heap.size + 1, q, none⟩ (.int .i64 c)).heap[w.heap.size + 1 + 1]? = some (.cells #[.string l0, .string l1, .string l2] 74 (0, 0)) := by rw [Below.heap_setCell _ _ _ _ (by simp)]; exact bb2
        have IC := HI.out _ _ (p ++ [c]) (X ++ Y) v' (up3 m0 c q 0) (up3 m1 c q 1) (up3 m2 c q 2) (by rw [List.length_append, HP.out.1]; rfl) (by have := BC.out; rw [HC.out] at this; exact this) (fun _ => by have := HU.out.2.2; rw [HC.out] at this; exact this) (like_snoc HP.out.2.2.1 (by rw [HP.out.1]; exact hkd)) (fun j h1 h2 => row_snoc ho (by rw [HP.out.1]; omega) HQ.out HK.out.row HP.out.1 h1 h2) (by
          have h1 := HK.out.len HA.out.1 hL (by rw [HP.out.1]; exact hd) hia.out
          have h2 := HP.out.2.2.2.2
          rw [HC.out] at h1
          rw [List.length_append]
          omega)
        generalize hw5 : w2.setCell ⟨w.heap.size + 1, q, none⟩ (.int .i64 c) = w5 at *
        have ICS : Calls Tryz.prog 45 #[.pointer (some ⟨k.p, 0, none⟩), .pointer (some ⟨g, 0, none⟩), .agg #[.int .i64 o.x, .int .i64 o.y, .int .i64 o.z], .int .i64 ((d : Int) + 1), .agg #[.int .i64 (up3 m0 c q 0), .int .i64 (up3 m1 c q 1), .int .i64 (up3 m2 c q 2)], .agg #[.string l0, .string l1, .string l2], .pointer (some ⟨ob, 0, none⟩)] w5 _ := IC
        have HIC := Lib.hid ICS
        have cc0 := int_cell ss0 0 (by omega)
        have cc1 := int_cell ss0 1 (by omega)
        have cc2 := int_cell ss0 2 (by omega)
        have cd0 := int_cell ss1 0 (by omega)
        have cd1 := int_cell ss1 1 (by omega)
        have cd2 := int_cell ss1 2 (by omega)
        have ce0 := str_cell ss2 0 (by omega)
        have ce1 := str_cell ss2 1 (by omega)
        have ce2 := str_cell ss2 2 (by omega)
        rw [show sel (o.x : Int) o.y o.z 0 = (o.x : Int) from rfl] at cc0
        rw [show sel (o.x : Int) o.y o.z 1 = (o.y : Int) from rfl] at cc1
        rw [show sel (o.x : Int) o.y o.z 2 = (o.z : Int) from rfl] at cc2
        rw [show sel (up3 m0 c q 0) (up3 m1 c q 1) (up3 m2 c q 2) 0 = up3 m0 c q 0 from rfl] at cd0
        rw [show sel (up3 m0 c q 0) (up3 m1 c q 1) (up3 m2 c q 2) 1 = up3 m1 c q 1 from rfl] at cd1
        rw [show sel (up3 m0 c q 0) (up3 m1 c q 1) (up3 m2 c q 2) 2 = up3 m2 c q 2 from rfl] at cd2
        rw [show sel l0 l1 l2 0 = l0 from rfl] at ce0
        rw [show sel l0 l1 l2 1 = l1 from rfl] at ce1
        rw [show sel l0 l1 l2 2 = l2 from rfl] at ce2
        have HW5 := Lib.hid hw5
        have dw : wrap64 ((d : Int) + 1) = d + 1 := IntWalk.wrap64_in _ (by omega)
        clear IC ICS ss0 ss1 ss2 bb0 bb1 bb2 hw5
        go_wp2_with (first | (go_at_call 45; refine HIC.out.mono ?_; rintro e w6 hpost; obtain ⟨⟨u, rfl⟩, _⟩ := id hpost; have P6 := Lib.hid hpost; have NX := Lib.hid (bel_next hpost); clear hpost) | (go_at_call 69; refine NX.out.mono ?_; rintro e w7 ⟨nn, rfl, hw7, hg7⟩; have P7 := Lib.hid (And.intro hw7 hg7); clear hw7 hg7))
        have st := HK.out.step (e := .returned u) (w3 := w6) (w4 := w7) ho hL HA.out.1 (by rw [HP.out.1]; exact hd) HBW.out.1 HBW.out.2 HVL.out hia.out HU.out.2.1 B1.out (by rw [HP.out.1, HQ.out, HC.out, HW5.out]; exact P6.out) (by rw [HC.out]; exact P7.out.1) P7.out.2
        rw [HP.out.1, HQ.out, HC.out] at st
        obtain ⟨col3, v3, Y3, hst⟩ := st
        have HST := Lib.hid hst
        clear hst
        go_roundg (na - i)
        case measure => omega
        case rel => exact ⟨i + 1, _, _, _, _, _, _, by omega, by omega, HST⟩
      · have hia := Lib.hid (show A.length ≤ i by rw [HA.out.2]; omega)
        have KO := Lib.hid (show Calls _ _ _ _ _ from wr_key HK.out.bk.wk)
        rw [show lvAt p A i = ⟨p ++ [A.getD (A.length - 1) 0], true⟩ by unfold lvAt; rw [if_neg (by have := hia.out; omega)], rKey_beh] at KO
        have UP := Lib.hid (fun (W : World) (hW : Below wr.heap.size wr W) => wr_up (HK.out.bk.below hW).wk)
        rw [show lvAt p A i = ⟨p ++ [A.getD (A.length - 1) 0], true⟩ by unfold lvAt; rw [if_neg (by have := hia.out; omega)], rUp_at] at UP
        go_wp2_with (first | (go_at_call 44; refine KO.out.mono ?_; rintro e w1 ⟨rfl, hb1⟩; have B1 := Lib.hid hb1; clear hb1) | (go_at_call 70; refine (UP.out _ B1.out).mono ?_; rintro e w2 ⟨rfl, hw2, hg2⟩; have U2 := Lib.hid (And.intro hw2 hg2); clear hw2 hg2))
        exact bodyPost_end (v := .tuple #[]) (by simp [results, Tryz.results45, go_sem]) rfl (HK.out.done hia.out HA.out.1 hL (by rw [HP.out.1]; exact hd) B1.out U2.out.1 U2.out.2)
/-- below, from where a path ends. -/
theorem belC_all {w0 base g ob : Nat} {s : SS} {x : IX} {o : Ord} {L : List R3} {kn : Nat} {l0 l1 l2 : ByteArray} (ho : Six o) (hL : L.Pairwise (ltR o)) (hR : RowsOk s.ws L) (hk : kn ≤ 3) : BelC w0 base g ob s x o L kn l0 l1 l2 kn := by
  have h3 : BelC w0 base g ob s x o L kn l0 l1 l2 3 := belC_three ho hL hR
  have : kn = 3 ∨ kn = 2 ∨ kn = 1 ∨ kn = 0 := by omega
  rcases this with rfl | rfl | rfl | rfl
  · exact h3
  · exact belC_step ho hL hR (by omega) (by omega) h3
  · exact belC_step ho hL hR (by omega) (by omega) (belC_step ho hL hR (by omega) (by omega) h3)
  · exact belC_step ho hL hR (by omega) (by omega) (belC_step ho hL hR (by omega) (by omega) (belC_step ho hL hR (by omega) (by omega) h3))
end Go.Proofs.YtcnffgcegimelaaGreat.So
