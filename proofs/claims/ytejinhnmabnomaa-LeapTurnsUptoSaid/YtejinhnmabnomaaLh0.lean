/-
  LeapTurns, in plain words: relations in another order, turned about, pairs twice. Conditions: as each says.
-/
import Derived.Test.YtejinhnmabnomaaLg8
namespace Go.Proofs.Ytejinhnmabnomaa.Lf
open Go.RowKit Go.Proofs.YtejinhnmabnomaaW.PrintWords Go.Proofs.Ytejinhnmabnomaa.Pm Go.Proofs.Ytejinhnmabnomaa.Pw

theorem rot_onto (n r j : Nat) (hj : j < n) : ∃ i, i < n ∧ (i + r) % n = j := by
  refine ⟨(j + (n - r % n)) % n, Nat.mod_lt _ (by omega), ?_⟩
  rw [Nat.mod_add_mod]
  have h1 := Nat.mod_lt r (show n > 0 by omega)
  have h2 := Nat.div_add_mod r n
  have e : j + (n - r % n) + r = j + n * (r / n + 1) := by rw [Nat.mul_add, Nat.mul_one]; omega
  rw [e, Nat.add_mul_mod_self_left, Nat.mod_eq_of_lt hj]
def swapP (p : Int × Int) : Int × Int := (p.2, p.1)
/-- Pairs, each turned about, from a place on, so many. -/
def turnRows (rows : List (Int × Int)) (r k : Nat) : List (Int × Int) := (List.range k).map fun i => swapP (rows.getD ((i + r) % rows.length) (0, 0))
theorem turnRows_len (rows : List (Int × Int)) (r k : Nat) : (turnRows rows r k).length = k := by simp [turnRows]
theorem turnRows_next (rows : List (Int × Int)) (r k : Nat) : turnRows rows r (k + 1) = turnRows rows r k ++ [swapP (rows.getD ((k + r) % rows.length) (0, 0))] := by
  unfold turnRows
  rw [List.range_succ, List.map_append]
  rfl
theorem turnRows_mem (rows : List (Int × Int)) (r : Nat) (p : Int × Int) : p ∈ turnRows rows r (2 * rows.length) ↔ swapP p ∈ rows := by
  unfold turnRows
  rw [List.mem_map]
  constructor
  · rintro ⟨i, hi, rfl⟩
    have hm := List.mem_range.1 hi
    have hlt : (i + r) % rows.length < rows.length := Nat.mod_lt _ (by omega)
    rw [getD_lt _ _ hlt]
    exact List.getElem_mem _
  · intro h
    obtain ⟨j, hj, e⟩ := List.getElem_of_mem h
    obtain ⟨i, hi, hij⟩ := rot_onto rows.length r j hj
    refine ⟨i, List.mem_range.2 (by omega), ?_⟩
    rw [hij, getD_lt _ _ hj, e]
    rfl
/-- Relations in another order, turned about. -/
structure IsOth (rels os : List RelV) (r1 r2 n : Nat) : Prop where
  len : os.length = n
  at_ : ∀ i, i < n → ∃ x, rels.getD ((i + r1) % rels.length) default = x ∧ (os.getD i default).A = x.B ∧ (os.getD i default).B = x.A ∧ (os.getD i default).rows = turnRows x.rows r2 (2 * x.rows.length)
theorem IsOth.nil (rels : List RelV) (r1 r2 : Nat) : IsOth rels [] r1 r2 0 := ⟨rfl, fun i hi => absurd hi (by omega)⟩
theorem IsOth.next {rels os : List RelV} {r1 r2 n : Nat} (h : IsOth rels os r1 r2 n) {x : RelV} (hx : rels.getD ((n + r1) % rels.length) default = x) (v : Value) : IsOth rels (os ++ [⟨x.B, x.A, v, turnRows x.rows r2 (2 * x.rows.length)⟩]) r1 r2 (n + 1) := by
  refine ⟨by simp [h.len], fun i hi => ?_⟩
  by_cases e : i < n
  · rw [List.getD_eq_getElem?_getD (l := os ++ _), List.getElem?_append_left (by rw [h.len]; exact e), ← List.getD_eq_getElem?_getD]
    exact h.at_ i e
  · have ei : i = n := by omega
    subst ei
    rw [List.getD_eq_getElem?_getD (l := os ++ _), List.getElem?_append_right (by rw [h.len]; exact Nat.le_refl _), h.len, Nat.sub_self]
    exact ⟨x, hx, rfl, rfl, rfl⟩
section
variable {rels os : List RelV} {r1 r2 : Nat}
theorem IsOth.of_rel (h : IsOth rels os r1 r2 rels.length) {r : RelV} (hr : r ∈ rels) : ∃ o ∈ os, o.A = r.B ∧ o.B = r.A ∧ o.rows = turnRows r.rows r2 (2 * r.rows.length) := by
  obtain ⟨j, hj, e⟩ := List.getElem_of_mem hr
  obtain ⟨i, hi, hij⟩ := rot_onto rels.length r1 j hj
  obtain ⟨x, hx, h1, h2, h3⟩ := h.at_ i hi
  rw [hij, getD_lt _ _ hj, e] at hx
  subst hx
  refine ⟨os.getD i default, ?_, h1, h2, h3⟩
  rw [getD_lt _ _ (by rw [h.len]; exact hi)]
  exact List.getElem_mem _
theorem IsOth.of_oth (h : IsOth rels os r1 r2 rels.length) {o : RelV} (ho : o ∈ os) : ∃ r ∈ rels, o.A = r.B ∧ o.B = r.A ∧ o.rows = turnRows r.rows r2 (2 * r.rows.length) := by
  obtain ⟨i, hi, e⟩ := List.getElem_of_mem ho
  rw [h.len] at hi
  obtain ⟨x, hx, h1, h2, h3⟩ := h.at_ i hi
  rw [getD_lt os default (by rw [h.len]; exact hi), e] at h1 h2 h3
  have hlt : (i + r1) % rels.length < rels.length := Nat.mod_lt _ (by omega)
  rw [getD_lt _ _ hlt] at hx
  exact ⟨x, hx ▸ List.getElem_mem _, h1, h2, h3⟩
theorem IsOth.sat (h : IsOth rels os r1 r2 rels.length) (f : Nat → Int) : Sat (relN os) f ↔ Sat (relN rels) f := by
  constructor
  · intro hs q hq
    obtain ⟨r, hr, rfl⟩ := List.mem_map.1 hq
    obtain ⟨o, ho, h1, h2, h3⟩ := h.of_rel hr
    have := hs (rlOf o) (List.mem_map.2 ⟨o, ho, rfl⟩)
    unfold rlOf at this ⊢
    rw [h1, h2, h3] at this
    exact (turnRows_mem _ _ _).1 this
  · intro hs q hq
    obtain ⟨o, ho, rfl⟩ := List.mem_map.1 hq
    obtain ⟨r, hr, h1, h2, h3⟩ := h.of_oth ho
    have := hs (rlOf r) (List.mem_map.2 ⟨r, hr, rfl⟩)
    unfold rlOf at this ⊢
    rw [h1, h2, h3]
    exact (turnRows_mem _ _ _).2 this
theorem IsOth.may (h : IsOth rels os r1 r2 rels.length) {vars most : Int} {keep : List Int} : MayP vars keep os most ↔ MayP vars keep rels most := by
  constructor
  · intro m
    refine ⟨m.v1, m.v16, m.m0, m.m1, m.ne, m.nd, m.kr, fun r hr => ?_, fun v h0 h1 => ?_⟩
    · obtain ⟨o, ho, h1, h2, _⟩ := h.of_rel hr
      have := m.rr o ho
      rw [h1, h2] at this
      omega
    · obtain ⟨o, ho, hv⟩ := m.all v h0 h1
      obtain ⟨r, hr, h1, h2, _⟩ := h.of_oth ho
      rw [h1, h2] at hv
      exact ⟨r, hr, hv.symm⟩
  · intro m
    refine ⟨m.v1, m.v16, m.m0, m.m1, m.ne, m.nd, m.kr, fun o ho => ?_, fun v h0 h1 => ?_⟩
    · obtain ⟨r, hr, h1, h2, _⟩ := h.of_oth ho
      have := m.rr r hr
      rw [h1, h2]
      omega
    · obtain ⟨r, hr, hv⟩ := m.all v h0 h1
      obtain ⟨o, ho, h1, h2, _⟩ := h.of_rel hr
      refine ⟨o, ho, ?_⟩
      rw [h1, h2]
      exact hv.symm
theorem IsOth.ans (h : IsOth rels os r1 r2 rels.length) {vars most : Int} {keep : List Int} : jAns vars keep os most = jAns vars keep rels most := by
  unfold jAns
  by_cases hp : MayP vars keep rels most
  · have hp2 := h.may.2 hp
    have e : joinL keep os = joinL keep rels := by
      refine IsJoin.uniq (rels := relN rels) (keep := keepN keep) ?_ (joinL_is hp)
      have hj := joinL_is hp2
      exact ⟨hj.rise, fun row => (hj.mem row).trans ⟨fun ⟨f, hf, e⟩ => ⟨f, (h.sat f).1 hf, e⟩, fun ⟨f, hf, e⟩ => ⟨f, (h.sat f).2 hf, e⟩⟩⟩
    rw [if_pos hp, if_pos hp2, e]
  · rw [if_neg hp, if_neg (fun m => hp (h.may.1 m))]
end
/-! ### Memory on the way -/
/-- A relation whose pairs lie as told. -/
structure RelS where
  A : Int
  B : Int
  z : SV
  rows : List (Int × Int)
def RelS.toV (o : RelS) : RelV := ⟨o.A, o.B, o.z.val, o.rows⟩
def encRS (o : RelS) : List Value := [.int .i64 o.A, .int .i64 o.B, .slice o.z.A o.z.n o.z.c]
theorem encRS_one (o : RelS) : ∀ u ∈ encRS o, u.oneCell' = true := by intro u hu; simp [encRS] at hu; rcases hu with rfl | rfl | rfl <;> rfl
theorem sl_toV {w : World} {v : Value} {os : List RelS} (h : G.SlL w encRS v os) : G.SlL w encR v (os.map RelS.toV) := by
  obtain ⟨A, c, hv, hc, hn, hr⟩ := h
  have e : (os.map RelS.toV).flatMap encR = os.flatMap encRS := by rw [List.flatMap_map]; rfl
  refine ⟨A, c, by rw [List.length_map]; exact hv, by rw [List.length_map]; exact hc, hn, fun hx => ?_⟩
  rw [e]
  exact hr (fun e2 => hx (by rw [e2]; rfl))
/-- Where a slice lies. -/
def ApartV (v : Value) (u : Value) : Prop := ∀ b off n c, u = .slice (some ⟨b, off, none⟩) n c → v.ownBlock ≠ some b
/-- The other relations, as a row that the call owns. -/
structure Ot (W0 W : World) (v : Value) (os : List RelS) : Prop where
  own : G.OwnL W W0.heap.size 35 3 encRS v os
  inn : ∀ o ∈ os, G.SlL W enc2 o.z.val o.rows
  ap : ∀ o ∈ os, ApartV v o.z.val
  lt : ∀ o ∈ os, ∀ b off n c, o.z.val = .slice (some ⟨b, off, none⟩) n c → b < W.heap.size
  below : BelS W0 W
theorem ot_nil (W0 : World) : Ot W0 W0 (.slice none 0 0) [] := ⟨G.OwnL.nil _ _ _ _ _, fun o ho => absurd ho (by simp), fun o ho => absurd ho (by simp), fun o ho => absurd ho (by simp), BelS.refl _⟩
theorem Ot.more {W0 W W' : World} {v : Value} {os : List RelS} (h : Ot W0 W v os) (hb : BelS W W') : Ot W0 W' v os :=
  ⟨h.own.below hb, fun o ho => (h.inn o ho).below hb, h.ap, fun o ho b off n c e => Nat.lt_of_lt_of_le (h.lt o ho b off n c e) hb.size, h.below.then hb⟩
/-- One relation more. -/
theorem Ot.app {W0 W W1 : World} {v v1 : Value} {os : List RelS} (h : Ot W0 W v os) {o : RelS} (ho : G.SlL W enc2 o.z.val o.rows) (hap : ApartV v o.z.val) (hlt : ∀ b off n c, o.z.val = .slice (some ⟨b, off, none⟩) n c → b < W.heap.size)
    (hw : G.OwnL W1 W0.heap.size 35 3 encRS v1 (os ++ [o])) (hg : W.grownBy W1 v.ownBlock) (hv : v1.ownBlock = v.ownBlock ∨ ∃ b, v1.ownBlock = some b ∧ W.heap.size ≤ b) : Ot W0 W1 v1 (os ++ [o]) := by
  have hn : ∀ u : Value, ApartV v u → (∀ b off n c, u = .slice (some ⟨b, off, none⟩) n c → b < W.heap.size) → ApartV v1 u := fun u h1 h2 b off n c e => by
    rcases hv with e1 | ⟨g, e1, hg⟩
    · rw [e1]; exact h1 b off n c e
    · rw [e1]
      have := h2 b off n c e
      exact fun e2 => by have := Option.some.inj e2; omega
  have hs : ∀ q : RelS, G.SlL W enc2 q.z.val q.rows → ApartV v q.z.val → G.SlL W1 enc2 q.z.val q.rows := fun q h1 h2 => h1.grown hg (fun b off n c e => h2 b off n c e)
  refine ⟨hw, fun q hq => ?_, fun q hq => ?_, fun q hq b off n c e => ?_, h.own.next h.below h.below.size hg⟩
  · rcases List.mem_append.1 hq with hq | hq
    · exact hs q (h.inn q hq) (h.ap q hq)
    · rw [List.mem_singleton.1 hq]; exact hs o ho hap
  · rcases List.mem_append.1 hq with hq | hq
    · exact hn _ (h.ap q hq) (h.lt q hq)
    · rw [List.mem_singleton.1 hq]; exact hn _ hap hlt
  · rcases List.mem_append.1 hq with hq | hq
    · exact Nat.lt_of_lt_of_le (h.lt q hq b off n c e) hg.size
    · rw [List.mem_singleton.1 hq] at e; exact Nat.lt_of_lt_of_le (hlt b off n c e) hg.size
/-- A relation is being turned about. -/
structure It (W0 W : World) (A B : Int) (v : Value) (z : SV) (rows : List (Int × Int)) : Prop where
  below : BelS W0 W
  x : W.heap[W0.heap.size]? = some (.cells #[.int .i64 A, .int .i64 B, v] 35 (0, 0))
  y : W.heap[W0.heap.size + 1]? = some (.cells #[.int .i64 B, .int .i64 A, .slice z.A z.n z.c] 35 (0, 0))
  own : G.OwnL W (W0.heap.size + 1 + 1) 22 2 enc2 (.slice z.A z.n z.c) rows
theorem it_new (W0 : World) (A B : Int) (v : Value) : It W0 ((W0.alloc (.cells #[.int .i64 A, .int .i64 B, v] 35)).alloc (.cells #[.int .i64 B, .int .i64 A, .slice none 0 0] 35)) A B v svd [] := by
  have h1 := heap_alloc_new W0 (.cells #[.int .i64 A, .int .i64 B, v] 35)
  have hb1 := (BelS.refl W0).alloc (.cells #[.int .i64 A, .int .i64 B, v] 35)
  have hz := World.size_alloc W0 (.cells #[.int .i64 A, .int .i64 B, v] 35)
  generalize W0.alloc (.cells #[.int .i64 A, .int .i64 B, v] 35) = W1 at h1 hb1 hz ⊢
  have hb2 := (BelS.refl W1).alloc (.cells #[.int .i64 B, .int .i64 A, .slice none 0 0] 35)
  have h2 := heap_alloc_new W1 (.cells #[.int .i64 B, .int .i64 A, .slice none 0 0] 35)
  rw [hz] at h2
  exact ⟨hb1.then hb2, hb2.blk h1, h2, G.OwnL.nil _ _ _ _ _⟩
theorem It.more {W0 W W' : World} {A B : Int} {v : Value} {z : SV} {rows : List (Int × Int)} (h : It W0 W A B v z rows) (hb : BelS W W') : It W0 W' A B v z rows :=
  ⟨h.below.then hb, hb.blk h.x, hb.blk h.y, h.own.below hb⟩
/-- A pair more. -/
theorem It.app {W0 W W1 : World} {A B : Int} {v : Value} {z z1 : SV} {rows : List (Int × Int)} (h : It W0 W A B v z rows) {p : Int × Int} (ho : G.OwnL W1 (W0.heap.size + 1 + 1) 22 2 enc2 (.slice z1.A z1.n z1.c) (rows ++ [p])) (hg : W.grownBy W1 (Value.slice z.A z.n z.c).ownBlock) :
    It W0 (W1.setCell ⟨W0.heap.size + 1, 2, none⟩ (.slice z1.A z1.n z1.c)) A B v z1 (rows ++ [p]) := by
  have lx := (Array.getElem?_eq_some_iff.1 h.x).1
  have ly := (Array.getElem?_eq_some_iff.1 h.y).1
  have nx : (Value.slice z.A z.n z.c).ownBlock ≠ some W0.heap.size := fun e => by have := h.own.ge _ e; omega
  have ny : (Value.slice z.A z.n z.c).ownBlock ≠ some (W0.heap.size + 1) := fun e => by have := h.own.ge _ e; omega
  have hx1 := (hg.block _ lx (fun e => nx e.symm)).trans h.x
  have hy1 := (hg.block _ ly (fun e => ny e.symm)).trans h.y
  have hbw : BelS W0 W1 := Below.grown h.below hg h.below.size (fun j hj => by have := h.own.ge j hj; omega)
  have c := grown_set W1 (W0.heap.size + 1) 2 (.slice z1.A z1.n z1.c)
  refine ⟨hbw.setCell (by show W0.heap.size ≤ W0.heap.size + 1; omega) _, set_oth hx1 (by omega), (heap_set _ _ _ _ _ _ hy1).trans rfl, ho.kept c ?_⟩
  cases e : (Value.slice z1.A z1.n z1.c).ownBlock with
  | none => exact .inl rfl
  | some g => exact .inr (fun e2 => by have := ho.ge g e; have := Option.some.inj e2; omega)
theorem info_p2 : (Try.prog.info? 22).map (fun i => (i.zero, i.size, i.bytes)) = some (some (.agg #[.int .i64 0, .int .i64 0]), 2, 16) := by kernel_rfl
theorem info_rel : (Try.prog.info? 35).map (fun i => (i.zero, i.size, i.bytes)) = some (some (.agg #[.int .i64 0, .int .i64 0, .slice none 0 0]), 3, 40) := by kernel_rfl
theorem It.yblk {W0 W W1 : World} {A B : Int} {v : Value} {z : SV} {rows : List (Int × Int)} (h : It W0 W A B v z rows) (hg : W.grownBy W1 (Value.slice z.A z.n z.c).ownBlock) : W1.heap[W0.heap.size + 1]? = some (.cells #[.int .i64 B, .int .i64 A, .slice z.A z.n z.c] 35 (0, 0)) := by
  have ly := (Array.getElem?_eq_some_iff.1 h.y).1
  have ny : (Value.slice z.A z.n z.c).ownBlock ≠ some (W0.heap.size + 1) := fun e => by have := h.own.ge _ e; omega
  exact (hg.block _ ly (fun e => ny e.symm)).trans h.y
/-- Others are relations of the program's, and small. -/
theorem IsOth.small {rels os : List RelV} {r1 r2 n : Nat} (h : IsOth rels os r1 r2 n) (hr : 0 < rels.length) {N : Nat} (hin : ∀ r ∈ rels, (∀ p ∈ r.rows, p.1 ≤ 9223372036854775807 ∧ p.2 ≤ 9223372036854775807) ∧ r.rows.length ≤ N) : ∀ o ∈ os, (∀ p ∈ o.rows, p.1 ≤ 9223372036854775807 ∧ p.2 ≤ 9223372036854775807) ∧ o.rows.length ≤ 2 * N := by
  intro o ho
  obtain ⟨i, hi, e⟩ := List.getElem_of_mem ho
  obtain ⟨x, hx, _, _, h3⟩ := h.at_ i (by rw [← h.len]; exact hi)
  rw [getD_lt os default hi, e] at h3
  have hlt : (i + r1) % rels.length < rels.length := Nat.mod_lt _ hr
  rw [getD_lt _ _ hlt] at hx
  have hm : x ∈ rels := hx ▸ List.getElem_mem _
  obtain ⟨h1, h2⟩ := hin x hm
  rw [h3]
  refine ⟨fun p hp => ?_, by rw [turnRows_len]; omega⟩
  have := h1 _ ((turnRows_mem _ _ _).1 hp)
  exact ⟨this.2, this.1⟩
/-- A pair lies in a box. -/
def Px (W W' : World) (p : Int × Int) (s : Value) : Prop := ∃ b, s = .pointer (some ⟨b, 0, none⟩) ∧ BelS W W' ∧ W'.cell? ⟨b, 0, none⟩ = some (.int .i64 p.1) ∧ W'.cell? ⟨b, 1, none⟩ = some (.int .i64 p.2)
theorem pxA (W : World) (a b : Int) : Px W (W.alloc (.cells #[.int .i64 a, .int .i64 b] 22)) (a, b) (.pointer (some ⟨W.heap.size, 0, none⟩)) := by
  have h := heap_alloc_new W (.cells #[.int .i64 a, .int .i64 b] 22)
  exact ⟨_, rfl, (BelS.refl W).alloc _, (heap_cell h 0).trans rfl, (heap_cell h 1).trans rfl⟩
theorem Px.drew {W W' : World} {p : Int × Int} {s : Value} (h : Px W W' p s) : Px W W'.drew p s := by
  obtain ⟨b, h1, h2, h3, h4⟩ := h
  exact ⟨b, h1, h2.drew, h3, h4⟩
theorem pxB (W : World) (a b : Int) (c d : Value) : Px W ((((W.alloc (.cells #[c, d] 22)).setCell ⟨W.heap.size, 0, none⟩ (.int .i64 a))).setCell ⟨W.heap.size, 1, none⟩ (.int .i64 b)) (a, b) (.pointer (some ⟨W.heap.size, 0, none⟩)) := by
  have h := heap_alloc_new W (.cells #[c, d] 22)
  have h2 := heap_set _ _ 1 _ _ (.int .i64 b) (heap_set _ _ 0 _ _ (.int .i64 a) h)
  exact ⟨_, rfl, (((BelS.refl W).alloc _).set (Nat.le_refl _) _ _).set (Nat.le_refl _) _ _, (heap_cell h2 0).trans rfl, (heap_cell h2 1).trans rfl⟩
end Go.Proofs.Ytejinhnmabnomaa.Lf
