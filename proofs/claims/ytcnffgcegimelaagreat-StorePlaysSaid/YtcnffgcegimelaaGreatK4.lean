/-
  Joined by wip/tools/merge.py from the texts Sc0 Su0 Su1. Conditions: as each says.
-/
import Derived.Test.YtcnffgcegimelaaGreatSt2
import Derived.Test.YtcnffgcegimelaaGreatJ0
import Derived.Shelf.SlicesE.Clone
import Derived.Test.YtcnffgcegimelaaGreatK2
import Derived.Test.YtcnffgcegimelaaGreatJ5
section
/-
  slices.Clone at changes. Conditions: the batch lies as told.
-/
namespace Go.Proofs.YtcnffgcegimelaaGreat.So
open Go.RowKit Go.Shelf Go.Proofs.YtcnffgcegimelaaGreat.Mp Go.Proofs.YtcnffgcegimelaaGreat.Wd

def laysCb_ren : Go.Shelf.Ren := ⟨fun | 41 => 34 | n => n, fun | 22 => 28 | 23 => 40 | 4 => 4 | n => n, fun | n => n⟩
theorem laysCb : Go.Proofs.SlLaysE0.n41 Tryz.prog laysCb_ren := {
  mixed := by kernel_rfl
  f41 := ⟨Tryz.f34.name, by decide, Tryz.func34.trans (congrArg some (by kernel_rfl))⟩
  t4 := Tryz.underlying4
  a4 := Tryz.isAgg4
  z4 := Tryz.sizeOf4
  v4 := Tryz.zeroValue4
  t22 := Tryz.underlying28
  a22 := Tryz.isAgg28
  z22 := Tryz.sizeOf28
  v22 := Tryz.zeroValue28 }
theorem encC_len (c : Cng) : (encC c).length = 4 := rfl
theorem encC_one (c : Cng) : ∀ u ∈ encC c, u.oneCell' = true := by
  intro u hu
  simp only [encC, List.mem_cons, List.not_mem_nil, or_false] at hu
  rcases hu with rfl | rfl | rfl | rfl <;> rfl
/-- A batch's slice, read, is a batch that lies somewhere. -/
theorem lies_of {w : World} {A : Option Addr} {n cp : Nat} {l : List Cng} (h : G.SlL w encC (.slice A n cp) l) : n = l.length ∧ LiesC w A l := by
  obtain ⟨A', c', hv, _, _, hr⟩ := h
  injection hv with h1 h2 h3
  subst h1
  refine ⟨h2, fun i c hc => ?_, fun hne => ?_⟩
  · obtain ⟨b, off, rfl, _, hcl⟩ := hr (fun e => by rw [e] at hc; simp at hc)
    refine ⟨b, off, rfl, fun j u hu => ?_⟩
    have hj : j < 4 := (List.getElem?_eq_some_iff.1 hu).1
    have := hcl (i * 4 + j) u ((G.flat_getElem 4 encC encC_len l i j c hc hj).trans hu)
    rwa [show off + (i * 4 + j) = off + i * 4 + j by omega] at this
  · obtain ⟨b, off, e, hb, _⟩ := hr hne
    exact ⟨b, off, e, hb⟩
set_option maxRecDepth 100000 in
set_option maxHeartbeats 3200000 in
/-- Clone of a batch. -/
theorem clone_b {w : World} {v : Value} {l : List Cng} (h : G.SlL w encC v l) (hn : l.length ≤ 1000000) :
    Calls Tryz.prog 34 #[v] w fun e w' => ∃ v', e = .returned v' ∧ G.OwnL w' w.heap.size 40 4 encC v' l ∧ Below w.heap.size w w' := by
  obtain ⟨A, c, hv, hc, hA, hr⟩ := id h
  cases A with
  | none =>
    have hl : l = [] := List.eq_nil_of_length_eq_zero (by have := hA rfl; omega)
    subst hv
    refine (AnyE.slices_Clone_nil laysCb _ _ _).mono fun e w' ⟨h1, h2⟩ => ⟨_, h1, ?_, ?_⟩
    · rw [hl]; exact G.OwnL.nil _ _ _ _ _
    · rw [h2]; exact Below.refl _ _
  | some a =>
    have q22 : ∀ (w : World) (a : Option Addr) (n c n' c' : Nat), (binOp .eql 28 (.slice a n c) (.slice none n' c')).run Tryz.prog w = .ok (.bool a.isNone) w := fun w a n c n' c' => Lib.run_eql_slice_nil w _ _ a n c n' c' Tryz.underlying28
    have hinfo := show (Tryz.prog.info? 40).map (fun i => (i.zero, i.size, i.bytes)) = some (some (.agg #[.bool false, .string ByteArray.empty, .string ByteArray.empty, .string ByteArray.empty]), 4, 56) by kernel_rfl
    obtain ⟨n, hn0⟩ : ∃ n, l.length = n := ⟨_, rfl⟩
    rw [hn0] at hv hn
    have HI := Lib.hid hinfo
    have HN := Lib.hid hn0
    have HN2 := Lib.hid hn
    have H := Lib.hid h
    subst hv
    clear hinfo hn0 hn h hc hA hr
    go_enter Tryz.func34, Tryz.ntmps34
    go_wp2_with (at_builtin; (refine G.wp_appN rfl _ _ 28 40 rfl _ 4 56 Tryz.underlying28 HI.out rfl (by omega) (by omega) encC encC_len encC_one w.heap.size _ _ [] l rfl rfl (World.ownsRow_made w #[] 0 (Nat.le_refl _) (Nat.zero_le _) (by simp)) (H.out.below ((Below.refl _ w).alloc (Nat.le_refl _) _)) (by simp) (by have := HN.out; have := HN2.out; simp; omega) ?_); intro v1 w1 ho1 hg1 hat1; have O1 := Lib.hid (And.intro ho1 (And.intro hg1 hat1)); clear ho1 hg1 hat1)
    go_ret
    exact ⟨_, rfl, O1.out.1, ((Below.refl _ w).alloc (Nat.le_refl _) _).grown O1.out.2.1 (by simp) (fun k e => by have : w.heap.size = k := Option.some.inj e; omega)⟩
end Go.Proofs.YtcnffgcegimelaaGreat.So
end
section
/-
  A store in memory: what lies where. Conditions: as each says.
-/
namespace Go.Proofs.YtcnffgcegimelaaGreat.So
open Go.RowKit Go.Proofs.YtcnffgcegimelaaGreat.Mp Go.Proofs.YtcnffgcegimelaaGreat.Wd Go.Proofs.YtcnffgcegimelaaGreat.Pm Go.Proofs.YtcnffgcegimelaaGreat.Pw

/-- A slice value's words: its address, its length, its room. -/
structure SV where
  A : Option Addr
  n : Nat
  c : Nat
deriving Inhabited
def SV.val (z : SV) : Value := .slice z.A z.n z.c
def encS (z : SV) : List Value := [z.val]
theorem encS_len (x : SV) : (encS x).length = 1 := rfl
theorem encS_one (x : SV) : ∀ u ∈ encS x, u.oneCell' = true := by intro u hu; simp [encS] at hu; subst hu; rfl
/-- Where an index lies: its block, its rows' block, and their room. -/
structure IX where
  X : Nat
  b : Nat
  c : Nat
structure I3 where
  i0 : IX
  i1 : IX
  i2 : IX
def IX.ptr (x : IX) : Value := .pointer (some ⟨x.X, 0, none⟩)
def encI (i : I3) : Value := .agg #[i.i0.ptr, i.i1.ptr, i.i2.ptr]
/-- Numbers, as keys. -/
def intX : KeyX Tryz.prog 3 Int := ⟨Value.int .i64, fun z => .int .i64 z, fun z => (Lit.int .i64 z).wf = true, Maps.int_keyed Tryz.underlying3, fun h => Maps.keyOf_int_mk Tryz.underlying3 h, fun h => by injection h⟩
theorem int_fit {z : Int} (h0 : -9223372036854775808 ≤ z) (h1 : z ≤ 9223372036854775807) : intX.fit z := by
  show (decide (IntKind.i64.min ≤ z) && decide (z ≤ IntKind.i64.max)) = true
  have e1 : IntKind.i64.min = -9223372036854775808 := rfl
  have e2 : IntKind.i64.max = 9223372036854775807 := rfl
  rw [e1, e2]
  simp only [Bool.and_eq_true, decide_eq_true_eq]
  exact ⟨h0, h1⟩
/-- The three orders. -/
def o0 : Ord := ⟨0, 1, 2⟩
def o1 : Ord := ⟨1, 2, 0⟩
def o2 : Ord := ⟨2, 0, 1⟩
theorem six0 : Six o0 := Or.inl ⟨rfl, rfl, rfl⟩
theorem six1 : Six o1 := Or.inr (Or.inl ⟨rfl, rfl, rfl⟩)
theorem six2 : Six o2 := Or.inr (Or.inr (Or.inl ⟨rfl, rfl, rfl⟩))
/-- A word's number. -/
def numW (ws : List ByteArray) (x : ByteArray) : Int := (((idxF ws x).getD 0 : Nat) : Int)
/-- A fact as a row of numbers. -/
def rowT (ws : List ByteArray) (t : Tri) : R3 := ⟨numW ws t.S, numW ws t.P, numW ws t.O⟩
/-- What a store in memory is made of. -/
structure SW where
  p : Nat
  bn : Nat
  pd : Nat
  bd : Nat
  bi : Nat
  lv : Value
  dv : Value
  zs : List SV
  col : Nat → Nat
/-- What it holds. -/
structure SS where
  log : List (List Cng)
  ws : List ByteArray
  ix : Int → Option I3
  Li : List Int
def stoO (k : SW) : Obj := .cells #[.map (some k.bn), k.lv, .pointer (some ⟨k.pd, 0, none⟩), .map (some k.bi)] 65 (0, 0)
/-- A batch that a store keeps. -/
structure BatchAt (w : World) (col : Nat → Nat) (z : SV) (l : List Cng) : Prop where
  n : z.n = l.length
  sl : G.SlL w encC z.val l
  co : ∀ b off, z.A = some ⟨b, off, none⟩ → b < w.heap.size ∧ col b = 7
/-- An index that a store keeps. -/
structure IxAt (w : World) (col : Nat → Nat) (x : IX) (o : Ord) (L : List R3) : Prop where
  idx : Idx w x.X o L x.b 0 x.c
  rise : L.Pairwise (ltR o)
  xs : x.X < w.heap.size
  bs : x.b < w.heap.size
  cx : col x.X = 7
  cb : col x.b = 7
/-- The indexes of a version. -/
structure IxsAt (w : World) (col : Nat → Nat) (ws : List ByteArray) (D : List Tri) (i : I3) : Prop where
  word : ∀ t ∈ D, t.S ∈ ws ∧ t.P ∈ ws ∧ t.O ∈ ws
  a0 : IxAt w col i.i0 o0 (rowsOf o0 (D.map (rowT ws)))
  a1 : IxAt w col i.i1 o1 (rowsOf o1 (D.map (rowT ws)))
  a2 : IxAt w col i.i2 o2 (rowsOf o2 (D.map (rowT ws)))
/-- A store that was made. -/
structure Sto (w0 : Nat) (w : World) (k : SW) (s : SS) : Prop where
  blk : w.heap[k.p]? = some (stoO k)
  now : KMap triX encB w k.bn (allF s.log) (allL s.log)
  row : G.OwnL w w0 28 1 encS k.lv k.zs
  zl : k.zs.length = s.log.length
  all : ∀ (i : Nat) (z : SV) (l : List Cng), k.zs[i]? = some z → s.log[i]? = some l → BatchAt w k.col z l
  dic : Dic w0 w k.pd k.bd k.dv s.ws
  idx : KMap intX encI w k.bi s.ix s.Li
  ixs : ∀ v i, s.ix v = some i → ∃ n : Nat, v = n ∧ n ≤ s.log.length ∧ IxsAt w k.col s.ws (verL (s.log.take n)) i
  base : w0 ≤ w.heap.size
  cp : k.col k.p = 0
  cn : k.col k.bn = 1
  cl : ∀ g, k.lv.ownBlock = some g → k.col g = 2
  cd : k.col k.pd = 3
  cb : k.col k.bd = 4
  cv : ∀ g, k.dv.ownBlock = some g → k.col g = 5
  ci : k.col k.bi = 6
  lo : ∀ i, k.col i < 7 → w0 ≤ i
  good : Good s.log
  nd : s.ws.Nodup
  wsub : ∀ x ∈ s.ws, ∃ l ∈ s.log, ∃ c ∈ l, x = c.T.S ∨ x = c.T.P ∨ x = c.T.O

/-! ### What changes elsewhere -/
theorem sl_chg {α : Type} {enc : α → List Value} {D : Nat → Prop} {w w' : World} {v : Value} {xs : List α} (h : G.SlL w enc v xs) (c : Chg D w w') (hne : ∀ b off n c, v = .slice (some ⟨b, off, none⟩) n c → ¬ D b) : G.SlL w' enc v xs := by
  obtain ⟨A, cp, hv, hc, hn, hr⟩ := h
  refine ⟨A, cp, hv, hc, hn, fun hx => ?_⟩
  obtain ⟨b, off, hA, hb', hcl⟩ := hr hx
  exact ⟨b, off, hA, Nat.lt_of_lt_of_le hb' c.size, fun j u hu => c.cell (hcl j u hu) (hne b off _ cp (by rw [hv, hA]))⟩
/-- Another colouring, alike on what was there. -/
def Like (w : World) (col col' : Nat → Nat) : Prop := ∀ i, i < w.heap.size → col' i = col i
theorem BatchAt.chg {D : Nat → Prop} {w w' : World} {col col' : Nat → Nat} {z : SV} {l : List Cng} (h : BatchAt w col z l) (c : Chg D w w') (hl : Like w col col') (hD : ∀ i, i < w.heap.size → col i = 7 → ¬ D i) : BatchAt w' col' z l :=
  ⟨h.n, sl_chg h.sl c (fun b off n cp e => by
    have e1 : z.A = some ⟨b, off, none⟩ := by unfold SV.val at e; injection e
    obtain ⟨h1, h2⟩ := h.co b off e1
    exact hD b h1 h2), fun b off e => by
    obtain ⟨h1, h2⟩ := h.co b off e
    exact ⟨Nat.lt_of_lt_of_le h1 c.size, (hl b h1).trans h2⟩⟩
theorem idx_chg {D : Nat → Prop} {w w' : World} {X b off c : Nat} {o : Ord} {L : List R3} (h : Idx w X o L b off c) (hc : Chg D w w') (hX : X < w.heap.size) (hb : b < w.heap.size) (h1 : ¬ D X) (h2 : ¬ D b) : Idx w' X o L b off c := by
  have e1 := hc.block X hX h1
  have e2 := hc.block b hb h2
  refine ⟨h.blk.imp fun _ ⟨k1, k2⟩ => ⟨k1, e1.trans k2⟩, h.ox, h.oy, h.oz, fun k i hk hi => ?_, h.lenc, h.small⟩
  have := h.cell k i hk hi
  simp only [World.cell?, e2] at this ⊢
  exact this
theorem IxAt.chg {D : Nat → Prop} {w w' : World} {col col' : Nat → Nat} {x : IX} {o : Ord} {L : List R3} (h : IxAt w col x o L) (c : Chg D w w') (hl : Like w col col') (hD : ∀ i, i < w.heap.size → col i = 7 → ¬ D i) : IxAt w' col' x o L :=
  ⟨idx_chg h.idx c h.xs h.bs (hD _ h.xs h.cx) (hD _ h.bs h.cb), h.rise, Nat.lt_of_lt_of_le h.xs c.size, Nat.lt_of_lt_of_le h.bs c.size, (hl _ h.xs).trans h.cx, (hl _ h.bs).trans h.cb⟩
theorem IxsAt.chg {D : Nat → Prop} {w w' : World} {col col' : Nat → Nat} {ws : List ByteArray} {T : List Tri} {i : I3} (h : IxsAt w col ws T i) (c : Chg D w w') (hl : Like w col col') (hD : ∀ i, i < w.heap.size → col i = 7 → ¬ D i) : IxsAt w' col' ws T i :=
  ⟨h.word, h.a0.chg c hl hD, h.a1.chg c hl hD, h.a2.chg c hl hD⟩
section
variable {w0 : Nat} {w w' : World} {k : SW} {s : SS}
theorem Sto.ps (h : Sto w0 w k s) : k.p < w.heap.size := (Array.getElem?_eq_some_iff.1 h.blk).1
theorem Sto.pds (h : Sto w0 w k s) : k.pd < w.heap.size := (Array.getElem?_eq_some_iff.1 h.dic.blk).1
theorem Sto.lvs (h : Sto w0 w k s) {g : Nat} (hg : k.lv.ownBlock = some g) : g < w.heap.size := h.row.lt_ g hg
theorem Sto.dvs (h : Sto w0 w k s) {g : Nat} (hg : k.dv.ownBlock = some g) : g < w.heap.size := (h.dic.row.lt g hg).2
/-- The store's cells. -/
theorem Sto.cells (h : Sto w0 w k s) : w.cell? ⟨k.p, 0, none⟩ = some (.map (some k.bn)) ∧ w.cell? ⟨k.p, 1, none⟩ = some k.lv ∧ w.cell? ⟨k.p, 2, none⟩ = some (.pointer (some ⟨k.pd, 0, none⟩)) ∧ w.cell? ⟨k.p, 3, none⟩ = some (.map (some k.bi)) := by
  have e := h.blk
  unfold stoO at e
  exact ⟨by simp [World.cell?, e], by simp [World.cell?, e], by simp [World.cell?, e], by simp [World.cell?, e]⟩
/-- A store whose blocks nobody has changed. -/
def SW.far (k : SW) (w : World) : SW := { k with col := fun i => if i < w.heap.size then k.col i else 8 }
theorem SW.far_like (k : SW) (w : World) : Like w k.col (k.far w).col := fun i hi => by
  show (if i < w.heap.size then k.col i else 8) = k.col i
  rw [if_pos hi]
theorem Sto.chg {D : Nat → Prop} (h : Sto w0 w k s) (c : Chg D w w') (col' : Nat → Nat) (hl : Like w k.col col') (hn : ∀ i, w.heap.size ≤ i → 7 ≤ col' i) (hD : ∀ i, i < w.heap.size → D i → k.col i = 8) : Sto w0 w' { k with col := col' } s := by
  have n7 : ∀ i, i < w.heap.size → k.col i ≤ 7 → ¬ D i := fun i hi h7 hd => by have := hD i hi hd; omega
  have hbn := h.now.lt
  have hbi := h.idx.lt
  have hbd := h.dic.map.lt
  refine ⟨(c.block k.p h.ps (n7 _ h.ps (by rw [h.cp]; omega))).trans h.blk, h.now.chg c (n7 _ hbn (by rw [h.cn]; omega)), ?_, h.zl, fun i z l h1 h2 => (h.all i z l h1 h2).chg c hl (fun i hi e => n7 i hi (by omega)), ?_, h.idx.chg c (n7 _ hbi (by rw [h.ci]; omega)), ?_, Nat.le_trans h.base c.size, ?_, ?_, ?_, ?_, ?_, ?_, ?_, fun i hi => ?_, h.good, h.nd, h.wsub⟩
  · exact row_same h.row (fun g hg => c.block g (h.lvs hg) (n7 _ (h.lvs hg) (by rw [h.cl g hg]; omega)))
  · exact h.dic.chg c (n7 _ h.pds (by rw [h.cd]; omega)) (n7 _ hbd (by rw [h.cb]; omega)) (fun g hg => n7 _ (h.dvs hg) (by rw [h.cv g hg]; omega))
  · intro v i hv
    obtain ⟨n, e1, e2, e3⟩ := h.ixs v i hv
    exact ⟨n, e1, e2, e3.chg c hl (fun i hi e => n7 i hi (by omega))⟩
  · exact (hl _ h.ps).trans h.cp
  · exact (hl _ hbn).trans h.cn
  · exact fun g hg => (hl _ (h.lvs hg)).trans (h.cl g hg)
  · exact (hl _ h.pds).trans h.cd
  · exact (hl _ hbd).trans h.cb
  · exact fun g hg => (hl _ (h.dvs hg)).trans (h.cv g hg)
  · exact (hl _ hbi).trans h.ci
  · by_cases e : i < w.heap.size
    · exact h.lo i (by rw [← hl i e]; exact hi)
    · have := hn i (by omega)
      have hi' : col' i < 7 := hi
      omega
theorem Sto.far {D : Nat → Prop} (h : Sto w0 w k s) (c : Chg D w w') (hD : ∀ i, i < w.heap.size → D i → k.col i = 8) : Sto w0 w' (k.far w) s :=
  h.chg c _ (k.far_like w) (fun i hi => by show 7 ≤ (if i < w.heap.size then k.col i else 8); rw [if_neg (by omega)]; omega) hD
theorem Sto.below (h : Sto w0 w k s) (c : Below w.heap.size w w') : Sto w0 w' (k.far w) s := h.far (Chg.of_below (fun _ => False) c) (fun _ _ e => e.elim)
/-- A step that a store's call makes. -/
structure StepS (w : World) (k : SW) (w' : World) (k' : SW) : Prop where
  col : Like w k.col k'.col
  chg : Chg (fun i => k.col i < 7) w w'
theorem StepS.refl (w : World) (k : SW) : StepS w k w k := ⟨fun _ _ => rfl, Chg.refl _ _⟩
theorem StepS.trans {w'' : World} {k' k'' : SW} (h : StepS w k w' k') (g : StepS w' k' w'' k'') : StepS w k w'' k'' :=
  ⟨fun i hi => (g.col i (Nat.lt_of_lt_of_le hi h.chg.size)).trans (h.col i hi), h.chg.trans g.chg (fun i hi e => by rw [h.col i hi] at e; exact e)⟩
theorem StepS.below (c : Below w.heap.size w w') : StepS w k w' (k.far w) := ⟨k.far_like w, Chg.of_below _ c⟩
/-- Behind a store's call what is not the store's is as it was. -/
theorem StepS.since {k' : SW} (h : Sto w0 w k s) (g : StepS w k w' k') {W : World} (hW : Below W.heap.size W w) (hw : W.heap.size ≤ w0) : Below W.heap.size W w' :=
  Chg.below hW g.chg (fun i e => Nat.le_trans hw (h.lo i e))
end
end Go.Proofs.YtcnffgcegimelaaGreat.So
end
section
/-
  A store in memory: New, given, Version, Room. Conditions: the blocks lie as told.
-/
namespace Go.Proofs.YtcnffgcegimelaaGreat.So
open Go.RowKit Go.Proofs.YtcnffgcegimelaaGreat.Mp Go.Proofs.YtcnffgcegimelaaGreat.Wd Go.Proofs.YtcnffgcegimelaaGreat.Pm Go.Proofs.YtcnffgcegimelaaGreat.Pw

set_option maxRecDepth 100000 in
set_option maxHeartbeats 400000 in
theorem given_none (w : World) : Calls Tryz.prog 31 #[.pointer none] w fun e w' => e = .returned (.bool false) ∧ w = w' := by
  go_enter Tryz.func31, Tryz.ntmps31
  go_wp2
  go_ret
  exact ⟨rfl, rfl⟩
set_option maxRecDepth 100000 in
set_option maxHeartbeats 400000 in
theorem given_sto (w : World) (p : Nat) (m : Option Nat) (h : w.cell? ⟨p, 0, none⟩ = some (.map m)) : Calls Tryz.prog 31 #[.pointer (some ⟨p, 0, none⟩)] w fun e w' => e = .returned (.bool m.isSome) ∧ w = w' := by
  have qT : ∀ (w : World) (r : Option Nat), (binOp .neq 61 (.map r) (.map none)).run Tryz.prog w = .ok (.bool (!r.isNone)) w := fun w r => Go.run_neq_map_nil w _ _ _ r Tryz.underlying61
  cases m with
  | none =>
    go_enter Tryz.func31, Tryz.ntmps31
    go_wp2
    go_ret
    exact ⟨rfl, rfl⟩
  | some a =>
    go_enter Tryz.func31, Tryz.ntmps31
    go_wp2
    go_ret
    exact ⟨rfl, rfl⟩
/-- The words of a new store. -/
def newK (w : World) : SW := ⟨w.heap.size + 4, w.heap.size, w.heap.size + 2, w.heap.size + 1, w.heap.size + 3, .slice none 0 0, .slice none 0 0, [], fun i => if i = w.heap.size + 4 then 0 else if i = w.heap.size then 1 else if i = w.heap.size + 2 then 3 else if i = w.heap.size + 1 then 4 else if i = w.heap.size + 3 then 6 else 8⟩
def newS : SS := ⟨[], [], fun _ => none, []⟩
theorem new_at {w w1 : World} (hd : Dic w.heap.size w1 (w.heap.size + 2) (w.heap.size + 1) (.slice none 0 0) []) (hb : Below (w.heap.size + 1) (w.alloc (.map #[] 0)) w1) (hs : w1.heap.size = w.heap.size + 3) :
    Sto w.heap.size ((w1.alloc (.map #[] 0)).alloc (stoO (newK w))) (newK w) newS ∧ Below w.heap.size w ((w1.alloc (.map #[] 0)).alloc (stoO (newK w))) := by
  have b1 : Below w.heap.size w w1 := ((Below.refl _ w).alloc (Nat.le_refl _) _).trans (hb.mono (Nat.le_succ _))
  have b2 := (b1.alloc b1.size (.map #[] 0))
  have b3 := b2.alloc b2.size (stoO (newK w))
  have c1 : Below w1.heap.size w1 ((w1.alloc (.map #[] 0)).alloc (stoO (newK w))) := ((Below.refl _ w1).alloc (Nat.le_refl _) _).alloc (by simp) _
  have s2 : (w1.alloc (.map #[] 0)).heap.size = w.heap.size + 4 := by rw [World.size_alloc, hs]
  refine ⟨⟨?_, ?_, G.OwnL.nil _ _ _ _ _, rfl, (fun i z l h => by simp [newK] at h), hd.below c1, ?_, (fun v i h => by cases h), b3.size, ?_, ?_, (fun g h => by cases h), ?_, ?_, (fun g h => by cases h), ?_, fun i h => ?_, Good.nil, List.nodup_nil, (fun x h => by cases h)⟩, b3⟩
  · have := heap_alloc_new (w1.alloc (.map #[] 0)) (stoO (newK w))
    rw [s2] at this
    exact this
  · have h0 := kmap_made triX encB w
    have h1 : KMap triX encB w1 w.heap.size (fun _ => none) [] := h0.chg (Chg.of_below (fun _ => False) (hb.mono (by simp))) (fun e => e)
    exact h1.chg (Chg.of_below (fun _ => False) c1) (fun e => e)
  · have h0 := kmap_made intX encI w1
    rw [hs] at h0
    exact h0.kept (World.grownBy_alloc _ (stoO (newK w)) none) (by simp)
  · simp [newK]
  · simp [newK]
  · simp [newK]
  · simp [newK]
  · simp [newK]
  · unfold newK at h
    dsimp only at h
    repeat (first | (split at h; omega) | split at h)
    all_goals omega
def NewPost (w : World) (e : Ending) (w' : World) : Prop := e = .returned (.pointer (some ⟨w.heap.size + 4, 0, none⟩)) ∧ Sto w.heap.size w' (newK w) newS ∧ Below w.heap.size w w'
set_option maxRecDepth 100000 in
set_option maxHeartbeats 1000000 in
/-- New. -/
theorem new_sto (w : World) : Calls Tryz.prog 11 #[] w (NewPost w) := by
  have hmm := @run_makeMap Tryz.prog
  go_enter Tryz.func11, Tryz.ntmps11
  go_wp2_with (go_at_call 30; refine (Wd.new_ok _ w.heap.size).mono ?_; rintro e w1 ⟨rfl, hd, hb, hs⟩; have D1 := Lib.hid (And.intro hd hb); have S1 := Lib.hid hs; rw [World.size_alloc] at hs; clear hd hb)
  go_ret
  have hh := new_at (w := w) (w1 := w1) (by simpa using D1.out.1) (by simpa using D1.out.2) hs
  unfold NewPost
  refine ⟨by simp, ?_, ?_⟩
  · exact hh.1
  · exact hh.2
end Go.Proofs.YtcnffgcegimelaaGreat.So
end
