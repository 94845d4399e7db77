/-
  Joined by wip/tools/merge.py from the texts Lc0 Lc1 Lc2 Lc3 Lc4 Lc5. Conditions: as each says.
-/
import Derived.Test.YtejinhnmabnomaaJ7
import Derived.Test.YtejinhnmabnomaaJ0
import Derived.Deep.RegionHeld3
import Derived.Laws.EntriesVeiled
import Derived.Test.YtejinhnmabnomaaJ4
section
/-
  Walks of a join: what a call may have changed, a walk told by the document's state, and its calls. Conditions: the blocks lie as told.
-/
namespace Go.Proofs.Ytejinhnmabnomaa.Lf
open Go.RowKit Go.Proofs.YtejinhnmabnomaaW.PrintWords Go.Proofs.Ytejinhnmabnomaa.Pm Go.Proofs.Ytejinhnmabnomaa.Pw

/-- Of what was there only blocks of D may have been changed. -/
structure Chg (D : Nat → Prop) (w w' : World) : Prop where
  os : w'.os = w.os
  tape : w'.tape = w.tape
  output : w'.output = w.output
  size : w.heap.size ≤ w'.heap.size
  block : ∀ k, k < w.heap.size → ¬ D k → w'.heap[k]? = w.heap[k]?
theorem Chg.refl (D : Nat → Prop) (w : World) : Chg D w w := ⟨rfl, rfl, rfl, Nat.le_refl _, fun _ _ _ => rfl⟩
theorem Chg.trans {D D' : Nat → Prop} {a b c : World} (h : Chg D a b) (k : Chg D' b c) (hD : ∀ i, i < a.heap.size → D' i → D i) : Chg D a c :=
  ⟨k.os.trans h.os, k.tape.trans h.tape, k.output.trans h.output, Nat.le_trans h.size k.size, fun i hi hn => (k.block i (Nat.lt_of_lt_of_le hi h.size) (fun e => hn (hD i hi e))).trans (h.block i hi hn)⟩
theorem Chg.mono {D D' : Nat → Prop} {a b : World} (h : Chg D a b) (hD : ∀ i, i < a.heap.size → D i → D' i) : Chg D' a b := ⟨h.os, h.tape, h.output, h.size, fun i hi hn => h.block i hi (fun e => hn (hD i hi e))⟩
theorem Chg.of_grown {w w' : World} {g : Nat} (h : w.grownBy w' (some g)) : Chg (fun i => i = g) w w' := ⟨h.os, h.tape, h.output, h.size, fun i hi hn => h.block i hi (fun e => hn (Option.some.inj e))⟩
theorem Chg.of_below {w w' : World} (D : Nat → Prop) (h : Below w.heap.size w w') : Chg D w w' := ⟨h.os, h.tape, h.output, h.size, fun i hi _ => h.block i hi⟩
theorem Chg.below {D : Nat → Prop} {w0 w w' : World} (h : Below w0.heap.size w0 w) (k : Chg D w w') (hD : ∀ i, D i → w0.heap.size ≤ i) : Below w0.heap.size w0 w' :=
  h.trans ⟨k.os, k.tape, k.output, k.size, fun i hi => k.block i (Nat.lt_of_lt_of_le hi h.size) (fun e => by have := hD i e; omega)⟩
theorem Chg.cell {D : Nat → Prop} {w w' : World} (h : Chg D w w') {a : Addr} {v : Value} (hc : w.cell? a = some v) (hn : ¬ D a.block) : w'.cell? a = some v :=
  (World.cell?_of_block (h.block a.block (World.block_lt_of_cell? w a hc) hn)).trans hc

theorem idx_same {w w' : World} {X b off c : Nat} {o : Ord} {L : List R3} (h : Idx w X o L b off c) (e1 : w'.heap[X]? = w.heap[X]?) (e2 : w'.heap[b]? = w.heap[b]?) : Idx w' X o L b off c := by
  refine ⟨h.blk.imp fun _ ⟨h1, h2⟩ => ⟨h1, e1.trans h2⟩, h.ox, h.oy, h.oz, fun k i hk hi => ?_, h.lenc, h.small⟩
  have := h.cell k i hk hi
  simp only [World.cell?, e2] at this ⊢
  exact this
theorem at_chg {D : Nat → Prop} {w0 w w' : World} {g X b c : Nat} {o : Ord} {L : List R3} {s : St} (h : At w0 w g X b c o L s) (k : Chg D w w') (hD : ∀ i, D i → w0.heap.size ≤ i) (h1 : ¬ D g) (h2 : ¬ D X) (h3 : ¬ D b) : At w0 w' g X b c o L s :=
  ⟨⟨idx_same h.wk.idx (k.block X h.wk.xs h2) (k.block b h.wk.bs h3), h.wk.rise, (k.block g h.wk.gs h1).trans h.wk.blk, h.wk.ok, Nat.lt_of_lt_of_le h.wk.xs k.size, Nat.lt_of_lt_of_le h.wk.bs k.size, h.wk.gX, h.wk.gb⟩, Chg.below h.below k hD, h.gw, h.xw, h.bw⟩

/-! ### A walk told by the document's state -/
structure Wr where
  g : Nat
  X : Nat
  b : Nat
  c : Nat
  L : List R3
def Wr.ptr (k : Wr) : Value := .pointer (some ⟨k.g, 0, none⟩)
/-- The walk k stands as r says. -/
structure Ws (w0 w : World) (k : Wr) (r : RS) : Prop where
  at_ : ∃ s, At w0 w k.g k.X k.b k.c o1 k.L s ∧ Rel k.L o1 s r
  top : ∀ e i, i < k.L.length → num k.L o1 e i ≤ 9223372036854775807
theorem Ws.rise {w0 w : World} {k : Wr} {r : RS} (h : Ws w0 w k r) : k.L.Pairwise (ltR o1) := let ⟨_, h, _⟩ := h.at_; h.wk.rise
theorem Ws.gs {w0 w : World} {k : Wr} {r : RS} (h : Ws w0 w k r) : k.g < w.heap.size ∧ k.X < w.heap.size ∧ k.b < w.heap.size ∧ w0.heap.size ≤ k.g ∧ w0.heap.size ≤ k.X ∧ w0.heap.size ≤ k.b := let ⟨_, h, _⟩ := h.at_; ⟨h.wk.gs, h.wk.xs, h.wk.bs, h.gw, h.xw, h.bw⟩
theorem Ws.chg {D : Nat → Prop} {w0 w w' : World} {k : Wr} {r : RS} (h : Ws w0 w k r) (c : Chg D w w') (hD : ∀ i, D i → w0.heap.size ≤ i) (h1 : ¬ D k.g) (h2 : ¬ D k.X) (h3 : ¬ D k.b) : Ws w0 w' k r :=
  ⟨h.at_.imp fun _ ⟨a, b⟩ => ⟨at_chg a c hD h1 h2 h3, b⟩, h.top⟩
theorem Ws.more {w0 w w' : World} {k : Wr} {r : RS} (h : Ws w0 w k r) (c : Below w.heap.size w w') : Ws w0 w' k r := ⟨h.at_.imp fun _ ⟨a, b⟩ => ⟨a.more c, b⟩, h.top⟩

theorem ws_key {w0 w : World} {k : Wr} {r : RS} (h : Ws w0 w k r) :
    Calls Try.prog 33 #[.pointer (some ⟨k.g, 0, none⟩)] w fun e w' => e = .returned (.tuple #[.int .i64 (rKey r).1, .bool (rKey r).2]) ∧ Below w.heap.size w w' := by
  obtain ⟨s, ha, hr⟩ := h.at_
  refine (at_key ha).mono fun e w' ⟨he, _, hb⟩ => ⟨?_, hb⟩
  rw [he, sim_key hr]
theorem ws_open {w0 w : World} {k : Wr} {r : RS} (h : Ws w0 w k r) :
    Calls Try.prog 31 #[.pointer (some ⟨k.g, 0, none⟩)] w fun e w' => e = .returned (.int .i64 (rOpen k.L o1 r).2) ∧ Ws w0 w' k (rOpen k.L o1 r).1 ∧ ((rOpen k.L o1 r).2 = 0 → 0 < (lvl k.L o1 r.at_).length) ∧ Chg (fun i => i = k.g) w w' := by
  obtain ⟨s, ha, hr⟩ := h.at_
  obtain ⟨h1, h2, h3⟩ := sim_open hr h.rise
  refine (at_open ha).mono fun e w' ⟨he, hA, hg⟩ => ⟨?_, ⟨⟨_, hA, h2⟩, h.top⟩, h3, Chg.of_grown hg⟩
  rw [he, h1]
theorem ws_up {w0 w : World} {k : Wr} {r : RS} (h : Ws w0 w k r) :
    Calls Try.prog 30 #[.pointer (some ⟨k.g, 0, none⟩)] w fun e w' => e = .returned (.int .i64 (rUp r).2) ∧ Ws w0 w' k (rUp r).1 ∧ Chg (fun i => i = k.g) w w' := by
  obtain ⟨s, ha, hr⟩ := h.at_
  obtain ⟨h1, h2⟩ := sim_up hr
  refine (at_up ha).mono fun e w' ⟨he, hA, hg⟩ => ⟨?_, ⟨⟨_, hA, h2⟩, h.top⟩, Chg.of_grown hg⟩
  rw [he, h1]
theorem ws_next {w0 w : World} {k : Wr} {r : RS} (h : Ws w0 w k r) :
    Calls Try.prog 34 #[.pointer (some ⟨k.g, 0, none⟩)] w fun e w' => e = .returned (.int .i64 (rNext k.L o1 r).2) ∧ Ws w0 w' k (rNext k.L o1 r).1 ∧ Chg (fun i => i = k.g) w w' := by
  obtain ⟨s, ha, hr⟩ := h.at_
  obtain ⟨h1, h2⟩ := sim_next hr h.rise h.top
  refine (at_next ha).mono fun e w' ⟨he, hA, hg⟩ => ⟨?_, ⟨⟨_, hA, h2⟩, h.top⟩, Chg.of_grown hg⟩
  rw [he, h1]
theorem ws_seek {w0 w : World} {k : Wr} {r : RS} (h : Ws w0 w k r) (n : Int) :
    Calls Try.prog 52 #[.pointer (some ⟨k.g, 0, none⟩), .int .i64 n] w fun e w' => e = .returned (.int .i64 (rSeek k.L o1 r n).2) ∧ Ws w0 w' k (rSeek k.L o1 r n).1 ∧ Chg (fun i => i = k.g) w w' := by
  obtain ⟨s, ha, hr⟩ := h.at_
  obtain ⟨h1, h2⟩ := sim_seek hr h.rise n
  refine (at_seek ha n).mono fun e w' ⟨he, hA, hg⟩ => ⟨?_, ⟨⟨_, hA, h2⟩, h.top⟩, Chg.of_grown hg⟩
  rw [he, h1]

/-! ### The closure that tells a walk's number, and whether one is behind -/
theorem cell1 {w : World} {B : Nat} {v : Value} {t : TypeId} (h : w.heap[B]? = some (.cells #[v] t (0, 0))) : w.cell? ⟨B, 0, none⟩ = some v ∧ w.frozen? ⟨B, 0, none⟩ = false := by
  constructor
  · simp [World.cell?, h]
  · simp [World.frozen?, h]
theorem key_cl {w0 w : World} {k : Wr} {r : RS} (h : Ws w0 w k r) (B : Nat) (b0 : Bool) (hB : w.heap[B]? = some (.cells #[.bool b0] 4 (0, 0))) :
    Calls Try.prog 49 #[.pointer (some ⟨k.g, 0, none⟩), .pointer (some ⟨B, 0, none⟩)] w fun e w' => e = .returned (.int .i64 (rKey r).1) ∧ w'.heap[B]? = some (.cells #[.bool (b0 || !(rKey r).2)] 4 (0, 0)) ∧ Chg (fun i => i = B) w w' := by
  have hs : B < w.heap.size := (Array.getElem?_eq_some_iff.1 hB).1
  have HK := Lib.hid (ws_key h); clear h
  generalize rKey r = x at *
  obtain ⟨n, ok⟩ := x
  have HB := Lib.hid hB; clear hB
  go_enter Try.func49, Try.ntmps49
  cases b0 <;> cases ok <;>
  · go_wp2_with (go_at_call 33; refine HK.out.mono ?_; rintro e w1 ⟨rfl, hb1⟩; have hB1 := (hb1.block B hs).trans HB.out; obtain ⟨hB2, hB3⟩ := cell1 hB1; have HB1 := Lib.hid hb1; have HB4 := Lib.hid hB1; clear hb1 hB1)
    go_ret
    exact ⟨rfl, (heap_set _ B 0 _ _ _ HB4.out).trans rfl, (Chg.of_below _ HB1.out).trans (Chg.of_grown (grown_set _ _ _ _)) (fun i _ e => e)⟩
end Go.Proofs.Ytejinhnmabnomaa.Lf
end
section
/-
  The comparing of two walks by a closure. Conditions: the blocks lie as told.
-/
namespace Go.Proofs.Ytejinhnmabnomaa.Lf
open Go.RowKit Go.Proofs.YtejinhnmabnomaaW.PrintWords Go.Proofs.Ytejinhnmabnomaa.Pm Go.Proofs.Ytejinhnmabnomaa.Pw

/-- The closure that tells a number, as a value. -/
def keyF (B : Nat) : Value := .func (.func 49) #[] #[.pointer (some ⟨B, 0, none⟩)]
/-- The cells of the two closures of one leap. -/
structure Cl (w0 w : World) (B K : Nat) (b0 : Bool) : Prop where
  bB : w.heap[B]? = some (.cells #[.bool b0] 4 (0, 0))
  bK : w.heap[K]? = some (.cells #[keyF B] 91 (0, 0))
  wB : w0.heap.size ≤ B
  ne : B ≠ K
theorem Cl.chg {w0 w w' : World} {B K : Nat} {b0 b1 : Bool} (h : Cl w0 w B K b0) (c : Chg (fun i => i = B) w w') (hB : w'.heap[B]? = some (.cells #[.bool b1] 4 (0, 0))) : Cl w0 w' B K b1 :=
  ⟨hB, (c.block K (Array.getElem?_eq_some_iff.1 h.bK).1 (fun e => h.ne e.symm)).trans h.bK, h.wB, h.ne⟩
theorem Cl.drew {w0 w : World} {B K : Nat} {b0 : Bool} (h : Cl w0 w B K b0) : Cl w0 w.drew B K b0 := ⟨h.bB, h.bK, h.wB, h.ne⟩
theorem Chg.drew (D : Nat → Prop) (w : World) : Chg D w w.drew := ⟨rfl, rfl, rfl, Nat.le_refl _, fun _ _ _ => rfl⟩
theorem Ws.drew {w0 w : World} {k : Wr} {r : RS} (h : Ws w0 w k r) : Ws w0 w.drew k r := h.more (Below.drew (Below.refl _ _))
def Apart (k : Wr) (B : Nat) : Prop := k.g ≠ B ∧ k.X ≠ B ∧ k.b ≠ B
theorem Ws.apart {w0 w w' : World} {k : Wr} {r : RS} {B : Nat} (h : Ws w0 w k r) (c : Chg (fun i => i = B) w w') (hB : w0.heap.size ≤ B) (ha : Apart k B) : Ws w0 w' k r :=
  h.chg c (fun i e => by rw [e]; exact hB) ha.1 ha.2.1 ha.2.2
theorem key_cl' {w0 w : World} {k : Wr} {r : RS} {B K : Nat} {b0 : Bool} (h : Ws w0 w k r) (hc : Cl w0 w B K b0) :
    Calls Try.prog 49 #[.pointer (some ⟨k.g, 0, none⟩), .pointer (some ⟨B, 0, none⟩)] w fun e w' => e = .returned (.int .i64 (rKey r).1) ∧ Cl w0 w' B K (b0 || !(rKey r).2) ∧ Chg (fun i => i = B) w w' :=
  (key_cl h B b0 hc.bB).mono fun _ _ ⟨h1, h2, h3⟩ => ⟨h1, hc.chg h3 h2, h3⟩

theorem cmp_cl {w0 w : World} {k k' : Wr} {r r' : RS} {B K : Nat} {b0 : Bool} (h : Ws w0 w k r) (h' : Ws w0 w k' r') (hc : Cl w0 w B K b0) (ha : Apart k B) (ha' : Apart k' B) :
    Calls Try.prog 51 #[.pointer (some ⟨k.g, 0, none⟩), .pointer (some ⟨k'.g, 0, none⟩), .pointer (some ⟨K, 0, none⟩)] w fun e w' => e = .returned (.int .i64 (Lib.compareInt (rKey r).1 (rKey r').1)) ∧ Cl w0 w' B K ((b0 || !(rKey r).2) || !(rKey r').2) ∧ Chg (fun i => i = B) w w' := by
  have HH := Lib.hid (And.intro h h'); clear h h'
  have HC := Lib.hid hc
  have HA := Lib.hid (And.intro ha ha'); clear ha ha'
  obtain ⟨hK, _⟩ := cell1 hc.bK
  have hne := Lib.hid hc.ne
  clear hc
  unfold keyF at hK
  go_enter Try.func51, Try.ntmps51
  go_wp2_with fail
  go_region_held3 (fun W => W.cell? ⟨K, 0, none⟩ = some (.func (.func 49) #[] #[.pointer (some ⟨B, 0, none⟩)])) (go_keep)
    (first
     | (go_at_call 49; have HX := HC1; clear HX; refine (key_cl' (k := k') (Ws.apart HH.out.2.drew HG1.out HC.out.wB HA.out.2) HC1.out).mono ?_; rintro e w2 ⟨rfl, hc2, hg2⟩; have HC2 := Lib.hid hc2; have HG2 := Lib.hid hg2; have hK2 := (cell1 hc2.bK).1; unfold keyF at hK2; clear hc2 hg2)
     | (go_at_call 49; refine (key_cl' (k := k) HH.out.1.drew HC.out.drew).mono ?_; rintro e w1 ⟨rfl, hc1, hg1⟩; have HC1 := Lib.hid hc1; have HG1 := Lib.hid hg1; have hK1 := (cell1 hc1.bK).1; unfold keyF at hK1; clear hc1 hg1)
     | (go_at_call 42; refine (Try.cmp_Compare_int _ _ _).mono ?_; rintro e w3 ⟨rfl, rfl⟩))
  go_wp2
  go_ret
  exact ⟨rfl, HC2.out, ((Chg.drew _ _).trans HG1.out (fun i _ e => e)).trans HG2.out (fun i _ e => e)⟩
end Go.Proofs.Ytejinhnmabnomaa.Lf
end
section
/-
  The walk whose number is least, by the closure that compares. Conditions: the blocks lie as told.
-/
namespace Go.Proofs.Ytejinhnmabnomaa.Lf
open Go.RowKit Go.Proofs.YtejinhnmabnomaaW.PrintWords Go.Proofs.Ytejinhnmabnomaa.Pm Go.Proofs.Ytejinhnmabnomaa.Pw

/-- A slice of walks, and how they stand. -/
structure WL (w0 w : World) (b n : Nat) (k : Nat → Wr) (r : Nat → RS) : Prop where
  cell : ∀ i, i < n → w.cell? ⟨b, i, none⟩ = some (.pointer (some ⟨(k i).g, 0, none⟩))
  ws : ∀ i, i < n → Ws w0 w (k i) (r i)
theorem WL.chg {w0 w w' : World} {b n B : Nat} {k : Nat → Wr} {r : Nat → RS} (h : WL w0 w b n k r) (c : Chg (fun i => i = B) w w') (hB : w0.heap.size ≤ B) (hb : b ≠ B) (ha : ∀ i, i < n → Apart (k i) B) : WL w0 w' b n k r :=
  ⟨fun i hi => c.cell (h.cell i hi) hb, fun i hi => (h.ws i hi).apart c hB (ha i hi)⟩

theorem cmpI_neg (x y : Int) : Lib.compareInt x y < 0 ↔ x < y := by
  unfold Lib.compareInt
  split
  · omega
  · split <;> omega

theorem min_cl {w0 w : World} {b n c : Nat} {k : Nat → Wr} {r : Nat → RS} {B K : Nat} {b0 : Bool} (h : WL w0 w b n k r) (hc : Cl w0 w B K b0) (hb : b ≠ B) (ha : ∀ i, i < n → Apart (k i) B) (hn : 0 < n) (hsm : n ≤ 1000) :
    Calls Try.prog 50 #[.slice (some ⟨b, 0, none⟩) n c, .func (.func 51) #[] #[.pointer (some ⟨K, 0, none⟩)]] w fun e w' =>
      ∃ m b1, m < n ∧ e = .returned (.pointer (some ⟨(k m).g, 0, none⟩)) ∧ Cl w0 w' B K b1 ∧ Chg (fun i => i = B) w w' ∧ (b1 = true → b0 = true ∨ ∃ i, i < n ∧ (rKey (r i)).2 = false) ∧ ∀ i, i < n → (rKey (r m)).1 ≤ (rKey (r i)).1 := by
  have h0 := h.cell 0 hn
  have HW := Lib.hid h; clear h
  have HC := Lib.hid hc; clear hc
  have HA := Lib.hid (And.intro hb ha); clear hb ha
  have hd1 : decide ((n : Int) < 1) = false := by simp; omega
  have hi0 : (0 : Int) < (n : Int) := by omega
  have hnN : (n : Int) ≤ 1000 := by omega
  go_enter Try.func50, Try.ntmps50
  go_wp2_with fail
  go_loopg [5, 6] n (fun g s5 s6 wr => ∃ (i m : Nat) (b1 : Bool), i ≤ n ∧ 0 < i ∧ n - i ≤ g ∧ s6 = .int .i64 i ∧ m < i ∧ s5 = .pointer (some ⟨(k m).g, 0, none⟩) ∧ Cl w0 wr B K b1 ∧ Chg (fun i => i = B) w wr ∧ (b1 = true → b0 = true ∨ ∃ i, i < n ∧ (rKey (r i)).2 = false) ∧ ∀ j, j < i → (rKey (r m)).1 ≤ (rKey (r j)).1)
  case atStart => exact ⟨1, 0, b0, by omega, by omega, by omega, rfl, by omega, rfl, HC.out, Chg.refl _ _, fun h => .inl h, fun j hj => by rw [show j = 0 by omega]; exact Int.le_refl _⟩
  case round =>
    obtain ⟨i, m, b1, hi, hp, hg, rfl, hmi, rfl, hcl, hch, hbb, hle⟩ := hrel
    have HL := Lib.hid (And.intro hcl (And.intro hch (And.intro hbb (And.intro hle hmi))))
    by_cases hlt : i < n
    · have hcell := (HW.out.chg hch HC.out.wB HA.out.1 HA.out.2).cell i hlt
      have hd : decide ((i : Int) < (n : Int)) = true := by simp; omega
      have hl2 : (i : Int) < (n : Int) := by omega
      have hWS := Lib.hid (HW.out.chg hch HC.out.wB HA.out.1 HA.out.2)
      clear hcl hch hbb hle hmi h0
      obtain ⟨d, hdd⟩ : ∃ d, decide (Lib.compareInt (rKey (r i)).1 (rKey (r m)).1 < 0) = d := ⟨_, rfl⟩
      have BB : ∀ b2, b2 = ((b1 || !(rKey (r i)).2) || !(rKey (r m)).2) → b2 = true → b0 = true ∨ ∃ i, i < n ∧ (rKey (r i)).2 = false := fun b2 e h => by
        rw [e, Bool.or_eq_true, Bool.or_eq_true] at h
        rcases h with (h | h) | h
        · exact HL.out.2.2.1 h
        · exact .inr ⟨i, hlt, by simpa using h⟩
        · exact .inr ⟨m, by have := HL.out.2.2.2.2; omega, by simpa using h⟩
      have BB := Lib.hid BB
      cases d
      · go_wp2_with (go_at_call 51; refine (cmp_cl (hWS.out.ws i hlt) (hWS.out.ws m (by have := HL.out.2.2.2.2; omega)) HL.out.1 (HA.out.2 i hlt) (HA.out.2 m (by have := HL.out.2.2.2.2; omega))).mono ?_; rintro e w2 ⟨rfl, hc2, hg2⟩; have HC2 := Lib.hid hc2; have hcell := hg2.cell hcell HA.out.1; have HG2 := Lib.hid hg2; clear hc2 hg2)
        go_roundg (n - (i + 1))
        case measure => omega
        case rel =>
          have h1 := of_decide_eq_false hdd
          rw [cmpI_neg] at h1
          refine ⟨i + 1, m, _, by omega, by omega, Nat.le_refl _, by go_num, by have := HL.out.2.2.2.2; omega, rfl, HC2.out, HL.out.2.1.trans HG2.out (fun i _ e => e), BB.out _ rfl, fun j hj => ?_⟩
          by_cases e : j < i
          · exact HL.out.2.2.2.1 j e
          · rw [show j = i by omega]; omega
      · go_wp2_with (go_at_call 51; refine (cmp_cl (hWS.out.ws i hlt) (hWS.out.ws m (by have := HL.out.2.2.2.2; omega)) HL.out.1 (HA.out.2 i hlt) (HA.out.2 m (by have := HL.out.2.2.2.2; omega))).mono ?_; rintro e w2 ⟨rfl, hc2, hg2⟩; have HC2 := Lib.hid hc2; have hcell := hg2.cell hcell HA.out.1; have HG2 := Lib.hid hg2; clear hc2 hg2)
        go_roundg (n - (i + 1))
        case measure => omega
        case rel =>
          have h1 := of_decide_eq_true hdd
          rw [cmpI_neg] at h1
          refine ⟨i + 1, i, _, by omega, by omega, Nat.le_refl _, by go_num, by omega, rfl, HC2.out, HL.out.2.1.trans HG2.out (fun i _ e => e), BB.out _ rfl, fun j hj => ?_⟩
          by_cases e : j < i
          · have := HL.out.2.2.2.1 j e; omega
          · rw [show j = i by omega]; exact Int.le_refl _
    · have hin : i = n := by omega
      subst hin
      have hd : decide ((i : Int) < (i : Int)) = false := by simp
      clear hcl hch hbb hle hmi h0
      go_wp2
      go_ret
      exact ⟨m, b1, HL.out.2.2.2.2, rfl, HL.out.1, HL.out.2.1, HL.out.2.2.1, HL.out.2.2.2.1⟩
end Go.Proofs.Ytejinhnmabnomaa.Lf
end
section
/-
  Walks leap after one another till they stand at one number. Conditions: the blocks lie as told.
-/
namespace Go.Proofs.Ytejinhnmabnomaa.Lf
open Go.RowKit Go.Proofs.YtejinhnmabnomaaW.PrintWords Go.Proofs.Ytejinhnmabnomaa.Pm Go.Proofs.Ytejinhnmabnomaa.Pw

/-- The walks' blocks lie apart. -/
structure Sep (n : Nat) (k : Nat → Wr) (b : Nat) : Prop where
  gg : ∀ i j, i < n → j < n → i ≠ j → (k i).g ≠ (k j).g
  gx : ∀ i j, i < n → j < n → (k i).X ≠ (k j).g ∧ (k i).b ≠ (k j).g
  bg : ∀ i, i < n → b ≠ (k i).g
def OfG (n : Nat) (k : Nat → Wr) (x : Nat) : Prop := ∃ i, i < n ∧ x = (k i).g
theorem WL.bs {w0 w : World} {b n : Nat} {k : Nat → Wr} {r : Nat → RS} (h : WL w0 w b n k r) (hn : 0 < n) : b < w.heap.size := World.block_lt_of_cell? w _ (h.cell 0 hn)
theorem WL.more {w0 w w' : World} {b n : Nat} {k : Nat → Wr} {r : Nat → RS} (h : WL w0 w b n k r) (hb : Below w.heap.size w w') : WL w0 w' b n k r :=
  ⟨fun i hi => (hb.cell (p := ⟨b, i, none⟩) (World.block_lt_of_cell? w _ (h.cell i hi))).trans (h.cell i hi), fun i hi => (h.ws i hi).more hb⟩
theorem WL.apart {w0 w : World} {b n B : Nat} {k : Nat → Wr} {r : Nat → RS} (h : WL w0 w b n k r) (hB : w.heap.size ≤ B) : ∀ i, i < n → Apart (k i) B := fun i hi => by
  have := (h.ws i hi).gs
  exact ⟨by omega, by omega, by omega⟩
/-- One of the walks has gone on. -/
theorem WL.step {w0 w w' : World} {b n m : Nat} {k : Nat → Wr} {r : Nat → RS} {x : RS} (h : WL w0 w b n k r) (hs : Sep n k b) (hm : m < n) (hx : Ws w0 w' (k m) x) (c : Chg (fun i => i = (k m).g) w w') : WL w0 w' b n k (setR r m x) :=
  ⟨fun i hi => c.cell (h.cell i hi) (hs.bg m hm), fun i hi => by
    by_cases e : i = m
    · subst e; rw [setR_self]; exact hx
    · rw [setR_ne _ _ _ _ e]
      exact (h.ws i hi).chg c (fun j hj => by rw [hj]; exact (h.ws m hm).gs.2.2.2.1) (hs.gg i m hi hm e) (hs.gx i m hi hm).1 (hs.gx i m hi hm).2⟩

theorem new2b (wr : World) (u v : Value) (t t' : TypeId) : ((wr.alloc (.cells #[u] t)).alloc (.cells #[v] t')).heap[wr.heap.size + 1]? = some (.cells #[v] t' (0, 0)) := by
  have h := heap_alloc_new (wr.alloc (.cells #[u] t)) (.cells #[v] t')
  rw [World.size_alloc] at h
  exact h
theorem new2 (wr : World) (u v : Value) (t t' : TypeId) : ((wr.alloc (.cells #[u] t)).alloc (.cells #[v] t')).cell? ⟨wr.heap.size + 1, 0, none⟩ = some v ∧ ((wr.alloc (.cells #[u] t)).alloc (.cells #[v] t')).frozen? ⟨wr.heap.size + 1, 0, none⟩ = false := cell1 (new2b wr u v t t')
theorem cl_new {w0 wr : World} (h : w0.heap.size ≤ wr.heap.size) :
    Cl w0 ((wr.alloc (.cells #[.bool false] 4)).alloc (.cells #[.func (.func 49) #[] #[.pointer (some ⟨wr.heap.size, 0, none⟩)]] 91)) wr.heap.size (wr.heap.size + 1) false ∧
    Below wr.heap.size wr ((wr.alloc (.cells #[.bool false] 4)).alloc (.cells #[.func (.func 49) #[] #[.pointer (some ⟨wr.heap.size, 0, none⟩)]] 91)) := by
  refine ⟨⟨?_, new2b wr _ _ _ _, h, by omega⟩, ((Below.refl _ wr).alloc (Nat.le_refl _) _).alloc (by rw [World.size_alloc]; omega) _⟩
  rw [Below.heap_alloc _ _ _ (by rw [World.size_alloc]; omega)]
  exact heap_alloc_new wr (.cells #[.bool false] 4)
/-- What walks that have leapt bring. -/
def LPost (w0 w : World) (b n : Nat) (k : Nat → Wr) (p : Nat → List Int) (bd : Int) (e : Ending) (w' : World) : Prop :=
  ∃ (r' : Nat → RS) (res : Bool), e = .returned (.bool res) ∧ WL w0 w' b n k r' ∧ Lp n (fun i => (k i).L) p bd r' ∧ Chg (OfG n k) w w' ∧
      (res = true → ∃ x, ∀ i, i < n → (r' i).beh = false ∧ ky (p i) (r' i) = x) ∧ (res = false → ∃ i, i < n ∧ (r' i).beh = true)
theorem leaps_ok {w0 w : World} {b n c : Nat} {k : Nat → Wr} {r : Nat → RS} {p : Nat → List Int} {bd : Int} (h : WL w0 w b n k r) (hs : Sep n k b) (hl : Lp n (fun i => (k i).L) p bd r) (hp : ∀ i, i < n → (p i).length ≤ 2) (hn : 0 < n) (hsm : n ≤ 1000) (hw : w0.heap.size ≤ w.heap.size) :
    Calls Try.prog 32 #[.slice (some ⟨b, 0, none⟩) n c] w (LPost w0 w b n k p bd) := by
  have HS := Lib.hid (And.intro hs (And.intro hp (And.intro hw hn))); clear hs hp hw
  have HI := Lib.hid (And.intro h hl); clear h hl
  have hi0 : (0 : Int) < (n : Int) := by omega
  have hnN : (n : Int) ≤ 1000 := by omega
  go_enter Try.func32, Try.ntmps32
  go_wp2_with fail
  go_loopg [2] (sumTo (fun i => rem (k i).L (p i) (r i)) n + 1) (fun g s2 wr => ∃ rr : Nat → RS, sumTo (fun i => rem (k i).L (p i) (rr i)) n < g ∧ WL w0 wr b n k rr ∧ Lp n (fun i => (k i).L) p bd rr ∧ Chg (OfG n k) w wr)
  case atStart => exact ⟨r, by omega, HI.out.1, HI.out.2, Chg.refl _ _⟩
  case round =>
    obtain ⟨rr, hg, hWL, hLP, hch⟩ := hrel
    have HL := Lib.hid (And.intro hWL (And.intro hLP (And.intro hch hg)))
    clear hWL hLP hch hg
    obtain ⟨z1, z2⟩ := new2 wr (.bool false) .nilFunc 4 91
    have HN := Lib.hid (cl_new (w0 := w0) (wr := wr) (Nat.le_trans HS.out.2.2.1 HL.out.2.2.1.size))
    go_wp2_with (go_at_call 50; refine (min_cl (c := c) (HL.out.1.more HN.out.2) HN.out.1 (by have := HL.out.1.bs HS.out.2.2.2; omega) (HL.out.1.apart (Nat.le_refl _)) HS.out.2.2.2 hsm).mono ?_; rintro e w3 ⟨m, b1, hm, rfl, hc3, hg3, hb3, hle3⟩)
    have hW3 := (HL.out.1.more HN.out.2).chg hg3 hc3.wB (by have := HL.out.1.bs HS.out.2.2.2; omega) (HL.out.1.apart (Nat.le_refl _))
    have hk3 := (cell1 hc3.bK).1
    unfold keyF at hk3
    have hl3 := hW3.cell 0 HS.out.2.2.2
    have H3 := Lib.hid (And.intro hm (And.intro hc3 (And.intro hg3 (And.intro hb3 (And.intro hle3 hW3)))))
    clear hm hc3 hg3 hb3 hle3 hW3 z1 z2
    go_region_held3 (fun W => W.cell? ⟨wr.heap.size + 1, 0, none⟩ = some (.func (.func 49) #[] #[.pointer (some ⟨wr.heap.size, 0, none⟩)]) ∧ W.cell? ⟨b, 0, none⟩ = some (.pointer (some ⟨(k 0).g, 0, none⟩))) (go_keep)
      (first | (go_at_call 49; refine (key_cl' (k := k 0) (H3.out.2.2.2.2.2.ws 0 HS.out.2.2.2).drew H3.out.2.1.drew).mono ?_; rintro e w4 ⟨rfl, hc4, hg4⟩; have hk4 := (cell1 hc4.bK).1; unfold keyF at hk4; have hl4 := hg4.cell hl3 (show ¬ b = wr.heap.size by have := HL.out.1.bs HS.out.2.2.2; omega); have H4 := Lib.hid (And.intro hc4 hg4); clear hc4 hg4))
    go_wp2_with fail
    have hW4 := (H3.out.2.2.2.2.2.more (Below.drew (Below.refl _ _))).chg H4.out.2 H4.out.1.wB (by have := HL.out.1.bs HS.out.2.2.2; omega) (HL.out.1.apart (Nat.le_refl _))
    have hb4 : (b1 || !(rKey (rr 0)).2) = true → ∃ i, i < n ∧ (rKey (rr i)).2 = false := fun h => by
      rcases Bool.or_eq_true_iff.1 h with h | h
      · exact (H3.out.2.2.2.1 h).resolve_left (by simp)
      · exact ⟨0, HS.out.2.2.2, by simpa using h⟩
    have H5 := Lib.hid (And.intro hW4 hb4)
    obtain ⟨b4, hb4e⟩ : ∃ b4, (b1 || !(rKey (rr 0)).2) = b4 := ⟨_, rfl⟩
    rw [hb4e] at H4 H5
    clear hW4 hb4 hk3 hl3 hk4 hl4
    go_loopg [6, 20] n (fun g s6 s20 wx => ∃ (i : Nat) (bb : Bool) (mx : Int), i ≤ n ∧ n - i ≤ g ∧ s20 = .int .i64 i ∧ s6 = .int .i64 mx ∧ Cl w0 wx wr.heap.size (wr.heap.size + 1) bb ∧ Chg (fun i => i = wr.heap.size) w4 wx ∧ (bb = true ↔ b4 = true ∨ ∃ j, j < i ∧ (rKey (rr j)).2 = false) ∧ (∃ j, j < n ∧ mx = (rKey (rr j)).1) ∧ ∀ j, j < i → (rKey (rr j)).1 ≤ mx)
    case atStart => exact ⟨0, b4, _, by omega, by omega, rfl, rfl, H4.out.1, Chg.refl _ _, ⟨.inl, fun h => h.elim id (fun ⟨j, hj, _⟩ => absurd hj (by omega))⟩, ⟨0, HS.out.2.2.2, rfl⟩, fun j hj => absurd hj (by omega)⟩
    case round =>
      obtain ⟨i, bb, mx, hi, hg2, rfl, rfl, hc5, hg5, hbb, hmx, hle5⟩ := hrel
      have HR := Lib.hid (And.intro hc5 (And.intro hg5 (And.intro hbb (And.intro hmx hle5))))
      have hW5 := H5.out.1.chg hg5 hc5.wB (by have := HL.out.1.bs HS.out.2.2.2; omega) (HL.out.1.apart (Nat.le_refl _))
      have hk5 := (cell1 hc5.bK).1
      unfold keyF at hk5
      have hb5 := (cell1 hc5.bB).1
      have HW5 := Lib.hid hW5
      by_cases hlt : i < n
      · have hl5 := hW5.cell i hlt
        have hd : decide ((i : Int) < (n : Int)) = true := by simp; omega
        have hl2 : (i : Int) < (n : Int) := by omega
        clear hc5 hg5 hbb hmx hle5 hW5 hb5
        go_wp2_with (go_at_call 49; refine (key_cl' (HW5.out.ws i hlt) HR.out.1).mono ?_; rintro e w6 ⟨rfl, hc6, hg6⟩; have H6 := Lib.hid (And.intro hc6 hg6); clear hc6 hg6)
        go_roundg (n - (i + 1))
        case measure => omega
        case rel =>
          refine ⟨i + 1, _, _, by omega, Nat.le_refl _, by go_num, rfl, H6.out.1, HR.out.2.1.trans H6.out.2 (fun i _ e => e), ?_, ?_, fun j hj => ?_⟩
          · rw [Bool.or_eq_true, HR.out.2.2.1]
            constructor
            · rintro ((h | ⟨j, hj, h⟩) | h)
              · exact .inl h
              · exact .inr ⟨j, by omega, h⟩
              · exact .inr ⟨i, by omega, by simpa using h⟩
            · rintro (h | ⟨j, hj, h⟩)
              · exact .inl (.inl h)
              · by_cases e : j < i
                · exact .inl (.inr ⟨j, e, h⟩)
                · obtain rfl : j = i := by omega
                  exact .inr (by rw [h]; rfl)
          · by_cases e : mx ≤ (rKey (rr i)).1
            · exact ⟨i, hlt, by omega⟩
            · obtain ⟨j, hj, h⟩ := HR.out.2.2.2.1
              exact ⟨j, hj, by omega⟩
          · by_cases e : j < i
            · have := HR.out.2.2.2.2 j e; omega
            · obtain rfl : j = i := by omega
              omega
      · have hin : i = n := by omega
        have hd : decide ((i : Int) < (n : Int)) = false := by simp; omega
        have hl2 : ¬ (i : Int) < (n : Int) := by omega
        have hCH : Chg (OfG n k) w wr := by
          have hsz := HL.out.2.2.1.size
          exact (((HL.out.2.2.1.trans (Chg.of_below (OfG n k) HN.out.2) (fun _ _ e => e)).trans H3.out.2.2.1 (fun i hi e => by have e : i = _ := e; omega)).trans (Chg.drew (fun _ => False) w3) (fun _ _ e => e.elim)).trans (H4.out.2.trans HR.out.2.1 (fun i _ e => e)) (fun i hi e => by have e : i = _ := e; omega)
        have hALL : bb = false → ∀ j, j < n → (rKey (rr j)).2 = true := fun h j hj => by
          cases e : (rKey (rr j)).2 with
          | true => rfl
          | false =>
            have := HR.out.2.2.1.2 (.inr ⟨j, by omega, e⟩)
            rw [h] at this
            cases this
        have hANY : bb = true → ∃ j, j < n ∧ (rKey (rr j)).2 = false := fun h => by
          rcases HR.out.2.2.1.1 h with h | ⟨j, hj, h⟩
          · exact H5.out.2 h
          · exact ⟨j, by omega, h⟩
        have HE := Lib.hid (And.intro hCH (And.intro hALL hANY))
        clear hc5 hg5 hbb hmx hle5 hW5 hCH hALL hANY
        cases bb
        · obtain ⟨dk, hdk⟩ : ∃ d, ((rKey (rr m)).1 == mx) = d := ⟨_, rfl⟩
          have hOK : ∀ j, j < n → (rr j).beh = false ∧ (rKey (rr j)).1 = ky (p j) (rr j) := fun j hj => by
            have h1 := HE.out.2.1 (by trivial) j hj
            have h2 := HL.out.2.1.on j hj
            rw [h2.key2] at h1
            have h3 : (rr j).beh = false := by simpa using h1
            exact ⟨h3, h2.key1 h3⟩
          have HO := Lib.hid hOK
          clear hOK
          cases dk
          · go_wp2_with (first
              | (go_at_call 49; refine (key_cl' (HW5.out.ws m H3.out.1) HR.out.1).mono ?_; rintro e w6 ⟨rfl, hc6, hg6⟩; have H6 := Lib.hid (And.intro hc6 hg6); clear hc6 hg6)
              | (go_at_call 52; refine (ws_seek ((HW5.out.ws m H3.out.1).apart H6.out.2 HR.out.1.wB (HL.out.1.apart (Nat.le_refl _) m H3.out.1)) mx).mono ?_; rintro e w7 ⟨rfl, hw7, hg7⟩; have H7 := Lib.hid (And.intro hw7 hg7); clear hw7 hg7))
            have hne : ¬ (rKey (rr m)).1 = mx := by simpa using hdk
            obtain ⟨j, hj, hmj⟩ := HR.out.2.2.2.1
            have hkj := (HO.out j hj).2
            have hkm := (HO.out m H3.out.1).2
            have hlt2 : ky (p m) (rr m) < ky (p j) (rr j) := by have := H3.out.2.2.2.2.1 j hj; omega
            have hmx : mx = ky (p j) (rr j) := by omega
            have LS := HL.out.2.1.seek (fun i hi => (HW5.out.ws i hi).rise) HS.out.2.1 H3.out.1 hj (HO.out m H3.out.1).1 (HO.out j hj).1 hlt2
            have hlt3 := HL.out.2.2.2
            have W6 := HW5.out.chg H6.out.2 HR.out.1.wB (by have := HL.out.1.bs HS.out.2.2.2; omega) (HL.out.1.apart (Nat.le_refl _))
            have C6 := HE.out.1.trans H6.out.2 (fun i hi e => by have := HL.out.2.2.1.size; have e : i = _ := e; omega)
            rw [← hmx] at LS
            go_roundg (sumTo (fun i => rem (k i).L (p i) (rr i)) n)
            case measure => exact hlt3
            case rel => exact ⟨_, LS.2, W6.step HS.out.1 H3.out.1 H7.out.1 H7.out.2, LS.1, C6.trans H7.out.2 (fun i hi e => ⟨m, H3.out.1, e⟩)⟩
          · go_wp2_with (go_at_call 49; refine (key_cl' (HW5.out.ws m H3.out.1) HR.out.1).mono ?_; rintro e w6 ⟨rfl, hc6, hg6⟩; have H6 := Lib.hid (And.intro hc6 hg6); clear hc6 hg6)
            go_ret
            have hmk : (rKey (rr m)).1 = mx := by simpa using hdk
            exact ⟨rr, true, rfl, (HW5.out.chg H6.out.2 HR.out.1.wB (by have := HL.out.1.bs HS.out.2.2.2; omega) (HL.out.1.apart (Nat.le_refl _))), HL.out.2.1, HE.out.1.trans H6.out.2 (fun i hi e => by have := HL.out.2.2.1.size; omega), (fun _ => ⟨mx, fun j hj => by
              have h1 := HO.out j hj
              have h2 := H3.out.2.2.2.2.1 j hj
              have h3 := HR.out.2.2.2.2 j (by omega)
              exact ⟨h1.1, by omega⟩⟩), fun h => nomatch h⟩
        · go_wp2
          go_ret
          obtain ⟨j, hj, h⟩ := HE.out.2.2 trivial
          exact ⟨rr, false, rfl, HW5.out, HL.out.2.1, HE.out.1, (fun h => nomatch h), fun _ => ⟨j, hj, by have := (HL.out.2.1.on j hj).key2; rw [h] at this; simpa using this.symm⟩⟩
end Go.Proofs.Ytejinhnmabnomaa.Lf
end
section
/-
  slices.Clone at walks and at numbers: the shelf's contract, laid at two more instances. Conditions: the blocks lie as told.
-/
namespace Go.Proofs.Ytejinhnmabnomaa.Lf
open Go.RowKit Go.Proofs.YtejinhnmabnomaaW.PrintWords Go.Proofs.Ytejinhnmabnomaa.Pm Go.Proofs.Ytejinhnmabnomaa.Pw
def laysCw_ren : Go.Shelf.Ren := ⟨fun | 41 => 28 | n => n, fun | 22 => 52 | 23 => 50 | 4 => 4 | n => n, fun | n => n⟩
theorem laysCw : Go.Proofs.SlLaysE0.n41 Try.prog laysCw_ren := {
  mixed := by kernel_rfl
  f41 := ⟨Try.f28.name, by decide, Try.func28.trans (congrArg some (by kernel_rfl))⟩
  t4 := Try.underlying4
  a4 := Try.isAgg4
  z4 := Try.sizeOf4
  v4 := Try.zeroValue4
  t22 := Try.underlying52
  a22 := Try.isAgg52
  z22 := Try.sizeOf52
  v22 := Try.zeroValue52 }
def laysCi_ren : Go.Shelf.Ren := ⟨fun | 41 => 17 | n => n, fun | 22 => 23 | 23 => 3 | 4 => 4 | n => n, fun | n => n⟩
theorem laysCi : Go.Proofs.SlLaysE0.n41 Try.prog laysCi_ren := {
  mixed := by kernel_rfl
  f41 := ⟨Try.f17.name, by decide, Try.func17.trans (congrArg some (by kernel_rfl))⟩
  t4 := Try.underlying4
  a4 := Try.isAgg4
  z4 := Try.sizeOf4
  v4 := Try.zeroValue4
  t22 := Try.underlying23
  a22 := Try.isAgg23
  z22 := Try.sizeOf23
  v22 := Try.zeroValue23 }
/-- Clone of a slice of walks that is not nil. -/
theorem clone_w (w : World) (b n c : Nat) (l : List Wr) (hl : l.length = n) (hn : n ≤ 1000) (hc : ∀ j k, l[j]? = some k → w.cell? ⟨b, 0 + j, none⟩ = some k.ptr) :
    Calls Try.prog 28 #[.slice (some ⟨b, 0, none⟩) n c] w fun e w' => ∃ v', e = .returned v' ∧ w'.ownsRow w.heap.size 50 1 v' n (l.map Wr.ptr) ∧ v' ≠ .slice none 0 0 ∧ Below w.heap.size w w' := by
  obtain ⟨i0, hi, hz⟩ := Option.map_eq_some_iff.1 (show (Try.prog.info? 50).map (fun i => (i.zero, i.size, i.bytes)) = some (some (.pointer none), 1, 8) by kernel_rfl)
  simp only [Prod.mk.injEq] at hz
  exact AnyE.slices_Clone laysCw i0 (.pointer none) 1 8 hi hz.1 hz.2.1 hz.2.2 rfl (by omega) Try.sizeOf50 b 0 n c (l.map Wr.ptr) w (by simp [hl]) (by unfold maxLen; omega) (by omega) (fun j u hu => by
    rw [List.getElem?_map] at hu
    obtain ⟨k, hk, rfl⟩ := Option.map_eq_some_iff.1 hu
    exact hc j k hk) (fun u hu => by obtain ⟨k, _, rfl⟩ := List.mem_map.1 hu; rfl)
/-- Clone of a slice of numbers that is not nil. -/
theorem clone_i (w : World) (b off n c : Nat) (l : List Int) (hl : l.length = n) (hn : n ≤ 1000) (hc : ∀ j x, l[j]? = some x → w.cell? ⟨b, off + j, none⟩ = some (.int .i64 x)) :
    Calls Try.prog 17 #[.slice (some ⟨b, off, none⟩) n c] w fun e w' => ∃ v', e = .returned v' ∧ w'.ownsRow w.heap.size 3 1 v' n (l.map (Value.int .i64)) ∧ v' ≠ .slice none 0 0 ∧ Below w.heap.size w w' := by
  obtain ⟨i0, hi, hz⟩ := Option.map_eq_some_iff.1 (show (Try.prog.info? 3).map (fun i => (i.zero, i.size, i.bytes)) = some (some (.int .i64 0), 1, 8) by kernel_rfl)
  simp only [Prod.mk.injEq] at hz
  exact AnyE.slices_Clone laysCi i0 (.int .i64 0) 1 8 hi hz.1 hz.2.1 hz.2.2 rfl (by omega) Try.sizeOf3 b off n c (l.map (Value.int .i64)) w (by simp [hl]) (by unfold maxLen; omega) (by omega) (fun j u hu => by
    rw [List.getElem?_map] at hu
    obtain ⟨k, hk, rfl⟩ := Option.map_eq_some_iff.1 hu
    exact hc j k hk) (fun u hu => by obtain ⟨k, _, rfl⟩ := List.mem_map.1 hu; rfl)
end Go.Proofs.Ytejinhnmabnomaa.Lf
end
section
/-
  What a visit of a variable defers: the walks that it opened go up. Conditions: the blocks lie as told.
-/
namespace Go.Proofs.Ytejinhnmabnomaa.Lf
open Go.RowKit Go.Proofs.YtejinhnmabnomaaW.PrintWords Go.Proofs.Ytejinhnmabnomaa.Pm Go.Proofs.Ytejinhnmabnomaa.Pw

def upTo (m : Nat) (r : Nat → RS) : Nat → RS := fun i => if i < m then (rUp (r i)).1 else r i
theorem WL.congr {w0 w : World} {b n : Nat} {k : Nat → Wr} {r r' : Nat → RS} (h : WL w0 w b n k r) (e : ∀ i, i < n → r i = r' i) : WL w0 w b n k r' := ⟨h.cell, fun i hi => by rw [← e i hi]; exact h.ws i hi⟩

theorem ups_ok {u : FrameMode} {w0 w : World} {b n c m A O : Nat} {k : Nat → Wr} {r : Nat → RS} (h : WL w0 w b n k r) (hs : Sep n k b) (hA : w.cell? ⟨A, 0, none⟩ = some (.slice (some ⟨b, 0, none⟩) n c)) (hO : w.cell? ⟨O, 0, none⟩ = some (.int .i64 m)) (hm : m ≤ n) (hc : n ≤ c) (hn : n ≤ 1000) :
    CallsD Try.prog 29 #[.pointer (some ⟨A, 0, none⟩), .pointer (some ⟨O, 0, none⟩)] u w fun e u' w' => u' = u ∧ (e = .returned (.tuple #[]) ∧ WL w0 w' b n k (upTo m r) ∧ Chg (OfG n k) w w') := by
  have HI := Lib.hid (And.intro h hs); clear h hs
  have hmc : (m : Int) ≤ (c : Int) := by omega
  have hmN : (m : Int) ≤ 1000 := by omega
  have hm0 : (0 : Int) ≤ (m : Int) := by omega
  have hmc2 : m ≤ c := by omega
  go_enter_d Try.func29, Try.ntmps29
  go_wp2_with fail
  go_loopg [8] m (fun g s8 wr => ∃ i : Nat, i ≤ m ∧ m - i ≤ g ∧ s8 = .int .i64 i ∧ WL w0 wr b n k (upTo i r) ∧ Chg (OfG n k) w wr)
  case atStart => exact ⟨0, by omega, by omega, rfl, HI.out.1.congr (fun i _ => by unfold upTo; rw [if_neg (by omega)]), Chg.refl _ _⟩
  case round =>
    obtain ⟨i, hi, hg, rfl, hWL, hch⟩ := hrel
    have HL := Lib.hid (And.intro hWL hch)
    by_cases hlt : i < m
    · have hcell := hWL.cell i (by omega)
      have hws := hWL.ws i (by omega)
      have e : upTo i r i = r i := by unfold upTo; rw [if_neg (by omega)]
      rw [e] at hws
      have HW := Lib.hid hws
      have hd : decide ((i : Int) < (m : Int)) = true := by simp; omega
      have hl2 : (i : Int) < (m : Int) := by omega
      clear hWL hch hws e hA hO
      go_wp2_with (go_at_call 30; refine (ws_up HW.out).mono ?_; rintro e w2 ⟨rfl, hw2, hg2⟩; have H2 := Lib.hid (And.intro hw2 hg2); clear hw2 hg2)
      go_roundg (m - (i + 1))
      case measure => omega
      case rel =>
        refine ⟨i + 1, by omega, Nat.le_refl _, by go_num, (HL.out.1.step HI.out.2 (show i < n by omega) H2.out.1 H2.out.2).congr (fun j hj => ?_), HL.out.2.trans H2.out.2 (fun x hx e => ⟨i, by omega, e⟩)⟩
        unfold upTo setR
        by_cases e1 : j = i
        · subst e1; rw [if_pos rfl, if_pos (by omega)]
        · rw [if_neg e1]
          show (if j < i then (rUp (r j)).1 else r j) = _
          by_cases e2 : j < i
          · rw [if_pos e2, if_pos (by omega)]
          · rw [if_neg e2, if_neg (by omega)]
    · have hin : i = m := by omega
      have hd : decide ((i : Int) < (m : Int)) = false := by simp; omega
      have hl2 : ¬ (i : Int) < (m : Int) := by omega
      clear hWL hch hA hO
      go_wp2
      rw [hin] at HL
      exact bodyPost_end (v := .tuple #[]) (by simp [results, Try.results29, go_sem]) rfl ⟨rfl, HL.out.1, HL.out.2⟩
end Go.Proofs.Ytejinhnmabnomaa.Lf
end
