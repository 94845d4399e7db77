/-
  The law of a walk that tells all rows: what lies in memory in a round, and the calls told by it. Conditions: the blocks lie as told.
-/
import Derived.Test.YthapkpgkcckapaaPd1
import Derived.Test.YthapkpgkcckapaaPc3
namespace Go.Proofs.Ythapkpgkcckapaa.Pw
open Go.RowKit Go.Proofs.YthapkpgkcckapaaW.PrintWords Go.Proofs.Ythapkpgkcckapaa.Pm

/-- A row with another number at a place. -/
def put3 (r : R3) (i : Nat) (x : Int) : R3 := if i = 0 then { r with a := x } else if i = 1 then { r with b := x } else { r with c := x }
def boxO (r : R3) : Obj := .cells #[.int .i64 r.a, .int .i64 r.b, .int .i64 r.c] 23
theorem put3_all (o : Ord) (ho : Six o) (r q : R3) : put3 (put3 (put3 r o.z (q.at o.z)) o.y (q.at o.y)) o.x (q.at o.x) = q := by
  obtain ⟨p, u, v⟩ := o
  rcases ho with ⟨rfl, rfl, rfl⟩ | ⟨rfl, rfl, rfl⟩ | ⟨rfl, rfl, rfl⟩ | ⟨rfl, rfl, rfl⟩ | ⟨rfl, rfl, rfl⟩ | ⟨rfl, rfl, rfl⟩ <;> rfl
def ordR (o : Ord) : R3 := ⟨o.x, o.y, o.z⟩

/-- What lies in memory in a round. -/
structure Lp (w0 w : World) (B g X b c ob ab : Nat) (o : Ord) (L : List R3) (s : St) (v : Value) (M : List R3) (r : R3) : Prop where
  at_ : At w0 w g X b c o L s
  own : OwnR w B v M
  obk : w.heap[ob]? = some (boxO (ordR o))
  abk : w.heap[ab]? = some (boxO r)
  gB : g < B
  XB : X < B
  bB : b < B
  oB : ob < B
  aB : ab < B
  go : ob ≠ g
  ga : ab ≠ g
  Xa : X ≠ ab
  ba : b ≠ ab
  oa : ob ≠ ab
  wa : w0.heap.size ≤ ab
  wB : w0.heap.size ≤ B
  bw : B ≤ w.heap.size
theorem Lp.abs {w0 w : World} {B g X b c ob ab : Nat} {o : Ord} {L : List R3} {s : St} {v : Value} {M : List R3} {r : R3} (h : Lp w0 w B g X b c ob ab o L s v M r) : ab < w.heap.size := (Array.getElem?_eq_some_iff.1 h.abk).1
theorem Lp.obs {w0 w : World} {B g X b c ob ab : Nat} {o : Ord} {L : List R3} {s : St} {v : Value} {M : List R3} {r : R3} (h : Lp w0 w B g X b c ob ab o L s v M r) : ob < w.heap.size := (Array.getElem?_eq_some_iff.1 h.obk).1
theorem own_ne {w : World} {B : Nat} {v : Value} {M : List R3} (h : OwnR w B v M) (k : Nat) (hk : k < B) : v.ownBlock = none ∨ v.ownBlock ≠ some k := by
  cases e : v.ownBlock with
  | none => exact .inl rfl
  | some j => exact .inr fun e2 => by have := own_base h j e; have := Option.some.inj e2; omega
theorem OwnR.kept {w w' : World} {B : Nat} {v : Value} {M : List R3} (h : OwnR w B v M) {row : Option Nat} (hg : w.grownBy w' row) (hne : v.ownBlock = none ∨ v.ownBlock ≠ row) : OwnR w' B v M := own_other h hg hne

theorem Lp.walk {w0 w w' : World} {B g X b c ob ab : Nat} {o : Ord} {L : List R3} {s s' : St} {v : Value} {M : List R3} {r : R3} (h : Lp w0 w B g X b c ob ab o L s v M r) (ha : At w0 w' g X b c o L s') (hg : w.grownBy w' (some g)) : Lp w0 w' B g X b c ob ab o L s' v M r :=
  ⟨ha, h.own.kept hg (own_ne h.own g h.gB), (hg.block ob h.obs (fun e => h.go (Option.some.inj e))).trans h.obk, (hg.block ab h.abs (fun e => h.ga (Option.some.inj e))).trans h.abk,
    h.gB, h.XB, h.bB, h.oB, h.aB, h.go, h.ga, h.Xa, h.ba, h.oa, h.wa, h.wB, Nat.le_trans h.bw hg.size⟩
theorem Lp.more {w0 w w' : World} {B g X b c ob ab : Nat} {o : Ord} {L : List R3} {s : St} {v : Value} {M : List R3} {r : R3} (h : Lp w0 w B g X b c ob ab o L s v M r) (hb : Below w.heap.size w w') : Lp w0 w' B g X b c ob ab o L s v M r :=
  h.walk (h.at_.more hb) (Wk.grown hb)
theorem put_block (w : World) (ab i : Nat) (r : R3) (x : Int) (h : w.heap[ab]? = some (boxO r)) (hi : i < 3) : (w.setCell ⟨ab, i, none⟩ (.int .i64 x)).heap[ab]? = some (boxO (put3 r i x)) := by
  refine (heap_set w ab i _ _ _ h).trans ?_
  unfold boxO put3
  obtain rfl | rfl | rfl : i = 0 ∨ i = 1 ∨ i = 2 := by omega
  all_goals rfl
theorem Lp.store {w0 w : World} {B g X b c ob ab : Nat} {o : Ord} {L : List R3} {s : St} {v : Value} {M : List R3} {r : R3} (h : Lp w0 w B g X b c ob ab o L s v M r) (i : Nat) (hi : i < 3) (x : Int) : Lp w0 (w.setCell ⟨ab, i, none⟩ (.int .i64 x)) B g X b c ob ab o L s v M (put3 r i x) := by
  have hg := grown_set w ab i (.int .i64 x)
  exact ⟨h.at_.other hg h.wa (fun e => h.ga e.symm) h.Xa h.ba, h.own.kept hg (own_ne h.own ab h.aB), (hg.block ob h.obs (fun e => h.oa (Option.some.inj e))).trans h.obk, put_block w ab i r x h.abk hi,
    h.gB, h.XB, h.bB, h.oB, h.aB, h.go, h.ga, h.Xa, h.ba, h.oa, h.wa, h.wB, Nat.le_trans h.bw hg.size⟩
theorem at_own {w0 w w' : World} {g X b c B : Nat} {o : Ord} {L : List R3} {s : St} {v : Value} {M : List R3} (h : At w0 w g X b c o L s) (hv : OwnR w B v M) (hg : w.grownBy w' v.ownBlock) (hw : w0.heap.size ≤ B) (h1 : g < B) (h2 : X < B) (h3 : b < B) : At w0 w' g X b c o L s := by
  cases e : v.ownBlock with
  | none =>
    rw [e] at hg
    exact h.more ⟨hg.os, hg.tape, hg.output, hg.size, fun k hk => hg.block k hk (by simp)⟩
  | some k =>
    rw [e] at hg
    have := own_base hv k e
    exact h.other hg (by omega) (by omega) (by omega) (by omega)
theorem Lp.app {w0 w w' : World} {B g X b c ob ab : Nat} {o : Ord} {L : List R3} {s : St} {v v' : Value} {M M' : List R3} {r : R3} (h : Lp w0 w B g X b c ob ab o L s v M r) (hv : OwnR w' B v' M') (hg : w.grownBy w' v.ownBlock) : Lp w0 w' B g X b c ob ab o L s v' M' r := by
  have hne : ∀ k, k < B → v.ownBlock ≠ some k := fun k hk e => by have := own_base h.own k e; omega
  exact ⟨at_own h.at_ h.own hg h.wB h.gB h.XB h.bB, hv, (hg.block ob h.obs (fun e => hne ob h.oB e.symm)).trans h.obk, (hg.block ab h.abs (fun e => hne ab h.aB e.symm)).trans h.abk,
    h.gB, h.XB, h.bB, h.oB, h.aB, h.go, h.ga, h.Xa, h.ba, h.oa, h.wa, h.wB, Nat.le_trans h.bw hg.size⟩

section
variable {w0 w : World} {B g X b c ob ab : Nat} {o : Ord} {L : List R3} {s : St} {v : Value} {M : List R3} {r : R3}
theorem lp_open (h : Lp w0 w B g X b c ob ab o L s v M r) {s' : St} {k : Int} (e : opOpen L o s = (s', k)) :
    Calls Try.prog 15 #[.pointer (some ⟨g, 0, none⟩)] w fun e w' => e = .returned (.int .i64 k) ∧ Lp w0 w' B g X b c ob ab o L s' v M r := by
  refine (at_open h.at_).mono ?_
  rintro e' w' ⟨he, ha, hg⟩
  rw [e] at he ha
  exact ⟨he, h.walk ha hg⟩
theorem lp_up (h : Lp w0 w B g X b c ob ab o L s v M r) {s' : St} {k : Int} (e : opUp s = (s', k)) :
    Calls Try.prog 17 #[.pointer (some ⟨g, 0, none⟩)] w fun e w' => e = .returned (.int .i64 k) ∧ Lp w0 w' B g X b c ob ab o L s' v M r := by
  refine (at_up h.at_).mono ?_
  rintro e' w' ⟨he, ha, hg⟩
  rw [e] at he ha
  exact ⟨he, h.walk ha hg⟩
theorem lp_next (h : Lp w0 w B g X b c ob ab o L s v M r) {s' : St} {k : Int} (e : opNext L o s = (s', k)) :
    Calls Try.prog 19 #[.pointer (some ⟨g, 0, none⟩)] w fun e w' => e = .returned (.int .i64 k) ∧ Lp w0 w' B g X b c ob ab o L s' v M r := by
  refine (at_next h.at_).mono ?_
  rintro e' w' ⟨he, ha, hg⟩
  rw [e] at he ha
  exact ⟨he, h.walk ha hg⟩
theorem lp_seek (h : Lp w0 w B g X b c ob ab o L s v M r) {n : Int} {s' : St} {k : Int} (e : opSeek L o s n = (s', k)) :
    Calls Try.prog 21 #[.pointer (some ⟨g, 0, none⟩), .int .i64 n] w fun e w' => e = .returned (.int .i64 k) ∧ Lp w0 w' B g X b c ob ab o L s' v M r := by
  refine (at_seek h.at_ n).mono ?_
  rintro e' w' ⟨he, ha, hg⟩
  rw [e] at he ha
  exact ⟨he, h.walk ha hg⟩
theorem lp_key (h : Lp w0 w B g X b c ob ab o L s v M r) {n : Int} {k : Bool} (e : opKey L o s = (n, k)) :
    Calls Try.prog 23 #[.pointer (some ⟨g, 0, none⟩)] w fun e w' => e = .returned (.tuple #[.int .i64 n, .bool k]) ∧ Lp w0 w' B g X b c ob ab o L s v M r := by
  refine (at_key h.at_).mono ?_
  rintro e' w' ⟨he, ha, hg⟩
  rw [e] at he
  exact ⟨he, h.more hg⟩
theorem lp_depth (h : Lp w0 w B g X b c ob ab o L s v M r) {d : Nat} (e : s.d = d) :
    Calls Try.prog 25 #[.pointer (some ⟨g, 0, none⟩)] w fun e w' => e = .returned (.int .i64 d) ∧ w = w' := by
  subst e
  exact at_depth h.at_
theorem Lp.ocells (h : Lp w0 w B g X b c ob ab o L s v M r) : w.cell? ⟨ob, 0, none⟩ = some (.int .i64 o.x) ∧ w.cell? ⟨ob, 1, none⟩ = some (.int .i64 o.y) ∧ w.cell? ⟨ob, 2, none⟩ = some (.int .i64 o.z) := by
  have := h.obk
  unfold boxO ordR at this
  refine ⟨?_, ?_, ?_⟩ <;> simp [World.cell?, this]
theorem Lp.acells (h : Lp w0 w B g X b c ob ab o L s v M r) : w.cell? ⟨ab, 0, none⟩ = some (.int .i64 r.a) ∧ w.cell? ⟨ab, 1, none⟩ = some (.int .i64 r.b) ∧ w.cell? ⟨ab, 2, none⟩ = some (.int .i64 r.c) := by
  have := h.abk
  unfold boxO at this
  refine ⟨?_, ?_, ?_⟩ <;> simp [World.cell?, this]
theorem Lp.afree (h : Lp w0 w B g X b c ob ab o L s v M r) (i : Nat) (hi : i < 3) : (∃ x, w.cell? ⟨ab, i, none⟩ = some (.int .i64 x)) ∧ w.frozen? ⟨ab, i, none⟩ = false := by
  obtain ⟨h0, h1, h2⟩ := h.acells
  have := h.abk
  unfold boxO at this
  refine ⟨?_, by simp [World.frozen?, this]⟩
  obtain rfl | rfl | rfl : i = 0 ∨ i = 1 ∨ i = 2 := by omega
  · exact ⟨_, h0⟩
  · exact ⟨_, h1⟩
  · exact ⟨_, h2⟩
end
end Go.Proofs.Ythapkpgkcckapaa.Pw
