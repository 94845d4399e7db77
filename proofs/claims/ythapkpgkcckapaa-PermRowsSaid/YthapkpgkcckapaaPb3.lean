/-
  The law's own witness: what must come whatever the arguments are. No condition.
-/
import Derived.Test.YthapkpgkcckapaaPb2
namespace Go.Proofs.Ythapkpgkcckapaa.Pw
open Go.RowKit Go.Proofs.YthapkpgkcckapaaW.PrintWords Go.Proofs.Ythapkpgkcckapaa.Pm

/-- An index made since a world. -/
structure Mk (w0 w : World) (X b c : Nat) (o : Ord) (L : List R3) : Prop where
  idx : Idx w X o L b 0 c
  rise : L.Pairwise (ltR o)
  below : Below w0.heap.size w0 w
  xs : X < w.heap.size
  bs : b < w.heap.size
  xw : w0.heap.size ≤ X
  bw : w0.heap.size ≤ b
/-- A walk made since a world. -/
structure At (w0 w : World) (g X b c : Nat) (o : Ord) (L : List R3) (s : St) : Prop where
  wk : Wk w g X b 0 c o L s
  below : Below w0.heap.size w0 w
  gw : w0.heap.size ≤ g
  xw : w0.heap.size ≤ X
  bw : w0.heap.size ≤ b
theorem below_grown {w0 w w' : World} {g : Nat} (hb : Below w0.heap.size w0 w) (hg : w.grownBy w' (some g)) (h : w0.heap.size ≤ g) : Below w0.heap.size w0 w' :=
  hb.grown hg hb.size (by intro k hk; rw [Option.some.inj hk.symm]; exact h)
theorem At.step {w0 w w' : World} {g X b c : Nat} {o : Ord} {L : List R3} {s s' : St} (h : At w0 w g X b c o L s) (hk : Wk w' g X b 0 c o L s') (hg : w.grownBy w' (some g)) : At w0 w' g X b c o L s' :=
  ⟨hk, below_grown h.below hg h.gw, h.gw, h.xw, h.bw⟩
theorem At.other {w0 w w' : World} {g X b c g' : Nat} {o : Ord} {L : List R3} {s : St} (h : At w0 w g X b c o L s) (hg : w.grownBy w' (some g')) (hw : w0.heap.size ≤ g') (h1 : g ≠ g') (h2 : X ≠ g') (h3 : b ≠ g') : At w0 w' g X b c o L s :=
  ⟨h.wk.other hg h1 h2 h3, below_grown h.below hg hw, h.gw, h.xw, h.bw⟩
theorem below_tr {B : Nat} {a b c : World} (h : Below B a b) (k : Below b.heap.size b c) (hB : B ≤ b.heap.size) : Below B a c := h.trans (k.mono hB)
theorem At.more {w0 w w' : World} {g X b c : Nat} {o : Ord} {L : List R3} {s : St} (h : At w0 w g X b c o L s) (hb : Below w.heap.size w w') : At w0 w' g X b c o L s :=
  ⟨h.wk.below hb, below_tr h.below hb h.below.size, h.gw, h.xw, h.bw⟩
theorem Mk.more {w0 w w' : World} {X b c : Nat} {o : Ord} {L : List R3} (h : Mk w0 w X b c o L) (hb : Below w.heap.size w w') : Mk w0 w' X b c o L :=
  ⟨h.idx.below hb h.xs h.bs, h.rise, below_tr h.below hb h.below.size, Nat.lt_of_lt_of_le h.xs hb.size, Nat.lt_of_lt_of_le h.bs hb.size, h.xw, h.bw⟩

theorem at_key {w0 w : World} {g X b c : Nat} {o : Ord} {L : List R3} {s : St} (h : At w0 w g X b c o L s) :
    Calls Try.prog 23 #[.pointer (some ⟨g, 0, none⟩)] w fun e w' => e = .returned (.tuple #[.int .i64 (opKey L o s).1, .bool (opKey L o s).2]) ∧ At w0 w' g X b c o L s ∧ Below w.heap.size w w' :=
  (do_key h.wk).mono fun _ _ ⟨he, hd⟩ => ⟨he, h.more hd.below, hd.below⟩
theorem at_open {w0 w : World} {g X b c : Nat} {o : Ord} {L : List R3} {s : St} (h : At w0 w g X b c o L s) :
    Calls Try.prog 15 #[.pointer (some ⟨g, 0, none⟩)] w fun e w' => e = .returned (.int .i64 (opOpen L o s).2) ∧ At w0 w' g X b c o L (opOpen L o s).1 ∧ w.grownBy w' (some g) :=
  (do_open h.wk).mono fun _ _ ⟨he, hk, hg⟩ => ⟨he, h.step hk hg, hg⟩
theorem at_up {w0 w : World} {g X b c : Nat} {o : Ord} {L : List R3} {s : St} (h : At w0 w g X b c o L s) :
    Calls Try.prog 17 #[.pointer (some ⟨g, 0, none⟩)] w fun e w' => e = .returned (.int .i64 (opUp s).2) ∧ At w0 w' g X b c o L (opUp s).1 ∧ w.grownBy w' (some g) :=
  (do_up h.wk).mono fun _ _ ⟨he, hk, hg⟩ => ⟨he, h.step hk hg, hg⟩
theorem at_next {w0 w : World} {g X b c : Nat} {o : Ord} {L : List R3} {s : St} (h : At w0 w g X b c o L s) :
    Calls Try.prog 19 #[.pointer (some ⟨g, 0, none⟩)] w fun e w' => e = .returned (.int .i64 (opNext L o s).2) ∧ At w0 w' g X b c o L (opNext L o s).1 ∧ w.grownBy w' (some g) :=
  (do_next h.wk).mono fun _ _ ⟨he, hk, hg⟩ => ⟨he, h.step hk hg, hg⟩
theorem at_seek {w0 w : World} {g X b c : Nat} {o : Ord} {L : List R3} {s : St} (h : At w0 w g X b c o L s) (n : Int) :
    Calls Try.prog 21 #[.pointer (some ⟨g, 0, none⟩), .int .i64 n] w fun e w' => e = .returned (.int .i64 (opSeek L o s n).2) ∧ At w0 w' g X b c o L (opSeek L o s n).1 ∧ w.grownBy w' (some g) :=
  (do_seek h.wk n).mono fun _ _ ⟨he, hk, hg⟩ => ⟨he, h.step hk hg, hg⟩
theorem at_depth {w0 w : World} {g X b c : Nat} {o : Ord} {L : List R3} {s : St} (h : At w0 w g X b c o L s) :
    Calls Try.prog 25 #[.pointer (some ⟨g, 0, none⟩)] w fun e w' => e = .returned (.int .i64 s.d) ∧ w = w' := depth_at w g X s h.wk.blk
theorem mk_walk {w0 w : World} {X b c : Nat} {o : Ord} {L : List R3} (h : Mk w0 w X b c o L) :
    Calls Try.prog 14 #[.pointer (some ⟨X, 0, none⟩)] w fun e w' => ∃ g, e = .returned (.pointer (some ⟨g, 0, none⟩)) ∧ At w0 w' g X b c o L (root L.length) ∧ Below w.heap.size w w' ∧ w.heap.size ≤ g := by
  refine (walk_at w X o L b 0 c h.idx h.xs).mono ?_
  rintro e w' ⟨rfl, h1, h2, h3⟩
  have hm := h.more h2
  have := h.xs
  have := h.bs
  exact ⟨_, rfl, ⟨⟨hm.idx, h.rise, h1, ok_root L o, hm.xs, hm.bs, by omega, by omega⟩, hm.below, h.below.size, h.xw, h.bw⟩, h2, Nat.le_refl _⟩
theorem mk_len {w0 w : World} {X b c : Nat} {o : Ord} {L : List R3} (h : Mk w0 w X b c o L) :
    Calls Try.prog 26 #[.pointer (some ⟨X, 0, none⟩)] w fun e w' => e = .returned (.int .i64 L.length) ∧ w = w' := by
  obtain ⟨A, _, hblk⟩ := h.idx.blk
  exact len_at w X _ _ _ A L.length c true hblk
/-- **The making of an index, told by its rows.** -/
theorem mk_new (w0 w : World) (hw : Below w0.heap.size w0 w) (v : Value) (l : List R3) (hv : SlR w v l) (hsm : l.length * 24 ≤ 140737488355328) (o : Ord) (ho : Six o) :
    Calls Try.prog 10 #[v, .agg #[.int .i64 o.x, .int .i64 o.y, .int .i64 o.z]] w fun e w' => ∃ X b c, e = .returned (.tuple #[.pointer (some ⟨X, 0, none⟩), .int .i64 0]) ∧ Mk w0 w' X b c o (rowsOf o l) ∧ Below w.heap.size w w' ∧ w.heap.size ≤ X ∧ w.heap.size ≤ b := by
  refine (new_ok w v l hv hsm o ho).mono ?_
  rintro e w' ⟨X, b, c, rfl, h1, h2, h3, h4, h5, h6⟩
  have := hw.size
  exact ⟨X, b, c, rfl, ⟨h1, rowsOf_strict o ho l, below_tr hw h6 hw.size, h3, h5, by omega, by omega⟩, h6, h2, h4⟩

def LA : List R3 := [⟨1, 2, 4⟩, ⟨2, 0, 0⟩, ⟨1, 2, 3⟩, ⟨1, 2, 4⟩]
def LB : List R3 := [⟨1, 2, 3⟩, ⟨1, 2, 4⟩, ⟨2, 0, 0⟩]
def O0 : Ord := ⟨0, 1, 2⟩
theorem six0 : Six O0 := .inl ⟨rfl, rfl, rfl⟩
theorem rowsA : rowsOf O0 LA = LB := rowsOf_eq O0 six0 LA LB (by unfold LB; decide) (fun x => by unfold LA LB; simp only [List.mem_cons, List.not_mem_nil, or_false]; exact ⟨by rintro (h | h | h) <;> simp [h], by rintro (h | h | h | h) <;> simp [h]⟩)

theorem newA (w : World) : Calls Try.prog 10 #[.slice (some ⟨w.heap.size, 0, none⟩) 4 4, .agg #[.int .i64 0, .int .i64 1, .int .i64 2]]
    (w.alloc (.cells #[.int .i64 1, .int .i64 2, .int .i64 4, .int .i64 2, .int .i64 0, .int .i64 0, .int .i64 1, .int .i64 2, .int .i64 3, .int .i64 1, .int .i64 2, .int .i64 4] 23))
    fun e w' => ∃ X b c, e = .returned (.tuple #[.pointer (some ⟨X, 0, none⟩), .int .i64 0]) ∧ Mk w w' X b c O0 LB := by
  have hn := cell_new1 w #[.int .i64 1, .int .i64 2, .int .i64 4, .int .i64 2, .int .i64 0, .int .i64 0, .int .i64 1, .int .i64 2, .int .i64 3, .int .i64 1, .int .i64 2, .int .i64 4] 23
  have hb := below_a w (.cells #[.int .i64 1, .int .i64 2, .int .i64 4, .int .i64 2, .int .i64 0, .int .i64 0, .int .i64 1, .int .i64 2, .int .i64 3, .int .i64 1, .int .i64 2, .int .i64 4] 23)
  refine (mk_new w _ hb (.slice (some ⟨w.heap.size, 0, none⟩) 4 4) LA ⟨_, 4, rfl, Nat.le_refl _, .inr ⟨w.heap.size, 0, rfl, by rw [size_alloc]; omega, fun k i hk hi => ?_⟩⟩ (by unfold LA; simp) O0 six0).mono ?_
  · have hk : k < 4 := hk
    rw [hn]
    obtain rfl | rfl | rfl | rfl : k = 0 ∨ k = 1 ∨ k = 2 ∨ k = 3 := by omega
    all_goals
      obtain rfl | rfl | rfl : i = 0 ∨ i = 1 ∨ i = 2 := by omega
      all_goals rfl
  · rintro e w' ⟨X, b, c, rfl, hm, _⟩
    rw [rowsA] at hm
    exact ⟨X, b, c, rfl, hm⟩

/-- The states that the witness comes to. -/
def S0 : St := root 3
def S1 : St := (opOpen LB O0 S0).1
def S2 : St := (opOpen LB O0 S1).1
def S3 : St := (opOpen LB O0 S2).1
def S4 : St := (opNext LB O0 S3).1
def S5 : St := (opUp S4).1
def S6 : St := (opUp S5).1
theorem c1 : (opOpen LB O0 S0).2 = 0 := by decide +kernel
theorem c2 : (opOpen LB O0 S1).2 = 0 := by decide +kernel
theorem c3 : (opOpen LB O0 S2).2 = 0 := by decide +kernel
theorem c4 : (opNext LB O0 S3).2 = 0 := by decide +kernel
theorem ck : opKey LB O0 S4 = (4, true) := by decide +kernel
theorem cd : S4.d = 3 := by decide +kernel
theorem c5 : (opUp S4).2 = 0 := by decide +kernel
theorem c6 : (opUp S5).2 = 0 := by decide +kernel
theorem c7 : (opSeek LB O0 S6 2).2 = 0 := by decide +kernel

theorem aw_walk {w0 w : World} {X b c : Nat} (h : Mk w0 w X b c O0 LB) :
    Calls Try.prog 14 #[.pointer (some ⟨X, 0, none⟩)] w fun e w' => ∃ g, e = .returned (.pointer (some ⟨g, 0, none⟩)) ∧ At w0 w' g X b c O0 LB S0 :=
  (mk_walk h).mono fun _ _ ⟨g, he, ha, _⟩ => ⟨g, he, ha⟩
theorem aw1 {w0 w : World} {g X b c : Nat} (h : At w0 w g X b c O0 LB S0) : Calls Try.prog 15 #[.pointer (some ⟨g, 0, none⟩)] w fun e w' => e = .returned (.int .i64 0) ∧ At w0 w' g X b c O0 LB S1 :=
  (at_open h).mono fun _ _ ⟨he, ha, _⟩ => ⟨he.trans (by rw [c1]), ha⟩
theorem aw2 {w0 w : World} {g X b c : Nat} (h : At w0 w g X b c O0 LB S1) : Calls Try.prog 15 #[.pointer (some ⟨g, 0, none⟩)] w fun e w' => e = .returned (.int .i64 0) ∧ At w0 w' g X b c O0 LB S2 :=
  (at_open h).mono fun _ _ ⟨he, ha, _⟩ => ⟨he.trans (by rw [c2]), ha⟩
theorem aw3 {w0 w : World} {g X b c : Nat} (h : At w0 w g X b c O0 LB S2) : Calls Try.prog 15 #[.pointer (some ⟨g, 0, none⟩)] w fun e w' => e = .returned (.int .i64 0) ∧ At w0 w' g X b c O0 LB S3 :=
  (at_open h).mono fun _ _ ⟨he, ha, _⟩ => ⟨he.trans (by rw [c3]), ha⟩
theorem aw4 {w0 w : World} {g X b c : Nat} (h : At w0 w g X b c O0 LB S3) : Calls Try.prog 19 #[.pointer (some ⟨g, 0, none⟩)] w fun e w' => e = .returned (.int .i64 0) ∧ At w0 w' g X b c O0 LB S4 :=
  (at_next h).mono fun _ _ ⟨he, ha, _⟩ => ⟨he.trans (by rw [c4]), ha⟩
theorem awk {w0 w : World} {g X b c : Nat} (h : At w0 w g X b c O0 LB S4) : Calls Try.prog 23 #[.pointer (some ⟨g, 0, none⟩)] w fun e w' => e = .returned (.tuple #[.int .i64 4, .bool true]) ∧ At w0 w' g X b c O0 LB S4 :=
  (at_key h).mono fun _ _ ⟨he, ha, _⟩ => ⟨he.trans (by rw [ck]), ha⟩
theorem awd {w0 w : World} {g X b c : Nat} (h : At w0 w g X b c O0 LB S4) : Calls Try.prog 25 #[.pointer (some ⟨g, 0, none⟩)] w fun e w' => e = .returned (.int .i64 3) ∧ w = w' :=
  (at_depth h).mono fun _ _ ⟨he, ha⟩ => ⟨he.trans (by rw [cd]; rfl), ha⟩
theorem aw5 {w0 w : World} {g X b c : Nat} (h : At w0 w g X b c O0 LB S4) : Calls Try.prog 17 #[.pointer (some ⟨g, 0, none⟩)] w fun e w' => e = .returned (.int .i64 0) ∧ At w0 w' g X b c O0 LB S5 :=
  (at_up h).mono fun _ _ ⟨he, ha, _⟩ => ⟨he.trans (by rw [c5]), ha⟩
theorem aw6 {w0 w : World} {g X b c : Nat} (h : At w0 w g X b c O0 LB S5) : Calls Try.prog 17 #[.pointer (some ⟨g, 0, none⟩)] w fun e w' => e = .returned (.int .i64 0) ∧ At w0 w' g X b c O0 LB S6 :=
  (at_up h).mono fun _ _ ⟨he, ha, _⟩ => ⟨he.trans (by rw [c6]), ha⟩
theorem aw7 {w0 w : World} {g X b c : Nat} (h : At w0 w g X b c O0 LB S6) : Calls Try.prog 21 #[.pointer (some ⟨g, 0, none⟩), .int .i64 2] w fun e w' => e = .returned (.int .i64 0) ∧ Below w0.heap.size w0 w' :=
  (at_seek h 2).mono fun _ _ ⟨he, ha, _⟩ => ⟨he.trans (by rw [c7]), ha.below⟩

set_option maxHeartbeats 4000000 in
theorem awake_calls (w : World) : Calls Try.prog 12 #[] w fun e w' => e = .returned (.bool true) ∧ Below w.heap.size w w' := by
  have NA := Lib.hid (newA w)
  go_enter Try.func12, Try.ntmps12
  go_wp2_with (first
    | (go_at_call 10; refine NA.out.mono ?_; rintro e w1 ⟨X, b, c, rfl, m1⟩; have M1 := Lib.hid m1; clear m1)
    | (go_at_call 26; refine (mk_len M1.out).mono ?_; rintro e w' ⟨rfl, rfl⟩)
    | (go_at_call 14; refine (aw_walk M1.out).mono ?_; rintro e w2 ⟨g, rfl, a0⟩; have A0 := Lib.hid a0; clear a0)
    | (go_at_call 15; refine (aw1 A0.out).mono ?_; rintro e w3 ⟨rfl, a1⟩; have A1 := Lib.hid a1; clear a1)
    | (go_at_call 15; refine (aw2 A1.out).mono ?_; rintro e w4 ⟨rfl, a2⟩; have A2 := Lib.hid a2; clear a2)
    | (go_at_call 15; refine (aw3 A2.out).mono ?_; rintro e w5 ⟨rfl, a3⟩; have A3 := Lib.hid a3; clear a3)
    | (go_at_call 19; refine (aw4 A3.out).mono ?_; rintro e w6 ⟨rfl, a4⟩; have A4 := Lib.hid a4; clear a4)
    | (go_at_call 23; refine (awk A4.out).mono ?_; rintro e w7 ⟨rfl, a5⟩; have A5 := Lib.hid a5; clear a5)
    | (go_at_call 25; refine (awd A5.out).mono ?_; rintro e w' ⟨rfl, rfl⟩)
    | (go_at_call 17; refine (aw5 A5.out).mono ?_; rintro e w8 ⟨rfl, a6⟩; have A6 := Lib.hid a6; clear a6)
    | (go_at_call 17; refine (aw6 A6.out).mono ?_; rintro e w9 ⟨rfl, a7⟩; have A7 := Lib.hid a7; clear a7)
    | (go_at_call 21; refine (aw7 A7.out).mono ?_; rintro e w10 ⟨rfl, a8⟩; have A8 := Lib.hid a8; clear a8))
  go_ret
  exact ⟨rfl, A8.out⟩
end Go.Proofs.Ythapkpgkcckapaa.Pw
