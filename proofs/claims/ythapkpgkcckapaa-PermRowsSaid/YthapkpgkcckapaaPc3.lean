/-
  The law of an index made twice: the walk. Conditions: the rows' cells lie as told.
-/
import Derived.Test.YthapkpgkcckapaaPc2
namespace Go.Proofs.Ythapkpgkcckapaa.Pw
open Go.RowKit Go.Proofs.YthapkpgkcckapaaW.PrintWords Go.Proofs.Ythapkpgkcckapaa.Pm

theorem and8 (x : Int) : bits .and .i64 x 255 = x % 256 := by
  show IntKind.i64.wrap ((BitVec.ofInt 64 x &&& BitVec.ofInt 64 255).toNat : Int) = _
  rw [BitVec.toNat_and]
  have e : (BitVec.ofInt 64 255).toNat = 2 ^ 8 - 1 := by decide
  rw [e, Nat.and_two_pow_sub_one_eq_mod, BitVec.toNat_ofInt]
  have h : (((x % ((2 ^ 64 : Nat) : Int)).toNat % 2 ^ 8 : Nat) : Int) = x % 256 := by
    rw [Int.natCast_emod, Int.toNat_of_nonneg (Int.emod_nonneg _ (by decide))]
    omega
  rw [h]
  exact IntWalk.i64_in _ (by omega)

/-- The cells of rows, one behind the other. -/
def flat (L : List R3) : List Value := L.flatMap enc3
theorem flat_len : ∀ L : List R3, (flat L).length = L.length * 3
  | [] => rfl
  | x :: r => by
    have := flat_len r
    unfold flat at this ⊢
    rw [List.flatMap_cons, List.length_append, this]
    simp [enc3]; omega
theorem flat_get : ∀ (L : List R3) (k i : Nat), k < L.length → i < 3 → (flat L)[k * 3 + i]? = some (.int .i64 ((L.getD k r0).at i))
  | [], k, i, hk, _ => absurd hk (by simp)
  | x :: r, 0, i, _, hi => by
    unfold flat
    rw [List.flatMap_cons, List.getElem?_append_left (by simp [enc3]; omega)]
    obtain rfl | rfl | rfl : i = 0 ∨ i = 1 ∨ i = 2 := by omega
    all_goals rfl
  | x :: r, k + 1, i, hk, hi => by
    have := flat_get r k i (by simpa using hk) hi
    unfold flat at this ⊢
    rw [List.flatMap_cons, List.getElem?_append_right (by simp [enc3]; omega)]
    rw [show (k + 1) * 3 + i - (enc3 x).length = k * 3 + i by simp [enc3]; omega, this]
    rfl
theorem flat_add (L : List R3) (x : R3) : flat (L ++ [x]) = flat L ++ enc3 x := by unfold flat; simp
theorem flat_one (L : List R3) : ∀ u ∈ flat L, u.oneCell' = true := by
  intro u hu
  unfold flat at hu
  obtain ⟨x, _, hx⟩ := List.mem_flatMap.1 hu
  simp [enc3] at hx
  rcases hx with rfl | rfl | rfl <;> rfl

/-- Rows that the call owns. -/
def OwnR (w : World) (base : Nat) (v : Value) (L : List R3) : Prop := w.ownsRow base 23 3 v L.length (flat L)
theorem OwnR.nil (w : World) (base : Nat) : OwnR w base (.slice none 0 0) [] := ⟨rfl, .inl ⟨rfl, rfl⟩⟩
theorem OwnR.sl {w : World} {base : Nat} {v : Value} {L : List R3} (h : OwnR w base v L) : SlR w v L := by
  obtain ⟨_, ⟨rfl, hn⟩ | ⟨g, cap, cur, rfl, hg, hblk, hcap, _, hcs, htk⟩⟩ := h
  · have : L = [] := List.eq_nil_of_length_eq_zero hn
    subst this
    exact ⟨none, 0, rfl, Nat.le_refl _, .inl ⟨rfl, rfl⟩⟩
  · refine ⟨_, cap, rfl, hcap, .inr ⟨g, 0, rfl, (Array.getElem?_eq_some_iff.1 hblk).1, fun k i hk hi => ?_⟩⟩
    have := flat_get L k i hk hi
    rw [← htk, List.getElem?_take, if_pos (by omega)] at this
    simp only [World.cell?, hblk, Nat.zero_add]
    simpa using this

/-- An order that turns round. -/
def rollOf (r : Nat) : Ord := ⟨r % 3, (r + 1) % 3, (r + 2) % 3⟩
theorem roll_six (r : Nat) : Six (rollOf r) := by
  unfold rollOf Six
  have : r % 3 = 0 ∨ r % 3 = 1 ∨ r % 3 = 2 := by omega
  simp only
  omega

theorem roll_nat (t : Int) : ∃ m : Nat, m ≤ 65535 ∧ bits .and .i64 t 65535 = (m : Int) ∧ IntKind.i64.wrap (Int.tmod (m : Int) 3) = ((rollOf m).x : Int) ∧ IntKind.i64.wrap (Int.tmod (((m : Int) + 1)) 3) = ((rollOf m).y : Int) ∧ IntKind.i64.wrap (Int.tmod (((m : Int) + 2)) 3) = ((rollOf m).z : Int) ∧ (m : Int) % 3 = ((rollOf m).x : Int) ∧ ((m : Int) + 1) % 3 = ((rollOf m).y : Int) ∧ ((m : Int) + 2) % 3 = ((rollOf m).z : Int) := by
  refine ⟨(t % 65536).toNat, by omega, by rw [and16]; omega, ?_⟩
  generalize hm : (t % 65536).toNat = m
  have h : m ≤ 65535 := by omega
  unfold rollOf
  simp only
  refine ⟨?_, ?_, ?_, by omega, by omega, by omega⟩
  · rw [IntWalk.rem_in _ _ (by omega), IntWalk.i64_in _ (by omega)]; omega
  · rw [IntWalk.rem_in _ _ (by omega), IntWalk.i64_in _ (by omega)]; omega
  · rw [IntWalk.rem_in _ _ (by omega), IntWalk.i64_in _ (by omega)]; omega

set_option maxHeartbeats 8000000 in
theorem twice_long (w : World) (A : Option Addr) (n c : Nat) (t : Int) (hl : 60 < n) :
    Calls Try.prog 9 #[.slice A n c, .int .i64 t] w fun e w' => e = .returned (.bool true) ∧ Below w.heap.size w w' := by
  have hd : decide ((60 : Int) < (n : Int)) = true := by simp; omega
  go_enter Try.func9, Try.ntmps9
  go_wp2_with fail
  refine (awake_calls _).mono ?_
  rintro e w1 ⟨rfl, h1⟩
  have H1 := Lib.hid h1
  clear h1
  go_wp2_with fail
  go_ret
  exact ⟨rfl, H1.out⟩

/-- The order's box. -/
def Bx (w W : World) (o : Ord) : Prop := W.cell? ⟨w.heap.size, 0, none⟩ = some (.int .i64 o.x) ∧ W.cell? ⟨w.heap.size, 1, none⟩ = some (.int .i64 o.y) ∧ W.cell? ⟨w.heap.size, 2, none⟩ = some (.int .i64 o.z)
theorem Bx.more {w W W' : World} {o : Ord} (h : Bx w W o) (hb : Below W.heap.size W W') : Bx w W' o := by
  have l := World.block_lt_of_cell? _ _ h.1
  exact ⟨(hb.cell (p := ⟨w.heap.size, 0, none⟩) l).trans h.1, (hb.cell (p := ⟨w.heap.size, 1, none⟩) l).trans h.2.1, (hb.cell (p := ⟨w.heap.size, 2, none⟩) l).trans h.2.2⟩
theorem mk_rows {w0 w : World} {X b c : Nat} {o : Ord} {L : List R3} (h : Mk w0 w X b c o L) :
    Calls Try.prog 28 #[.pointer (some ⟨X, 0, none⟩)] w fun e w' => ∃ v, e = .returned v ∧ SlR w' v L ∧ Mk w0 w' X b c o L ∧ Below w.heap.size w w' :=
  (rows_at w X o L b 0 c h.idx).mono fun _ _ ⟨v, he, hs, hb⟩ => ⟨v, he, hs, h.more hb, hb⟩
theorem below_dr (w : World) : Below w.heap.size w w.drew := (Below.refl _ _).drew

theorem rowsOf_again (o : Ord) (ho : Six o) (l : List R3) : rowsOf o (rowsOf o l) = rowsOf o l := rowsOf_eq o ho _ _ (rowsOf_strict o ho l) (fun _ => Iff.rfl)

theorem twice_new1 (w : World) (v : Value) (l L : List R3) (hv : SlR w v l) (hl : l.length ≤ 60) (o : Ord) (ho : Six o) (hL : rowsOf o l = L) :
    Calls Try.prog 10 #[v, .agg #[.int .i64 o.x, .int .i64 o.y, .int .i64 o.z]] (w.alloc (.cells #[.int .i64 o.x, .int .i64 o.y, .int .i64 o.z] 23)) fun e w' => ∃ X b c, e = .returned (.tuple #[.pointer (some ⟨X, 0, none⟩), .int .i64 0]) ∧
      Bx w w' o ∧ Mk w w' X b c o L ∧ SlR w' v l := by
  subst hL
  have hb := below_a w (.cells #[.int .i64 o.x, .int .i64 o.y, .int .i64 o.z] 23)
  have hn := cell_new1 w #[.int .i64 o.x, .int .i64 o.y, .int .i64 o.z] 23
  refine (mk_new w _ hb v l (hv.below hb) (by omega) o ho).mono ?_
  rintro e w' ⟨X, b, c, rfl, hm, hb', _, _⟩
  exact ⟨X, b, c, rfl, Bx.more ⟨hn 0, hn 1, hn 2⟩ hb', hm, (hv.below hb).below hb'⟩

theorem SlR.rows {w : World} {A : Option Addr} {n c : Nat} {l : List R3} (h : SlR w (.slice A n c) l) (k : Nat) (hk : k < n) : ∃ b off, A = some ⟨b, off, none⟩ ∧ RowsAt w b off l := by
  obtain ⟨A', c', hv, hr⟩ := h.out
  injection hv with h1 h2 h3
  subst h1 h2
  exact hr k hk

theorem same_self (w : World) (v1 v2 : Value) (L : List R3) (h1 : SlR w v1 L) (h2 : SlR w v2 L) (hn : L.length ≤ 1125899906842624) :
    Calls Try.prog 27 #[v1, v2] w fun e w' => e = .returned (.bool true) ∧ Below w.heap.size w w' :=
  (same_calls w v1 v2 L L h1 h2 hn).mono fun _ _ ⟨he, hd⟩ => ⟨he.trans (by simp), hd.below⟩
theorem own_step {wr w5 : World} {base i : Nat} {v v' : Value} {M M' : List R3} {x : R3} {cs : Array Value} {t0 : World} (hbase : base = t0.heap.size) (ho : (wr.alloc (.cells cs 23)).ownsRow base 23 3 v i (flat M)) (hbw : Below t0.heap.size t0 wr)
    (ho5 : w5.ownsRow base 23 3 v' (i + 1) (flat M ++ enc3 x)) (hg5 : (wr.alloc (.cells cs 23)).grownBy w5 v.ownBlock) (hM : M' = M ++ [x]) (hl : M.length = i) : Below t0.heap.size t0 w5 ∧ OwnR w5 base v' M' := by
  subst hbase hM
  refine ⟨(hbw.alloc hbw.size _).grown hg5 (by rw [size_alloc]; have := hbw.size; omega) (fun k hk => (ho.lt k hk).1), ?_⟩
  unfold OwnR
  rw [flat_add, List.length_append, hl]
  exact ho5

/-- The rows that the law makes more of. -/
def moreOf (l : List R3) (n : Nat) (sh : Int) (i : Nat) : List R3 := (List.range i).map fun (j : Nat) => l.getD (((j : Int) + sh) % (n : Int)).toNat r0
theorem moreOf_len (l : List R3) (n : Nat) (sh : Int) (i : Nat) : (moreOf l n sh i).length = i := by simp [moreOf]
theorem moreOf_succ (l : List R3) (n : Nat) (sh : Int) (i : Nat) : moreOf l n sh (i + 1) = moreOf l n sh i ++ [l.getD (((i : Int) + sh) % (n : Int)).toNat r0] := by
  unfold moreOf; rw [List.range_succ, List.map_append]; rfl
theorem idx_lt (n : Nat) (hn : 0 < n) (x : Int) : (x % (n : Int)).toNat < n := by
  have h1 := Int.emod_nonneg x (show (n : Int) ≠ 0 by omega)
  have h2 := Int.emod_lt_of_pos x (show (0 : Int) < n by omega)
  omega
theorem moreOf_mem (l : List R3) (n : Nat) (hn : l.length = n) (sh : Int) (x : R3) : x ∈ moreOf l n sh (2 * n) ↔ x ∈ l := by
  subst hn
  unfold moreOf
  simp only [List.mem_map, List.mem_range]
  constructor
  · rintro ⟨j, hj, rfl⟩
    have h := idx_lt l.length (by omega) ((j : Int) + sh)
    rw [List.getD_eq_getElem?_getD, List.getElem?_eq_getElem h]
    exact List.getElem_mem h
  · intro hx
    obtain ⟨k, hk, rfl⟩ := List.getElem_of_mem hx
    have h := idx_lt l.length (by omega) ((k : Int) - sh)
    refine ⟨(((k : Int) - sh) % (l.length : Int)).toNat, by omega, ?_⟩
    have e : (((((k : Int) - sh) % (l.length : Int)).toNat : Int) + sh) % (l.length : Int) = k := by
      rw [Int.toNat_of_nonneg (Int.emod_nonneg _ (by omega)), Int.emod_add_emod, Int.sub_add_cancel]
      exact Int.emod_eq_of_lt (by omega) (by omega)
    rw [e, Int.toNat_natCast, List.getD_eq_getElem?_getD, List.getElem?_eq_getElem hk]
    rfl

set_option maxHeartbeats 8000000 in
set_option maxRecDepth 100000 in
theorem twice_short (w : World) (A : Option Addr) (n c : Nat) (l : List R3) (t : Int) (hn : l.length = n) (hv : SlR w (.slice A n c) l) (hl : n ≤ 60) :
    Calls Try.prog 9 #[.slice A n c, .int .i64 t] w fun e w' => e = .returned (.bool true) ∧ Below w.heap.size w w' := by
  have hd : decide ((60 : Int) < (n : Int)) = false := by simp; omega
  obtain ⟨m, hm, a1, j1, j2, j3, i1, i2, i3⟩ := roll_nat t
  have h6 := roll_six m
  generalize rollOf m = o at *
  have hLl := rowsOf_len o l
  have hst := rowsOf_strict o h6 l
  have hmem := rowsOf_mem o l
  have hag := rowsOf_again o h6 l
  have hfm := fun l' : List R3 => fun (h : ∀ x, x ∈ rowsOf o l ↔ x ∈ l') => rowsOf_eq o h6 l' (rowsOf o l) hst h
  have N1 := Lib.hid (twice_new1 w _ l _ hv (by omega) o h6 rfl)
  generalize rowsOf o l = L at *
  have HN := Lib.hid (And.intro hn (And.intro hLl (And.intro h6 (And.intro hmem (And.intro hag hfm)))))
  obtain ⟨i0, hi0, hi1⟩ := Option.map_eq_some_iff.1 info23
  simp only [Prod.mk.injEq] at hi1
  have HI := Lib.hid (And.intro hi0 hi1)
  clear hn hLl hst h6 hmem hag hfm hv hi0 hi1
  go_enter Try.func9, Try.ntmps9
  go_wp2_with fail
  refine N1.out.mono ?_
  rintro e w1 ⟨X1, b1, c1, rfl, bx1, mk1, sv1⟩
  have M1 := Lib.hid mk1
  have SV1 := Lib.hid sv1
  have BX1 := Lib.hid bx1
  obtain ⟨u0, u1, u2⟩ := bx1
  have M1d := Lib.hid (mk1.more (below_dr w1))
  clear mk1 sv1
  go_wp2_with fail
  go_region_with (first
    | (go_at_call 28; refine (mk_rows M1d.out).mono ?_; rintro e w2 ⟨v2, rfl, s2, mk2, hb2⟩; have S2 := Lib.hid s2; have M2 := Lib.hid mk2; have SV2 := Lib.hid ((SV1.out.below (below_dr w1)).below hb2); have bx2 := (BX1.out.more (below_dr w1)).more hb2; have BX2 := Lib.hid bx2; obtain ⟨y0, y1, y2⟩ := bx2; clear s2 mk2 hb2)
    | (go_at_call 10; refine (mk_new w _ M2.out.below _ L S2.out (by have := HN.out.2.1; have := HN.out.1; omega) o HN.out.2.2.1).mono ?_; rintro e w3 ⟨X2, b2, c2, rfl, mk3, hb3, _, _⟩; have M3 := Lib.hid mk3; have M1' := Lib.hid (M2.out.more hb3); have SV3 := Lib.hid (SV2.out.below hb3); have bx3 := BX2.out.more hb3; have BX3 := Lib.hid bx3; obtain ⟨z0, z1, z2⟩ := bx3; clear mk3 hb3))
  all_goals
    have hn := HN.out.1
    have SL := Lib.hid (SV3.out)
    clear u0 u1 u2 y0 y1 y2 z0 z1 z2
    go_wp2_with fail
    have A8 := fun x : Int => and8 x
    obtain ⟨t0, et0⟩ : ∃ x, w3 = x := ⟨w3, rfl⟩
    go_loopg [10, 11] (2 * n) (fun g s10 s11 wr => ∃ i : Nat, i ≤ 2 * n ∧ 2 * n - i ≤ g ∧ s11 = .int .i64 i ∧ Below t0.heap.size t0 wr ∧ OwnR wr t0.heap.size s10 (moreOf l n (t / 16 % 256) i))
    case atStart => exact ⟨0, by omega, by omega, rfl, by rw [← et0]; first | exact Below.refl _ _ | exact below_dr _, OwnR.nil _ _⟩
    case round =>
      obtain ⟨i, hi, hg, rfl, hbw, hown⟩ := hrel
      by_cases hlt : i < 2 * n
      · have hsl := SL.out.below (et0 ▸ hbw)
        have hj := idx_lt n (by omega) ((i : Int) + t / 16 % 256)
        have hj' : 0 ≤ ((i : Int) + t / 16 % 256) % (n : Int) := Int.emod_nonneg _ (by omega)
        have hj'' : ((i : Int) + t / 16 % 256) % (n : Int) < (n : Int) := Int.emod_lt_of_pos _ (by omega)
        obtain ⟨b, off, rfl, hr⟩ := hsl.rows _ hj
        obtain ⟨x0, x1, x2⟩ := at_cells hr (((i : Int) + t / 16 % 256) % (n : Int)).toNat (by rw [hn]; exact hj)
        have hs := moreOf_succ l n (t / 16 % 256) i
        generalize l.getD (((i : Int) + t / 16 % 256) % (n : Int)).toNat r0 = x at x0 x1 x2 hs
        have hml := moreOf_len l n (t / 16 % 256) i
        have hw1 := below_a wr (.cells #[.int .i64 x.a, .int .i64 x.b, .int .i64 x.c] 23)
        have hown' : (wr.alloc (.cells #[.int .i64 x.a, .int .i64 x.b, .int .i64 x.c] 23)).ownsRow t0.heap.size 23 3 u10 i (flat (moreOf l n (t / 16 % 256) i)) := by
          have := pw_own_below hown hw1
          rwa [hml] at this
        have hcn := cell_new1 wr #[.int .i64 x.a, .int .i64 x.b, .int .i64 x.c] 23
        have HW := Lib.hid (And.intro hown' (And.intro hs (And.intro hcn (And.intro hbw hml))))
        have hi120 : i < 120 := by omega
        clear hsl hr hs hown hown' hcn hw1 hbw hml
        go_wp2_with (at_builtin; refine wpList_append_own _ rfl _ _ 22 rfl t0.heap.size 23 i0 (.agg #[.int .i64 0, .int .i64 0, .int .i64 0]) 3 24 Try.underlying22 HI.out.1 HI.out.2.1 HI.out.2.2.1 HI.out.2.2.2 rfl (by omega) _ _ _ rfl HW.out.1 ⟨wr.heap.size, 0, none⟩ 1 1 (enc3 x) rfl rfl ?q2 ?q3 ?q4 ?q5 ?q6 ?_)
        case q2 =>
          intro j u hu
          rw [Addr.add_lit]
          have := HW.out.2.2.1 (0 + j)
          rw [this, Nat.zero_add]
          simpa [enc3] using hu
        case q3 => intro u hu; simp [enc3] at hu; rcases hu with rfl | rfl | rfl <;> rfl
        case q4 => unfold maxLen; omega
        case q5 => omega
        case q6 => rw [size_alloc]; have := HW.out.2.2.2.1.size; omega
        intro v' w5 ho5 hg5 _
        have HO := Lib.hid (And.intro ho5 hg5)
        clear ho5 hg5
        go_wp2_with fail
        go_roundg (2 * n - (i + 1))
        case measure => omega
        case rel => exact ⟨i + 1, by omega, Nat.le_refl _, by go_num, own_step rfl HW.out.1 HW.out.2.2.2.1 HO.out.1 HO.out.2 HW.out.2.1 HW.out.2.2.2.2⟩
      · have hi2 : i = 2 * n := by omega
        have hb' : Below w3.heap.size w3 wr := et0 ▸ hbw
        obtain ⟨_, hLl, h6, hmem, hag, hfm⟩ := HN.out
        have hmr : rowsOf o (moreOf l n (t / 16 % 256) i) = L := hfm _ (fun x => by rw [hi2, moreOf_mem l n hn]; exact hmem x)
        have N3 := mk_new w wr (below_tr M3.out.below hb' M3.out.below.size) _ _ hown.sl (by rw [moreOf_len]; omega) o h6
        rw [hmr] at N3
        have M3e := M3.out.more hb'
        rw [hag] at M3e
        have M1e := Lib.hid (M1'.out.more hb')
        have M2e := Lib.hid M3e
        have H3 := Lib.hid N3
        obtain ⟨z0, z1, z2⟩ := BX3.out.more hb'
        have hL50 : L.length ≤ n := by omega
        clear N3 M3e hmr hfm hmem hag hown hbw hb' h6
        go_wp2_with fail
        refine H3.out.mono ?_
        rintro e w6 ⟨X3, b3, c3, rfl, mk6, hb6, _, _⟩
        have M6 := Lib.hid mk6
        have M1f := Lib.hid (M1e.out.more hb6)
        have M2f := Lib.hid (M2e.out.more hb6)
        clear mk6 hb6
        go_wp2_with fail
        refine (mk_rows M1f.out).mono ?_
        rintro e w7 ⟨v7, rfl, s7, mk7, hb7⟩
        have S7 := Lib.hid s7
        have M7 := Lib.hid mk7
        have B7 := Lib.hid hb7
        clear s7 mk7 hb7
        go_wp2_with fail
        refine (mk_rows (M2f.out.more B7.out)).mono ?_
        rintro e w8 ⟨v8, rfl, s8, mk8, hb8⟩
        have S8 := Lib.hid (And.intro (S7.out.below hb8) s8)
        have M8 := Lib.hid (M7.out.more hb8)
        have M8' := Lib.hid ((M6.out.more B7.out).more hb8)
        clear s8 mk8 hb8
        go_wp2_with fail
        refine (same_self w8 _ _ L S8.out.1 S8.out.2 (by omega)).mono ?_
        rintro e w9 ⟨rfl, hb9⟩
        have M9 := Lib.hid (M8.out.more hb9)
        have M9' := Lib.hid (M8'.out.more hb9)
        clear hb9
        go_wp2_with fail
        refine (mk_rows M9.out).mono ?_
        rintro e w10 ⟨v10, rfl, s10, mk10, hb10⟩
        have S10 := Lib.hid s10
        have M10 := Lib.hid mk10
        have M10' := Lib.hid (M9'.out.more hb10)
        clear s10 mk10 hb10
        go_wp2_with fail
        refine (mk_rows M10'.out).mono ?_
        rintro e w11 ⟨v11, rfl, s11, mk11, hb11⟩
        have S11 := Lib.hid (And.intro (S10.out.below hb11) s11)
        have M11 := Lib.hid (M10.out.more hb11)
        clear s11 mk11 hb11
        go_wp2_with fail
        refine (same_self w11 _ _ L S11.out.1 S11.out.2 (by omega)).mono ?_
        rintro e w12 ⟨rfl, hb12⟩
        have M12 := Lib.hid (M11.out.more hb12)
        clear hb12
        go_wp2_with fail
        refine (len_is M12.out rfl).mono ?_
        rintro e w13 ⟨rfl, rfl⟩
        go_wp2_with fail
        refine (awake_calls _).mono ?_
        rintro e w14 ⟨rfl, hb14⟩
        have B14 := Lib.hid hb14
        clear hb14
        go_wp2_with fail
        go_ret
        exact ⟨rfl, below_tr M12.out.below B14.out M12.out.below.size⟩

theorem twice_calls (w : World) (v : Value) (l : List R3) (t : Int) (hv : SlR w v l) :
    Calls Try.prog 9 #[v, .int .i64 t] w fun e w' => e = .returned (.bool true) ∧ Below w.heap.size w w' := by
  have hv' := hv
  obtain ⟨A, c, rfl, _, _⟩ := hv'
  by_cases hl : l.length ≤ 60
  · exact twice_short w A _ c l t rfl hv hl
  · exact twice_long w A _ c t (by omega)
end Go.Proofs.Ythapkpgkcckapaa.Pw
