/-
  The document's join, walked. Conditions: the slices lie as told; few choices.
-/
import Derived.Test.YtejinhnmabnomaaLg1
import Derived.Test.YtejinhnmabnomaaLg2
import Derived.Test.YtejinhnmabnomaaLg4
import Derived.Laws.MakeOwn
import Derived.Deep.RegionHeld3
namespace Go.Proofs.Ytejinhnmabnomaa.Lf
open Go.Deep Go.RowKit Go.Proofs.YtejinhnmabnomaaW.PrintWords Go.Proofs.Ytejinhnmabnomaa.Pm Go.Proofs.Ytejinhnmabnomaa.Pw

def cbd : CB := ⟨0, 0, 0, 0⟩
theorem info_c : (Try.prog.info? 56).map (fun i => (i.zero, i.size, i.bytes)) = some (some (.agg #[.slice none 0 0, .slice none 0 0]), 2, 48) := by kernel_rfl
/-- All choices, as a slice that is read. -/
structure Al (W : World) (nv : Nat) (v : Value) (vs : List CB) (cs : List Ch) : Prop where
  sl : G.SlL W (encC nv) v vs
  len : vs.length = cs.length
  ch : ∀ i, i < cs.length → ChM W nv (cs.getD i noC) (vs.getD i cbd)
theorem Al.more {W W' : World} {nv : Nat} {v : Value} {vs : List CB} {cs : List Ch} (h : Al W nv v vs cs) (hb : BelS W W') : Al W' nv v vs cs :=
  ⟨h.sl.below hb, h.len, fun i hi => (h.ch i hi).more hb⟩
/-- The next choices, as a row that the call owns. -/
structure Nx (W0 W : World) (nv : Nat) (v : Value) (vs : List CB) (cs : List Ch) : Prop where
  own : G.OwnL W W0.heap.size 56 2 (encC nv) v vs
  len : vs.length = cs.length
  ch : ∀ i, i < cs.length → ChM W nv (cs.getD i noC) (vs.getD i cbd)
  ap : ∀ x ∈ vs, v.ownBlock ≠ some x.b1 ∧ v.ownBlock ≠ some x.b2
  below : BelS W0 W
theorem nx_nil (W0 : World) (nv : Nat) : Nx W0 W0 nv (.slice none 0 0) [] [] :=
  ⟨G.OwnL.nil _ _ _ _ _, rfl, fun i hi => absurd hi (by simp), fun x hx => absurd hx (by simp), BelS.refl _⟩
theorem Nx.more {W0 W W' : World} {nv : Nat} {v : Value} {vs : List CB} {cs : List Ch} (h : Nx W0 W nv v vs cs) (hb : BelS W W') : Nx W0 W' nv v vs cs :=
  ⟨h.own.below hb, h.len, fun i hi => (h.ch i hi).more hb, h.ap, h.below.then hb⟩
theorem Nx.al {W0 W : World} {nv : Nat} {v : Value} {vs : List CB} {cs : List Ch} (h : Nx W0 W nv v vs cs) : Al W nv v vs cs := ⟨h.own.sl, h.len, h.ch⟩
/-- One choice more. -/
theorem Nx.app {W0 W W1 : World} {nv : Nat} {v v1 : Value} {vs : List CB} {cs : List Ch} (h : Nx W0 W nv v vs cs) {c : Ch} {x : CB} (hx : ChM W nv c x) (hap : v.ownBlock ≠ some x.b1 ∧ v.ownBlock ≠ some x.b2)
    (ho : G.OwnL W1 W0.heap.size 56 2 (encC nv) v1 (vs ++ [x])) (hg : W.grownBy W1 v.ownBlock) (hv : v1.ownBlock = v.ownBlock ∨ ∃ b, v1.ownBlock = some b ∧ W.heap.size ≤ b) : Nx W0 W1 nv v1 (vs ++ [x]) (cs ++ [c]) := by
  have hn : ∀ y : CB, y.b1 < W.heap.size → y.b2 < W.heap.size → (v.ownBlock ≠ some y.b1 ∧ v.ownBlock ≠ some y.b2) → (v1.ownBlock ≠ some y.b1 ∧ v1.ownBlock ≠ some y.b2) := fun y h1 h2 h3 => by
    rcases hv with e | ⟨b, e, hb⟩
    · rw [e]; exact h3
    · rw [e]
      exact ⟨fun e2 => by have := Option.some.inj e2; omega, fun e2 => by have := Option.some.inj e2; omega⟩
  have hlt : ∀ y ∈ vs, y.b1 < W.heap.size ∧ y.b2 < W.heap.size := fun y hy => by
    obtain ⟨i, hi, e⟩ := List.getElem_of_mem hy
    have := h.ch i (by rw [← h.len]; exact hi)
    rw [getD_lt vs cbd hi, e] at this
    exact ⟨this.h1, this.h2⟩
  refine ⟨ho, by simp [h.len], fun i hi => ?_, fun y hy => ?_, h.own.next h.below h.below.size hg⟩
  · by_cases e : i < cs.length
    · rw [List.getD_eq_getElem?_getD, List.getElem?_append_left e, ← List.getD_eq_getElem?_getD, List.getD_eq_getElem?_getD (l := vs ++ [x]), List.getElem?_append_left (by rw [h.len]; exact e), ← List.getD_eq_getElem?_getD]
      have hm : vs.getD i cbd ∈ vs := by rw [getD_lt vs cbd (by rw [h.len]; exact e)]; exact List.getElem_mem _
      exact (h.ch i e).grown hg (h.ap _ hm).1 (h.ap _ hm).2
    · have ei : i = cs.length := by simp at hi; omega
      subst ei
      rw [List.getD_eq_getElem?_getD, List.getElem?_append_right (Nat.le_refl _), Nat.sub_self, List.getD_eq_getElem?_getD, List.getElem?_append_right (by rw [h.len]; exact Nat.le_refl _), h.len, Nat.sub_self]
      exact hx.grown hg hap.1 hap.2
  · rcases List.mem_append.1 hy with hy | hy
    · exact hn y (hlt y hy).1 (hlt y hy).2 (h.ap y hy)
    · rw [List.mem_singleton.1 hy]
      exact hn x hx.h1 hx.h2 hap
set_option maxHeartbeats 400000 in
theorem rjoin_no {w : World} (vars most : Int) (kv rv : Value) (keep : List Int) (rels : List RelV) (hk : G.SlL w enc1 kv keep) (hr : G.SlL w encR rv rels) (hsv : ∀ r ∈ rels, ∃ A n c, r.v = .slice A n c) (hkl : keep.length ≤ 140737488355328) (hrl : rels.length ≤ 1000000000000) (hp : ¬ MayP vars keep rels most) :
    Calls Try.prog 12 #[.int .i64 vars, kv, rv, .int .i64 most] w (JPost w vars keep rels most) := by
  have HM := Lib.hid (rmay_ok vars most kv rv keep rels hk hr hsv hkl hrl)
  have HP := Lib.hid hp
  clear hk hr hsv hp
  go_enter Try.func12, Try.ntmps12
  go_wp2_with fail
  refine HM.out.mono ?_
  rintro e w2 ⟨b, rfl, hb, hbl⟩
  have HB := Lib.hid hbl
  obtain rfl : b = false := by
    cases b
    · rfl
    · exact absurd (hb.1 rfl) HP.out
  clear hb hbl
  go_wp2_with fail
  go_ret2
  exact ⟨_, _, rfl, HB.out, .inl ⟨HP.out, rfl, rfl⟩⟩
theorem bool_mk (n : Nat) (hn : n ≤ 1000) (w : World) : (Instr.makeSlice 54 (.int .i64 n) (.int .i64 n)).run Try.prog w = .ok (.slice (some ⟨w.heap.size, 0, none⟩) n n) (w.alloc (.cells (madeCells #[Value.bool false] n) 4)) := by
  obtain ⟨i0, hi0, hz0, hz1, hz2⟩ := info_parts info_b
  have := run_make (P := Try.prog) w 54 4 i0 _ Try.underlying54 hi0 hz0 .i64 .i64 n n (by omega) (Int.le_refl _) (by rw [hz2]; omega) (by omega)
  rw [hz1, Nat.mul_one] at this
  exact this
/-- The first choice: none of the variables has a value. -/
theorem al_first {W XA XB : World} {a b nv : Nat} (hA : XA.heap[a]? = some (.cells (zeros nv) 3 (0, 0))) (bA : BelS XA W) (hB : XB.heap[b]? = some (.cells (madeCells #[Value.bool false] nv) 4 (0, 0))) (bB : BelS XB W) :
    Al (W.alloc (.cells #[.slice (some ⟨a, 0, none⟩) nv nv, .slice (some ⟨b, 0, none⟩) nv nv] 56)) nv (.slice (some ⟨W.heap.size, 0, none⟩) 1 1) [⟨a, nv, b, nv⟩] [noC] := by
  have hn := (BelS.refl W).alloc (.cells #[.slice (some ⟨a, 0, none⟩) nv nv, .slice (some ⟨b, 0, none⟩) nv nv] 56)
  have h1 := hn.blk (bA.blk hA)
  have h2 := hn.blk (bB.blk hB)
  refine ⟨sl_block (encC nv) _ (heap_alloc_new W _) rfl rfl, rfl, fun i hi => ?_⟩
  obtain rfl : i = 0 := by simpa using hi
  refine ⟨(Array.getElem?_eq_some_iff.1 h1).1, (Array.getElem?_eq_some_iff.1 h2).1, Nat.le_refl _, Nat.le_refl _, fun u hu => ?_, fun u hu => ?_⟩
  · refine (heap_cell h1 u).trans ?_
    rw [zeros_eq]
    simp [hu, noC]
  · refine (heap_cell h2 u).trans ?_
    have := made_one (.bool false) rfl nv
    rw [Nat.mul_one] at this
    rw [show madeCells #[Value.bool false] nv = (List.replicate nv (Value.bool false)).toArray from this]
    simp [hu, noC]
theorem alloc_two (w : World) (o o' : Obj) : ((w.alloc o).alloc o').heap[w.heap.size + 1]? = some o' := by
  have := heap_alloc_new (w.alloc o) o'
  rwa [World.size_alloc] at this
theorem two_size (w : World) (o o' : Obj) : ((w.alloc o).alloc o').heap.size = w.heap.size + 1 + 1 := by rw [World.size_alloc, World.size_alloc]
theorem Al.more2 {W W' : World} {nv n m c : Nat} {vs : List CB} {cs : List Ch} (h : Al W nv (.slice (some ⟨n, 0, none⟩) m c) vs cs) {k : Nat} (e : n = k) (hb : BelS W W') : Al W' nv (.slice (some ⟨k, 0, none⟩) m c) vs cs := by
  subst e; exact h.more hb
/-- The row does not lie where a choice's slices lie. -/
theorem Nx.ne {W0 W : World} {nv : Nat} {v : Value} {vs : List CB} {cs : List Ch} (h : Nx W0 W nv v vs cs) {b : Nat} (hb : b < W0.heap.size ∨ W.heap.size ≤ b) : v.ownBlock ≠ some b := fun e => by
  have h1 := h.own.ge b e
  have h2 := h.own.lt_ b e
  omega
theorem Al.two {W : World} {nv : Nat} {A : Option Addr} {n c : Nat} {vs : List CB} {cs : List Ch} (h : Al W nv (.slice A n c) vs cs) (k : Nat) (hk : k < cs.length) : ∃ b off, A = some ⟨b, off, none⟩ ∧ W.cell? ⟨b, off + k * 2, none⟩ = some (.slice (some ⟨(vs.getD k cbd).b1, 0, none⟩) nv (vs.getD k cbd).c1) ∧ W.cell? ⟨b, off + k * 2 + 1, none⟩ = some (.slice (some ⟨(vs.getD k cbd).b2, 0, none⟩) nv (vs.getD k cbd).c2) := by
  obtain ⟨b, off, c', hv, _, hc⟩ := h.sl.at_ (k := 2) (fun _ => rfl) k (vs.getD k cbd) (by rw [List.getD_eq_getElem?_getD, List.getElem?_eq_getElem (by rw [h.len]; exact hk)]; rfl)
  injection hv with e1 e2 e3
  exact ⟨b, off, e1, hc 0 _ rfl, hc 1 _ rfl⟩
theorem relN_at (rels : List RelV) (i : Nat) (hi : i < rels.length) : (relN rels).getD i ⟨0, 0, []⟩ = rlOf (rels.getD i default) := getD_map rlOf rels i default _ hi
theorem pair_at {W : World} {A : Option Addr} {n c : Nat} {l : List (Int × Int)} (h : G.SlL W enc2 (.slice A n c) l) (j : Nat) (hj : j < l.length) : ∃ b off, A = some ⟨b, off, none⟩ ∧ W.cell? ⟨b, off + j * 2, none⟩ = some (.int .i64 (l.getD j (0, 0)).1) ∧ W.cell? ⟨b, off + j * 2 + 1, none⟩ = some (.int .i64 (l.getD j (0, 0)).2) := by
  obtain ⟨b, off, c', hv, _, hc⟩ := h.at_ (k := 2) (fun _ => rfl) j (l.getD j (0, 0)) (by rw [List.getD_eq_getElem?_getD, List.getElem?_eq_getElem hj]; rfl)
  injection hv with e1 e2 e3
  exact ⟨b, off, e1, hc 0 _ rfl, hc 1 _ rfl⟩
/-- Behind a call of 'with': its answer lies in a box. -/
def Bx (w W : World) (nv : Nat) (c : Ch) (x : CB) (v : Nat) (n : Int) (s t : Value) : Prop :=
  ∃ (bx : Nat) (y : CB), s = .pointer (some ⟨bx, 0, none⟩) ∧ t = .bool (withC c v n).isSome ∧ BelS w W ∧ W.cell? ⟨bx, 0, none⟩ = some (.slice (some ⟨y.b1, 0, none⟩) nv y.c1) ∧ W.cell? ⟨bx, 1, none⟩ = some (.slice (some ⟨y.b2, 0, none⟩) nv y.c2) ∧ ChM W nv ((withC c v n).getD c) y ∧ (y.b1 = x.b1 ∨ w.heap.size ≤ y.b1) ∧ (y.b2 = x.b2 ∨ w.heap.size ≤ y.b2)
theorem bel3 {w W : World} (hb : BelS w W) {A B C : Addr} {a b c : Value} (h1 : w.cell? A = some a) (h2 : w.cell? B = some b) (h3 : w.cell? C = some c) :
    W.cell? A = some a ∧ W.cell? B = some b ∧ W.cell? C = some c := ⟨hb.cell h1, hb.cell h2, hb.cell h3⟩
theorem bel5 {w W : World} (hb : BelS w W) {A B C D E : Addr} {a b c d e : Value} (h1 : w.cell? A = some a) (h2 : w.cell? B = some b) (h3 : w.cell? C = some c) (h4 : w.cell? D = some d) (h5 : w.cell? E = some e) :
    W.cell? A = some a ∧ W.cell? B = some b ∧ W.cell? C = some c ∧ W.cell? D = some d ∧ W.cell? E = some e := ⟨hb.cell h1, hb.cell h2, hb.cell h3, hb.cell h4, hb.cell h5⟩
theorem box_blk {w W : World} (hb : BelS (w.alloc (.cells #[.slice none 0 0, .slice none 0 0] 56)).drew W) : W.heap[w.heap.size]? = some (.cells #[.slice none 0 0, .slice none 0 0] 56 (0, 0)) :=
  hb.blk (show _ = some (Obj.cells #[.slice none 0 0, .slice none 0 0] 56 (0, 0)) from heap_alloc_new w _)
theorem bxA {w w3 : World} {nv : Nat} {c : Ch} {x y : CB} {v : Nat} {n : Int} {ok : Bool} {s : Nat} (hb : BelS w w3) (hc : ChM w3 nv ((withC c v n).getD c) y) (hok : ok = (withC c v n).isSome) (h1 : y.b1 = x.b1 ∨ s ≤ y.b1) (h2 : y.b2 = x.b2 ∨ s ≤ y.b2) (hs : w.heap.size ≤ s) :
    Bx w (w3.alloc (.cells #[.slice (some ⟨y.b1, 0, none⟩) nv y.c1, .slice (some ⟨y.b2, 0, none⟩) nv y.c2] 56)) nv c x v n (.pointer (some ⟨w3.heap.size, 0, none⟩)) (.bool ok) := by
  have hn := (BelS.refl w3).alloc (.cells #[.slice (some ⟨y.b1, 0, none⟩) nv y.c1, .slice (some ⟨y.b2, 0, none⟩) nv y.c2] 56)
  have h := heap_alloc_new w3 (.cells #[.slice (some ⟨y.b1, 0, none⟩) nv y.c1, .slice (some ⟨y.b2, 0, none⟩) nv y.c2] 56)
  exact ⟨_, y, rfl, by rw [hok], hb.then hn, (heap_cell h 0).trans rfl, (heap_cell h 1).trans rfl, hc.more hn, h1.imp id (fun h => by omega), h2.imp id (fun h => by omega)⟩
theorem BelS.set {w W : World} (hb : BelS w W) {b : Nat} (h : w.heap.size ≤ b) (i : Nat) (v : Value) : BelS w (W.setCell ⟨b, i, none⟩ v) := Below.setCell hb h _
theorem bxB {w w3 : World} {nv : Nat} {c : Ch} {x y : CB} {v : Nat} {n : Int} {ok : Bool} {s : Nat} (hb : BelS w w3) (hz : w3.heap[w.heap.size]? = some (.cells #[.slice none 0 0, .slice none 0 0] 56 (0, 0))) (hc : ChM w3 nv ((withC c v n).getD c) y) (hok : ok = (withC c v n).isSome) (h1 : y.b1 = x.b1 ∨ s ≤ y.b1) (h2 : y.b2 = x.b2 ∨ s ≤ y.b2) (hs : w.heap.size < s) (hx : x.b1 < w.heap.size ∧ x.b2 < w.heap.size) :
    Bx w ((w3.setCell ⟨w.heap.size, 0, none⟩ (.slice (some ⟨y.b1, 0, none⟩) nv y.c1)).setCell ⟨w.heap.size, 1, none⟩ (.slice (some ⟨y.b2, 0, none⟩) nv y.c2)) nv c x v n (.pointer (some ⟨w.heap.size, 0, none⟩)) (.bool ok) := by
  have g1 := grown_set w3 w.heap.size 0 (.slice (some ⟨y.b1, 0, none⟩) nv y.c1)
  have g2 := grown_set (w3.setCell ⟨w.heap.size, 0, none⟩ (.slice (some ⟨y.b1, 0, none⟩) nv y.c1)) w.heap.size 1 (.slice (some ⟨y.b2, 0, none⟩) nv y.c2)
  have n1 : (some w.heap.size : Option Nat) ≠ some y.b1 := fun e => by have := Option.some.inj e; omega
  have n2 : (some w.heap.size : Option Nat) ≠ some y.b2 := fun e => by have := Option.some.inj e; omega
  have hz2 := heap_set _ _ 1 _ _ (.slice (some ⟨y.b2, 0, none⟩) nv y.c2) (heap_set _ _ 0 _ _ (.slice (some ⟨y.b1, 0, none⟩) nv y.c1) hz)
  exact ⟨_, y, rfl, by rw [hok], (hb.set (Nat.le_refl _) _ _).set (Nat.le_refl _) _ _, (heap_cell hz2 0).trans rfl, (heap_cell hz2 1).trans rfl, (hc.grown g1 n1 n2).grown g2 n1 n2, h1.imp id (fun h => by omega), h2.imp id (fun h => by omega)⟩
theorem box_kept {w W : World} (hb : BelS (w.alloc (.cells #[.slice none 0 0, .slice none 0 0] 56)).drew W) : W.cell? ⟨w.heap.size, 0, none⟩ = some (.slice none 0 0) ∧ W.cell? ⟨w.heap.size, 1, none⟩ = some (.slice none 0 0) ∧ W.frozen? ⟨w.heap.size, 0, none⟩ = false ∧ W.frozen? ⟨w.heap.size, 1, none⟩ = false := by
  have h := hb.blk (show _ = some (Obj.cells #[.slice none 0 0, .slice none 0 0] 56 (0, 0)) from heap_alloc_new w _)
  exact ⟨(heap_cell h 0).trans rfl, (heap_cell h 1).trans rfl, heap_free h 0, heap_free h 1⟩
set_option maxHeartbeats 6400000 in
set_option maxRecDepth 100000 in
theorem rjoin_yes {w : World} (nv : Nat) (most : Int) (kv rv : Value) (keep : List Int) (rels : List RelV) (hk : G.SlL w enc1 kv keep) (hr : G.SlL w encR rv rels) (hsv : ∀ r ∈ rels, RelIn w r) (hkl : keep.length ≤ 1000) (hrl : rels.length ≤ 1000) (hrs : ∀ r ∈ rels, r.rows.length ≤ 1000000000000) (hS : ∀ i, i ≤ rels.length → prodL ((relN rels).take i) ≤ 34359738368) (hp : MayP nv keep rels most) :
    Calls Try.prog 12 #[.int .i64 nv, kv, rv, .int .i64 most] w (JPost w nv keep rels most) := by
  have HM := Lib.hid (rmay_ok nv most kv rv keep rels hk hr (fun r hr => by obtain ⟨A, c, h, _⟩ := (hsv r hr).sl; exact ⟨A, _, c, h⟩) (by omega) (by omega))
  obtain ⟨Ak, ck, rfl, hck, _, _⟩ := id hk
  obtain ⟨Ar, cr, rfl, hcr, _, _⟩ := id hr
  obtain ⟨nk, hnk⟩ : ∃ n, keep.length = n := ⟨_, rfl⟩
  obtain ⟨nr, hnr⟩ : ∃ n, rels.length = n := ⟨_, rfl⟩
  rw [hnk] at hk hkl HM ⊢
  rw [hnr] at hr hrl HM hS ⊢
  have HV := Lib.hid (And.intro hk (And.intro hnk (And.intro hr (And.intro hnr (And.intro hsv (And.intro hrs (And.intro hp hS)))))))
  have hv1 : 1 ≤ (nv : Int) := hp.v1
  have hv16 : (nv : Int) ≤ 16 := hp.v16
  have hnv : nv ≤ 1000 := by omega
  have hnkN : (nk : Int) ≤ 1000 := by omega
  have hnrN : (nr : Int) ≤ 1000 := by omega
  clear hk hnk hr hnr hsv hrs hp hS hck hcr
  have MI := make_ints nv hnv
  have MB := bool_mk nv hnv
  go_enter Try.func12, Try.ntmps12
  go_wp2_with fail
  refine HM.out.mono ?_
  rintro e w2 ⟨b, rfl, hb, hbl⟩
  have HB : Hid (BelS w w2) := Lib.hid hbl
  obtain rfl : b = true := hb.2 HV.out.2.2.2.2.2.2.1
  clear hb hbl HM
  go_upto_region 3 with fail
  go_cut [10] from 29 to 134 (fun s10 wx => ∃ vs, BelS w wx ∧ Al wx nv s10 vs [noC])
  case first =>
    go_region_held3 (fun W => True) (exact True.intro) (fail)
    all_goals
      go_wp2_with fail
      go_meet
      go_light
      first
        | exact ⟨_, ((((HB.out.alloc _).alloc _).alloc _).drew), (al_first (W := (w2.alloc (.cells (zeros nv) 3)).alloc (.cells (madeCells #[Value.bool false] nv) 4)) (XA := w2.alloc (.cells (zeros nv) 3)) (XB := (w2.alloc (.cells (zeros nv) 3)).alloc (.cells (madeCells #[Value.bool false] nv) 4)) (heap_alloc_new w2 _) ((BelS.refl _).alloc _) (alloc_two w2 (.cells (zeros nv) 3) (.cells (madeCells #[Value.bool false] nv) 4)) (BelS.refl _)).more2 (two_size w2 (.cells (zeros nv) 3) (.cells (madeCells #[Value.bool false] nv) 4)) (BelS.refl _).drew⟩
        | exact ⟨_, ((((HB.out.alloc _).alloc _).alloc _).drew), (al_first (W := (w2.alloc (.cells (madeCells #[Value.bool false] nv) 4)).alloc (.cells (zeros nv) 3)) (XA := (w2.alloc (.cells (madeCells #[Value.bool false] nv) 4)).alloc (.cells (zeros nv) 3)) (XB := w2.alloc (.cells (madeCells #[Value.bool false] nv) 4)) (alloc_two w2 (.cells (madeCells #[Value.bool false] nv) 4) (.cells (zeros nv) 3)) (BelS.refl _) (heap_alloc_new w2 _) ((BelS.refl _).alloc _)).more2 (two_size w2 (.cells (madeCells #[Value.bool false] nv) 4) (.cells (zeros nv) 3)) (BelS.refl _).drew⟩
  case rest =>
    obtain ⟨vs, hbw, hal⟩ := hcut
    have HAL := Lib.hid (And.intro hbw hal)
    clear hbw hal MI MB
    go_wp2_with fail
    go_loopg [10, 11] (nr + 1) (fun g s10 s11 wr => ∃ (i : Nat) (vs : List CB), i ≤ nr ∧ nr - i < g ∧ s11 = .int .i64 i ∧ BelS w wr ∧ Al wr nv s10 vs (csAt (relN rels) i))
    case atStart => exact ⟨0, vs, by omega, by omega, rfl, HAL.out⟩
    case round =>
      clear HAL
      obtain ⟨i, vs, hi, hg, rfl, hbw, hal⟩ := hrel
      obtain ⟨A1, ca, rfl, hca, _⟩ := id hal.sl
      by_cases hlt : i < nr
      · have hd : decide ((i : Int) < (nr : Int)) = true := by simp; omega
        have hd' : decide (i < nr) = true := by simp; omega
        have hi1 : (i : Int) < (nr : Int) := by omega
        obtain ⟨r, hr⟩ : ∃ r, rels.getD i default = r := ⟨_, rfl⟩
        have hrm : r ∈ rels := by rw [← hr, getD_lt _ _ (by have := HV.out.2.2.2.1; omega)]; exact List.getElem_mem _
        obtain ⟨b, off, c', hv', hb, y0, y1, y2⟩ := rel_at HV.out.2.2.1 i (by have := HV.out.2.2.2.1; omega)
        injection hv' with e1 e2 e3
        subst e1
        rw [hr] at y0 y1 y2
        have hrr := HV.out.2.2.2.2.2.2.1.rr r hrm
        obtain ⟨m1, hm1⟩ : ∃ m : Nat, r.A = m := ⟨r.A.toNat, by omega⟩
        obtain ⟨m2, hm2⟩ : ∃ m : Nat, r.B = m := ⟨r.B.toNat, by omega⟩
        obtain ⟨A2, c2, hrv, _⟩ := id (HV.out.2.2.2.2.1 r hrm).sl
        have hsl := (HV.out.2.2.2.2.1 r hrm).sl
        rw [hrv] at y2 hsl
        rw [hm1] at y0
        rw [hm2] at y1
        have hnext := csAt_next (relN rels) i (by unfold relN; rw [List.length_map]; have := HV.out.2.2.2.1; omega)
        have hmul := csAt_mul (relN rels) i (by unfold relN; rw [List.length_map]; have := HV.out.2.2.2.1; omega) (HV.out.2.2.2.2.2.2.2 (i + 1) (by omega))
        rw [relN_at rels i (by have := HV.out.2.2.2.1; omega), hr] at hnext hmul
        have hRl : rlOf r = ⟨m1, m2, r.rows⟩ := by unfold rlOf; rw [hm1, hm2]; rfl
        rw [hRl] at hnext hmul
        obtain ⟨rows, hrows⟩ : ∃ l, r.rows = l := ⟨_, rfl⟩
        rw [hrows] at hnext hmul hsl y2
        dsimp only at hmul
        obtain ⟨nw, hnw⟩ : ∃ n, rows.length = n := ⟨_, rfl⟩
        have hnwb : nw ≤ 1000000000000 := by have := HV.out.2.2.2.2.2.1 r hrm; rw [hrows] at this; omega
        rw [hnw] at hmul y2 hsl
        generalize hcs : csAt (relN rels) i = cs at hnext hmul hal
        have hlen := hal.len
        obtain ⟨na, hna⟩ : ∃ n, cs.length = n := ⟨_, rfl⟩
        rw [hna] at hlen hmul
        rw [hlen] at hal hca ⊢
        have hnab : na ≤ 34359738368 := by have := csAt_len (relN rels) i; rw [hcs] at this; have := HV.out.2.2.2.2.2.2.2 i hi; omega
        have hnabI : (na : Int) ≤ 34359738368 := by omega
        have hnwbI : (nw : Int) ≤ 1000000000000 := by omega
        have hm1v : m1 < nv := by omega
        have hm2v : m2 < nv := by omega
        have y0 := hbw.cell y0
        have y1 := hbw.cell y1
        have y2 := hbw.cell y2
        have hsl := hsl.below hbw
        have H1 := Lib.hid (And.intro hbw (And.intro hal (And.intro hna (And.intro hlen (And.intro hnext (And.intro hmul (And.intro hsl (And.intro hnw hm1v))))))))
        have H2 := Lib.hid hm2v
        clear hbw hal hna hlen hnext hmul hsl hnw hr hrm hb hrr hm1 hm2 hrv hRl hrows hcs hca e2 e3 hm1v hm2v
        obtain ⟨W0, rfl⟩ : ∃ x, x = wr := ⟨wr, rfl⟩
        go_wp2_with fail
        go_loopg [12, 13] (na + 1) (fun g s12 s13 wx => ∃ (k : Nat) (ns : List CB), k ≤ na ∧ na - k < g ∧ s13 = .int .i64 k ∧ Nx W0 wx nv s12 ns (midC ⟨m1, m2, rows⟩ cs k 0))
        case atStart => exact ⟨0, [], by omega, by omega, rfl, by rw [midC_start]; exact nx_nil W0 nv⟩
        case round =>
          obtain ⟨k, ns, hk, hg2, rfl, hnx⟩ := hrel
          have HNX := Lib.hid hnx
          clear hnx
          by_cases hlt2 : k < na
          · have hd2 : decide ((k : Int) < (na : Int)) = true := by simp; omega
            have hd2' : decide (k < na) = true := by simp; omega
            have hi2 : (k : Int) < (na : Int) := by omega
            obtain ⟨ab, aoff, rfl, a0, a1⟩ := H1.out.2.1.two k (by have := H1.out.2.2.1; omega)
            have hxm := H1.out.2.1.ch k (by have := H1.out.2.2.1; omega)
            obtain ⟨x, hx⟩ : ∃ x, vs.getD k cbd = x := ⟨_, rfl⟩
            obtain ⟨c0, hc0⟩ : ∃ c0, cs.getD k noC = c0 := ⟨_, rfl⟩
            rw [hx] at a0 a1 hxm
            rw [hc0] at hxm
            have H3 := Lib.hid (And.intro hxm (And.intro hx hc0))
            clear hx hc0 hxm
            go_wp2_with fail
            go_loopg [12, 14] (nw + 1) (fun g s12 s14 wy => ∃ (j : Nat) (ns : List CB), j ≤ nw ∧ nw - j < g ∧ s14 = .int .i64 j ∧ Nx W0 wy nv s12 ns (midC ⟨m1, m2, rows⟩ cs k j))
            case atStart => exact ⟨0, ns, by omega, by omega, rfl, HNX.out⟩
            case round =>
              clear HNX
              obtain ⟨j, ns, hj, hg3, rfl, hnx⟩ := hrel
              have HNX := Lib.hid hnx
              have HBY := Lib.hid hnx.below
              clear hnx
              have y0 := HBY.out.cell y0
              have y1 := HBY.out.cell y1
              have y2 := HBY.out.cell y2
              have a0 := HBY.out.cell a0
              have a1 := HBY.out.cell a1
              by_cases hlt3 : j < nw
              · have hd3 : decide ((j : Int) < (nw : Int)) = true := by simp; omega
                have hd3' : decide (j < nw) = true := by simp; omega
                have hi3 : (j : Int) < (nw : Int) := by omega
                obtain ⟨pb, poff, rfl, z0, z1⟩ := pair_at (H1.out.2.2.2.2.2.2.1.below HBY.out) j (by have := H1.out.2.2.2.2.2.2.2.1; omega)
                obtain ⟨⟨p, q⟩, hpq⟩ : ∃ pq, rows.getD j (0, 0) = pq := ⟨_, rfl⟩
                rw [hpq] at z0 z1
                dsimp only at z0 z1
                have hmid := midC_next ⟨m1, m2, rows⟩ cs k j (by have := H1.out.2.2.2.2.2.2.2.1; show j < rows.length; omega)
                rw [H3.out.2.2] at hmid
                dsimp only at hmid
                rw [hpq] at hmid
                have HMID := Lib.hid hmid
                have HW1 := Lib.hid (fun (W : World) (hW : BelS wr W) => with_ok ((H3.out.1.more HBY.out).more hW) m1 p H1.out.2.2.2.2.2.2.2.2 (by omega))
                clear hpq hmid
                go_upto_region 14 with fail
                go_cut [15, 16] from 47 to 104 (fun s15 s16 wx => Bx wr wx nv c0 x m1 p s15 s16)
                case first =>
                  go_region_held3 (fun W => W.cell? ⟨ab, aoff + k * 2, none⟩ = some (.slice (some ⟨x.b1, 0, none⟩) nv x.c1) ∧ W.cell? ⟨ab, aoff + k * 2 + 1, none⟩ = some (.slice (some ⟨x.b2, 0, none⟩) nv x.c2) ∧ W.cell? ⟨b, off + i * 3, none⟩ = some (.int .i64 m1) ∧ W.cell? ⟨b, off + i * 3 + 2, none⟩ = some (.slice (some ⟨pb, poff, none⟩) nw c2) ∧ W.cell? ⟨pb, poff + j * 2, none⟩ = some (.int .i64 p)) (with_reducible (first | exact ⟨a0, a1, y0, y2, z0⟩ | exact bel5 (BelS.refl wr).drew a0 a1 y0 y2 z0 | exact bel5 ((BelS.refl wr).alloc _) a0 a1 y0 y2 z0 | exact bel5 ((BelS.refl wr).alloc _).drew a0 a1 y0 y2 z0 | exact bel5 hbr3 a0 a1 y0 y2 z0 | exact bel5 (hbr3.alloc _) a0 a1 y0 y2 z0 | exact bel5 (BelS.set (hbr3.alloc _) hsz3 _ _) a0 a1 y0 y2 z0 | exact bel5 (BelS.set (BelS.set (hbr3.alloc _) hsz3 _ _) hsz3 _ _) a0 a1 y0 y2 z0 | exact bel5 (BelS.set hbr3 (Nat.le_refl _) _ _) a0 a1 y0 y2 z0 | exact bel5 (BelS.set (BelS.set hbr3 (Nat.le_refl _) _ _) (Nat.le_refl _) _ _) a0 a1 y0 y2 z0))
                    (first
                     | (go_at_call 22; refine (HW1.out wr.drew (BelS.refl _).drew).mono ?_; rintro e w3 ⟨y, ok, rfl, hb3, hch3, hok3, hy1, hy2⟩; have hbr3 : BelS wr w3 := (BelS.refl wr).drew.then hb3; have hsz3 := hbr3.size; have HA3 := Lib.hid (And.intro hb3 (And.intro hch3 (And.intro hok3 (And.intro hy1 hy2)))); clear hb3 hch3 hok3 hy1 hy2)
                     | (go_at_call 22; refine (HW1.out (wr.alloc (.cells #[.slice none 0 0, .slice none 0 0] 56)).drew ((BelS.refl _).alloc _).drew).mono ?_; rintro e w3 ⟨y, ok, rfl, hb3, hch3, hok3, hy1, hy2⟩; have hbr3 : BelS wr w3 := ((BelS.refl wr).alloc _).drew.then hb3; have hsz3 := hbr3.size; have HA3 := Lib.hid (And.intro hb3 (And.intro hch3 (And.intro hok3 (And.intro hy1 hy2)))); obtain ⟨bz0, bz1, bz2, bz3⟩ := box_kept hb3; have bzh := box_blk hb3; clear hb3 hch3 hok3 hy1 hy2))
                  all_goals
                    go_wp2_with fail
                    go_meet
                    go_light
                    first
                      | exact bxA hbr3 HA3.out.2.1 HA3.out.2.2.1 HA3.out.2.2.2.1 HA3.out.2.2.2.2 (Nat.le_refl _)
                      | exact bxB hbr3 bzh HA3.out.2.1 HA3.out.2.2.1 HA3.out.2.2.2.1 HA3.out.2.2.2.2 (by rw [show ∀ o, ((wr.alloc o).drew).heap.size = (wr.alloc o).heap.size from fun o => rfl, World.size_alloc]; omega) ⟨(H3.out.1.more HBY.out).h1, (H3.out.1.more HBY.out).h2⟩
                case rest =>
                  obtain ⟨bx, y, rfl, rfl, hbc, u0, u1, hyc, hy1, hy2⟩ := hcut
                  obtain ⟨W1, rfl⟩ : ∃ z, z = wc := ⟨wc, rfl⟩
                  have HNC := Lib.hid (HNX.out.more hbc)
                  have HYB := Lib.hid (And.intro hy1 hy2)
                  have HBC := Lib.hid hbc
                  cases hw1 : withC c0 m1 p with
                  | none =>
                    have hpc : pairC c0 ⟨m1, m2, rows⟩ (p, q) = none := by unfold pairC; rw [hw1]; rfl
                    have HM2 := Lib.hid (show midC ⟨m1, m2, rows⟩ cs k (j + 1) = midC ⟨m1, m2, rows⟩ cs k j by have := HMID.out; rw [hpc] at this; rw [this]; simp)
                    clear hpc hyc hbc hy1 hy2 hw1
                    go_wp2_with fail
                    go_roundg (nw - j)
                    case measure => exact hg3
                    case rel => exact ⟨j + 1, ns, by omega, by omega, by go_num, by rw [HM2.out]; exact HNC.out⟩
                  | some c1 =>
                    rw [hw1] at hyc
                    have HYC := Lib.hid (show ChM W1 nv c1 y from hyc)
                    have HW1' := Lib.hid hw1
                    have y1 := hbc.cell y1
                    have y2 := hbc.cell y2
                    have z1 := hbc.cell z1
                    have HW2 := Lib.hid (fun (W : World) (hW : BelS W1 W) => with_ok (HYC.out.more hW) m2 q H2.out (by omega))
                    clear hyc hbc hy1 hy2 hw1 a0 a1 y0 z0
                    go_upto_region 16 with fail
                    go_cut [17, 18] from 47 to 104 (fun s17 s18 wx => Bx W1 wx nv c1 y m2 q s17 s18)
                    case first =>
                      go_region_held3 (fun W => W.cell? ⟨bx, 0, none⟩ = some (.slice (some ⟨y.b1, 0, none⟩) nv y.c1) ∧ W.cell? ⟨bx, 1, none⟩ = some (.slice (some ⟨y.b2, 0, none⟩) nv y.c2) ∧ W.cell? ⟨b, off + i * 3 + 1, none⟩ = some (.int .i64 m2) ∧ W.cell? ⟨b, off + i * 3 + 2, none⟩ = some (.slice (some ⟨pb, poff, none⟩) nw c2) ∧ W.cell? ⟨pb, poff + j * 2 + 1, none⟩ = some (.int .i64 q)) (with_reducible (first | exact ⟨u0, u1, y1, y2, z1⟩ | exact bel5 (BelS.refl W1).drew u0 u1 y1 y2 z1 | exact bel5 ((BelS.refl W1).alloc _) u0 u1 y1 y2 z1 | exact bel5 ((BelS.refl W1).alloc _).drew u0 u1 y1 y2 z1 | exact bel5 hbr3 u0 u1 y1 y2 z1 | exact bel5 (hbr3.alloc _) u0 u1 y1 y2 z1 | exact bel5 (BelS.set (hbr3.alloc _) hsz3 _ _) u0 u1 y1 y2 z1 | exact bel5 (BelS.set (BelS.set (hbr3.alloc _) hsz3 _ _) hsz3 _ _) u0 u1 y1 y2 z1 | exact bel5 (BelS.set hbr3 (Nat.le_refl _) _ _) u0 u1 y1 y2 z1 | exact bel5 (BelS.set (BelS.set hbr3 (Nat.le_refl _) _ _) (Nat.le_refl _) _ _) u0 u1 y1 y2 z1))
                        (first
                         | (go_at_call 22; refine (HW2.out W1.drew (BelS.refl _).drew).mono ?_; rintro e w3 ⟨y3, ok, rfl, hb3, hch3, hok3, hy1, hy2⟩; have hbr3 : BelS W1 w3 := (BelS.refl W1).drew.then hb3; have hsz3 := hbr3.size; have HA3 := Lib.hid (And.intro hb3 (And.intro hch3 (And.intro hok3 (And.intro hy1 hy2)))); clear hb3 hch3 hok3 hy1 hy2)
                         | (go_at_call 22; refine (HW2.out (W1.alloc (.cells #[.slice none 0 0, .slice none 0 0] 56)).drew ((BelS.refl _).alloc _).drew).mono ?_; rintro e w3 ⟨y3, ok, rfl, hb3, hch3, hok3, hy1, hy2⟩; have hbr3 : BelS W1 w3 := ((BelS.refl W1).alloc _).drew.then hb3; have hsz3 := hbr3.size; have HA3 := Lib.hid (And.intro hb3 (And.intro hch3 (And.intro hok3 (And.intro hy1 hy2)))); obtain ⟨bz0, bz1, bz2, bz3⟩ := box_kept hb3; have bzh := box_blk hb3; clear hb3 hch3 hok3 hy1 hy2))
                      all_goals
                        go_wp2_with fail
                        go_meet
                        go_light
                        first
                          | exact bxA hbr3 HA3.out.2.1 HA3.out.2.2.1 HA3.out.2.2.2.1 HA3.out.2.2.2.2 (Nat.le_refl _)
                          | exact bxB hbr3 bzh HA3.out.2.1 HA3.out.2.2.1 HA3.out.2.2.2.1 HA3.out.2.2.2.2 (by rw [show ∀ o, ((W1.alloc o).drew).heap.size = (W1.alloc o).heap.size from fun o => rfl, World.size_alloc]; omega) ⟨HYC.out.h1, HYC.out.h2⟩
                    case rest =>
                      obtain ⟨dx, z, rfl, rfl, hbd, v0, v1, hzc, hz1, hz2⟩ := hcut
                      have HNC2 := Lib.hid (HNC.out.more hbd)
                      have HZB := Lib.hid (And.intro hz1 hz2)
                      cases hw2 : withC c1 m2 q with
                      | none =>
                        have hpc : pairC c0 ⟨m1, m2, rows⟩ (p, q) = none := by unfold pairC; rw [HW1'.out]; exact hw2
                        have HM2 := Lib.hid (show midC ⟨m1, m2, rows⟩ cs k (j + 1) = midC ⟨m1, m2, rows⟩ cs k j by have := HMID.out; rw [hpc] at this; rw [this]; simp)
                        clear hpc hzc hbd hz1 hz2 hw2
                        go_wp2_with fail
                        go_roundg (nw - j)
                        case measure => exact hg3
                        case rel => exact ⟨j + 1, ns, by omega, by omega, by go_num, by rw [HM2.out]; exact HNC2.out⟩
                      | some c2 =>
                        have hpc : pairC c0 ⟨m1, m2, rows⟩ (p, q) = some c2 := by unfold pairC; rw [HW1'.out]; exact hw2
                        have HM2 := Lib.hid (show midC ⟨m1, m2, rows⟩ cs k (j + 1) = midC ⟨m1, m2, rows⟩ cs k j ++ [c2] by have := HMID.out; rw [hpc] at this; exact this)
                        rw [hw2] at hzc
                        have HZC := Lib.hid (show ChM wc nv c2 z from hzc)
                        have HLEN := Lib.hid (show ns.length ≤ 34359738368 by
                          have h1 := HNX.out.len
                          have h2 := midC_len ⟨m1, m2, rows⟩ cs k j (by have := H1.out.2.2.1; omega) (by have := H1.out.2.2.2.2.2.2.2.1; show j ≤ rows.length; omega)
                          have h3 := H1.out.2.2.2.2.2.1
                          have h4 := H1.out.2.2.1
                          have h5 := H1.out.2.2.2.2.2.2.2.1
                          dsimp only at h2
                          rw [h4, h5] at h2
                          omega)
                        have HAP := Lib.hid (show u12.ownBlock ≠ some z.b1 ∧ u12.ownBlock ≠ some z.b2 by
                          have q1 := H3.out.1.h1
                          have q2 := H3.out.1.h2
                          have q3 := HBC.out.size
                          refine ⟨HNX.out.ne ?_, HNX.out.ne ?_⟩
                          · rcases HZB.out.1 with e | e
                            · rcases HYB.out.1 with e2 | e2
                              · left; omega
                              · right; omega
                            · right; omega
                          · rcases HZB.out.2 with e | e
                            · rcases HYB.out.2 with e2 | e2
                              · left; omega
                              · right; omega
                            · right; omega)
                        clear hpc hzc hbd hz1 hz2 hw2 HW2 HNC
                        go_wp2_with (at_builtin; (refine G.wp_app1 rfl _ _ 57 56 rfl _ 2 48 Try.underlying57 info_c rfl (by omega) (by omega) (encC nv) (fun _ => rfl) (encC_one nv) W0.heap.size u12 ns z _ rfl rfl _ rfl rfl HNC2.out.own HNC2.out.below.size (by have := HLEN.out; omega) ?_))
                        intro v9 w9 ho9 hg9 hv9
                        have HN9 := Lib.hid (HNC2.out.app HZC.out HAP.out ho9 hg9 hv9)
                        clear ho9 hg9 hv9
                        go_wp2_with fail
                        go_roundg (nw - j)
                        case measure => exact hg3
                        case rel => exact ⟨j + 1, ns ++ [z], by omega, by omega, by go_num, by rw [HM2.out]; exact HN9.out⟩
              · have hd3 : decide ((j : Int) < (nw : Int)) = false := by simp; omega
                have hd3' : decide (j < nw) = false := by simp; omega
                have HT2 := Lib.hid (show midC ⟨m1, m2, rows⟩ cs k j = midC ⟨m1, m2, rows⟩ cs (k + 1) 0 by
                  have h5 := H1.out.2.2.2.2.2.2.2.1
                  rw [← midC_turn ⟨m1, m2, rows⟩ cs k (by have := H1.out.2.2.1; omega)]
                  show midC _ cs k j = midC _ cs k rows.length
                  rw [h5, show j = nw by omega])
                go_wp2_with fail
                go_roundg (na - k)
                case measure => exact hg2
                case rel => exact ⟨k + 1, ns, by omega, by omega, by go_num, by rw [← HT2.out]; exact HNX.out⟩
          · have hd2 : decide ((k : Int) < (na : Int)) = false := by simp; omega
            have hd2' : decide (k < na) = false := by simp; omega
            have HT3 := Lib.hid (show midC ⟨m1, m2, rows⟩ cs k 0 = csAt (relN rels) (i + 1) by
              rw [H1.out.2.2.2.2.1, ← midC_end, H1.out.2.2.1, show k = na by omega])
            have HAL2 := Lib.hid (show Al wr nv u12 ns (csAt (relN rels) (i + 1)) by rw [← HT3.out]; exact HNX.out.al)
            have HBW2 := Lib.hid (H1.out.1.then HNX.out.below)
            go_wp2_with fail
            go_roundg (nr - i)
            case measure => exact hg
            case rel => exact ⟨i + 1, ns, by omega, by omega, by go_num, HBW2.out, HAL2.out⟩
      · obtain rfl : i = nr := by omega
        have hd : decide ((i : Int) < (i : Int)) = false := by simp
        obtain ⟨cs, hcs⟩ : ∃ c, csAt (relN rels) i = c := ⟨_, rfl⟩
        rw [hcs] at hal
        have hlen := hal.len
        obtain ⟨na, hna⟩ : ∃ n, cs.length = n := ⟨_, rfl⟩
        rw [hna] at hlen
        rw [hlen] at hal hca ⊢
        have hnab : na ≤ 34359738368 := by have := csAt_len (relN rels) i; rw [hcs] at this; have := HV.out.2.2.2.2.2.2.2 i (Nat.le_refl _); omega
        have hnabI : (na : Int) ≤ 34359738368 := by omega
        have HJ := Lib.hid (show outC keep cs na = joinL keep rels by
          have := outC_end rels keep
          rw [HV.out.2.2.2.1, hcs, hna] at this
          exact this)
        have H1 := Lib.hid (And.intro hbw (And.intro hal hna))
        clear hbw hal hna hlen hca hcs hlt hg hi
        obtain ⟨W0, rfl⟩ : ∃ x, x = wr := ⟨wr, rfl⟩
        go_wp2_with fail
        go_loopg [19, 20] (na + 1) (fun g s19 s20 wx => ∃ (k : Nat) (zs : List SV), k ≤ na ∧ na - k < g ∧ s20 = .int .i64 k ∧ BelS W0 wx ∧ RowsS wx s19 (outC keep cs k) zs)
        case atStart => exact ⟨0, [], by omega, by omega, rfl, BelS.refl _, by rw [outC_zero]; exact rowsS_nil W0⟩
        case round =>
          obtain ⟨k, zs, hk, hg, rfl, hbk, hrs⟩ := hrel
          have HK := Lib.hid (And.intro hbk hrs)
          clear hbk hrs
          by_cases hlt : k < na
          · have hd2 : decide ((k : Int) < (na : Int)) = true := by simp; omega
            have hd2' : decide (k < na) = true := by simp; omega
            have hi2 : (k : Int) < (na : Int) := by omega
            obtain ⟨ab, aoff, rfl, a0, _⟩ := H1.out.2.1.two k (by have := H1.out.2.2; omega)
            have hxm := H1.out.2.1.ch k (by have := H1.out.2.2; omega)
            obtain ⟨x, hx⟩ : ∃ x, vs.getD k cbd = x := ⟨_, rfl⟩
            obtain ⟨c0, hc0⟩ : ∃ c0, cs.getD k noC = c0 := ⟨_, rfl⟩
            rw [hx] at a0 hxm
            rw [hc0] at hxm
            have HC := Lib.hid (And.intro hxm hc0)
            have a0 := HK.out.1.cell a0
            obtain ⟨Wk, rfl⟩ : ∃ z, z = wr := ⟨wr, rfl⟩
            clear hx hc0 hxm
            go_wp2_with fail
            go_loopg [21, 22] (nk + 1) (fun g s21 s22 wy => ∃ j : Nat, j ≤ nk ∧ nk - j < g ∧ s22 = .int .i64 j ∧ BelS Wk wy ∧ G.OwnL wy Wk.heap.size 3 1 enc1 s21 ((rowC keep c0).take j))
            case atStart => exact ⟨0, by omega, by omega, rfl, BelS.refl _, G.OwnL.nil _ _ _ _ _⟩
            case round =>
              obtain ⟨j, hj, hg2, rfl, hbj, how⟩ := hrel
              have HO := Lib.hid how
              have HBJ := Lib.hid hbj
              clear how hbj
              by_cases hlt2 : j < nk
              · have hd3 : decide ((j : Int) < (nk : Int)) = true := by simp; omega
                have hd3' : decide (j < nk) = true := by simp; omega
                have hi3 : (j : Int) < (nk : Int) := by omega
                obtain ⟨kb, koff, kc, hkv, _, hkb, hkc⟩ := sl_one HV.out.1 0 j (by have := HV.out.2.1; omega)
                injection hkv with e1 e2 e3
                subst e1
                have hkr := HV.out.2.2.2.2.2.2.1.kr (keep.getD j 0) (by rw [getD_lt _ _ (by have := HV.out.2.1; omega)]; exact List.getElem_mem _)
                obtain ⟨m, hm⟩ : ∃ m : Nat, keep.getD j 0 = m := ⟨(keep.getD j 0).toNat, by omega⟩
                rw [hm] at hkc hkr
                have hmv : m < nv := by omega
                have hmi : (m : Int) < (nv : Int) := by omega
                have q0 := (HC.out.1.more HK.out.1).a m hmv
                have q1 := (H1.out.1.then HK.out.1).cell hkc
                obtain ⟨val, hval⟩ : ∃ z, (c0 m).getD 0 = z := ⟨_, rfl⟩
                rw [hval] at q0
                have HRW := Lib.hid (show (rowC keep c0).take (j + 1) = (rowC keep c0).take j ++ [val] by
                  rw [take_snoc _ 0 j (by unfold rowC; rw [List.length_map]; have := HV.out.2.1; omega)]
                  congr 2
                  unfold rowC
                  rw [getD_map (fun v : Int => (c0 v.toNat).getD 0) keep j 0 0 (by have := HV.out.2.1; omega), hm]
                  exact hval)
                have HLE := Lib.hid (show ((rowC keep c0).take j).length ≤ 1000 by rw [List.length_take]; omega)
                clear e2 e3 hkb hkc hkr hm hval
                obtain ⟨nj, hnj⟩ : ∃ n, ((rowC keep c0).take j).length = n := ⟨_, rfl⟩
                obtain ⟨F, hF⟩ : ∃ F, ((rowC keep c0).take j).flatMap enc1 = F := ⟨_, rfl⟩
                have how : wr.ownsRow Wk.heap.size 3 1 u21 nj F := by have h : wr.ownsRow Wk.heap.size 3 1 u21 ((rowC keep c0).take j).length (((rowC keep c0).take j).flatMap enc1) := HO.out; rwa [hnj, hF] at h
                have HO1 := Lib.hid (World.ownsRow.alloc how (.cells #[.int .i64 val] 3))
                have hnjb : nj ≤ 1000 := by have := HLE.out; omega
                have HNF := Lib.hid (And.intro hnj hF)
                have hwl : Wk.heap.size ≤ (wr.alloc (.cells #[.int .i64 val] 3)).heap.size := by rw [World.size_alloc]; have := HBJ.out.size; omega
                obtain ⟨i0, hi0, hz0, hz1, hz2⟩ := info_parts info_int
                have HZ := Lib.hid (And.intro hi0 (And.intro hz0 (And.intro hz1 hz2)))
                have HRD := Lib.hid (HBJ.out)
                clear how hi0 hz0 hz1 hz2 hnj hF
                go_wp2_with fail
                go_region_held3 (fun W => W.cell? ⟨ab, aoff + k * 2, none⟩ = some (.slice (some ⟨x.b1, 0, none⟩) nv x.c1) ∧ W.cell? ⟨kb, koff + j, none⟩ = some (.int .i64 m) ∧ W.cell? ⟨x.b1, m, none⟩ = some (.int .i64 val)) (with_reducible (first | exact bel3 HRD.out a0 q1 q0 | exact bel3 HRD.out.drew a0 q1 q0 | exact bel3 (HRD.out.alloc _) a0 q1 q0 | exact bel3 (HRD.out.alloc _).drew a0 q1 q0 | exact bel3 hb9.out a0 q1 q0))
                  ((refine step_append_lies _ (by rfl) _ _ _ (by rfl) Wk.heap.size 3 i0 _ 1 8 Try.underlying23 HZ.out.1 HZ.out.2.1 HZ.out.2.2.1 HZ.out.2.2.2 rfl (by omega) u21 nj F (by rfl) (own_below HO1.out (BelS.refl _).drew) ⟨wr.heap.size, 0, none⟩ 1 1 [.int .i64 val] (by rfl) rfl (World.news_of_block (cs := #[.int .i64 val]) (t := 3) (fr := (0, 0)) (show ((wr.alloc (.cells #[.int .i64 val] 3)).drew).heap[wr.heap.size]? = _ from heap_alloc_new wr _)) (by simp [Value.oneCell']) (by omega) (by unfold maxLen; omega) (by omega) hwl (wr.heap.size + 1) (by simp) ?_; intro gg cp4 w4 hown4 hgrow hat hlt4; have hb9 := Lib.hid (show BelS Wk w4 from Below.grown (HBJ.out.alloc _).drew hgrow hwl (fun j hj => G.OwnL.ge HO.out j hj)); have HC4 := Lib.hid hown4; clear hown4 hgrow hat hlt4))
                go_wp2_with fail
                go_roundg (nk - j)
                case measure => exact hg2
                case rel =>
                  go_light
                  refine ⟨j + 1, by omega, by omega, by go_num, hb9.out, ?_⟩
                  rw [HRW.out]
                  have h := HC4.out
                  rw [← HNF.out.2] at h
                  show World.ownsRow _ _ _ _ _ _ _
                  rw [List.length_append, List.flatMap_append, HNF.out.1]
                  exact h
              · have hd3 : decide ((j : Int) < (nk : Int)) = false := by simp; omega
                have hd3' : decide (j < nk) = false := by simp; omega
                have HRO := Lib.hid (show G.SlL wr enc1 u21 (rowC keep c0) by
                  have := HO.out.sl
                  rwa [List.take_of_length_le (by unfold rowC; rw [List.length_map]; have := HV.out.2.1; omega)] at this)
                have HPR := Lib.hid (outC_row keep cs k (by have := H1.out.2.2; omega))
                have HPUT := Lib.hid (put_ok (HK.out.2.more HBJ.out) HRO.out (by have := HPR.out.1; omega) (fun z hz => by rw [HPR.out.2 z hz]; have := HV.out.2.1; omega) (by unfold rowC; rw [List.length_map]; have := HV.out.2.1; omega))
                go_wp2_with fail
                refine HPUT.out.mono ?_
                rintro e w5 ⟨v5, zs5, rfl, hb5, hrs5⟩
                have HB5 := Lib.hid ((HK.out.1.then HBJ.out).then hb5)
                have HN5 := Lib.hid (show outC keep cs (k + 1) = ins (rowC keep c0) (outC keep cs k) by rw [outC_next keep cs k (by have := H1.out.2.2; omega), HC.out.2])
                have HR5 := Lib.hid hrs5
                clear hb5 hrs5 HPUT
                go_wp2_with fail
                go_roundg (na - k)
                case measure => exact hg
                case rel => exact ⟨k + 1, zs5, by omega, by omega, by go_num, HB5.out, by rw [HN5.out]; exact HR5.out⟩
          · have hd2 : decide ((k : Int) < (na : Int)) = false := by simp; omega
            have hd2' : decide (k < na) = false := by simp; omega
            obtain rfl : k = na := by omega
            have HOUT := Lib.hid (show RowsS wr u19 (joinL keep rels) zs by rw [← HJ.out]; exact HK.out.2)
            have HBW := Lib.hid (H1.out.1.then HK.out.1)
            obtain ⟨A9, c9, hv9, _⟩ := HOUT.out.sl
            rw [HOUT.out.all.len] at hv9
            subst hv9
            obtain ⟨no, hno⟩ : ∃ n, (joinL keep rels).length = n := ⟨_, rfl⟩
            rw [hno]
            have HNO := Lib.hid hno
            clear hno
            by_cases hm : most < (no : Int)
            · have hd4 : decide (most < (no : Int)) = true := by simpa using hm
              have HM := Lib.hid hm
              go_wp2_with fail
              go_ret2
              exact ⟨_, _, rfl, HBW.out, .inr (.inl ⟨HV.out.2.2.2.2.2.2.1, by rw [HNO.out]; exact HM.out, rfl, rfl⟩)⟩
            · have hd4 : decide (most < (no : Int)) = false := by simpa using hm
              have HM := Lib.hid hm
              go_wp2_with fail
              go_ret2
              exact ⟨_, _, rfl, HBW.out, .inr (.inr ⟨HV.out.2.2.2.2.2.2.1, by rw [HNO.out]; have := HM.out; omega, rfl, by rw [← HNO.out]; exact HOUT.out.out⟩)⟩
/-- The document's join answers as the program's. -/
theorem rjoin_ok {w : World} (vars most : Int) (kv rv : Value) (keep : List Int) (rels : List RelV) (hk : G.SlL w enc1 kv keep) (hr : G.SlL w encR rv rels) (hsv : ∀ r ∈ rels, RelIn w r) (hkl : keep.length ≤ 1000) (hrl : rels.length ≤ 1000) (hrs : ∀ r ∈ rels, r.rows.length ≤ 1000000000000) (hS : ∀ i, i ≤ rels.length → prodL ((relN rels).take i) ≤ 34359738368) :
    Calls Try.prog 12 #[.int .i64 vars, kv, rv, .int .i64 most] w (JPost w vars keep rels most) := by
  by_cases hp : MayP vars keep rels most
  · obtain ⟨nv, hv⟩ : ∃ nv : Nat, vars = nv := ⟨vars.toNat, by have := hp.v1; omega⟩
    subst hv
    exact rjoin_yes nv most kv rv keep rels hk hr hsv hkl hrl hrs hS hp
  · exact rjoin_no vars most kv rv keep rels hk hr (fun r hr => by obtain ⟨A, c, h, _⟩ := (hsv r hr).sl; exact ⟨A, _, c, h⟩) (by omega) (by omega) hp
end Go.Proofs.Ytejinhnmabnomaa.Lf
