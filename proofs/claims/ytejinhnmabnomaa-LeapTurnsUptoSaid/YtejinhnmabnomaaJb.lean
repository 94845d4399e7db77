/-
  Joined by wip/tools/merge.py from the texts Ld2 Ld3 Ld4 Ld5 Ld6. Conditions: as each says.
-/
import Derived.Test.YtejinhnmabnomaaJ9
import Derived.Test.YtejinhnmabnomaaJ7
import Derived.Deep.LoopGhost
import Derived.Deep.Light
import Derived.Deep.QuietTactic
import Derived.BigQuiet
import Derived.Test.YtejinhnmabnomaaJ0
import Derived.Lib.Hide
import Derived.Deep.RegionHeld3
section
/-
  A relation's walk. Conditions: the relation's pairs and the ranks lie as told.
-/
namespace Go.Proofs.Ytejinhnmabnomaa.Lf
open Go.RowKit Go.Proofs.YtejinhnmabnomaaW.PrintWords Go.Proofs.Ytejinhnmabnomaa.Pm Go.Proofs.Ytejinhnmabnomaa.Pw

/-- A pair's cells. -/
def enc2 (p : Int × Int) : List Value := [.int .i64 p.1, .int .i64 p.2]
theorem enc2_one (x : Int × Int) : ∀ u ∈ enc2 x, u.oneCell' = true := by intro u hu; simp [enc2] at hu; rcases hu with rfl | rfl <;> rfl
theorem enc3_one (x : R3) : ∀ u ∈ enc3 x, u.oneCell' = true := by intro u hu; simp [enc3] at hu; rcases hu with rfl | rfl | rfl <;> rfl
theorem slR_own {w : World} {base : Nat} {e : TypeId} {v : Value} {l : List R3} (h : G.OwnL w base e 3 enc3 v l) : SlR w v l := by
  obtain ⟨A, c, hv, hc, hn, hs⟩ := h.form
  refine ⟨A, c, hv, hc, ?_⟩
  cases A with
  | none => exact .inl ⟨rfl, (hn rfl).2⟩
  | some a =>
    obtain ⟨b, rfl, hb, _⟩ := hs a rfl
    refine .inr ⟨b, 0, rfl, hb, fun k i hk hi => ?_⟩
    obtain ⟨b', off', c', hv', _, hcl⟩ := h.sl.at_ (k := 3) (fun _ => rfl) k (l.getD k r0) (by rw [List.getD_eq_getElem?_getD, List.getElem?_eq_getElem hk]; rfl)
    rw [hv] at hv'
    injection hv' with e1 e2 e3
    injection e1 with e1
    injection e1 with e1 e4
    subst e1 e4
    refine hcl i _ ?_
    obtain rfl | rfl | rfl : i = 0 ∨ i = 1 ∨ i = 2 := by omega
    all_goals rfl
/-- What a walk is when it was made. -/
structure Wnew (w0 w w' : World) (k : Wr) (L : List R3) : Prop where
  ws : Ws w0 w' k ⟨[], false⟩
  L : k.L = L
  below : Below w.heap.size w w'
  new : w.heap.size ≤ k.g ∧ w.heap.size ≤ k.X ∧ w.heap.size ≤ k.b
  ne : k.X ≠ k.g ∧ k.b ≠ k.g
theorem num_le {L : List R3} {B : Int} (hB : 0 ≤ B) (h : ∀ x ∈ L, x.a ≤ B ∧ x.b ≤ B ∧ x.c ≤ B) (e i : Nat) : num L o1 e i ≤ B := by
  unfold num
  have hr : (L.getD i r0).a ≤ B ∧ (L.getD i r0).b ≤ B ∧ (L.getD i r0).c ≤ B := by
    by_cases hi : i < L.length
    · rw [getD_lt _ _ hi]; exact h _ (List.getElem_mem hi)
    · rw [List.getD_eq_getElem?_getD, List.getElem?_eq_none (by omega)]; exact ⟨hB, hB, hB⟩
  unfold R3.at
  split
  · exact hr.1
  · split
    · exact hr.2.1
    · exact hr.2.2
/-- The rows are made: their walk. -/
theorem walk_of {w0 w1 : World} (hw : Below w0.heap.size w0 w1) {v : Value} {l : List R3} (hv : SlR w1 v l) (hsm : l.length * 24 ≤ 140737488355328) :
    Calls Try.prog 26 #[v, .agg #[.int .i64 0, .int .i64 1, .int .i64 2]] w1 fun e w' => ∃ X b c, e = .returned (.tuple #[.pointer (some ⟨X, 0, none⟩), .int .i64 0]) ∧ Mk w0 w' X b c o1 (rowsOf o1 l) ∧ Below w1.heap.size w1 w' ∧ w1.heap.size ≤ X ∧ w1.heap.size ≤ b :=
  mk_new w0 w1 hw v l hv hsm o1 six1
theorem walk_new {w0 w w1 w2 w3 : World} {X b c g : Nat} {l : List R3} (h1 : Below w.heap.size w w1) (h2 : Mk w0 w2 X b c o1 (rowsOf o1 l)) (h3 : Below w1.heap.size w1 w2) (hX : w1.heap.size ≤ X) (hb : w1.heap.size ≤ b) (h4 : At w0 w3 g X b c o1 (rowsOf o1 l) (root (rowsOf o1 l).length)) (h5 : Below w2.heap.size w2 w3) (hg : w2.heap.size ≤ g)
    (hn : ∀ x ∈ l, x.a ≤ 9223372036854775807 ∧ x.b ≤ 9223372036854775807 ∧ x.c ≤ 9223372036854775807) : Wnew w0 w w3 ⟨g, X, b, c, rowsOf o1 l⟩ (rowsOf o1 l) := by
  have s1 := h1.size
  have s2 := h3.size
  have := h2.xs
  have := h2.bs
  refine ⟨⟨⟨_, h4, rel_root _ _⟩, fun e i _ => num_le (by omega) (fun x hx => hn x ((rowsOf_mem o1 l x).1 hx)) e i⟩, rfl, below_tr (below_tr h1 h3 s1) h5 (Nat.le_trans s1 s2), ⟨by show w.heap.size ≤ g; omega, by show w.heap.size ≤ X; omega, by show w.heap.size ≤ b; omega⟩, ⟨by show X ≠ g; omega, by show b ≠ g; omega⟩⟩

theorem rowsW_top (same gt : Bool) {l : List (Int × Int)} (h : ∀ p ∈ l, p.1 ≤ 9223372036854775807 ∧ p.2 ≤ 9223372036854775807) : ∀ x ∈ rowsW same gt l, x.a ≤ 9223372036854775807 ∧ x.b ≤ 9223372036854775807 ∧ x.c ≤ 9223372036854775807 := rowsW_num same gt (by decide) h
theorem below_swap (wr : World) (p0 p1 : Int) (n : Nat) : Below wr.heap.size wr ((((wr.alloc (.cells #[.int .i64 p0, .int .i64 p1] 22)).drewN n).setCell ⟨wr.heap.size, 0, none⟩ (.int .i64 p1)).setCell ⟨wr.heap.size, 1, none⟩ (.int .i64 p0)) :=
  ((below_tr ((Below.refl _ _).alloc (Nat.le_refl _) _) (below_drewN _ n) (by rw [World.size_alloc]; omega)).setCell (Nat.le_refl _) _).setCell (Nat.le_refl _) _
/-- What a round does. -/
structure Wr1 (w wr : World) (a b : Nat) (rv s5 : Value) (l : List R3) : Prop where
  below : Below w.heap.size w wr
  box : wr.heap[w.heap.size]? = some (.cells #[.int .i64 a, .int .i64 b, rv] 35 (0, 0))
  own : G.OwnL wr (w.heap.size + 1) 65 3 enc3 s5 l
  big : w.heap.size + 1 ≤ wr.heap.size
theorem Wr1.next {w wr wb w9 : World} {a b : Nat} {rv s5 v9 : Value} {l l9 : List R3} (h : Wr1 w wr a b rv s5 l) (hb : Below wr.heap.size wr wb) (ho : G.OwnL w9 (w.heap.size + 1) 65 3 enc3 v9 l9) (hg : wb.grownBy w9 s5.ownBlock) : Wr1 w w9 a b rv v9 l9 := by
  have hbig := h.big
  have hs := hb.size
  have hz : w.heap.size < wr.heap.size := by omega
  have hown : ∀ g, s5.ownBlock = some g → w.heap.size + 1 ≤ g := fun g e => h.own.ge g e
  refine ⟨(below_tr h.below hb h.below.size).grown hg (by omega) (fun g e => by have := hown g e; omega), ?_, ho, Nat.le_trans (Nat.le_trans hbig hs) hg.size⟩
  rw [hg.block w.heap.size (by omega) (fun e => by have := hown _ e.symm; omega), hb.block _ hz]
  exact h.box
end Go.Proofs.Ytejinhnmabnomaa.Lf
end
section
/-
  A relation's walk, walked. Conditions: the relation's pairs and the ranks lie as told.
-/
namespace Go.Proofs.Ytejinhnmabnomaa.Lf
open Go.RowKit Go.Proofs.YtejinhnmabnomaaW.PrintWords Go.Proofs.Ytejinhnmabnomaa.Pm Go.Proofs.Ytejinhnmabnomaa.Pw

set_option maxHeartbeats 2000000 in
theorem walk_ok {w0 w : World} (hw : Below w0.heap.size w0 w) (a b n rb nr cr ra rbk : Nat) (A : Option Addr) (cp : Nat) (pairs : List (Int × Int)) (hv : G.SlL w enc2 (.slice A n cp) pairs) (hn : pairs.length = n) (hsm : n * 24 ≤ 140737488355328) (hi : ∀ p ∈ pairs, p.1 ≤ 9223372036854775807 ∧ p.2 ≤ 9223372036854775807)
    (ha : a < nr) (hb : b < nr) (hra : w.cell? ⟨rb, a, none⟩ = some (.int .i64 ra)) (hrb : w.cell? ⟨rb, b, none⟩ = some (.int .i64 rbk)) (hnr : nr ≤ 1000) (hr1 : ra ≤ 1000) (hr2 : rbk ≤ 1000) :
    Calls Try.prog 19 #[.agg #[.int .i64 a, .int .i64 b, .slice A n cp], .slice (some ⟨rb, 0, none⟩) nr cr] w fun e w' => ∃ k, e = .returned k.ptr ∧ Wnew w0 w w' k (rowsOf o1 (rowsW (decide (a = b)) (decide (rbk < ra)) pairs)) := by
  have HV := Lib.hid (And.intro hv (And.intro hn (And.intro hi hw)))
  have hrbs := World.block_lt_of_cell? w _ hra
  have HR := Lib.hid (And.intro hra (And.intro hrb hrbs))
  clear hv hn hi hw hra hrb hrbs
  have hbx : (w.alloc (.cells #[.int .i64 a, .int .i64 b, .slice A n cp] 35)).heap[w.heap.size]? = some (.cells #[.int .i64 a, .int .i64 b, .slice A n cp] 35 (0, 0)) := heap_alloc_new w _
  have hb0 : Below w.heap.size w (w.alloc (.cells #[.int .i64 a, .int .i64 b, .slice A n cp] 35)) := (Below.refl _ _).alloc (Nat.le_refl _) _
  have HB := Lib.hid (And.intro hbx hb0)
  clear hbx hb0
  have han : (a : Int) < (nr : Int) := by omega
  have hbn : (b : Int) < (nr : Int) := by omega
  have hnn : (n : Int) ≤ 140737488355328 := by omega
  have hra1 : (ra : Int) ≤ 1000 := by omega
  have hrb1 : (rbk : Int) ≤ 1000 := by omega
  go_enter Try.func19, Try.ntmps19
  go_wp2_with fail
  go_loopg [5, 13] (n + 1) (fun g s5 s13 wr => ∃ k : Nat, k ≤ n ∧ n - k < g ∧ s13 = .int .i64 k ∧ Wr1 w wr a b (.slice A n cp) s5 (rowsW (decide (a = b)) (decide (rbk < ra)) (pairs.take k)))
  case atStart => exact ⟨0, by omega, by omega, rfl, ⟨HB.out.2, HB.out.1, G.OwnL.nil _ _ _ _ _, by rw [World.size_alloc]; omega⟩⟩
  case round =>
    obtain ⟨k, hk, hg, rfl, h1⟩ := hrel
    have H1 := Lib.hid h1
    obtain ⟨q0, q1, q2⟩ : wr.cell? ⟨w.heap.size, 0, none⟩ = some (.int .i64 a) ∧ wr.cell? ⟨w.heap.size, 1, none⟩ = some (.int .i64 b) ∧ wr.cell? ⟨w.heap.size, 2, none⟩ = some (.slice A n cp) := by
      have := h1.box
      refine ⟨?_, ?_, ?_⟩ <;> simp [World.cell?, this]
    have hwz : wr.heap.size ≠ w.heap.size := by have := h1.big; omega
    clear h1
    by_cases hlt : k < n
    · have hd : decide ((k : Int) < (n : Int)) = true := by simp; omega
      have hl2 : (k : Int) < (n : Int) := by omega
      obtain ⟨pb, off, c', hv', hpb, hcl⟩ := HV.out.1.at_ (k := 2) (fun _ => rfl) k (pairs.getD k (0, 0)) (by rw [List.getD_eq_getElem?_getD, List.getElem?_eq_getElem (by have := HV.out.2.1; omega)]; rfl)
      have hv2 := Lib.hid hv'
      injection hv' with e1 e2 e3
      subst e1
      have x0 := H1.out.below.cell (p := ⟨pb, off + k * 2 + 0, none⟩) hpb
      have x1 := H1.out.below.cell (p := ⟨pb, off + k * 2 + 1, none⟩) hpb
      rw [hcl 0 _ rfl, Nat.add_zero] at x0
      rw [hcl 1 _ rfl] at x1
      have HT := Lib.hid (rowsW_take (decide (a = b)) (decide (rbk < ra)) pairs k (by have := HV.out.2.1; omega))
      obtain ⟨p, hp⟩ : ∃ p, pairs.getD k (0, 0) = p := ⟨_, rfl⟩
      rw [hp] at x0 x1 HT
      have HLN := Lib.hid (rowsW_len (decide (a = b)) (decide (rbk < ra)) (pairs.take k))
      have hpl : (pairs.take k).length = k := by rw [List.length_take]; have := HV.out.2.1; omega
      have HPL := Lib.hid hpl
      clear hcl e2 e3 hp hpl
      have ra0 := (H1.out.below.cell (p := ⟨rb, a, none⟩) HR.out.2.2).trans HR.out.1
      have rb0 := (H1.out.below.cell (p := ⟨rb, b, none⟩) HR.out.2.2).trans HR.out.2.1
      obtain ⟨p0, p1⟩ := p
      simp only [] at x0 x1
      obtain ⟨xs, hxs⟩ : ∃ xs, rowsW (decide (a = b)) (decide (rbk < ra)) (pairs.take k) = xs := ⟨_, rfl⟩
      rw [hxs] at HT HLN
      have H2 : Hid (Wr1 w wr a b (.slice (some ⟨pb, off, none⟩) n cp) u5 xs) := by have := H1.out; rw [hxs] at this; exact Lib.hid this
      have HXL : Hid ((xs.length + 1) * 24 ≤ 140737488355328) := Lib.hid (by have := HLN.out; rw [HPL.out] at this; omega)
      clear hxs H1
      have q0 := alloc_cell (o := .cells #[.int .i64 p0, .int .i64 p1] 22) q0
      have q1 := alloc_cell (o := .cells #[.int .i64 p0, .int .i64 p1] 22) q1
      have ra0 := alloc_cell (o := .cells #[.int .i64 p0, .int .i64 p1] 22) ra0
      have rb0 := alloc_cell (o := .cells #[.int .i64 p0, .int .i64 p1] 22) rb0
      have hba : Below wr.heap.size wr (wr.alloc (.cells #[.int .i64 p0, .int .i64 p1] 22)) := (Below.refl _ _).alloc (Nat.le_refl _) _
      have HBA := Lib.hid hba
      clear hba hwz
      by_cases hab : a = b
      · have hd2 : ((a : Int) == (b : Int)) = true := by simp; omega
        have HAB := Lib.hid hab
        clear hab
        obtain ⟨dp, hdp⟩ : ∃ dp, (p0 == p1) = dp := ⟨_, rfl⟩
        cases dp
        · go_wp2_with fail
          go_roundg (n - k)
          case measure => exact hg
          case rel =>
            go_light
            have hno : p0 ≠ p1 := by simpa using hdp
            have h9 := H2.out.next HBA.out (H2.out.own.below HBA.out) (World.grownBy.refl _ _)
            refine ⟨k + 1, by omega, by omega, by go_num, ?_⟩
            rw [HT.out]
            have : rowW (decide (a = b)) (decide (rbk < ra)) (p0, p1) = [] := by unfold rowW; rw [decide_eq_true HAB.out, if_pos rfl, if_neg hno]
            rw [this, List.append_nil]
            exact h9
        · have hyes : p0 = p1 := by simpa using hdp
          have HYE := Lib.hid hyes
          clear hyes
          go_wp2_with (at_builtin; (refine G.wp_app1 rfl _ _ 64 65 rfl _ 3 24 Try.underlying64 info23 rfl (by omega) (by omega) enc3 (fun _ => rfl) enc3_one (w.heap.size + 1) u5 xs ⟨p0, 0, 0⟩ _ rfl rfl _ rfl (by rw [World.size_alloc]) (H2.out.own.below HBA.out) (Nat.le_trans H2.out.big HBA.out.size) HXL.out ?_))
          intro v9 w9 ho9 hg9 _
          have H9 := Lib.hid (H2.out.next HBA.out ho9 hg9)
          clear ho9 hg9
          go_wp2_with fail
          go_roundg (n - k)
          case measure => exact hg
          case rel =>
            go_light
            refine ⟨k + 1, by omega, by omega, by go_num, ?_⟩
            rw [HT.out]
            have : rowW (decide (a = b)) (decide (rbk < ra)) (p0, p1) = [⟨p0, 0, 0⟩] := by unfold rowW; rw [decide_eq_true HAB.out, if_pos rfl, if_pos HYE.out]
            rw [this]
            exact H9.out
      · have hd2 : ((a : Int) == (b : Int)) = false := by simp; omega
        have ha0 : (0 : Int) ≤ (a : Int) := by omega
        have hb0' : (0 : Int) ≤ (b : Int) := by omega
        obtain ⟨gt, hgt⟩ : ∃ gt, decide (rbk < ra) = gt := ⟨_, rfl⟩
        rw [hgt] at HT
        have hgi : decide ((rbk : Int) < (ra : Int)) = gt := by rw [← hgt]; simp
        cases gt
        · go_wp2_with fail
          go_quiet (fail)
          all_goals
            have HBN := Lib.hid (below_tr HBA.out (below_drewN _ nq) HBA.out.size)
            go_wp2_with (at_builtin; (refine G.wp_app1 rfl _ _ 64 65 rfl _ 3 24 Try.underlying64 info23 rfl (by omega) (by omega) enc3 (fun _ => rfl) enc3_one (w.heap.size + 1) u5 xs ⟨p0, p1, 0⟩ _ rfl rfl _ rfl (by first | rfl | rw [World.size_alloc] | simp) (H2.out.own.below HBN.out) (Nat.le_trans H2.out.big HBN.out.size) HXL.out ?_))
            intro v9 w9 ho9 hg9 _
            have H9 := Lib.hid (H2.out.next HBN.out ho9 hg9)
            clear ho9 hg9
            go_wp2_with fail
            go_roundg (n - k)
            case measure => exact hg
            case rel =>
              go_light
              refine ⟨k + 1, by omega, by omega, by go_num, ?_⟩
              rw [hgt, HT.out]
              have : rowW (decide (a = b)) false (p0, p1) = [⟨p0, p1, 0⟩] := by unfold rowW; rw [decide_eq_false hab, if_neg (by simp), if_neg (by simp)]
              rw [this]
              have := H9.out
              exact this
        · go_wp2_with fail
          go_quiet (fail)
          all_goals
            have HBN := Lib.hid (below_swap wr p0 p1 nq)
            go_wp2_with (at_builtin; (refine G.wp_app1 rfl _ _ 64 65 rfl _ 3 24 Try.underlying64 info23 rfl (by omega) (by omega) enc3 (fun _ => rfl) enc3_one (w.heap.size + 1) u5 xs ⟨p1, p0, 0⟩ _ rfl rfl _ rfl (by first | rfl | rw [World.size_alloc] | simp) (H2.out.own.below HBN.out) (Nat.le_trans H2.out.big HBN.out.size) HXL.out ?_))
            intro v9 w9 ho9 hg9 _
            have H9 := Lib.hid (H2.out.next HBN.out ho9 hg9)
            clear ho9 hg9
            go_wp2_with fail
            go_roundg (n - k)
            case measure => exact hg
            case rel =>
              go_light
              refine ⟨k + 1, by omega, by omega, by go_num, ?_⟩
              rw [hgt, HT.out]
              have : rowW (decide (a = b)) true (p0, p1) = [⟨p1, p0, 0⟩] := by unfold rowW; rw [decide_eq_false hab, if_neg (by simp), if_pos rfl]
              rw [this]
              have := H9.out
              exact this
    · have hkn : k = n := by omega
      have hd : decide ((k : Int) < (n : Int)) = false := by simp; omega
      have hl2 : ¬ (k : Int) < (n : Int) := by omega
      have HLN := Lib.hid (rowsW_len (decide (a = b)) (decide (rbk < ra)) pairs)
      have H2 : Hid (Wr1 w wr a b (.slice A n cp) u5 (rowsW (decide (a = b)) (decide (rbk < ra)) pairs)) := by
        have := H1.out
        rw [List.take_of_length_le (by have := HV.out.2.1; omega)] at this
        exact Lib.hid this
      have HN := Lib.hid (rowsW_top (decide (a = b)) (decide (rbk < ra)) HV.out.2.2.1)
      clear H1 hkn
      go_wp2_with fail
      refine (walk_of (below_tr HV.out.2.2.2 H2.out.below HV.out.2.2.2.size) (slR_own H2.out.own) (by have := HLN.out; have := HV.out.2.1; omega)).mono ?_
      rintro e w2 ⟨X, b2, c2, rfl, hm2, hb2, hX2, hbb2⟩
      have H3 := Lib.hid (And.intro hm2 (And.intro hb2 (And.intro hX2 hbb2)))
      clear hm2 hb2 hX2 hbb2
      go_wp2_with fail
      refine (mk_walk H3.out.1).mono ?_
      rintro e w3 ⟨g3, rfl, ha3, hb3, hg3⟩
      have H4 := Lib.hid (And.intro ha3 (And.intro hb3 hg3))
      clear ha3 hb3 hg3
      go_wp2_with fail
      go_ret
      exact ⟨⟨g3, X, b2, c2, _⟩, rfl, walk_new H2.out.below H3.out.1 H3.out.2.1 H3.out.2.2.1 H3.out.2.2.2 H4.out.1 H4.out.2.1 H4.out.2.2 HN.out⟩
end Go.Proofs.Ytejinhnmabnomaa.Lf
end
section
/-
  slices.Contains at numbers and at bools. Conditions: the slice lies as told.
-/
namespace Go.Proofs.Ytejinhnmabnomaa.Lf
open Go.RowKit

def enc1 (x : Int) : List Value := [.int .i64 x]
def encB (x : Bool) : List Value := [.bool x]
theorem enc1_one (x : Int) : ∀ u ∈ enc1 x, u.oneCell' = true := by intro u hu; simp [enc1] at hu; subst hu; rfl
/-- A slice's cells, one by one. -/
theorem sl_one {α : Type} [Inhabited α] {w : World} {f : α → Value} {v : Value} {l : List α} (h : G.SlL w (fun x => [f x]) v l) (d : α) (i : Nat) (hi : i < l.length) : ∃ b off c, v = .slice (some ⟨b, off, none⟩) l.length c ∧ l.length ≤ c ∧ b < w.heap.size ∧ w.cell? ⟨b, off + i, none⟩ = some (f (l.getD i d)) := by
  obtain ⟨A, c0, hv0, hc0, _⟩ := id h
  obtain ⟨b, off, c, hv, hb, hcl⟩ := h.at_ (k := 1) (fun _ => rfl) i (l.getD i d) (by rw [List.getD_eq_getElem?_getD, List.getElem?_eq_getElem hi]; rfl)
  have := hcl 0 _ rfl
  rw [hv0] at hv
  injection hv with e1 e2 e3
  refine ⟨b, off, c, by rw [hv0, e1, e3], by omega, hb, ?_⟩
  rwa [Nat.mul_one, Nat.add_zero] at this
theorem ret_bool {a b : Bool} (h : a = b) : Ending.returned (.bool a) = .returned (.bool b) := by rw [h]
def IdxP {α : Type} (x : α) (l : List α) (w : World) (e : Ending) (w' : World) : Prop := ∃ r : Int, e = .returned (.int .i64 r) ∧ (0 ≤ r ↔ x ∈ l) ∧ w = w'
theorem mem_of {α : Type} {l : List α} {d x : α} {i : Nat} (hi : i < l.length) (h : l.getD i d = x) : x ∈ l := by
  rw [List.getD_eq_getElem?_getD, List.getElem?_eq_getElem hi] at h
  exact h ▸ List.getElem_mem hi
theorem not_mem_of {α : Type} {l : List α} {d x : α} (h : ∀ j, j < l.length → l.getD j d ≠ x) : x ∉ l := fun hx => by
  obtain ⟨j, hj, e⟩ := List.getElem_of_mem hx
  refine h j hj ?_
  rw [List.getD_eq_getElem?_getD, List.getElem?_eq_getElem hj]
  exact e
theorem index_i {w : World} {v : Value} {l : List Int} (x : Int) (hv : G.SlL w enc1 v l) (hl : l.length ≤ 140737488355328) :
    Calls Try.prog 25 #[v, .int .i64 x] w (IdxP x l w) := by
  obtain ⟨A, c, rfl, hc, _, _⟩ := id hv
  obtain ⟨n, hn⟩ : ∃ n, l.length = n := ⟨_, rfl⟩
  rw [hn] at hv hl hc ⊢
  have HV := Lib.hid (And.intro hv hn)
  clear hv hn hc
  have hnn : (n : Int) ≤ 140737488355328 := by omega
  go_enter Try.func25, Try.ntmps25
  go_wp2_with fail
  go_loopg [8] (n + 1) (fun g s8 wr => ∃ k : Nat, k ≤ n ∧ n - k < g ∧ s8 = .int .i64 k ∧ w = wr ∧ ∀ j, j < k → l.getD j 0 ≠ x)
  case atStart => exact ⟨0, by omega, by omega, rfl, rfl, fun j hj => absurd hj (by omega)⟩
  case round =>
    obtain ⟨k, hk, hg, rfl, rfl, hall⟩ := hrel
    have HA := Lib.hid hall
    clear hall
    by_cases hlt : k < n
    · obtain ⟨b, off, c', hv', hc', _, hcell⟩ := sl_one HV.out.1 0 k (by have := HV.out.2; omega)
      injection hv' with e1 e2 e3
      subst e1
      have hd : decide ((k : Int) < (n : Int)) = true := by simp; omega
      have hl2 : (k : Int) < (n : Int) := by omega
      obtain ⟨y, hy⟩ : ∃ y, l.getD k 0 = y := ⟨_, rfl⟩
      rw [hy] at hcell
      have HY := Lib.hid hy
      clear hy e2 e3
      by_cases hq : x = y
      · have HQ := Lib.hid hq
        have hqb : (x == y) = true := by rw [hq]; simp
        clear hq
        go_wp2_with fail
        go_ret
        exact ⟨_, rfl, ⟨fun _ => mem_of (by have := HV.out.2; omega) (HY.out.trans HQ.out.symm), fun _ => by omega⟩, rfl⟩
      · have HQ := Lib.hid hq
        have hqb : (x == y) = false := by simpa using hq
        clear hq
        go_wp2_with fail
        go_roundg (n - k)
        case measure => exact hg
        case rel =>
          refine ⟨k + 1, by omega, by omega, by go_num, rfl, fun j hj => ?_⟩
          by_cases e : j < k
          · exact HA.out j e
          · rw [show j = k by omega, HY.out]
            exact fun e => HQ.out e.symm
    · have hd : decide ((k : Int) < (n : Int)) = false := by simp; omega
      have hl2 : ¬ (k : Int) < (n : Int) := by omega
      go_wp2_with fail
      go_ret
      exact ⟨-1, rfl, ⟨fun h => by omega, fun h => absurd h (not_mem_of (d := 0) (fun j hj => HA.out j (by have := HV.out.2; omega)))⟩, rfl⟩
theorem contains_i {w : World} {v : Value} {l : List Int} (x : Int) (hv : G.SlL w enc1 v l) (hl : l.length ≤ 140737488355328) :
    Calls Try.prog 18 #[v, .int .i64 x] w fun e w' => e = .returned (.bool (decide (x ∈ l))) ∧ w = w' := by
  have HI := Lib.hid (index_i x hv hl)
  clear hv
  go_enter Try.func18, Try.ntmps18
  go_wp2_with fail
  refine HI.out.mono ?_
  rintro e w2 ⟨r, rfl, hr, rfl⟩
  have HR := Lib.hid hr
  clear hr
  go_wp2_with fail
  go_ret
  exact ⟨ret_bool (decide_eq_decide.2 HR.out), rfl⟩
theorem index_b {w : World} {v : Value} {l : List Bool} (x : Bool) (hv : G.SlL w encB v l) (hl : l.length ≤ 140737488355328) :
    Calls Try.prog 36 #[v, .bool x] w (IdxP x l w) := by
  obtain ⟨A, c, rfl, hc, _, _⟩ := id hv
  obtain ⟨n, hn⟩ : ∃ n, l.length = n := ⟨_, rfl⟩
  rw [hn] at hv hl hc ⊢
  have HV := Lib.hid (And.intro hv hn)
  clear hv hn hc
  have hnn : (n : Int) ≤ 140737488355328 := by omega
  go_enter Try.func36, Try.ntmps36
  go_wp2_with fail
  go_loopg [8] (n + 1) (fun g s8 wr => ∃ k : Nat, k ≤ n ∧ n - k < g ∧ s8 = .int .i64 k ∧ w = wr ∧ ∀ j, j < k → l.getD j false ≠ x)
  case atStart => exact ⟨0, by omega, by omega, rfl, rfl, fun j hj => absurd hj (by omega)⟩
  case round =>
    obtain ⟨k, hk, hg, rfl, rfl, hall⟩ := hrel
    have HA := Lib.hid hall
    clear hall
    by_cases hlt : k < n
    · obtain ⟨b, off, c', hv', hc', _, hcell⟩ := sl_one HV.out.1 false k (by have := HV.out.2; omega)
      injection hv' with e1 e2 e3
      subst e1
      have hd : decide ((k : Int) < (n : Int)) = true := by simp; omega
      have hl2 : (k : Int) < (n : Int) := by omega
      obtain ⟨y, hy⟩ : ∃ y, l.getD k false = y := ⟨_, rfl⟩
      rw [hy] at hcell
      have HY := Lib.hid hy
      clear hy e2 e3
      by_cases hq : x = y
      · have HQ := Lib.hid hq
        have hqb : (x == y) = true := by rw [hq]; simp
        clear hq
        go_wp2_with fail
        go_ret
        exact ⟨_, rfl, ⟨fun _ => mem_of (by have := HV.out.2; omega) (HY.out.trans HQ.out.symm), fun _ => by omega⟩, rfl⟩
      · have HQ := Lib.hid hq
        have hqb : (x == y) = false := by simpa using hq
        clear hq
        go_wp2_with fail
        go_roundg (n - k)
        case measure => exact hg
        case rel =>
          refine ⟨k + 1, by omega, by omega, by go_num, rfl, fun j hj => ?_⟩
          by_cases e : j < k
          · exact HA.out j e
          · rw [show j = k by omega, HY.out]
            exact fun e => HQ.out e.symm
    · have hd : decide ((k : Int) < (n : Int)) = false := by simp; omega
      have hl2 : ¬ (k : Int) < (n : Int) := by omega
      go_wp2_with fail
      go_ret
      exact ⟨-1, rfl, ⟨fun h => by omega, fun h => absurd h (not_mem_of (d := false) (fun j hj => HA.out j (by have := HV.out.2; omega)))⟩, rfl⟩
theorem contains_b {w : World} {v : Value} {l : List Bool} (x : Bool) (hv : G.SlL w encB v l) (hl : l.length ≤ 140737488355328) :
    Calls Try.prog 24 #[v, .bool x] w fun e w' => e = .returned (.bool (decide (x ∈ l))) ∧ w = w' := by
  have HI := Lib.hid (index_b x hv hl)
  clear hv
  go_enter Try.func24, Try.ntmps24
  go_wp2_with fail
  refine HI.out.mono ?_
  rintro e w2 ⟨r, rfl, hr, rfl⟩
  have HR := Lib.hid hr
  clear hr
  go_wp2_with fail
  go_ret
  exact ⟨ret_bool (decide_eq_decide.2 HR.out), rfl⟩
end Go.Proofs.Ytejinhnmabnomaa.Lf
end
section
/-
  Whether a join may be: what is asked, and sixteen bools in a block. Conditions: as each says.
-/
namespace Go.Proofs.Ytejinhnmabnomaa.Lf
open Go.RowKit Go.Proofs.YtejinhnmabnomaaW.PrintWords Go.Proofs.Ytejinhnmabnomaa.Pm Go.Proofs.Ytejinhnmabnomaa.Pw

/-- A relation as it lies in memory. -/
structure RelV where
  A : Int
  B : Int
  v : Value
  rows : List (Int × Int)
instance : Inhabited RelV := ⟨⟨0, 0, .slice none 0 0, []⟩⟩
def encR (r : RelV) : List Value := [.int .i64 r.A, .int .i64 r.B, r.v]
/-- A relation's pairs. -/
structure RelIn (w : World) (r : RelV) : Prop where
  sl : G.SlL w enc2 r.v r.rows
  top : ∀ p ∈ r.rows, p.1 ≤ 9223372036854775807 ∧ p.2 ≤ 9223372036854775807
/-- What is asked of a join. -/
structure MayP (vars : Int) (keep : List Int) (rels : List RelV) (most : Int) : Prop where
  v1 : 1 ≤ vars
  v16 : vars ≤ 16
  m0 : 0 ≤ most
  m1 : most ≤ 1048576
  ne : keep ≠ []
  nd : keep.Nodup
  kr : ∀ x ∈ keep, 0 ≤ x ∧ x < vars
  rr : ∀ r ∈ rels, 0 ≤ r.A ∧ r.A < vars ∧ 0 ≤ r.B ∧ r.B < vars
  all : ∀ v : Int, 0 ≤ v → v < vars → ∃ r ∈ rels, r.A = v ∨ r.B = v

/-- Sixteen bools. -/
def bools (f : Nat → Bool) : Array Value := ((List.range 16).map fun i => Value.bool (f i)).toArray
def updB (f : Nat → Bool) (i : Nat) : Nat → Bool := fun k => if k = i then true else f k
theorem bools_zero : (#[.bool false, .bool false, .bool false, .bool false, .bool false, .bool false, .bool false, .bool false, .bool false, .bool false, .bool false, .bool false, .bool false, .bool false, .bool false, .bool false] : Array Value) = bools fun _ => false := rfl
theorem bools_get (f : Nat → Bool) (k : Nat) : (bools f)[k]? = if k < 16 then some (.bool (f k)) else none := by
  unfold bools
  by_cases h : k < 16
  · simp [h]
  · simp [h]
theorem bools_set (f : Nat → Bool) (i : Nat) (hi : i < 16) : (bools f).setIfInBounds i (.bool true) = bools (updB f i) := by
  refine Array.ext_getElem? fun k => ?_
  have hs : (bools f).size = 16 := by simp [bools]
  by_cases e : i = k
  · subst e
    rw [Array.getElem?_setIfInBounds_self, bools_get]
    simp [hs, hi, updB]
  · have e2 : ¬ k = i := fun e2 => e e2.symm
    rw [Array.getElem?_setIfInBounds_ne e, bools_get, bools_get]
    unfold updB
    rw [if_neg e2]
theorem bools_cell {w : World} {K : Nat} {f : Nat → Bool} {t : TypeId} (h : w.heap[K]? = some (.cells (bools f) t (0, 0))) (i : Nat) (hi : i < 16) : w.cell? ⟨K, i, none⟩ = some (.bool (f i)) ∧ w.frozen? ⟨K, i, none⟩ = false := by
  constructor
  · simp only [World.cell?, h]
    rw [bools_get, if_pos hi]
    rfl
  · simp [World.frozen?, h]
theorem bools_sl {w : World} {K : Nat} {f : Nat → Bool} {t : TypeId} (h : w.heap[K]? = some (.cells (bools f) t (0, 0))) (n : Nat) (hn : n ≤ 16) : G.SlL w encB (.slice (some ⟨K, 0, none⟩) n 16) ((List.range n).map f) := by
  refine ⟨some ⟨K, 0, none⟩, 16, by simp, by simpa using hn, (fun h => nomatch h), fun _ => ⟨K, 0, rfl, (Array.getElem?_eq_some_iff.1 h).1, fun j u hu => ?_⟩⟩
  have hj : j < n := by
    have := (List.getElem?_eq_some_iff.1 hu).1
    rw [G.flat_length 1 encB (fun _ => rfl)] at this
    simpa using this
  have := G.flat_getElem 1 encB (fun _ => rfl) ((List.range n).map f) j 0 (f j) (by rw [List.getElem?_map, List.getElem?_range hj]; rfl) (by omega)
  rw [Nat.mul_one, Nat.add_zero, hu] at this
  have e : u = .bool (f j) := by simpa [encB] using this
  rw [e, Nat.zero_add]
  exact (bools_cell h j (by omega)).1
/-- Which numbers have come. -/
def Kept (f : Nat → Bool) (l : List Int) : Prop := ∀ i : Nat, f i = true ↔ (i : Int) ∈ l
theorem kept_nil : Kept (fun _ => false) [] := fun i => by simp
theorem kept_snoc {f : Nat → Bool} {l : List Int} (h : Kept f l) (m : Nat) : Kept (updB f m) (l ++ [(m : Int)]) := fun i => by
  unfold updB
  by_cases e : i = m
  · subst e; simp
  · rw [if_neg e, h i, List.mem_append, List.mem_singleton]
    exact ⟨.inl, fun h => h.resolve_right (fun e2 => e (by omega))⟩
def abs_ (rels : List RelV) : List Int := rels.flatMap fun r => [r.A, r.B]
theorem abs_take (rels : List RelV) (k : Nat) (hk : k < rels.length) : abs_ (rels.take (k + 1)) = abs_ (rels.take k) ++ [(rels.getD k default).A] ++ [(rels.getD k default).B] := by
  unfold abs_
  rw [List.take_succ_eq_append_getElem hk, List.flatMap_append, getD_lt _ _ hk]
  simp
/-- What has been asked so far. -/
structure M1 (vars : Int) (l : List Int) : Prop where
  nd : l.Nodup
  kr : ∀ x ∈ l, 0 ≤ x ∧ x < vars
theorem m1_snoc {vars : Int} {l : List Int} (h : M1 vars l) {x : Int} (h1 : 0 ≤ x) (h2 : x < vars) (h3 : x ∉ l) : M1 vars (l ++ [x]) :=
  ⟨by rw [List.nodup_append]; exact ⟨h.nd, by simp, fun a ha b hb => by rw [List.mem_singleton.1 hb]; exact fun e => h3 (e ▸ ha)⟩, fun y hy => by
    rcases List.mem_append.1 hy with hy | hy
    · exact h.kr y hy
    · rw [List.mem_singleton.1 hy]; exact ⟨h1, h2⟩⟩
theorem take_snoc {α : Type} (l : List α) (d : α) (k : Nat) (hk : k < l.length) : l.take (k + 1) = l.take k ++ [l.getD k d] := by
  rw [List.take_succ_eq_append_getElem hk, getD_lt _ _ hk]
theorem not_m1 {vars : Int} {l : List Int} {k : Nat} {x : Int} (hk : k < l.length) (hx : l.getD k 0 = x) (h : x < 0 ∨ vars ≤ x ∨ x ∈ l.take k) : ¬ (l.Nodup ∧ ∀ x ∈ l, 0 ≤ x ∧ x < vars) := fun ⟨h1, h2⟩ => by
  have hm : x ∈ l := by rw [← hx, getD_lt _ _ hk]; exact List.getElem_mem hk
  have := h2 x hm
  rcases h with h | h | h
  · omega
  · omega
  · rw [← List.take_append_drop k l, List.nodup_append] at h1
    refine h1.2.2 x h x ?_ rfl
    rw [List.drop_eq_getElem_cons hk, ← getD_lt l 0 hk, hx]
    simp
/-- The rows of a slice of relations. -/
theorem rel_at {w : World} {v : Value} {rels : List RelV} (h : G.SlL w encR v rels) (k : Nat) (hk : k < rels.length) :
    ∃ b off c, v = .slice (some ⟨b, off, none⟩) rels.length c ∧ b < w.heap.size ∧ w.cell? ⟨b, off + k * 3, none⟩ = some (.int .i64 (rels.getD k default).A) ∧ w.cell? ⟨b, off + k * 3 + 1, none⟩ = some (.int .i64 (rels.getD k default).B) ∧ w.cell? ⟨b, off + k * 3 + 2, none⟩ = some (rels.getD k default).v := by
  obtain ⟨b, off, c, hv, hb, hcl⟩ := h.at_ (k := 3) (fun _ => rfl) k (rels.getD k default) (by rw [List.getD_eq_getElem?_getD, List.getElem?_eq_getElem hk]; rfl)
  exact ⟨b, off, c, hv, hb, hcl 0 _ rfl, hcl 1 _ rfl, hcl 2 _ rfl⟩
end Go.Proofs.Ytejinhnmabnomaa.Lf
end
section
/-
  Whether a join may be: walked. Conditions: the slices lie as told.
-/
namespace Go.Proofs.Ytejinhnmabnomaa.Lf
open Go.RowKit Go.Proofs.YtejinhnmabnomaaW.PrintWords Go.Proofs.Ytejinhnmabnomaa.Pm Go.Proofs.Ytejinhnmabnomaa.Pw

def MPost (w : World) (p : Prop) (e : Ending) (w' : World) : Prop := ∃ b : Bool, e = .returned (.bool b) ∧ (b = true ↔ p) ∧ Below w.heap.size w w'
theorem mp_no {w w' : World} {p : Prop} (h : ¬ p) (hb : Below w.heap.size w w') : MPost w p (.returned (.bool false)) w' := ⟨false, rfl, ⟨fun e => (nomatch e), fun e => absurd e h⟩, hb⟩
/-- What the keeping of accounts has brought. -/
structure Mb (w wr : World) (f g : Nat → Bool) : Prop where
  below : Below w.heap.size w wr
  K : wr.heap[w.heap.size]? = some (.cells (bools f) 61 (0, 0))
  T : wr.heap[w.heap.size + 1]? = some (.cells (bools g) 61 (0, 0))
theorem Mb.big {w wr : World} {f g : Nat → Bool} (h : Mb w wr f g) : w.heap.size + 2 ≤ wr.heap.size := by
  have := (Array.getElem?_eq_some_iff.1 h.T).1; omega
theorem Mb.more {w wr w2 : World} {f g : Nat → Bool} (h : Mb w wr f g) (hb : Below wr.heap.size wr w2) : Mb w w2 f g := by
  have := h.big
  exact ⟨below_tr h.below hb h.below.size, (hb.block _ (by omega)).trans h.K, (hb.block _ (by omega)).trans h.T⟩
theorem Mb.setK {w wr : World} {f g : Nat → Bool} (h : Mb w wr f g) (i : Nat) (hi : i < 16) : Mb w (wr.setCell ⟨w.heap.size, i, none⟩ (.bool true)) (updB f i) g := by
  have hg := grown_set wr w.heap.size i (.bool true)
  have := h.big
  refine ⟨h.below.setCell (Nat.le_refl _) _, ?_, (hg.block _ (by omega) (fun e => by have := Option.some.inj e; omega)).trans h.T⟩
  rw [heap_set _ _ _ _ _ _ h.K, bools_set _ _ hi]
theorem Mb.setT {w wr : World} {f g : Nat → Bool} (h : Mb w wr f g) (i : Nat) (hi : i < 16) : Mb w (wr.setCell ⟨w.heap.size + 1, i, none⟩ (.bool true)) f (updB g i) := by
  have hg := grown_set wr (w.heap.size + 1) i (.bool true)
  have := h.big
  refine ⟨h.below.setCell (by show w.heap.size ≤ w.heap.size + 1; omega) _, (hg.block _ (by omega) (fun e => by have := Option.some.inj e; omega)).trans h.K, ?_⟩
  rw [heap_set _ _ _ _ _ _ h.T, bools_set _ _ hi]
theorem mb_new (w : World) : Mb w ((w.alloc (.cells #[.bool false, .bool false, .bool false, .bool false, .bool false, .bool false, .bool false, .bool false, .bool false, .bool false, .bool false, .bool false, .bool false, .bool false, .bool false, .bool false] 61)).alloc (.cells #[.bool false, .bool false, .bool false, .bool false, .bool false, .bool false, .bool false, .bool false, .bool false, .bool false, .bool false, .bool false, .bool false, .bool false, .bool false, .bool false] 61)) (fun _ => false) (fun _ => false) := by
  rw [bools_zero]
  refine ⟨((Below.refl _ w).alloc (Nat.le_refl _) _).alloc (by rw [World.size_alloc]; omega) _, ?_, ?_⟩
  · rw [Below.heap_alloc _ _ _ (by rw [World.size_alloc]; omega)]
    exact heap_alloc_new w _
  · have := heap_alloc_new (w.alloc (.cells (bools fun _ => false) 61)) (.cells (bools fun _ => false) 61)
    rw [World.size_alloc] at this
    exact this
theorem cell_setT {w : World} {b T i m : Nat} {v u : Value} (h : b ≠ T) (hc : w.cell? ⟨b, i, none⟩ = some v) : (w.setCell ⟨T, m, none⟩ u).cell? ⟨b, i, none⟩ = some v :=
  (World.cell?_setCell_other _ _ _ _ (fun e => h (by injection e with e1 _ _; exact e1.symm))).trans hc
set_option maxHeartbeats 3200000 in
theorem may_ok {w : World} (vars most : Int) (kv rv : Value) (keep : List Int) (rels : List RelV) (hk : G.SlL w enc1 kv keep) (hr : G.SlL w encR rv rels) (hsv : ∀ r ∈ rels, ∃ A n c, r.v = .slice A n c) (hkl : keep.length ≤ 140737488355328) (hrl : rels.length ≤ 140737488355328) :
    Calls Try.prog 16 #[.int .i64 vars, kv, rv, .int .i64 most] w (MPost w (MayP vars keep rels most)) := by
  obtain ⟨Ak, ck, rfl, hck, _, _⟩ := id hk
  obtain ⟨Ar, cr, rfl, hcr, _, _⟩ := id hr
  obtain ⟨nk, hnk⟩ : ∃ n, keep.length = n := ⟨_, rfl⟩
  obtain ⟨nr, hnr⟩ : ∃ n, rels.length = n := ⟨_, rfl⟩
  rw [hnk] at hk hkl ⊢
  rw [hnr] at hr hrl ⊢
  have HV := Lib.hid (And.intro hk (And.intro hnk (And.intro hr hnr)))
  have HSV := Lib.hid hsv
  clear hsv hk hnk hr hnr hck hcr
  have hnkN : (nk : Int) ≤ 140737488355328 := by omega
  have hnrN : (nr : Int) ≤ 140737488355328 := by omega
  by_cases h1 : vars < 1
  · have hd1 : decide (vars < 1) = true := by simpa using h1
    have HN : Hid (¬ MayP vars keep rels most) := Lib.hid (fun m => by have := m.v1; omega)
    clear h1
    go_enter Try.func16, Try.ntmps16
    go_wp2_with fail
    go_ret
    exact mp_no HN.out (Below.refl _ _)
  have hd1 : decide (vars < 1) = false := by simpa using h1
  by_cases h2 : 16 < vars
  · have hd2 : decide (16 < vars) = true := by simpa using h2
    have HN : Hid (¬ MayP vars keep rels most) := Lib.hid (fun m => by have := m.v16; omega)
    clear h1 h2
    go_enter Try.func16, Try.ntmps16
    go_wp2_with fail
    go_ret
    exact mp_no HN.out (Below.refl _ _)
  have hd2 : decide (16 < vars) = false := by simpa using h2
  by_cases h3 : most < 0
  · have hd3 : decide (most < 0) = true := by simpa using h3
    have HN : Hid (¬ MayP vars keep rels most) := Lib.hid (fun m => by have := m.m0; omega)
    clear h1 h2 h3
    go_enter Try.func16, Try.ntmps16
    go_wp2_with fail
    go_ret
    exact mp_no HN.out (Below.refl _ _)
  have hd3 : decide (most < 0) = false := by simpa using h3
  by_cases h4 : 1048576 < most
  · have hd4 : decide (1048576 < most) = true := by simpa using h4
    have HN : Hid (¬ MayP vars keep rels most) := Lib.hid (fun m => by have := m.m1; omega)
    clear h1 h2 h3 h4
    go_enter Try.func16, Try.ntmps16
    go_wp2_with fail
    go_ret
    exact mp_no HN.out (Below.refl _ _)
  have hd4 : decide (1048576 < most) = false := by simpa using h4
  by_cases h5 : nk = 0
  · have hd5 : ((nk : Int) == 0) = true := by simp; omega
    have HN : Hid (¬ MayP vars keep rels most) := Lib.hid (fun m => m.ne (List.eq_nil_of_length_eq_zero (by have := HV.out.2.1; omega)))
    clear h1 h2 h3 h4 h5
    go_enter Try.func16, Try.ntmps16
    go_wp2_with fail
    go_ret
    exact mp_no HN.out (Below.refl _ _)
  have hd5 : ((nk : Int) == 0) = false := by simp; omega
  have HB0 := Lib.hid (mb_new w)
  obtain ⟨nv, hnv⟩ : ∃ nv : Nat, vars = nv := ⟨vars.toNat, by omega⟩
  subst hnv
  have H0 : Hid (1 ≤ (nv : Int) ∧ (nv : Int) ≤ 16 ∧ 0 ≤ most ∧ most ≤ 1048576 ∧ keep ≠ []) := Lib.hid ⟨by omega, by omega, by omega, by omega, fun e => by have := HV.out.2.1; rw [e] at this; simp at this; omega⟩
  have hv1 : 1 ≤ (nv : Int) := by omega
  have hv16 : (nv : Int) ≤ 16 := by omega
  clear h1 h2 h3 h4 h5
  go_enter Try.func16, Try.ntmps16
  go_wp2_with fail
  go_loopg [36] (nk + 1) (fun g s36 wr => ∃ (k : Nat) (f : Nat → Bool), k ≤ nk ∧ nk - k < g ∧ s36 = .int .i64 k ∧ Mb w wr f (fun _ => false) ∧ Kept f (keep.take k) ∧ M1 nv (keep.take k))
  case atStart => exact ⟨0, _, by omega, by omega, rfl, HB0.out, kept_nil, ⟨by simp, by simp⟩⟩
  case round =>
    obtain ⟨k, f, hk, hg, rfl, hmb, hke, hm1⟩ := hrel
    have HM := Lib.hid (And.intro hmb (And.intro hke hm1))
    clear hmb hke hm1
    by_cases hlt : k < nk
    · have hd : decide ((k : Int) < (nk : Int)) = true := by simp; omega
      have hl2 : (k : Int) < (nk : Int) := by omega
      obtain ⟨b, off, c', hv', _, hb, hcell⟩ := sl_one HV.out.1 0 k (by have := HV.out.2.1; omega)
      injection hv' with e1 e2 e3
      subst e1
      have hcell := (HM.out.1.below.cell (p := ⟨b, off + k, none⟩) hb).trans hcell
      obtain ⟨x, hx⟩ : ∃ x, keep.getD k 0 = x := ⟨_, rfl⟩
      rw [hx] at hcell
      have HX := Lib.hid hx
      clear hx e2 e3
      by_cases x0 : x < 0
      · have hdx : decide (x < 0) = true := by simpa using x0
        have HN := Lib.hid (not_m1 (vars := nv) (by have := HV.out.2.1; omega) HX.out (.inl x0))
        clear x0
        go_wp2_with fail
        go_ret
        exact mp_no (fun m => HN.out ⟨m.nd, m.kr⟩) HM.out.1.below
      have hdx : decide (x < 0) = false := by simpa using x0
      by_cases x1 : (nv : Int) ≤ x
      · have hdy : decide ((nv : Int) ≤ x) = true := by simpa using x1
        have HN := Lib.hid (not_m1 (vars := nv) (by have := HV.out.2.1; omega) HX.out (.inr (.inl x1)))
        clear x0 x1
        go_wp2_with fail
        go_ret
        exact mp_no (fun m => HN.out ⟨m.nd, m.kr⟩) HM.out.1.below
      have hdy : decide ((nv : Int) ≤ x) = false := by simpa using x1
      obtain ⟨m, rfl⟩ : ∃ m : Nat, x = m := ⟨x.toNat, by omega⟩
      have hm16 : m < 16 := by omega
      have hdn : decide (nv ≤ m) = false := by simp; omega
      have hmi : (m : Int) < 16 := by omega
      have hm0 : (0 : Int) ≤ (m : Int) := by omega
      obtain ⟨hc1, hc2⟩ := bools_cell HM.out.1.K m hm16
      obtain ⟨fm, hfm⟩ : ∃ fm, f m = fm := ⟨_, rfl⟩
      rw [hfm] at hc1
      have HF := Lib.hid hfm
      have HX1 := Lib.hid x1
      clear hfm x0 x1
      cases fm
      · go_wp2_with fail
        go_roundg (nk - k)
        case measure => exact hg
        case rel =>
          have ht := take_snoc keep 0 k (by have := HV.out.2.1; omega)
          rw [HX.out] at ht
          refine ⟨k + 1, _, by omega, by omega, by go_num, HM.out.1.setK m hm16, ?_, ?_⟩
          · rw [ht]; exact kept_snoc HM.out.2.1 m
          · rw [ht]
            refine m1_snoc HM.out.2.2 (by omega) (by have := HX1.out; omega) (fun e => ?_)
            have := (HM.out.2.1 m).2 e
            rw [HF.out] at this
            cases this
      · have HN := Lib.hid (not_m1 (vars := nv) (by have := HV.out.2.1; omega) HX.out (.inr (.inr ((HM.out.2.1 m).1 HF.out))))
        go_wp2_with fail
        go_ret
        exact mp_no (fun m => HN.out ⟨m.nd, m.kr⟩) HM.out.1.below
    · have hkn : k = nk := by omega
      have HM1 : Hid (M1 nv keep) := Lib.hid (by have := HM.out.2.2; rwa [List.take_of_length_le (by have := HV.out.2.1; omega)] at this)
      have hd : decide ((k : Int) < (nk : Int)) = false := by simp; omega
      have hl2 : ¬ (k : Int) < (nk : Int) := by omega
      clear hkn
      go_wp2_with fail
      go_loopg [57] (nr + 1) (fun g s57 wx => ∃ (i : Nat) (t : Nat → Bool), i ≤ nr ∧ nr - i < g ∧ s57 = .int .i64 i ∧ Mb w wx f t ∧ Kept t (abs_ (rels.take i)) ∧ ∀ r ∈ rels.take i, 0 ≤ r.A ∧ r.A < (nv : Int) ∧ 0 ≤ r.B ∧ r.B < (nv : Int))
      case atStart => exact ⟨0, _, by omega, by omega, rfl, HM.out.1, kept_nil, fun r hr => absurd hr (by simp)⟩
      case round =>
        obtain ⟨i, t, hi, hg2, rfl, hmb, hke, hrr⟩ := hrel
        have HT := Lib.hid (And.intro hmb (And.intro hke hrr))
        clear hmb hke hrr
        by_cases hlt2 : i < nr
        · have hd3 : decide ((i : Int) < (nr : Int)) = true := by simp; omega
          have hl3 : (i : Int) < (nr : Int) := by omega
          obtain ⟨b, off, c', hv', hb, y0, y1, y2⟩ := rel_at HV.out.2.2.1 i (by have := HV.out.2.2.2; omega)
          injection hv' with e1 e2 e3
          subst e1
          have y0 := (HT.out.1.below.cell (p := ⟨b, off + i * 3, none⟩) hb).trans y0
          have y1 := (HT.out.1.below.cell (p := ⟨b, off + i * 3 + 1, none⟩) hb).trans y1
          have y2 := (HT.out.1.below.cell (p := ⟨b, off + i * 3 + 2, none⟩) hb).trans y2
          obtain ⟨r, hr⟩ : ∃ r, rels.getD i default = r := ⟨_, rfl⟩
          rw [hr] at y0 y1 y2
          have HRR := Lib.hid hr
          clear hr e2 e3
          have hrm : r ∈ rels := by rw [← HRR.out, getD_lt _ _ (by have := HV.out.2.2.2; omega)]; exact List.getElem_mem _
          obtain ⟨A2, n2, c2, hrv⟩ := HSV.out r hrm
          rw [hrv] at y2
          have HRM := Lib.hid hrm
          obtain ⟨rA, hrA⟩ : ∃ x, r.A = x := ⟨_, rfl⟩
          obtain ⟨rB, hrB⟩ : ∃ x, r.B = x := ⟨_, rfl⟩
          rw [hrA] at y0
          rw [hrB] at y1
          have HAB := Lib.hid (And.intro hrA hrB)
          clear hrm hrv hrA hrB
          have hba : Below wr.heap.size wr (wr.alloc (.cells #[.int .i64 rA, .int .i64 rB, .slice A2 n2 c2] 35)) := (Below.refl _ _).alloc (Nat.le_refl _) _
          have HBA := Lib.hid (HT.out.1.more hba)
          clear hba
          by_cases z0 : min rA rB < 0
          · have hdz : decide (min rA rB < 0) = true := by simpa using z0
            have HN : Hid (¬ MayP nv keep rels most) := Lib.hid (fun m => by have := m.rr r HRM.out; rw [HAB.out.1, HAB.out.2] at this; omega)
            clear z0
            go_wp2_with fail
            go_ret
            exact mp_no HN.out HBA.out.below
          have hdz : decide (min rA rB < 0) = false := by simpa using z0
          by_cases z1 : (nv : Int) ≤ max rA rB
          · have hdy : decide ((nv : Int) ≤ max rA rB) = true := by simpa using z1
            have HN : Hid (¬ MayP nv keep rels most) := Lib.hid (fun m => by have := m.rr r HRM.out; rw [HAB.out.1, HAB.out.2] at this; omega)
            clear z0 z1
            go_wp2_with fail
            go_ret
            exact mp_no HN.out HBA.out.below
          have hdy : decide ((nv : Int) ≤ max rA rB) = false := by simpa using z1
          obtain ⟨m1, hm1⟩ : ∃ m : Nat, rA = m := ⟨rA.toNat, by omega⟩
          obtain ⟨m2, hm2⟩ : ∃ m : Nat, rB = m := ⟨rB.toNat, by omega⟩
          subst hm1 hm2
          have h16a : m1 < 16 := by omega
          have h16b : m2 < 16 := by omega
          have hia : (m1 : Int) < 16 := by omega
          have hib : (m2 : Int) < 16 := by omega
          have hja : (0 : Int) ≤ (m1 : Int) := by omega
          have hjb : (0 : Int) ≤ (m2 : Int) := by omega
          have HVV : Hid ((m1 : Int) < nv ∧ (m2 : Int) < nv) := Lib.hid ⟨by omega, by omega⟩
          clear z0 z1
          obtain ⟨ta1, ta2⟩ := bools_cell HBA.out.T m1 h16a
          obtain ⟨tb1, tb2⟩ := bools_cell (HBA.out.setT m1 h16a).T m2 h16b
          have hr0 : (wr.alloc (.cells #[.int .i64 m1, .int .i64 m2, .slice A2 n2 c2] 35)).cell? ⟨wr.heap.size, 0, none⟩ = some (.int .i64 m1) := by simp [World.cell?_alloc_new]
          have hr1 : (wr.alloc (.cells #[.int .i64 m1, .int .i64 m2, .slice A2 n2 c2] 35)).cell? ⟨wr.heap.size, 1, none⟩ = some (.int .i64 m2) := by simp [World.cell?_alloc_new]
          have hTne : wr.heap.size ≠ w.heap.size + 1 := by have := HT.out.1.big; omega
          go_wp2_with fail
          go_region_held3 (fun W => W.cell? ⟨wr.heap.size, 0, none⟩ = some (.int .i64 m1) ∧ W.cell? ⟨wr.heap.size, 1, none⟩ = some (.int .i64 m2)) (first | exact ⟨hr0, hr1⟩ | exact ⟨cell_setT hTne hr0, cell_setT hTne hr1⟩ | exact ⟨cell_setT hTne (cell_setT hTne hr0), cell_setT hTne (cell_setT hTne hr1)⟩) (fail)
          go_wp2_with fail
          go_roundg (nr - i)
          case measure => exact hg2
          case rel =>
            go_light
            have ht := take_snoc rels default i (by have := HV.out.2.2.2; omega)
            have ha := abs_take rels i (by have := HV.out.2.2.2; omega)
            rw [HRR.out] at ht ha
            rw [HAB.out.1, HAB.out.2] at ha
            refine ⟨i + 1, _, by omega, by omega, by go_num, ((HBA.out.setT m1 h16a).setT m2 h16b).more (Below.drew (Below.refl _ _)), ?_, fun r' hr' => ?_⟩
            · rw [ha]; exact kept_snoc (kept_snoc HT.out.2.1 m1) m2
            · rw [ht] at hr'
              rcases List.mem_append.1 hr' with h | h
              · exact HT.out.2.2 r' h
              · rw [List.mem_singleton.1 h, HAB.out.1, HAB.out.2]
                have := HVV.out
                omega
        · have hin : i = nr := by omega
          have HT1 : Hid (Kept t (abs_ rels) ∧ ∀ r ∈ rels, 0 ≤ r.A ∧ r.A < (nv : Int) ∧ 0 ≤ r.B ∧ r.B < (nv : Int)) := Lib.hid (by have := HT.out.2; rwa [List.take_of_length_le (by have := HV.out.2.2.2; omega)] at this)
          have hd3 : decide ((i : Int) < (nr : Int)) = false := by simp; omega
          have hl3 : ¬ (i : Int) < (nr : Int) := by omega
          have hv0 : (0 : Int) ≤ (nv : Int) := by omega
          have hvn : nv ≤ 16 := by omega
          clear hin
          go_wp2_with fail
          obtain ⟨q, hq⟩ : ∃ q, decide (false ∈ (List.range nv).map t) = q := ⟨_, rfl⟩
          have hcb := contains_b (l := (List.range nv).map t) false (bools_sl HT.out.1.T nv hvn) (by simp; omega)
          rw [hq] at hcb
          have HQ := Lib.hid hq
          clear hq
          refine hcb.mono ?_
          rintro e w9 ⟨rfl, rfl⟩
          clear hcb
          go_wp2_with fail
          go_ret
          refine ⟨!q, rfl, ?_, HT.out.1.below⟩
          have key : (!q) = true ↔ ∀ i, i < nv → t i = true := by
            rw [← HQ.out]
            simp only [Bool.not_eq_true', decide_eq_false_iff_not, List.mem_map, List.mem_range, not_exists, not_and]
            exact ⟨fun h i hi => by have := h i hi; simpa using this, fun h i hi e => by rw [h i hi] at e; cases e⟩
          rw [key]
          constructor
          · intro h
            refine ⟨H0.out.1, H0.out.2.1, H0.out.2.2.1, H0.out.2.2.2.1, H0.out.2.2.2.2, HM1.out.nd, HM1.out.kr, HT1.out.2, fun v h0 h1 => ?_⟩
            have := (HT1.out.1 v.toNat).1 (h v.toNat (by omega))
            rw [show ((v.toNat : Nat) : Int) = v by omega] at this
            obtain ⟨r, hr, hv⟩ := List.mem_flatMap.1 this
            refine ⟨r, hr, ?_⟩
            simp only [List.mem_cons, List.not_mem_nil, or_false] at hv
            exact hv.imp (fun e => e.symm) (fun e => e.symm)
          · intro m i hi
            obtain ⟨r, hr, hv⟩ := m.all i (by omega) (by omega)
            refine (HT1.out.1 i).2 (List.mem_flatMap.2 ⟨r, hr, ?_⟩)
            simp only [List.mem_cons, List.not_mem_nil, or_false]
            exact hv.imp (fun e => e.symm) (fun e => e.symm)
end Go.Proofs.Ytejinhnmabnomaa.Lf
end
