/-
  store.below at the last number: one fact more. Conditions: the blocks lie as told.
-/
import Derived.Test.YtcnffgcegimelaaGreatK7
import Derived.StillTailTactics
import Derived.Deep.RegionHeld3
namespace Go.Proofs.YtcnffgcegimelaaGreat.So
open Go.RowKit Go.Proofs.YtcnffgcegimelaaGreat.Mp Go.Proofs.YtcnffgcegimelaaGreat.Wd Go.Proofs.YtcnffgcegimelaaGreat.Pm Go.Proofs.YtcnffgcegimelaaGreat.Pw

/-- A fact's words that are there so far. -/
def tJ (T : Tri) (j i : Nat) : ByteArray := if i < j then wAt T i else ByteArray.empty
def arrJ (T : Tri) (j : Nat) : Array Value := #[.string (tJ T j 0), .string (tJ T j 1), .string (tJ T j 2)]
theorem arrJ_get (T : Tri) (j i : Nat) (hi : i < 3) : (arrJ T j)[i]? = some (.string (tJ T j i)) := by
  match i, hi with
  | 0, _ => rfl
  | 1, _ => rfl
  | 2, _ => rfl
theorem arrJ_set (T : Tri) : ∀ j, j < 3 → (arrJ T j).setIfInBounds j (.string (wAt T j)) = arrJ T (j + 1)
  | 0, _ => rfl
  | 1, _ => rfl
  | 2, _ => rfl
  | j + 3, h => absurd h (by omega)
theorem arrJ_cell {w : World} {B : Nat} {T : Tri} {j : Nat} (h : w.heap[B]? = some (.cells (arrJ T j) 74 (0, 0))) (i : Nat) (hi : i < 3) : w.cell? ⟨B, i, none⟩ = some (.string (tJ T j i)) := by
  simp [World.cell?, h, arrJ_get T j i hi]
/-- A place's word comes from what is asked for, or from the row. -/
def WordOk (ws : List ByteArray) (T : Tri) (like : ByteArray) (n : Int) (i : Nat) : Prop := (hasW like = true ∧ like = wAt T i) ∨ (like = ByteArray.empty ∧ wd ws n = wAt T i ∧ NumOk ws n)
/-- The end: one fact more. -/
theorem below3_end {w0 base g ob : Nat} {w wa wx w5 : World} {k : SW} {s : SS} {x : IX} {o : Ord} {L : List R3} {p : List Int} {X : List Tri} {v : Value} {B gg cp4 nv cv : Nat} {Av : Option Addr} {r : R3} {T : Tri} (h : BK w0 base g ob w k s x o L ⟨p, false⟩ X v) (hv : v = .slice Av nv cv) (ha : Below w.heap.size w wa) (hB : w.heap.size ≤ B) (hc : Chg (fun i => i = B) wa wx)
    (hown : w5.ownsRow base 35 3 (.slice (some ⟨gg, 0, none⟩) (nv + 1) cp4) (nv + 1) (X.flatMap encT ++ encT T)) (hg : (wx.drew.alloc (.cells #[.string (wAt T 0), .string (wAt T 1), .string (wAt T 2)] 35 (0, 0))).grownBy w5 (Value.slice Av nv cv).ownBlock) (hat : (Value.slice Av nv cv).ownBlock = some gg ∨ gg = wx.drew.heap.size + 1)
    (hu : under L o p = [r]) (hT : T = factR s.ws r) :
    BelPost w0 base g ob w k s x o L p X v (.returned (.tuple #[])) (w5.setCell ⟨ob, 0, none⟩ (.slice (some ⟨gg, 0, none⟩) (nv + 1) cp4)) := by
  have hbs := h.lt.2.2.2
  have hX : X.length = nv := by
    obtain ⟨A, c, e1, _⟩ := h.own.form
    rw [hv] at e1
    injection e1 with _ e2 _
    exact e2.symm
  have hge : ∀ i, some i = (Value.slice Av nv cv).ownBlock → base ≤ i ∧ i < w.heap.size := fun i e => by
    rw [← hv] at e
    exact ⟨h.own.ge i e.symm, h.own.lt_ i e.symm⟩
  have sA := ha.size
  have sX := hc.size
  have c1 : Chg (fun i => i = ob ∨ base ≤ i) w wx := ((Chg.of_below (fun _ => False) ha).mono (fun _ _ e => e.elim)).trans hc (fun i _ e => Or.inr (by have e' : i = B := e; omega))
  have a1 : Chg (fun _ => False) wx (wx.drew.alloc (.cells #[.string (wAt T 0), .string (wAt T 1), .string (wAt T 2)] 35 (0, 0))) := Chg.of_below _ ((Below.drew (Below.refl _ wx)).alloc (Nat.le_refl _) _)
  have c2 : Chg (fun i => i = ob ∨ base ≤ i) w w5 := (c1.trans a1 (fun _ _ e => e.elim)).trans (Chg.of_row hg) (fun i _ e => Or.inr (hge i e).1)
  have c3 : Chg (fun i => i = ob ∨ base ≤ i) w (w5.setCell ⟨ob, 0, none⟩ (.slice (some ⟨gg, 0, none⟩) (nv + 1) cp4)) := c2.trans (Chg.of_grown (Wd.grown_set w5 ob 0 _)) (fun i _ e => Or.inl e)
  have nob : some ob ≠ (Value.slice Av nv cv).ownBlock := fun e => by have := (hge ob e).1; have := h.lt.2.1; omega
  have hobx : w5.heap[ob]? = some (.cells #[v] 29 (0, 0)) := by
    have h1 := h.obs
    have h2 := h.lt.2.1
    rw [(Chg.of_row hg).block ob (by rw [World.size_alloc]; show ob < wx.heap.size + 1; omega) nob, a1.block ob (by omega) (fun e => e), hc.block ob (by omega) (fun e => by have e' : ob = B := e; omega), ha.block ob h1]
    exact h.obk
  have hgg : gg ≠ ob := fun e => by
    have := (hown.lt gg rfl).1
    have := h.lt.2.1
    omega
  have hob := Wd.heap_set w5 ob 0 _ _ (.slice (some ⟨gg, 0, none⟩) (nv + 1) cp4) hobx
  have hfin : G.OwnL (w5.setCell ⟨ob, 0, none⟩ (.slice (some ⟨gg, 0, none⟩) (nv + 1) cp4)) base 35 3 encT (.slice (some ⟨gg, 0, none⟩) (nv + 1) cp4) (X ++ [T]) := by
    unfold G.OwnL
    rw [List.length_append, List.length_singleton, hX, List.flatMap_append]
    exact ownsRow_setCell_other (by simpa using hown) (a := ⟨ob, 0, none⟩) (fun e => hgg (by have e' : some gg = some ob := e; exact Option.some.inj e')) _
  have d1 : Chg (fun i => i = ob ∨ some i = v.ownBlock) w wx := ((Chg.of_below (fun _ => False) ha).mono (fun _ _ e => e.elim)).trans hc (fun i hi e => by have e' : i = B := e; omega)
  have d2 : Chg (fun i => i = ob ∨ some i = v.ownBlock) w w5 := (d1.trans a1 (fun _ _ e => e.elim)).trans (Chg.of_row hg) (fun i _ e => Or.inr (by rw [hv]; exact e))
  have d3 : Chg (fun i => i = ob ∨ some i = v.ownBlock) w (w5.setCell ⟨ob, 0, none⟩ (.slice (some ⟨gg, 0, none⟩) (nv + 1) cp4)) := d2.trans (Chg.of_grown (Wd.grown_set w5 ob 0 _)) (fun i _ e => Or.inl e)
  refine ⟨⟨_, rfl⟩, (k.far w).col, _, [T], h.app c3 hob hfin, ?_, k.far_like w, d3.mono (fun i _ e => Or.inr e), ?_⟩
  · rw [hu, hT]
    exact List.Perm.refl _
  · rw [hv]
    rcases hat with e | e
    · exact Or.inl e.symm
    · refine Or.inr fun j hj => ?_
      have e1 : gg = j := Option.some.inj hj
      have e2 : wx.drew.heap.size = wx.heap.size := rfl
      omega
/-- One of three. -/
def sel {α : Type} (a b c : α) (j : Nat) : α := if j = 0 then a else if j = 1 then b else c
theorem sel3 {α : Type} {P : Nat → α → Prop} {a b c : α} (h0 : P 0 a) (h1 : P 1 b) (h2 : P 2 c) : ∀ j, j < 3 → P j (sel a b c j)
  | 0, _ => h0
  | 1, _ => h1
  | 2, _ => h2
  | j + 3, h => absurd h (by omega)
theorem sel3b {α β : Type} {P : Nat → α → β → Prop} {a b c : α} {x y z : β} (h0 : P 0 a x) (h1 : P 1 b y) (h2 : P 2 c z) : ∀ j, j < 3 → P j (sel a b c j) (sel x y z j)
  | 0, _ => h0
  | 1, _ => h1
  | 2, _ => h2
  | j + 3, h => absurd h (by omega)
/-- Four boxes. -/
theorem boxes4 (w : World) (a0 a1 a2 b0 b1 b2 c0 c1 c2 : Value) (d : Array Value) (t1 t2 t3 t4 : TypeId) (wa : World) (h : (((w.alloc (.cells #[a0, a1, a2] t1 (0, 0))).alloc (.cells #[b0, b1, b2] t2 (0, 0))).alloc (.cells #[c0, c1, c2] t3 (0, 0))).alloc (.cells d t4 (0, 0)) = wa) :
    Below w.heap.size w wa ∧ wa.heap[w.heap.size]? = some (.cells #[a0, a1, a2] t1 (0, 0)) ∧ wa.heap[w.heap.size + 1]? = some (.cells #[b0, b1, b2] t2 (0, 0)) ∧ wa.heap[w.heap.size + 1 + 1]? = some (.cells #[c0, c1, c2] t3 (0, 0)) ∧ wa.heap[w.heap.size + 1 + 1 + 1]? = some (.cells d t4 (0, 0)) := by
  subst h
  have e1 := heap_alloc_new w (.cells #[a0, a1, a2] t1 (0, 0))
  have e2 := heap_alloc_new (w.alloc (.cells #[a0, a1, a2] t1 (0, 0))) (.cells #[b0, b1, b2] t2 (0, 0))
  have e3 := heap_alloc_new ((w.alloc (.cells #[a0, a1, a2] t1 (0, 0))).alloc (.cells #[b0, b1, b2] t2 (0, 0))) (.cells #[c0, c1, c2] t3 (0, 0))
  have e4 := heap_alloc_new (((w.alloc (.cells #[a0, a1, a2] t1 (0, 0))).alloc (.cells #[b0, b1, b2] t2 (0, 0))).alloc (.cells #[c0, c1, c2] t3 (0, 0))) (.cells d t4 (0, 0))
  simp only [World.size_alloc] at e2 e3 e4
  refine ⟨((((Below.refl _ _).alloc (Nat.le_refl _) _).alloc (by simp <;> omega) _).alloc (by simp <;> omega) _).alloc (by simp <;> omega) _, ?_, ?_, ?_, e4⟩
  · rw [Below.heap_alloc _ _ _ (by simp <;> omega), Below.heap_alloc _ _ _ (by simp <;> omega), Below.heap_alloc _ _ _ (by simp <;> omega)]
    exact e1
  · rw [Below.heap_alloc _ _ _ (by simp <;> omega), Below.heap_alloc _ _ _ (by simp <;> omega)]
    exact e2
  · rw [Below.heap_alloc _ _ _ (by simp <;> omega)]
    exact e3
theorem str_cell {w : World} {B : Nat} {a b c : ByteArray} {t : TypeId} (h : w.heap[B]? = some (.cells #[.string a, .string b, .string c] t (0, 0))) : ∀ j, j < 3 → w.cell? ⟨B, j, none⟩ = some (.string (sel a b c j))
  | 0, _ => by simp [World.cell?, h, sel]
  | 1, _ => by simp [World.cell?, h, sel]
  | 2, _ => by simp [World.cell?, h, sel]
  | j + 3, h => absurd h (by omega)
theorem int_cell {w : World} {B : Nat} {a b c : Int} {t : TypeId} (h : w.heap[B]? = some (.cells #[.int .i64 a, .int .i64 b, .int .i64 c] t (0, 0))) : ∀ j, j < 3 → w.cell? ⟨B, j, none⟩ = some (.int .i64 (sel a b c j))
  | 0, _ => by simp [World.cell?, h, sel]
  | 1, _ => by simp [World.cell?, h, sel]
  | 2, _ => by simp [World.cell?, h, sel]
  | j + 3, h => absurd h (by omega)
theorem word_num' {w0 : Nat} {w : World} {k : SW} {s : SS} (h : Sto w0 w k s) {n : Int} (hn : NumOk s.ws n) :
    Calls Tryz.prog 68 #[.pointer (some ⟨k.pd, 0, none⟩), .int .i64 n] w fun e w' => e = .returned (.tuple #[.string (wd s.ws n), .int .i64 0]) ∧ w' = w :=
  (word_num h hn).mono fun _ _ ⟨h1, h2⟩ => ⟨h1, h2.symm⟩
theorem cell_setO {w : World} {b T i m : Nat} {v u : Value} (h : b ≠ T) (hc : w.cell? ⟨b, i, none⟩ = some v) : (w.setCell ⟨T, m, none⟩ u).cell? ⟨b, i, none⟩ = some v :=
  (World.cell?_setCell_other _ _ _ _ (fun e => h (by injection e with e1 _ _; exact e1.symm))).trans hc
theorem stepB {wa wy : World} {T : Tri} {B j : Nat} {y : ByteArray} (hj : j < 3) (hy : y = wAt T j) (hb : wy.heap[B]? = some (.cells ((arrJ T j).setIfInBounds j (.string ByteArray.empty)) 74 (0, 0))) (hc : Chg (fun i => i = B) wa wy) :
    (wy.setCell ⟨B, j, none⟩ (.string y)).drew.heap[B]? = some (.cells (arrJ T (j + 1)) 74 (0, 0)) ∧ Chg (fun i => i = B) wa (wy.setCell ⟨B, j, none⟩ (.string y)).drew := by
  have h1 := Wd.heap_set wy B j _ _ (.string y) hb
  rw [Array.setIfInBounds_setIfInBounds, hy, arrJ_set T j hj] at h1
  refine ⟨by rw [hy]; exact h1, (hc.trans (Chg.of_grown (Wd.grown_set wy B j (.string y))) (fun _ _ e => e)).trans (Chg.of_below (fun _ => False) (Below.drew (Below.refl _ _))) (fun _ _ e => e.elim)⟩
set_option maxRecDepth 100000 in
set_option maxHeartbeats 3200000 in
/-- below, at three numbers. -/
theorem below3 {w0 base g ob : Nat} {w : World} {k : SW} {s : SS} {x : IX} {o : Ord} {L : List R3} {p : List Int} {X : List Tri} {v : Value} (h : BK w0 base g ob w k s x o L ⟨p, false⟩ X v) (hX : X.length ≤ 100000) {r : R3} (hu : under L o p = [r]) (l0 l1 l2 : ByteArray) (n0 n1 n2 : Int)
    (f0 : WordOk s.ws (factR s.ws r) l0 n0 0) (f1 : WordOk s.ws (factR s.ws r) l1 n1 1) (f2 : WordOk s.ws (factR s.ws r) l2 n2 2) (a b c : Int) :
    Calls Tryz.prog 45 #[.pointer (some ⟨k.p, 0, none⟩), .pointer (some ⟨g, 0, none⟩), .agg #[.int .i64 a, .int .i64 b, .int .i64 c], .int .i64 3, .agg #[.int .i64 n0, .int .i64 n1, .int .i64 n2], .agg #[.string l0, .string l1, .string l2], .pointer (some ⟨ob, 0, none⟩)] w (BelPost w0 base g ob w k s x o L p X v) := by
  obtain ⟨T, hT⟩ : ∃ T, factR s.ws r = T := ⟨_, rfl⟩
  rw [hT] at f0 f1 f2
  obtain ⟨Av, cv, hv, _, _, _⟩ := h.own.form
  obtain ⟨nv, hnv⟩ : ∃ nv, X.length = nv := ⟨_, rfl⟩
  rw [hnv] at hv hX
  have H := Lib.hid h
  have HV := Lib.hid (And.intro hv hnv)
  have HT := Lib.hid (And.intro hT hu)
  have FF := Lib.hid (And.intro f0 (And.intro f1 f2))
  clear h hv hnv hT hu f0 f1 f2
  go_enter Tryz.func45, Tryz.ntmps45
  go_wp2
  generalize hwa : (((w.alloc (.cells #[.int .i64 a, .int .i64 b, .int .i64 c] 80 (0, 0))).alloc (.cells #[.int .i64 n0, .int .i64 n1, .int .i64 n2] 80 (0, 0))).alloc (.cells #[.string l0, .string l1, .string l2] 74 (0, 0))).alloc (.cells #[.string { data := #[] }, .string { data := #[] }, .string { data := #[] }] 74 (0, 0)) = wa at *
  have HA := Lib.hid (boxes4 w _ _ _ _ _ _ _ _ _ _ _ _ _ _ wa hwa)
  clear hwa
  have FA := Lib.hid (sel3b (P := fun j (l : ByteArray) (n : Int) => WordOk s.ws T l n j) FF.out.1 FF.out.2.1 FF.out.2.2)
  go_loopg [23] 4 (fun g s23 wx => ∃ j : Nat, j ≤ 3 ∧ 3 - j < g ∧ s23 = .int .i64 j ∧ Hid (wx.heap[w.heap.size + 1 + 1 + 1]? = some (.cells (arrJ T j) 74 (0, 0)) ∧ Chg (fun i => i = w.heap.size + 1 + 1 + 1) wa wx))
  case atStart => exact ⟨0, by omega, by omega, rfl, Lib.hid ⟨HA.out.2.2.2.2, Chg.refl _ _⟩⟩
  case round =>
    obtain ⟨j, hj, hgj, rfl, HJ⟩ := hrel
    by_cases hj3 : j < 3
    · have m1 : (j : Int) < 3 := by omega
      have m0 : (0 : Int) ≤ (j : Int) := by omega
      have c0 := HJ.out.2.cell (str_cell HA.out.2.2.2.1 j hj3) (fun e => by have e' : w.heap.size + 1 + 1 = w.heap.size + 1 + 1 + 1 := e; omega)
      have c1w := int_cell HA.out.2.2.1 j hj3
      have c1 := HJ.out.2.cell (int_cell HA.out.2.2.1 j hj3) (fun e => by have e' : w.heap.size + 1 = w.heap.size + 1 + 1 + 1 := e; omega)
      have c2 := arrJ_cell HJ.out.1 j hj3
      have c3 := heap_free HJ.out.1 j
      have hF := FA.out j hj3
      obtain ⟨lj, hlj⟩ : ∃ lj, sel l0 l1 l2 j = lj := ⟨_, rfl⟩
      obtain ⟨nj, hnj⟩ : ∃ nj, sel n0 n1 n2 j = nj := ⟨_, rfl⟩
      rw [hlj] at c0 hF
      rw [hnj] at c1 hF c1w
      have HC1 := Lib.hid c1w
      clear c1w
      clear hlj hnj
      rcases hF with ⟨h1, h2⟩ | ⟨h1, h2, h3⟩
      · have H2 := Lib.hid h2
        have hne : (lj.toList == []) = false := by
          rcases has_cases lj with ⟨_, e⟩ | ⟨_, e, _⟩
          · rw [e] at h1; cases h1
          · exact e
        clear h1 h2
        go_wp2
        go_roundg (3 - j)
        case measure => omega
        case rel => exact ⟨j + 1, by omega, by omega, by go_num, Lib.hid ⟨by rw [← arrJ_set T j hj3, H2.out]; exact Wd.heap_set _ _ j _ _ _ HJ.out.1, HJ.out.2.trans (Chg.of_grown (Wd.grown_set _ _ _ _)) (fun _ _ e => e)⟩⟩
      · subst h1
        have H2 := Lib.hid h2
        have HS := Lib.hid (H.out.lt.2.2.2)
        have HH := Lib.hid h3
        clear h2 h3
        go_wp2
        have C8 := HJ.out.2.trans (Chg.of_grown (Wd.grown_set wr (w.heap.size + 1 + 1 + 1) j (.string ByteArray.empty))) (fun _ _ e => e)
        have b8 := Wd.heap_set wr (w.heap.size + 1 + 1 + 1) j _ _ (.string ByteArray.empty) HJ.out.1
        generalize hwy : wr.setCell ⟨w.heap.size + 1 + 1 + 1, j, none⟩ (.string ByteArray.empty) = wy at *
        have S8 := ((H.out.below HA.out.1).side C8 (fun i e => by
          have e' : i = w.heap.size + 1 + 1 + 1 := e
          have h4 := HS.out
          refine ⟨by omega, fun e2 => ?_⟩
          have h5 := H.out.own.lt_ i e2.symm
          omega)).sto
        have d1 : wy.drew.cell? ⟨k.p, 2, none⟩ = some (.pointer (some ⟨k.pd, 0, none⟩)) := S8.cells.2.2.1
        have d2 : wy.drew.cell? ⟨w.heap.size + 1, j, none⟩ = some (.int .i64 nj) := C8.cell (w' := wy) HC1.out (fun e => by have e' : w.heap.size + 1 = w.heap.size + 1 + 1 + 1 := e; omega)
        have CC := word_num' (S8.below (Below.drew (Below.refl _ wy))) HH.out
        have z8 := heap_free b8 j
        have y8 : wy.cell? ⟨w.heap.size + 1 + 1 + 1, j, none⟩ = some (.string ByteArray.empty) := by
          simp only [World.cell?, b8]
          show ((arrJ T j).setIfInBounds j (.string ByteArray.empty))[j]? = _
          rw [Array.getElem?_setIfInBounds_self_of_lt (by show j < 3; exact hj3)]
        have HS8 := Lib.hid S8
        have HC8 := Lib.hid C8
        have HB8 := Lib.hid b8
        clear S8 C8 b8 hwy c0 c1 c2 c3
        have hkB : k.p ≠ w.heap.size + 1 + 1 + 1 := by have h5 := H.out.sto.ps; omega
        have hrB : w.heap.size + 1 ≠ w.heap.size + 1 + 1 + 1 := by omega
        go_region_held3 (fun W => W.cell? ⟨k.p, 2, none⟩ = some (.pointer (some ⟨k.pd, 0, none⟩)) ∧ W.cell? ⟨w.heap.size + 1, j, none⟩ = some (.int .i64 nj)) (first | exact ⟨d1, d2⟩ | exact ⟨cell_setO hkB d1, cell_setO hrB d2⟩) ((go_at_call 68; refine CC.mono ?_; rintro e w2 ⟨rfl, rfl⟩))
        go_wp2
        go_roundg (3 - j)
        case measure => omega
        case rel => exact ⟨j + 1, by omega, by omega, by go_num, Lib.hid (stepB hj3 H2.out HB8.out HC8.out)⟩
    · have hj' : j = 3 := by omega
      have m1 : ¬ (j : Int) < 3 := by omega
      rw [hj'] at HJ
      have z0 : wr.drew.cell? ⟨w.heap.size + 1 + 1 + 1, 0, none⟩ = some (.string (wAt T 0)) := arrJ_cell HJ.out.1 0 (by omega)
      have z1 : wr.drew.cell? ⟨w.heap.size + 1 + 1 + 1, 1, none⟩ = some (.string (wAt T 1)) := arrJ_cell HJ.out.1 1 (by omega)
      have z2 : wr.drew.cell? ⟨w.heap.size + 1 + 1 + 1, 2, none⟩ = some (.string (wAt T 2)) := arrJ_cell HJ.out.1 2 (by omega)
      have BX := Lib.hid ((H.out.below HA.out.1).side HJ.out.2 (fun i e => by
        have e' : i = w.heap.size + 1 + 1 + 1 := e
        have h4 := H.out.lt.2.2.2
        refine ⟨by omega, fun e2 => ?_⟩
        have h5 := H.out.own.lt_ i e2.symm
        omega))
      have hobk := BX.out.obk
      rw [HV.out.1] at hobk
      have v0 : wr.drew.cell? ⟨ob, 0, none⟩ = some (.slice Av nv cv) := by
        show wr.cell? ⟨ob, 0, none⟩ = _
        simp [World.cell?, hobk]
      have vf : wr.drew.frozen? ⟨ob, 0, none⟩ = false := heap_free hobk 0
      have hp3 : ob < wr.drew.heap.size := BX.out.obs
      have hq3 : w.heap.size + 1 + 1 + 1 < wr.drew.heap.size := (Array.getElem?_eq_some_iff.1 HJ.out.1).1
      have HR3 := Lib.hid (show (wr.drew.alloc (.cells #[.string (wAt T 0), .string (wAt T 1), .string (wAt T 2)] 35 (0, 0))).ownsRow base 35 3 (.slice Av nv cv) nv (X.flatMap encT) from by
        have h1 := BX.out.own
        unfold G.OwnL at h1
        rw [HV.out.1, HV.out.2] at h1
        exact World.ownsRow.alloc (row_below h1 (Below.drew (Below.refl _ wr))) _)
      have HS3 := Lib.hid (show base ≤ wr.heap.size from BX.out.lt.2.2.2)
      have HLP := Lib.hid (show some ob ≠ (Value.slice Av nv cv).ownBlock from fun e => by
        have h1 := H.out.own.ge ob (by rw [HV.out.1]; exact e.symm)
        have h2 := H.out.lt.2.1
        omega)
      have HLQ := Lib.hid (show some (w.heap.size + 1 + 1 + 1) ≠ (Value.slice Av nv cv).ownBlock from fun e => by
        have h1 := H.out.own.lt_ _ (by rw [HV.out.1]; exact e.symm)
        omega)
      obtain ⟨i0, hi, hz⟩ := Option.map_eq_some_iff.1 (show (Tryz.prog.info? 35).map (fun i => (i.zero, i.size, i.bytes)) = some (some (.agg #[.string ByteArray.empty, .string ByteArray.empty, .string ByteArray.empty]), 3, 48) by kernel_rfl)
      simp only [Prod.mk.injEq] at hz
      have hm1 : nv + 1 ≤ maxLen := by unfold maxLen; omega
      have hm2 : (nv + 1) * 48 ≤ 140737488355328 := by omega
      have HZ := Lib.hid (And.intro hi (And.intro hz.1 (And.intro hz.2.1 (And.intro hz.2.2 (And.intro hm1 hm2)))))
      clear hi hz hm1 hm2 hobk
      go_upto_region 10 with fail
      refine wp_region_noPanic ?_
      refine Gh.start_G (fun W => W.cell? ⟨ob, 0, none⟩ = some (.slice Av nv cv) ∧ W.cell? ⟨w.heap.size + 1 + 1 + 1, 0, none⟩ = some (.string (wAt T 0)) ∧ W.cell? ⟨w.heap.size + 1 + 1 + 1, 1, none⟩ = some (.string (wAt T 1)) ∧ W.cell? ⟨w.heap.size + 1 + 1 + 1, 2, none⟩ = some (.string (wAt T 2))) 14 (by kernel_rfl) ⟨v0, z0, z1, z2⟩ (fun hHeld => ?_)
      refine Gh.take_G (i := 0) (v := ?_) rfl (by kernel_rfl) (fun _ _ _ h => h) (Or.inl ⟨by rfl, ?_⟩) (by assumption) ?_
      rotate_left
      · (intro wS hSw; (try dsimp only at hSw); go_simp; try with_reducible rfl)
      try simp only [Act.put, List.setIfInBounds_toArray, List.set_cons_zero, List.set_cons_succ]
      refine Gh.take_G (i := 1) (v := ?_) rfl (by kernel_rfl) (fun _ _ _ h => h) (Or.inl ⟨by rfl, ?_⟩) (by assumption) ?_
      rotate_left
      · (intro wS hSw; (try dsimp only at hSw); go_simp; try with_reducible rfl)
      try simp only [Act.put, List.setIfInBounds_toArray, List.set_cons_zero, List.set_cons_succ]
      refine Gh.take_G (i := 2) (v := ?_) rfl (by kernel_rfl) (fun _ _ _ h => h) (Or.inl ⟨by rfl, ?_⟩) (by assumption) ?_
      rotate_left
      · (intro wS hSw; (try dsimp only at hSw); go_simp; try with_reducible rfl)
      try simp only [Act.put, List.setIfInBounds_toArray, List.set_cons_zero, List.set_cons_succ]
      refine Gh.take_G (i := 3) (v := ?_) rfl (by kernel_rfl) (fun _ _ _ h => h) (Or.inl ⟨by rfl, ?_⟩) (by assumption) ?_
      rotate_left
      · (intro wS hSw; (try dsimp only at hSw); go_simp; try with_reducible rfl)
      try simp only [Act.put, List.setIfInBounds_toArray, List.set_cons_zero, List.set_cons_succ]
      refine Gh.take_G (i := 4) (v := ?_) rfl (by kernel_rfl) (fun _ _ _ h => h) (Or.inl ⟨by rfl, ?_⟩) (by assumption) ?_
      rotate_left
      · (intro wS hSw; (try dsimp only at hSw); go_simp; try with_reducible rfl)
      try simp only [Act.put, List.setIfInBounds_toArray, List.set_cons_zero, List.set_cons_succ]
      refine Gh.take_G (i := 5) (v := ?_) rfl (by kernel_rfl) (fun _ _ _ h => h) (Or.inl ⟨by rfl, ?_⟩) (by assumption) ?_
      rotate_left
      · (intro wS hSw; (try dsimp only at hSw); go_simp; try with_reducible rfl)
      try simp only [Act.put, List.setIfInBounds_toArray, List.set_cons_zero, List.set_cons_succ]
      refine Gh.take_G (i := 6) (v := ?_) rfl (by kernel_rfl) (fun _ _ _ h => h) (Or.inl ⟨by rfl, ?_⟩) (by assumption) ?_
      rotate_left
      · (intro wS hSw; (try dsimp only at hSw); go_simp; try with_reducible rfl)
      try simp only [Act.put, List.setIfInBounds_toArray, List.set_cons_zero, List.set_cons_succ]
      refine Gh.take_G (i := 7) (v := ?_) rfl (by kernel_rfl) (fun _ _ _ h => h) (Or.inl ⟨by rfl, ?_⟩) (by assumption) ?_
      rotate_left
      · (intro wS hSw; (try dsimp only at hSw); go_simp; try with_reducible rfl)
      try simp only [Act.put, List.setIfInBounds_toArray, List.set_cons_zero, List.set_cons_succ]
      refine Gh.take_G (i := 8) (v := ?_) rfl (by kernel_rfl) (fun _ _ _ h => h) (Or.inl ⟨by rfl, ?_⟩) (by assumption) ?_
      rotate_left
      · (intro wS hSw; (try dsimp only at hSw); go_simp; try with_reducible rfl)
      try simp only [Act.put, List.setIfInBounds_toArray, List.set_cons_zero, List.set_cons_succ]
      refine Gh.take_G (i := 9) (v := ?_) rfl (by kernel_rfl) (fun _ _ _ h => h) (Or.inl ⟨by rfl, ?_⟩) (by assumption) ?_
      rotate_left
      · (intro wS hSw; (try dsimp only at hSw); go_simp; try with_reducible rfl)
      try simp only [Act.put, List.setIfInBounds_toArray, List.set_cons_zero, List.set_cons_succ]
      refine Gh.take_G (i := 10) (v := ?_) rfl (by kernel_rfl) (fun _ _ _ h => h) (Or.inl ⟨by rfl, ?_⟩) (by assumption) ?_
      rotate_left
      · (intro wS hSw; (try dsimp only at hSw); go_simp; try with_reducible rfl)
      try simp only [Act.put, List.setIfInBounds_toArray, List.set_cons_zero, List.set_cons_succ]
      refine Gh.one_G (i := 11) (by kernel_rfl) rfl (fun K hK => ?_)
      go_simp
      refine hK.out _ _ (fun _ => ⟨alloc_cell v0, alloc_cell z0, alloc_cell z1, alloc_cell z2⟩) (fun hHeld2 => ?_)
      have hHeld := hHeld2 (by decide)
      clear hHeld2
      clear hK K
      try simp only [Act.put, List.setIfInBounds_toArray, List.set_cons_zero, List.set_cons_succ]
      refine Gh.one_G (i := 12) (by kernel_rfl) rfl (fun K hK => ?_)
      refine step_append_lies _ (by rfl) _ _ _ (by rfl) base 35 i0 _ 3 48 Tryz.underlying29 HZ.out.1 HZ.out.2.1 HZ.out.2.2.1 HZ.out.2.2.2.1 rfl (by omega) (.slice Av nv cv) nv (X.flatMap encT) (by rfl) HR3.out ⟨wr.heap.size, 0, none⟩ 1 1 [.string (wAt T 0), .string (wAt T 1), .string (wAt T 2)] (by rfl) (by rfl) (World.news_of_block (cs := #[.string (wAt T 0), .string (wAt T 1), .string (wAt T 2)]) (t := 35) (fr := (0, 0)) (heap_alloc_new wr.drew _)) (by simp [Value.oneCell']) (by omega) HZ.out.2.2.2.2.1 HZ.out.2.2.2.2.2 (Nat.le_trans HS3.out (by simp)) (wr.heap.size + 1) (by simp) ?_
      intro gg cp4 w4 hown4 hgrow0 hat hlt
      have hgrow : (wr.drew.alloc (.cells #[.string (wAt T 0), .string (wAt T 1), .string (wAt T 2)] 35 (0, 0))).grownBy w4 (Value.slice Av nv cv).ownBlock := hgrow0
      clear hgrow0
      have m0 := (keepP hgrow HLP.out hp3 0).1.trans v0
      have mf := (keepP hgrow HLP.out hp3 0).2.trans vf
      have y0 := (keepP hgrow HLQ.out hq3 0).1.trans z0
      have y1 := (keepP hgrow HLQ.out hq3 1).1.trans z1
      have y2 := (keepP hgrow HLQ.out hq3 2).1.trans z2
      have HC4 := Lib.hid (And.intro hown4 (And.intro hgrow hat))
      clear hown4 hgrow hat hlt
      refine hK.out _ _ (fun _ => ⟨m0, y0, y1, y2⟩) (fun hHeld2 => ?_)
      have hHeld := hHeld2 (by decide)
      clear hHeld2
      clear hK K
      try simp only [Act.put, List.setIfInBounds_toArray, List.set_cons_zero, List.set_cons_succ]
      refine Gh.take_G (i := 13) (v := ?_) rfl (by kernel_rfl) (fun _ _ _ h => h) (Or.inl ⟨by rfl, ?_⟩) (by assumption) ?_
      rotate_left
      · (intro wS hSw; (try dsimp only at hSw); go_simp; try with_reducible rfl)
      try simp only [Act.put, List.setIfInBounds_toArray, List.set_cons_zero, List.set_cons_succ]
      refine Gh.one_G (i := 14) (by kernel_rfl) rfl (fun K hK => ?_)
      go_simp
      refine hK.out _ _ (fun e => absurd rfl e) (fun _ => ?_)
      clear hK K
      try simp only [Act.put, List.setIfInBounds_toArray, List.set_cons_zero, List.set_cons_succ]
      refine Gh.done_G (by kernel_rfl) ?_ _
      refine NoPanic.normal ?_
      go_wp2_with fail
      exact bodyPost_end (v := .tuple #[]) (by simp [results, Tryz.results45, go_sem]) rfl (below3_end H.out HV.out.1 HA.out.1 (by omega) HJ.out.2 HC4.out.1 HC4.out.2.1 HC4.out.2.2 HT.out.2 HT.out.1.symm)
end Go.Proofs.YtcnffgcegimelaaGreat.So
