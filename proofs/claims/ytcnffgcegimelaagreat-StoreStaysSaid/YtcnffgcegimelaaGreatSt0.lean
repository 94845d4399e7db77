/-
  Batches: what a batch does to a map of facts, and the function that does it. Conditions: the blocks lie as told.
-/
import Derived.Test.YtcnffgcegimelaaGreatSw4
namespace Go.Proofs.YtcnffgcegimelaaGreat.So
open Go.RowKit Go.Proofs.YtcnffgcegimelaaGreat.Mp Go.Proofs.YtcnffgcegimelaaGreat.Wd

/-- A change. -/
structure Cng where
  gone : Bool
  T : Tri
deriving Inhabited
def encC (c : Cng) : List Value := [.bool c.gone, .string c.T.S, .string c.T.P, .string c.T.O]
def encB (v : Bool) : Value := .bool v
/-- What a batch makes of what is there. -/
def doesF (f : Tri → Option Bool) (l : List Cng) : Tri → Option Bool := l.foldl (fun f c => upd f c.T (if c.gone then none else some true)) f
/-- .. and of the list of what is there. -/
def doesL (L : List Tri) (l : List Cng) : List Tri := l.foldl (fun L c => if c.gone then L.filter (fun z => decide (z ≠ c.T)) else if c.T ∈ L then L else c.T :: L) L
theorem doesF_snoc (f : Tri → Option Bool) (l : List Cng) (c : Cng) : doesF f (l ++ [c]) = upd (doesF f l) c.T (if c.gone then none else some true) := by
  unfold doesF
  rw [List.foldl_append]
  rfl
theorem doesL_snoc (L : List Tri) (l : List Cng) (c : Cng) : doesL L (l ++ [c]) = if c.gone then (doesL L l).filter (fun z => decide (z ≠ c.T)) else if c.T ∈ doesL L l then doesL L l else c.T :: doesL L l := by
  unfold doesL
  rw [List.foldl_append]
  rfl
theorem doesL_len : ∀ (l : List Cng) (L : List Tri), (doesL L l).length ≤ L.length + l.length
  | [], L => by simp [doesL]
  | c :: r, L => by
    have h := doesL_len r (if c.gone then L.filter (fun z => decide (z ≠ c.T)) else if c.T ∈ L then L else c.T :: L)
    have e : doesL L (c :: r) = doesL (if c.gone then L.filter (fun z => decide (z ≠ c.T)) else if c.T ∈ L then L else c.T :: L) r := rfl
    rw [e]
    refine Nat.le_trans h ?_
    rw [List.length_cons]
    split
    · have := List.length_filter_le (fun z => decide (z ≠ c.T)) L
      omega
    · split
      · omega
      · rw [List.length_cons]; omega
theorem take_snoc {α : Type} {l : List α} {i : Nat} {c : α} (h : l[i]? = some c) : l.take (i + 1) = l.take i ++ [c] := by
  rw [List.take_add_one, h]
  rfl
/-- Cells of changes in a slice. -/
def Cells (w : World) (A : Option Addr) (l : List Cng) : Prop := ∀ i c, l[i]? = some c → ∃ s off, A = some ⟨s, off, none⟩ ∧ ∀ j u, (encC c)[j]? = some u → w.cell? ⟨s, off + i * 4 + j, none⟩ = some u
theorem Cells.chg {D : Nat → Prop} {w w' : World} {A : Option Addr} {l : List Cng} (h : Cells w A l) (c : Chg D w w') (hA : ∀ s off, A = some ⟨s, off, none⟩ → ¬ D s) : Cells w' A l := fun i x hx => by
  obtain ⟨s, off, e, h1⟩ := h i x hx
  exact ⟨s, off, e, fun j u hu => c.cell (h1 j u hu) (hA s off e)⟩
set_option maxRecDepth 100000 in
set_option maxHeartbeats 3200000 in
/-- does. -/
theorem does_ok {w : World} {b cp : Nat} {f : Tri → Option Bool} {L : List Tri} {A : Option Addr} {l : List Cng} (h : KMap triX encB w b f L) (hA : ∀ s off, A = some ⟨s, off, none⟩ → s ≠ b) (hl : Cells w A l) (hfit : ∀ c ∈ l, c.T.fit) (hn : l.length ≤ 1000000) (hL : L.length ≤ 1000000) :
    Calls Tryz.prog 33 #[.map (some b), .slice A l.length cp] w fun e w' => (∃ v, e = .returned v) ∧ KMap triX encB w' b (doesF f l) (doesL L l) ∧ Chg (fun i => i = b) w w' := by
  obtain ⟨n, hn0⟩ : ∃ n, l.length = n := ⟨_, rfl⟩
  have HN := Lib.hid hn0
  have HL := Lib.hid hL
  have HB := Lib.hid (hn0 ▸ hn : n ≤ 1000000)
  rw [hn0]
  clear hn0 hL hn
  have H := Lib.hid h
  clear h
  go_enter Tryz.func33, Tryz.ntmps33
  go_wp2
  go_loopg [8] n (fun g s8 wr => ∃ i : Nat, i ≤ n ∧ n - i ≤ g ∧ s8 = .int .i64 i ∧ Hid (KMap triX encB wr b (doesF f (l.take i)) (doesL L (l.take i)) ∧ Chg (fun i => i = b) w wr))
  case atStart => exact ⟨0, Nat.zero_le _, by omega, rfl, Lib.hid ⟨H.out, Chg.refl _ _⟩⟩
  case round =>
    obtain ⟨i, hi, hg, rfl, HR⟩ := hrel
    by_cases hin : i < n
    · have hx : ∃ c, l[i]? = some c := ⟨l[i]'(by have := HN.out; omega), List.getElem?_eq_getElem _⟩
      obtain ⟨c, hc⟩ := hx
      obtain ⟨sb, so, rfl, hcell⟩ := hl i c hc
      have hcw := HR.out.2
      have hsb : sb ≠ b := hA sb so rfl
      have q0 : wr.cell? ⟨sb, so + i * 4, none⟩ = some (.bool c.gone) := hcw.cell (hcell 0 _ rfl) hsb
      have q1 := hcw.cell (hcell 1 _ rfl) hsb
      have q2 := hcw.cell (hcell 2 _ rfl) hsb
      have q3 := hcw.cell (hcell 3 _ rfl) hsb
      have n1 : (i : Int) < (n : Int) := by omega
      have n0 : (0 : Int) ≤ (i : Int) := by omega
      clear hcell hcw
      have hkey := hfit c (List.mem_of_getElem? hc)
      have HT := Lib.hid (take_snoc hc)
      have HLN := Lib.hid (show (doesL L (l.take i)).length < maxLen by
        have h1 := doesL_len (l.take i) L
        have h2 := HL.out
        have h3 := HB.out
        have h4 := HN.out
        have h5 := List.length_take_le i l
        unfold maxLen
        omega)
      cases hgone : c.gone with
      | true =>
        rw [hgone] at q0
        have HG := Lib.hid hgone
        clear hgone
        go_wp2_with (at_delete; refine wpk_del _ rfl _ _ _ rfl Tryz.underlying61 rfl (HR.out.1.kept (World.grownBy_alloc wr _ none) (by simp)) c.T hkey rfl ?_; intro w2 hm2 ht2 hg2; have M2 := Lib.hid (And.intro hm2 (And.intro ht2 hg2)); clear hm2 ht2 hg2)
        go_roundg (n - (i + 1))
        case measure => omega
        case rel =>
          refine ⟨i + 1, by omega, Nat.le_refl _, by have hbb := HB.out; rw [Go.IntWalk.wrap64_in _ (by omega)]; go_num, Lib.hid ?_⟩
          rw [HT.out, doesF_snoc, doesL_snoc]
          simp only [HG.out, if_true]
          exact ⟨M2.out.1, (HR.out.2.trans (Chg.of_row (World.grownBy_alloc wr _ none)) (fun j _ e => by cases e)).trans (Chg.of_grown M2.out.2.2) (fun j _ e => e)⟩
      | false =>
        rw [hgone] at q0
        have HG := Lib.hid hgone
        clear hgone
        go_wp2_with (at_mapUpdate; refine wpk_put _ rfl _ _ _ _ rfl Tryz.underlying61 rfl (HR.out.1.kept (World.grownBy_alloc wr _ none) (by simp)) HLN.out c.T hkey true rfl rfl ?_; intro w2 hm2 ht2 hg2; have M2 := Lib.hid (And.intro hm2 (And.intro ht2 hg2)); clear hm2 ht2 hg2)
        go_roundg (n - (i + 1))
        case measure => omega
        case rel =>
          refine ⟨i + 1, by omega, Nat.le_refl _, by have hbb := HB.out; rw [Go.IntWalk.wrap64_in _ (by omega)]; go_num, Lib.hid ?_⟩
          rw [HT.out, doesF_snoc, doesL_snoc]
          simp only [HG.out, Bool.false_eq_true, if_false]
          exact ⟨M2.out.1, (HR.out.2.trans (Chg.of_row (World.grownBy_alloc wr _ none)) (fun j _ e => by cases e)).trans (Chg.of_grown M2.out.2.2) (fun j _ e => e)⟩
    · have hie : i = n := by omega
      have n1 : ¬ (i : Int) < (n : Int) := by omega
      go_wp2
      rw [hie, ← HN.out, List.take_length] at HR
      exact bodyPost_end (v := .tuple #[]) (by simp [results, Tryz.results33, go_sem]) rfl ⟨⟨_, rfl⟩, HR.out⟩
end Go.Proofs.YtcnffgcegimelaaGreat.So
