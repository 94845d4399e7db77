/-
  Joined by wip/tools/merge.py from the texts St0 Sp0 Sp1 Sp2 St1. Conditions: as each says.
-/
import Derived.Test.YtcnffgcegimelaaGreatK1
import Derived.Shelf.SlicesQ.IndexFunc
section
/-
  Batches: what a batch does to a map of facts, and the function that does it. Conditions: the blocks lie as told.
-/
namespace Go.Proofs.YtcnffgcegimelaaGreat.So
open Go.RowKit Go.Proofs.YtcnffgcegimelaaGreat.Mp Go.Proofs.YtcnffgcegimelaaGreat.Wd

/-- A change. -/
structure Cng where
  gone : Bool
  T : Tri
deriving Inhabited
def encC (c : Cng) : List Value := [.bool c.gone, .string c.T.S, .string c.T.P, .string c.T.O]
def encB (v : Bool) : Value := .bool v
/-- What a batch makes of what is there. -/
def doesF (f : Tri → Option Bool) (l : List Cng) : Tri → Option Bool := l.foldl (fun f c => upd f c.T (if c.gone then none else some true)) f
/-- .. and of the list of what is there. -/
def doesL (L : List Tri) (l : List Cng) : List Tri := l.foldl (fun L c => if c.gone then L.filter (fun z => decide (z ≠ c.T)) else if c.T ∈ L then L else c.T :: L) L
theorem doesF_snoc (f : Tri → Option Bool) (l : List Cng) (c : Cng) : doesF f (l ++ [c]) = upd (doesF f l) c.T (if c.gone then none else some true) := by
  unfold doesF
  rw [List.foldl_append]
  rfl
theorem doesL_snoc (L : List Tri) (l : List Cng) (c : Cng) : doesL L (l ++ [c]) = if c.gone then (doesL L l).filter (fun z => decide (z ≠ c.T)) else if c.T ∈ doesL L l then doesL L l else c.T :: doesL L l := by
  unfold doesL
  rw [List.foldl_append]
  rfl
theorem doesL_len : ∀ (l : List Cng) (L : List Tri), (doesL L l).length ≤ L.length + l.length
  | [], L => by simp [doesL]
  | c :: r, L => by
    have h := doesL_len r (if c.gone then L.filter (fun z => decide (z ≠ c.T)) else if c.T ∈ L then L else c.T :: L)
    have e : doesL L (c :: r) = doesL (if c.gone then L.filter (fun z => decide (z ≠ c.T)) else if c.T ∈ L then L else c.T :: L) r := rfl
    rw [e]
    refine Nat.le_trans h ?_
    rw [List.length_cons]
    split
    · have := List.length_filter_le (fun z => decide (z ≠ c.T)) L
      omega
    · split
      · omega
      · rw [List.length_cons]; omega
theorem take_snoc {α : Type} {l : List α} {i : Nat} {c : α} (h : l[i]? = some c) : l.take (i + 1) = l.take i ++ [c] := by
  rw [List.take_add_one, h]
  rfl
/-- Cells of changes in a slice. -/
def Cells (w : World) (A : Option Addr) (l : List Cng) : Prop := ∀ i c, l[i]? = some c → ∃ s off, A = some ⟨s, off, none⟩ ∧ ∀ j u, (encC c)[j]? = some u → w.cell? ⟨s, off + i * 4 + j, none⟩ = some u
theorem Cells.chg {D : Nat → Prop} {w w' : World} {A : Option Addr} {l : List Cng} (h : Cells w A l) (c : Chg D w w') (hA : ∀ s off, A = some ⟨s, off, none⟩ → ¬ D s) : Cells w' A l := fun i x hx => by
  obtain ⟨s, off, e, h1⟩ := h i x hx
  exact ⟨s, off, e, fun j u hu => c.cell (h1 j u hu) (hA s off e)⟩
set_option maxRecDepth 100000 in
set_option maxHeartbeats 3200000 in
/-- does. -/
theorem does_ok {w : World} {b cp : Nat} {f : Tri → Option Bool} {L : List Tri} {A : Option Addr} {l : List Cng} (h : KMap triX encB w b f L) (hA : ∀ s off, A = some ⟨s, off, none⟩ → s ≠ b) (hl : Cells w A l) (hfit : ∀ c ∈ l, c.T.fit) (hn : l.length ≤ 1000000) (hL : L.length ≤ 1000000) :
    Calls Tryz.prog 33 #[.map (some b), .slice A l.length cp] w fun e w' => (∃ v, e = .returned v) ∧ KMap triX encB w' b (doesF f l) (doesL L l) ∧ Chg (fun i => i = b) w w' := by
  obtain ⟨n, hn0⟩ : ∃ n, l.length = n := ⟨_, rfl⟩
  have HN := Lib.hid hn0
  have HL := Lib.hid hL
  have HB := Lib.hid (hn0 ▸ hn : n ≤ 1000000)
  rw [hn0]
  clear hn0 hL hn
  have H := Lib.hid h
  clear h
  go_enter Tryz.func33, Tryz.ntmps33
  go_wp2
  go_loopg [8] n (fun g s8 wr => ∃ i : Nat, i ≤ n ∧ n - i ≤ g ∧ s8 = .int .i64 i ∧ Hid (KMap triX encB wr b (doesF f (l.take i)) (doesL L (l.take i)) ∧ Chg (fun i => i = b) w wr))
  case atStart => exact ⟨0, Nat.zero_le _, by omega, rfl, Lib.hid ⟨H.out, Chg.refl _ _⟩⟩
  case round =>
    obtain ⟨i, hi, hg, rfl, HR⟩ := hrel
    by_cases hin : i < n
    · have hx : ∃ c, l[i]? = some c := ⟨l[i]'(by have := HN.out; omega), List.getElem?_eq_getElem _⟩
      obtain ⟨c, hc⟩ := hx
      obtain ⟨sb, so, rfl, hcell⟩ := hl i c hc
      have hcw := HR.out.2
      have hsb : sb ≠ b := hA sb so rfl
      have q0 : wr.cell? ⟨sb, so + i * 4, none⟩ = some (.bool c.gone) := hcw.cell (hcell 0 _ rfl) hsb
      have q1 := hcw.cell (hcell 1 _ rfl) hsb
      have q2 := hcw.cell (hcell 2 _ rfl) hsb
      have q3 := hcw.cell (hcell 3 _ rfl) hsb
      have n1 : (i : Int) < (n : Int) := by omega
      have n0 : (0 : Int) ≤ (i : Int) := by omega
      clear hcell hcw
      have hkey := hfit c (List.mem_of_getElem? hc)
      have HT := Lib.hid (take_snoc hc)
      have HLN := Lib.hid (show (doesL L (l.take i)).length < maxLen by
        have h1 := doesL_len (l.take i) L
        have h2 := HL.out
        have h3 := HB.out
        have h4 := HN.out
        have h5 := List.length_take_le i l
        unfold maxLen
        omega)
      cases hgone : c.gone with
      | true =>
        rw [hgone] at q0
        have HG := Lib.hid hgone
        clear hgone
        go_wp2_with (at_delete; refine wpk_del _ rfl _ _ _ rfl Tryz.underlying61 rfl (HR.out.1.kept (World.grownBy_alloc wr _ none) (by simp)) c.T hkey rfl ?_; intro w2 hm2 ht2 hg2; have M2 := Lib.hid (And.intro hm2 (And.intro ht2 hg2)); clear hm2 ht2 hg2)
        go_roundg (n - (i + 1))
        case measure => omega
        case rel =>
          refine ⟨i + 1, by omega, Nat.le_refl _, by have hbb := HB.out; rw [Go.IntWalk.wrap64_in _ (by omega)]; go_num, Lib.hid ?_⟩
          rw [HT.out, doesF_snoc, doesL_snoc]
          simp only [HG.out, if_true]
          exact ⟨M2.out.1, (HR.out.2.trans (Chg.of_row (World.grownBy_alloc wr _ none)) (fun j _ e => by cases e)).trans (Chg.of_grown M2.out.2.2) (fun j _ e => e)⟩
      | false =>
        rw [hgone] at q0
        have HG := Lib.hid hgone
        clear hgone
        go_wp2_with (at_mapUpdate; refine wpk_put _ rfl _ _ _ _ rfl Tryz.underlying61 rfl (HR.out.1.kept (World.grownBy_alloc wr _ none) (by simp)) HLN.out c.T hkey true rfl rfl ?_; intro w2 hm2 ht2 hg2; have M2 := Lib.hid (And.intro hm2 (And.intro ht2 hg2)); clear hm2 ht2 hg2)
        go_roundg (n - (i + 1))
        case measure => omega
        case rel =>
          refine ⟨i + 1, by omega, Nat.le_refl _, by have hbb := HB.out; rw [Go.IntWalk.wrap64_in _ (by omega)]; go_num, Lib.hid ?_⟩
          rw [HT.out, doesF_snoc, doesL_snoc]
          simp only [HG.out, Bool.false_eq_true, if_false]
          exact ⟨M2.out.1, (HR.out.2.trans (Chg.of_row (World.grownBy_alloc wr _ none)) (fun j _ e => by cases e)).trans (Chg.of_grown M2.out.2.2) (fun j _ e => e)⟩
    · have hie : i = n := by omega
      have n1 : ¬ (i : Int) < (n : Int) := by omega
      go_wp2
      rw [hie, ← HN.out, List.take_length] at HR
      exact bodyPost_end (v := .tuple #[]) (by simp [results, Tryz.results33, go_sem]) rfl ⟨⟨_, rfl⟩, HR.out⟩
end Go.Proofs.YtcnffgcegimelaaGreat.So
end
section
/-
  Lists that rise, plain: put, drop, and what a batch makes of them; any order that is strict and whole. No program in sight.
-/
namespace Go.Proofs.YtcnffgcegimelaaGreat.So
open Go.Proofs.YtcnffgcegimelaaGreat.Mp

section
variable {κ : Type} [DecidableEq κ] (lt : κ → κ → Bool)
/-- A strict whole order. -/
structure SWh (lt : κ → κ → Bool) : Prop where
  irr : ∀ a, lt a a = false
  tr : ∀ a b c, lt a b = true → lt b c = true → lt a c = true
  tot : ∀ a b, a ≠ b → lt a b = true ∨ lt b a = true
def Rises (l : List κ) : Prop := l.Pairwise (fun a b => lt a b = true)
def putR : List κ → κ → List κ
  | [], t => [t]
  | a :: r, t => if lt a t then a :: putR r t else if a = t then a :: r else t :: a :: r
def dropR (l : List κ) (t : κ) : List κ := l.filter (fun z => decide (z ≠ t))
variable {lt}
omit [DecidableEq κ] in
theorem Rises.nodup (S : SWh lt) {l : List κ} (h : Rises lt l) : l.Nodup := h.imp (fun {a b} hab e => by
  subst e
  rw [S.irr] at hab
  cases hab)
theorem mem_putR {l : List κ} {t y : κ} : y ∈ putR lt l t ↔ y = t ∨ y ∈ l := by
  induction l with
  | nil => simp [putR]
  | cons a r ih =>
    unfold putR
    split
    · rw [List.mem_cons, ih, List.mem_cons]
      exact ⟨fun h => by rcases h with h | h | h <;> simp [h], fun h => by rcases h with h | h | h <;> simp [h]⟩
    · split
      · rename_i e
        subst e
        simp
      · simp
theorem putR_rises (S : SWh lt) {l : List κ} (h : Rises lt l) (t : κ) : Rises lt (putR lt l t) := by
  induction l with
  | nil => exact List.pairwise_singleton _ _
  | cons a r ih =>
    obtain ⟨h1, h2⟩ := List.pairwise_cons.1 h
    unfold putR
    split
    · rename_i hlt
      refine List.pairwise_cons.2 ⟨fun y hy => ?_, ih h2⟩
      rcases mem_putR.1 hy with rfl | hy
      · exact hlt
      · exact h1 y hy
    · rename_i hlt
      split
      · exact h
      · rename_i hne
        have hta : lt t a = true := by
          rcases S.tot a t hne with e | e
          · exact absurd e hlt
          · exact e
        refine List.pairwise_cons.2 ⟨fun y hy => ?_, h⟩
        rcases List.mem_cons.1 hy with rfl | hy
        · exact hta
        · exact S.tr _ _ _ hta (h1 y hy)
theorem dropR_rises {l : List κ} (h : Rises lt l) (t : κ) : Rises lt (dropR l t) := h.filter _
omit [DecidableEq κ] in
/-- Two lists without repeats that have the same members are one another's rearrangement. -/
theorem perm_of_mem {a b : List κ} (ha : a.Nodup) (hb : b.Nodup) (h : ∀ x, x ∈ a ↔ x ∈ b) : a.Perm b := (List.perm_ext_iff_of_nodup ha hb).2 h
omit [DecidableEq κ] in
/-- Lists that rise and have the same members are one. -/
theorem rises_one (S : SWh lt) {a b : List κ} (ha : Rises lt a) (hb : Rises lt b) (h : ∀ x, x ∈ a ↔ x ∈ b) : a = b :=
  List.Perm.eq_of_pairwise (fun x y _ _ h1 h2 => by
    have := S.tr _ _ _ h1 h2
    rw [S.irr] at this
    cases this) ha hb (perm_of_mem (ha.nodup S) (hb.nodup S) h)
end
/-- What a batch makes of facts that rise. -/
def doneR (lt : Tri → Tri → Bool) (D : List Tri) (l : List Cng) : List Tri := l.foldl (fun D c => if c.gone then dropR D c.T else putR lt D c.T) D
theorem doneR_ok {lt : Tri → Tri → Bool} (S : SWh lt) : ∀ (l : List Cng) {L D : List Tri}, Rises lt D → (∀ x, x ∈ L ↔ x ∈ D) → Rises lt (doneR lt D l) ∧ ∀ x, x ∈ doesL L l ↔ x ∈ doneR lt D l
  | [], _, _, hD, h => ⟨hD, h⟩
  | c :: r, L, D, hD, h => by
    show Rises lt (doneR lt (if c.gone then dropR D c.T else putR lt D c.T) r) ∧ ∀ x, x ∈ doesL (if c.gone then L.filter (fun z => decide (z ≠ c.T)) else if c.T ∈ L then L else c.T :: L) r ↔ x ∈ doneR lt (if c.gone then dropR D c.T else putR lt D c.T) r
    by_cases hg : c.gone = true
    · rw [if_pos hg, if_pos hg]
      refine doneR_ok S r (dropR_rises hD _) fun x => ?_
      unfold dropR
      rw [List.mem_filter, List.mem_filter, h x]
    · rw [if_neg hg, if_neg hg]
      refine doneR_ok S r (putR_rises S hD _) fun x => ?_
      rw [mem_putR, ← h x]
      split
      · rename_i hm
        refine ⟨Or.inr, fun e => ?_⟩
        rcases e with e | e
        · rw [e]; exact hm
        · exact e
      · exact List.mem_cons
end Go.Proofs.YtcnffgcegimelaaGreat.So
end
section
/-
  How many facts there are behind a batch, counted by what is last said of each, plain. No program in sight.
-/
namespace Go.Proofs.YtcnffgcegimelaaGreat.So
open Go.Proofs.YtcnffgcegimelaaGreat.Mp

/-- What is last said of each triple. -/
def lastF (g : Tri → Option Bool) (l : List Cng) : Tri → Option Bool := l.foldl (fun g c => upd g c.T (some (!c.gone))) g
def lastL (G : List Tri) (l : List Cng) : List Tri := l.foldl (fun G c => if c.T ∈ G then G else c.T :: G) G
theorem lastF_snoc (g : Tri → Option Bool) (l : List Cng) (c : Cng) : lastF g (l ++ [c]) = upd (lastF g l) c.T (some (!c.gone)) := by
  unfold lastF
  rw [List.foldl_append]
  rfl
theorem lastL_snoc (G : List Tri) (l : List Cng) (c : Cng) : lastL G (l ++ [c]) = if c.T ∈ lastL G l then lastL G l else c.T :: lastL G l := by
  unfold lastL
  rw [List.foldl_append]
  rfl
theorem mem_doesL : ∀ (l : List Cng) (g : Tri → Option Bool) (L L0 : List Tri), (∀ x, x ∈ L ↔ (g x = some true ∨ (g x = none ∧ x ∈ L0))) → ∀ x, x ∈ doesL L l ↔ (lastF g l x = some true ∨ (lastF g l x = none ∧ x ∈ L0))
  | [], _, _, _, h => h
  | c :: r, g, L, L0, h => by
    refine mem_doesL r (upd g c.T (some (!c.gone))) (if c.gone then L.filter (fun z => decide (z ≠ c.T)) else if c.T ∈ L then L else c.T :: L) L0 fun x => ?_
    unfold upd
    by_cases hg : c.gone = true
    · rw [if_pos hg, hg, List.mem_filter, h x]
      by_cases e : x = c.T
      · simp [e]
      · simp [e]
    · have hg' : c.gone = false := by cases hh : c.gone with
        | true => exact absurd hh hg
        | false => rfl
      rw [if_neg hg, hg']
      by_cases e : x = c.T
      · rw [if_pos e]
        refine ⟨fun _ => Or.inl rfl, fun _ => ?_⟩
        rw [e]
        split
        · assumption
        · exact List.mem_cons_self
      · rw [if_neg e, ← h x]
        split
        · exact Iff.rfl
        · rw [List.mem_cons]
          exact ⟨fun hh => hh.resolve_left e, Or.inr⟩
theorem doesL_nodup : ∀ (l : List Cng) (L : List Tri), L.Nodup → (doesL L l).Nodup
  | [], _, h => h
  | c :: r, L, h => by
    refine doesL_nodup r (if c.gone then L.filter (fun z => decide (z ≠ c.T)) else if c.T ∈ L then L else c.T :: L) ?_
    split
    · exact h.filter _
    · split
      · exact h
      · rename_i hm
        exact List.nodup_cons.2 ⟨hm, h⟩
theorem len_split {α : Type} (p : α → Bool) : ∀ l : List α, l.length = (l.filter p).length + (l.filter (fun x => !p x)).length
  | [] => rfl
  | a :: r => by
    have h := len_split p r
    cases hp : p a
    · rw [List.filter_cons_of_neg (by simp [hp]), List.filter_cons_of_pos (by simp [hp]), List.length_cons, List.length_cons]
      omega
    · rw [List.filter_cons_of_pos (by simp [hp]), List.filter_cons_of_neg (by simp [hp]), List.length_cons, List.length_cons]
      omega
/-- The count. -/
theorem count_law {G L M : List Tri} {g : Tri → Option Bool} (hG : G.Nodup) (hL : L.Nodup) (hM : M.Nodup) (h1 : ∀ x, x ∈ G ↔ (g x).isSome) (h2 : ∀ x, x ∈ M ↔ (g x = some true ∨ (g x = none ∧ x ∈ L))) :
    M.length + (G.filter (fun x => decide (g x = some false) && decide (x ∈ L))).length = L.length + (G.filter (fun x => decide (g x = some true) && decide (x ∉ L))).length := by
  have p1 : M.Perm (L.filter (fun x => decide (g x ≠ some false)) ++ G.filter (fun x => decide (g x = some true) && decide (x ∉ L))) := by
    refine perm_of_mem hM (List.nodup_append.2 ⟨hL.filter _, hG.filter _, fun a ha b hb e => ?_⟩) fun x => ?_
    · subst e
      have q1 := (List.mem_filter.1 ha).1
      have q2 := (List.mem_filter.1 hb).2
      simp at q2
      exact q2.2 q1
    · rw [h2 x, List.mem_append, List.mem_filter, List.mem_filter, h1 x]
      cases hg : g x with
      | none => simp
      | some v => cases v <;> by_cases hx : x ∈ L <;> simp [hx]
  have p2 : (L.filter (fun x => !decide (g x ≠ some false))).Perm (G.filter (fun x => decide (g x = some false) && decide (x ∈ L))) := by
    refine perm_of_mem (hL.filter _) (hG.filter _) fun x => ?_
    rw [List.mem_filter, List.mem_filter, h1 x]
    cases hg : g x with
    | none => simp
    | some v => cases v <;> by_cases hx : x ∈ L <;> simp [hx]
  have e1 := p1.length_eq
  have e2 := p2.length_eq
  rw [List.length_append] at e1
  have e3 := len_split (fun x => decide (g x ≠ some false)) L
  omega
end Go.Proofs.YtcnffgcegimelaaGreat.So
end
section
/-
  The order of facts, and what versions of a store are, plain. No program in sight.
-/
namespace Go.Proofs.YtcnffgcegimelaaGreat.So
open Go.Proofs.YtcnffgcegimelaaGreat.Mp Go.Proofs.YtcnffgcegimelaaGreat.Wd

theorem bl_irr : ∀ l : List UInt8, Op.bytesLess l l = false
  | [] => rfl
  | a :: r => by
    unfold Op.bytesLess
    rw [bl_irr r]
    simp
theorem bl_tr : ∀ a b c : List UInt8, Op.bytesLess a b = true → Op.bytesLess b c = true → Op.bytesLess a c = true
  | [], [], _, h, _ => by simp [Op.bytesLess] at h
  | [], _ :: _, [], _, h => by simp [Op.bytesLess] at h
  | [], _ :: _, _ :: _, _, _ => rfl
  | _ :: _, [], _, h, _ => by simp [Op.bytesLess] at h
  | _ :: _, _ :: _, [], _, h => by simp [Op.bytesLess] at h
  | x :: a, y :: b, z :: c, h1, h2 => by
    unfold Op.bytesLess at h1 h2 ⊢
    simp only [Bool.or_eq_true, decide_eq_true_eq, Bool.and_eq_true, beq_iff_eq] at h1 h2 ⊢
    rcases h1 with h1 | ⟨rfl, h1⟩
    · rcases h2 with h2 | ⟨rfl, h2⟩
      · exact Or.inl (UInt8.lt_trans h1 h2)
      · exact Or.inl h1
    · rcases h2 with h2 | ⟨rfl, h2⟩
      · exact Or.inl h2
      · exact Or.inr ⟨rfl, bl_tr a b c h1 h2⟩
theorem bl_tot : ∀ a b : List UInt8, a ≠ b → Op.bytesLess a b = true ∨ Op.bytesLess b a = true
  | [], [], h => absurd rfl h
  | [], _ :: _, _ => Or.inl rfl
  | _ :: _, [], _ => Or.inr rfl
  | x :: a, y :: b, h => by
    unfold Op.bytesLess
    simp only [Bool.or_eq_true, decide_eq_true_eq, Bool.and_eq_true, beq_iff_eq]
    by_cases e : x = y
    · subst e
      have hne : a ≠ b := fun e => h (by rw [e])
      rcases bl_tot a b hne with k | k
      · exact Or.inl (Or.inr ⟨rfl, k⟩)
      · exact Or.inr (Or.inr ⟨rfl, k⟩)
    · rcases UInt8.lt_or_lt_of_ne e with k | k
      · exact Or.inl (Or.inl k)
      · exact Or.inr (Or.inl k)
theorem bytes_ext {a b : ByteArray} (h : a.toList = b.toList) : a = b := by
  rw [ByteArray.toList_eq, ByteArray.toList_eq] at h
  exact ByteArray.ext (Array.ext' h)
/-- Words in their order. -/
def ltS (a b : ByteArray) : Bool := Op.bytesLess a.toList b.toList
theorem ltS_irr (a : ByteArray) : ltS a a = false := bl_irr _
theorem ltS_tr {a b c : ByteArray} (h : ltS a b = true) (k : ltS b c = true) : ltS a c = true := bl_tr _ _ _ h k
theorem ltS_tot {a b : ByteArray} (h : a ≠ b) : ltS a b = true ∨ ltS b a = true := bl_tot _ _ (fun e => h (bytes_ext e))
theorem ltS_anti {a b : ByteArray} (h : ltS a b = true) : ltS b a = false := by
  cases k : ltS b a with
  | false => rfl
  | true => have := ltS_tr h k; rw [ltS_irr] at this; cases this
/-- Facts in their order. -/
def ltT (a b : Tri) : Bool := if a.S = b.S then (if a.P = b.P then ltS a.O b.O else ltS a.P b.P) else ltS a.S b.S
theorem ltT_swh : SWh ltT where
  irr a := by simp [ltT, ltS_irr]
  tr a b c h1 h2 := by
    unfold ltT at h1 h2 ⊢
    by_cases e1 : a.S = b.S
    · rw [if_pos e1] at h1
      by_cases e2 : b.S = c.S
      · rw [if_pos e2] at h2
        rw [if_pos (e1.trans e2)]
        by_cases e3 : a.P = b.P
        · rw [if_pos e3] at h1
          by_cases e4 : b.P = c.P
          · rw [if_pos e4] at h2
            rw [if_pos (e3.trans e4)]
            exact ltS_tr h1 h2
          · rw [if_neg e4] at h2
            rw [if_neg (fun e => e4 (e3.symm.trans e)), e3]
            exact h2
        · rw [if_neg e3] at h1
          by_cases e4 : b.P = c.P
          · rw [if_neg (fun e => e3 (e.trans e4.symm)), ← e4]
            exact h1
          · rw [if_neg e4] at h2
            have := ltS_tr h1 h2
            rw [if_neg (fun e => by rw [e, ltS_irr] at this; cases this)]
            exact this
      · rw [if_neg e2] at h2
        rw [if_neg (fun e => e2 (e1.symm.trans e)), e1]
        exact h2
    · rw [if_neg e1] at h1
      by_cases e2 : b.S = c.S
      · rw [if_neg (fun e => e1 (e.trans e2.symm)), ← e2]
        exact h1
      · rw [if_neg e2] at h2
        have := ltS_tr h1 h2
        rw [if_neg (fun e => by rw [e, ltS_irr] at this; cases this)]
        exact this
  tot a b h := by
    unfold ltT
    by_cases e1 : a.S = b.S
    · rw [if_pos e1, if_pos e1.symm]
      by_cases e2 : a.P = b.P
      · rw [if_pos e2, if_pos e2.symm]
        refine ltS_tot fun e3 => h ?_
        obtain ⟨s, p, o⟩ := a
        obtain ⟨s', p', o'⟩ := b
        simp only at e1 e2 e3
        rw [e1, e2, e3]
      · rw [if_neg e2, if_neg (fun e => e2 e.symm)]
        exact ltS_tot e2
    · rw [if_neg e1, if_neg (fun e => e1 e.symm)]
      exact ltS_tot e1
/-- cmp.Compare at words. -/
def cmpS (a b : ByteArray) : Int := if ltS a b = true then -1 else if a = b then 0 else 1
theorem cmpS_neg (a b : ByteArray) : cmpS a b < 0 ↔ ltS a b = true := by
  unfold cmpS
  split
  · simp_all
  · split <;> simp_all
theorem dec_ltS (a b : ByteArray) : decide (cmpS a b < 0) = ltS a b := by
  have h := cmpS_neg a b
  cases k : ltS a b with
  | true => exact decide_eq_true (h.2 k)
  | false => exact decide_eq_false (fun e => by have := h.1 e; rw [k] at this; cases this)
theorem cmpS_zero (a b : ByteArray) : cmpS a b = 0 ↔ a = b := by
  unfold cmpS
  split
  · rename_i h
    refine ⟨fun e => absurd e (by omega), fun e => ?_⟩
    rw [e, ltS_irr] at h
    cases h
  · split <;> simp_all
/-- The comparison of facts. -/
def cmpT (a b : Tri) : Int := if cmpS a.S b.S = 0 then (if cmpS a.P b.P = 0 then cmpS a.O b.O else cmpS a.P b.P) else cmpS a.S b.S
theorem cmpT_neg (a b : Tri) : decide (cmpT a b < 0) = ltT a b := by
  unfold cmpT ltT
  by_cases e1 : a.S = b.S
  · rw [if_pos ((cmpS_zero _ _).2 e1), if_pos e1]
    by_cases e2 : a.P = b.P
    · rw [if_pos ((cmpS_zero _ _).2 e2), if_pos e2]
      exact dec_ltS a.O b.O
    · rw [if_neg (fun e => e2 ((cmpS_zero _ _).1 e)), if_neg e2]
      exact dec_ltS a.P b.P
  · rw [if_neg (fun e => e1 ((cmpS_zero _ _).1 e)), if_neg e1]
    exact dec_ltS a.S b.S

/-! ### Versions -/
/-- What batches make of a map of facts, and of the list of what is there. -/
def allF (log : List (List Cng)) : Tri → Option Bool := log.foldl doesF (fun _ => none)
def allL (log : List (List Cng)) : List Tri := log.foldl doesL []
/-- .. and of facts that rise. -/
def verL (log : List (List Cng)) : List Tri := log.foldl (doneR ltT) []
theorem allF_snoc (log : List (List Cng)) (l : List Cng) : allF (log ++ [l]) = doesF (allF log) l := by unfold allF; rw [List.foldl_append]; rfl
theorem allL_snoc (log : List (List Cng)) (l : List Cng) : allL (log ++ [l]) = doesL (allL log) l := by unfold allL; rw [List.foldl_append]; rfl
theorem verL_snoc (log : List (List Cng)) (l : List Cng) : verL (log ++ [l]) = doneR ltT (verL log) l := by unfold verL; rw [List.foldl_append]; rfl
theorem ver_from : ∀ (log : List (List Cng)) (L D : List Tri), Rises ltT D → L.Nodup → (∀ x, x ∈ L ↔ x ∈ D) → Rises ltT (log.foldl (doneR ltT) D) ∧ (log.foldl doesL L).Nodup ∧ ∀ x, x ∈ log.foldl doesL L ↔ x ∈ log.foldl (doneR ltT) D
  | [], _, _, h1, h2, h3 => ⟨h1, h2, h3⟩
  | l :: r, L, D, h1, h2, h3 => by
    have h := doneR_ok ltT_swh l h1 h3
    exact ver_from r (doesL L l) (doneR ltT D l) h.1 (doesL_nodup l L h2) h.2
theorem ver_ok (log : List (List Cng)) : Rises ltT (verL log) ∧ (allL log).Nodup ∧ ∀ x, x ∈ allL log ↔ x ∈ verL log :=
  ver_from log [] [] List.Pairwise.nil List.nodup_nil (fun _ => Iff.rfl)
theorem ver_perm (log : List (List Cng)) : (allL log).Perm (verL log) := perm_of_mem (ver_ok log).2.1 ((ver_ok log).1.nodup ltT_swh) (ver_ok log).2.2
theorem ver_len (log : List (List Cng)) : (allL log).length = (verL log).length := (ver_perm log).length_eq
theorem doesF_true : ∀ (l : List Cng) (f : Tri → Option Bool), (∀ x v, f x = some v → v = true) → ∀ x v, doesF f l x = some v → v = true
  | [], _, h => h
  | c :: r, f, h => by
    refine doesF_true r (upd f c.T (if c.gone then none else some true)) fun x v => ?_
    unfold upd
    by_cases e : x = c.T
    · rw [if_pos e]
      cases c.gone
      · intro e; exact (Option.some.inj e).symm
      · intro e; cases e
    · rw [if_neg e]
      exact h x v
theorem allF_from : ∀ (log : List (List Cng)) (f : Tri → Option Bool), (∀ x v, f x = some v → v = true) → ∀ x v, log.foldl doesF f x = some v → v = true
  | [], _, h => h
  | l :: r, f, h => allF_from r (doesF f l) (doesF_true l f h)
theorem allF_true (log : List (List Cng)) : ∀ x v, allF log x = some v → v = true := allF_from log _ (fun x v h => by cases h)
/-- A batch may be done behind a log. -/
def May (l : List Cng) : Prop := l.length ≤ 64 ∧ l.any (fun c => !isT c.T) = false
/-- A log that has come to be by batches. -/
structure Good (log : List (List Cng)) : Prop where
  may : ∀ l ∈ log, May l
  len : ∀ v, v ≤ log.length → (verL (log.take v)).length ≤ 4096
theorem Good.nil : Good [] := ⟨fun l h => absurd h (by simp), fun v _ => by simp [verL]⟩
theorem Good.snoc {log : List (List Cng)} {l : List Cng} (h : Good log) (hm : May l) (hl : (doesL (allL log) l).length ≤ 4096) : Good (log ++ [l]) := by
  refine ⟨fun x hx => ?_, fun v hv => ?_⟩
  · rcases List.mem_append.1 hx with hx | hx
    · exact h.may x hx
    · rw [List.mem_singleton.1 hx]; exact hm
  · rw [List.length_append, List.length_singleton] at hv
    by_cases e : v ≤ log.length
    · rw [List.take_append_of_le_length e]
      exact h.len v e
    · rw [List.take_of_length_le (by rw [List.length_append, List.length_singleton]; omega), ← ver_len, allL_snoc]
      exact hl
theorem Good.now {log : List (List Cng)} (h : Good log) : (allL log).length ≤ 4096 := by
  have := h.len log.length (Nat.le_refl _)
  rwa [List.take_length, ← ver_len] at this
theorem doneR_word : ∀ (l : List Cng) (D : List Tri), l.any (fun c => !isT c.T) = false → (∀ x ∈ D, isT x = true) → ∀ x ∈ doneR ltT D l, isT x = true
  | [], _, _, h => h
  | c :: r, D, ha, h => by
    have ha' := List.any_eq_false.1 ha
    refine doneR_word r (if c.gone then dropR D c.T else putR ltT D c.T) (List.any_eq_false.2 fun x hx => ha' x (List.mem_cons_of_mem _ hx)) fun x hx => ?_
    split at hx
    · exact h x (List.mem_filter.1 hx).1
    · rcases mem_putR.1 hx with e | e
      · have := ha' c List.mem_cons_self
        rw [e]
        simpa using this
      · exact h x e
theorem ver_word_from : ∀ (log : List (List Cng)) (D : List Tri), (∀ l ∈ log, May l) → (∀ x ∈ D, isT x = true) → ∀ x ∈ log.foldl (doneR ltT) D, isT x = true
  | [], _, _, h => h
  | l :: r, D, hm, h => ver_word_from r (doneR ltT D l) (fun x hx => hm x (List.mem_cons_of_mem _ hx)) (doneR_word l D (hm l List.mem_cons_self).2 h)
theorem Good.word {log : List (List Cng)} (h : Good log) (v : Nat) : ∀ x ∈ verL (log.take v), isT x = true :=
  ver_word_from (log.take v) [] (fun l hl => h.may l (List.mem_of_mem_take hl)) (fun x hx => absurd hx (by simp))
end Go.Proofs.YtcnffgcegimelaaGreat.So
end
section
/-
  Whether a batch is of words: slices.ContainsFunc with store.check's literal. Conditions: the blocks lie as told.
-/
namespace Go.Proofs.YtcnffgcegimelaaGreat.So
open Go.RowKit Go.Shelf Go.Proofs.YtcnffgcegimelaaGreat.Mp Go.Proofs.YtcnffgcegimelaaGreat.Wd

def laysCf_ren : Go.Shelf.Ren := ⟨fun | 8 => 51 | 6 => 73 | n => n, fun | 0 => 0 | 3 => 3 | 4 => 4 | 22 => 28 | 23 => 40 | 25 => 100 | n => n, fun | n => n⟩
theorem laysCf : Go.Proofs.SlLaysH0.n8 Tryz.prog laysCf_ren := {
  mixed := by kernel_rfl
  f6 := ⟨Tryz.f73.name, by decide, Tryz.func73.trans (congrArg some (by kernel_rfl))⟩
  f8 := ⟨Tryz.f51.name, by decide, Tryz.func51.trans (congrArg some (by kernel_rfl))⟩
  t0 := Tryz.underlying0
  a0 := Tryz.isAgg0
  z0 := Tryz.sizeOf0
  v0 := Tryz.zeroValue0
  t3 := Tryz.underlying3
  a3 := Tryz.isAgg3
  z3 := Tryz.sizeOf3
  v3 := Tryz.zeroValue3
  t4 := Tryz.underlying4
  a4 := Tryz.isAgg4
  z4 := Tryz.sizeOf4
  v4 := Tryz.zeroValue4
  t22 := Tryz.underlying28
  a22 := Tryz.isAgg28
  z22 := Tryz.sizeOf28
  v22 := Tryz.zeroValue28
  t25 := Tryz.underlying100
  a25 := Tryz.isAgg100
  z25 := Tryz.sizeOf100
  v25 := Tryz.zeroValue100 }
set_option maxRecDepth 100000 in
set_option maxHeartbeats 1000000 in
theorem bad_ok (w : World) (c : Cng) : Calls Tryz.prog 52 #[.agg #[.bool c.gone, .string c.T.S, .string c.T.P, .string c.T.O]] w fun e w' => e = .returned (.bool (!isT c.T)) ∧ Below w.heap.size w w' := by
  obtain ⟨x, hx⟩ : ∃ x, isT c.T = x := ⟨_, rfl⟩
  have C := fun W => fact_ok W c.T
  rw [hx]
  simp only [hx] at C
  obtain ⟨gone, ⟨s, p, o⟩⟩ := c
  dsimp only
  simp only [Tri.val] at C
  clear hx
  go_enter Tryz.func52, Tryz.ntmps52
  go_wp2_with (go_at_call 53; refine (C _).mono ?_; rintro e w' ⟨rfl, hb⟩)
  go_ret
  exact ⟨rfl, ((Below.refl _ w).alloc (Nat.le_refl _) _).trans (hb.mono (by simp))⟩
theorem bad_at (w : World) : PredBelow Tryz.prog 52 #[] (fun c : Cng => .agg (encC c).toArray) (fun c => !isT c.T) w := fun W c hb =>
  (bad_ok W c).mono fun _e _w' ⟨h1, h2⟩ => ⟨h1, hb.trans (h2.mono hb.size)⟩
/-- ContainsFunc at a batch that is not nil. -/
theorem contains_ok {w : World} {s off cp : Nat} {l : List Cng} (hl : Cells w (some ⟨s, off, none⟩) l) (hs : s < w.heap.size) (hn : l.length ≤ 1000000) :
    Calls Tryz.prog 51 #[.slice (some ⟨s, off, none⟩) l.length cp, .func (.func 52) #[] #[]] w fun e w' => e = .returned (.bool (l.any (fun c => !isT c.T))) ∧ Below w.heap.size w w' := by
  have h := AnyQ.slices_ContainsFunc laysCf 4 (fun w => Tryz.isAgg40 w) (fun w => Tryz.sizeOf40 w) encC (fun _ => rfl) (fun c : Cng => !isT c.T) 52 #[] (enters_of Tryz.func52 (by kernel_rfl) rfl) s off l.length cp l w (bad_at w) (Nat.le_refl _) (by omega) hs (fun j hj i v hv => by
    have e : l[j]? = some l[j]! := by rw [getElem!_pos l j hj]; exact List.getElem?_eq_getElem hj
    obtain ⟨s', off', he, hc⟩ := hl j _ e
    have h1 : (⟨s, off, none⟩ : Addr) = ⟨s', off', none⟩ := Option.some.inj he
    injection h1 with h1 h2
    subst h1 h2
    exact hc i v hv)
  rw [List.take_length] at h
  exact h
end Go.Proofs.YtcnffgcegimelaaGreat.So
end
