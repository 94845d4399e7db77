/-
  The law of walks: what lies in memory in a round. Conditions: the blocks lie as told.
-/
import Derived.Test.YthapkpgkcckapaaPf6
namespace Go.Proofs.Ythapkpgkcckapaa.Pw
open Go.RowKit Go.Proofs.YthapkpgkcckapaaW.PrintWords Go.Proofs.Ythapkpgkcckapaa.Pm

/-- The document's walk that the law keeps, and the code's. -/
structure Wl (w0 w : World) (g X b c vb : Nat) (o : Ord) (L : List R3) (s : St) (A : Option Addr) (n lc : Nat) (av : Value) (r : RS) : Prop where
  at_ : At w0 w g X b c o L s
  lv : SlR w (.slice A n lc) L
  ai : SlI w av r.at_
  vbk : w.heap[vb]? = some (.cells #[.int .i64 o.x, .int .i64 o.y, .int .i64 o.z, .slice A n lc, av, .bool r.beh] 39)
  gv : g ≠ vb
  Xv : X ≠ vb
  bv : b ≠ vb
  lg : Value.ownBlock (.slice A n lc) ≠ some g
  lvv : Value.ownBlock (.slice A n lc) ≠ some vb
  ag : r.at_ ≠ [] → av.ownBlock ≠ some g
  avv : r.at_ ≠ [] → av.ownBlock ≠ some vb
  wv : w0.heap.size ≤ vb

theorem SlR.set {w w' : World} {A : Option Addr} {n c : Nat} {l : List R3} (h : SlR w (.slice A n c) l) {g : Nat} (hg : w.grownBy w' (some g)) (hne : Value.ownBlock (.slice A n c) ≠ some g) : SlR w' (.slice A n c) l :=
  h.grown hg (fun b off c' e e2 => by
    injection e with e3 _ _
    subst e3
    exact hne (by rw [← e2]; rfl))
theorem SlR.blk {w : World} {A : Option Addr} {n c : Nat} {l : List R3} (h : SlR w (.slice A n c) l) (g : Nat) (hg : Value.ownBlock (.slice A n c) = some g) : g < w.heap.size := by
  obtain ⟨A', c', hv, _, ⟨rfl, _⟩ | ⟨b, off, rfl, hb, _⟩⟩ := h
  · injection hv with e1 _ _
    subst e1
    cases hg
  · injection hv with e1 _ _
    subst e1
    have : b = g := Option.some.inj hg
    omega

section
variable {w0 w w' : World} {g X b c vb : Nat} {o : Ord} {L : List R3} {s s' : St} {A : Option Addr} {n lc : Nat} {av : Value} {r : RS}
theorem Wl.vs (h : Wl w0 w g X b c vb o L s A n lc av r) : vb < w.heap.size := (Array.getElem?_eq_some_iff.1 h.vbk).1
theorem Wl.walk (h : Wl w0 w g X b c vb o L s A n lc av r) (ha : At w0 w' g X b c o L s') (hg : w.grownBy w' (some g)) : Wl w0 w' g X b c vb o L s' A n lc av r :=
  ⟨ha, h.lv.set hg h.lg, SlI.set h.ai hg h.ag, (hg.block vb h.vs (fun e => h.gv (Option.some.inj e).symm)).trans h.vbk, h.gv, h.Xv, h.bv, h.lg, h.lvv, h.ag, h.avv, h.wv⟩
theorem Wl.more (h : Wl w0 w g X b c vb o L s A n lc av r) (hb : Below w.heap.size w w') : Wl w0 w' g X b c vb o L s A n lc av r :=
  ⟨h.at_.more hb, h.lv.below hb, h.ai.below hb, (hb.block vb h.vs).trans h.vbk, h.gv, h.Xv, h.bv, h.lg, h.lvv, h.ag, h.avv, h.wv⟩
/-- Behind what changed a block apart from all. -/
theorem Wl.other (h : Wl w0 w g X b c vb o L s A n lc av r) {q : Nat} (hg : w.grownBy w' (some q)) (hw : w0.heap.size ≤ q) (h1 : g ≠ q) (h2 : X ≠ q) (h3 : b ≠ q) (h4 : vb ≠ q) (h5 : Value.ownBlock (.slice A n lc) ≠ some q) (h6 : r.at_ ≠ [] → av.ownBlock ≠ some q) : Wl w0 w' g X b c vb o L s A n lc av r :=
  ⟨h.at_.other hg hw h1 h2 h3, h.lv.set hg h5, SlI.set h.ai hg h6, (hg.block vb h.vs (fun e => h4 (Option.some.inj e))).trans h.vbk, h.gv, h.Xv, h.bv, h.lg, h.lvv, h.ag, h.avv, h.wv⟩
/-- The document's walk, kept anew. -/
theorem Wl.put {av' : Value} {r' : RS} (h : Wl w0 w g X b c vb o L s A n lc av r) (ha : SlI w av' r'.at_) (h1 : r'.at_ ≠ [] → av'.ownBlock ≠ some g) (h2 : r'.at_ ≠ [] → av'.ownBlock ≠ some vb) {q0 q1 q2 : Int} {q3 : Value} (e0 : q0 = o.x) (e1 : q1 = o.y) (e2 : q2 = o.z) (e3 : q3 = .slice A n lc) :
    Wl w0 ((((((w.setCell ⟨vb, 0, none⟩ (.int .i64 q0)).setCell ⟨vb, 1, none⟩ (.int .i64 q1)).setCell ⟨vb, 2, none⟩ (.int .i64 q2)).setCell ⟨vb, 3, none⟩ q3).setCell ⟨vb, 4, none⟩ av').setCell ⟨vb, 5, none⟩ (.bool r'.beh)) g X b c vb o L s A n lc av' r' := by
  subst e0 e1 e2 e3
  have hg := grown_set6 w vb (.int .i64 o.x) (.int .i64 o.y) (.int .i64 o.z) (.slice A n lc) av' (.bool r'.beh)
  refine ⟨h.at_.other hg h.wv h.gv h.Xv h.bv, h.lv.set hg h.lvv, SlI.set ha hg h2, ?_, h.gv, h.Xv, h.bv, h.lg, h.lvv, h1, h2, h.wv⟩
  exact (heap_set _ vb 5 _ _ _ ((heap_set _ vb 4 _ _ _ ((heap_set _ vb 3 _ _ _ ((heap_set _ vb 2 _ _ _ ((heap_set _ vb 1 _ _ _ ((heap_set _ vb 0 _ _ _ h.vbk).trans rfl)).trans rfl)).trans rfl)).trans rfl)).trans rfl)).trans rfl
end

/-- A slice of steps. -/
def encS (x : Int × Int) : List Value := [.int .i64 x.1, .int .i64 x.2]
theorem encS_len (x : Int × Int) : (encS x).length = 2 := rfl
abbrev SlS (w : World) (v : Value) (l : List (Int × Int)) : Prop := G.SlL w encS v l
theorem SlS.cell {w : World} {A : Option Addr} {p c : Nat} {l : List (Int × Int)} (h : SlS w (.slice A p c) l) (i : Nat) (hi : i < p) : ∃ b off x y, A = some ⟨b, off, none⟩ ∧ b < w.heap.size ∧ w.cell? ⟨b, off + i * 2, none⟩ = some (.int .i64 x) ∧ w.cell? ⟨b, off + i * 2 + 1, none⟩ = some (.int .i64 y) := by
  have hl : l.length = p := by
    obtain ⟨A', c', hv, _⟩ := h
    injection hv with _ e _
    exact e.symm
  obtain ⟨b, off, c', hv, hb, hcl⟩ := G.SlL.at_ h encS_len i (l.getD i (0, 0)) (by rw [List.getD_eq_getElem?_getD, List.getElem?_eq_getElem (by omega)]; rfl)
  injection hv with e1 e2 e3
  subst e1
  have c0 := hcl 0 _ rfl
  rw [Nat.add_zero] at c0
  exact ⟨b, off, _, _, rfl, hb, c0, hcl 1 _ rfl⟩

/-- What a call of the document's walk leaves. -/
def Ro (o : Ord) (A : Option Addr) (n lc : Nat) (w : World) (r : RS) (av : Value) (r' : RS) (k : Int) (e : Ending) (w' : World) : Prop :=
  ∃ B m d, e = .returned (.tuple #[V o (.slice A n lc) (.slice B m d) r'.beh, .int .i64 k]) ∧ r'.at_.length = m ∧ SlI w' (.slice B m d) r'.at_ ∧ Below w.heap.size w w' ∧ (r'.at_ ≠ [] → ∀ g, Value.ownBlock (.slice B m d) = some g → w.heap.size ≤ g ∨ (r.at_ ≠ [] ∧ av.ownBlock = some g))

section
variable {w : World} {o : Ord} {L : List R3} {A : Option Addr} {n lc : Nat} {av : Value} {r r' : RS} {k : Int}
theorem ro_of {e : Ending} {w' : World} {av' : Value} (he : e = .returned (.tuple #[V o (.slice A n lc) av' r'.beh, .int .i64 k])) (hs : SlI w' av' r'.at_) (hb : Below w.heap.size w w') (hf : r'.at_ ≠ [] → ∀ g, av'.ownBlock = some g → w.heap.size ≤ g ∨ (r.at_ ≠ [] ∧ av.ownBlock = some g)) : Ro o A n lc w r av r' k e w' := by
  obtain ⟨B, d, rfl⟩ := SlI.form hs
  exact ⟨B, _, d, he, rfl, hs, hb, hf⟩
theorem ro_up (ha : SlI w av r.at_) (hl : r.at_.length ≤ 3) (hk : rUp r = (r', k)) : Calls Try.prog 18 #[V o (.slice A n lc) av r.beh] w (Ro o A n lc w r av r' k) :=
  (rup_calls w o A n lc av r r' k hk ha hl).mono fun _ _ ⟨av', he, hs, hb, hf⟩ => ro_of he hs hb (fun hx g hg => (hf g hg).imp id fun e => ⟨fun e0 => by
    unfold rUp at hk
    rw [if_pos (by rw [e0]; rfl)] at hk
    injection hk with e1 _
    rw [← e1] at hx
    exact hx e0, e⟩)
theorem ro_open (ho : Six o) (hn : L.length = n) (hv : SlR w (.slice A n lc) L) (hl : n ≤ 100) (ha : SlI w av r.at_) (hl3 : r.at_.length ≤ 3) (hk : rOpen L o r = (r', k)) (hp : k = 0 → 0 < (lvl L o r.at_).length) : Calls Try.prog 16 #[V o (.slice A n lc) av r.beh] w (Ro o A n lc w r av r' k) :=
  (ropen_calls w o ho A n lc L hn hv hl av r r' k hk hp ha hl3).mono fun _ _ ⟨av', he, hs, hb, hf, hz⟩ => ro_of he hs hb (fun hx g hg => by
    unfold rOpen at hk
    split at hk
    · injection hk with e1 e2
      rw [← e1] at hx
      exact (hf g hg).imp id fun e => ⟨hx, e⟩
    · injection hk with e1 e2
      exact .inl (hz e2.symm g hg))
theorem rseek_nil {x : Int} (hk : rSeek L o r x = (r', k)) (hx : r'.at_ ≠ []) : r.at_ ≠ [] := fun e0 => by
  unfold rSeek rKey at hk
  have e2 : (if r.at_.length = 0 ∨ r.beh = true then ((0 : Int), false) else (r.at_.getD (r.at_.length - 1) 0, true)) = (0, false) := if_pos (Or.inl (by rw [e0]; rfl))
  rw [e2, if_pos rfl] at hk
  injection hk with e1 _
  rw [← e1] at hx
  exact hx e0
theorem rnext_nil (hk : rNext L o r = (r', k)) (hx : r'.at_ ≠ []) : r.at_ ≠ [] := fun e0 => by
  unfold rNext rKey at hk
  have e2 : (if r.at_.length = 0 ∨ r.beh = true then ((0 : Int), false) else (r.at_.getD (r.at_.length - 1) 0, true)) = (0, false) := if_pos (Or.inl (by rw [e0]; rfl))
  rw [e2, if_pos rfl] at hk
  injection hk with e1 _
  rw [← e1] at hx
  exact hx e0
theorem ro_seek (ho : Six o) (hn : L.length = n) (hv : SlR w (.slice A n lc) L) (hl : n ≤ 100) (ha : SlI w av r.at_) (hl3 : r.at_.length ≤ 3) {x : Int} (hk : rSeek L o r x = (r', k)) : Calls Try.prog 22 #[V o (.slice A n lc) av r.beh, .int .i64 x] w (Ro o A n lc w r av r' k) :=
  (rseek_calls w o ho A n lc L hn hv hl av r r' x k hk ha hl3).mono fun _ _ ⟨av', he, hs, hb, hf⟩ => ro_of he hs hb (fun hx g hg => (hf g hg).imp id fun e => ⟨rseek_nil hk hx, e⟩)
theorem ro_next (ho : Six o) (hn : L.length = n) (hv : SlR w (.slice A n lc) L) (hl : n ≤ 100) (ha : SlI w av r.at_) (hl3 : r.at_.length ≤ 3) (hk : rNext L o r = (r', k)) (hq : In64 (rKey r).1) : Calls Try.prog 20 #[V o (.slice A n lc) av r.beh] w (Ro o A n lc w r av r' k) :=
  (rnext_calls w o ho A n lc L hn hv hl av r r' k hk hq ha hl3).mono fun _ _ ⟨av', he, hs, hb, hf⟩ => ro_of he hs hb (fun hx g hg => (hf g hg).imp id fun e => ⟨rnext_nil hk hx, e⟩)
end
end Go.Proofs.Ythapkpgkcckapaa.Pw
