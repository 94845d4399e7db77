/-
  Match at any version, and what lies behind a store's steps. Conditions: the store lies as told.
-/
import Derived.Test.YtcnffgcegimelaaGreatSy1
import Derived.Test.YtcnffgcegimelaaGreatWEqStruct
namespace Go.Proofs.YtcnffgcegimelaaGreat.So
open Go.RowKit Go.Proofs.YtcnffgcegimelaaGreat.Mp Go.Proofs.YtcnffgcegimelaaGreat.Wd Go.Proofs.YtcnffgcegimelaaGreat.Pm Go.Proofs.YtcnffgcegimelaaGreat.Pw Go.Proofs.YtcnffgcegimelaaGreatW.PrintWords

theorem match_ok {w0 : Nat} {w : World} {k : SW} {s : SS} (h : Sto w0 w k s) (n : Int) (hlog : s.log.length ≤ 4000) (a b c : ByteArray) (hsz : a.size ≤ maxLen ∧ b.size ≤ maxLen ∧ c.size ≤ maxLen) :
    Calls Tryz.prog 18 #[.pointer (some ⟨k.p, 0, none⟩), .int .i64 n, .agg #[.string a, .string b, .string c]] w (MatchPost w0 w k s n ⟨a, b, c⟩) := by
  by_cases h0 : n < 0
  · exact match_below h n a b c h0
  · by_cases h1 : (s.log.length : Int) < n
    · exact match_above h n a b c h1
    · obtain ⟨m, rfl⟩ := Int.eq_ofNat_of_zero_le (by omega : 0 ≤ n)
      exact match_in h m (by omega) hlog a b c hsz
theorem sl_block {α : Type} {w : World} {b n : Nat} {cs : Array Value} {t : TypeId} (enc : α → List Value) (xs : List α) (h : w.heap[b]? = some (.cells cs t (0, 0))) (hn : xs.length = n) (hcs : cs.toList = xs.flatMap enc) : G.SlL w enc (.slice (some ⟨b, 0, none⟩) n n) xs := by
  subst hn
  refine ⟨some ⟨b, 0, none⟩, xs.length, rfl, Nat.le_refl _, (fun h => nomatch h), fun _ => ⟨b, 0, rfl, (Array.getElem?_eq_some_iff.1 h).1, fun j u hu => ?_⟩⟩
  rw [← hcs] at hu
  simp only [World.cell?, h]
  simpa using hu
/-- A slice that lies where the store is not. -/
structure Held {α : Type} (w : World) (k : SW) (enc : α → List Value) (v : Value) (xs : List α) : Prop where
  sl : G.SlL w enc v xs
  out : ∀ b off n c, v = .slice (some ⟨b, off, none⟩) n c → n ≠ 0 → b < w.heap.size ∧ 7 ≤ k.col b
section
variable {α : Type} {enc : α → List Value} {w0 : Nat} {w w' : World} {k k' : SW} {v : Value} {xs : List α}
theorem Held.fgn (h : Held w k enc v xs) : Fgn k v := fun b off n c e en => (h.out b off n c e en).2
theorem Held.step (h : Held w k enc v xs) (g : StepS w k w' k') : Held w' k' enc v xs :=
  ⟨sl_chg2 h.sl g.chg (fun b off n c e en hb => by have := (h.out b off n c e en).2; omega), fun b off n c e en => by
    obtain ⟨h1, h2⟩ := h.out b off n c e en
    exact ⟨Nat.lt_of_lt_of_le h1 g.chg.size, by rw [g.col b h1]; exact h2⟩⟩
theorem Held.below (h : Held w k enc v xs) (b : Below w.heap.size w w') : Held w' (k.far w) enc v xs := h.step (StepS.below b)
/-- What was there ahead of the store. -/
theorem Held.old {s : SS} (hS : Sto w0 w k s) {W : World} (hv : G.SlL W enc v xs) (hin : ∀ b off n c, v = .slice (some ⟨b, off, none⟩) n c → n ≠ 0 → b < W.heap.size) (hW : W.heap.size ≤ w0) (c : Below W.heap.size W w) : Held w k enc v xs := by
  refine ⟨sl_chg hv (Chg.of_below (fun _ => False) c) (fun _ _ _ _ _ e => e), fun b off n c2 e en => ?_⟩
  have h1 := hin b off n c2 e en
  refine ⟨Nat.lt_of_lt_of_le h1 c.size, ?_⟩
  by_cases h7 : k.col b < 7
  · have := hS.lo b h7; omega
  · omega
end
/-- What a call has made. -/
theorem Held.new_ {w w' : World} {k' : SW} {v : Value} {xs : List Tri} (h : Out3 w.heap.size w' v xs) (h8 : ∀ g, v.ownBlock = some g → 7 ≤ k'.col g) : Held w' k' encT v xs := by
  refine ⟨h.1, fun b off n c e _ => ?_⟩
  rcases h.2 with e2 | ⟨g, cap, e2, e3, e4⟩
  · rw [e] at e2; cases e2
  · rw [e] at e2
    have : b = g := by injection e2 with e5; injection e5 with e6; injection e6
    subst this
    exact ⟨e4, h8 b (by rw [e]; rfl)⟩
/-- Facts: the store as it was. -/
theorem facts_any {w0 : Nat} {w : World} {k : SW} {s : SS} (h : Sto w0 w k s) (n : Int) (hlog : s.log.length ≤ 4000) :
    Calls Tryz.prog 13 #[.pointer (some ⟨k.p, 0, none⟩), .int .i64 n] w fun e w' => ∃ v, e = .returned (.tuple #[v, .int .i64 (factsE s.log.length n)]) ∧ Sto w0 w' (k.far w) s ∧ StepS w k w' (k.far w) ∧ Held w' (k.far w) encT v (factsL s.log n) := by
  refine (facts_ok h n hlog).mono ?_
  rintro e w' ⟨v, rfl, ho, hb⟩
  refine ⟨v, rfl, h.below hb, StepS.below hb, Held.new_ ho fun g hg => ?_⟩
  rcases ho.2 with e2 | ⟨g2, cap, e2, e3, e4⟩
  · rw [e2] at hg; cases hg
  · rw [e2] at hg
    have : g2 = g := by injection hg
    subst this
    show 7 ≤ (if g2 < w.heap.size then k.col g2 else 8)
    rw [if_neg (by omega)]; omega
/-- Match, likewise. -/
theorem match_any {w0 : Nat} {w : World} {k : SW} {s : SS} (h : Sto w0 w k s) (n : Int) (hlog : s.log.length ≤ 4000) (a b c : ByteArray) (hsz : a.size ≤ maxLen ∧ b.size ≤ maxLen ∧ c.size ≤ maxLen) :
    Calls Tryz.prog 18 #[.pointer (some ⟨k.p, 0, none⟩), .int .i64 n, .agg #[.string a, .string b, .string c]] w fun e w' => ∃ v k' s', e = .returned (.tuple #[v, .int .i64 (factsE s.log.length n)]) ∧ Sto w0 w' k' s' ∧ s'.log = s.log ∧ k'.p = k.p ∧ StepS w k w' k' ∧ Held w' k' encT v (matchL s.log n ⟨a, b, c⟩) := by
  refine (match_ok h n hlog a b c hsz).mono ?_
  rintro e w' ⟨v, k', s', rfl, h1, h2, h3, h4, ho, h8⟩
  exact ⟨v, k', s', rfl, h1, h2, h3, h4, Held.new_ ho fun g hg => by rw [h8 g hg]; omega⟩
/-- Apply of any batch. -/
theorem apply_any {w0 : Nat} {w : World} {k : SW} {s : SS} (h : Sto w0 w k s) (n : Int) {v : Value} {l : List Cng} (hv : Held w k encC v l) (hlog : s.log.length ≤ 4000) :
    Calls Tryz.prog 12 #[.pointer (some ⟨k.p, 0, none⟩), .int .i64 n, v] w (ApplyPost w0 w k s n l) := by
  by_cases hll : l.length ≤ 1000000
  · exact apply_ok h n hv.sl hv.fgn hlog hll
  · obtain ⟨A, cp, rfl, _⟩ := id hv.sl
    obtain ⟨q0, q1, q2, q3⟩ := h.cells
    have hC := check_long w k.p cp l.length A (by omega)
    have G0 := fun W (e : W.cell? ⟨k.p, 0, none⟩ = some (.map (some k.bn))) => given_sto W k.p (some k.bn) e
    have HE := Lib.hid (show applyE (allL s.log) s.log.length n l = 1 by unfold applyE chkE; rw [if_pos (by rw [if_pos (Or.inl (by omega))])])
    have H := Lib.hid h
    clear h hv hll
    go_enter Tryz.func12, Tryz.ntmps12
    go_wp2_with (first | (go_at_call 31; refine (G0 _ q0).mono ?_; rintro e w' ⟨rfl, rfl⟩) | (go_at_call 32; refine hC.mono ?_; rintro e w1 ⟨rfl, rfl⟩))
    go_ret
    exact post_no H.out (Below.refl _ _) HE.out (by decide)
/-! ### What a law sees of a store -/
structure At (p w0 : Nat) (w : World) (k : SW) (log : List (List Cng)) : Prop where
  kp : k.p = p
  sto : ∃ s, Sto w0 w k s ∧ s.log = log
section
variable {p w0 : Nat} {w w' : World} {k : SW} {log : List (List Cng)}
theorem At.far (h : At p w0 w k log) {D : Nat → Prop} (c : Chg D w w') (hD : ∀ i, i < w.heap.size → D i → k.col i = 8) : At p w0 w' (k.far w) log := by
  obtain ⟨h1, s, h2, h3⟩ := h
  exact ⟨h1, s, h2.far c hD, h3⟩
theorem At.below (h : At p w0 w k log) (c : Below w.heap.size w w') : At p w0 w' (k.far w) log := h.far (Chg.of_below (fun _ => False) c) (fun _ _ e => e.elim)
theorem At.since {k' : SW} (h : At p w0 w k log) (g : StepS w k w' k') {W : World} (hW : Below W.heap.size W w) (hw : W.heap.size ≤ w0) : Below W.heap.size W w' := by
  obtain ⟨h1, s, h2, h3⟩ := h
  exact g.since h2 hW hw
theorem new_law (w : World) : Calls Tryz.prog 11 #[] w fun e w' => ∃ p k, e = .returned (.pointer (some ⟨p, 0, none⟩)) ∧ At p w.heap.size w' k [] ∧ Below w.heap.size w w' :=
  (new_sto w).mono fun e w' ⟨h1, h2, h3⟩ => ⟨_, newK w, h1, ⟨rfl, newS, h2, rfl⟩, h3⟩
/-- The log behind a batch. -/
def logA (log : List (List Cng)) (n : Int) (l : List Cng) : List (List Cng) := if applyE (allL log) log.length n l = 0 then log ++ [l] else log
theorem apply_law (h : At p w0 w k log) (n : Int) {v : Value} {l : List Cng} (hv : Held w k encC v l) (hlog : log.length ≤ 4000) {r : Int} (hr : applyE (allL log) log.length n l = r) {log' : List (List Cng)} (hl : logA log n l = log') :
    Calls Tryz.prog 12 #[.pointer (some ⟨p, 0, none⟩), .int .i64 n, v] w fun e w' => ∃ k', e = .returned (.int .i64 r) ∧ At p w0 w' k' log' ∧ StepS w k w' k' := by
  obtain ⟨rfl, s, h2, rfl⟩ := h
  refine (apply_any h2 n hv hlog).mono ?_
  rintro e w' ⟨rfl, k', h3, h4, h5⟩
  refine ⟨k', by rw [hr], ⟨h3, _, h4, ?_⟩, h5⟩
  rw [← hl]
  unfold logA
  split <;> rfl
theorem facts_law (h : At p w0 w k log) (n : Int) (hlog : log.length ≤ 4000) {r : Int} (hr : factsE log.length n = r) {D : List Tri} (hD : factsL log n = D) :
    Calls Tryz.prog 13 #[.pointer (some ⟨p, 0, none⟩), .int .i64 n] w fun e w' => ∃ A c k', e = .returned (.tuple #[.slice A D.length c, .int .i64 r]) ∧ At p w0 w' k' log ∧ StepS w k w' k' ∧ Held w' k' encT (.slice A D.length c) D := by
  obtain ⟨rfl, s, h2, rfl⟩ := h
  subst hr hD
  refine (facts_any h2 n hlog).mono ?_
  rintro e w' ⟨v, rfl, h3, h4, h5⟩
  obtain ⟨A, c, rfl, _⟩ := id h5.sl
  exact ⟨A, c, k.far w, rfl, ⟨rfl, s, h3, rfl⟩, h4, h5⟩
theorem match_law (h : At p w0 w k log) (n : Int) (a b c : ByteArray) (hsz : a.size ≤ maxLen ∧ b.size ≤ maxLen ∧ c.size ≤ maxLen) (hlog : log.length ≤ 4000) {r : Int} (hr : factsE log.length n = r) {D : List Tri} (hD : matchL log n ⟨a, b, c⟩ = D) :
    Calls Tryz.prog 18 #[.pointer (some ⟨p, 0, none⟩), .int .i64 n, .agg #[.string a, .string b, .string c]] w fun e w' => ∃ A c k', e = .returned (.tuple #[.slice A D.length c, .int .i64 r]) ∧ At p w0 w' k' log ∧ StepS w k w' k' ∧ Held w' k' encT (.slice A D.length c) D := by
  obtain ⟨rfl, s, h2, rfl⟩ := h
  subst hr hD
  refine (match_any h2 n hlog a b c hsz).mono ?_
  rintro e w' ⟨v, k', s', rfl, h3, h4, h5, h6, h7⟩
  obtain ⟨A, c, rfl, _⟩ := id h7.sl
  exact ⟨A, c, k', rfl, ⟨h5, s', h3, h4⟩, h6, h7⟩
theorem version_law (h : At p w0 w k log) : Calls Tryz.prog 16 #[.pointer (some ⟨p, 0, none⟩)] w fun e w' => e = .returned (.int .i64 log.length) ∧ w = w' := by
  obtain ⟨rfl, s, h2, rfl⟩ := h
  exact version_ok h2
theorem room_law (h : At p w0 w k log) {v : Value} {l : List Cng} (hv : G.SlL w encC v l) : Calls Tryz.prog 20 #[.pointer (some ⟨p, 0, none⟩), v] w fun e w' => e = .returned (.bool (decide (chkE (allL log) l = 0))) ∧ Below w.heap.size w w' := by
  obtain ⟨rfl, s, h2, rfl⟩ := h
  exact room_ok h2 hv
/-- A literal slice, made behind steps of the law's own. -/
theorem lit_law {α : Type} (enc : α → List Value) (xs : List α) {t : TypeId} {cs : Array Value} {n : Nat} {w3 : World} (h : At p w0 w k log) (hb : Below w.heap.size w w3) (hn : xs.length = n) (hcs : cs.toList = xs.flatMap enc) :
    At p w0 (w3.alloc (.cells cs t (0, 0))) (k.far w) log ∧ StepS w k (w3.alloc (.cells cs t (0, 0))) (k.far w) ∧ Held (w3.alloc (.cells cs t (0, 0))) (k.far w) enc (.slice (some ⟨w3.heap.size, 0, none⟩) n n) xs := by
  have b := hb.alloc hb.size (.cells cs t (0, 0))
  refine ⟨h.below b, StepS.below b, sl_block enc xs (heap_alloc_new w3 _) hn hcs, fun b off n c e _ => ?_⟩
  have h1 : w3.heap.size = b := by injection e with e5; injection e5 with e6; injection e6
  subst h1
  refine ⟨by rw [World.size_alloc]; omega, ?_⟩
  show 7 ≤ (if w3.heap.size < w.heap.size then k.col w3.heap.size else 8)
  rw [if_neg (by have := hb.size; omega)]; omega
theorem nil_law {α : Type} (enc : α → List Value) (w : World) (k : SW) : Held w k enc (.slice none 0 0) ([] : List α) := ⟨G.SlL.nil _ _, fun b off n c e _ => by cases e⟩
end
/-! ### Facts that are compared -/
theorem beq_bytes (a b : ByteArray) : (a.toList == b.toList) = decide (a = b) := by
  rw [← beq_toListBytes, Bool.eq_iff_iff, decide_eq_true_iff]
  obtain ⟨x⟩ := a
  obtain ⟨y⟩ := b
  show (x == y) = true ↔ _
  simp
theorem eqIn_tri (w : World) (a b c x y z : ByteArray) : (Op.equalIn 10000 35 (.agg #[.string a, .string b, .string c]) (.agg #[.string x, .string y, .string z])).run Tryz.prog w = .ok (decide ((⟨a, b, c⟩ : Tri) = ⟨x, y, z⟩)) w := by
  rw [show decide ((⟨a, b, c⟩ : Tri) = ⟨x, y, z⟩) = ((a.toList == x.toList) && ((b.toList == y.toList) && (c.toList == z.toList))) by
    rw [beq_bytes, beq_bytes, beq_bytes, Bool.eq_iff_iff]
    simp [Tri.mk.injEq]]
  refine eqA_of Tryz.underlying35 (by kernel_rfl) ?_
  refine eqf_cons (by rfl) (by go_simp; rfl) (by go_simp; rfl) (by go_simp) ?_
  refine eqf_cons (by rfl) (by go_simp; rfl) (by go_simp; rfl) (by go_simp) ?_
  exact eqf_last (by rfl) (by go_simp; rfl) (by go_simp; rfl) (by go_simp)
theorem eql_tri (w : World) (a b c x y z : ByteArray) : (binOp .eql 35 (.agg #[.string a, .string b, .string c]) (.agg #[.string x, .string y, .string z])).run Tryz.prog w = .ok (.bool (decide ((⟨a, b, c⟩ : Tri) = ⟨x, y, z⟩))) w := by
  rw [run_eql_struct, eqIn_tri]
  rfl
theorem neq_tri (w : World) (a b c x y z : ByteArray) : (binOp .neq 35 (.agg #[.string a, .string b, .string c]) (.agg #[.string x, .string y, .string z])).run Tryz.prog w = .ok (.bool (!decide ((⟨a, b, c⟩ : Tri) = ⟨x, y, z⟩))) w := by
  rw [run_neq_struct, eqIn_tri]
  rfl
end Go.Proofs.YtcnffgcegimelaaGreat.So
