/-
  What an argument of batches reads as; slices under steps; the document's Less. Conditions: none.
-/
import Derived.Test.YtcnffgcegimelaaGreatSr0
import Derived.Test.YtcnffgcegimelaaGreatSb0
import Derived.Shelf.Small.Wraps
import Derived.OpenShut
import Derived.BigQuiet
import Derived.Deep.QuietTactic
import Derived.Deep.RegionHeld3
namespace Go.Proofs.YtcnffgcegimelaaGreat.So
open Go.Deep Go.RowKit Go.Proofs.YtcnffgcegimelaaGreat.Mp Go.Proofs.YtcnffgcegimelaaGreat.Wd Go.Proofs.YtcnffgcegimelaaGreat.Pm Go.Proofs.YtcnffgcegimelaaGreat.Pw Go.Proofs.YtcnffgcegimelaaGreatW.PrintWords Go.WideShapes

/-- A slice, by its elements' own readings. -/
theorem sl_of {α : Type} [Inhabited α] {P : Program} {t e : TypeId} (enc : α → List Value) (k : Nat) (hk0 : 0 < k) (hu : P.underlying t = some (.slice e)) (hk : P.cellsOf e = k) (hlen : ∀ x, (enc x).length = k) (R : α → Prop) {H : Type} {en : TypeId × Value → H} {w : World} {base : Nat} {sp : Nat → Bool} {held : Bool}
    (hel : ∀ fuel cs y, DataW.trod en P w base sp held fuel e cs = some y → cs.length = k → ∃ a, cs = enc a ∧ R a) {fuel : Nat} {cs : List Value} {x : DataW H × List MemPlace}
    (h : DataW.trod en P w base sp held fuel t cs = some x) : ∃ v l, cs = [v] ∧ G.SlL w enc v l ∧ (∀ a ∈ l, R a) := by
  rcases open_slice hu h with ⟨rfl, _⟩ | ⟨a, n, c, m, k', D, Pl, rfl, _, hl, hm, hmm, rfl, hi⟩
  · exact ⟨_, [], rfl, G.SlL.nil w enc, by simp⟩
  · have hlm : n ≤ m := by rw [hmm]; split <;> omega
    rw [hk] at hi
    obtain ⟨f, hf2⟩ := choose_lt (n := n) (p := fun i z => w.cells? base (a.add (i * k)) k = some (enc z) ∧ R z) (fun i hin => by
      obtain ⟨cs', h1, h2⟩ := hi i (by omega)
      obtain ⟨_, hcl, _⟩ := World.cells?_some h1
      obtain ⟨z, rfl, hr⟩ := hel _ _ _ h2 hcl
      exact ⟨z, h1, hr⟩)
    obtain ⟨b, off, spot⟩ := a
    refine ⟨_, (List.range n).map f, rfl, ⟨some ⟨b, off, spot⟩, c, by simp, by simpa using hl, (fun h => nomatch h), fun hx => ?_⟩, fun z hz => ?_⟩
    · have hn0 : 0 < n := by
        rcases Nat.eq_zero_or_pos n with e0 | e0
        · exact absurd (by rw [e0]; rfl) hx
        · exact e0
      have h00 : w.cell? ⟨b, off, spot⟩ = (enc (f 0))[0]? := by
        obtain ⟨_, _, hcell⟩ := World.cells?_some (hf2 0 hn0).1
        have := hcell 0 hk0
        rw [Nat.zero_mul] at this
        exact this
      rw [List.getElem?_eq_getElem (by rw [hlen]; exact hk0)] at h00
      have hb := World.block_lt_of_cell? w _ h00
      obtain rfl : spot = none := by
        cases spot with
        | none => rfl
        | some s =>
          exfalso
          simp only [World.cell?] at h00
          split at h00
          · simp at h00
          · cases h00
      have hb0 : ∀ i, i < n → ∀ j, j < k → w.cell? ⟨b, off + i * k + j, none⟩ = (enc (f i))[j]? := fun i hin j hj => by
        obtain ⟨_, _, hcell⟩ := World.cells?_some (hf2 i hin).1
        have := hcell j hj
        rw [Addr.add_lit, Addr.add_lit] at this
        exact this
      refine ⟨b, off, rfl, hb, fun j u hu2 => ?_⟩
      have hj := (List.getElem?_eq_some_iff.1 hu2).1
      rw [G.flat_length k enc hlen, List.length_map, List.length_range] at hj
      have hjn : j / k < n := Nat.div_lt_of_lt_mul (by rwa [Nat.mul_comm] at hj)
      have hjm : j % k < k := Nat.mod_lt _ hk0
      have hd : j = j / k * k + j % k := by rw [Nat.mul_comm]; exact (Nat.div_add_mod j k).symm
      rw [hd, G.flat_getElem k enc hlen _ (j / k) (j % k) (f (j / k)) (by rw [List.getElem?_map, List.getElem?_range hjn]; rfl) hjm] at hu2
      have := hb0 (j / k) hjn (j % k) hjm
      rw [hu2] at this
      rwa [show off + j / k * k + j % k = off + j by omega] at this
    · obtain ⟨i, hin, rfl⟩ := List.mem_map.1 hz
      exact (hf2 i (List.mem_range.1 hin)).2
/-- A batch as it lies in a slice of batches. -/
structure BV where
  z : SV
  l : List Cng
deriving Inhabited
def encV (b : BV) : List Value := [b.z.val]
theorem encV_len (b : BV) : (encV b).length = 1 := rfl
/-- What a batch that comes in is. -/
def BIn (w : World) (b : BV) : Prop := G.SlL w encC b.z.val b.l ∧ b.z.n = b.l.length ∧ ∀ c ∈ b.l, FitT c.T
theorem cellsBt : Tryz.prog.cellsOf 28 = 1 := by kernel_rfl
set_option maxRecDepth 100000 in
/-- An argument of batches. -/
theorem arg_batches {H : Type} {en : TypeId × Value → H} {w : World} {base b0 : Nat} {sp : Nat → Bool} {held : Bool} {v : Value} {x : DataW H} {p : List MemPlace}
    (hv : Value.okWide Tryz.prog w .any b0 22 v) (h : DataW.Trod en Tryz.prog w base sp held 22 v x p) : ∃ l : List BV, G.SlL w encV v l ∧ ∀ b ∈ l, BIn w b := by
  obtain ⟨A, n, c, rfl⟩ := okWide_slice Tryz.underlying22 hv
  obtain ⟨fuel, hf⟩ := h
  obtain ⟨v2, l, hv2, h1, h2⟩ := sl_of encV 1 (by omega) Tryz.underlying22 cellsBt (fun _ => rfl) (fun b => BIn w b) (fun fuel cs y hy hl => by
    obtain ⟨v3, l3, rfl, h4, h5⟩ := sl_of encC 4 (by omega) Tryz.underlying28 cellsCng (fun _ => rfl) (fun c => FitT c.T) (fun fuel cs y hy hl => trod_cng hy hl) hy
    obtain ⟨A3, c3, rfl, _⟩ := id h4
    exact ⟨⟨⟨A3, l3.length, c3⟩, l3⟩, rfl, h4, rfl, h5⟩) hf
  simp only [Value.cells, List.cons.injEq, and_true] at hv2
  subst hv2
  exact ⟨l, h1, h2⟩
/-- A slice that is not empty lies in memory. -/
theorem sl_in {α : Type} {enc : α → List Value} {w : World} {v : Value} {xs : List α} (h : G.SlL w enc v xs) : ∀ b off n c, v = .slice (some ⟨b, off, none⟩) n c → n ≠ 0 → b < w.heap.size := by
  obtain ⟨A, c, rfl, _, _, hr⟩ := h
  intro b off n c' e hn
  injection e with e1 e2 e3
  subst e1 e2 e3
  obtain ⟨b', off', e4, h1, _⟩ := hr (fun e => hn (by rw [e]; rfl))
  cases e4
  exact h1
section
variable {α : Type} {enc : α → List Value} {p w0 : Nat} {w w' W : World} {k : SW} {v : Value} {xs : List α} {log : List (List Cng)}
/-- A slice of the law's, behind what changes other blocks. -/
theorem Held.chg {D : Nat → Prop} (h : Held w k enc v xs) (c : Chg D w w') (hD : ∀ b off n c, v = .slice (some ⟨b, off, none⟩) n c → n ≠ 0 → ¬ D b) : Held w' (k.far w) enc v xs :=
  ⟨sl_chg2 h.sl c hD, fun b off n c2 e en => by
    obtain ⟨h1, h2⟩ := h.out b off n c2 e en
    refine ⟨Nat.lt_of_lt_of_le h1 c.size, ?_⟩
    show 7 ≤ (if b < w.heap.size then k.col b else 8)
    rw [if_pos h1]; exact h2⟩
/-- A slice that was there ahead of the store. -/
theorem At.old (h : At p w0 w k log) (hv : G.SlL W enc v xs) (hW : W.heap.size ≤ w0) (c : Below W.heap.size W w) : Held w k enc v xs := by
  obtain ⟨_, s, h2, _⟩ := h
  exact Held.old h2 hv (sl_in hv) hW c
theorem facts_new (h : At p w0 w k log) (n : Int) (hlog : log.length ≤ 4000) {r : Int} (hr : factsE log.length n = r) {D : List Tri} (hD : factsL log n = D) :
    Calls Tryz.prog 13 #[.pointer (some ⟨p, 0, none⟩), .int .i64 n] w fun e w' => ∃ A c, e = .returned (.tuple #[.slice A D.length c, .int .i64 r]) ∧ At p w0 w' (k.far w) log ∧ Below w.heap.size w w' ∧ Held w' (k.far w) encT (.slice A D.length c) D ∧ ∀ b off, A = some ⟨b, off, none⟩ → w.heap.size ≤ b := by
  obtain ⟨rfl, s, h2, rfl⟩ := h
  subst hr hD
  refine (facts_ok h2 n hlog).mono ?_
  rintro e w' ⟨v, rfl, ho, hb⟩
  have hh := Held.new_ (k' := k.far w) ho fun g hg => by
    rcases ho.2 with e2 | ⟨g2, cap, e2, e3, e4⟩
    · rw [e2] at hg; cases hg
    · rw [e2] at hg
      have : g2 = g := by injection hg
      subst this
      show 7 ≤ (if g2 < w.heap.size then k.col g2 else 8)
      rw [if_neg (by omega)]; omega
  obtain ⟨A, c, rfl, _⟩ := id ho.1
  refine ⟨A, c, rfl, ⟨rfl, s, h2.below hb, rfl⟩, hb, hh, fun b off e => ?_⟩
  rcases ho.2 with e2 | ⟨g2, cap, e2, e3, _⟩
  · rw [e] at e2; cases e2
  · rw [e] at e2
    injection e2 with e5
    injection e5 with e6
    injection e6 with e7
    omega
end
/-! ### Less -/
theorem beq_no {a b : ByteArray} (h : a ≠ b) : (a.toList == b.toList) = false := by rw [beq_bytes]; exact decide_eq_false h
theorem beq_yes (a : ByteArray) : (a.toList == a.toList) = true := by rw [beq_bytes]; exact decide_eq_true rfl
set_option maxRecDepth 100000 in
set_option maxHeartbeats 3200000 in
theorem less_tri (w : World) (a b c x y z : ByteArray) : Calls Tryz.prog 15 #[.agg #[.string a, .string b, .string c], .agg #[.string x, .string y, .string z]] w fun e w' => e = .returned (.bool (ltT ⟨a, b, c⟩ ⟨x, y, z⟩)) ∧ Below w.heap.size w w' := by
  have hb : Below w.heap.size w ((w.alloc (.cells #[.string a, .string b, .string c] 35 (0, 0))).alloc (.cells #[.string x, .string y, .string z] 35 (0, 0))) := ((Below.refl _ w).alloc (Nat.le_refl _) _).alloc (by simp) _
  have HB := Lib.hid hb
  clear hb
  unfold ltT ltS
  by_cases h1 : a = x
  · subst h1
    have e1 := beq_yes a
    by_cases h2 : b = y
    · subst h2
      have e2 := beq_yes b
      have HR := Lib.hid (show (if a = a then (if b = b then Op.bytesLess c.toList z.toList else Op.bytesLess b.toList b.toList) else Op.bytesLess a.toList a.toList) = Op.bytesLess c.toList z.toList by rw [if_pos rfl, if_pos rfl])
      show Calls _ _ _ _ fun e w' => e = .returned (.bool (if a = a then (if b = b then Op.bytesLess c.toList z.toList else Op.bytesLess b.toList b.toList) else Op.bytesLess a.toList a.toList)) ∧ Below w.heap.size w w'
      rw [HR.out]
      go_enter Tryz.func15, Tryz.ntmps15
      go_wp2
      go_ret
      exact ⟨by first | rfl | simp, by first | exact HB.out | exact below_drewN HB.out _⟩
    · have e2 := beq_no h2
      have HR := Lib.hid (show (if a = a then (if b = y then Op.bytesLess c.toList z.toList else Op.bytesLess b.toList y.toList) else Op.bytesLess a.toList a.toList) = Op.bytesLess b.toList y.toList by rw [if_pos rfl, if_neg h2])
      show Calls _ _ _ _ fun e w' => e = .returned (.bool (if a = a then (if b = y then Op.bytesLess c.toList z.toList else Op.bytesLess b.toList y.toList) else Op.bytesLess a.toList a.toList)) ∧ Below w.heap.size w w'
      rw [HR.out]
      clear h2
      go_enter Tryz.func15, Tryz.ntmps15
      go_wp2
      go_ret
      exact ⟨by first | rfl | simp, by first | exact HB.out | exact below_drewN HB.out _⟩
  · have e1 := beq_no h1
    have HR := Lib.hid (show (if a = x then (if b = y then Op.bytesLess c.toList z.toList else Op.bytesLess b.toList y.toList) else Op.bytesLess a.toList x.toList) = Op.bytesLess a.toList x.toList by rw [if_neg h1])
    show Calls _ _ _ _ fun e w' => e = .returned (.bool (if a = x then (if b = y then Op.bytesLess c.toList z.toList else Op.bytesLess b.toList y.toList) else Op.bytesLess a.toList x.toList)) ∧ Below w.heap.size w w'
    rw [HR.out]
    clear h1
    go_enter Tryz.func15, Tryz.ntmps15
    go_wp2
    go_ret
    exact ⟨by first | rfl | simp, by first | exact HB.out | exact below_drewN HB.out _⟩
end Go.Proofs.YtcnffgcegimelaaGreat.So
