/-
  Joined by wip/tools/merge.py from the texts Ss0 Sq0 Sq1 Sl1. Conditions: as each says.
-/
import Derived.Test.YtcnffgcegimelaaGreatK9
import Derived.Shelf.Small.Wraps
import Derived.OpenShut
import Derived.BigQuiet
import Derived.Deep.QuietTactic
import Derived.Deep.RegionHeld3
import Derived.Test.YtcnffgcegimelaaGreatK3
section
/-
  What an argument of batches reads as; slices under steps; the document's Less. Conditions: none.
-/
namespace Go.Proofs.YtcnffgcegimelaaGreat.So
open Go.Deep Go.RowKit Go.Proofs.YtcnffgcegimelaaGreat.Mp Go.Proofs.YtcnffgcegimelaaGreat.Wd Go.Proofs.YtcnffgcegimelaaGreat.Pm Go.Proofs.YtcnffgcegimelaaGreat.Pw Go.Proofs.YtcnffgcegimelaaGreatW.PrintWords Go.WideShapes

/-- A slice, by its elements' own readings. -/
theorem sl_of {α : Type} [Inhabited α] {P : Program} {t e : TypeId} (enc : α → List Value) (k : Nat) (hk0 : 0 < k) (hu : P.underlying t = some (.slice e)) (hk : P.cellsOf e = k) (hlen : ∀ x, (enc x).length = k) (R : α → Prop) {H : Type} {en : TypeId × Value → H} {w : World} {base : Nat} {sp : Nat → Bool} {held : Bool}
    (hel : ∀ fuel cs y, DataW.trod en P w base sp held fuel e cs = some y → cs.length = k → ∃ a, cs = enc a ∧ R a) {fuel : Nat} {cs : List Value} {x : DataW H × List MemPlace}
    (h : DataW.trod en P w base sp held fuel t cs = some x) : ∃ v l, cs = [v] ∧ G.SlL w enc v l ∧ (∀ a ∈ l, R a) := by
  rcases open_slice hu h with ⟨rfl, _⟩ | ⟨a, n, c, m, k', D, Pl, rfl, _, hl, hm, hmm, rfl, hi⟩
  · exact ⟨_, [], rfl, G.SlL.nil w enc, by simp⟩
  · have hlm : n ≤ m := by rw [hmm]; split <;> omega
    rw [hk] at hi
    obtain ⟨f, hf2⟩ := choose_lt (n := n) (p := fun i z => w.cells? base (a.add (i * k)) k = some (enc z) ∧ R z) (fun i hin => by
      obtain ⟨cs', h1, h2⟩ := hi i (by omega)
      obtain ⟨_, hcl, _⟩ := World.cells?_some h1
      obtain ⟨z, rfl, hr⟩ := hel _ _ _ h2 hcl
      exact ⟨z, h1, hr⟩)
    obtain ⟨b, off, spot⟩ := a
    refine ⟨_, (List.range n).map f, rfl, ⟨some ⟨b, off, spot⟩, c, by simp, by simpa using hl, (fun h => nomatch h), fun hx => ?_⟩, fun z hz => ?_⟩
    · have hn0 : 0 < n := by
        rcases Nat.eq_zero_or_pos n with e0 | e0
        · exact absurd (by rw [e0]; rfl) hx
        · exact e0
      have h00 : w.cell? ⟨b, off, spot⟩ = (enc (f 0))[0]? := by
        obtain ⟨_, _, hcell⟩ := World.cells?_some (hf2 0 hn0).1
        have := hcell 0 hk0
        rw [Nat.zero_mul] at this
        exact this
      rw [List.getElem?_eq_getElem (by rw [hlen]; exact hk0)] at h00
      have hb := World.block_lt_of_cell? w _ h00
      obtain rfl : spot = none := by
        cases spot with
        | none => rfl
        | some s =>
          exfalso
          simp only [World.cell?] at h00
          split at h00
          · simp at h00
          · cases h00
      have hb0 : ∀ i, i < n → ∀ j, j < k → w.cell? ⟨b, off + i * k + j, none⟩ = (enc (f i))[j]? := fun i hin j hj => by
        obtain ⟨_, _, hcell⟩ := World.cells?_some (hf2 i hin).1
        have := hcell j hj
        rw [Addr.add_lit, Addr.add_lit] at this
        exact this
      refine ⟨b, off, rfl, hb, fun j u hu2 => ?_⟩
      have hj := (List.getElem?_eq_some_iff.1 hu2).1
      rw [G.flat_length k enc hlen, List.length_map, List.length_range] at hj
      have hjn : j / k < n := Nat.div_lt_of_lt_mul (by rwa [Nat.mul_comm] at hj)
      have hjm : j % k < k := Nat.mod_lt _ hk0
      have hd : j = j / k * k + j % k := by rw [Nat.mul_comm]; exact (Nat.div_add_mod j k).symm
      rw [hd, G.flat_getElem k enc hlen _ (j / k) (j % k) (f (j / k)) (by rw [List.getElem?_map, List.getElem?_range hjn]; rfl) hjm] at hu2
      have := hb0 (j / k) hjn (j % k) hjm
      rw [hu2] at this
      rwa [show off + j / k * k + j % k = off + j by omega] at this
    · obtain ⟨i, hin, rfl⟩ := List.mem_map.1 hz
      exact (hf2 i (List.mem_range.1 hin)).2
/-- A batch as it lies in a slice of batches. -/
structure BV where
  z : SV
  l : List Cng
deriving Inhabited
def encV (b : BV) : List Value := [b.z.val]
theorem encV_len (b : BV) : (encV b).length = 1 := rfl
/-- What a batch that comes in is. -/
def BIn (w : World) (b : BV) : Prop := G.SlL w encC b.z.val b.l ∧ b.z.n = b.l.length ∧ ∀ c ∈ b.l, FitT c.T
theorem cellsBt : Tryz.prog.cellsOf 28 = 1 := by kernel_rfl
set_option maxRecDepth 100000 in
/-- An argument of batches. -/
theorem arg_batches {H : Type} {en : TypeId × Value → H} {w : World} {base b0 : Nat} {sp : Nat → Bool} {held : Bool} {v : Value} {x : DataW H} {p : List MemPlace}
    (hv : Value.okWide Tryz.prog w .any b0 22 v) (h : DataW.Trod en Tryz.prog w base sp held 22 v x p) : ∃ l : List BV, G.SlL w encV v l ∧ ∀ b ∈ l, BIn w b := by
  obtain ⟨A, n, c, rfl⟩ := okWide_slice Tryz.underlying22 hv
  obtain ⟨fuel, hf⟩ := h
  obtain ⟨v2, l, hv2, h1, h2⟩ := sl_of encV 1 (by omega) Tryz.underlying22 cellsBt (fun _ => rfl) (fun b => BIn w b) (fun fuel cs y hy hl => by
    obtain ⟨v3, l3, rfl, h4, h5⟩ := sl_of encC 4 (by omega) Tryz.underlying28 cellsCng (fun _ => rfl) (fun c => FitT c.T) (fun fuel cs y hy hl => trod_cng hy hl) hy
    obtain ⟨A3, c3, rfl, _⟩ := id h4
    exact ⟨⟨⟨A3, l3.length, c3⟩, l3⟩, rfl, h4, rfl, h5⟩) hf
  simp only [Value.cells, List.cons.injEq, and_true] at hv2
  subst hv2
  exact ⟨l, h1, h2⟩
/-- A slice that is not empty lies in memory. -/
theorem sl_in {α : Type} {enc : α → List Value} {w : World} {v : Value} {xs : List α} (h : G.SlL w enc v xs) : ∀ b off n c, v = .slice (some ⟨b, off, none⟩) n c → n ≠ 0 → b < w.heap.size := by
  obtain ⟨A, c, rfl, _, _, hr⟩ := h
  intro b off n c' e hn
  injection e with e1 e2 e3
  subst e1 e2 e3
  obtain ⟨b', off', e4, h1, _⟩ := hr (fun e => hn (by rw [e]; rfl))
  cases e4
  exact h1
section
variable {α : Type} {enc : α → List Value} {p w0 : Nat} {w w' W : World} {k : SW} {v : Value} {xs : List α} {log : List (List Cng)}
/-- A slice of the law's, behind what changes other blocks. -/
theorem Held.chg {D : Nat → Prop} (h : Held w k enc v xs) (c : Chg D w w') (hD : ∀ b off n c, v = .slice (some ⟨b, off, none⟩) n c → n ≠ 0 → ¬ D b) : Held w' (k.far w) enc v xs :=
  ⟨sl_chg2 h.sl c hD, fun b off n c2 e en => by
    obtain ⟨h1, h2⟩ := h.out b off n c2 e en
    refine ⟨Nat.lt_of_lt_of_le h1 c.size, ?_⟩
    show 7 ≤ (if b < w.heap.size then k.col b else 8)
    rw [if_pos h1]; exact h2⟩
/-- A slice that was there ahead of the store. -/
theorem At.old (h : At p w0 w k log) (hv : G.SlL W enc v xs) (hW : W.heap.size ≤ w0) (c : Below W.heap.size W w) : Held w k enc v xs := by
  obtain ⟨_, s, h2, _⟩ := h
  exact Held.old h2 hv (sl_in hv) hW c
theorem facts_new (h : At p w0 w k log) (n : Int) (hlog : log.length ≤ 4000) {r : Int} (hr : factsE log.length n = r) {D : List Tri} (hD : factsL log n = D) :
    Calls Tryz.prog 13 #[.pointer (some ⟨p, 0, none⟩), .int .i64 n] w fun e w' => ∃ A c, e = .returned (.tuple #[.slice A D.length c, .int .i64 r]) ∧ At p w0 w' (k.far w) log ∧ Below w.heap.size w w' ∧ Held w' (k.far w) encT (.slice A D.length c) D ∧ ∀ b off, A = some ⟨b, off, none⟩ → w.heap.size ≤ b := by
  obtain ⟨rfl, s, h2, rfl⟩ := h
  subst hr hD
  refine (facts_ok h2 n hlog).mono ?_
  rintro e w' ⟨v, rfl, ho, hb⟩
  have hh := Held.new_ (k' := k.far w) ho fun g hg => by
    rcases ho.2 with e2 | ⟨g2, cap, e2, e3, e4⟩
    · rw [e2] at hg; cases hg
    · rw [e2] at hg
      have : g2 = g := by injection hg
      subst this
      show 7 ≤ (if g2 < w.heap.size then k.col g2 else 8)
      rw [if_neg (by omega)]; omega
  obtain ⟨A, c, rfl, _⟩ := id ho.1
  refine ⟨A, c, rfl, ⟨rfl, s, h2.below hb, rfl⟩, hb, hh, fun b off e => ?_⟩
  rcases ho.2 with e2 | ⟨g2, cap, e2, e3, _⟩
  · rw [e] at e2; cases e2
  · rw [e] at e2
    injection e2 with e5
    injection e5 with e6
    injection e6 with e7
    omega
end
/-! ### Less -/
theorem beq_no {a b : ByteArray} (h : a ≠ b) : (a.toList == b.toList) = false := by rw [beq_bytes]; exact decide_eq_false h
theorem beq_yes (a : ByteArray) : (a.toList == a.toList) = true := by rw [beq_bytes]; exact decide_eq_true rfl
set_option maxRecDepth 100000 in
set_option maxHeartbeats 3200000 in
theorem less_tri (w : World) (a b c x y z : ByteArray) : Calls Tryz.prog 15 #[.agg #[.string a, .string b, .string c], .agg #[.string x, .string y, .string z]] w fun e w' => e = .returned (.bool (ltT ⟨a, b, c⟩ ⟨x, y, z⟩)) ∧ Below w.heap.size w w' := by
  have hb : Below w.heap.size w ((w.alloc (.cells #[.string a, .string b, .string c] 35 (0, 0))).alloc (.cells #[.string x, .string y, .string z] 35 (0, 0))) := ((Below.refl _ w).alloc (Nat.le_refl _) _).alloc (by simp) _
  have HB := Lib.hid hb
  clear hb
  unfold ltT ltS
  by_cases h1 : a = x
  · subst h1
    have e1 := beq_yes a
    by_cases h2 : b = y
    · subst h2
      have e2 := beq_yes b
      have HR := Lib.hid (show (if a = a then (if b = b then Op.bytesLess c.toList z.toList else Op.bytesLess b.toList b.toList) else Op.bytesLess a.toList a.toList) = Op.bytesLess c.toList z.toList by rw [if_pos rfl, if_pos rfl])
      show Calls _ _ _ _ fun e w' => e = .returned (.bool (if a = a then (if b = b then Op.bytesLess c.toList z.toList else Op.bytesLess b.toList b.toList) else Op.bytesLess a.toList a.toList)) ∧ Below w.heap.size w w'
      rw [HR.out]
      go_enter Tryz.func15, Tryz.ntmps15
      go_wp2
      go_ret
      exact ⟨by first | rfl | simp, by first | exact HB.out | exact below_drewN HB.out _⟩
    · have e2 := beq_no h2
      have HR := Lib.hid (show (if a = a then (if b = y then Op.bytesLess c.toList z.toList else Op.bytesLess b.toList y.toList) else Op.bytesLess a.toList a.toList) = Op.bytesLess b.toList y.toList by rw [if_pos rfl, if_neg h2])
      show Calls _ _ _ _ fun e w' => e = .returned (.bool (if a = a then (if b = y then Op.bytesLess c.toList z.toList else Op.bytesLess b.toList y.toList) else Op.bytesLess a.toList a.toList)) ∧ Below w.heap.size w w'
      rw [HR.out]
      clear h2
      go_enter Tryz.func15, Tryz.ntmps15
      go_wp2
      go_ret
      exact ⟨by first | rfl | simp, by first | exact HB.out | exact below_drewN HB.out _⟩
  · have e1 := beq_no h1
    have HR := Lib.hid (show (if a = x then (if b = y then Op.bytesLess c.toList z.toList else Op.bytesLess b.toList y.toList) else Op.bytesLess a.toList x.toList) = Op.bytesLess a.toList x.toList by rw [if_neg h1])
    show Calls _ _ _ _ fun e w' => e = .returned (.bool (if a = x then (if b = y then Op.bytesLess c.toList z.toList else Op.bytesLess b.toList y.toList) else Op.bytesLess a.toList x.toList)) ∧ Below w.heap.size w w'
    rw [HR.out]
    clear h1
    go_enter Tryz.func15, Tryz.ntmps15
    go_wp2
    go_ret
    exact ⟨by first | rfl | simp, by first | exact HB.out | exact below_drewN HB.out _⟩
end Go.Proofs.YtcnffgcegimelaaGreat.So
end
section
/-
  Homes, plain; and batches split by their homes. Conditions: none.
-/
namespace Go.Proofs.YtcnffgcegimelaaGreat.So
open Go.RowKit Go.Proofs.YtcnffgcegimelaaGreat.Mp Go.Proofs.YtcnffgcegimelaaGreat.Wd Go.Proofs.YtcnffgcegimelaaGreat.Pm Go.Proofs.YtcnffgcegimelaaGreat.Pw

/-- Whether a fact lives at a worker. -/
def homB (w n : Int) (t : Tri) : Bool := decide (Ck.homeI t.S n = (w, 0))
/-- Whether all facts of all versions do. -/
def homesB (log : List (List Cng)) (w n : Int) : Bool := (List.range (log.length + 1)).all fun v => (allL (log.take v)).all (homB w n)
def HomU (log : List (List Cng)) (w n : Int) (i : Nat) : Prop := ∀ v, v ≤ i → ∀ t ∈ allL (log.take v), homB w n t = true
theorem HomU.zero (log : List (List Cng)) (w n : Int) : HomU log w n 0 := fun v hv t ht => by
  obtain rfl : v = 0 := by omega
  cases ht
theorem mem_does_sub : ∀ (l : List Cng) (L : List Tri) (x : Tri), x ∈ doesL L l → x ∈ L ∨ ∃ c ∈ l, x = c.T
  | [], _, _, h => Or.inl h
  | c :: r, L, x, h => by
    rcases mem_does_sub r (if c.gone then L.filter (fun z => decide (z ≠ c.T)) else if c.T ∈ L then L else c.T :: L) x h with h | ⟨d, hd, e⟩
    · split at h
      · exact Or.inl (List.mem_filter.1 h).1
      · split at h
        · exact Or.inl h
        · rcases List.mem_cons.1 h with h | h
          · exact Or.inr ⟨c, List.mem_cons_self, h⟩
          · exact Or.inl h
    · exact Or.inr ⟨d, List.mem_cons_of_mem _ hd, e⟩
/-- Whether those of a batch's first j that are there live at the worker. -/
def HomJ (L : List Tri) (l : List Cng) (w n : Int) (j : Nat) : Prop := ∀ c ∈ l.take j, c.T ∈ L → homB w n c.T = true
theorem HomJ.zero (L : List Tri) (l : List Cng) (w n : Int) : HomJ L l w n 0 := fun c hc => by cases hc
theorem HomJ.step {L : List Tri} {l : List Cng} {w n : Int} {j : Nat} {c : Cng} (h : HomJ L l w n j) (hc : l[j]? = some c) (hx : c.T ∈ L → homB w n c.T = true) : HomJ L l w n (j + 1) := by
  intro d hd hm
  rw [take_snoc hc] at hd
  rcases List.mem_append.1 hd with hd | hd
  · exact h d hd hm
  · rw [List.mem_singleton.1 hd] at hm ⊢
    exact hx hm
theorem HomU.step {log : List (List Cng)} {w n : Int} {i : Nat} {l : List Cng} (h : HomU log w n i) (hl : log[i]? = some l) (hj : HomJ (allL (log.take (i + 1))) l w n l.length) : HomU log w n (i + 1) := by
  intro v hv t ht
  by_cases e : v ≤ i
  · exact h v e t ht
  · obtain rfl : v = i + 1 := by omega
    have ht' := ht
    rw [take_snoc hl, allL_snoc] at ht'
    rcases mem_does_sub l _ t ht' with h1 | ⟨c, hc, e⟩
    · exact h i (Nat.le_refl _) t h1
    · subst e
      exact hj c (by rw [List.take_length]; exact hc) ht
theorem homes_yes {log : List (List Cng)} {w n : Int} (h : HomU log w n log.length) : homesB log w n = true := by
  unfold homesB
  rw [List.all_eq_true]
  intro v hv
  rw [List.all_eq_true]
  exact h v (by have := List.mem_range.1 hv; omega)
theorem homes_no {log : List (List Cng)} {w n : Int} {v : Nat} (hv : v ≤ log.length) {t : Tri} (ht : t ∈ allL (log.take v)) (hb : homB w n t = false) : homesB log w n = false := by
  cases hh : homesB log w n with
  | false => rfl
  | true =>
    unfold homesB at hh
    have h1 := List.all_eq_true.1 hh v (List.mem_range.2 (by omega))
    have h2 := List.all_eq_true.1 h1 t ht
    rw [hb] at h2
    cases h2
/-! ### Split -/
theorem does_filter (p : Tri → Bool) : ∀ (l : List Cng) (L : List Tri), doesL (L.filter p) (l.filter fun c => p c.T) = (doesL L l).filter p
  | [], _ => rfl
  | c :: r, L => by
    have ih := does_filter p r (if c.gone then L.filter (fun z => decide (z ≠ c.T)) else if c.T ∈ L then L else c.T :: L)
    have e : doesL L (c :: r) = doesL (if c.gone then L.filter (fun z => decide (z ≠ c.T)) else if c.T ∈ L then L else c.T :: L) r := rfl
    rw [e, ← ih]
    cases hp : p c.T with
    | true =>
      rw [List.filter_cons_of_pos (by exact hp)]
      have e2 : doesL (L.filter p) (c :: r.filter fun c => p c.T) = doesL (if c.gone then (L.filter p).filter (fun z => decide (z ≠ c.T)) else if c.T ∈ L.filter p then L.filter p else c.T :: L.filter p) (r.filter fun c => p c.T) := rfl
      rw [e2]
      congr 1
      split
      · rw [List.filter_filter, List.filter_filter]
        congr 1
        funext z
        exact Bool.and_comm _ _
      · by_cases hm : c.T ∈ L
        · rw [if_pos hm, if_pos (List.mem_filter.2 ⟨hm, hp⟩)]
        · rw [if_neg hm, if_neg (fun h => hm (List.mem_filter.1 h).1), List.filter_cons_of_pos hp]
    | false =>
      rw [List.filter_cons_of_neg (by rw [hp]; decide)]
      congr 1
      split
      · rw [List.filter_filter]
        refine List.filter_congr fun z _ => ?_
        cases hz : p z with
        | false => rfl
        | true =>
          have : z ≠ c.T := fun e => by rw [e, hp] at hz; cases hz
          simp [this]
      · split
        · rfl
        · rw [List.filter_cons_of_neg (by rw [hp]; decide)]
theorem all_one (l : List Cng) : allL [l] = doesL [] l := rfl
/-- Of a batch what lives at a worker. -/
def atW (l : List Cng) (w k : Int) : List Cng := l.filter fun c => homB w k c.T
theorem all_at (l : List Cng) (w k : Int) : allL [atW l w k] = (allL [l]).filter (homB w k) := does_filter (homB w k) l []
theorem at_may {l : List Cng} (h : May l) (w k : Int) : May (atW l w k) := by
  refine ⟨Nat.le_trans (List.length_filter_le _ _) h.1, ?_⟩
  rw [List.any_eq_false]
  exact fun c hc => List.any_eq_false.1 h.2 c (List.mem_filter.1 hc).1
theorem at_apply {l : List Cng} (h : chkE (allL []) l = 0) (w k : Int) : applyE (allL []) 0 1 (atW l w k) = 0 := by
  refine apply_is (len := 0) ?_
  rcases chkE_vals (allL []) l with e | ⟨_, h1, h2⟩ | e
  · rw [h] at e; cases e
  · have hm := at_may h1 w k
    unfold chkE
    rw [if_neg (by rintro (e | e); · have := hm.1; omega
                   · rw [hm.2] at e; cases e), if_neg]
    have e := all_at l w k
    have := List.length_filter_le (homB w k) (allL [l])
    rw [← e] at this
    have h3 : (allL [l]).length ≤ 4096 := h2
    show ¬ 4096 < (allL [atW l w k]).length
    omega
  · rw [h] at e; cases e
theorem at_len (l : List Cng) (w k : Int) : (verL [atW l w k]).length = ((allL [l]).filter (homB w k)).length := by rw [← ver_len, all_at]
theorem at_mem {l : List Cng} {w k : Int} {t : Tri} (h : t ∈ verL [atW l w k]) : t ∈ verL [l] ∧ homB w k t = true := by
  have h1 := ((ver_ok [atW l w k]).2.2 t).2 h
  rw [all_at] at h1
  exact ⟨((ver_ok [l]).2.2 t).1 (List.mem_filter.1 h1).1, (List.mem_filter.1 h1).2⟩
theorem at_homes (l : List Cng) (w k : Int) : homesB [atW l w k] w k = true := by
  refine homes_yes fun v hv t ht => ?_
  have hv2 : v ≤ 1 := hv
  have hc : v = 0 ∨ v = 1 := by omega
  rcases hc with rfl | rfl
  · cases ht
  · have ht2 : t ∈ allL [atW l w k] := ht
    rw [all_at] at ht2
    exact (List.mem_filter.1 ht2).2
theorem at_not {l : List Cng} {w w2 k : Int} {t : Tri} (h : t ∈ verL [atW l w k]) (hne : w2 ≠ w) : homesB [atW l w k] w2 k = false := by
  have h1 := ((ver_ok [atW l w k]).2.2 t).2 h
  refine homes_no (v := 1) (Nat.le_refl _) (t := t) h1 ?_
  have h2 := (at_mem h).2
  unfold homB at h2 ⊢
  rw [of_decide_eq_true h2]
  refine decide_eq_false fun e => hne ?_
  injection e with e1 _
  exact e1.symm
/-- Where a word lives. -/
def homN (k : Nat) (t : Tri) : Nat := Ck.sumN t.S.data.toList % k
theorem homB_word {k : Nat} (hk : 1 ≤ k ∧ k ≤ 8) {t : Tri} (h : isT t = true) (w : Nat) : homB w k t = decide (homN k t = w) := by
  have h3 : t.S.size ≠ 0 := by
    unfold isT isW at h
    simp only [Bool.and_eq_true, decide_eq_true_eq] at h
    exact h.1.1.1.1
  unfold homB Ck.homeI homN
  rw [if_neg (by omega), Bool.eq_iff_iff, decide_eq_true_iff, decide_eq_true_iff, Prod.mk.injEq]
  constructor
  · rintro ⟨e, _⟩
    have e2 : ((Ck.sumN t.S.data.toList % k : Nat) : Int) = (w : Int) := e
    omega
  · intro e
    refine ⟨?_, rfl⟩
    rw [← e]
    rfl
/-- How many live at the first workers. -/
def cntW (L : List Tri) (k w : Nat) : Nat := (L.filter fun t => decide (homN k t < w)).length
theorem cnt_zero (L : List Tri) (k : Nat) : cntW L k 0 = 0 := by
  unfold cntW
  rw [List.filter_eq_nil_iff.2 (fun t _ => by simp)]
  rfl
theorem cnt_step (L : List Tri) (k w : Nat) : cntW L k (w + 1) = cntW L k w + (L.filter fun t => decide (homN k t = w)).length := by
  unfold cntW
  induction L with
  | nil => rfl
  | cons a r ih =>
    by_cases h1 : homN k a < w
    · rw [List.filter_cons_of_pos (by simp; omega), List.filter_cons_of_pos (by simpa using h1), List.filter_cons_of_neg (by simp; omega), List.length_cons, List.length_cons]
      omega
    · by_cases h2 : homN k a = w
      · rw [List.filter_cons_of_pos (by simp; omega), List.filter_cons_of_neg (by simpa using h1), List.filter_cons_of_pos (by simpa using h2), List.length_cons, List.length_cons]
        omega
      · rw [List.filter_cons_of_neg (by simp; omega), List.filter_cons_of_neg (by simpa using h1), List.filter_cons_of_neg (by simpa using h2)]
        exact ih
theorem cnt_all (L : List Tri) {k : Nat} (hk : 1 ≤ k) : cntW L k k = L.length := by
  unfold cntW
  rw [List.filter_eq_self.2 (fun t _ => ?_)]
  exact decide_eq_true (Nat.mod_lt _ hk)
theorem cnt_at {l : List Cng} (h : May l) {k : Nat} (hk : 1 ≤ k ∧ k ≤ 8) (w : Nat) : cntW (allL [l]) k (w + 1) = cntW (allL [l]) k w + (verL [atW l w k]).length := by
  rw [cnt_step, at_len]
  congr 2
  refine List.filter_congr fun t ht => ?_
  have hw : isT t = true := by
    rcases mem_does_sub l [] t ht with h1 | ⟨c, hc, e⟩
    · cases h1
    · have h4 := List.any_eq_false.1 h.2 c hc
      rw [e]
      cases hh : isT c.T with
      | true => rfl
      | false => rw [hh] at h4; exact absurd rfl h4
  exact (homB_word hk hw w).symm
end Go.Proofs.YtcnffgcegimelaaGreat.So
end
section
/-
  A store in memory: Homes. Conditions: the store lies as told.
-/
namespace Go.Proofs.YtcnffgcegimelaaGreat.So
open Go.RowKit Go.Proofs.YtcnffgcegimelaaGreat.Mp Go.Proofs.YtcnffgcegimelaaGreat.Wd Go.Proofs.YtcnffgcegimelaaGreat.Pm Go.Proofs.YtcnffgcegimelaaGreat.Pw

/-- What Homes keeps in the inner loop. -/
def HomK (w wx : World) (mb : Nat) (f : Tri → Option Bool) (L : List Tri) : Prop := KMap triX encB wx mb f L ∧ Below w.heap.size w wx
theorem HomK.next {w wx wy : World} {mb : Nat} {f : Tri → Option Bool} {L : List Tri} (h : HomK w wx mb f L) (b : Below wx.heap.size wx wy) : HomK w wy mb f L :=
  ⟨h.1.same (b.block mb h.1.lt), h.2.trans (b.mono h.2.size)⟩
theorem zeroB (w : World) : (zeroValue 4).run Tryz.prog w = .ok (.bool false) w := Tryz.zeroValue4 w
set_option maxRecDepth 100000 in
set_option maxHeartbeats 6400000 in
theorem homes_ok {w0 : Nat} {w : World} {k : SW} {s : SS} (h : Sto w0 w k s) (wk n : Int) (hlog : s.log.length ≤ 4000) :
    Calls Tryz.prog 22 #[.pointer (some ⟨k.p, 0, none⟩), .int .i64 wk, .int .i64 n] w fun e w' => e = .returned (.bool (homesB s.log wk n)) ∧ Below w.heap.size w w' := by
  obtain ⟨q0, q1, q2, q3⟩ := h.cells
  have hmm := @run_makeMap Tryz.prog
  have G0 := fun W (e : W.cell? ⟨k.p, 0, none⟩ = some (.map (some k.bn))) => given_sto W k.p (some k.bn) e
  obtain ⟨Al, cl, hlv, hlc, _⟩ := h.row.sl
  obtain ⟨nl, hnl⟩ : ∃ nl, k.zs.length = nl := ⟨_, rfl⟩
  have hnl2 := hnl.symm.trans h.zl
  rw [hnl] at hlv hlc
  rw [hlv] at q1
  rw [← hnl2] at hlog
  have HN := Lib.hid (And.intro hnl hnl2)
  have HLV := Lib.hid hlv
  have H := Lib.hid h
  have hps := h.ps
  clear h hlv hnl hnl2
  go_enter Tryz.func22, Tryz.ntmps22
  go_wp2_with (go_at_call 31; refine (G0 _ q0).mono ?_; rintro e w' ⟨rfl, rfl⟩)
  go_loopg [23] (nl + 1) (fun g s23 wr => ∃ i : Nat, i ≤ nl ∧ nl - i < g ∧ s23 = .int .i64 i ∧ Hid (HomK w wr w.heap.size (allF (s.log.take i)) (allL (s.log.take i)) ∧ HomU s.log wk n i))
  case atStart => exact ⟨0, Nat.zero_le _, by omega, rfl, Lib.hid ⟨⟨kmap_made triX encB w, (Below.refl _ w).alloc (Nat.le_refl _) _⟩, HomU.zero _ _ _⟩⟩
  case round =>
    obtain ⟨i, hi, hg, rfl, HR⟩ := hrel
    by_cases him : i < nl
    · obtain ⟨l, hl⟩ : ∃ l, s.log[i]? = some l := ⟨s.log[i]'(by have := HN.out; omega), List.getElem?_eq_getElem _⟩
      obtain ⟨z, hz⟩ : ∃ z, k.zs[i]? = some z := ⟨k.zs[i]'(by have := HN.out; omega), List.getElem?_eq_getElem _⟩
      have BA := Lib.hid (H.out.all i z l hz hl)
      obtain ⟨b, off, c, hv, hb, hcl⟩ := H.out.row.sl.at_ (k := 1) encS_len i z hz
      rw [HLV.out] at hv
      injection hv with hv e2 e3
      subst hv
      clear e2 e3
      have hc0 := (HR.out.1.2.cell (p := ⟨b, off + i * 1 + 0, none⟩) hb).trans (hcl 0 _ rfl)
      unfold SV.val at hc0
      rw [BA.out.n, Nat.mul_one, Nat.add_zero] at hc0
      have i0 : 0 ≤ (i : Int) := by omega
      have i1 : (i : Int) < (nl : Int) := by omega
      have hmay := H.out.good.may l (List.mem_of_getElem? hl)
      have hLi : (allL (s.log.take i)).length ≤ 4096 := by rw [ver_len]; exact H.out.good.len i (by have := HN.out; omega)
      have HFW := Lib.hid (show ∀ c ∈ l, c.T.fit from fun c hc => isT_fit (by
        have h4 := List.any_eq_false.1 hmay.2 c hc
        cases hh : isT c.T with
        | true => rfl
        | false =>
          rw [hh] at h4
          exact absurd rfl h4))
      have DO := Lib.hid (does_ok (cp := z.c) HR.out.1.1 (fun sb o e => by have := (BA.out.co sb o e).1; omega) (lies_of (BA.out.sl.below HR.out.1.2)).2.1 HFW.out (by have := hmay.1; omega) (by omega))
      have HT := Lib.hid (take_snoc hl)
      have HL := Lib.hid hl
      obtain ⟨ln, hln⟩ : ∃ ln, l.length = ln := ⟨_, rfl⟩
      have hl64 : ln ≤ 64 := by rw [← hln]; exact hmay.1
      rw [hln] at hc0 DO
      have HLN := Lib.hid hln
      clear hz hl hcl hb hmay hLi hln
      go_wp2_with (go_at_call 33; refine DO.out.mono ?_; rintro e w2 ⟨⟨vv, rfl⟩, hk2, hc2⟩; have K2 := Lib.hid (show HomK w w2 w.heap.size (allF (s.log.take (i + 1))) (allL (s.log.take (i + 1))) by rw [HT.out, allF_snoc, allL_snoc]; exact ⟨hk2, Chg.below HR.out.1.2 hc2 (fun j e => by rw [e]; exact Nat.le_refl _)⟩); clear hk2 hc2)
      go_loopg [32] (ln + 1) (fun g s32 wx => ∃ j : Nat, j ≤ ln ∧ ln - j < g ∧ s32 = .int .i64 j ∧ Hid (HomK w wx w.heap.size (allF (s.log.take (i + 1))) (allL (s.log.take (i + 1))) ∧ HomJ (allL (s.log.take (i + 1))) l wk n j))
      case atStart => exact ⟨0, Nat.zero_le _, by omega, rfl, Lib.hid ⟨K2.out, HomJ.zero _ _ _ _⟩⟩
      case round =>
        rename_i hg2
        obtain ⟨j, hj, hg2, rfl, HX⟩ := hrel
        clear K2
        by_cases hjl : j < ln
        · obtain ⟨c, hc⟩ : ∃ c, l[j]? = some c := ⟨l[j]'(by have := HLN.out; omega), List.getElem?_eq_getElem _⟩
          obtain ⟨sb, so, hA, hcell⟩ := (lies_of (BA.out.sl.below HX.out.1.2)).2.1 j c hc
          have HC := Lib.hid hc
          have hfit := HFW.out c (List.mem_of_getElem? hc)
          clear hc
          obtain ⟨zA, zn, zc⟩ := z
          obtain rfl : zA = some ⟨sb, so, none⟩ := hA
          obtain ⟨gone, x, y, o⟩ := c
          have p0 : wr.cell? ⟨sb, so + j * 4, none⟩ = some (.bool gone) := hcell 0 _ rfl
          have p1 : wr.cell? ⟨sb, so + j * 4 + 1, none⟩ = some (.string x) := hcell 1 _ rfl
          have p2 : wr.cell? ⟨sb, so + j * 4 + 2, none⟩ = some (.string y) := hcell 2 _ rfl
          have p3 : wr.cell? ⟨sb, so + j * 4 + 3, none⟩ = some (.string o) := hcell 3 _ rfl
          clear hcell
          have HF := Lib.hid hfit
          clear hfit
          have j0 : 0 ≤ (j : Int) := by omega
          have j1 : (j : Int) < (ln : Int) := by omega
          obtain ⟨h1, hh1⟩ : ∃ h, (Ck.homeI x n).1 = h := ⟨_, rfl⟩
          obtain ⟨h2, hh2⟩ : ∃ h, (Ck.homeI x n).2 = h := ⟨_, rfl⟩
          have HH := Lib.hid (And.intro hh1 hh2)
          clear hh1 hh2
          have CH := fun W => Ck.home_ok x n W HF.out.1
          simp only [HH.out.1, HH.out.2] at CH
          have HCH := Lib.hid CH
          clear CH
          have HHB := Lib.hid (show homB wk n ⟨x, y, o⟩ = (decide (h1 = wk) && decide (h2 = 0)) by
            unfold homB
            rw [show Ck.homeI x n = (h1, h2) from Prod.ext HH.out.1 HH.out.2, Bool.eq_iff_iff]
            simp [Prod.mk.injEq])
          go_wp2_with fail
          refine (HCH.out _).mono ?_
          rintro e w3 ⟨rfl, hb3⟩
          have M3 := Lib.hid ((HX.out.1.next ((Below.refl _ wr).alloc (Nat.le_refl _) _)).next hb3)
          have hs3 : wr.heap.size < (wr.alloc (.cells #[.bool gone, .string x, .string y, .string o] 40 (0, 0))).heap.size := by rw [World.size_alloc]; omega
          have c1 : w3.cell? ⟨wr.heap.size, 1, none⟩ = some (.string x) := (hb3.cell (p := ⟨wr.heap.size, 1, none⟩) hs3).trans (Ck.new_cell wr _ _ 1)
          have c2 : w3.cell? ⟨wr.heap.size, 2, none⟩ = some (.string y) := (hb3.cell (p := ⟨wr.heap.size, 2, none⟩) hs3).trans (Ck.new_cell wr _ _ 2)
          have c3 : w3.cell? ⟨wr.heap.size, 3, none⟩ = some (.string o) := (hb3.cell (p := ⟨wr.heap.size, 3, none⟩) hs3).trans (Ck.new_cell wr _ _ 3)
          clear hb3 hs3 p0 p1 p2 p3
          generalize wr.heap.size = bx at c1 c2 c3 ⊢
          cases hf : allF (s.log.take (i + 1)) ⟨x, y, o⟩ with
          | none =>
            have HNF := Lib.hid hf
            go_wp2_with (at_lookup; refine wpk_look_none _ rfl _ _ _ rfl Tryz.underlying61 (zeroB _) rfl M3.out.1 ⟨x, y, o⟩ HF.out rfl hf ?_)
            go_roundg (ln - j)
            case measure => omega
            case rel => exact ⟨j + 1, by omega, by omega, by go_num, Lib.hid ⟨M3.out, HX.out.2.step HC.out (fun hm => by
              have := (M3.out.1.mem _).1 hm
              rw [HNF.out] at this
              cases this)⟩⟩
          | some u =>
            obtain rfl : u = true := allF_true _ _ _ hf
            have HIN := Lib.hid ((M3.out.1.mem ⟨x, y, o⟩).2 (by rw [hf]; rfl))
            by_cases g2 : h2 = 0
            · by_cases g1 : h1 = wk
              · have G12 := Lib.hid (And.intro g1 g2)
                have e1 : (h1 != wk) = false := by simp [g1]
                have e2 : (h2 != 0) = false := by simp [g2]
                clear g1 g2
                go_wp2_with (at_lookup; refine wpk_look_some _ rfl _ _ _ rfl Tryz.underlying61 (zeroB _) rfl M3.out.1 ⟨x, y, o⟩ HF.out rfl true hf (.bool true) rfl ?_)
                go_roundg (ln - j)
                case measure => omega
                case rel => exact ⟨j + 1, by omega, by omega, by go_num, Lib.hid ⟨M3.out, HX.out.2.step HC.out (fun hm => by rw [HHB.out, G12.out.1, G12.out.2]; simp)⟩⟩
              · have G1 := Lib.hid g1
                have e1 : (h1 != wk) = true := by simp [g1]
                have e2 : (h2 != 0) = false := by simp [g2]
                clear g1 g2
                have HNO := Lib.hid (homes_no (w := wk) (n := n) (v := i + 1) (by have := HN.out; omega) HIN.out (by rw [HHB.out, decide_eq_false G1.out]; rfl))
                go_wp2_with (at_lookup; refine wpk_look_some _ rfl _ _ _ rfl Tryz.underlying61 (zeroB _) rfl M3.out.1 ⟨x, y, o⟩ HF.out rfl true hf (.bool true) rfl ?_)
                go_ret
                exact ⟨by rw [HNO.out]; rfl, M3.out.2⟩
            · have G2 := Lib.hid g2
              have e2 : (h2 != 0) = true := by simp [g2]
              clear g2
              have HNO := Lib.hid (homes_no (w := wk) (n := n) (v := i + 1) (by have := HN.out; omega) HIN.out (by rw [HHB.out, decide_eq_false G2.out, Bool.and_false]))
              go_wp2_with (at_lookup; refine wpk_look_some _ rfl _ _ _ rfl Tryz.underlying61 (zeroB _) rfl M3.out.1 ⟨x, y, o⟩ HF.out rfl true hf (.bool true) rfl ?_)
              go_ret
              exact ⟨by rw [HNO.out]; rfl, M3.out.2⟩
        · have hje : j = ln := by omega
          have j1 : ¬ (j : Int) < (ln : Int) := by omega
          go_wp2
          go_roundg (nl - i)
          case measure => omega
          case rel => exact ⟨i + 1, by omega, by omega, by go_num, Lib.hid ⟨HX.out.1, HR.out.2.step HL.out (by rw [HLN.out, ← hje]; exact HX.out.2)⟩⟩
    · have him' : i = nl := by omega
      have i1 : ¬ (i : Int) < (nl : Int) := by omega
      have HY := Lib.hid (homes_yes (log := s.log) (w := wk) (n := n) (by have := HR.out.2; rw [him', HN.out.2] at this; exact this))
      go_wp2
      go_ret
      exact ⟨by rw [HY.out]; rfl, HR.out.1.2⟩
end Go.Proofs.YtcnffgcegimelaaGreat.So
end
section
/-
  Two stores at once: what each one's steps leave of the other. Conditions: as each says.
-/
namespace Go.Proofs.YtcnffgcegimelaaGreat.So
open Go.RowKit Go.Proofs.YtcnffgcegimelaaGreat.Mp Go.Proofs.YtcnffgcegimelaaGreat.Wd Go.Proofs.YtcnffgcegimelaaGreat.Pm Go.Proofs.YtcnffgcegimelaaGreat.Pw

theorem and7 (x : Int) : ∃ m : Nat, m ≤ 7 ∧ bits .and .i64 x 7 = (m : Int) := by
  have h : ((BitVec.ofInt 64 x &&& BitVec.ofInt 64 7).toNat : Int) < 8 := by
    rw [BitVec.toNat_and]
    have : (BitVec.ofInt 64 x).toNat &&& (BitVec.ofInt 64 7).toNat ≤ (BitVec.ofInt 64 7).toNat := Nat.and_le_right
    have e : (BitVec.ofInt 64 7).toNat = 7 := rfl
    omega
  refine ⟨(BitVec.ofInt 64 x &&& BitVec.ofInt 64 7).toNat, by omega, ?_⟩
  show IntKind.i64.wrap ((BitVec.ofInt 64 x &&& BitVec.ofInt 64 7).toNat : Int) = _
  rw [IntKind.wrap_i64]
  omega
theorem new_law2 (w : World) : Calls Tryz.prog 11 #[] w fun e w' => ∃ p k, e = .returned (.pointer (some ⟨p, 0, none⟩)) ∧ At p w.heap.size w' k [] ∧ Below w.heap.size w w' ∧ ∀ i, i < w.heap.size → k.col i = 8 :=
  (new_sto w).mono fun e w' ⟨h1, h2, h3⟩ => ⟨_, newK w, h1, ⟨rfl, newS, h2, rfl⟩, h3, fun i hi => by
    show (if i = w.heap.size + 4 then 0 else if i = w.heap.size then 1 else if i = w.heap.size + 2 then 3 else if i = w.heap.size + 1 then 4 else if i = w.heap.size + 3 then 6 else 8) = 8
    rw [if_neg (by omega), if_neg (by omega), if_neg (by omega), if_neg (by omega), if_neg (by omega)]⟩
theorem homes_law {p w0 : Nat} {w : World} {k : SW} {log : List (List Cng)} (h : At p w0 w k log) (wk n : Int) (hlog : log.length ≤ 4000) {b : Bool} (hb : homesB log wk n = b) :
    Calls Tryz.prog 22 #[.pointer (some ⟨p, 0, none⟩), .int .i64 wk, .int .i64 n] w fun e w' => e = .returned (.bool b) ∧ Below w.heap.size w w' := by
  obtain ⟨rfl, s, h2, rfl⟩ := h
  subst hb
  exact homes_ok h2 wk n hlog
/-- Two stores: neither's blocks are the other's. -/
structure Two (p q : Nat) (W : World) (wq : Nat) (wr : World) (k h : SW) (log1 log2 : List (List Cng)) : Prop where
  a : At p W.heap.size wr k log1
  b : At q wq wr h log2
  be : Below W.heap.size W wr
  wq : W.heap.size ≤ wq
  ab : ∀ i, i < wr.heap.size → k.col i < 7 → h.col i = 8
  ba : ∀ i, i < wr.heap.size → h.col i < 7 → k.col i = 8
section
variable {p q wq : Nat} {W wr wr' : World} {k k' h h' : SW} {log1 log2 log1' log2' : List (List Cng)}
theorem Two.stepB (t : Two p q W wq wr k h log1 log2) (hk : At q wq wr' h' log2') (g : StepS wr h wr' h') : Two p q W wq wr' (k.far wr) h' log1 log2' := by
  refine ⟨t.a.far g.chg t.ba, hk, t.b.since g t.be t.wq, t.wq, fun i hi hc => ?_, fun i hi hc => ?_⟩
  · have hc2 : (if i < wr.heap.size then k.col i else 8) < 7 := hc
    by_cases e : i < wr.heap.size
    · rw [if_pos e] at hc2
      rw [g.col i e]
      exact t.ab i e hc2
    · rw [if_neg e] at hc2; omega
  · show (if i < wr.heap.size then k.col i else 8) = 8
    by_cases e : i < wr.heap.size
    · rw [if_pos e]
      rw [g.col i e] at hc
      exact t.ba i e hc
    · rw [if_neg e]
theorem Two.stepA (t : Two p q W wq wr k h log1 log2) (hk : At p W.heap.size wr' k' log1') (g : StepS wr k wr' k') : Two p q W wq wr' k' (h.far wr) log1' log2 := by
  refine ⟨hk, t.b.far g.chg t.ab, t.a.since g t.be (Nat.le_refl _), t.wq, fun i hi hc => ?_, fun i hi hc => ?_⟩
  · show (if i < wr.heap.size then h.col i else 8) = 8
    by_cases e : i < wr.heap.size
    · rw [if_pos e]
      rw [g.col i e] at hc
      exact t.ab i e hc
    · rw [if_neg e]
  · have hc2 : (if i < wr.heap.size then h.col i else 8) < 7 := hc
    by_cases e : i < wr.heap.size
    · rw [if_pos e] at hc2
      rw [g.col i e]
      exact t.ba i e hc2
    · rw [if_neg e] at hc2; omega
theorem Two.below (t : Two p q W wq wr k h log1 log2) (b : Below wr.heap.size wr wr') : Two p q W wq wr' (k.far wr) (h.far wr) log1 log2 := by
  refine ⟨t.a.below b, t.b.below b, t.be.trans (b.mono t.be.size), t.wq, fun i hi hc => ?_, fun i hi hc => ?_⟩
  · have hc2 : (if i < wr.heap.size then k.col i else 8) < 7 := hc
    show (if i < wr.heap.size then h.col i else 8) = 8
    by_cases e : i < wr.heap.size
    · rw [if_pos e] at hc2 ⊢; exact t.ab i e hc2
    · rw [if_neg e]
  · have hc2 : (if i < wr.heap.size then h.col i else 8) < 7 := hc
    show (if i < wr.heap.size then k.col i else 8) = 8
    by_cases e : i < wr.heap.size
    · rw [if_pos e] at hc2 ⊢; exact t.ba i e hc2
    · rw [if_neg e]
/-- The second store, new. -/
theorem Two.start (ha : At p W.heap.size wr k log1) (be : Below W.heap.size W wr) (hb : At q wr.heap.size wr' h []) (b : Below wr.heap.size wr wr') (h8 : ∀ i, i < wr.heap.size → h.col i = 8) : Two p q W wr.heap.size wr' (k.far wr) h log1 [] := by
  refine ⟨ha.below b, hb, be.trans (b.mono be.size), be.size, fun i hi hc => ?_, fun i hi hc => ?_⟩
  · have hc2 : (if i < wr.heap.size then k.col i else 8) < 7 := hc
    by_cases e : i < wr.heap.size
    · exact h8 i e
    · rw [if_neg e] at hc2; omega
  · show (if i < wr.heap.size then k.col i else 8) = 8
    by_cases e : i < wr.heap.size
    · rw [h8 i e] at hc; omega
    · rw [if_neg e]
end
/-- Slices that neither touches. -/
structure Held2 {α : Type} (w : World) (k h : SW) (enc : α → List Value) (v : Value) (xs : List α) : Prop where
  a : Held w k enc v xs
  b : Held w h enc v xs
section
variable {α : Type} {enc : α → List Value} {w w' : World} {k k' h h' : SW} {v : Value} {xs : List α}
theorem Held2.stepA {p q wq : Nat} {W : World} {log1 log2 : List (List Cng)} (_t : Two p q W wq w k h log1 log2) (x : Held2 w k h enc v xs) (g : StepS w k w' k') : Held2 w' k' (h.far w) enc v xs :=
  ⟨x.a.step g, x.b.chg g.chg (fun b off n c e hn hd => by have := (x.a.out b off n c e hn).2; omega)⟩
theorem Held2.below (x : Held2 w k h enc v xs) (b : Below w.heap.size w w') : Held2 w' (k.far w) (h.far w) enc v xs := ⟨x.a.below b, x.b.below b⟩
theorem Held2.new {A : Option Addr} {n c : Nat} (x : Held w' (h.far w) enc (.slice A n c) xs) (hf : ∀ b off, A = some ⟨b, off, none⟩ → w.heap.size ≤ b) : Held2 w' (k.far w) (h.far w) enc (.slice A n c) xs := by
  refine ⟨⟨x.sl, fun b off n2 c2 e hn => ?_⟩, x⟩
  have h1 := (x.out b off n2 c2 e hn).1
  injection e with e1 _ _
  have h2 := hf b off e1
  refine ⟨h1, ?_⟩
  show 7 ≤ (if b < w.heap.size then k.col b else 8)
  rw [if_neg (by omega)]; omega
end
end Go.Proofs.YtcnffgcegimelaaGreat.So
end
