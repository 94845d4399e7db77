/-
  Joined by wip/tools/merge.py from the texts Lq0 Lq1 Lq2 Lq3 Lq4 Lq5. Conditions: as each says.
-/
import Derived.Test.YtejinhnmabnomaaJ6
section
/-
  Joins, in plain words: choices that satisfy relations, rows in their order, the join as the document makes it. No condition.
-/
namespace Go.Proofs.Ytejinhnmabnomaa.Lf

/-- A relation: its two variables, and its pairs. -/
structure Rl where
  a : Nat
  b : Nat
  rows : List (Int × Int)
/-- A choice satisfies relations. -/
def Sat (rels : List Rl) (f : Nat → Int) : Prop := ∀ r ∈ rels, (f r.a, f r.b) ∈ r.rows
/-- A row ahead of another one. -/
def lexLt : List Int → List Int → Prop
  | [], [] => False
  | [], _ :: _ => True
  | _ :: _, [] => False
  | a :: s, b :: t => a < b ∨ (a = b ∧ lexLt s t)
def lexB : List Int → List Int → Bool
  | [], [] => false
  | [], _ :: _ => true
  | _ :: _, [] => false
  | a :: s, b :: t => decide (a < b) || (decide (a = b) && lexB s t)
theorem lexB_iff : ∀ s t, lexB s t = true ↔ lexLt s t
  | [], [] => by simp [lexB, lexLt]
  | [], _ :: _ => by simp [lexB, lexLt]
  | _ :: _, [] => by simp [lexB, lexLt]
  | a :: s, b :: t => by simp [lexB, lexLt, lexB_iff s t]
instance (s t : List Int) : Decidable (lexLt s t) := decidable_of_iff _ (lexB_iff s t)
theorem lex_irrefl : ∀ s, ¬ lexLt s s
  | [] => by simp [lexLt]
  | a :: s => by have := lex_irrefl s; simp [lexLt, this]
theorem lex_trans : ∀ {s t u}, lexLt s t → lexLt t u → lexLt s u
  | [], [], _, h, _ => by simp [lexLt] at h
  | [], _ :: _, [], _, h => by simp [lexLt] at h
  | [], _ :: _, _ :: _, _, _ => by simp [lexLt]
  | _ :: _, [], _, h, _ => by simp [lexLt] at h
  | _ :: _, _ :: _, [], _, h => by simp [lexLt] at h
  | a :: s, b :: t, c :: u, h1, h2 => by
    simp only [lexLt] at h1 h2 ⊢
    rcases h1 with h1 | ⟨h1, g1⟩
    · rcases h2 with h2 | ⟨h2, _⟩
      · exact .inl (by omega)
      · exact .inl (by omega)
    · rcases h2 with h2 | ⟨h2, g2⟩
      · exact .inl (by omega)
      · exact .inr ⟨by omega, lex_trans g1 g2⟩
theorem lex_tri : ∀ {s t}, ¬ lexLt s t → ¬ lexLt t s → s = t
  | [], [], _, _ => rfl
  | [], _ :: _, h, _ => by simp [lexLt] at h
  | _ :: _, [], _, h => by simp [lexLt] at h
  | a :: s, b :: t, h1, h2 => by
    simp only [lexLt, not_or, not_and] at h1 h2
    have e : a = b := by omega
    rw [e, lex_tri (h1.2 e) (h2.2 e.symm)]

/-! ### Rows put into rising rows -/
def ins (r : List Int) : List (List Int) → List (List Int)
  | [] => [r]
  | x :: t => if lexLt x r then x :: ins r t else if lexLt r x then r :: x :: t else x :: t
theorem ins_mem (r x : List Int) : ∀ l, x ∈ ins r l ↔ x ∈ l ∨ x = r
  | [] => by simp [ins]
  | y :: t => by
    unfold ins
    split
    · rw [List.mem_cons, ins_mem r x t, List.mem_cons, or_assoc]
    · rename_i h1
      split
      · simp only [List.mem_cons]
        exact ⟨fun h => h.elim .inr .inl, fun h => h.elim .inr .inl⟩
      · rename_i h2
        have := lex_tri h1 h2
        subst this
        simp only [List.mem_cons]
        exact ⟨.inl, fun h => h.elim id .inl⟩
theorem ins_rise (r : List Int) : ∀ l, l.Pairwise lexLt → (ins r l).Pairwise lexLt
  | [], _ => by simp [ins]
  | y :: t, h => by
    obtain ⟨h1, h2⟩ := List.pairwise_cons.1 h
    unfold ins
    split
    · rename_i hy
      refine List.pairwise_cons.2 ⟨fun x hx => ?_, ins_rise r t h2⟩
      rcases (ins_mem r x t).1 hx with hx | rfl
      · exact h1 x hx
      · exact hy
    · split
      · rename_i hy
        refine List.pairwise_cons.2 ⟨fun x hx => ?_, h⟩
        rcases List.mem_cons.1 hx with rfl | hx
        · exact hy
        · exact lex_trans hy (h1 x hx)
      · exact h
theorem ins_len (r : List Int) : ∀ l, (ins r l).length ≤ l.length + 1
  | [] => by simp [ins]
  | x :: t => by
    have := ins_len r t
    unfold ins
    split
    · simp; omega
    · split <;> simp
/-- What a search's place says of the putting in. -/
theorem ins_at (r : List Int) : ∀ (out : List (List Int)) (k : Nat), k ≤ out.length → (∀ j, j < k → lexLt (out.getD j []) r) → (k < out.length → ¬ lexLt (out.getD k []) r) →
    ins r out = if k < out.length ∧ ¬ lexLt r (out.getD k []) then out else out.take k ++ r :: out.drop k
  | [], k, hk, _, _ => by
    obtain rfl : k = 0 := by simpa using hk
    simp [ins]
  | x :: t, 0, _, _, h2 => by
    have h2 := h2 (by simp)
    unfold ins
    rw [if_neg (by simpa using h2)]
    simp only [List.length_cons, List.take_zero, List.nil_append, List.drop_zero]
    by_cases e : lexLt r x
    · rw [if_pos e, if_neg (fun h => h.2 (by simpa using e))]
    · rw [if_neg e, if_pos ⟨by omega, by simpa using e⟩]
  | x :: t, k + 1, hk, h1, h2 => by
    have := ins_at r t k (by simpa using hk) (fun j hj => h1 (j + 1) (by omega)) (fun hlt => h2 (by simpa using hlt))
    have h0 := h1 0 (by omega)
    unfold ins
    rw [if_pos (by simpa using h0), this]
    simp only [List.length_cons, List.getD_cons_succ, Nat.add_lt_add_iff_right, List.take_succ_cons, List.drop_succ_cons, List.cons_append]
    split <;> rfl
/-- Two lists that rise strictly and have the same members are one. -/
theorem rise_eq : ∀ {l1 l2 : List (List Int)}, l1.Pairwise lexLt → l2.Pairwise lexLt → (∀ x, x ∈ l1 ↔ x ∈ l2) → l1 = l2
  | [], [], _, _, _ => rfl
  | [], b :: r, _, _, h => absurd ((h b).2 (by simp)) (by simp)
  | a :: r, [], _, _, h => absurd ((h a).1 (by simp)) (by simp)
  | a :: r1, b :: r2, h1, h2, h => by
    obtain ⟨a1, p1⟩ := List.pairwise_cons.1 h1
    obtain ⟨b1, p2⟩ := List.pairwise_cons.1 h2
    have hab : a = b := by
      rcases List.mem_cons.1 ((h a).1 (by simp)) with e | ha
      · exact e
      · rcases List.mem_cons.1 ((h b).2 (by simp)) with e | hb
        · exact e.symm
        · exact absurd (lex_trans (b1 a ha) (a1 b hb)) (lex_irrefl b)
    subst hab
    rw [rise_eq p1 p2 (fun x => ⟨fun hx => ?_, fun hx => ?_⟩)]
    · rcases List.mem_cons.1 ((h x).1 (by simp [hx])) with e | hx'
      · subst e; exact absurd (a1 x hx) (lex_irrefl x)
      · exact hx'
    · rcases List.mem_cons.1 ((h x).2 (by simp [hx])) with e | hx'
      · subst e; exact absurd (b1 x hx) (lex_irrefl x)
      · exact hx'

/-! ### The join -/
/-- l is the join's rows, of the variables to keep. -/
structure IsJoin (rels : List Rl) (keep : List Nat) (l : List (List Int)) : Prop where
  rise : l.Pairwise lexLt
  mem : ∀ row, row ∈ l ↔ ∃ f, Sat rels f ∧ row = keep.map f
theorem IsJoin.uniq {rels : List Rl} {keep : List Nat} {l l' : List (List Int)} (h : IsJoin rels keep l) (h' : IsJoin rels keep l') : l = l' := rise_eq h.rise h'.rise (fun x => (h.mem x).trans (h'.mem x).symm)

/-- A choice of some variables. -/
abbrev Ch := Nat → Option Int
def withC (c : Ch) (v : Nat) (n : Int) : Option Ch := match c v with
  | some m => if m = n then some c else none
  | none => some fun u => if u = v then some n else c u
def Agree (c : Ch) (f : Nat → Int) : Prop := ∀ v n, c v = some n → f v = n
theorem withC_agree {c c' : Ch} {v : Nat} {n : Int} (h : withC c v n = some c') (f : Nat → Int) : Agree c' f ↔ Agree c f ∧ f v = n := by
  unfold withC at h
  cases hc : c v with
  | some m =>
    rw [hc] at h
    simp only at h
    split at h
    · rename_i e
      obtain rfl := Option.some.inj h
      exact ⟨fun ha => ⟨ha, by rw [ha v m hc, e]⟩, fun ha => ha.1⟩
    · cases h
  | none =>
    rw [hc] at h
    simp only at h
    obtain rfl := Option.some.inj h
    constructor
    · intro ha
      refine ⟨fun u m hu => ?_, ha v n (by simp)⟩
      by_cases e : u = v
      · subst e; rw [hc] at hu; cases hu
      · exact ha u m (by simp [e, hu])
    · rintro ⟨ha, hn⟩ u m hu
      by_cases e : u = v
      · subst e; simp at hu; omega
      · simp [e] at hu; exact ha u m hu
theorem withC_of {c : Ch} {v : Nat} {f : Nat → Int} (h : Agree c f) : ∃ c', withC c v (f v) = some c' := by
  unfold withC
  cases hc : c v with
  | some m => exact ⟨c, if_pos (h v m hc).symm⟩
  | none => exact ⟨_, rfl⟩
theorem withC_has {c c' : Ch} {v : Nat} {n : Int} (h : withC c v n = some c') : c' v = some n ∧ ∀ u m, c u = some m → c' u = some m := by
  unfold withC at h
  cases hc : c v with
  | some m =>
    rw [hc] at h
    simp only at h
    split at h
    · rename_i e
      obtain rfl := Option.some.inj h
      exact ⟨by rw [hc, e], fun u m h => h⟩
    · cases h
  | none =>
    rw [hc] at h
    simp only at h
    obtain rfl := Option.some.inj h
    refine ⟨by simp, fun u m hu => ?_⟩
    by_cases e : u = v
    · subst e; rw [hc] at hu; cases hu
    · simp [e, hu]
def pairC (c : Ch) (r : Rl) (p : Int × Int) : Option Ch := (withC c r.a p.1).bind fun d => withC d r.b p.2
/-- All choices of one relation more. -/
def stepC (r : Rl) (cs : List Ch) : List Ch := cs.flatMap fun c => r.rows.filterMap (pairC c r)
def allC : List Rl → List Ch → List Ch
  | [], cs => cs
  | r :: rels, cs => allC rels (stepC r cs)
theorem pairC_agree {c c' : Ch} {r : Rl} {p : Int × Int} (h : pairC c r p = some c') (f : Nat → Int) : Agree c' f ↔ Agree c f ∧ f r.a = p.1 ∧ f r.b = p.2 := by
  unfold pairC at h
  cases hd : withC c r.a p.1 with
  | none => rw [hd] at h; cases h
  | some d =>
    rw [hd] at h
    change withC d r.b p.2 = some c' at h
    exact (withC_agree h f).trans ((and_congr_left' (withC_agree hd f)).trans and_assoc)
theorem pairC_of {c : Ch} {r : Rl} {f : Nat → Int} (h : Agree c f) : ∃ c', pairC c r (f r.a, f r.b) = some c' := by
  obtain ⟨d, hd⟩ := withC_of (v := r.a) h
  obtain ⟨c', hc⟩ := withC_of (c := d) (v := r.b) (f := f) ((withC_agree hd f).2 ⟨h, rfl⟩)
  refine ⟨c', ?_⟩
  unfold pairC
  rw [hd]
  exact hc
theorem pairC_has {c c' : Ch} {r : Rl} {p : Int × Int} (h : pairC c r p = some c') : (c' r.a).isSome ∧ (c' r.b).isSome ∧ ∀ u m, c u = some m → c' u = some m := by
  unfold pairC at h
  cases hd : withC c r.a p.1 with
  | none => rw [hd] at h; cases h
  | some d =>
    rw [hd] at h
    change withC d r.b p.2 = some c' at h
    obtain ⟨h1, h2⟩ := withC_has hd
    obtain ⟨h3, h4⟩ := withC_has h
    exact ⟨by rw [h4 _ _ h1]; rfl, by rw [h3]; rfl, fun u m hu => h4 u m (h2 u m hu)⟩
theorem allC_iff (f : Nat → Int) : ∀ (rels : List Rl) (cs : List Ch), (∃ c ∈ allC rels cs, Agree c f) ↔ (∃ c ∈ cs, Agree c f) ∧ Sat rels f
  | [], cs => by simp [allC, Sat]
  | r :: rels, cs => by
    unfold allC
    rw [allC_iff f rels (stepC r cs)]
    constructor
    · rintro ⟨⟨c, hc, ha⟩, hs⟩
      unfold stepC at hc
      obtain ⟨c0, hc0, hc1⟩ := List.mem_flatMap.1 hc
      obtain ⟨p, hp, hpc⟩ := List.mem_filterMap.1 hc1
      obtain ⟨h1, h2, h3⟩ := (pairC_agree hpc f).1 ha
      refine ⟨⟨c0, hc0, h1⟩, fun q hq => ?_⟩
      rcases List.mem_cons.1 hq with rfl | hq
      · rw [h2, h3]; exact hp
      · exact hs q hq
    · rintro ⟨⟨c0, hc0, ha⟩, hs⟩
      obtain ⟨c, hc⟩ := pairC_of (r := r) ha
      have hr := hs r (by simp)
      refine ⟨⟨c, ?_, (pairC_agree hc f).2 ⟨ha, rfl, rfl⟩⟩, fun q hq => hs q (by simp [hq])⟩
      unfold stepC
      exact List.mem_flatMap.2 ⟨c0, hc0, List.mem_filterMap.2 ⟨_, hr, hc⟩⟩
theorem allC_has (v : Nat) : ∀ (rels : List Rl) (cs : List Ch), (∀ c ∈ cs, (c v).isSome) ∨ (∃ r ∈ rels, v = r.a ∨ v = r.b) → ∀ c ∈ allC rels cs, (c v).isSome
  | [], cs, h, c, hc => by
    rcases h with h | ⟨r, hr, _⟩
    · exact h c hc
    · cases hr
  | r :: rels, cs, h, c, hc => by
    refine allC_has v rels (stepC r cs) ?_ c hc
    by_cases hv : ∃ q ∈ rels, v = q.a ∨ v = q.b
    · exact .inr hv
    · refine .inl fun d hd => ?_
      unfold stepC at hd
      obtain ⟨c0, hc0, hc1⟩ := List.mem_flatMap.1 hd
      obtain ⟨p, hp, hpc⟩ := List.mem_filterMap.1 hc1
      obtain ⟨h1, h2, h3⟩ := pairC_has hpc
      rcases h with h | ⟨q, hq, hqv⟩
      · obtain ⟨m, hm⟩ := Option.isSome_iff_exists.1 (h c0 hc0)
        rw [h3 v m hm]; rfl
      · rcases List.mem_cons.1 hq with rfl | hq
        · rcases hqv with rfl | rfl
          · exact h1
          · exact h2
        · exact absurd ⟨q, hq, hqv⟩ hv
/-- The document's join. -/
def refRows (keep : List Nat) (cs : List Ch) : List (List Int) := cs.foldl (fun out c => ins (keep.map fun v => (c v).getD 0) out) []
def refJoin (rels : List Rl) (keep : List Nat) : List (List Int) := refRows keep (allC rels [fun _ => none])
theorem foldl_ins (g : Ch → List Int) : ∀ (cs : List Ch) (out : List (List Int)), out.Pairwise lexLt → (cs.foldl (fun out c => ins (g c) out) out).Pairwise lexLt ∧ ∀ x, x ∈ cs.foldl (fun out c => ins (g c) out) out ↔ x ∈ out ∨ ∃ c ∈ cs, x = g c
  | [], out, h => ⟨h, by simp⟩
  | c :: cs, out, h => by
    obtain ⟨h1, h2⟩ := foldl_ins g cs (ins (g c) out) (ins_rise (g c) out h)
    refine ⟨h1, fun x => (h2 x).trans ?_⟩
    rw [ins_mem, or_assoc]
    simp
theorem refJoin_is (rels : List Rl) (keep : List Nat) (hk : ∀ v ∈ keep, ∃ r ∈ rels, v = r.a ∨ v = r.b) : IsJoin rels keep (refJoin rels keep) := by
  obtain ⟨h1, h2⟩ := foldl_ins (fun c => keep.map fun v => (c v).getD 0) (allC rels [fun _ => none]) [] List.Pairwise.nil
  refine ⟨h1, fun row => (h2 row).trans ?_⟩
  simp only [List.not_mem_nil, false_or]
  constructor
  · rintro ⟨c, hc, rfl⟩
    have ha : Agree c (fun v => (c v).getD 0) := fun v n hv => by simp [hv]
    exact ⟨_, ((allC_iff _ rels _).1 ⟨c, hc, ha⟩).2, rfl⟩
  · rintro ⟨f, hf, rfl⟩
    obtain ⟨c, hc, ha⟩ := (allC_iff f rels [fun _ => none]).2 ⟨⟨fun _ => none, List.mem_singleton.2 rfl, fun v n h => by cases h⟩, hf⟩
    refine ⟨c, hc, List.map_congr_left fun v hv => ?_⟩
    obtain ⟨m, hm⟩ := Option.isSome_iff_exists.1 (allC_has v rels _ (.inr (hk v hv)) c hc)
    rw [hm, ha v m hm]
    rfl
end Go.Proofs.Ytejinhnmabnomaa.Lf
end
section
/-
  A join gone through, in plain words: relations by ranks of variables, the numbers of a level, and which rows there are below a bound. No condition.
-/
namespace Go.Proofs.Ytejinhnmabnomaa.Lf
open Go.Proofs.Ytejinhnmabnomaa.Pm Go.Proofs.Ytejinhnmabnomaa.Pw

/-- The order of a join's indexes. -/
def o1 : Ord := ⟨0, 1, 2⟩
/-- A relation by ranks: the rank of the variable on top, that of the other, and rows. -/
structure Rk where
  p : Nat
  q : Nat
  L : List R3
def SatR (rks : List Rk) (g : Nat → Int) : Prop := ∀ k ∈ rks, ∃ r ∈ k.L, r.a = g k.p ∧ (k.p ≠ k.q → r.b = g k.q)
/-- How far a relation's walk has gone when some ranks have values. -/
def path (k : Rk) (pre : List Int) : List Int := if k.p < pre.length then pre.getD k.p 0 :: (if k.p ≠ k.q ∧ k.q < pre.length then [pre.getD k.q 0] else []) else []
def onLevel (k : Rk) (d : Nat) : Prop := k.p = d ∨ k.q = d
instance (k : Rk) (d : Nat) : Decidable (onLevel k d) := by unfold onLevel; infer_instance
/-- A number that all relations of the next rank have. -/
def Com (rks : List Rk) (pre : List Int) (n : Int) : Prop := ∀ k ∈ rks, onLevel k pre.length → n ∈ lvl k.L o1 (path k pre)
/-- What has values so far is a beginning of some row of each relation. -/
def OkP (rks : List Rk) (pre : List Int) : Prop := ∀ k ∈ rks, k.p < pre.length → ∃ r ∈ k.L, r.a = pre.getD k.p 0 ∧ (k.p ≠ k.q → k.q < pre.length → r.b = pre.getD k.q 0)
def Agr (pre : List Int) (g : Nat → Int) : Prop := ∀ i, i < pre.length → g i = pre.getD i 0

structure Fit (rks : List Rk) : Prop where
  le : ∀ k ∈ rks, k.p ≤ k.q
  rise : ∀ k ∈ rks, k.L.Pairwise (ltR o1)

theorem getD_lt {α : Type} (l : List α) (d : α) {i : Nat} (h : i < l.length) : l.getD i d = l[i] := by
  rw [List.getD_eq_getElem?_getD, List.getElem?_eq_getElem h]; rfl
theorem num_mem (L : List R3) (d : Nat) (i : Nat) : num L o1 (d + 1) i = (L.getD i r0).at (o1.at d) := rfl
theorem lvl_nil {L : List R3} (hL : L.Pairwise (ltR o1)) (x : Int) : x ∈ lvl L o1 [] ↔ ∃ r ∈ L, r.a = x := by
  refine ((lvl_sorted L o1 [] hL (by simp)).2 x).trans ?_
  constructor
  · rintro ⟨i, hi, _, h⟩
    exact ⟨L.getD i r0, by rw [getD_lt _ _ hi]; exact List.getElem_mem hi, h⟩
  · rintro ⟨r, hr, h⟩
    obtain ⟨i, hi, e⟩ := List.getElem_of_mem hr
    refine ⟨i, hi, fun j hj => absurd hj (by simp), ?_⟩
    rw [List.length_nil, num_mem, getD_lt _ _ hi, e]
    exact h
theorem lvl_one {L : List R3} (hL : L.Pairwise (ltR o1)) (p x : Int) : x ∈ lvl L o1 [p] ↔ ∃ r ∈ L, r.a = p ∧ r.b = x := by
  refine ((lvl_sorted L o1 [p] hL (by simp)).2 x).trans ?_
  constructor
  · rintro ⟨i, hi, h0, h⟩
    exact ⟨L.getD i r0, by rw [getD_lt _ _ hi]; exact List.getElem_mem hi, h0 0 (by simp), h⟩
  · rintro ⟨r, hr, h0, h⟩
    obtain ⟨i, hi, e⟩ := List.getElem_of_mem hr
    refine ⟨i, hi, fun j hj => ?_, ?_⟩
    · obtain rfl : j = 0 := by simpa using hj
      rw [num_mem, getD_lt _ _ hi, e]
      exact h0
    · show num L o1 (1 + 1) i = x
      rw [num_mem, getD_lt _ _ hi, e]
      exact h

theorem snoc_lt (pre : List Int) (n : Int) (i : Nat) (h : i < pre.length) : (pre ++ [n]).getD i 0 = pre.getD i 0 := by rw [snoc_getD, if_pos h]
theorem snoc_at (pre : List Int) (n : Int) : (pre ++ [n]).getD pre.length 0 = n := by rw [snoc_getD, if_neg (by omega), if_pos rfl]
theorem agr_snoc (pre : List Int) (n : Int) (g : Nat → Int) : Agr (pre ++ [n]) g ↔ Agr pre g ∧ g pre.length = n := by
  constructor
  · intro h
    refine ⟨fun i hi => ?_, ?_⟩
    · rw [h i (by simp; omega), snoc_lt _ _ _ hi]
    · rw [h pre.length (by simp), snoc_at]
  · rintro ⟨h, hn⟩ i hi
    by_cases e : i < pre.length
    · rw [snoc_lt _ _ _ e]; exact h i e
    · obtain rfl : i = pre.length := by simp at hi; omega
      rw [snoc_at, hn]

theorem path_lt {k : Rk} {pre : List Int} (h : pre.length ≤ k.p) : path k pre = [] := if_neg (by omega)
/-- What goes on stays a beginning. -/
theorem ok_snoc {rks : List Rk} (hf : Fit rks) {pre : List Int} {n : Int} (ho : OkP rks pre) (hc : Com rks pre n) : OkP rks (pre ++ [n]) := by
  intro k hk hp
  have hle := hf.le k hk
  have hr := hf.rise k hk
  rw [List.length_append, List.length_singleton] at hp
  rw [List.length_append, List.length_singleton]
  by_cases e : k.p < pre.length
  · rw [snoc_lt _ _ _ e]
    by_cases e2 : k.q = pre.length
    · have := hc k hk (.inr e2)
      unfold path at this
      rw [if_pos e, if_neg (by omega)] at this
      obtain ⟨r, h1, h2, h3⟩ := (lvl_one hr _ _).1 this
      exact ⟨r, h1, h2, fun _ _ => by rw [e2, snoc_at]; exact h3⟩
    · obtain ⟨r, h1, h2, h3⟩ := ho k hk e
      exact ⟨r, h1, h2, fun h4 h5 => by rw [snoc_lt _ _ _ (by omega)]; exact h3 h4 (by omega)⟩
  · have e' : k.p = pre.length := by omega
    have := hc k hk (.inl e')
    rw [path_lt (by omega)] at this
    obtain ⟨r, h1, h2⟩ := (lvl_nil hr _).1 this
    exact ⟨r, h1, by rw [e', snoc_at]; exact h2, fun h4 h5 => by omega⟩
theorem ok_nil (rks : List Rk) : OkP rks [] := fun _ _ h => absurd h (by simp)
/-- All ranks have values: a choice. -/
theorem ok_all {rks : List Rk} {pre : List Int} (ho : OkP rks pre) (hl : ∀ k ∈ rks, k.p < pre.length ∧ k.q < pre.length) : ∃ g, SatR rks g ∧ Agr pre g :=
  ⟨fun i => pre.getD i 0, fun k hk => by
    obtain ⟨r, h1, h2, h3⟩ := ho k hk (hl k hk).1
    exact ⟨r, h1, h2, fun h => h3 h (hl k hk).2⟩, fun _ _ => rfl⟩
/-- A choice's next number is one that all have. -/
theorem com_of {rks : List Rk} (hf : Fit rks) {pre : List Int} {g : Nat → Int} (hs : SatR rks g) (ha : Agr pre g) : Com rks pre (g pre.length) := by
  intro k hk hl
  have hle := hf.le k hk
  have hr := hf.rise k hk
  obtain ⟨r, h1, h2, h3⟩ := hs k hk
  unfold path
  by_cases e : k.p < pre.length
  · have e2 : k.q = pre.length := by rcases hl with h | h <;> omega
    rw [if_pos e, if_neg (by omega)]
    exact (lvl_one hr _ _).2 ⟨r, h1, by rw [h2, ha _ e], by rw [← e2]; exact h3 (by omega)⟩
  · rw [if_neg e]
    have e2 : k.p = pre.length := by rcases hl with h | h <;> omega
    exact (lvl_nil hr _).2 ⟨r, h1, by rw [h2, e2]⟩

/-! ### Rows below a bound -/
def rowOf (keep : Nat) (g : Nat → Int) : List Int := (List.range keep).map g
def PB (rks : List Rk) (keep : Nat) (pre : List Int) (B : Int → Prop) (row : List Int) : Prop := ∃ g, SatR rks g ∧ Agr pre g ∧ B (g pre.length) ∧ row = rowOf keep g
def P (rks : List Rk) (keep : Nat) (pre : List Int) (row : List Int) : Prop := ∃ g, SatR rks g ∧ Agr pre g ∧ row = rowOf keep g
structure IsE (Q : List Int → Prop) (E : List (List Int)) : Prop where
  rise : E.Pairwise lexLt
  mem : ∀ row, row ∈ E ↔ Q row

theorem lex_from (g g' : Nat → Int) (k : Nat) (hlt : g k < g' k) : ∀ (m s : Nat), s ≤ k → k < s + m → (∀ i, s ≤ i → i < k → g i = g' i) → lexLt ((List.range' s m).map g) ((List.range' s m).map g')
  | 0, s, h1, h2, _ => by omega
  | m + 1, s, h1, h2, h => by
    rw [List.range'_succ, List.map_cons, List.map_cons]
    by_cases e : s = k
    · subst e; exact .inl hlt
    · exact .inr ⟨h s (Nat.le_refl _) (by omega), lex_from g g' k hlt m (s + 1) (by omega) (by omega) (fun i h3 h4 => h i (by omega) h4)⟩
theorem lex_row (g g' : Nat → Int) (k keep : Nat) (hk : k < keep) (hlt : g k < g' k) (h : ∀ i, i < k → g i = g' i) : lexLt (rowOf keep g) (rowOf keep g') := by
  unfold rowOf
  rw [List.range_eq_range']
  exact lex_from g g' k hlt keep 0 (by omega) (by omega) (fun i _ h4 => h i h4)

/-- Nothing has been gone through yet. -/
theorem isE_start {rks : List Rk} (hf : Fit rks) {keep : Nat} {pre : List Int} {b : Int} (h : ∀ c, Com rks pre c → b ≤ c) : IsE (PB rks keep pre (· < b)) [] :=
  ⟨List.Pairwise.nil, fun row => ⟨fun h => absurd h (by simp), fun ⟨g, h1, h2, h3, _⟩ => by have := h _ (com_of hf h1 h2); omega⟩⟩
/-- One number more. -/
theorem isE_step {rks : List Rk} (hf : Fit rks) {keep : Nat} {pre : List Int} {b n : Int} {E En : List (List Int)} (h : IsE (PB rks keep pre (· < b)) E) (hn : ∀ c, Com rks pre c → b ≤ c → n ≤ c) (hbn : b ≤ n) (h2 : IsE (P rks keep (pre ++ [n])) En) (hk : pre.length < keep) :
    IsE (PB rks keep pre (· < n + 1)) (E ++ En) := by
  refine ⟨List.pairwise_append.2 ⟨h.rise, h2.rise, fun x hx y hy => ?_⟩, fun row => ?_⟩
  · obtain ⟨g, _, a2, a3, rfl⟩ := (h.mem x).1 hx
    obtain ⟨g', _, b2, rfl⟩ := (h2.mem y).1 hy
    obtain ⟨c1, c2⟩ := (agr_snoc _ _ _).1 b2
    exact lex_row g g' pre.length keep hk (by omega) (fun i hi => by rw [a2 i hi, c1 i hi])
  · rw [List.mem_append, h.mem, h2.mem]
    constructor
    · rintro (⟨g, a1, a2, a3, a4⟩ | ⟨g, a1, a2, a4⟩)
      · exact ⟨g, a1, a2, by omega, a4⟩
      · obtain ⟨c1, c2⟩ := (agr_snoc _ _ _).1 a2
        exact ⟨g, a1, c1, by omega, a4⟩
    · rintro ⟨g, a1, a2, a3, a4⟩
      by_cases e : g pre.length < b
      · exact .inl ⟨g, a1, a2, e, a4⟩
      · have := hn _ (com_of hf a1 a2) (by omega)
        exact .inr ⟨g, a1, (agr_snoc _ _ _).2 ⟨a2, by omega⟩, a4⟩
theorem isE_end {rks : List Rk} (hf : Fit rks) {keep : Nat} {pre : List Int} {b : Int} {E : List (List Int)} (h : IsE (PB rks keep pre (· < b)) E) (hn : ∀ c, Com rks pre c → ¬ b ≤ c) : IsE (P rks keep pre) E :=
  ⟨h.rise, fun row => (h.mem row).trans ⟨fun ⟨g, a1, a2, _, a4⟩ => ⟨g, a1, a2, a4⟩, fun ⟨g, a1, a2, a4⟩ => ⟨g, a1, a2, by have := hn _ (com_of hf a1 a2); omega, a4⟩⟩⟩
/-- The last of the ranks that are kept. -/
theorem isE_last {rks : List Rk} {keep : Nat} {pre : List Int} (hk : pre.length = keep) (f : Bool) (hff : f = true ↔ ∃ g, SatR rks g ∧ Agr pre g) : IsE (P rks keep pre) (if f = true then [pre] else []) := by
  have row : ∀ g, Agr pre g → rowOf keep g = pre := fun g ha => by
    unfold rowOf
    refine List.ext_getElem (by simp [hk]) fun i h1 h2 => ?_
    rw [List.getElem_map, List.getElem_range, ha i h2, getD_lt _ _ h2]
  cases f with
  | true =>
    obtain ⟨g, a1, a2⟩ := hff.1 rfl
    refine ⟨by simp, fun r => ?_⟩
    rw [if_pos rfl, List.mem_singleton]
    exact ⟨fun e => ⟨g, a1, a2, by rw [e, row g a2]⟩, fun ⟨g, _, b2, e⟩ => by rw [e, row g b2]⟩
  | false =>
    refine ⟨by simp, fun r => ?_⟩
    rw [if_neg (by simp)]
    exact ⟨fun e => absurd e (by simp), fun ⟨g, b1, b2, _⟩ => by have := hff.2 ⟨g, b1, b2⟩; simp at this⟩

/-! ### Whether there is a choice -/
def Ex (rks : List Rk) (pre : List Int) (B : Int → Prop) : Prop := ∃ g, SatR rks g ∧ Agr pre g ∧ B (g pre.length)
def ExA (rks : List Rk) (pre : List Int) : Prop := ∃ g, SatR rks g ∧ Agr pre g
theorem ex_start {rks : List Rk} (hf : Fit rks) {pre : List Int} {b : Int} (h : ∀ c, Com rks pre c → b ≤ c) : ¬ Ex rks pre (· < b) := fun ⟨g, h1, h2, h3⟩ => by have := h _ (com_of hf h1 h2); omega
theorem ex_step {rks : List Rk} (hf : Fit rks) {pre : List Int} {b n : Int} (hn : ∀ c, Com rks pre c → b ≤ c → n ≤ c) (hbn : b ≤ n) : Ex rks pre (· < n + 1) ↔ Ex rks pre (· < b) ∨ ExA rks (pre ++ [n]) := by
  constructor
  · rintro ⟨g, a1, a2, a3⟩
    by_cases e : g pre.length < b
    · exact .inl ⟨g, a1, a2, e⟩
    · have := hn _ (com_of hf a1 a2) (by omega)
      exact .inr ⟨g, a1, (agr_snoc _ _ _).2 ⟨a2, by omega⟩⟩
  · rintro (⟨g, a1, a2, a3⟩ | ⟨g, a1, a2⟩)
    · exact ⟨g, a1, a2, by omega⟩
    · obtain ⟨c1, c2⟩ := (agr_snoc _ _ _).1 a2
      exact ⟨g, a1, c1, by omega⟩
theorem ex_end {rks : List Rk} (hf : Fit rks) {pre : List Int} {b : Int} (hn : ∀ c, Com rks pre c → ¬ b ≤ c) : ExA rks pre ↔ Ex rks pre (· < b) :=
  ⟨fun ⟨g, a1, a2⟩ => ⟨g, a1, a2, by have := hn _ (com_of hf a1 a2); omega⟩, fun ⟨g, a1, a2, _⟩ => ⟨g, a1, a2⟩⟩
theorem ex_all {rks : List Rk} {pre : List Int} {B : Int → Prop} (h : Ex rks pre B) : ExA rks pre := let ⟨g, a1, a2, _⟩ := h; ⟨g, a1, a2⟩
end Go.Proofs.Ytejinhnmabnomaa.Lf
end
section
/-
  Walks that leap after one another, in plain words. No condition.
-/
namespace Go.Proofs.Ytejinhnmabnomaa.Lf
open Go.Proofs.Ytejinhnmabnomaa.Pm Go.Proofs.Ytejinhnmabnomaa.Pw

/-- The number at which a walk stands below p. -/
def ky (p : List Int) (r : RS) : Int := r.at_.getD p.length 0
/-- A walk stands at, or behind, the numbers below p. -/
structure On (L : List R3) (p : List Int) (r : RS) : Prop where
  len : r.at_.length = p.length + 1
  pre : r.at_.take p.length = p
  mem : r.beh = false → ky p r ∈ lvl L o1 p
theorem On.key {L : List R3} {p : List Int} {r : RS} (h : On L p r) : rKey r = if r.beh = true then (0, false) else (ky p r, true) := by
  unfold rKey
  have := h.len
  cases e : r.beh with
  | true => simp
  | false => rw [if_neg (fun h2 => h2.elim (fun h2 => by omega) (fun h2 => nomatch h2)), if_neg (by simp), h.len]; rfl
theorem On.key2 {L : List R3} {p : List Int} {r : RS} (h : On L p r) : (rKey r).2 = !r.beh := by rw [h.key]; cases r.beh <;> rfl
theorem On.key1 {L : List R3} {p : List Int} {r : RS} (h : On L p r) (hb : r.beh = false) : (rKey r).1 = ky p r := by rw [h.key, hb]; rfl
theorem rise_lvl {L : List R3} (hL : L.Pairwise (ltR o1)) (p : List Int) (hp : p.length ≤ 2) : (lvl L o1 p).Pairwise (· < ·) := (lvl_sorted L o1 p hL hp).1
theorem find_first (n : Int) : ∀ (l : List Int), l.Pairwise (· < ·) → (∃ c ∈ l, n ≤ c) → ∃ x, l.find? (fun x => decide (n ≤ x)) = some x ∧ x ∈ l ∧ n ≤ x ∧ ∀ c ∈ l, n ≤ c → x ≤ c
  | [], _, h => absurd h (by simp)
  | a :: l, hp, h => by
    obtain ⟨p1, p2⟩ := List.pairwise_cons.1 hp
    by_cases e : n ≤ a
    · refine ⟨a, List.find?_cons_of_pos (by simpa using e), by simp, e, fun c hc _ => ?_⟩
      rcases List.mem_cons.1 hc with rfl | hc
      · exact Int.le_refl _
      · have := p1 c hc; omega
    · obtain ⟨c, hc, hn⟩ := h
      have hc' : c ∈ l := (List.mem_cons.1 hc).resolve_left (fun e2 => e (by rw [← e2]; exact hn))
      obtain ⟨x, h1, h2, h3, h4⟩ := find_first n l p2 ⟨c, hc', hn⟩
      refine ⟨x, by rw [List.find?_cons_of_neg (by simpa using e)]; exact h1, by simp [h2], h3, fun c hc hn => ?_⟩
      rcases List.mem_cons.1 hc with rfl | hc
      · exact absurd hn e
      · exact h4 c hc hn
/-- What a walk's going to n brings. -/
structure To (L : List R3) (p : List Int) (r r' : RS) (n : Int) : Prop where
  on : On L p r'
  ge : r'.beh = false → n ≤ ky p r'
  le : ∀ c ∈ lvl L o1 p, n ≤ c → r'.beh = false ∧ ky p r' ≤ c
theorem to_to {L : List R3} (hL : L.Pairwise (ltR o1)) {p : List Int} (hp : p.length ≤ 2) {r : RS} (h : On L p r) (n : Int) (hb : r.beh = false) : To L p r (rTo L o1 r n) n := by
  have hlen := h.len
  have hpre : r.at_.take (r.at_.length - 1) = p := by rw [hlen]; exact h.pre
  unfold rTo
  rw [hpre]
  by_cases e : ∃ c ∈ lvl L o1 p, n ≤ c
  · obtain ⟨x, h1, h2, h3, h4⟩ := find_first n _ (rise_lvl hL p hp) e
    rw [h1]
    have hk : ky p ⟨p ++ [x], r.beh⟩ = x := by
      show (p ++ [x]).getD p.length 0 = x
      exact snoc_at p x
    refine ⟨⟨by simp, by simp, fun _ => ?_⟩, fun _ => ?_, fun c hc hn => ⟨hb, ?_⟩⟩
    · rw [hk]; exact h2
    · rw [hk]; exact h3
    · rw [hk]; exact h4 c hc hn
  · have h1 : (lvl L o1 p).find? (fun x => decide (n ≤ x)) = none := by
      rw [List.find?_eq_none]
      intro y hy
      simp only [decide_eq_true_eq]
      exact fun hn => e ⟨y, hy, hn⟩
    rw [h1]
    exact ⟨⟨h.len, h.pre, (fun h => nomatch h)⟩, (fun h => nomatch h), fun c hc hn => absurd ⟨c, hc, hn⟩ e⟩
/-- Seeking, from a walk that stands ahead of n. -/
theorem seek_to {L : List R3} (hL : L.Pairwise (ltR o1)) {p : List Int} (hp : p.length ≤ 2) {r : RS} (h : On L p r) (n : Int) (hb : r.beh = false) (hn : ky p r < n) : To L p r (rSeek L o1 r n).1 n := by
  unfold rSeek
  rw [if_neg (by rw [h.key2, hb]; simp), if_neg (by rw [h.key1 hb]; omega)]
  exact to_to hL hp h n hb
theorem next_to {L : List R3} (hL : L.Pairwise (ltR o1)) {p : List Int} (hp : p.length ≤ 2) {r : RS} (h : On L p r) (hb : r.beh = false) (ht : ∀ c ∈ lvl L o1 p, c ≤ 9223372036854775807) : To L p r (rNext L o1 r).1 (ky p r + 1) := by
  unfold rNext
  rw [if_neg (by rw [h.key2, hb]; simp), h.key1 hb]
  by_cases e : ky p r = 9223372036854775807
  · rw [if_pos e]
    exact ⟨⟨h.len, h.pre, (fun h => nomatch h)⟩, (fun h => nomatch h), fun c hc hn => by have := ht c hc; omega⟩
  · rw [if_neg e]
    exact to_to hL hp h _ hb

/-! ### Several walks -/
/-- How many numbers a walk still has. -/
def rem (L : List R3) (p : List Int) (r : RS) : Nat := if r.beh = true then 0 else 1 + ((lvl L o1 p).filter fun x => decide (ky p r < x)).length
theorem rem_to {L : List R3} {p : List Int} {r r' : RS} {n : Int} (h : To L p r r' n) (hr : r.beh = false) (hn : ky p r < n) : rem L p r' < rem L p r := by
  unfold rem
  rw [hr, if_neg (show ¬ (false = true) by simp)]
  cases e : r'.beh with
  | true => simp; omega
  | false =>
    rw [if_neg (by simp)]
    have hg := h.ge e
    have hm := h.on.mem e
    have : ∀ (l : List Int), ((l.filter fun x => decide (ky p r' < x)).length ≤ (l.filter fun x => decide (ky p r < x)).length) ∧ (ky p r' ∈ l → (l.filter fun x => decide (ky p r' < x)).length < (l.filter fun x => decide (ky p r < x)).length) := by
      intro l
      induction l with
      | nil => simp
      | cons a l ih =>
        simp only [List.filter_cons, decide_eq_true_eq]
        constructor
        · split
          · rw [if_pos (by omega)]; simp; exact ih.1
          · split
            · simp; have := ih.1; omega
            · exact ih.1
        · intro hmem
          by_cases e2 : ky p r' = a
          · rw [if_neg (by omega), if_pos (by omega)]
            simp; have := ih.1; omega
          · have := ih.2 ((List.mem_cons.1 hmem).resolve_left e2)
            split
            · rw [if_pos (by omega)]; simp; exact this
            · split
              · simp; omega
              · exact this
    have := (this (lvl L o1 p)).2 hm
    omega
def sumTo (f : Nat → Nat) : Nat → Nat
  | 0 => 0
  | n + 1 => sumTo f n + f n
theorem sumTo_lt (f g : Nat → Nat) (m : Nat) : ∀ n, m < n → (∀ i, i < n → i ≠ m → f i = g i) → f m < g m → sumTo f n < sumTo g n
  | 0, h, _, _ => absurd h (by omega)
  | n + 1, h, he, hl => by
    have hle : ∀ k, k ≤ n + 1 → (∀ i, i < k → f i = g i) → sumTo f k = sumTo g k := fun k => by
      induction k with
      | zero => intro _ _; rfl
      | succ k ih => intro hk hh; show sumTo f k + f k = sumTo g k + g k; rw [ih (by omega) (fun i hi => hh i (by omega)), hh k (by omega)]
    show sumTo f n + f n < sumTo g n + g n
    by_cases e : m = n
    · subst e
      rw [hle m (by omega) (fun i hi => he i (by omega) (by omega))]; omega
    · have := sumTo_lt f g m n (by omega) (fun i hi hn => he i (by omega) hn) hl
      rw [he n (by omega) (fun e2 => e e2.symm)]; omega

/-- Walks at the numbers of one variable, none of which is ahead of b and no common number from b on behind them. -/
structure Lp (n : Nat) (L : Nat → List R3) (p : Nat → List Int) (b : Int) (r : Nat → RS) : Prop where
  on : ∀ i, i < n → On (L i) (p i) (r i)
  ge : ∃ i, i < n ∧ ((r i).beh = false → b ≤ ky (p i) (r i))
  fin : ∀ c, (∀ i, i < n → c ∈ lvl (L i) o1 (p i)) → b ≤ c → ∀ i, i < n → (r i).beh = false ∧ ky (p i) (r i) ≤ c
def setR (r : Nat → RS) (m : Nat) (x : RS) : Nat → RS := fun i => if i = m then x else r i
theorem setR_self (r : Nat → RS) (m : Nat) (x : RS) : setR r m x m = x := if_pos rfl
theorem setR_ne (r : Nat → RS) (m : Nat) (x : RS) (i : Nat) (h : i ≠ m) : setR r m x i = r i := if_neg h
/-- The walk m goes to the greatest number, at which the walk g stands. -/
theorem Lp.seek {n : Nat} {L : Nat → List R3} {p : Nat → List Int} {b : Int} {r : Nat → RS} (h : Lp n L p b r) (hL : ∀ i, i < n → (L i).Pairwise (ltR o1)) (hp : ∀ i, i < n → (p i).length ≤ 2) {m g : Nat} (hm : m < n) (hg : g < n) (hbm : (r m).beh = false) (_hbg : (r g).beh = false) (hlt : ky (p m) (r m) < ky (p g) (r g)) :
    Lp n L p b (setR r m (rSeek (L m) o1 (r m) (ky (p g) (r g))).1) ∧ sumTo (fun i => rem (L i) (p i) (setR r m (rSeek (L m) o1 (r m) (ky (p g) (r g))).1 i)) n < sumTo (fun i => rem (L i) (p i) (r i)) n := by
  have ht := seek_to (hL m hm) (hp m hm) (h.on m hm) _ hbm hlt
  generalize (rSeek (L m) o1 (r m) (ky (p g) (r g))).1 = x at *
  refine ⟨⟨fun i hi => ?_, ?_, fun c hc hbc i hi => ?_⟩, sumTo_lt _ _ m n hm (fun i hi hne => by rw [setR_ne _ _ _ _ hne]) (by rw [setR_self]; exact rem_to ht hbm hlt)⟩
  · by_cases e : i = m
    · subst e; rw [setR_self]; exact ht.on
    · rw [setR_ne _ _ _ _ e]; exact h.on i hi
  · obtain ⟨i, hi, hge⟩ := h.ge
    refine ⟨i, hi, fun hb => ?_⟩
    by_cases e : i = m
    · subst e
      rw [setR_self] at hb ⊢
      have := ht.ge hb
      have := hge hbm
      omega
    · rw [setR_ne _ _ _ _ e] at hb ⊢; exact hge hb
  · by_cases e : i = m
    · subst e
      rw [setR_self]
      exact ht.le c (hc i hi) (h.fin c hc hbc g hg).2
    · rw [setR_ne _ _ _ _ e]; exact h.fin c hc hbc i hi
/-- Behind a number x at which all stand: the first walk goes on. -/
theorem Lp.next {n : Nat} {L : Nat → List R3} {p : Nat → List Int} {x : Int} {r : Nat → RS} (hon : ∀ i, i < n → On (L i) (p i) (r i)) (hx : ∀ i, i < n → (r i).beh = false ∧ ky (p i) (r i) = x) (hL : ∀ i, i < n → (L i).Pairwise (ltR o1)) (hp : ∀ i, i < n → (p i).length ≤ 2) (hn : 0 < n) (ht : ∀ c ∈ lvl (L 0) o1 (p 0), c ≤ 9223372036854775807) :
    Lp n L p (x + 1) (setR r 0 (rNext (L 0) o1 (r 0)).1) := by
  have h0 := next_to (hL 0 hn) (hp 0 hn) (hon 0 hn) (hx 0 hn).1 ht
  rw [(hx 0 hn).2] at h0
  refine ⟨fun i hi => ?_, ⟨0, hn, fun hb => by rw [setR_self] at hb ⊢; exact h0.ge hb⟩, fun c hc hbc i hi => ?_⟩
  · by_cases e : i = 0
    · subst e; rw [setR_self]; exact h0.on
    · rw [setR_ne _ _ _ _ e]; exact hon i hi
  · by_cases e : i = 0
    · subst e; rw [setR_self]; exact h0.le c (hc 0 hi) hbc
    · rw [setR_ne _ _ _ _ e]; have := hx i hi; exact ⟨this.1, by omega⟩
/-- All stand at one number: it is the first common one from b on. -/
theorem Lp.hit {n : Nat} {L : Nat → List R3} {p : Nat → List Int} {b x : Int} {r : Nat → RS} (h : Lp n L p b r) (hx : ∀ i, i < n → (r i).beh = false ∧ ky (p i) (r i) = x) (hn : 0 < n) :
    b ≤ x ∧ (∀ i, i < n → x ∈ lvl (L i) o1 (p i)) ∧ ∀ c, (∀ i, i < n → c ∈ lvl (L i) o1 (p i)) → b ≤ c → x ≤ c := by
  refine ⟨?_, fun i hi => ?_, fun c hc hb => ?_⟩
  · obtain ⟨i, hi, hg⟩ := h.ge
    have := hg (hx i hi).1
    rw [(hx i hi).2] at this
    exact this
  · have := (h.on i hi).mem (hx i hi).1
    rw [(hx i hi).2] at this
    exact this
  · have := (h.fin c hc hb 0 hn).2
    rw [(hx 0 hn).2] at this
    exact this
/-- One is behind: there is no common number from b on. -/
theorem Lp.miss {n : Nat} {L : Nat → List R3} {p : Nat → List Int} {b : Int} {r : Nat → RS} (h : Lp n L p b r) (hx : ∃ i, i < n ∧ (r i).beh = true) : ∀ c, (∀ i, i < n → c ∈ lvl (L i) o1 (p i)) → ¬ b ≤ c := fun c hc hb => by
  obtain ⟨i, hi, h1⟩ := hx
  have := (h.fin c hc hb i hi).1
  rw [h1] at this
  cases this
end Go.Proofs.Ytejinhnmabnomaa.Lf
end
section
/-
  A visit of a variable, in plain words: walks that are opened, rows so far, and what remains. No condition.
-/
namespace Go.Proofs.Ytejinhnmabnomaa.Lf
open Go.Proofs.Ytejinhnmabnomaa.Pm Go.Proofs.Ytejinhnmabnomaa.Pw

/-- Rows that rise and are all of a kind. -/
structure IsS (Q : List Int → Prop) (E : List (List Int)) : Prop where
  rise : E.Pairwise lexLt
  sub : ∀ row ∈ E, Q row
theorem IsE.toS {Q : List Int → Prop} {E : List (List Int)} (h : IsE Q E) : IsS Q E := ⟨h.rise, fun row hr => (h.mem row).1 hr⟩
theorem isS_nil (Q : List Int → Prop) : IsS Q [] := ⟨List.Pairwise.nil, fun _ h => absurd h (by simp)⟩
theorem isS_step {rks : List Rk} {keep : Nat} {pre : List Int} {b n : Int} {E En : List (List Int)} (h : IsE (PB rks keep pre (· < b)) E) (hbn : b ≤ n) (h2 : IsS (P rks keep (pre ++ [n])) En) (hk : pre.length < keep) :
    IsS (P rks keep pre) (E ++ En) := by
  refine ⟨List.pairwise_append.2 ⟨h.rise, h2.rise, fun x hx y hy => ?_⟩, fun row hr => ?_⟩
  · obtain ⟨g, _, a2, a3, rfl⟩ := (h.mem x).1 hx
    obtain ⟨g', _, b2, rfl⟩ := h2.sub y hy
    obtain ⟨c1, c2⟩ := (agr_snoc _ _ _).1 b2
    exact lex_row g g' pre.length keep hk (by omega) (fun i hi => by rw [a2 i hi, c1 i hi])
  · rcases List.mem_append.1 hr with hr | hr
    · obtain ⟨g, a1, a2, _, a4⟩ := (h.mem row).1 hr
      exact ⟨g, a1, a2, a4⟩
    · obtain ⟨g, a1, a2, a4⟩ := h2.sub row hr
      exact ⟨g, a1, ((agr_snoc _ _ _).1 a2).1, a4⟩

/-! ### Paths -/
theorem path_on {k : Rk} {pre : List Int} (hle : k.p ≤ k.q) (h : onLevel k pre.length) : (path k pre).length ≤ 1 := by
  unfold path
  split
  · rw [if_neg (by rcases h with h | h <;> omega)]; simp
  · simp
theorem path_le2 (k : Rk) (pre : List Int) : (path k pre).length ≤ 2 := by
  unfold path
  split
  · split <;> simp
  · simp
theorem path_snoc_on {k : Rk} {pre : List Int} (hle : k.p ≤ k.q) (h : onLevel k pre.length) (n : Int) : path k (pre ++ [n]) = path k pre ++ [n] := by
  unfold path
  rw [List.length_append, List.length_singleton]
  by_cases e : k.p < pre.length
  · have e2 : k.q = pre.length := by rcases h with h | h <;> omega
    rw [if_pos (by omega), if_pos e, if_pos ⟨by omega, by omega⟩, if_neg (by omega), snoc_lt _ _ _ e, e2, snoc_at]
    rfl
  · have e2 : k.p = pre.length := by rcases h with h | h <;> omega
    rw [if_pos (by omega), if_neg e, if_neg (by omega), e2, snoc_at]
    rfl
theorem path_snoc_off {k : Rk} {pre : List Int} (h : ¬ onLevel k pre.length) (n : Int) : path k (pre ++ [n]) = path k pre := by
  have h1 : k.p ≠ pre.length := fun e => h (.inl e)
  have h2 : k.q ≠ pre.length := fun e => h (.inr e)
  unfold path
  rw [List.length_append, List.length_singleton]
  by_cases e : k.p < pre.length
  · rw [if_pos (by omega), if_pos e, snoc_lt _ _ _ e]
    by_cases e2 : k.p ≠ k.q ∧ k.q < pre.length
    · rw [if_pos ⟨e2.1, by omega⟩, if_pos e2, snoc_lt _ _ _ e2.2]
    · rw [if_neg (by omega), if_neg e2]
  · rw [if_neg (by omega), if_neg e]

/-! ### Walks between two visits -/
def s0 (k : Rk) (pre : List Int) : RS := ⟨path k pre, false⟩
theorem open_none {k : Rk} {pre : List Int} (h : k.L.length = 0) : rOpen k.L o1 (s0 k pre) = (s0 k pre, 3) := by
  unfold rOpen; rw [if_pos (.inr (.inr h))]
theorem open_some {k : Rk} {pre : List Int} (hle : k.p ≤ k.q) (ho : onLevel k pre.length) (h : k.L.length ≠ 0) : rOpen k.L o1 (s0 k pre) = (⟨path k pre ++ [(lvl k.L o1 (path k pre)).getD 0 0], false⟩, 0) := by
  unfold rOpen
  have hp := path_on hle ho
  rw [if_neg (by
    rintro (e | e | e)
    · have e : (path k pre).length = 3 := e
      omega
    · cases e
    · exact h e)]
  rfl
theorem head_le {l : List Int} (hs : l.Pairwise (· < ·)) {c : Int} (hc : c ∈ l) : l.getD 0 0 ≤ c := by
  cases l with
  | nil => cases hc
  | cons a l =>
    rcases List.mem_cons.1 hc with rfl | hc
    · exact Int.le_refl _
    · have := (List.pairwise_cons.1 hs).1 c hc
      show a ≤ c
      omega
theorem head_mem {l : List Int} (h : 0 < l.length) : l.getD 0 0 ∈ l := by
  cases l with
  | nil => cases h
  | cons a l => simp
theorem ky_snoc (p : List Int) (x : Int) (b : Bool) : ky p ⟨p ++ [x], b⟩ = x := snoc_at p x
theorem on_first {L : List R3} {p : List Int} (h : 0 < (lvl L o1 p).length) : On L p ⟨p ++ [(lvl L o1 p).getD 0 0], false⟩ :=
  ⟨by simp, by simp, fun _ => by rw [ky_snoc]; exact head_mem h⟩
theorem on_eq {L : List R3} {p : List Int} {r : RS} (h : On L p r) (hb : r.beh = false) {x : Int} (hx : ky p r = x) : r = ⟨p ++ [x], false⟩ := by
  obtain ⟨a, b⟩ := r
  have hb : b = false := hb
  subst hb
  have h1 : a.length = p.length + 1 := h.len
  have h2 : a.take p.length = p := h.pre
  have h3 : a.getD p.length 0 = x := hx
  have : a = p ++ [x] := by
    rw [← List.take_append_drop p.length a, h2]
    congr 1
    rw [List.drop_eq_getElem_cons (by omega), List.drop_eq_nil_of_le (by omega), ← h3, getD_lt _ _ (by omega)]
  rw [this]
theorem on_up {L : List R3} {p : List Int} {r : RS} (h : On L p r) : (rUp r).1 = ⟨p, false⟩ := by
  unfold rUp
  rw [if_neg (by have := h.len; omega)]
  show RS.mk (r.at_.take (r.at_.length - 1)) false = _
  rw [h.len, Nat.add_sub_cancel, h.pre]

/-- All at the first of their numbers. -/
theorem lp_start {n : Nat} {L : Nat → List R3} {p : Nat → List Int} {r : Nat → RS} (hL : ∀ i, i < n → (L i).Pairwise (ltR o1)) (hp : ∀ i, i < n → (p i).length ≤ 2) (hn : 0 < n) (hr : ∀ i, i < n → r i = ⟨p i ++ [(lvl (L i) o1 (p i)).getD 0 0], false⟩ ∧ 0 < (lvl (L i) o1 (p i)).length) :
    Lp n L p ((lvl (L 0) o1 (p 0)).getD 0 0) r := by
  refine ⟨fun i hi => by rw [(hr i hi).1]; exact on_first (hr i hi).2, ⟨0, hn, fun _ => by rw [(hr 0 hn).1, ky_snoc]; exact Int.le_refl _⟩, fun c hc _ i hi => ?_⟩
  rw [(hr i hi).1, ky_snoc]
  exact ⟨rfl, head_le (rise_lvl (hL i hi) _ (hp i hi)) (hc i hi)⟩
/-- How many numbers from b on there are. -/
def cnt (l : List Int) (b : Int) : Nat := (l.filter fun c => decide (b ≤ c)).length
theorem cnt_lt {b x : Int} (hb : b ≤ x) : ∀ {l : List Int}, x ∈ l → cnt l (x + 1) < cnt l b := by
  have hle : ∀ l : List Int, cnt l (x + 1) ≤ cnt l b := fun l => by
    unfold cnt
    induction l with
    | nil => simp
    | cons a l ih =>
      rw [List.filter_cons, List.filter_cons]
      by_cases e : x + 1 ≤ a
      · rw [if_pos (by simpa using e), if_pos (by simp; omega)]; simp; exact ih
      · rw [if_neg (by simpa using e)]
        split
        · simp; omega
        · exact ih
  intro l
  induction l with
  | nil => intro h; cases h
  | cons a l ih =>
    intro h
    have h1 := hle l
    unfold cnt at *
    rw [List.filter_cons, List.filter_cons]
    by_cases e : a = x
    · subst e
      rw [if_neg (by simp; omega), if_pos (by simpa using hb)]
      simp; omega
    · have := ih ((List.mem_cons.1 h).resolve_left (fun e2 => e e2.symm))
      by_cases e2 : x + 1 ≤ a
      · rw [if_pos (by simpa using e2), if_pos (by simp; omega)]; simp; exact this
      · rw [if_neg (by simpa using e2)]
        split
        · simp; omega
        · exact this

/-! ### Relations by numbers -/
def rksOf (m : Nat) (rk : Nat → Rk) : List Rk := (List.range m).map rk
theorem mem_rksOf {m : Nat} {rk : Nat → Rk} {k : Rk} : k ∈ rksOf m rk ↔ ∃ r, r < m ∧ rk r = k := by
  unfold rksOf; simp
theorem row_at (row : List Nat) {i : Nat} (h : i < row.length) : row.getD i 0 ∈ row := by
  rw [List.getD_eq_getElem?_getD, List.getElem?_eq_getElem h]; exact List.getElem_mem h
theorem com_iff {m : Nat} {rk : Nat → Rk} {pre : List Int} {row : List Nat} (hrow : ∀ r, r ∈ row ↔ r < m ∧ onLevel (rk r) pre.length) (c : Int) :
    Com (rksOf m rk) pre c ↔ ∀ i, i < row.length → c ∈ lvl (rk (row.getD i 0)).L o1 (path (rk (row.getD i 0)) pre) := by
  constructor
  · intro h i hi
    obtain ⟨h1, h2⟩ := (hrow _).1 (row_at row hi)
    exact h _ (mem_rksOf.2 ⟨_, h1, rfl⟩) h2
  · intro h k hk ho
    obtain ⟨r, hr, rfl⟩ := mem_rksOf.1 hk
    obtain ⟨i, hi, e⟩ := List.getElem_of_mem ((hrow r).2 ⟨hr, ho⟩)
    have := h i hi
    rwa [List.getD_eq_getElem?_getD, List.getElem?_eq_getElem hi, Option.getD_some, e] at this
/-- States of some relations put in. -/
def lift (row : List Nat) (a : Nat → RS) (rs : Nat → RS) : Nat → RS := fun r => if r ∈ row then a (row.idxOf r) else rs r
theorem lift_in {row : List Nat} (hn : row.Nodup) (a rs : Nat → RS) {i : Nat} (hi : i < row.length) : lift row a rs (row.getD i 0) = a i := by
  unfold lift
  rw [if_pos (row_at row hi), List.getD_eq_getElem?_getD, List.getElem?_eq_getElem hi, Option.getD_some, hn.idxOf_getElem i hi]
theorem lift_out {row : List Nat} (a rs : Nat → RS) {r : Nat} (h : r ∉ row) : lift row a rs r = rs r := if_neg h
theorem none_of {m : Nat} {rk : Nat → Rk} {pre : List Int} {r : Nat} (hr : r < m) (h : (rk r).L.length = 0) : ¬ ExA (rksOf m rk) pre := fun ⟨g, hg, _⟩ => by
  obtain ⟨x, hx, _⟩ := hg (rk r) (mem_rksOf.2 ⟨r, hr, rfl⟩)
  rw [List.length_eq_zero_iff.1 h] at hx
  cases hx
theorem isE_none {rks : List Rk} {keep : Nat} {pre : List Int} (h : ¬ ExA rks pre) : IsE (P rks keep pre) [] :=
  ⟨List.Pairwise.nil, fun row => ⟨fun h => absurd h (by simp), fun ⟨g, h1, h2, _⟩ => absurd ⟨g, h1, h2⟩ h⟩⟩
end Go.Proofs.Ytejinhnmabnomaa.Lf
end
section
/-
  Relations by ranks and relations by variables, in plain words: what is gone through by ranks is the join. No condition.
-/
namespace Go.Proofs.Ytejinhnmabnomaa.Lf
open Go.Proofs.Ytejinhnmabnomaa.Pm Go.Proofs.Ytejinhnmabnomaa.Pw

/-- What a pair of a relation is in its walk's index. -/
def rowW (same gt : Bool) (p : Int × Int) : List R3 := if same then (if p.1 = p.2 then [⟨p.1, 0, 0⟩] else []) else if gt then [⟨p.2, p.1, 0⟩] else [⟨p.1, p.2, 0⟩]
def rowsW (same gt : Bool) (l : List (Int × Int)) : List R3 := l.flatMap (rowW same gt)
theorem rowsW_len (same gt : Bool) : ∀ l, (rowsW same gt l).length ≤ l.length
  | [] => by simp [rowsW]
  | p :: l => by
    have := rowsW_len same gt l
    unfold rowsW at *
    rw [List.flatMap_cons, List.length_append]
    have : (rowW same gt p).length ≤ 1 := by unfold rowW; split <;> split <;> simp
    simp only [List.length_cons]; omega
theorem rowsW_take (same gt : Bool) (l : List (Int × Int)) (k : Nat) (hk : k < l.length) : rowsW same gt (l.take (k + 1)) = rowsW same gt (l.take k) ++ rowW same gt (l.getD k (0, 0)) := by
  unfold rowsW
  rw [List.take_succ_eq_append_getElem hk, List.flatMap_append, getD_lt _ _ hk]
  simp
theorem rowsW_num (same gt : Bool) {l : List (Int × Int)} {B : Int} (hB : 0 ≤ B) (h : ∀ p ∈ l, p.1 ≤ B ∧ p.2 ≤ B) : ∀ x ∈ rowsW same gt l, x.a ≤ B ∧ x.b ≤ B ∧ x.c ≤ B := by
  intro x hx
  obtain ⟨p, hp, hx⟩ := List.mem_flatMap.1 hx
  have := h p hp
  unfold rowW at hx
  split at hx
  · split at hx
    · obtain rfl : x = _ := by simpa using hx
      exact ⟨this.1, hB, hB⟩
    · cases hx
  · split at hx
    · obtain rfl : x = _ := by simpa using hx
      exact ⟨this.2, this.1, hB⟩
    · obtain rfl : x = _ := by simpa using hx
      exact ⟨this.1, this.2, hB⟩
def rkOf (rank : Nat → Nat) (r : Rl) : Rk := ⟨min (rank r.a) (rank r.b), max (rank r.a) (rank r.b), rowsOf o1 (rowsW (decide (r.a = r.b)) (decide (rank r.b < rank r.a)) r.rows)⟩
theorem six1 : Six o1 := by unfold Six o1; simp
theorem rk_sat {vars : Nat} {rank : Nat → Nat} (inj : ∀ u v, u < vars → v < vars → rank u = rank v → u = v) {r : Rl} (ha : r.a < vars) (hb : r.b < vars) {f g : Nat → Int} (hg : ∀ v, v < vars → g (rank v) = f v) :
    (∃ x ∈ (rkOf rank r).L, x.a = g (rkOf rank r).p ∧ ((rkOf rank r).p ≠ (rkOf rank r).q → x.b = g (rkOf rank r).q)) ↔ (f r.a, f r.b) ∈ r.rows := by
  unfold rkOf
  simp only [rowsOf_mem]
  by_cases e : r.a = r.b
  · rw [e, decide_eq_true rfl, Nat.min_self, Nat.max_self, hg _ hb]
    constructor
    · rintro ⟨x, hx, h1, _⟩
      obtain ⟨p, hp, hx⟩ := List.mem_flatMap.1 hx
      unfold rowW at hx
      rw [if_pos rfl] at hx
      split at hx
      · rename_i e2
        obtain rfl : x = _ := by simpa using hx
        have h1 : p.1 = f r.b := h1
        have : p = (f r.b, f r.b) := Prod.ext h1 (e2 ▸ h1)
        rw [← this]; exact hp
      · cases hx
    · intro h
      refine ⟨⟨f r.b, 0, 0⟩, List.mem_flatMap.2 ⟨_, h, ?_⟩, rfl, fun h => absurd rfl h⟩
      unfold rowW
      rw [if_pos rfl, if_pos rfl]
      simp
  · have hne : rank r.a ≠ rank r.b := fun e2 => e (inj _ _ ha hb e2)
    rw [decide_eq_false e]
    by_cases hlt : rank r.b < rank r.a
    · rw [decide_eq_true hlt, Nat.min_eq_right (by omega), Nat.max_eq_left (by omega), hg _ ha, hg _ hb]
      constructor
      · rintro ⟨x, hx, h1, h2⟩
        obtain ⟨p, hp, hx⟩ := List.mem_flatMap.1 hx
        unfold rowW at hx
        rw [if_neg (by simp), if_pos rfl] at hx
        obtain rfl : x = _ := by simpa using hx
        have h1 : p.2 = f r.b := h1
        have h2 : p.1 = f r.a := h2 (by omega)
        rw [← h1, ← h2]; exact hp
      · intro h
        refine ⟨⟨f r.b, f r.a, 0⟩, List.mem_flatMap.2 ⟨_, h, ?_⟩, rfl, fun _ => rfl⟩
        unfold rowW
        rw [if_neg (by simp), if_pos rfl]
        simp
    · rw [decide_eq_false hlt, Nat.min_eq_left (by omega), Nat.max_eq_right (by omega), hg _ ha, hg _ hb]
      constructor
      · rintro ⟨x, hx, h1, h2⟩
        obtain ⟨p, hp, hx⟩ := List.mem_flatMap.1 hx
        unfold rowW at hx
        rw [if_neg (by simp), if_neg (by simp)] at hx
        obtain rfl : x = _ := by simpa using hx
        have h1 : p.1 = f r.a := h1
        have h2 : p.2 = f r.b := h2 (by omega)
        rw [← h1, ← h2]; exact hp
      · intro h
        refine ⟨⟨f r.a, f r.b, 0⟩, List.mem_flatMap.2 ⟨_, h, ?_⟩, rfl, fun _ => rfl⟩
        unfold rowW
        rw [if_neg (by simp), if_neg (by simp)]
        simp
theorem rkOf_fit (rank : Nat → Nat) (r : Rl) : (rkOf rank r).p ≤ (rkOf rank r).q ∧ (rkOf rank r).L.Pairwise (ltR o1) := ⟨by show min _ _ ≤ max _ _; omega, rowsOf_strict o1 six1 _⟩
/-- A row that is gone through is a row of the join. -/
theorem P_iff {vars : Nat} {rank ord : Nat → Nat} {rels : List Rl} {keep : List Nat} (h1 : ∀ v, v < vars → ord (rank v) = v ∧ rank v < vars) (h2 : ∀ i, i < vars → rank (ord i) = i ∧ ord i < vars) (hk : keep.length ≤ vars) (ho : ∀ i, i < keep.length → ord i = keep.getD i 0)
    (hr : ∀ r ∈ rels, r.a < vars ∧ r.b < vars) {m : Nat} {rk : Nat → Rk} (hm : m = rels.length) (hrk : ∀ r, r < m → rk r = rkOf rank (rels.getD r ⟨0, 0, []⟩)) (row : List Int) : P (rksOf m rk) keep.length [] row ↔ ∃ f, Sat rels f ∧ row = keep.map f := by
  have inj : ∀ u v, u < vars → v < vars → rank u = rank v → u = v := fun u v hu hv e => by rw [← (h1 u hu).1, ← (h1 v hv).1, e]
  have key : ∀ (f g : Nat → Int), (∀ v, v < vars → g (rank v) = f v) → (SatR (rksOf m rk) g ↔ Sat rels f) := fun f g hg => by
    constructor
    · intro h r hr2
      obtain ⟨i, hi, e⟩ := List.getElem_of_mem hr2
      have h3 := h (rk i) (mem_rksOf.2 ⟨i, by omega, rfl⟩)
      rw [hrk i (by omega), getD_lt _ _ hi, e] at h3
      exact (rk_sat inj (hr r hr2).1 (hr r hr2).2 hg).1 h3
    · intro h k hk2
      obtain ⟨i, hi, rfl⟩ := mem_rksOf.1 hk2
      have hmem : rels.getD i ⟨0, 0, []⟩ ∈ rels := by rw [getD_lt _ _ (by omega)]; exact List.getElem_mem _
      rw [hrk i hi]
      exact (rk_sat inj (hr _ hmem).1 (hr _ hmem).2 hg).2 (h _ hmem)
  constructor
  · rintro ⟨g, hs, _, rfl⟩
    refine ⟨fun v => g (rank v), (key _ g (fun v _ => rfl)).1 hs, ?_⟩
    show (List.range keep.length).map g = keep.map fun v => g (rank v)
    refine List.ext_getElem (by simp) fun i a1 a2 => ?_
    have hi : i < keep.length := by simpa using a2
    rw [List.getElem_map, List.getElem_range, List.getElem_map]
    have := ho i hi
    rw [getD_lt _ _ hi] at this
    rw [← this, (h2 i (by omega)).1]
  · rintro ⟨f, hs, rfl⟩
    refine ⟨fun i => f (ord i), (key f _ (fun v hv => by rw [(h1 v hv).1])).2 hs, fun i hi => absurd hi (by simp), ?_⟩
    show keep.map f = (List.range keep.length).map fun i => f (ord i)
    refine List.ext_getElem (by simp) fun i a1 a2 => ?_
    have hi : i < keep.length := by simpa using a1
    rw [List.getElem_map, List.getElem_map, List.getElem_range, ho i hi, getD_lt _ _ hi]
/-- What is gone through is the join. -/
theorem join_of {vars : Nat} {rank ord : Nat → Nat} {rels : List Rl} {keep : List Nat} {E : List (List Int)} (h1 : ∀ v, v < vars → ord (rank v) = v ∧ rank v < vars) (h2 : ∀ i, i < vars → rank (ord i) = i ∧ ord i < vars) (hk : keep.length ≤ vars) (ho : ∀ i, i < keep.length → ord i = keep.getD i 0)
    (hr : ∀ r ∈ rels, r.a < vars ∧ r.b < vars) {m : Nat} {rk : Nat → Rk} (hm : m = rels.length) (hrk : ∀ r, r < m → rk r = rkOf rank (rels.getD r ⟨0, 0, []⟩)) (hE : IsE (P (rksOf m rk) keep.length []) E) : IsJoin rels keep E :=
  ⟨hE.rise, fun row => (hE.mem row).trans (P_iff h1 h2 hk ho hr hm hrk row)⟩
theorem nodup_len : ∀ {E l : List (List Int)}, E.Nodup → (∀ x ∈ E, x ∈ l) → E.length ≤ l.length
  | [], l, _, _ => by simp
  | a :: E, l, h, hs => by
    obtain ⟨h1, h2⟩ := List.nodup_cons.1 h
    obtain ⟨s, t, rfl⟩ := List.append_of_mem (hs a (by simp))
    have := nodup_len (l := s ++ t) h2 (fun x hx => by
      have hm := hs x (by simp [hx])
      rcases List.mem_append.1 hm with hm | hm
      · exact List.mem_append.2 (.inl hm)
      · rcases List.mem_cons.1 hm with rfl | hm
        · exact absurd hx h1
        · exact List.mem_append.2 (.inr hm))
    simp only [List.length_append, List.length_cons] at *
    omega
/-- Rows that all are the join's are no more than it. -/
theorem sub_len {Q : List Int → Prop} {l : List (List Int)} (hQ : ∀ row, Q row → row ∈ l) {E : List (List Int)} (h : IsS Q E) : E.length ≤ l.length :=
  nodup_len (h.rise.imp (fun {a b} hab e => by subst e; exact lex_irrefl a hab)) (fun x hx => hQ x (h.sub x hx))
end Go.Proofs.Ytejinhnmabnomaa.Lf
end
section
/-
  The order of a join's variables, their ranks, and which relations have a variable, in plain words. No condition.
-/
namespace Go.Proofs.Ytejinhnmabnomaa.Lf
open Go.Proofs.Ytejinhnmabnomaa.Pm Go.Proofs.Ytejinhnmabnomaa.Pw

theorem nodup_le {α : Type} [DecidableEq α] : ∀ {E l : List α}, E.Nodup → (∀ x ∈ E, x ∈ l) → E.length ≤ l.length
  | [], l, _, _ => by simp
  | a :: E, l, h, hs => by
    obtain ⟨h1, h2⟩ := List.nodup_cons.1 h
    obtain ⟨s, t, rfl⟩ := List.append_of_mem (hs a (by simp))
    have := nodup_le (l := s ++ t) h2 (fun x hx => by
      have hm := hs x (by simp [hx])
      rcases List.mem_append.1 hm with hm | hm
      · exact List.mem_append.2 (.inl hm)
      · rcases List.mem_cons.1 hm with rfl | hm
        · exact absurd hx h1
        · exact List.mem_append.2 (.inr hm))
    simp only [List.length_append, List.length_cons] at *
    omega
/-- The order: those to keep first. -/
def ordL (keep : List Nat) (vars : Nat) : List Nat := keep ++ (List.range vars).filter fun v => !keep.contains v
theorem ordL_mem (keep : List Nat) (vars : Nat) (hk : ∀ v ∈ keep, v < vars) (v : Nat) : v ∈ ordL keep vars ↔ v < vars := by
  unfold ordL
  rw [List.mem_append, List.mem_filter, List.mem_range]
  constructor
  · rintro (h | ⟨h, _⟩)
    · exact hk v h
    · exact h
  · intro h
    by_cases e : v ∈ keep
    · exact .inl e
    · exact .inr ⟨h, by simpa using e⟩
theorem ordL_nodup (keep : List Nat) (vars : Nat) (hn : keep.Nodup) : (ordL keep vars).Nodup := by
  unfold ordL
  rw [List.nodup_append]
  refine ⟨hn, List.nodup_range.sublist List.filter_sublist, fun a ha b hb e => ?_⟩
  subst e
  rw [List.mem_filter] at hb
  simp [ha] at hb
theorem ordL_len (keep : List Nat) (vars : Nat) (hk : ∀ v ∈ keep, v < vars) (hn : keep.Nodup) : (ordL keep vars).length = vars := by
  have h1 := nodup_le (l := List.range vars) (ordL_nodup keep vars hn) (fun v hv => List.mem_range.2 ((ordL_mem keep vars hk v).1 hv))
  have h2 := nodup_le (E := List.range vars) (l := ordL keep vars) List.nodup_range (fun v hv => (ordL_mem keep vars hk v).2 (List.mem_range.1 hv))
  rw [List.length_range] at h1 h2
  omega
theorem ordL_step (keep : List Nat) (k : Nat) : ordL keep (k + 1) = if k ∈ keep then ordL keep k else ordL keep k ++ [k] := by
  unfold ordL
  rw [List.range_succ, List.filter_append]
  by_cases e : k ∈ keep
  · rw [if_pos e]; simp [e]
  · rw [if_neg e]; simp [e]
def ordF (keep : List Nat) (vars i : Nat) : Nat := (ordL keep vars).getD i 0
def rankF (keep : List Nat) (vars v : Nat) : Nat := (ordL keep vars).idxOf v
theorem ord_rank (keep : List Nat) (vars : Nat) (hk : ∀ v ∈ keep, v < vars) (hn : keep.Nodup) : ∀ v, v < vars → ordF keep vars (rankF keep vars v) = v ∧ rankF keep vars v < vars := fun v hv => by
  have hm := (ordL_mem keep vars hk v).2 hv
  have hlt : rankF keep vars v < (ordL keep vars).length := List.idxOf_lt_length_iff.2 hm
  refine ⟨?_, by rwa [ordL_len keep vars hk hn] at hlt⟩
  unfold ordF
  rw [getD_lt _ _ hlt]
  exact List.getElem_idxOf hlt
theorem rank_ord (keep : List Nat) (vars : Nat) (hk : ∀ v ∈ keep, v < vars) (hn : keep.Nodup) : ∀ i, i < vars → rankF keep vars (ordF keep vars i) = i ∧ ordF keep vars i < vars := fun i hi => by
  have hlt : i < (ordL keep vars).length := by rw [ordL_len keep vars hk hn]; exact hi
  unfold ordF rankF
  rw [getD_lt _ _ hlt]
  refine ⟨(ordL_nodup keep vars hn).idxOf_getElem i hlt, ?_⟩
  exact (ordL_mem keep vars hk _).1 (List.getElem_mem hlt)
theorem ord_keep (keep : List Nat) (vars : Nat) : ∀ i, i < keep.length → ordF keep vars i = keep.getD i 0 := fun i hi => by
  unfold ordF ordL
  rw [List.getD_eq_getElem?_getD, List.getElem?_append_left hi, List.getD_eq_getElem?_getD]
/-- Which relations have a variable. -/
def hasV (v : Nat) (r : Rl) : Bool := decide (r.a = v) || decide (r.b = v)
def rowN (rels : List Rl) (v m : Nat) : List Nat := (List.range m).filter fun i => hasV v (rels.getD i ⟨0, 0, []⟩)
theorem rowN_mem (rels : List Rl) (v m i : Nat) : i ∈ rowN rels v m ↔ i < m ∧ ((rels.getD i ⟨0, 0, []⟩).a = v ∨ (rels.getD i ⟨0, 0, []⟩).b = v) := by
  unfold rowN hasV
  simp
theorem rowN_nodup (rels : List Rl) (v m : Nat) : (rowN rels v m).Nodup := List.nodup_range.sublist List.filter_sublist
theorem rowN_step (rels : List Rl) (v m : Nat) : rowN rels v (m + 1) = if hasV v (rels.getD m ⟨0, 0, []⟩) = true then rowN rels v m ++ [m] else rowN rels v m := by
  unfold rowN
  rw [List.range_succ, List.filter_append]
  simp only [List.filter_cons, List.filter_nil]
  split <;> simp
theorem rowN_len (rels : List Rl) (v m : Nat) : (rowN rels v m).length ≤ m := by
  unfold rowN
  have := List.length_filter_le (fun i => hasV v (rels.getD i ⟨0, 0, []⟩)) (List.range m)
  rwa [List.length_range] at this
theorem hasV_level {keep : List Nat} {vars : Nat} (hk : ∀ v ∈ keep, v < vars) (hn : keep.Nodup) {r : Rl} (ha : r.a < vars) (hb : r.b < vars) (i : Nat) (hi : i < vars) :
    onLevel (rkOf (rankF keep vars) r) i ↔ r.a = ordF keep vars i ∨ r.b = ordF keep vars i := by
  have h1 := ord_rank keep vars hk hn
  have h2 := rank_ord keep vars hk hn
  have e : ∀ v, v < vars → (rankF keep vars v = i ↔ v = ordF keep vars i) := fun v hv => by
    constructor
    · intro h; rw [← h, (h1 v hv).1]
    · intro h; rw [h, (h2 i hi).1]
  unfold onLevel rkOf
  show (min _ _ = i ∨ max _ _ = i) ↔ _
  rw [← e r.a ha, ← e r.b hb]
  omega
end Go.Proofs.Ytejinhnmabnomaa.Lf
end
