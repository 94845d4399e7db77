/-
  Joined by wip/tools/merge.py from the texts Le1 Le2 Le3 Le4. Conditions: as each says.
-/
import Derived.Test.YtejinhnmabnomaaJd
import Derived.Test.YtejinhnmabnomaaJ0
section
/-
  The document's comparing of rows. Conditions: the slices lie as told.
-/
namespace Go.Proofs.Ytejinhnmabnomaa.Lf
open Go.RowKit Go.Proofs.YtejinhnmabnomaaW.PrintWords Go.Proofs.Ytejinhnmabnomaa.Pm Go.Proofs.Ytejinhnmabnomaa.Pw

theorem lexB_at : ∀ (a b : List Int) (k : Nat), (∀ j, j < k → a.getD j 0 = b.getD j 0) → k < a.length → k < b.length → a.getD k 0 ≠ b.getD k 0 → lexB a b = decide (a.getD k 0 < b.getD k 0)
  | [], _, _, _, h, _, _ => by simp at h
  | _ :: _, [], _, _, _, h, _ => by simp at h
  | x :: a, y :: b, 0, _, _, _, hne => by
    have hne : x ≠ y := by simpa using hne
    simp [lexB, hne]
  | x :: a, y :: b, k + 1, h, h1, h2, hne => by
    have h0 : x = y := by simpa using h 0 (by omega)
    have ih := lexB_at a b k (fun j hj => by simpa using h (j + 1) (by omega)) (by simpa using h1) (by simpa using h2) (by simpa using hne)
    subst h0
    simp only [lexB, List.getD_cons_succ, ih]
    simp
theorem lexB_end : ∀ (a b : List Int) (k : Nat), (∀ j, j < k → a.getD j 0 = b.getD j 0) → k ≤ a.length → k ≤ b.length → (k = a.length ∨ k = b.length) → lexB a b = decide (a.length < b.length)
  | [], [], _, _, _, _, _ => by simp [lexB]
  | [], y :: b, _, _, _, _, _ => by simp [lexB]
  | x :: a, [], _, _, _, _, _ => by simp [lexB]
  | x :: a, y :: b, 0, _, _, _, h => by simp at h
  | x :: a, y :: b, k + 1, h, h1, h2, h3 => by
    have h0 : x = y := by simpa using h 0 (by omega)
    have ih := lexB_end a b k (fun j hj => by simpa using h (j + 1) (by omega)) (by simpa using h1) (by simpa using h2) (by simpa using h3)
    subst h0
    simp only [lexB, ih, List.length_cons]
    simp
/-- A bool is answered, and nothing was written. -/
def BPost (w : World) (x : Bool) (e : Ending) (w' : World) : Prop := e = .returned (.bool x) ∧ ∃ q, w' = w.drewN q
theorem bp {w w' : World} {x y : Bool} (h : x = y) (q : Nat) (hw : w' = w.drewN q) : BPost w x (.returned (.bool y)) w' := ⟨by rw [h], q, hw⟩
theorem sl_one' {w : World} {v : Value} {l : List Int} (h : G.SlL w enc1 v l) (q i : Nat) (hi : i < l.length) : ∃ b off c, v = .slice (some ⟨b, off, none⟩) l.length c ∧ w.cell? ⟨b, off + i, none⟩ = some (.int .i64 (l.getD i 0)) := by
  obtain ⟨b, off, c, h1, _, _, h2⟩ := sl_one h 0 i hi
  exact ⟨b, off, c, h1, h2⟩
set_option maxHeartbeats 800000 in
theorem less_ok {w : World} {u v : Value} {a b : List Int} (ha : G.SlL w enc1 u a) (hb : G.SlL w enc1 v b) (hla : a.length ≤ 140737488355328) (hlb : b.length ≤ 140737488355328) :
    Calls Try.prog 15 #[u, v] w (BPost w (lexB a b)) := by
  obtain ⟨Aa, ca, rfl, _, _, _⟩ := id ha
  obtain ⟨Ab, cb, rfl, _, _, _⟩ := id hb
  obtain ⟨na, hna⟩ : ∃ n, a.length = n := ⟨_, rfl⟩
  obtain ⟨nb, hnb⟩ : ∃ n, b.length = n := ⟨_, rfl⟩
  rw [hna] at ha hla ⊢
  rw [hnb] at hb hlb ⊢
  have HV := Lib.hid (And.intro ha (And.intro hna (And.intro hb hnb)))
  clear ha hna hb hnb
  have hnaN : (na : Int) ≤ 140737488355328 := by omega
  have hnbN : (nb : Int) ≤ 140737488355328 := by omega
  go_enter Try.func15, Try.ntmps15
  go_wp2_with fail
  go_loopg [5] (na + 1) (fun g s5 wr => ∃ k q : Nat, k ≤ na ∧ k ≤ nb ∧ na - k < g ∧ s5 = .int .i64 k ∧ wr = w.drewN q ∧ ∀ j, j < k → a.getD j 0 = b.getD j 0)
  case atStart => exact ⟨0, 0, by omega, by omega, by omega, rfl, rfl, fun j hj => absurd hj (by omega)⟩
  case round =>
    obtain ⟨k, q, hk1, hk2, hg, rfl, rfl, hall⟩ := hrel
    have HA := Lib.hid hall
    clear hall
    have hd1 : decide ((k : Int) < (na : Int)) = decide (k < na) := by simp
    have hd2 : decide ((k : Int) < (nb : Int)) = decide (k < nb) := by simp
    by_cases h1 : k < na
    · have hd1 : decide ((k : Int) < (na : Int)) = true := by simp; omega
      by_cases h2 : k < nb
      · have hd2 : decide ((k : Int) < (nb : Int)) = true := by simp; omega
        obtain ⟨ba, offa, ca', hva, x0⟩ := sl_one' HV.out.1 0 k (by have := HV.out.2.1; omega)
        obtain ⟨bb, offb, cb', hvb, y0⟩ := sl_one' HV.out.2.2.1 0 k (by have := HV.out.2.2.2; omega)
        injection hva with e1 e2 e3
        injection hvb with e4 e5 e6
        subst e1 e4
        have hi1 : (k : Int) < (na : Int) := by omega
        have hi2 : (k : Int) < (nb : Int) := by omega
        obtain ⟨x, hx⟩ : ∃ x, a.getD k 0 = x := ⟨_, rfl⟩
        obtain ⟨y, hy⟩ : ∃ y, b.getD k 0 = y := ⟨_, rfl⟩
        rw [hx] at x0
        rw [hy] at y0
        have HXY := Lib.hid (And.intro hx hy)
        clear hx hy e2 e3 e5 e6
        by_cases hxy : x = y
        · have hn : (x != y) = false := by simpa using hxy
          have HQ := Lib.hid hxy
          clear hxy
          go_wp2_with fail
          go_quiet (fail)
          all_goals
            go_wp2_with fail
            go_roundg (na - k)
            case measure => exact hg
            case rel =>
              refine ⟨k + 1, _, by omega, by omega, by omega, by go_num, rfl, fun j hj => ?_⟩
              by_cases e : j < k
              · exact HA.out j e
              · rw [show j = k by omega, HXY.out.1, HXY.out.2, HQ.out]
        · have hn : (x != y) = true := by simpa using hxy
          have HQ := Lib.hid hxy
          clear hxy
          go_wp2_with fail
          go_quiet (fail)
          all_goals
            go_wp2_with fail
            go_quiet (fail)
            all_goals
              go_wp2_with fail
              go_ret
              refine bp ?_ _ (by simp; rfl)
              rw [lexB_at a b k HA.out (by have := HV.out.2.1; omega) (by have := HV.out.2.2.2; omega) (by rw [HXY.out.1, HXY.out.2]; exact HQ.out), HXY.out.1, HXY.out.2]
      · have hd2 : decide ((k : Int) < (nb : Int)) = false := by simp; omega
        have hkn : k = nb := by omega
        go_wp2_with fail
        go_ret
        refine bp ?_ _ rfl
        rw [lexB_end a b k HA.out (by have := HV.out.2.1; omega) (by have := HV.out.2.2.2; omega) (.inr (by have := HV.out.2.2.2; omega)), HV.out.2.1, HV.out.2.2.2]
    · have hd1 : decide ((k : Int) < (na : Int)) = false := by simp; omega
      go_wp2_with fail
      go_ret
      refine bp ?_ _ rfl
      rw [lexB_end a b k HA.out (by have := HV.out.2.1; omega) (by have := HV.out.2.2.2; omega) (.inl (by have := HV.out.2.1; omega)), HV.out.2.1, HV.out.2.2.2]
end Go.Proofs.Ytejinhnmabnomaa.Lf
end
section
/-
  The document's comparing of lists of rows. Conditions: the slices lie as told.
-/
namespace Go.Proofs.Ytejinhnmabnomaa.Lf
open Go.RowKit Go.Proofs.YtejinhnmabnomaaW.PrintWords Go.Proofs.Ytejinhnmabnomaa.Pm Go.Proofs.Ytejinhnmabnomaa.Pw

theorem RowsOut.more {w w' : World} {v : Value} {l : List (List Int)} (h : RowsOut w v l) (hb : BelS w w') : RowsOut w' v l := by
  obtain ⟨A, c, vs, h1, h2, h3, h4, h5⟩ := h.own
  exact ⟨⟨A, c, vs, h1, h2, h3, fun i hi => by obtain ⟨b, e, hc⟩ := h4 i hi; exact ⟨b, e, hb.cell hc⟩, fun i hi => (h5 i hi).below hb⟩⟩
theorem belS_drewN (w : World) (n : Nat) : BelS w (w.drewN n) := below_drewN w n
theorem rows_eq_of {L1 L2 : List (List Int)} (hl : L1.length = L2.length) (h : ∀ j, j < L1.length → L1.getD j [] = L2.getD j []) : L1 = L2 := by
  refine List.ext_getElem hl fun i h1 h2 => ?_
  have := h i h1
  rwa [getD_lt _ _ h1, getD_lt _ _ h2] at this
/-- What a row is in memory. -/
theorem RowsOut.row {w : World} {v : Value} {l : List (List Int)} (h : RowsOut w v l) (i : Nat) (hi : i < l.length) : ∃ b c x, v = .slice (some ⟨b, 0, none⟩) l.length c ∧ w.cell? ⟨b, i, none⟩ = some x ∧ G.SlL w enc1 x (l.getD i []) := by
  obtain ⟨A, c, vs, h1, h2, h3, h4, h5⟩ := h.own
  obtain ⟨b, rfl, hc⟩ := h4 i hi
  exact ⟨b, c, _, h1, hc, h5 i hi⟩
set_option maxHeartbeats 800000 in
set_option maxRecDepth 100000 in
theorem same_ok {w : World} {u v : Value} {L1 L2 : List (List Int)} (h1 : RowsOut w u L1) (h2 : RowsOut w v L2) (hl1 : L1.length ≤ 140737488355328) (hl2 : L2.length ≤ 140737488355328) (hr1 : ∀ r ∈ L1, r.length ≤ 140737488355328) (hr2 : ∀ r ∈ L2, r.length ≤ 140737488355328) :
    Calls Try.prog 13 #[u, v] w (BPost w (decide (L1 = L2))) := by
  obtain ⟨A1, c1, vs1, rfl, _⟩ := id h1.own
  obtain ⟨A2, c2, vs2, rfl, _⟩ := id h2.own
  obtain ⟨n1, hn1⟩ : ∃ n, L1.length = n := ⟨_, rfl⟩
  obtain ⟨n2, hn2⟩ : ∃ n, L2.length = n := ⟨_, rfl⟩
  rw [hn1] at h1 hl1 ⊢
  rw [hn2] at h2 hl2 ⊢
  have HV := Lib.hid (And.intro h1 (And.intro hn1 (And.intro h2 (And.intro hn2 (And.intro hr1 hr2)))))
  clear h1 hn1 h2 hn2 hr1 hr2
  have hn1N : (n1 : Int) ≤ 140737488355328 := by omega
  by_cases hnn : n1 = n2
  · subst hnn
    have hne : ((n1 : Int) != (n1 : Int)) = false := by simp
    go_enter Try.func13, Try.ntmps13
    go_wp2_with fail
    go_loopg [5] (n1 + 1) (fun g s5 wr => ∃ k q : Nat, k ≤ n1 ∧ n1 - k < g ∧ s5 = .int .i64 k ∧ wr = w.drewN q ∧ ∀ j, j < k → L1.getD j [] = L2.getD j [])
    case atStart => exact ⟨0, 0, by omega, by omega, rfl, rfl, fun j hj => absurd hj (by omega)⟩
    case round =>
      obtain ⟨k, q, hk, hg, rfl, rfl, hall⟩ := hrel
      have HA := Lib.hid hall
      clear hall
      obtain ⟨wq, hwq⟩ : ∃ x, w.drewN q = x := ⟨_, rfl⟩
      rw [hwq]
      have HWQ := Lib.hid hwq
      have hbq : BelS w wq := by rw [← hwq]; exact below_drewN w q
      have HBQ := Lib.hid hbq
      clear hwq hbq
      by_cases hlt : k < n1
      · have hd : decide ((k : Int) < (n1 : Int)) = true := by simp; omega
        have hi1 : (k : Int) < (n1 : Int) := by omega
        obtain ⟨b1, c1', x, hv1, x0, hx⟩ := HV.out.1.row k (by have := HV.out.2.1; omega)
        obtain ⟨b2, c2', y, hv2, y0, hy⟩ := HV.out.2.2.1.row k (by have := HV.out.2.2.2.1; omega)
        have x0 := HBQ.out.cell x0
        have y0 := HBQ.out.cell y0
        injection hv1 with e1 e2 e3
        injection hv2 with e4 e5 e6
        subst e1 e4
        obtain ⟨X, hX⟩ : ∃ X, L1.getD k [] = X := ⟨_, rfl⟩
        obtain ⟨Y, hY⟩ : ∃ Y, L2.getD k [] = Y := ⟨_, rfl⟩
        rw [hX] at hx
        rw [hY] at hy
        have hXl : X.length ≤ 140737488355328 := HV.out.2.2.2.2.1 X (by rw [← hX, getD_lt _ _ (by have := HV.out.2.1; omega)]; exact List.getElem_mem _)
        have hYl : Y.length ≤ 140737488355328 := HV.out.2.2.2.2.2 Y (by rw [← hY, getD_lt _ _ (by have := HV.out.2.2.2.1; omega)]; exact List.getElem_mem _)
        obtain ⟨p1, hp1⟩ : ∃ p, lexB X Y = p := ⟨_, rfl⟩
        obtain ⟨p2, hp2⟩ : ∃ p, lexB Y X = p := ⟨_, rfl⟩
        have C1 : ∀ n, Calls Try.prog 15 #[x, y] (wq.drewN n) (fun e w' => e = .returned (.bool p1) ∧ ∃ m, w' = (wq.drewN n).drewN m) := fun n => by
          rw [← hp1]; exact less_ok (hx.below (HBQ.out.then (below_drewN _ n))) (hy.below (HBQ.out.then (below_drewN _ n))) hXl hYl
        have C2 : ∀ n, Calls Try.prog 15 #[y, x] (wq.drewN n) (fun e w' => e = .returned (.bool p2) ∧ ∃ m, w' = (wq.drewN n).drewN m) := fun n => by
          rw [← hp2]; exact less_ok (hy.below (HBQ.out.then (below_drewN _ n))) (hx.below (HBQ.out.then (below_drewN _ n))) hYl hXl
        have HC := Lib.hid (And.intro C1 C2)
        have HP := Lib.hid (And.intro hp1 (And.intro hp2 (And.intro hX hY)))
        clear C1 C2 hp1 hp2 hX hY hx hy hXl hYl e2 e3 e5 e6
        have hno : p1 = true ∨ p2 = true → ¬ L1 = L2 := fun h e => by
          have e2 : X = Y := by rw [← HP.out.2.2.1, ← HP.out.2.2.2, e]
          have h1 := HP.out.1
          have h2 := HP.out.2.1
          rw [e2] at h1 h2
          have h3 : lexB Y Y = true := h.elim (fun h => h1.trans h) (fun h => h2.trans h)
          exact lex_irrefl Y ((lexB_iff Y Y).1 h3)
        have HNO := Lib.hid hno
        clear hno
        cases p1
        · cases p2
          · go_wp2_with fail
            go_quiet (first | (go_at_call 15; with_reducible exact Calls.quiet_of (HC.out.1 _)) | (go_at_call 15; with_reducible exact Calls.quiet_of (HC.out.2 _)))
            all_goals
              go_wp2_with fail
              go_roundg (n1 - k)
              case measure => exact hg
              case rel =>
                refine ⟨k + 1, q + nq, by omega, by omega, by go_num, by rw [← HWQ.out]; exact World.drewN_drewN w q nq, fun j hj => ?_⟩
                by_cases e : j < k
                · exact HA.out j e
                · rw [show j = k by omega, HP.out.2.2.1, HP.out.2.2.2]
                  exact lex_tri (fun h => by have := (lexB_iff _ _).2 h; rw [HP.out.1] at this; cases this) (fun h => by have := (lexB_iff _ _).2 h; rw [HP.out.2.1] at this; cases this)
          · go_wp2_with fail
            go_quiet (first | (go_at_call 15; with_reducible exact Calls.quiet_of (HC.out.1 _)) | (go_at_call 15; with_reducible exact Calls.quiet_of (HC.out.2 _)))
            all_goals
              go_wp2_with fail
              go_ret
              exact bp (decide_eq_false (HNO.out (.inr (by trivial)))) (q + nq) (by rw [← HWQ.out]; exact World.drewN_drewN w q nq)
        · go_wp2_with fail
          go_quiet (first | (go_at_call 15; with_reducible exact Calls.quiet_of (HC.out.1 _)) | (go_at_call 15; with_reducible exact Calls.quiet_of (HC.out.2 _)))
          all_goals
            go_wp2_with fail
            go_ret
            exact bp (decide_eq_false (HNO.out (.inl (by trivial)))) (q + nq) (by rw [← HWQ.out]; exact World.drewN_drewN w q nq)
      · have hd : decide ((k : Int) < (n1 : Int)) = false := by simp; omega
        have HE : Hid (L1 = L2) := Lib.hid (rows_eq_of (by have := HV.out.2.1; have := HV.out.2.2.2.1; omega) (fun j hj => HA.out j (by have := HV.out.2.1; omega)))
        go_wp2_with fail
        go_ret
        exact bp (decide_eq_true HE.out) q HWQ.out.symm
  · have hne : ((n1 : Int) != (n2 : Int)) = true := by simp; omega
    have HE : Hid (¬ L1 = L2) := Lib.hid (fun e => by have := HV.out.2.1; have := HV.out.2.2.2.1; rw [e] at *; omega)
    clear hnn
    go_enter Try.func13, Try.ntmps13
    go_wp2_with fail
    go_ret
    exact ⟨by rw [decide_eq_false HE.out]; rfl, 0, rfl⟩
end Go.Proofs.Ytejinhnmabnomaa.Lf
end
section
/-
  What must come of any join's program. Conditions: none.
-/
namespace Go.Proofs.Ytejinhnmabnomaa.Lf
open Go.RowKit Go.Proofs.YtejinhnmabnomaaW.PrintWords Go.Proofs.Ytejinhnmabnomaa.Pm Go.Proofs.Ytejinhnmabnomaa.Pw

/-- A literal slice. -/
theorem sl_block {α : Type} {w : World} {b n : Nat} {cs : Array Value} {t : TypeId} (enc : α → List Value) (xs : List α) (h : w.heap[b]? = some (.cells cs t (0, 0))) (hn : xs.length = n) (hcs : cs.toList = xs.flatMap enc) : G.SlL w enc (.slice (some ⟨b, 0, none⟩) n n) xs := by
  subst hn
  refine ⟨some ⟨b, 0, none⟩, xs.length, rfl, Nat.le_refl _, (fun h => nomatch h), fun _ => ⟨b, 0, rfl, (Array.getElem?_eq_some_iff.1 h).1, fun j u hu => ?_⟩⟩
  rw [← hcs] at hu
  simp only [World.cell?, h]
  simpa using hu
/-- A literal list of rows. -/
theorem rows_block {w : World} {b n : Nat} {cs : Array Value} {t : TypeId} (xs : List (List Int)) (h : w.heap[b]? = some (.cells cs t (0, 0))) (hn : xs.length = n) (hcs : cs.size = n) (hr : ∀ i, i < n → G.SlL w enc1 (cs.toList.getD i undef) (xs.getD i [])) : RowsOut w (.slice (some ⟨b, 0, none⟩) n n) xs := by
  subst hn
  refine ⟨⟨_, xs.length, cs.toList, rfl, Nat.le_refl _, by simpa using hcs, fun i hi => ⟨b, rfl, ?_⟩, hr⟩⟩
  simp only [World.cell?, h]
  have : i < cs.size := by omega
  simp [this]
def awR1 (v : Value) : RelV := ⟨0, 1, v, [(1, 2), (2, 3)]⟩
def awR2 (v : Value) : RelV := ⟨1, 0, v, [(2, 1)]⟩
theorem aw_may (v u : Value) : MayP 2 [0, 1] [awR1 v, awR2 u] 9 := by
  refine ⟨by omega, by omega, by omega, by omega, by simp, by simp, ?_, ?_, ?_⟩
  · intro x hx; simp at hx; omega
  · intro r hr
    simp at hr
    rcases hr with rfl | rfl
    · show (0 : Int) ≤ 0 ∧ (0 : Int) < 2 ∧ (0 : Int) ≤ 1 ∧ (1 : Int) < 2; omega
    · show (0 : Int) ≤ 1 ∧ (1 : Int) < 2 ∧ (0 : Int) ≤ 0 ∧ (0 : Int) < 2; omega
  · intro x h0 h1
    refine ⟨awR1 v, by simp, ?_⟩
    show (0 : Int) = x ∨ (1 : Int) = x
    omega
theorem aw_not (v u : Value) : ¬ MayP 3 [0] [awR1 v, awR2 u] 9 := fun h => by
  obtain ⟨r, hr, e⟩ := h.all 2 (by omega) (by omega)
  simp at hr
  rcases hr with rfl | rfl
  · have e : (0 : Int) = 2 ∨ (1 : Int) = 2 := e; omega
  · have e : (1 : Int) = 2 ∨ (0 : Int) = 2 := e; omega
theorem aw_join (v u : Value) : joinL [0, 1] [awR1 v, awR2 u] = [[1, 2]] := by
  show refJoin [⟨0, 1, [(1, 2), (2, 3)]⟩, ⟨1, 0, [(2, 1)]⟩] [0, 1] = [[1, 2]]
  unfold refJoin
  simp [refRows, allC, stepC, pairC, withC, ins]
def pN (n a b : Nat) : Value := .slice (some ⟨n, 0, none⟩) a b
/-- What lies in memory for awake. -/
def AwM (n : Nat) (x : World) : Prop :=
  x.heap[n]? = some (.cells #[.int .i64 1, .int .i64 2, .int .i64 2, .int .i64 3] 22 (0, 0)) ∧ x.heap[n + 1]? = some (.cells #[.int .i64 2, .int .i64 1] 22 (0, 0)) ∧
  x.heap[n + 1 + 1]? = some (.cells #[.int .i64 0, .int .i64 1, pN n 2 2, .int .i64 1, .int .i64 0, pN (n + 1) 1 1] 35 (0, 0))
theorem AwM.more {n : Nat} {x y : World} (h : AwM n x) (hb : BelS x y) : AwM n y := ⟨hb.blk h.1, hb.blk h.2.1, hb.blk h.2.2⟩
theorem AwM.sl {n : Nat} {x : World} (h : AwM n x) : G.SlL x encR (pN (n + 1 + 1) 2 2) [awR1 (pN n 2 2), awR2 (pN (n + 1) 1 1)] := sl_block encR _ h.2.2 rfl rfl
theorem AwM.inn {n : Nat} {x : World} (h : AwM n x) : ∀ r ∈ [awR1 (pN n 2 2), awR2 (pN (n + 1) 1 1)], RelIn x r := by
  intro r hr
  simp at hr
  rcases hr with rfl | rfl
  · refine ⟨sl_block enc2 [(1, 2), (2, 3)] h.1 rfl rfl, ?_⟩
    intro p hp
    simp [awR1] at hp
    rcases hp with rfl | rfl <;> decide
  · refine ⟨sl_block enc2 [(2, 1)] h.2.1 rfl rfl, ?_⟩
    intro p hp
    simp [awR2] at hp
    subst hp; decide
theorem aw_small {u v : Value} : ∀ r ∈ [awR1 u, awR2 v], r.rows.length * 24 ≤ 140737488355328 := by
  intro r hr
  simp at hr
  rcases hr with rfl | rfl <;> simp [awR1, awR2]
theorem aw_call1 {n k : Nat} {x : World} (h : AwM n x) (hk : x.heap[k]? = some (.cells #[.int .i64 0, .int .i64 1] 3 (0, 0))) : Calls Try.prog 11 #[.int .i64 2, pN k 2 2, pN (n + 1 + 1) 2 2, .int .i64 9] x fun e w' => ∃ A c, e = .returned (.tuple #[.slice A 1 c, .int .i64 0]) ∧ BelS x w' ∧ RowsOut w' (.slice A 1 c) [[1, 2]] := by
  refine (join_ok 2 9 (pN k 2 2) (pN (n + 1 + 1) 2 2) [0, 1] _ (sl_block enc1 [0, 1] hk rfl rfl) h.sl h.inn (by simp) (by simp) aw_small).mono ?_
  rintro e w' ⟨v, code, rfl, hb, hc⟩
  rw [aw_join] at hc
  rcases hc with ⟨hn, _⟩ | ⟨_, hn, _⟩ | ⟨_, _, rfl, ho⟩
  · exact absurd (aw_may _ _) hn
  · exact absurd hn (by simp)
  · obtain ⟨A, c, vs, rfl, _⟩ := id ho.own
    exact ⟨A, c, rfl, hb, ho⟩
theorem aw_call2 {n k : Nat} {x : World} (h : AwM n x) (hk : x.heap[k]? = some (.cells #[.int .i64 0] 3 (0, 0))) : Calls Try.prog 11 #[.int .i64 3, pN k 1 1, pN (n + 1 + 1) 2 2, .int .i64 9] x fun e w' => e = .returned (.tuple #[.slice none 0 0, .int .i64 1]) ∧ BelS x w' := by
  refine (join_ok 3 9 (pN k 1 1) (pN (n + 1 + 1) 2 2) [0] _ (sl_block enc1 [0] hk rfl rfl) h.sl h.inn (by simp) (by simp) aw_small).mono ?_
  rintro e w' ⟨v, code, rfl, hb, hc⟩
  rcases hc with ⟨hn, rfl, rfl⟩ | ⟨hn, _⟩ | ⟨hn, _⟩
  · exact ⟨rfl, hb⟩
  · exact absurd hn (aw_not _ _)
  · exact absurd hn (aw_not _ _)
/-- The three blocks behind one another. -/
def aw3 (w : World) : World := ((w.alloc (.cells #[.int .i64 1, .int .i64 2, .int .i64 2, .int .i64 3] 22)).alloc (.cells #[.int .i64 2, .int .i64 1] 22)).alloc (.cells #[.int .i64 0, .int .i64 1, pN w.heap.size 2 2, .int .i64 1, .int .i64 0, pN (w.heap.size + 1) 1 1] 35)
theorem aw_mem (w : World) : AwM w.heap.size (aw3 w) := by
  refine ⟨?_, ?_, ?_⟩
  · exact ((BelS.refl _).alloc _ |>.alloc _).blk (heap_alloc_new w _)
  · have h := heap_alloc_new (w.alloc (.cells #[.int .i64 1, .int .i64 2, .int .i64 2, .int .i64 3] 22)) (.cells #[.int .i64 2, .int .i64 1] 22)
    rw [World.size_alloc] at h
    exact ((BelS.refl _).alloc _).blk h
  · have h := heap_alloc_new ((w.alloc (.cells #[.int .i64 1, .int .i64 2, .int .i64 2, .int .i64 3] 22)).alloc (.cells #[.int .i64 2, .int .i64 1] 22)) (.cells #[.int .i64 0, .int .i64 1, pN w.heap.size 2 2, .int .i64 1, .int .i64 0, pN (w.heap.size + 1) 1 1] 35)
    rw [World.size_alloc, World.size_alloc] at h
    exact h
theorem aw_bel (w : World) : BelS w (aw3 w) := (((BelS.refl _).alloc _).alloc _).alloc _
theorem aw_size (w : World) : (aw3 w).heap.size = w.heap.size + 1 + 1 + 1 := by unfold aw3; rw [World.size_alloc, World.size_alloc, World.size_alloc]
theorem BelS.drewN {a b : World} (h : BelS a b) (q : Nat) : BelS a (b.drewN q) := ⟨h.os, h.tape, h.output, h.size, h.block⟩
theorem aw_same {x : World} {v : Value} (h : RowsOut x v [[1, 2]]) : Calls Try.prog 13 #[v, .slice (some ⟨x.heap.size + 1, 0, none⟩) 1 1]
    ((x.alloc (.cells #[.int .i64 1, .int .i64 2] 3)).alloc (.cells #[.slice (some ⟨x.heap.size, 0, none⟩) 2 2] 23)) (BPost ((x.alloc (.cells #[.int .i64 1, .int .i64 2] 3)).alloc (.cells #[.slice (some ⟨x.heap.size, 0, none⟩) 2 2] 23)) true) := by
  have h2 := heap_alloc_new (x.alloc (.cells #[.int .i64 1, .int .i64 2] 3)) (.cells #[.slice (some ⟨x.heap.size, 0, none⟩) 2 2] 23)
  rw [World.size_alloc] at h2
  have hr := rows_block [[1, 2]] h2 rfl rfl (fun i hi => by
    obtain rfl : i = 0 := by have hi : i < 1 := hi; omega
    exact sl_block enc1 [1, 2] (((BelS.refl _).alloc _).blk (heap_alloc_new x _)) rfl rfl)
  exact same_ok (h.more (((BelS.refl _).alloc _).alloc _)) hr (by simp) (by simp) (by simp) (by simp)
set_option maxHeartbeats 800000 in
theorem awake_ok (w : World) : Calls Try.prog 10 #[] w fun e w' => e = .returned (.bool true) ∧ BelS w w' := by
  go_enter Try.func10, Try.ntmps10
  go_wp2_with fail
  have hM := aw_mem w
  have hB := aw_bel w
  have hz := aw_size w
  unfold aw3 at hM hB hz
  simp only [pN] at hM hB hz
  generalize hx : ((w.alloc (.cells #[.int .i64 1, .int .i64 2, .int .i64 2, .int .i64 3] 22)).alloc (.cells #[.int .i64 2, .int .i64 1] 22)).alloc (.cells #[.int .i64 0, .int .i64 1, .slice (some ⟨w.heap.size, 0, none⟩) 2 2, .int .i64 1, .int .i64 0, .slice (some ⟨w.heap.size + 1, 0, none⟩) 1 1] 35) = x at hM hB hz ⊢
  clear hx
  have hk := heap_alloc_new x (.cells #[.int .i64 0, .int .i64 1] 3)
  rw [hz] at hk
  refine (aw_call1 (hM.more ((BelS.refl _).alloc _)) hk).mono ?_
  rintro e w2 ⟨A, c, rfl, hb2, ho2⟩
  have hM2 := Lib.hid ((hM.more ((BelS.refl _).alloc _)).more hb2)
  have hB2 := Lib.hid ((hB.alloc _).then hb2)
  have ho2 := Lib.hid ho2
  clear hM hB hb2 hk
  go_wp2_with fail
  refine (aw_call2 (hM2.out.more ((BelS.refl _).alloc _)) (heap_alloc_new w2 (.cells #[.int .i64 0] 3))).mono ?_
  rintro e w3 ⟨rfl, hb3⟩
  have hB3 := Lib.hid ((hB2.out.alloc _).then hb3)
  have ho3 := Lib.hid (ho2.out.more (((BelS.refl _).alloc _).then hb3))
  clear hM2 hB2 ho2 hb3
  go_wp2_with fail
  have hS := aw_same ho3.out
  refine hS.mono ?_
  rintro e w4 ⟨rfl, q, hq⟩
  have hB4 : BelS w w4 := by rw [hq]; exact ((hB3.out.alloc _).alloc _).drewN q
  clear hB3 ho3 hS hq
  go_wp2
  go_ret
  exact ⟨rfl, hB4⟩
end Go.Proofs.Ytejinhnmabnomaa.Lf
end
section
/-
  What the laws of this chapter have in common: arguments that are pairs, relations in memory, how long a join is at most. Conditions: none.
-/
namespace Go.Proofs.Ytejinhnmabnomaa.Lf
open Go.Deep Go.RowKit Go.Proofs.YtejinhnmabnomaaW.PrintWords Go.Proofs.Ytejinhnmabnomaa.Pm Go.Proofs.Ytejinhnmabnomaa.Pw Go.WideShapes

theorem wfI {n : Int} (h : (Lit.int .i64 n).wf = true) : n ≤ 9223372036854775807 := by
  simp only [Lit.wf, Bool.and_eq_true, decide_eq_true_eq] at h
  have h2 := h.2
  have e : IntKind.i64.max = 9223372036854775807 := by rfl
  omega
theorem trod_two_of {P : Program} {t3 t22 : TypeId} (u3 : P.underlying t3 = some (.int .i64)) (u22 : P.underlying t22 = some (.array 2 t3)) (c3 : P.cellsOf t3 = 1) (c22 : P.cellsOf t22 = 2) {H : Type} {enc : TypeId × Value → H} {w : World} {base : Nat} {sp : Nat → Bool} {held : Bool} {fuel : Nat} {cs : List Value} {x : DataW H × List MemPlace}
    (h : DataW.trod enc P w base sp held fuel t22 cs = some x) : ∃ a : Int × Int, cs = enc2 a ∧ (a.1 ≤ 9223372036854775807 ∧ a.2 ≤ 9223372036854775807) := by
  obtain ⟨xs, m, _, _, hl, hn, hi⟩ := DataW.trod_array u22 h
  rw [c22] at hl
  rw [c3] at hi
  obtain ⟨p, q, rfl⟩ : ∃ p q, cs = [p, q] := by
    match cs, hl with
    | [p, q], _ => exact ⟨p, q, rfl⟩
  have g : ∀ i v, i < 2 → (([p, q].drop (i * 1)).take 1) = [v] → ∃ a, v = .int .i64 a ∧ a ≤ 9223372036854775807 := by
    intro i v hi3 hv
    have := hi i hi3
    rw [hv, List.getElem?_eq_getElem (by omega)] at this
    obtain ⟨n, hn, hx⟩ := DataW.trod_int u3 this
    exact ⟨n, by simpa using hn, wfI hx.2⟩
  obtain ⟨a, rfl, ha⟩ := g 0 p (by omega) rfl
  obtain ⟨b, rfl, hb⟩ := g 1 q (by omega) rfl
  exact ⟨(a, b), rfl, ha, hb⟩
theorem cellsI : Try.prog.cellsOf 3 = 1 := by kernel_rfl
theorem cellsP : Try.prog.cellsOf 22 = 2 := by kernel_rfl
set_option maxRecDepth 100000 in
theorem arg_pairs {H : Type} {enc : TypeId × Value → H} {w : World} {base b0 : Nat} {sp : Nat → Bool} {held : Bool} {v : Value} {x : DataW H} {p : List MemPlace}
    (hv : Value.okWide Try.prog w .any b0 33 v) (h : DataW.Trod enc Try.prog w base sp held 33 v x p) : ∃ l : List (Int × Int), G.SlL w enc2 v l ∧ ∀ a ∈ l, a.1 ≤ 9223372036854775807 ∧ a.2 ≤ 9223372036854775807 :=
  G.arg_slice_of enc2 2 Try.underlying33 cellsP (fun _ => rfl) _ (fun fuel cs y hy _ => trod_two_of Try.underlying3 Try.underlying22 cellsI cellsP hy) hv h

/-- Two relations over three variables, end on end, both kept ends: at most a row for each two pairs. -/
theorem many_len {x y : List (Int × Int)} {ea eb : Int × Int → Int} {keep : List Int} {rels : List RelV} {vars most : Int} (hp : MayP vars keep rels most)
    (hx : ∀ f : Nat → Int, Sat (relN rels) f → ∃ p ∈ x, ∃ q ∈ y, (keepN keep).map f = [ea p, eb q]) : (joinL keep rels).length ≤ x.length * y.length := by
  have hj := joinL_is hp
  have h := nodup_len (l := x.flatMap fun p => y.map fun q => [ea p, eb q]) (hj.rise.imp (fun {a b} hab e => by subst e; exact lex_irrefl a hab)) (fun row hrow => by
    obtain ⟨f, hf, rfl⟩ := (hj.mem row).1 hrow
    obtain ⟨p, hp, q, hq, e⟩ := hx f hf
    rw [e]
    exact List.mem_flatMap.2 ⟨p, hp, List.mem_map.2 ⟨q, hq, rfl⟩⟩)
  refine Nat.le_trans h ?_
  clear h hj hx hp
  induction x with
  | nil => simp
  | cons p x ih => rw [List.flatMap_cons, List.length_append, List.length_map, List.length_cons, Nat.succ_mul]; omega
end Go.Proofs.Ytejinhnmabnomaa.Lf
end
