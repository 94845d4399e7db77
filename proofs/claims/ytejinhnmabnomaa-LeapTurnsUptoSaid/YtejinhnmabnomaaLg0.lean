/-
  The document's join: lists of rows in memory, 'in', 'put'. Conditions: the slices lie as told.
-/
import Derived.Test.YtejinhnmabnomaaJe
import Derived.IntWalk
namespace Go.Proofs.Ytejinhnmabnomaa.Lf
open Go.Deep Go.RowKit Go.Proofs.YtejinhnmabnomaaW.PrintWords Go.Proofs.Ytejinhnmabnomaa.Pm Go.Proofs.Ytejinhnmabnomaa.Pw

/-! ### Rows of slices -/
/-- A slice value's words: its address, its length, its room. -/
structure SV where
  A : Option Addr
  n : Nat
  c : Nat
def SV.val (z : SV) : Value := .slice z.A z.n z.c
def svd : SV := ⟨none, 0, 0⟩
def encS (z : SV) : List Value := [z.val]
theorem encS_one (x : SV) : ∀ u ∈ encS x, u.oneCell' = true := by intro u hu; simp [encS] at hu; subst hu; rfl
/-- Slices, and the numbers that each has. -/
def AllS (w : World) : List SV → List (List Int) → Prop
  | [], [] => True
  | z :: zs, x :: l => G.SlL w enc1 z.val x ∧ AllS w zs l
  | _, _ => False
theorem AllS.len {w : World} : ∀ {zs : List SV} {l : List (List Int)}, AllS w zs l → zs.length = l.length
  | [], [], _ => rfl
  | _ :: _, _ :: _, h => by rw [List.length_cons, List.length_cons, AllS.len h.2]
  | [], _ :: _, h => h.elim
  | _ :: _, [], h => h.elim
theorem AllS.more {w w' : World} (hb : BelS w w') : ∀ {zs : List SV} {l : List (List Int)}, AllS w zs l → AllS w' zs l
  | [], [], _ => trivial
  | _ :: _, _ :: _, h => ⟨h.1.below hb, AllS.more hb h.2⟩
  | [], _ :: _, h => h.elim
  | _ :: _, [], h => h.elim
theorem AllS.get {w : World} : ∀ {zs : List SV} {l : List (List Int)}, AllS w zs l → ∀ i, i < l.length → G.SlL w enc1 (zs.getD i svd).val (l.getD i [])
  | [], [], _, i, hi => absurd hi (by simp)
  | _ :: _, _ :: _, h, 0, _ => by simpa using h.1
  | _ :: _, _ :: _, h, i + 1, hi => by simpa using AllS.get h.2 i (by simpa using hi)
  | [], _ :: _, h, _, _ => h.elim
  | _ :: _, [], h, _, _ => h.elim
theorem AllS.of {w : World} : ∀ {zs : List SV} {l : List (List Int)}, zs.length = l.length → (∀ i, i < l.length → G.SlL w enc1 (zs.getD i svd).val (l.getD i [])) → AllS w zs l
  | [], [], _, _ => trivial
  | _ :: _, _ :: _, h, g => ⟨by simpa using g 0 (by simp), AllS.of (by simpa using h) (fun i hi => by simpa using g (i + 1) (by simpa using hi))⟩
  | [], _ :: _, h, _ => by simp at h
  | _ :: _, [], h, _ => by simp at h
theorem AllS.append {w : World} : ∀ {zs ys : List SV} {l m : List (List Int)}, AllS w zs l → AllS w ys m → AllS w (zs ++ ys) (l ++ m)
  | [], _, [], _, _, h => h
  | _ :: _, _, _ :: _, _, h, g => ⟨h.1, AllS.append h.2 g⟩
  | [], _, _ :: _, _, h, _ => h.elim
  | _ :: _, _, [], _, h, _ => h.elim
theorem AllS.take {w : World} (k : Nat) {zs : List SV} {l : List (List Int)} (h : AllS w zs l) : AllS w (zs.take k) (l.take k) := by
  induction k generalizing zs l with
  | zero => simp [AllS]
  | succ k ih =>
    match zs, l, h with
    | [], [], _ => simp [AllS]
    | z :: zs, x :: l, h => exact ⟨h.1, ih h.2⟩
theorem AllS.drop {w : World} (k : Nat) {zs : List SV} {l : List (List Int)} (h : AllS w zs l) : AllS w (zs.drop k) (l.drop k) := by
  induction k generalizing zs l with
  | zero => simpa using h
  | succ k ih =>
    match zs, l, h with
    | [], [], _ => simp [AllS]
    | z :: zs, x :: l, h => simpa using ih h.2
def svOf : Value → SV
  | .slice A n c => ⟨A, n, c⟩
  | _ => svd
theorem svOf_val {w : World} {v : Value} {l : List Int} (h : G.SlL w enc1 v l) : (svOf v).val = v := by
  obtain ⟨A, c, rfl, _⟩ := h
  rfl
theorem getD_map {α β : Type} (f : α → β) (l : List α) (i : Nat) (d : α) (e : β) (hi : i < l.length) : (l.map f).getD i e = f (l.getD i d) := by
  rw [List.getD_eq_getElem?_getD, List.getD_eq_getElem?_getD, List.getElem?_eq_getElem hi, List.getElem?_map, List.getElem?_eq_getElem hi]
  rfl
theorem encS_get (zs : List SV) (j : Nat) (u : Value) (h : (zs.flatMap encS)[j]? = some u) : j < zs.length ∧ u = (zs.getD j svd).val := by
  have hj : j < zs.length := by
    have := (List.getElem?_eq_some_iff.1 h).1
    rwa [G.flat_length 1 encS (fun _ => rfl), Nat.mul_one] at this
  have := G.flat_getElem 1 encS (fun _ => rfl) zs j 0 (zs.getD j svd) (by rw [List.getD_eq_getElem?_getD, List.getElem?_eq_getElem hj]; rfl) (by omega)
  rw [Nat.mul_one, Nat.add_zero, h] at this
  exact ⟨hj, by simpa [encS] using this⟩
/-- Rows, as a slice of slices. -/
structure RowsS (w : World) (v : Value) (l : List (List Int)) (zs : List SV) : Prop where
  all : AllS w zs l
  sl : G.SlL w encS v zs
  off : ∀ a n c, v = .slice (some a) n c → ∃ b, a = ⟨b, 0, none⟩
theorem RowsS.more {w w' : World} {v : Value} {l : List (List Int)} {zs : List SV} (h : RowsS w v l zs) (hb : BelS w w') : RowsS w' v l zs := ⟨h.all.more hb, h.sl.below hb, h.off⟩
theorem rowsS_nil (w : World) : RowsS w (.slice none 0 0) [] [] := ⟨trivial, G.SlL.nil w encS, fun a n c h => by injection h with h1; cases h1⟩
/-- A row of slices that the call owns. -/
theorem rowsS_own {w : World} {base : Nat} {v : Value} {zs : List SV} {l : List (List Int)} (h : G.OwnL w base 23 1 encS v zs) (ha : AllS w zs l) : RowsS w v l zs := by
  refine ⟨ha, h.sl, fun a n c hv => ?_⟩
  obtain ⟨A, c', hv', _, _, hs⟩ := h.form
  rw [hv] at hv'
  injection hv' with e1
  obtain ⟨b, e, _⟩ := hs a e1.symm
  exact ⟨b, e⟩
theorem RowsS.out {w : World} {v : Value} {l : List (List Int)} {zs : List SV} (h : RowsS w v l zs) : RowsOut w v l := by
  obtain ⟨A, c, hv, hc, _, hr⟩ := h.sl
  have hl := h.all.len
  rw [hl] at hv hc
  refine ⟨⟨A, c, zs.map SV.val, hv, hc, by rw [List.length_map, hl], fun i hi => ?_, fun i hi => ?_⟩⟩
  · obtain ⟨b, off, rfl, _, hcl⟩ := hr (fun e => by rw [e] at hl; simp at hl; omega)
    obtain ⟨b2, e2⟩ := h.off _ _ _ hv
    injection e2 with e4 e5
    subst e5
    refine ⟨b, rfl, ?_⟩
    have := hcl i (zs.getD i svd).val (by
      have := G.flat_getElem 1 encS (fun _ => rfl) zs i 0 (zs.getD i svd) (by rw [List.getD_eq_getElem?_getD, List.getElem?_eq_getElem (by omega)]; rfl) (by omega)
      rw [Nat.mul_one, Nat.add_zero] at this
      rw [this]; rfl)
    rw [Nat.zero_add] at this
    rw [this, getD_map SV.val zs i svd undef (by omega)]
  · rw [getD_map SV.val zs i svd undef (by omega)]
    exact h.all.get i hi
/-- The cell of a row. -/
theorem RowsS.row {w : World} {v : Value} {l : List (List Int)} {zs : List SV} (h : RowsS w v l zs) (i : Nat) (hi : i < l.length) : ∃ b c, v = .slice (some ⟨b, 0, none⟩) l.length c ∧ w.cell? ⟨b, i, none⟩ = some (zs.getD i svd).val ∧ G.SlL w enc1 (zs.getD i svd).val (l.getD i []) := by
  obtain ⟨b, c, x, h1, h2, h3⟩ := h.out.row i hi
  have hl := h.all.len
  obtain ⟨b2, off, c2, h4, _, h5⟩ := h.sl.at_ (k := 1) (fun _ => rfl) i (zs.getD i svd) (by rw [List.getD_eq_getElem?_getD, List.getElem?_eq_getElem (by omega)]; rfl)
  rw [h1] at h4
  injection h4 with e1 e2 e3
  injection e1 with e1
  injection e1 with e4 e5
  subst e4 e5
  have := h5 0 _ rfl
  rw [Nat.zero_add, Nat.mul_one, Nat.add_zero] at this
  exact ⟨b, c, h1, this, h.all.get i hi⟩

/-! ### in -/
theorem in_ok {w : World} {v : Value} {l : List Int} (x : Int) (hv : G.SlL w enc1 v l) (hl : l.length ≤ 140737488355328) :
    Calls Try.prog 35 #[v, .int .i64 x] w fun e w' => e = .returned (.bool (decide (x ∈ l))) ∧ w = w' := by
  obtain ⟨A, c, rfl, hc, _, _⟩ := id hv
  obtain ⟨n, hn⟩ : ∃ n, l.length = n := ⟨_, rfl⟩
  rw [hn] at hv hl hc ⊢
  have HV := Lib.hid (And.intro hv hn)
  clear hv hn hc
  have hnn : (n : Int) ≤ 140737488355328 := by omega
  go_enter Try.func35, Try.ntmps35
  go_wp2_with fail
  go_loopg [5] (n + 1) (fun g s5 wr => ∃ k : Nat, k ≤ n ∧ n - k < g ∧ s5 = .int .i64 k ∧ w = wr ∧ ∀ j, j < k → l.getD j 0 ≠ x)
  case atStart => exact ⟨0, by omega, by omega, rfl, rfl, fun j hj => absurd hj (by omega)⟩
  case round =>
    obtain ⟨k, hk, hg, rfl, rfl, hall⟩ := hrel
    have HA := Lib.hid hall
    clear hall
    by_cases hlt : k < n
    · obtain ⟨b, off, c', hv', hc', _, hcell⟩ := sl_one HV.out.1 0 k (by have := HV.out.2; omega)
      injection hv' with e1 e2 e3
      subst e1
      have hd : decide ((k : Int) < (n : Int)) = true := by simp; omega
      have hl2 : (k : Int) < (n : Int) := by omega
      obtain ⟨y, hy⟩ : ∃ y, l.getD k 0 = y := ⟨_, rfl⟩
      rw [hy] at hcell
      have HY := Lib.hid hy
      clear hy e2 e3
      by_cases hq : y = x
      · have HQ := Lib.hid hq
        have hqb : (y == x) = true := by rw [hq]; simp
        clear hq
        go_wp2_with fail
        go_ret
        exact ⟨ret_bool (decide_eq_true (mem_of (d := 0) (by have := HV.out.2; omega) (HY.out.trans HQ.out))).symm, rfl⟩
      · have HQ := Lib.hid hq
        have hqb : (y == x) = false := by simpa using hq
        clear hq
        go_wp2_with fail
        go_roundg (n - k)
        case measure => exact hg
        case rel =>
          refine ⟨k + 1, by omega, by omega, by go_num, rfl, fun j hj => ?_⟩
          by_cases e : j < k
          · exact HA.out j e
          · rw [show j = k by omega, HY.out]
            exact HQ.out
    · have hd : decide ((k : Int) < (n : Int)) = false := by simp; omega
      have hl2 : ¬ (k : Int) < (n : Int) := by omega
      go_wp2_with fail
      go_ret
      exact ⟨ret_bool (decide_eq_false (not_mem_of (d := 0) (fun j hj => HA.out j (by have := HV.out.2; omega)))).symm, rfl⟩
end Go.Proofs.Ytejinhnmabnomaa.Lf
