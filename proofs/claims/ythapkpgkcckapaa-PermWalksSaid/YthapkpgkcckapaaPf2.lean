/-
  The document's walks: the walk of level. Conditions: the rows' cells lie as told.
-/
import Derived.Test.YthapkpgkcckapaaPf1
import Derived.Test.YthapkpgkcckapaaPe3
namespace Go.Proofs.Ythapkpgkcckapaa.Pw
open Go.RowKit Go.Proofs.YthapkpgkcckapaaW.PrintWords Go.Proofs.Ythapkpgkcckapaa.Pm

def encI (x : Int) : List Value := [.int .i64 x]
theorem encI_len (x : Int) : (encI x).length = 1 := rfl
theorem encI_one (x : Int) : ∀ u ∈ encI x, u.oneCell' = true := by
  intro u hu
  simp [encI] at hu
  subst hu
  rfl
theorem info3 : (Try.prog.info? 3).map (fun i => (i.zero, i.size, i.bytes)) = some (some (.int .i64 0), 1, 8) := by kernel_rfl
/-- A slice of whole numbers. -/
abbrev SlI (w : World) (v : Value) (l : List Int) : Prop := G.SlL w encI v l
theorem SlI.cell {w : World} {v : Value} {l : List Int} (h : SlI w v l) (k : Nat) (hk : k < l.length) : ∃ b off c, v = .slice (some ⟨b, off, none⟩) l.length c ∧ b < w.heap.size ∧ w.cell? ⟨b, off + k, none⟩ = some (.int .i64 (l.getD k 0)) := by
  obtain ⟨b, off, c, hv, hb, hcl⟩ := G.SlL.at_ h encI_len k (l.getD k 0) (by rw [List.getD_eq_getElem?_getD, List.getElem?_eq_getElem hk]; rfl)
  refine ⟨b, off, c, hv, hb, ?_⟩
  have := hcl 0 _ rfl
  rwa [Nat.mul_one, Nat.add_zero] at this
theorem SlI.form {w : World} {v : Value} {l : List Int} (h : SlI w v l) : ∃ A c, v = .slice A l.length c := by
  obtain ⟨A, c, hv, _⟩ := h
  exact ⟨A, c, hv⟩

set_option maxHeartbeats 4000000 in
theorem level_calls (w : World) (o : Ord) (ho : Six o) (A : Option Addr) (n c : Nat) (L : List R3) (hn : L.length = n) (hv : SlR w (.slice A n c) L) (hl : n ≤ 100) (B : Option Addr) (m d : Nat) (p : List Int) (hm : p.length = m) (hp : SlI w (.slice B m d) p) (hm2 : m ≤ 2) :
    Calls Try.prog 42 #[.agg #[.int .i64 o.x, .int .i64 o.y, .int .i64 o.z, .slice A n c], .slice B m d] w fun e w' => ∃ v', e = .returned v' ∧ G.OwnL w' w.heap.size 3 1 encI v' (lvl L o p) ∧ Below w.heap.size w w' := by
  have hb := Lib.hid (below_a w (.cells #[.int .i64 o.x, .int .i64 o.y, .int .i64 o.z, .slice A n c] 32))
  have hnw := cell_new1 w #[.int .i64 o.x, .int .i64 o.y, .int .i64 o.z, .slice A n c] 32
  have hsz := size_alloc w (.cells #[.int .i64 o.x, .int .i64 o.y, .int .i64 o.z, .slice A n c] 32)
  have HV := Lib.hid (And.intro (hv.below hb.out) (And.intro (hp.below hb.out) (And.intro ho (And.intro hn (And.intro hm (And.intro hnw hsz))))))
  clear hv hp ho hn hm hnw hsz
  have hN : (n : Int) ≤ 100 := by omega
  have hM : (m : Int) ≤ 2 := by omega
  go_enter Try.func42, Try.ntmps42
  go_wp2
  obtain ⟨t0, ht0⟩ : ∃ x, w.alloc (.cells #[.int .i64 o.x, .int .i64 o.y, .int .i64 o.z, .slice A n c] 32) = x := ⟨_, rfl⟩
  rw [ht0] at HV hb ⊢
  obtain ⟨bx, hbx⟩ : ∃ x, w.heap.size = x := ⟨_, rfl⟩
  rw [hbx] at HV ⊢
  have HX := Lib.hid (And.intro hbx ht0)
  clear hbx ht0
  go_loopg [5, 6] n (fun g s5 s6 wr => ∃ i : Nat, i ≤ n ∧ n - i ≤ g ∧ s6 = .int .i64 i ∧ Below t0.heap.size t0 wr ∧ G.OwnL wr t0.heap.size 3 1 encI s5 (lvl (L.take i) o p))
  case atStart => exact ⟨0, by omega, by omega, rfl, Below.refl _ _, G.OwnL.nil _ _ _ _ _⟩
  case round =>
    obtain ⟨i, hi, hg, rfl, hbw, hown⟩ := hrel
    have hxs : bx < t0.heap.size := by have := HV.out.2.2.2.2.2.2; omega
    have hcell : ∀ k, wr.cell? ⟨bx, k, none⟩ = #[Value.int .i64 o.x, .int .i64 o.y, .int .i64 o.z, .slice A n c][k]? := fun k => (hbw.cell (p := ⟨bx, k, none⟩) hxs).trans (HV.out.2.2.2.2.2.1 k)
    have z3 : wr.cell? ⟨bx, 3, none⟩ = some (.slice A n c) := hcell 3
    have HC := Lib.hid hcell
    have HW := Lib.hid (And.intro hbw hown)
    have hil := lvl_len L o p i (by have := HV.out.2.2.2.1; omega)
    clear hcell hbw hown
    by_cases hlt : i < n
    · obtain ⟨b, off, rfl, hr⟩ := (HV.out.1.below HW.out.1).rows i hlt
      obtain ⟨r, hrr⟩ : ∃ r, L.getD i r0 = r := ⟨_, rfl⟩
      have hrow : ∀ j, j < 3 → wr.cell? ⟨b, off + i * 3 + j, none⟩ = some (.int .i64 (r.at j)) := fun j hj => by
        rw [← hrr]; exact hr i j (by have := HV.out.2.2.2.1; omega) hj
      have HR := Lib.hid (And.intro hrow (And.intro hrr hr))
      clear hrow hrr hr
      obtain ⟨wo, rfl⟩ : ∃ x : World, x = wr := ⟨_, rfl⟩
      go_wp2_with fail
      go_loopg [7, 8] m (fun g2 s7 s8 wr => ∃ k q : Nat, k ≤ m ∧ m - k ≤ g2 ∧ s8 = .int .i64 k ∧ s7 = .bool (mtTo o p r k) ∧ wr = wo.drewN q)
      case atStart => exact ⟨0, 0, by omega, by omega, rfl, rfl, rfl⟩
      case round =>
        obtain ⟨k, q, hk, hg2, rfl, rfl, rfl⟩ := hrel
        by_cases hkm : k < m
        · have hok : o.at k < 3 := by
            have := HV.out.2.2.1
            obtain rfl | rfl : k = 0 ∨ k = 1 := by omega
            · rcases this with h | h | h | h | h | h <;> (rw [ordAt0]; omega)
            · rcases this with h | h | h | h | h | h <;> (rw [ordAt1]; omega)
          have y0 : wo.cell? ⟨bx, k, none⟩ = some (.int .i64 (o.at k)) := by
            rw [HC.out]
            obtain rfl | rfl : k = 0 ∨ k = 1 := by omega
            all_goals rfl
          have y1 := HR.out.1 (o.at k) hok
          obtain ⟨pb, poff, pd, hpv, _, y2⟩ := SlI.cell (HV.out.2.1.below HW.out.1) k (by have := HV.out.2.2.2.2.1; omega)
          injection hpv with e1 e2 e3
          subst e1 e3
          have hs : mtTo o p r (k + 1) = (mtTo o p r k && decide (r.at (o.at k) = p.getD k 0)) := rfl
          generalize mtTo o p r k = t0' at *
          generalize o.at k = ok at *
          generalize r.at ok = x1 at *
          generalize p.getD k 0 = x2 at *
          clear e2
          cases t0'
          · have HS := Lib.hid hs
            clear hs y0 y1 y2
            go_wp2_with fail
            go_quiet (fail)
            go_wp2_with fail
            go_roundg (m - (k + 1))
            case measure => omega
            case rel => exact ⟨k + 1, _, by omega, Nat.le_refl _, by go_num, by rw [HS.out]; rfl, rfl⟩
          · by_cases hx : x1 = x2
            · subst hx
              have hx' : (x1 == x1) = true := by simp
              have HS := Lib.hid hs
              clear hs
              go_wp2_with fail
              go_quiet (fail)
              go_wp2_with fail
              go_roundg (m - (k + 1))
              case measure => omega
              case rel => exact ⟨k + 1, _, by omega, Nat.le_refl _, by go_num, by rw [HS.out]; simp, rfl⟩
            · have hx' : (x1 == x2) = false := beq_eq_false_iff_ne.2 hx
              have HS := Lib.hid (And.intro hs hx)
              clear hs hx
              go_wp2_with fail
              go_quiet (fail)
              go_wp2_with fail
              go_roundg (m - (k + 1))
              case measure => omega
              case rel => exact ⟨k + 1, _, by omega, Nat.le_refl _, by go_num, by rw [HS.out.1, decide_eq_false HS.out.2]; simp, rfl⟩
        · obtain rfl : k = m := by omega
          have hok : o.at k < 3 := by
            have := HV.out.2.2.1
            obtain rfl | rfl | rfl : k = 0 ∨ k = 1 ∨ k = 2 := by omega
            · rcases this with h | h | h | h | h | h <;> (rw [ordAt0]; omega)
            · rcases this with h | h | h | h | h | h <;> (rw [ordAt1]; omega)
            · rcases this with h | h | h | h | h | h <;> (rw [ordAt2]; omega)
          have y0 : wo.cell? ⟨bx, k, none⟩ = some (.int .i64 (o.at k)) := by
            rw [HC.out]
            obtain rfl | rfl | rfl : k = 0 ∨ k = 1 ∨ k = 2 := by omega
            all_goals rfl
          have y1 := HR.out.1 (o.at k) hok
          have hst : lvl (L.take (i + 1)) o p = if mtTo o p r k = true then ddStep (lvl (L.take i) o p) (r.at (o.at k)) else lvl (L.take i) o p := by
            rw [lvl_take L o p i (by have := HV.out.2.2.2.1; omega), HR.out.2.1]
            unfold lvlStep
            rw [HV.out.2.2.2.2.1]
          have HO := Lib.hid HW.out.2
          obtain ⟨out, hout⟩ : ∃ out, lvl (L.take i) o p = out := ⟨_, rfl⟩
          rw [hout] at hst HO hil
          obtain ⟨A5, c5, hu5, _⟩ := HO.out.form
          obtain ⟨z, hz⟩ : ∃ z, out.length = z := ⟨_, rfl⟩
          rw [hz] at hu5 hil
          subst hu5
          have hz100 : z ≤ 100 := by omega
          generalize mtTo o p r k = tt at *
          generalize o.at k = ok at *
          generalize r.at ok = x1 at *
          have HF := Lib.hid (And.intro hst (And.intro hz hout))
          clear hst hz hout
          cases tt
          · go_wp2_with fail
            go_quiet (fail)
            go_wp2_with fail
            go_roundg (n - (i + 1))
            case measure => omega
            case rel => exact ⟨i + 1, by omega, Nat.le_refl _, by go_num, pw_below_drewN HW.out.1 _, by rw [HF.out.1]; exact HO.out.below (pw_below_drewN (Below.refl _ _) _)⟩
          · by_cases hz0 : z = 0
            · subst hz0
              have FIN := Lib.hid (show lvl (L.take (i + 1)) o p = out ++ [x1] by rw [HF.out.1, if_pos rfl]; unfold ddStep; rw [if_neg (by rw [List.eq_nil_of_length_eq_zero HF.out.2.1]; simp)])
              go_wp2_with fail
              go_quiet (fail)
              have HO := Lib.hid (HO.out.below (pw_below_drewN (Below.refl _ _) (q + nq)))
              have HW := Lib.hid (pw_below_drewN HW.out.1 (q + nq))
              go_wp2_with (at_builtin; go_loud (refine G.wp_app1 rfl _ _ 37 3 rfl _ 1 8 Try.underlying37 info3 rfl (by omega) (by omega) encI encI_len encI_one t0.heap.size (.slice A5 0 c5) out x1 _ rfl rfl _ rfl rfl HO.out HW.out.size (by have := HF.out.2.1; omega) ?_))
              intro v9 w9 ho9 hg9 _
              have O9 := Lib.hid ho9
              have B9 := Lib.hid (HO.out.next HW.out HW.out.size hg9)
              clear ho9 hg9
              go_wp2_with fail
              go_roundg (n - (i + 1))
              case measure => omega
              case rel => exact ⟨i + 1, by omega, Nat.le_refl _, by go_num, B9.out, by rw [FIN.out]; exact O9.out⟩
            · obtain ⟨y, rfl⟩ : ∃ y, z = y + 1 := ⟨z - 1, by omega⟩
              obtain ⟨b5, off5, c5', hv5, _, hlast⟩ := SlI.cell HO.out.sl y (by have := HF.out.2.1; omega)
              injection hv5 with e1 e2 e3
              subst e1 e3
              clear e2
              have hgl : out.getLast? = some (out.getD y 0) := by
                rw [List.getLast?_eq_getElem?, HF.out.2.1, List.getD_eq_getElem?_getD]
                rw [show y + 1 - 1 = y by omega, List.getElem?_eq_getElem (by have := HF.out.2.1; omega)]
                rfl
              obtain ⟨x2, hx2⟩ : ∃ x2, out.getD y 0 = x2 := ⟨_, rfl⟩
              rw [hx2] at hlast hgl
              have HG := Lib.hid hgl
              clear hx2 hgl
              by_cases hx : x2 = x1
              · subst hx
                have hxb : (x2 != x2) = false := by simp
                have FIN := Lib.hid (show lvl (L.take (i + 1)) o p = out by rw [HF.out.1, if_pos rfl]; unfold ddStep; rw [if_pos HG.out])
                go_wp2_with fail
                go_quiet (fail)
                go_wp2_with fail
                go_roundg (n - (i + 1))
                case measure => omega
                case rel => exact ⟨i + 1, by omega, Nat.le_refl _, by go_num, pw_below_drewN HW.out.1 _, by rw [FIN.out]; exact HO.out.below (pw_below_drewN (Below.refl _ _) _)⟩
              · have hxb : (x2 != x1) = true := by simp [hx]
                have FIN := Lib.hid (show lvl (L.take (i + 1)) o p = out ++ [x1] by rw [HF.out.1, if_pos rfl]; unfold ddStep; rw [if_neg (by rw [HG.out]; intro e; exact hx (Option.some.inj e))])
                clear hx
                go_wp2_with fail
                go_quiet (fail)
                have HO := Lib.hid (HO.out.below (pw_below_drewN (Below.refl _ _) (q + nq)))
                have HW := Lib.hid (pw_below_drewN HW.out.1 (q + nq))
                go_wp2_with (at_builtin; go_loud (refine G.wp_app1 rfl _ _ 37 3 rfl _ 1 8 Try.underlying37 info3 rfl (by omega) (by omega) encI encI_len encI_one t0.heap.size (.slice (some ⟨b5, off5, none⟩) (y + 1) c5) out x1 _ rfl rfl _ rfl rfl HO.out HW.out.size (by have := HF.out.2.1; omega) ?_))
                intro v9 w9 ho9 hg9 _
                have O9 := Lib.hid ho9
                have B9 := Lib.hid (HO.out.next HW.out HW.out.size hg9)
                clear ho9 hg9
                go_wp2_with fail
                go_roundg (n - (i + 1))
                case measure => omega
                case rel => exact ⟨i + 1, by omega, Nat.le_refl _, by go_num, B9.out, by rw [FIN.out]; exact O9.out⟩
    · obtain rfl : i = n := by omega
      rw [List.take_of_length_le (by have := HV.out.2.2.2.1; omega)] at HW
      go_wp2_with fail
      go_ret
      have hbb := below_tr hb.out HW.out.1 hb.out.size
      exact ⟨_, rfl, HW.out.2.weaken hb.out.size, hbb⟩
end Go.Proofs.Ythapkpgkcckapaa.Pw
