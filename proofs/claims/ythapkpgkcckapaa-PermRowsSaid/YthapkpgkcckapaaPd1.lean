/-
  The law of a walk that tells all rows: the plain law of a row that is told. Conditions: rows that rise strictly.
-/
import Derived.Test.YthapkpgkcckapaaPd0
namespace Go.Proofs.Ythapkpgkcckapaa.Pm
open Go.Proofs.Ythapkpgkcckapaa.Pw

/-- The numbers of the levels above are those of the row. -/
theorem num_up {L : List R3} {o : Ord} (hL : L.Pairwise (ltR o)) (e : Nat) (he : 1 ≤ e ∧ e ≤ 3) (f t k : Nat) (ht : t ≤ L.length) (hf : f ≤ t) (h1 : f ≤ k) (h2 : k < hopN L o e f t (gt (num L o e f))) (hs : ∀ j, 1 ≤ j → j < e → num L o j f = num L o j k) : num L o e k = num L o e f := by
  have h3 := of_decide_eq_false (hopN_below L o e f t (gt (num L o e f)) k h1 h2)
  have h4 := hopN_le L o e f t (gt (num L o e f)) hf
  have h5 := num_mono o L hL e he f k h1 (by omega) hs
  omega

/-- The states of a row that is told. -/
structure Tell (L : List R3) (o : Ord) (s : St) where
  s1 : St
  s2 : St
  s3 : St
  s4 : St
  s5 : St
  s6 : St
  s7 : St
  u1 : opUp s = (s1, 0)
  u2 : opUp s1 = (s2, 0)
  u3 : opOpen L o s2 = (s3, 0)
  u4 : opSeek L o s3 (num L o 2 (s.f 2)) = (s4, 0)
  u5 : opOpen L o s4 = (s5, 0)
  u6 : opSeek L o s5 (num L o 3 (s.f 3)) = (s6, 0)
  u7 : opNext L o s6 = (s7, 0)
  k0 : opKey L o s = (num L o 3 (s.f 3), true)
  k1 : opKey L o s1 = (num L o 2 (s.f 2), true)
  k2 : opKey L o s2 = (num L o 1 (s.f 1), true)
  all : All L o s7
  pos : pos s7 = s.f 3 + 1
  left : left L s7 < left L s

theorem all_tell {L : List R3} {o : Ord} {s : St} (h : All L o s) (hL : L.Pairwise (ltR o)) (hd : s.d = 3) (hs : stand s = true) : Nonempty (Tell L o s) := by
  have hs' := (stand_iff s).1 hs
  have h2 := h.lv (by omega)
  rw [hd] at h2 hs'
  have ht1 := h.t1 (by omega)
  have hb2 := h.b2 (by omega)
  have hb3 := h.b3 (by omega)
  have hl2 := h.ok.le 2 (by omega) (by omega)
  have hl : L.length ≠ 0 := by omega
  have q1 := h.ok.same 3 (by omega) (by omega) 1 (by omega) (by omega)
  have q2 := h.ok.same 3 (by omega) (by omega) 2 (by omega) (by omega)
  have q3 := h.ok.same 2 (by omega) (by omega) 1 (by omega) (by omega)
  have le3 := hopN_le L o 2 (s.f 2) (s.t 2) (gt (num L o 2 (s.f 2))) (by omega)
  rw [← hb3.2.2] at le3
  -- the states
  let s1 : St := { s with d := 2 }
  let s2 : St := { s with d := 1 }
  let s3 : St := ⟨2, upd s.f 2 (s.f 1), upd s.t 2 (s.t 2)⟩
  let s4 : St := ⟨2, upd (upd s.f 2 (s.f 1)) 2 (s.f 2), upd s.t 2 (s.t 2)⟩
  let s5 : St := ⟨3, upd (upd (upd s.f 2 (s.f 1)) 2 (s.f 2)) 3 (s.f 2), upd (upd s.t 2 (s.t 2)) 3 (s.t 3)⟩
  let s6 : St := ⟨3, upd (upd (upd (upd s.f 2 (s.f 1)) 2 (s.f 2)) 3 (s.f 2)) 3 (s.f 3), upd (upd s.t 2 (s.t 2)) 3 (s.t 3)⟩
  let s7 : St := ⟨3, upd (upd (upd (upd (upd s.f 2 (s.f 1)) 2 (s.f 2)) 3 (s.f 2)) 3 (s.f 3)) 3 (s.f 3 + 1), upd (upd s.t 2 (s.t 2)) 3 (s.t 3)⟩
  have gt2 := gt_hop L o 1 (s.f 1) (s.t 1) hb2.1
  rw [← hb2.2.2.1] at gt2
  have st1 : stand s1 = true := (stand_iff _).2 ⟨by show 0 < 2; omega, hb3.1⟩
  have st2 : stand s2 = true := (stand_iff _).2 ⟨by show 0 < 1; omega, hb2.1⟩
  have st3 : stand s3 = true := (stand_iff _).2 ⟨by show 0 < 2; omega, by show s.f 1 < s.t 2; omega⟩
  have st4 : stand s4 = true := (stand_iff _).2 ⟨by show 0 < 2; omega, by show s.f 2 < s.t 2; omega⟩
  have st5 : stand s5 = true := (stand_iff _).2 ⟨by show 0 < 3; omega, by show s.f 2 < s.t 3; omega⟩
  have st6 : stand s6 = true := (stand_iff _).2 ⟨by show 0 < 3; omega, by show s.f 3 < s.t 3; omega⟩
  have hst3 : ∀ a b, s.f 2 ≤ a → a < b → b < s.t 3 → num L o 3 a < num L o 3 b := fun a b h1 h3 h4 =>
    num_strict o L hL a b h3 (by omega) (fun j hj1 hj2 => by
      obtain rfl | rfl : j = 1 ∨ j = 2 := by omega
      · exact q3 a b (by omega) (by omega) (by omega) (by omega)
      · have e : ∀ k, s.f 2 ≤ k → k < s.t 3 → num L o 2 k = num L o 2 (s.f 2) := fun k hk1 hk2 =>
          num_up hL 2 (by omega) (s.f 2) (s.t 2) k hl2.2 hl2.1 hk1 (by rw [← hb3.2.2]; exact hk2) (fun j hj1 hj2 => by
            obtain rfl : j = 1 := by omega
            exact q3 _ _ (by omega) (by omega) (by omega) (by omega))
        rw [e a (by omega) (by omega), e b (by omega) h4])
  have u1 : opUp s = (s1, 0) := by rw [up_eq (by omega), hd]
  have u2 : opUp s1 = (s2, 0) := (up_eq (by show 2 ≠ 0; omega)).trans rfl
  have u3 : opOpen L o s2 = (s3, 0) := open_eq st2 hl (by show 1 ≠ 3; omega) hb2.2.2.1.symm
  have u4 : opSeek L o s3 (num L o 2 (s.f 2)) = (s4, 0) := by
    refine (seek_eq st3 (r := s.f 2) ?_).trans rfl
    show hopN L o 2 (s.f 1) (s.t 2) _ = _
    exact hopN_eq L o 2 _ _ _ _ hb2.2.1 (by omega) (fun i hi1 hi2 => decide_eq_false (by have := hb2.2.2.2 hb3.1 i hi1 hi2; omega)) (fun _ => decide_eq_true (Int.le_refl _))
  have u5 : opOpen L o s4 = (s5, 0) := by
    refine (open_eq st4 hl (by show 2 ≠ 3; omega) (r := s.t 3) ?_).trans ?_
    · exact hb3.2.2.symm
    · rfl
  have u6 : opSeek L o s5 (num L o 3 (s.f 3)) = (s6, 0) := by
    refine (seek_eq st5 (r := s.f 3) ?_).trans rfl
    show hopN L o 3 (s.f 2) (s.t 3) _ = _
    exact hopN_eq L o 3 _ _ _ _ hb3.2.1 (by omega) (fun i hi1 hi2 => decide_eq_false (by have := hst3 i (s.f 3) hi1 hi2 hs'.2; omega)) (fun _ => decide_eq_true (Int.le_refl _))
  have u7 : opNext L o s6 = (s7, 0) := by
    refine (next_eq st6 (r := s.f 3 + 1) ?_).trans rfl
    show hopN L o 3 (s.f 3) (s.t 3) (gt (num L o 3 (s.f 3))) = _
    exact hopN_eq L o 3 _ _ _ _ (by omega) (by omega) (fun i hi1 hi2 => decide_eq_false (by rw [show i = s.f 3 by omega]; omega)) (fun hlt => decide_eq_true (hst3 _ _ hb3.2.1 (by omega) hlt))
  have f71 : s7.f 1 = s.f 1 := rfl
  have f72 : s7.f 2 = s.f 2 := rfl
  have f73 : s7.f 3 = s.f 3 + 1 := rfl
  have t71 : s7.t 1 = s.t 1 := rfl
  have t72 : s7.t 2 = s.t 2 := rfl
  have t73 : s7.t 3 = s.t 3 := rfl
  have ok1 := ok_up h.ok
  rw [u1] at ok1
  have ok2 := ok_up ok1
  rw [u2] at ok2
  have ok3 := ok_open ok2 hL
  rw [u3] at ok3
  have ok4 := ok_seek ok3 (num L o 2 (s.f 2))
  rw [u4] at ok4
  have ok5 := ok_open ok4 hL
  rw [u5] at ok5
  have ok6 := ok_seek ok5 (num L o 3 (s.f 3))
  rw [u6] at ok6
  have ok7 := ok_next ok6
  rw [u7] at ok7
  have d7 : s7.d = 3 := rfl
  have hleft : left L s7 < left L s := by
    rw [left_3 hd, left_3 d7, f73, t73, if_pos hs'.2]
    split <;> omega
  exact ⟨⟨s1, s2, s3, s4, s5, s6, s7, u1, u2, u3, u4, u5, u6, u7, by rw [key_eq L o hs, hd], key_eq L o st1, key_eq L o st2,
    ⟨ok7, fun _ => ht1, fun _ => hb2, fun _ => ⟨hb3.1, by rw [f72, f73]; omega, hb3.2.2⟩⟩, rfl, hleft⟩⟩

/-- The row that is told. -/
theorem tell_row {L : List R3} {o : Ord} (ho : Six o) {s : St} (h : All L o s) (hL : L.Pairwise (ltR o)) (hd : s.d = 3) (hs : stand s = true) :
    s.f 3 < L.length ∧ (L.getD (s.f 3) r0).at o.x = num L o 1 (s.f 1) ∧ (L.getD (s.f 3) r0).at o.y = num L o 2 (s.f 2) ∧ (L.getD (s.f 3) r0).at o.z = num L o 3 (s.f 3) := by
  have hs' := (stand_iff s).1 hs
  have h2 := h.lv (by omega)
  rw [hd] at h2 hs'
  have ht1 := h.t1 (by omega)
  have hb2 := h.b2 (by omega)
  have hb3 := h.b3 (by omega)
  have hl2 := h.ok.le 2 (by omega) (by omega)
  have q3 := h.ok.same 2 (by omega) (by omega) 1 (by omega) (by omega)
  have le3 := hopN_le L o 2 (s.f 2) (s.t 2) (gt (num L o 2 (s.f 2))) (by omega)
  rw [← hb3.2.2] at le3
  have e1 : num L o 1 (s.f 3) = num L o 1 (s.f 1) := num_up hL 1 (by omega) (s.f 1) (s.t 1) _ (by omega) (by omega) (by omega) (by rw [← hb2.2.2.1]; omega) (fun j h1 h2 => by omega)
  have e2 : num L o 2 (s.f 3) = num L o 2 (s.f 2) := num_up hL 2 (by omega) (s.f 2) (s.t 2) _ (by omega) (by omega) (by omega) (by rw [← hb3.2.2]; omega) (fun j h1 h2 => by
    obtain rfl : j = 1 := by omega
    exact q3 _ _ (by omega) (by omega) (by omega) (by omega))
  exact ⟨by omega, e1, e2, rfl⟩
end Go.Proofs.Ythapkpgkcckapaa.Pm
