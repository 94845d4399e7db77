/-
  The law StoreNobody, walked. Conditions: none.
-/
import Derived.Test.YtcnffgcegimelaaGreatSn0
import Derived.LoopN
namespace Go.Proofs.YtcnffgcegimelaaGreat.So
open Go.RowKit Go.Proofs.YtcnffgcegimelaaGreat.Mp Go.Proofs.YtcnffgcegimelaaGreat.Wd Go.Proofs.YtcnffgcegimelaaGreat.Pm Go.Proofs.YtcnffgcegimelaaGreat.Pw

/-- The two stores, as the law goes on. -/
structure Nbs (x : World) (b p : Nat) (W : World) : Prop where
  be : Below x.heap.size x W
  lt : b < x.heap.size
  c0 : W.cell? ⟨b, 0, none⟩ = some (.pointer none)
  c1 : W.cell? ⟨b, 1, none⟩ = some (.pointer (some ⟨p, 0, none⟩))
  n1 : Nob W (.pointer (some ⟨p, 0, none⟩))
theorem Nbs.n0 {x W : World} {b p : Nat} (_ : Nbs x b p W) : Nob W (.pointer none) := Nob.nil W
theorem Nbs.next {x W W' : World} {b p : Nat} (h : Nbs x b p W) (hb : Below W.heap.size W W') : Nbs x b p W' := by
  have hl := Nat.lt_of_lt_of_le h.lt h.be.size
  exact ⟨h.be.trans (hb.mono h.be.size), h.lt, (hb.cell (p := ⟨b, 0, none⟩) hl).trans h.c0, (hb.cell (p := ⟨b, 1, none⟩) hl).trans h.c1, h.n1.next hb⟩
def nbW (w : World) : World := (w.alloc (.cells #[.map none, .slice none 0 0, .pointer none, .map none] 65 (0, 0))).alloc (.cells #[.pointer none, .pointer (some ⟨w.heap.size, 0, none⟩)] 23 (0, 0))
theorem nbs_at (w : World) : Nbs (nbW w) (w.heap.size + 1) w.heap.size (nbW w) := by
  have h1 := heap_alloc_new (w.alloc (.cells #[.map none, .slice none 0 0, .pointer none, .map none] 65 (0, 0))) (.cells #[.pointer none, .pointer (some ⟨w.heap.size, 0, none⟩)] 23 (0, 0))
  rw [World.size_alloc] at h1
  have h0 : (nbW w).heap[w.heap.size]? = some (.cells #[.map none, .slice none 0 0, .pointer none, .map none] 65 (0, 0)) := (Below.heap_alloc _ _ _ (by rw [World.size_alloc]; omega)).trans (heap_alloc_new w _)
  have h1' : (nbW w).heap[w.heap.size + 1]? = some (.cells #[.pointer none, .pointer (some ⟨w.heap.size, 0, none⟩)] 23 (0, 0)) := h1
  exact ⟨Below.refl _ _, (Array.getElem?_eq_some_iff.1 h1').1, by simp [World.cell?, h1'], by simp [World.cell?, h1'], Nob.zero (by simp [World.cell?, h0]) (Array.getElem?_eq_some_iff.1 h0).1⟩
theorem nbs_below (w : World) : Below w.heap.size w (nbW w) := ((Below.refl _ w).alloc (Nat.le_refl _) _).alloc (by simp) _
set_option maxRecDepth 100000 in
set_option maxHeartbeats 3200000 in
theorem nobody_ok (w : World) (n : Int) (A : Option Addr) (ln cp : Nat) :
    Calls Tryz.prog 10 #[.int .i64 n, .slice A ln cp] w fun e w' => e = .returned (.bool true) ∧ Below w.heap.size w w' := by
  have S0 := Lib.hid (nbs_at w)
  have B0 := Lib.hid (nbs_below w)
  go_enter Tryz.func10, Tryz.ntmps10
  go_wp2_with fail
  have y0 := S0.out.c0
  have y1 := S0.out.c1
  unfold nbW at S0 B0 y0 y1
  generalize hx : (w.alloc (.cells #[.map none, .slice none 0 0, .pointer none, .map none] 65 (0, 0))).alloc (.cells #[.pointer none, .pointer (some ⟨w.heap.size, 0, none⟩)] 23 (0, 0)) = x at S0 B0 y0 y1 ⊢
  obtain ⟨b, hb⟩ : ∃ b, w.heap.size + 1 = b := ⟨_, rfl⟩
  obtain ⟨p, hp⟩ : ∃ p, w.heap.size = p := ⟨_, rfl⟩
  rw [hb] at S0 y0 y1
  rw [hp] at S0 y1
  try rw [hb]
  clear hx hb hp
  refine wp_loop_rounds 3 ?_
  rw [rounds_succ]
  go_wp2_with fail
  refine (nob_facts S0.out.n0 n).mono ?_
  rintro e w1 ⟨rfl, hb⟩
  have S1 := Lib.hid (S0.out.next hb)
  clear hb S0 y0 y1
  have y0 := S1.out.c0
  have y1 := S1.out.c1
  go_wp2_with fail
  refine (nob_match S1.out.n0 n _ _ _).mono ?_
  rintro e w2 ⟨rfl, hb⟩
  have S2 := Lib.hid (S1.out.next hb)
  clear hb S1 y0 y1
  have y0 := S2.out.c0
  have y1 := S2.out.c1
  go_wp2_with fail
  refine (nob_apply S2.out.n0 n _).mono ?_
  rintro e w3 ⟨rfl, hb⟩
  have S3 := Lib.hid (S2.out.next hb)
  clear hb S2 y0 y1
  have y0 := S3.out.c0
  have y1 := S3.out.c1
  go_wp2_with fail
  refine (nob_room S3.out.n0 _).mono ?_
  rintro e w4 ⟨rfl, hb⟩
  have S4 := Lib.hid (S3.out.next hb)
  clear hb S3 y0 y1
  have y0 := S4.out.c0
  have y1 := S4.out.c1
  go_wp2_with fail
  refine (nob_version S4.out.n0 ).mono ?_
  rintro e w5 ⟨rfl, hb⟩
  have S5 := Lib.hid (S4.out.next hb)
  clear hb S4 y0 y1
  have y0 := S5.out.c0
  have y1 := S5.out.c1
  go_wp2_with fail
  refine (nob_homes S5.out.n0 0 1).mono ?_
  rintro e w6 ⟨rfl, hb⟩
  have S6 := Lib.hid (S5.out.next hb)
  clear hb S5 y0 y1
  have y0 := S6.out.c0
  have y1 := S6.out.c1
  go_wp2_with fail
  rw [rounds_succ]
  go_wp2_with fail
  refine (nob_facts S6.out.n1 n).mono ?_
  rintro e w7 ⟨rfl, hb⟩
  have S7 := Lib.hid (S6.out.next hb)
  clear hb S6 y0 y1
  have y0 := S7.out.c0
  have y1 := S7.out.c1
  go_wp2_with fail
  refine (nob_match S7.out.n1 n _ _ _).mono ?_
  rintro e w8 ⟨rfl, hb⟩
  have S8 := Lib.hid (S7.out.next hb)
  clear hb S7 y0 y1
  have y0 := S8.out.c0
  have y1 := S8.out.c1
  go_wp2_with fail
  refine (nob_apply S8.out.n1 n _).mono ?_
  rintro e w9 ⟨rfl, hb⟩
  have S9 := Lib.hid (S8.out.next hb)
  clear hb S8 y0 y1
  have y0 := S9.out.c0
  have y1 := S9.out.c1
  go_wp2_with fail
  refine (nob_room S9.out.n1 _).mono ?_
  rintro e w10 ⟨rfl, hb⟩
  have S10 := Lib.hid (S9.out.next hb)
  clear hb S9 y0 y1
  have y0 := S10.out.c0
  have y1 := S10.out.c1
  go_wp2_with fail
  refine (nob_version S10.out.n1 ).mono ?_
  rintro e w11 ⟨rfl, hb⟩
  have S11 := Lib.hid (S10.out.next hb)
  clear hb S10 y0 y1
  have y0 := S11.out.c0
  have y1 := S11.out.c1
  go_wp2_with fail
  refine (nob_homes S11.out.n1 0 1).mono ?_
  rintro e w12 ⟨rfl, hb⟩
  have S12 := Lib.hid (S11.out.next hb)
  clear hb S11 y0 y1
  have y0 := S12.out.c0
  have y1 := S12.out.c1
  go_wp2_with fail
  rw [rounds_succ]
  go_wp2_with fail
  refine (awake_ok _).mono ?_
  rintro e w13 ⟨rfl, hb⟩
  have B := Lib.hid (B0.out.trans ((S12.out.next hb).be.mono B0.out.size))
  clear hb
  go_wp2
  go_ret
  exact ⟨rfl, B.out⟩
end Go.Proofs.YtcnffgcegimelaaGreat.So
