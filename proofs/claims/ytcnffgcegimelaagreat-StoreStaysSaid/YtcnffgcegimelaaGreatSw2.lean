/-
  A dictionary in memory: Word, Put of a word that is there. Conditions: the blocks lie as told.
-/
import Derived.Test.YtcnffgcegimelaaGreatSw1
import Derived.Deep.AppendLies
import Derived.Lib.Hide
namespace Go.Proofs.YtcnffgcegimelaaGreat.Wd
open Go.RowKit Go.Proofs.YtcnffgcegimelaaGreat.Mp

theorem Dic.slice {w0 : Nat} {w : World} {p b : Nat} {v : Value} {ws : List ByteArray} (h : Dic w0 w p b v ws) : ∃ A c, v = .slice A ws.length c := by
  obtain ⟨_, ⟨h1, h2⟩ | ⟨g, cap, cur, h1, _⟩⟩ := h.row
  · exact ⟨none, 0, by rw [h1, h2]⟩
  · exact ⟨_, _, h1⟩
theorem Dic.pb {w0 : Nat} {w : World} {p b : Nat} {v : Value} {ws : List ByteArray} (h : Dic w0 w p b v ws) : p ≠ b := by
  intro e
  obtain ⟨D, ⟨es, clock, hb, _⟩, _⟩ := h.map.ex
  have := h.blk
  rw [e, hb] at this
  unfold dictO at this
  cases this
theorem Dic.pv {w0 : Nat} {w : World} {p b : Nat} {v : Value} {ws : List ByteArray} (h : Dic w0 w p b v ws) : v.ownBlock ≠ some p := by
  intro e
  obtain ⟨_, ⟨h1, h2⟩ | ⟨g, cap, cur, h1, _, h3, _⟩⟩ := h.row
  · rw [h1] at e; cases e
  · rw [h1] at e
    injection e with e
    have e' : g = p := e
    have := h.blk
    rw [← e', h3] at this
    unfold dictO at this
    injection this with this
    injection this with _ h _
    exact absurd h (by decide)
theorem Dic.bv {w0 : Nat} {w : World} {p b : Nat} {v : Value} {ws : List ByteArray} (h : Dic w0 w p b v ws) : v.ownBlock ≠ some b := by
  intro e
  obtain ⟨_, ⟨h1, h2⟩ | ⟨g, cap, cur, h1, _, h3, _⟩⟩ := h.row
  · rw [h1] at e; cases e
  · rw [h1] at e
    injection e with e
    have e' : g = b := e
    obtain ⟨D, ⟨es, clock, hb, _⟩, _⟩ := h.map.ex
    rw [← e', h3] at hb
    cases hb
theorem row_same {w w' : World} {base : Nat} {e : TypeId} {k : Nat} {v : Value} {n : Nat} {xs : List Value} (h : w.ownsRow base e k v n xs) (he : ∀ g, v.ownBlock = some g → w'.heap[g]? = w.heap[g]?) : w'.ownsRow base e k v n xs := by
  obtain ⟨h0, h1 | ⟨g, cap, cur, h1, h2, h3, h4⟩⟩ := h
  · exact ⟨h0, Or.inl h1⟩
  · exact ⟨h0, Or.inr ⟨g, cap, cur, h1, h2, (he g (by rw [h1]; rfl)).trans h3, h4⟩⟩
theorem Dic.chg {D : Nat → Prop} {w0 : Nat} {w w' : World} {p b : Nat} {v : Value} {ws : List ByteArray} (h : Dic w0 w p b v ws) (c : Chg D w w') (h1 : ¬ D p) (h2 : ¬ D b) (h3 : ∀ g, v.ownBlock = some g → ¬ D g) : Dic w0 w' p b v ws :=
  ⟨(c.block p (Array.getElem?_eq_some_iff.1 h.blk).1 h1).trans h.blk, h.map.chg c h2, row_same h.row (fun g hg => c.block g (h.row.lt g hg).2 (h3 g hg)), h.word⟩
theorem Dic.below {w0 : Nat} {w w' : World} {p b : Nat} {v : Value} {ws : List ByteArray} (h : Dic w0 w p b v ws) (c : Below w.heap.size w w') : Dic w0 w' p b v ws :=
  h.chg (Chg.of_below (fun _ => False) c) (fun e => e) (fun e => e) (fun _ _ e => e)
set_option maxRecDepth 100000 in
set_option maxHeartbeats 1000000 in
/-- Word. -/
theorem word_ok {w0 : Nat} {w : World} {p b : Nat} {v : Value} {ws : List ByteArray} (h : Dic w0 w p b v ws) (n : Nat) (x : ByteArray) (hx : ws[n]? = some x) :
    Calls Tryz.prog 68 #[.pointer (some ⟨p, 0, none⟩), .int .i64 n] w fun e w' => e = .returned (.tuple #[.string x, .int .i64 0]) ∧ w = w' := by
  obtain ⟨c0, c1⟩ := dict_cells h.blk
  obtain ⟨_, ⟨h1, h2⟩ | ⟨g, cap, cur, h1, _⟩⟩ := h.row
  · rw [List.length_eq_zero_iff.1 h2] at hx
    simp at hx
  · have hc := h.row.cells (by rw [h1]; rfl) n (.string x) (by rw [List.getElem?_map, hx]; rfl)
    have hadd : (⟨g, 0, none⟩ : Addr).add n = ⟨g, n, none⟩ := by unfold Addr.add; split <;> simp_all
    rw [hadd] at hc
    have hn := (List.getElem?_eq_some_iff.1 hx).1
    obtain ⟨N, hN⟩ : ∃ N, ws.length = N := ⟨_, rfl⟩
    rw [hN] at h1 hn
    subst h1
    have n0 : ¬ (n : Int) < 0 := by omega
    have n1 : ¬ (N : Int) ≤ (n : Int) := by omega
    have n2 : (n : Int) < (N : Int) := by omega
    have n3 : (0 : Int) ≤ (n : Int) := by omega
    go_enter Tryz.func68, Tryz.ntmps68
    go_wp2_with (go_at_call 60; refine (given_at _ p _ c0).mono ?_; rintro e w' ⟨rfl, rfl⟩)
    go_ret2
    exact ⟨rfl, rfl⟩
set_option maxRecDepth 100000 in
set_option maxHeartbeats 1000000 in
/-- Put of a word that is there. -/
theorem put_old {w0 : Nat} {w : World} {p b : Nat} {v : Value} {ws : List ByteArray} (h : Dic w0 w p b v ws) (x : ByteArray) (hw : isW x = true) (n : Nat) (hf : idxF ws x = some n) :
    Calls Tryz.prog 58 #[.pointer (some ⟨p, 0, none⟩), .string x] w fun e w' => e = .returned (.tuple #[.int .i64 n, .int .i64 0]) ∧ Below w.heap.size w w' := by
  obtain ⟨c0, c1⟩ := dict_cells h.blk
  have hC := is_ok w x
  rw [hw] at hC
  go_enter Tryz.func58, Tryz.ntmps58
  go_wp2_with (first | (go_at_call 60; refine (given_at _ p _ c0).mono ?_; rintro e w' ⟨rfl, rfl⟩) | (go_at_call 74; refine hC.mono ?_; rintro e w1 ⟨rfl, hb⟩; have H1 := Lib.hid (h.below hb); have d0 := (dict_cells H1.out.blk).1) | (at_lookup; refine wpk_ok_some _ rfl _ _ _ rfl Tryz.underlying95 (zeroI _) rfl H1.out.map x (fit_of hw) rfl n hf (.int .i64 n) rfl ?_))
  go_ret2
  exact ⟨rfl, hb⟩
end Go.Proofs.YtcnffgcegimelaaGreat.Wd
