/-
  A store that nobody made: nil, or with nothing in it. Conditions: none.
-/
import Derived.Test.YtcnffgcegimelaaGreatSz0
namespace Go.Proofs.YtcnffgcegimelaaGreat.So
open Go.RowKit Go.Proofs.YtcnffgcegimelaaGreat.Mp Go.Proofs.YtcnffgcegimelaaGreat.Wd Go.Proofs.YtcnffgcegimelaaGreat.Pm Go.Proofs.YtcnffgcegimelaaGreat.Pw

/-- Nobody made this store. -/
def Nob (w : World) (v : Value) : Prop := ∀ W, Below w.heap.size w W → Calls Tryz.prog 31 #[v] W fun e w' => e = .returned (.bool false) ∧ W = w'
theorem Nob.nil (w : World) : Nob w (.pointer none) := fun W _ => given_none W
theorem Nob.zero {w : World} {p : Nat} (h : w.cell? ⟨p, 0, none⟩ = some (.map none)) (hp : p < w.heap.size) : Nob w (.pointer (some ⟨p, 0, none⟩)) := fun W hW => given_sto W p none ((hW.cell (p := ⟨p, 0, none⟩) hp).trans h)
theorem Nob.next {w W : World} {v : Value} (h : Nob w v) (hW : Below w.heap.size w W) : Nob W v := fun X hX => h X (hW.trans (hX.mono hW.size))
section
variable {w : World} {v : Value}
set_option maxRecDepth 100000 in
set_option maxHeartbeats 1000000 in
theorem nob_apply (h : Nob w v) (n : Int) (u : Value) : Calls Tryz.prog 12 #[v, .int .i64 n, u] w fun e w' => e = .returned (.int .i64 1) ∧ Below w.heap.size w w' := by
  have H := Lib.hid h
  clear h
  go_enter Tryz.func12, Tryz.ntmps12
  go_wp2_with (go_at_call 31; refine (H.out _ (Below.refl _ _)).mono ?_; rintro e w' ⟨rfl, rfl⟩)
  go_ret
  exact ⟨rfl, Below.refl _ _⟩
set_option maxRecDepth 100000 in
set_option maxHeartbeats 1000000 in
theorem nob_facts (h : Nob w v) (n : Int) : Calls Tryz.prog 13 #[v, .int .i64 n] w fun e w' => e = .returned (.tuple #[.slice none 0 0, .int .i64 1]) ∧ Below w.heap.size w w' := by
  have H := Lib.hid h
  clear h
  go_enter Tryz.func13, Tryz.ntmps13
  go_wp2_with (go_at_call 31; refine (H.out _ (Below.refl _ _)).mono ?_; rintro e w' ⟨rfl, rfl⟩)
  go_ret2
  exact ⟨rfl, Below.refl _ _⟩
set_option maxRecDepth 100000 in
set_option maxHeartbeats 1000000 in
theorem nob_version (h : Nob w v) : Calls Tryz.prog 16 #[v] w fun e w' => e = .returned (.int .i64 0) ∧ Below w.heap.size w w' := by
  have H := Lib.hid h
  clear h
  go_enter Tryz.func16, Tryz.ntmps16
  go_wp2_with (go_at_call 31; refine (H.out _ (Below.refl _ _)).mono ?_; rintro e w' ⟨rfl, rfl⟩)
  go_ret
  exact ⟨rfl, Below.refl _ _⟩
set_option maxRecDepth 100000 in
set_option maxHeartbeats 1000000 in
theorem nob_room (h : Nob w v) (u : Value) : Calls Tryz.prog 20 #[v, u] w fun e w' => e = .returned (.bool false) ∧ Below w.heap.size w w' := by
  have H := Lib.hid h
  clear h
  go_enter Tryz.func20, Tryz.ntmps20
  go_wp2_with (go_at_call 31; refine (H.out _ (Below.refl _ _)).mono ?_; rintro e w' ⟨rfl, rfl⟩)
  go_ret
  exact ⟨rfl, Below.refl _ _⟩
set_option maxRecDepth 100000 in
set_option maxHeartbeats 1000000 in
theorem nob_homes (h : Nob w v) (a b : Int) : Calls Tryz.prog 22 #[v, .int .i64 a, .int .i64 b] w fun e w' => e = .returned (.bool false) ∧ Below w.heap.size w w' := by
  have H := Lib.hid h
  clear h
  go_enter Tryz.func22, Tryz.ntmps22
  go_wp2_with (go_at_call 31; refine (H.out _ (Below.refl _ _)).mono ?_; rintro e w' ⟨rfl, rfl⟩)
  go_ret
  exact ⟨rfl, Below.refl _ _⟩
set_option maxRecDepth 100000 in
set_option maxHeartbeats 1000000 in
theorem nob_match (h : Nob w v) (n : Int) (a b c : ByteArray) : Calls Tryz.prog 18 #[v, .int .i64 n, .agg #[.string a, .string b, .string c]] w fun e w' => e = .returned (.tuple #[.slice none 0 0, .int .i64 1]) ∧ Below w.heap.size w w' := by
  have H := Lib.hid (h.next ((Below.refl _ w).alloc (Nat.le_refl _) (.cells #[.string a, .string b, .string c] 35 (0, 0))))
  clear h
  go_enter Tryz.func18, Tryz.ntmps18
  go_wp2_with (go_at_call 31; refine (H.out _ (Below.refl _ _)).mono ?_; rintro e w' ⟨rfl, rfl⟩)
  go_ret2
  exact ⟨rfl, (Below.refl _ w).alloc (Nat.le_refl _) _⟩
end
end Go.Proofs.YtcnffgcegimelaaGreat.So
