/-
  Joined by wip/tools/merge.py from the texts Pa3 Pa4 Pa5 Pb0 Pb1. Conditions: as each says.
-/
import Derived.Test.YtcnffgcegimelaaGreatJ3
import Derived.Lib.SlicesCompact
import Derived.Lib.SliceRun
import Derived.Shelf.RegionOpenPlain
import Derived.Deep.LoopGhost
import Derived.Test.YtcnffgcegimelaaGreatJ2
section
/-
  slices.Compact of rows of three numbers: what it leaves in memory. Conditions: the rows' cells lie as told, and may be written.
-/
namespace Go.Proofs.YtcnffgcegimelaaGreat.Pw
open Go.RowKit Go.Proofs.YtcnffgcegimelaaGreatW.PrintWords Go.Proofs.YtcnffgcegimelaaGreat.Pm

theorem eqIn23 (d : Nat) (w : World) (a b c x y z : Int) :
    (Op.equalIn (d + 2) 80 (.agg #[.int .i64 a, .int .i64 b, .int .i64 c]) (.agg #[.int .i64 x, .int .i64 y, .int .i64 z])).run Tryz.prog w = .ok (decide (a = x ∧ b = y ∧ c = z)) w := by
  have h3 := run_underlying Tryz.underlying3
  have h23 := run_underlying Tryz.underlying80
  have s3 := Tryz.sizeOf3
  have g3 := Tryz.isAgg3
  have e3 : ∀ (u v : Int) w, (Op.equalIn (d + 1) 3 (.int .i64 u) (.int .i64 v)).run Tryz.prog w = .ok (u == v) w := fun u v w => by
    simp [Op.equalIn, h3]
  have r3 : List.range' 0 3 = [0, 1, 2] := rfl
  unfold Op.equalIn
  simp [h23, s3, part, r3, g3]
  simp only [e3]
  by_cases h1 : a = x
  · by_cases h2 : b = y
    · by_cases h4 : c = z
      · simp [h1, h2, h4]
      · simp [h1, h2, h4]
    · simp [h1, h2]
  · simp [h1]
theorem eql23 (w : World) (a b c x y z : Int) :
    (binOp .eql 80 (.agg #[.int .i64 a, .int .i64 b, .int .i64 c]) (.agg #[.int .i64 x, .int .i64 y, .int .i64 z])).run Tryz.prog w = .ok (.bool (decide (a = x ∧ b = y ∧ c = z))) w := by
  simp only [binOp]
  simp [Op.equal, Op.maxDepth, eqIn23 9998]
theorem neq23 (w : World) (a b c x y z : Int) :
    (binOp .neq 80 (.agg #[.int .i64 a, .int .i64 b, .int .i64 c]) (.agg #[.int .i64 x, .int .i64 y, .int .i64 z])).run Tryz.prog w = .ok (.bool (!decide (a = x ∧ b = y ∧ c = z))) w := by
  simp only [binOp]
  simp [Op.equal, Op.maxDepth, eqIn23 9998]

/-- 'clear' of rows of three numbers. -/
theorem clear23 (w : World) (ty : TypeId) (b o n c : Nat) (hn : 0 < n) (hc : ∀ j, j < n * 3 → (w.cell? ⟨b, o + j, none⟩).isSome = true) (hf : ∀ j, j < n * 3 → w.frozen? ⟨b, o + j, none⟩ = false) :
    (Builtin.clear_ #[106] ty #[.slice (some ⟨b, o, none⟩) n c]).run Tryz.prog w = .ok (.tuple #[]) (w.setCells b o (List.replicate (n * 3) (.int .i64 0))) := by
  have hv := Tryz.zeroValue80
  have hzc : (Builtin.zeroCells (Value.agg #[.int .i64 0, .int .i64 0, .int .i64 0]).cells n).toList = List.replicate (n * 3) (.int .i64 0) := by
    simp [Builtin.zeroCells, Value.cells]
    apply List.ext_getElem
    · simp
    · intro i h1 h2
      have : i % 3 = 0 ∨ i % 3 = 1 ∨ i % 3 = 2 := by omega
      rcases this with h | h | h <;> simp [h]
  have hst := run_storeCells_cells (P := Tryz.prog) b o (List.replicate (n * 3) (.int .i64 0)) 0 w (by simpa using hc) (by simpa using hf) (by intro v hv'; rw [List.eq_of_mem_replicate hv']; rfl)
  simp only [Nat.add_zero] at hst
  obtain ⟨m, rfl⟩ : ∃ m, n = m + 1 := ⟨n - 1, by omega⟩
  simp [Builtin.clear_, run_underlying Tryz.underlying106, hv, hzc, hst]

theorem grown_setCells (b : Nat) : ∀ (vs : List Value) (o : Nat) (w : World), w.grownBy (w.setCells b o vs) (some b)
  | [], _, _ => ⟨rfl, rfl, rfl, Nat.le_refl _, fun _ _ _ => rfl⟩
  | v :: r, o, w => grown_tr (grown_set w b o v) (grown_setCells b r (o + 1) _)

/-- Rows, cut. -/
theorem RowsIn.take {w : World} {b off : Nat} {l : List R3} (h : RowsIn w b off l) (m : Nat) : RowsIn w b off (l.take m) := fun k i hk hi => by
  have hk' : k < l.length := by simp at hk; omega
  have hkm : k < m := by simp at hk; omega
  have e : (l.take m).getD k r0 = l.getD k r0 := by
    rw [List.getD_eq_getElem?_getD, List.getD_eq_getElem?_getD, List.getElem?_take, if_pos hkm]
  rw [e]
  exact h k i hk' hi
/-- Rows, behind stores into what lies behind them. -/
theorem RowsIn.setCells {w : World} {b off : Nat} {l : List R3} (h : RowsIn w b off l) (o : Nat) (ho : off + l.length * 3 ≤ o) (vs : List Value) : RowsIn (w.setCells b o vs) b off l := fun k i hk hi => by
  have hlt : off + k * 3 + i < o := by omega
  refine ⟨(World.cell?_setCells_out b vs o w ⟨b, off + k * 3 + i, none⟩ (fun _ _ => .inl hlt)).trans (h k i hk hi).1, ?_⟩
  rw [World.frozen?_setCells]
  exact (h k i hk hi).2
/-- Rows, one of them stored. -/
theorem RowsIn.set {w : World} {b off : Nat} {l : List R3} (h : RowsIn w b off l) (m : Nat) (hm : m < l.length) (x : R3) :
    RowsIn (((w.setCell ⟨b, off + m * 3, none⟩ (.int .i64 x.a)).setCell ⟨b, off + m * 3 + 1, none⟩ (.int .i64 x.b)).setCell ⟨b, off + m * 3 + 2, none⟩ (.int .i64 x.c)) b off (l.set m x) := by
  show RowsIn (w.setCells b (off + m * 3) [.int .i64 x.a, .int .i64 x.b, .int .i64 x.c]) b off (l.set m x)
  intro k i hk hi
  rw [List.length_set] at hk
  rw [World.frozen?_setCells]
  refine ⟨?_, (h k i hk hi).2⟩
  by_cases hkm : k = m
  · subst hkm
    rw [List.getD_eq_getElem?_getD, List.getElem?_set_self hk, Option.getD_some]
    have hz : ∀ j, j < [Value.int .i64 x.a, .int .i64 x.b, .int .i64 x.c].length → (w.cell? ⟨b, off + k * 3 + j, none⟩).isSome = true := fun j hj => by rw [(h k j hk (by simpa using hj)).1]; rfl
    rw [World.cell?_setCells_in b _ (off + k * 3) w hz i (by simpa using hi)]
    match i, hi with
    | 0, _ => rfl
    | 1, _ => rfl
    | 2, _ => rfl
  · rw [List.getD_eq_getElem?_getD, List.getElem?_set_ne (Ne.symm hkm), ← List.getD_eq_getElem?_getD]
    exact (World.cell?_setCells_out b _ _ w ⟨b, off + k * 3 + i, none⟩ (fun _ _ => by show off + k * 3 + i < off + m * 3 ∨ off + m * 3 + 3 ≤ off + k * 3 + i; omega)).trans (h k i hk hi).1
end Go.Proofs.YtcnffgcegimelaaGreat.Pw
end
section
/-
  slices.Compact of rows of three numbers: the walk. Conditions: the rows' cells lie as told, and may be written.
-/
namespace Go.Proofs.YtcnffgcegimelaaGreat.Pw
open Go.RowKit Go.Proofs.YtcnffgcegimelaaGreatW.PrintWords Go.Proofs.YtcnffgcegimelaaGreat.Pm
open Go.Lib (compact compactUpTo keeps CompInv)

theorem r3_eq (x y : R3) : decide (x.a = y.a ∧ x.b = y.b ∧ x.c = y.c) = decide (x = y) := by
  obtain ⟨xa, xb, xc⟩ := x
  obtain ⟨ya, yb, yc⟩ := y
  exact decide_eq_decide.2 ⟨fun ⟨h1, h2, h3⟩ => by simp only at h1 h2 h3; rw [h1, h2, h3], fun h => by injection h with h1 h2 h3; exact ⟨h1, h2, h3⟩⟩

theorem row_cells {w : World} {b off : Nat} {l : List R3} (h : RowsIn w b off l) (k : Nat) (hk : k < l.length) :
    w.cell? ⟨b, off + k * 3, none⟩ = some (.int .i64 (l.getD k r0).a) ∧ w.cell? ⟨b, off + k * 3 + 1, none⟩ = some (.int .i64 (l.getD k r0).b) ∧ w.cell? ⟨b, off + k * 3 + 2, none⟩ = some (.int .i64 (l.getD k r0).c) :=
  ⟨(h k 0 hk (by omega)).1, (h k 1 hk (by omega)).1, (h k 2 hk (by omega)).1⟩

/-- Behind the loops: what is kept, and zeros. -/
theorem done_rows {wr : World} {blk off : Nat} {l dk : List R3} {k : Nat} (hI : CompInv l.toArray l.length k dk.toArray) (hH : RowsIn wr blk off dk) (vs : List Value) : RowsIn (wr.setCells blk (off + k * 3) vs) blk off (compact l) := by
  have hlen : (compact l).length = k := hI.len
  have hk := hI.lt
  have hsz : dk.length = l.length := by simpa using hI.size
  have e : compact l = dk.take k := by
    apply List.ext_getElem?
    intro j
    rw [List.getElem?_take]
    by_cases hj : j < k
    · rw [if_pos hj, show (compact l)[j]? = _ from hI.low j hj, getElem!_pos _ j (by simp; omega)]
      simp [List.getElem?_eq_getElem (show j < dk.length by omega)]
    · rw [if_neg hj]
      exact List.getElem?_eq_none (by omega)
  rw [e]
  exact (hH.take k).setCells _ (by simp; omega) vs

theorem put_row {wr : World} {blk off : Nat} {dk : List R3} (hH : RowsIn wr blk off dk) (m : Nat) (hm : m < dk.length) (x : R3) (w2 : World)
    (hw : w2 = (((wr.setCell ⟨blk, off + m * 3, none⟩ (.int .i64 x.a)).setCell ⟨blk, off + m * 3 + 1, none⟩ (.int .i64 x.b)).setCell ⟨blk, off + m * 3 + 2, none⟩ (.int .i64 x.c)).drew) :
    RowsIn w2 blk off (dk.set m x) ∧ wr.grownBy w2 (some blk) := by
  subst hw
  refine ⟨?_, ?_⟩
  · intro k i hk hi
    exact hH.set m hm x k i hk hi
  · exact grown_d (grown_tr (grown_tr (grown_set _ _ _ _) (grown_set _ _ _ _)) (grown_set _ _ _ _))

set_option maxHeartbeats 4000000 in
set_option maxRecDepth 1000000 in
theorem compact_calls (w : World) (blk off cap : Nat) (l : List R3) (hH : RowsIn w blk off l) (hl : l.length ≤ 1125899906842624) (hcap : l.length ≤ cap) :
    Calls Tryz.prog 83 #[.slice (some ⟨blk, off, none⟩) l.length cap] w fun e w' => e = .returned (.slice (some ⟨blk, off, none⟩) (compact l).length cap) ∧ RowsIn w' blk off (compact l) ∧ w.grownBy w' (some blk) := by
  have EQ := fun (w : World) (a b c x y z : Int) => eql23 w a b c x y z
  have NE := fun (w : World) (a b c x y z : Int) => neq23 w a b c x y z
  by_cases h2 : l.length < 2
  · have HH := Lib.hid hH
    clear hH EQ NE
    have hd : decide ((l.length : Int) < 2) = true := by simp; omega
    go_enter Tryz.func83, Tryz.ntmps83
    go_wp2
    go_ret
    have e : compact l = l := Go.Lib.compact_all l (fun j hj => Go.Lib.keeps_lt_one _ j (by omega))
    rw [e]
    exact ⟨rfl, HH.out, ⟨rfl, rfl, rfl, Nat.le_refl _, fun _ _ _ => rfl⟩⟩
  · have hd : decide ((l.length : Int) < 2) = false := by simp; omega
    go_enter Tryz.func83, Tryz.ntmps83
    go_wp2
    go_loopg [3] l.length (fun g s3 wr => ∃ k q : Nat, k + 1 ≤ l.length ∧ l.length - (k + 1) ≤ g ∧ s3 = .int .i64 ((k + 1 : Nat) : Int) ∧ wr = w.drewN q ∧ ∀ j, j < k + 1 → keeps l.toArray j = true)
    case atStart => exact ⟨0, 0, by omega, by omega, rfl, rfl, Go.Lib.keeps_lt_one _⟩
    case round =>
      obtain ⟨k, q, hk, hg, rfl, rfl, hall⟩ := hrel
      by_cases hlt : k + 1 < l.length
      · obtain ⟨c0, c1, c2⟩ := row_cells hH (k + 1) hlt
        obtain ⟨b0, b1, b2⟩ := row_cells hH k (by omega)
        have A := Lib.hid hall
        have HH := Lib.hid hH
        clear hall hH
        generalize hx : l.getD (k + 1) r0 = x at c0 c1 c2
        generalize hy : l.getD k r0 = y at b0 b1 b2
        have B := Lib.hid (And.intro hx hy)
        clear hx hy
        have hs1 : IntKind.i64.wrap (((k + 1 : Nat) : Int) - 1) = (k : Int) := by
          rw [IntWalk.i64_in _ (by omega)]; omega
        by_cases hdup : x = y
        · subst hdup
          have hdt : decide (x.a = x.a ∧ x.b = x.b ∧ x.c = x.c) = true := by simp
          go_wp2_with fail
          go_region
          go_wp2_with fail
          clear c0 c1 c2 b0 b1 b2
          go_loopg [3, 5] l.length (fun g s3 s5 wr => ∃ (kk k2 : Nat) (dk : List R3), s3 = .int .i64 kk ∧ s5 = .int .i64 ((k2 + 1 : Nat) : Int) ∧ (k + 1) + (k2 + 1) ≤ l.length ∧ l.length - ((k + 1) + (k2 + 1)) ≤ g ∧ w.grownBy wr (some blk) ∧ RowsIn wr blk off dk ∧ CompInv l.toArray ((k + 1) + (k2 + 1)) kk dk.toArray)
          case atStart =>
            refine ⟨k + 1, 0, l, rfl, rfl, by omega, by omega, ⟨rfl, rfl, rfl, Nat.le_refl _, fun _ _ _ => rfl⟩, HH.out, ?_⟩
            refine CompInv.start A.out (Go.Lib.keeps_neg (by omega) ?_)
            rw [get_list _ _ (by omega), show k + 1 - 1 = k by omega, get_list _ _ (by omega), B.out.1, B.out.2]
          case round =>
            obtain ⟨kk, k2, dk, rfl, rfl, hle, hg2, hgr, hHk, hI⟩ := hrel
            have hkk := hI.lt
            have hds : dk.length = l.length := by simpa using hI.size
            by_cases hlt2 : (k + 1) + (k2 + 1) < l.length
            · obtain ⟨m0, m1, m2⟩ := row_cells hHk ((k + 1) + (k2 + 1)) (by omega)
              obtain ⟨p0, p1, p2⟩ := row_cells hHk ((k + 1) + k2) (by omega)
              obtain ⟨o0, o1, o2⟩ := row_cells hHk kk (by omega)
              have f0 : wr.frozen? ⟨blk, off + kk * 3, none⟩ = false := (hHk kk 0 (by omega) (by omega)).2
              have f1 : wr.frozen? ⟨blk, off + kk * 3 + 1, none⟩ = false := (hHk kk 1 (by omega) (by omega)).2
              have f2 : wr.frozen? ⟨blk, off + kk * 3 + 2, none⟩ = false := (hHk kk 2 (by omega) (by omega)).2
              have hm : dk.getD ((k + 1) + (k2 + 1)) r0 = l.getD ((k + 1) + (k2 + 1)) r0 := by
                rw [← get_list _ _ (by omega), ← get_list _ _ (by omega)]; exact hI.high _ (by omega)
              have hp : dk.getD ((k + 1) + k2) r0 = l.getD ((k + 1) + k2) r0 := by
                rw [← get_list _ _ (by omega), ← get_list _ _ (by omega)]; exact hI.high _ (by omega)
              rw [hm, show off + ((k + 1) + (k2 + 1)) * 3 = off + (k + 1) * 3 + (k2 + 1) * 3 by omega] at m0 m1 m2
              rw [hp, show off + ((k + 1) + k2) * 3 = off + (k + 1) * 3 + k2 * 3 by omega] at p0 p1 p2
              have HI := Lib.hid (And.intro hgr (And.intro hHk hI))
              clear hgr hHk hI hm hp
              generalize hu : l.getD ((k + 1) + (k2 + 1)) r0 = u at m0 m1 m2
              generalize hv : l.getD ((k + 1) + k2) r0 = v at p0 p1 p2
              generalize dk.getD kk r0 = old at o0 o1 o2
              have C := Lib.hid (And.intro hu hv)
              clear hu hv
              have hs2 : IntKind.i64.wrap (((k2 + 1 : Nat) : Int) - 1) = (k2 : Int) := by
                rw [IntWalk.i64_in _ (by omega)]; omega
              by_cases huv : u = v
              · subst huv
                have hdt : decide (u.a = u.a ∧ u.b = u.b ∧ u.c = u.c) = true := by simp
                go_wp2_with fail
                go_region
                go_wp2_with fail
                go_roundg (l.length - ((k + 1) + (k2 + 1 + 1)))
                case measure => omega
                case rel =>
                  obtain ⟨hgr, hHk, hI⟩ := HI.out
                  refine ⟨kk, k2 + 1, dk, rfl, by go_num, by omega, Nat.le_refl _, grown_d hgr, hHk, ?_⟩
                  refine hI.skip (Go.Lib.keeps_neg (by omega) ?_)
                  rw [get_list _ _ (by omega), show (k + 1) + (k2 + 1) - 1 = (k + 1) + k2 by omega, get_list _ _ (by omega), C.out.1, C.out.2]
              · have hdt : decide (u.a = v.a ∧ u.b = v.b ∧ u.c = v.c) = false := by rw [r3_eq]; simpa using huv
                go_wp2_with fail
                go_region
                go_wp2_with fail
                go_roundg (l.length - ((k + 1) + (k2 + 1 + 1)))
                case measure => omega
                case rel =>
                  obtain ⟨hgr, hHk, hI⟩ := HI.out
                  obtain ⟨hr1, hr2⟩ := put_row hHk kk (by omega) u _ rfl
                  refine ⟨kk + 1, k2 + 1, dk.set kk u, by go_num, by go_num, by omega, Nat.le_refl _, grown_tr hgr hr2, hr1, ?_⟩
                  have := hI.keep (by simpa using hlt2) (Go.Lib.keeps_pos (by rw [get_list _ _ (by omega), show (k + 1) + (k2 + 1) - 1 = (k + 1) + k2 by omega, get_list _ _ (by omega), C.out.1, C.out.2]; exact huv))
                  rw [get_list _ _ (by omega), C.out.1] at this
                  rw [show k + 1 + (k2 + 1 + 1) = k + 1 + (k2 + 1) + 1 by omega]
                  simpa using this
            · have hend : (k + 1) + (k2 + 1) = l.length := by omega
              have hcl : ∀ ty, (Builtin.clear_ #[106] ty #[.slice (some ⟨blk, off + kk * 3, none⟩) (l.length - kk) (cap - kk)]).run Tryz.prog wr = .ok (.tuple #[]) (wr.setCells blk (off + kk * 3) (List.replicate ((l.length - kk) * 3) (.int .i64 0))) :=
                fun ty => clear23 wr ty blk (off + kk * 3) (l.length - kk) (cap - kk) (by omega)
                  (fun j hj => by
                    have := (hHk (kk + j / 3) (j % 3) (by omega) (by omega)).1
                    rw [show off + kk * 3 + j = off + (kk + j / 3) * 3 + j % 3 by omega, this]; rfl)
                  (fun j hj => by
                    have := (hHk (kk + j / 3) (j % 3) (by omega) (by omega)).2
                    rw [show off + kk * 3 + j = off + (kk + j / 3) * 3 + j % 3 by omega]; exact this)
              have HI := Lib.hid (And.intro hgr (And.intro hHk hI))
              clear hgr hHk hI
              go_wp2
              go_ret
              obtain ⟨hgr, hHk, hI⟩ := HI.out
              rw [hend] at hI
              exact ⟨by rw [show (compact l).length = kk from hI.len]; rfl, done_rows hI hHk _, grown_tr hgr (grown_setCells _ _ _ _)⟩
        · have hdt : decide (x.a = y.a ∧ x.b = y.b ∧ x.c = y.c) = false := by rw [r3_eq]; simpa using hdup
          go_wp2_with fail
          go_region
          go_wp2
          go_roundg (l.length - (k + 1 + 1))
          case measure => omega
          case rel =>
            refine ⟨k + 1, q + 1, by omega, Nat.le_refl _, by go_num, rfl, fun j hj => ?_⟩
            by_cases e : j = k + 1
            · subst e
              refine Go.Lib.keeps_pos ?_
              rw [get_list _ _ (by omega), show k + 1 - 1 = k by omega, get_list _ _ (by omega), B.out.1, B.out.2]
              exact hdup
            · exact A.out j (by omega)
      · have : k + 1 = l.length := by omega
        have HH := Lib.hid hH
        clear hH
        go_wp2
        go_ret
        have e : compact l = l := Go.Lib.compact_all l (fun j hj => hall j (by omega))
        rw [e]
        exact ⟨rfl, HH.out, ⟨rfl, rfl, rfl, Nat.le_refl _, fun _ _ _ => rfl⟩⟩
end Go.Proofs.YtcnffgcegimelaaGreat.Pw
end
section
/-
  The making of an index: what the copy of rows, the sort of an order and the making leave in memory. Conditions: the rows' cells lie as told.
-/
namespace Go.Proofs.YtcnffgcegimelaaGreat.Pw
open Go.RowKit Go.Proofs.YtcnffgcegimelaaGreatW.PrintWords Go.Proofs.YtcnffgcegimelaaGreat.Pm
open Go.Sort (flatK size_flatK get_flatK)

/-- Rows that read as told. -/
def RowsAt (w : World) (b off : Nat) (l : List R3) : Prop := ∀ k i, k < l.length → i < 3 → w.cell? ⟨b, off + k * 3 + i, none⟩ = some (.int .i64 ((l.getD k r0).at i))
theorem RowsIn.at {w : World} {b off : Nat} {l : List R3} (h : RowsIn w b off l) : RowsAt w b off l := fun k i hk hi => (h k i hk hi).1

theorem info23 : (Tryz.prog.info? 80).map (fun i => (i.zero, i.size, i.bytes)) = some (some (.agg #[.int .i64 0, .int .i64 0, .int .i64 0]), 3, 24) := by kernel_rfl

theorem clone_calls (w : World) (b off n c : Nat) (l : List R3) (hn : l.length = n) (h : RowsAt w b off l) (hs : n * 24 ≤ 140737488355328) :
    Calls Tryz.prog 79 #[.slice (some ⟨b, off, none⟩) n c] w fun e w' => ∃ g c', e = .returned (.slice (some ⟨g, 0, none⟩) n c') ∧ w.heap.size ≤ g ∧ g < w'.heap.size ∧ n ≤ c' ∧ RowsIn w' g 0 l ∧ Below w.heap.size w w' := by
  subst hn
  have hsz : (flatK enc3 3 l.toArray).size = l.length * 3 := by rw [size_flatK]; simp
  have hget : ∀ j, j < l.length * 3 → (flatK enc3 3 l.toArray).toList[j]? = some (.int .i64 ((l.getD (j / 3) r0).at (j % 3))) := fun j hj => by
    have := get_flatK enc3 3 l.toArray j (by simpa using hj)
    rw [get_list l _ (by omega), enc3_get _ _ (Nat.mod_lt _ (by omega))] at this
    rw [List.getElem?_eq_getElem (by simpa [hsz] using hj), ← this, getElem!_pos _ j (by omega)]
    simp
  obtain ⟨i0, hi0, hi1⟩ := Option.map_eq_some_iff.1 info23
  simp only [Prod.mk.injEq] at hi1
  obtain ⟨hz0, hz1, hz2⟩ := hi1
  refine (Tryz.slices_Clone i0 (.agg #[.int .i64 0, .int .i64 0, .int .i64 0]) 3 24 hi0 hz0 hz1 hz2 rfl (by omega) Tryz.sizeOf80 b off l.length c (flatK enc3 3 l.toArray).toList w (by simp) (by unfold maxLen; omega) hs (fun j u hu => ?_) (fun u hu => ?_)).mono ?_
  · have hj : j < l.length * 3 := by
      have := (List.getElem?_eq_some_iff.1 hu).1
      simpa [hsz] using this
    rw [hget j hj] at hu
    have := h (j / 3) (j % 3) (by omega) (Nat.mod_lt _ (by omega))
    rw [show off + j / 3 * 3 + j % 3 = off + j by omega, hu] at this
    exact this
  · obtain ⟨j, hj, rfl⟩ := List.getElem_of_mem hu
    have := hget j (by simpa [hsz] using hj)
    rw [List.getElem?_eq_getElem hj] at this
    rw [Option.some.inj this]
    rfl
  · rintro e w' ⟨v', rfl, ho, hnil, hb⟩
    obtain ⟨_, ⟨rfl, _⟩ | ⟨g, cap, cur, rfl, hg, hblk, hcap, _, hcs, htk⟩⟩ := ho
    · exact absurd rfl hnil
    · have hgs : g < w'.heap.size := (Array.getElem?_eq_some_iff.1 hblk).1
      refine ⟨g, cap, rfl, hg, hgs, hcap, fun k i hk hi => ⟨?_, ?_⟩, hb⟩
      · have := hget (k * 3 + i) (by omega)
        rw [← htk, List.getElem?_take, if_pos (by omega), show (k * 3 + i) / 3 = k by omega, show (k * 3 + i) % 3 = i by omega] at this
        simp only [World.cell?, hblk, Nat.zero_add]
        simpa using this
      · simp [World.frozen?, hblk]

/-- Three numbers, sorted. -/
def s3 (a b c : Int) : List Int := [a, b, c].mergeSort fun x y => decide (x ≤ y)
theorem s3_perm (a b c : Int) : (s3 a b c).Perm [a, b, c] := List.mergeSort_perm _ _
theorem s3_ex (a b c : Int) : ∃ x y z, s3 a b c = [x, y, z] := by
  have h := (s3_perm a b c).length_eq
  match hs : s3 a b c, h with
  | [x, y, z], _ => exact ⟨x, y, z, rfl⟩

theorem sort3_calls (w : World) (g : Nat) (a b c x y z : Int) (hs : s3 a b c = [x, y, z]) (hg : g < w.heap.size) (h0 : w.cell? ⟨g, 0, none⟩ = some (.int .i64 a)) (h1 : w.cell? ⟨g, 1, none⟩ = some (.int .i64 b)) (h2 : w.cell? ⟨g, 2, none⟩ = some (.int .i64 c))
    (f : ∀ i, w.frozen? ⟨g, i, none⟩ = false) :
    Calls Tryz.prog 78 #[.slice (some ⟨g, 0, none⟩) 3 3] w fun e w' => e = .returned (.tuple #[]) ∧ w'.cell? ⟨g, 0, none⟩ = some (.int .i64 x) ∧ w'.cell? ⟨g, 1, none⟩ = some (.int .i64 y) ∧ w'.cell? ⟨g, 2, none⟩ = some (.int .i64 z) ∧ w.grownBy w' (some g) := by
  have hH : Sort.Holds (Value.int .i64) w g 0 [a, b, c].toArray := by
    intro j hj
    have hj : j < 3 := hj
    rw [Nat.zero_add]
    obtain rfl | rfl | rfl : j = 0 ∨ j = 1 ∨ j = 2 := by omega
    · exact ⟨h0, f _⟩
    · exact ⟨h1, f _⟩
    · exact ⟨h2, f _⟩
  refine (Tryz.slices_Sort_int g 0 3 [a, b, c] w hH hg (by simp)).mono ?_
  rintro e w' ⟨rfl, n, os, rfl⟩
  change _ ∧ _
  rw [show ([a, b, c].mergeSort fun x y => decide (x ≤ y)) = [x, y, z] from hs]
  have hc : ∀ j, j < 3 → (Sort.grow (Sort.putRow (Value.int .i64) (Sort.ahead w n) g 0 [x, y, z].toArray) os).cell? ⟨g, j, none⟩ = some (.int .i64 [x, y, z].toArray[j]!) := fun j hj => by
    rw [Sort.cell?_grow _ _ _ (by rw [Sort.size_putRow]; exact hg)]
    have := Sort.cell?_putRow (Value.int .i64) (Sort.ahead w n) g 0 [a, b, c].toArray [x, y, z].toArray hH rfl j hj
    rwa [Nat.zero_add] at this
  refine ⟨rfl, hc 0 (by omega), hc 1 (by omega), hc 2 (by omega), rfl, rfl, rfl, ?_, fun k hk hne => ?_⟩
  · show w.heap.size ≤ ((Sort.putRow (Value.int .i64) (Sort.ahead w n) g 0 _).heap ++ os).size
    rw [Array.size_append, Sort.size_putRow]
    show w.heap.size ≤ w.heap.size + _
    omega
  · rw [Sort.heap_grow_old _ _ (by rw [Sort.size_putRow]; exact hk)]
    unfold Sort.putRow Sort.mapBlock
    show ((Sort.ahead w n).heap.modify g _)[k]? = _
    rw [Array.getElem?_modify, if_neg (fun e => hne (by rw [e]))]
    rfl

instance (o : Ord) : Decidable (Six o) := by unfold Six; infer_instance

/-- An order out of three numbers. -/
def ordOf (a b c : Int) : Ord := ⟨a.toNat, b.toNat, c.toNat⟩
def isOrd (a b c : Int) : Bool := decide (s3 a b c = [0, 1, 2])
theorem isOrd_six {a b c : Int} (h : isOrd a b c = true) : Six (ordOf a b c) ∧ a = (ordOf a b c).x ∧ b = (ordOf a b c).y ∧ c = (ordOf a b c).z := by
  have hp : [a, b, c].Perm [0, 1, 2] := (s3_perm a b c).symm.trans (of_decide_eq_true h ▸ List.Perm.refl _)
  have ha : a ∈ [0, 1, 2] := hp.subset (by simp)
  have hb : b ∈ [0, 1, 2] := hp.subset (by simp)
  have hc : c ∈ [0, 1, 2] := hp.subset (by simp)
  have h0 : (0 : Int) ∈ [a, b, c] := hp.symm.subset (by simp)
  have h1 : (1 : Int) ∈ [a, b, c] := hp.symm.subset (by simp)
  have h2 : (2 : Int) ∈ [a, b, c] := hp.symm.subset (by simp)
  simp only [List.mem_cons, List.not_mem_nil, or_false] at ha hb hc h0 h1 h2
  unfold Six ordOf
  simp only
  omega
theorem s3_sorted (a b c x y z : Int) (h : s3 a b c = [x, y, z]) : x ≤ y ∧ y ≤ z := by
  have := List.pairwise_mergeSort (le := fun x y : Int => decide (x ≤ y)) (fun a b c h1 h2 => by have := of_decide_eq_true h1; have := of_decide_eq_true h2; exact decide_eq_true (by omega)) (fun a b => by simp; omega) [a, b, c]
  rw [show ([a, b, c].mergeSort fun x y => decide (x ≤ y)) = [x, y, z] from h] at this
  simp at this
  omega
theorem isOrd_of_six (o : Ord) (h : Six o) : isOrd o.x o.y o.z = true := by
  obtain ⟨p, q, r⟩ := o
  obtain ⟨x, y, z, e⟩ := s3_ex p q r
  have hs := s3_sorted _ _ _ _ _ _ e
  have hp := s3_perm p q r
  rw [e] at hp
  have ha : (p : Int) ∈ [x, y, z] := hp.symm.subset (by simp)
  have hb : (q : Int) ∈ [x, y, z] := hp.symm.subset (by simp)
  have hc : (r : Int) ∈ [x, y, z] := hp.symm.subset (by simp)
  have h0 : x ∈ [(p : Int), (q : Int), (r : Int)] := hp.subset (by simp)
  have h1 : y ∈ [(p : Int), (q : Int), (r : Int)] := hp.subset (by simp)
  have h2 : z ∈ [(p : Int), (q : Int), (r : Int)] := hp.subset (by simp)
  simp only [List.mem_cons, List.not_mem_nil, or_false] at ha hb hc h0 h1 h2
  unfold isOrd
  simp only [e]
  rcases h with ⟨rfl, rfl, rfl⟩ | ⟨rfl, rfl, rfl⟩ | ⟨rfl, rfl, rfl⟩ | ⟨rfl, rfl, rfl⟩ | ⟨rfl, rfl, rfl⟩ | ⟨rfl, rfl, rfl⟩ <;>
    (simp at ha hb hc h0 h1 h2 ⊢; omega)
end Go.Proofs.YtcnffgcegimelaaGreat.Pw
end
section
/-
  Plain law: rows sorted by an order and made single: each row once, strictly rising; numbers of a level rise where the levels above are the same. Conditions: an order of the three places.
-/
namespace Go.Proofs.YtcnffgcegimelaaGreat.Pm
open Go.Proofs.YtcnffgcegimelaaGreat.Pw Go.Sort
open Go.Lib (compact compactUpTo keeps)

theorem ltR_irrefl (o : Ord) (x : R3) : ¬ ltR o x x := by unfold ltR; omega
theorem ltR_trans (o : Ord) {x y z : R3} (h1 : ltR o x y) (h2 : ltR o y z) : ltR o x z := by unfold ltR at *; omega
theorem ltR_ntrans (o : Ord) {x y z : R3} (h1 : ¬ ltR o x y) (h2 : ¬ ltR o y z) : ¬ ltR o x z := by unfold ltR at *; omega
theorem ltR_tri (o : Ord) (ho : Six o) {x y : R3} (h1 : ¬ ltR o x y) (h2 : ¬ ltR o y x) : x = y := at_six o ho x y (by unfold ltR at *; omega)

theorem srt_sorted (o : Ord) (l : List R3) : (srt o l).Pairwise (fun x y => ¬ ltR o y x) := by
  have h := List.pairwise_mergeSort (le := fun x y => !(ltOf (cmpR o)) y x)
    (fun a b c h1 h2 => by
      simp only [ltOf_ltR, Bool.not_eq_true', decide_eq_false_iff_not] at *
      exact ltR_ntrans o h2 h1)
    (fun a b => by
      simp only [ltOf_ltR, Bool.or_eq_true, Bool.not_eq_true', decide_eq_false_iff_not]
      unfold ltR; omega) l
  exact List.Pairwise.imp (fun hxy => by simpa only [ltOf_ltR, Bool.not_eq_true', decide_eq_false_iff_not] using hxy) h

/-- Two lists that rise strictly and have the same members are one. -/
theorem strict_eq (o : Ord) : ∀ {l1 l2 : List R3}, l1.Pairwise (ltR o) → l2.Pairwise (ltR o) → (∀ x, x ∈ l1 ↔ x ∈ l2) → l1 = l2
  | [], [], _, _, _ => rfl
  | [], b :: r, _, _, h => absurd ((h b).2 (by simp)) (by simp)
  | a :: r, [], _, _, h => absurd ((h a).1 (by simp)) (by simp)
  | a :: r1, b :: r2, h1, h2, h => by
    obtain ⟨a1, p1⟩ := List.pairwise_cons.1 h1
    obtain ⟨b1, p2⟩ := List.pairwise_cons.1 h2
    have hab : a = b := by
      rcases List.mem_cons.1 ((h a).1 (by simp)) with e | ha
      · exact e
      · rcases List.mem_cons.1 ((h b).2 (by simp)) with e | hb
        · exact e.symm
        · exact absurd (ltR_trans o (b1 a ha) (a1 b hb)) (ltR_irrefl o b)
    subst hab
    rw [strict_eq o p1 p2 (fun x => ⟨fun hx => ?_, fun hx => ?_⟩)]
    · rcases List.mem_cons.1 ((h x).1 (by simp [hx])) with e | hx'
      · subst e; exact absurd (a1 x hx) (ltR_irrefl o x)
      · exact hx'
    · rcases List.mem_cons.1 ((h x).2 (by simp [hx])) with e | hx'
      · subst e; exact absurd (b1 x hx) (ltR_irrefl o x)
      · exact hx'
theorem strict_nodup (o : Ord) {l : List R3} (h : l.Pairwise (ltR o)) : l.Nodup :=
  List.Pairwise.imp (fun hxy e => by subst e; exact ltR_irrefl o _ hxy) h

theorem getD_toArray (l : List R3) (k : Nat) (hk : k < l.length) : l.toArray[k]! = l[k] := by
  rw [get_list l k hk, List.getD_eq_getElem?_getD, List.getElem?_eq_getElem hk]
  rfl

theorem compact_mem (l : List R3) (x : R3) : x ∈ compact l ↔ x ∈ l := by
  unfold compact compactUpTo
  simp only [List.mem_map, List.mem_filter, List.mem_range]
  constructor
  · rintro ⟨j, ⟨hj, _⟩, rfl⟩
    rw [getD_toArray l j hj]
    exact List.getElem_mem hj
  · intro hx
    obtain ⟨j, hj, e⟩ := List.getElem_of_mem hx
    induction j using Nat.strongRecOn with
    | ind j ih =>
      by_cases hk : keeps l.toArray j = true
      · exact ⟨j, ⟨hj, hk⟩, by rw [getD_toArray l j hj]; exact e⟩
      · unfold keeps at hk
        simp only [decide_eq_true_eq, not_or, Decidable.not_not] at hk
        have hj1 : j - 1 < l.length := by omega
        rw [getD_toArray l j hj, getD_toArray l (j - 1) hj1] at hk
        exact ih (j - 1) (by omega) hj1 (hk.2.symm.trans e)

theorem compact_strict (o : Ord) (ho : Six o) (l : List R3) (hs : l.Pairwise (fun x y => ¬ ltR o y x)) : (compact l).Pairwise (ltR o) := by
  unfold compact compactUpTo
  rw [List.pairwise_map, List.pairwise_filter]
  refine List.Pairwise.imp_of_mem ?_ (List.pairwise_lt_range (n := l.length))
  intro a b ha hb hab _ hkb
  have ha := List.mem_range.1 ha
  have hb := List.mem_range.1 hb
  have hb1 : b - 1 < l.length := by omega
  unfold keeps at hkb
  simp only [decide_eq_true_eq] at hkb
  rw [getD_toArray l a ha, getD_toArray l b hb]
  rw [getD_toArray l b hb, getD_toArray l (b - 1) hb1] at hkb
  have hn : l[b] ≠ l[b - 1] := hkb.resolve_left (by omega)
  have hp := List.pairwise_iff_getElem.1 hs
  have h2 : ¬ ltR o l[b] l[b - 1] := hp (b - 1) b hb1 hb (by omega)
  have h3 : ltR o l[b - 1] l[b] := by
    by_cases h : ltR o l[b - 1] l[b]
    · exact h
    · exact absurd (ltR_tri o ho h2 h) hn
  by_cases e : a = b - 1
  · subst e; exact h3
  · have h4 : ¬ ltR o l[b - 1] l[a] := hp a (b - 1) ha hb1 (by omega)
    by_cases h : ltR o l[a] l[b]
    · exact h
    · exact absurd h3 (ltR_ntrans o h4 h)

/-- An index's rows. -/
def rowsOf (o : Ord) (l : List R3) : List R3 := compact (srt o l)
theorem rowsOf_strict (o : Ord) (ho : Six o) (l : List R3) : (rowsOf o l).Pairwise (ltR o) := compact_strict o ho _ (srt_sorted o l)
theorem rowsOf_mem (o : Ord) (l : List R3) (x : R3) : x ∈ rowsOf o l ↔ x ∈ l := (compact_mem _ x).trans (srt_perm o l).mem_iff
theorem rowsOf_len (o : Ord) (l : List R3) : (rowsOf o l).length ≤ l.length := by
  have : (rowsOf o l).length ≤ (srt o l).length := by
    unfold rowsOf compact compactUpTo
    rw [List.length_map]
    exact Nat.le_trans (List.length_filter_le _ _) (by simp)
  rwa [srt_length] at this
theorem rowsOf_eq (o : Ord) (ho : Six o) (l l' : List R3) (hs : l'.Pairwise (ltR o)) (hm : ∀ x, x ∈ l' ↔ x ∈ l) : rowsOf o l = l' :=
  strict_eq o (rowsOf_strict o ho l) hs (fun x => (rowsOf_mem o l x).trans (hm x).symm)

theorem num1 (o : Ord) (L : List R3) (k : Nat) (h : k < L.length) : num L o 1 k = (L[k]).at o.x := by
  have e : L.getD k r0 = L[k] := by rw [List.getD_eq_getElem?_getD, List.getElem?_eq_getElem h]; rfl
  unfold num; rw [e]; rfl
theorem num2 (o : Ord) (L : List R3) (k : Nat) (h : k < L.length) : num L o 2 k = (L[k]).at o.y := by
  have e : L.getD k r0 = L[k] := by rw [List.getD_eq_getElem?_getD, List.getElem?_eq_getElem h]; rfl
  unfold num; rw [e]; rfl
theorem num3 (o : Ord) (L : List R3) (k : Nat) (h : k < L.length) : num L o 3 k = (L[k]).at o.z := by
  have e : L.getD k r0 = L[k] := by rw [List.getD_eq_getElem?_getD, List.getElem?_eq_getElem h]; rfl
  unfold num; rw [e]; rfl
/-- Numbers rise at a level, where the levels above are the same. -/
theorem num_mono (o : Ord) (L : List R3) (hL : L.Pairwise (ltR o)) (e : Nat) (he : 1 ≤ e ∧ e ≤ 3) (a b : Nat) (hab : a ≤ b) (hb : b < L.length) (hs : ∀ j, 1 ≤ j → j < e → num L o j a = num L o j b) : num L o e a ≤ num L o e b := by
  by_cases hEq : a = b
  · subst hEq; exact Int.le_refl _
  have ha : a < L.length := by omega
  have h := List.pairwise_iff_getElem.1 hL a b ha hb (by omega)
  unfold ltR at h
  obtain rfl | rfl | rfl : e = 1 ∨ e = 2 ∨ e = 3 := by omega
  · rw [num1 o L a ha, num1 o L b hb]
    omega
  · have h1 := hs 1 (by omega) (by omega)
    rw [num1 o L a ha, num1 o L b hb] at h1
    rw [num2 o L a ha, num2 o L b hb]
    omega
  · have h1 := hs 1 (by omega) (by omega)
    have h2 := hs 2 (by omega) (by omega)
    rw [num1 o L a ha, num1 o L b hb] at h1
    rw [num2 o L a ha, num2 o L b hb] at h2
    rw [num3 o L a ha, num3 o L b hb]
    omega
/-- At the last level they rise strictly. -/
theorem num_strict (o : Ord) (L : List R3) (hL : L.Pairwise (ltR o)) (a b : Nat) (hab : a < b) (hb : b < L.length) (hs : ∀ j, 1 ≤ j → j < 3 → num L o j a = num L o j b) : num L o 3 a < num L o 3 b := by
  have ha : a < L.length := by omega
  have h := List.pairwise_iff_getElem.1 hL a b ha hb (by omega)
  unfold ltR at h
  have h1 := hs 1 (by omega) (by omega)
  have h2 := hs 2 (by omega) (by omega)
  rw [num1 o L a ha, num1 o L b hb] at h1
  rw [num2 o L a ha, num2 o L b hb] at h2
  rw [num3 o L a ha, num3 o L b hb]
  omega
end Go.Proofs.YtcnffgcegimelaaGreat.Pm
end
section
/-
  A walk's calls as plain functions of its state, and what holds of each state that a walk comes to. Conditions: rows that rise strictly.
-/
namespace Go.Proofs.YtcnffgcegimelaaGreat.Pm
open Go.Proofs.YtcnffgcegimelaaGreat.Pw

theorem upd_self (f : Nat → Nat) (i v : Nat) : upd f i v i = v := by unfold upd; rw [if_pos rfl]
theorem upd_ne (f : Nat → Nat) (i v k : Nat) (h : k ≠ i) : upd f i v k = f k := by unfold upd; rw [if_neg h]

/-- The first place from f on, of k places, at which something is so; or the place behind them. -/
def lo (p : Nat → Bool) : Nat → Nat → Nat
  | f, 0 => f
  | f, k + 1 => if p f then f else lo p (f + 1) k
theorem lo_ge (p : Nat → Bool) : ∀ (k f : Nat), f ≤ lo p f k
  | 0, f => Nat.le_refl _
  | k + 1, f => by
    unfold lo
    split
    · exact Nat.le_refl _
    · exact Nat.le_trans (Nat.le_succ f) (lo_ge p k (f + 1))
theorem lo_le (p : Nat → Bool) : ∀ (k f : Nat), lo p f k ≤ f + k
  | 0, f => Nat.le_refl _
  | k + 1, f => by
    unfold lo
    split
    · omega
    · have := lo_le p k (f + 1); omega
theorem lo_below (p : Nat → Bool) : ∀ (k f : Nat) (i : Nat), f ≤ i → i < lo p f k → p i = false
  | 0, f, i, h1, h2 => by unfold lo at h2; omega
  | k + 1, f, i, h1, h2 => by
    unfold lo at h2
    split at h2
    · omega
    · rename_i hp
      by_cases e : i = f
      · subst e; simpa using hp
      · exact lo_below p k (f + 1) i (by omega) h2
theorem lo_at (p : Nat → Bool) : ∀ (k f : Nat), lo p f k < f + k → p (lo p f k) = true
  | 0, f, h => by unfold lo at h; omega
  | k + 1, f, h => by
    unfold lo at h ⊢
    split
    · assumption
    · rename_i hp
      rw [if_neg hp] at h
      exact lo_at p k (f + 1) (by omega)

/-- The number at which a walk stands. -/
def nm (L : List R3) (o : Ord) (s : St) : Int := num L o s.d (s.f s.d)
def stand (s : St) : Bool := decide (0 < s.d ∧ s.f s.d < s.t s.d)
def opKey (L : List R3) (o : Ord) (s : St) : Int × Bool := if stand s then (nm L o s, true) else (0, false)
/-- To the first row of the level of which something is so. -/
def hop (L : List R3) (o : Ord) (s : St) (p : Int → Bool) : Nat := lo (fun k => p (num L o s.d k)) (s.f s.d) (s.t s.d - s.f s.d)
def opNext (L : List R3) (o : Ord) (s : St) : St × Int := if stand s then ({ s with f := upd s.f s.d (hop L o s fun x => decide (nm L o s < x)) }, 0) else (s, 3)
def opSeek (L : List R3) (o : Ord) (s : St) (n : Int) : St × Int := if stand s then ({ s with f := upd s.f s.d (hop L o s fun x => decide (n ≤ x)) }, 0) else (s, 3)
def opUp (s : St) : St × Int := if s.d = 0 then (s, 3) else ({ s with d := s.d - 1 }, 0)
def opOpen (L : List R3) (o : Ord) (s : St) : St × Int :=
  if s.d = 3 ∨ (0 < s.d ∧ stand s = false) ∨ L.length = 0 then (s, 3)
  else if s.d = 0 then (⟨1, upd s.f 1 (s.f 0), upd s.t 1 (s.t 0)⟩, 0)
  else (⟨s.d + 1, upd s.f (s.d + 1) (s.f s.d), upd s.t (s.d + 1) (hop L o s fun x => decide (nm L o s < x))⟩, 0)

/-- What holds of each state that a walk comes to. -/
structure Ok (L : List R3) (o : Ord) (s : St) : Prop where
  d3 : s.d ≤ 3
  f0 : s.f 0 = 0
  t0 : s.t 0 = L.length
  le : ∀ e, 1 ≤ e → e ≤ s.d → s.f e ≤ s.t e ∧ s.t e ≤ L.length
  same : ∀ e, 1 ≤ e → e ≤ s.d → ∀ j, 1 ≤ j → j < e → ∀ a b, s.f e ≤ a → a < s.t e → s.f e ≤ b → b < s.t e → num L o j a = num L o j b

theorem ok_root (L : List R3) (o : Ord) : Ok L o (root L.length) := ⟨by simp [root], rfl, rfl, fun e h1 h2 => by simp [root] at h2; omega, fun e h1 h2 => by simp [root] at h2; omega⟩

theorem Ok.mono {L : List R3} {o : Ord} {s : St} (h : Ok L o s) (hL : L.Pairwise (ltR o)) (hd : 0 < s.d) (a b : Nat) (ha : s.f s.d ≤ a) (hab : a ≤ b) (hb : b < s.t s.d) : num L o s.d a ≤ num L o s.d b :=
  num_mono o L hL s.d ⟨hd, h.d3⟩ a b hab (by have := (h.le s.d hd (Nat.le_refl _)).2; omega) (fun j h1 h2 => h.same s.d hd (Nat.le_refl _) j h1 h2 a b ha (by omega) (by omega) hb)

theorem hop_ge (L : List R3) (o : Ord) (s : St) (p : Int → Bool) : s.f s.d ≤ hop L o s p := lo_ge _ _ _
theorem hop_le (L : List R3) (o : Ord) (s : St) (p : Int → Bool) (h : s.f s.d ≤ s.t s.d) : hop L o s p ≤ s.t s.d := by
  have := lo_le (fun k => p (num L o s.d k)) (s.t s.d - s.f s.d) (s.f s.d)
  unfold hop; omega
theorem hop_below (L : List R3) (o : Ord) (s : St) (p : Int → Bool) (k : Nat) (h1 : s.f s.d ≤ k) (h2 : k < hop L o s p) : p (num L o s.d k) = false := lo_below (fun k => p (num L o s.d k)) _ _ k h1 h2
theorem hop_at (L : List R3) (o : Ord) (s : St) (p : Int → Bool) (h : hop L o s p < s.t s.d) : p (num L o s.d (hop L o s p)) = true := by
  have hg := hop_ge L o s p
  refine lo_at (fun k => p (num L o s.d k)) (s.t s.d - s.f s.d) (s.f s.d) ?_
  unfold hop at h hg
  omega
theorem hop_behind (L : List R3) (o : Ord) (s : St) (p : Int → Bool) (h : Ok L o s) (hL : L.Pairwise (ltR o)) (hd : 0 < s.d) (hp : ∀ x y, x ≤ y → p x = true → p y = true) (k : Nat) (h1 : hop L o s p ≤ k) (h2 : k < s.t s.d) : p (num L o s.d k) = true :=
  hp _ _ (h.mono hL hd _ _ (hop_ge L o s p) h1 h2) (hop_at L o s p (by omega))

theorem ok_hop {L : List R3} {o : Ord} {s : St} (h : Ok L o s) (hd : 0 < s.d) (p : Int → Bool) : Ok L o { s with f := upd s.f s.d (hop L o s p) } := by
  have hle := h.le s.d hd (Nat.le_refl _)
  have hg := hop_ge L o s p
  have hl := hop_le L o s p hle.1
  refine ⟨h.d3, ?_, h.t0, ?_, ?_⟩
  · show upd s.f s.d _ 0 = 0
    unfold upd; rw [if_neg (by omega)]; exact h.f0
  · intro e h1 h2
    show upd s.f s.d _ e ≤ s.t e ∧ s.t e ≤ L.length
    unfold upd
    split
    · rename_i he; subst he; exact ⟨hl, hle.2⟩
    · exact h.le e h1 h2
  · intro e h1 h2 j hj1 hj2 a b ha1 ha2 hb1 hb2
    refine h.same e h1 h2 j hj1 hj2 a b ?_ ha2 ?_ hb2
    · change upd s.f s.d _ e ≤ a at ha1
      unfold upd at ha1
      split at ha1
      · rename_i he; subst he; omega
      · exact ha1
    · change upd s.f s.d _ e ≤ b at hb1
      unfold upd at hb1
      split at hb1
      · rename_i he; subst he; omega
      · exact hb1
theorem ok_next {L : List R3} {o : Ord} {s : St} (h : Ok L o s) : Ok L o (opNext L o s).1 := by
  unfold opNext
  split
  · rename_i hs; exact ok_hop h (of_decide_eq_true hs).1 _
  · exact h
theorem ok_seek {L : List R3} {o : Ord} {s : St} (h : Ok L o s) (n : Int) : Ok L o (opSeek L o s n).1 := by
  unfold opSeek
  split
  · rename_i hs; exact ok_hop h (of_decide_eq_true hs).1 _
  · exact h
theorem ok_up {L : List R3} {o : Ord} {s : St} (h : Ok L o s) : Ok L o (opUp s).1 := by
  unfold opUp
  split
  · exact h
  · have := h.d3
    exact ⟨by show s.d - 1 ≤ 3; omega, h.f0, h.t0, fun e h1 h2 => h.le e h1 (Nat.le_trans h2 (Nat.sub_le _ _)), fun e h1 h2 => h.same e h1 (Nat.le_trans h2 (Nat.sub_le _ _))⟩
theorem ok_open {L : List R3} {o : Ord} {s : St} (h : Ok L o s) (hL : L.Pairwise (ltR o)) : Ok L o (opOpen L o s).1 := by
  unfold opOpen
  split
  · exact h
  · rename_i hn
    have h3 : s.d ≠ 3 := fun e => hn (.inl e)
    have d3 := h.d3
    split
    · rename_i h0
      refine ⟨by show 1 ≤ 3; omega, ?_, ?_, ?_, ?_⟩
      · exact (upd_ne s.f 1 (s.f 0) 0 (by omega)).trans h.f0
      · exact (upd_ne s.t 1 (s.t 0) 0 (by omega)).trans h.t0
      · intro e h1 h2
        obtain rfl : e = 1 := by change e ≤ 1 at h2; omega
        show upd s.f 1 (s.f 0) 1 ≤ upd s.t 1 (s.t 0) 1 ∧ upd s.t 1 (s.t 0) 1 ≤ L.length
        rw [upd_self, upd_self, h.f0, h.t0]; omega
      · intro e h1 h2 j hj1 hj2
        change e ≤ 1 at h2; omega
    · rename_i h0
      have hs : stand s = true := by
        cases e : stand s with
        | true => rfl
        | false => exact absurd (.inr (.inl ⟨by omega, e⟩)) hn
      have hs' := of_decide_eq_true hs
      have hle := h.le s.d hs'.1 (Nat.le_refl _)
      have hg := hop_ge L o s fun x => decide (nm L o s < x)
      have hl := hop_le L o s (fun x => decide (nm L o s < x)) hle.1
      refine ⟨by show s.d + 1 ≤ 3; omega, ?_, ?_, ?_, ?_⟩
      · exact (upd_ne s.f (s.d + 1) (s.f s.d) 0 (by omega)).trans h.f0
      · exact (upd_ne s.t (s.d + 1) (hop L o s fun x => decide (nm L o s < x)) 0 (by omega)).trans h.t0
      · intro e h1 h2
        change e ≤ s.d + 1 at h2
        show upd s.f (s.d + 1) (s.f s.d) e ≤ upd s.t (s.d + 1) (hop L o s fun x => decide (nm L o s < x)) e ∧ upd s.t (s.d + 1) (hop L o s fun x => decide (nm L o s < x)) e ≤ L.length
        unfold upd
        by_cases he : e = s.d + 1
        · rw [if_pos he, if_pos he]; omega
        · rw [if_neg he, if_neg he]; exact h.le e h1 (by omega)
      · intro e h1 h2 j hj1 hj2 a b ha1 ha2 hb1 hb2
        change e ≤ s.d + 1 at h2
        change upd s.f (s.d + 1) (s.f s.d) e ≤ a at ha1
        change a < upd s.t (s.d + 1) (hop L o s fun x => decide (nm L o s < x)) e at ha2
        change upd s.f (s.d + 1) (s.f s.d) e ≤ b at hb1
        change b < upd s.t (s.d + 1) (hop L o s fun x => decide (nm L o s < x)) e at hb2
        unfold upd at ha1 ha2 hb1 hb2
        by_cases he : e = s.d + 1
        · rw [if_pos he] at ha1 ha2 hb1 hb2
          by_cases hj : j = s.d
          · subst hj
            have h5 := hop_below L o s (fun x => decide (nm L o s < x)) a ha1 ha2
            have h6 := hop_below L o s (fun x => decide (nm L o s < x)) b hb1 hb2
            have h7 := h.mono hL hs'.1 (s.f s.d) a (Nat.le_refl _) ha1 (by omega)
            have h8 := h.mono hL hs'.1 (s.f s.d) b (Nat.le_refl _) hb1 (by omega)
            have h5 := of_decide_eq_false h5
            have h6 := of_decide_eq_false h6
            unfold nm at h5 h6
            omega
          · exact h.same s.d hs'.1 (Nat.le_refl _) j hj1 (by omega) a b ha1 (by omega) hb1 (by omega)
        · rw [if_neg he] at ha1 ha2 hb1 hb2
          exact h.same e h1 (by omega) j hj1 hj2 a b ha1 ha2 hb1 hb2
end Go.Proofs.YtcnffgcegimelaaGreat.Pm
end
