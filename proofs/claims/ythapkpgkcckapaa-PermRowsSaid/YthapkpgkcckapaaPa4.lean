/-
  slices.Compact of rows of three numbers: the walk. Conditions: the rows' cells lie as told, and may be written.
-/
import Derived.Test.YthapkpgkcckapaaPa3
import Derived.Shelf.RegionOpenPlain
import Derived.Deep.LoopGhost
namespace Go.Proofs.Ythapkpgkcckapaa.Pw
open Go.RowKit Go.Proofs.YthapkpgkcckapaaW.PrintWords Go.Proofs.Ythapkpgkcckapaa.Pm
open Go.Lib (compact compactUpTo keeps CompInv)

theorem r3_eq (x y : R3) : decide (x.a = y.a ∧ x.b = y.b ∧ x.c = y.c) = decide (x = y) := by
  obtain ⟨xa, xb, xc⟩ := x
  obtain ⟨ya, yb, yc⟩ := y
  exact decide_eq_decide.2 ⟨fun ⟨h1, h2, h3⟩ => by simp only at h1 h2 h3; rw [h1, h2, h3], fun h => by injection h with h1 h2 h3; exact ⟨h1, h2, h3⟩⟩

theorem row_cells {w : World} {b off : Nat} {l : List R3} (h : RowsIn w b off l) (k : Nat) (hk : k < l.length) :
    w.cell? ⟨b, off + k * 3, none⟩ = some (.int .i64 (l.getD k r0).a) ∧ w.cell? ⟨b, off + k * 3 + 1, none⟩ = some (.int .i64 (l.getD k r0).b) ∧ w.cell? ⟨b, off + k * 3 + 2, none⟩ = some (.int .i64 (l.getD k r0).c) :=
  ⟨(h k 0 hk (by omega)).1, (h k 1 hk (by omega)).1, (h k 2 hk (by omega)).1⟩

/-- Behind the loops: what is kept, and zeros. -/
theorem done_rows {wr : World} {blk off : Nat} {l dk : List R3} {k : Nat} (hI : CompInv l.toArray l.length k dk.toArray) (hH : RowsIn wr blk off dk) (vs : List Value) : RowsIn (wr.setCells blk (off + k * 3) vs) blk off (compact l) := by
  have hlen : (compact l).length = k := hI.len
  have hk := hI.lt
  have hsz : dk.length = l.length := by simpa using hI.size
  have e : compact l = dk.take k := by
    apply List.ext_getElem?
    intro j
    rw [List.getElem?_take]
    by_cases hj : j < k
    · rw [if_pos hj, show (compact l)[j]? = _ from hI.low j hj, getElem!_pos _ j (by simp; omega)]
      simp [List.getElem?_eq_getElem (show j < dk.length by omega)]
    · rw [if_neg hj]
      exact List.getElem?_eq_none (by omega)
  rw [e]
  exact (hH.take k).setCells _ (by simp; omega) vs

theorem put_row {wr : World} {blk off : Nat} {dk : List R3} (hH : RowsIn wr blk off dk) (m : Nat) (hm : m < dk.length) (x : R3) (w2 : World)
    (hw : w2 = (((wr.setCell ⟨blk, off + m * 3, none⟩ (.int .i64 x.a)).setCell ⟨blk, off + m * 3 + 1, none⟩ (.int .i64 x.b)).setCell ⟨blk, off + m * 3 + 2, none⟩ (.int .i64 x.c)).drew) :
    RowsIn w2 blk off (dk.set m x) ∧ wr.grownBy w2 (some blk) := by
  subst hw
  refine ⟨?_, ?_⟩
  · intro k i hk hi
    exact hH.set m hm x k i hk hi
  · exact grown_d (grown_tr (grown_tr (grown_set _ _ _ _) (grown_set _ _ _ _)) (grown_set _ _ _ _))

set_option maxHeartbeats 4000000 in
set_option maxRecDepth 1000000 in
theorem compact_calls (w : World) (blk off cap : Nat) (l : List R3) (hH : RowsIn w blk off l) (hl : l.length ≤ 1125899906842624) (hcap : l.length ≤ cap) :
    Calls Try.prog 35 #[.slice (some ⟨blk, off, none⟩) l.length cap] w fun e w' => e = .returned (.slice (some ⟨blk, off, none⟩) (compact l).length cap) ∧ RowsIn w' blk off (compact l) ∧ w.grownBy w' (some blk) := by
  have EQ := fun (w : World) (a b c x y z : Int) => eql23 w a b c x y z
  have NE := fun (w : World) (a b c x y z : Int) => neq23 w a b c x y z
  by_cases h2 : l.length < 2
  · have HH := Lib.hid hH
    clear hH EQ NE
    have hd : decide ((l.length : Int) < 2) = true := by simp; omega
    go_enter Try.func35, Try.ntmps35
    go_wp2
    go_ret
    have e : compact l = l := Go.Lib.compact_all l (fun j hj => Go.Lib.keeps_lt_one _ j (by omega))
    rw [e]
    exact ⟨rfl, HH.out, ⟨rfl, rfl, rfl, Nat.le_refl _, fun _ _ _ => rfl⟩⟩
  · have hd : decide ((l.length : Int) < 2) = false := by simp; omega
    go_enter Try.func35, Try.ntmps35
    go_wp2
    go_loopg [3] l.length (fun g s3 wr => ∃ k q : Nat, k + 1 ≤ l.length ∧ l.length - (k + 1) ≤ g ∧ s3 = .int .i64 ((k + 1 : Nat) : Int) ∧ wr = w.drewN q ∧ ∀ j, j < k + 1 → keeps l.toArray j = true)
    case atStart => exact ⟨0, 0, by omega, by omega, rfl, rfl, Go.Lib.keeps_lt_one _⟩
    case round =>
      obtain ⟨k, q, hk, hg, rfl, rfl, hall⟩ := hrel
      by_cases hlt : k + 1 < l.length
      · obtain ⟨c0, c1, c2⟩ := row_cells hH (k + 1) hlt
        obtain ⟨b0, b1, b2⟩ := row_cells hH k (by omega)
        have A := Lib.hid hall
        have HH := Lib.hid hH
        clear hall hH
        generalize hx : l.getD (k + 1) r0 = x at c0 c1 c2
        generalize hy : l.getD k r0 = y at b0 b1 b2
        have B := Lib.hid (And.intro hx hy)
        clear hx hy
        have hs1 : IntKind.i64.wrap (((k + 1 : Nat) : Int) - 1) = (k : Int) := by
          rw [IntWalk.i64_in _ (by omega)]; omega
        by_cases hdup : x = y
        · subst hdup
          have hdt : decide (x.a = x.a ∧ x.b = x.b ∧ x.c = x.c) = true := by simp
          go_wp2_with fail
          go_region
          go_wp2_with fail
          clear c0 c1 c2 b0 b1 b2
          go_loopg [3, 5] l.length (fun g s3 s5 wr => ∃ (kk k2 : Nat) (dk : List R3), s3 = .int .i64 kk ∧ s5 = .int .i64 ((k2 + 1 : Nat) : Int) ∧ (k + 1) + (k2 + 1) ≤ l.length ∧ l.length - ((k + 1) + (k2 + 1)) ≤ g ∧ w.grownBy wr (some blk) ∧ RowsIn wr blk off dk ∧ CompInv l.toArray ((k + 1) + (k2 + 1)) kk dk.toArray)
          case atStart =>
            refine ⟨k + 1, 0, l, rfl, rfl, by omega, by omega, ⟨rfl, rfl, rfl, Nat.le_refl _, fun _ _ _ => rfl⟩, HH.out, ?_⟩
            refine CompInv.start A.out (Go.Lib.keeps_neg (by omega) ?_)
            rw [get_list _ _ (by omega), show k + 1 - 1 = k by omega, get_list _ _ (by omega), B.out.1, B.out.2]
          case round =>
            obtain ⟨kk, k2, dk, rfl, rfl, hle, hg2, hgr, hHk, hI⟩ := hrel
            have hkk := hI.lt
            have hds : dk.length = l.length := by simpa using hI.size
            by_cases hlt2 : (k + 1) + (k2 + 1) < l.length
            · obtain ⟨m0, m1, m2⟩ := row_cells hHk ((k + 1) + (k2 + 1)) (by omega)
              obtain ⟨p0, p1, p2⟩ := row_cells hHk ((k + 1) + k2) (by omega)
              obtain ⟨o0, o1, o2⟩ := row_cells hHk kk (by omega)
              have f0 : wr.frozen? ⟨blk, off + kk * 3, none⟩ = false := (hHk kk 0 (by omega) (by omega)).2
              have f1 : wr.frozen? ⟨blk, off + kk * 3 + 1, none⟩ = false := (hHk kk 1 (by omega) (by omega)).2
              have f2 : wr.frozen? ⟨blk, off + kk * 3 + 2, none⟩ = false := (hHk kk 2 (by omega) (by omega)).2
              have hm : dk.getD ((k + 1) + (k2 + 1)) r0 = l.getD ((k + 1) + (k2 + 1)) r0 := by
                rw [← get_list _ _ (by omega), ← get_list _ _ (by omega)]; exact hI.high _ (by omega)
              have hp : dk.getD ((k + 1) + k2) r0 = l.getD ((k + 1) + k2) r0 := by
                rw [← get_list _ _ (by omega), ← get_list _ _ (by omega)]; exact hI.high _ (by omega)
              rw [hm, show off + ((k + 1) + (k2 + 1)) * 3 = off + (k + 1) * 3 + (k2 + 1) * 3 by omega] at m0 m1 m2
              rw [hp, show off + ((k + 1) + k2) * 3 = off + (k + 1) * 3 + k2 * 3 by omega] at p0 p1 p2
              have HI := Lib.hid (And.intro hgr (And.intro hHk hI))
              clear hgr hHk hI hm hp
              generalize hu : l.getD ((k + 1) + (k2 + 1)) r0 = u at m0 m1 m2
              generalize hv : l.getD ((k + 1) + k2) r0 = v at p0 p1 p2
              generalize dk.getD kk r0 = old at o0 o1 o2
              have C := Lib.hid (And.intro hu hv)
              clear hu hv
              have hs2 : IntKind.i64.wrap (((k2 + 1 : Nat) : Int) - 1) = (k2 : Int) := by
                rw [IntWalk.i64_in _ (by omega)]; omega
              by_cases huv : u = v
              · subst huv
                have hdt : decide (u.a = u.a ∧ u.b = u.b ∧ u.c = u.c) = true := by simp
                go_wp2_with fail
                go_region
                go_wp2_with fail
                go_roundg (l.length - ((k + 1) + (k2 + 1 + 1)))
                case measure => omega
                case rel =>
                  obtain ⟨hgr, hHk, hI⟩ := HI.out
                  refine ⟨kk, k2 + 1, dk, rfl, by go_num, by omega, Nat.le_refl _, grown_d hgr, hHk, ?_⟩
                  refine hI.skip (Go.Lib.keeps_neg (by omega) ?_)
                  rw [get_list _ _ (by omega), show (k + 1) + (k2 + 1) - 1 = (k + 1) + k2 by omega, get_list _ _ (by omega), C.out.1, C.out.2]
              · have hdt : decide (u.a = v.a ∧ u.b = v.b ∧ u.c = v.c) = false := by rw [r3_eq]; simpa using huv
                go_wp2_with fail
                go_region
                go_wp2_with fail
                go_roundg (l.length - ((k + 1) + (k2 + 1 + 1)))
                case measure => omega
                case rel =>
                  obtain ⟨hgr, hHk, hI⟩ := HI.out
                  obtain ⟨hr1, hr2⟩ := put_row hHk kk (by omega) u _ rfl
                  refine ⟨kk + 1, k2 + 1, dk.set kk u, by go_num, by go_num, by omega, Nat.le_refl _, grown_tr hgr hr2, hr1, ?_⟩
                  have := hI.keep (by simpa using hlt2) (Go.Lib.keeps_pos (by rw [get_list _ _ (by omega), show (k + 1) + (k2 + 1) - 1 = (k + 1) + k2 by omega, get_list _ _ (by omega), C.out.1, C.out.2]; exact huv))
                  rw [get_list _ _ (by omega), C.out.1] at this
                  rw [show k + 1 + (k2 + 1 + 1) = k + 1 + (k2 + 1) + 1 by omega]
                  simpa using this
            · have hend : (k + 1) + (k2 + 1) = l.length := by omega
              have hcl : ∀ ty, (Builtin.clear_ #[22] ty #[.slice (some ⟨blk, off + kk * 3, none⟩) (l.length - kk) (cap - kk)]).run Try.prog wr = .ok (.tuple #[]) (wr.setCells blk (off + kk * 3) (List.replicate ((l.length - kk) * 3) (.int .i64 0))) :=
                fun ty => clear23 wr ty blk (off + kk * 3) (l.length - kk) (cap - kk) (by omega)
                  (fun j hj => by
                    have := (hHk (kk + j / 3) (j % 3) (by omega) (by omega)).1
                    rw [show off + kk * 3 + j = off + (kk + j / 3) * 3 + j % 3 by omega, this]; rfl)
                  (fun j hj => by
                    have := (hHk (kk + j / 3) (j % 3) (by omega) (by omega)).2
                    rw [show off + kk * 3 + j = off + (kk + j / 3) * 3 + j % 3 by omega]; exact this)
              have HI := Lib.hid (And.intro hgr (And.intro hHk hI))
              clear hgr hHk hI
              go_wp2
              go_ret
              obtain ⟨hgr, hHk, hI⟩ := HI.out
              rw [hend] at hI
              exact ⟨by rw [show (compact l).length = kk from hI.len]; rfl, done_rows hI hHk _, grown_tr hgr (grown_setCells _ _ _ _)⟩
        · have hdt : decide (x.a = y.a ∧ x.b = y.b ∧ x.c = y.c) = false := by rw [r3_eq]; simpa using hdup
          go_wp2_with fail
          go_region
          go_wp2
          go_roundg (l.length - (k + 1 + 1))
          case measure => omega
          case rel =>
            refine ⟨k + 1, q + 1, by omega, Nat.le_refl _, by go_num, rfl, fun j hj => ?_⟩
            by_cases e : j = k + 1
            · subst e
              refine Go.Lib.keeps_pos ?_
              rw [get_list _ _ (by omega), show k + 1 - 1 = k by omega, get_list _ _ (by omega), B.out.1, B.out.2]
              exact hdup
            · exact A.out j (by omega)
      · have : k + 1 = l.length := by omega
        have HH := Lib.hid hH
        clear hH
        go_wp2
        go_ret
        have e : compact l = l := Go.Lib.compact_all l (fun j hj => hall j (by omega))
        rw [e]
        exact ⟨rfl, HH.out, ⟨rfl, rfl, rfl, Nat.le_refl _, fun _ _ _ => rfl⟩⟩
end Go.Proofs.Ythapkpgkcckapaa.Pw
