/-
  Joined by wip/tools/merge.py from the texts Shelf Pa0 Pa1 Pa2. Conditions: as each says.
-/
import Derived.Shelf.Small.Wraps
import Derived.Shelf.Sort.Plain
import Derived.Ground.SlgnProg
import Derived.Shelf.SlicesE.Clone
import Derived.Ground.SlsfProg
import Derived.Shelf.SlSortCmp.WholeK
import Derived.Test.YtcnffgcegimelaaGreatProg
import Derived.Test.YtcnffgcegimelaaGreatJ2
import Derived.StillTailTactics
import Derived.Shelf.SlSortCmp.NoneTotal
section
/-
  The shelf's contracts at this dump, in plain words: those that the proofs of this seat use (written by the shelf's lay-shelf and lay-plain, picked by shelf_pick.py). Conditions: as each says.
-/
namespace Go.Proofs
open Go.Shelf
def Tryz.lays122_ren : Go.Shelf.Ren := ⟨fun | 122 => 82 | 215 => 102 | n => n, fun | 3 => 3 | 4 => 4 | n => n, fun | n => n⟩
theorem Tryz.lays122 : Go.Proofs.Lays.n122 Tryz.prog Tryz.lays122_ren := {
  mixed := by kernel_rfl
  f122 := Tryz.func82.trans (congrArg some (by kernel_rfl))
  f215 := Tryz.func102.trans (congrArg some (by kernel_rfl))
  t3 := Tryz.underlying3
  a3 := Tryz.isAgg3
  z3 := Tryz.sizeOf3
  v3 := Tryz.zeroValue3
  t4 := Tryz.underlying4
  a4 := Tryz.isAgg4
  z4 := Tryz.sizeOf4
  v4 := Tryz.zeroValue4 }
open Go.RowKit in
/-- cmp.Compare at int: "Compare returns -1 if x is less than y, 0 if x equals y, +1 if x is greater than y.": IT RETURNS 'Lib.compareInt x y'; the world is as it was. (LAID: no walk: one application.) -/
theorem Tryz.cmp_Compare_int (x y : Int) (w : World) :
    Calls Tryz.prog 82 #[.int .i64 x, .int .i64 y] w fun e w' => e = .returned (.int .i64 (Lib.compareInt x y)) ∧ w' = w := Any.cmp_Compare_int Tryz.lays122 x y w
def Tryz.lays189_ren : Go.Shelf.Ren := ⟨fun | 189 => 78 | 125 => 76 | 257 => 100 | 128 => 98 | 129 => 99 | 294 => 109 | 295 => 110 | 296 => 111 | 297 => 112 | 298 => 113 | 299 => 114 | 216 => 115 | 300 => 116 | 301 => 117 | 328 => 128 | 329 => 105 | 330 => 106 | 331 => 129 | 332 => 130 | 215 => 102 | 343 => 134 | n => n, fun | 28 => 50 | 3 => 3 | 46 => 122 | 0 => 0 | 51 => 133 | 53 => 147 | 4 => 4 | 183 => 140 | 182 => 139 | 131 => 88 | 5 => 5 | 9 => 9 | 218 => 151 | 222 => 155 | 228 => 168 | 229 => 75 | n => n, fun | n => n⟩
theorem Tryz.lays189 : Go.Proofs.Lays.n189 Tryz.prog Tryz.lays189_ren := {
  mixed := by kernel_rfl
  f125 := Tryz.func76.trans (congrArg some (by kernel_rfl))
  f128 := Tryz.func98.trans (congrArg some (by kernel_rfl))
  f129 := Tryz.func99.trans (congrArg some (by kernel_rfl))
  f189 := Tryz.func78.trans (congrArg some (by kernel_rfl))
  f215 := Tryz.func102.trans (congrArg some (by kernel_rfl))
  f216 := Tryz.func115.trans (congrArg some (by kernel_rfl))
  f257 := Tryz.func100.trans (congrArg some (by kernel_rfl))
  f294 := Tryz.func109.trans (congrArg some (by kernel_rfl))
  f295 := Tryz.func110.trans (congrArg some (by kernel_rfl))
  f296 := Tryz.func111.trans (congrArg some (by kernel_rfl))
  f297 := Tryz.func112.trans (congrArg some (by kernel_rfl))
  f298 := Tryz.func113.trans (congrArg some (by kernel_rfl))
  f299 := Tryz.func114.trans (congrArg some (by kernel_rfl))
  f300 := Tryz.func116.trans (congrArg some (by kernel_rfl))
  f301 := Tryz.func117.trans (congrArg some (by kernel_rfl))
  f328 := Tryz.func128.trans (congrArg some (by kernel_rfl))
  f329 := Tryz.func105.trans (congrArg some (by kernel_rfl))
  f330 := Tryz.func106.trans (congrArg some (by kernel_rfl))
  f331 := Tryz.func129.trans (congrArg some (by kernel_rfl))
  f332 := Tryz.func130.trans (congrArg some (by kernel_rfl))
  f343 := Tryz.func134.trans (congrArg some (by kernel_rfl))
  t0 := Tryz.underlying0
  a0 := Tryz.isAgg0
  z0 := Tryz.sizeOf0
  v0 := Tryz.zeroValue0
  t3 := Tryz.underlying3
  a3 := Tryz.isAgg3
  z3 := Tryz.sizeOf3
  v3 := Tryz.zeroValue3
  t4 := Tryz.underlying4
  a4 := Tryz.isAgg4
  z4 := Tryz.sizeOf4
  v4 := Tryz.zeroValue4
  t5 := Tryz.underlying5
  a5 := Tryz.isAgg5
  z5 := Tryz.sizeOf5
  v5 := Tryz.zeroValue5
  t9 := Tryz.underlying9
  a9 := Tryz.isAgg9
  z9 := Tryz.sizeOf9
  v9 := Tryz.zeroValue9
  t28 := Tryz.underlying50
  a28 := Tryz.isAgg50
  z28 := Tryz.sizeOf50
  v28 := Tryz.zeroValue50
  t46 := Tryz.underlying122
  a46 := Tryz.isAgg122
  z46 := Tryz.sizeOf122
  v46 := Tryz.zeroValue122
  t51 := Tryz.underlying133
  a51 := Tryz.isAgg133
  z51 := Tryz.sizeOf133
  v51 := Tryz.zeroValue133
  t53 := Tryz.underlying147
  a53 := Tryz.isAgg147
  z53 := Tryz.sizeOf147
  v53 := Tryz.zeroValue147
  t131 := Tryz.underlying88
  a131 := Tryz.isAgg88
  z131 := Tryz.sizeOf88
  v131 := Tryz.zeroValue88
  t182 := Tryz.underlying139
  a182 := Tryz.isAgg139
  z182 := Tryz.sizeOf139
  v182 := Tryz.zeroValue139
  t183 := Tryz.underlying140
  a183 := Tryz.isAgg140
  z183 := Tryz.sizeOf140
  v183 := Tryz.zeroValue140
  t218 := Tryz.underlying151
  a218 := Tryz.isAgg151
  z218 := Tryz.sizeOf151
  v218 := Tryz.zeroValue151
  t222 := Tryz.underlying155
  a222 := Tryz.isAgg155
  z222 := Tryz.sizeOf155
  v222 := Tryz.zeroValue155
  t228 := Tryz.underlying168
  a228 := Tryz.isAgg168
  z228 := Tryz.sizeOf168
  v228 := Tryz.zeroValue168
  t229 := Tryz.underlying75
  a229 := Tryz.isAgg75
  z229 := Tryz.sizeOf75
  v229 := Tryz.zeroValue75 }
open Go.Sort Go.RowKit in
theorem Tryz.slices_Sort_int (blk off cap : Nat) (zs : List Int) (w : World) (hH : Holds (Value.int .i64) w blk off zs.toArray) (hblk : blk < w.heap.size) (hsz : zs.length < 4611686018427387904) :
    Calls Tryz.prog 78 #[.slice (some ⟨blk, off, none⟩) zs.length cap] w fun e w' =>
      e = .returned (.tuple #[]) ∧ ∃ n os, w' = grow (putRow (Value.int .i64) (Sort.ahead w n) blk off (zs.mergeSort fun x y => decide (x ≤ y)).toArray) os := Any.slices_Sort_int Tryz.lays189 blk off cap zs w hH hblk hsz
def Tryz.laysSlE041_f30_ren : Go.Shelf.Ren := ⟨fun | 41 => 79 | n => n, fun | 22 => 106 | 23 => 80 | 4 => 4 | n => n, fun | n => n⟩
theorem Tryz.laysSlE041_f30 : Go.Proofs.SlLaysE0.n41 Tryz.prog Tryz.laysSlE041_f30_ren := {
  mixed := by kernel_rfl
  f41 := ⟨Tryz.f79.name, by decide, Tryz.func79.trans (congrArg some (by kernel_rfl))⟩
  t4 := Tryz.underlying4
  a4 := Tryz.isAgg4
  z4 := Tryz.sizeOf4
  v4 := Tryz.zeroValue4
  t22 := Tryz.underlying106
  a22 := Tryz.isAgg106
  z22 := Tryz.sizeOf106
  v22 := Tryz.zeroValue106 }
open Go.RowKit Go.Lib in
/-- slices.Clone: "Clone returns a copy of the slice. The elements are copied using assignment, so this is a shallow clone. The result may have additional unused capacity. The result preserves the nilness of s.": OF A SLICE THAT IS NOT nil IT RETURNS A SLICE THAT IS NOT nil, OF THE SAME CELLS, IN MEMORY OF THE CALL's OWN ('ownsRow': the how-to's 6f); below the heap's size at the call all is as it was. (LAID AT THE INSTANCE 'slices.Clone[[][3]int,[3]int]': no walk: one application.) -/
theorem Tryz.slices_Clone (i0 : TypeInfo) (z : Value) (size bytes : Nat) (hi : Tryz.prog.info? 80 = some i0) (hz0 : i0.zero = some z) (hz1 : i0.size = size) (hz2 : i0.bytes = bytes) (hzs : z.cells.size = size) (hsz : 0 < size) (z23 : ∀ w, (Go.sizeOf 80).run Tryz.prog w = .ok size w) (b off n c : Nat) (news : List Value) (w : World) (hl : news.length = n * size) (hn : n ≤ maxLen) (hbig : n * bytes ≤ 140737488355328) (hc : ∀ j u, news[j]? = some u → w.cell? ⟨b, off + j, none⟩ = some u) (h1 : ∀ u ∈ news, u.oneCell' = true) :
    Calls Tryz.prog 79 #[.slice (some ⟨b, off, none⟩) n c] w fun e w' => ∃ v', e = .returned v' ∧ w'.ownsRow w.heap.size 80 size v' n news ∧ v' ≠ .slice none 0 0 ∧ Below w.heap.size w w' := AnyE.slices_Clone Tryz.laysSlE041_f30 i0 z size bytes hi hz0 hz1 hz2 hzs hsz z23 b off n c news w hl hn hbig hc h1
open Go.RowKit Go.Lib in
/-- The same at nil: nil comes back; the world is as it was; nothing is asked of the element's type. (LAID AT THE INSTANCE 'slices.Clone[[][3]int,[3]int]': no walk: one application.) -/
theorem Tryz.slices_Clone_nil (n c : Nat) (w : World) :
    Calls Tryz.prog 79 #[.slice none n c] w fun e w' => e = .returned (.slice none 0 0) ∧ w' = w := AnyE.slices_Clone_nil Tryz.laysSlE041_f30 n c w
def Tryz.laysSlF06_f31_ren : Go.Shelf.Ren := ⟨fun | 6 => 80 | 15 => 76 | 14 => 101 | 28 => 98 | 29 => 99 | 20 => 118 | 21 => 119 | 22 => 120 | 23 => 121 | 24 => 122 | 25 => 123 | 26 => 124 | 27 => 125 | 46 => 131 | 47 => 105 | 48 => 106 | 49 => 132 | 50 => 133 | 57 => 135 | n => n, fun | 22 => 106 | 24 => 80 | 25 => 131 | 3 => 3 | 39 => 122 | 0 => 0 | 53 => 133 | 55 => 147 | 4 => 4 | 46 => 140 | 45 => 139 | 50 => 88 | 5 => 5 | 9 => 9 | 66 => 151 | 70 => 155 | 76 => 168 | 77 => 75 | n => n, fun | n => n⟩
theorem Tryz.laysSlF06_f31 : Go.Proofs.SlLaysF0.n6 Tryz.prog Tryz.laysSlF06_f31_ren := {
  mixed := by kernel_rfl
  f6 := ⟨Tryz.f80.name, by decide, Tryz.func80.trans (congrArg some (by kernel_rfl))⟩
  f14 := ⟨Tryz.f101.name, by decide, Tryz.func101.trans (congrArg some (by kernel_rfl))⟩
  f15 := Tryz.func76.trans (congrArg some (by kernel_rfl))
  f20 := ⟨Tryz.f118.name, by decide, Tryz.func118.trans (congrArg some (by kernel_rfl))⟩
  f21 := ⟨Tryz.f119.name, by decide, Tryz.func119.trans (congrArg some (by kernel_rfl))⟩
  f22 := ⟨Tryz.f120.name, by decide, Tryz.func120.trans (congrArg some (by kernel_rfl))⟩
  f23 := ⟨Tryz.f121.name, by decide, Tryz.func121.trans (congrArg some (by kernel_rfl))⟩
  f24 := ⟨Tryz.f122.name, by decide, Tryz.func122.trans (congrArg some (by kernel_rfl))⟩
  f25 := ⟨Tryz.f123.name, by decide, Tryz.func123.trans (congrArg some (by kernel_rfl))⟩
  f26 := ⟨Tryz.f124.name, by decide, Tryz.func124.trans (congrArg some (by kernel_rfl))⟩
  f27 := ⟨Tryz.f125.name, by decide, Tryz.func125.trans (congrArg some (by kernel_rfl))⟩
  f28 := Tryz.func98.trans (congrArg some (by kernel_rfl))
  f29 := Tryz.func99.trans (congrArg some (by kernel_rfl))
  f46 := ⟨Tryz.f131.name, by decide, Tryz.func131.trans (congrArg some (by kernel_rfl))⟩
  f47 := Tryz.func105.trans (congrArg some (by kernel_rfl))
  f48 := Tryz.func106.trans (congrArg some (by kernel_rfl))
  f49 := ⟨Tryz.f132.name, by decide, Tryz.func132.trans (congrArg some (by kernel_rfl))⟩
  f50 := ⟨Tryz.f133.name, by decide, Tryz.func133.trans (congrArg some (by kernel_rfl))⟩
  f57 := ⟨Tryz.f135.name, by decide, Tryz.func135.trans (congrArg some (by kernel_rfl))⟩
  t0 := Tryz.underlying0
  a0 := Tryz.isAgg0
  z0 := Tryz.sizeOf0
  v0 := Tryz.zeroValue0
  t3 := Tryz.underlying3
  a3 := Tryz.isAgg3
  z3 := Tryz.sizeOf3
  v3 := Tryz.zeroValue3
  t4 := Tryz.underlying4
  a4 := Tryz.isAgg4
  z4 := Tryz.sizeOf4
  v4 := Tryz.zeroValue4
  t5 := Tryz.underlying5
  a5 := Tryz.isAgg5
  z5 := Tryz.sizeOf5
  v5 := Tryz.zeroValue5
  t9 := Tryz.underlying9
  a9 := Tryz.isAgg9
  z9 := Tryz.sizeOf9
  v9 := Tryz.zeroValue9
  t22 := Tryz.underlying106
  a22 := Tryz.isAgg106
  z22 := Tryz.sizeOf106
  v22 := Tryz.zeroValue106
  t25 := Tryz.underlying131
  a25 := Tryz.isAgg131
  z25 := Tryz.sizeOf131
  v25 := Tryz.zeroValue131
  t39 := Tryz.underlying122
  a39 := Tryz.isAgg122
  z39 := Tryz.sizeOf122
  v39 := Tryz.zeroValue122
  t45 := Tryz.underlying139
  a45 := Tryz.isAgg139
  z45 := Tryz.sizeOf139
  v45 := Tryz.zeroValue139
  t46 := Tryz.underlying140
  a46 := Tryz.isAgg140
  z46 := Tryz.sizeOf140
  v46 := Tryz.zeroValue140
  t50 := Tryz.underlying88
  a50 := Tryz.isAgg88
  z50 := Tryz.sizeOf88
  v50 := Tryz.zeroValue88
  t53 := Tryz.underlying133
  a53 := Tryz.isAgg133
  z53 := Tryz.sizeOf133
  v53 := Tryz.zeroValue133
  t55 := Tryz.underlying147
  a55 := Tryz.isAgg147
  z55 := Tryz.sizeOf147
  v55 := Tryz.zeroValue147
  t66 := Tryz.underlying151
  a66 := Tryz.isAgg151
  z66 := Tryz.sizeOf151
  v66 := Tryz.zeroValue151
  t70 := Tryz.underlying155
  a70 := Tryz.isAgg155
  z70 := Tryz.sizeOf155
  v70 := Tryz.zeroValue155
  t76 := Tryz.underlying168
  a76 := Tryz.isAgg168
  z76 := Tryz.sizeOf168
  v76 := Tryz.zeroValue168
  t77 := Tryz.underlying75
  a77 := Tryz.isAgg75
  z77 := Tryz.sizeOf75
  v77 := Tryz.zeroValue75 }
open Go.RowKit Go.Lib Go.Sort in
/-- **slices.SortFunc, IN THE DOCUMENTATION's OWN TERMS: A PERMUTATION OF WHAT THE ROW HELD, SORTED BY 'cmp(a, b) < 0'.** Which of two equals comes first is left open ("The sort is not guaranteed to be stable"). (LAID AT THE INSTANCE 'slices.SortFunc[[][3]int,[3]int]': no walk: one application.) -/
theorem Tryz.slices_SortFunc {α : Type} [Inhabited α] (k : Nat) (aE : ∀ w, (isAgg 80).run Tryz.prog w = .ok true w) (zE : ∀ w, (Go.sizeOf 80).run Tryz.prog w = .ok k w) (enc : α → List Value) (hk : ∀ x, (enc x).length = k) (h1 : ∀ x, ∀ v ∈ enc x, v.oneCell' = true) (cf : α → α → Int) (hO : SWO (ltOf cf)) (g : Nat) (cb : Array Value) (blk off cap : Nat) (d : Array α) (w : World) (eg : ∀ args w, (callFunc g args).run Tryz.prog w = .ok (.enter g args) w) (hcmp : CmpLays Tryz.prog g cb enc k cf blk off d.size w) (hH : HoldsK enc k w blk off d) (hblk : blk < w.heap.size) (hsz : d.size < 4611686018427387904) :
    Calls Tryz.prog 80 #[.slice (some ⟨blk, off, none⟩) d.size cap, .func (.func g) #[] cb] w fun e w' =>
      e = .returned (.tuple #[]) ∧ ∃ d' n os, PermIn 0 d.size d d' ∧ SortedIn (ltOf cf) 0 d.size d' ∧ w' = sortWorldK enc k w blk off n d' os := AnyQ.slices_SortFunc Tryz.laysSlF06_f31 k aE zE enc hk h1 cf hO g cb blk off cap d w eg hcmp hH hblk hsz
end Go.Proofs
end
section
/-
  cmp.Or of numbers, and the comparison of two rows by an order that the program hands to the sort. Conditions: the blocks lie as told; the order is one of the six.
-/
namespace Go.Proofs.YtcnffgcegimelaaGreat.Pw
open Go.RowKit Go.Proofs.YtcnffgcegimelaaGreatW.PrintWords Go.Proofs.YtcnffgcegimelaaGreat.Pm

/-- The first that is not zero. -/
def orL : List Int → Int
  | [] => 0
  | x :: l => if x = 0 then orL l else x
theorem orL_zeros : ∀ l : List Int, (∀ x ∈ l, x = 0) → orL l = 0
  | [], _ => rfl
  | x :: l, h => by
    simp only [orL]
    rw [if_pos (h x (by simp))]
    exact orL_zeros l (fun y hy => h y (by simp [hy]))
theorem orL_at : ∀ (l : List Int) (k : Nat), k < l.length → (∀ j, j < k → l.getD j 0 = 0) → l.getD k 0 ≠ 0 → orL l = l.getD k 0
  | x :: l, 0, _, _, h => by
    simp only [orL]
    rw [if_neg (by simpa using h)]
    simp
  | x :: l, k + 1, hk, hz, h => by
    simp only [orL]
    rw [if_pos (by simpa using hz 0 (by omega))]
    have := orL_at l k (by simpa using hk) (fun j hj => by simpa using hz (j + 1) (by omega)) (by simpa using h)
    rw [this]; simp

set_option maxHeartbeats 1000000 in
theorem or_calls (w : World) (b c : Nat) (l : List Int) (hl : l.length ≤ 100) (hc : ∀ i, i < l.length → w.cell? ⟨b, i, none⟩ = some (.int .i64 (l.getD i 0))) :
    Calls Tryz.prog 56 #[.slice (some ⟨b, 0, none⟩) l.length c] w fun e w' => e = .returned (.int .i64 (orL l)) ∧ w' = w := by
  have HC := Lib.hid hc
  clear hc
  go_enter Tryz.func56, Tryz.ntmps56
  go_wp2
  go_loop [8] (fun i => ∃ k : Nat, k ≤ l.length ∧ i = .int .i64 k ∧ Hid (∀ j, j < k → l.getD j 0 = 0)) (fun i => l.length - (intOf i).toNat)
  case atStart => exact ⟨0, Nat.zero_le _, rfl, Lib.hid (fun j hj => by omega)⟩
  case round =>
    obtain ⟨k, hk, rfl, Z⟩ := hrel
    by_cases hlt : k < l.length
    · have hcell := HC.out k hlt
      by_cases hz : l.getD k 0 = 0
      · rw [hz] at hcell
        have HZ := Lib.hid hz
        clear hz
        go_wp2
        go_round
        case rel => exact ⟨k + 1, by omega, by go_num, Lib.hid (fun j hj => by
          by_cases hjk : j < k
          · exact Z.out j hjk
          · rw [show j = k by omega]; exact HZ.out)⟩
        case measure => simp [intOf]; omega
      · have hor := orL_at l k hlt Z.out hz
        have HO := Lib.hid hor
        have hz1 : (l.getD k 0 == 0) = false := beq_eq_false_iff_ne.2 hz
        have hz2 : (l.getD k 0 != 0) = true := by rw [bne_iff_ne]; exact hz
        clear hor hz
        generalize hv : l.getD k 0 = v at hcell hz1 hz2 HO
        clear hv
        go_wp2
        go_ret
        exact ⟨by rw [HO.out]; rfl, rfl⟩
    · have hor : orL l = 0 := orL_zeros l (fun x hx => by
        obtain ⟨j, hj, rfl⟩ := List.getElem_of_mem hx
        have := Z.out j (by omega)
        rwa [List.getD_eq_getElem?_getD, List.getElem?_eq_getElem hj] at this)
      have HO := Lib.hid hor
      clear hor
      go_wp2
      go_ret
      exact ⟨by rw [HO.out]; rfl, rfl⟩
end Go.Proofs.YtcnffgcegimelaaGreat.Pw
end
section
/-
  The comparison of two rows by an order that the program hands to the sort. Conditions: the order's block lies as told; the order is one of the six.
-/
namespace Go.Proofs.YtcnffgcegimelaaGreat.Pw
open Go.RowKit Go.Proofs.YtcnffgcegimelaaGreatW.PrintWords Go.Proofs.YtcnffgcegimelaaGreat.Pm

/-- A row's cells. -/
def enc3 (r : R3) : List Value := [.int .i64 r.a, .int .i64 r.b, .int .i64 r.c]
/-- Two rows, by an order. -/
def cmpR (o : Ord) (x y : R3) : Int := orL [Lib.compareInt (x.at o.x) (y.at o.x), Lib.compareInt (x.at o.y) (y.at o.y), Lib.compareInt (x.at o.z) (y.at o.z)]
/-- One of the six. -/
def Six (o : Ord) : Prop := (o.x = 0 ∧ o.y = 1 ∧ o.z = 2) ∨ (o.x = 1 ∧ o.y = 2 ∧ o.z = 0) ∨ (o.x = 2 ∧ o.y = 0 ∧ o.z = 1) ∨ (o.x = 0 ∧ o.y = 2 ∧ o.z = 1) ∨ (o.x = 1 ∧ o.y = 0 ∧ o.z = 2) ∨ (o.x = 2 ∧ o.y = 1 ∧ o.z = 0)

theorem mixed : Tryz.prog.follows .mixedOrders = true := by kernel_rfl

theorem or3 (W : World) (s c : Nat) (hs : W.heap.size = s) (a b d : Int) : Calls Tryz.prog 56 #[.slice (some ⟨s, 0, none⟩) 3 c] (W.alloc (.cells #[.int .i64 a, .int .i64 b, .int .i64 d] 3)).drew fun e w' =>
    e = .returned (.int .i64 (orL [a, b, d])) ∧ w' = (W.alloc (.cells #[.int .i64 a, .int .i64 b, .int .i64 d] 3)).drew :=
  or_calls _ s c [a, b, d] (by simp) (fun i hi => by
    subst hs
    have e : (W.alloc (.cells #[.int .i64 a, .int .i64 b, .int .i64 d] 3)).drew.cell? ⟨W.heap.size, i, none⟩ = #[Value.int .i64 a, .int .i64 b, .int .i64 d][i]? := cell_new1 W _ _ i
    rw [e]
    match i, hi with
    | 0, _ => rfl
    | 1, _ => rfl
    | 2, _ => rfl)

/-- What the two boxes and the order's block hold behind the boxes' making, and one draw. -/
theorem boxes (W : World) (ob : Nat) (v0 v1 v2 x0 x1 x2 y0 y1 y2 : Value) (h0 : W.cell? ⟨ob, 0, none⟩ = some v0) (h1 : W.cell? ⟨ob, 1, none⟩ = some v1) (h2 : W.cell? ⟨ob, 2, none⟩ = some v2) (hob : ob < W.heap.size)
    (W1 : World) (hW : (W.alloc (.cells #[x0, x1, x2] 80)).alloc (.cells #[y0, y1, y2] 80) = W1) :
    W1.drew.cell? ⟨ob, 0, none⟩ = some v0 ∧ W1.drew.cell? ⟨ob, 1, none⟩ = some v1 ∧ W1.drew.cell? ⟨ob, 2, none⟩ = some v2 ∧
    W1.drew.cell? ⟨W.heap.size, 0, none⟩ = some x0 ∧ W1.drew.cell? ⟨W.heap.size, 1, none⟩ = some x1 ∧ W1.drew.cell? ⟨W.heap.size, 2, none⟩ = some x2 ∧
    W1.drew.cell? ⟨W.heap.size + 1, 0, none⟩ = some y0 ∧ W1.drew.cell? ⟨W.heap.size + 1, 1, none⟩ = some y1 ∧ W1.drew.cell? ⟨W.heap.size + 1, 2, none⟩ = some y2 ∧ W1.heap.size = W.heap.size + 1 + 1 := by
  subst hW
  have e : ∀ i, ((W.alloc (.cells #[x0, x1, x2] 80)).alloc (.cells #[y0, y1, y2] 80)).cell? ⟨W.heap.size + 1, i, none⟩ = #[y0, y1, y2][i]? := fun i => by
    have := cell_new1 (W.alloc (.cells #[x0, x1, x2] 80)) #[y0, y1, y2] 80 i
    rw [size_alloc] at this
    exact this
  have f : ∀ i, ((W.alloc (.cells #[x0, x1, x2] 80)).alloc (.cells #[y0, y1, y2] 80)).cell? ⟨W.heap.size, i, none⟩ = #[x0, x1, x2][i]? := fun i =>
    (cell_alloc1 (W.alloc (.cells #[x0, x1, x2] 80)) W.heap.size (by rw [size_alloc]; omega) i _).trans (cell_new1 W _ _ i)
  have q := cell_alloc2 W ob hob
  refine ⟨(q 0 _ _).trans h0, (q 1 _ _).trans h1, (q 2 _ _).trans h2, f 0, f 1, f 2, e 0, e 1, e 2, ?_⟩
  rw [size_alloc, size_alloc]

set_option maxHeartbeats 1000000 in
set_option maxRecDepth 100000 in
theorem cmp_calls (W : World) (ob : Nat) (o : Ord) (ho : Six o) (x y : R3) (h0 : W.cell? ⟨ob, 0, none⟩ = some (.int .i64 o.x)) (h1 : W.cell? ⟨ob, 1, none⟩ = some (.int .i64 o.y)) (h2 : W.cell? ⟨ob, 2, none⟩ = some (.int .i64 o.z)) (hob : ob < W.heap.size) :
    Calls Tryz.prog 81 #[.agg #[.int .i64 x.a, .int .i64 x.b, .int .i64 x.c], .agg #[.int .i64 y.a, .int .i64 y.b, .int .i64 y.c], .pointer (some ⟨ob, 0, none⟩)] W fun e w' =>
      e = .returned (.int .i64 (cmpR o x y)) ∧ ∃ o1 o2 o3, w' = (((W.alloc o1).alloc o2).alloc o3).drew := by
  have CC := fun (a b : Int) (w : World) => Tryz.cmp_Compare_int a b w
  have q := cell_alloc2 W ob hob
  obtain ⟨ox, oy, oz⟩ := o
  obtain ⟨xa, xb, xc⟩ := x
  obtain ⟨ya, yb, yc⟩ := y
  rcases ho with ⟨rfl, rfl, rfl⟩ | ⟨rfl, rfl, rfl⟩ | ⟨rfl, rfl, rfl⟩ | ⟨rfl, rfl, rfl⟩ | ⟨rfl, rfl, rfl⟩ | ⟨rfl, rfl, rfl⟩
  all_goals
    go_enter Tryz.func81, Tryz.ntmps81
    go_wp2
    generalize hW1 : (W.alloc (.cells #[.int .i64 xa, .int .i64 xb, .int .i64 xc] 80)).alloc (.cells #[.int .i64 ya, .int .i64 yb, .int .i64 yc] 80) = W1
    obtain ⟨c0, c1, c2, a0, a1, a2, b0, b1, b2, hs⟩ := boxes W ob _ _ _ _ _ _ _ _ _ h0 h1 h2 hob W1 hW1
    have H1 := Lib.hid hW1
    clear hW1 q h0 h1 h2
    refine wp_region_still_tail 27 mixed (by kernel_rfl) ?_
    change wpStill _ _ W1.drew _ _ _
    simp only [List.take_succ_cons, List.take_zero, List.drop_succ_cons, List.drop_zero]
    generalize hW2 : W1.drew = W2 at *
    have H2 := Lib.hid hW2
    clear hW2
    repeat (first | still_call (CC _ _ _) | still_step)
    refine wpStill_nil ?_
    go_wp2_with (go_at_call 56; refine (or3 W1 _ _ hs _ _ _).mono ?_; rintro e w' ⟨rfl, rfl⟩)
    go_ret
    exact ⟨rfl, _, _, _, by rw [← H1.out]⟩
end Go.Proofs.YtcnffgcegimelaaGreat.Pw
end
section
/-
  The sort of rows by an order: what the library's sort leaves in memory. Conditions: the rows' cells lie as told; the order's block lies apart.
-/
namespace Go.Proofs.YtcnffgcegimelaaGreat.Pw
open Go.RowKit Go.Proofs.YtcnffgcegimelaaGreatW.PrintWords Go.Proofs.YtcnffgcegimelaaGreat.Pm
open Go.Sort (HoldsK putRowK flatK size_flatK get_flatK holdsK_grow holdsK_ahead holdsK_putRowK cell?_putRowK_other)

/-- Rows in memory, that may be written. -/
def RowsIn (w : World) (b off : Nat) (l : List R3) : Prop := ∀ k i, k < l.length → i < 3 → w.cell? ⟨b, off + k * 3 + i, none⟩ = some (.int .i64 ((l.getD k r0).at i)) ∧ w.frozen? ⟨b, off + k * 3 + i, none⟩ = false

instance : Inhabited R3 := ⟨r0⟩

theorem compareInt_lt (x y : Int) : Lib.compareInt x y < 0 ↔ x < y := by unfold Lib.compareInt; repeat' split <;> omega
theorem compareInt_zero (x y : Int) : Lib.compareInt x y = 0 ↔ x = y := by unfold Lib.compareInt; repeat' split <;> omega

/-- A row ahead of another one. -/
def ltR (o : Ord) (x y : R3) : Prop := x.at o.x < y.at o.x ∨ (x.at o.x = y.at o.x ∧ (x.at o.y < y.at o.y ∨ (x.at o.y = y.at o.y ∧ x.at o.z < y.at o.z)))
instance (o : Ord) (x y : R3) : Decidable (ltR o x y) := by unfold ltR; infer_instance
theorem ltOf_ltR (o : Ord) (x y : R3) : ltOf (cmpR o) x y = decide (ltR o x y) := by
  unfold ltOf
  refine decide_eq_decide.2 ?_
  unfold cmpR ltR
  have h1 := compareInt_zero (x.at o.x) (y.at o.x)
  have h2 := compareInt_zero (x.at o.y) (y.at o.y)
  have l1 := compareInt_lt (x.at o.x) (y.at o.x)
  have l2 := compareInt_lt (x.at o.y) (y.at o.y)
  have l3 := compareInt_lt (x.at o.z) (y.at o.z)
  simp only [orL]
  repeat' split
  all_goals omega

theorem swoR (o : Ord) : Sort.SWO (ltOf (cmpR o)) where
  irrefl x := by rw [ltOf_ltR]; exact decide_eq_false (by unfold ltR; omega)
  trans x y z h1 h2 := by
    rw [ltOf_ltR] at *
    have h1 := of_decide_eq_true h1
    have h2 := of_decide_eq_true h2
    unfold ltR at h1 h2
    exact decide_eq_true (by unfold ltR; omega)
  ntrans x y z h1 h2 := by
    rw [ltOf_ltR] at *
    have h1 := of_decide_eq_false h1
    have h2 := of_decide_eq_false h2
    unfold ltR at h1 h2
    exact decide_eq_false (by unfold ltR; omega)

theorem at_six (o : Ord) (ho : Six o) (x y : R3) (h : x.at o.x = y.at o.x ∧ x.at o.y = y.at o.y ∧ x.at o.z = y.at o.z) : x = y := by
  obtain ⟨xa, xb, xc⟩ := x
  obtain ⟨ya, yb, yc⟩ := y
  obtain ⟨h1, h2, h3⟩ := h
  rcases ho with ⟨e1, e2, e3⟩ | ⟨e1, e2, e3⟩ | ⟨e1, e2, e3⟩ | ⟨e1, e2, e3⟩ | ⟨e1, e2, e3⟩ | ⟨e1, e2, e3⟩ <;>
    (rw [e1] at h1; rw [e2] at h2; rw [e3] at h3; simp [R3.at] at h1 h2 h3; simp [h1, h2, h3])

theorem totR (o : Ord) (ho : Six o) (x y : R3) (h1 : ltOf (cmpR o) x y = false) (h2 : ltOf (cmpR o) y x = false) : x = y := by
  rw [ltOf_ltR] at *
  have h1 := of_decide_eq_false h1
  have h2 := of_decide_eq_false h2
  unfold ltR at h1 h2
  exact at_six o ho x y (by omega)

/-- Sorted by an order. -/
def srt (o : Ord) (l : List R3) : List R3 := l.mergeSort fun x y => !(ltOf (cmpR o)) y x
theorem srt_perm (o : Ord) (l : List R3) : (srt o l).Perm l := List.mergeSort_perm _ _
theorem srt_length (o : Ord) (l : List R3) : (srt o l).length = l.length := (srt_perm o l).length_eq

theorem enc3_get (r : R3) (i : Nat) (hi : i < 3) : (enc3 r)[i]! = .int .i64 (r.at i) := by
  match i, hi with
  | 0, _ => rfl
  | 1, _ => rfl
  | 2, _ => rfl
theorem get_list (l : List R3) (k : Nat) (hk : k < l.length) : l.toArray[k]! = l.getD k r0 := by
  rw [getElem!_pos _ k (by simpa using hk), List.getD_eq_getElem?_getD, List.getElem?_eq_getElem hk]
  simp

theorem rows_holds {w : World} {b off : Nat} {l : List R3} (h : RowsIn w b off l) : HoldsK enc3 3 w b off l.toArray := by
  intro j hj
  rw [size_flatK] at hj
  rw [get_flatK enc3 3 l.toArray j hj]
  have hs : l.toArray.size = l.length := by simp
  have hk : j / 3 < l.length := by omega
  have hm : j % 3 < 3 := Nat.mod_lt _ (by omega)
  rw [get_list l _ hk, enc3_get _ _ hm, show off + j = off + j / 3 * 3 + j % 3 by omega]
  exact h _ _ hk hm
theorem holds_rows {w : World} {b off : Nat} {l : List R3} (h : HoldsK enc3 3 w b off l.toArray) : RowsIn w b off l := by
  intro k i hk hi
  have hs : l.toArray.size = l.length := by simp
  have := h.cell (i := k) (c := i) (by omega) hi
  rwa [get_list l k hk, enc3_get _ _ hi] at this

/-- What the sort leaves: the row put anew, some draws, new blocks. -/
theorem sortWorld_facts (w : World) (blk off : Nat) (l l' : List R3) (hH : RowsIn w blk off l) (hl : l'.length = l.length) (hblk : blk < w.heap.size) (n : Nat) (os : Array Obj) :
    RowsIn (sortWorldK enc3 3 w blk off n l'.toArray os) blk off l' ∧ w.grownBy (sortWorldK enc3 3 w blk off n l'.toArray os) (some blk) := by
  have hs : (putRowK enc3 3 (Sort.ahead w n) blk off l'.toArray).heap.size = w.heap.size := by
    unfold putRowK
    rw [Sort.size_putRow]
    rfl
  refine ⟨holds_rows ?_, ?_⟩
  · unfold sortWorldK
    refine holdsK_grow _ _ _ _ _ _ _ (by rw [hs]; exact hblk) ?_
    exact holdsK_putRowK _ _ _ _ _ l.toArray _ (holdsK_ahead _ _ _ _ _ _ _ (rows_holds hH)) (by simp [hl])
  · refine ⟨rfl, rfl, rfl, ?_, fun k hk hne => ?_⟩
    · unfold sortWorldK
      show w.heap.size ≤ ((putRowK enc3 3 (Sort.ahead w n) blk off l'.toArray).heap ++ os).size
      rw [Array.size_append, hs]
      omega
    · unfold sortWorldK
      rw [Sort.heap_grow_old _ _ (by rw [hs]; exact hk)]
      unfold putRowK Sort.putRow Sort.mapBlock
      show ((Sort.ahead w n).heap.modify blk _)[k]? = _
      rw [Array.getElem?_modify, if_neg (fun e => hne (by rw [e]))]
      rfl

theorem cmpLays (ob blk off size : Nat) (o : Ord) (ho : Six o) (w : World) (h0 : w.cell? ⟨ob, 0, none⟩ = some (.int .i64 o.x)) (h1 : w.cell? ⟨ob, 1, none⟩ = some (.int .i64 o.y)) (h2 : w.cell? ⟨ob, 2, none⟩ = some (.int .i64 o.z)) (hob : ob < w.heap.size) (hne : ob ≠ blk) :
    CmpLays Tryz.prog 81 #[.pointer (some ⟨ob, 0, none⟩)] enc3 3 (cmpR o) blk off size w := by
  intro m os dk _ x y
  have hc : ∀ i, (sortWorldK enc3 3 w blk off m dk os).cell? ⟨ob, i, none⟩ = w.cell? ⟨ob, i, none⟩ := fun i => by
    unfold sortWorldK
    rw [Sort.cell?_grow _ _ _ (by unfold putRowK; rw [Sort.size_putRow]; exact hob), cell?_putRowK_other _ _ _ _ _ _ _ hne]
    rfl
  have hsz : ob < (sortWorldK enc3 3 w blk off m dk os).heap.size := by
    unfold sortWorldK
    show ob < ((putRowK enc3 3 (Sort.ahead w m) blk off dk).heap ++ os).size
    rw [Array.size_append]
    have : (putRowK enc3 3 (Sort.ahead w m) blk off dk).heap.size = w.heap.size := by unfold putRowK; rw [Sort.size_putRow]; rfl
    omega
  refine (cmp_calls (sortWorldK enc3 3 w blk off m dk os) ob o ho x y ((hc 0).trans h0) ((hc 1).trans h1) ((hc 2).trans h2) hsz).mono fun e w' ⟨he, o1, o2, o3, hw⟩ => ⟨he, 1, #[o1, o2, o3], ?_⟩
  rw [hw, Sort.alloc_eq_grow, Sort.alloc_eq_grow, Sort.alloc_eq_grow, Sort.grow_grow, Sort.grow_grow]
  rfl

theorem isAgg23 : ∀ w, (isAgg 80).run Tryz.prog w = .ok true w := Tryz.isAgg80
theorem sizeOf23 : ∀ w, (Go.sizeOf 80).run Tryz.prog w = .ok 3 w := Tryz.sizeOf80

/-- **The sort of rows.** -/
theorem sort_calls (w : World) (blk off cap ob : Nat) (l : List R3) (o : Ord) (ho : Six o) (hH : RowsIn w blk off l) (hblk : blk < w.heap.size) (hl : l.length < 4611686018427387904)
    (h0 : w.cell? ⟨ob, 0, none⟩ = some (.int .i64 o.x)) (h1 : w.cell? ⟨ob, 1, none⟩ = some (.int .i64 o.y)) (h2 : w.cell? ⟨ob, 2, none⟩ = some (.int .i64 o.z)) (hob : ob < w.heap.size) (hne : ob ≠ blk) :
    Calls Tryz.prog 80 #[.slice (some ⟨blk, off, none⟩) l.length cap, .func (.func 81) #[] #[.pointer (some ⟨ob, 0, none⟩)]] w fun e w' => e = .returned (.tuple #[]) ∧ RowsIn w' blk off (srt o l) ∧ w.grownBy w' (some blk) := by
  have e32 : ∀ args w, (callFunc 81 args).run Tryz.prog w = .ok (.enter 81 args) w := enters_of Tryz.func81 (by kernel_rfl) rfl
  have h := AnyQ.slices_SortFunc_total Tryz.laysSlF06_f31 3 isAgg23 sizeOf23 enc3 (fun _ => rfl) (fun x v hv => by simp [enc3] at hv; rcases hv with rfl | rfl | rfl <;> rfl) (cmpR o) (swoR o) 81 #[.pointer (some ⟨ob, 0, none⟩)] blk off cap l.toArray w e32
    (cmpLays ob blk off _ o ho w h0 h1 h2 hob hne) (rows_holds hH) hblk (by simpa using hl) (totR o ho)
  have hs : l.toArray.size = l.length := by simp
  rw [hs] at h
  refine Calls.mono h fun e w' ⟨he, n, os, hw⟩ => ⟨he, ?_⟩
  rw [hw]
  exact sortWorld_facts w blk off l (srt o l) hH (srt_length o l) hblk n os
end Go.Proofs.YtcnffgcegimelaaGreat.Pw
end
