/-
  Joined by wip/tools/merge.py from the texts Shelf Pa0 Pa1 Pa2. Conditions: as each says.
-/
import Derived.Shelf.Small.Wraps
import Derived.Shelf.Sort.Plain
import Derived.Ground.SlgnProg
import Derived.Shelf.SlicesE.Clone
import Derived.Ground.SlsfProg
import Derived.Shelf.SlSortCmp.WholeK
import Derived.Test.YtejinhnmabnomaaProg
import Derived.Test.YtejinhnmabnomaaJ2
import Derived.StillTailTactics
import Derived.Shelf.SlSortCmp.NoneTotal
section
/-
  The shelf's contracts at this dump, in plain words: those that the proofs of this seat use (written by the shelf's lay-shelf and lay-plain, picked by shelf_pick.py). Conditions: as each says.
-/
namespace Go.Proofs
open Go.Shelf
def Try.lays122_ren : Go.Shelf.Ren := ⟨fun | 122 => 42 | 215 => 58 | n => n, fun | 3 => 3 | 4 => 4 | n => n, fun | n => n⟩
theorem Try.lays122 : Go.Proofs.Lays.n122 Try.prog Try.lays122_ren := {
  mixed := by kernel_rfl
  f122 := Try.func42.trans (congrArg some (by kernel_rfl))
  f215 := Try.func58.trans (congrArg some (by kernel_rfl))
  t3 := Try.underlying3
  a3 := Try.isAgg3
  z3 := Try.sizeOf3
  v3 := Try.zeroValue3
  t4 := Try.underlying4
  a4 := Try.isAgg4
  z4 := Try.sizeOf4
  v4 := Try.zeroValue4 }
open Go.RowKit in
/-- cmp.Compare at int: "Compare returns -1 if x is less than y, 0 if x equals y, +1 if x is greater than y.": IT RETURNS 'Lib.compareInt x y'; the world is as it was. (LAID: no walk: one application.) -/
theorem Try.cmp_Compare_int (x y : Int) (w : World) :
    Calls Try.prog 42 #[.int .i64 x, .int .i64 y] w fun e w' => e = .returned (.int .i64 (Lib.compareInt x y)) ∧ w' = w := Any.cmp_Compare_int Try.lays122 x y w
def Try.lays189_ren : Go.Shelf.Ren := ⟨fun | 189 => 37 | 125 => 56 | 257 => 55 | 128 => 71 | 129 => 72 | 294 => 62 | 295 => 63 | 296 => 64 | 297 => 65 | 298 => 66 | 299 => 67 | 216 => 68 | 300 => 69 | 301 => 70 | 328 => 81 | 329 => 82 | 330 => 83 | 331 => 84 | 332 => 85 | 215 => 58 | 343 => 89 | n => n, fun | 28 => 23 | 3 => 3 | 46 => 40 | 0 => 0 | 51 => 109 | 53 => 111 | 4 => 4 | 183 => 102 | 182 => 101 | 131 => 73 | 5 => 5 | 9 => 9 | 218 => 117 | 222 => 121 | 228 => 125 | 229 => 126 | n => n, fun | n => n⟩
theorem Try.lays189 : Go.Proofs.Lays.n189 Try.prog Try.lays189_ren := {
  mixed := by kernel_rfl
  f125 := Try.func56.trans (congrArg some (by kernel_rfl))
  f128 := Try.func71.trans (congrArg some (by kernel_rfl))
  f129 := Try.func72.trans (congrArg some (by kernel_rfl))
  f189 := Try.func37.trans (congrArg some (by kernel_rfl))
  f215 := Try.func58.trans (congrArg some (by kernel_rfl))
  f216 := Try.func68.trans (congrArg some (by kernel_rfl))
  f257 := Try.func55.trans (congrArg some (by kernel_rfl))
  f294 := Try.func62.trans (congrArg some (by kernel_rfl))
  f295 := Try.func63.trans (congrArg some (by kernel_rfl))
  f296 := Try.func64.trans (congrArg some (by kernel_rfl))
  f297 := Try.func65.trans (congrArg some (by kernel_rfl))
  f298 := Try.func66.trans (congrArg some (by kernel_rfl))
  f299 := Try.func67.trans (congrArg some (by kernel_rfl))
  f300 := Try.func69.trans (congrArg some (by kernel_rfl))
  f301 := Try.func70.trans (congrArg some (by kernel_rfl))
  f328 := Try.func81.trans (congrArg some (by kernel_rfl))
  f329 := Try.func82.trans (congrArg some (by kernel_rfl))
  f330 := Try.func83.trans (congrArg some (by kernel_rfl))
  f331 := Try.func84.trans (congrArg some (by kernel_rfl))
  f332 := Try.func85.trans (congrArg some (by kernel_rfl))
  f343 := Try.func89.trans (congrArg some (by kernel_rfl))
  t0 := Try.underlying0
  a0 := Try.isAgg0
  z0 := Try.sizeOf0
  v0 := Try.zeroValue0
  t3 := Try.underlying3
  a3 := Try.isAgg3
  z3 := Try.sizeOf3
  v3 := Try.zeroValue3
  t4 := Try.underlying4
  a4 := Try.isAgg4
  z4 := Try.sizeOf4
  v4 := Try.zeroValue4
  t5 := Try.underlying5
  a5 := Try.isAgg5
  z5 := Try.sizeOf5
  v5 := Try.zeroValue5
  t9 := Try.underlying9
  a9 := Try.isAgg9
  z9 := Try.sizeOf9
  v9 := Try.zeroValue9
  t28 := Try.underlying23
  a28 := Try.isAgg23
  z28 := Try.sizeOf23
  v28 := Try.zeroValue23
  t46 := Try.underlying40
  a46 := Try.isAgg40
  z46 := Try.sizeOf40
  v46 := Try.zeroValue40
  t51 := Try.underlying109
  a51 := Try.isAgg109
  z51 := Try.sizeOf109
  v51 := Try.zeroValue109
  t53 := Try.underlying111
  a53 := Try.isAgg111
  z53 := Try.sizeOf111
  v53 := Try.zeroValue111
  t131 := Try.underlying73
  a131 := Try.isAgg73
  z131 := Try.sizeOf73
  v131 := Try.zeroValue73
  t182 := Try.underlying101
  a182 := Try.isAgg101
  z182 := Try.sizeOf101
  v182 := Try.zeroValue101
  t183 := Try.underlying102
  a183 := Try.isAgg102
  z183 := Try.sizeOf102
  v183 := Try.zeroValue102
  t218 := Try.underlying117
  a218 := Try.isAgg117
  z218 := Try.sizeOf117
  v218 := Try.zeroValue117
  t222 := Try.underlying121
  a222 := Try.isAgg121
  z222 := Try.sizeOf121
  v222 := Try.zeroValue121
  t228 := Try.underlying125
  a228 := Try.isAgg125
  z228 := Try.sizeOf125
  v228 := Try.zeroValue125
  t229 := Try.underlying126
  a229 := Try.isAgg126
  z229 := Try.sizeOf126
  v229 := Try.zeroValue126 }
open Go.Sort Go.RowKit in
theorem Try.slices_Sort_int (blk off cap : Nat) (zs : List Int) (w : World) (hH : Holds (Value.int .i64) w blk off zs.toArray) (hblk : blk < w.heap.size) (hsz : zs.length < 4611686018427387904) :
    Calls Try.prog 37 #[.slice (some ⟨blk, off, none⟩) zs.length cap] w fun e w' =>
      e = .returned (.tuple #[]) ∧ ∃ n os, w' = grow (putRow (Value.int .i64) (Sort.ahead w n) blk off (zs.mergeSort fun x y => decide (x ≤ y)).toArray) os := Any.slices_Sort_int Try.lays189 blk off cap zs w hH hblk hsz
def Try.laysSlE041_f30_ren : Go.Shelf.Ren := ⟨fun | 41 => 38 | n => n, fun | 22 => 64 | 23 => 65 | 4 => 4 | n => n, fun | n => n⟩
theorem Try.laysSlE041_f30 : Go.Proofs.SlLaysE0.n41 Try.prog Try.laysSlE041_f30_ren := {
  mixed := by kernel_rfl
  f41 := ⟨Try.f38.name, by decide, Try.func38.trans (congrArg some (by kernel_rfl))⟩
  t4 := Try.underlying4
  a4 := Try.isAgg4
  z4 := Try.sizeOf4
  v4 := Try.zeroValue4
  t22 := Try.underlying64
  a22 := Try.isAgg64
  z22 := Try.sizeOf64
  v22 := Try.zeroValue64 }
open Go.RowKit Go.Lib in
/-- slices.Clone: "Clone returns a copy of the slice. The elements are copied using assignment, so this is a shallow clone. The result may have additional unused capacity. The result preserves the nilness of s.": OF A SLICE THAT IS NOT nil IT RETURNS A SLICE THAT IS NOT nil, OF THE SAME CELLS, IN MEMORY OF THE CALL's OWN ('ownsRow': the how-to's 6f); below the heap's size at the call all is as it was. (LAID AT THE INSTANCE 'slices.Clone[[][3]int,[3]int]': no walk: one application.) -/
theorem Try.slices_Clone (i0 : TypeInfo) (z : Value) (size bytes : Nat) (hi : Try.prog.info? 65 = some i0) (hz0 : i0.zero = some z) (hz1 : i0.size = size) (hz2 : i0.bytes = bytes) (hzs : z.cells.size = size) (hsz : 0 < size) (z23 : ∀ w, (Go.sizeOf 65).run Try.prog w = .ok size w) (b off n c : Nat) (news : List Value) (w : World) (hl : news.length = n * size) (hn : n ≤ maxLen) (hbig : n * bytes ≤ 140737488355328) (hc : ∀ j u, news[j]? = some u → w.cell? ⟨b, off + j, none⟩ = some u) (h1 : ∀ u ∈ news, u.oneCell' = true) :
    Calls Try.prog 38 #[.slice (some ⟨b, off, none⟩) n c] w fun e w' => ∃ v', e = .returned v' ∧ w'.ownsRow w.heap.size 65 size v' n news ∧ v' ≠ .slice none 0 0 ∧ Below w.heap.size w w' := AnyE.slices_Clone Try.laysSlE041_f30 i0 z size bytes hi hz0 hz1 hz2 hzs hsz z23 b off n c news w hl hn hbig hc h1
open Go.RowKit Go.Lib in
/-- The same at nil: nil comes back; the world is as it was; nothing is asked of the element's type. (LAID AT THE INSTANCE 'slices.Clone[[][3]int,[3]int]': no walk: one application.) -/
theorem Try.slices_Clone_nil (n c : Nat) (w : World) :
    Calls Try.prog 38 #[.slice none n c] w fun e w' => e = .returned (.slice none 0 0) ∧ w' = w := AnyE.slices_Clone_nil Try.laysSlE041_f30 n c w
def Try.laysSlF06_f31_ren : Go.Shelf.Ren := ⟨fun | 6 => 39 | 15 => 56 | 14 => 57 | 28 => 71 | 29 => 72 | 20 => 73 | 21 => 74 | 22 => 75 | 23 => 76 | 24 => 77 | 25 => 78 | 26 => 79 | 27 => 80 | 46 => 86 | 47 => 82 | 48 => 83 | 49 => 87 | 50 => 88 | 57 => 90 | n => n, fun | 22 => 64 | 24 => 65 | 25 => 83 | 3 => 3 | 39 => 40 | 0 => 0 | 53 => 109 | 55 => 111 | 4 => 4 | 46 => 102 | 45 => 101 | 50 => 73 | 5 => 5 | 9 => 9 | 66 => 117 | 70 => 121 | 76 => 125 | 77 => 126 | n => n, fun | n => n⟩
theorem Try.laysSlF06_f31 : Go.Proofs.SlLaysF0.n6 Try.prog Try.laysSlF06_f31_ren := {
  mixed := by kernel_rfl
  f6 := ⟨Try.f39.name, by decide, Try.func39.trans (congrArg some (by kernel_rfl))⟩
  f14 := ⟨Try.f57.name, by decide, Try.func57.trans (congrArg some (by kernel_rfl))⟩
  f15 := Try.func56.trans (congrArg some (by kernel_rfl))
  f20 := ⟨Try.f73.name, by decide, Try.func73.trans (congrArg some (by kernel_rfl))⟩
  f21 := ⟨Try.f74.name, by decide, Try.func74.trans (congrArg some (by kernel_rfl))⟩
  f22 := ⟨Try.f75.name, by decide, Try.func75.trans (congrArg some (by kernel_rfl))⟩
  f23 := ⟨Try.f76.name, by decide, Try.func76.trans (congrArg some (by kernel_rfl))⟩
  f24 := ⟨Try.f77.name, by decide, Try.func77.trans (congrArg some (by kernel_rfl))⟩
  f25 := ⟨Try.f78.name, by decide, Try.func78.trans (congrArg some (by kernel_rfl))⟩
  f26 := ⟨Try.f79.name, by decide, Try.func79.trans (congrArg some (by kernel_rfl))⟩
  f27 := ⟨Try.f80.name, by decide, Try.func80.trans (congrArg some (by kernel_rfl))⟩
  f28 := Try.func71.trans (congrArg some (by kernel_rfl))
  f29 := Try.func72.trans (congrArg some (by kernel_rfl))
  f46 := ⟨Try.f86.name, by decide, Try.func86.trans (congrArg some (by kernel_rfl))⟩
  f47 := Try.func82.trans (congrArg some (by kernel_rfl))
  f48 := Try.func83.trans (congrArg some (by kernel_rfl))
  f49 := ⟨Try.f87.name, by decide, Try.func87.trans (congrArg some (by kernel_rfl))⟩
  f50 := ⟨Try.f88.name, by decide, Try.func88.trans (congrArg some (by kernel_rfl))⟩
  f57 := ⟨Try.f90.name, by decide, Try.func90.trans (congrArg some (by kernel_rfl))⟩
  t0 := Try.underlying0
  a0 := Try.isAgg0
  z0 := Try.sizeOf0
  v0 := Try.zeroValue0
  t3 := Try.underlying3
  a3 := Try.isAgg3
  z3 := Try.sizeOf3
  v3 := Try.zeroValue3
  t4 := Try.underlying4
  a4 := Try.isAgg4
  z4 := Try.sizeOf4
  v4 := Try.zeroValue4
  t5 := Try.underlying5
  a5 := Try.isAgg5
  z5 := Try.sizeOf5
  v5 := Try.zeroValue5
  t9 := Try.underlying9
  a9 := Try.isAgg9
  z9 := Try.sizeOf9
  v9 := Try.zeroValue9
  t22 := Try.underlying64
  a22 := Try.isAgg64
  z22 := Try.sizeOf64
  v22 := Try.zeroValue64
  t25 := Try.underlying83
  a25 := Try.isAgg83
  z25 := Try.sizeOf83
  v25 := Try.zeroValue83
  t39 := Try.underlying40
  a39 := Try.isAgg40
  z39 := Try.sizeOf40
  v39 := Try.zeroValue40
  t45 := Try.underlying101
  a45 := Try.isAgg101
  z45 := Try.sizeOf101
  v45 := Try.zeroValue101
  t46 := Try.underlying102
  a46 := Try.isAgg102
  z46 := Try.sizeOf102
  v46 := Try.zeroValue102
  t50 := Try.underlying73
  a50 := Try.isAgg73
  z50 := Try.sizeOf73
  v50 := Try.zeroValue73
  t53 := Try.underlying109
  a53 := Try.isAgg109
  z53 := Try.sizeOf109
  v53 := Try.zeroValue109
  t55 := Try.underlying111
  a55 := Try.isAgg111
  z55 := Try.sizeOf111
  v55 := Try.zeroValue111
  t66 := Try.underlying117
  a66 := Try.isAgg117
  z66 := Try.sizeOf117
  v66 := Try.zeroValue117
  t70 := Try.underlying121
  a70 := Try.isAgg121
  z70 := Try.sizeOf121
  v70 := Try.zeroValue121
  t76 := Try.underlying125
  a76 := Try.isAgg125
  z76 := Try.sizeOf125
  v76 := Try.zeroValue125
  t77 := Try.underlying126
  a77 := Try.isAgg126
  z77 := Try.sizeOf126
  v77 := Try.zeroValue126 }
open Go.RowKit Go.Lib Go.Sort in
/-- **slices.SortFunc, IN THE DOCUMENTATION's OWN TERMS: A PERMUTATION OF WHAT THE ROW HELD, SORTED BY 'cmp(a, b) < 0'.** Which of two equals comes first is left open ("The sort is not guaranteed to be stable"). (LAID AT THE INSTANCE 'slices.SortFunc[[][3]int,[3]int]': no walk: one application.) -/
theorem Try.slices_SortFunc {α : Type} [Inhabited α] (k : Nat) (aE : ∀ w, (isAgg 65).run Try.prog w = .ok true w) (zE : ∀ w, (Go.sizeOf 65).run Try.prog w = .ok k w) (enc : α → List Value) (hk : ∀ x, (enc x).length = k) (h1 : ∀ x, ∀ v ∈ enc x, v.oneCell' = true) (cf : α → α → Int) (hO : SWO (ltOf cf)) (g : Nat) (cb : Array Value) (blk off cap : Nat) (d : Array α) (w : World) (eg : ∀ args w, (callFunc g args).run Try.prog w = .ok (.enter g args) w) (hcmp : CmpLays Try.prog g cb enc k cf blk off d.size w) (hH : HoldsK enc k w blk off d) (hblk : blk < w.heap.size) (hsz : d.size < 4611686018427387904) :
    Calls Try.prog 39 #[.slice (some ⟨blk, off, none⟩) d.size cap, .func (.func g) #[] cb] w fun e w' =>
      e = .returned (.tuple #[]) ∧ ∃ d' n os, PermIn 0 d.size d d' ∧ SortedIn (ltOf cf) 0 d.size d' ∧ w' = sortWorldK enc k w blk off n d' os := AnyQ.slices_SortFunc Try.laysSlF06_f31 k aE zE enc hk h1 cf hO g cb blk off cap d w eg hcmp hH hblk hsz
end Go.Proofs
end
section
/-
  cmp.Or of numbers, and the comparison of two rows by an order that the program hands to the sort. Conditions: the blocks lie as told; the order is one of the six.
-/
namespace Go.Proofs.Ytejinhnmabnomaa.Pw
open Go.RowKit Go.Proofs.YtejinhnmabnomaaW.PrintWords Go.Proofs.Ytejinhnmabnomaa.Pm

/-- The first that is not zero. -/
def orL : List Int → Int
  | [] => 0
  | x :: l => if x = 0 then orL l else x
theorem orL_zeros : ∀ l : List Int, (∀ x ∈ l, x = 0) → orL l = 0
  | [], _ => rfl
  | x :: l, h => by
    simp only [orL]
    rw [if_pos (h x (by simp))]
    exact orL_zeros l (fun y hy => h y (by simp [hy]))
theorem orL_at : ∀ (l : List Int) (k : Nat), k < l.length → (∀ j, j < k → l.getD j 0 = 0) → l.getD k 0 ≠ 0 → orL l = l.getD k 0
  | x :: l, 0, _, _, h => by
    simp only [orL]
    rw [if_neg (by simpa using h)]
    simp
  | x :: l, k + 1, hk, hz, h => by
    simp only [orL]
    rw [if_pos (by simpa using hz 0 (by omega))]
    have := orL_at l k (by simpa using hk) (fun j hj => by simpa using hz (j + 1) (by omega)) (by simpa using h)
    rw [this]; simp

set_option maxHeartbeats 1000000 in
theorem or_calls (w : World) (b c : Nat) (l : List Int) (hl : l.length ≤ 100) (hc : ∀ i, i < l.length → w.cell? ⟨b, i, none⟩ = some (.int .i64 (l.getD i 0))) :
    Calls Try.prog 41 #[.slice (some ⟨b, 0, none⟩) l.length c] w fun e w' => e = .returned (.int .i64 (orL l)) ∧ w' = w := by
  have HC := Lib.hid hc
  clear hc
  go_enter Try.func41, Try.ntmps41
  go_wp2
  go_loop [8] (fun i => ∃ k : Nat, k ≤ l.length ∧ i = .int .i64 k ∧ Hid (∀ j, j < k → l.getD j 0 = 0)) (fun i => l.length - (intOf i).toNat)
  case atStart => exact ⟨0, Nat.zero_le _, rfl, Lib.hid (fun j hj => by omega)⟩
  case round =>
    obtain ⟨k, hk, rfl, Z⟩ := hrel
    by_cases hlt : k < l.length
    · have hcell := HC.out k hlt
      by_cases hz : l.getD k 0 = 0
      · rw [hz] at hcell
        have HZ := Lib.hid hz
        clear hz
        go_wp2
        go_round
        case rel => exact ⟨k + 1, by omega, by go_num, Lib.hid (fun j hj => by
          by_cases hjk : j < k
          · exact Z.out j hjk
          · rw [show j = k by omega]; exact HZ.out)⟩
        case measure => simp [intOf]; omega
      · have hor := orL_at l k hlt Z.out hz
        have HO := Lib.hid hor
        have hz1 : (l.getD k 0 == 0) = false := beq_eq_false_iff_ne.2 hz
        have hz2 : (l.getD k 0 != 0) = true := by rw [bne_iff_ne]; exact hz
        clear hor hz
        generalize hv : l.getD k 0 = v at hcell hz1 hz2 HO
        clear hv
        go_wp2
        go_ret
        exact ⟨by rw [HO.out]; rfl, rfl⟩
    · have hor : orL l = 0 := orL_zeros l (fun x hx => by
        obtain ⟨j, hj, rfl⟩ := List.getElem_of_mem hx
        have := Z.out j (by omega)
        rwa [List.getD_eq_getElem?_getD, List.getElem?_eq_getElem hj] at this)
      have HO := Lib.hid hor
      clear hor
      go_wp2
      go_ret
      exact ⟨by rw [HO.out]; rfl, rfl⟩
end Go.Proofs.Ytejinhnmabnomaa.Pw
end
section
/-
  The comparison of two rows by an order that the program hands to the sort. Conditions: the order's block lies as told; the order is one of the six.
-/
namespace Go.Proofs.Ytejinhnmabnomaa.Pw
open Go.RowKit Go.Proofs.YtejinhnmabnomaaW.PrintWords Go.Proofs.Ytejinhnmabnomaa.Pm

/-- A row's cells. -/
def enc3 (r : R3) : List Value := [.int .i64 r.a, .int .i64 r.b, .int .i64 r.c]
/-- Two rows, by an order. -/
def cmpR (o : Ord) (x y : R3) : Int := orL [Lib.compareInt (x.at o.x) (y.at o.x), Lib.compareInt (x.at o.y) (y.at o.y), Lib.compareInt (x.at o.z) (y.at o.z)]
/-- One of the six. -/
def Six (o : Ord) : Prop := (o.x = 0 ∧ o.y = 1 ∧ o.z = 2) ∨ (o.x = 1 ∧ o.y = 2 ∧ o.z = 0) ∨ (o.x = 2 ∧ o.y = 0 ∧ o.z = 1) ∨ (o.x = 0 ∧ o.y = 2 ∧ o.z = 1) ∨ (o.x = 1 ∧ o.y = 0 ∧ o.z = 2) ∨ (o.x = 2 ∧ o.y = 1 ∧ o.z = 0)

theorem mixed : Try.prog.follows .mixedOrders = true := by kernel_rfl

theorem or3 (W : World) (s c : Nat) (hs : W.heap.size = s) (a b d : Int) : Calls Try.prog 41 #[.slice (some ⟨s, 0, none⟩) 3 c] (W.alloc (.cells #[.int .i64 a, .int .i64 b, .int .i64 d] 3)).drew fun e w' =>
    e = .returned (.int .i64 (orL [a, b, d])) ∧ w' = (W.alloc (.cells #[.int .i64 a, .int .i64 b, .int .i64 d] 3)).drew :=
  or_calls _ s c [a, b, d] (by simp) (fun i hi => by
    subst hs
    have e : (W.alloc (.cells #[.int .i64 a, .int .i64 b, .int .i64 d] 3)).drew.cell? ⟨W.heap.size, i, none⟩ = #[Value.int .i64 a, .int .i64 b, .int .i64 d][i]? := cell_new1 W _ _ i
    rw [e]
    match i, hi with
    | 0, _ => rfl
    | 1, _ => rfl
    | 2, _ => rfl)

/-- What the two boxes and the order's block hold behind the boxes' making, and one draw. -/
theorem boxes (W : World) (ob : Nat) (v0 v1 v2 x0 x1 x2 y0 y1 y2 : Value) (h0 : W.cell? ⟨ob, 0, none⟩ = some v0) (h1 : W.cell? ⟨ob, 1, none⟩ = some v1) (h2 : W.cell? ⟨ob, 2, none⟩ = some v2) (hob : ob < W.heap.size)
    (W1 : World) (hW : (W.alloc (.cells #[x0, x1, x2] 65)).alloc (.cells #[y0, y1, y2] 65) = W1) :
    W1.drew.cell? ⟨ob, 0, none⟩ = some v0 ∧ W1.drew.cell? ⟨ob, 1, none⟩ = some v1 ∧ W1.drew.cell? ⟨ob, 2, none⟩ = some v2 ∧
    W1.drew.cell? ⟨W.heap.size, 0, none⟩ = some x0 ∧ W1.drew.cell? ⟨W.heap.size, 1, none⟩ = some x1 ∧ W1.drew.cell? ⟨W.heap.size, 2, none⟩ = some x2 ∧
    W1.drew.cell? ⟨W.heap.size + 1, 0, none⟩ = some y0 ∧ W1.drew.cell? ⟨W.heap.size + 1, 1, none⟩ = some y1 ∧ W1.drew.cell? ⟨W.heap.size + 1, 2, none⟩ = some y2 ∧ W1.heap.size = W.heap.size + 1 + 1 := by
  subst hW
  have e : ∀ i, ((W.alloc (.cells #[x0, x1, x2] 65)).alloc (.cells #[y0, y1, y2] 65)).cell? ⟨W.heap.size + 1, i, none⟩ = #[y0, y1, y2][i]? := fun i => by
    have := cell_new1 (W.alloc (.cells #[x0, x1, x2] 65)) #[y0, y1, y2] 65 i
    rw [size_alloc] at this
    exact this
  have f : ∀ i, ((W.alloc (.cells #[x0, x1, x2] 65)).alloc (.cells #[y0, y1, y2] 65)).cell? ⟨W.heap.size, i, none⟩ = #[x0, x1, x2][i]? := fun i =>
    (cell_alloc1 (W.alloc (.cells #[x0, x1, x2] 65)) W.heap.size (by rw [size_alloc]; omega) i _).trans (cell_new1 W _ _ i)
  have q := cell_alloc2 W ob hob
  refine ⟨(q 0 _ _).trans h0, (q 1 _ _).trans h1, (q 2 _ _).trans h2, f 0, f 1, f 2, e 0, e 1, e 2, ?_⟩
  rw [size_alloc, size_alloc]

set_option maxHeartbeats 1000000 in
set_option maxRecDepth 100000 in
theorem cmp_calls (W : World) (ob : Nat) (o : Ord) (ho : Six o) (x y : R3) (h0 : W.cell? ⟨ob, 0, none⟩ = some (.int .i64 o.x)) (h1 : W.cell? ⟨ob, 1, none⟩ = some (.int .i64 o.y)) (h2 : W.cell? ⟨ob, 2, none⟩ = some (.int .i64 o.z)) (hob : ob < W.heap.size) :
    Calls Try.prog 40 #[.agg #[.int .i64 x.a, .int .i64 x.b, .int .i64 x.c], .agg #[.int .i64 y.a, .int .i64 y.b, .int .i64 y.c], .pointer (some ⟨ob, 0, none⟩)] W fun e w' =>
      e = .returned (.int .i64 (cmpR o x y)) ∧ ∃ o1 o2 o3, w' = (((W.alloc o1).alloc o2).alloc o3).drew := by
  have CC := fun (a b : Int) (w : World) => Try.cmp_Compare_int a b w
  have q := cell_alloc2 W ob hob
  obtain ⟨ox, oy, oz⟩ := o
  obtain ⟨xa, xb, xc⟩ := x
  obtain ⟨ya, yb, yc⟩ := y
  rcases ho with ⟨rfl, rfl, rfl⟩ | ⟨rfl, rfl, rfl⟩ | ⟨rfl, rfl, rfl⟩ | ⟨rfl, rfl, rfl⟩ | ⟨rfl, rfl, rfl⟩ | ⟨rfl, rfl, rfl⟩
  all_goals
    go_enter Try.func40, Try.ntmps40
    go_wp2
    generalize hW1 : (W.alloc (.cells #[.int .i64 xa, .int .i64 xb, .int .i64 xc] 65)).alloc (.cells #[.int .i64 ya, .int .i64 yb, .int .i64 yc] 65) = W1
    obtain ⟨c0, c1, c2, a0, a1, a2, b0, b1, b2, hs⟩ := boxes W ob _ _ _ _ _ _ _ _ _ h0 h1 h2 hob W1 hW1
    have H1 := Lib.hid hW1
    clear hW1 q h0 h1 h2
    refine wp_region_still_tail 27 mixed (by kernel_rfl) ?_
    change wpStill _ _ W1.drew _ _ _
    simp only [List.take_succ_cons, List.take_zero, List.drop_succ_cons, List.drop_zero]
    generalize hW2 : W1.drew = W2 at *
    have H2 := Lib.hid hW2
    clear hW2
    repeat (first | still_call (CC _ _ _) | still_step)
    refine wpStill_nil ?_
    go_wp2_with (go_at_call 41; refine (or3 W1 _ _ hs _ _ _).mono ?_; rintro e w' ⟨rfl, rfl⟩)
    go_ret
    exact ⟨rfl, _, _, _, by rw [← H1.out]⟩
end Go.Proofs.Ytejinhnmabnomaa.Pw
end
section
/-
  The sort of rows by an order: what the library's sort leaves in memory. Conditions: the rows' cells lie as told; the order's block lies apart.
-/
namespace Go.Proofs.Ytejinhnmabnomaa.Pw
open Go.RowKit Go.Proofs.YtejinhnmabnomaaW.PrintWords Go.Proofs.Ytejinhnmabnomaa.Pm
open Go.Sort (HoldsK putRowK flatK size_flatK get_flatK holdsK_grow holdsK_ahead holdsK_putRowK cell?_putRowK_other)

/-- Rows in memory, that may be written. -/
def RowsIn (w : World) (b off : Nat) (l : List R3) : Prop := ∀ k i, k < l.length → i < 3 → w.cell? ⟨b, off + k * 3 + i, none⟩ = some (.int .i64 ((l.getD k r0).at i)) ∧ w.frozen? ⟨b, off + k * 3 + i, none⟩ = false

instance : Inhabited R3 := ⟨r0⟩

theorem compareInt_lt (x y : Int) : Lib.compareInt x y < 0 ↔ x < y := by unfold Lib.compareInt; repeat' split <;> omega
theorem compareInt_zero (x y : Int) : Lib.compareInt x y = 0 ↔ x = y := by unfold Lib.compareInt; repeat' split <;> omega

/-- A row ahead of another one. -/
def ltR (o : Ord) (x y : R3) : Prop := x.at o.x < y.at o.x ∨ (x.at o.x = y.at o.x ∧ (x.at o.y < y.at o.y ∨ (x.at o.y = y.at o.y ∧ x.at o.z < y.at o.z)))
instance (o : Ord) (x y : R3) : Decidable (ltR o x y) := by unfold ltR; infer_instance
theorem ltOf_ltR (o : Ord) (x y : R3) : ltOf (cmpR o) x y = decide (ltR o x y) := by
  unfold ltOf
  refine decide_eq_decide.2 ?_
  unfold cmpR ltR
  have h1 := compareInt_zero (x.at o.x) (y.at o.x)
  have h2 := compareInt_zero (x.at o.y) (y.at o.y)
  have l1 := compareInt_lt (x.at o.x) (y.at o.x)
  have l2 := compareInt_lt (x.at o.y) (y.at o.y)
  have l3 := compareInt_lt (x.at o.z) (y.at o.z)
  simp only [orL]
  repeat' split
  all_goals omega

theorem swoR (o : Ord) : Sort.SWO (ltOf (cmpR o)) where
  irrefl x := by rw [ltOf_ltR]; exact decide_eq_false (by unfold ltR; omega)
  trans x y z h1 h2 := by
    rw [ltOf_ltR] at *
    have h1 := of_decide_eq_true h1
    have h2 := of_decide_eq_true h2
    unfold ltR at h1 h2
    exact decide_eq_true (by unfold ltR; omega)
  ntrans x y z h1 h2 := by
    rw [ltOf_ltR] at *
    have h1 := of_decide_eq_false h1
    have h2 := of_decide_eq_false h2
    unfold ltR at h1 h2
    exact decide_eq_false (by unfold ltR; omega)

theorem at_six (o : Ord) (ho : Six o) (x y : R3) (h : x.at o.x = y.at o.x ∧ x.at o.y = y.at o.y ∧ x.at o.z = y.at o.z) : x = y := by
  obtain ⟨xa, xb, xc⟩ := x
  obtain ⟨ya, yb, yc⟩ := y
  obtain ⟨h1, h2, h3⟩ := h
  rcases ho with ⟨e1, e2, e3⟩ | ⟨e1, e2, e3⟩ | ⟨e1, e2, e3⟩ | ⟨e1, e2, e3⟩ | ⟨e1, e2, e3⟩ | ⟨e1, e2, e3⟩ <;>
    (rw [e1] at h1; rw [e2] at h2; rw [e3] at h3; simp [R3.at] at h1 h2 h3; simp [h1, h2, h3])

theorem totR (o : Ord) (ho : Six o) (x y : R3) (h1 : ltOf (cmpR o) x y = false) (h2 : ltOf (cmpR o) y x = false) : x = y := by
  rw [ltOf_ltR] at *
  have h1 := of_decide_eq_false h1
  have h2 := of_decide_eq_false h2
  unfold ltR at h1 h2
  exact at_six o ho x y (by omega)

/-- Sorted by an order. -/
def srt (o : Ord) (l : List R3) : List R3 := l.mergeSort fun x y => !(ltOf (cmpR o)) y x
theorem srt_perm (o : Ord) (l : List R3) : (srt o l).Perm l := List.mergeSort_perm _ _
theorem srt_length (o : Ord) (l : List R3) : (srt o l).length = l.length := (srt_perm o l).length_eq

theorem enc3_get (r : R3) (i : Nat) (hi : i < 3) : (enc3 r)[i]! = .int .i64 (r.at i) := by
  match i, hi with
  | 0, _ => rfl
  | 1, _ => rfl
  | 2, _ => rfl
theorem get_list (l : List R3) (k : Nat) (hk : k < l.length) : l.toArray[k]! = l.getD k r0 := by
  rw [getElem!_pos _ k (by simpa using hk), List.getD_eq_getElem?_getD, List.getElem?_eq_getElem hk]
  simp

theorem rows_holds {w : World} {b off : Nat} {l : List R3} (h : RowsIn w b off l) : HoldsK enc3 3 w b off l.toArray := by
  intro j hj
  rw [size_flatK] at hj
  rw [get_flatK enc3 3 l.toArray j hj]
  have hs : l.toArray.size = l.length := by simp
  have hk : j / 3 < l.length := by omega
  have hm : j % 3 < 3 := Nat.mod_lt _ (by omega)
  rw [get_list l _ hk, enc3_get _ _ hm, show off + j = off + j / 3 * 3 + j % 3 by omega]
  exact h _ _ hk hm
theorem holds_rows {w : World} {b off : Nat} {l : List R3} (h : HoldsK enc3 3 w b off l.toArray) : RowsIn w b off l := by
  intro k i hk hi
  have hs : l.toArray.size = l.length := by simp
  have := h.cell (i := k) (c := i) (by omega) hi
  rwa [get_list l k hk, enc3_get _ _ hi] at this

/-- What the sort leaves: the row put anew, some draws, new blocks. -/
theorem sortWorld_facts (w : World) (blk off : Nat) (l l' : List R3) (hH : RowsIn w blk off l) (hl : l'.length = l.length) (hblk : blk < w.heap.size) (n : Nat) (os : Array Obj) :
    RowsIn (sortWorldK enc3 3 w blk off n l'.toArray os) blk off l' ∧ w.grownBy (sortWorldK enc3 3 w blk off n l'.toArray os) (some blk) := by
  have hs : (putRowK enc3 3 (Sort.ahead w n) blk off l'.toArray).heap.size = w.heap.size := by
    unfold putRowK
    rw [Sort.size_putRow]
    rfl
  refine ⟨holds_rows ?_, ?_⟩
  · unfold sortWorldK
    refine holdsK_grow _ _ _ _ _ _ _ (by rw [hs]; exact hblk) ?_
    exact holdsK_putRowK _ _ _ _ _ l.toArray _ (holdsK_ahead _ _ _ _ _ _ _ (rows_holds hH)) (by simp [hl])
  · refine ⟨rfl, rfl, rfl, ?_, fun k hk hne => ?_⟩
    · unfold sortWorldK
      show w.heap.size ≤ ((putRowK enc3 3 (Sort.ahead w n) blk off l'.toArray).heap ++ os).size
      rw [Array.size_append, hs]
      omega
    · unfold sortWorldK
      rw [Sort.heap_grow_old _ _ (by rw [hs]; exact hk)]
      unfold putRowK Sort.putRow Sort.mapBlock
      show ((Sort.ahead w n).heap.modify blk _)[k]? = _
      rw [Array.getElem?_modify, if_neg (fun e => hne (by rw [e]))]
      rfl

theorem cmpLays (ob blk off size : Nat) (o : Ord) (ho : Six o) (w : World) (h0 : w.cell? ⟨ob, 0, none⟩ = some (.int .i64 o.x)) (h1 : w.cell? ⟨ob, 1, none⟩ = some (.int .i64 o.y)) (h2 : w.cell? ⟨ob, 2, none⟩ = some (.int .i64 o.z)) (hob : ob < w.heap.size) (hne : ob ≠ blk) :
    CmpLays Try.prog 40 #[.pointer (some ⟨ob, 0, none⟩)] enc3 3 (cmpR o) blk off size w := by
  intro m os dk _ x y
  have hc : ∀ i, (sortWorldK enc3 3 w blk off m dk os).cell? ⟨ob, i, none⟩ = w.cell? ⟨ob, i, none⟩ := fun i => by
    unfold sortWorldK
    rw [Sort.cell?_grow _ _ _ (by unfold putRowK; rw [Sort.size_putRow]; exact hob), cell?_putRowK_other _ _ _ _ _ _ _ hne]
    rfl
  have hsz : ob < (sortWorldK enc3 3 w blk off m dk os).heap.size := by
    unfold sortWorldK
    show ob < ((putRowK enc3 3 (Sort.ahead w m) blk off dk).heap ++ os).size
    rw [Array.size_append]
    have : (putRowK enc3 3 (Sort.ahead w m) blk off dk).heap.size = w.heap.size := by unfold putRowK; rw [Sort.size_putRow]; rfl
    omega
  refine (cmp_calls (sortWorldK enc3 3 w blk off m dk os) ob o ho x y ((hc 0).trans h0) ((hc 1).trans h1) ((hc 2).trans h2) hsz).mono fun e w' ⟨he, o1, o2, o3, hw⟩ => ⟨he, 1, #[o1, o2, o3], ?_⟩
  rw [hw, Sort.alloc_eq_grow, Sort.alloc_eq_grow, Sort.alloc_eq_grow, Sort.grow_grow, Sort.grow_grow]
  rfl

theorem isAgg23 : ∀ w, (isAgg 65).run Try.prog w = .ok true w := Try.isAgg65
theorem sizeOf23 : ∀ w, (Go.sizeOf 65).run Try.prog w = .ok 3 w := Try.sizeOf65

/-- **The sort of rows.** -/
theorem sort_calls (w : World) (blk off cap ob : Nat) (l : List R3) (o : Ord) (ho : Six o) (hH : RowsIn w blk off l) (hblk : blk < w.heap.size) (hl : l.length < 4611686018427387904)
    (h0 : w.cell? ⟨ob, 0, none⟩ = some (.int .i64 o.x)) (h1 : w.cell? ⟨ob, 1, none⟩ = some (.int .i64 o.y)) (h2 : w.cell? ⟨ob, 2, none⟩ = some (.int .i64 o.z)) (hob : ob < w.heap.size) (hne : ob ≠ blk) :
    Calls Try.prog 39 #[.slice (some ⟨blk, off, none⟩) l.length cap, .func (.func 40) #[] #[.pointer (some ⟨ob, 0, none⟩)]] w fun e w' => e = .returned (.tuple #[]) ∧ RowsIn w' blk off (srt o l) ∧ w.grownBy w' (some blk) := by
  have e32 : ∀ args w, (callFunc 40 args).run Try.prog w = .ok (.enter 40 args) w := enters_of Try.func40 (by kernel_rfl) rfl
  have h := AnyQ.slices_SortFunc_total Try.laysSlF06_f31 3 isAgg23 sizeOf23 enc3 (fun _ => rfl) (fun x v hv => by simp [enc3] at hv; rcases hv with rfl | rfl | rfl <;> rfl) (cmpR o) (swoR o) 40 #[.pointer (some ⟨ob, 0, none⟩)] blk off cap l.toArray w e32
    (cmpLays ob blk off _ o ho w h0 h1 h2 hob hne) (rows_holds hH) hblk (by simpa using hl) (totR o ho)
  have hs : l.toArray.size = l.length := by simp
  rw [hs] at h
  refine Calls.mono h fun e w' ⟨he, n, os, hw⟩ => ⟨he, ?_⟩
  rw [hw]
  exact sortWorld_facts w blk off l (srt o l) hH (srt_length o l) hblk n os
end Go.Proofs.Ytejinhnmabnomaa.Pw
end
