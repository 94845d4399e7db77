/-
  No cell of these rows narrows 'for every input' (looked for: loops, veiled, ifaces, maps, wideKeys, modest, calm, conditions, laid).
  DERIVED. THE GIVEN ROWS OF THIS SEAT. 7 by the template 'for every input the law returns true; each argument reads behind the call as it read before'; 0 by the template 'total and deterministic' (their statements: YthapkpgkcckapaaTotals.lean).
  GIVEN WITH THE SEED: the statements are not yours to turn. If you find one false, say at which input.
  Laid BY PROGRAM, IN A SANDBOX (cutbox-rows.mjs): the forced cells as the released guide's own fill.sh prints them over the translation 6bbc3e7279d19b1b… (all of the seat's roots in one cut). By AI agents, Wed Nov 11 2026. No macro, syntax, notation, axiom, sorry.
-/
import Derived.Test.YthapkpgkcckapaaChecked
import GoSem.Claim
import GoSem.ClaimJoined
import GoSem.ClaimMapViews
import Derived.JoinedTies
import Derived.KernelRfl
namespace Go.Proofs.Ythapkpgkcckapaa
/- THE CELL 'sum', in the pinned program and in every row, IS THE sha256 OF THE DUMP (.gsa) THAT YthapkpgkcckapaaProg.lean LOADS. Nothing in Lean hashes anything: it is a label: what it is worth is what the hold of that sum in a sandbox is worth. -/
noncomputable def Try.pinned : Pinned := { name := "ythapkpgkcckapaa", sum := "6bbc3e7279d19b1bd9ea75cfc5598756593003351eab5ad986647a2afca3dbc8", checked := Try.checked }
namespace Rows
def none {H : Type} : Left H := { results := [], args := [] }

/-- 'sinewlaw06.PermWalks': WHATEVER THE INPUT: true; the input reads as it did. -/
def permWalksSpec : ChangeSpec := { name := "permWalks", fn := fun _ => fun
  | [d1, d2, d3] => { results := [.lit (.bool true)], args := [d1, d2, d3] }
  | _ => none }
def permWalksRow : OpenClaim := { program := "ythapkpgkcckapaa", sum := "6bbc3e7279d19b1bd9ea75cfc5598756593003351eab5ad986647a2afca3dbc8", func := "sinew/sinewlaw06.PermWalks", spec := "permWalks", unfollowed := true, recurses := true, apart := false }
def PermWalksSaid : Prop := permWalksRow.holds Try.pinned (OpenSpec.ofChange permWalksSpec)

/-- ITS FALSE NEIGHBOUR: 'it returns false'. Refute it at one input. -/
def permWalksWrong : ChangeSpec := { name := "permWalks", fn := fun _ => fun
  | [d1, d2, d3] => { results := [.lit (.bool false)], args := [d1, d2, d3] }
  | _ => none }
def PermWalksWrongFalsely : Prop := permWalksRow.holds Try.pinned (OpenSpec.ofChange permWalksWrong)

/-- 'sinewlaw06.PermSeek': WHATEVER THE INPUT: true; the input reads as it did. -/
def permSeekSpec : ChangeSpec := { name := "permSeek", fn := fun _ => fun
  | [d1, d2, d3] => { results := [.lit (.bool true)], args := [d1, d2, d3] }
  | _ => none }
def permSeekRow : OpenClaim := { program := "ythapkpgkcckapaa", sum := "6bbc3e7279d19b1bd9ea75cfc5598756593003351eab5ad986647a2afca3dbc8", func := "sinew/sinewlaw06.PermSeek", spec := "permSeek", unfollowed := true, recurses := true, apart := false }
def PermSeekSaid : Prop := permSeekRow.holds Try.pinned (OpenSpec.ofChange permSeekSpec)

/-- ITS FALSE NEIGHBOUR: 'it returns false'. Refute it at one input. -/
def permSeekWrong : ChangeSpec := { name := "permSeek", fn := fun _ => fun
  | [d1, d2, d3] => { results := [.lit (.bool false)], args := [d1, d2, d3] }
  | _ => none }
def PermSeekWrongFalsely : Prop := permSeekRow.holds Try.pinned (OpenSpec.ofChange permSeekWrong)

/-- 'sinewlaw06.PermRows': WHATEVER THE INPUT: true; the input reads as it did. -/
def permRowsSpec : ChangeSpec := { name := "permRows", fn := fun _ => fun
  | [d1, d2] => { results := [.lit (.bool true)], args := [d1, d2] }
  | _ => none }
def permRowsRow : OpenClaim := { program := "ythapkpgkcckapaa", sum := "6bbc3e7279d19b1bd9ea75cfc5598756593003351eab5ad986647a2afca3dbc8", func := "sinew/sinewlaw06.PermRows", spec := "permRows", unfollowed := true, recurses := true, apart := false }
def PermRowsSaid : Prop := permRowsRow.holds Try.pinned (OpenSpec.ofChange permRowsSpec)

/-- ITS FALSE NEIGHBOUR: 'it returns false'. Refute it at one input. -/
def permRowsWrong : ChangeSpec := { name := "permRows", fn := fun _ => fun
  | [d1, d2] => { results := [.lit (.bool false)], args := [d1, d2] }
  | _ => none }
def PermRowsWrongFalsely : Prop := permRowsRow.holds Try.pinned (OpenSpec.ofChange permRowsWrong)

/-- 'sinewlaw06.PermAll': WHATEVER THE INPUT: true; the input reads as it did. -/
def permAllSpec : ChangeSpec := { name := "permAll", fn := fun _ => fun
  | [d1, d2] => { results := [.lit (.bool true)], args := [d1, d2] }
  | _ => none }
def permAllRow : OpenClaim := { program := "ythapkpgkcckapaa", sum := "6bbc3e7279d19b1bd9ea75cfc5598756593003351eab5ad986647a2afca3dbc8", func := "sinew/sinewlaw06.PermAll", spec := "permAll", unfollowed := true, recurses := true, apart := false }
def PermAllSaid : Prop := permAllRow.holds Try.pinned (OpenSpec.ofChange permAllSpec)

/-- ITS FALSE NEIGHBOUR: 'it returns false'. Refute it at one input. -/
def permAllWrong : ChangeSpec := { name := "permAll", fn := fun _ => fun
  | [d1, d2] => { results := [.lit (.bool false)], args := [d1, d2] }
  | _ => none }
def PermAllWrongFalsely : Prop := permAllRow.holds Try.pinned (OpenSpec.ofChange permAllWrong)

/-- 'sinewlaw06.PermOrders': WHATEVER THE INPUT: true; the input reads as it did. -/
def permOrdersSpec : ChangeSpec := { name := "permOrders", fn := fun _ => fun
  | [d1, d2, d3] => { results := [.lit (.bool true)], args := [d1, d2, d3] }
  | _ => none }
def permOrdersRow : OpenClaim := { program := "ythapkpgkcckapaa", sum := "6bbc3e7279d19b1bd9ea75cfc5598756593003351eab5ad986647a2afca3dbc8", func := "sinew/sinewlaw06.PermOrders", spec := "permOrders", unfollowed := true, recurses := true, apart := false }
def PermOrdersSaid : Prop := permOrdersRow.holds Try.pinned (OpenSpec.ofChange permOrdersSpec)

/-- ITS FALSE NEIGHBOUR: 'it returns false'. Refute it at one input. -/
def permOrdersWrong : ChangeSpec := { name := "permOrders", fn := fun _ => fun
  | [d1, d2, d3] => { results := [.lit (.bool false)], args := [d1, d2, d3] }
  | _ => none }
def PermOrdersWrongFalsely : Prop := permOrdersRow.holds Try.pinned (OpenSpec.ofChange permOrdersWrong)

/-- 'sinewlaw06.PermNobody': WHATEVER THE INPUT: true; the input reads as it did. -/
def permNobodySpec : ChangeSpec := { name := "permNobody", fn := fun _ => fun
  | [d] => { results := [.lit (.bool true)], args := [d] }
  | _ => none }
def permNobodyRow : OpenClaim := { program := "ythapkpgkcckapaa", sum := "6bbc3e7279d19b1bd9ea75cfc5598756593003351eab5ad986647a2afca3dbc8", func := "sinew/sinewlaw06.PermNobody", spec := "permNobody", unfollowed := true, recurses := true, apart := false }
def PermNobodySaid : Prop := permNobodyRow.holds Try.pinned (OpenSpec.ofChange permNobodySpec)

/-- ITS FALSE NEIGHBOUR: 'it returns false'. Refute it at one input. -/
def permNobodyWrong : ChangeSpec := { name := "permNobody", fn := fun _ => fun
  | [d] => { results := [.lit (.bool false)], args := [d] }
  | _ => none }
def PermNobodyWrongFalsely : Prop := permNobodyRow.holds Try.pinned (OpenSpec.ofChange permNobodyWrong)

/-- 'sinewlaw06.PermTwice': WHATEVER THE INPUT: true; the input reads as it did. -/
def permTwiceSpec : ChangeSpec := { name := "permTwice", fn := fun _ => fun
  | [d1, d2] => { results := [.lit (.bool true)], args := [d1, d2] }
  | _ => none }
def permTwiceRow : OpenClaim := { program := "ythapkpgkcckapaa", sum := "6bbc3e7279d19b1bd9ea75cfc5598756593003351eab5ad986647a2afca3dbc8", func := "sinew/sinewlaw06.PermTwice", spec := "permTwice", unfollowed := true, recurses := true, apart := false }
def PermTwiceSaid : Prop := permTwiceRow.holds Try.pinned (OpenSpec.ofChange permTwiceSpec)

/-- ITS FALSE NEIGHBOUR: 'it returns false'. Refute it at one input. -/
def permTwiceWrong : ChangeSpec := { name := "permTwice", fn := fun _ => fun
  | [d1, d2] => { results := [.lit (.bool false)], args := [d1, d2] }
  | _ => none }
def PermTwiceWrongFalsely : Prop := permTwiceRow.holds Try.pinned (OpenSpec.ofChange permTwiceWrong)

/- THE SECOND FORM. 'bulk': how many values and letters a reading holds, each counted each time it is reached (what is shared counts as often as it is met; a slice's spare places count too). A statement '..UptoSaid' is the law's where the arguments, and the package variables that the reading takes, are together of bulk at most 1048576: NARROWER than '..Said'. Prove '..Said' where nothing that the law and all that it calls make is longer than what came in: it says more and counts as full. Else prove '..UptoSaid'. A law counts once. -/
mutual
def uptoBulk {H : Type} : DataW H → Nat
  | .lit (.string bytes) => bytes.length + 1
  | .lit _ => 1
  | .nil => 1
  | .ptr d => uptoBulk d + 1
  | .slice elems spare => uptoBulkAll elems + uptoBulkAll spare + 1
  | .agg parts => uptoBulkAll parts + 1
  | .iface _ d => uptoBulk d + 1
  | .map entries => uptoBulkEntries entries + 1
  | .held _ => 1
def uptoBulkAll {H : Type} : List (DataW H) → Nat
  | [] => 0
  | d :: r => uptoBulk d + uptoBulkAll r
def uptoBulkEntries {H : Type} : List (Lit × DataW H) → Nat
  | [] => 0
  | x :: r => uptoBulkEntry x + uptoBulkEntries r
def uptoBulkEntry {H : Type} : Lit × DataW H → Nat
  | (.string bytes, d) => bytes.length + uptoBulk d + 1
  | (_, d) => uptoBulk d + 1
 end
def uptoSmall : (H : Type) → List (DataW H) → Bool := fun _ ds => decide (uptoBulkAll ds ≤ 1048576)
def OpenSpec.upto (s : _root_.Go.ChangeSpec) : _root_.Go.OpenSpec := { _root_.Go.OpenSpec.ofChange s with cond := some uptoSmall }

/-- 'sinewlaw06.PermWalks', WHERE WHAT IT READS IS OF BULK AT MOST 1048576: true; the input reads as it did. -/
def permWalksUptoRow : OpenClaim := { program := "ythapkpgkcckapaa", sum := "6bbc3e7279d19b1bd9ea75cfc5598756593003351eab5ad986647a2afca3dbc8", func := "sinew/sinewlaw06.PermWalks", spec := "permWalks", unfollowed := true, recurses := true, apart := false, narrowed := true }
def PermWalksUptoSaid : Prop := permWalksUptoRow.holds Try.pinned (OpenSpec.upto permWalksSpec)

/-- 'sinewlaw06.PermSeek', WHERE WHAT IT READS IS OF BULK AT MOST 1048576: true; the input reads as it did. -/
def permSeekUptoRow : OpenClaim := { program := "ythapkpgkcckapaa", sum := "6bbc3e7279d19b1bd9ea75cfc5598756593003351eab5ad986647a2afca3dbc8", func := "sinew/sinewlaw06.PermSeek", spec := "permSeek", unfollowed := true, recurses := true, apart := false, narrowed := true }
def PermSeekUptoSaid : Prop := permSeekUptoRow.holds Try.pinned (OpenSpec.upto permSeekSpec)

/-- 'sinewlaw06.PermRows', WHERE WHAT IT READS IS OF BULK AT MOST 1048576: true; the input reads as it did. -/
def permRowsUptoRow : OpenClaim := { program := "ythapkpgkcckapaa", sum := "6bbc3e7279d19b1bd9ea75cfc5598756593003351eab5ad986647a2afca3dbc8", func := "sinew/sinewlaw06.PermRows", spec := "permRows", unfollowed := true, recurses := true, apart := false, narrowed := true }
def PermRowsUptoSaid : Prop := permRowsUptoRow.holds Try.pinned (OpenSpec.upto permRowsSpec)

/-- 'sinewlaw06.PermAll', WHERE WHAT IT READS IS OF BULK AT MOST 1048576: true; the input reads as it did. -/
def permAllUptoRow : OpenClaim := { program := "ythapkpgkcckapaa", sum := "6bbc3e7279d19b1bd9ea75cfc5598756593003351eab5ad986647a2afca3dbc8", func := "sinew/sinewlaw06.PermAll", spec := "permAll", unfollowed := true, recurses := true, apart := false, narrowed := true }
def PermAllUptoSaid : Prop := permAllUptoRow.holds Try.pinned (OpenSpec.upto permAllSpec)

/-- 'sinewlaw06.PermOrders', WHERE WHAT IT READS IS OF BULK AT MOST 1048576: true; the input reads as it did. -/
def permOrdersUptoRow : OpenClaim := { program := "ythapkpgkcckapaa", sum := "6bbc3e7279d19b1bd9ea75cfc5598756593003351eab5ad986647a2afca3dbc8", func := "sinew/sinewlaw06.PermOrders", spec := "permOrders", unfollowed := true, recurses := true, apart := false, narrowed := true }
def PermOrdersUptoSaid : Prop := permOrdersUptoRow.holds Try.pinned (OpenSpec.upto permOrdersSpec)

/-- 'sinewlaw06.PermNobody', WHERE WHAT IT READS IS OF BULK AT MOST 1048576: true; the input reads as it did. -/
def permNobodyUptoRow : OpenClaim := { program := "ythapkpgkcckapaa", sum := "6bbc3e7279d19b1bd9ea75cfc5598756593003351eab5ad986647a2afca3dbc8", func := "sinew/sinewlaw06.PermNobody", spec := "permNobody", unfollowed := true, recurses := true, apart := false, narrowed := true }
def PermNobodyUptoSaid : Prop := permNobodyUptoRow.holds Try.pinned (OpenSpec.upto permNobodySpec)

/-- 'sinewlaw06.PermTwice', WHERE WHAT IT READS IS OF BULK AT MOST 1048576: true; the input reads as it did. -/
def permTwiceUptoRow : OpenClaim := { program := "ythapkpgkcckapaa", sum := "6bbc3e7279d19b1bd9ea75cfc5598756593003351eab5ad986647a2afca3dbc8", func := "sinew/sinewlaw06.PermTwice", spec := "permTwice", unfollowed := true, recurses := true, apart := false, narrowed := true }
def PermTwiceUptoSaid : Prop := permTwiceUptoRow.holds Try.pinned (OpenSpec.upto permTwiceSpec)

end Rows
end Go.Proofs.Ythapkpgkcckapaa
