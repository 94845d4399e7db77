/-
  No cell of these rows narrows 'for every input' (looked for: loops, veiled, ifaces, maps, wideKeys, modest, calm, conditions, laid).
  DERIVED. THE GIVEN ROWS OF THIS SEAT. 8 by the template 'for every input the law returns true; each argument reads behind the call as it read before'; 0 by the template 'total and deterministic' (their statements: YtcnffgcegimelaaGreatTotals.lean).
  GIVEN WITH THE SEED: the statements are not yours to turn. If you find one false, say at which input.
  Laid BY PROGRAM, IN A SANDBOX (cutbox-rows.mjs): the forced cells as the released guide's own fill.sh prints them over the translation 721399ba531ff0c3… (all of the seat's roots in one cut). By AI agents, Wed Nov 11 2026. No macro, syntax, notation, axiom, sorry.
-/
import Derived.Test.YtcnffgcegimelaaGreatChecked
import GoSem.Claim
import GoSem.ClaimJoined
import GoSem.ClaimMapViews
import Derived.JoinedTies
import Derived.KernelRfl
namespace Go.Proofs.YtcnffgcegimelaaGreat
/- THE CELL 'sum', in the pinned program and in every row, IS THE sha256 OF THE DUMP (.gsa) THAT YtcnffgcegimelaaGreatProg.lean LOADS. Nothing in Lean hashes anything: it is a label: what it is worth is what the hold of that sum in a sandbox is worth. -/
noncomputable def Tryz.pinned : Pinned := { name := "ytcnffgcegimelaagreat", sum := "721399ba531ff0c3cc65c7a35823b1a36297aaedfa8bd1ac7c781fc8dbbe5754", checked := Tryz.checked }
namespace Rows
def none {H : Type} : Left H := { results := [], args := [] }

/-- 'sinewlaw07.StoreStays': WHATEVER THE INPUT: true; the input reads as it did. -/
def storeStaysSpec : ChangeSpec := { name := "storeStays", fn := fun _ => fun
  | [d] => { results := [.lit (.bool true)], args := [d] }
  | _ => none }
def storeStaysRow : OpenClaim := { program := "ytcnffgcegimelaagreat", sum := "721399ba531ff0c3cc65c7a35823b1a36297aaedfa8bd1ac7c781fc8dbbe5754", func := "sinew/sinewlaw07.StoreStays", spec := "storeStays", unfollowed := true, recurses := true, plainKeys := false, apart := false }
def StoreStaysSaid : Prop := storeStaysRow.holds Tryz.pinned (OpenSpec.ofChange storeStaysSpec)

/-- ITS FALSE NEIGHBOUR: 'it returns false'. Refute it at one input. -/
def storeStaysWrong : ChangeSpec := { name := "storeStays", fn := fun _ => fun
  | [d] => { results := [.lit (.bool false)], args := [d] }
  | _ => none }
def StoreStaysWrongFalsely : Prop := storeStaysRow.holds Tryz.pinned (OpenSpec.ofChange storeStaysWrong)

/-- 'sinewlaw07.StoreWhole': WHATEVER THE INPUT: true; the input reads as it did. -/
def storeWholeSpec : ChangeSpec := { name := "storeWhole", fn := fun _ => fun
  | [d1, d2] => { results := [.lit (.bool true)], args := [d1, d2] }
  | _ => none }
def storeWholeRow : OpenClaim := { program := "ytcnffgcegimelaagreat", sum := "721399ba531ff0c3cc65c7a35823b1a36297aaedfa8bd1ac7c781fc8dbbe5754", func := "sinew/sinewlaw07.StoreWhole", spec := "storeWhole", unfollowed := true, recurses := true, plainKeys := false, apart := false }
def StoreWholeSaid : Prop := storeWholeRow.holds Tryz.pinned (OpenSpec.ofChange storeWholeSpec)

/-- ITS FALSE NEIGHBOUR: 'it returns false'. Refute it at one input. -/
def storeWholeWrong : ChangeSpec := { name := "storeWhole", fn := fun _ => fun
  | [d1, d2] => { results := [.lit (.bool false)], args := [d1, d2] }
  | _ => none }
def StoreWholeWrongFalsely : Prop := storeWholeRow.holds Tryz.pinned (OpenSpec.ofChange storeWholeWrong)

/-- 'sinewlaw07.StoreMatch': WHATEVER THE INPUT: true; the input reads as it did. -/
def storeMatchSpec : ChangeSpec := { name := "storeMatch", fn := fun _ => fun
  | [d] => { results := [.lit (.bool true)], args := [d] }
  | _ => none }
def storeMatchRow : OpenClaim := { program := "ytcnffgcegimelaagreat", sum := "721399ba531ff0c3cc65c7a35823b1a36297aaedfa8bd1ac7c781fc8dbbe5754", func := "sinew/sinewlaw07.StoreMatch", spec := "storeMatch", unfollowed := true, recurses := true, plainKeys := false, apart := false }
def StoreMatchSaid : Prop := storeMatchRow.holds Tryz.pinned (OpenSpec.ofChange storeMatchSpec)

/-- ITS FALSE NEIGHBOUR: 'it returns false'. Refute it at one input. -/
def storeMatchWrong : ChangeSpec := { name := "storeMatch", fn := fun _ => fun
  | [d] => { results := [.lit (.bool false)], args := [d] }
  | _ => none }
def StoreMatchWrongFalsely : Prop := storeMatchRow.holds Tryz.pinned (OpenSpec.ofChange storeMatchWrong)

/-- 'sinewlaw07.StoreAgain': WHATEVER THE INPUT: true; the input reads as it did. -/
def storeAgainSpec : ChangeSpec := { name := "storeAgain", fn := fun _ => fun
  | [d1, d2] => { results := [.lit (.bool true)], args := [d1, d2] }
  | _ => none }
def storeAgainRow : OpenClaim := { program := "ytcnffgcegimelaagreat", sum := "721399ba531ff0c3cc65c7a35823b1a36297aaedfa8bd1ac7c781fc8dbbe5754", func := "sinew/sinewlaw07.StoreAgain", spec := "storeAgain", unfollowed := true, recurses := true, plainKeys := false, apart := false }
def StoreAgainSaid : Prop := storeAgainRow.holds Tryz.pinned (OpenSpec.ofChange storeAgainSpec)

/-- ITS FALSE NEIGHBOUR: 'it returns false'. Refute it at one input. -/
def storeAgainWrong : ChangeSpec := { name := "storeAgain", fn := fun _ => fun
  | [d1, d2] => { results := [.lit (.bool false)], args := [d1, d2] }
  | _ => none }
def StoreAgainWrongFalsely : Prop := storeAgainRow.holds Tryz.pinned (OpenSpec.ofChange storeAgainWrong)

/-- 'sinewlaw07.StoreFull': WHATEVER THE INPUT: true; the input reads as it did. -/
def storeFullSpec : ChangeSpec := { name := "storeFull", fn := fun _ => fun
  | [d1, d2] => { results := [.lit (.bool true)], args := [d1, d2] }
  | _ => none }
def storeFullRow : OpenClaim := { program := "ytcnffgcegimelaagreat", sum := "721399ba531ff0c3cc65c7a35823b1a36297aaedfa8bd1ac7c781fc8dbbe5754", func := "sinew/sinewlaw07.StoreFull", spec := "storeFull", unfollowed := true, recurses := true, plainKeys := false, apart := false }
def StoreFullSaid : Prop := storeFullRow.holds Tryz.pinned (OpenSpec.ofChange storeFullSpec)

/-- ITS FALSE NEIGHBOUR: 'it returns false'. Refute it at one input. -/
def storeFullWrong : ChangeSpec := { name := "storeFull", fn := fun _ => fun
  | [d1, d2] => { results := [.lit (.bool false)], args := [d1, d2] }
  | _ => none }
def StoreFullWrongFalsely : Prop := storeFullRow.holds Tryz.pinned (OpenSpec.ofChange storeFullWrong)

/-- 'sinewlaw07.StoreSplit': WHATEVER THE INPUT: true; the input reads as it did. -/
def storeSplitSpec : ChangeSpec := { name := "storeSplit", fn := fun _ => fun
  | [d1, d2] => { results := [.lit (.bool true)], args := [d1, d2] }
  | _ => none }
def storeSplitRow : OpenClaim := { program := "ytcnffgcegimelaagreat", sum := "721399ba531ff0c3cc65c7a35823b1a36297aaedfa8bd1ac7c781fc8dbbe5754", func := "sinew/sinewlaw07.StoreSplit", spec := "storeSplit", unfollowed := true, recurses := true, plainKeys := false, apart := false }
def StoreSplitSaid : Prop := storeSplitRow.holds Tryz.pinned (OpenSpec.ofChange storeSplitSpec)

/-- ITS FALSE NEIGHBOUR: 'it returns false'. Refute it at one input. -/
def storeSplitWrong : ChangeSpec := { name := "storeSplit", fn := fun _ => fun
  | [d1, d2] => { results := [.lit (.bool false)], args := [d1, d2] }
  | _ => none }
def StoreSplitWrongFalsely : Prop := storeSplitRow.holds Tryz.pinned (OpenSpec.ofChange storeSplitWrong)

/-- 'sinewlaw07.StorePlays': WHATEVER THE INPUT: true; the input reads as it did. -/
def storePlaysSpec : ChangeSpec := { name := "storePlays", fn := fun _ => fun
  | [d1, d2, d3] => { results := [.lit (.bool true)], args := [d1, d2, d3] }
  | _ => none }
def storePlaysRow : OpenClaim := { program := "ytcnffgcegimelaagreat", sum := "721399ba531ff0c3cc65c7a35823b1a36297aaedfa8bd1ac7c781fc8dbbe5754", func := "sinew/sinewlaw07.StorePlays", spec := "storePlays", unfollowed := true, recurses := true, plainKeys := false, apart := false }
def StorePlaysSaid : Prop := storePlaysRow.holds Tryz.pinned (OpenSpec.ofChange storePlaysSpec)

/-- ITS FALSE NEIGHBOUR: 'it returns false'. Refute it at one input. -/
def storePlaysWrong : ChangeSpec := { name := "storePlays", fn := fun _ => fun
  | [d1, d2, d3] => { results := [.lit (.bool false)], args := [d1, d2, d3] }
  | _ => none }
def StorePlaysWrongFalsely : Prop := storePlaysRow.holds Tryz.pinned (OpenSpec.ofChange storePlaysWrong)

/-- 'sinewlaw07.StoreNobody': WHATEVER THE INPUT: true; the input reads as it did. -/
def storeNobodySpec : ChangeSpec := { name := "storeNobody", fn := fun _ => fun
  | [d1, d2] => { results := [.lit (.bool true)], args := [d1, d2] }
  | _ => none }
def storeNobodyRow : OpenClaim := { program := "ytcnffgcegimelaagreat", sum := "721399ba531ff0c3cc65c7a35823b1a36297aaedfa8bd1ac7c781fc8dbbe5754", func := "sinew/sinewlaw07.StoreNobody", spec := "storeNobody", unfollowed := true, recurses := true, plainKeys := false, apart := false }
def StoreNobodySaid : Prop := storeNobodyRow.holds Tryz.pinned (OpenSpec.ofChange storeNobodySpec)

/-- ITS FALSE NEIGHBOUR: 'it returns false'. Refute it at one input. -/
def storeNobodyWrong : ChangeSpec := { name := "storeNobody", fn := fun _ => fun
  | [d1, d2] => { results := [.lit (.bool false)], args := [d1, d2] }
  | _ => none }
def StoreNobodyWrongFalsely : Prop := storeNobodyRow.holds Tryz.pinned (OpenSpec.ofChange storeNobodyWrong)

/- THE SECOND FORM. 'bulk': how many values and letters a reading holds, each counted each time it is reached (what is shared counts as often as it is met; a slice's spare places count too). A statement '..UptoSaid' is the law's where the arguments, and the package variables that the reading takes, are together of bulk at most 1048576: NARROWER than '..Said'. Prove '..Said' where nothing that the law and all that it calls make is longer than what came in: it says more and counts as full. Else prove '..UptoSaid'. A law counts once. -/
mutual
def uptoBulk {H : Type} : DataW H → Nat
  | .lit (.string bytes) => bytes.length + 1
  | .lit _ => 1
  | .nil => 1
  | .ptr d => uptoBulk d + 1
  | .slice elems spare => uptoBulkAll elems + uptoBulkAll spare + 1
  | .agg parts => uptoBulkAll parts + 1
  | .iface _ d => uptoBulk d + 1
  | .map entries => uptoBulkEntries entries + 1
  | .held _ => 1
def uptoBulkAll {H : Type} : List (DataW H) → Nat
  | [] => 0
  | d :: r => uptoBulk d + uptoBulkAll r
def uptoBulkEntries {H : Type} : List (Lit × DataW H) → Nat
  | [] => 0
  | x :: r => uptoBulkEntry x + uptoBulkEntries r
def uptoBulkEntry {H : Type} : Lit × DataW H → Nat
  | (.string bytes, d) => bytes.length + uptoBulk d + 1
  | (_, d) => uptoBulk d + 1
 end
def uptoSmall : (H : Type) → List (DataW H) → Bool := fun _ ds => decide (uptoBulkAll ds ≤ 1048576)
def OpenSpec.upto (s : _root_.Go.ChangeSpec) : _root_.Go.OpenSpec := { _root_.Go.OpenSpec.ofChange s with cond := some uptoSmall }

/-- 'sinewlaw07.StoreStays', WHERE WHAT IT READS IS OF BULK AT MOST 1048576: true; the input reads as it did. -/
def storeStaysUptoRow : OpenClaim := { program := "ytcnffgcegimelaagreat", sum := "721399ba531ff0c3cc65c7a35823b1a36297aaedfa8bd1ac7c781fc8dbbe5754", func := "sinew/sinewlaw07.StoreStays", spec := "storeStays", unfollowed := true, recurses := true, plainKeys := false, apart := false, narrowed := true }
def StoreStaysUptoSaid : Prop := storeStaysUptoRow.holds Tryz.pinned (OpenSpec.upto storeStaysSpec)

/-- 'sinewlaw07.StoreWhole', WHERE WHAT IT READS IS OF BULK AT MOST 1048576: true; the input reads as it did. -/
def storeWholeUptoRow : OpenClaim := { program := "ytcnffgcegimelaagreat", sum := "721399ba531ff0c3cc65c7a35823b1a36297aaedfa8bd1ac7c781fc8dbbe5754", func := "sinew/sinewlaw07.StoreWhole", spec := "storeWhole", unfollowed := true, recurses := true, plainKeys := false, apart := false, narrowed := true }
def StoreWholeUptoSaid : Prop := storeWholeUptoRow.holds Tryz.pinned (OpenSpec.upto storeWholeSpec)

/-- 'sinewlaw07.StoreMatch', WHERE WHAT IT READS IS OF BULK AT MOST 1048576: true; the input reads as it did. -/
def storeMatchUptoRow : OpenClaim := { program := "ytcnffgcegimelaagreat", sum := "721399ba531ff0c3cc65c7a35823b1a36297aaedfa8bd1ac7c781fc8dbbe5754", func := "sinew/sinewlaw07.StoreMatch", spec := "storeMatch", unfollowed := true, recurses := true, plainKeys := false, apart := false, narrowed := true }
def StoreMatchUptoSaid : Prop := storeMatchUptoRow.holds Tryz.pinned (OpenSpec.upto storeMatchSpec)

/-- 'sinewlaw07.StoreAgain', WHERE WHAT IT READS IS OF BULK AT MOST 1048576: true; the input reads as it did. -/
def storeAgainUptoRow : OpenClaim := { program := "ytcnffgcegimelaagreat", sum := "721399ba531ff0c3cc65c7a35823b1a36297aaedfa8bd1ac7c781fc8dbbe5754", func := "sinew/sinewlaw07.StoreAgain", spec := "storeAgain", unfollowed := true, recurses := true, plainKeys := false, apart := false, narrowed := true }
def StoreAgainUptoSaid : Prop := storeAgainUptoRow.holds Tryz.pinned (OpenSpec.upto storeAgainSpec)

/-- 'sinewlaw07.StoreFull', WHERE WHAT IT READS IS OF BULK AT MOST 1048576: true; the input reads as it did. -/
def storeFullUptoRow : OpenClaim := { program := "ytcnffgcegimelaagreat", sum := "721399ba531ff0c3cc65c7a35823b1a36297aaedfa8bd1ac7c781fc8dbbe5754", func := "sinew/sinewlaw07.StoreFull", spec := "storeFull", unfollowed := true, recurses := true, plainKeys := false, apart := false, narrowed := true }
def StoreFullUptoSaid : Prop := storeFullUptoRow.holds Tryz.pinned (OpenSpec.upto storeFullSpec)

/-- 'sinewlaw07.StoreSplit', WHERE WHAT IT READS IS OF BULK AT MOST 1048576: true; the input reads as it did. -/
def storeSplitUptoRow : OpenClaim := { program := "ytcnffgcegimelaagreat", sum := "721399ba531ff0c3cc65c7a35823b1a36297aaedfa8bd1ac7c781fc8dbbe5754", func := "sinew/sinewlaw07.StoreSplit", spec := "storeSplit", unfollowed := true, recurses := true, plainKeys := false, apart := false, narrowed := true }
def StoreSplitUptoSaid : Prop := storeSplitUptoRow.holds Tryz.pinned (OpenSpec.upto storeSplitSpec)

/-- 'sinewlaw07.StorePlays', WHERE WHAT IT READS IS OF BULK AT MOST 1048576: true; the input reads as it did. -/
def storePlaysUptoRow : OpenClaim := { program := "ytcnffgcegimelaagreat", sum := "721399ba531ff0c3cc65c7a35823b1a36297aaedfa8bd1ac7c781fc8dbbe5754", func := "sinew/sinewlaw07.StorePlays", spec := "storePlays", unfollowed := true, recurses := true, plainKeys := false, apart := false, narrowed := true }
def StorePlaysUptoSaid : Prop := storePlaysUptoRow.holds Tryz.pinned (OpenSpec.upto storePlaysSpec)

/-- 'sinewlaw07.StoreNobody', WHERE WHAT IT READS IS OF BULK AT MOST 1048576: true; the input reads as it did. -/
def storeNobodyUptoRow : OpenClaim := { program := "ytcnffgcegimelaagreat", sum := "721399ba531ff0c3cc65c7a35823b1a36297aaedfa8bd1ac7c781fc8dbbe5754", func := "sinew/sinewlaw07.StoreNobody", spec := "storeNobody", unfollowed := true, recurses := true, plainKeys := false, apart := false, narrowed := true }
def StoreNobodyUptoSaid : Prop := storeNobodyUptoRow.holds Tryz.pinned (OpenSpec.upto storeNobodySpec)

end Rows
end Go.Proofs.YtcnffgcegimelaaGreat
