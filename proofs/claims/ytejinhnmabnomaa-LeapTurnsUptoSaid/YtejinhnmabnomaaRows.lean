/-
  No cell of these rows narrows 'for every input' (looked for: loops, veiled, ifaces, maps, wideKeys, modest, calm, conditions, laid).
  DERIVED. THE GIVEN ROWS OF THIS SEAT. 6 by the template 'for every input the law returns true; each argument reads behind the call as it read before'; 0 by the template 'total and deterministic' (their statements: YtejinhnmabnomaaTotals.lean).
  GIVEN WITH THE SEED: the statements are not yours to turn. If you find one false, say at which input.
  Laid BY PROGRAM, IN A SANDBOX (cutbox-rows.mjs): the forced cells as the released guide's own fill.sh prints them over the translation fd0893f9425c3999… (all of the seat's roots in one cut). By AI agents, Wed Nov 11 2026. No macro, syntax, notation, axiom, sorry.
-/
import Derived.Test.YtejinhnmabnomaaChecked
import GoSem.Claim
import GoSem.ClaimJoined
import GoSem.ClaimMapViews
import Derived.JoinedTies
import Derived.KernelRfl
namespace Go.Proofs.Ytejinhnmabnomaa
/- THE CELL 'sum', in the pinned program and in every row, IS THE sha256 OF THE DUMP (.gsa) THAT YtejinhnmabnomaaProg.lean LOADS. Nothing in Lean hashes anything: it is a label: what it is worth is what the hold of that sum in a sandbox is worth. -/
noncomputable def Try.pinned : Pinned := { name := "ytejinhnmabnomaa", sum := "fd0893f9425c3999010e2ffd34a2941e2a13ca5e11eab4e3918b9a5bf122a098", checked := Try.checked }
namespace Rows
def none {H : Type} : Left H := { results := [], args := [] }

/-- 'sinewlaw12.LeapJoins': WHATEVER THE INPUT: true; the input reads as it did. -/
def leapJoinsSpec : ChangeSpec := { name := "leapJoins", fn := fun _ => fun
  | [d1, d2, d3] => { results := [.lit (.bool true)], args := [d1, d2, d3] }
  | _ => none }
def leapJoinsRow : OpenClaim := { program := "ytejinhnmabnomaa", sum := "fd0893f9425c3999010e2ffd34a2941e2a13ca5e11eab4e3918b9a5bf122a098", func := "sinew/sinewlaw12.LeapJoins", spec := "leapJoins", unfollowed := true, recurses := true, apart := false }
def LeapJoinsSaid : Prop := leapJoinsRow.holds Try.pinned (OpenSpec.ofChange leapJoinsSpec)

/-- ITS FALSE NEIGHBOUR: 'it returns false'. Refute it at one input. -/
def leapJoinsWrong : ChangeSpec := { name := "leapJoins", fn := fun _ => fun
  | [d1, d2, d3] => { results := [.lit (.bool false)], args := [d1, d2, d3] }
  | _ => none }
def LeapJoinsWrongFalsely : Prop := leapJoinsRow.holds Try.pinned (OpenSpec.ofChange leapJoinsWrong)

/-- 'sinewlaw12.LeapRows': WHATEVER THE INPUT: true; the input reads as it did. -/
def leapRowsSpec : ChangeSpec := { name := "leapRows", fn := fun _ => fun
  | [d1, d2, d3] => { results := [.lit (.bool true)], args := [d1, d2, d3] }
  | _ => none }
def leapRowsRow : OpenClaim := { program := "ytejinhnmabnomaa", sum := "fd0893f9425c3999010e2ffd34a2941e2a13ca5e11eab4e3918b9a5bf122a098", func := "sinew/sinewlaw12.LeapRows", spec := "leapRows", unfollowed := true, recurses := true, apart := false }
def LeapRowsSaid : Prop := leapRowsRow.holds Try.pinned (OpenSpec.ofChange leapRowsSpec)

/-- ITS FALSE NEIGHBOUR: 'it returns false'. Refute it at one input. -/
def leapRowsWrong : ChangeSpec := { name := "leapRows", fn := fun _ => fun
  | [d1, d2, d3] => { results := [.lit (.bool false)], args := [d1, d2, d3] }
  | _ => none }
def LeapRowsWrongFalsely : Prop := leapRowsRow.holds Try.pinned (OpenSpec.ofChange leapRowsWrong)

/-- 'sinewlaw12.LeapKeeps': WHATEVER THE INPUT: true; the input reads as it did. -/
def leapKeepsSpec : ChangeSpec := { name := "leapKeeps", fn := fun _ => fun
  | [d1, d2, d3] => { results := [.lit (.bool true)], args := [d1, d2, d3] }
  | _ => none }
def leapKeepsRow : OpenClaim := { program := "ytejinhnmabnomaa", sum := "fd0893f9425c3999010e2ffd34a2941e2a13ca5e11eab4e3918b9a5bf122a098", func := "sinew/sinewlaw12.LeapKeeps", spec := "leapKeeps", unfollowed := true, recurses := true, apart := false }
def LeapKeepsSaid : Prop := leapKeepsRow.holds Try.pinned (OpenSpec.ofChange leapKeepsSpec)

/-- ITS FALSE NEIGHBOUR: 'it returns false'. Refute it at one input. -/
def leapKeepsWrong : ChangeSpec := { name := "leapKeeps", fn := fun _ => fun
  | [d1, d2, d3] => { results := [.lit (.bool false)], args := [d1, d2, d3] }
  | _ => none }
def LeapKeepsWrongFalsely : Prop := leapKeepsRow.holds Try.pinned (OpenSpec.ofChange leapKeepsWrong)

/-- 'sinewlaw12.LeapTurns': WHATEVER THE INPUT: true; the input reads as it did. -/
def leapTurnsSpec : ChangeSpec := { name := "leapTurns", fn := fun _ => fun
  | [d1, d2, d3] => { results := [.lit (.bool true)], args := [d1, d2, d3] }
  | _ => none }
def leapTurnsRow : OpenClaim := { program := "ytejinhnmabnomaa", sum := "fd0893f9425c3999010e2ffd34a2941e2a13ca5e11eab4e3918b9a5bf122a098", func := "sinew/sinewlaw12.LeapTurns", spec := "leapTurns", unfollowed := true, recurses := true, apart := false }
def LeapTurnsSaid : Prop := leapTurnsRow.holds Try.pinned (OpenSpec.ofChange leapTurnsSpec)

/-- ITS FALSE NEIGHBOUR: 'it returns false'. Refute it at one input. -/
def leapTurnsWrong : ChangeSpec := { name := "leapTurns", fn := fun _ => fun
  | [d1, d2, d3] => { results := [.lit (.bool false)], args := [d1, d2, d3] }
  | _ => none }
def LeapTurnsWrongFalsely : Prop := leapTurnsRow.holds Try.pinned (OpenSpec.ofChange leapTurnsWrong)

/-- 'sinewlaw12.LeapMany': WHATEVER THE INPUT: true; the input reads as it did. -/
def leapManySpec : ChangeSpec := { name := "leapMany", fn := fun _ => fun
  | [d1, d2] => { results := [.lit (.bool true)], args := [d1, d2] }
  | _ => none }
def leapManyRow : OpenClaim := { program := "ytejinhnmabnomaa", sum := "fd0893f9425c3999010e2ffd34a2941e2a13ca5e11eab4e3918b9a5bf122a098", func := "sinew/sinewlaw12.LeapMany", spec := "leapMany", unfollowed := true, recurses := true, apart := false }
def LeapManySaid : Prop := leapManyRow.holds Try.pinned (OpenSpec.ofChange leapManySpec)

/-- ITS FALSE NEIGHBOUR: 'it returns false'. Refute it at one input. -/
def leapManyWrong : ChangeSpec := { name := "leapMany", fn := fun _ => fun
  | [d1, d2] => { results := [.lit (.bool false)], args := [d1, d2] }
  | _ => none }
def LeapManyWrongFalsely : Prop := leapManyRow.holds Try.pinned (OpenSpec.ofChange leapManyWrong)

/-- 'sinewlaw12.LeapFewer': WHATEVER THE INPUT: true; the input reads as it did. -/
def leapFewerSpec : ChangeSpec := { name := "leapFewer", fn := fun _ => fun
  | [d1, d2, d3] => { results := [.lit (.bool true)], args := [d1, d2, d3] }
  | _ => none }
def leapFewerRow : OpenClaim := { program := "ytejinhnmabnomaa", sum := "fd0893f9425c3999010e2ffd34a2941e2a13ca5e11eab4e3918b9a5bf122a098", func := "sinew/sinewlaw12.LeapFewer", spec := "leapFewer", unfollowed := true, recurses := true, apart := false }
def LeapFewerSaid : Prop := leapFewerRow.holds Try.pinned (OpenSpec.ofChange leapFewerSpec)

/-- ITS FALSE NEIGHBOUR: 'it returns false'. Refute it at one input. -/
def leapFewerWrong : ChangeSpec := { name := "leapFewer", fn := fun _ => fun
  | [d1, d2, d3] => { results := [.lit (.bool false)], args := [d1, d2, d3] }
  | _ => none }
def LeapFewerWrongFalsely : Prop := leapFewerRow.holds Try.pinned (OpenSpec.ofChange leapFewerWrong)

/- THE SECOND FORM. 'bulk': how many values and letters a reading holds, each counted each time it is reached (what is shared counts as often as it is met; a slice's spare places count too). A statement '..UptoSaid' is the law's where the arguments, and the package variables that the reading takes, are together of bulk at most 1048576: NARROWER than '..Said'. Prove '..Said' where nothing that the law and all that it calls make is longer than what came in: it says more and counts as full. Else prove '..UptoSaid'. A law counts once. -/
mutual
def uptoBulk {H : Type} : DataW H → Nat
  | .lit (.string bytes) => bytes.length + 1
  | .lit _ => 1
  | .nil => 1
  | .ptr d => uptoBulk d + 1
  | .slice elems spare => uptoBulkAll elems + uptoBulkAll spare + 1
  | .agg parts => uptoBulkAll parts + 1
  | .iface _ d => uptoBulk d + 1
  | .map entries => uptoBulkEntries entries + 1
  | .held _ => 1
def uptoBulkAll {H : Type} : List (DataW H) → Nat
  | [] => 0
  | d :: r => uptoBulk d + uptoBulkAll r
def uptoBulkEntries {H : Type} : List (Lit × DataW H) → Nat
  | [] => 0
  | x :: r => uptoBulkEntry x + uptoBulkEntries r
def uptoBulkEntry {H : Type} : Lit × DataW H → Nat
  | (.string bytes, d) => bytes.length + uptoBulk d + 1
  | (_, d) => uptoBulk d + 1
 end
def uptoSmall : (H : Type) → List (DataW H) → Bool := fun _ ds => decide (uptoBulkAll ds ≤ 1048576)
def OpenSpec.upto (s : _root_.Go.ChangeSpec) : _root_.Go.OpenSpec := { _root_.Go.OpenSpec.ofChange s with cond := some uptoSmall }

/-- 'sinewlaw12.LeapJoins', WHERE WHAT IT READS IS OF BULK AT MOST 1048576: true; the input reads as it did. -/
def leapJoinsUptoRow : OpenClaim := { program := "ytejinhnmabnomaa", sum := "fd0893f9425c3999010e2ffd34a2941e2a13ca5e11eab4e3918b9a5bf122a098", func := "sinew/sinewlaw12.LeapJoins", spec := "leapJoins", unfollowed := true, recurses := true, apart := false, narrowed := true }
def LeapJoinsUptoSaid : Prop := leapJoinsUptoRow.holds Try.pinned (OpenSpec.upto leapJoinsSpec)

/-- 'sinewlaw12.LeapRows', WHERE WHAT IT READS IS OF BULK AT MOST 1048576: true; the input reads as it did. -/
def leapRowsUptoRow : OpenClaim := { program := "ytejinhnmabnomaa", sum := "fd0893f9425c3999010e2ffd34a2941e2a13ca5e11eab4e3918b9a5bf122a098", func := "sinew/sinewlaw12.LeapRows", spec := "leapRows", unfollowed := true, recurses := true, apart := false, narrowed := true }
def LeapRowsUptoSaid : Prop := leapRowsUptoRow.holds Try.pinned (OpenSpec.upto leapRowsSpec)

/-- 'sinewlaw12.LeapKeeps', WHERE WHAT IT READS IS OF BULK AT MOST 1048576: true; the input reads as it did. -/
def leapKeepsUptoRow : OpenClaim := { program := "ytejinhnmabnomaa", sum := "fd0893f9425c3999010e2ffd34a2941e2a13ca5e11eab4e3918b9a5bf122a098", func := "sinew/sinewlaw12.LeapKeeps", spec := "leapKeeps", unfollowed := true, recurses := true, apart := false, narrowed := true }
def LeapKeepsUptoSaid : Prop := leapKeepsUptoRow.holds Try.pinned (OpenSpec.upto leapKeepsSpec)

/-- 'sinewlaw12.LeapTurns', WHERE WHAT IT READS IS OF BULK AT MOST 1048576: true; the input reads as it did. -/
def leapTurnsUptoRow : OpenClaim := { program := "ytejinhnmabnomaa", sum := "fd0893f9425c3999010e2ffd34a2941e2a13ca5e11eab4e3918b9a5bf122a098", func := "sinew/sinewlaw12.LeapTurns", spec := "leapTurns", unfollowed := true, recurses := true, apart := false, narrowed := true }
def LeapTurnsUptoSaid : Prop := leapTurnsUptoRow.holds Try.pinned (OpenSpec.upto leapTurnsSpec)

/-- 'sinewlaw12.LeapMany', WHERE WHAT IT READS IS OF BULK AT MOST 1048576: true; the input reads as it did. -/
def leapManyUptoRow : OpenClaim := { program := "ytejinhnmabnomaa", sum := "fd0893f9425c3999010e2ffd34a2941e2a13ca5e11eab4e3918b9a5bf122a098", func := "sinew/sinewlaw12.LeapMany", spec := "leapMany", unfollowed := true, recurses := true, apart := false, narrowed := true }
def LeapManyUptoSaid : Prop := leapManyUptoRow.holds Try.pinned (OpenSpec.upto leapManySpec)

/-- 'sinewlaw12.LeapFewer', WHERE WHAT IT READS IS OF BULK AT MOST 1048576: true; the input reads as it did. -/
def leapFewerUptoRow : OpenClaim := { program := "ytejinhnmabnomaa", sum := "fd0893f9425c3999010e2ffd34a2941e2a13ca5e11eab4e3918b9a5bf122a098", func := "sinew/sinewlaw12.LeapFewer", spec := "leapFewer", unfollowed := true, recurses := true, apart := false, narrowed := true }
def LeapFewerUptoSaid : Prop := leapFewerUptoRow.holds Try.pinned (OpenSpec.upto leapFewerSpec)

end Rows
end Go.Proofs.Ytejinhnmabnomaa
