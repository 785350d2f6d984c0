/-
  No cell of these rows narrows 'for every input' (looked for: loops, veiled, ifaces, maps, wideKeys, modest, calm, conditions, laid).
  DERIVED. THE GIVEN ROWS OF THIS SEAT. 3 by the template 'for every input the law returns true; each argument reads behind the call as it read before'; 0 by the template 'total and deterministic' (their statements: YtbadahijbobioaaTotals.lean).
  GIVEN WITH THE SEED: the statements are not yours to turn. If you find one false, say at which input.
  Laid BY PROGRAM, IN A SANDBOX (cutbox-rows.mjs): the forced cells as the released guide's own fill.sh prints them over the translation a15f8bab6b92179b… (all of the seat's roots in one cut). By AI agents, Wed Nov 11 2026. No macro, syntax, notation, axiom, sorry.
-/
import Derived.Test.YtbadahijbobioaaChecked
import GoSem.Claim
import GoSem.ClaimJoined
import GoSem.ClaimMapViews
import Derived.JoinedTies
import Derived.KernelRfl
namespace Go.Proofs.Ytbadahijbobioaa
/- THE CELL 'sum', in the pinned program and in every row, IS THE sha256 OF THE DUMP (.gsa) THAT YtbadahijbobioaaProg.lean LOADS. Nothing in Lean hashes anything: it is a label: what it is worth is what the hold of that sum in a sandbox is worth. -/
noncomputable def Try.pinned : Pinned := { name := "ytbadahijbobioaa", sum := "a15f8bab6b92179b5d83af53e10a36e641fd5e1f0fed323496d040d277bb9614", checked := Try.checked }
namespace Rows
def none {H : Type} : Left H := { results := [], args := [] }

/-- 'laws.FnExactBitsApart': WHATEVER THE INPUT: true; the input reads as it did. -/
def fnExactBitsApartSpec : ChangeSpec := { name := "fnExactBitsApart", fn := fun _ => fun
  | [d1, d2] => { results := [.lit (.bool true)], args := [d1, d2] }
  | _ => none }
def fnExactBitsApartRow : OpenClaim := { program := "ytbadahijbobioaa", sum := "a15f8bab6b92179b5d83af53e10a36e641fd5e1f0fed323496d040d277bb9614", func := "loop.example/vectorstore/laws.FnExactBitsApart", spec := "fnExactBitsApart", apart := false }
def FnExactBitsApartSaid : Prop := fnExactBitsApartRow.holds Try.pinned (OpenSpec.ofChange fnExactBitsApartSpec)

/-- ITS FALSE NEIGHBOUR: 'it returns false'. Refute it at one input. -/
def fnExactBitsApartWrong : ChangeSpec := { name := "fnExactBitsApart", fn := fun _ => fun
  | [d1, d2] => { results := [.lit (.bool false)], args := [d1, d2] }
  | _ => none }
def FnExactBitsApartWrongFalsely : Prop := fnExactBitsApartRow.holds Try.pinned (OpenSpec.ofChange fnExactBitsApartWrong)

/-- 'laws.FnBitsApart': WHATEVER THE INPUT: true; the input reads as it did. -/
def fnBitsApartSpec : ChangeSpec := { name := "fnBitsApart", fn := fun _ => fun
  | [d] => { results := [.lit (.bool true)], args := [d] }
  | _ => none }
def fnBitsApartRow : OpenClaim := { program := "ytbadahijbobioaa", sum := "a15f8bab6b92179b5d83af53e10a36e641fd5e1f0fed323496d040d277bb9614", func := "loop.example/vectorstore/laws.FnBitsApart", spec := "fnBitsApart", apart := false }
def FnBitsApartSaid : Prop := fnBitsApartRow.holds Try.pinned (OpenSpec.ofChange fnBitsApartSpec)

/-- ITS FALSE NEIGHBOUR: 'it returns false'. Refute it at one input. -/
def fnBitsApartWrong : ChangeSpec := { name := "fnBitsApart", fn := fun _ => fun
  | [d] => { results := [.lit (.bool false)], args := [d] }
  | _ => none }
def FnBitsApartWrongFalsely : Prop := fnBitsApartRow.holds Try.pinned (OpenSpec.ofChange fnBitsApartWrong)

/-- 'laws.FnBitsApartWay': WHATEVER THE INPUT: true; the input reads as it did. -/
def fnBitsApartWaySpec : ChangeSpec := { name := "fnBitsApartWay", fn := fun _ => fun
  | [d] => { results := [.lit (.bool true)], args := [d] }
  | _ => none }
def fnBitsApartWayRow : OpenClaim := { program := "ytbadahijbobioaa", sum := "a15f8bab6b92179b5d83af53e10a36e641fd5e1f0fed323496d040d277bb9614", func := "loop.example/vectorstore/laws.FnBitsApartWay", spec := "fnBitsApartWay", apart := false }
def FnBitsApartWaySaid : Prop := fnBitsApartWayRow.holds Try.pinned (OpenSpec.ofChange fnBitsApartWaySpec)

/-- ITS FALSE NEIGHBOUR: 'it returns false'. Refute it at one input. -/
def fnBitsApartWayWrong : ChangeSpec := { name := "fnBitsApartWay", fn := fun _ => fun
  | [d] => { results := [.lit (.bool false)], args := [d] }
  | _ => none }
def FnBitsApartWayWrongFalsely : Prop := fnBitsApartWayRow.holds Try.pinned (OpenSpec.ofChange fnBitsApartWayWrong)

/- THE SECOND FORM. 'bulk': how many values and letters a reading holds, each counted each time it is reached (what is shared counts as often as it is met; a slice's spare places count too). A statement '..UptoSaid' is the law's where the arguments, and the package variables that the reading takes, are together of bulk at most 1048576: NARROWER than '..Said'. Prove '..Said' where nothing that the law and all that it calls make is longer than what came in: it says more and counts as full. Else prove '..UptoSaid'. A law counts once. -/
mutual
def uptoBulk {H : Type} : DataW H → Nat
  | .lit (.string bytes) => bytes.length + 1
  | .lit _ => 1
  | .nil => 1
  | .ptr d => uptoBulk d + 1
  | .slice elems spare => uptoBulkAll elems + uptoBulkAll spare + 1
  | .agg parts => uptoBulkAll parts + 1
  | .iface _ d => uptoBulk d + 1
  | .map entries => uptoBulkEntries entries + 1
  | .held _ => 1
def uptoBulkAll {H : Type} : List (DataW H) → Nat
  | [] => 0
  | d :: r => uptoBulk d + uptoBulkAll r
def uptoBulkEntries {H : Type} : List (Lit × DataW H) → Nat
  | [] => 0
  | x :: r => uptoBulkEntry x + uptoBulkEntries r
def uptoBulkEntry {H : Type} : Lit × DataW H → Nat
  | (.string bytes, d) => bytes.length + uptoBulk d + 1
  | (_, d) => uptoBulk d + 1
 end
def uptoSmall : (H : Type) → List (DataW H) → Bool := fun _ ds => decide (uptoBulkAll ds ≤ 1048576)
def OpenSpec.upto (s : _root_.Go.ChangeSpec) : _root_.Go.OpenSpec := { _root_.Go.OpenSpec.ofChange s with cond := some uptoSmall }

/-- 'laws.FnExactBitsApart', WHERE WHAT IT READS IS OF BULK AT MOST 1048576: true; the input reads as it did. -/
def fnExactBitsApartUptoRow : OpenClaim := { program := "ytbadahijbobioaa", sum := "a15f8bab6b92179b5d83af53e10a36e641fd5e1f0fed323496d040d277bb9614", func := "loop.example/vectorstore/laws.FnExactBitsApart", spec := "fnExactBitsApart", apart := false, narrowed := true }
def FnExactBitsApartUptoSaid : Prop := fnExactBitsApartUptoRow.holds Try.pinned (OpenSpec.upto fnExactBitsApartSpec)

/-- 'laws.FnBitsApart', WHERE WHAT IT READS IS OF BULK AT MOST 1048576: true; the input reads as it did. -/
def fnBitsApartUptoRow : OpenClaim := { program := "ytbadahijbobioaa", sum := "a15f8bab6b92179b5d83af53e10a36e641fd5e1f0fed323496d040d277bb9614", func := "loop.example/vectorstore/laws.FnBitsApart", spec := "fnBitsApart", apart := false, narrowed := true }
def FnBitsApartUptoSaid : Prop := fnBitsApartUptoRow.holds Try.pinned (OpenSpec.upto fnBitsApartSpec)

/-- 'laws.FnBitsApartWay', WHERE WHAT IT READS IS OF BULK AT MOST 1048576: true; the input reads as it did. -/
def fnBitsApartWayUptoRow : OpenClaim := { program := "ytbadahijbobioaa", sum := "a15f8bab6b92179b5d83af53e10a36e641fd5e1f0fed323496d040d277bb9614", func := "loop.example/vectorstore/laws.FnBitsApartWay", spec := "fnBitsApartWay", apart := false, narrowed := true }
def FnBitsApartWayUptoSaid : Prop := fnBitsApartWayUptoRow.holds Try.pinned (OpenSpec.upto fnBitsApartWaySpec)

end Rows
end Go.Proofs.Ytbadahijbobioaa
