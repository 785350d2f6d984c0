/-
  No cell of these rows narrows 'for every input' (looked for: loops, veiled, ifaces, maps, wideKeys, modest, calm, conditions, laid).
  DERIVED. THE GIVEN ROWS OF THIS SEAT. 11 by the template 'for every input the law returns true; each argument reads behind the call as it read before'; 0 by the template 'total and deterministic' (their statements: YtelcnjdemepmfaaTotals.lean).
  GIVEN WITH THE SEED: the statements are not yours to turn. If you find one false, say at which input.
  Laid BY PROGRAM, IN A SANDBOX (cutbox-rows.mjs): the forced cells as the released guide's own fill.sh prints them over the translation 41fdc3beb3d24083… (all of the seat's roots in one cut). By AI agents, Wed Nov 11 2026. No macro, syntax, notation, axiom, sorry.
-/
import Derived.Test.YtelcnjdemepmfaaChecked
import GoSem.Claim
import GoSem.ClaimJoined
import GoSem.ClaimMapViews
import Derived.JoinedTies
import Derived.KernelRfl
namespace Go.Proofs.Ytelcnjdemepmfaa
/- THE CELL 'sum', in the pinned program and in every row, IS THE sha256 OF THE DUMP (.gsa) THAT YtelcnjdemepmfaaProg.lean LOADS. Nothing in Lean hashes anything: it is a label: what it is worth is what the hold of that sum in a sandbox is worth. -/
noncomputable def Try.pinned : Pinned := { name := "ytelcnjdemepmfaa", sum := "41fdc3beb3d240838102ba06d8890d675f0ae06283de9d468cb0054afb63f812", checked := Try.checked }
namespace Rows
def none {H : Type} : Left H := { results := [], args := [] }

/-- 'laws.FnExactSpreadOf': WHATEVER THE INPUT: true; the input reads as it did. -/
def fnExactSpreadOfSpec : ChangeSpec := { name := "fnExactSpreadOf", fn := fun _ => fun
  | [d1, d2] => { results := [.lit (.bool true)], args := [d1, d2] }
  | _ => none }
def fnExactSpreadOfRow : OpenClaim := { program := "ytelcnjdemepmfaa", sum := "41fdc3beb3d240838102ba06d8890d675f0ae06283de9d468cb0054afb63f812", func := "loop.example/vectorstore/laws.FnExactSpreadOf", spec := "fnExactSpreadOf", unfollowed := true, recurses := true, apart := false }
def FnExactSpreadOfSaid : Prop := fnExactSpreadOfRow.holds Try.pinned (OpenSpec.ofChange fnExactSpreadOfSpec)

/-- ITS FALSE NEIGHBOUR: 'it returns false'. Refute it at one input. -/
def fnExactSpreadOfWrong : ChangeSpec := { name := "fnExactSpreadOf", fn := fun _ => fun
  | [d1, d2] => { results := [.lit (.bool false)], args := [d1, d2] }
  | _ => none }
def FnExactSpreadOfWrongFalsely : Prop := fnExactSpreadOfRow.holds Try.pinned (OpenSpec.ofChange fnExactSpreadOfWrong)

/-- 'laws.FnSpreadOfCentre': WHATEVER THE INPUT: true; the input reads as it did. -/
def fnSpreadOfCentreSpec : ChangeSpec := { name := "fnSpreadOfCentre", fn := fun _ => fun
  | [d] => { results := [.lit (.bool true)], args := [d] }
  | _ => none }
def fnSpreadOfCentreRow : OpenClaim := { program := "ytelcnjdemepmfaa", sum := "41fdc3beb3d240838102ba06d8890d675f0ae06283de9d468cb0054afb63f812", func := "loop.example/vectorstore/laws.FnSpreadOfCentre", spec := "fnSpreadOfCentre", unfollowed := true, recurses := true, apart := false }
def FnSpreadOfCentreSaid : Prop := fnSpreadOfCentreRow.holds Try.pinned (OpenSpec.ofChange fnSpreadOfCentreSpec)

/-- ITS FALSE NEIGHBOUR: 'it returns false'. Refute it at one input. -/
def fnSpreadOfCentreWrong : ChangeSpec := { name := "fnSpreadOfCentre", fn := fun _ => fun
  | [d] => { results := [.lit (.bool false)], args := [d] }
  | _ => none }
def FnSpreadOfCentreWrongFalsely : Prop := fnSpreadOfCentreRow.holds Try.pinned (OpenSpec.ofChange fnSpreadOfCentreWrong)

/-- 'laws.FnSpreadOfMore': WHATEVER THE INPUT: true; the input reads as it did. -/
def fnSpreadOfMoreSpec : ChangeSpec := { name := "fnSpreadOfMore", fn := fun _ => fun
  | [d] => { results := [.lit (.bool true)], args := [d] }
  | _ => none }
def fnSpreadOfMoreRow : OpenClaim := { program := "ytelcnjdemepmfaa", sum := "41fdc3beb3d240838102ba06d8890d675f0ae06283de9d468cb0054afb63f812", func := "loop.example/vectorstore/laws.FnSpreadOfMore", spec := "fnSpreadOfMore", unfollowed := true, recurses := true, apart := false }
def FnSpreadOfMoreSaid : Prop := fnSpreadOfMoreRow.holds Try.pinned (OpenSpec.ofChange fnSpreadOfMoreSpec)

/-- ITS FALSE NEIGHBOUR: 'it returns false'. Refute it at one input. -/
def fnSpreadOfMoreWrong : ChangeSpec := { name := "fnSpreadOfMore", fn := fun _ => fun
  | [d] => { results := [.lit (.bool false)], args := [d] }
  | _ => none }
def FnSpreadOfMoreWrongFalsely : Prop := fnSpreadOfMoreRow.holds Try.pinned (OpenSpec.ofChange fnSpreadOfMoreWrong)

/-- 'laws.FnExactAssignItems': WHATEVER THE INPUT: true; the input reads as it did. -/
def fnExactAssignItemsSpec : ChangeSpec := { name := "fnExactAssignItems", fn := fun _ => fun
  | [d1, d2] => { results := [.lit (.bool true)], args := [d1, d2] }
  | _ => none }
def fnExactAssignItemsRow : OpenClaim := { program := "ytelcnjdemepmfaa", sum := "41fdc3beb3d240838102ba06d8890d675f0ae06283de9d468cb0054afb63f812", func := "loop.example/vectorstore/laws.FnExactAssignItems", spec := "fnExactAssignItems", unfollowed := true, recurses := true, apart := false }
def FnExactAssignItemsSaid : Prop := fnExactAssignItemsRow.holds Try.pinned (OpenSpec.ofChange fnExactAssignItemsSpec)

/-- ITS FALSE NEIGHBOUR: 'it returns false'. Refute it at one input. -/
def fnExactAssignItemsWrong : ChangeSpec := { name := "fnExactAssignItems", fn := fun _ => fun
  | [d1, d2] => { results := [.lit (.bool false)], args := [d1, d2] }
  | _ => none }
def FnExactAssignItemsWrongFalsely : Prop := fnExactAssignItemsRow.holds Try.pinned (OpenSpec.ofChange fnExactAssignItemsWrong)

/-- 'laws.FnSpreadOf': WHATEVER THE INPUT: true; the input reads as it did. -/
def fnSpreadOfSpec : ChangeSpec := { name := "fnSpreadOf", fn := fun _ => fun
  | [d] => { results := [.lit (.bool true)], args := [d] }
  | _ => none }
def fnSpreadOfRow : OpenClaim := { program := "ytelcnjdemepmfaa", sum := "41fdc3beb3d240838102ba06d8890d675f0ae06283de9d468cb0054afb63f812", func := "loop.example/vectorstore/laws.FnSpreadOf", spec := "fnSpreadOf", unfollowed := true, recurses := true, apart := false }
def FnSpreadOfSaid : Prop := fnSpreadOfRow.holds Try.pinned (OpenSpec.ofChange fnSpreadOfSpec)

/-- ITS FALSE NEIGHBOUR: 'it returns false'. Refute it at one input. -/
def fnSpreadOfWrong : ChangeSpec := { name := "fnSpreadOf", fn := fun _ => fun
  | [d] => { results := [.lit (.bool false)], args := [d] }
  | _ => none }
def FnSpreadOfWrongFalsely : Prop := fnSpreadOfRow.holds Try.pinned (OpenSpec.ofChange fnSpreadOfWrong)

/-- 'laws.FnAssignItemsOne': WHATEVER THE INPUT: true; the input reads as it did. -/
def fnAssignItemsOneSpec : ChangeSpec := { name := "fnAssignItemsOne", fn := fun _ => fun
  | [d] => { results := [.lit (.bool true)], args := [d] }
  | _ => none }
def fnAssignItemsOneRow : OpenClaim := { program := "ytelcnjdemepmfaa", sum := "41fdc3beb3d240838102ba06d8890d675f0ae06283de9d468cb0054afb63f812", func := "loop.example/vectorstore/laws.FnAssignItemsOne", spec := "fnAssignItemsOne", unfollowed := true, recurses := true, apart := false }
def FnAssignItemsOneSaid : Prop := fnAssignItemsOneRow.holds Try.pinned (OpenSpec.ofChange fnAssignItemsOneSpec)

/-- ITS FALSE NEIGHBOUR: 'it returns false'. Refute it at one input. -/
def fnAssignItemsOneWrong : ChangeSpec := { name := "fnAssignItemsOne", fn := fun _ => fun
  | [d] => { results := [.lit (.bool false)], args := [d] }
  | _ => none }
def FnAssignItemsOneWrongFalsely : Prop := fnAssignItemsOneRow.holds Try.pinned (OpenSpec.ofChange fnAssignItemsOneWrong)

/-- 'laws.FnAssignItems': WHATEVER THE INPUT: true; the input reads as it did. -/
def fnAssignItemsSpec : ChangeSpec := { name := "fnAssignItems", fn := fun _ => fun
  | [d] => { results := [.lit (.bool true)], args := [d] }
  | _ => none }
def fnAssignItemsRow : OpenClaim := { program := "ytelcnjdemepmfaa", sum := "41fdc3beb3d240838102ba06d8890d675f0ae06283de9d468cb0054afb63f812", func := "loop.example/vectorstore/laws.FnAssignItems", spec := "fnAssignItems", unfollowed := true, recurses := true, apart := false }
def FnAssignItemsSaid : Prop := fnAssignItemsRow.holds Try.pinned (OpenSpec.ofChange fnAssignItemsSpec)

/-- ITS FALSE NEIGHBOUR: 'it returns false'. Refute it at one input. -/
def fnAssignItemsWrong : ChangeSpec := { name := "fnAssignItems", fn := fun _ => fun
  | [d] => { results := [.lit (.bool false)], args := [d] }
  | _ => none }
def FnAssignItemsWrongFalsely : Prop := fnAssignItemsRow.holds Try.pinned (OpenSpec.ofChange fnAssignItemsWrong)

/-- 'laws.FnExactListsOf': WHATEVER THE INPUT: true; the input reads as it did. -/
def fnExactListsOfSpec : ChangeSpec := { name := "fnExactListsOf", fn := fun _ => fun
  | [d1, d2] => { results := [.lit (.bool true)], args := [d1, d2] }
  | _ => none }
def fnExactListsOfRow : OpenClaim := { program := "ytelcnjdemepmfaa", sum := "41fdc3beb3d240838102ba06d8890d675f0ae06283de9d468cb0054afb63f812", func := "loop.example/vectorstore/laws.FnExactListsOf", spec := "fnExactListsOf", unfollowed := true, recurses := true, apart := false }
def FnExactListsOfSaid : Prop := fnExactListsOfRow.holds Try.pinned (OpenSpec.ofChange fnExactListsOfSpec)

/-- ITS FALSE NEIGHBOUR: 'it returns false'. Refute it at one input. -/
def fnExactListsOfWrong : ChangeSpec := { name := "fnExactListsOf", fn := fun _ => fun
  | [d1, d2] => { results := [.lit (.bool false)], args := [d1, d2] }
  | _ => none }
def FnExactListsOfWrongFalsely : Prop := fnExactListsOfRow.holds Try.pinned (OpenSpec.ofChange fnExactListsOfWrong)

/-- 'laws.FnAssignItemsLists': WHATEVER THE INPUT: true; the input reads as it did. -/
def fnAssignItemsListsSpec : ChangeSpec := { name := "fnAssignItemsLists", fn := fun _ => fun
  | [d] => { results := [.lit (.bool true)], args := [d] }
  | _ => none }
def fnAssignItemsListsRow : OpenClaim := { program := "ytelcnjdemepmfaa", sum := "41fdc3beb3d240838102ba06d8890d675f0ae06283de9d468cb0054afb63f812", func := "loop.example/vectorstore/laws.FnAssignItemsLists", spec := "fnAssignItemsLists", unfollowed := true, recurses := true, apart := false }
def FnAssignItemsListsSaid : Prop := fnAssignItemsListsRow.holds Try.pinned (OpenSpec.ofChange fnAssignItemsListsSpec)

/-- ITS FALSE NEIGHBOUR: 'it returns false'. Refute it at one input. -/
def fnAssignItemsListsWrong : ChangeSpec := { name := "fnAssignItemsLists", fn := fun _ => fun
  | [d] => { results := [.lit (.bool false)], args := [d] }
  | _ => none }
def FnAssignItemsListsWrongFalsely : Prop := fnAssignItemsListsRow.holds Try.pinned (OpenSpec.ofChange fnAssignItemsListsWrong)

/-- 'laws.FnListsOfOrder': WHATEVER THE INPUT: true; the input reads as it did. -/
def fnListsOfOrderSpec : ChangeSpec := { name := "fnListsOfOrder", fn := fun _ => fun
  | [d] => { results := [.lit (.bool true)], args := [d] }
  | _ => none }
def fnListsOfOrderRow : OpenClaim := { program := "ytelcnjdemepmfaa", sum := "41fdc3beb3d240838102ba06d8890d675f0ae06283de9d468cb0054afb63f812", func := "loop.example/vectorstore/laws.FnListsOfOrder", spec := "fnListsOfOrder", unfollowed := true, recurses := true, apart := false }
def FnListsOfOrderSaid : Prop := fnListsOfOrderRow.holds Try.pinned (OpenSpec.ofChange fnListsOfOrderSpec)

/-- ITS FALSE NEIGHBOUR: 'it returns false'. Refute it at one input. -/
def fnListsOfOrderWrong : ChangeSpec := { name := "fnListsOfOrder", fn := fun _ => fun
  | [d] => { results := [.lit (.bool false)], args := [d] }
  | _ => none }
def FnListsOfOrderWrongFalsely : Prop := fnListsOfOrderRow.holds Try.pinned (OpenSpec.ofChange fnListsOfOrderWrong)

/-- 'laws.FnListsOf': WHATEVER THE INPUT: true; the input reads as it did. -/
def fnListsOfSpec : ChangeSpec := { name := "fnListsOf", fn := fun _ => fun
  | [d] => { results := [.lit (.bool true)], args := [d] }
  | _ => none }
def fnListsOfRow : OpenClaim := { program := "ytelcnjdemepmfaa", sum := "41fdc3beb3d240838102ba06d8890d675f0ae06283de9d468cb0054afb63f812", func := "loop.example/vectorstore/laws.FnListsOf", spec := "fnListsOf", unfollowed := true, recurses := true, apart := false }
def FnListsOfSaid : Prop := fnListsOfRow.holds Try.pinned (OpenSpec.ofChange fnListsOfSpec)

/-- ITS FALSE NEIGHBOUR: 'it returns false'. Refute it at one input. -/
def fnListsOfWrong : ChangeSpec := { name := "fnListsOf", fn := fun _ => fun
  | [d] => { results := [.lit (.bool false)], args := [d] }
  | _ => none }
def FnListsOfWrongFalsely : Prop := fnListsOfRow.holds Try.pinned (OpenSpec.ofChange fnListsOfWrong)

/- THE SECOND FORM. 'bulk': how many values and letters a reading holds, each counted each time it is reached (what is shared counts as often as it is met; a slice's spare places count too). A statement '..UptoSaid' is the law's where the arguments, and the package variables that the reading takes, are together of bulk at most 1048576: NARROWER than '..Said'. Prove '..Said' where nothing that the law and all that it calls make is longer than what came in: it says more and counts as full. Else prove '..UptoSaid'. A law counts once. -/
mutual
def uptoBulk {H : Type} : DataW H → Nat
  | .lit (.string bytes) => bytes.length + 1
  | .lit _ => 1
  | .nil => 1
  | .ptr d => uptoBulk d + 1
  | .slice elems spare => uptoBulkAll elems + uptoBulkAll spare + 1
  | .agg parts => uptoBulkAll parts + 1
  | .iface _ d => uptoBulk d + 1
  | .map entries => uptoBulkEntries entries + 1
  | .held _ => 1
def uptoBulkAll {H : Type} : List (DataW H) → Nat
  | [] => 0
  | d :: r => uptoBulk d + uptoBulkAll r
def uptoBulkEntries {H : Type} : List (Lit × DataW H) → Nat
  | [] => 0
  | x :: r => uptoBulkEntry x + uptoBulkEntries r
def uptoBulkEntry {H : Type} : Lit × DataW H → Nat
  | (.string bytes, d) => bytes.length + uptoBulk d + 1
  | (_, d) => uptoBulk d + 1
 end
def uptoSmall : (H : Type) → List (DataW H) → Bool := fun _ ds => decide (uptoBulkAll ds ≤ 1048576)
def OpenSpec.upto (s : _root_.Go.ChangeSpec) : _root_.Go.OpenSpec := { _root_.Go.OpenSpec.ofChange s with cond := some uptoSmall }

/-- 'laws.FnExactSpreadOf', WHERE WHAT IT READS IS OF BULK AT MOST 1048576: true; the input reads as it did. -/
def fnExactSpreadOfUptoRow : OpenClaim := { program := "ytelcnjdemepmfaa", sum := "41fdc3beb3d240838102ba06d8890d675f0ae06283de9d468cb0054afb63f812", func := "loop.example/vectorstore/laws.FnExactSpreadOf", spec := "fnExactSpreadOf", unfollowed := true, recurses := true, apart := false, narrowed := true }
def FnExactSpreadOfUptoSaid : Prop := fnExactSpreadOfUptoRow.holds Try.pinned (OpenSpec.upto fnExactSpreadOfSpec)

/-- 'laws.FnSpreadOfCentre', WHERE WHAT IT READS IS OF BULK AT MOST 1048576: true; the input reads as it did. -/
def fnSpreadOfCentreUptoRow : OpenClaim := { program := "ytelcnjdemepmfaa", sum := "41fdc3beb3d240838102ba06d8890d675f0ae06283de9d468cb0054afb63f812", func := "loop.example/vectorstore/laws.FnSpreadOfCentre", spec := "fnSpreadOfCentre", unfollowed := true, recurses := true, apart := false, narrowed := true }
def FnSpreadOfCentreUptoSaid : Prop := fnSpreadOfCentreUptoRow.holds Try.pinned (OpenSpec.upto fnSpreadOfCentreSpec)

/-- 'laws.FnSpreadOfMore', WHERE WHAT IT READS IS OF BULK AT MOST 1048576: true; the input reads as it did. -/
def fnSpreadOfMoreUptoRow : OpenClaim := { program := "ytelcnjdemepmfaa", sum := "41fdc3beb3d240838102ba06d8890d675f0ae06283de9d468cb0054afb63f812", func := "loop.example/vectorstore/laws.FnSpreadOfMore", spec := "fnSpreadOfMore", unfollowed := true, recurses := true, apart := false, narrowed := true }
def FnSpreadOfMoreUptoSaid : Prop := fnSpreadOfMoreUptoRow.holds Try.pinned (OpenSpec.upto fnSpreadOfMoreSpec)

/-- 'laws.FnExactAssignItems', WHERE WHAT IT READS IS OF BULK AT MOST 1048576: true; the input reads as it did. -/
def fnExactAssignItemsUptoRow : OpenClaim := { program := "ytelcnjdemepmfaa", sum := "41fdc3beb3d240838102ba06d8890d675f0ae06283de9d468cb0054afb63f812", func := "loop.example/vectorstore/laws.FnExactAssignItems", spec := "fnExactAssignItems", unfollowed := true, recurses := true, apart := false, narrowed := true }
def FnExactAssignItemsUptoSaid : Prop := fnExactAssignItemsUptoRow.holds Try.pinned (OpenSpec.upto fnExactAssignItemsSpec)

/-- 'laws.FnSpreadOf', WHERE WHAT IT READS IS OF BULK AT MOST 1048576: true; the input reads as it did. -/
def fnSpreadOfUptoRow : OpenClaim := { program := "ytelcnjdemepmfaa", sum := "41fdc3beb3d240838102ba06d8890d675f0ae06283de9d468cb0054afb63f812", func := "loop.example/vectorstore/laws.FnSpreadOf", spec := "fnSpreadOf", unfollowed := true, recurses := true, apart := false, narrowed := true }
def FnSpreadOfUptoSaid : Prop := fnSpreadOfUptoRow.holds Try.pinned (OpenSpec.upto fnSpreadOfSpec)

/-- 'laws.FnAssignItemsOne', WHERE WHAT IT READS IS OF BULK AT MOST 1048576: true; the input reads as it did. -/
def fnAssignItemsOneUptoRow : OpenClaim := { program := "ytelcnjdemepmfaa", sum := "41fdc3beb3d240838102ba06d8890d675f0ae06283de9d468cb0054afb63f812", func := "loop.example/vectorstore/laws.FnAssignItemsOne", spec := "fnAssignItemsOne", unfollowed := true, recurses := true, apart := false, narrowed := true }
def FnAssignItemsOneUptoSaid : Prop := fnAssignItemsOneUptoRow.holds Try.pinned (OpenSpec.upto fnAssignItemsOneSpec)

/-- 'laws.FnAssignItems', WHERE WHAT IT READS IS OF BULK AT MOST 1048576: true; the input reads as it did. -/
def fnAssignItemsUptoRow : OpenClaim := { program := "ytelcnjdemepmfaa", sum := "41fdc3beb3d240838102ba06d8890d675f0ae06283de9d468cb0054afb63f812", func := "loop.example/vectorstore/laws.FnAssignItems", spec := "fnAssignItems", unfollowed := true, recurses := true, apart := false, narrowed := true }
def FnAssignItemsUptoSaid : Prop := fnAssignItemsUptoRow.holds Try.pinned (OpenSpec.upto fnAssignItemsSpec)

/-- 'laws.FnExactListsOf', WHERE WHAT IT READS IS OF BULK AT MOST 1048576: true; the input reads as it did. -/
def fnExactListsOfUptoRow : OpenClaim := { program := "ytelcnjdemepmfaa", sum := "41fdc3beb3d240838102ba06d8890d675f0ae06283de9d468cb0054afb63f812", func := "loop.example/vectorstore/laws.FnExactListsOf", spec := "fnExactListsOf", unfollowed := true, recurses := true, apart := false, narrowed := true }
def FnExactListsOfUptoSaid : Prop := fnExactListsOfUptoRow.holds Try.pinned (OpenSpec.upto fnExactListsOfSpec)

/-- 'laws.FnAssignItemsLists', WHERE WHAT IT READS IS OF BULK AT MOST 1048576: true; the input reads as it did. -/
def fnAssignItemsListsUptoRow : OpenClaim := { program := "ytelcnjdemepmfaa", sum := "41fdc3beb3d240838102ba06d8890d675f0ae06283de9d468cb0054afb63f812", func := "loop.example/vectorstore/laws.FnAssignItemsLists", spec := "fnAssignItemsLists", unfollowed := true, recurses := true, apart := false, narrowed := true }
def FnAssignItemsListsUptoSaid : Prop := fnAssignItemsListsUptoRow.holds Try.pinned (OpenSpec.upto fnAssignItemsListsSpec)

/-- 'laws.FnListsOfOrder', WHERE WHAT IT READS IS OF BULK AT MOST 1048576: true; the input reads as it did. -/
def fnListsOfOrderUptoRow : OpenClaim := { program := "ytelcnjdemepmfaa", sum := "41fdc3beb3d240838102ba06d8890d675f0ae06283de9d468cb0054afb63f812", func := "loop.example/vectorstore/laws.FnListsOfOrder", spec := "fnListsOfOrder", unfollowed := true, recurses := true, apart := false, narrowed := true }
def FnListsOfOrderUptoSaid : Prop := fnListsOfOrderUptoRow.holds Try.pinned (OpenSpec.upto fnListsOfOrderSpec)

/-- 'laws.FnListsOf', WHERE WHAT IT READS IS OF BULK AT MOST 1048576: true; the input reads as it did. -/
def fnListsOfUptoRow : OpenClaim := { program := "ytelcnjdemepmfaa", sum := "41fdc3beb3d240838102ba06d8890d675f0ae06283de9d468cb0054afb63f812", func := "loop.example/vectorstore/laws.FnListsOf", spec := "fnListsOf", unfollowed := true, recurses := true, apart := false, narrowed := true }
def FnListsOfUptoSaid : Prop := fnListsOfUptoRow.holds Try.pinned (OpenSpec.upto fnListsOfSpec)

end Rows
end Go.Proofs.Ytelcnjdemepmfaa
