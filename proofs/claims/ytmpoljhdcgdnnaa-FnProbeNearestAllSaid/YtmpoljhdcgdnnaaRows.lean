/-
  No cell of these rows narrows 'for every input' (looked for: loops, veiled, ifaces, maps, wideKeys, modest, calm, conditions, laid).
  DERIVED. THE GIVEN ROWS OF THIS SEAT. 9 by the template 'for every input the law returns true; each argument reads behind the call as it read before'; 0 by the template 'total and deterministic' (their statements: YtmpoljhdcgdnnaaTotals.lean).
  GIVEN WITH THE SEED: the statements are not yours to turn. If you find one false, say at which input.
  Laid BY PROGRAM, IN A SANDBOX (cutbox-rows.mjs): the forced cells as the released guide's own fill.sh prints them over the translation d67d07ee066769bf… (all of the seat's roots in one cut). By AI agents, Wed Nov 11 2026. No macro, syntax, notation, axiom, sorry.
-/
import Derived.Test.YtmpoljhdcgdnnaaChecked
import GoSem.Claim
import GoSem.ClaimJoined
import GoSem.ClaimMapViews
import Derived.JoinedTies
import Derived.KernelRfl
namespace Go.Proofs.Ytmpoljhdcgdnnaa
/- THE CELL 'sum', in the pinned program and in every row, IS THE sha256 OF THE DUMP (.gsa) THAT YtmpoljhdcgdnnaaProg.lean LOADS. Nothing in Lean hashes anything: it is a label: what it is worth is what the hold of that sum in a sandbox is worth. -/
noncomputable def Try.pinned : Pinned := { name := "ytmpoljhdcgdnnaa", sum := "d67d07ee066769bfaff0c850e3567dff5748de15a9177a8f41ae6676f534033a", checked := Try.checked }
namespace Rows
def none {H : Type} : Left H := { results := [], args := [] }

/-- 'laws.FnProbeNearestMore': WHATEVER THE INPUT: true; the input reads as it did. -/
def fnProbeNearestMoreSpec : ChangeSpec := { name := "fnProbeNearestMore", fn := fun _ => fun
  | [d] => { results := [.lit (.bool true)], args := [d] }
  | _ => none }
def fnProbeNearestMoreRow : OpenClaim := { program := "ytmpoljhdcgdnnaa", sum := "d67d07ee066769bfaff0c850e3567dff5748de15a9177a8f41ae6676f534033a", func := "loop.example/vectorstore/laws.FnProbeNearestMore", spec := "fnProbeNearestMore", unfollowed := true, recurses := true, apart := false }
def FnProbeNearestMoreSaid : Prop := fnProbeNearestMoreRow.holds Try.pinned (OpenSpec.ofChange fnProbeNearestMoreSpec)

/-- ITS FALSE NEIGHBOUR: 'it returns false'. Refute it at one input. -/
def fnProbeNearestMoreWrong : ChangeSpec := { name := "fnProbeNearestMore", fn := fun _ => fun
  | [d] => { results := [.lit (.bool false)], args := [d] }
  | _ => none }
def FnProbeNearestMoreWrongFalsely : Prop := fnProbeNearestMoreRow.holds Try.pinned (OpenSpec.ofChange fnProbeNearestMoreWrong)

/-- 'laws.FnProbeNearestAll': WHATEVER THE INPUT: true; the input reads as it did. -/
def fnProbeNearestAllSpec : ChangeSpec := { name := "fnProbeNearestAll", fn := fun _ => fun
  | [d] => { results := [.lit (.bool true)], args := [d] }
  | _ => none }
def fnProbeNearestAllRow : OpenClaim := { program := "ytmpoljhdcgdnnaa", sum := "d67d07ee066769bfaff0c850e3567dff5748de15a9177a8f41ae6676f534033a", func := "loop.example/vectorstore/laws.FnProbeNearestAll", spec := "fnProbeNearestAll", unfollowed := true, recurses := true, apart := false }
def FnProbeNearestAllSaid : Prop := fnProbeNearestAllRow.holds Try.pinned (OpenSpec.ofChange fnProbeNearestAllSpec)

/-- ITS FALSE NEIGHBOUR: 'it returns false'. Refute it at one input. -/
def fnProbeNearestAllWrong : ChangeSpec := { name := "fnProbeNearestAll", fn := fun _ => fun
  | [d] => { results := [.lit (.bool false)], args := [d] }
  | _ => none }
def FnProbeNearestAllWrongFalsely : Prop := fnProbeNearestAllRow.holds Try.pinned (OpenSpec.ofChange fnProbeNearestAllWrong)

/-- 'laws.FnExactProbeNearest': WHATEVER THE INPUT: true; the input reads as it did. -/
def fnExactProbeNearestSpec : ChangeSpec := { name := "fnExactProbeNearest", fn := fun _ => fun
  | [d1, d2, d3, d4, d5] => { results := [.lit (.bool true)], args := [d1, d2, d3, d4, d5] }
  | _ => none }
def fnExactProbeNearestRow : OpenClaim := { program := "ytmpoljhdcgdnnaa", sum := "d67d07ee066769bfaff0c850e3567dff5748de15a9177a8f41ae6676f534033a", func := "loop.example/vectorstore/laws.FnExactProbeNearest", spec := "fnExactProbeNearest", unfollowed := true, recurses := true, apart := false }
def FnExactProbeNearestSaid : Prop := fnExactProbeNearestRow.holds Try.pinned (OpenSpec.ofChange fnExactProbeNearestSpec)

/-- ITS FALSE NEIGHBOUR: 'it returns false'. Refute it at one input. -/
def fnExactProbeNearestWrong : ChangeSpec := { name := "fnExactProbeNearest", fn := fun _ => fun
  | [d1, d2, d3, d4, d5] => { results := [.lit (.bool false)], args := [d1, d2, d3, d4, d5] }
  | _ => none }
def FnExactProbeNearestWrongFalsely : Prop := fnExactProbeNearestRow.holds Try.pinned (OpenSpec.ofChange fnExactProbeNearestWrong)

/-- 'laws.FnExactProbeOrder': WHATEVER THE INPUT: true; the input reads as it did. -/
def fnExactProbeOrderSpec : ChangeSpec := { name := "fnExactProbeOrder", fn := fun _ => fun
  | [d1, d2, d3] => { results := [.lit (.bool true)], args := [d1, d2, d3] }
  | _ => none }
def fnExactProbeOrderRow : OpenClaim := { program := "ytmpoljhdcgdnnaa", sum := "d67d07ee066769bfaff0c850e3567dff5748de15a9177a8f41ae6676f534033a", func := "loop.example/vectorstore/laws.FnExactProbeOrder", spec := "fnExactProbeOrder", unfollowed := true, recurses := true, apart := false }
def FnExactProbeOrderSaid : Prop := fnExactProbeOrderRow.holds Try.pinned (OpenSpec.ofChange fnExactProbeOrderSpec)

/-- ITS FALSE NEIGHBOUR: 'it returns false'. Refute it at one input. -/
def fnExactProbeOrderWrong : ChangeSpec := { name := "fnExactProbeOrder", fn := fun _ => fun
  | [d1, d2, d3] => { results := [.lit (.bool false)], args := [d1, d2, d3] }
  | _ => none }
def FnExactProbeOrderWrongFalsely : Prop := fnExactProbeOrderRow.holds Try.pinned (OpenSpec.ofChange fnExactProbeOrderWrong)

/-- 'laws.FnProbeOrderMore': WHATEVER THE INPUT: true; the input reads as it did. -/
def fnProbeOrderMoreSpec : ChangeSpec := { name := "fnProbeOrderMore", fn := fun _ => fun
  | [d] => { results := [.lit (.bool true)], args := [d] }
  | _ => none }
def fnProbeOrderMoreRow : OpenClaim := { program := "ytmpoljhdcgdnnaa", sum := "d67d07ee066769bfaff0c850e3567dff5748de15a9177a8f41ae6676f534033a", func := "loop.example/vectorstore/laws.FnProbeOrderMore", spec := "fnProbeOrderMore", unfollowed := true, recurses := true, apart := false }
def FnProbeOrderMoreSaid : Prop := fnProbeOrderMoreRow.holds Try.pinned (OpenSpec.ofChange fnProbeOrderMoreSpec)

/-- ITS FALSE NEIGHBOUR: 'it returns false'. Refute it at one input. -/
def fnProbeOrderMoreWrong : ChangeSpec := { name := "fnProbeOrderMore", fn := fun _ => fun
  | [d] => { results := [.lit (.bool false)], args := [d] }
  | _ => none }
def FnProbeOrderMoreWrongFalsely : Prop := fnProbeOrderMoreRow.holds Try.pinned (OpenSpec.ofChange fnProbeOrderMoreWrong)

/-- 'laws.FnProbeOrder': WHATEVER THE INPUT: true; the input reads as it did. -/
def fnProbeOrderSpec : ChangeSpec := { name := "fnProbeOrder", fn := fun _ => fun
  | [d] => { results := [.lit (.bool true)], args := [d] }
  | _ => none }
def fnProbeOrderRow : OpenClaim := { program := "ytmpoljhdcgdnnaa", sum := "d67d07ee066769bfaff0c850e3567dff5748de15a9177a8f41ae6676f534033a", func := "loop.example/vectorstore/laws.FnProbeOrder", spec := "fnProbeOrder", unfollowed := true, recurses := true, apart := false }
def FnProbeOrderSaid : Prop := fnProbeOrderRow.holds Try.pinned (OpenSpec.ofChange fnProbeOrderSpec)

/-- ITS FALSE NEIGHBOUR: 'it returns false'. Refute it at one input. -/
def fnProbeOrderWrong : ChangeSpec := { name := "fnProbeOrder", fn := fun _ => fun
  | [d] => { results := [.lit (.bool false)], args := [d] }
  | _ => none }
def FnProbeOrderWrongFalsely : Prop := fnProbeOrderRow.holds Try.pinned (OpenSpec.ofChange fnProbeOrderWrong)

/-- 'laws.FnExactProbeCost': WHATEVER THE INPUT: true; the input reads as it did. -/
def fnExactProbeCostSpec : ChangeSpec := { name := "fnExactProbeCost", fn := fun _ => fun
  | [d1, d2, d3, d4] => { results := [.lit (.bool true)], args := [d1, d2, d3, d4] }
  | _ => none }
def fnExactProbeCostRow : OpenClaim := { program := "ytmpoljhdcgdnnaa", sum := "d67d07ee066769bfaff0c850e3567dff5748de15a9177a8f41ae6676f534033a", func := "loop.example/vectorstore/laws.FnExactProbeCost", spec := "fnExactProbeCost", unfollowed := true, recurses := true, apart := false }
def FnExactProbeCostSaid : Prop := fnExactProbeCostRow.holds Try.pinned (OpenSpec.ofChange fnExactProbeCostSpec)

/-- ITS FALSE NEIGHBOUR: 'it returns false'. Refute it at one input. -/
def fnExactProbeCostWrong : ChangeSpec := { name := "fnExactProbeCost", fn := fun _ => fun
  | [d1, d2, d3, d4] => { results := [.lit (.bool false)], args := [d1, d2, d3, d4] }
  | _ => none }
def FnExactProbeCostWrongFalsely : Prop := fnExactProbeCostRow.holds Try.pinned (OpenSpec.ofChange fnExactProbeCostWrong)

/-- 'laws.FnProbeCostMore': WHATEVER THE INPUT: true; the input reads as it did. -/
def fnProbeCostMoreSpec : ChangeSpec := { name := "fnProbeCostMore", fn := fun _ => fun
  | [d] => { results := [.lit (.bool true)], args := [d] }
  | _ => none }
def fnProbeCostMoreRow : OpenClaim := { program := "ytmpoljhdcgdnnaa", sum := "d67d07ee066769bfaff0c850e3567dff5748de15a9177a8f41ae6676f534033a", func := "loop.example/vectorstore/laws.FnProbeCostMore", spec := "fnProbeCostMore", unfollowed := true, recurses := true, apart := false }
def FnProbeCostMoreSaid : Prop := fnProbeCostMoreRow.holds Try.pinned (OpenSpec.ofChange fnProbeCostMoreSpec)

/-- ITS FALSE NEIGHBOUR: 'it returns false'. Refute it at one input. -/
def fnProbeCostMoreWrong : ChangeSpec := { name := "fnProbeCostMore", fn := fun _ => fun
  | [d] => { results := [.lit (.bool false)], args := [d] }
  | _ => none }
def FnProbeCostMoreWrongFalsely : Prop := fnProbeCostMoreRow.holds Try.pinned (OpenSpec.ofChange fnProbeCostMoreWrong)

/-- 'laws.FnProbeCost': WHATEVER THE INPUT: true; the input reads as it did. -/
def fnProbeCostSpec : ChangeSpec := { name := "fnProbeCost", fn := fun _ => fun
  | [d] => { results := [.lit (.bool true)], args := [d] }
  | _ => none }
def fnProbeCostRow : OpenClaim := { program := "ytmpoljhdcgdnnaa", sum := "d67d07ee066769bfaff0c850e3567dff5748de15a9177a8f41ae6676f534033a", func := "loop.example/vectorstore/laws.FnProbeCost", spec := "fnProbeCost", unfollowed := true, recurses := true, apart := false }
def FnProbeCostSaid : Prop := fnProbeCostRow.holds Try.pinned (OpenSpec.ofChange fnProbeCostSpec)

/-- ITS FALSE NEIGHBOUR: 'it returns false'. Refute it at one input. -/
def fnProbeCostWrong : ChangeSpec := { name := "fnProbeCost", fn := fun _ => fun
  | [d] => { results := [.lit (.bool false)], args := [d] }
  | _ => none }
def FnProbeCostWrongFalsely : Prop := fnProbeCostRow.holds Try.pinned (OpenSpec.ofChange fnProbeCostWrong)

/- THE SECOND FORM. 'bulk': how many values and letters a reading holds, each counted each time it is reached (what is shared counts as often as it is met; a slice's spare places count too). A statement '..UptoSaid' is the law's where the arguments, and the package variables that the reading takes, are together of bulk at most 1048576: NARROWER than '..Said'. Prove '..Said' where nothing that the law and all that it calls make is longer than what came in: it says more and counts as full. Else prove '..UptoSaid'. A law counts once. -/
mutual
def uptoBulk {H : Type} : DataW H → Nat
  | .lit (.string bytes) => bytes.length + 1
  | .lit _ => 1
  | .nil => 1
  | .ptr d => uptoBulk d + 1
  | .slice elems spare => uptoBulkAll elems + uptoBulkAll spare + 1
  | .agg parts => uptoBulkAll parts + 1
  | .iface _ d => uptoBulk d + 1
  | .map entries => uptoBulkEntries entries + 1
  | .held _ => 1
def uptoBulkAll {H : Type} : List (DataW H) → Nat
  | [] => 0
  | d :: r => uptoBulk d + uptoBulkAll r
def uptoBulkEntries {H : Type} : List (Lit × DataW H) → Nat
  | [] => 0
  | x :: r => uptoBulkEntry x + uptoBulkEntries r
def uptoBulkEntry {H : Type} : Lit × DataW H → Nat
  | (.string bytes, d) => bytes.length + uptoBulk d + 1
  | (_, d) => uptoBulk d + 1
 end
def uptoSmall : (H : Type) → List (DataW H) → Bool := fun _ ds => decide (uptoBulkAll ds ≤ 1048576)
def OpenSpec.upto (s : _root_.Go.ChangeSpec) : _root_.Go.OpenSpec := { _root_.Go.OpenSpec.ofChange s with cond := some uptoSmall }

/-- 'laws.FnProbeNearestMore', WHERE WHAT IT READS IS OF BULK AT MOST 1048576: true; the input reads as it did. -/
def fnProbeNearestMoreUptoRow : OpenClaim := { program := "ytmpoljhdcgdnnaa", sum := "d67d07ee066769bfaff0c850e3567dff5748de15a9177a8f41ae6676f534033a", func := "loop.example/vectorstore/laws.FnProbeNearestMore", spec := "fnProbeNearestMore", unfollowed := true, recurses := true, apart := false, narrowed := true }
def FnProbeNearestMoreUptoSaid : Prop := fnProbeNearestMoreUptoRow.holds Try.pinned (OpenSpec.upto fnProbeNearestMoreSpec)

/-- 'laws.FnProbeNearestAll', WHERE WHAT IT READS IS OF BULK AT MOST 1048576: true; the input reads as it did. -/
def fnProbeNearestAllUptoRow : OpenClaim := { program := "ytmpoljhdcgdnnaa", sum := "d67d07ee066769bfaff0c850e3567dff5748de15a9177a8f41ae6676f534033a", func := "loop.example/vectorstore/laws.FnProbeNearestAll", spec := "fnProbeNearestAll", unfollowed := true, recurses := true, apart := false, narrowed := true }
def FnProbeNearestAllUptoSaid : Prop := fnProbeNearestAllUptoRow.holds Try.pinned (OpenSpec.upto fnProbeNearestAllSpec)

/-- 'laws.FnExactProbeNearest', WHERE WHAT IT READS IS OF BULK AT MOST 1048576: true; the input reads as it did. -/
def fnExactProbeNearestUptoRow : OpenClaim := { program := "ytmpoljhdcgdnnaa", sum := "d67d07ee066769bfaff0c850e3567dff5748de15a9177a8f41ae6676f534033a", func := "loop.example/vectorstore/laws.FnExactProbeNearest", spec := "fnExactProbeNearest", unfollowed := true, recurses := true, apart := false, narrowed := true }
def FnExactProbeNearestUptoSaid : Prop := fnExactProbeNearestUptoRow.holds Try.pinned (OpenSpec.upto fnExactProbeNearestSpec)

/-- 'laws.FnExactProbeOrder', WHERE WHAT IT READS IS OF BULK AT MOST 1048576: true; the input reads as it did. -/
def fnExactProbeOrderUptoRow : OpenClaim := { program := "ytmpoljhdcgdnnaa", sum := "d67d07ee066769bfaff0c850e3567dff5748de15a9177a8f41ae6676f534033a", func := "loop.example/vectorstore/laws.FnExactProbeOrder", spec := "fnExactProbeOrder", unfollowed := true, recurses := true, apart := false, narrowed := true }
def FnExactProbeOrderUptoSaid : Prop := fnExactProbeOrderUptoRow.holds Try.pinned (OpenSpec.upto fnExactProbeOrderSpec)

/-- 'laws.FnProbeOrderMore', WHERE WHAT IT READS IS OF BULK AT MOST 1048576: true; the input reads as it did. -/
def fnProbeOrderMoreUptoRow : OpenClaim := { program := "ytmpoljhdcgdnnaa", sum := "d67d07ee066769bfaff0c850e3567dff5748de15a9177a8f41ae6676f534033a", func := "loop.example/vectorstore/laws.FnProbeOrderMore", spec := "fnProbeOrderMore", unfollowed := true, recurses := true, apart := false, narrowed := true }
def FnProbeOrderMoreUptoSaid : Prop := fnProbeOrderMoreUptoRow.holds Try.pinned (OpenSpec.upto fnProbeOrderMoreSpec)

/-- 'laws.FnProbeOrder', WHERE WHAT IT READS IS OF BULK AT MOST 1048576: true; the input reads as it did. -/
def fnProbeOrderUptoRow : OpenClaim := { program := "ytmpoljhdcgdnnaa", sum := "d67d07ee066769bfaff0c850e3567dff5748de15a9177a8f41ae6676f534033a", func := "loop.example/vectorstore/laws.FnProbeOrder", spec := "fnProbeOrder", unfollowed := true, recurses := true, apart := false, narrowed := true }
def FnProbeOrderUptoSaid : Prop := fnProbeOrderUptoRow.holds Try.pinned (OpenSpec.upto fnProbeOrderSpec)

/-- 'laws.FnExactProbeCost', WHERE WHAT IT READS IS OF BULK AT MOST 1048576: true; the input reads as it did. -/
def fnExactProbeCostUptoRow : OpenClaim := { program := "ytmpoljhdcgdnnaa", sum := "d67d07ee066769bfaff0c850e3567dff5748de15a9177a8f41ae6676f534033a", func := "loop.example/vectorstore/laws.FnExactProbeCost", spec := "fnExactProbeCost", unfollowed := true, recurses := true, apart := false, narrowed := true }
def FnExactProbeCostUptoSaid : Prop := fnExactProbeCostUptoRow.holds Try.pinned (OpenSpec.upto fnExactProbeCostSpec)

/-- 'laws.FnProbeCostMore', WHERE WHAT IT READS IS OF BULK AT MOST 1048576: true; the input reads as it did. -/
def fnProbeCostMoreUptoRow : OpenClaim := { program := "ytmpoljhdcgdnnaa", sum := "d67d07ee066769bfaff0c850e3567dff5748de15a9177a8f41ae6676f534033a", func := "loop.example/vectorstore/laws.FnProbeCostMore", spec := "fnProbeCostMore", unfollowed := true, recurses := true, apart := false, narrowed := true }
def FnProbeCostMoreUptoSaid : Prop := fnProbeCostMoreUptoRow.holds Try.pinned (OpenSpec.upto fnProbeCostMoreSpec)

/-- 'laws.FnProbeCost', WHERE WHAT IT READS IS OF BULK AT MOST 1048576: true; the input reads as it did. -/
def fnProbeCostUptoRow : OpenClaim := { program := "ytmpoljhdcgdnnaa", sum := "d67d07ee066769bfaff0c850e3567dff5748de15a9177a8f41ae6676f534033a", func := "loop.example/vectorstore/laws.FnProbeCost", spec := "fnProbeCost", unfollowed := true, recurses := true, apart := false, narrowed := true }
def FnProbeCostUptoSaid : Prop := fnProbeCostUptoRow.holds Try.pinned (OpenSpec.upto fnProbeCostSpec)

end Rows
end Go.Proofs.Ytmpoljhdcgdnnaa
