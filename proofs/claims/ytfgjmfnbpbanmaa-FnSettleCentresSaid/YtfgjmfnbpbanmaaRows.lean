/-
  No cell of these rows narrows 'for every input' (looked for: loops, veiled, ifaces, maps, wideKeys, modest, calm, conditions, laid).
  DERIVED. THE GIVEN ROWS OF THIS SEAT. 6 by the template 'for every input the law returns true; each argument reads behind the call as it read before'; 0 by the template 'total and deterministic' (their statements: YtfgjmfnbpbanmaaTotals.lean).
  GIVEN WITH THE SEED: the statements are not yours to turn. If you find one false, say at which input.
  Laid BY PROGRAM, IN A SANDBOX (cutbox-rows.mjs): the forced cells as the released guide's own fill.sh prints them over the translation 86f3133b05e2cfaa… (all of the seat's roots in one cut). By AI agents, Wed Nov 11 2026. No macro, syntax, notation, axiom, sorry.
-/
import Derived.Test.YtfgjmfnbpbanmaaChecked
import GoSem.Claim
import GoSem.ClaimJoined
import GoSem.ClaimMapViews
import Derived.JoinedTies
import Derived.KernelRfl
namespace Go.Proofs.Ytfgjmfnbpbanmaa
/- THE CELL 'sum', in the pinned program and in every row, IS THE sha256 OF THE DUMP (.gsa) THAT YtfgjmfnbpbanmaaProg.lean LOADS. Nothing in Lean hashes anything: it is a label: what it is worth is what the hold of that sum in a sandbox is worth. -/
noncomputable def Try.pinned : Pinned := { name := "ytfgjmfnbpbanmaa", sum := "86f3133b05e2cfaa1d0a1694f26d38c784a621cd723c743d888c8293af7963fd", checked := Try.checked }
namespace Rows
def none {H : Type} : Left H := { results := [], args := [] }

/-- 'laws.FnExactMoveCentres': WHATEVER THE INPUT: true; the input reads as it did. -/
def fnExactMoveCentresSpec : ChangeSpec := { name := "fnExactMoveCentres", fn := fun _ => fun
  | [d1, d2] => { results := [.lit (.bool true)], args := [d1, d2] }
  | _ => none }
def fnExactMoveCentresRow : OpenClaim := { program := "ytfgjmfnbpbanmaa", sum := "86f3133b05e2cfaa1d0a1694f26d38c784a621cd723c743d888c8293af7963fd", func := "loop.example/vectorstore/laws.FnExactMoveCentres", spec := "fnExactMoveCentres", unfollowed := true, recurses := true, apart := false }
def FnExactMoveCentresSaid : Prop := fnExactMoveCentresRow.holds Try.pinned (OpenSpec.ofChange fnExactMoveCentresSpec)

/-- ITS FALSE NEIGHBOUR: 'it returns false'. Refute it at one input. -/
def fnExactMoveCentresWrong : ChangeSpec := { name := "fnExactMoveCentres", fn := fun _ => fun
  | [d1, d2] => { results := [.lit (.bool false)], args := [d1, d2] }
  | _ => none }
def FnExactMoveCentresWrongFalsely : Prop := fnExactMoveCentresRow.holds Try.pinned (OpenSpec.ofChange fnExactMoveCentresWrong)

/-- 'laws.FnMoveCentres': WHATEVER THE INPUT: true; the input reads as it did. -/
def fnMoveCentresSpec : ChangeSpec := { name := "fnMoveCentres", fn := fun _ => fun
  | [d] => { results := [.lit (.bool true)], args := [d] }
  | _ => none }
def fnMoveCentresRow : OpenClaim := { program := "ytfgjmfnbpbanmaa", sum := "86f3133b05e2cfaa1d0a1694f26d38c784a621cd723c743d888c8293af7963fd", func := "loop.example/vectorstore/laws.FnMoveCentres", spec := "fnMoveCentres", unfollowed := true, recurses := true, apart := false }
def FnMoveCentresSaid : Prop := fnMoveCentresRow.holds Try.pinned (OpenSpec.ofChange fnMoveCentresSpec)

/-- ITS FALSE NEIGHBOUR: 'it returns false'. Refute it at one input. -/
def fnMoveCentresWrong : ChangeSpec := { name := "fnMoveCentres", fn := fun _ => fun
  | [d] => { results := [.lit (.bool false)], args := [d] }
  | _ => none }
def FnMoveCentresWrongFalsely : Prop := fnMoveCentresRow.holds Try.pinned (OpenSpec.ofChange fnMoveCentresWrong)

/-- 'laws.FnMoveCentresAlone': WHATEVER THE INPUT: true; the input reads as it did. -/
def fnMoveCentresAloneSpec : ChangeSpec := { name := "fnMoveCentresAlone", fn := fun _ => fun
  | [d] => { results := [.lit (.bool true)], args := [d] }
  | _ => none }
def fnMoveCentresAloneRow : OpenClaim := { program := "ytfgjmfnbpbanmaa", sum := "86f3133b05e2cfaa1d0a1694f26d38c784a621cd723c743d888c8293af7963fd", func := "loop.example/vectorstore/laws.FnMoveCentresAlone", spec := "fnMoveCentresAlone", unfollowed := true, recurses := true, apart := false }
def FnMoveCentresAloneSaid : Prop := fnMoveCentresAloneRow.holds Try.pinned (OpenSpec.ofChange fnMoveCentresAloneSpec)

/-- ITS FALSE NEIGHBOUR: 'it returns false'. Refute it at one input. -/
def fnMoveCentresAloneWrong : ChangeSpec := { name := "fnMoveCentresAlone", fn := fun _ => fun
  | [d] => { results := [.lit (.bool false)], args := [d] }
  | _ => none }
def FnMoveCentresAloneWrongFalsely : Prop := fnMoveCentresAloneRow.holds Try.pinned (OpenSpec.ofChange fnMoveCentresAloneWrong)

/-- 'laws.FnExactSettleCentres': WHATEVER THE INPUT: true; the input reads as it did. -/
def fnExactSettleCentresSpec : ChangeSpec := { name := "fnExactSettleCentres", fn := fun _ => fun
  | [d1, d2] => { results := [.lit (.bool true)], args := [d1, d2] }
  | _ => none }
def fnExactSettleCentresRow : OpenClaim := { program := "ytfgjmfnbpbanmaa", sum := "86f3133b05e2cfaa1d0a1694f26d38c784a621cd723c743d888c8293af7963fd", func := "loop.example/vectorstore/laws.FnExactSettleCentres", spec := "fnExactSettleCentres", unfollowed := true, recurses := true, apart := false }
def FnExactSettleCentresSaid : Prop := fnExactSettleCentresRow.holds Try.pinned (OpenSpec.ofChange fnExactSettleCentresSpec)

/-- ITS FALSE NEIGHBOUR: 'it returns false'. Refute it at one input. -/
def fnExactSettleCentresWrong : ChangeSpec := { name := "fnExactSettleCentres", fn := fun _ => fun
  | [d1, d2] => { results := [.lit (.bool false)], args := [d1, d2] }
  | _ => none }
def FnExactSettleCentresWrongFalsely : Prop := fnExactSettleCentresRow.holds Try.pinned (OpenSpec.ofChange fnExactSettleCentresWrong)

/-- 'laws.FnSettleCentresStep': WHATEVER THE INPUT: true; the input reads as it did. -/
def fnSettleCentresStepSpec : ChangeSpec := { name := "fnSettleCentresStep", fn := fun _ => fun
  | [d] => { results := [.lit (.bool true)], args := [d] }
  | _ => none }
def fnSettleCentresStepRow : OpenClaim := { program := "ytfgjmfnbpbanmaa", sum := "86f3133b05e2cfaa1d0a1694f26d38c784a621cd723c743d888c8293af7963fd", func := "loop.example/vectorstore/laws.FnSettleCentresStep", spec := "fnSettleCentresStep", unfollowed := true, recurses := true, apart := false }
def FnSettleCentresStepSaid : Prop := fnSettleCentresStepRow.holds Try.pinned (OpenSpec.ofChange fnSettleCentresStepSpec)

/-- ITS FALSE NEIGHBOUR: 'it returns false'. Refute it at one input. -/
def fnSettleCentresStepWrong : ChangeSpec := { name := "fnSettleCentresStep", fn := fun _ => fun
  | [d] => { results := [.lit (.bool false)], args := [d] }
  | _ => none }
def FnSettleCentresStepWrongFalsely : Prop := fnSettleCentresStepRow.holds Try.pinned (OpenSpec.ofChange fnSettleCentresStepWrong)

/-- 'laws.FnSettleCentres': WHATEVER THE INPUT: true; the input reads as it did. -/
def fnSettleCentresSpec : ChangeSpec := { name := "fnSettleCentres", fn := fun _ => fun
  | [d] => { results := [.lit (.bool true)], args := [d] }
  | _ => none }
def fnSettleCentresRow : OpenClaim := { program := "ytfgjmfnbpbanmaa", sum := "86f3133b05e2cfaa1d0a1694f26d38c784a621cd723c743d888c8293af7963fd", func := "loop.example/vectorstore/laws.FnSettleCentres", spec := "fnSettleCentres", unfollowed := true, recurses := true, apart := false }
def FnSettleCentresSaid : Prop := fnSettleCentresRow.holds Try.pinned (OpenSpec.ofChange fnSettleCentresSpec)

/-- ITS FALSE NEIGHBOUR: 'it returns false'. Refute it at one input. -/
def fnSettleCentresWrong : ChangeSpec := { name := "fnSettleCentres", fn := fun _ => fun
  | [d] => { results := [.lit (.bool false)], args := [d] }
  | _ => none }
def FnSettleCentresWrongFalsely : Prop := fnSettleCentresRow.holds Try.pinned (OpenSpec.ofChange fnSettleCentresWrong)

/- THE SECOND FORM. 'bulk': how many values and letters a reading holds, each counted each time it is reached (what is shared counts as often as it is met; a slice's spare places count too). A statement '..UptoSaid' is the law's where the arguments, and the package variables that the reading takes, are together of bulk at most 1048576: NARROWER than '..Said'. Prove '..Said' where nothing that the law and all that it calls make is longer than what came in: it says more and counts as full. Else prove '..UptoSaid'. A law counts once. -/
mutual
def uptoBulk {H : Type} : DataW H → Nat
  | .lit (.string bytes) => bytes.length + 1
  | .lit _ => 1
  | .nil => 1
  | .ptr d => uptoBulk d + 1
  | .slice elems spare => uptoBulkAll elems + uptoBulkAll spare + 1
  | .agg parts => uptoBulkAll parts + 1
  | .iface _ d => uptoBulk d + 1
  | .map entries => uptoBulkEntries entries + 1
  | .held _ => 1
def uptoBulkAll {H : Type} : List (DataW H) → Nat
  | [] => 0
  | d :: r => uptoBulk d + uptoBulkAll r
def uptoBulkEntries {H : Type} : List (Lit × DataW H) → Nat
  | [] => 0
  | x :: r => uptoBulkEntry x + uptoBulkEntries r
def uptoBulkEntry {H : Type} : Lit × DataW H → Nat
  | (.string bytes, d) => bytes.length + uptoBulk d + 1
  | (_, d) => uptoBulk d + 1
 end
def uptoSmall : (H : Type) → List (DataW H) → Bool := fun _ ds => decide (uptoBulkAll ds ≤ 1048576)
def OpenSpec.upto (s : _root_.Go.ChangeSpec) : _root_.Go.OpenSpec := { _root_.Go.OpenSpec.ofChange s with cond := some uptoSmall }

/-- 'laws.FnExactMoveCentres', WHERE WHAT IT READS IS OF BULK AT MOST 1048576: true; the input reads as it did. -/
def fnExactMoveCentresUptoRow : OpenClaim := { program := "ytfgjmfnbpbanmaa", sum := "86f3133b05e2cfaa1d0a1694f26d38c784a621cd723c743d888c8293af7963fd", func := "loop.example/vectorstore/laws.FnExactMoveCentres", spec := "fnExactMoveCentres", unfollowed := true, recurses := true, apart := false, narrowed := true }
def FnExactMoveCentresUptoSaid : Prop := fnExactMoveCentresUptoRow.holds Try.pinned (OpenSpec.upto fnExactMoveCentresSpec)

/-- 'laws.FnMoveCentres', WHERE WHAT IT READS IS OF BULK AT MOST 1048576: true; the input reads as it did. -/
def fnMoveCentresUptoRow : OpenClaim := { program := "ytfgjmfnbpbanmaa", sum := "86f3133b05e2cfaa1d0a1694f26d38c784a621cd723c743d888c8293af7963fd", func := "loop.example/vectorstore/laws.FnMoveCentres", spec := "fnMoveCentres", unfollowed := true, recurses := true, apart := false, narrowed := true }
def FnMoveCentresUptoSaid : Prop := fnMoveCentresUptoRow.holds Try.pinned (OpenSpec.upto fnMoveCentresSpec)

/-- 'laws.FnMoveCentresAlone', WHERE WHAT IT READS IS OF BULK AT MOST 1048576: true; the input reads as it did. -/
def fnMoveCentresAloneUptoRow : OpenClaim := { program := "ytfgjmfnbpbanmaa", sum := "86f3133b05e2cfaa1d0a1694f26d38c784a621cd723c743d888c8293af7963fd", func := "loop.example/vectorstore/laws.FnMoveCentresAlone", spec := "fnMoveCentresAlone", unfollowed := true, recurses := true, apart := false, narrowed := true }
def FnMoveCentresAloneUptoSaid : Prop := fnMoveCentresAloneUptoRow.holds Try.pinned (OpenSpec.upto fnMoveCentresAloneSpec)

/-- 'laws.FnExactSettleCentres', WHERE WHAT IT READS IS OF BULK AT MOST 1048576: true; the input reads as it did. -/
def fnExactSettleCentresUptoRow : OpenClaim := { program := "ytfgjmfnbpbanmaa", sum := "86f3133b05e2cfaa1d0a1694f26d38c784a621cd723c743d888c8293af7963fd", func := "loop.example/vectorstore/laws.FnExactSettleCentres", spec := "fnExactSettleCentres", unfollowed := true, recurses := true, apart := false, narrowed := true }
def FnExactSettleCentresUptoSaid : Prop := fnExactSettleCentresUptoRow.holds Try.pinned (OpenSpec.upto fnExactSettleCentresSpec)

/-- 'laws.FnSettleCentresStep', WHERE WHAT IT READS IS OF BULK AT MOST 1048576: true; the input reads as it did. -/
def fnSettleCentresStepUptoRow : OpenClaim := { program := "ytfgjmfnbpbanmaa", sum := "86f3133b05e2cfaa1d0a1694f26d38c784a621cd723c743d888c8293af7963fd", func := "loop.example/vectorstore/laws.FnSettleCentresStep", spec := "fnSettleCentresStep", unfollowed := true, recurses := true, apart := false, narrowed := true }
def FnSettleCentresStepUptoSaid : Prop := fnSettleCentresStepUptoRow.holds Try.pinned (OpenSpec.upto fnSettleCentresStepSpec)

/-- 'laws.FnSettleCentres', WHERE WHAT IT READS IS OF BULK AT MOST 1048576: true; the input reads as it did. -/
def fnSettleCentresUptoRow : OpenClaim := { program := "ytfgjmfnbpbanmaa", sum := "86f3133b05e2cfaa1d0a1694f26d38c784a621cd723c743d888c8293af7963fd", func := "loop.example/vectorstore/laws.FnSettleCentres", spec := "fnSettleCentres", unfollowed := true, recurses := true, apart := false, narrowed := true }
def FnSettleCentresUptoSaid : Prop := fnSettleCentresUptoRow.holds Try.pinned (OpenSpec.upto fnSettleCentresSpec)

end Rows
end Go.Proofs.Ytfgjmfnbpbanmaa
