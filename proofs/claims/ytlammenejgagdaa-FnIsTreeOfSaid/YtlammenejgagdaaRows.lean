/-
  No cell of these rows narrows 'for every input' (looked for: loops, veiled, ifaces, maps, wideKeys, modest, calm, conditions, laid).
  DERIVED. THE GIVEN ROWS OF THIS SEAT. 6 by the template 'for every input the law returns true; each argument reads behind the call as it read before'; 0 by the template 'total and deterministic' (their statements: YtlammenejgagdaaTotals.lean).
  GIVEN WITH THE SEED: the statements are not yours to turn. If you find one false, say at which input.
  Laid BY PROGRAM, IN A SANDBOX (cutbox-rows.mjs): the forced cells as the released guide's own fill.sh prints them over the translation f0f35d67bf634f64… (all of the seat's roots in one cut). By AI agents, Wed Nov 11 2026. No macro, syntax, notation, axiom, sorry.
-/
import Derived.Test.YtlammenejgagdaaChecked
import GoSem.Claim
import GoSem.ClaimJoined
import GoSem.ClaimMapViews
import Derived.JoinedTies
import Derived.KernelRfl
namespace Go.Proofs.Ytlammenejgagdaa
/- THE CELL 'sum', in the pinned program and in every row, IS THE sha256 OF THE DUMP (.gsa) THAT YtlammenejgagdaaProg.lean LOADS. Nothing in Lean hashes anything: it is a label: what it is worth is what the hold of that sum in a sandbox is worth. -/
noncomputable def Try.pinned : Pinned := { name := "ytlammenejgagdaa", sum := "f0f35d67bf634f643f68f73b2d20323c9c78ee939e2d02ad9c0dc1a1cf4fdd80", checked := Try.checked }
namespace Rows
def none {H : Type} : Left H := { results := [], args := [] }

/-- 'laws.FnIsTreeOf': WHATEVER THE INPUT: true; the input reads as it did. -/
def fnIsTreeOfSpec : ChangeSpec := { name := "fnIsTreeOf", fn := fun _ => fun
  | [d] => { results := [.lit (.bool true)], args := [d] }
  | _ => none }
def fnIsTreeOfRow : OpenClaim := { program := "ytlammenejgagdaa", sum := "f0f35d67bf634f643f68f73b2d20323c9c78ee939e2d02ad9c0dc1a1cf4fdd80", func := "loop.example/vectorstore/laws.FnIsTreeOf", spec := "fnIsTreeOf", unfollowed := true, recurses := true, apart := false }
def FnIsTreeOfSaid : Prop := fnIsTreeOfRow.holds Try.pinned (OpenSpec.ofChange fnIsTreeOfSpec)

/-- ITS FALSE NEIGHBOUR: 'it returns false'. Refute it at one input. -/
def fnIsTreeOfWrong : ChangeSpec := { name := "fnIsTreeOf", fn := fun _ => fun
  | [d] => { results := [.lit (.bool false)], args := [d] }
  | _ => none }
def FnIsTreeOfWrongFalsely : Prop := fnIsTreeOfRow.holds Try.pinned (OpenSpec.ofChange fnIsTreeOfWrong)

/-- 'laws.FnTreeNearest': WHATEVER THE INPUT: true; the input reads as it did. -/
def fnTreeNearestSpec : ChangeSpec := { name := "fnTreeNearest", fn := fun _ => fun
  | [d] => { results := [.lit (.bool true)], args := [d] }
  | _ => none }
def fnTreeNearestRow : OpenClaim := { program := "ytlammenejgagdaa", sum := "f0f35d67bf634f643f68f73b2d20323c9c78ee939e2d02ad9c0dc1a1cf4fdd80", func := "loop.example/vectorstore/laws.FnTreeNearest", spec := "fnTreeNearest", unfollowed := true, recurses := true, apart := false }
def FnTreeNearestSaid : Prop := fnTreeNearestRow.holds Try.pinned (OpenSpec.ofChange fnTreeNearestSpec)

/-- ITS FALSE NEIGHBOUR: 'it returns false'. Refute it at one input. -/
def fnTreeNearestWrong : ChangeSpec := { name := "fnTreeNearest", fn := fun _ => fun
  | [d] => { results := [.lit (.bool false)], args := [d] }
  | _ => none }
def FnTreeNearestWrongFalsely : Prop := fnTreeNearestRow.holds Try.pinned (OpenSpec.ofChange fnTreeNearestWrong)

/-- 'laws.FnTreeVisitsAll': WHATEVER THE INPUT: true; the input reads as it did. -/
def fnTreeVisitsAllSpec : ChangeSpec := { name := "fnTreeVisitsAll", fn := fun _ => fun
  | [d] => { results := [.lit (.bool true)], args := [d] }
  | _ => none }
def fnTreeVisitsAllRow : OpenClaim := { program := "ytlammenejgagdaa", sum := "f0f35d67bf634f643f68f73b2d20323c9c78ee939e2d02ad9c0dc1a1cf4fdd80", func := "loop.example/vectorstore/laws.FnTreeVisitsAll", spec := "fnTreeVisitsAll", unfollowed := true, recurses := true, apart := false }
def FnTreeVisitsAllSaid : Prop := fnTreeVisitsAllRow.holds Try.pinned (OpenSpec.ofChange fnTreeVisitsAllSpec)

/-- ITS FALSE NEIGHBOUR: 'it returns false'. Refute it at one input. -/
def fnTreeVisitsAllWrong : ChangeSpec := { name := "fnTreeVisitsAll", fn := fun _ => fun
  | [d] => { results := [.lit (.bool false)], args := [d] }
  | _ => none }
def FnTreeVisitsAllWrongFalsely : Prop := fnTreeVisitsAllRow.holds Try.pinned (OpenSpec.ofChange fnTreeVisitsAllWrong)

/-- 'laws.FnTreeVisitsMore': WHATEVER THE INPUT: true; the input reads as it did. -/
def fnTreeVisitsMoreSpec : ChangeSpec := { name := "fnTreeVisitsMore", fn := fun _ => fun
  | [d] => { results := [.lit (.bool true)], args := [d] }
  | _ => none }
def fnTreeVisitsMoreRow : OpenClaim := { program := "ytlammenejgagdaa", sum := "f0f35d67bf634f643f68f73b2d20323c9c78ee939e2d02ad9c0dc1a1cf4fdd80", func := "loop.example/vectorstore/laws.FnTreeVisitsMore", spec := "fnTreeVisitsMore", unfollowed := true, recurses := true, apart := false }
def FnTreeVisitsMoreSaid : Prop := fnTreeVisitsMoreRow.holds Try.pinned (OpenSpec.ofChange fnTreeVisitsMoreSpec)

/-- ITS FALSE NEIGHBOUR: 'it returns false'. Refute it at one input. -/
def fnTreeVisitsMoreWrong : ChangeSpec := { name := "fnTreeVisitsMore", fn := fun _ => fun
  | [d] => { results := [.lit (.bool false)], args := [d] }
  | _ => none }
def FnTreeVisitsMoreWrongFalsely : Prop := fnTreeVisitsMoreRow.holds Try.pinned (OpenSpec.ofChange fnTreeVisitsMoreWrong)

/-- 'laws.FnTreeVisitsOwn': WHATEVER THE INPUT: true; the input reads as it did. -/
def fnTreeVisitsOwnSpec : ChangeSpec := { name := "fnTreeVisitsOwn", fn := fun _ => fun
  | [d] => { results := [.lit (.bool true)], args := [d] }
  | _ => none }
def fnTreeVisitsOwnRow : OpenClaim := { program := "ytlammenejgagdaa", sum := "f0f35d67bf634f643f68f73b2d20323c9c78ee939e2d02ad9c0dc1a1cf4fdd80", func := "loop.example/vectorstore/laws.FnTreeVisitsOwn", spec := "fnTreeVisitsOwn", unfollowed := true, recurses := true, apart := false }
def FnTreeVisitsOwnSaid : Prop := fnTreeVisitsOwnRow.holds Try.pinned (OpenSpec.ofChange fnTreeVisitsOwnSpec)

/-- ITS FALSE NEIGHBOUR: 'it returns false'. Refute it at one input. -/
def fnTreeVisitsOwnWrong : ChangeSpec := { name := "fnTreeVisitsOwn", fn := fun _ => fun
  | [d] => { results := [.lit (.bool false)], args := [d] }
  | _ => none }
def FnTreeVisitsOwnWrongFalsely : Prop := fnTreeVisitsOwnRow.holds Try.pinned (OpenSpec.ofChange fnTreeVisitsOwnWrong)

/-- 'laws.FnTreeVisits': WHATEVER THE INPUT: true; the input reads as it did. -/
def fnTreeVisitsSpec : ChangeSpec := { name := "fnTreeVisits", fn := fun _ => fun
  | [d] => { results := [.lit (.bool true)], args := [d] }
  | _ => none }
def fnTreeVisitsRow : OpenClaim := { program := "ytlammenejgagdaa", sum := "f0f35d67bf634f643f68f73b2d20323c9c78ee939e2d02ad9c0dc1a1cf4fdd80", func := "loop.example/vectorstore/laws.FnTreeVisits", spec := "fnTreeVisits", unfollowed := true, recurses := true, apart := false }
def FnTreeVisitsSaid : Prop := fnTreeVisitsRow.holds Try.pinned (OpenSpec.ofChange fnTreeVisitsSpec)

/-- ITS FALSE NEIGHBOUR: 'it returns false'. Refute it at one input. -/
def fnTreeVisitsWrong : ChangeSpec := { name := "fnTreeVisits", fn := fun _ => fun
  | [d] => { results := [.lit (.bool false)], args := [d] }
  | _ => none }
def FnTreeVisitsWrongFalsely : Prop := fnTreeVisitsRow.holds Try.pinned (OpenSpec.ofChange fnTreeVisitsWrong)

/- THE SECOND FORM. 'bulk': how many values and letters a reading holds, each counted each time it is reached (what is shared counts as often as it is met; a slice's spare places count too). A statement '..UptoSaid' is the law's where the arguments, and the package variables that the reading takes, are together of bulk at most 1048576: NARROWER than '..Said'. Prove '..Said' where nothing that the law and all that it calls make is longer than what came in: it says more and counts as full. Else prove '..UptoSaid'. A law counts once. -/
mutual
def uptoBulk {H : Type} : DataW H → Nat
  | .lit (.string bytes) => bytes.length + 1
  | .lit _ => 1
  | .nil => 1
  | .ptr d => uptoBulk d + 1
  | .slice elems spare => uptoBulkAll elems + uptoBulkAll spare + 1
  | .agg parts => uptoBulkAll parts + 1
  | .iface _ d => uptoBulk d + 1
  | .map entries => uptoBulkEntries entries + 1
  | .held _ => 1
def uptoBulkAll {H : Type} : List (DataW H) → Nat
  | [] => 0
  | d :: r => uptoBulk d + uptoBulkAll r
def uptoBulkEntries {H : Type} : List (Lit × DataW H) → Nat
  | [] => 0
  | x :: r => uptoBulkEntry x + uptoBulkEntries r
def uptoBulkEntry {H : Type} : Lit × DataW H → Nat
  | (.string bytes, d) => bytes.length + uptoBulk d + 1
  | (_, d) => uptoBulk d + 1
 end
def uptoSmall : (H : Type) → List (DataW H) → Bool := fun _ ds => decide (uptoBulkAll ds ≤ 1048576)
def OpenSpec.upto (s : _root_.Go.ChangeSpec) : _root_.Go.OpenSpec := { _root_.Go.OpenSpec.ofChange s with cond := some uptoSmall }

/-- 'laws.FnIsTreeOf', WHERE WHAT IT READS IS OF BULK AT MOST 1048576: true; the input reads as it did. -/
def fnIsTreeOfUptoRow : OpenClaim := { program := "ytlammenejgagdaa", sum := "f0f35d67bf634f643f68f73b2d20323c9c78ee939e2d02ad9c0dc1a1cf4fdd80", func := "loop.example/vectorstore/laws.FnIsTreeOf", spec := "fnIsTreeOf", unfollowed := true, recurses := true, apart := false, narrowed := true }
def FnIsTreeOfUptoSaid : Prop := fnIsTreeOfUptoRow.holds Try.pinned (OpenSpec.upto fnIsTreeOfSpec)

/-- 'laws.FnTreeNearest', WHERE WHAT IT READS IS OF BULK AT MOST 1048576: true; the input reads as it did. -/
def fnTreeNearestUptoRow : OpenClaim := { program := "ytlammenejgagdaa", sum := "f0f35d67bf634f643f68f73b2d20323c9c78ee939e2d02ad9c0dc1a1cf4fdd80", func := "loop.example/vectorstore/laws.FnTreeNearest", spec := "fnTreeNearest", unfollowed := true, recurses := true, apart := false, narrowed := true }
def FnTreeNearestUptoSaid : Prop := fnTreeNearestUptoRow.holds Try.pinned (OpenSpec.upto fnTreeNearestSpec)

/-- 'laws.FnTreeVisitsAll', WHERE WHAT IT READS IS OF BULK AT MOST 1048576: true; the input reads as it did. -/
def fnTreeVisitsAllUptoRow : OpenClaim := { program := "ytlammenejgagdaa", sum := "f0f35d67bf634f643f68f73b2d20323c9c78ee939e2d02ad9c0dc1a1cf4fdd80", func := "loop.example/vectorstore/laws.FnTreeVisitsAll", spec := "fnTreeVisitsAll", unfollowed := true, recurses := true, apart := false, narrowed := true }
def FnTreeVisitsAllUptoSaid : Prop := fnTreeVisitsAllUptoRow.holds Try.pinned (OpenSpec.upto fnTreeVisitsAllSpec)

/-- 'laws.FnTreeVisitsMore', WHERE WHAT IT READS IS OF BULK AT MOST 1048576: true; the input reads as it did. -/
def fnTreeVisitsMoreUptoRow : OpenClaim := { program := "ytlammenejgagdaa", sum := "f0f35d67bf634f643f68f73b2d20323c9c78ee939e2d02ad9c0dc1a1cf4fdd80", func := "loop.example/vectorstore/laws.FnTreeVisitsMore", spec := "fnTreeVisitsMore", unfollowed := true, recurses := true, apart := false, narrowed := true }
def FnTreeVisitsMoreUptoSaid : Prop := fnTreeVisitsMoreUptoRow.holds Try.pinned (OpenSpec.upto fnTreeVisitsMoreSpec)

/-- 'laws.FnTreeVisitsOwn', WHERE WHAT IT READS IS OF BULK AT MOST 1048576: true; the input reads as it did. -/
def fnTreeVisitsOwnUptoRow : OpenClaim := { program := "ytlammenejgagdaa", sum := "f0f35d67bf634f643f68f73b2d20323c9c78ee939e2d02ad9c0dc1a1cf4fdd80", func := "loop.example/vectorstore/laws.FnTreeVisitsOwn", spec := "fnTreeVisitsOwn", unfollowed := true, recurses := true, apart := false, narrowed := true }
def FnTreeVisitsOwnUptoSaid : Prop := fnTreeVisitsOwnUptoRow.holds Try.pinned (OpenSpec.upto fnTreeVisitsOwnSpec)

/-- 'laws.FnTreeVisits', WHERE WHAT IT READS IS OF BULK AT MOST 1048576: true; the input reads as it did. -/
def fnTreeVisitsUptoRow : OpenClaim := { program := "ytlammenejgagdaa", sum := "f0f35d67bf634f643f68f73b2d20323c9c78ee939e2d02ad9c0dc1a1cf4fdd80", func := "loop.example/vectorstore/laws.FnTreeVisits", spec := "fnTreeVisits", unfollowed := true, recurses := true, apart := false, narrowed := true }
def FnTreeVisitsUptoSaid : Prop := fnTreeVisitsUptoRow.holds Try.pinned (OpenSpec.upto fnTreeVisitsSpec)

end Rows
end Go.Proofs.Ytlammenejgagdaa
