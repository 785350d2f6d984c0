/-
  No cell of these rows narrows 'for every input' (looked for: loops, veiled, ifaces, maps, wideKeys, modest, calm, conditions, laid).
  DERIVED. THE GIVEN ROWS OF THIS SEAT. 12 by the template 'for every input the law returns true; each argument reads behind the call as it read before'; 0 by the template 'total and deterministic' (their statements: YtjonaolapbnepaaTotals.lean).
  GIVEN WITH THE SEED: the statements are not yours to turn. If you find one false, say at which input.
  Laid BY PROGRAM, IN A SANDBOX (cutbox-rows.mjs): the forced cells as the released guide's own fill.sh prints them over the translation b8a0b49d55ddf3a6… (all of the seat's roots in one cut). By AI agents, Wed Nov 11 2026. No macro, syntax, notation, axiom, sorry.
-/
import Derived.Test.YtjonaolapbnepaaChecked
import GoSem.Claim
import GoSem.ClaimJoined
import GoSem.ClaimMapViews
import Derived.JoinedTies
import Derived.KernelRfl
namespace Go.Proofs.Ytjonaolapbnepaa
/- THE CELL 'sum', in the pinned program and in every row, IS THE sha256 OF THE DUMP (.gsa) THAT YtjonaolapbnepaaProg.lean LOADS. Nothing in Lean hashes anything: it is a label: what it is worth is what the hold of that sum in a sandbox is worth. -/
noncomputable def Try.pinned : Pinned := { name := "ytjonaolapbnepaa", sum := "b8a0b49d55ddf3a6d710358087386306c0d9c226d4526d4db3b367dd3d1e60bc", checked := Try.checked }
namespace Rows
def none {H : Type} : Left H := { results := [], args := [] }

/-- 'laws.FnExactValidCentres': WHATEVER THE INPUT: true; the input reads as it did. -/
def fnExactValidCentresSpec : ChangeSpec := { name := "fnExactValidCentres", fn := fun _ => fun
  | [d] => { results := [.lit (.bool true)], args := [d] }
  | _ => none }
def fnExactValidCentresRow : OpenClaim := { program := "ytjonaolapbnepaa", sum := "b8a0b49d55ddf3a6d710358087386306c0d9c226d4526d4db3b367dd3d1e60bc", func := "loop.example/vectorstore/laws.FnExactValidCentres", spec := "fnExactValidCentres", unfollowed := true, recurses := true, apart := false }
def FnExactValidCentresSaid : Prop := fnExactValidCentresRow.holds Try.pinned (OpenSpec.ofChange fnExactValidCentresSpec)

/-- ITS FALSE NEIGHBOUR: 'it returns false'. Refute it at one input. -/
def fnExactValidCentresWrong : ChangeSpec := { name := "fnExactValidCentres", fn := fun _ => fun
  | [d] => { results := [.lit (.bool false)], args := [d] }
  | _ => none }
def FnExactValidCentresWrongFalsely : Prop := fnExactValidCentresRow.holds Try.pinned (OpenSpec.ofChange fnExactValidCentresWrong)

/-- 'laws.FnExactValidPlanes': WHATEVER THE INPUT: true; the input reads as it did. -/
def fnExactValidPlanesSpec : ChangeSpec := { name := "fnExactValidPlanes", fn := fun _ => fun
  | [d] => { results := [.lit (.bool true)], args := [d] }
  | _ => none }
def fnExactValidPlanesRow : OpenClaim := { program := "ytjonaolapbnepaa", sum := "b8a0b49d55ddf3a6d710358087386306c0d9c226d4526d4db3b367dd3d1e60bc", func := "loop.example/vectorstore/laws.FnExactValidPlanes", spec := "fnExactValidPlanes", unfollowed := true, recurses := true, apart := false }
def FnExactValidPlanesSaid : Prop := fnExactValidPlanesRow.holds Try.pinned (OpenSpec.ofChange fnExactValidPlanesSpec)

/-- ITS FALSE NEIGHBOUR: 'it returns false'. Refute it at one input. -/
def fnExactValidPlanesWrong : ChangeSpec := { name := "fnExactValidPlanes", fn := fun _ => fun
  | [d] => { results := [.lit (.bool false)], args := [d] }
  | _ => none }
def FnExactValidPlanesWrongFalsely : Prop := fnExactValidPlanesRow.holds Try.pinned (OpenSpec.ofChange fnExactValidPlanesWrong)

/-- 'laws.FnValidCentres': WHATEVER THE INPUT: true; the input reads as it did. -/
def fnValidCentresSpec : ChangeSpec := { name := "fnValidCentres", fn := fun _ => fun
  | [d] => { results := [.lit (.bool true)], args := [d] }
  | _ => none }
def fnValidCentresRow : OpenClaim := { program := "ytjonaolapbnepaa", sum := "b8a0b49d55ddf3a6d710358087386306c0d9c226d4526d4db3b367dd3d1e60bc", func := "loop.example/vectorstore/laws.FnValidCentres", spec := "fnValidCentres", unfollowed := true, recurses := true, apart := false }
def FnValidCentresSaid : Prop := fnValidCentresRow.holds Try.pinned (OpenSpec.ofChange fnValidCentresSpec)

/-- ITS FALSE NEIGHBOUR: 'it returns false'. Refute it at one input. -/
def fnValidCentresWrong : ChangeSpec := { name := "fnValidCentres", fn := fun _ => fun
  | [d] => { results := [.lit (.bool false)], args := [d] }
  | _ => none }
def FnValidCentresWrongFalsely : Prop := fnValidCentresRow.holds Try.pinned (OpenSpec.ofChange fnValidCentresWrong)

/-- 'laws.FnValidPlanes': WHATEVER THE INPUT: true; the input reads as it did. -/
def fnValidPlanesSpec : ChangeSpec := { name := "fnValidPlanes", fn := fun _ => fun
  | [d] => { results := [.lit (.bool true)], args := [d] }
  | _ => none }
def fnValidPlanesRow : OpenClaim := { program := "ytjonaolapbnepaa", sum := "b8a0b49d55ddf3a6d710358087386306c0d9c226d4526d4db3b367dd3d1e60bc", func := "loop.example/vectorstore/laws.FnValidPlanes", spec := "fnValidPlanes", unfollowed := true, recurses := true, apart := false }
def FnValidPlanesSaid : Prop := fnValidPlanesRow.holds Try.pinned (OpenSpec.ofChange fnValidPlanesSpec)

/-- ITS FALSE NEIGHBOUR: 'it returns false'. Refute it at one input. -/
def fnValidPlanesWrong : ChangeSpec := { name := "fnValidPlanes", fn := fun _ => fun
  | [d] => { results := [.lit (.bool false)], args := [d] }
  | _ => none }
def FnValidPlanesWrongFalsely : Prop := fnValidPlanesRow.holds Try.pinned (OpenSpec.ofChange fnValidPlanesWrong)

/-- 'laws.FnExactHashOf': WHATEVER THE INPUT: true; the input reads as it did. -/
def fnExactHashOfSpec : ChangeSpec := { name := "fnExactHashOf", fn := fun _ => fun
  | [d1, d2] => { results := [.lit (.bool true)], args := [d1, d2] }
  | _ => none }
def fnExactHashOfRow : OpenClaim := { program := "ytjonaolapbnepaa", sum := "b8a0b49d55ddf3a6d710358087386306c0d9c226d4526d4db3b367dd3d1e60bc", func := "loop.example/vectorstore/laws.FnExactHashOf", spec := "fnExactHashOf", unfollowed := true, recurses := true, apart := false }
def FnExactHashOfSaid : Prop := fnExactHashOfRow.holds Try.pinned (OpenSpec.ofChange fnExactHashOfSpec)

/-- ITS FALSE NEIGHBOUR: 'it returns false'. Refute it at one input. -/
def fnExactHashOfWrong : ChangeSpec := { name := "fnExactHashOf", fn := fun _ => fun
  | [d1, d2] => { results := [.lit (.bool false)], args := [d1, d2] }
  | _ => none }
def FnExactHashOfWrongFalsely : Prop := fnExactHashOfRow.holds Try.pinned (OpenSpec.ofChange fnExactHashOfWrong)

/-- 'laws.FnHashOfPlane': WHATEVER THE INPUT: true; the input reads as it did. -/
def fnHashOfPlaneSpec : ChangeSpec := { name := "fnHashOfPlane", fn := fun _ => fun
  | [d] => { results := [.lit (.bool true)], args := [d] }
  | _ => none }
def fnHashOfPlaneRow : OpenClaim := { program := "ytjonaolapbnepaa", sum := "b8a0b49d55ddf3a6d710358087386306c0d9c226d4526d4db3b367dd3d1e60bc", func := "loop.example/vectorstore/laws.FnHashOfPlane", spec := "fnHashOfPlane", unfollowed := true, recurses := true, apart := false }
def FnHashOfPlaneSaid : Prop := fnHashOfPlaneRow.holds Try.pinned (OpenSpec.ofChange fnHashOfPlaneSpec)

/-- ITS FALSE NEIGHBOUR: 'it returns false'. Refute it at one input. -/
def fnHashOfPlaneWrong : ChangeSpec := { name := "fnHashOfPlane", fn := fun _ => fun
  | [d] => { results := [.lit (.bool false)], args := [d] }
  | _ => none }
def FnHashOfPlaneWrongFalsely : Prop := fnHashOfPlaneRow.holds Try.pinned (OpenSpec.ofChange fnHashOfPlaneWrong)

/-- 'laws.FnHashOfScale': WHATEVER THE INPUT: true; the input reads as it did. -/
def fnHashOfScaleSpec : ChangeSpec := { name := "fnHashOfScale", fn := fun _ => fun
  | [d] => { results := [.lit (.bool true)], args := [d] }
  | _ => none }
def fnHashOfScaleRow : OpenClaim := { program := "ytjonaolapbnepaa", sum := "b8a0b49d55ddf3a6d710358087386306c0d9c226d4526d4db3b367dd3d1e60bc", func := "loop.example/vectorstore/laws.FnHashOfScale", spec := "fnHashOfScale", unfollowed := true, recurses := true, apart := false }
def FnHashOfScaleSaid : Prop := fnHashOfScaleRow.holds Try.pinned (OpenSpec.ofChange fnHashOfScaleSpec)

/-- ITS FALSE NEIGHBOUR: 'it returns false'. Refute it at one input. -/
def fnHashOfScaleWrong : ChangeSpec := { name := "fnHashOfScale", fn := fun _ => fun
  | [d] => { results := [.lit (.bool false)], args := [d] }
  | _ => none }
def FnHashOfScaleWrongFalsely : Prop := fnHashOfScaleRow.holds Try.pinned (OpenSpec.ofChange fnHashOfScaleWrong)

/-- 'laws.FnHashOf': WHATEVER THE INPUT: true; the input reads as it did. -/
def fnHashOfSpec : ChangeSpec := { name := "fnHashOf", fn := fun _ => fun
  | [d] => { results := [.lit (.bool true)], args := [d] }
  | _ => none }
def fnHashOfRow : OpenClaim := { program := "ytjonaolapbnepaa", sum := "b8a0b49d55ddf3a6d710358087386306c0d9c226d4526d4db3b367dd3d1e60bc", func := "loop.example/vectorstore/laws.FnHashOf", spec := "fnHashOf", unfollowed := true, recurses := true, apart := false }
def FnHashOfSaid : Prop := fnHashOfRow.holds Try.pinned (OpenSpec.ofChange fnHashOfSpec)

/-- ITS FALSE NEIGHBOUR: 'it returns false'. Refute it at one input. -/
def fnHashOfWrong : ChangeSpec := { name := "fnHashOf", fn := fun _ => fun
  | [d] => { results := [.lit (.bool false)], args := [d] }
  | _ => none }
def FnHashOfWrongFalsely : Prop := fnHashOfRow.holds Try.pinned (OpenSpec.ofChange fnHashOfWrong)

/-- 'laws.FnExactCentreOf': WHATEVER THE INPUT: true; the input reads as it did. -/
def fnExactCentreOfSpec : ChangeSpec := { name := "fnExactCentreOf", fn := fun _ => fun
  | [d1, d2] => { results := [.lit (.bool true)], args := [d1, d2] }
  | _ => none }
def fnExactCentreOfRow : OpenClaim := { program := "ytjonaolapbnepaa", sum := "b8a0b49d55ddf3a6d710358087386306c0d9c226d4526d4db3b367dd3d1e60bc", func := "loop.example/vectorstore/laws.FnExactCentreOf", spec := "fnExactCentreOf", unfollowed := true, recurses := true, apart := false }
def FnExactCentreOfSaid : Prop := fnExactCentreOfRow.holds Try.pinned (OpenSpec.ofChange fnExactCentreOfSpec)

/-- ITS FALSE NEIGHBOUR: 'it returns false'. Refute it at one input. -/
def fnExactCentreOfWrong : ChangeSpec := { name := "fnExactCentreOf", fn := fun _ => fun
  | [d1, d2] => { results := [.lit (.bool false)], args := [d1, d2] }
  | _ => none }
def FnExactCentreOfWrongFalsely : Prop := fnExactCentreOfRow.holds Try.pinned (OpenSpec.ofChange fnExactCentreOfWrong)

/-- 'laws.FnCentreOf': WHATEVER THE INPUT: true; the input reads as it did. -/
def fnCentreOfSpec : ChangeSpec := { name := "fnCentreOf", fn := fun _ => fun
  | [d] => { results := [.lit (.bool true)], args := [d] }
  | _ => none }
def fnCentreOfRow : OpenClaim := { program := "ytjonaolapbnepaa", sum := "b8a0b49d55ddf3a6d710358087386306c0d9c226d4526d4db3b367dd3d1e60bc", func := "loop.example/vectorstore/laws.FnCentreOf", spec := "fnCentreOf", unfollowed := true, recurses := true, apart := false }
def FnCentreOfSaid : Prop := fnCentreOfRow.holds Try.pinned (OpenSpec.ofChange fnCentreOfSpec)

/-- ITS FALSE NEIGHBOUR: 'it returns false'. Refute it at one input. -/
def fnCentreOfWrong : ChangeSpec := { name := "fnCentreOf", fn := fun _ => fun
  | [d] => { results := [.lit (.bool false)], args := [d] }
  | _ => none }
def FnCentreOfWrongFalsely : Prop := fnCentreOfRow.holds Try.pinned (OpenSpec.ofChange fnCentreOfWrong)

/-- 'laws.FnCentreOfMore': WHATEVER THE INPUT: true; the input reads as it did. -/
def fnCentreOfMoreSpec : ChangeSpec := { name := "fnCentreOfMore", fn := fun _ => fun
  | [d] => { results := [.lit (.bool true)], args := [d] }
  | _ => none }
def fnCentreOfMoreRow : OpenClaim := { program := "ytjonaolapbnepaa", sum := "b8a0b49d55ddf3a6d710358087386306c0d9c226d4526d4db3b367dd3d1e60bc", func := "loop.example/vectorstore/laws.FnCentreOfMore", spec := "fnCentreOfMore", unfollowed := true, recurses := true, apart := false }
def FnCentreOfMoreSaid : Prop := fnCentreOfMoreRow.holds Try.pinned (OpenSpec.ofChange fnCentreOfMoreSpec)

/-- ITS FALSE NEIGHBOUR: 'it returns false'. Refute it at one input. -/
def fnCentreOfMoreWrong : ChangeSpec := { name := "fnCentreOfMore", fn := fun _ => fun
  | [d] => { results := [.lit (.bool false)], args := [d] }
  | _ => none }
def FnCentreOfMoreWrongFalsely : Prop := fnCentreOfMoreRow.holds Try.pinned (OpenSpec.ofChange fnCentreOfMoreWrong)

/-- 'laws.FnCentreOfOwn': WHATEVER THE INPUT: true; the input reads as it did. -/
def fnCentreOfOwnSpec : ChangeSpec := { name := "fnCentreOfOwn", fn := fun _ => fun
  | [d] => { results := [.lit (.bool true)], args := [d] }
  | _ => none }
def fnCentreOfOwnRow : OpenClaim := { program := "ytjonaolapbnepaa", sum := "b8a0b49d55ddf3a6d710358087386306c0d9c226d4526d4db3b367dd3d1e60bc", func := "loop.example/vectorstore/laws.FnCentreOfOwn", spec := "fnCentreOfOwn", unfollowed := true, recurses := true, apart := false }
def FnCentreOfOwnSaid : Prop := fnCentreOfOwnRow.holds Try.pinned (OpenSpec.ofChange fnCentreOfOwnSpec)

/-- ITS FALSE NEIGHBOUR: 'it returns false'. Refute it at one input. -/
def fnCentreOfOwnWrong : ChangeSpec := { name := "fnCentreOfOwn", fn := fun _ => fun
  | [d] => { results := [.lit (.bool false)], args := [d] }
  | _ => none }
def FnCentreOfOwnWrongFalsely : Prop := fnCentreOfOwnRow.holds Try.pinned (OpenSpec.ofChange fnCentreOfOwnWrong)

/- THE SECOND FORM. 'bulk': how many values and letters a reading holds, each counted each time it is reached (what is shared counts as often as it is met; a slice's spare places count too). A statement '..UptoSaid' is the law's where the arguments, and the package variables that the reading takes, are together of bulk at most 1048576: NARROWER than '..Said'. Prove '..Said' where nothing that the law and all that it calls make is longer than what came in: it says more and counts as full. Else prove '..UptoSaid'. A law counts once. -/
mutual
def uptoBulk {H : Type} : DataW H → Nat
  | .lit (.string bytes) => bytes.length + 1
  | .lit _ => 1
  | .nil => 1
  | .ptr d => uptoBulk d + 1
  | .slice elems spare => uptoBulkAll elems + uptoBulkAll spare + 1
  | .agg parts => uptoBulkAll parts + 1
  | .iface _ d => uptoBulk d + 1
  | .map entries => uptoBulkEntries entries + 1
  | .held _ => 1
def uptoBulkAll {H : Type} : List (DataW H) → Nat
  | [] => 0
  | d :: r => uptoBulk d + uptoBulkAll r
def uptoBulkEntries {H : Type} : List (Lit × DataW H) → Nat
  | [] => 0
  | x :: r => uptoBulkEntry x + uptoBulkEntries r
def uptoBulkEntry {H : Type} : Lit × DataW H → Nat
  | (.string bytes, d) => bytes.length + uptoBulk d + 1
  | (_, d) => uptoBulk d + 1
 end
def uptoSmall : (H : Type) → List (DataW H) → Bool := fun _ ds => decide (uptoBulkAll ds ≤ 1048576)
def OpenSpec.upto (s : _root_.Go.ChangeSpec) : _root_.Go.OpenSpec := { _root_.Go.OpenSpec.ofChange s with cond := some uptoSmall }

/-- 'laws.FnExactValidCentres', WHERE WHAT IT READS IS OF BULK AT MOST 1048576: true; the input reads as it did. -/
def fnExactValidCentresUptoRow : OpenClaim := { program := "ytjonaolapbnepaa", sum := "b8a0b49d55ddf3a6d710358087386306c0d9c226d4526d4db3b367dd3d1e60bc", func := "loop.example/vectorstore/laws.FnExactValidCentres", spec := "fnExactValidCentres", unfollowed := true, recurses := true, apart := false, narrowed := true }
def FnExactValidCentresUptoSaid : Prop := fnExactValidCentresUptoRow.holds Try.pinned (OpenSpec.upto fnExactValidCentresSpec)

/-- 'laws.FnExactValidPlanes', WHERE WHAT IT READS IS OF BULK AT MOST 1048576: true; the input reads as it did. -/
def fnExactValidPlanesUptoRow : OpenClaim := { program := "ytjonaolapbnepaa", sum := "b8a0b49d55ddf3a6d710358087386306c0d9c226d4526d4db3b367dd3d1e60bc", func := "loop.example/vectorstore/laws.FnExactValidPlanes", spec := "fnExactValidPlanes", unfollowed := true, recurses := true, apart := false, narrowed := true }
def FnExactValidPlanesUptoSaid : Prop := fnExactValidPlanesUptoRow.holds Try.pinned (OpenSpec.upto fnExactValidPlanesSpec)

/-- 'laws.FnValidCentres', WHERE WHAT IT READS IS OF BULK AT MOST 1048576: true; the input reads as it did. -/
def fnValidCentresUptoRow : OpenClaim := { program := "ytjonaolapbnepaa", sum := "b8a0b49d55ddf3a6d710358087386306c0d9c226d4526d4db3b367dd3d1e60bc", func := "loop.example/vectorstore/laws.FnValidCentres", spec := "fnValidCentres", unfollowed := true, recurses := true, apart := false, narrowed := true }
def FnValidCentresUptoSaid : Prop := fnValidCentresUptoRow.holds Try.pinned (OpenSpec.upto fnValidCentresSpec)

/-- 'laws.FnValidPlanes', WHERE WHAT IT READS IS OF BULK AT MOST 1048576: true; the input reads as it did. -/
def fnValidPlanesUptoRow : OpenClaim := { program := "ytjonaolapbnepaa", sum := "b8a0b49d55ddf3a6d710358087386306c0d9c226d4526d4db3b367dd3d1e60bc", func := "loop.example/vectorstore/laws.FnValidPlanes", spec := "fnValidPlanes", unfollowed := true, recurses := true, apart := false, narrowed := true }
def FnValidPlanesUptoSaid : Prop := fnValidPlanesUptoRow.holds Try.pinned (OpenSpec.upto fnValidPlanesSpec)

/-- 'laws.FnExactHashOf', WHERE WHAT IT READS IS OF BULK AT MOST 1048576: true; the input reads as it did. -/
def fnExactHashOfUptoRow : OpenClaim := { program := "ytjonaolapbnepaa", sum := "b8a0b49d55ddf3a6d710358087386306c0d9c226d4526d4db3b367dd3d1e60bc", func := "loop.example/vectorstore/laws.FnExactHashOf", spec := "fnExactHashOf", unfollowed := true, recurses := true, apart := false, narrowed := true }
def FnExactHashOfUptoSaid : Prop := fnExactHashOfUptoRow.holds Try.pinned (OpenSpec.upto fnExactHashOfSpec)

/-- 'laws.FnHashOfPlane', WHERE WHAT IT READS IS OF BULK AT MOST 1048576: true; the input reads as it did. -/
def fnHashOfPlaneUptoRow : OpenClaim := { program := "ytjonaolapbnepaa", sum := "b8a0b49d55ddf3a6d710358087386306c0d9c226d4526d4db3b367dd3d1e60bc", func := "loop.example/vectorstore/laws.FnHashOfPlane", spec := "fnHashOfPlane", unfollowed := true, recurses := true, apart := false, narrowed := true }
def FnHashOfPlaneUptoSaid : Prop := fnHashOfPlaneUptoRow.holds Try.pinned (OpenSpec.upto fnHashOfPlaneSpec)

/-- 'laws.FnHashOfScale', WHERE WHAT IT READS IS OF BULK AT MOST 1048576: true; the input reads as it did. -/
def fnHashOfScaleUptoRow : OpenClaim := { program := "ytjonaolapbnepaa", sum := "b8a0b49d55ddf3a6d710358087386306c0d9c226d4526d4db3b367dd3d1e60bc", func := "loop.example/vectorstore/laws.FnHashOfScale", spec := "fnHashOfScale", unfollowed := true, recurses := true, apart := false, narrowed := true }
def FnHashOfScaleUptoSaid : Prop := fnHashOfScaleUptoRow.holds Try.pinned (OpenSpec.upto fnHashOfScaleSpec)

/-- 'laws.FnHashOf', WHERE WHAT IT READS IS OF BULK AT MOST 1048576: true; the input reads as it did. -/
def fnHashOfUptoRow : OpenClaim := { program := "ytjonaolapbnepaa", sum := "b8a0b49d55ddf3a6d710358087386306c0d9c226d4526d4db3b367dd3d1e60bc", func := "loop.example/vectorstore/laws.FnHashOf", spec := "fnHashOf", unfollowed := true, recurses := true, apart := false, narrowed := true }
def FnHashOfUptoSaid : Prop := fnHashOfUptoRow.holds Try.pinned (OpenSpec.upto fnHashOfSpec)

/-- 'laws.FnExactCentreOf', WHERE WHAT IT READS IS OF BULK AT MOST 1048576: true; the input reads as it did. -/
def fnExactCentreOfUptoRow : OpenClaim := { program := "ytjonaolapbnepaa", sum := "b8a0b49d55ddf3a6d710358087386306c0d9c226d4526d4db3b367dd3d1e60bc", func := "loop.example/vectorstore/laws.FnExactCentreOf", spec := "fnExactCentreOf", unfollowed := true, recurses := true, apart := false, narrowed := true }
def FnExactCentreOfUptoSaid : Prop := fnExactCentreOfUptoRow.holds Try.pinned (OpenSpec.upto fnExactCentreOfSpec)

/-- 'laws.FnCentreOf', WHERE WHAT IT READS IS OF BULK AT MOST 1048576: true; the input reads as it did. -/
def fnCentreOfUptoRow : OpenClaim := { program := "ytjonaolapbnepaa", sum := "b8a0b49d55ddf3a6d710358087386306c0d9c226d4526d4db3b367dd3d1e60bc", func := "loop.example/vectorstore/laws.FnCentreOf", spec := "fnCentreOf", unfollowed := true, recurses := true, apart := false, narrowed := true }
def FnCentreOfUptoSaid : Prop := fnCentreOfUptoRow.holds Try.pinned (OpenSpec.upto fnCentreOfSpec)

/-- 'laws.FnCentreOfMore', WHERE WHAT IT READS IS OF BULK AT MOST 1048576: true; the input reads as it did. -/
def fnCentreOfMoreUptoRow : OpenClaim := { program := "ytjonaolapbnepaa", sum := "b8a0b49d55ddf3a6d710358087386306c0d9c226d4526d4db3b367dd3d1e60bc", func := "loop.example/vectorstore/laws.FnCentreOfMore", spec := "fnCentreOfMore", unfollowed := true, recurses := true, apart := false, narrowed := true }
def FnCentreOfMoreUptoSaid : Prop := fnCentreOfMoreUptoRow.holds Try.pinned (OpenSpec.upto fnCentreOfMoreSpec)

/-- 'laws.FnCentreOfOwn', WHERE WHAT IT READS IS OF BULK AT MOST 1048576: true; the input reads as it did. -/
def fnCentreOfOwnUptoRow : OpenClaim := { program := "ytjonaolapbnepaa", sum := "b8a0b49d55ddf3a6d710358087386306c0d9c226d4526d4db3b367dd3d1e60bc", func := "loop.example/vectorstore/laws.FnCentreOfOwn", spec := "fnCentreOfOwn", unfollowed := true, recurses := true, apart := false, narrowed := true }
def FnCentreOfOwnUptoSaid : Prop := fnCentreOfOwnUptoRow.holds Try.pinned (OpenSpec.upto fnCentreOfOwnSpec)

end Rows
end Go.Proofs.Ytjonaolapbnepaa
