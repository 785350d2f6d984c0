/-
  No cell of these rows narrows 'for every input' (looked for: loops, veiled, ifaces, maps, wideKeys, modest, calm, conditions, laid).
  DERIVED. THE GIVEN ROWS OF THIS SEAT. 4 by the template 'for every input the law returns true; each argument reads behind the call as it read before'; 0 by the template 'total and deterministic' (their statements: YtllahaebfhaobaaTotals.lean).
  GIVEN WITH THE SEED: the statements are not yours to turn. If you find one false, say at which input.
  Laid BY PROGRAM, IN A SANDBOX (cutbox-rows.mjs): the forced cells as the released guide's own fill.sh prints them over the translation fcb822373ab7f97e… (all of the seat's roots in one cut). By AI agents, Wed Nov 11 2026. No macro, syntax, notation, axiom, sorry.
-/
import Derived.Test.YtllahaebfhaobaaChecked
import GoSem.Claim
import GoSem.ClaimJoined
import GoSem.ClaimMapViews
import Derived.JoinedTies
import Derived.KernelRfl
namespace Go.Proofs.Ytllahaebfhaobaa
/- THE CELL 'sum', in the pinned program and in every row, IS THE sha256 OF THE DUMP (.gsa) THAT YtllahaebfhaobaaProg.lean LOADS. Nothing in Lean hashes anything: it is a label: what it is worth is what the hold of that sum in a sandbox is worth. -/
noncomputable def Try.pinned : Pinned := { name := "ytllahaebfhaobaa", sum := "fcb822373ab7f97e67fc5754689551490ed0cf1e7cbce5b1db1f7a13e4bc5b0a", checked := Try.checked }
namespace Rows
def none {H : Type} : Left H := { results := [], args := [] }

/-- 'laws.FnCodeNearestStore': WHATEVER THE INPUT: true; the input reads as it did. -/
def fnCodeNearestStoreSpec : ChangeSpec := { name := "fnCodeNearestStore", fn := fun _ => fun
  | [d] => { results := [.lit (.bool true)], args := [d] }
  | _ => none }
def fnCodeNearestStoreRow : OpenClaim := { program := "ytllahaebfhaobaa", sum := "fcb822373ab7f97e67fc5754689551490ed0cf1e7cbce5b1db1f7a13e4bc5b0a", func := "loop.example/vectorstore/laws.FnCodeNearestStore", spec := "fnCodeNearestStore", unfollowed := true, recurses := true, apart := false }
def FnCodeNearestStoreSaid : Prop := fnCodeNearestStoreRow.holds Try.pinned (OpenSpec.ofChange fnCodeNearestStoreSpec)

/-- ITS FALSE NEIGHBOUR: 'it returns false'. Refute it at one input. -/
def fnCodeNearestStoreWrong : ChangeSpec := { name := "fnCodeNearestStore", fn := fun _ => fun
  | [d] => { results := [.lit (.bool false)], args := [d] }
  | _ => none }
def FnCodeNearestStoreWrongFalsely : Prop := fnCodeNearestStoreRow.holds Try.pinned (OpenSpec.ofChange fnCodeNearestStoreWrong)

/-- 'laws.FnExactCodeNearest': WHATEVER THE INPUT: true; the input reads as it did. -/
def fnExactCodeNearestSpec : ChangeSpec := { name := "fnExactCodeNearest", fn := fun _ => fun
  | [d1, d2, d3, d4] => { results := [.lit (.bool true)], args := [d1, d2, d3, d4] }
  | _ => none }
def fnExactCodeNearestRow : OpenClaim := { program := "ytllahaebfhaobaa", sum := "fcb822373ab7f97e67fc5754689551490ed0cf1e7cbce5b1db1f7a13e4bc5b0a", func := "loop.example/vectorstore/laws.FnExactCodeNearest", spec := "fnExactCodeNearest", unfollowed := true, recurses := true, apart := false }
def FnExactCodeNearestSaid : Prop := fnExactCodeNearestRow.holds Try.pinned (OpenSpec.ofChange fnExactCodeNearestSpec)

/-- ITS FALSE NEIGHBOUR: 'it returns false'. Refute it at one input. -/
def fnExactCodeNearestWrong : ChangeSpec := { name := "fnExactCodeNearest", fn := fun _ => fun
  | [d1, d2, d3, d4] => { results := [.lit (.bool false)], args := [d1, d2, d3, d4] }
  | _ => none }
def FnExactCodeNearestWrongFalsely : Prop := fnExactCodeNearestRow.holds Try.pinned (OpenSpec.ofChange fnExactCodeNearestWrong)

/-- 'laws.FnRerankNearest': WHATEVER THE INPUT: true; the input reads as it did. -/
def fnRerankNearestSpec : ChangeSpec := { name := "fnRerankNearest", fn := fun _ => fun
  | [d] => { results := [.lit (.bool true)], args := [d] }
  | _ => none }
def fnRerankNearestRow : OpenClaim := { program := "ytllahaebfhaobaa", sum := "fcb822373ab7f97e67fc5754689551490ed0cf1e7cbce5b1db1f7a13e4bc5b0a", func := "loop.example/vectorstore/laws.FnRerankNearest", spec := "fnRerankNearest", unfollowed := true, recurses := true, apart := false }
def FnRerankNearestSaid : Prop := fnRerankNearestRow.holds Try.pinned (OpenSpec.ofChange fnRerankNearestSpec)

/-- ITS FALSE NEIGHBOUR: 'it returns false'. Refute it at one input. -/
def fnRerankNearestWrong : ChangeSpec := { name := "fnRerankNearest", fn := fun _ => fun
  | [d] => { results := [.lit (.bool false)], args := [d] }
  | _ => none }
def FnRerankNearestWrongFalsely : Prop := fnRerankNearestRow.holds Try.pinned (OpenSpec.ofChange fnRerankNearestWrong)

/-- 'laws.FnExactRerankNearest': WHATEVER THE INPUT: true; the input reads as it did. -/
def fnExactRerankNearestSpec : ChangeSpec := { name := "fnExactRerankNearest", fn := fun _ => fun
  | [d1, d2, d3, d4, d5] => { results := [.lit (.bool true)], args := [d1, d2, d3, d4, d5] }
  | _ => none }
def fnExactRerankNearestRow : OpenClaim := { program := "ytllahaebfhaobaa", sum := "fcb822373ab7f97e67fc5754689551490ed0cf1e7cbce5b1db1f7a13e4bc5b0a", func := "loop.example/vectorstore/laws.FnExactRerankNearest", spec := "fnExactRerankNearest", unfollowed := true, recurses := true, apart := false }
def FnExactRerankNearestSaid : Prop := fnExactRerankNearestRow.holds Try.pinned (OpenSpec.ofChange fnExactRerankNearestSpec)

/-- ITS FALSE NEIGHBOUR: 'it returns false'. Refute it at one input. -/
def fnExactRerankNearestWrong : ChangeSpec := { name := "fnExactRerankNearest", fn := fun _ => fun
  | [d1, d2, d3, d4, d5] => { results := [.lit (.bool false)], args := [d1, d2, d3, d4, d5] }
  | _ => none }
def FnExactRerankNearestWrongFalsely : Prop := fnExactRerankNearestRow.holds Try.pinned (OpenSpec.ofChange fnExactRerankNearestWrong)

/- THE SECOND FORM. 'bulk': how many values and letters a reading holds, each counted each time it is reached (what is shared counts as often as it is met; a slice's spare places count too). A statement '..UptoSaid' is the law's where the arguments, and the package variables that the reading takes, are together of bulk at most 1048576: NARROWER than '..Said'. Prove '..Said' where nothing that the law and all that it calls make is longer than what came in: it says more and counts as full. Else prove '..UptoSaid'. A law counts once. -/
mutual
def uptoBulk {H : Type} : DataW H → Nat
  | .lit (.string bytes) => bytes.length + 1
  | .lit _ => 1
  | .nil => 1
  | .ptr d => uptoBulk d + 1
  | .slice elems spare => uptoBulkAll elems + uptoBulkAll spare + 1
  | .agg parts => uptoBulkAll parts + 1
  | .iface _ d => uptoBulk d + 1
  | .map entries => uptoBulkEntries entries + 1
  | .held _ => 1
def uptoBulkAll {H : Type} : List (DataW H) → Nat
  | [] => 0
  | d :: r => uptoBulk d + uptoBulkAll r
def uptoBulkEntries {H : Type} : List (Lit × DataW H) → Nat
  | [] => 0
  | x :: r => uptoBulkEntry x + uptoBulkEntries r
def uptoBulkEntry {H : Type} : Lit × DataW H → Nat
  | (.string bytes, d) => bytes.length + uptoBulk d + 1
  | (_, d) => uptoBulk d + 1
 end
def uptoSmall : (H : Type) → List (DataW H) → Bool := fun _ ds => decide (uptoBulkAll ds ≤ 1048576)
def OpenSpec.upto (s : _root_.Go.ChangeSpec) : _root_.Go.OpenSpec := { _root_.Go.OpenSpec.ofChange s with cond := some uptoSmall }

/-- 'laws.FnCodeNearestStore', WHERE WHAT IT READS IS OF BULK AT MOST 1048576: true; the input reads as it did. -/
def fnCodeNearestStoreUptoRow : OpenClaim := { program := "ytllahaebfhaobaa", sum := "fcb822373ab7f97e67fc5754689551490ed0cf1e7cbce5b1db1f7a13e4bc5b0a", func := "loop.example/vectorstore/laws.FnCodeNearestStore", spec := "fnCodeNearestStore", unfollowed := true, recurses := true, apart := false, narrowed := true }
def FnCodeNearestStoreUptoSaid : Prop := fnCodeNearestStoreUptoRow.holds Try.pinned (OpenSpec.upto fnCodeNearestStoreSpec)

/-- 'laws.FnExactCodeNearest', WHERE WHAT IT READS IS OF BULK AT MOST 1048576: true; the input reads as it did. -/
def fnExactCodeNearestUptoRow : OpenClaim := { program := "ytllahaebfhaobaa", sum := "fcb822373ab7f97e67fc5754689551490ed0cf1e7cbce5b1db1f7a13e4bc5b0a", func := "loop.example/vectorstore/laws.FnExactCodeNearest", spec := "fnExactCodeNearest", unfollowed := true, recurses := true, apart := false, narrowed := true }
def FnExactCodeNearestUptoSaid : Prop := fnExactCodeNearestUptoRow.holds Try.pinned (OpenSpec.upto fnExactCodeNearestSpec)

/-- 'laws.FnRerankNearest', WHERE WHAT IT READS IS OF BULK AT MOST 1048576: true; the input reads as it did. -/
def fnRerankNearestUptoRow : OpenClaim := { program := "ytllahaebfhaobaa", sum := "fcb822373ab7f97e67fc5754689551490ed0cf1e7cbce5b1db1f7a13e4bc5b0a", func := "loop.example/vectorstore/laws.FnRerankNearest", spec := "fnRerankNearest", unfollowed := true, recurses := true, apart := false, narrowed := true }
def FnRerankNearestUptoSaid : Prop := fnRerankNearestUptoRow.holds Try.pinned (OpenSpec.upto fnRerankNearestSpec)

/-- 'laws.FnExactRerankNearest', WHERE WHAT IT READS IS OF BULK AT MOST 1048576: true; the input reads as it did. -/
def fnExactRerankNearestUptoRow : OpenClaim := { program := "ytllahaebfhaobaa", sum := "fcb822373ab7f97e67fc5754689551490ed0cf1e7cbce5b1db1f7a13e4bc5b0a", func := "loop.example/vectorstore/laws.FnExactRerankNearest", spec := "fnExactRerankNearest", unfollowed := true, recurses := true, apart := false, narrowed := true }
def FnExactRerankNearestUptoSaid : Prop := fnExactRerankNearestUptoRow.holds Try.pinned (OpenSpec.upto fnExactRerankNearestSpec)

end Rows
end Go.Proofs.Ytllahaebfhaobaa
