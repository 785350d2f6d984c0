/-
  No cell of these rows narrows 'for every input' (looked for: loops, veiled, ifaces, maps, wideKeys, modest, calm, conditions, laid).
  DERIVED. THE GIVEN ROWS OF THIS SEAT. 12 by the template 'for every input the law returns true; each argument reads behind the call as it read before'; 0 by the template 'total and deterministic' (their statements: YtnfjbjlcglfabaaTotals.lean).
  GIVEN WITH THE SEED: the statements are not yours to turn. If you find one false, say at which input.
  Laid BY PROGRAM, IN A SANDBOX (cutbox-rows.mjs): the forced cells as the released guide's own fill.sh prints them over the translation 85c4f6809892fd47… (all of the seat's roots in one cut). By AI agents, Wed Nov 11 2026. No macro, syntax, notation, axiom, sorry.
-/
import Derived.Test.YtnfjbjlcglfabaaChecked
import GoSem.Claim
import GoSem.ClaimJoined
import GoSem.ClaimMapViews
import Derived.JoinedTies
import Derived.KernelRfl
namespace Go.Proofs.Ytnfjbjlcglfabaa
/- THE CELL 'sum', in the pinned program and in every row, IS THE sha256 OF THE DUMP (.gsa) THAT YtnfjbjlcglfabaaProg.lean LOADS. Nothing in Lean hashes anything: it is a label: what it is worth is what the hold of that sum in a sandbox is worth. -/
noncomputable def Try.pinned : Pinned := { name := "ytnfjbjlcglfabaa", sum := "85c4f6809892fd47119d5f41115bf91674136a1f13f3d15c7f106bff8c5900c8", checked := Try.checked }
namespace Rows
def none {H : Type} : Left H := { results := [], args := [] }

/-- 'laws.FnValidBook': WHATEVER THE INPUT: true; the input reads as it did. -/
def fnValidBookSpec : ChangeSpec := { name := "fnValidBook", fn := fun _ => fun
  | [d] => { results := [.lit (.bool true)], args := [d] }
  | _ => none }
def fnValidBookRow : OpenClaim := { program := "ytnfjbjlcglfabaa", sum := "85c4f6809892fd47119d5f41115bf91674136a1f13f3d15c7f106bff8c5900c8", func := "loop.example/vectorstore/laws.FnValidBook", spec := "fnValidBook", apart := false }
def FnValidBookSaid : Prop := fnValidBookRow.holds Try.pinned (OpenSpec.ofChange fnValidBookSpec)

/-- ITS FALSE NEIGHBOUR: 'it returns false'. Refute it at one input. -/
def fnValidBookWrong : ChangeSpec := { name := "fnValidBook", fn := fun _ => fun
  | [d] => { results := [.lit (.bool false)], args := [d] }
  | _ => none }
def FnValidBookWrongFalsely : Prop := fnValidBookRow.holds Try.pinned (OpenSpec.ofChange fnValidBookWrong)

/-- 'laws.FnExactValidBook': WHATEVER THE INPUT: true; the input reads as it did. -/
def fnExactValidBookSpec : ChangeSpec := { name := "fnExactValidBook", fn := fun _ => fun
  | [d] => { results := [.lit (.bool true)], args := [d] }
  | _ => none }
def fnExactValidBookRow : OpenClaim := { program := "ytnfjbjlcglfabaa", sum := "85c4f6809892fd47119d5f41115bf91674136a1f13f3d15c7f106bff8c5900c8", func := "loop.example/vectorstore/laws.FnExactValidBook", spec := "fnExactValidBook", apart := false }
def FnExactValidBookSaid : Prop := fnExactValidBookRow.holds Try.pinned (OpenSpec.ofChange fnExactValidBookSpec)

/-- ITS FALSE NEIGHBOUR: 'it returns false'. Refute it at one input. -/
def fnExactValidBookWrong : ChangeSpec := { name := "fnExactValidBook", fn := fun _ => fun
  | [d] => { results := [.lit (.bool false)], args := [d] }
  | _ => none }
def FnExactValidBookWrongFalsely : Prop := fnExactValidBookRow.holds Try.pinned (OpenSpec.ofChange fnExactValidBookWrong)

/-- 'laws.FnDecodeVectorAll': WHATEVER THE INPUT: true; the input reads as it did. -/
def fnDecodeVectorAllSpec : ChangeSpec := { name := "fnDecodeVectorAll", fn := fun _ => fun
  | [d] => { results := [.lit (.bool true)], args := [d] }
  | _ => none }
def fnDecodeVectorAllRow : OpenClaim := { program := "ytnfjbjlcglfabaa", sum := "85c4f6809892fd47119d5f41115bf91674136a1f13f3d15c7f106bff8c5900c8", func := "loop.example/vectorstore/laws.FnDecodeVectorAll", spec := "fnDecodeVectorAll", apart := false }
def FnDecodeVectorAllSaid : Prop := fnDecodeVectorAllRow.holds Try.pinned (OpenSpec.ofChange fnDecodeVectorAllSpec)

/-- ITS FALSE NEIGHBOUR: 'it returns false'. Refute it at one input. -/
def fnDecodeVectorAllWrong : ChangeSpec := { name := "fnDecodeVectorAll", fn := fun _ => fun
  | [d] => { results := [.lit (.bool false)], args := [d] }
  | _ => none }
def FnDecodeVectorAllWrongFalsely : Prop := fnDecodeVectorAllRow.holds Try.pinned (OpenSpec.ofChange fnDecodeVectorAllWrong)

/-- 'laws.FnDecodeVector': WHATEVER THE INPUT: true; the input reads as it did. -/
def fnDecodeVectorSpec : ChangeSpec := { name := "fnDecodeVector", fn := fun _ => fun
  | [d] => { results := [.lit (.bool true)], args := [d] }
  | _ => none }
def fnDecodeVectorRow : OpenClaim := { program := "ytnfjbjlcglfabaa", sum := "85c4f6809892fd47119d5f41115bf91674136a1f13f3d15c7f106bff8c5900c8", func := "loop.example/vectorstore/laws.FnDecodeVector", spec := "fnDecodeVector", apart := false }
def FnDecodeVectorSaid : Prop := fnDecodeVectorRow.holds Try.pinned (OpenSpec.ofChange fnDecodeVectorSpec)

/-- ITS FALSE NEIGHBOUR: 'it returns false'. Refute it at one input. -/
def fnDecodeVectorWrong : ChangeSpec := { name := "fnDecodeVector", fn := fun _ => fun
  | [d] => { results := [.lit (.bool false)], args := [d] }
  | _ => none }
def FnDecodeVectorWrongFalsely : Prop := fnDecodeVectorRow.holds Try.pinned (OpenSpec.ofChange fnDecodeVectorWrong)

/-- 'laws.FnExactDecodeVector': WHATEVER THE INPUT: true; the input reads as it did. -/
def fnExactDecodeVectorSpec : ChangeSpec := { name := "fnExactDecodeVector", fn := fun _ => fun
  | [d1, d2] => { results := [.lit (.bool true)], args := [d1, d2] }
  | _ => none }
def fnExactDecodeVectorRow : OpenClaim := { program := "ytnfjbjlcglfabaa", sum := "85c4f6809892fd47119d5f41115bf91674136a1f13f3d15c7f106bff8c5900c8", func := "loop.example/vectorstore/laws.FnExactDecodeVector", spec := "fnExactDecodeVector", apart := false }
def FnExactDecodeVectorSaid : Prop := fnExactDecodeVectorRow.holds Try.pinned (OpenSpec.ofChange fnExactDecodeVectorSpec)

/-- ITS FALSE NEIGHBOUR: 'it returns false'. Refute it at one input. -/
def fnExactDecodeVectorWrong : ChangeSpec := { name := "fnExactDecodeVector", fn := fun _ => fun
  | [d1, d2] => { results := [.lit (.bool false)], args := [d1, d2] }
  | _ => none }
def FnExactDecodeVectorWrongFalsely : Prop := fnExactDecodeVectorRow.holds Try.pinned (OpenSpec.ofChange fnExactDecodeVectorWrong)

/-- 'laws.FnEncodeVectorOwn': WHATEVER THE INPUT: true; the input reads as it did. -/
def fnEncodeVectorOwnSpec : ChangeSpec := { name := "fnEncodeVectorOwn", fn := fun _ => fun
  | [d] => { results := [.lit (.bool true)], args := [d] }
  | _ => none }
def fnEncodeVectorOwnRow : OpenClaim := { program := "ytnfjbjlcglfabaa", sum := "85c4f6809892fd47119d5f41115bf91674136a1f13f3d15c7f106bff8c5900c8", func := "loop.example/vectorstore/laws.FnEncodeVectorOwn", spec := "fnEncodeVectorOwn", apart := false }
def FnEncodeVectorOwnSaid : Prop := fnEncodeVectorOwnRow.holds Try.pinned (OpenSpec.ofChange fnEncodeVectorOwnSpec)

/-- ITS FALSE NEIGHBOUR: 'it returns false'. Refute it at one input. -/
def fnEncodeVectorOwnWrong : ChangeSpec := { name := "fnEncodeVectorOwn", fn := fun _ => fun
  | [d] => { results := [.lit (.bool false)], args := [d] }
  | _ => none }
def FnEncodeVectorOwnWrongFalsely : Prop := fnEncodeVectorOwnRow.holds Try.pinned (OpenSpec.ofChange fnEncodeVectorOwnWrong)

/-- 'laws.FnEncodeVectorHalves': WHATEVER THE INPUT: true; the input reads as it did. -/
def fnEncodeVectorHalvesSpec : ChangeSpec := { name := "fnEncodeVectorHalves", fn := fun _ => fun
  | [d] => { results := [.lit (.bool true)], args := [d] }
  | _ => none }
def fnEncodeVectorHalvesRow : OpenClaim := { program := "ytnfjbjlcglfabaa", sum := "85c4f6809892fd47119d5f41115bf91674136a1f13f3d15c7f106bff8c5900c8", func := "loop.example/vectorstore/laws.FnEncodeVectorHalves", spec := "fnEncodeVectorHalves", apart := false }
def FnEncodeVectorHalvesSaid : Prop := fnEncodeVectorHalvesRow.holds Try.pinned (OpenSpec.ofChange fnEncodeVectorHalvesSpec)

/-- ITS FALSE NEIGHBOUR: 'it returns false'. Refute it at one input. -/
def fnEncodeVectorHalvesWrong : ChangeSpec := { name := "fnEncodeVectorHalves", fn := fun _ => fun
  | [d] => { results := [.lit (.bool false)], args := [d] }
  | _ => none }
def FnEncodeVectorHalvesWrongFalsely : Prop := fnEncodeVectorHalvesRow.holds Try.pinned (OpenSpec.ofChange fnEncodeVectorHalvesWrong)

/-- 'laws.FnCodeDistancesSum': WHATEVER THE INPUT: true; the input reads as it did. -/
def fnCodeDistancesSumSpec : ChangeSpec := { name := "fnCodeDistancesSum", fn := fun _ => fun
  | [d] => { results := [.lit (.bool true)], args := [d] }
  | _ => none }
def fnCodeDistancesSumRow : OpenClaim := { program := "ytnfjbjlcglfabaa", sum := "85c4f6809892fd47119d5f41115bf91674136a1f13f3d15c7f106bff8c5900c8", func := "loop.example/vectorstore/laws.FnCodeDistancesSum", spec := "fnCodeDistancesSum", apart := false }
def FnCodeDistancesSumSaid : Prop := fnCodeDistancesSumRow.holds Try.pinned (OpenSpec.ofChange fnCodeDistancesSumSpec)

/-- ITS FALSE NEIGHBOUR: 'it returns false'. Refute it at one input. -/
def fnCodeDistancesSumWrong : ChangeSpec := { name := "fnCodeDistancesSum", fn := fun _ => fun
  | [d] => { results := [.lit (.bool false)], args := [d] }
  | _ => none }
def FnCodeDistancesSumWrongFalsely : Prop := fnCodeDistancesSumRow.holds Try.pinned (OpenSpec.ofChange fnCodeDistancesSumWrong)

/-- 'laws.FnExactEncodeVector': WHATEVER THE INPUT: true; the input reads as it did. -/
def fnExactEncodeVectorSpec : ChangeSpec := { name := "fnExactEncodeVector", fn := fun _ => fun
  | [d1, d2] => { results := [.lit (.bool true)], args := [d1, d2] }
  | _ => none }
def fnExactEncodeVectorRow : OpenClaim := { program := "ytnfjbjlcglfabaa", sum := "85c4f6809892fd47119d5f41115bf91674136a1f13f3d15c7f106bff8c5900c8", func := "loop.example/vectorstore/laws.FnExactEncodeVector", spec := "fnExactEncodeVector", apart := false }
def FnExactEncodeVectorSaid : Prop := fnExactEncodeVectorRow.holds Try.pinned (OpenSpec.ofChange fnExactEncodeVectorSpec)

/-- ITS FALSE NEIGHBOUR: 'it returns false'. Refute it at one input. -/
def fnExactEncodeVectorWrong : ChangeSpec := { name := "fnExactEncodeVector", fn := fun _ => fun
  | [d1, d2] => { results := [.lit (.bool false)], args := [d1, d2] }
  | _ => none }
def FnExactEncodeVectorWrongFalsely : Prop := fnExactEncodeVectorRow.holds Try.pinned (OpenSpec.ofChange fnExactEncodeVectorWrong)

/-- 'laws.FnEncodeVector': WHATEVER THE INPUT: true; the input reads as it did. -/
def fnEncodeVectorSpec : ChangeSpec := { name := "fnEncodeVector", fn := fun _ => fun
  | [d] => { results := [.lit (.bool true)], args := [d] }
  | _ => none }
def fnEncodeVectorRow : OpenClaim := { program := "ytnfjbjlcglfabaa", sum := "85c4f6809892fd47119d5f41115bf91674136a1f13f3d15c7f106bff8c5900c8", func := "loop.example/vectorstore/laws.FnEncodeVector", spec := "fnEncodeVector", apart := false }
def FnEncodeVectorSaid : Prop := fnEncodeVectorRow.holds Try.pinned (OpenSpec.ofChange fnEncodeVectorSpec)

/-- ITS FALSE NEIGHBOUR: 'it returns false'. Refute it at one input. -/
def fnEncodeVectorWrong : ChangeSpec := { name := "fnEncodeVector", fn := fun _ => fun
  | [d] => { results := [.lit (.bool false)], args := [d] }
  | _ => none }
def FnEncodeVectorWrongFalsely : Prop := fnEncodeVectorRow.holds Try.pinned (OpenSpec.ofChange fnEncodeVectorWrong)

/-- 'laws.FnExactCodeDistances': WHATEVER THE INPUT: true; the input reads as it did. -/
def fnExactCodeDistancesSpec : ChangeSpec := { name := "fnExactCodeDistances", fn := fun _ => fun
  | [d1, d2] => { results := [.lit (.bool true)], args := [d1, d2] }
  | _ => none }
def fnExactCodeDistancesRow : OpenClaim := { program := "ytnfjbjlcglfabaa", sum := "85c4f6809892fd47119d5f41115bf91674136a1f13f3d15c7f106bff8c5900c8", func := "loop.example/vectorstore/laws.FnExactCodeDistances", spec := "fnExactCodeDistances", apart := false }
def FnExactCodeDistancesSaid : Prop := fnExactCodeDistancesRow.holds Try.pinned (OpenSpec.ofChange fnExactCodeDistancesSpec)

/-- ITS FALSE NEIGHBOUR: 'it returns false'. Refute it at one input. -/
def fnExactCodeDistancesWrong : ChangeSpec := { name := "fnExactCodeDistances", fn := fun _ => fun
  | [d1, d2] => { results := [.lit (.bool false)], args := [d1, d2] }
  | _ => none }
def FnExactCodeDistancesWrongFalsely : Prop := fnExactCodeDistancesRow.holds Try.pinned (OpenSpec.ofChange fnExactCodeDistancesWrong)

/-- 'laws.FnCodeDistances': WHATEVER THE INPUT: true; the input reads as it did. -/
def fnCodeDistancesSpec : ChangeSpec := { name := "fnCodeDistances", fn := fun _ => fun
  | [d] => { results := [.lit (.bool true)], args := [d] }
  | _ => none }
def fnCodeDistancesRow : OpenClaim := { program := "ytnfjbjlcglfabaa", sum := "85c4f6809892fd47119d5f41115bf91674136a1f13f3d15c7f106bff8c5900c8", func := "loop.example/vectorstore/laws.FnCodeDistances", spec := "fnCodeDistances", apart := false }
def FnCodeDistancesSaid : Prop := fnCodeDistancesRow.holds Try.pinned (OpenSpec.ofChange fnCodeDistancesSpec)

/-- ITS FALSE NEIGHBOUR: 'it returns false'. Refute it at one input. -/
def fnCodeDistancesWrong : ChangeSpec := { name := "fnCodeDistances", fn := fun _ => fun
  | [d] => { results := [.lit (.bool false)], args := [d] }
  | _ => none }
def FnCodeDistancesWrongFalsely : Prop := fnCodeDistancesRow.holds Try.pinned (OpenSpec.ofChange fnCodeDistancesWrong)

/- THE SECOND FORM. 'bulk': how many values and letters a reading holds, each counted each time it is reached (what is shared counts as often as it is met; a slice's spare places count too). A statement '..UptoSaid' is the law's where the arguments, and the package variables that the reading takes, are together of bulk at most 1048576: NARROWER than '..Said'. Prove '..Said' where nothing that the law and all that it calls make is longer than what came in: it says more and counts as full. Else prove '..UptoSaid'. A law counts once. -/
mutual
def uptoBulk {H : Type} : DataW H → Nat
  | .lit (.string bytes) => bytes.length + 1
  | .lit _ => 1
  | .nil => 1
  | .ptr d => uptoBulk d + 1
  | .slice elems spare => uptoBulkAll elems + uptoBulkAll spare + 1
  | .agg parts => uptoBulkAll parts + 1
  | .iface _ d => uptoBulk d + 1
  | .map entries => uptoBulkEntries entries + 1
  | .held _ => 1
def uptoBulkAll {H : Type} : List (DataW H) → Nat
  | [] => 0
  | d :: r => uptoBulk d + uptoBulkAll r
def uptoBulkEntries {H : Type} : List (Lit × DataW H) → Nat
  | [] => 0
  | x :: r => uptoBulkEntry x + uptoBulkEntries r
def uptoBulkEntry {H : Type} : Lit × DataW H → Nat
  | (.string bytes, d) => bytes.length + uptoBulk d + 1
  | (_, d) => uptoBulk d + 1
 end
def uptoSmall : (H : Type) → List (DataW H) → Bool := fun _ ds => decide (uptoBulkAll ds ≤ 1048576)
def OpenSpec.upto (s : _root_.Go.ChangeSpec) : _root_.Go.OpenSpec := { _root_.Go.OpenSpec.ofChange s with cond := some uptoSmall }

/-- 'laws.FnValidBook', WHERE WHAT IT READS IS OF BULK AT MOST 1048576: true; the input reads as it did. -/
def fnValidBookUptoRow : OpenClaim := { program := "ytnfjbjlcglfabaa", sum := "85c4f6809892fd47119d5f41115bf91674136a1f13f3d15c7f106bff8c5900c8", func := "loop.example/vectorstore/laws.FnValidBook", spec := "fnValidBook", apart := false, narrowed := true }
def FnValidBookUptoSaid : Prop := fnValidBookUptoRow.holds Try.pinned (OpenSpec.upto fnValidBookSpec)

/-- 'laws.FnExactValidBook', WHERE WHAT IT READS IS OF BULK AT MOST 1048576: true; the input reads as it did. -/
def fnExactValidBookUptoRow : OpenClaim := { program := "ytnfjbjlcglfabaa", sum := "85c4f6809892fd47119d5f41115bf91674136a1f13f3d15c7f106bff8c5900c8", func := "loop.example/vectorstore/laws.FnExactValidBook", spec := "fnExactValidBook", apart := false, narrowed := true }
def FnExactValidBookUptoSaid : Prop := fnExactValidBookUptoRow.holds Try.pinned (OpenSpec.upto fnExactValidBookSpec)

/-- 'laws.FnDecodeVectorAll', WHERE WHAT IT READS IS OF BULK AT MOST 1048576: true; the input reads as it did. -/
def fnDecodeVectorAllUptoRow : OpenClaim := { program := "ytnfjbjlcglfabaa", sum := "85c4f6809892fd47119d5f41115bf91674136a1f13f3d15c7f106bff8c5900c8", func := "loop.example/vectorstore/laws.FnDecodeVectorAll", spec := "fnDecodeVectorAll", apart := false, narrowed := true }
def FnDecodeVectorAllUptoSaid : Prop := fnDecodeVectorAllUptoRow.holds Try.pinned (OpenSpec.upto fnDecodeVectorAllSpec)

/-- 'laws.FnDecodeVector', WHERE WHAT IT READS IS OF BULK AT MOST 1048576: true; the input reads as it did. -/
def fnDecodeVectorUptoRow : OpenClaim := { program := "ytnfjbjlcglfabaa", sum := "85c4f6809892fd47119d5f41115bf91674136a1f13f3d15c7f106bff8c5900c8", func := "loop.example/vectorstore/laws.FnDecodeVector", spec := "fnDecodeVector", apart := false, narrowed := true }
def FnDecodeVectorUptoSaid : Prop := fnDecodeVectorUptoRow.holds Try.pinned (OpenSpec.upto fnDecodeVectorSpec)

/-- 'laws.FnExactDecodeVector', WHERE WHAT IT READS IS OF BULK AT MOST 1048576: true; the input reads as it did. -/
def fnExactDecodeVectorUptoRow : OpenClaim := { program := "ytnfjbjlcglfabaa", sum := "85c4f6809892fd47119d5f41115bf91674136a1f13f3d15c7f106bff8c5900c8", func := "loop.example/vectorstore/laws.FnExactDecodeVector", spec := "fnExactDecodeVector", apart := false, narrowed := true }
def FnExactDecodeVectorUptoSaid : Prop := fnExactDecodeVectorUptoRow.holds Try.pinned (OpenSpec.upto fnExactDecodeVectorSpec)

/-- 'laws.FnEncodeVectorOwn', WHERE WHAT IT READS IS OF BULK AT MOST 1048576: true; the input reads as it did. -/
def fnEncodeVectorOwnUptoRow : OpenClaim := { program := "ytnfjbjlcglfabaa", sum := "85c4f6809892fd47119d5f41115bf91674136a1f13f3d15c7f106bff8c5900c8", func := "loop.example/vectorstore/laws.FnEncodeVectorOwn", spec := "fnEncodeVectorOwn", apart := false, narrowed := true }
def FnEncodeVectorOwnUptoSaid : Prop := fnEncodeVectorOwnUptoRow.holds Try.pinned (OpenSpec.upto fnEncodeVectorOwnSpec)

/-- 'laws.FnEncodeVectorHalves', WHERE WHAT IT READS IS OF BULK AT MOST 1048576: true; the input reads as it did. -/
def fnEncodeVectorHalvesUptoRow : OpenClaim := { program := "ytnfjbjlcglfabaa", sum := "85c4f6809892fd47119d5f41115bf91674136a1f13f3d15c7f106bff8c5900c8", func := "loop.example/vectorstore/laws.FnEncodeVectorHalves", spec := "fnEncodeVectorHalves", apart := false, narrowed := true }
def FnEncodeVectorHalvesUptoSaid : Prop := fnEncodeVectorHalvesUptoRow.holds Try.pinned (OpenSpec.upto fnEncodeVectorHalvesSpec)

/-- 'laws.FnCodeDistancesSum', WHERE WHAT IT READS IS OF BULK AT MOST 1048576: true; the input reads as it did. -/
def fnCodeDistancesSumUptoRow : OpenClaim := { program := "ytnfjbjlcglfabaa", sum := "85c4f6809892fd47119d5f41115bf91674136a1f13f3d15c7f106bff8c5900c8", func := "loop.example/vectorstore/laws.FnCodeDistancesSum", spec := "fnCodeDistancesSum", apart := false, narrowed := true }
def FnCodeDistancesSumUptoSaid : Prop := fnCodeDistancesSumUptoRow.holds Try.pinned (OpenSpec.upto fnCodeDistancesSumSpec)

/-- 'laws.FnExactEncodeVector', WHERE WHAT IT READS IS OF BULK AT MOST 1048576: true; the input reads as it did. -/
def fnExactEncodeVectorUptoRow : OpenClaim := { program := "ytnfjbjlcglfabaa", sum := "85c4f6809892fd47119d5f41115bf91674136a1f13f3d15c7f106bff8c5900c8", func := "loop.example/vectorstore/laws.FnExactEncodeVector", spec := "fnExactEncodeVector", apart := false, narrowed := true }
def FnExactEncodeVectorUptoSaid : Prop := fnExactEncodeVectorUptoRow.holds Try.pinned (OpenSpec.upto fnExactEncodeVectorSpec)

/-- 'laws.FnEncodeVector', WHERE WHAT IT READS IS OF BULK AT MOST 1048576: true; the input reads as it did. -/
def fnEncodeVectorUptoRow : OpenClaim := { program := "ytnfjbjlcglfabaa", sum := "85c4f6809892fd47119d5f41115bf91674136a1f13f3d15c7f106bff8c5900c8", func := "loop.example/vectorstore/laws.FnEncodeVector", spec := "fnEncodeVector", apart := false, narrowed := true }
def FnEncodeVectorUptoSaid : Prop := fnEncodeVectorUptoRow.holds Try.pinned (OpenSpec.upto fnEncodeVectorSpec)

/-- 'laws.FnExactCodeDistances', WHERE WHAT IT READS IS OF BULK AT MOST 1048576: true; the input reads as it did. -/
def fnExactCodeDistancesUptoRow : OpenClaim := { program := "ytnfjbjlcglfabaa", sum := "85c4f6809892fd47119d5f41115bf91674136a1f13f3d15c7f106bff8c5900c8", func := "loop.example/vectorstore/laws.FnExactCodeDistances", spec := "fnExactCodeDistances", apart := false, narrowed := true }
def FnExactCodeDistancesUptoSaid : Prop := fnExactCodeDistancesUptoRow.holds Try.pinned (OpenSpec.upto fnExactCodeDistancesSpec)

/-- 'laws.FnCodeDistances', WHERE WHAT IT READS IS OF BULK AT MOST 1048576: true; the input reads as it did. -/
def fnCodeDistancesUptoRow : OpenClaim := { program := "ytnfjbjlcglfabaa", sum := "85c4f6809892fd47119d5f41115bf91674136a1f13f3d15c7f106bff8c5900c8", func := "loop.example/vectorstore/laws.FnCodeDistances", spec := "fnCodeDistances", apart := false, narrowed := true }
def FnCodeDistancesUptoSaid : Prop := fnCodeDistancesUptoRow.holds Try.pinned (OpenSpec.upto fnCodeDistancesSpec)

end Rows
end Go.Proofs.Ytnfjbjlcglfabaa
