/-
  No cell of these rows narrows 'for every input' (looked for: loops, veiled, ifaces, maps, wideKeys, modest, calm, conditions, laid).
  DERIVED. THE GIVEN ROWS OF THIS SEAT. 12 by the template 'for every input the law returns true; each argument reads behind the call as it read before'; 0 by the template 'total and deterministic' (their statements: YbuaawTotals.lean).
  GIVEN WITH THE SEED: the statements are not yours to turn. If you find one false, say at which input.
  Laid BY PROGRAM, IN A SANDBOX (cutbox-rows.mjs): the forced cells as the released guide's own fill.sh prints them over the translation 813a38b2b6e06161… (all of the seat's roots in one cut). By AI agents, Wed Nov 11 2026. No macro, syntax, notation, axiom, sorry.
-/
import Derived.Test.YbuaawChecked
import GoSem.Claim
import GoSem.ClaimJoined
import GoSem.ClaimMapViews
import Derived.JoinedTies
import Derived.KernelRfl
namespace Go.Proofs.Ybuaaw
/- THE CELL 'sum', in the pinned program and in every row, IS THE sha256 OF THE DUMP (.gsa) THAT YbuaawProg.lean LOADS. Nothing in Lean hashes anything: it is a label: what it is worth is what the hold of that sum in a sandbox is worth. -/
noncomputable def Yaac.pinned : Pinned := { name := "ybuaaw", sum := "813a38b2b6e061611558cb880b7d0385955dd5a17ac16638006c6a33d5382c42", checked := Yaac.checked }
namespace Rows
def none {H : Type} : Left H := { results := [], args := [] }

/-- 'laws.FnTop': WHATEVER THE INPUT: true; the input reads as it did. -/
def fnTopSpec : ChangeSpec := { name := "fnTop", fn := fun _ => fun
  | [d1, d2] => { results := [.lit (.bool true)], args := [d1, d2] }
  | _ => none }
def fnTopRow : OpenClaim := { program := "ybuaaw", sum := "813a38b2b6e061611558cb880b7d0385955dd5a17ac16638006c6a33d5382c42", func := "loop.example/c011/laws.FnTop", spec := "fnTop", apart := false }
def FnTopSaid : Prop := fnTopRow.holds Yaac.pinned (OpenSpec.ofChange fnTopSpec)

/-- ITS FALSE NEIGHBOUR: 'it returns false'. Refute it at one input. -/
def fnTopWrong : ChangeSpec := { name := "fnTop", fn := fun _ => fun
  | [d1, d2] => { results := [.lit (.bool false)], args := [d1, d2] }
  | _ => none }
def FnTopWrongFalsely : Prop := fnTopRow.holds Yaac.pinned (OpenSpec.ofChange fnTopWrong)

/-- 'laws.FnSplitLines': WHATEVER THE INPUT: true; the input reads as it did. -/
def fnSplitLinesSpec : ChangeSpec := { name := "fnSplitLines", fn := fun _ => fun
  | [d] => { results := [.lit (.bool true)], args := [d] }
  | _ => none }
def fnSplitLinesRow : OpenClaim := { program := "ybuaaw", sum := "813a38b2b6e061611558cb880b7d0385955dd5a17ac16638006c6a33d5382c42", func := "loop.example/c011/laws.FnSplitLines", spec := "fnSplitLines", apart := false }
def FnSplitLinesSaid : Prop := fnSplitLinesRow.holds Yaac.pinned (OpenSpec.ofChange fnSplitLinesSpec)

/-- ITS FALSE NEIGHBOUR: 'it returns false'. Refute it at one input. -/
def fnSplitLinesWrong : ChangeSpec := { name := "fnSplitLines", fn := fun _ => fun
  | [d] => { results := [.lit (.bool false)], args := [d] }
  | _ => none }
def FnSplitLinesWrongFalsely : Prop := fnSplitLinesRow.holds Yaac.pinned (OpenSpec.ofChange fnSplitLinesWrong)

/-- 'laws.FnClassify': WHATEVER THE INPUT: true; the input reads as it did. -/
def fnClassifySpec : ChangeSpec := { name := "fnClassify", fn := fun _ => fun
  | [d] => { results := [.lit (.bool true)], args := [d] }
  | _ => none }
def fnClassifyRow : OpenClaim := { program := "ybuaaw", sum := "813a38b2b6e061611558cb880b7d0385955dd5a17ac16638006c6a33d5382c42", func := "loop.example/c011/laws.FnClassify", spec := "fnClassify", apart := false }
def FnClassifySaid : Prop := fnClassifyRow.holds Yaac.pinned (OpenSpec.ofChange fnClassifySpec)

/-- ITS FALSE NEIGHBOUR: 'it returns false'. Refute it at one input. -/
def fnClassifyWrong : ChangeSpec := { name := "fnClassify", fn := fun _ => fun
  | [d] => { results := [.lit (.bool false)], args := [d] }
  | _ => none }
def FnClassifyWrongFalsely : Prop := fnClassifyRow.holds Yaac.pinned (OpenSpec.ofChange fnClassifyWrong)

/-- 'laws.FnBlocks': WHATEVER THE INPUT: true; the input reads as it did. -/
def fnBlocksSpec : ChangeSpec := { name := "fnBlocks", fn := fun _ => fun
  | [d] => { results := [.lit (.bool true)], args := [d] }
  | _ => none }
def fnBlocksRow : OpenClaim := { program := "ybuaaw", sum := "813a38b2b6e061611558cb880b7d0385955dd5a17ac16638006c6a33d5382c42", func := "loop.example/c011/laws.FnBlocks", spec := "fnBlocks", apart := false }
def FnBlocksSaid : Prop := fnBlocksRow.holds Yaac.pinned (OpenSpec.ofChange fnBlocksSpec)

/-- ITS FALSE NEIGHBOUR: 'it returns false'. Refute it at one input. -/
def fnBlocksWrong : ChangeSpec := { name := "fnBlocks", fn := fun _ => fun
  | [d] => { results := [.lit (.bool false)], args := [d] }
  | _ => none }
def FnBlocksWrongFalsely : Prop := fnBlocksRow.holds Yaac.pinned (OpenSpec.ofChange fnBlocksWrong)

/-- 'laws.FnInline': WHATEVER THE INPUT: true; the input reads as it did. -/
def fnInlineSpec : ChangeSpec := { name := "fnInline", fn := fun _ => fun
  | [d] => { results := [.lit (.bool true)], args := [d] }
  | _ => none }
def fnInlineRow : OpenClaim := { program := "ybuaaw", sum := "813a38b2b6e061611558cb880b7d0385955dd5a17ac16638006c6a33d5382c42", func := "loop.example/c011/laws.FnInline", spec := "fnInline", apart := false }
def FnInlineSaid : Prop := fnInlineRow.holds Yaac.pinned (OpenSpec.ofChange fnInlineSpec)

/-- ITS FALSE NEIGHBOUR: 'it returns false'. Refute it at one input. -/
def fnInlineWrong : ChangeSpec := { name := "fnInline", fn := fun _ => fun
  | [d] => { results := [.lit (.bool false)], args := [d] }
  | _ => none }
def FnInlineWrongFalsely : Prop := fnInlineRow.holds Yaac.pinned (OpenSpec.ofChange fnInlineWrong)

/-- 'laws.FnNormalForm': WHATEVER THE INPUT: true; the input reads as it did. -/
def fnNormalFormSpec : ChangeSpec := { name := "fnNormalForm", fn := fun _ => fun
  | [d] => { results := [.lit (.bool true)], args := [d] }
  | _ => none }
def fnNormalFormRow : OpenClaim := { program := "ybuaaw", sum := "813a38b2b6e061611558cb880b7d0385955dd5a17ac16638006c6a33d5382c42", func := "loop.example/c011/laws.FnNormalForm", spec := "fnNormalForm", apart := false }
def FnNormalFormSaid : Prop := fnNormalFormRow.holds Yaac.pinned (OpenSpec.ofChange fnNormalFormSpec)

/-- ITS FALSE NEIGHBOUR: 'it returns false'. Refute it at one input. -/
def fnNormalFormWrong : ChangeSpec := { name := "fnNormalForm", fn := fun _ => fun
  | [d] => { results := [.lit (.bool false)], args := [d] }
  | _ => none }
def FnNormalFormWrongFalsely : Prop := fnNormalFormRow.holds Yaac.pinned (OpenSpec.ofChange fnNormalFormWrong)

/-- 'laws.FnUnparseRoundTrip': WHATEVER THE INPUT: true; the input reads as it did. -/
def fnUnparseRoundTripSpec : ChangeSpec := { name := "fnUnparseRoundTrip", fn := fun _ => fun
  | [d] => { results := [.lit (.bool true)], args := [d] }
  | _ => none }
def fnUnparseRoundTripRow : OpenClaim := { program := "ybuaaw", sum := "813a38b2b6e061611558cb880b7d0385955dd5a17ac16638006c6a33d5382c42", func := "loop.example/c011/laws.FnUnparseRoundTrip", spec := "fnUnparseRoundTrip", apart := false }
def FnUnparseRoundTripSaid : Prop := fnUnparseRoundTripRow.holds Yaac.pinned (OpenSpec.ofChange fnUnparseRoundTripSpec)

/-- ITS FALSE NEIGHBOUR: 'it returns false'. Refute it at one input. -/
def fnUnparseRoundTripWrong : ChangeSpec := { name := "fnUnparseRoundTrip", fn := fun _ => fun
  | [d] => { results := [.lit (.bool false)], args := [d] }
  | _ => none }
def FnUnparseRoundTripWrongFalsely : Prop := fnUnparseRoundTripRow.holds Yaac.pinned (OpenSpec.ofChange fnUnparseRoundTripWrong)

/-- 'laws.FnLayoutWidth': WHATEVER THE INPUT: true; the input reads as it did. -/
def fnLayoutWidthSpec : ChangeSpec := { name := "fnLayoutWidth", fn := fun _ => fun
  | [d1, d2] => { results := [.lit (.bool true)], args := [d1, d2] }
  | _ => none }
def fnLayoutWidthRow : OpenClaim := { program := "ybuaaw", sum := "813a38b2b6e061611558cb880b7d0385955dd5a17ac16638006c6a33d5382c42", func := "loop.example/c011/laws.FnLayoutWidth", spec := "fnLayoutWidth", apart := false }
def FnLayoutWidthSaid : Prop := fnLayoutWidthRow.holds Yaac.pinned (OpenSpec.ofChange fnLayoutWidthSpec)

/-- ITS FALSE NEIGHBOUR: 'it returns false'. Refute it at one input. -/
def fnLayoutWidthWrong : ChangeSpec := { name := "fnLayoutWidth", fn := fun _ => fun
  | [d1, d2] => { results := [.lit (.bool false)], args := [d1, d2] }
  | _ => none }
def FnLayoutWidthWrongFalsely : Prop := fnLayoutWidthRow.holds Yaac.pinned (OpenSpec.ofChange fnLayoutWidthWrong)

/-- 'laws.FnLayoutNormal': WHATEVER THE INPUT: true; the input reads as it did. -/
def fnLayoutNormalSpec : ChangeSpec := { name := "fnLayoutNormal", fn := fun _ => fun
  | [d1, d2] => { results := [.lit (.bool true)], args := [d1, d2] }
  | _ => none }
def fnLayoutNormalRow : OpenClaim := { program := "ybuaaw", sum := "813a38b2b6e061611558cb880b7d0385955dd5a17ac16638006c6a33d5382c42", func := "loop.example/c011/laws.FnLayoutNormal", spec := "fnLayoutNormal", apart := false }
def FnLayoutNormalSaid : Prop := fnLayoutNormalRow.holds Yaac.pinned (OpenSpec.ofChange fnLayoutNormalSpec)

/-- ITS FALSE NEIGHBOUR: 'it returns false'. Refute it at one input. -/
def fnLayoutNormalWrong : ChangeSpec := { name := "fnLayoutNormal", fn := fun _ => fun
  | [d1, d2] => { results := [.lit (.bool false)], args := [d1, d2] }
  | _ => none }
def FnLayoutNormalWrongFalsely : Prop := fnLayoutNormalRow.holds Yaac.pinned (OpenSpec.ofChange fnLayoutNormalWrong)

/-- 'laws.FnRenderLines': WHATEVER THE INPUT: true; the input reads as it did. -/
def fnRenderLinesSpec : ChangeSpec := { name := "fnRenderLines", fn := fun _ => fun
  | [d] => { results := [.lit (.bool true)], args := [d] }
  | _ => none }
def fnRenderLinesRow : OpenClaim := { program := "ybuaaw", sum := "813a38b2b6e061611558cb880b7d0385955dd5a17ac16638006c6a33d5382c42", func := "loop.example/c011/laws.FnRenderLines", spec := "fnRenderLines", apart := false }
def FnRenderLinesSaid : Prop := fnRenderLinesRow.holds Yaac.pinned (OpenSpec.ofChange fnRenderLinesSpec)

/-- ITS FALSE NEIGHBOUR: 'it returns false'. Refute it at one input. -/
def fnRenderLinesWrong : ChangeSpec := { name := "fnRenderLines", fn := fun _ => fun
  | [d] => { results := [.lit (.bool false)], args := [d] }
  | _ => none }
def FnRenderLinesWrongFalsely : Prop := fnRenderLinesRow.holds Yaac.pinned (OpenSpec.ofChange fnRenderLinesWrong)

/-- 'laws.FnBlockShape': WHATEVER THE INPUT: true; the input reads as it did. -/
def fnBlockShapeSpec : ChangeSpec := { name := "fnBlockShape", fn := fun _ => fun
  | [d1, d2] => { results := [.lit (.bool true)], args := [d1, d2] }
  | _ => none }
def fnBlockShapeRow : OpenClaim := { program := "ybuaaw", sum := "813a38b2b6e061611558cb880b7d0385955dd5a17ac16638006c6a33d5382c42", func := "loop.example/c011/laws.FnBlockShape", spec := "fnBlockShape", apart := false }
def FnBlockShapeSaid : Prop := fnBlockShapeRow.holds Yaac.pinned (OpenSpec.ofChange fnBlockShapeSpec)

/-- ITS FALSE NEIGHBOUR: 'it returns false'. Refute it at one input. -/
def fnBlockShapeWrong : ChangeSpec := { name := "fnBlockShape", fn := fun _ => fun
  | [d1, d2] => { results := [.lit (.bool false)], args := [d1, d2] }
  | _ => none }
def FnBlockShapeWrongFalsely : Prop := fnBlockShapeRow.holds Yaac.pinned (OpenSpec.ofChange fnBlockShapeWrong)

/-- 'laws.FnAllSeparators': WHATEVER THE INPUT: true; the input reads as it did. -/
def fnAllSeparatorsSpec : ChangeSpec := { name := "fnAllSeparators", fn := fun _ => fun
  | [d1, d2, d3] => { results := [.lit (.bool true)], args := [d1, d2, d3] }
  | _ => none }
def fnAllSeparatorsRow : OpenClaim := { program := "ybuaaw", sum := "813a38b2b6e061611558cb880b7d0385955dd5a17ac16638006c6a33d5382c42", func := "loop.example/c011/laws.FnAllSeparators", spec := "fnAllSeparators", apart := false }
def FnAllSeparatorsSaid : Prop := fnAllSeparatorsRow.holds Yaac.pinned (OpenSpec.ofChange fnAllSeparatorsSpec)

/-- ITS FALSE NEIGHBOUR: 'it returns false'. Refute it at one input. -/
def fnAllSeparatorsWrong : ChangeSpec := { name := "fnAllSeparators", fn := fun _ => fun
  | [d1, d2, d3] => { results := [.lit (.bool false)], args := [d1, d2, d3] }
  | _ => none }
def FnAllSeparatorsWrongFalsely : Prop := fnAllSeparatorsRow.holds Yaac.pinned (OpenSpec.ofChange fnAllSeparatorsWrong)

end Rows
end Go.Proofs.Ybuaaw
