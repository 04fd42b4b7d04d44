/-
  No cell of these rows narrows 'for every input' (looked for: loops, veiled, ifaces, maps, wideKeys, modest, calm, conditions, laid).
  DERIVED. THE GIVEN ROWS OF THIS SEAT. 12 by the template 'for every input the law returns true; each argument reads behind the call as it read before'; 0 by the template 'total and deterministic' (their statements: YgcoafTotals.lean).
  GIVEN WITH THE SEED: the statements are not yours to turn. If you find one false, say at which input.
  Laid BY PROGRAM, IN A SANDBOX (cutbox-rows.mjs): the forced cells as the released guide's own fill.sh prints them over the translation 0afba86e1cd674e0… (all of the seat's roots in one cut). By AI agents, Wed Nov 11 2026. No macro, syntax, notation, axiom, sorry.
-/
import Derived.Test.YgcoafChecked
import GoSem.Claim
import GoSem.ClaimJoined
import GoSem.ClaimMapViews
import Derived.JoinedTies
import Derived.KernelRfl
namespace Go.Proofs.Ygcoaf
/- THE CELL 'sum', in the pinned program and in every row, IS THE sha256 OF THE DUMP (.gsa) THAT YgcoafProg.lean LOADS. Nothing in Lean hashes anything: it is a label: what it is worth is what the hold of that sum in a sandbox is worth. -/
noncomputable def Oafg.pinned : Pinned := { name := "ygcoaf", sum := "0afba86e1cd674e08fd875c09e637c0bcca317c19c7073972ae8a501a6d496e5", checked := Oafg.checked }
namespace Rows
def none {H : Type} : Left H := { results := [], args := [] }

/-- 'law.Native32': WHATEVER THE INPUT: true; the input reads as it did. -/
def native32Spec : ChangeSpec := { name := "native32", fn := fun _ => fun
  | [d1, d2, d3] => { results := [.lit (.bool true)], args := [d1, d2, d3] }
  | _ => none }
def native32Row : OpenClaim := { program := "ygcoaf", sum := "0afba86e1cd674e08fd875c09e637c0bcca317c19c7073972ae8a501a6d496e5", func := "softfloat/law.Native32", spec := "native32", inPlace := ["math.Float32frombits", "math.Float32bits"], apart := false }
def Native32Said : Prop := native32Row.holds Oafg.pinned (OpenSpec.ofChange native32Spec)

/-- ITS FALSE NEIGHBOUR: 'it returns false'. Refute it at one input. -/
def native32Wrong : ChangeSpec := { name := "native32", fn := fun _ => fun
  | [d1, d2, d3] => { results := [.lit (.bool false)], args := [d1, d2, d3] }
  | _ => none }
def Native32WrongFalsely : Prop := native32Row.holds Oafg.pinned (OpenSpec.ofChange native32Wrong)

/-- 'law.NativeSqrt': WHATEVER THE INPUT: true; the input reads as it did. -/
def nativeSqrtSpec : ChangeSpec := { name := "nativeSqrt", fn := fun _ => fun
  | [d1, d2] => { results := [.lit (.bool true)], args := [d1, d2] }
  | _ => none }
def nativeSqrtRow : OpenClaim := { program := "ygcoaf", sum := "0afba86e1cd674e08fd875c09e637c0bcca317c19c7073972ae8a501a6d496e5", func := "softfloat/law.NativeSqrt", spec := "nativeSqrt", inPlace := ["math.Float64frombits", "math.sqrt", "math.Float64bits", "math.Float32frombits", "math.Float32bits"], apart := false }
def NativeSqrtSaid : Prop := nativeSqrtRow.holds Oafg.pinned (OpenSpec.ofChange nativeSqrtSpec)

/-- ITS FALSE NEIGHBOUR: 'it returns false'. Refute it at one input. -/
def nativeSqrtWrong : ChangeSpec := { name := "nativeSqrt", fn := fun _ => fun
  | [d1, d2] => { results := [.lit (.bool false)], args := [d1, d2] }
  | _ => none }
def NativeSqrtWrongFalsely : Prop := nativeSqrtRow.holds Oafg.pinned (OpenSpec.ofChange nativeSqrtWrong)

/-- 'law.NativeTest': WHATEVER THE INPUT: true; the input reads as it did. -/
def nativeTestSpec : ChangeSpec := { name := "nativeTest", fn := fun _ => fun
  | [d1, d2, d3, d4, d5] => { results := [.lit (.bool true)], args := [d1, d2, d3, d4, d5] }
  | _ => none }
def nativeTestRow : OpenClaim := { program := "ygcoaf", sum := "0afba86e1cd674e08fd875c09e637c0bcca317c19c7073972ae8a501a6d496e5", func := "softfloat/law.NativeTest", spec := "nativeTest", inPlace := ["math.Float64frombits", "math.Float32frombits"], apart := false }
def NativeTestSaid : Prop := nativeTestRow.holds Oafg.pinned (OpenSpec.ofChange nativeTestSpec)

/-- ITS FALSE NEIGHBOUR: 'it returns false'. Refute it at one input. -/
def nativeTestWrong : ChangeSpec := { name := "nativeTest", fn := fun _ => fun
  | [d1, d2, d3, d4, d5] => { results := [.lit (.bool false)], args := [d1, d2, d3, d4, d5] }
  | _ => none }
def NativeTestWrongFalsely : Prop := nativeTestRow.holds Oafg.pinned (OpenSpec.ofChange nativeTestWrong)

/-- 'law.NativeConv': WHATEVER THE INPUT: true; the input reads as it did. -/
def nativeConvSpec : ChangeSpec := { name := "nativeConv", fn := fun _ => fun
  | [d1, d2, d3, d4] => { results := [.lit (.bool true)], args := [d1, d2, d3, d4] }
  | _ => none }
def nativeConvRow : OpenClaim := { program := "ygcoaf", sum := "0afba86e1cd674e08fd875c09e637c0bcca317c19c7073972ae8a501a6d496e5", func := "softfloat/law.NativeConv", spec := "nativeConv", inPlace := ["math.Float64frombits", "math.Float32bits", "math.Float32frombits", "math.Float64bits"], apart := false }
def NativeConvSaid : Prop := nativeConvRow.holds Oafg.pinned (OpenSpec.ofChange nativeConvSpec)

/-- ITS FALSE NEIGHBOUR: 'it returns false'. Refute it at one input. -/
def nativeConvWrong : ChangeSpec := { name := "nativeConv", fn := fun _ => fun
  | [d1, d2, d3, d4] => { results := [.lit (.bool false)], args := [d1, d2, d3, d4] }
  | _ => none }
def NativeConvWrongFalsely : Prop := nativeConvRow.holds Oafg.pinned (OpenSpec.ofChange nativeConvWrong)

/-- 'law.NativeSign': WHATEVER THE INPUT: true; the input reads as it did. -/
def nativeSignSpec : ChangeSpec := { name := "nativeSign", fn := fun _ => fun
  | [d1, d2] => { results := [.lit (.bool true)], args := [d1, d2] }
  | _ => none }
def nativeSignRow : OpenClaim := { program := "ygcoaf", sum := "0afba86e1cd674e08fd875c09e637c0bcca317c19c7073972ae8a501a6d496e5", func := "softfloat/law.NativeSign", spec := "nativeSign", inPlace := ["math.Float64frombits", "math.Float64bits", "math.Float32frombits", "math.Float32bits"], apart := false }
def NativeSignSaid : Prop := nativeSignRow.holds Oafg.pinned (OpenSpec.ofChange nativeSignSpec)

/-- ITS FALSE NEIGHBOUR: 'it returns false'. Refute it at one input. -/
def nativeSignWrong : ChangeSpec := { name := "nativeSign", fn := fun _ => fun
  | [d1, d2] => { results := [.lit (.bool false)], args := [d1, d2] }
  | _ => none }
def NativeSignWrongFalsely : Prop := nativeSignRow.holds Oafg.pinned (OpenSpec.ofChange nativeSignWrong)

/-- 'law.Twice32': WHATEVER THE INPUT: true; the input reads as it did. -/
def twice32Spec : ChangeSpec := { name := "twice32", fn := fun _ => fun
  | [d1, d2, d3] => { results := [.lit (.bool true)], args := [d1, d2, d3] }
  | _ => none }
def twice32Row : OpenClaim := { program := "ygcoaf", sum := "0afba86e1cd674e08fd875c09e637c0bcca317c19c7073972ae8a501a6d496e5", func := "softfloat/law.Twice32", spec := "twice32", apart := false }
def Twice32Said : Prop := twice32Row.holds Oafg.pinned (OpenSpec.ofChange twice32Spec)

/-- ITS FALSE NEIGHBOUR: 'it returns false'. Refute it at one input. -/
def twice32Wrong : ChangeSpec := { name := "twice32", fn := fun _ => fun
  | [d1, d2, d3] => { results := [.lit (.bool false)], args := [d1, d2, d3] }
  | _ => none }
def Twice32WrongFalsely : Prop := twice32Row.holds Oafg.pinned (OpenSpec.ofChange twice32Wrong)

/-- 'law.Twice16': WHATEVER THE INPUT: true; the input reads as it did. -/
def twice16Spec : ChangeSpec := { name := "twice16", fn := fun _ => fun
  | [d1, d2, d3] => { results := [.lit (.bool true)], args := [d1, d2, d3] }
  | _ => none }
def twice16Row : OpenClaim := { program := "ygcoaf", sum := "0afba86e1cd674e08fd875c09e637c0bcca317c19c7073972ae8a501a6d496e5", func := "softfloat/law.Twice16", spec := "twice16", apart := false }
def Twice16Said : Prop := twice16Row.holds Oafg.pinned (OpenSpec.ofChange twice16Spec)

/-- ITS FALSE NEIGHBOUR: 'it returns false'. Refute it at one input. -/
def twice16Wrong : ChangeSpec := { name := "twice16", fn := fun _ => fun
  | [d1, d2, d3] => { results := [.lit (.bool false)], args := [d1, d2, d3] }
  | _ => none }
def Twice16WrongFalsely : Prop := twice16Row.holds Oafg.pinned (OpenSpec.ofChange twice16Wrong)

/-- 'law.ClingerRight': WHATEVER THE INPUT: true; the input reads as it did. -/
def clingerRightSpec : ChangeSpec := { name := "clingerRight", fn := fun _ => fun
  | [d1, d2, d3] => { results := [.lit (.bool true)], args := [d1, d2, d3] }
  | _ => none }
def clingerRightRow : OpenClaim := { program := "ygcoaf", sum := "0afba86e1cd674e08fd875c09e637c0bcca317c19c7073972ae8a501a6d496e5", func := "softfloat/law.ClingerRight", spec := "clingerRight", inPlace := ["math.Float64bits", "math.Float32bits"], apart := false }
def ClingerRightSaid : Prop := clingerRightRow.holds Oafg.pinned (OpenSpec.ofChange clingerRightSpec)

/-- ITS FALSE NEIGHBOUR: 'it returns false'. Refute it at one input. -/
def clingerRightWrong : ChangeSpec := { name := "clingerRight", fn := fun _ => fun
  | [d1, d2, d3] => { results := [.lit (.bool false)], args := [d1, d2, d3] }
  | _ => none }
def ClingerRightWrongFalsely : Prop := clingerRightRow.holds Oafg.pinned (OpenSpec.ofChange clingerRightWrong)

/-- 'law.LemireRight': WHATEVER THE INPUT: true; the input reads as it did. -/
def lemireRightSpec : ChangeSpec := { name := "lemireRight", fn := fun _ => fun
  | [d1, d2, d3] => { results := [.lit (.bool true)], args := [d1, d2, d3] }
  | _ => none }
def lemireRightRow : OpenClaim := { program := "ygcoaf", sum := "0afba86e1cd674e08fd875c09e637c0bcca317c19c7073972ae8a501a6d496e5", func := "softfloat/law.LemireRight", spec := "lemireRight", apart := false }
def LemireRightSaid : Prop := lemireRightRow.holds Oafg.pinned (OpenSpec.ofChange lemireRightSpec)

/-- ITS FALSE NEIGHBOUR: 'it returns false'. Refute it at one input. -/
def lemireRightWrong : ChangeSpec := { name := "lemireRight", fn := fun _ => fun
  | [d1, d2, d3] => { results := [.lit (.bool false)], args := [d1, d2, d3] }
  | _ => none }
def LemireRightWrongFalsely : Prop := lemireRightRow.holds Oafg.pinned (OpenSpec.ofChange lemireRightWrong)

/-- 'law.Seldom': WHATEVER THE INPUT: true; the input reads as it did. -/
def seldomSpec : ChangeSpec := { name := "seldom", fn := fun _ => fun
  | [d1, d2, d3] => { results := [.lit (.bool true)], args := [d1, d2, d3] }
  | _ => none }
def seldomRow : OpenClaim := { program := "ygcoaf", sum := "0afba86e1cd674e08fd875c09e637c0bcca317c19c7073972ae8a501a6d496e5", func := "softfloat/law.Seldom", spec := "seldom", apart := false }
def SeldomSaid : Prop := seldomRow.holds Oafg.pinned (OpenSpec.ofChange seldomSpec)

/-- ITS FALSE NEIGHBOUR: 'it returns false'. Refute it at one input. -/
def seldomWrong : ChangeSpec := { name := "seldom", fn := fun _ => fun
  | [d1, d2, d3] => { results := [.lit (.bool false)], args := [d1, d2, d3] }
  | _ => none }
def SeldomWrongFalsely : Prop := seldomRow.holds Oafg.pinned (OpenSpec.ofChange seldomWrong)

/-- 'law.SlowRight': WHATEVER THE INPUT: true; the input reads as it did. -/
def slowRightSpec : ChangeSpec := { name := "slowRight", fn := fun _ => fun
  | [d1, d2, d3, d4, d5] => { results := [.lit (.bool true)], args := [d1, d2, d3, d4, d5] }
  | _ => none }
def slowRightRow : OpenClaim := { program := "ygcoaf", sum := "0afba86e1cd674e08fd875c09e637c0bcca317c19c7073972ae8a501a6d496e5", func := "softfloat/law.SlowRight", spec := "slowRight", apart := false }
def SlowRightSaid : Prop := slowRightRow.holds Oafg.pinned (OpenSpec.ofChange slowRightSpec)

/-- ITS FALSE NEIGHBOUR: 'it returns false'. Refute it at one input. -/
def slowRightWrong : ChangeSpec := { name := "slowRight", fn := fun _ => fun
  | [d1, d2, d3, d4, d5] => { results := [.lit (.bool false)], args := [d1, d2, d3, d4, d5] }
  | _ => none }
def SlowRightWrongFalsely : Prop := slowRightRow.holds Oafg.pinned (OpenSpec.ofChange slowRightWrong)

/-- 'law.SlowFlagsRight': WHATEVER THE INPUT: true; the input reads as it did. -/
def slowFlagsRightSpec : ChangeSpec := { name := "slowFlagsRight", fn := fun _ => fun
  | [d1, d2, d3, d4, d5] => { results := [.lit (.bool true)], args := [d1, d2, d3, d4, d5] }
  | _ => none }
def slowFlagsRightRow : OpenClaim := { program := "ygcoaf", sum := "0afba86e1cd674e08fd875c09e637c0bcca317c19c7073972ae8a501a6d496e5", func := "softfloat/law.SlowFlagsRight", spec := "slowFlagsRight", apart := false }
def SlowFlagsRightSaid : Prop := slowFlagsRightRow.holds Oafg.pinned (OpenSpec.ofChange slowFlagsRightSpec)

/-- ITS FALSE NEIGHBOUR: 'it returns false'. Refute it at one input. -/
def slowFlagsRightWrong : ChangeSpec := { name := "slowFlagsRight", fn := fun _ => fun
  | [d1, d2, d3, d4, d5] => { results := [.lit (.bool false)], args := [d1, d2, d3, d4, d5] }
  | _ => none }
def SlowFlagsRightWrongFalsely : Prop := slowFlagsRightRow.holds Oafg.pinned (OpenSpec.ofChange slowFlagsRightWrong)

end Rows
end Go.Proofs.Ygcoaf
