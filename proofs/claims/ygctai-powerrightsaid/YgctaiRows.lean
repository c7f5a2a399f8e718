/-
  No cell of these rows narrows 'for every input' (looked for: loops, veiled, ifaces, maps, wideKeys, modest, calm, conditions, laid).
  DERIVED. THE GIVEN ROWS OF THIS SEAT. 12 by the template 'for every input the law returns true; each argument reads behind the call as it read before'; 0 by the template 'total and deterministic' (their statements: YgctaiTotals.lean).
  GIVEN WITH THE SEED: the statements are not yours to turn. If you find one false, say at which input.
  Laid BY PROGRAM, IN A SANDBOX (cutbox-rows.mjs): the forced cells as the released guide's own fill.sh prints them over the translation 69338ca44c660411… (all of the seat's roots in one cut). By AI agents, Wed Nov 11 2026. No macro, syntax, notation, axiom, sorry.
-/
import Derived.Test.YgctaiChecked
import GoSem.Claim
import GoSem.ClaimJoined
import GoSem.ClaimMapViews
import Derived.JoinedTies
import Derived.KernelRfl
namespace Go.Proofs.Ygctai
/- THE CELL 'sum', in the pinned program and in every row, IS THE sha256 OF THE DUMP (.gsa) THAT YgctaiProg.lean LOADS. Nothing in Lean hashes anything: it is a label: what it is worth is what the hold of that sum in a sandbox is worth. -/
noncomputable def Taig.pinned : Pinned := { name := "ygctai", sum := "69338ca44c6604115240bac29621dd17682cd6d6493a6144169b7cc71ddf0533", checked := Taig.checked }
namespace Rows
def none {H : Type} : Left H := { results := [], args := [] }

/-- 'law.DecSchoolRight': WHATEVER THE INPUT: true; the input reads as it did. -/
def decSchoolRightSpec : ChangeSpec := { name := "decSchoolRight", fn := fun _ => fun
  | [d] => { results := [.lit (.bool true)], args := [d] }
  | _ => none }
def decSchoolRightRow : OpenClaim := { program := "ygctai", sum := "69338ca44c6604115240bac29621dd17682cd6d6493a6144169b7cc71ddf0533", func := "fftlab/law.DecSchoolRight", spec := "decSchoolRight", apart := false }
def DecSchoolRightSaid : Prop := decSchoolRightRow.holds Taig.pinned (OpenSpec.ofChange decSchoolRightSpec)

/-- ITS FALSE NEIGHBOUR: 'it returns false'. Refute it at one input. -/
def decSchoolRightWrong : ChangeSpec := { name := "decSchoolRight", fn := fun _ => fun
  | [d] => { results := [.lit (.bool false)], args := [d] }
  | _ => none }
def DecSchoolRightWrongFalsely : Prop := decSchoolRightRow.holds Taig.pinned (OpenSpec.ofChange decSchoolRightWrong)

/-- 'law.ReadSchoolRight': WHATEVER THE INPUT: true; the input reads as it did. -/
def readSchoolRightSpec : ChangeSpec := { name := "readSchoolRight", fn := fun _ => fun
  | [d] => { results := [.lit (.bool true)], args := [d] }
  | _ => none }
def readSchoolRightRow : OpenClaim := { program := "ygctai", sum := "69338ca44c6604115240bac29621dd17682cd6d6493a6144169b7cc71ddf0533", func := "fftlab/law.ReadSchoolRight", spec := "readSchoolRight", apart := false }
def ReadSchoolRightSaid : Prop := readSchoolRightRow.holds Taig.pinned (OpenSpec.ofChange readSchoolRightSpec)

/-- ITS FALSE NEIGHBOUR: 'it returns false'. Refute it at one input. -/
def readSchoolRightWrong : ChangeSpec := { name := "readSchoolRight", fn := fun _ => fun
  | [d] => { results := [.lit (.bool false)], args := [d] }
  | _ => none }
def ReadSchoolRightWrongFalsely : Prop := readSchoolRightRow.holds Taig.pinned (OpenSpec.ofChange readSchoolRightWrong)

/-- 'law.DivRight': WHATEVER THE INPUT: true; the input reads as it did. -/
def divRightSpec : ChangeSpec := { name := "divRight", fn := fun _ => fun
  | [d1, d2] => { results := [.lit (.bool true)], args := [d1, d2] }
  | _ => none }
def divRightRow : OpenClaim := { program := "ygctai", sum := "69338ca44c6604115240bac29621dd17682cd6d6493a6144169b7cc71ddf0533", func := "fftlab/law.DivRight", spec := "divRight", apart := false }
def DivRightSaid : Prop := divRightRow.holds Taig.pinned (OpenSpec.ofChange divRightSpec)

/-- ITS FALSE NEIGHBOUR: 'it returns false'. Refute it at one input. -/
def divRightWrong : ChangeSpec := { name := "divRight", fn := fun _ => fun
  | [d1, d2] => { results := [.lit (.bool false)], args := [d1, d2] }
  | _ => none }
def DivRightWrongFalsely : Prop := divRightRow.holds Taig.pinned (OpenSpec.ofChange divRightWrong)

/-- 'law.SqrtRight': WHATEVER THE INPUT: true; the input reads as it did. -/
def sqrtRightSpec : ChangeSpec := { name := "sqrtRight", fn := fun _ => fun
  | [d] => { results := [.lit (.bool true)], args := [d] }
  | _ => none }
def sqrtRightRow : OpenClaim := { program := "ygctai", sum := "69338ca44c6604115240bac29621dd17682cd6d6493a6144169b7cc71ddf0533", func := "fftlab/law.SqrtRight", spec := "sqrtRight", apart := false }
def SqrtRightSaid : Prop := sqrtRightRow.holds Taig.pinned (OpenSpec.ofChange sqrtRightSpec)

/-- ITS FALSE NEIGHBOUR: 'it returns false'. Refute it at one input. -/
def sqrtRightWrong : ChangeSpec := { name := "sqrtRight", fn := fun _ => fun
  | [d] => { results := [.lit (.bool false)], args := [d] }
  | _ => none }
def SqrtRightWrongFalsely : Prop := sqrtRightRow.holds Taig.pinned (OpenSpec.ofChange sqrtRightWrong)

/-- 'law.DecimalRight': WHATEVER THE INPUT: true; the input reads as it did. -/
def decimalRightSpec : ChangeSpec := { name := "decimalRight", fn := fun _ => fun
  | [d] => { results := [.lit (.bool true)], args := [d] }
  | _ => none }
def decimalRightRow : OpenClaim := { program := "ygctai", sum := "69338ca44c6604115240bac29621dd17682cd6d6493a6144169b7cc71ddf0533", func := "fftlab/law.DecimalRight", spec := "decimalRight", apart := false }
def DecimalRightSaid : Prop := decimalRightRow.holds Taig.pinned (OpenSpec.ofChange decimalRightSpec)

/-- ITS FALSE NEIGHBOUR: 'it returns false'. Refute it at one input. -/
def decimalRightWrong : ChangeSpec := { name := "decimalRight", fn := fun _ => fun
  | [d] => { results := [.lit (.bool false)], args := [d] }
  | _ => none }
def DecimalRightWrongFalsely : Prop := decimalRightRow.holds Taig.pinned (OpenSpec.ofChange decimalRightWrong)

/-- 'law.ReadRight': WHATEVER THE INPUT: true; the input reads as it did. -/
def readRightSpec : ChangeSpec := { name := "readRight", fn := fun _ => fun
  | [d] => { results := [.lit (.bool true)], args := [d] }
  | _ => none }
def readRightRow : OpenClaim := { program := "ygctai", sum := "69338ca44c6604115240bac29621dd17682cd6d6493a6144169b7cc71ddf0533", func := "fftlab/law.ReadRight", spec := "readRight", apart := false }
def ReadRightSaid : Prop := readRightRow.holds Taig.pinned (OpenSpec.ofChange readRightSpec)

/-- ITS FALSE NEIGHBOUR: 'it returns false'. Refute it at one input. -/
def readRightWrong : ChangeSpec := { name := "readRight", fn := fun _ => fun
  | [d] => { results := [.lit (.bool false)], args := [d] }
  | _ => none }
def ReadRightWrongFalsely : Prop := readRightRow.holds Taig.pinned (OpenSpec.ofChange readRightWrong)

/-- 'law.PowerRight': WHATEVER THE INPUT: true; the input reads as it did. -/
def powerRightSpec : ChangeSpec := { name := "powerRight", fn := fun _ => fun
  | [d1, d2] => { results := [.lit (.bool true)], args := [d1, d2] }
  | _ => none }
def powerRightRow : OpenClaim := { program := "ygctai", sum := "69338ca44c6604115240bac29621dd17682cd6d6493a6144169b7cc71ddf0533", func := "fftlab/law.PowerRight", spec := "powerRight", recurses := true, apart := false }
def PowerRightSaid : Prop := powerRightRow.holds Taig.pinned (OpenSpec.ofChange powerRightSpec)

/-- ITS FALSE NEIGHBOUR: 'it returns false'. Refute it at one input. -/
def powerRightWrong : ChangeSpec := { name := "powerRight", fn := fun _ => fun
  | [d1, d2] => { results := [.lit (.bool false)], args := [d1, d2] }
  | _ => none }
def PowerRightWrongFalsely : Prop := powerRightRow.holds Taig.pinned (OpenSpec.ofChange powerRightWrong)

/-- 'law.FactorialRight': WHATEVER THE INPUT: true; the input reads as it did. -/
def factorialRightSpec : ChangeSpec := { name := "factorialRight", fn := fun _ => fun
  | [d] => { results := [.lit (.bool true)], args := [d] }
  | _ => none }
def factorialRightRow : OpenClaim := { program := "ygctai", sum := "69338ca44c6604115240bac29621dd17682cd6d6493a6144169b7cc71ddf0533", func := "fftlab/law.FactorialRight", spec := "factorialRight", recurses := true, apart := false }
def FactorialRightSaid : Prop := factorialRightRow.holds Taig.pinned (OpenSpec.ofChange factorialRightSpec)

/-- ITS FALSE NEIGHBOUR: 'it returns false'. Refute it at one input. -/
def factorialRightWrong : ChangeSpec := { name := "factorialRight", fn := fun _ => fun
  | [d] => { results := [.lit (.bool false)], args := [d] }
  | _ => none }
def FactorialRightWrongFalsely : Prop := factorialRightRow.holds Taig.pinned (OpenSpec.ofChange factorialRightWrong)

/-- 'law.DivLongRight': WHATEVER THE INPUT: true; the input reads as it did. -/
def divLongRightSpec : ChangeSpec := { name := "divLongRight", fn := fun _ => fun
  | [d1, d2] => { results := [.lit (.bool true)], args := [d1, d2] }
  | _ => none }
def divLongRightRow : OpenClaim := { program := "ygctai", sum := "69338ca44c6604115240bac29621dd17682cd6d6493a6144169b7cc71ddf0533", func := "fftlab/law.DivLongRight", spec := "divLongRight", apart := false }
def DivLongRightSaid : Prop := divLongRightRow.holds Taig.pinned (OpenSpec.ofChange divLongRightSpec)

/-- ITS FALSE NEIGHBOUR: 'it returns false'. Refute it at one input. -/
def divLongRightWrong : ChangeSpec := { name := "divLongRight", fn := fun _ => fun
  | [d1, d2] => { results := [.lit (.bool false)], args := [d1, d2] }
  | _ => none }
def DivLongRightWrongFalsely : Prop := divLongRightRow.holds Taig.pinned (OpenSpec.ofChange divLongRightWrong)

/-- 'law.SqrtLongRight': WHATEVER THE INPUT: true; the input reads as it did. -/
def sqrtLongRightSpec : ChangeSpec := { name := "sqrtLongRight", fn := fun _ => fun
  | [d] => { results := [.lit (.bool true)], args := [d] }
  | _ => none }
def sqrtLongRightRow : OpenClaim := { program := "ygctai", sum := "69338ca44c6604115240bac29621dd17682cd6d6493a6144169b7cc71ddf0533", func := "fftlab/law.SqrtLongRight", spec := "sqrtLongRight", apart := false }
def SqrtLongRightSaid : Prop := sqrtLongRightRow.holds Taig.pinned (OpenSpec.ofChange sqrtLongRightSpec)

/-- ITS FALSE NEIGHBOUR: 'it returns false'. Refute it at one input. -/
def sqrtLongRightWrong : ChangeSpec := { name := "sqrtLongRight", fn := fun _ => fun
  | [d] => { results := [.lit (.bool false)], args := [d] }
  | _ => none }
def SqrtLongRightWrongFalsely : Prop := sqrtLongRightRow.holds Taig.pinned (OpenSpec.ofChange sqrtLongRightWrong)

/-- 'law.DecimalLongRight': WHATEVER THE INPUT: true; the input reads as it did. -/
def decimalLongRightSpec : ChangeSpec := { name := "decimalLongRight", fn := fun _ => fun
  | [d] => { results := [.lit (.bool true)], args := [d] }
  | _ => none }
def decimalLongRightRow : OpenClaim := { program := "ygctai", sum := "69338ca44c6604115240bac29621dd17682cd6d6493a6144169b7cc71ddf0533", func := "fftlab/law.DecimalLongRight", spec := "decimalLongRight", apart := false }
def DecimalLongRightSaid : Prop := decimalLongRightRow.holds Taig.pinned (OpenSpec.ofChange decimalLongRightSpec)

/-- ITS FALSE NEIGHBOUR: 'it returns false'. Refute it at one input. -/
def decimalLongRightWrong : ChangeSpec := { name := "decimalLongRight", fn := fun _ => fun
  | [d] => { results := [.lit (.bool false)], args := [d] }
  | _ => none }
def DecimalLongRightWrongFalsely : Prop := decimalLongRightRow.holds Taig.pinned (OpenSpec.ofChange decimalLongRightWrong)

/-- 'law.ReadLongRight': WHATEVER THE INPUT: true; the input reads as it did. -/
def readLongRightSpec : ChangeSpec := { name := "readLongRight", fn := fun _ => fun
  | [d] => { results := [.lit (.bool true)], args := [d] }
  | _ => none }
def readLongRightRow : OpenClaim := { program := "ygctai", sum := "69338ca44c6604115240bac29621dd17682cd6d6493a6144169b7cc71ddf0533", func := "fftlab/law.ReadLongRight", spec := "readLongRight", apart := false }
def ReadLongRightSaid : Prop := readLongRightRow.holds Taig.pinned (OpenSpec.ofChange readLongRightSpec)

/-- ITS FALSE NEIGHBOUR: 'it returns false'. Refute it at one input. -/
def readLongRightWrong : ChangeSpec := { name := "readLongRight", fn := fun _ => fun
  | [d] => { results := [.lit (.bool false)], args := [d] }
  | _ => none }
def ReadLongRightWrongFalsely : Prop := readLongRightRow.holds Taig.pinned (OpenSpec.ofChange readLongRightWrong)

end Rows
end Go.Proofs.Ygctai
