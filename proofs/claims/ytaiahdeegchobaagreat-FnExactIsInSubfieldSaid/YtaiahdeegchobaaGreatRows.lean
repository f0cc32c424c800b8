/-
  No cell of these rows narrows 'for every input' (looked for: loops, veiled, ifaces, maps, wideKeys, modest, calm, conditions, laid).
  DERIVED. THE GIVEN ROWS OF THIS SEAT. 10 by the template 'for every input the law returns true; each argument reads behind the call as it read before'; 0 by the template 'total and deterministic' (their statements: YtaiahdeegchobaaGreatTotals.lean).
  GIVEN WITH THE SEED: the statements are not yours to turn. If you find one false, say at which input.
  Laid BY PROGRAM, IN A SANDBOX (cutbox-rows.mjs): the forced cells as the released guide's own fill.sh prints them over the translation 741871bfd6d89e3e… (all of the seat's roots in one cut). By AI agents, Wed Nov 11 2026. No macro, syntax, notation, axiom, sorry.
-/
import Derived.Test.YtaiahdeegchobaaGreatChecked
import GoSem.Claim
import GoSem.ClaimJoined
import GoSem.ClaimMapViews
import Derived.JoinedTies
import Derived.KernelRfl
namespace Go.Proofs.YtaiahdeegchobaaGreat
/- THE CELL 'sum', in the pinned program and in every row, IS THE sha256 OF THE DUMP (.gsa) THAT YtaiahdeegchobaaGreatProg.lean LOADS. Nothing in Lean hashes anything: it is a label: what it is worth is what the hold of that sum in a sandbox is worth. -/
noncomputable def Tryz.pinned : Pinned := { name := "ytaiahdeegchobaagreat", sum := "741871bfd6d89e3ee6ed7c284772ea9347d20367e7fbee3f5d577b4768074555", checked := Tryz.checked }
namespace Rows
def none {H : Type} : Left H := { results := [], args := [] }

/-- 'laws.FnExactCountPrimitive': WHATEVER THE INPUT: true; the input reads as it did. -/
def fnExactCountPrimitiveSpec : ChangeSpec := { name := "fnExactCountPrimitive", fn := fun _ => fun
  | [d] => { results := [.lit (.bool true)], args := [d] }
  | _ => none }
def fnExactCountPrimitiveRow : OpenClaim := { program := "ytaiahdeegchobaagreat", sum := "741871bfd6d89e3ee6ed7c284772ea9347d20367e7fbee3f5d577b4768074555", func := "loop.example/g01000/laws.FnExactCountPrimitive", spec := "fnExactCountPrimitive", unfollowed := true, recurses := true, apart := false }
def FnExactCountPrimitiveSaid : Prop := fnExactCountPrimitiveRow.holds Tryz.pinned (OpenSpec.ofChange fnExactCountPrimitiveSpec)

/-- ITS FALSE NEIGHBOUR: 'it returns false'. Refute it at one input. -/
def fnExactCountPrimitiveWrong : ChangeSpec := { name := "fnExactCountPrimitive", fn := fun _ => fun
  | [d] => { results := [.lit (.bool false)], args := [d] }
  | _ => none }
def FnExactCountPrimitiveWrongFalsely : Prop := fnExactCountPrimitiveRow.holds Tryz.pinned (OpenSpec.ofChange fnExactCountPrimitiveWrong)

/-- 'laws.FnExactPowerElement': WHATEVER THE INPUT: true; the input reads as it did. -/
def fnExactPowerElementSpec : ChangeSpec := { name := "fnExactPowerElement", fn := fun _ => fun
  | [d1, d2, d3] => { results := [.lit (.bool true)], args := [d1, d2, d3] }
  | _ => none }
def fnExactPowerElementRow : OpenClaim := { program := "ytaiahdeegchobaagreat", sum := "741871bfd6d89e3ee6ed7c284772ea9347d20367e7fbee3f5d577b4768074555", func := "loop.example/g01000/laws.FnExactPowerElement", spec := "fnExactPowerElement", unfollowed := true, recurses := true, apart := false }
def FnExactPowerElementSaid : Prop := fnExactPowerElementRow.holds Tryz.pinned (OpenSpec.ofChange fnExactPowerElementSpec)

/-- ITS FALSE NEIGHBOUR: 'it returns false'. Refute it at one input. -/
def fnExactPowerElementWrong : ChangeSpec := { name := "fnExactPowerElement", fn := fun _ => fun
  | [d1, d2, d3] => { results := [.lit (.bool false)], args := [d1, d2, d3] }
  | _ => none }
def FnExactPowerElementWrongFalsely : Prop := fnExactPowerElementRow.holds Tryz.pinned (OpenSpec.ofChange fnExactPowerElementWrong)

/-- 'laws.FnExactTraceOf': WHATEVER THE INPUT: true; the input reads as it did. -/
def fnExactTraceOfSpec : ChangeSpec := { name := "fnExactTraceOf", fn := fun _ => fun
  | [d1, d2] => { results := [.lit (.bool true)], args := [d1, d2] }
  | _ => none }
def fnExactTraceOfRow : OpenClaim := { program := "ytaiahdeegchobaagreat", sum := "741871bfd6d89e3ee6ed7c284772ea9347d20367e7fbee3f5d577b4768074555", func := "loop.example/g01000/laws.FnExactTraceOf", spec := "fnExactTraceOf", unfollowed := true, recurses := true, apart := false }
def FnExactTraceOfSaid : Prop := fnExactTraceOfRow.holds Tryz.pinned (OpenSpec.ofChange fnExactTraceOfSpec)

/-- ITS FALSE NEIGHBOUR: 'it returns false'. Refute it at one input. -/
def fnExactTraceOfWrong : ChangeSpec := { name := "fnExactTraceOf", fn := fun _ => fun
  | [d1, d2] => { results := [.lit (.bool false)], args := [d1, d2] }
  | _ => none }
def FnExactTraceOfWrongFalsely : Prop := fnExactTraceOfRow.holds Tryz.pinned (OpenSpec.ofChange fnExactTraceOfWrong)

/-- 'laws.FnExactElementWith': WHATEVER THE INPUT: true; the input reads as it did. -/
def fnExactElementWithSpec : ChangeSpec := { name := "fnExactElementWith", fn := fun _ => fun
  | [d1, d2] => { results := [.lit (.bool true)], args := [d1, d2] }
  | _ => none }
def fnExactElementWithRow : OpenClaim := { program := "ytaiahdeegchobaagreat", sum := "741871bfd6d89e3ee6ed7c284772ea9347d20367e7fbee3f5d577b4768074555", func := "loop.example/g01000/laws.FnExactElementWith", spec := "fnExactElementWith", unfollowed := true, recurses := true, apart := false }
def FnExactElementWithSaid : Prop := fnExactElementWithRow.holds Tryz.pinned (OpenSpec.ofChange fnExactElementWithSpec)

/-- ITS FALSE NEIGHBOUR: 'it returns false'. Refute it at one input. -/
def fnExactElementWithWrong : ChangeSpec := { name := "fnExactElementWith", fn := fun _ => fun
  | [d1, d2] => { results := [.lit (.bool false)], args := [d1, d2] }
  | _ => none }
def FnExactElementWithWrongFalsely : Prop := fnExactElementWithRow.holds Tryz.pinned (OpenSpec.ofChange fnExactElementWithWrong)

/-- 'laws.FnExactNormOf': WHATEVER THE INPUT: true; the input reads as it did. -/
def fnExactNormOfSpec : ChangeSpec := { name := "fnExactNormOf", fn := fun _ => fun
  | [d1, d2] => { results := [.lit (.bool true)], args := [d1, d2] }
  | _ => none }
def fnExactNormOfRow : OpenClaim := { program := "ytaiahdeegchobaagreat", sum := "741871bfd6d89e3ee6ed7c284772ea9347d20367e7fbee3f5d577b4768074555", func := "loop.example/g01000/laws.FnExactNormOf", spec := "fnExactNormOf", unfollowed := true, recurses := true, apart := false }
def FnExactNormOfSaid : Prop := fnExactNormOfRow.holds Tryz.pinned (OpenSpec.ofChange fnExactNormOfSpec)

/-- ITS FALSE NEIGHBOUR: 'it returns false'. Refute it at one input. -/
def fnExactNormOfWrong : ChangeSpec := { name := "fnExactNormOf", fn := fun _ => fun
  | [d1, d2] => { results := [.lit (.bool false)], args := [d1, d2] }
  | _ => none }
def FnExactNormOfWrongFalsely : Prop := fnExactNormOfRow.holds Tryz.pinned (OpenSpec.ofChange fnExactNormOfWrong)

/-- 'laws.FnExactFrobeniusOf': WHATEVER THE INPUT: true; the input reads as it did. -/
def fnExactFrobeniusOfSpec : ChangeSpec := { name := "fnExactFrobeniusOf", fn := fun _ => fun
  | [d1, d2, d3] => { results := [.lit (.bool true)], args := [d1, d2, d3] }
  | _ => none }
def fnExactFrobeniusOfRow : OpenClaim := { program := "ytaiahdeegchobaagreat", sum := "741871bfd6d89e3ee6ed7c284772ea9347d20367e7fbee3f5d577b4768074555", func := "loop.example/g01000/laws.FnExactFrobeniusOf", spec := "fnExactFrobeniusOf", unfollowed := true, recurses := true, apart := false }
def FnExactFrobeniusOfSaid : Prop := fnExactFrobeniusOfRow.holds Tryz.pinned (OpenSpec.ofChange fnExactFrobeniusOfSpec)

/-- ITS FALSE NEIGHBOUR: 'it returns false'. Refute it at one input. -/
def fnExactFrobeniusOfWrong : ChangeSpec := { name := "fnExactFrobeniusOf", fn := fun _ => fun
  | [d1, d2, d3] => { results := [.lit (.bool false)], args := [d1, d2, d3] }
  | _ => none }
def FnExactFrobeniusOfWrongFalsely : Prop := fnExactFrobeniusOfRow.holds Tryz.pinned (OpenSpec.ofChange fnExactFrobeniusOfWrong)

/-- 'laws.FnExactIsPowerOf': WHATEVER THE INPUT: true; the input reads as it did. -/
def fnExactIsPowerOfSpec : ChangeSpec := { name := "fnExactIsPowerOf", fn := fun _ => fun
  | [d1, d2, d3] => { results := [.lit (.bool true)], args := [d1, d2, d3] }
  | _ => none }
def fnExactIsPowerOfRow : OpenClaim := { program := "ytaiahdeegchobaagreat", sum := "741871bfd6d89e3ee6ed7c284772ea9347d20367e7fbee3f5d577b4768074555", func := "loop.example/g01000/laws.FnExactIsPowerOf", spec := "fnExactIsPowerOf", unfollowed := true, recurses := true, apart := false }
def FnExactIsPowerOfSaid : Prop := fnExactIsPowerOfRow.holds Tryz.pinned (OpenSpec.ofChange fnExactIsPowerOfSpec)

/-- ITS FALSE NEIGHBOUR: 'it returns false'. Refute it at one input. -/
def fnExactIsPowerOfWrong : ChangeSpec := { name := "fnExactIsPowerOf", fn := fun _ => fun
  | [d1, d2, d3] => { results := [.lit (.bool false)], args := [d1, d2, d3] }
  | _ => none }
def FnExactIsPowerOfWrongFalsely : Prop := fnExactIsPowerOfRow.holds Tryz.pinned (OpenSpec.ofChange fnExactIsPowerOfWrong)

/-- 'laws.FnExactInvertElement': WHATEVER THE INPUT: true; the input reads as it did. -/
def fnExactInvertElementSpec : ChangeSpec := { name := "fnExactInvertElement", fn := fun _ => fun
  | [d1, d2] => { results := [.lit (.bool true)], args := [d1, d2] }
  | _ => none }
def fnExactInvertElementRow : OpenClaim := { program := "ytaiahdeegchobaagreat", sum := "741871bfd6d89e3ee6ed7c284772ea9347d20367e7fbee3f5d577b4768074555", func := "loop.example/g01000/laws.FnExactInvertElement", spec := "fnExactInvertElement", unfollowed := true, recurses := true, apart := false }
def FnExactInvertElementSaid : Prop := fnExactInvertElementRow.holds Tryz.pinned (OpenSpec.ofChange fnExactInvertElementSpec)

/-- ITS FALSE NEIGHBOUR: 'it returns false'. Refute it at one input. -/
def fnExactInvertElementWrong : ChangeSpec := { name := "fnExactInvertElement", fn := fun _ => fun
  | [d1, d2] => { results := [.lit (.bool false)], args := [d1, d2] }
  | _ => none }
def FnExactInvertElementWrongFalsely : Prop := fnExactInvertElementRow.holds Tryz.pinned (OpenSpec.ofChange fnExactInvertElementWrong)

/-- 'laws.FnExactEvaluateInField': WHATEVER THE INPUT: true; the input reads as it did. -/
def fnExactEvaluateInFieldSpec : ChangeSpec := { name := "fnExactEvaluateInField", fn := fun _ => fun
  | [d1, d2, d3] => { results := [.lit (.bool true)], args := [d1, d2, d3] }
  | _ => none }
def fnExactEvaluateInFieldRow : OpenClaim := { program := "ytaiahdeegchobaagreat", sum := "741871bfd6d89e3ee6ed7c284772ea9347d20367e7fbee3f5d577b4768074555", func := "loop.example/g01000/laws.FnExactEvaluateInField", spec := "fnExactEvaluateInField", unfollowed := true, recurses := true, apart := false }
def FnExactEvaluateInFieldSaid : Prop := fnExactEvaluateInFieldRow.holds Tryz.pinned (OpenSpec.ofChange fnExactEvaluateInFieldSpec)

/-- ITS FALSE NEIGHBOUR: 'it returns false'. Refute it at one input. -/
def fnExactEvaluateInFieldWrong : ChangeSpec := { name := "fnExactEvaluateInField", fn := fun _ => fun
  | [d1, d2, d3] => { results := [.lit (.bool false)], args := [d1, d2, d3] }
  | _ => none }
def FnExactEvaluateInFieldWrongFalsely : Prop := fnExactEvaluateInFieldRow.holds Tryz.pinned (OpenSpec.ofChange fnExactEvaluateInFieldWrong)

/-- 'laws.FnExactIsInSubfield': WHATEVER THE INPUT: true; the input reads as it did. -/
def fnExactIsInSubfieldSpec : ChangeSpec := { name := "fnExactIsInSubfield", fn := fun _ => fun
  | [d1, d2, d3] => { results := [.lit (.bool true)], args := [d1, d2, d3] }
  | _ => none }
def fnExactIsInSubfieldRow : OpenClaim := { program := "ytaiahdeegchobaagreat", sum := "741871bfd6d89e3ee6ed7c284772ea9347d20367e7fbee3f5d577b4768074555", func := "loop.example/g01000/laws.FnExactIsInSubfield", spec := "fnExactIsInSubfield", unfollowed := true, recurses := true, apart := false }
def FnExactIsInSubfieldSaid : Prop := fnExactIsInSubfieldRow.holds Tryz.pinned (OpenSpec.ofChange fnExactIsInSubfieldSpec)

/-- ITS FALSE NEIGHBOUR: 'it returns false'. Refute it at one input. -/
def fnExactIsInSubfieldWrong : ChangeSpec := { name := "fnExactIsInSubfield", fn := fun _ => fun
  | [d1, d2, d3] => { results := [.lit (.bool false)], args := [d1, d2, d3] }
  | _ => none }
def FnExactIsInSubfieldWrongFalsely : Prop := fnExactIsInSubfieldRow.holds Tryz.pinned (OpenSpec.ofChange fnExactIsInSubfieldWrong)

/- THE SECOND FORM. 'bulk': how many values and letters a reading holds, each counted each time it is reached (what is shared counts as often as it is met; a slice's spare places count too). A statement '..UptoSaid' is the law's where the arguments, and the package variables that the reading takes, are together of bulk at most 1048576: NARROWER than '..Said'. Prove '..Said' where nothing that the law and all that it calls make is longer than what came in: it says more and counts as full. Else prove '..UptoSaid'. A law counts once. -/
mutual
def uptoBulk {H : Type} : DataW H → Nat
  | .lit (.string bytes) => bytes.length + 1
  | .lit _ => 1
  | .nil => 1
  | .ptr d => uptoBulk d + 1
  | .slice elems spare => uptoBulkAll elems + uptoBulkAll spare + 1
  | .agg parts => uptoBulkAll parts + 1
  | .iface _ d => uptoBulk d + 1
  | .map entries => uptoBulkEntries entries + 1
  | .held _ => 1
def uptoBulkAll {H : Type} : List (DataW H) → Nat
  | [] => 0
  | d :: r => uptoBulk d + uptoBulkAll r
def uptoBulkEntries {H : Type} : List (Lit × DataW H) → Nat
  | [] => 0
  | x :: r => uptoBulkEntry x + uptoBulkEntries r
def uptoBulkEntry {H : Type} : Lit × DataW H → Nat
  | (.string bytes, d) => bytes.length + uptoBulk d + 1
  | (_, d) => uptoBulk d + 1
 end
def uptoSmall : (H : Type) → List (DataW H) → Bool := fun _ ds => decide (uptoBulkAll ds ≤ 1048576)
def OpenSpec.upto (s : _root_.Go.ChangeSpec) : _root_.Go.OpenSpec := { _root_.Go.OpenSpec.ofChange s with cond := some uptoSmall }

/-- 'laws.FnExactCountPrimitive', WHERE WHAT IT READS IS OF BULK AT MOST 1048576: true; the input reads as it did. -/
def fnExactCountPrimitiveUptoRow : OpenClaim := { program := "ytaiahdeegchobaagreat", sum := "741871bfd6d89e3ee6ed7c284772ea9347d20367e7fbee3f5d577b4768074555", func := "loop.example/g01000/laws.FnExactCountPrimitive", spec := "fnExactCountPrimitive", unfollowed := true, recurses := true, apart := false, narrowed := true }
def FnExactCountPrimitiveUptoSaid : Prop := fnExactCountPrimitiveUptoRow.holds Tryz.pinned (OpenSpec.upto fnExactCountPrimitiveSpec)

/-- 'laws.FnExactPowerElement', WHERE WHAT IT READS IS OF BULK AT MOST 1048576: true; the input reads as it did. -/
def fnExactPowerElementUptoRow : OpenClaim := { program := "ytaiahdeegchobaagreat", sum := "741871bfd6d89e3ee6ed7c284772ea9347d20367e7fbee3f5d577b4768074555", func := "loop.example/g01000/laws.FnExactPowerElement", spec := "fnExactPowerElement", unfollowed := true, recurses := true, apart := false, narrowed := true }
def FnExactPowerElementUptoSaid : Prop := fnExactPowerElementUptoRow.holds Tryz.pinned (OpenSpec.upto fnExactPowerElementSpec)

/-- 'laws.FnExactTraceOf', WHERE WHAT IT READS IS OF BULK AT MOST 1048576: true; the input reads as it did. -/
def fnExactTraceOfUptoRow : OpenClaim := { program := "ytaiahdeegchobaagreat", sum := "741871bfd6d89e3ee6ed7c284772ea9347d20367e7fbee3f5d577b4768074555", func := "loop.example/g01000/laws.FnExactTraceOf", spec := "fnExactTraceOf", unfollowed := true, recurses := true, apart := false, narrowed := true }
def FnExactTraceOfUptoSaid : Prop := fnExactTraceOfUptoRow.holds Tryz.pinned (OpenSpec.upto fnExactTraceOfSpec)

/-- 'laws.FnExactElementWith', WHERE WHAT IT READS IS OF BULK AT MOST 1048576: true; the input reads as it did. -/
def fnExactElementWithUptoRow : OpenClaim := { program := "ytaiahdeegchobaagreat", sum := "741871bfd6d89e3ee6ed7c284772ea9347d20367e7fbee3f5d577b4768074555", func := "loop.example/g01000/laws.FnExactElementWith", spec := "fnExactElementWith", unfollowed := true, recurses := true, apart := false, narrowed := true }
def FnExactElementWithUptoSaid : Prop := fnExactElementWithUptoRow.holds Tryz.pinned (OpenSpec.upto fnExactElementWithSpec)

/-- 'laws.FnExactNormOf', WHERE WHAT IT READS IS OF BULK AT MOST 1048576: true; the input reads as it did. -/
def fnExactNormOfUptoRow : OpenClaim := { program := "ytaiahdeegchobaagreat", sum := "741871bfd6d89e3ee6ed7c284772ea9347d20367e7fbee3f5d577b4768074555", func := "loop.example/g01000/laws.FnExactNormOf", spec := "fnExactNormOf", unfollowed := true, recurses := true, apart := false, narrowed := true }
def FnExactNormOfUptoSaid : Prop := fnExactNormOfUptoRow.holds Tryz.pinned (OpenSpec.upto fnExactNormOfSpec)

/-- 'laws.FnExactFrobeniusOf', WHERE WHAT IT READS IS OF BULK AT MOST 1048576: true; the input reads as it did. -/
def fnExactFrobeniusOfUptoRow : OpenClaim := { program := "ytaiahdeegchobaagreat", sum := "741871bfd6d89e3ee6ed7c284772ea9347d20367e7fbee3f5d577b4768074555", func := "loop.example/g01000/laws.FnExactFrobeniusOf", spec := "fnExactFrobeniusOf", unfollowed := true, recurses := true, apart := false, narrowed := true }
def FnExactFrobeniusOfUptoSaid : Prop := fnExactFrobeniusOfUptoRow.holds Tryz.pinned (OpenSpec.upto fnExactFrobeniusOfSpec)

/-- 'laws.FnExactIsPowerOf', WHERE WHAT IT READS IS OF BULK AT MOST 1048576: true; the input reads as it did. -/
def fnExactIsPowerOfUptoRow : OpenClaim := { program := "ytaiahdeegchobaagreat", sum := "741871bfd6d89e3ee6ed7c284772ea9347d20367e7fbee3f5d577b4768074555", func := "loop.example/g01000/laws.FnExactIsPowerOf", spec := "fnExactIsPowerOf", unfollowed := true, recurses := true, apart := false, narrowed := true }
def FnExactIsPowerOfUptoSaid : Prop := fnExactIsPowerOfUptoRow.holds Tryz.pinned (OpenSpec.upto fnExactIsPowerOfSpec)

/-- 'laws.FnExactInvertElement', WHERE WHAT IT READS IS OF BULK AT MOST 1048576: true; the input reads as it did. -/
def fnExactInvertElementUptoRow : OpenClaim := { program := "ytaiahdeegchobaagreat", sum := "741871bfd6d89e3ee6ed7c284772ea9347d20367e7fbee3f5d577b4768074555", func := "loop.example/g01000/laws.FnExactInvertElement", spec := "fnExactInvertElement", unfollowed := true, recurses := true, apart := false, narrowed := true }
def FnExactInvertElementUptoSaid : Prop := fnExactInvertElementUptoRow.holds Tryz.pinned (OpenSpec.upto fnExactInvertElementSpec)

/-- 'laws.FnExactEvaluateInField', WHERE WHAT IT READS IS OF BULK AT MOST 1048576: true; the input reads as it did. -/
def fnExactEvaluateInFieldUptoRow : OpenClaim := { program := "ytaiahdeegchobaagreat", sum := "741871bfd6d89e3ee6ed7c284772ea9347d20367e7fbee3f5d577b4768074555", func := "loop.example/g01000/laws.FnExactEvaluateInField", spec := "fnExactEvaluateInField", unfollowed := true, recurses := true, apart := false, narrowed := true }
def FnExactEvaluateInFieldUptoSaid : Prop := fnExactEvaluateInFieldUptoRow.holds Tryz.pinned (OpenSpec.upto fnExactEvaluateInFieldSpec)

/-- 'laws.FnExactIsInSubfield', WHERE WHAT IT READS IS OF BULK AT MOST 1048576: true; the input reads as it did. -/
def fnExactIsInSubfieldUptoRow : OpenClaim := { program := "ytaiahdeegchobaagreat", sum := "741871bfd6d89e3ee6ed7c284772ea9347d20367e7fbee3f5d577b4768074555", func := "loop.example/g01000/laws.FnExactIsInSubfield", spec := "fnExactIsInSubfield", unfollowed := true, recurses := true, apart := false, narrowed := true }
def FnExactIsInSubfieldUptoSaid : Prop := fnExactIsInSubfieldUptoRow.holds Tryz.pinned (OpenSpec.upto fnExactIsInSubfieldSpec)

end Rows
end Go.Proofs.YtaiahdeegchobaaGreat
