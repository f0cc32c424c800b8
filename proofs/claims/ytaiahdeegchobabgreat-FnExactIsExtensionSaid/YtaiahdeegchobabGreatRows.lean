/-
  No cell of these rows narrows 'for every input' (looked for: loops, veiled, ifaces, maps, wideKeys, modest, calm, conditions, laid).
  DERIVED. THE GIVEN ROWS OF THIS SEAT. 5 by the template 'for every input the law returns true; each argument reads behind the call as it read before'; 0 by the template 'total and deterministic' (their statements: YtaiahdeegchobabGreatTotals.lean).
  GIVEN WITH THE SEED: the statements are not yours to turn. If you find one false, say at which input.
  Laid BY PROGRAM, IN A SANDBOX (cutbox-rows.mjs): the forced cells as the released guide's own fill.sh prints them over the translation 91534065124c0274… (all of the seat's roots in one cut). By AI agents, Wed Nov 11 2026. No macro, syntax, notation, axiom, sorry.
-/
import Derived.Test.YtaiahdeegchobabGreatChecked
import GoSem.Claim
import GoSem.ClaimJoined
import GoSem.ClaimMapViews
import Derived.JoinedTies
import Derived.KernelRfl
namespace Go.Proofs.YtaiahdeegchobabGreat
/- THE CELL 'sum', in the pinned program and in every row, IS THE sha256 OF THE DUMP (.gsa) THAT YtaiahdeegchobabGreatProg.lean LOADS. Nothing in Lean hashes anything: it is a label: what it is worth is what the hold of that sum in a sandbox is worth. -/
noncomputable def Tryz.pinned : Pinned := { name := "ytaiahdeegchobabgreat", sum := "91534065124c02743eaa59e8b8635d6ecf1809ece7c6dad1bc26e4813fdc3f50", checked := Tryz.checked }
namespace Rows
def none {H : Type} : Left H := { results := [], args := [] }

/-- 'laws.FnExactIsPrimitive': WHATEVER THE INPUT: true; the input reads as it did. -/
def fnExactIsPrimitiveSpec : ChangeSpec := { name := "fnExactIsPrimitive", fn := fun _ => fun
  | [d1, d2] => { results := [.lit (.bool true)], args := [d1, d2] }
  | _ => none }
def fnExactIsPrimitiveRow : OpenClaim := { program := "ytaiahdeegchobabgreat", sum := "91534065124c02743eaa59e8b8635d6ecf1809ece7c6dad1bc26e4813fdc3f50", func := "loop.example/g01000/laws.FnExactIsPrimitive", spec := "fnExactIsPrimitive", unfollowed := true, recurses := true, apart := false }
def FnExactIsPrimitiveSaid : Prop := fnExactIsPrimitiveRow.holds Tryz.pinned (OpenSpec.ofChange fnExactIsPrimitiveSpec)

/-- ITS FALSE NEIGHBOUR: 'it returns false'. Refute it at one input. -/
def fnExactIsPrimitiveWrong : ChangeSpec := { name := "fnExactIsPrimitive", fn := fun _ => fun
  | [d1, d2] => { results := [.lit (.bool false)], args := [d1, d2] }
  | _ => none }
def FnExactIsPrimitiveWrongFalsely : Prop := fnExactIsPrimitiveRow.holds Tryz.pinned (OpenSpec.ofChange fnExactIsPrimitiveWrong)

/-- 'laws.FnExactOrderOfElement': WHATEVER THE INPUT: true; the input reads as it did. -/
def fnExactOrderOfElementSpec : ChangeSpec := { name := "fnExactOrderOfElement", fn := fun _ => fun
  | [d1, d2] => { results := [.lit (.bool true)], args := [d1, d2] }
  | _ => none }
def fnExactOrderOfElementRow : OpenClaim := { program := "ytaiahdeegchobabgreat", sum := "91534065124c02743eaa59e8b8635d6ecf1809ece7c6dad1bc26e4813fdc3f50", func := "loop.example/g01000/laws.FnExactOrderOfElement", spec := "fnExactOrderOfElement", unfollowed := true, recurses := true, apart := false }
def FnExactOrderOfElementSaid : Prop := fnExactOrderOfElementRow.holds Tryz.pinned (OpenSpec.ofChange fnExactOrderOfElementSpec)

/-- ITS FALSE NEIGHBOUR: 'it returns false'. Refute it at one input. -/
def fnExactOrderOfElementWrong : ChangeSpec := { name := "fnExactOrderOfElement", fn := fun _ => fun
  | [d1, d2] => { results := [.lit (.bool false)], args := [d1, d2] }
  | _ => none }
def FnExactOrderOfElementWrongFalsely : Prop := fnExactOrderOfElementRow.holds Tryz.pinned (OpenSpec.ofChange fnExactOrderOfElementWrong)

/-- 'laws.FnExactIsExtension': WHATEVER THE INPUT: true; the input reads as it did. -/
def fnExactIsExtensionSpec : ChangeSpec := { name := "fnExactIsExtension", fn := fun _ => fun
  | [d] => { results := [.lit (.bool true)], args := [d] }
  | _ => none }
def fnExactIsExtensionRow : OpenClaim := { program := "ytaiahdeegchobabgreat", sum := "91534065124c02743eaa59e8b8635d6ecf1809ece7c6dad1bc26e4813fdc3f50", func := "loop.example/g01000/laws.FnExactIsExtension", spec := "fnExactIsExtension", unfollowed := true, recurses := true, apart := false }
def FnExactIsExtensionSaid : Prop := fnExactIsExtensionRow.holds Tryz.pinned (OpenSpec.ofChange fnExactIsExtensionSpec)

/-- ITS FALSE NEIGHBOUR: 'it returns false'. Refute it at one input. -/
def fnExactIsExtensionWrong : ChangeSpec := { name := "fnExactIsExtension", fn := fun _ => fun
  | [d] => { results := [.lit (.bool false)], args := [d] }
  | _ => none }
def FnExactIsExtensionWrongFalsely : Prop := fnExactIsExtensionRow.holds Tryz.pinned (OpenSpec.ofChange fnExactIsExtensionWrong)

/-- 'laws.FnExactLeastPrimitive': WHATEVER THE INPUT: true; the input reads as it did. -/
def fnExactLeastPrimitiveSpec : ChangeSpec := { name := "fnExactLeastPrimitive", fn := fun _ => fun
  | [d] => { results := [.lit (.bool true)], args := [d] }
  | _ => none }
def fnExactLeastPrimitiveRow : OpenClaim := { program := "ytaiahdeegchobabgreat", sum := "91534065124c02743eaa59e8b8635d6ecf1809ece7c6dad1bc26e4813fdc3f50", func := "loop.example/g01000/laws.FnExactLeastPrimitive", spec := "fnExactLeastPrimitive", unfollowed := true, recurses := true, apart := false }
def FnExactLeastPrimitiveSaid : Prop := fnExactLeastPrimitiveRow.holds Tryz.pinned (OpenSpec.ofChange fnExactLeastPrimitiveSpec)

/-- ITS FALSE NEIGHBOUR: 'it returns false'. Refute it at one input. -/
def fnExactLeastPrimitiveWrong : ChangeSpec := { name := "fnExactLeastPrimitive", fn := fun _ => fun
  | [d] => { results := [.lit (.bool false)], args := [d] }
  | _ => none }
def FnExactLeastPrimitiveWrongFalsely : Prop := fnExactLeastPrimitiveRow.holds Tryz.pinned (OpenSpec.ofChange fnExactLeastPrimitiveWrong)

/-- 'laws.FnExactLogarithmOf': WHATEVER THE INPUT: true; the input reads as it did. -/
def fnExactLogarithmOfSpec : ChangeSpec := { name := "fnExactLogarithmOf", fn := fun _ => fun
  | [d1, d2, d3] => { results := [.lit (.bool true)], args := [d1, d2, d3] }
  | _ => none }
def fnExactLogarithmOfRow : OpenClaim := { program := "ytaiahdeegchobabgreat", sum := "91534065124c02743eaa59e8b8635d6ecf1809ece7c6dad1bc26e4813fdc3f50", func := "loop.example/g01000/laws.FnExactLogarithmOf", spec := "fnExactLogarithmOf", unfollowed := true, recurses := true, apart := false }
def FnExactLogarithmOfSaid : Prop := fnExactLogarithmOfRow.holds Tryz.pinned (OpenSpec.ofChange fnExactLogarithmOfSpec)

/-- ITS FALSE NEIGHBOUR: 'it returns false'. Refute it at one input. -/
def fnExactLogarithmOfWrong : ChangeSpec := { name := "fnExactLogarithmOf", fn := fun _ => fun
  | [d1, d2, d3] => { results := [.lit (.bool false)], args := [d1, d2, d3] }
  | _ => none }
def FnExactLogarithmOfWrongFalsely : Prop := fnExactLogarithmOfRow.holds Tryz.pinned (OpenSpec.ofChange fnExactLogarithmOfWrong)

/- THE SECOND FORM. 'bulk': how many values and letters a reading holds, each counted each time it is reached (what is shared counts as often as it is met; a slice's spare places count too). A statement '..UptoSaid' is the law's where the arguments, and the package variables that the reading takes, are together of bulk at most 1048576: NARROWER than '..Said'. Prove '..Said' where nothing that the law and all that it calls make is longer than what came in: it says more and counts as full. Else prove '..UptoSaid'. A law counts once. -/
mutual
def uptoBulk {H : Type} : DataW H → Nat
  | .lit (.string bytes) => bytes.length + 1
  | .lit _ => 1
  | .nil => 1
  | .ptr d => uptoBulk d + 1
  | .slice elems spare => uptoBulkAll elems + uptoBulkAll spare + 1
  | .agg parts => uptoBulkAll parts + 1
  | .iface _ d => uptoBulk d + 1
  | .map entries => uptoBulkEntries entries + 1
  | .held _ => 1
def uptoBulkAll {H : Type} : List (DataW H) → Nat
  | [] => 0
  | d :: r => uptoBulk d + uptoBulkAll r
def uptoBulkEntries {H : Type} : List (Lit × DataW H) → Nat
  | [] => 0
  | x :: r => uptoBulkEntry x + uptoBulkEntries r
def uptoBulkEntry {H : Type} : Lit × DataW H → Nat
  | (.string bytes, d) => bytes.length + uptoBulk d + 1
  | (_, d) => uptoBulk d + 1
 end
def uptoSmall : (H : Type) → List (DataW H) → Bool := fun _ ds => decide (uptoBulkAll ds ≤ 1048576)
def OpenSpec.upto (s : _root_.Go.ChangeSpec) : _root_.Go.OpenSpec := { _root_.Go.OpenSpec.ofChange s with cond := some uptoSmall }

/-- 'laws.FnExactIsPrimitive', WHERE WHAT IT READS IS OF BULK AT MOST 1048576: true; the input reads as it did. -/
def fnExactIsPrimitiveUptoRow : OpenClaim := { program := "ytaiahdeegchobabgreat", sum := "91534065124c02743eaa59e8b8635d6ecf1809ece7c6dad1bc26e4813fdc3f50", func := "loop.example/g01000/laws.FnExactIsPrimitive", spec := "fnExactIsPrimitive", unfollowed := true, recurses := true, apart := false, narrowed := true }
def FnExactIsPrimitiveUptoSaid : Prop := fnExactIsPrimitiveUptoRow.holds Tryz.pinned (OpenSpec.upto fnExactIsPrimitiveSpec)

/-- 'laws.FnExactOrderOfElement', WHERE WHAT IT READS IS OF BULK AT MOST 1048576: true; the input reads as it did. -/
def fnExactOrderOfElementUptoRow : OpenClaim := { program := "ytaiahdeegchobabgreat", sum := "91534065124c02743eaa59e8b8635d6ecf1809ece7c6dad1bc26e4813fdc3f50", func := "loop.example/g01000/laws.FnExactOrderOfElement", spec := "fnExactOrderOfElement", unfollowed := true, recurses := true, apart := false, narrowed := true }
def FnExactOrderOfElementUptoSaid : Prop := fnExactOrderOfElementUptoRow.holds Tryz.pinned (OpenSpec.upto fnExactOrderOfElementSpec)

/-- 'laws.FnExactIsExtension', WHERE WHAT IT READS IS OF BULK AT MOST 1048576: true; the input reads as it did. -/
def fnExactIsExtensionUptoRow : OpenClaim := { program := "ytaiahdeegchobabgreat", sum := "91534065124c02743eaa59e8b8635d6ecf1809ece7c6dad1bc26e4813fdc3f50", func := "loop.example/g01000/laws.FnExactIsExtension", spec := "fnExactIsExtension", unfollowed := true, recurses := true, apart := false, narrowed := true }
def FnExactIsExtensionUptoSaid : Prop := fnExactIsExtensionUptoRow.holds Tryz.pinned (OpenSpec.upto fnExactIsExtensionSpec)

/-- 'laws.FnExactLeastPrimitive', WHERE WHAT IT READS IS OF BULK AT MOST 1048576: true; the input reads as it did. -/
def fnExactLeastPrimitiveUptoRow : OpenClaim := { program := "ytaiahdeegchobabgreat", sum := "91534065124c02743eaa59e8b8635d6ecf1809ece7c6dad1bc26e4813fdc3f50", func := "loop.example/g01000/laws.FnExactLeastPrimitive", spec := "fnExactLeastPrimitive", unfollowed := true, recurses := true, apart := false, narrowed := true }
def FnExactLeastPrimitiveUptoSaid : Prop := fnExactLeastPrimitiveUptoRow.holds Tryz.pinned (OpenSpec.upto fnExactLeastPrimitiveSpec)

/-- 'laws.FnExactLogarithmOf', WHERE WHAT IT READS IS OF BULK AT MOST 1048576: true; the input reads as it did. -/
def fnExactLogarithmOfUptoRow : OpenClaim := { program := "ytaiahdeegchobabgreat", sum := "91534065124c02743eaa59e8b8635d6ecf1809ece7c6dad1bc26e4813fdc3f50", func := "loop.example/g01000/laws.FnExactLogarithmOf", spec := "fnExactLogarithmOf", unfollowed := true, recurses := true, apart := false, narrowed := true }
def FnExactLogarithmOfUptoSaid : Prop := fnExactLogarithmOfUptoRow.holds Tryz.pinned (OpenSpec.upto fnExactLogarithmOfSpec)

end Rows
end Go.Proofs.YtaiahdeegchobabGreat
