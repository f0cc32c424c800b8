/-
  No cell of these rows narrows 'for every input' (looked for: loops, veiled, ifaces, maps, wideKeys, modest, calm, conditions, laid).
  DERIVED. THE GIVEN ROWS OF THIS SEAT. 12 by the template 'for every input the law returns true; each argument reads behind the call as it read before'; 0 by the template 'total and deterministic' (their statements: YtlmckocbhcpmdaaGreatTotals.lean).
  GIVEN WITH THE SEED: the statements are not yours to turn. If you find one false, say at which input.
  Laid BY PROGRAM, IN A SANDBOX (cutbox-rows.mjs): the forced cells as the released guide's own fill.sh prints them over the translation f8edef14b6fdd080… (all of the seat's roots in one cut). By AI agents, Wed Nov 11 2026. No macro, syntax, notation, axiom, sorry.
-/
import Derived.Test.YtlmckocbhcpmdaaGreatChecked
import GoSem.Claim
import GoSem.ClaimJoined
import GoSem.ClaimMapViews
import Derived.JoinedTies
import Derived.KernelRfl
namespace Go.Proofs.YtlmckocbhcpmdaaGreat
/- THE CELL 'sum', in the pinned program and in every row, IS THE sha256 OF THE DUMP (.gsa) THAT YtlmckocbhcpmdaaGreatProg.lean LOADS. Nothing in Lean hashes anything: it is a label: what it is worth is what the hold of that sum in a sandbox is worth. -/
noncomputable def Tryz.pinned : Pinned := { name := "ytlmckocbhcpmdaagreat", sum := "f8edef14b6fdd08050794b375e69444747173f2c29a730a9ca03bab631c52977", checked := Tryz.checked }
namespace Rows
def none {H : Type} : Left H := { results := [], args := [] }

/-- 'laws.FnElements': WHATEVER THE INPUT: true; the input reads as it did. -/
def fnElementsSpec : ChangeSpec := { name := "fnElements", fn := fun _ => fun
  | [d] => { results := [.lit (.bool true)], args := [d] }
  | _ => none }
def fnElementsRow : OpenClaim := { program := "ytlmckocbhcpmdaagreat", sum := "f8edef14b6fdd08050794b375e69444747173f2c29a730a9ca03bab631c52977", func := "loop.example/g01000/laws.FnElements", spec := "fnElements", unfollowed := true, recurses := true, apart := false }
def FnElementsSaid : Prop := fnElementsRow.holds Tryz.pinned (OpenSpec.ofChange fnElementsSpec)

/-- ITS FALSE NEIGHBOUR: 'it returns false'. Refute it at one input. -/
def fnElementsWrong : ChangeSpec := { name := "fnElements", fn := fun _ => fun
  | [d] => { results := [.lit (.bool false)], args := [d] }
  | _ => none }
def FnElementsWrongFalsely : Prop := fnElementsRow.holds Tryz.pinned (OpenSpec.ofChange fnElementsWrong)

/-- 'laws.FnNumbered': WHATEVER THE INPUT: true; the input reads as it did. -/
def fnNumberedSpec : ChangeSpec := { name := "fnNumbered", fn := fun _ => fun
  | [d] => { results := [.lit (.bool true)], args := [d] }
  | _ => none }
def fnNumberedRow : OpenClaim := { program := "ytlmckocbhcpmdaagreat", sum := "f8edef14b6fdd08050794b375e69444747173f2c29a730a9ca03bab631c52977", func := "loop.example/g01000/laws.FnNumbered", spec := "fnNumbered", unfollowed := true, recurses := true, apart := false }
def FnNumberedSaid : Prop := fnNumberedRow.holds Tryz.pinned (OpenSpec.ofChange fnNumberedSpec)

/-- ITS FALSE NEIGHBOUR: 'it returns false'. Refute it at one input. -/
def fnNumberedWrong : ChangeSpec := { name := "fnNumbered", fn := fun _ => fun
  | [d] => { results := [.lit (.bool false)], args := [d] }
  | _ => none }
def FnNumberedWrongFalsely : Prop := fnNumberedRow.holds Tryz.pinned (OpenSpec.ofChange fnNumberedWrong)

/-- 'laws.FnDegrees': WHATEVER THE INPUT: true; the input reads as it did. -/
def fnDegreesSpec : ChangeSpec := { name := "fnDegrees", fn := fun _ => fun
  | [d] => { results := [.lit (.bool true)], args := [d] }
  | _ => none }
def fnDegreesRow : OpenClaim := { program := "ytlmckocbhcpmdaagreat", sum := "f8edef14b6fdd08050794b375e69444747173f2c29a730a9ca03bab631c52977", func := "loop.example/g01000/laws.FnDegrees", spec := "fnDegrees", unfollowed := true, recurses := true, apart := false }
def FnDegreesSaid : Prop := fnDegreesRow.holds Tryz.pinned (OpenSpec.ofChange fnDegreesSpec)

/-- ITS FALSE NEIGHBOUR: 'it returns false'. Refute it at one input. -/
def fnDegreesWrong : ChangeSpec := { name := "fnDegrees", fn := fun _ => fun
  | [d] => { results := [.lit (.bool false)], args := [d] }
  | _ => none }
def FnDegreesWrongFalsely : Prop := fnDegreesRow.holds Tryz.pinned (OpenSpec.ofChange fnDegreesWrong)

/-- 'laws.FnMinimal': WHATEVER THE INPUT: true; the input reads as it did. -/
def fnMinimalSpec : ChangeSpec := { name := "fnMinimal", fn := fun _ => fun
  | [d] => { results := [.lit (.bool true)], args := [d] }
  | _ => none }
def fnMinimalRow : OpenClaim := { program := "ytlmckocbhcpmdaagreat", sum := "f8edef14b6fdd08050794b375e69444747173f2c29a730a9ca03bab631c52977", func := "loop.example/g01000/laws.FnMinimal", spec := "fnMinimal", unfollowed := true, recurses := true, apart := false }
def FnMinimalSaid : Prop := fnMinimalRow.holds Tryz.pinned (OpenSpec.ofChange fnMinimalSpec)

/-- ITS FALSE NEIGHBOUR: 'it returns false'. Refute it at one input. -/
def fnMinimalWrong : ChangeSpec := { name := "fnMinimal", fn := fun _ => fun
  | [d] => { results := [.lit (.bool false)], args := [d] }
  | _ => none }
def FnMinimalWrongFalsely : Prop := fnMinimalRow.holds Tryz.pinned (OpenSpec.ofChange fnMinimalWrong)

/-- 'laws.FnModularFactors': WHATEVER THE INPUT: true; the input reads as it did. -/
def fnModularFactorsSpec : ChangeSpec := { name := "fnModularFactors", fn := fun _ => fun
  | [d] => { results := [.lit (.bool true)], args := [d] }
  | _ => none }
def fnModularFactorsRow : OpenClaim := { program := "ytlmckocbhcpmdaagreat", sum := "f8edef14b6fdd08050794b375e69444747173f2c29a730a9ca03bab631c52977", func := "loop.example/g01000/laws.FnModularFactors", spec := "fnModularFactors", unfollowed := true, recurses := true, apart := false }
def FnModularFactorsSaid : Prop := fnModularFactorsRow.holds Tryz.pinned (OpenSpec.ofChange fnModularFactorsSpec)

/-- ITS FALSE NEIGHBOUR: 'it returns false'. Refute it at one input. -/
def fnModularFactorsWrong : ChangeSpec := { name := "fnModularFactors", fn := fun _ => fun
  | [d] => { results := [.lit (.bool false)], args := [d] }
  | _ => none }
def FnModularFactorsWrongFalsely : Prop := fnModularFactorsRow.holds Tryz.pinned (OpenSpec.ofChange fnModularFactorsWrong)

/-- 'laws.FnLogs': WHATEVER THE INPUT: true; the input reads as it did. -/
def fnLogsSpec : ChangeSpec := { name := "fnLogs", fn := fun _ => fun
  | [d] => { results := [.lit (.bool true)], args := [d] }
  | _ => none }
def fnLogsRow : OpenClaim := { program := "ytlmckocbhcpmdaagreat", sum := "f8edef14b6fdd08050794b375e69444747173f2c29a730a9ca03bab631c52977", func := "loop.example/g01000/laws.FnLogs", spec := "fnLogs", unfollowed := true, recurses := true, apart := false }
def FnLogsSaid : Prop := fnLogsRow.holds Tryz.pinned (OpenSpec.ofChange fnLogsSpec)

/-- ITS FALSE NEIGHBOUR: 'it returns false'. Refute it at one input. -/
def fnLogsWrong : ChangeSpec := { name := "fnLogs", fn := fun _ => fun
  | [d] => { results := [.lit (.bool false)], args := [d] }
  | _ => none }
def FnLogsWrongFalsely : Prop := fnLogsRow.holds Tryz.pinned (OpenSpec.ofChange fnLogsWrong)

/-- 'laws.FnPrimitive': WHATEVER THE INPUT: true; the input reads as it did. -/
def fnPrimitiveSpec : ChangeSpec := { name := "fnPrimitive", fn := fun _ => fun
  | [d] => { results := [.lit (.bool true)], args := [d] }
  | _ => none }
def fnPrimitiveRow : OpenClaim := { program := "ytlmckocbhcpmdaagreat", sum := "f8edef14b6fdd08050794b375e69444747173f2c29a730a9ca03bab631c52977", func := "loop.example/g01000/laws.FnPrimitive", spec := "fnPrimitive", unfollowed := true, recurses := true, apart := false }
def FnPrimitiveSaid : Prop := fnPrimitiveRow.holds Tryz.pinned (OpenSpec.ofChange fnPrimitiveSpec)

/-- ITS FALSE NEIGHBOUR: 'it returns false'. Refute it at one input. -/
def fnPrimitiveWrong : ChangeSpec := { name := "fnPrimitive", fn := fun _ => fun
  | [d] => { results := [.lit (.bool false)], args := [d] }
  | _ => none }
def FnPrimitiveWrongFalsely : Prop := fnPrimitiveRow.holds Tryz.pinned (OpenSpec.ofChange fnPrimitiveWrong)

/-- 'laws.FnLiftedFactors': WHATEVER THE INPUT: true; the input reads as it did. -/
def fnLiftedFactorsSpec : ChangeSpec := { name := "fnLiftedFactors", fn := fun _ => fun
  | [d] => { results := [.lit (.bool true)], args := [d] }
  | _ => none }
def fnLiftedFactorsRow : OpenClaim := { program := "ytlmckocbhcpmdaagreat", sum := "f8edef14b6fdd08050794b375e69444747173f2c29a730a9ca03bab631c52977", func := "loop.example/g01000/laws.FnLiftedFactors", spec := "fnLiftedFactors", unfollowed := true, recurses := true, apart := false }
def FnLiftedFactorsSaid : Prop := fnLiftedFactorsRow.holds Tryz.pinned (OpenSpec.ofChange fnLiftedFactorsSpec)

/-- ITS FALSE NEIGHBOUR: 'it returns false'. Refute it at one input. -/
def fnLiftedFactorsWrong : ChangeSpec := { name := "fnLiftedFactors", fn := fun _ => fun
  | [d] => { results := [.lit (.bool false)], args := [d] }
  | _ => none }
def FnLiftedFactorsWrongFalsely : Prop := fnLiftedFactorsRow.holds Tryz.pinned (OpenSpec.ofChange fnLiftedFactorsWrong)

/-- 'laws.FnExtensions': WHATEVER THE INPUT: true; the input reads as it did. -/
def fnExtensionsSpec : ChangeSpec := { name := "fnExtensions", fn := fun _ => fun
  | [d] => { results := [.lit (.bool true)], args := [d] }
  | _ => none }
def fnExtensionsRow : OpenClaim := { program := "ytlmckocbhcpmdaagreat", sum := "f8edef14b6fdd08050794b375e69444747173f2c29a730a9ca03bab631c52977", func := "loop.example/g01000/laws.FnExtensions", spec := "fnExtensions", unfollowed := true, recurses := true, apart := false }
def FnExtensionsSaid : Prop := fnExtensionsRow.holds Tryz.pinned (OpenSpec.ofChange fnExtensionsSpec)

/-- ITS FALSE NEIGHBOUR: 'it returns false'. Refute it at one input. -/
def fnExtensionsWrong : ChangeSpec := { name := "fnExtensions", fn := fun _ => fun
  | [d] => { results := [.lit (.bool false)], args := [d] }
  | _ => none }
def FnExtensionsWrongFalsely : Prop := fnExtensionsRow.holds Tryz.pinned (OpenSpec.ofChange fnExtensionsWrong)

/-- 'laws.FnUnits': WHATEVER THE INPUT: true; the input reads as it did. -/
def fnUnitsSpec : ChangeSpec := { name := "fnUnits", fn := fun _ => fun
  | [d] => { results := [.lit (.bool true)], args := [d] }
  | _ => none }
def fnUnitsRow : OpenClaim := { program := "ytlmckocbhcpmdaagreat", sum := "f8edef14b6fdd08050794b375e69444747173f2c29a730a9ca03bab631c52977", func := "loop.example/g01000/laws.FnUnits", spec := "fnUnits", unfollowed := true, recurses := true, apart := false }
def FnUnitsSaid : Prop := fnUnitsRow.holds Tryz.pinned (OpenSpec.ofChange fnUnitsSpec)

/-- ITS FALSE NEIGHBOUR: 'it returns false'. Refute it at one input. -/
def fnUnitsWrong : ChangeSpec := { name := "fnUnits", fn := fun _ => fun
  | [d] => { results := [.lit (.bool false)], args := [d] }
  | _ => none }
def FnUnitsWrongFalsely : Prop := fnUnitsRow.holds Tryz.pinned (OpenSpec.ofChange fnUnitsWrong)

/-- 'laws.FnResidualFactors': WHATEVER THE INPUT: true; the input reads as it did. -/
def fnResidualFactorsSpec : ChangeSpec := { name := "fnResidualFactors", fn := fun _ => fun
  | [d] => { results := [.lit (.bool true)], args := [d] }
  | _ => none }
def fnResidualFactorsRow : OpenClaim := { program := "ytlmckocbhcpmdaagreat", sum := "f8edef14b6fdd08050794b375e69444747173f2c29a730a9ca03bab631c52977", func := "loop.example/g01000/laws.FnResidualFactors", spec := "fnResidualFactors", inPlace := ["slices.overlaps[loop.example/g01000/impl.Splitting]"], unfollowed := true, recurses := true, apart := false }
def FnResidualFactorsSaid : Prop := fnResidualFactorsRow.holds Tryz.pinned (OpenSpec.ofChange fnResidualFactorsSpec)

/-- ITS FALSE NEIGHBOUR: 'it returns false'. Refute it at one input. -/
def fnResidualFactorsWrong : ChangeSpec := { name := "fnResidualFactors", fn := fun _ => fun
  | [d] => { results := [.lit (.bool false)], args := [d] }
  | _ => none }
def FnResidualFactorsWrongFalsely : Prop := fnResidualFactorsRow.holds Tryz.pinned (OpenSpec.ofChange fnResidualFactorsWrong)

/-- 'laws.FnExactSplittingsOf': WHATEVER THE INPUT: true; the input reads as it did. -/
def fnExactSplittingsOfSpec : ChangeSpec := { name := "fnExactSplittingsOf", fn := fun _ => fun
  | [d1, d2] => { results := [.lit (.bool true)], args := [d1, d2] }
  | _ => none }
def fnExactSplittingsOfRow : OpenClaim := { program := "ytlmckocbhcpmdaagreat", sum := "f8edef14b6fdd08050794b375e69444747173f2c29a730a9ca03bab631c52977", func := "loop.example/g01000/laws.FnExactSplittingsOf", spec := "fnExactSplittingsOf", inPlace := ["slices.overlaps[loop.example/g01000/impl.Splitting]"], unfollowed := true, recurses := true, apart := false }
def FnExactSplittingsOfSaid : Prop := fnExactSplittingsOfRow.holds Tryz.pinned (OpenSpec.ofChange fnExactSplittingsOfSpec)

/-- ITS FALSE NEIGHBOUR: 'it returns false'. Refute it at one input. -/
def fnExactSplittingsOfWrong : ChangeSpec := { name := "fnExactSplittingsOf", fn := fun _ => fun
  | [d1, d2] => { results := [.lit (.bool false)], args := [d1, d2] }
  | _ => none }
def FnExactSplittingsOfWrongFalsely : Prop := fnExactSplittingsOfRow.holds Tryz.pinned (OpenSpec.ofChange fnExactSplittingsOfWrong)

/- THE SECOND FORM. 'bulk': how many values and letters a reading holds, each counted each time it is reached (what is shared counts as often as it is met; a slice's spare places count too). A statement '..UptoSaid' is the law's where the arguments, and the package variables that the reading takes, are together of bulk at most 1048576: NARROWER than '..Said'. Prove '..Said' where nothing that the law and all that it calls make is longer than what came in: it says more and counts as full. Else prove '..UptoSaid'. A law counts once. -/
mutual
def uptoBulk {H : Type} : DataW H → Nat
  | .lit (.string bytes) => bytes.length + 1
  | .lit _ => 1
  | .nil => 1
  | .ptr d => uptoBulk d + 1
  | .slice elems spare => uptoBulkAll elems + uptoBulkAll spare + 1
  | .agg parts => uptoBulkAll parts + 1
  | .iface _ d => uptoBulk d + 1
  | .map entries => uptoBulkEntries entries + 1
  | .held _ => 1
def uptoBulkAll {H : Type} : List (DataW H) → Nat
  | [] => 0
  | d :: r => uptoBulk d + uptoBulkAll r
def uptoBulkEntries {H : Type} : List (Lit × DataW H) → Nat
  | [] => 0
  | x :: r => uptoBulkEntry x + uptoBulkEntries r
def uptoBulkEntry {H : Type} : Lit × DataW H → Nat
  | (.string bytes, d) => bytes.length + uptoBulk d + 1
  | (_, d) => uptoBulk d + 1
 end
def uptoSmall : (H : Type) → List (DataW H) → Bool := fun _ ds => decide (uptoBulkAll ds ≤ 1048576)
def OpenSpec.upto (s : _root_.Go.ChangeSpec) : _root_.Go.OpenSpec := { _root_.Go.OpenSpec.ofChange s with cond := some uptoSmall }

/-- 'laws.FnElements', WHERE WHAT IT READS IS OF BULK AT MOST 1048576: true; the input reads as it did. -/
def fnElementsUptoRow : OpenClaim := { program := "ytlmckocbhcpmdaagreat", sum := "f8edef14b6fdd08050794b375e69444747173f2c29a730a9ca03bab631c52977", func := "loop.example/g01000/laws.FnElements", spec := "fnElements", unfollowed := true, recurses := true, apart := false, narrowed := true }
def FnElementsUptoSaid : Prop := fnElementsUptoRow.holds Tryz.pinned (OpenSpec.upto fnElementsSpec)

/-- 'laws.FnNumbered', WHERE WHAT IT READS IS OF BULK AT MOST 1048576: true; the input reads as it did. -/
def fnNumberedUptoRow : OpenClaim := { program := "ytlmckocbhcpmdaagreat", sum := "f8edef14b6fdd08050794b375e69444747173f2c29a730a9ca03bab631c52977", func := "loop.example/g01000/laws.FnNumbered", spec := "fnNumbered", unfollowed := true, recurses := true, apart := false, narrowed := true }
def FnNumberedUptoSaid : Prop := fnNumberedUptoRow.holds Tryz.pinned (OpenSpec.upto fnNumberedSpec)

/-- 'laws.FnDegrees', WHERE WHAT IT READS IS OF BULK AT MOST 1048576: true; the input reads as it did. -/
def fnDegreesUptoRow : OpenClaim := { program := "ytlmckocbhcpmdaagreat", sum := "f8edef14b6fdd08050794b375e69444747173f2c29a730a9ca03bab631c52977", func := "loop.example/g01000/laws.FnDegrees", spec := "fnDegrees", unfollowed := true, recurses := true, apart := false, narrowed := true }
def FnDegreesUptoSaid : Prop := fnDegreesUptoRow.holds Tryz.pinned (OpenSpec.upto fnDegreesSpec)

/-- 'laws.FnMinimal', WHERE WHAT IT READS IS OF BULK AT MOST 1048576: true; the input reads as it did. -/
def fnMinimalUptoRow : OpenClaim := { program := "ytlmckocbhcpmdaagreat", sum := "f8edef14b6fdd08050794b375e69444747173f2c29a730a9ca03bab631c52977", func := "loop.example/g01000/laws.FnMinimal", spec := "fnMinimal", unfollowed := true, recurses := true, apart := false, narrowed := true }
def FnMinimalUptoSaid : Prop := fnMinimalUptoRow.holds Tryz.pinned (OpenSpec.upto fnMinimalSpec)

/-- 'laws.FnModularFactors', WHERE WHAT IT READS IS OF BULK AT MOST 1048576: true; the input reads as it did. -/
def fnModularFactorsUptoRow : OpenClaim := { program := "ytlmckocbhcpmdaagreat", sum := "f8edef14b6fdd08050794b375e69444747173f2c29a730a9ca03bab631c52977", func := "loop.example/g01000/laws.FnModularFactors", spec := "fnModularFactors", unfollowed := true, recurses := true, apart := false, narrowed := true }
def FnModularFactorsUptoSaid : Prop := fnModularFactorsUptoRow.holds Tryz.pinned (OpenSpec.upto fnModularFactorsSpec)

/-- 'laws.FnLogs', WHERE WHAT IT READS IS OF BULK AT MOST 1048576: true; the input reads as it did. -/
def fnLogsUptoRow : OpenClaim := { program := "ytlmckocbhcpmdaagreat", sum := "f8edef14b6fdd08050794b375e69444747173f2c29a730a9ca03bab631c52977", func := "loop.example/g01000/laws.FnLogs", spec := "fnLogs", unfollowed := true, recurses := true, apart := false, narrowed := true }
def FnLogsUptoSaid : Prop := fnLogsUptoRow.holds Tryz.pinned (OpenSpec.upto fnLogsSpec)

/-- 'laws.FnPrimitive', WHERE WHAT IT READS IS OF BULK AT MOST 1048576: true; the input reads as it did. -/
def fnPrimitiveUptoRow : OpenClaim := { program := "ytlmckocbhcpmdaagreat", sum := "f8edef14b6fdd08050794b375e69444747173f2c29a730a9ca03bab631c52977", func := "loop.example/g01000/laws.FnPrimitive", spec := "fnPrimitive", unfollowed := true, recurses := true, apart := false, narrowed := true }
def FnPrimitiveUptoSaid : Prop := fnPrimitiveUptoRow.holds Tryz.pinned (OpenSpec.upto fnPrimitiveSpec)

/-- 'laws.FnLiftedFactors', WHERE WHAT IT READS IS OF BULK AT MOST 1048576: true; the input reads as it did. -/
def fnLiftedFactorsUptoRow : OpenClaim := { program := "ytlmckocbhcpmdaagreat", sum := "f8edef14b6fdd08050794b375e69444747173f2c29a730a9ca03bab631c52977", func := "loop.example/g01000/laws.FnLiftedFactors", spec := "fnLiftedFactors", unfollowed := true, recurses := true, apart := false, narrowed := true }
def FnLiftedFactorsUptoSaid : Prop := fnLiftedFactorsUptoRow.holds Tryz.pinned (OpenSpec.upto fnLiftedFactorsSpec)

/-- 'laws.FnExtensions', WHERE WHAT IT READS IS OF BULK AT MOST 1048576: true; the input reads as it did. -/
def fnExtensionsUptoRow : OpenClaim := { program := "ytlmckocbhcpmdaagreat", sum := "f8edef14b6fdd08050794b375e69444747173f2c29a730a9ca03bab631c52977", func := "loop.example/g01000/laws.FnExtensions", spec := "fnExtensions", unfollowed := true, recurses := true, apart := false, narrowed := true }
def FnExtensionsUptoSaid : Prop := fnExtensionsUptoRow.holds Tryz.pinned (OpenSpec.upto fnExtensionsSpec)

/-- 'laws.FnUnits', WHERE WHAT IT READS IS OF BULK AT MOST 1048576: true; the input reads as it did. -/
def fnUnitsUptoRow : OpenClaim := { program := "ytlmckocbhcpmdaagreat", sum := "f8edef14b6fdd08050794b375e69444747173f2c29a730a9ca03bab631c52977", func := "loop.example/g01000/laws.FnUnits", spec := "fnUnits", unfollowed := true, recurses := true, apart := false, narrowed := true }
def FnUnitsUptoSaid : Prop := fnUnitsUptoRow.holds Tryz.pinned (OpenSpec.upto fnUnitsSpec)

/-- 'laws.FnResidualFactors', WHERE WHAT IT READS IS OF BULK AT MOST 1048576: true; the input reads as it did. -/
def fnResidualFactorsUptoRow : OpenClaim := { program := "ytlmckocbhcpmdaagreat", sum := "f8edef14b6fdd08050794b375e69444747173f2c29a730a9ca03bab631c52977", func := "loop.example/g01000/laws.FnResidualFactors", spec := "fnResidualFactors", inPlace := ["slices.overlaps[loop.example/g01000/impl.Splitting]"], unfollowed := true, recurses := true, apart := false, narrowed := true }
def FnResidualFactorsUptoSaid : Prop := fnResidualFactorsUptoRow.holds Tryz.pinned (OpenSpec.upto fnResidualFactorsSpec)

/-- 'laws.FnExactSplittingsOf', WHERE WHAT IT READS IS OF BULK AT MOST 1048576: true; the input reads as it did. -/
def fnExactSplittingsOfUptoRow : OpenClaim := { program := "ytlmckocbhcpmdaagreat", sum := "f8edef14b6fdd08050794b375e69444747173f2c29a730a9ca03bab631c52977", func := "loop.example/g01000/laws.FnExactSplittingsOf", spec := "fnExactSplittingsOf", inPlace := ["slices.overlaps[loop.example/g01000/impl.Splitting]"], unfollowed := true, recurses := true, apart := false, narrowed := true }
def FnExactSplittingsOfUptoSaid : Prop := fnExactSplittingsOfUptoRow.holds Tryz.pinned (OpenSpec.upto fnExactSplittingsOfSpec)

end Rows
end Go.Proofs.YtlmckocbhcpmdaaGreat
