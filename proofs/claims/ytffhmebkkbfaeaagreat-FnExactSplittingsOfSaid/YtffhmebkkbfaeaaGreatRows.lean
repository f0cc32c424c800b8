/-
  No cell of these rows narrows 'for every input' (looked for: loops, veiled, ifaces, maps, wideKeys, modest, calm, conditions, laid).
  DERIVED. THE GIVEN ROWS OF THIS SEAT. 4 by the template 'for every input the law returns true; each argument reads behind the call as it read before'; 0 by the template 'total and deterministic' (their statements: YtffhmebkkbfaeaaGreatTotals.lean).
  GIVEN WITH THE SEED: the statements are not yours to turn. If you find one false, say at which input.
  Laid BY PROGRAM, IN A SANDBOX (cutbox-rows.mjs): the forced cells as the released guide's own fill.sh prints them over the translation a22267e3d1bec967… (all of the seat's roots in one cut). By AI agents, Wed Nov 11 2026. No macro, syntax, notation, axiom, sorry.
-/
import Derived.Test.YtffhmebkkbfaeaaGreatChecked
import GoSem.Claim
import GoSem.ClaimJoined
import GoSem.ClaimMapViews
import Derived.JoinedTies
import Derived.KernelRfl
namespace Go.Proofs.YtffhmebkkbfaeaaGreat
/- THE CELL 'sum', in the pinned program and in every row, IS THE sha256 OF THE DUMP (.gsa) THAT YtffhmebkkbfaeaaGreatProg.lean LOADS. Nothing in Lean hashes anything: it is a label: what it is worth is what the hold of that sum in a sandbox is worth. -/
noncomputable def Tryz.pinned : Pinned := { name := "ytffhmebkkbfaeaagreat", sum := "a22267e3d1bec9676f5517d8e85971b1bf81e680ee5e4c831d1175d2722fd3d4", checked := Tryz.checked }
namespace Rows
def none {H : Type} : Left H := { results := [], args := [] }

/-- 'laws.FnExactSplittingsOf': WHATEVER THE INPUT: true; the input reads as it did. -/
def fnExactSplittingsOfSpec : ChangeSpec := { name := "fnExactSplittingsOf", fn := fun _ => fun
  | [d1, d2] => { results := [.lit (.bool true)], args := [d1, d2] }
  | _ => none }
def fnExactSplittingsOfRow : OpenClaim := { program := "ytffhmebkkbfaeaagreat", sum := "a22267e3d1bec9676f5517d8e85971b1bf81e680ee5e4c831d1175d2722fd3d4", func := "loop.example/g01000/laws.FnExactSplittingsOf", spec := "fnExactSplittingsOf", inPlace := ["slices.overlaps[loop.example/g01000/impl.Splitting]"], unfollowed := true, recurses := true, apart := false }
def FnExactSplittingsOfSaid : Prop := fnExactSplittingsOfRow.holds Tryz.pinned (OpenSpec.ofChange fnExactSplittingsOfSpec)

/-- ITS FALSE NEIGHBOUR: 'it returns false'. Refute it at one input. -/
def fnExactSplittingsOfWrong : ChangeSpec := { name := "fnExactSplittingsOf", fn := fun _ => fun
  | [d1, d2] => { results := [.lit (.bool false)], args := [d1, d2] }
  | _ => none }
def FnExactSplittingsOfWrongFalsely : Prop := fnExactSplittingsOfRow.holds Tryz.pinned (OpenSpec.ofChange fnExactSplittingsOfWrong)

/-- 'laws.FnUnits': WHATEVER THE INPUT: true; the input reads as it did. -/
def fnUnitsSpec : ChangeSpec := { name := "fnUnits", fn := fun _ => fun
  | [d] => { results := [.lit (.bool true)], args := [d] }
  | _ => none }
def fnUnitsRow : OpenClaim := { program := "ytffhmebkkbfaeaagreat", sum := "a22267e3d1bec9676f5517d8e85971b1bf81e680ee5e4c831d1175d2722fd3d4", func := "loop.example/g01000/laws.FnUnits", spec := "fnUnits", unfollowed := true, recurses := true, apart := false }
def FnUnitsSaid : Prop := fnUnitsRow.holds Tryz.pinned (OpenSpec.ofChange fnUnitsSpec)

/-- ITS FALSE NEIGHBOUR: 'it returns false'. Refute it at one input. -/
def fnUnitsWrong : ChangeSpec := { name := "fnUnits", fn := fun _ => fun
  | [d] => { results := [.lit (.bool false)], args := [d] }
  | _ => none }
def FnUnitsWrongFalsely : Prop := fnUnitsRow.holds Tryz.pinned (OpenSpec.ofChange fnUnitsWrong)

/-- 'laws.FnResidualFactors': WHATEVER THE INPUT: true; the input reads as it did. -/
def fnResidualFactorsSpec : ChangeSpec := { name := "fnResidualFactors", fn := fun _ => fun
  | [d] => { results := [.lit (.bool true)], args := [d] }
  | _ => none }
def fnResidualFactorsRow : OpenClaim := { program := "ytffhmebkkbfaeaagreat", sum := "a22267e3d1bec9676f5517d8e85971b1bf81e680ee5e4c831d1175d2722fd3d4", func := "loop.example/g01000/laws.FnResidualFactors", spec := "fnResidualFactors", inPlace := ["slices.overlaps[loop.example/g01000/impl.Splitting]"], unfollowed := true, recurses := true, apart := false }
def FnResidualFactorsSaid : Prop := fnResidualFactorsRow.holds Tryz.pinned (OpenSpec.ofChange fnResidualFactorsSpec)

/-- ITS FALSE NEIGHBOUR: 'it returns false'. Refute it at one input. -/
def fnResidualFactorsWrong : ChangeSpec := { name := "fnResidualFactors", fn := fun _ => fun
  | [d] => { results := [.lit (.bool false)], args := [d] }
  | _ => none }
def FnResidualFactorsWrongFalsely : Prop := fnResidualFactorsRow.holds Tryz.pinned (OpenSpec.ofChange fnResidualFactorsWrong)

/-- 'laws.FnExtensions': WHATEVER THE INPUT: true; the input reads as it did. -/
def fnExtensionsSpec : ChangeSpec := { name := "fnExtensions", fn := fun _ => fun
  | [d] => { results := [.lit (.bool true)], args := [d] }
  | _ => none }
def fnExtensionsRow : OpenClaim := { program := "ytffhmebkkbfaeaagreat", sum := "a22267e3d1bec9676f5517d8e85971b1bf81e680ee5e4c831d1175d2722fd3d4", func := "loop.example/g01000/laws.FnExtensions", spec := "fnExtensions", unfollowed := true, recurses := true, apart := false }
def FnExtensionsSaid : Prop := fnExtensionsRow.holds Tryz.pinned (OpenSpec.ofChange fnExtensionsSpec)

/-- ITS FALSE NEIGHBOUR: 'it returns false'. Refute it at one input. -/
def fnExtensionsWrong : ChangeSpec := { name := "fnExtensions", fn := fun _ => fun
  | [d] => { results := [.lit (.bool false)], args := [d] }
  | _ => none }
def FnExtensionsWrongFalsely : Prop := fnExtensionsRow.holds Tryz.pinned (OpenSpec.ofChange fnExtensionsWrong)

/- THE SECOND FORM. 'bulk': how many values and letters a reading holds, each counted each time it is reached (what is shared counts as often as it is met; a slice's spare places count too). A statement '..UptoSaid' is the law's where the arguments, and the package variables that the reading takes, are together of bulk at most 1048576: NARROWER than '..Said'. Prove '..Said' where nothing that the law and all that it calls make is longer than what came in: it says more and counts as full. Else prove '..UptoSaid'. A law counts once. -/
mutual
def uptoBulk {H : Type} : DataW H → Nat
  | .lit (.string bytes) => bytes.length + 1
  | .lit _ => 1
  | .nil => 1
  | .ptr d => uptoBulk d + 1
  | .slice elems spare => uptoBulkAll elems + uptoBulkAll spare + 1
  | .agg parts => uptoBulkAll parts + 1
  | .iface _ d => uptoBulk d + 1
  | .map entries => uptoBulkEntries entries + 1
  | .held _ => 1
def uptoBulkAll {H : Type} : List (DataW H) → Nat
  | [] => 0
  | d :: r => uptoBulk d + uptoBulkAll r
def uptoBulkEntries {H : Type} : List (Lit × DataW H) → Nat
  | [] => 0
  | x :: r => uptoBulkEntry x + uptoBulkEntries r
def uptoBulkEntry {H : Type} : Lit × DataW H → Nat
  | (.string bytes, d) => bytes.length + uptoBulk d + 1
  | (_, d) => uptoBulk d + 1
 end
def uptoSmall : (H : Type) → List (DataW H) → Bool := fun _ ds => decide (uptoBulkAll ds ≤ 1048576)
def OpenSpec.upto (s : _root_.Go.ChangeSpec) : _root_.Go.OpenSpec := { _root_.Go.OpenSpec.ofChange s with cond := some uptoSmall }

/-- 'laws.FnExactSplittingsOf', WHERE WHAT IT READS IS OF BULK AT MOST 1048576: true; the input reads as it did. -/
def fnExactSplittingsOfUptoRow : OpenClaim := { program := "ytffhmebkkbfaeaagreat", sum := "a22267e3d1bec9676f5517d8e85971b1bf81e680ee5e4c831d1175d2722fd3d4", func := "loop.example/g01000/laws.FnExactSplittingsOf", spec := "fnExactSplittingsOf", inPlace := ["slices.overlaps[loop.example/g01000/impl.Splitting]"], unfollowed := true, recurses := true, apart := false, narrowed := true }
def FnExactSplittingsOfUptoSaid : Prop := fnExactSplittingsOfUptoRow.holds Tryz.pinned (OpenSpec.upto fnExactSplittingsOfSpec)

/-- 'laws.FnUnits', WHERE WHAT IT READS IS OF BULK AT MOST 1048576: true; the input reads as it did. -/
def fnUnitsUptoRow : OpenClaim := { program := "ytffhmebkkbfaeaagreat", sum := "a22267e3d1bec9676f5517d8e85971b1bf81e680ee5e4c831d1175d2722fd3d4", func := "loop.example/g01000/laws.FnUnits", spec := "fnUnits", unfollowed := true, recurses := true, apart := false, narrowed := true }
def FnUnitsUptoSaid : Prop := fnUnitsUptoRow.holds Tryz.pinned (OpenSpec.upto fnUnitsSpec)

/-- 'laws.FnResidualFactors', WHERE WHAT IT READS IS OF BULK AT MOST 1048576: true; the input reads as it did. -/
def fnResidualFactorsUptoRow : OpenClaim := { program := "ytffhmebkkbfaeaagreat", sum := "a22267e3d1bec9676f5517d8e85971b1bf81e680ee5e4c831d1175d2722fd3d4", func := "loop.example/g01000/laws.FnResidualFactors", spec := "fnResidualFactors", inPlace := ["slices.overlaps[loop.example/g01000/impl.Splitting]"], unfollowed := true, recurses := true, apart := false, narrowed := true }
def FnResidualFactorsUptoSaid : Prop := fnResidualFactorsUptoRow.holds Tryz.pinned (OpenSpec.upto fnResidualFactorsSpec)

/-- 'laws.FnExtensions', WHERE WHAT IT READS IS OF BULK AT MOST 1048576: true; the input reads as it did. -/
def fnExtensionsUptoRow : OpenClaim := { program := "ytffhmebkkbfaeaagreat", sum := "a22267e3d1bec9676f5517d8e85971b1bf81e680ee5e4c831d1175d2722fd3d4", func := "loop.example/g01000/laws.FnExtensions", spec := "fnExtensions", unfollowed := true, recurses := true, apart := false, narrowed := true }
def FnExtensionsUptoSaid : Prop := fnExtensionsUptoRow.holds Tryz.pinned (OpenSpec.upto fnExtensionsSpec)

end Rows
end Go.Proofs.YtffhmebkkbfaeaaGreat
