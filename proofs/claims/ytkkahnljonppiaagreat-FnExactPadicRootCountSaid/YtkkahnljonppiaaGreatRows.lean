/-
  No cell of these rows narrows 'for every input' (looked for: loops, veiled, ifaces, maps, wideKeys, modest, calm, conditions, laid).
  DERIVED. THE GIVEN ROWS OF THIS SEAT. 4 by the template 'for every input the law returns true; each argument reads behind the call as it read before'; 0 by the template 'total and deterministic' (their statements: YtkkahnljonppiaaGreatTotals.lean).
  GIVEN WITH THE SEED: the statements are not yours to turn. If you find one false, say at which input.
  Laid BY PROGRAM, IN A SANDBOX (cutbox-rows.mjs): the forced cells as the released guide's own fill.sh prints them over the translation b491d12d451a38bd… (all of the seat's roots in one cut). By AI agents, Wed Nov 11 2026. No macro, syntax, notation, axiom, sorry.
-/
import Derived.Test.YtkkahnljonppiaaGreatChecked
import GoSem.Claim
import GoSem.ClaimJoined
import GoSem.ClaimMapViews
import Derived.JoinedTies
import Derived.KernelRfl
namespace Go.Proofs.YtkkahnljonppiaaGreat
/- THE CELL 'sum', in the pinned program and in every row, IS THE sha256 OF THE DUMP (.gsa) THAT YtkkahnljonppiaaGreatProg.lean LOADS. Nothing in Lean hashes anything: it is a label: what it is worth is what the hold of that sum in a sandbox is worth. -/
noncomputable def Tryz.pinned : Pinned := { name := "ytkkahnljonppiaagreat", sum := "b491d12d451a38bdf69d90b97ac76104cf62104651a756f56e2a2d03b66b2cca", checked := Tryz.checked }
namespace Rows
def none {H : Type} : Left H := { results := [], args := [] }

/-- 'laws.FnExactCountFactors': WHATEVER THE INPUT: true; the input reads as it did. -/
def fnExactCountFactorsSpec : ChangeSpec := { name := "fnExactCountFactors", fn := fun _ => fun
  | [d1, d2] => { results := [.lit (.bool true)], args := [d1, d2] }
  | _ => none }
def fnExactCountFactorsRow : OpenClaim := { program := "ytkkahnljonppiaagreat", sum := "b491d12d451a38bdf69d90b97ac76104cf62104651a756f56e2a2d03b66b2cca", func := "loop.example/g01000/laws.FnExactCountFactors", spec := "fnExactCountFactors", inPlace := ["slices.overlaps[loop.example/g01000/impl.Splitting]"], unfollowed := true, recurses := true, apart := false }
def FnExactCountFactorsSaid : Prop := fnExactCountFactorsRow.holds Tryz.pinned (OpenSpec.ofChange fnExactCountFactorsSpec)

/-- ITS FALSE NEIGHBOUR: 'it returns false'. Refute it at one input. -/
def fnExactCountFactorsWrong : ChangeSpec := { name := "fnExactCountFactors", fn := fun _ => fun
  | [d1, d2] => { results := [.lit (.bool false)], args := [d1, d2] }
  | _ => none }
def FnExactCountFactorsWrongFalsely : Prop := fnExactCountFactorsRow.holds Tryz.pinned (OpenSpec.ofChange fnExactCountFactorsWrong)

/-- 'laws.FnExactIsIrreducibleAt': WHATEVER THE INPUT: true; the input reads as it did. -/
def fnExactIsIrreducibleAtSpec : ChangeSpec := { name := "fnExactIsIrreducibleAt", fn := fun _ => fun
  | [d1, d2] => { results := [.lit (.bool true)], args := [d1, d2] }
  | _ => none }
def fnExactIsIrreducibleAtRow : OpenClaim := { program := "ytkkahnljonppiaagreat", sum := "b491d12d451a38bdf69d90b97ac76104cf62104651a756f56e2a2d03b66b2cca", func := "loop.example/g01000/laws.FnExactIsIrreducibleAt", spec := "fnExactIsIrreducibleAt", inPlace := ["slices.overlaps[loop.example/g01000/impl.Splitting]"], unfollowed := true, recurses := true, apart := false }
def FnExactIsIrreducibleAtSaid : Prop := fnExactIsIrreducibleAtRow.holds Tryz.pinned (OpenSpec.ofChange fnExactIsIrreducibleAtSpec)

/-- ITS FALSE NEIGHBOUR: 'it returns false'. Refute it at one input. -/
def fnExactIsIrreducibleAtWrong : ChangeSpec := { name := "fnExactIsIrreducibleAt", fn := fun _ => fun
  | [d1, d2] => { results := [.lit (.bool false)], args := [d1, d2] }
  | _ => none }
def FnExactIsIrreducibleAtWrongFalsely : Prop := fnExactIsIrreducibleAtRow.holds Tryz.pinned (OpenSpec.ofChange fnExactIsIrreducibleAtWrong)

/-- 'laws.FnExactPadicRootCount': WHATEVER THE INPUT: true; the input reads as it did. -/
def fnExactPadicRootCountSpec : ChangeSpec := { name := "fnExactPadicRootCount", fn := fun _ => fun
  | [d1, d2] => { results := [.lit (.bool true)], args := [d1, d2] }
  | _ => none }
def fnExactPadicRootCountRow : OpenClaim := { program := "ytkkahnljonppiaagreat", sum := "b491d12d451a38bdf69d90b97ac76104cf62104651a756f56e2a2d03b66b2cca", func := "loop.example/g01000/laws.FnExactPadicRootCount", spec := "fnExactPadicRootCount", inPlace := ["slices.overlaps[loop.example/g01000/impl.Splitting]"], unfollowed := true, recurses := true, apart := false }
def FnExactPadicRootCountSaid : Prop := fnExactPadicRootCountRow.holds Tryz.pinned (OpenSpec.ofChange fnExactPadicRootCountSpec)

/-- ITS FALSE NEIGHBOUR: 'it returns false'. Refute it at one input. -/
def fnExactPadicRootCountWrong : ChangeSpec := { name := "fnExactPadicRootCount", fn := fun _ => fun
  | [d1, d2] => { results := [.lit (.bool false)], args := [d1, d2] }
  | _ => none }
def FnExactPadicRootCountWrongFalsely : Prop := fnExactPadicRootCountRow.holds Tryz.pinned (OpenSpec.ofChange fnExactPadicRootCountWrong)

/-- 'laws.FnExactSplittingsOf': WHATEVER THE INPUT: true; the input reads as it did. -/
def fnExactSplittingsOfSpec : ChangeSpec := { name := "fnExactSplittingsOf", fn := fun _ => fun
  | [d1, d2] => { results := [.lit (.bool true)], args := [d1, d2] }
  | _ => none }
def fnExactSplittingsOfRow : OpenClaim := { program := "ytkkahnljonppiaagreat", sum := "b491d12d451a38bdf69d90b97ac76104cf62104651a756f56e2a2d03b66b2cca", func := "loop.example/g01000/laws.FnExactSplittingsOf", spec := "fnExactSplittingsOf", inPlace := ["slices.overlaps[loop.example/g01000/impl.Splitting]"], unfollowed := true, recurses := true, apart := false }
def FnExactSplittingsOfSaid : Prop := fnExactSplittingsOfRow.holds Tryz.pinned (OpenSpec.ofChange fnExactSplittingsOfSpec)

/-- ITS FALSE NEIGHBOUR: 'it returns false'. Refute it at one input. -/
def fnExactSplittingsOfWrong : ChangeSpec := { name := "fnExactSplittingsOf", fn := fun _ => fun
  | [d1, d2] => { results := [.lit (.bool false)], args := [d1, d2] }
  | _ => none }
def FnExactSplittingsOfWrongFalsely : Prop := fnExactSplittingsOfRow.holds Tryz.pinned (OpenSpec.ofChange fnExactSplittingsOfWrong)

/- THE SECOND FORM. 'bulk': how many values and letters a reading holds, each counted each time it is reached (what is shared counts as often as it is met; a slice's spare places count too). A statement '..UptoSaid' is the law's where the arguments, and the package variables that the reading takes, are together of bulk at most 1048576: NARROWER than '..Said'. Prove '..Said' where nothing that the law and all that it calls make is longer than what came in: it says more and counts as full. Else prove '..UptoSaid'. A law counts once. -/
mutual
def uptoBulk {H : Type} : DataW H → Nat
  | .lit (.string bytes) => bytes.length + 1
  | .lit _ => 1
  | .nil => 1
  | .ptr d => uptoBulk d + 1
  | .slice elems spare => uptoBulkAll elems + uptoBulkAll spare + 1
  | .agg parts => uptoBulkAll parts + 1
  | .iface _ d => uptoBulk d + 1
  | .map entries => uptoBulkEntries entries + 1
  | .held _ => 1
def uptoBulkAll {H : Type} : List (DataW H) → Nat
  | [] => 0
  | d :: r => uptoBulk d + uptoBulkAll r
def uptoBulkEntries {H : Type} : List (Lit × DataW H) → Nat
  | [] => 0
  | x :: r => uptoBulkEntry x + uptoBulkEntries r
def uptoBulkEntry {H : Type} : Lit × DataW H → Nat
  | (.string bytes, d) => bytes.length + uptoBulk d + 1
  | (_, d) => uptoBulk d + 1
 end
def uptoSmall : (H : Type) → List (DataW H) → Bool := fun _ ds => decide (uptoBulkAll ds ≤ 1048576)
def OpenSpec.upto (s : _root_.Go.ChangeSpec) : _root_.Go.OpenSpec := { _root_.Go.OpenSpec.ofChange s with cond := some uptoSmall }

/-- 'laws.FnExactCountFactors', WHERE WHAT IT READS IS OF BULK AT MOST 1048576: true; the input reads as it did. -/
def fnExactCountFactorsUptoRow : OpenClaim := { program := "ytkkahnljonppiaagreat", sum := "b491d12d451a38bdf69d90b97ac76104cf62104651a756f56e2a2d03b66b2cca", func := "loop.example/g01000/laws.FnExactCountFactors", spec := "fnExactCountFactors", inPlace := ["slices.overlaps[loop.example/g01000/impl.Splitting]"], unfollowed := true, recurses := true, apart := false, narrowed := true }
def FnExactCountFactorsUptoSaid : Prop := fnExactCountFactorsUptoRow.holds Tryz.pinned (OpenSpec.upto fnExactCountFactorsSpec)

/-- 'laws.FnExactIsIrreducibleAt', WHERE WHAT IT READS IS OF BULK AT MOST 1048576: true; the input reads as it did. -/
def fnExactIsIrreducibleAtUptoRow : OpenClaim := { program := "ytkkahnljonppiaagreat", sum := "b491d12d451a38bdf69d90b97ac76104cf62104651a756f56e2a2d03b66b2cca", func := "loop.example/g01000/laws.FnExactIsIrreducibleAt", spec := "fnExactIsIrreducibleAt", inPlace := ["slices.overlaps[loop.example/g01000/impl.Splitting]"], unfollowed := true, recurses := true, apart := false, narrowed := true }
def FnExactIsIrreducibleAtUptoSaid : Prop := fnExactIsIrreducibleAtUptoRow.holds Tryz.pinned (OpenSpec.upto fnExactIsIrreducibleAtSpec)

/-- 'laws.FnExactPadicRootCount', WHERE WHAT IT READS IS OF BULK AT MOST 1048576: true; the input reads as it did. -/
def fnExactPadicRootCountUptoRow : OpenClaim := { program := "ytkkahnljonppiaagreat", sum := "b491d12d451a38bdf69d90b97ac76104cf62104651a756f56e2a2d03b66b2cca", func := "loop.example/g01000/laws.FnExactPadicRootCount", spec := "fnExactPadicRootCount", inPlace := ["slices.overlaps[loop.example/g01000/impl.Splitting]"], unfollowed := true, recurses := true, apart := false, narrowed := true }
def FnExactPadicRootCountUptoSaid : Prop := fnExactPadicRootCountUptoRow.holds Tryz.pinned (OpenSpec.upto fnExactPadicRootCountSpec)

/-- 'laws.FnExactSplittingsOf', WHERE WHAT IT READS IS OF BULK AT MOST 1048576: true; the input reads as it did. -/
def fnExactSplittingsOfUptoRow : OpenClaim := { program := "ytkkahnljonppiaagreat", sum := "b491d12d451a38bdf69d90b97ac76104cf62104651a756f56e2a2d03b66b2cca", func := "loop.example/g01000/laws.FnExactSplittingsOf", spec := "fnExactSplittingsOf", inPlace := ["slices.overlaps[loop.example/g01000/impl.Splitting]"], unfollowed := true, recurses := true, apart := false, narrowed := true }
def FnExactSplittingsOfUptoSaid : Prop := fnExactSplittingsOfUptoRow.holds Tryz.pinned (OpenSpec.upto fnExactSplittingsOfSpec)

end Rows
end Go.Proofs.YtkkahnljonppiaaGreat
