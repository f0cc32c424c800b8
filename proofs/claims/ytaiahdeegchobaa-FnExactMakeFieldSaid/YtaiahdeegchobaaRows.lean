/-
  No cell of these rows narrows 'for every input' (looked for: loops, veiled, ifaces, maps, wideKeys, modest, calm, conditions, laid).
  DERIVED. THE GIVEN ROWS OF THIS SEAT. 5 by the template 'for every input the law returns true; each argument reads behind the call as it read before'; 0 by the template 'total and deterministic' (their statements: YtaiahdeegchobaaTotals.lean).
  GIVEN WITH THE SEED: the statements are not yours to turn. If you find one false, say at which input.
  Laid BY PROGRAM, IN A SANDBOX (cutbox-rows.mjs): the forced cells as the released guide's own fill.sh prints them over the translation 66543dde5a536114… (all of the seat's roots in one cut). By AI agents, Wed Nov 11 2026. No macro, syntax, notation, axiom, sorry.
-/
import Derived.Test.YtaiahdeegchobaaChecked
import GoSem.Claim
import GoSem.ClaimJoined
import GoSem.ClaimMapViews
import Derived.JoinedTies
import Derived.KernelRfl
namespace Go.Proofs.Ytaiahdeegchobaa
/- THE CELL 'sum', in the pinned program and in every row, IS THE sha256 OF THE DUMP (.gsa) THAT YtaiahdeegchobaaProg.lean LOADS. Nothing in Lean hashes anything: it is a label: what it is worth is what the hold of that sum in a sandbox is worth. -/
noncomputable def Try.pinned : Pinned := { name := "ytaiahdeegchobaa", sum := "66543dde5a5361148d519f1aa7245ee0d93f384478db25be5bf63f68e5a1da80", checked := Try.checked }
namespace Rows
def none {H : Type} : Left H := { results := [], args := [] }

/-- 'laws.FnExactFactorModular': WHATEVER THE INPUT: true; the input reads as it did. -/
def fnExactFactorModularSpec : ChangeSpec := { name := "fnExactFactorModular", fn := fun _ => fun
  | [d1, d2] => { results := [.lit (.bool true)], args := [d1, d2] }
  | _ => none }
def fnExactFactorModularRow : OpenClaim := { program := "ytaiahdeegchobaa", sum := "66543dde5a5361148d519f1aa7245ee0d93f384478db25be5bf63f68e5a1da80", func := "loop.example/g01000/laws.FnExactFactorModular", spec := "fnExactFactorModular", unfollowed := true, recurses := true, apart := false }
def FnExactFactorModularSaid : Prop := fnExactFactorModularRow.holds Try.pinned (OpenSpec.ofChange fnExactFactorModularSpec)

/-- ITS FALSE NEIGHBOUR: 'it returns false'. Refute it at one input. -/
def fnExactFactorModularWrong : ChangeSpec := { name := "fnExactFactorModular", fn := fun _ => fun
  | [d1, d2] => { results := [.lit (.bool false)], args := [d1, d2] }
  | _ => none }
def FnExactFactorModularWrongFalsely : Prop := fnExactFactorModularRow.holds Try.pinned (OpenSpec.ofChange fnExactFactorModularWrong)

/-- 'laws.FnExactCountRoots': WHATEVER THE INPUT: true; the input reads as it did. -/
def fnExactCountRootsSpec : ChangeSpec := { name := "fnExactCountRoots", fn := fun _ => fun
  | [d1, d2] => { results := [.lit (.bool true)], args := [d1, d2] }
  | _ => none }
def fnExactCountRootsRow : OpenClaim := { program := "ytaiahdeegchobaa", sum := "66543dde5a5361148d519f1aa7245ee0d93f384478db25be5bf63f68e5a1da80", func := "loop.example/g01000/laws.FnExactCountRoots", spec := "fnExactCountRoots", unfollowed := true, recurses := true, apart := false }
def FnExactCountRootsSaid : Prop := fnExactCountRootsRow.holds Try.pinned (OpenSpec.ofChange fnExactCountRootsSpec)

/-- ITS FALSE NEIGHBOUR: 'it returns false'. Refute it at one input. -/
def fnExactCountRootsWrong : ChangeSpec := { name := "fnExactCountRoots", fn := fun _ => fun
  | [d1, d2] => { results := [.lit (.bool false)], args := [d1, d2] }
  | _ => none }
def FnExactCountRootsWrongFalsely : Prop := fnExactCountRootsRow.holds Try.pinned (OpenSpec.ofChange fnExactCountRootsWrong)

/-- 'laws.FnExactMakeField': WHATEVER THE INPUT: true; the input reads as it did. -/
def fnExactMakeFieldSpec : ChangeSpec := { name := "fnExactMakeField", fn := fun _ => fun
  | [d1, d2] => { results := [.lit (.bool true)], args := [d1, d2] }
  | _ => none }
def fnExactMakeFieldRow : OpenClaim := { program := "ytaiahdeegchobaa", sum := "66543dde5a5361148d519f1aa7245ee0d93f384478db25be5bf63f68e5a1da80", func := "loop.example/g01000/laws.FnExactMakeField", spec := "fnExactMakeField", unfollowed := true, recurses := true, apart := false }
def FnExactMakeFieldSaid : Prop := fnExactMakeFieldRow.holds Try.pinned (OpenSpec.ofChange fnExactMakeFieldSpec)

/-- ITS FALSE NEIGHBOUR: 'it returns false'. Refute it at one input. -/
def fnExactMakeFieldWrong : ChangeSpec := { name := "fnExactMakeField", fn := fun _ => fun
  | [d1, d2] => { results := [.lit (.bool false)], args := [d1, d2] }
  | _ => none }
def FnExactMakeFieldWrongFalsely : Prop := fnExactMakeFieldRow.holds Try.pinned (OpenSpec.ofChange fnExactMakeFieldWrong)

/-- 'laws.FnExactNextIrreducible': WHATEVER THE INPUT: true; the input reads as it did. -/
def fnExactNextIrreducibleSpec : ChangeSpec := { name := "fnExactNextIrreducible", fn := fun _ => fun
  | [d1, d2] => { results := [.lit (.bool true)], args := [d1, d2] }
  | _ => none }
def fnExactNextIrreducibleRow : OpenClaim := { program := "ytaiahdeegchobaa", sum := "66543dde5a5361148d519f1aa7245ee0d93f384478db25be5bf63f68e5a1da80", func := "loop.example/g01000/laws.FnExactNextIrreducible", spec := "fnExactNextIrreducible", unfollowed := true, recurses := true, apart := false }
def FnExactNextIrreducibleSaid : Prop := fnExactNextIrreducibleRow.holds Try.pinned (OpenSpec.ofChange fnExactNextIrreducibleSpec)

/-- ITS FALSE NEIGHBOUR: 'it returns false'. Refute it at one input. -/
def fnExactNextIrreducibleWrong : ChangeSpec := { name := "fnExactNextIrreducible", fn := fun _ => fun
  | [d1, d2] => { results := [.lit (.bool false)], args := [d1, d2] }
  | _ => none }
def FnExactNextIrreducibleWrongFalsely : Prop := fnExactNextIrreducibleRow.holds Try.pinned (OpenSpec.ofChange fnExactNextIrreducibleWrong)

/-- 'laws.FnExactDegreesOf': WHATEVER THE INPUT: true; the input reads as it did. -/
def fnExactDegreesOfSpec : ChangeSpec := { name := "fnExactDegreesOf", fn := fun _ => fun
  | [d1, d2] => { results := [.lit (.bool true)], args := [d1, d2] }
  | _ => none }
def fnExactDegreesOfRow : OpenClaim := { program := "ytaiahdeegchobaa", sum := "66543dde5a5361148d519f1aa7245ee0d93f384478db25be5bf63f68e5a1da80", func := "loop.example/g01000/laws.FnExactDegreesOf", spec := "fnExactDegreesOf", unfollowed := true, recurses := true, apart := false }
def FnExactDegreesOfSaid : Prop := fnExactDegreesOfRow.holds Try.pinned (OpenSpec.ofChange fnExactDegreesOfSpec)

/-- ITS FALSE NEIGHBOUR: 'it returns false'. Refute it at one input. -/
def fnExactDegreesOfWrong : ChangeSpec := { name := "fnExactDegreesOf", fn := fun _ => fun
  | [d1, d2] => { results := [.lit (.bool false)], args := [d1, d2] }
  | _ => none }
def FnExactDegreesOfWrongFalsely : Prop := fnExactDegreesOfRow.holds Try.pinned (OpenSpec.ofChange fnExactDegreesOfWrong)

/- THE SECOND FORM. 'bulk': how many values and letters a reading holds, each counted each time it is reached (what is shared counts as often as it is met; a slice's spare places count too). A statement '..UptoSaid' is the law's where the arguments, and the package variables that the reading takes, are together of bulk at most 1048576: NARROWER than '..Said'. Prove '..Said' where nothing that the law and all that it calls make is longer than what came in: it says more and counts as full. Else prove '..UptoSaid'. A law counts once. -/
mutual
def uptoBulk {H : Type} : DataW H → Nat
  | .lit (.string bytes) => bytes.length + 1
  | .lit _ => 1
  | .nil => 1
  | .ptr d => uptoBulk d + 1
  | .slice elems spare => uptoBulkAll elems + uptoBulkAll spare + 1
  | .agg parts => uptoBulkAll parts + 1
  | .iface _ d => uptoBulk d + 1
  | .map entries => uptoBulkEntries entries + 1
  | .held _ => 1
def uptoBulkAll {H : Type} : List (DataW H) → Nat
  | [] => 0
  | d :: r => uptoBulk d + uptoBulkAll r
def uptoBulkEntries {H : Type} : List (Lit × DataW H) → Nat
  | [] => 0
  | x :: r => uptoBulkEntry x + uptoBulkEntries r
def uptoBulkEntry {H : Type} : Lit × DataW H → Nat
  | (.string bytes, d) => bytes.length + uptoBulk d + 1
  | (_, d) => uptoBulk d + 1
 end
def uptoSmall : (H : Type) → List (DataW H) → Bool := fun _ ds => decide (uptoBulkAll ds ≤ 1048576)
def OpenSpec.upto (s : _root_.Go.ChangeSpec) : _root_.Go.OpenSpec := { _root_.Go.OpenSpec.ofChange s with cond := some uptoSmall }

/-- 'laws.FnExactFactorModular', WHERE WHAT IT READS IS OF BULK AT MOST 1048576: true; the input reads as it did. -/
def fnExactFactorModularUptoRow : OpenClaim := { program := "ytaiahdeegchobaa", sum := "66543dde5a5361148d519f1aa7245ee0d93f384478db25be5bf63f68e5a1da80", func := "loop.example/g01000/laws.FnExactFactorModular", spec := "fnExactFactorModular", unfollowed := true, recurses := true, apart := false, narrowed := true }
def FnExactFactorModularUptoSaid : Prop := fnExactFactorModularUptoRow.holds Try.pinned (OpenSpec.upto fnExactFactorModularSpec)

/-- 'laws.FnExactCountRoots', WHERE WHAT IT READS IS OF BULK AT MOST 1048576: true; the input reads as it did. -/
def fnExactCountRootsUptoRow : OpenClaim := { program := "ytaiahdeegchobaa", sum := "66543dde5a5361148d519f1aa7245ee0d93f384478db25be5bf63f68e5a1da80", func := "loop.example/g01000/laws.FnExactCountRoots", spec := "fnExactCountRoots", unfollowed := true, recurses := true, apart := false, narrowed := true }
def FnExactCountRootsUptoSaid : Prop := fnExactCountRootsUptoRow.holds Try.pinned (OpenSpec.upto fnExactCountRootsSpec)

/-- 'laws.FnExactMakeField', WHERE WHAT IT READS IS OF BULK AT MOST 1048576: true; the input reads as it did. -/
def fnExactMakeFieldUptoRow : OpenClaim := { program := "ytaiahdeegchobaa", sum := "66543dde5a5361148d519f1aa7245ee0d93f384478db25be5bf63f68e5a1da80", func := "loop.example/g01000/laws.FnExactMakeField", spec := "fnExactMakeField", unfollowed := true, recurses := true, apart := false, narrowed := true }
def FnExactMakeFieldUptoSaid : Prop := fnExactMakeFieldUptoRow.holds Try.pinned (OpenSpec.upto fnExactMakeFieldSpec)

/-- 'laws.FnExactNextIrreducible', WHERE WHAT IT READS IS OF BULK AT MOST 1048576: true; the input reads as it did. -/
def fnExactNextIrreducibleUptoRow : OpenClaim := { program := "ytaiahdeegchobaa", sum := "66543dde5a5361148d519f1aa7245ee0d93f384478db25be5bf63f68e5a1da80", func := "loop.example/g01000/laws.FnExactNextIrreducible", spec := "fnExactNextIrreducible", unfollowed := true, recurses := true, apart := false, narrowed := true }
def FnExactNextIrreducibleUptoSaid : Prop := fnExactNextIrreducibleUptoRow.holds Try.pinned (OpenSpec.upto fnExactNextIrreducibleSpec)

/-- 'laws.FnExactDegreesOf', WHERE WHAT IT READS IS OF BULK AT MOST 1048576: true; the input reads as it did. -/
def fnExactDegreesOfUptoRow : OpenClaim := { program := "ytaiahdeegchobaa", sum := "66543dde5a5361148d519f1aa7245ee0d93f384478db25be5bf63f68e5a1da80", func := "loop.example/g01000/laws.FnExactDegreesOf", spec := "fnExactDegreesOf", unfollowed := true, recurses := true, apart := false, narrowed := true }
def FnExactDegreesOfUptoSaid : Prop := fnExactDegreesOfUptoRow.holds Try.pinned (OpenSpec.upto fnExactDegreesOfSpec)

end Rows
end Go.Proofs.Ytaiahdeegchobaa
