/-
  No cell of these rows narrows 'for every input' (looked for: loops, veiled, ifaces, maps, wideKeys, modest, calm, conditions, laid).
  DERIVED. THE GIVEN ROWS OF THIS SEAT. 14 by the template 'for every input the law returns true; each argument reads behind the call as it read before'; 0 by the template 'total and deterministic' (their statements: YtfinplgomnfdpaaGreatTotals.lean).
  GIVEN WITH THE SEED: the statements are not yours to turn. If you find one false, say at which input.
  Laid BY PROGRAM, IN A SANDBOX (cutbox-rows.mjs): the forced cells as the released guide's own fill.sh prints them over the translation 16a564ea1249364f… (all of the seat's roots in one cut). By AI agents, Wed Nov 11 2026. No macro, syntax, notation, axiom, sorry.
-/
import Derived.Test.YtfinplgomnfdpaaGreatChecked
import GoSem.Claim
import GoSem.ClaimJoined
import GoSem.ClaimMapViews
import Derived.JoinedTies
import Derived.KernelRfl
namespace Go.Proofs.YtfinplgomnfdpaaGreat
/- THE CELL 'sum', in the pinned program and in every row, IS THE sha256 OF THE DUMP (.gsa) THAT YtfinplgomnfdpaaGreatProg.lean LOADS. Nothing in Lean hashes anything: it is a label: what it is worth is what the hold of that sum in a sandbox is worth. -/
noncomputable def Tryz.pinned : Pinned := { name := "ytfinplgomnfdpaagreat", sum := "16a564ea1249364ff6afa02edbd2c4903430885ef24615fabb4b8116ced212dd", checked := Tryz.checked }
namespace Rows
def none {H : Type} : Left H := { results := [], args := [] }

/-- 'laws.FnExactElementsOfOrder': WHATEVER THE INPUT: true; the input reads as it did. -/
def fnExactElementsOfOrderSpec : ChangeSpec := { name := "fnExactElementsOfOrder", fn := fun _ => fun
  | [d1, d2] => { results := [.lit (.bool true)], args := [d1, d2] }
  | _ => none }
def fnExactElementsOfOrderRow : OpenClaim := { program := "ytfinplgomnfdpaagreat", sum := "16a564ea1249364ff6afa02edbd2c4903430885ef24615fabb4b8116ced212dd", func := "loop.example/g01000/laws.FnExactElementsOfOrder", spec := "fnExactElementsOfOrder", unfollowed := true, recurses := true, apart := false }
def FnExactElementsOfOrderSaid : Prop := fnExactElementsOfOrderRow.holds Tryz.pinned (OpenSpec.ofChange fnExactElementsOfOrderSpec)

/-- ITS FALSE NEIGHBOUR: 'it returns false'. Refute it at one input. -/
def fnExactElementsOfOrderWrong : ChangeSpec := { name := "fnExactElementsOfOrder", fn := fun _ => fun
  | [d1, d2] => { results := [.lit (.bool false)], args := [d1, d2] }
  | _ => none }
def FnExactElementsOfOrderWrongFalsely : Prop := fnExactElementsOfOrderRow.holds Tryz.pinned (OpenSpec.ofChange fnExactElementsOfOrderWrong)

/-- 'laws.FnExactRootsOfElement': WHATEVER THE INPUT: true; the input reads as it did. -/
def fnExactRootsOfElementSpec : ChangeSpec := { name := "fnExactRootsOfElement", fn := fun _ => fun
  | [d1, d2, d3] => { results := [.lit (.bool true)], args := [d1, d2, d3] }
  | _ => none }
def fnExactRootsOfElementRow : OpenClaim := { program := "ytfinplgomnfdpaagreat", sum := "16a564ea1249364ff6afa02edbd2c4903430885ef24615fabb4b8116ced212dd", func := "loop.example/g01000/laws.FnExactRootsOfElement", spec := "fnExactRootsOfElement", unfollowed := true, recurses := true, apart := false }
def FnExactRootsOfElementSaid : Prop := fnExactRootsOfElementRow.holds Tryz.pinned (OpenSpec.ofChange fnExactRootsOfElementSpec)

/-- ITS FALSE NEIGHBOUR: 'it returns false'. Refute it at one input. -/
def fnExactRootsOfElementWrong : ChangeSpec := { name := "fnExactRootsOfElement", fn := fun _ => fun
  | [d1, d2, d3] => { results := [.lit (.bool false)], args := [d1, d2, d3] }
  | _ => none }
def FnExactRootsOfElementWrongFalsely : Prop := fnExactRootsOfElementRow.holds Tryz.pinned (OpenSpec.ofChange fnExactRootsOfElementWrong)

/-- 'laws.FnExactZechLogarithm': WHATEVER THE INPUT: true; the input reads as it did. -/
def fnExactZechLogarithmSpec : ChangeSpec := { name := "fnExactZechLogarithm", fn := fun _ => fun
  | [d1, d2, d3] => { results := [.lit (.bool true)], args := [d1, d2, d3] }
  | _ => none }
def fnExactZechLogarithmRow : OpenClaim := { program := "ytfinplgomnfdpaagreat", sum := "16a564ea1249364ff6afa02edbd2c4903430885ef24615fabb4b8116ced212dd", func := "loop.example/g01000/laws.FnExactZechLogarithm", spec := "fnExactZechLogarithm", unfollowed := true, recurses := true, apart := false }
def FnExactZechLogarithmSaid : Prop := fnExactZechLogarithmRow.holds Tryz.pinned (OpenSpec.ofChange fnExactZechLogarithmSpec)

/-- ITS FALSE NEIGHBOUR: 'it returns false'. Refute it at one input. -/
def fnExactZechLogarithmWrong : ChangeSpec := { name := "fnExactZechLogarithm", fn := fun _ => fun
  | [d1, d2, d3] => { results := [.lit (.bool false)], args := [d1, d2, d3] }
  | _ => none }
def FnExactZechLogarithmWrongFalsely : Prop := fnExactZechLogarithmRow.holds Tryz.pinned (OpenSpec.ofChange fnExactZechLogarithmWrong)

/-- 'laws.FnExactMinimalPolynomial': WHATEVER THE INPUT: true; the input reads as it did. -/
def fnExactMinimalPolynomialSpec : ChangeSpec := { name := "fnExactMinimalPolynomial", fn := fun _ => fun
  | [d1, d2] => { results := [.lit (.bool true)], args := [d1, d2] }
  | _ => none }
def fnExactMinimalPolynomialRow : OpenClaim := { program := "ytfinplgomnfdpaagreat", sum := "16a564ea1249364ff6afa02edbd2c4903430885ef24615fabb4b8116ced212dd", func := "loop.example/g01000/laws.FnExactMinimalPolynomial", spec := "fnExactMinimalPolynomial", unfollowed := true, recurses := true, apart := false }
def FnExactMinimalPolynomialSaid : Prop := fnExactMinimalPolynomialRow.holds Tryz.pinned (OpenSpec.ofChange fnExactMinimalPolynomialSpec)

/-- ITS FALSE NEIGHBOUR: 'it returns false'. Refute it at one input. -/
def fnExactMinimalPolynomialWrong : ChangeSpec := { name := "fnExactMinimalPolynomial", fn := fun _ => fun
  | [d1, d2] => { results := [.lit (.bool false)], args := [d1, d2] }
  | _ => none }
def FnExactMinimalPolynomialWrongFalsely : Prop := fnExactMinimalPolynomialRow.holds Tryz.pinned (OpenSpec.ofChange fnExactMinimalPolynomialWrong)

/-- 'laws.FnExactConjugatesOf': WHATEVER THE INPUT: true; the input reads as it did. -/
def fnExactConjugatesOfSpec : ChangeSpec := { name := "fnExactConjugatesOf", fn := fun _ => fun
  | [d1, d2] => { results := [.lit (.bool true)], args := [d1, d2] }
  | _ => none }
def fnExactConjugatesOfRow : OpenClaim := { program := "ytfinplgomnfdpaagreat", sum := "16a564ea1249364ff6afa02edbd2c4903430885ef24615fabb4b8116ced212dd", func := "loop.example/g01000/laws.FnExactConjugatesOf", spec := "fnExactConjugatesOf", unfollowed := true, recurses := true, apart := false }
def FnExactConjugatesOfSaid : Prop := fnExactConjugatesOfRow.holds Tryz.pinned (OpenSpec.ofChange fnExactConjugatesOfSpec)

/-- ITS FALSE NEIGHBOUR: 'it returns false'. Refute it at one input. -/
def fnExactConjugatesOfWrong : ChangeSpec := { name := "fnExactConjugatesOf", fn := fun _ => fun
  | [d1, d2] => { results := [.lit (.bool false)], args := [d1, d2] }
  | _ => none }
def FnExactConjugatesOfWrongFalsely : Prop := fnExactConjugatesOfRow.holds Tryz.pinned (OpenSpec.ofChange fnExactConjugatesOfWrong)

/-- 'laws.FnExactRootsInField': WHATEVER THE INPUT: true; the input reads as it did. -/
def fnExactRootsInFieldSpec : ChangeSpec := { name := "fnExactRootsInField", fn := fun _ => fun
  | [d1, d2] => { results := [.lit (.bool true)], args := [d1, d2] }
  | _ => none }
def fnExactRootsInFieldRow : OpenClaim := { program := "ytfinplgomnfdpaagreat", sum := "16a564ea1249364ff6afa02edbd2c4903430885ef24615fabb4b8116ced212dd", func := "loop.example/g01000/laws.FnExactRootsInField", spec := "fnExactRootsInField", unfollowed := true, recurses := true, apart := false }
def FnExactRootsInFieldSaid : Prop := fnExactRootsInFieldRow.holds Tryz.pinned (OpenSpec.ofChange fnExactRootsInFieldSpec)

/-- ITS FALSE NEIGHBOUR: 'it returns false'. Refute it at one input. -/
def fnExactRootsInFieldWrong : ChangeSpec := { name := "fnExactRootsInField", fn := fun _ => fun
  | [d1, d2] => { results := [.lit (.bool false)], args := [d1, d2] }
  | _ => none }
def FnExactRootsInFieldWrongFalsely : Prop := fnExactRootsInFieldRow.holds Tryz.pinned (OpenSpec.ofChange fnExactRootsInFieldWrong)

/-- 'laws.FnExactResidueField': WHATEVER THE INPUT: true; the input reads as it did. -/
def fnExactResidueFieldSpec : ChangeSpec := { name := "fnExactResidueField", fn := fun _ => fun
  | [d] => { results := [.lit (.bool true)], args := [d] }
  | _ => none }
def fnExactResidueFieldRow : OpenClaim := { program := "ytfinplgomnfdpaagreat", sum := "16a564ea1249364ff6afa02edbd2c4903430885ef24615fabb4b8116ced212dd", func := "loop.example/g01000/laws.FnExactResidueField", spec := "fnExactResidueField", unfollowed := true, recurses := true, apart := false }
def FnExactResidueFieldSaid : Prop := fnExactResidueFieldRow.holds Tryz.pinned (OpenSpec.ofChange fnExactResidueFieldSpec)

/-- ITS FALSE NEIGHBOUR: 'it returns false'. Refute it at one input. -/
def fnExactResidueFieldWrong : ChangeSpec := { name := "fnExactResidueField", fn := fun _ => fun
  | [d] => { results := [.lit (.bool false)], args := [d] }
  | _ => none }
def FnExactResidueFieldWrongFalsely : Prop := fnExactResidueFieldRow.holds Tryz.pinned (OpenSpec.ofChange fnExactResidueFieldWrong)

/-- 'laws.FnExactMultiplyThere': WHATEVER THE INPUT: true; the input reads as it did. -/
def fnExactMultiplyThereSpec : ChangeSpec := { name := "fnExactMultiplyThere", fn := fun _ => fun
  | [d1, d2, d3] => { results := [.lit (.bool true)], args := [d1, d2, d3] }
  | _ => none }
def fnExactMultiplyThereRow : OpenClaim := { program := "ytfinplgomnfdpaagreat", sum := "16a564ea1249364ff6afa02edbd2c4903430885ef24615fabb4b8116ced212dd", func := "loop.example/g01000/laws.FnExactMultiplyThere", spec := "fnExactMultiplyThere", unfollowed := true, recurses := true, apart := false }
def FnExactMultiplyThereSaid : Prop := fnExactMultiplyThereRow.holds Tryz.pinned (OpenSpec.ofChange fnExactMultiplyThereSpec)

/-- ITS FALSE NEIGHBOUR: 'it returns false'. Refute it at one input. -/
def fnExactMultiplyThereWrong : ChangeSpec := { name := "fnExactMultiplyThere", fn := fun _ => fun
  | [d1, d2, d3] => { results := [.lit (.bool false)], args := [d1, d2, d3] }
  | _ => none }
def FnExactMultiplyThereWrongFalsely : Prop := fnExactMultiplyThereRow.holds Tryz.pinned (OpenSpec.ofChange fnExactMultiplyThereWrong)

/-- 'laws.FnExactTeichmuellerThere': WHATEVER THE INPUT: true; the input reads as it did. -/
def fnExactTeichmuellerThereSpec : ChangeSpec := { name := "fnExactTeichmuellerThere", fn := fun _ => fun
  | [d1, d2] => { results := [.lit (.bool true)], args := [d1, d2] }
  | _ => none }
def fnExactTeichmuellerThereRow : OpenClaim := { program := "ytfinplgomnfdpaagreat", sum := "16a564ea1249364ff6afa02edbd2c4903430885ef24615fabb4b8116ced212dd", func := "loop.example/g01000/laws.FnExactTeichmuellerThere", spec := "fnExactTeichmuellerThere", unfollowed := true, recurses := true, apart := false }
def FnExactTeichmuellerThereSaid : Prop := fnExactTeichmuellerThereRow.holds Tryz.pinned (OpenSpec.ofChange fnExactTeichmuellerThereSpec)

/-- ITS FALSE NEIGHBOUR: 'it returns false'. Refute it at one input. -/
def fnExactTeichmuellerThereWrong : ChangeSpec := { name := "fnExactTeichmuellerThere", fn := fun _ => fun
  | [d1, d2] => { results := [.lit (.bool false)], args := [d1, d2] }
  | _ => none }
def FnExactTeichmuellerThereWrongFalsely : Prop := fnExactTeichmuellerThereRow.holds Tryz.pinned (OpenSpec.ofChange fnExactTeichmuellerThereWrong)

/-- 'laws.FnExactInvertThere': WHATEVER THE INPUT: true; the input reads as it did. -/
def fnExactInvertThereSpec : ChangeSpec := { name := "fnExactInvertThere", fn := fun _ => fun
  | [d1, d2] => { results := [.lit (.bool true)], args := [d1, d2] }
  | _ => none }
def fnExactInvertThereRow : OpenClaim := { program := "ytfinplgomnfdpaagreat", sum := "16a564ea1249364ff6afa02edbd2c4903430885ef24615fabb4b8116ced212dd", func := "loop.example/g01000/laws.FnExactInvertThere", spec := "fnExactInvertThere", unfollowed := true, recurses := true, apart := false }
def FnExactInvertThereSaid : Prop := fnExactInvertThereRow.holds Tryz.pinned (OpenSpec.ofChange fnExactInvertThereSpec)

/-- ITS FALSE NEIGHBOUR: 'it returns false'. Refute it at one input. -/
def fnExactInvertThereWrong : ChangeSpec := { name := "fnExactInvertThere", fn := fun _ => fun
  | [d1, d2] => { results := [.lit (.bool false)], args := [d1, d2] }
  | _ => none }
def FnExactInvertThereWrongFalsely : Prop := fnExactInvertThereRow.holds Tryz.pinned (OpenSpec.ofChange fnExactInvertThereWrong)

/-- 'laws.FnExactFrobeniusThere': WHATEVER THE INPUT: true; the input reads as it did. -/
def fnExactFrobeniusThereSpec : ChangeSpec := { name := "fnExactFrobeniusThere", fn := fun _ => fun
  | [d] => { results := [.lit (.bool true)], args := [d] }
  | _ => none }
def fnExactFrobeniusThereRow : OpenClaim := { program := "ytfinplgomnfdpaagreat", sum := "16a564ea1249364ff6afa02edbd2c4903430885ef24615fabb4b8116ced212dd", func := "loop.example/g01000/laws.FnExactFrobeniusThere", spec := "fnExactFrobeniusThere", unfollowed := true, recurses := true, apart := false }
def FnExactFrobeniusThereSaid : Prop := fnExactFrobeniusThereRow.holds Tryz.pinned (OpenSpec.ofChange fnExactFrobeniusThereSpec)

/-- ITS FALSE NEIGHBOUR: 'it returns false'. Refute it at one input. -/
def fnExactFrobeniusThereWrong : ChangeSpec := { name := "fnExactFrobeniusThere", fn := fun _ => fun
  | [d] => { results := [.lit (.bool false)], args := [d] }
  | _ => none }
def FnExactFrobeniusThereWrongFalsely : Prop := fnExactFrobeniusThereRow.holds Tryz.pinned (OpenSpec.ofChange fnExactFrobeniusThereWrong)

/-- 'laws.FnExactApplyFrobenius': WHATEVER THE INPUT: true; the input reads as it did. -/
def fnExactApplyFrobeniusSpec : ChangeSpec := { name := "fnExactApplyFrobenius", fn := fun _ => fun
  | [d1, d2] => { results := [.lit (.bool true)], args := [d1, d2] }
  | _ => none }
def fnExactApplyFrobeniusRow : OpenClaim := { program := "ytfinplgomnfdpaagreat", sum := "16a564ea1249364ff6afa02edbd2c4903430885ef24615fabb4b8116ced212dd", func := "loop.example/g01000/laws.FnExactApplyFrobenius", spec := "fnExactApplyFrobenius", unfollowed := true, recurses := true, apart := false }
def FnExactApplyFrobeniusSaid : Prop := fnExactApplyFrobeniusRow.holds Tryz.pinned (OpenSpec.ofChange fnExactApplyFrobeniusSpec)

/-- ITS FALSE NEIGHBOUR: 'it returns false'. Refute it at one input. -/
def fnExactApplyFrobeniusWrong : ChangeSpec := { name := "fnExactApplyFrobenius", fn := fun _ => fun
  | [d1, d2] => { results := [.lit (.bool false)], args := [d1, d2] }
  | _ => none }
def FnExactApplyFrobeniusWrongFalsely : Prop := fnExactApplyFrobeniusRow.holds Tryz.pinned (OpenSpec.ofChange fnExactApplyFrobeniusWrong)

/-- 'laws.FnExactNormThere': WHATEVER THE INPUT: true; the input reads as it did. -/
def fnExactNormThereSpec : ChangeSpec := { name := "fnExactNormThere", fn := fun _ => fun
  | [d1, d2] => { results := [.lit (.bool true)], args := [d1, d2] }
  | _ => none }
def fnExactNormThereRow : OpenClaim := { program := "ytfinplgomnfdpaagreat", sum := "16a564ea1249364ff6afa02edbd2c4903430885ef24615fabb4b8116ced212dd", func := "loop.example/g01000/laws.FnExactNormThere", spec := "fnExactNormThere", unfollowed := true, recurses := true, apart := false }
def FnExactNormThereSaid : Prop := fnExactNormThereRow.holds Tryz.pinned (OpenSpec.ofChange fnExactNormThereSpec)

/-- ITS FALSE NEIGHBOUR: 'it returns false'. Refute it at one input. -/
def fnExactNormThereWrong : ChangeSpec := { name := "fnExactNormThere", fn := fun _ => fun
  | [d1, d2] => { results := [.lit (.bool false)], args := [d1, d2] }
  | _ => none }
def FnExactNormThereWrongFalsely : Prop := fnExactNormThereRow.holds Tryz.pinned (OpenSpec.ofChange fnExactNormThereWrong)

/-- 'laws.FnExactTraceThere': WHATEVER THE INPUT: true; the input reads as it did. -/
def fnExactTraceThereSpec : ChangeSpec := { name := "fnExactTraceThere", fn := fun _ => fun
  | [d1, d2] => { results := [.lit (.bool true)], args := [d1, d2] }
  | _ => none }
def fnExactTraceThereRow : OpenClaim := { program := "ytfinplgomnfdpaagreat", sum := "16a564ea1249364ff6afa02edbd2c4903430885ef24615fabb4b8116ced212dd", func := "loop.example/g01000/laws.FnExactTraceThere", spec := "fnExactTraceThere", unfollowed := true, recurses := true, apart := false }
def FnExactTraceThereSaid : Prop := fnExactTraceThereRow.holds Tryz.pinned (OpenSpec.ofChange fnExactTraceThereSpec)

/-- ITS FALSE NEIGHBOUR: 'it returns false'. Refute it at one input. -/
def fnExactTraceThereWrong : ChangeSpec := { name := "fnExactTraceThere", fn := fun _ => fun
  | [d1, d2] => { results := [.lit (.bool false)], args := [d1, d2] }
  | _ => none }
def FnExactTraceThereWrongFalsely : Prop := fnExactTraceThereRow.holds Tryz.pinned (OpenSpec.ofChange fnExactTraceThereWrong)

/- THE SECOND FORM. 'bulk': how many values and letters a reading holds, each counted each time it is reached (what is shared counts as often as it is met; a slice's spare places count too). A statement '..UptoSaid' is the law's where the arguments, and the package variables that the reading takes, are together of bulk at most 1048576: NARROWER than '..Said'. Prove '..Said' where nothing that the law and all that it calls make is longer than what came in: it says more and counts as full. Else prove '..UptoSaid'. A law counts once. -/
mutual
def uptoBulk {H : Type} : DataW H → Nat
  | .lit (.string bytes) => bytes.length + 1
  | .lit _ => 1
  | .nil => 1
  | .ptr d => uptoBulk d + 1
  | .slice elems spare => uptoBulkAll elems + uptoBulkAll spare + 1
  | .agg parts => uptoBulkAll parts + 1
  | .iface _ d => uptoBulk d + 1
  | .map entries => uptoBulkEntries entries + 1
  | .held _ => 1
def uptoBulkAll {H : Type} : List (DataW H) → Nat
  | [] => 0
  | d :: r => uptoBulk d + uptoBulkAll r
def uptoBulkEntries {H : Type} : List (Lit × DataW H) → Nat
  | [] => 0
  | x :: r => uptoBulkEntry x + uptoBulkEntries r
def uptoBulkEntry {H : Type} : Lit × DataW H → Nat
  | (.string bytes, d) => bytes.length + uptoBulk d + 1
  | (_, d) => uptoBulk d + 1
 end
def uptoSmall : (H : Type) → List (DataW H) → Bool := fun _ ds => decide (uptoBulkAll ds ≤ 1048576)
def OpenSpec.upto (s : _root_.Go.ChangeSpec) : _root_.Go.OpenSpec := { _root_.Go.OpenSpec.ofChange s with cond := some uptoSmall }

/-- 'laws.FnExactElementsOfOrder', WHERE WHAT IT READS IS OF BULK AT MOST 1048576: true; the input reads as it did. -/
def fnExactElementsOfOrderUptoRow : OpenClaim := { program := "ytfinplgomnfdpaagreat", sum := "16a564ea1249364ff6afa02edbd2c4903430885ef24615fabb4b8116ced212dd", func := "loop.example/g01000/laws.FnExactElementsOfOrder", spec := "fnExactElementsOfOrder", unfollowed := true, recurses := true, apart := false, narrowed := true }
def FnExactElementsOfOrderUptoSaid : Prop := fnExactElementsOfOrderUptoRow.holds Tryz.pinned (OpenSpec.upto fnExactElementsOfOrderSpec)

/-- 'laws.FnExactRootsOfElement', WHERE WHAT IT READS IS OF BULK AT MOST 1048576: true; the input reads as it did. -/
def fnExactRootsOfElementUptoRow : OpenClaim := { program := "ytfinplgomnfdpaagreat", sum := "16a564ea1249364ff6afa02edbd2c4903430885ef24615fabb4b8116ced212dd", func := "loop.example/g01000/laws.FnExactRootsOfElement", spec := "fnExactRootsOfElement", unfollowed := true, recurses := true, apart := false, narrowed := true }
def FnExactRootsOfElementUptoSaid : Prop := fnExactRootsOfElementUptoRow.holds Tryz.pinned (OpenSpec.upto fnExactRootsOfElementSpec)

/-- 'laws.FnExactZechLogarithm', WHERE WHAT IT READS IS OF BULK AT MOST 1048576: true; the input reads as it did. -/
def fnExactZechLogarithmUptoRow : OpenClaim := { program := "ytfinplgomnfdpaagreat", sum := "16a564ea1249364ff6afa02edbd2c4903430885ef24615fabb4b8116ced212dd", func := "loop.example/g01000/laws.FnExactZechLogarithm", spec := "fnExactZechLogarithm", unfollowed := true, recurses := true, apart := false, narrowed := true }
def FnExactZechLogarithmUptoSaid : Prop := fnExactZechLogarithmUptoRow.holds Tryz.pinned (OpenSpec.upto fnExactZechLogarithmSpec)

/-- 'laws.FnExactMinimalPolynomial', WHERE WHAT IT READS IS OF BULK AT MOST 1048576: true; the input reads as it did. -/
def fnExactMinimalPolynomialUptoRow : OpenClaim := { program := "ytfinplgomnfdpaagreat", sum := "16a564ea1249364ff6afa02edbd2c4903430885ef24615fabb4b8116ced212dd", func := "loop.example/g01000/laws.FnExactMinimalPolynomial", spec := "fnExactMinimalPolynomial", unfollowed := true, recurses := true, apart := false, narrowed := true }
def FnExactMinimalPolynomialUptoSaid : Prop := fnExactMinimalPolynomialUptoRow.holds Tryz.pinned (OpenSpec.upto fnExactMinimalPolynomialSpec)

/-- 'laws.FnExactConjugatesOf', WHERE WHAT IT READS IS OF BULK AT MOST 1048576: true; the input reads as it did. -/
def fnExactConjugatesOfUptoRow : OpenClaim := { program := "ytfinplgomnfdpaagreat", sum := "16a564ea1249364ff6afa02edbd2c4903430885ef24615fabb4b8116ced212dd", func := "loop.example/g01000/laws.FnExactConjugatesOf", spec := "fnExactConjugatesOf", unfollowed := true, recurses := true, apart := false, narrowed := true }
def FnExactConjugatesOfUptoSaid : Prop := fnExactConjugatesOfUptoRow.holds Tryz.pinned (OpenSpec.upto fnExactConjugatesOfSpec)

/-- 'laws.FnExactRootsInField', WHERE WHAT IT READS IS OF BULK AT MOST 1048576: true; the input reads as it did. -/
def fnExactRootsInFieldUptoRow : OpenClaim := { program := "ytfinplgomnfdpaagreat", sum := "16a564ea1249364ff6afa02edbd2c4903430885ef24615fabb4b8116ced212dd", func := "loop.example/g01000/laws.FnExactRootsInField", spec := "fnExactRootsInField", unfollowed := true, recurses := true, apart := false, narrowed := true }
def FnExactRootsInFieldUptoSaid : Prop := fnExactRootsInFieldUptoRow.holds Tryz.pinned (OpenSpec.upto fnExactRootsInFieldSpec)

/-- 'laws.FnExactResidueField', WHERE WHAT IT READS IS OF BULK AT MOST 1048576: true; the input reads as it did. -/
def fnExactResidueFieldUptoRow : OpenClaim := { program := "ytfinplgomnfdpaagreat", sum := "16a564ea1249364ff6afa02edbd2c4903430885ef24615fabb4b8116ced212dd", func := "loop.example/g01000/laws.FnExactResidueField", spec := "fnExactResidueField", unfollowed := true, recurses := true, apart := false, narrowed := true }
def FnExactResidueFieldUptoSaid : Prop := fnExactResidueFieldUptoRow.holds Tryz.pinned (OpenSpec.upto fnExactResidueFieldSpec)

/-- 'laws.FnExactMultiplyThere', WHERE WHAT IT READS IS OF BULK AT MOST 1048576: true; the input reads as it did. -/
def fnExactMultiplyThereUptoRow : OpenClaim := { program := "ytfinplgomnfdpaagreat", sum := "16a564ea1249364ff6afa02edbd2c4903430885ef24615fabb4b8116ced212dd", func := "loop.example/g01000/laws.FnExactMultiplyThere", spec := "fnExactMultiplyThere", unfollowed := true, recurses := true, apart := false, narrowed := true }
def FnExactMultiplyThereUptoSaid : Prop := fnExactMultiplyThereUptoRow.holds Tryz.pinned (OpenSpec.upto fnExactMultiplyThereSpec)

/-- 'laws.FnExactTeichmuellerThere', WHERE WHAT IT READS IS OF BULK AT MOST 1048576: true; the input reads as it did. -/
def fnExactTeichmuellerThereUptoRow : OpenClaim := { program := "ytfinplgomnfdpaagreat", sum := "16a564ea1249364ff6afa02edbd2c4903430885ef24615fabb4b8116ced212dd", func := "loop.example/g01000/laws.FnExactTeichmuellerThere", spec := "fnExactTeichmuellerThere", unfollowed := true, recurses := true, apart := false, narrowed := true }
def FnExactTeichmuellerThereUptoSaid : Prop := fnExactTeichmuellerThereUptoRow.holds Tryz.pinned (OpenSpec.upto fnExactTeichmuellerThereSpec)

/-- 'laws.FnExactInvertThere', WHERE WHAT IT READS IS OF BULK AT MOST 1048576: true; the input reads as it did. -/
def fnExactInvertThereUptoRow : OpenClaim := { program := "ytfinplgomnfdpaagreat", sum := "16a564ea1249364ff6afa02edbd2c4903430885ef24615fabb4b8116ced212dd", func := "loop.example/g01000/laws.FnExactInvertThere", spec := "fnExactInvertThere", unfollowed := true, recurses := true, apart := false, narrowed := true }
def FnExactInvertThereUptoSaid : Prop := fnExactInvertThereUptoRow.holds Tryz.pinned (OpenSpec.upto fnExactInvertThereSpec)

/-- 'laws.FnExactFrobeniusThere', WHERE WHAT IT READS IS OF BULK AT MOST 1048576: true; the input reads as it did. -/
def fnExactFrobeniusThereUptoRow : OpenClaim := { program := "ytfinplgomnfdpaagreat", sum := "16a564ea1249364ff6afa02edbd2c4903430885ef24615fabb4b8116ced212dd", func := "loop.example/g01000/laws.FnExactFrobeniusThere", spec := "fnExactFrobeniusThere", unfollowed := true, recurses := true, apart := false, narrowed := true }
def FnExactFrobeniusThereUptoSaid : Prop := fnExactFrobeniusThereUptoRow.holds Tryz.pinned (OpenSpec.upto fnExactFrobeniusThereSpec)

/-- 'laws.FnExactApplyFrobenius', WHERE WHAT IT READS IS OF BULK AT MOST 1048576: true; the input reads as it did. -/
def fnExactApplyFrobeniusUptoRow : OpenClaim := { program := "ytfinplgomnfdpaagreat", sum := "16a564ea1249364ff6afa02edbd2c4903430885ef24615fabb4b8116ced212dd", func := "loop.example/g01000/laws.FnExactApplyFrobenius", spec := "fnExactApplyFrobenius", unfollowed := true, recurses := true, apart := false, narrowed := true }
def FnExactApplyFrobeniusUptoSaid : Prop := fnExactApplyFrobeniusUptoRow.holds Tryz.pinned (OpenSpec.upto fnExactApplyFrobeniusSpec)

/-- 'laws.FnExactNormThere', WHERE WHAT IT READS IS OF BULK AT MOST 1048576: true; the input reads as it did. -/
def fnExactNormThereUptoRow : OpenClaim := { program := "ytfinplgomnfdpaagreat", sum := "16a564ea1249364ff6afa02edbd2c4903430885ef24615fabb4b8116ced212dd", func := "loop.example/g01000/laws.FnExactNormThere", spec := "fnExactNormThere", unfollowed := true, recurses := true, apart := false, narrowed := true }
def FnExactNormThereUptoSaid : Prop := fnExactNormThereUptoRow.holds Tryz.pinned (OpenSpec.upto fnExactNormThereSpec)

/-- 'laws.FnExactTraceThere', WHERE WHAT IT READS IS OF BULK AT MOST 1048576: true; the input reads as it did. -/
def fnExactTraceThereUptoRow : OpenClaim := { program := "ytfinplgomnfdpaagreat", sum := "16a564ea1249364ff6afa02edbd2c4903430885ef24615fabb4b8116ced212dd", func := "loop.example/g01000/laws.FnExactTraceThere", spec := "fnExactTraceThere", unfollowed := true, recurses := true, apart := false, narrowed := true }
def FnExactTraceThereUptoSaid : Prop := fnExactTraceThereUptoRow.holds Tryz.pinned (OpenSpec.upto fnExactTraceThereSpec)

end Rows
end Go.Proofs.YtfinplgomnfdpaaGreat
