/-
  No cell of these rows narrows 'for every input' (looked for: loops, veiled, ifaces, maps, wideKeys, modest, calm, conditions, laid).
  DERIVED. THE GIVEN ROWS OF THIS SEAT. 12 by the template 'for every input the law returns true; each argument reads behind the call as it read before'; 0 by the template 'total and deterministic' (their statements: YtaemcmndfhgpjaaGreatTotals.lean).
  GIVEN WITH THE SEED: the statements are not yours to turn. If you find one false, say at which input.
  Laid BY PROGRAM, IN A SANDBOX (cutbox-rows.mjs): the forced cells as the released guide's own fill.sh prints them over the translation 6bbb8a4995e9d1f3… (all of the seat's roots in one cut). By AI agents, Wed Nov 11 2026. No macro, syntax, notation, axiom, sorry.
-/
import Derived.Test.YtaemcmndfhgpjaaGreatChecked
import GoSem.Claim
import GoSem.ClaimJoined
import GoSem.ClaimMapViews
import Derived.JoinedTies
import Derived.KernelRfl
namespace Go.Proofs.YtaemcmndfhgpjaaGreat
/- THE CELL 'sum', in the pinned program and in every row, IS THE sha256 OF THE DUMP (.gsa) THAT YtaemcmndfhgpjaaGreatProg.lean LOADS. Nothing in Lean hashes anything: it is a label: what it is worth is what the hold of that sum in a sandbox is worth. -/
noncomputable def Tryz.pinned : Pinned := { name := "ytaemcmndfhgpjaagreat", sum := "6bbb8a4995e9d1f3306330bb66ea849d9a8e0ade3fd91b6c65042db058910e83", checked := Tryz.checked }
namespace Rows
def none {H : Type} : Left H := { results := [], args := [] }

/-- 'laws.FnExactElementsOfOrder': WHATEVER THE INPUT: true; the input reads as it did. -/
def fnExactElementsOfOrderSpec : ChangeSpec := { name := "fnExactElementsOfOrder", fn := fun _ => fun
  | [d1, d2] => { results := [.lit (.bool true)], args := [d1, d2] }
  | _ => none }
def fnExactElementsOfOrderRow : OpenClaim := { program := "ytaemcmndfhgpjaagreat", sum := "6bbb8a4995e9d1f3306330bb66ea849d9a8e0ade3fd91b6c65042db058910e83", func := "loop.example/g01000/laws.FnExactElementsOfOrder", spec := "fnExactElementsOfOrder", unfollowed := true, recurses := true, apart := false }
def FnExactElementsOfOrderSaid : Prop := fnExactElementsOfOrderRow.holds Tryz.pinned (OpenSpec.ofChange fnExactElementsOfOrderSpec)

/-- ITS FALSE NEIGHBOUR: 'it returns false'. Refute it at one input. -/
def fnExactElementsOfOrderWrong : ChangeSpec := { name := "fnExactElementsOfOrder", fn := fun _ => fun
  | [d1, d2] => { results := [.lit (.bool false)], args := [d1, d2] }
  | _ => none }
def FnExactElementsOfOrderWrongFalsely : Prop := fnExactElementsOfOrderRow.holds Tryz.pinned (OpenSpec.ofChange fnExactElementsOfOrderWrong)

/-- 'laws.FnExactRootsOfElement': WHATEVER THE INPUT: true; the input reads as it did. -/
def fnExactRootsOfElementSpec : ChangeSpec := { name := "fnExactRootsOfElement", fn := fun _ => fun
  | [d1, d2, d3] => { results := [.lit (.bool true)], args := [d1, d2, d3] }
  | _ => none }
def fnExactRootsOfElementRow : OpenClaim := { program := "ytaemcmndfhgpjaagreat", sum := "6bbb8a4995e9d1f3306330bb66ea849d9a8e0ade3fd91b6c65042db058910e83", func := "loop.example/g01000/laws.FnExactRootsOfElement", spec := "fnExactRootsOfElement", unfollowed := true, recurses := true, apart := false }
def FnExactRootsOfElementSaid : Prop := fnExactRootsOfElementRow.holds Tryz.pinned (OpenSpec.ofChange fnExactRootsOfElementSpec)

/-- ITS FALSE NEIGHBOUR: 'it returns false'. Refute it at one input. -/
def fnExactRootsOfElementWrong : ChangeSpec := { name := "fnExactRootsOfElement", fn := fun _ => fun
  | [d1, d2, d3] => { results := [.lit (.bool false)], args := [d1, d2, d3] }
  | _ => none }
def FnExactRootsOfElementWrongFalsely : Prop := fnExactRootsOfElementRow.holds Tryz.pinned (OpenSpec.ofChange fnExactRootsOfElementWrong)

/-- 'laws.FnExactResidueField': WHATEVER THE INPUT: true; the input reads as it did. -/
def fnExactResidueFieldSpec : ChangeSpec := { name := "fnExactResidueField", fn := fun _ => fun
  | [d] => { results := [.lit (.bool true)], args := [d] }
  | _ => none }
def fnExactResidueFieldRow : OpenClaim := { program := "ytaemcmndfhgpjaagreat", sum := "6bbb8a4995e9d1f3306330bb66ea849d9a8e0ade3fd91b6c65042db058910e83", func := "loop.example/g01000/laws.FnExactResidueField", spec := "fnExactResidueField", unfollowed := true, recurses := true, apart := false }
def FnExactResidueFieldSaid : Prop := fnExactResidueFieldRow.holds Tryz.pinned (OpenSpec.ofChange fnExactResidueFieldSpec)

/-- ITS FALSE NEIGHBOUR: 'it returns false'. Refute it at one input. -/
def fnExactResidueFieldWrong : ChangeSpec := { name := "fnExactResidueField", fn := fun _ => fun
  | [d] => { results := [.lit (.bool false)], args := [d] }
  | _ => none }
def FnExactResidueFieldWrongFalsely : Prop := fnExactResidueFieldRow.holds Tryz.pinned (OpenSpec.ofChange fnExactResidueFieldWrong)

/-- 'laws.FnExactConjugatesOf': WHATEVER THE INPUT: true; the input reads as it did. -/
def fnExactConjugatesOfSpec : ChangeSpec := { name := "fnExactConjugatesOf", fn := fun _ => fun
  | [d1, d2] => { results := [.lit (.bool true)], args := [d1, d2] }
  | _ => none }
def fnExactConjugatesOfRow : OpenClaim := { program := "ytaemcmndfhgpjaagreat", sum := "6bbb8a4995e9d1f3306330bb66ea849d9a8e0ade3fd91b6c65042db058910e83", func := "loop.example/g01000/laws.FnExactConjugatesOf", spec := "fnExactConjugatesOf", unfollowed := true, recurses := true, apart := false }
def FnExactConjugatesOfSaid : Prop := fnExactConjugatesOfRow.holds Tryz.pinned (OpenSpec.ofChange fnExactConjugatesOfSpec)

/-- ITS FALSE NEIGHBOUR: 'it returns false'. Refute it at one input. -/
def fnExactConjugatesOfWrong : ChangeSpec := { name := "fnExactConjugatesOf", fn := fun _ => fun
  | [d1, d2] => { results := [.lit (.bool false)], args := [d1, d2] }
  | _ => none }
def FnExactConjugatesOfWrongFalsely : Prop := fnExactConjugatesOfRow.holds Tryz.pinned (OpenSpec.ofChange fnExactConjugatesOfWrong)

/-- 'laws.FnExactRootsInField': WHATEVER THE INPUT: true; the input reads as it did. -/
def fnExactRootsInFieldSpec : ChangeSpec := { name := "fnExactRootsInField", fn := fun _ => fun
  | [d1, d2] => { results := [.lit (.bool true)], args := [d1, d2] }
  | _ => none }
def fnExactRootsInFieldRow : OpenClaim := { program := "ytaemcmndfhgpjaagreat", sum := "6bbb8a4995e9d1f3306330bb66ea849d9a8e0ade3fd91b6c65042db058910e83", func := "loop.example/g01000/laws.FnExactRootsInField", spec := "fnExactRootsInField", unfollowed := true, recurses := true, apart := false }
def FnExactRootsInFieldSaid : Prop := fnExactRootsInFieldRow.holds Tryz.pinned (OpenSpec.ofChange fnExactRootsInFieldSpec)

/-- ITS FALSE NEIGHBOUR: 'it returns false'. Refute it at one input. -/
def fnExactRootsInFieldWrong : ChangeSpec := { name := "fnExactRootsInField", fn := fun _ => fun
  | [d1, d2] => { results := [.lit (.bool false)], args := [d1, d2] }
  | _ => none }
def FnExactRootsInFieldWrongFalsely : Prop := fnExactRootsInFieldRow.holds Tryz.pinned (OpenSpec.ofChange fnExactRootsInFieldWrong)

/-- 'laws.FnExactMinimalPolynomial': WHATEVER THE INPUT: true; the input reads as it did. -/
def fnExactMinimalPolynomialSpec : ChangeSpec := { name := "fnExactMinimalPolynomial", fn := fun _ => fun
  | [d1, d2] => { results := [.lit (.bool true)], args := [d1, d2] }
  | _ => none }
def fnExactMinimalPolynomialRow : OpenClaim := { program := "ytaemcmndfhgpjaagreat", sum := "6bbb8a4995e9d1f3306330bb66ea849d9a8e0ade3fd91b6c65042db058910e83", func := "loop.example/g01000/laws.FnExactMinimalPolynomial", spec := "fnExactMinimalPolynomial", unfollowed := true, recurses := true, apart := false }
def FnExactMinimalPolynomialSaid : Prop := fnExactMinimalPolynomialRow.holds Tryz.pinned (OpenSpec.ofChange fnExactMinimalPolynomialSpec)

/-- ITS FALSE NEIGHBOUR: 'it returns false'. Refute it at one input. -/
def fnExactMinimalPolynomialWrong : ChangeSpec := { name := "fnExactMinimalPolynomial", fn := fun _ => fun
  | [d1, d2] => { results := [.lit (.bool false)], args := [d1, d2] }
  | _ => none }
def FnExactMinimalPolynomialWrongFalsely : Prop := fnExactMinimalPolynomialRow.holds Tryz.pinned (OpenSpec.ofChange fnExactMinimalPolynomialWrong)

/-- 'laws.FnExactZechLogarithm': WHATEVER THE INPUT: true; the input reads as it did. -/
def fnExactZechLogarithmSpec : ChangeSpec := { name := "fnExactZechLogarithm", fn := fun _ => fun
  | [d1, d2, d3] => { results := [.lit (.bool true)], args := [d1, d2, d3] }
  | _ => none }
def fnExactZechLogarithmRow : OpenClaim := { program := "ytaemcmndfhgpjaagreat", sum := "6bbb8a4995e9d1f3306330bb66ea849d9a8e0ade3fd91b6c65042db058910e83", func := "loop.example/g01000/laws.FnExactZechLogarithm", spec := "fnExactZechLogarithm", unfollowed := true, recurses := true, apart := false }
def FnExactZechLogarithmSaid : Prop := fnExactZechLogarithmRow.holds Tryz.pinned (OpenSpec.ofChange fnExactZechLogarithmSpec)

/-- ITS FALSE NEIGHBOUR: 'it returns false'. Refute it at one input. -/
def fnExactZechLogarithmWrong : ChangeSpec := { name := "fnExactZechLogarithm", fn := fun _ => fun
  | [d1, d2, d3] => { results := [.lit (.bool false)], args := [d1, d2, d3] }
  | _ => none }
def FnExactZechLogarithmWrongFalsely : Prop := fnExactZechLogarithmRow.holds Tryz.pinned (OpenSpec.ofChange fnExactZechLogarithmWrong)

/-- 'laws.FnElements': WHATEVER THE INPUT: true; the input reads as it did. -/
def fnElementsSpec : ChangeSpec := { name := "fnElements", fn := fun _ => fun
  | [d] => { results := [.lit (.bool true)], args := [d] }
  | _ => none }
def fnElementsRow : OpenClaim := { program := "ytaemcmndfhgpjaagreat", sum := "6bbb8a4995e9d1f3306330bb66ea849d9a8e0ade3fd91b6c65042db058910e83", func := "loop.example/g01000/laws.FnElements", spec := "fnElements", unfollowed := true, recurses := true, apart := false }
def FnElementsSaid : Prop := fnElementsRow.holds Tryz.pinned (OpenSpec.ofChange fnElementsSpec)

/-- ITS FALSE NEIGHBOUR: 'it returns false'. Refute it at one input. -/
def fnElementsWrong : ChangeSpec := { name := "fnElements", fn := fun _ => fun
  | [d] => { results := [.lit (.bool false)], args := [d] }
  | _ => none }
def FnElementsWrongFalsely : Prop := fnElementsRow.holds Tryz.pinned (OpenSpec.ofChange fnElementsWrong)

/-- 'laws.FnTraces': WHATEVER THE INPUT: true; the input reads as it did. -/
def fnTracesSpec : ChangeSpec := { name := "fnTraces", fn := fun _ => fun
  | [d] => { results := [.lit (.bool true)], args := [d] }
  | _ => none }
def fnTracesRow : OpenClaim := { program := "ytaemcmndfhgpjaagreat", sum := "6bbb8a4995e9d1f3306330bb66ea849d9a8e0ade3fd91b6c65042db058910e83", func := "loop.example/g01000/laws.FnTraces", spec := "fnTraces", unfollowed := true, recurses := true, apart := false }
def FnTracesSaid : Prop := fnTracesRow.holds Tryz.pinned (OpenSpec.ofChange fnTracesSpec)

/-- ITS FALSE NEIGHBOUR: 'it returns false'. Refute it at one input. -/
def fnTracesWrong : ChangeSpec := { name := "fnTraces", fn := fun _ => fun
  | [d] => { results := [.lit (.bool false)], args := [d] }
  | _ => none }
def FnTracesWrongFalsely : Prop := fnTracesRow.holds Tryz.pinned (OpenSpec.ofChange fnTracesWrong)

/-- 'laws.FnFields': WHATEVER THE INPUT: true; the input reads as it did. -/
def fnFieldsSpec : ChangeSpec := { name := "fnFields", fn := fun _ => fun
  | [d] => { results := [.lit (.bool true)], args := [d] }
  | _ => none }
def fnFieldsRow : OpenClaim := { program := "ytaemcmndfhgpjaagreat", sum := "6bbb8a4995e9d1f3306330bb66ea849d9a8e0ade3fd91b6c65042db058910e83", func := "loop.example/g01000/laws.FnFields", spec := "fnFields", unfollowed := true, recurses := true, apart := false }
def FnFieldsSaid : Prop := fnFieldsRow.holds Tryz.pinned (OpenSpec.ofChange fnFieldsSpec)

/-- ITS FALSE NEIGHBOUR: 'it returns false'. Refute it at one input. -/
def fnFieldsWrong : ChangeSpec := { name := "fnFields", fn := fun _ => fun
  | [d] => { results := [.lit (.bool false)], args := [d] }
  | _ => none }
def FnFieldsWrongFalsely : Prop := fnFieldsRow.holds Tryz.pinned (OpenSpec.ofChange fnFieldsWrong)

/-- 'laws.FnLogs': WHATEVER THE INPUT: true; the input reads as it did. -/
def fnLogsSpec : ChangeSpec := { name := "fnLogs", fn := fun _ => fun
  | [d] => { results := [.lit (.bool true)], args := [d] }
  | _ => none }
def fnLogsRow : OpenClaim := { program := "ytaemcmndfhgpjaagreat", sum := "6bbb8a4995e9d1f3306330bb66ea849d9a8e0ade3fd91b6c65042db058910e83", func := "loop.example/g01000/laws.FnLogs", spec := "fnLogs", unfollowed := true, recurses := true, apart := false }
def FnLogsSaid : Prop := fnLogsRow.holds Tryz.pinned (OpenSpec.ofChange fnLogsSpec)

/-- ITS FALSE NEIGHBOUR: 'it returns false'. Refute it at one input. -/
def fnLogsWrong : ChangeSpec := { name := "fnLogs", fn := fun _ => fun
  | [d] => { results := [.lit (.bool false)], args := [d] }
  | _ => none }
def FnLogsWrongFalsely : Prop := fnLogsRow.holds Tryz.pinned (OpenSpec.ofChange fnLogsWrong)

/-- 'laws.FnPrimitive': WHATEVER THE INPUT: true; the input reads as it did. -/
def fnPrimitiveSpec : ChangeSpec := { name := "fnPrimitive", fn := fun _ => fun
  | [d] => { results := [.lit (.bool true)], args := [d] }
  | _ => none }
def fnPrimitiveRow : OpenClaim := { program := "ytaemcmndfhgpjaagreat", sum := "6bbb8a4995e9d1f3306330bb66ea849d9a8e0ade3fd91b6c65042db058910e83", func := "loop.example/g01000/laws.FnPrimitive", spec := "fnPrimitive", unfollowed := true, recurses := true, apart := false }
def FnPrimitiveSaid : Prop := fnPrimitiveRow.holds Tryz.pinned (OpenSpec.ofChange fnPrimitiveSpec)

/-- ITS FALSE NEIGHBOUR: 'it returns false'. Refute it at one input. -/
def fnPrimitiveWrong : ChangeSpec := { name := "fnPrimitive", fn := fun _ => fun
  | [d] => { results := [.lit (.bool false)], args := [d] }
  | _ => none }
def FnPrimitiveWrongFalsely : Prop := fnPrimitiveRow.holds Tryz.pinned (OpenSpec.ofChange fnPrimitiveWrong)

/- THE SECOND FORM. 'bulk': how many values and letters a reading holds, each counted each time it is reached (what is shared counts as often as it is met; a slice's spare places count too). A statement '..UptoSaid' is the law's where the arguments, and the package variables that the reading takes, are together of bulk at most 1048576: NARROWER than '..Said'. Prove '..Said' where nothing that the law and all that it calls make is longer than what came in: it says more and counts as full. Else prove '..UptoSaid'. A law counts once. -/
mutual
def uptoBulk {H : Type} : DataW H → Nat
  | .lit (.string bytes) => bytes.length + 1
  | .lit _ => 1
  | .nil => 1
  | .ptr d => uptoBulk d + 1
  | .slice elems spare => uptoBulkAll elems + uptoBulkAll spare + 1
  | .agg parts => uptoBulkAll parts + 1
  | .iface _ d => uptoBulk d + 1
  | .map entries => uptoBulkEntries entries + 1
  | .held _ => 1
def uptoBulkAll {H : Type} : List (DataW H) → Nat
  | [] => 0
  | d :: r => uptoBulk d + uptoBulkAll r
def uptoBulkEntries {H : Type} : List (Lit × DataW H) → Nat
  | [] => 0
  | x :: r => uptoBulkEntry x + uptoBulkEntries r
def uptoBulkEntry {H : Type} : Lit × DataW H → Nat
  | (.string bytes, d) => bytes.length + uptoBulk d + 1
  | (_, d) => uptoBulk d + 1
 end
def uptoSmall : (H : Type) → List (DataW H) → Bool := fun _ ds => decide (uptoBulkAll ds ≤ 1048576)
def OpenSpec.upto (s : _root_.Go.ChangeSpec) : _root_.Go.OpenSpec := { _root_.Go.OpenSpec.ofChange s with cond := some uptoSmall }

/-- 'laws.FnExactElementsOfOrder', WHERE WHAT IT READS IS OF BULK AT MOST 1048576: true; the input reads as it did. -/
def fnExactElementsOfOrderUptoRow : OpenClaim := { program := "ytaemcmndfhgpjaagreat", sum := "6bbb8a4995e9d1f3306330bb66ea849d9a8e0ade3fd91b6c65042db058910e83", func := "loop.example/g01000/laws.FnExactElementsOfOrder", spec := "fnExactElementsOfOrder", unfollowed := true, recurses := true, apart := false, narrowed := true }
def FnExactElementsOfOrderUptoSaid : Prop := fnExactElementsOfOrderUptoRow.holds Tryz.pinned (OpenSpec.upto fnExactElementsOfOrderSpec)

/-- 'laws.FnExactRootsOfElement', WHERE WHAT IT READS IS OF BULK AT MOST 1048576: true; the input reads as it did. -/
def fnExactRootsOfElementUptoRow : OpenClaim := { program := "ytaemcmndfhgpjaagreat", sum := "6bbb8a4995e9d1f3306330bb66ea849d9a8e0ade3fd91b6c65042db058910e83", func := "loop.example/g01000/laws.FnExactRootsOfElement", spec := "fnExactRootsOfElement", unfollowed := true, recurses := true, apart := false, narrowed := true }
def FnExactRootsOfElementUptoSaid : Prop := fnExactRootsOfElementUptoRow.holds Tryz.pinned (OpenSpec.upto fnExactRootsOfElementSpec)

/-- 'laws.FnExactResidueField', WHERE WHAT IT READS IS OF BULK AT MOST 1048576: true; the input reads as it did. -/
def fnExactResidueFieldUptoRow : OpenClaim := { program := "ytaemcmndfhgpjaagreat", sum := "6bbb8a4995e9d1f3306330bb66ea849d9a8e0ade3fd91b6c65042db058910e83", func := "loop.example/g01000/laws.FnExactResidueField", spec := "fnExactResidueField", unfollowed := true, recurses := true, apart := false, narrowed := true }
def FnExactResidueFieldUptoSaid : Prop := fnExactResidueFieldUptoRow.holds Tryz.pinned (OpenSpec.upto fnExactResidueFieldSpec)

/-- 'laws.FnExactConjugatesOf', WHERE WHAT IT READS IS OF BULK AT MOST 1048576: true; the input reads as it did. -/
def fnExactConjugatesOfUptoRow : OpenClaim := { program := "ytaemcmndfhgpjaagreat", sum := "6bbb8a4995e9d1f3306330bb66ea849d9a8e0ade3fd91b6c65042db058910e83", func := "loop.example/g01000/laws.FnExactConjugatesOf", spec := "fnExactConjugatesOf", unfollowed := true, recurses := true, apart := false, narrowed := true }
def FnExactConjugatesOfUptoSaid : Prop := fnExactConjugatesOfUptoRow.holds Tryz.pinned (OpenSpec.upto fnExactConjugatesOfSpec)

/-- 'laws.FnExactRootsInField', WHERE WHAT IT READS IS OF BULK AT MOST 1048576: true; the input reads as it did. -/
def fnExactRootsInFieldUptoRow : OpenClaim := { program := "ytaemcmndfhgpjaagreat", sum := "6bbb8a4995e9d1f3306330bb66ea849d9a8e0ade3fd91b6c65042db058910e83", func := "loop.example/g01000/laws.FnExactRootsInField", spec := "fnExactRootsInField", unfollowed := true, recurses := true, apart := false, narrowed := true }
def FnExactRootsInFieldUptoSaid : Prop := fnExactRootsInFieldUptoRow.holds Tryz.pinned (OpenSpec.upto fnExactRootsInFieldSpec)

/-- 'laws.FnExactMinimalPolynomial', WHERE WHAT IT READS IS OF BULK AT MOST 1048576: true; the input reads as it did. -/
def fnExactMinimalPolynomialUptoRow : OpenClaim := { program := "ytaemcmndfhgpjaagreat", sum := "6bbb8a4995e9d1f3306330bb66ea849d9a8e0ade3fd91b6c65042db058910e83", func := "loop.example/g01000/laws.FnExactMinimalPolynomial", spec := "fnExactMinimalPolynomial", unfollowed := true, recurses := true, apart := false, narrowed := true }
def FnExactMinimalPolynomialUptoSaid : Prop := fnExactMinimalPolynomialUptoRow.holds Tryz.pinned (OpenSpec.upto fnExactMinimalPolynomialSpec)

/-- 'laws.FnExactZechLogarithm', WHERE WHAT IT READS IS OF BULK AT MOST 1048576: true; the input reads as it did. -/
def fnExactZechLogarithmUptoRow : OpenClaim := { program := "ytaemcmndfhgpjaagreat", sum := "6bbb8a4995e9d1f3306330bb66ea849d9a8e0ade3fd91b6c65042db058910e83", func := "loop.example/g01000/laws.FnExactZechLogarithm", spec := "fnExactZechLogarithm", unfollowed := true, recurses := true, apart := false, narrowed := true }
def FnExactZechLogarithmUptoSaid : Prop := fnExactZechLogarithmUptoRow.holds Tryz.pinned (OpenSpec.upto fnExactZechLogarithmSpec)

/-- 'laws.FnElements', WHERE WHAT IT READS IS OF BULK AT MOST 1048576: true; the input reads as it did. -/
def fnElementsUptoRow : OpenClaim := { program := "ytaemcmndfhgpjaagreat", sum := "6bbb8a4995e9d1f3306330bb66ea849d9a8e0ade3fd91b6c65042db058910e83", func := "loop.example/g01000/laws.FnElements", spec := "fnElements", unfollowed := true, recurses := true, apart := false, narrowed := true }
def FnElementsUptoSaid : Prop := fnElementsUptoRow.holds Tryz.pinned (OpenSpec.upto fnElementsSpec)

/-- 'laws.FnTraces', WHERE WHAT IT READS IS OF BULK AT MOST 1048576: true; the input reads as it did. -/
def fnTracesUptoRow : OpenClaim := { program := "ytaemcmndfhgpjaagreat", sum := "6bbb8a4995e9d1f3306330bb66ea849d9a8e0ade3fd91b6c65042db058910e83", func := "loop.example/g01000/laws.FnTraces", spec := "fnTraces", unfollowed := true, recurses := true, apart := false, narrowed := true }
def FnTracesUptoSaid : Prop := fnTracesUptoRow.holds Tryz.pinned (OpenSpec.upto fnTracesSpec)

/-- 'laws.FnFields', WHERE WHAT IT READS IS OF BULK AT MOST 1048576: true; the input reads as it did. -/
def fnFieldsUptoRow : OpenClaim := { program := "ytaemcmndfhgpjaagreat", sum := "6bbb8a4995e9d1f3306330bb66ea849d9a8e0ade3fd91b6c65042db058910e83", func := "loop.example/g01000/laws.FnFields", spec := "fnFields", unfollowed := true, recurses := true, apart := false, narrowed := true }
def FnFieldsUptoSaid : Prop := fnFieldsUptoRow.holds Tryz.pinned (OpenSpec.upto fnFieldsSpec)

/-- 'laws.FnLogs', WHERE WHAT IT READS IS OF BULK AT MOST 1048576: true; the input reads as it did. -/
def fnLogsUptoRow : OpenClaim := { program := "ytaemcmndfhgpjaagreat", sum := "6bbb8a4995e9d1f3306330bb66ea849d9a8e0ade3fd91b6c65042db058910e83", func := "loop.example/g01000/laws.FnLogs", spec := "fnLogs", unfollowed := true, recurses := true, apart := false, narrowed := true }
def FnLogsUptoSaid : Prop := fnLogsUptoRow.holds Tryz.pinned (OpenSpec.upto fnLogsSpec)

/-- 'laws.FnPrimitive', WHERE WHAT IT READS IS OF BULK AT MOST 1048576: true; the input reads as it did. -/
def fnPrimitiveUptoRow : OpenClaim := { program := "ytaemcmndfhgpjaagreat", sum := "6bbb8a4995e9d1f3306330bb66ea849d9a8e0ade3fd91b6c65042db058910e83", func := "loop.example/g01000/laws.FnPrimitive", spec := "fnPrimitive", unfollowed := true, recurses := true, apart := false, narrowed := true }
def FnPrimitiveUptoSaid : Prop := fnPrimitiveUptoRow.holds Tryz.pinned (OpenSpec.upto fnPrimitiveSpec)

end Rows
end Go.Proofs.YtaemcmndfhgpjaaGreat
