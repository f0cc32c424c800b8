/- The program's IrreducibleBy returns what the reference's returns, for all arguments. No conditions. -/
import Derived.Test.YthnnpciehaopfaaPg
namespace Go.Proofs.Ythnnpciehaopfaa
open Go Go.RowKit Go.ChangeShapes Go.WideShapes Go.ChangeAt Go.Proofs Go.Proofs.Ythnnpciehaopfaa

set_option maxRecDepth 100000 in
theorem liftedBy (H : Type) (enc : TypeId × Value → H) (os : Os) (started : os.Started) :
    ReturnsInHanded {} Try.checked os 4 .any (Rows.fnExactIrreducibleBySpec.pre6 enc Try.prog Try.f4 Rows.fnExactIrreducibleByRow.domain false) (Rows.fnExactIrreducibleBySpec.post enc Try.prog Try.f4 false true false false) := by
  refine law_lifted (C := Try.checked) (tb := 4) ownP started (by kernel_rfl) Try.func4 laidOutP ?_ rfl (by kernel_rfl) Try.underlying4 ?_
    (ChangeSpec.witness6 (enc := enc) (C := Try.checked) false ⟨#[], #[.slice none 0 0], []⟩ 8 (by kernel_rfl) (by kernel_rfl) (by kernel_rfl) (by kernel_rfl)) ?_
  · rw [Try.params4]
    intro t ht
    simp only [List.mem_singleton] at ht
    subst ht
    exact ⟨by kernel_rfl, of_decide_eq_true (by kernel_rfl)⟩
  · intro ds hds
    match ds, hds with
    | [d], _ => exact ⟨rfl, rfl, rfl⟩
  · intro W args ds ps hval hA
    have hval' : ∀ (j : Nat) t v, Try.f4.params[j]? = some t → args[j]? = some v → ∃ base, Value.okWide Try.prog W .any base t v := hval
    rw [Try.params4] at hA hval'
    obtain ⟨v0, d0, hv, rfl, h0⟩ := trodAll_one hA
    subst hv
    obtain ⟨_, hv0⟩ := hval' 0 22 v0 rfl rfl
    obtain ⟨a, len, cap, rfl⟩ := okWide_slice Try.underlying22 hv0
    obtain ⟨x, ⟨l, hl, h1, h2⟩, hr⟩ := arg_cell (reads_ints Try.underlying22 Try.underlying2 cellsInt) h0 (by simp)
    cases hl
    refine fn_true (lawIrreducibleBy l) rfl fun j hj => ?_
    obtain rfl : j = 0 := by simpa using hj
    exact hr

theorem claimIrreducibleBy : Rows.FnExactIrreducibleBySaid :=
  OpenClaim.holds_of_wide (p := Try.pinned) (s := Rows.fnExactIrreducibleBySpec) (c := Rows.fnExactIrreducibleByRow) 4 Try.f4 rfl rfl rfl rfl rfl rfl rfl ⟨rfl, rfl, rfl, rfl, rfl⟩ rfl rfl rfl rfl rfl (by kernel_rfl) Try.func4 (by kernel_rfl)
    (of_decide_eq_true (by kernel_rfl)) (by unfold Func.isWrapper; first | (rw [if_pos (by decide +kernel)]; kernel_rfl) | (rw [if_neg (by decide +kernel)]; exact ⟨rfl, rfl⟩))
    (fun os started H enc _ => liftedBy H enc os started)

end Go.Proofs.Ythnnpciehaopfaa
