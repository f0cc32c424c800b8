/- The program's MakeField returns what the reference's returns, for all arguments. No conditions. -/
import Derived.Test.YtaiahdeegchobaaPi
namespace Go.Proofs.Ytaiahdeegchobaa
open Go Go.RowKit Go.ChangeShapes Go.WideShapes Go.ChangeAt Go.Proofs Go.Proofs.Ytaiahdeegchobaa

set_option maxRecDepth 100000 in
theorem liftedMakeField (H : Type) (enc : TypeId × Value → H) (os : Os) (started : os.Started) :
    ReturnsInHanded {} Try.checked os 5 .any (Rows.fnExactMakeFieldSpec.pre6 enc Try.prog Try.f5 Rows.fnExactMakeFieldRow.domain false) (Rows.fnExactMakeFieldSpec.post enc Try.prog Try.f5 false true false false) := by
  refine law_lifted (C := Try.checked) (tb := 4) ownP started (by kernel_rfl) Try.func5 laidOutP ?_ rfl (by kernel_rfl) Try.underlying4 ?_
    (ChangeSpec.witness6 (enc := enc) (C := Try.checked) false ⟨#[], #[.int .i64 0, .int .i64 0], []⟩ 8 (by kernel_rfl) (by kernel_rfl) (by kernel_rfl) (by kernel_rfl)) ?_
  · rw [Try.params5]
    intro t ht
    simp only [List.mem_cons, List.not_mem_nil, or_false] at ht
    rcases ht with rfl | rfl <;> exact ⟨by kernel_rfl, of_decide_eq_true (by kernel_rfl)⟩
  · intro ds hds
    match ds, hds with
    | [d0, d1], _ => exact ⟨rfl, rfl, rfl⟩
  · intro W args ds ps hval hA
    have hval' : ∀ (j : Nat) t v, Try.f5.params[j]? = some t → args[j]? = some v → ∃ base, Value.okWide Try.prog W .any base t v := hval
    rw [Try.params5] at hA hval'
    obtain ⟨v0, v1, d0, d1, q0, q1, hv, rfl, rfl, h0, h1⟩ := trodAll_two hA
    subst hv
    obtain ⟨_, hv0⟩ := hval' 0 2 v0 rfl rfl
    obtain ⟨n0, rfl⟩ := okWide_int Try.underlying2 hv0
    obtain ⟨x0, ⟨z0, hz0, hb0⟩, hr0⟩ := arg_cell readsInt h0 (by simp)
    cases hz0
    obtain ⟨_, hv1⟩ := hval' 1 2 v1 rfl rfl
    obtain ⟨n1, rfl⟩ := okWide_int Try.underlying2 hv1
    obtain ⟨x1, ⟨z1, hz1, hb1⟩, hr1⟩ := arg_cell readsInt h1 (by simp)
    cases hz1
    refine fn_true (lawMakeField z0 z1 hb0 hb1) rfl fun j hj => ?_
    simp only [List.length_cons, List.length_nil] at hj
    match j, hj with
    | 0, _ => exact hr0
    | 1, _ => exact hr1
    | j + 2, hj => omega

theorem claimMakeField : Rows.FnExactMakeFieldSaid :=
  OpenClaim.holds_of_wide (p := Try.pinned) (s := Rows.fnExactMakeFieldSpec) (c := Rows.fnExactMakeFieldRow) 5 Try.f5 rfl rfl rfl rfl rfl rfl rfl ⟨rfl, rfl, rfl, rfl, rfl⟩ rfl rfl rfl rfl rfl (by kernel_rfl) Try.func5 (by kernel_rfl)
    (of_decide_eq_true (by kernel_rfl)) (by unfold Func.isWrapper; first | (rw [if_pos (by decide +kernel)]; kernel_rfl) | (rw [if_neg (by decide +kernel)]; exact ⟨rfl, rfl⟩))
    (fun os started H enc _ => liftedMakeField H enc os started)

end Go.Proofs.Ytaiahdeegchobaa
