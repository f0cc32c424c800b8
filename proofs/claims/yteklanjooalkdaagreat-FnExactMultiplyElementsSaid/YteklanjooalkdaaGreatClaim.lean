/- The program's MultiplyElements returns what the reference's returns, for all arguments. No conditions. -/
import Derived.Test.YteklanjooalkdaaGreatPi
namespace Go.Proofs.YteklanjooalkdaaGreat
open Go Go.RowKit Go.ChangeShapes Go.WideShapes Go.ChangeAt Go.Proofs Go.Proofs.YteklanjooalkdaaGreat

set_option maxRecDepth 100000 in
theorem liftedMultiplyElements (H : Type) (enc : TypeId × Value → H) (os : Os) (started : os.Started) :
    ReturnsInHanded {} Tryz.checked os 5 .any (Rows.fnExactMultiplyElementsSpec.pre6 enc Tryz.prog Tryz.f5 Rows.fnExactMultiplyElementsRow.domain false) (Rows.fnExactMultiplyElementsSpec.post enc Tryz.prog Tryz.f5 false true false false) := by
  refine law_lifted (C := Tryz.checked) (tb := 4) ownP started (by kernel_rfl) Tryz.func5 laidOutP ?_ rfl (by kernel_rfl) Tryz.underlying4 ?_
    (ChangeSpec.witness6 (enc := enc) (C := Tryz.checked) false ⟨#[], #[.agg #[.int .i64 0, .slice none 0 0], .slice none 0 0, .slice none 0 0], []⟩ 8 (by kernel_rfl) (by kernel_rfl) (by kernel_rfl) (by kernel_rfl)) ?_
  · rw [Tryz.params5]
    intro t ht
    simp only [List.mem_cons, List.not_mem_nil, or_false] at ht
    rcases ht with rfl | rfl | rfl <;> exact ⟨by kernel_rfl, of_decide_eq_true (by kernel_rfl)⟩
  · intro ds hds
    match ds, hds with
    | [d0, d1, d2], _ => exact ⟨rfl, rfl, rfl⟩
  · intro W args ds ps hval hA
    have hval' : ∀ (j : Nat) t v, Tryz.f5.params[j]? = some t → args[j]? = some v → ∃ base, Value.okWide Tryz.prog W .any base t v := hval
    rw [Tryz.params5] at hA hval'
    obtain ⟨v0, v1, v2, d0, d1, d2, q0, q1, q2, hv, rfl, rfl, h0, h1, h2⟩ := trodAll_three hA
    subst hv
    obtain ⟨_, hv0⟩ := hval' 0 24 v0 rfl rfl
    obtain ⟨cs0, rfl, _⟩ := okWide_struct Tryz.underlying24 hv0
    obtain ⟨xs0, hx0, hr0⟩ := arg_agg readsField h0
    obtain ⟨ys0, zs0, rfl, ⟨n0, rfl, hb0⟩, us0, ws0, rfl, ⟨l0, rfl, hi0, hm0⟩, rfl⟩ := hx0
    obtain ⟨_, hv1⟩ := hval' 1 22 v1 rfl rfl
    obtain ⟨a1, len1, cap1, rfl⟩ := okWide_slice Tryz.underlying22 hv1
    obtain ⟨x1, ⟨l1, hl1, hi1, hm1⟩, hr1⟩ := arg_cell readsInts h1 (by simp)
    cases hl1
    obtain ⟨_, hv2⟩ := hval' 2 22 v2 rfl rfl
    obtain ⟨a2, len2, cap2, rfl⟩ := okWide_slice Tryz.underlying22 hv2
    obtain ⟨x2, ⟨l2, hl2, hi2, hm2⟩, hr2⟩ := arg_cell readsInts h2 (by simp)
    cases hl2
    refine fn_true (lawMultiplyElements n0 l0 l1 l2 hb0 hm0) rfl fun j hj => ?_
    simp only [List.length_cons, List.length_nil] at hj
    match j, hj with
    | 0, _ => exact hr0
    | 1, _ => exact hr1
    | 2, _ => exact hr2
    | j + 3, hj => omega

theorem claimMultiplyElements : Rows.FnExactMultiplyElementsSaid :=
  OpenClaim.holds_of_wide (p := Tryz.pinned) (s := Rows.fnExactMultiplyElementsSpec) (c := Rows.fnExactMultiplyElementsRow) 5 Tryz.f5 rfl rfl rfl rfl rfl rfl rfl ⟨rfl, rfl, rfl, rfl, rfl⟩ rfl rfl rfl rfl rfl (by kernel_rfl) Tryz.func5 (by kernel_rfl)
    (of_decide_eq_true (by kernel_rfl)) (by unfold Func.isWrapper; first | (rw [if_pos (by decide +kernel)]; kernel_rfl) | (rw [if_neg (by decide +kernel)]; exact ⟨rfl, rfl⟩))
    (fun os started H enc _ => liftedMultiplyElements H enc os started)

end Go.Proofs.YteklanjooalkdaaGreat
