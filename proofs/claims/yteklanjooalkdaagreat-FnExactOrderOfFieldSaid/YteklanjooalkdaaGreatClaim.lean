/- The program's OrderOfField returns what the reference's returns, for all arguments. No conditions. -/
import Derived.Test.YteklanjooalkdaaGreatPi
namespace Go.Proofs.YteklanjooalkdaaGreat
open Go Go.RowKit Go.ChangeShapes Go.WideShapes Go.ChangeAt Go.Proofs Go.Proofs.YteklanjooalkdaaGreat

set_option maxRecDepth 100000 in
theorem liftedOrderOfField (H : Type) (enc : TypeId × Value → H) (os : Os) (started : os.Started) :
    ReturnsInHanded {} Tryz.checked os 3 .any (Rows.fnExactOrderOfFieldSpec.pre6 enc Tryz.prog Tryz.f3 Rows.fnExactOrderOfFieldRow.domain false) (Rows.fnExactOrderOfFieldSpec.post enc Tryz.prog Tryz.f3 false true false false) := by
  refine law_lifted (C := Tryz.checked) (tb := 4) ownP started (by kernel_rfl) Tryz.func3 laidOutP ?_ rfl (by kernel_rfl) Tryz.underlying4 ?_
    (ChangeSpec.witness6 (enc := enc) (C := Tryz.checked) false ⟨#[], #[.agg #[.int .i64 0, .slice none 0 0]], []⟩ 8 (by kernel_rfl) (by kernel_rfl) (by kernel_rfl) (by kernel_rfl)) ?_
  · rw [Tryz.params3]
    intro t ht
    simp only [List.mem_singleton] at ht
    subst ht
    exact ⟨by kernel_rfl, of_decide_eq_true (by kernel_rfl)⟩
  · intro ds hds
    match ds, hds with
    | [d0], _ => exact ⟨rfl, rfl, rfl⟩
  · intro W args ds ps hval hA
    have hval' : ∀ (j : Nat) t v, Tryz.f3.params[j]? = some t → args[j]? = some v → ∃ base, Value.okWide Tryz.prog W .any base t v := hval
    rw [Tryz.params3] at hA hval'
    obtain ⟨v0, d0, hv, rfl, h0⟩ := trodAll_one hA
    subst hv
    obtain ⟨_, hv0⟩ := hval' 0 24 v0 rfl rfl
    obtain ⟨cs0, rfl, _⟩ := okWide_struct Tryz.underlying24 hv0
    obtain ⟨xs0, hx0, hr0⟩ := arg_agg readsField h0
    obtain ⟨ys0, zs0, rfl, ⟨n0, rfl, hb0⟩, us0, ws0, rfl, ⟨l0, rfl, hi0, hm0⟩, rfl⟩ := hx0
    refine fn_true (lawOrderOfField n0 l0 hb0 hm0) rfl fun j hj => ?_
    obtain rfl : j = 0 := by simpa using hj
    exact hr0

theorem claimOrderOfField : Rows.FnExactOrderOfFieldSaid :=
  OpenClaim.holds_of_wide (p := Tryz.pinned) (s := Rows.fnExactOrderOfFieldSpec) (c := Rows.fnExactOrderOfFieldRow) 3 Tryz.f3 rfl rfl rfl rfl rfl rfl rfl ⟨rfl, rfl, rfl, rfl, rfl⟩ rfl rfl rfl rfl rfl (by kernel_rfl) Tryz.func3 (by kernel_rfl)
    (of_decide_eq_true (by kernel_rfl)) (by unfold Func.isWrapper; first | (rw [if_pos (by decide +kernel)]; kernel_rfl) | (rw [if_neg (by decide +kernel)]; exact ⟨rfl, rfl⟩))
    (fun os started H enc _ => liftedOrderOfField H enc os started)

end Go.Proofs.YteklanjooalkdaaGreat
