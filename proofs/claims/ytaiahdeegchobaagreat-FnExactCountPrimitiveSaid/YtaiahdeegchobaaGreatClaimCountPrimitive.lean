/- The program's CountPrimitive returns what the reference's returns, for all arguments. No conditions. -/
import Derived.Test.YtaiahdeegchobaaGreatPj
namespace Go.Proofs.YtaiahdeegchobaaGreat
open Go Go.RowKit Go.Proofs Poly
set_option maxRecDepth 100000
set_option maxHeartbeats 8000000

theorem lawFCountPrimitive (kp : Int) (kl : List Int) (hz_kl : kl.length ≤ maxLen) (both : kl.length ≤ 1048576 → ∃ (r0 : Int) (r1 : Int), (∀ g0 : Option Nat, FnV 14 [vK kp g0 kl] (.tup [.int .i64 r0, .int .i64 r1])) ∧ (∀ g0 : Option Nat, FnV 16 [vK kp g0 kl] (.tup [.int .i64 r0, .int .i64 r1]))) : FnV 3 [vK kp none kl] .tr := by
  refine fn_of (cx_ok [0, 1, 2, 3, 4, 5, 6, 7, 8, 13, 34, 39]) Tryz.func3 rfl (by decide) Tryz.ntmps3 (Nat.le_of_ble_eq_true rfl) fun base => ?_
  refine W.rs (cx_ok _) (by rfl) fun K hK => ?_
  conv => whnf
  refine ⟨rfl, ?_⟩
  conv => whnf
  intro b_p0 hs_p0 hh_p0 hf_p0
  try dsimp only at hh_p0 hf_p0
  conv => whnf
  refine hK _ ?_
  clear hK K
  refine W.rs (cx_ok _) (by rfl) fun K hK => ?_
  conv => whnf
  refine hK _ ?_
  clear hK K
  refine W.rs (cx_ok _) (by rfl) fun K hK => ?_
  conv => whnf
  refine callV rfl (szField_fn kp kl hz_kl) fun hs' hhs => ?_
  try dsimp only at hhs
  conv => whnf
  refine hK _ ?_
  clear hK K
  refine W.seqK fun K1 hK1 => ?_
  refine W.rs (cx_ok _) (by rfl) fun K hK => ?_
  conv => whnf
  refine hK _ (W.cond ⟨fun hl_kl => ?_, fun hl_kl => ?_⟩) <;> clear hK K
  · refine W.rs (cx_ok _) (by rfl) fun K hK => ?_
    conv => whnf
    refine hK _ ?_
    clear hK K
    refine W.ret ?_
    conv => whnf
    exact ⟨.v (.tr), rfl, trivial, rfl⟩
  have hl_kl : kl.length ≤ 1048576 := sz_ok (of_decide_eq_false hl_kl)
  refine W.skip (hK1 _ ?_)
  clear hK1 K1
  obtain ⟨r0, r1, hS, hI⟩ := both hl_kl
  refine W.rs (cx_ok _) (by rfl) fun K hK => ?_
  conv => whnf
  refine callV rfl (toField_V kp kl (by omega)) fun hs' hhs => ?_
  try dsimp only at hhs
  conv => whnf
  refine callV rfl (hS _) fun hs' hhs => ?_
  try dsimp only at hhs
  conv => whnf
  refine hK _ ?_
  clear hK K
  refine W.rs (cx_ok _) (by rfl) fun K hK => ?_
  conv => whnf
  refine callV rfl (toField_V kp kl (by omega)) fun hs' hhs => ?_
  try dsimp only at hhs
  conv => whnf
  intro b_y0 hs_y0 hh_y0 hf_y0
  try dsimp only at hh_y0 hf_y0
  conv => whnf
  refine ⟨⟨(by show 2 ≤ 2; omega), rfl⟩, ?_⟩
  conv => whnf
  refine hK _ ?_
  clear hK K
  refine W.rs (cx_ok _) (by rfl) fun K hK => ?_
  conv => whnf
  refine callV rfl (hI _) fun hs' hhs => ?_
  try dsimp only at hhs
  conv => whnf
  refine hK _ ?_
  clear hK K
  refine W.seqK fun K1 hK1 => ?_
  refine W.rs (cx_ok _) (by rfl) fun K hK => ?_
  conv => whnf
  refine ⟨fun hc0 => ?_, fun hc0 => ?_⟩ <;> conv => whnf
  · exact absurd hc0 (by simp)
  refine hK _ (W.cond ⟨fun hcc => absurd hcc (by simp), fun _ => W.skip (hK1 _ ?_)⟩)
  clear hK K hK1 K1
  refine W.seqK fun K1 hK1 => ?_
  refine W.rd (cx_ok _) follows (by rfl) fun K hK => ?_
  conv => whnf
  refine ⟨_, cxF (toField_V kp kl (by omega)), ?_⟩
  conv => whnf
  refine ⟨_, cxF (eqField_same kp _ _ kl (by omega)), ?_⟩
  conv => whnf
  refine hK _ (W.condF rfl (W.skip (hK1 _ ?_)))
  clear hK K hK1 K1
  refine W.rs (cx_ok _) (by rfl) fun K hK => ?_
  conv => whnf
  refine hK _ ?_
  clear hK K
  refine W.ret ?_
  conv => whnf
  exact ⟨.v (.tr), rfl, trivial, rfl⟩

theorem lawCountPrimitive (kp : Int) (kl : List Int) (h_kp : inR kp) (hz_kl : kl.length ≤ maxLen) : FnV 3 [vK kp none kl] .tr :=
  lawFCountPrimitive kp kl hz_kl (fun hkl => CountPrimitive_both kp kl h_kp hkl)

end Go.Proofs.YtaiahdeegchobaaGreat

namespace Go.Proofs.YtaiahdeegchobaaGreat
open Go Go.RowKit Go.ChangeShapes Go.WideShapes Go.ChangeAt Go.Proofs Go.Proofs.YtaiahdeegchobaaGreat

set_option maxRecDepth 100000 in
theorem liftedCountPrimitive (H : Type) (enc : TypeId × Value → H) (os : Os) (started : os.Started) :
    ReturnsInHanded {} Tryz.checked os 3 .any (Rows.fnExactCountPrimitiveSpec.pre6 enc Tryz.prog Tryz.f3 Rows.fnExactCountPrimitiveRow.domain false) (Rows.fnExactCountPrimitiveSpec.post enc Tryz.prog Tryz.f3 false true false false) := by
  refine law_lifted (C := Tryz.checked) (tb := 4) ownP started (by kernel_rfl) Tryz.func3 laidOutP ?_ rfl (by kernel_rfl) Tryz.underlying4 ?_
    (ChangeSpec.witness6 (enc := enc) (C := Tryz.checked) false ⟨#[], #[.agg #[.int .i64 0, .slice none 0 0]], []⟩ 8 (by kernel_rfl) (by kernel_rfl) (by kernel_rfl) (by kernel_rfl)) ?_
  · rw [Tryz.params3]
    intro t ht
    simp only [List.mem_singleton] at ht
    subst ht
    exact ⟨by kernel_rfl, of_decide_eq_true (by kernel_rfl)⟩
  · intro ds hds
    match ds, hds with
    | [d0], _ => exact ⟨rfl, rfl, rfl⟩
  · intro W args ds ps hval hA
    have hval' : ∀ (j : Nat) t v, Tryz.f3.params[j]? = some t → args[j]? = some v → ∃ base, Value.okWide Tryz.prog W .any base t v := hval
    rw [Tryz.params3] at hA hval'
    obtain ⟨v0, d0, hv, rfl, h0⟩ := trodAll_one hA
    subst hv
    obtain ⟨_, hv0⟩ := hval' 0 24 v0 rfl rfl
    obtain ⟨cs0, rfl, _⟩ := okWide_struct Tryz.underlying24 hv0
    obtain ⟨xs0, hx0, hr0⟩ := arg_agg readsField h0
    obtain ⟨ys0, zs0, rfl, ⟨n0, rfl, hb0⟩, us0, ws0, rfl, ⟨l0, rfl, hi0, hm0⟩, rfl⟩ := hx0
    refine fn_true (lawCountPrimitive n0 l0 hb0 hm0) rfl fun j hj => ?_
    obtain rfl : j = 0 := by simpa using hj
    exact hr0

theorem claimCountPrimitive : Rows.FnExactCountPrimitiveSaid :=
  OpenClaim.holds_of_wide (p := Tryz.pinned) (s := Rows.fnExactCountPrimitiveSpec) (c := Rows.fnExactCountPrimitiveRow) 3 Tryz.f3 rfl rfl rfl rfl rfl rfl rfl ⟨rfl, rfl, rfl, rfl, rfl⟩ rfl rfl rfl rfl rfl (by kernel_rfl) Tryz.func3 (by kernel_rfl)
    (of_decide_eq_true (by kernel_rfl)) (by unfold Func.isWrapper; first | (rw [if_pos (by decide +kernel)]; kernel_rfl) | (rw [if_neg (by decide +kernel)]; exact ⟨rfl, rfl⟩))
    (fun os started H enc _ => liftedCountPrimitive H enc os started)

end Go.Proofs.YtaiahdeegchobaaGreat
