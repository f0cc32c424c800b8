/- The program's IsExtension returns what the reference's returns, for all arguments. No conditions. -/
import Derived.Test.YtaiahdeegchobabGreatPh
namespace Go.Proofs.YtaiahdeegchobabGreat
open Go Go.RowKit Go.Proofs Poly
set_option maxRecDepth 100000
set_option maxHeartbeats 8000000

theorem lawFIsExtension (ep eq : Int) (el : List Int) (hz_el : el.length ≤ maxLen) (both : el.length ≤ 1048576 → ∃ (r0 : Bool), (∀ g0 : Option Nat, FnV 18 [vE ep eq g0 el] (.bool r0)) ∧ (∀ g0 : Option Nat, FnV 20 [vE ep eq g0 el] (.bool r0))) : FnV 5 [vE ep eq none el] .tr := by
  refine fn_of (cx_ok [0, 1, 2, 3, 4, 5, 6, 11, 21, 26]) Tryz.func5 rfl (by decide) Tryz.ntmps5 (Nat.le_of_ble_eq_true rfl) fun base => ?_
  refine W.rs (cx_ok _) (by rfl) fun K hK => ?_
  conv => whnf
  refine ⟨rfl, ?_⟩
  conv => whnf
  intro b_p0 hs_p0 hh_p0 hf_p0
  try dsimp only at hh_p0 hf_p0
  conv => whnf
  refine hK _ ?_
  clear hK K
  refine W.rs (cx_ok _) (by rfl) fun K hK => ?_
  conv => whnf
  refine hK _ ?_
  clear hK K
  refine W.rs (cx_ok _) (by rfl) fun K hK => ?_
  conv => whnf
  refine callV rfl (szExtension_fn ep eq el hz_el) fun hs' hhs => ?_
  try dsimp only at hhs
  conv => whnf
  refine hK _ ?_
  clear hK K
  refine W.seqK fun K1 hK1 => ?_
  refine W.rs (cx_ok _) (by rfl) fun K hK => ?_
  conv => whnf
  refine hK _ (W.cond ⟨fun hl_el => ?_, fun hl_el => ?_⟩) <;> clear hK K
  · refine W.rs (cx_ok _) (by rfl) fun K hK => ?_
    conv => whnf
    refine hK _ ?_
    clear hK K
    refine W.ret ?_
    conv => whnf
    exact ⟨.v (.tr), rfl, trivial, rfl⟩
  have hl_el : el.length ≤ 1048576 := sz_ok (of_decide_eq_false hl_el)
  refine W.skip (hK1 _ ?_)
  clear hK1 K1
  obtain ⟨r0, hS, hI⟩ := both hl_el
  refine W.rs (cx_ok _) (by rfl) fun K hK => ?_
  conv => whnf
  refine callV rfl (toExtension_V ep eq el (by omega)) fun hs' hhs => ?_
  try dsimp only at hhs
  conv => whnf
  refine callV rfl (hS _) fun hs' hhs => ?_
  try dsimp only at hhs
  conv => whnf
  refine hK _ ?_
  clear hK K
  refine W.rs (cx_ok _) (by rfl) fun K hK => ?_
  conv => whnf
  refine callV rfl (toExtension_V ep eq el (by omega)) fun hs' hhs => ?_
  try dsimp only at hhs
  conv => whnf
  intro b_y0 hs_y0 hh_y0 hf_y0
  try dsimp only at hh_y0 hf_y0
  conv => whnf
  refine ⟨⟨(by show 3 ≤ 3; omega), rfl⟩, ?_⟩
  conv => whnf
  refine hK _ ?_
  clear hK K
  refine W.rs (cx_ok _) (by rfl) fun K hK => ?_
  conv => whnf
  refine callV rfl (hI _) fun hs' hhs => ?_
  try dsimp only at hhs
  conv => whnf
  refine hK _ ?_
  clear hK K
  refine W.seqK fun K1 hK1 => ?_
  refine W.rs (cx_ok _) (by rfl) fun K hK => ?_
  conv => whnf
  refine hK _ (W.cond ⟨fun hcc => absurd hcc (by simp), fun _ => W.skip (hK1 _ ?_)⟩)
  clear hK K hK1 K1
  refine W.seqK fun K1 hK1 => ?_
  refine W.rd (cx_ok _) follows (by rfl) fun K hK => ?_
  conv => whnf
  refine ⟨_, cxF (toExtension_V ep eq el (by omega)), ?_⟩
  conv => whnf
  refine ⟨_, cxF (eqExtension_same ep eq _ _ el (by omega)), ?_⟩
  conv => whnf
  refine hK _ (W.condF rfl (W.skip (hK1 _ ?_)))
  clear hK K hK1 K1
  refine W.rs (cx_ok _) (by rfl) fun K hK => ?_
  conv => whnf
  refine hK _ ?_
  clear hK K
  refine W.ret ?_
  conv => whnf
  exact ⟨.v (.tr), rfl, trivial, rfl⟩

theorem lawIsExtension (ep eq : Int) (el : List Int) (h_ep : inR ep) (h_eq : inR eq) (hz_el : el.length ≤ maxLen) : FnV 5 [vE ep eq none el] .tr :=
  lawFIsExtension ep eq el hz_el (fun hel => IsExtension_both ep eq el h_ep h_eq hel)

end Go.Proofs.YtaiahdeegchobabGreat

namespace Go.Proofs.YtaiahdeegchobabGreat
open Go Go.RowKit Go.ChangeShapes Go.WideShapes Go.ChangeAt Go.Proofs Go.Proofs.YtaiahdeegchobabGreat

set_option maxRecDepth 100000 in
theorem liftedIsExtension (H : Type) (enc : TypeId × Value → H) (os : Os) (started : os.Started) :
    ReturnsInHanded {} Tryz.checked os 5 .any (Rows.fnExactIsExtensionSpec.pre6 enc Tryz.prog Tryz.f5 Rows.fnExactIsExtensionRow.domain false) (Rows.fnExactIsExtensionSpec.post enc Tryz.prog Tryz.f5 false true false false) := by
  refine law_lifted (C := Tryz.checked) (tb := 4) ownP started (by kernel_rfl) Tryz.func5 laidOutP ?_ rfl (by kernel_rfl) Tryz.underlying4 ?_
    (ChangeSpec.witness6 (enc := enc) (C := Tryz.checked) false ⟨#[], #[.agg #[.int .i64 0, .int .i64 0, .slice none 0 0]], []⟩ 8 (by kernel_rfl) (by kernel_rfl) (by kernel_rfl) (by kernel_rfl)) ?_
  · rw [Tryz.params5]
    intro t ht
    simp only [List.mem_singleton] at ht
    subst ht
    exact ⟨by kernel_rfl, of_decide_eq_true (by kernel_rfl)⟩
  · intro ds hds
    match ds, hds with
    | [d0], _ => exact ⟨rfl, rfl, rfl⟩
  · intro W args ds ps hval hA
    have hval' : ∀ (j : Nat) t v, Tryz.f5.params[j]? = some t → args[j]? = some v → ∃ base, Value.okWide Tryz.prog W .any base t v := hval
    rw [Tryz.params5] at hA hval'
    obtain ⟨v0, d0, hv, rfl, h0⟩ := trodAll_one hA
    subst hv
    obtain ⟨_, hv0⟩ := hval' 0 39 v0 rfl rfl
    obtain ⟨cs0, rfl, _⟩ := okWide_struct Tryz.underlying39 hv0
    obtain ⟨xs0, hx0, hr0⟩ := arg_agg readsExtension h0
    obtain ⟨ys0, zs0, rfl, ⟨y10, z10, rfl, ⟨n0, rfl, hb0⟩, y20, z20, rfl, ⟨m0, rfl, hc0⟩, rfl⟩, us0, ws0, rfl, ⟨l0, rfl, hi0, hm0⟩, rfl⟩ := hx0
    refine fn_true (lawIsExtension n0 m0 l0 hb0 hc0 hm0) rfl fun j hj => ?_
    obtain rfl : j = 0 := by simpa using hj
    exact hr0

theorem claimIsExtension : Rows.FnExactIsExtensionSaid :=
  OpenClaim.holds_of_wide (p := Tryz.pinned) (s := Rows.fnExactIsExtensionSpec) (c := Rows.fnExactIsExtensionRow) 5 Tryz.f5 rfl rfl rfl rfl rfl rfl rfl ⟨rfl, rfl, rfl, rfl, rfl⟩ rfl rfl rfl rfl rfl (by kernel_rfl) Tryz.func5 (by kernel_rfl)
    (of_decide_eq_true (by kernel_rfl)) (by unfold Func.isWrapper; first | (rw [if_pos (by decide +kernel)]; kernel_rfl) | (rw [if_neg (by decide +kernel)]; exact ⟨rfl, rfl⟩))
    (fun os started H enc _ => liftedIsExtension H enc os started)

end Go.Proofs.YtaiahdeegchobabGreat
