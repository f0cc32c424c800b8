/- The program's ZechLogarithm returns what the reference's returns, for all arguments. No conditions. -/
import Derived.Test.YtaemcmndfhgpjaaGreatPj
namespace Go.Proofs.YtaemcmndfhgpjaaGreat
open Go Go.RowKit Go.Proofs Poly
set_option maxRecDepth 100000
set_option maxHeartbeats 8000000

theorem lawFZechLogarithm (kp : Int) (kl : List Int) (g : List Int) (e : Int) (hz_kl : kl.length ≤ maxLen) (both : kl.length ≤ 1048576 → g.length ≤ 1048576 → ∃ (r0 : Int) (r1 : Int), (∀ g0 g1 : Option Nat, FnV 43 [vK kp g0 kl, .ints g1 g, .int .i64 e] (.tup [.int .i64 r0, .int .i64 r1])) ∧ (∀ g0 g1 : Option Nat, FnV 44 [vK kp g0 kl, .ints g1 g, .int .i64 e] (.tup [.int .i64 r0, .int .i64 r1]))) : FnV 9 [vK kp none kl, .ints none g, .int .i64 e] .tr := by
 refine fn_of (cx_ok [0, 1, 2, 3, 6, 7, 8, 9, 10, 11, 12, 13, 16, 21, 49, 54, 59]) Tryz.func9 rfl (by decide) Tryz.ntmps9 (Nat.le_of_ble_eq_true rfl) fun base => ?_
 refine W.rs (cx_ok _) (by rfl) fun K hK => ?_
 conv => whnf
 refine ⟨rfl, ?_⟩
 conv => whnf
 intro b_p0 hs_p0 hh_p0 hf_p0
 try dsimp only at hh_p0 hf_p0
 conv => whnf
 refine hK _ ?_
 clear hK K
 refine W.seqK fun K1 hK1 => ?_
 refine W.rs (cx_ok _) (by rfl) fun K hK => ?_
 conv => whnf
 refine hK _ (W.cond ⟨fun hl_g => ?_, fun hl_g => ?_⟩) <;> clear hK K
 ·refine W.rs (cx_ok _) (by rfl) fun K hK => ?_
  conv => whnf
  refine hK _ ?_
  clear hK K
  refine W.ret ?_
  conv => whnf
  exact ⟨.v (.tr), rfl, trivial, rfl⟩
 have hl_g : g.length ≤ 1048576 := by have := of_decide_eq_false hl_g; omega
 refine W.skip (hK1 _ ?_)
 clear hK1 K1
 refine W.rs (cx_ok _) (by rfl) fun K hK => ?_
 conv => whnf
 refine hK _ ?_
 clear hK K
 refine W.rs (cx_ok _) (by rfl) fun K hK => ?_
 conv => whnf
 refine callV rfl (szField_fn kp kl hz_kl) fun hs' hhs => ?_
 try dsimp only at hhs
 conv => whnf
 refine hK _ ?_
 clear hK K
 refine W.seqK fun K1 hK1 => ?_
 refine W.rs (cx_ok _) (by rfl) fun K hK => ?_
 conv => whnf
 refine hK _ (W.cond ⟨fun hl_kl => ?_, fun hl_kl => ?_⟩) <;> clear hK K
 ·refine W.rs (cx_ok _) (by rfl) fun K hK => ?_
  conv => whnf
  refine hK _ ?_
  clear hK K
  refine W.ret ?_
  conv => whnf
  exact ⟨.v (.tr), rfl, trivial, rfl⟩
 have hl_kl : kl.length ≤ 1048576 := sz_ok (of_decide_eq_false hl_kl)
 refine W.skip (hK1 _ ?_)
 clear hK1 K1
 obtain ⟨r0, r1, hS, hI⟩ := both hl_kl hl_g
 refine W.rs (cx_ok _) (by rfl) fun K hK => ?_
 conv => whnf
 refine callV rfl (toField_V kp kl (by omega)) fun hs' hhs => ?_
 try dsimp only at hhs
 conv => whnf
 refine callI rfl (toInts_fn none g (by omega)) fun hs_s1 b_s1 hh_s1 hf_s1 => ?_
 try dsimp only at hh_s1 hf_s1
 conv => whnf
 refine callV rfl (hS _ _) fun hs' hhs => ?_
 try dsimp only at hhs
 conv => whnf
 refine hK _ ?_
 clear hK K
 refine W.rs (cx_ok _) (by rfl) fun K hK => ?_
 conv => whnf
 refine callV rfl (toField_V kp kl (by omega)) fun hs' hhs => ?_
 try dsimp only at hhs
 conv => whnf
 intro b_y0 hs_y0 hh_y0 hf_y0
 try dsimp only at hh_y0 hf_y0
 conv => whnf
 refine ⟨⟨(by show 2 ≤ 2; omega), rfl⟩, ?_⟩
 conv => whnf
 refine hK _ ?_
 clear hK K
 refine W.rs (cx_ok _) (by rfl) fun K hK => ?_
 conv => whnf
 refine callI rfl (toInts_fn none g (by omega)) fun hs_x1 b_x1 hh_x1 hf_x1 => ?_
 try dsimp only at hh_x1 hf_x1
 conv => whnf
 refine hK _ ?_
 clear hK K
 refine W.rs (cx_ok _) (by rfl) fun K hK => ?_
 conv => whnf
 refine callV rfl (hI _ _) fun hs' hhs => ?_
 try dsimp only at hhs
 conv => whnf
 refine hK _ ?_
 clear hK K
 refine W.seqK fun K1 hK1 => ?_
 refine W.rs (cx_ok _) (by rfl) fun K hK => ?_
 conv => whnf
 refine ⟨fun hc0 => ?_, fun hc0 => ?_⟩ <;> conv => whnf
 ·exact absurd hc0 (by simp)
 refine hK _ (W.cond ⟨fun hcc => absurd hcc (by simp), fun _ => W.skip (hK1 _ ?_)⟩)
 clear hK K hK1 K1
 refine W.seqK fun K1 hK1 => ?_
 refine W.rd (cx_ok _) follows (by rfl) fun K hK => ?_
 conv => whnf
 refine ⟨_, cxF (toField_V kp kl (by omega)), ?_⟩
 conv => whnf
 refine ⟨_, cxF (eqField_same kp _ _ kl (by omega)), ?_⟩
 conv => whnf
 refine hK _ (W.condF rfl (W.skip (hK1 _ ?_)))
 clear hK K hK1 K1
 refine W.seqK fun K1 hK1 => ?_
 refine W.rs (cx_ok _) (by rfl) fun K hK => ?_
 conv => whnf
 refine callI rfl (toInts_fn none g (by omega)) fun hs_z1 b_z1 hh_z1 hf_z1 => ?_
 try dsimp only at hh_z1 hf_z1
 conv => whnf
 refine callV rfl (eqInts_same _ _ g (by omega)) fun hs' hhs => ?_
 try dsimp only at hhs
 conv => whnf
 refine hK _ (W.condF rfl (W.skip (hK1 _ ?_)))
 clear hK K hK1 K1
 refine W.rs (cx_ok _) (by rfl) fun K hK => ?_
 conv => whnf
 refine hK _ ?_
 clear hK K
 refine W.ret ?_
 conv => whnf
 exact ⟨.v (.tr), rfl, trivial, rfl⟩

theorem lawZechLogarithm (kp : Int) (kl : List Int) (g : List Int) (e : Int) (h_kp : inR kp) (h_e : inR e) (hz_kl : kl.length ≤ maxLen) : FnV 9 [vK kp none kl, .ints none g, .int .i64 e] .tr :=
 lawFZechLogarithm kp kl g e hz_kl (fun hkl hg => ZechLogarithm_both kp kl g e h_kp h_e hkl hg)

open Go Go.RowKit Go.ChangeShapes Go.WideShapes Go.ChangeAt Go.Proofs Go.Proofs.YtaemcmndfhgpjaaGreat

set_option maxRecDepth 100000 in
theorem liftedZechLogarithm (H : Type) (enc : TypeId × Value → H) (os : Os) (started : os.Started) :
  ReturnsInHanded {} Tryz.checked os 9 .any (Rows.fnExactZechLogarithmSpec.pre6 enc Tryz.prog Tryz.f9 Rows.fnExactZechLogarithmRow.domain false) (Rows.fnExactZechLogarithmSpec.post enc Tryz.prog Tryz.f9 false true false false) := by
 refine law_lifted (C := Tryz.checked) (tb := 4) ownP started (by kernel_rfl) Tryz.func9 laidOutP ?_ rfl (by kernel_rfl) Tryz.underlying4 ?_
  (ChangeSpec.witness6 (enc := enc) (C := Tryz.checked) false ⟨#[], #[.agg #[.int .i64 0, .slice none 0 0], .slice none 0 0, .int .i64 0], []⟩ 8 (by kernel_rfl) (by kernel_rfl) (by kernel_rfl) (by kernel_rfl)) ?_
 ·rw [Tryz.params9]
  intro t ht
  simp only [List.mem_cons, List.not_mem_nil, or_false] at ht
  rcases ht with rfl | rfl | rfl <;> exact ⟨by kernel_rfl, of_decide_eq_true (by kernel_rfl)⟩
 ·intro ds hds
  match ds, hds with
  | [d0, d1, d2], _ => exact ⟨rfl, rfl, rfl⟩
 ·intro W args ds ps hval hA
  have hval' : ∀ (j : Nat) t v, Tryz.f9.params[j]? = some t → args[j]? = some v → ∃ base, Value.okWide Tryz.prog W .any base t v := hval
  rw [Tryz.params9] at hA hval'
  obtain ⟨v0, v1, v2, d0, d1, d2, q0, q1, q2, hv, rfl, rfl, h0, h1, h2⟩ := trodAll_three hA
  subst hv
  obtain ⟨_, hv0⟩ := hval' 0 24 v0 rfl rfl
  obtain ⟨cs0, rfl, _⟩ := okWide_struct Tryz.underlying24 hv0
  obtain ⟨xs0, hx0, hr0⟩ := arg_agg readsField h0
  obtain ⟨ys0, zs0, rfl, ⟨n0, rfl, hb0⟩, us0, ws0, rfl, ⟨l0, rfl, hi0, hm0⟩, rfl⟩ := hx0
  obtain ⟨_, hv1⟩ := hval' 1 22 v1 rfl rfl
  obtain ⟨a1, len1, cap1, rfl⟩ := okWide_slice Tryz.underlying22 hv1
  obtain ⟨x1, ⟨l1, hl1, hi1, hm1⟩, hr1⟩ := arg_cell readsInts h1 (by simp)
  cases hl1
  obtain ⟨_, hv2⟩ := hval' 2 2 v2 rfl rfl
  obtain ⟨n2, rfl⟩ := okWide_int Tryz.underlying2 hv2
  obtain ⟨x2, ⟨z2, hz2, hb2⟩, hr2⟩ := arg_cell readsInt h2 (by simp)
  cases hz2
  refine fn_true (lawZechLogarithm n0 l0 l1 z2 hb0 hb2 hm0) rfl fun j hj => ?_
  simp only [List.length_cons, List.length_nil] at hj
  match j, hj with
  | 0, _ => exact hr0
  | 1, _ => exact hr1
  | 2, _ => exact hr2
  | j + 3, hj => omega

theorem joinedZechLogarithma : (Rows.fnExactZechLogarithmRow.inPlace == Tryz.checked.prog.inPlace 9) = true := by kernel_rfl
theorem joinedZechLogarithmb : (Rows.fnExactZechLogarithmRow.unfollowed == Tryz.checked.prog.unfollowed 9) = true := by kernel_rfl
theorem joinedZechLogarithmc : (Rows.fnExactZechLogarithmRow.recurses == Tryz.checked.prog.recurses 9) = true := by kernel_rfl
theorem joinedZechLogarithmd : (Rows.fnExactZechLogarithmRow.named == Tryz.checked.prog.varsNamed 9) = true := by kernel_rfl
theorem joinedZechLogarithm : joinedFacts Tryz.checked.prog 9 Tryz.f9 Rows.fnExactZechLogarithmSpec Rows.fnExactZechLogarithmRow = true := by
 unfold joinedFacts
 rw [enterP, liftP, makeP, joinedZechLogarithma, joinedZechLogarithmb, joinedZechLogarithmc, joinedZechLogarithmd]
 kernel_rfl
theorem instZechLogarithm : Tryz.f9.isInstance Tryz.checked.prog Rows.fnExactZechLogarithmRow.origin Rows.fnExactZechLogarithmRow.targs := of_decide_eq_true (by kernel_rfl)

theorem claimZechLogarithm : Rows.FnExactZechLogarithmSaid :=
 OpenClaim.holds_of_wide (p := Tryz.pinned) (s := Rows.fnExactZechLogarithmSpec) (c := Rows.fnExactZechLogarithmRow) 9 Tryz.f9 rfl rfl rfl rfl rfl rfl rfl ⟨rfl, rfl, rfl, rfl, rfl⟩ rfl rfl rfl rfl rfl (by kernel_rfl) Tryz.func9 joinedZechLogarithm
  instZechLogarithm (by unfold Func.isWrapper; first | (rw [if_pos (by decide +kernel)]; kernel_rfl) | (rw [if_neg (by decide +kernel)]; exact ⟨rfl, rfl⟩))
  (fun os started H enc _ => liftedZechLogarithm H enc os started)

end Go.Proofs.YtaemcmndfhgpjaaGreat
