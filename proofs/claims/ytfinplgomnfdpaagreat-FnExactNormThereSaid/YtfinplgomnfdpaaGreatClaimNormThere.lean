/- The program's NormThere returns what the reference's returns, for all arguments. No conditions. -/
import Derived.Test.YtfinplgomnfdpaaGreatPj
namespace Go.Proofs.YtfinplgomnfdpaaGreat
open Go Go.RowKit Go.Proofs Poly
set_option maxRecDepth 100000
set_option maxHeartbeats 8000000

theorem lawFNormThere (ep eq : Int) (el : List Int) (x : List Int) (hz_el : el.length ≤ maxLen) (both : el.length ≤ 1048576 → x.length ≤ 1048576 → ∃ (r0 : Int) (r1 : Int), (FnV 57 [vE ep eq none el, .ints none x] (.tup [.int .i64 r0, .int .i64 r1])) ∧ (∀ g0 g1 : Option Nat, FnV 58 [vE ep eq g0 el, .ints g1 x] (.tup [.int .i64 r0, .int .i64 r1]))) : FnV 15 [vE ep eq none el, .ints none x] .tr := by
 refine fn_of (cx_ok [0, 1, 2, 4, 5, 6, 7, 8, 9, 10, 11, 14, 19, 45, 50, 55]) Tryz.func15 rfl (by decide) Tryz.ntmps15 (Nat.le_of_ble_eq_true rfl) fun base => ?_
 refine W.rs (cx_ok _) (by rfl) fun K hK => ?_
 conv => whnf
 refine ⟨rfl, ?_⟩
 conv => whnf
 intro b_p0 hs_p0 hh_p0 hf_p0
 try dsimp only at hh_p0 hf_p0
 conv => whnf
 refine hK _ ?_
 clear hK K
 refine W.seqK fun K1 hK1 => ?_
 refine W.rs (cx_ok _) (by rfl) fun K hK => ?_
 conv => whnf
 refine hK _ (W.cond ⟨fun hl_x => ?_, fun hl_x => ?_⟩) <;> clear hK K
 ·refine W.rs (cx_ok _) (by rfl) fun K hK => ?_
  conv => whnf
  refine hK _ ?_
  clear hK K
  refine W.ret ?_
  conv => whnf
  exact ⟨.v (.tr), rfl, trivial, rfl⟩
 have hl_x : x.length ≤ 1048576 := by have := of_decide_eq_false hl_x; omega
 refine W.skip (hK1 _ ?_)
 clear hK1 K1
 refine W.rs (cx_ok _) (by rfl) fun K hK => ?_
 conv => whnf
 refine hK _ ?_
 clear hK K
 refine W.rs (cx_ok _) (by rfl) fun K hK => ?_
 conv => whnf
 refine callV rfl (szExtension_fn ep eq el hz_el) fun hs' hhs => ?_
 try dsimp only at hhs
 conv => whnf
 refine hK _ ?_
 clear hK K
 refine W.seqK fun K1 hK1 => ?_
 refine W.rs (cx_ok _) (by rfl) fun K hK => ?_
 conv => whnf
 refine hK _ (W.cond ⟨fun hl_el => ?_, fun hl_el => ?_⟩) <;> clear hK K
 ·refine W.rs (cx_ok _) (by rfl) fun K hK => ?_
  conv => whnf
  refine hK _ ?_
  clear hK K
  refine W.ret ?_
  conv => whnf
  exact ⟨.v (.tr), rfl, trivial, rfl⟩
 have hl_el : el.length ≤ 1048576 := sz_ok (of_decide_eq_false hl_el)
 refine W.skip (hK1 _ ?_)
 clear hK1 K1
 obtain ⟨r0, r1, hS, hI⟩ := both hl_el hl_x
 refine W.rs (cx_ok _) (by rfl) fun K hK => ?_
 conv => whnf
 refine callV rfl (toExtension_V ep eq el (by omega)) fun hs' hhs => ?_
 try dsimp only at hhs
 conv => whnf
 refine callV rfl ((toInts_fn none x (by omega)).toV) fun hs' hhs => ?_
 try dsimp only at hhs
 conv => whnf
 refine callV rfl (hS) fun hs' hhs => ?_
 try dsimp only at hhs
 conv => whnf
 refine hK _ ?_
 clear hK K
 refine W.rs (cx_ok _) (by rfl) fun K hK => ?_
 conv => whnf
 refine callV rfl (toExtension_V ep eq el (by omega)) fun hs' hhs => ?_
 try dsimp only at hhs
 conv => whnf
 intro b_y0 hs_y0 hh_y0 hf_y0
 try dsimp only at hh_y0 hf_y0
 conv => whnf
 refine ⟨⟨(by show 3 ≤ 3; omega), rfl⟩, ?_⟩
 conv => whnf
 refine hK _ ?_
 clear hK K
 refine W.rs (cx_ok _) (by rfl) fun K hK => ?_
 conv => whnf
 refine callI rfl (toInts_fn none x (by omega)) fun hs_x1 b_x1 hh_x1 hf_x1 => ?_
 try dsimp only at hh_x1 hf_x1
 conv => whnf
 refine hK _ ?_
 clear hK K
 refine W.rs (cx_ok _) (by rfl) fun K hK => ?_
 conv => whnf
 refine callV rfl (hI _ _) fun hs' hhs => ?_
 try dsimp only at hhs
 conv => whnf
 refine hK _ ?_
 clear hK K
 refine W.seqK fun K1 hK1 => ?_
 refine W.rs (cx_ok _) (by rfl) fun K hK => ?_
 conv => whnf
 refine ⟨fun hc0 => ?_, fun hc0 => ?_⟩ <;> conv => whnf
 ·exact absurd hc0 (by simp)
 refine hK _ (W.cond ⟨fun hcc => absurd hcc (by simp), fun _ => W.skip (hK1 _ ?_)⟩)
 clear hK K hK1 K1
 refine W.seqK fun K1 hK1 => ?_
 refine W.rd (cx_ok _) follows (by rfl) fun K hK => ?_
 conv => whnf
 refine ⟨_, cxF (toExtension_V ep eq el (by omega)), ?_⟩
 conv => whnf
 refine ⟨_, cxF (eqExtension_same ep eq _ _ el (by omega)), ?_⟩
 conv => whnf
 refine hK _ (W.condF rfl (W.skip (hK1 _ ?_)))
 clear hK K hK1 K1
 refine W.seqK fun K1 hK1 => ?_
 refine W.rs (cx_ok _) (by rfl) fun K hK => ?_
 conv => whnf
 refine callI rfl (toInts_fn none x (by omega)) fun hs_z1 b_z1 hh_z1 hf_z1 => ?_
 try dsimp only at hh_z1 hf_z1
 conv => whnf
 refine callV rfl (eqInts_same _ _ x (by omega)) fun hs' hhs => ?_
 try dsimp only at hhs
 conv => whnf
 refine hK _ (W.condF rfl (W.skip (hK1 _ ?_)))
 clear hK K hK1 K1
 refine W.rs (cx_ok _) (by rfl) fun K hK => ?_
 conv => whnf
 refine hK _ ?_
 clear hK K
 refine W.ret ?_
 conv => whnf
 exact ⟨.v (.tr), rfl, trivial, rfl⟩

theorem lawNormThere (ep eq : Int) (el : List Int) (x : List Int) (h_ep : inR ep) (h_eq : inR eq) (hz_el : el.length ≤ maxLen) : FnV 15 [vE ep eq none el, .ints none x] .tr :=
 lawFNormThere ep eq el x hz_el (fun hel hx => NormThere_both ep eq el x h_ep h_eq hel hx)

open Go Go.RowKit Go.ChangeShapes Go.WideShapes Go.ChangeAt Go.Proofs Go.Proofs.YtfinplgomnfdpaaGreat

set_option maxRecDepth 100000 in
theorem liftedNormThere (H : Type) (enc : TypeId × Value → H) (os : Os) (started : os.Started) :
  ReturnsInHanded {} Tryz.checked os 15 .any (Rows.fnExactNormThereSpec.pre6 enc Tryz.prog Tryz.f15 Rows.fnExactNormThereRow.domain false) (Rows.fnExactNormThereSpec.post enc Tryz.prog Tryz.f15 false true false false) := by
 refine law_lifted (C := Tryz.checked) (tb := 4) ownP started (by kernel_rfl) Tryz.func15 laidOutP ?_ rfl (by kernel_rfl) Tryz.underlying4 ?_
  (ChangeSpec.witness6 (enc := enc) (C := Tryz.checked) false ⟨#[], #[.agg #[.int .i64 0, .int .i64 0, .slice none 0 0], .slice none 0 0], []⟩ 8 (by kernel_rfl) (by kernel_rfl) (by kernel_rfl) (by kernel_rfl)) ?_
 ·rw [Tryz.params15]
  intro t ht
  simp only [List.mem_cons, List.not_mem_nil, or_false] at ht
  rcases ht with rfl | rfl <;> exact ⟨by kernel_rfl, of_decide_eq_true (by kernel_rfl)⟩
 ·intro ds hds
  match ds, hds with
  | [d0, d1], _ => exact ⟨rfl, rfl, rfl⟩
 ·intro W args ds ps hval hA
  have hval' : ∀ (j : Nat) t v, Tryz.f15.params[j]? = some t → args[j]? = some v → ∃ base, Value.okWide Tryz.prog W .any base t v := hval
  rw [Tryz.params15] at hA hval'
  obtain ⟨v0, v1, d0, d1, q0, q1, hv, rfl, rfl, h0, h1⟩ := trodAll_two hA
  subst hv
  obtain ⟨_, hv0⟩ := hval' 0 50 v0 rfl rfl
  obtain ⟨cs0, rfl, _⟩ := okWide_struct Tryz.underlying50 hv0
  obtain ⟨xs0, hx0, hr0⟩ := arg_agg readsExtension h0
  obtain ⟨ys0, zs0, rfl, ⟨y10, z10, rfl, ⟨n0, rfl, hb0⟩, y20, z20, rfl, ⟨m0, rfl, hc0⟩, rfl⟩, us0, ws0, rfl, ⟨l0, rfl, hi0, hm0⟩, rfl⟩ := hx0
  obtain ⟨_, hv1⟩ := hval' 1 22 v1 rfl rfl
  obtain ⟨a1, len1, cap1, rfl⟩ := okWide_slice Tryz.underlying22 hv1
  obtain ⟨x1, ⟨l1, hl1, hi1, hm1⟩, hr1⟩ := arg_cell readsInts h1 (by simp)
  cases hl1
  refine fn_true (lawNormThere n0 m0 l0 l1 hb0 hc0 hm0) rfl fun j hj => ?_
  simp only [List.length_cons, List.length_nil] at hj
  match j, hj with
  | 0, _ => exact hr0
  | 1, _ => exact hr1
  | j + 2, hj => omega

theorem joinedNormTherea : (Rows.fnExactNormThereRow.inPlace == Tryz.checked.prog.inPlace 15) = true := by kernel_rfl
theorem joinedNormThereb : (Rows.fnExactNormThereRow.unfollowed == Tryz.checked.prog.unfollowed 15) = true := by kernel_rfl
theorem joinedNormTherec : (Rows.fnExactNormThereRow.recurses == Tryz.checked.prog.recurses 15) = true := by kernel_rfl
theorem joinedNormThered : (Rows.fnExactNormThereRow.named == Tryz.checked.prog.varsNamed 15) = true := by kernel_rfl
theorem joinedNormThere : joinedFacts Tryz.checked.prog 15 Tryz.f15 Rows.fnExactNormThereSpec Rows.fnExactNormThereRow = true := by
 unfold joinedFacts
 rw [enterP, liftP, makeP, joinedNormTherea, joinedNormThereb, joinedNormTherec, joinedNormThered]
 kernel_rfl
theorem instNormThere : Tryz.f15.isInstance Tryz.checked.prog Rows.fnExactNormThereRow.origin Rows.fnExactNormThereRow.targs := of_decide_eq_true (by kernel_rfl)

theorem claimNormThere : Rows.FnExactNormThereSaid :=
 OpenClaim.holds_of_wide (p := Tryz.pinned) (s := Rows.fnExactNormThereSpec) (c := Rows.fnExactNormThereRow) 15 Tryz.f15 rfl rfl rfl rfl rfl rfl rfl ⟨rfl, rfl, rfl, rfl, rfl⟩ rfl rfl rfl rfl rfl (by kernel_rfl) Tryz.func15 joinedNormThere
  instNormThere (by unfold Func.isWrapper; first | (rw [if_pos (by decide +kernel)]; kernel_rfl) | (rw [if_neg (by decide +kernel)]; exact ⟨rfl, rfl⟩))
  (fun os started H enc _ => liftedNormThere H enc os started)

end Go.Proofs.YtfinplgomnfdpaaGreat
