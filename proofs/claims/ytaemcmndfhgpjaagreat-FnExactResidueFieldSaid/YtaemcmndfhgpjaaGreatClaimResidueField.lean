/- The program's ResidueField returns what the reference's returns, for all arguments. No conditions. -/
import Derived.Test.YtaemcmndfhgpjaaGreatPj
namespace Go.Proofs.YtaemcmndfhgpjaaGreat
open Go Go.RowKit Go.Proofs Poly
set_option maxRecDepth 100000
set_option maxHeartbeats 8000000

theorem lawFResidueField (ep eq : Int) (el : List Int) (hz_el : el.length ≤ maxLen) (both : el.length ≤ 1048576 → ∃ (r0p : Int) (r0l : List Int) (r1 : Int), (∀ g0 : Option Nat, FnV 28 [vE ep eq g0 el] (.tup [vK r0p none r0l, .int .i64 r1])) ∧ (∀ g0 : Option Nat, FnT Tryz.prog 30 [vE ep eq g0 el] (fun _ _ x tb => ∃ rb0 : Nat, x = .tup [.agg [.int .i64 r0p, .rf rb0 r0l.length], .int .i64 r1] ∧ (r0l ≠ [] → tb rb0 = some r0l))) ∧ r0l.length ≤ 1000000) : FnV 5 [vE ep eq none el] .tr := by
 refine fn_of (cxt_ok [30] [0, 1, 2, 3, 4, 5, 6, 7, 8, 9, 10, 11, 12, 13, 18, 40, 45, 61, 69, 72, 87, 92, 95, 1000000]) Tryz.func5 rfl (by decide) Tryz.ntmps5 (Nat.le_of_ble_eq_true rfl) fun base => ?_
 refine W.tab0 rfl ?_
 refine W.rs (cxt_ok _ _) (by rfl) fun K hK => ?_
 conv => whnf
 refine ⟨rfl, ?_⟩
 conv => whnf
 intro b_p0 hs_p0 hh_p0 hf_p0
 try dsimp only at hh_p0 hf_p0
 conv => whnf
 refine hK _ ?_
 clear hK K
 refine W.rs (cxt_ok _ _) (by rfl) fun K hK => ?_
 conv => whnf
 refine hK _ ?_
 clear hK K
 refine W.rs (cxt_ok _ _) (by rfl) fun K hK => ?_
 conv => whnf
 refine callV rfl (szExtension_fn ep eq el hz_el) fun hs' hhs => ?_
 try dsimp only at hhs
 conv => whnf
 refine hK _ ?_
 clear hK K
 refine W.seqK fun K1 hK1 => ?_
 refine W.rs (cxt_ok _ _) (by rfl) fun K hK => ?_
 conv => whnf
 refine hK _ (W.cond ⟨fun hl_el => ?_, fun hl_el => ?_⟩) <;> clear hK K
 ·refine W.rs (cxt_ok _ _) (by rfl) fun K hK => ?_
  conv => whnf
  refine hK _ ?_
  clear hK K
  refine W.ret ?_
  conv => whnf
  exact ⟨.v (.tr), rfl, trivial, rfl⟩
 have hl_el : el.length ≤ 1048576 := sz_ok (of_decide_eq_false hl_el)
 refine W.skip (hK1 _ ?_)
 clear hK1 K1
 obtain ⟨r0p, r0l, r1, hS, hI, hr0⟩ := both hl_el
 refine W.rs (cxt_ok _ _) (by rfl) fun K hK => ?_
 conv => whnf
 refine callV rfl (toExtension_V ep eq el (by omega)) fun hs' hhs => ?_
 try dsimp only at hhs
 conv => whnf
 refine callV rfl (hS _) fun hs' hhs => ?_
 try dsimp only at hhs
 conv => whnf
 intro b_w0 hs_w0 hh_w0 hf_w0
 try dsimp only at hh_w0 hf_w0
 conv => whnf
 refine ⟨⟨(by show 2 ≤ 2; omega), rfl⟩, ?_⟩
 conv => whnf
 refine hK _ ?_
 clear hK K
 refine W.sw (c' := cxt [29] [0, 1, 2, 3, 4, 5, 6, 7, 8, 9, 10, 11, 12, 13, 18, 40, 45, 61, 69, 72, 87, 92, 95, 1000000]) ?_
 refine W.rs (cxt_ok _ _) (by rfl) fun K hK => ?_
 conv => whnf
 refine ⟨_, cxT (toExtension_T ep eq el (by omega)), fun lo_x0 hi_x0 hs_x0 x_x0 tn_x0 tb_x0 hl1_x0 hl2_x0 _ hp_x0 hf_x0 hn_x0 ho_x0 => ?_⟩
 try dsimp only at hl1_x0 hl2_x0
 obtain ⟨xb0, rfl, hx0⟩ := hp_x0
 conv => whnf
 have hbd_xb0 : el ≠ [] → lo_x0 ≤ xb0 ∧ xb0 < hs_x0 := fun h => hf_x0 _ (by rw [hx0 h]; exact Option.some_ne_none _)
 have hu_xb0 : el ≠ [] → tb_x0 xb0 = some (el) := fun h => hn_x0 _ _ (hx0 h)
 intro b_y0 hs_y0 hh_y0 hf_y0
 try dsimp only at hh_y0 hf_y0
 conv => whnf
 refine ⟨⟨(by show 3 ≤ 3; omega), rfl⟩, ?_⟩
 conv => whnf
 refine hK _ ?_
 clear hK K
 refine W.sw (c' := cxt [30] [0, 1, 2, 3, 4, 5, 6, 7, 8, 9, 10, 11, 12, 13, 18, 40, 45, 61, 69, 72, 87, 92, 95, 1000000]) ?_
 refine W.rs (cxt_ok _ _) (by rfl) fun K hK => ?_
 conv => whnf
 refine ⟨el, ⟨rfl, hu_xb0⟩, ?_⟩
 conv => whnf
 refine ⟨_, cxT (hI _), fun lo_g hi_g hs_g x_g tn_g tb_g hl1_g hl2_g _ hp_g hf_g hn_g ho_g => ?_⟩
 try dsimp only at hl1_g hl2_g
 obtain ⟨gb0, rfl, gh0⟩ := hp_g
 conv => whnf
 intro b_g0 hs_g0 hh_g0 hf_g0
 try dsimp only at hh_g0 hf_g0
 conv => whnf
 refine ⟨⟨(by show 2 ≤ 2; omega), rfl⟩, ?_⟩
 conv => whnf
 refine hK _ ?_
 clear hK K
 have hu_xb0_g : el ≠ [] → tb_g xb0 = some (el) := fun h => ho_g _ _ (hu_xb0 h)
 have hbd_gb0 : r0l ≠ [] → lo_g ≤ gb0 ∧ gb0 < hs_g := fun h => hf_g _ (by rw [gh0 h]; exact Option.some_ne_none _)
 have hu_gb0 : r0l ≠ [] → tb_g gb0 = some (r0l) := fun h => hn_g _ _ (gh0 h)
 refine W.seqK fun K1 hK1 => ?_
 refine W.rs (cxt_ok _ _) (by rfl) fun K hK => ?_
 conv => whnf
 refine ⟨r0l, ⟨rfl, hu_gb0⟩, ?_⟩
 conv => whnf
 refine callV rfl (eqField_same r0p _ _ r0l (by omega)) fun hs' hhs => ?_
 try dsimp only at hhs
 conv => whnf
 refine hK _ (W.cond ⟨fun hcc => absurd hcc (by simp), fun _ => W.skip (hK1 _ ?_)⟩)
 clear hK K hK1 K1
 refine W.seqK fun K1 hK1 => ?_
 refine W.rd (cxt_ok _ _) follows (by rfl) fun K hK => ?_
 conv => whnf
 refine ⟨_, cxtF (toExtension_V ep eq el (by omega)), ?_⟩
 conv => whnf
 refine ⟨el, ⟨rfl, hu_xb0_g⟩, ?_⟩
 conv => whnf
 refine ⟨_, cxtF (eqExtension_same ep eq _ _ el (by omega)), ?_⟩
 conv => whnf
 refine hK _ (W.condF rfl (W.skip (hK1 _ ?_)))
 clear hK K hK1 K1
 refine W.rs (cxt_ok _ _) (by rfl) fun K hK => ?_
 conv => whnf
 refine hK _ ?_
 clear hK K
 refine W.rs (cxt_ok _ _) (by rfl) fun K hK => ?_
 conv => whnf
 refine ⟨⟨rfl, rfl⟩, ?_⟩
 conv => whnf
 refine ⟨rfl, _, markExtension_fn ep eq xb0 el.length (1) (by omega) (by omega) tb_g (fun h => ⟨el, rfl, hu_xb0_g (fun e => h (by rw [e]; rfl))⟩), ?_⟩
 rintro hsk0 av x' t' hhk0 ⟨rfl, rfl, tb_k0, rfl, hb_k0, ho_k0⟩ _ _ _
 try dsimp only at hhk0
 conv => whnf
 refine hK _ ?_
 clear hK K
 have hm_k0_xb0 : el ≠ [] → tb_k0 xb0 = some (marks (1) el.length) := fun h => hb_k0 (fun e => h (List.eq_nil_of_length_eq_zero e))
 have hm_k0_gb0 : r0l ≠ [] → tb_k0 gb0 = some (r0l) := fun h => (ho_k0 _ (by by_cases hn : el = []; exact .inl (by rw [hn]; rfl); exact .inr (fun e => by have h1 := hbd_xb0 hn; have h2 := hbd_gb0 h; omega))).trans (hu_gb0 h)
 refine W.seqK fun K1 hK1 => ?_
 refine W.rs (cxt_ok _ _) (by rfl) fun K hK => ?_
 conv => whnf
 refine ⟨fun hkk => ?_, fun hkk => ?_⟩ <;> conv => whnf
 ·have hkk := of_decide_eq_true hkk; omega
 refine ⟨r0l, ⟨rfl, hm_k0_gb0⟩, ?_⟩
 conv => whnf
 refine callV rfl (eqField_same r0p _ _ r0l (by omega)) fun hs' hhs => ?_
 try dsimp only at hhs
 conv => whnf
 refine hK _ (W.cond ⟨fun hcc => absurd hcc (by simp), fun _ => W.skip (hK1 _ ?_)⟩)
 clear hK K hK1 K1
 refine W.rs (cxt_ok _ _) (by rfl) fun K hK => ?_
 conv => whnf
 refine hK _ ?_
 clear hK K
 refine W.rs (cxt_ok _ _) (by rfl) fun K hK => ?_
 conv => whnf
 refine ⟨⟨rfl, rfl⟩, ?_⟩
 conv => whnf
 refine ⟨rfl, _, markField_fn r0p gb0 r0l.length (1) (by omega) (by omega) tb_k0 (fun h => ⟨r0l, rfl, hm_k0_gb0 (fun e => h (by rw [e]; rfl))⟩), ?_⟩
 rintro hsm0 av x' t' hhm0 ⟨rfl, rfl, tb_m0, rfl, hb_m0, ho_m0⟩ _ _ _
 try dsimp only at hhm0
 conv => whnf
 refine hK _ ?_
 clear hK K
 have hm_m0_xb0 : el ≠ [] → tb_m0 xb0 = some (marks (1) el.length) := fun h => (ho_m0 _ (by by_cases hn : r0l = []; exact .inl (by rw [hn]; rfl); exact .inr (fun e => by have h1 := hbd_gb0 hn; have h2 := hbd_xb0 h; omega))).trans (hm_k0_xb0 h)
 have hm_m0_gb0 : r0l ≠ [] → tb_m0 gb0 = some (marks (1) r0l.length) := fun h => hb_m0 (fun e => h (List.eq_nil_of_length_eq_zero e))
 refine W.rs (cxt_ok _ _) (by rfl) fun K hK => ?_
 conv => whnf
 refine hK _ ?_
 clear hK K
 refine W.rs (cxt_ok _ _) (by rfl) fun K hK => ?_
 conv => whnf
 refine ⟨marks (1) r0l.length, ⟨marks_length .., fun h => hm_m0_gb0 (marks_ne h)⟩, ?_⟩
 conv => whnf
 refine callV rfl (heldField_fn r0p _ (1) r0l.length (by omega) (by omega)) fun hs' hhs => ?_
 try dsimp only at hhs
 conv => whnf
 refine hK _ ?_
 clear hK K
 refine W.seqK fun K1 hK1 => ?_
 refine W.rs (cxt_ok _ _) (by rfl) fun K hK => ?_
 conv => whnf
 refine hK _ (W.cond ⟨fun h7 => (by have := of_decide_eq_true h7; omega), fun _ => W.skip (hK1 _ ?_)⟩)
 clear hK K hK1 K1
 refine W.seqK fun K1 hK1 => ?_
 refine W.rs (cxt_ok _ _) (by rfl) fun K hK => ?_
 conv => whnf
 refine hK _ (W.cond ⟨fun hcc => absurd rfl (of_decide_eq_true hcc), fun _ => W.skip (hK1 _ ?_)⟩)
 clear hK K hK1 K1
 refine W.rs (cxt_ok _ _) (by rfl) fun K hK => ?_
 conv => whnf
 refine callV rfl (toExtension_V ep eq el (by omega)) fun hs' hhs => ?_
 try dsimp only at hhs
 conv => whnf
 refine ⟨_, cxT (hI _), fun lo_h hi_h hs_h x_h tn_h tb_h hl1_h hl2_h _ hp_h hf_h hn_h ho_h => ?_⟩
 try dsimp only at hl1_h hl2_h
 obtain ⟨hb0, rfl, hh0⟩ := hp_h
 conv => whnf
 intro b_h0 hs_h0 hh_h0 hf_h0
 try dsimp only at hh_h0 hf_h0
 conv => whnf
 refine ⟨⟨(by show 2 ≤ 2; omega), rfl⟩, ?_⟩
 conv => whnf
 refine hK _ ?_
 clear hK K
 have hm_m0_xb0_h : el ≠ [] → tb_h xb0 = some (marks (1) el.length) := fun h => ho_h _ _ (hm_m0_xb0 h)
 have hm_m0_gb0_h : r0l ≠ [] → tb_h gb0 = some (marks (1) r0l.length) := fun h => ho_h _ _ (hm_m0_gb0 h)
 have hbd_hb0 : r0l ≠ [] → lo_h ≤ hb0 ∧ hb0 < hs_h := fun h => hf_h _ (by rw [hh0 h]; exact Option.some_ne_none _)
 have hu_hb0 : r0l ≠ [] → tb_h hb0 = some (r0l) := fun h => hn_h _ _ (hh0 h)
 refine W.seqK fun K1 hK1 => ?_
 refine W.rs (cxt_ok _ _) (by rfl) fun K hK => ?_
 conv => whnf
 refine ⟨r0l, ⟨rfl, hu_hb0⟩, ?_⟩
 conv => whnf
 refine callV rfl (eqField_same r0p _ _ r0l (by omega)) fun hs' hhs => ?_
 try dsimp only at hhs
 conv => whnf
 refine hK _ (W.cond ⟨fun hcc => absurd hcc (by simp), fun _ => W.skip (hK1 _ ?_)⟩)
 clear hK K hK1 K1
 refine W.rs (cxt_ok _ _) (by rfl) fun K hK => ?_
 conv => whnf
 refine hK _ ?_
 clear hK K
 refine W.rs (cxt_ok _ _) (by rfl) fun K hK => ?_
 conv => whnf
 refine ⟨marks (1) r0l.length, ⟨marks_length .., fun h => hm_m0_gb0_h (marks_ne h)⟩, ?_⟩
 conv => whnf
 refine callV rfl (heldField_fn r0p _ (1) r0l.length (by omega) (by omega)) fun hs' hhs => ?_
 try dsimp only at hhs
 conv => whnf
 refine hK _ ?_
 clear hK K
 refine W.seqK fun K1 hK1 => ?_
 refine W.rs (cxt_ok _ _) (by rfl) fun K hK => ?_
 conv => whnf
 refine hK _ (W.cond ⟨fun h7 => (by have := of_decide_eq_true h7; omega), fun _ => W.skip (hK1 _ ?_)⟩)
 clear hK K hK1 K1
 refine W.seqK fun K1 hK1 => ?_
 refine W.rs (cxt_ok _ _) (by rfl) fun K hK => ?_
 conv => whnf
 refine hK _ (W.cond ⟨fun hcc => absurd rfl (of_decide_eq_true hcc), fun _ => W.skip (hK1 _ ?_)⟩)
 clear hK K hK1 K1
 refine W.rs (cxt_ok _ _) (by rfl) fun K hK => ?_
 conv => whnf
 refine hK _ ?_
 clear hK K
 refine W.ret ?_
 conv => whnf
 exact ⟨.v (.tr), rfl, trivial, rfl⟩

theorem lawResidueField (ep eq : Int) (el : List Int) (h_ep : inR ep) (h_eq : inR eq) (hz_el : el.length ≤ maxLen) : FnV 5 [vE ep eq none el] .tr :=
 lawFResidueField ep eq el hz_el (fun hel => ResidueField_both ep eq el h_ep h_eq hel)

open Go Go.RowKit Go.ChangeShapes Go.WideShapes Go.ChangeAt Go.Proofs Go.Proofs.YtaemcmndfhgpjaaGreat

set_option maxRecDepth 100000 in
theorem liftedResidueField (H : Type) (enc : TypeId × Value → H) (os : Os) (started : os.Started) :
  ReturnsInHanded {} Tryz.checked os 5 .any (Rows.fnExactResidueFieldSpec.pre6 enc Tryz.prog Tryz.f5 Rows.fnExactResidueFieldRow.domain false) (Rows.fnExactResidueFieldSpec.post enc Tryz.prog Tryz.f5 false true false false) := by
 refine law_lifted (C := Tryz.checked) (tb := 4) ownP started (by kernel_rfl) Tryz.func5 laidOutP ?_ rfl (by kernel_rfl) Tryz.underlying4 ?_
  (ChangeSpec.witness6 (enc := enc) (C := Tryz.checked) false ⟨#[], #[.agg #[.int .i64 0, .int .i64 0, .slice none 0 0]], []⟩ 8 (by kernel_rfl) (by kernel_rfl) (by kernel_rfl) (by kernel_rfl)) ?_
 ·rw [Tryz.params5]
  intro t ht
  simp only [List.mem_singleton] at ht
  subst ht
  exact ⟨by kernel_rfl, of_decide_eq_true (by kernel_rfl)⟩
 ·intro ds hds
  match ds, hds with
  | [d0], _ => exact ⟨rfl, rfl, rfl⟩
 ·intro W args ds ps hval hA
  have hval' : ∀ (j : Nat) t v, Tryz.f5.params[j]? = some t → args[j]? = some v → ∃ base, Value.okWide Tryz.prog W .any base t v := hval
  rw [Tryz.params5] at hA hval'
  obtain ⟨v0, d0, hv, rfl, h0⟩ := trodAll_one hA
  subst hv
  obtain ⟨_, hv0⟩ := hval' 0 41 v0 rfl rfl
  obtain ⟨cs0, rfl, _⟩ := okWide_struct Tryz.underlying41 hv0
  obtain ⟨xs0, hx0, hr0⟩ := arg_agg readsExtension h0
  obtain ⟨ys0, zs0, rfl, ⟨y10, z10, rfl, ⟨n0, rfl, hb0⟩, y20, z20, rfl, ⟨m0, rfl, hc0⟩, rfl⟩, us0, ws0, rfl, ⟨l0, rfl, hi0, hm0⟩, rfl⟩ := hx0
  refine fn_true (lawResidueField n0 m0 l0 hb0 hc0 hm0) rfl fun j hj => ?_
  obtain rfl : j = 0 := by simpa using hj
  exact hr0

theorem joinedResidueFielda : (Rows.fnExactResidueFieldRow.inPlace == Tryz.checked.prog.inPlace 5) = true := by kernel_rfl
theorem joinedResidueFieldb : (Rows.fnExactResidueFieldRow.unfollowed == Tryz.checked.prog.unfollowed 5) = true := by kernel_rfl
theorem joinedResidueFieldc : (Rows.fnExactResidueFieldRow.recurses == Tryz.checked.prog.recurses 5) = true := by kernel_rfl
theorem joinedResidueFieldd : (Rows.fnExactResidueFieldRow.named == Tryz.checked.prog.varsNamed 5) = true := by kernel_rfl
theorem joinedResidueField : joinedFacts Tryz.checked.prog 5 Tryz.f5 Rows.fnExactResidueFieldSpec Rows.fnExactResidueFieldRow = true := by
 unfold joinedFacts
 rw [enterP, liftP, makeP, joinedResidueFielda, joinedResidueFieldb, joinedResidueFieldc, joinedResidueFieldd]
 kernel_rfl
theorem instResidueField : Tryz.f5.isInstance Tryz.checked.prog Rows.fnExactResidueFieldRow.origin Rows.fnExactResidueFieldRow.targs := of_decide_eq_true (by kernel_rfl)

theorem claimResidueField : Rows.FnExactResidueFieldSaid :=
 OpenClaim.holds_of_wide (p := Tryz.pinned) (s := Rows.fnExactResidueFieldSpec) (c := Rows.fnExactResidueFieldRow) 5 Tryz.f5 rfl rfl rfl rfl rfl rfl rfl ⟨rfl, rfl, rfl, rfl, rfl⟩ rfl rfl rfl rfl rfl (by kernel_rfl) Tryz.func5 joinedResidueField
  instResidueField (by unfold Func.isWrapper; first | (rw [if_pos (by decide +kernel)]; kernel_rfl) | (rw [if_neg (by decide +kernel)]; exact ⟨rfl, rfl⟩))
  (fun os started H enc _ => liftedResidueField H enc os started)

end Go.Proofs.YtaemcmndfhgpjaaGreat
