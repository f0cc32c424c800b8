/- The program's MinimalPolynomial returns what the reference's returns, for all arguments. No conditions. -/
import Derived.Test.YtaemcmndfhgpjaaGreatPi
namespace Go.Proofs.YtaemcmndfhgpjaaGreat
open Go Go.RowKit Go.Proofs Poly
set_option maxRecDepth 100000
set_option maxHeartbeats 8000000

theorem lawFMinimalPolynomial (kp : Int) (kl : List Int) (x : List Int) (hz_kl : kl.length ≤ maxLen) (both : kl.length ≤ 1048576 → x.length ≤ 1048576 → ∃ (r0 : List Int) (r1 : Int), (∀ g0 g1 : Option Nat, FnV 41 [vK kp g0 kl, .ints g1 x] (.tup [.ints none r0, .int .i64 r1])) ∧ (∀ g0 g1 : Option Nat, FnT Tryz.prog 42 [vK kp g0 kl, .ints g1 x] (fun _ _ x tb => ∃ rb0 : Nat, x = .tup [.rf rb0 r0.length, .int .i64 r1] ∧ (r0 ≠ [] → tb rb0 = some r0))) ∧ r0.length ≤ 1000000) : FnV 8 [vK kp none kl, .ints none x] .tr := by
 refine fn_of (cxt_ok [42] [0, 1, 2, 4, 5, 6, 7, 8, 9, 10, 11, 12, 13, 14, 15, 16, 19, 24, 51, 56, 61, 80, 88, 91, 108, 113, 116, 1000000]) Tryz.func8 rfl (by decide) Tryz.ntmps8 (Nat.le_of_ble_eq_true rfl) fun base => ?_
 refine W.tab0 rfl ?_
 refine W.rs (cxt_ok _ _) (by rfl) fun K hK => ?_
 conv => whnf
 refine ⟨rfl, ?_⟩
 conv => whnf
 intro b_p0 hs_p0 hh_p0 hf_p0
 try dsimp only at hh_p0 hf_p0
 conv => whnf
 refine hK _ ?_
 clear hK K
 refine W.seqK fun K1 hK1 => ?_
 refine W.rs (cxt_ok _ _) (by rfl) fun K hK => ?_
 conv => whnf
 refine hK _ (W.cond ⟨fun hl_x => ?_, fun hl_x => ?_⟩) <;> clear hK K
 ·refine W.rs (cxt_ok _ _) (by rfl) fun K hK => ?_
  conv => whnf
  refine hK _ ?_
  clear hK K
  refine W.ret ?_
  conv => whnf
  exact ⟨.v (.tr), rfl, trivial, rfl⟩
 have hl_x : x.length ≤ 1048576 := by have := of_decide_eq_false hl_x; omega
 refine W.skip (hK1 _ ?_)
 clear hK1 K1
 refine W.rs (cxt_ok _ _) (by rfl) fun K hK => ?_
 conv => whnf
 refine hK _ ?_
 clear hK K
 refine W.rs (cxt_ok _ _) (by rfl) fun K hK => ?_
 conv => whnf
 refine callV rfl (szField_fn kp kl hz_kl) fun hs' hhs => ?_
 try dsimp only at hhs
 conv => whnf
 refine hK _ ?_
 clear hK K
 refine W.seqK fun K1 hK1 => ?_
 refine W.rs (cxt_ok _ _) (by rfl) fun K hK => ?_
 conv => whnf
 refine hK _ (W.cond ⟨fun hl_kl => ?_, fun hl_kl => ?_⟩) <;> clear hK K
 ·refine W.rs (cxt_ok _ _) (by rfl) fun K hK => ?_
  conv => whnf
  refine hK _ ?_
  clear hK K
  refine W.ret ?_
  conv => whnf
  exact ⟨.v (.tr), rfl, trivial, rfl⟩
 have hl_kl : kl.length ≤ 1048576 := sz_ok (of_decide_eq_false hl_kl)
 refine W.skip (hK1 _ ?_)
 clear hK1 K1
 obtain ⟨r0, r1, hS, hI, hr0⟩ := both hl_kl hl_x
 refine W.rs (cxt_ok _ _) (by rfl) fun K hK => ?_
 conv => whnf
 refine callV rfl (toField_V kp kl (by omega)) fun hs' hhs => ?_
 try dsimp only at hhs
 conv => whnf
 refine callI rfl (toInts_fn none x (by omega)) fun hs_s1 b_s1 hh_s1 hf_s1 => ?_
 try dsimp only at hh_s1 hf_s1
 conv => whnf
 refine callV rfl (hS _ _) fun hs' hhs => ?_
 try dsimp only at hhs
 conv => whnf
 refine hK _ ?_
 clear hK K
 refine W.sw (c' := cxt [17] [0, 1, 2, 4, 5, 6, 7, 8, 9, 10, 11, 12, 13, 14, 15, 16, 19, 24, 51, 56, 61, 80, 88, 91, 108, 113, 116, 1000000]) ?_
 refine W.rs (cxt_ok _ _) (by rfl) fun K hK => ?_
 conv => whnf
 refine ⟨_, cxT (toField_T kp kl (by omega)), fun lo_x0 hi_x0 hs_x0 x_x0 tn_x0 tb_x0 hl1_x0 hl2_x0 _ hp_x0 hf_x0 hn_x0 ho_x0 => ?_⟩
 try dsimp only at hl1_x0 hl2_x0
 obtain ⟨xb0, rfl, hx0⟩ := hp_x0
 conv => whnf
 have hbd_xb0 : kl ≠ [] → lo_x0 ≤ xb0 ∧ xb0 < hs_x0 := fun h => hf_x0 _ (by rw [hx0 h]; exact Option.some_ne_none _)
 have hu_xb0 : kl ≠ [] → tb_x0 xb0 = some (kl) := fun h => hn_x0 _ _ (hx0 h)
 intro b_y0 hs_y0 hh_y0 hf_y0
 try dsimp only at hh_y0 hf_y0
 conv => whnf
 refine ⟨⟨(by show 2 ≤ 2; omega), rfl⟩, ?_⟩
 conv => whnf
 refine hK _ ?_
 clear hK K
 refine W.sw (c' := cxt [42] [0, 1, 2, 4, 5, 6, 7, 8, 9, 10, 11, 12, 13, 14, 15, 16, 19, 24, 51, 56, 61, 80, 88, 91, 108, 113, 116, 1000000]) ?_
 refine W.rs (cxt_ok _ _) (by rfl) fun K hK => ?_
 conv => whnf
 refine callI rfl (toInts_fn none x (by omega)) fun hs_x1 b_x1 hh_x1 hf_x1 => ?_
 try dsimp only at hh_x1 hf_x1
 conv => whnf
 refine hK _ ?_
 clear hK K
 refine W.rs (cxt_ok _ _) (by rfl) fun K hK => ?_
 conv => whnf
 refine ⟨kl, ⟨rfl, hu_xb0⟩, ?_⟩
 conv => whnf
 refine ⟨_, cxT (hI _ _), fun lo_g hi_g hs_g x_g tn_g tb_g hl1_g hl2_g _ hp_g hf_g hn_g ho_g => ?_⟩
 try dsimp only at hl1_g hl2_g
 obtain ⟨gb0, rfl, gh0⟩ := hp_g
 conv => whnf
 refine hK _ ?_
 clear hK K
 have hu_xb0_g : kl ≠ [] → tb_g xb0 = some (kl) := fun h => ho_g _ _ (hu_xb0 h)
 have hbd_gb0 : r0 ≠ [] → lo_g ≤ gb0 ∧ gb0 < hs_g := fun h => hf_g _ (by rw [gh0 h]; exact Option.some_ne_none _)
 have hu_gb0 : r0 ≠ [] → tb_g gb0 = some (r0) := fun h => hn_g _ _ (gh0 h)
 refine W.seqK fun K1 hK1 => ?_
 refine W.rs (cxt_ok _ _) (by rfl) fun K hK => ?_
 conv => whnf
 refine ⟨r0, ⟨rfl, hu_gb0⟩, ?_⟩
 conv => whnf
 refine callV rfl (eqInts_same _ _ r0 (by omega)) fun hs' hhs => ?_
 try dsimp only at hhs
 conv => whnf
 refine hK _ (W.cond ⟨fun hcc => absurd hcc (by simp), fun _ => W.skip (hK1 _ ?_)⟩)
 clear hK K hK1 K1
 refine W.seqK fun K1 hK1 => ?_
 refine W.rd (cxt_ok _ _) follows (by rfl) fun K hK => ?_
 conv => whnf
 refine ⟨_, cxtF (toField_V kp kl (by omega)), ?_⟩
 conv => whnf
 refine ⟨kl, ⟨rfl, hu_xb0_g⟩, ?_⟩
 conv => whnf
 refine ⟨_, cxtF (eqField_same kp _ _ kl (by omega)), ?_⟩
 conv => whnf
 refine hK _ (W.condF rfl (W.skip (hK1 _ ?_)))
 clear hK K hK1 K1
 refine W.seqK fun K1 hK1 => ?_
 refine W.rs (cxt_ok _ _) (by rfl) fun K hK => ?_
 conv => whnf
 refine callI rfl (toInts_fn none x (by omega)) fun hs_z1 b_z1 hh_z1 hf_z1 => ?_
 try dsimp only at hh_z1 hf_z1
 conv => whnf
 refine callV rfl (eqInts_same _ _ x (by omega)) fun hs' hhs => ?_
 try dsimp only at hhs
 conv => whnf
 refine hK _ (W.condF rfl (W.skip (hK1 _ ?_)))
 clear hK K hK1 K1
 refine W.rs (cxt_ok _ _) (by rfl) fun K hK => ?_
 conv => whnf
 refine hK _ ?_
 clear hK K
 refine W.rs (cxt_ok _ _) (by rfl) fun K hK => ?_
 conv => whnf
 refine ⟨⟨rfl, rfl⟩, ?_⟩
 conv => whnf
 refine ⟨rfl, _, markField_fn kp xb0 kl.length (1) (by omega) (by omega) tb_g (fun h => ⟨kl, rfl, hu_xb0_g (fun e => h (by rw [e]; rfl))⟩), ?_⟩
 rintro hsk0 av x' t' hhk0 ⟨rfl, rfl, tb_k0, rfl, hb_k0, ho_k0⟩ _ _ _
 try dsimp only at hhk0
 conv => whnf
 refine hK _ ?_
 clear hK K
 have hm_k0_xb0 : kl ≠ [] → tb_k0 xb0 = some (marks (1) kl.length) := fun h => hb_k0 (fun e => h (List.eq_nil_of_length_eq_zero e))
 have hm_k0_gb0 : r0 ≠ [] → tb_k0 gb0 = some (r0) := fun h => (ho_k0 _ (by by_cases hn : kl = []; exact .inl (by rw [hn]; rfl); exact .inr (fun e => by have h1 := hbd_xb0 hn; have h2 := hbd_gb0 h; omega))).trans (hu_gb0 h)
 refine W.rs (cxt_ok _ _) (by rfl) fun K hK => ?_
 conv => whnf
 refine ⟨⟨rfl, rfl⟩, ?_⟩
 conv => whnf
 refine ⟨rfl, _, markInts_fn _ b_x1 x (1 + kl.length) (by omega) (by omega) tb_k0, ?_⟩
 rintro hsk1 av x' t' hhk1 ⟨rfl, rfl, rfl⟩ _ _ _
 try dsimp only at hhk1
 conv => whnf
 refine hK _ ?_
 clear hK K
 refine W.seqK fun K1 hK1 => ?_
 refine W.rs (cxt_ok _ _) (by rfl) fun K hK => ?_
 conv => whnf
 refine ⟨fun hkk => ?_, fun hkk => ?_⟩ <;> conv => whnf
 ·have hkk := of_decide_eq_true hkk; omega
 refine ⟨r0, ⟨rfl, hm_k0_gb0⟩, ?_⟩
 conv => whnf
 refine callV rfl (eqInts_same _ _ r0 (by omega)) fun hs' hhs => ?_
 try dsimp only at hhs
 conv => whnf
 refine hK _ (W.cond ⟨fun hcc => absurd hcc (by simp), fun _ => W.skip (hK1 _ ?_)⟩)
 clear hK K hK1 K1
 refine W.rs (cxt_ok _ _) (by rfl) fun K hK => ?_
 conv => whnf
 refine hK _ ?_
 clear hK K
 refine W.rs (cxt_ok _ _) (by rfl) fun K hK => ?_
 conv => whnf
 refine ⟨⟨rfl, rfl⟩, ?_⟩
 conv => whnf
 refine ⟨rfl, _, markRf_fn gb0 r0.length (1) (by omega) (by omega) tb_k0 (fun h => ⟨r0, rfl, hm_k0_gb0 (fun e => h (by rw [e]; rfl))⟩), ?_⟩
 rintro hsm0 av x' t' hhm0 ⟨rfl, rfl, tb_m0, rfl, hb_m0, ho_m0⟩ _ _ _
 try dsimp only at hhm0
 conv => whnf
 refine hK _ ?_
 clear hK K
 have hm_m0_xb0 : kl ≠ [] → tb_m0 xb0 = some (marks (1) kl.length) := fun h => (ho_m0 _ (by by_cases hn : r0 = []; exact .inl (by rw [hn]; rfl); exact .inr (fun e => by have h1 := hbd_gb0 hn; have h2 := hbd_xb0 h; omega))).trans (hm_k0_xb0 h)
 have hm_m0_gb0 : r0 ≠ [] → tb_m0 gb0 = some (marks (1) r0.length) := fun h => hb_m0 (fun e => h (List.eq_nil_of_length_eq_zero e))
 refine W.rs (cxt_ok _ _) (by rfl) fun K hK => ?_
 conv => whnf
 refine hK _ ?_
 clear hK K
 refine W.rs (cxt_ok _ _) (by rfl) fun K hK => ?_
 conv => whnf
 refine ⟨marks (1) r0.length, ⟨marks_length .., fun h => hm_m0_gb0 (marks_ne h)⟩, ?_⟩
 conv => whnf
 refine callV rfl (held_fn _ (1) r0.length (by omega) (by omega)) fun hs' hhs => ?_
 try dsimp only at hhs
 conv => whnf
 refine hK _ ?_
 clear hK K
 refine W.seqK fun K1 hK1 => ?_
 refine W.rs (cxt_ok _ _) (by rfl) fun K hK => ?_
 conv => whnf
 refine hK _ (W.cond ⟨fun h7 => (by have := of_decide_eq_true h7; omega), fun _ => W.skip (hK1 _ ?_)⟩)
 clear hK K hK1 K1
 refine W.seqK fun K1 hK1 => ?_
 refine W.rs (cxt_ok _ _) (by rfl) fun K hK => ?_
 conv => whnf
 refine hK _ (W.cond ⟨fun hcc => absurd rfl (of_decide_eq_true hcc), fun _ => W.skip (hK1 _ ?_)⟩)
 clear hK K hK1 K1
 refine W.rs (cxt_ok _ _) (by rfl) fun K hK => ?_
 conv => whnf
 refine callV rfl (toField_V kp kl (by omega)) fun hs' hhs => ?_
 try dsimp only at hhs
 conv => whnf
 refine callI rfl (toInts_fn none x (by omega)) fun hs_t1 b_t1 hh_t1 hf_t1 => ?_
 try dsimp only at hh_t1 hf_t1
 conv => whnf
 refine ⟨_, cxT (hI _ _), fun lo_h hi_h hs_h x_h tn_h tb_h hl1_h hl2_h _ hp_h hf_h hn_h ho_h => ?_⟩
 try dsimp only at hl1_h hl2_h
 obtain ⟨hb0, rfl, hh0⟩ := hp_h
 conv => whnf
 refine hK _ ?_
 clear hK K
 have hm_m0_xb0_h : kl ≠ [] → tb_h xb0 = some (marks (1) kl.length) := fun h => ho_h _ _ (hm_m0_xb0 h)
 have hm_m0_gb0_h : r0 ≠ [] → tb_h gb0 = some (marks (1) r0.length) := fun h => ho_h _ _ (hm_m0_gb0 h)
 have hbd_hb0 : r0 ≠ [] → lo_h ≤ hb0 ∧ hb0 < hs_h := fun h => hf_h _ (by rw [hh0 h]; exact Option.some_ne_none _)
 have hu_hb0 : r0 ≠ [] → tb_h hb0 = some (r0) := fun h => hn_h _ _ (hh0 h)
 refine W.seqK fun K1 hK1 => ?_
 refine W.rs (cxt_ok _ _) (by rfl) fun K hK => ?_
 conv => whnf
 refine ⟨r0, ⟨rfl, hu_hb0⟩, ?_⟩
 conv => whnf
 refine callV rfl (eqInts_same _ _ r0 (by omega)) fun hs' hhs => ?_
 try dsimp only at hhs
 conv => whnf
 refine hK _ (W.cond ⟨fun hcc => absurd hcc (by simp), fun _ => W.skip (hK1 _ ?_)⟩)
 clear hK K hK1 K1
 refine W.rs (cxt_ok _ _) (by rfl) fun K hK => ?_
 conv => whnf
 refine hK _ ?_
 clear hK K
 refine W.rs (cxt_ok _ _) (by rfl) fun K hK => ?_
 conv => whnf
 refine ⟨marks (1) r0.length, ⟨marks_length .., fun h => hm_m0_gb0_h (marks_ne h)⟩, ?_⟩
 conv => whnf
 refine callV rfl (held_fn _ (1) r0.length (by omega) (by omega)) fun hs' hhs => ?_
 try dsimp only at hhs
 conv => whnf
 refine hK _ ?_
 clear hK K
 refine W.seqK fun K1 hK1 => ?_
 refine W.rs (cxt_ok _ _) (by rfl) fun K hK => ?_
 conv => whnf
 refine hK _ (W.cond ⟨fun h7 => (by have := of_decide_eq_true h7; omega), fun _ => W.skip (hK1 _ ?_)⟩)
 clear hK K hK1 K1
 refine W.seqK fun K1 hK1 => ?_
 refine W.rs (cxt_ok _ _) (by rfl) fun K hK => ?_
 conv => whnf
 refine hK _ (W.cond ⟨fun hcc => absurd rfl (of_decide_eq_true hcc), fun _ => W.skip (hK1 _ ?_)⟩)
 clear hK K hK1 K1
 refine W.rs (cxt_ok _ _) (by rfl) fun K hK => ?_
 conv => whnf
 refine hK _ ?_
 clear hK K
 refine W.ret ?_
 conv => whnf
 exact ⟨.v (.tr), rfl, trivial, rfl⟩

theorem lawMinimalPolynomial (kp : Int) (kl : List Int) (x : List Int) (h_kp : inR kp) (hz_kl : kl.length ≤ maxLen) : FnV 8 [vK kp none kl, .ints none x] .tr :=
 lawFMinimalPolynomial kp kl x hz_kl (fun hkl hx => MinimalPolynomial_both kp kl x h_kp hkl hx)

open Go Go.RowKit Go.ChangeShapes Go.WideShapes Go.ChangeAt Go.Proofs Go.Proofs.YtaemcmndfhgpjaaGreat

set_option maxRecDepth 100000 in
theorem liftedMinimalPolynomial (H : Type) (enc : TypeId × Value → H) (os : Os) (started : os.Started) :
  ReturnsInHanded {} Tryz.checked os 8 .any (Rows.fnExactMinimalPolynomialSpec.pre6 enc Tryz.prog Tryz.f8 Rows.fnExactMinimalPolynomialRow.domain false) (Rows.fnExactMinimalPolynomialSpec.post enc Tryz.prog Tryz.f8 false true false false) := by
 refine law_lifted (C := Tryz.checked) (tb := 4) ownP started (by kernel_rfl) Tryz.func8 laidOutP ?_ rfl (by kernel_rfl) Tryz.underlying4 ?_
  (ChangeSpec.witness6 (enc := enc) (C := Tryz.checked) false ⟨#[], #[.agg #[.int .i64 0, .slice none 0 0], .slice none 0 0], []⟩ 8 (by kernel_rfl) (by kernel_rfl) (by kernel_rfl) (by kernel_rfl)) ?_
 ·rw [Tryz.params8]
  intro t ht
  simp only [List.mem_cons, List.not_mem_nil, or_false] at ht
  rcases ht with rfl | rfl <;> exact ⟨by kernel_rfl, of_decide_eq_true (by kernel_rfl)⟩
 ·intro ds hds
  match ds, hds with
  | [d0, d1], _ => exact ⟨rfl, rfl, rfl⟩
 ·intro W args ds ps hval hA
  have hval' : ∀ (j : Nat) t v, Tryz.f8.params[j]? = some t → args[j]? = some v → ∃ base, Value.okWide Tryz.prog W .any base t v := hval
  rw [Tryz.params8] at hA hval'
  obtain ⟨v0, v1, d0, d1, q0, q1, hv, rfl, rfl, h0, h1⟩ := trodAll_two hA
  subst hv
  obtain ⟨_, hv0⟩ := hval' 0 24 v0 rfl rfl
  obtain ⟨cs0, rfl, _⟩ := okWide_struct Tryz.underlying24 hv0
  obtain ⟨xs0, hx0, hr0⟩ := arg_agg readsField h0
  obtain ⟨ys0, zs0, rfl, ⟨n0, rfl, hb0⟩, us0, ws0, rfl, ⟨l0, rfl, hi0, hm0⟩, rfl⟩ := hx0
  obtain ⟨_, hv1⟩ := hval' 1 22 v1 rfl rfl
  obtain ⟨a1, len1, cap1, rfl⟩ := okWide_slice Tryz.underlying22 hv1
  obtain ⟨x1, ⟨l1, hl1, hi1, hm1⟩, hr1⟩ := arg_cell readsInts h1 (by simp)
  cases hl1
  refine fn_true (lawMinimalPolynomial n0 l0 l1 hb0 hm0) rfl fun j hj => ?_
  simp only [List.length_cons, List.length_nil] at hj
  match j, hj with
  | 0, _ => exact hr0
  | 1, _ => exact hr1
  | j + 2, hj => omega

theorem joinedMinimalPolynomiala : (Rows.fnExactMinimalPolynomialRow.inPlace == Tryz.checked.prog.inPlace 8) = true := by kernel_rfl
theorem joinedMinimalPolynomialb : (Rows.fnExactMinimalPolynomialRow.unfollowed == Tryz.checked.prog.unfollowed 8) = true := by kernel_rfl
theorem joinedMinimalPolynomialc : (Rows.fnExactMinimalPolynomialRow.recurses == Tryz.checked.prog.recurses 8) = true := by kernel_rfl
theorem joinedMinimalPolynomiald : (Rows.fnExactMinimalPolynomialRow.named == Tryz.checked.prog.varsNamed 8) = true := by kernel_rfl
theorem joinedMinimalPolynomial : joinedFacts Tryz.checked.prog 8 Tryz.f8 Rows.fnExactMinimalPolynomialSpec Rows.fnExactMinimalPolynomialRow = true := by
 unfold joinedFacts
 rw [enterP, liftP, makeP, joinedMinimalPolynomiala, joinedMinimalPolynomialb, joinedMinimalPolynomialc, joinedMinimalPolynomiald]
 kernel_rfl
theorem instMinimalPolynomial : Tryz.f8.isInstance Tryz.checked.prog Rows.fnExactMinimalPolynomialRow.origin Rows.fnExactMinimalPolynomialRow.targs := of_decide_eq_true (by kernel_rfl)

theorem claimMinimalPolynomial : Rows.FnExactMinimalPolynomialSaid :=
 OpenClaim.holds_of_wide (p := Tryz.pinned) (s := Rows.fnExactMinimalPolynomialSpec) (c := Rows.fnExactMinimalPolynomialRow) 8 Tryz.f8 rfl rfl rfl rfl rfl rfl rfl ⟨rfl, rfl, rfl, rfl, rfl⟩ rfl rfl rfl rfl rfl (by kernel_rfl) Tryz.func8 joinedMinimalPolynomial
  instMinimalPolynomial (by unfold Func.isWrapper; first | (rw [if_pos (by decide +kernel)]; kernel_rfl) | (rw [if_neg (by decide +kernel)]; exact ⟨rfl, rfl⟩))
  (fun os started H enc _ => liftedMinimalPolynomial H enc os started)

end Go.Proofs.YtaemcmndfhgpjaaGreat
