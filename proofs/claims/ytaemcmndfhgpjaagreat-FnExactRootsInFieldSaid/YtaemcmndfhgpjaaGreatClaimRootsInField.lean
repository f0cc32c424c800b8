/- The program's RootsInField returns what the reference's returns, for all arguments. No conditions. -/
import Derived.Test.YtaemcmndfhgpjaaGreatPi
namespace Go.Proofs.YtaemcmndfhgpjaaGreat
open Go Go.RowKit Go.Proofs Poly
set_option maxRecDepth 100000
set_option maxHeartbeats 8000000

theorem lawFRootsInField (kp : Int) (kl : List Int) (f : List Int) (hz_kl : kl.length ≤ maxLen) (both : kl.length ≤ 1048576 → f.length ≤ 1048576 → ∃ (r0 : List (List Int)) (r1 : Int), (∀ g0 g1 : Option Nat, FnV 39 [vK kp g0 kl, .ints g1 f] (.tup [vLL r0, .int .i64 r1])) ∧ (∀ g0 g1 : Option Nat, FnT Tryz.prog 40 [vK kp g0 kl, .ints g1 f] (RTS r0 r1)) ∧ r0.length ≤ 100000 ∧ (∀ j, (r0.getD j []).length ≤ 100000)) : FnV 7 [vK kp none kl, .ints none f] .tr := by
 refine fn_of (cxt_ok [40] [0, 1, 2, 4, 5, 6, 7, 8, 9, 10, 11, 12, 13, 14, 15, 16, 19, 24, 51, 56, 61, 80, 88, 91, 108, 113, 116, 1000000]) Tryz.func7 rfl (by decide) Tryz.ntmps7 (Nat.le_of_ble_eq_true rfl) fun base => ?_
 refine W.tab0 rfl ?_
 refine W.rs (cxt_ok _ _) (by rfl) fun K hK => ?_
 conv => whnf
 refine ⟨rfl, ?_⟩
 conv => whnf
 intro b_p0 hs_p0 hh_p0 hf_p0
 try dsimp only at hh_p0 hf_p0
 conv => whnf
 refine hK _ ?_
 clear hK K
 refine W.seqK fun K1 hK1 => ?_
 refine W.rs (cxt_ok _ _) (by rfl) fun K hK => ?_
 conv => whnf
 refine hK _ (W.cond ⟨fun hl_f => ?_, fun hl_f => ?_⟩) <;> clear hK K
 ·refine W.rs (cxt_ok _ _) (by rfl) fun K hK => ?_
  conv => whnf
  refine hK _ ?_
  clear hK K
  refine W.ret ?_
  conv => whnf
  exact ⟨.v (.tr), rfl, trivial, rfl⟩
 have hl_f : f.length ≤ 1048576 := by have := of_decide_eq_false hl_f; omega
 refine W.skip (hK1 _ ?_)
 clear hK1 K1
 refine W.rs (cxt_ok _ _) (by rfl) fun K hK => ?_
 conv => whnf
 refine hK _ ?_
 clear hK K
 refine W.rs (cxt_ok _ _) (by rfl) fun K hK => ?_
 conv => whnf
 refine callV rfl (szField_fn kp kl hz_kl) fun hs' hhs => ?_
 try dsimp only at hhs
 conv => whnf
 refine hK _ ?_
 clear hK K
 refine W.seqK fun K1 hK1 => ?_
 refine W.rs (cxt_ok _ _) (by rfl) fun K hK => ?_
 conv => whnf
 refine hK _ (W.cond ⟨fun hl_kl => ?_, fun hl_kl => ?_⟩) <;> clear hK K
 ·refine W.rs (cxt_ok _ _) (by rfl) fun K hK => ?_
  conv => whnf
  refine hK _ ?_
  clear hK K
  refine W.ret ?_
  conv => whnf
  exact ⟨.v (.tr), rfl, trivial, rfl⟩
 have hl_kl : kl.length ≤ 1048576 := sz_ok (of_decide_eq_false hl_kl)
 refine W.skip (hK1 _ ?_)
 clear hK1 K1
 obtain ⟨r0, r1, hS, hI, hr0, hrl⟩ := both hl_kl hl_f
 refine W.rs (cxt_ok _ _) (by rfl) fun K hK => ?_
 conv => whnf
 refine callV rfl (toField_V kp kl (by omega)) fun hs' hhs => ?_
 try dsimp only at hhs
 conv => whnf
 refine callI rfl (toInts_fn none f (by omega)) fun hs_s1 b_s1 hh_s1 hf_s1 => ?_
 try dsimp only at hh_s1 hf_s1
 conv => whnf
 refine callV rfl (hS _ _) fun hs' hhs => ?_
 try dsimp only at hhs
 conv => whnf
 refine hK _ ?_
 clear hK K
 refine W.sw (c' := cxt [17] [0, 1, 2, 4, 5, 6, 7, 8, 9, 10, 11, 12, 13, 14, 15, 16, 19, 24, 51, 56, 61, 80, 88, 91, 108, 113, 116, 1000000]) ?_
 refine W.rs (cxt_ok _ _) (by rfl) fun K hK => ?_
 conv => whnf
 refine ⟨_, cxT (toField_T kp kl (by omega)), fun lo_x0 hi_x0 hs_x0 x_x0 tn_x0 tb_x0 hl1_x0 hl2_x0 _ hp_x0 hf_x0 hn_x0 ho_x0 => ?_⟩
 try dsimp only at hl1_x0 hl2_x0
 obtain ⟨xb0, rfl, hx0⟩ := hp_x0
 conv => whnf
 have hbd_xb0 : kl ≠ [] → lo_x0 ≤ xb0 ∧ xb0 < hs_x0 := fun h => hf_x0 _ (by rw [hx0 h]; exact Option.some_ne_none _)
 have hu_xb0 : kl ≠ [] → tb_x0 xb0 = some (kl) := fun h => hn_x0 _ _ (hx0 h)
 intro b_y0 hs_y0 hh_y0 hf_y0
 try dsimp only at hh_y0 hf_y0
 conv => whnf
 refine ⟨⟨(by show 2 ≤ 2; omega), rfl⟩, ?_⟩
 conv => whnf
 refine hK _ ?_
 clear hK K
 refine W.sw (c' := cxt [40] [0, 1, 2, 4, 5, 6, 7, 8, 9, 10, 11, 12, 13, 14, 15, 16, 19, 24, 51, 56, 61, 80, 88, 91, 108, 113, 116, 1000000]) ?_
 refine W.rs (cxt_ok _ _) (by rfl) fun K hK => ?_
 conv => whnf
 refine callI rfl (toInts_fn none f (by omega)) fun hs_x1 b_x1 hh_x1 hf_x1 => ?_
 try dsimp only at hh_x1 hf_x1
 conv => whnf
 refine hK _ ?_
 clear hK K
 refine W.rs (cxt_ok _ _) (by rfl) fun K hK => ?_
 conv => whnf
 refine ⟨kl, ⟨rfl, hu_xb0⟩, ?_⟩
 conv => whnf
 refine ⟨_, cxT (hI _ _), fun lo_g hi_g hs_g x_g tn_g tb_g hl1_g hl2_g _ hp_g hf_g hn_g ho_g => ?_⟩
 try dsimp only at hl1_g hl2_g
 obtain ⟨gbs, rfl, gh, gd⟩ := hp_g
 conv => whnf
 refine hK _ ?_
 clear hK K
 have hu_xb0_g : kl ≠ [] → tb_g xb0 = some (kl) := fun h => ho_g _ _ (hu_xb0 h)
 have hbd_gbs : ∀ j, j < r0.length → r0.getD j [] ≠ [] → lo_g ≤ gbs j ∧ gbs j < hs_g := fun j hj h => hf_g _ (by rw [gh j hj h]; exact Option.some_ne_none _)
 have hu_gbs : ∀ j, j < r0.length → r0.getD j [] ≠ [] → tb_g (gbs j) = some (r0.getD j []) := fun j hj h => hn_g _ _ (gh j hj h)
 refine W.seqK fun K1 hK1 => ?_
 refine W.rs (cxt_ok _ _) (by rfl) fun K hK => ?_
 conv => whnf
 refine ⟨fun j => .ints (some (gbs j)) (r0.getD j []), fun j hj => ⟨r0.getD j [], rfl, hu_gbs j hj, rfl⟩, ?_⟩
 conv => whnf
 refine ⟨fun j => .ints none (r0.getD j []), fun j hj => rfl, ?_⟩
 conv => whnf
 refine callV rfl (eqTable_same _ r0 (by omega) (fun j => by have := hrl j; omega)) fun hs' hhs => ?_
 try dsimp only at hhs
 conv => whnf
 refine hK _ (W.cond ⟨fun hcc => absurd hcc (by simp), fun _ => W.skip (hK1 _ ?_)⟩)
 clear hK K hK1 K1
 refine W.seqK fun K1 hK1 => ?_
 refine W.rd (cxt_ok _ _) follows (by rfl) fun K hK => ?_
 conv => whnf
 refine ⟨_, cxtF (toField_V kp kl (by omega)), ?_⟩
 conv => whnf
 refine ⟨kl, ⟨rfl, hu_xb0_g⟩, ?_⟩
 conv => whnf
 refine ⟨_, cxtF (eqField_same kp _ _ kl (by omega)), ?_⟩
 conv => whnf
 refine hK _ (W.condF rfl (W.skip (hK1 _ ?_)))
 clear hK K hK1 K1
 refine W.seqK fun K1 hK1 => ?_
 refine W.rs (cxt_ok _ _) (by rfl) fun K hK => ?_
 conv => whnf
 refine callI rfl (toInts_fn none f (by omega)) fun hs_z1 b_z1 hh_z1 hf_z1 => ?_
 try dsimp only at hh_z1 hf_z1
 conv => whnf
 refine callV rfl (eqInts_same _ _ f (by omega)) fun hs' hhs => ?_
 try dsimp only at hhs
 conv => whnf
 refine hK _ (W.condF rfl (W.skip (hK1 _ ?_)))
 clear hK K hK1 K1
 refine W.rs (cxt_ok _ _) (by rfl) fun K hK => ?_
 conv => whnf
 refine hK _ ?_
 clear hK K
 refine W.rs (cxt_ok _ _) (by rfl) fun K hK => ?_
 conv => whnf
 refine ⟨⟨rfl, rfl⟩, ?_⟩
 conv => whnf
 refine ⟨rfl, _, markField_fn kp xb0 kl.length (1) (by omega) (by omega) tb_g (fun h => ⟨kl, rfl, hu_xb0_g (fun e => h (by rw [e]; rfl))⟩), ?_⟩
 rintro hsk0 av x' t' hhk0 ⟨rfl, rfl, tb_k0, rfl, hb_k0, ho_k0⟩ _ _ _
 try dsimp only at hhk0
 conv => whnf
 refine hK _ ?_
 clear hK K
 have hm_k0_xb0 : kl ≠ [] → tb_k0 xb0 = some (marks (1) kl.length) := fun h => hb_k0 (fun e => h (List.eq_nil_of_length_eq_zero e))
 have hq91_gbs : ∀ j, j < r0.length → r0.getD j [] ≠ [] → tb_k0 (gbs j) = some (r0.getD j []) := fun j hj h => (ho_k0 _ (by by_cases hn : kl = []; exact .inl (by rw [hn]; rfl); exact .inr (fun e => by have h1 := hbd_xb0 hn; have h2 := hbd_gbs j hj h; omega))).trans (hu_gbs j hj h)
 refine W.rs (cxt_ok _ _) (by rfl) fun K hK => ?_
 conv => whnf
 refine ⟨⟨rfl, rfl⟩, ?_⟩
 conv => whnf
 refine ⟨rfl, _, markInts_fn _ b_x1 f (1 + kl.length) (by omega) (by omega) tb_k0, ?_⟩
 rintro hsk1 av x' t' hhk1 ⟨rfl, rfl, rfl⟩ _ _ _
 try dsimp only at hhk1
 conv => whnf
 refine hK _ ?_
 clear hK K
 refine W.seqK fun K1 hK1 => ?_
 refine W.rs (cxt_ok _ _) (by rfl) fun K hK => ?_
 conv => whnf
 refine ⟨fun hkk => ?_, fun hkk => ?_⟩ <;> conv => whnf
 ·have hkk := of_decide_eq_true hkk; omega
 refine ⟨fun j => .ints (some (gbs j)) (r0.getD j []), fun j hj => ⟨r0.getD j [], rfl, hq91_gbs j hj, rfl⟩, ?_⟩
 conv => whnf
 refine ⟨fun j => .ints none (r0.getD j []), fun j hj => rfl, ?_⟩
 conv => whnf
 refine callV rfl (eqTable_same _ r0 (by omega) (fun j => by have := hrl j; omega)) fun hs' hhs => ?_
 try dsimp only at hhs
 conv => whnf
 refine hK _ (W.cond ⟨fun hcc => absurd hcc (by simp), fun _ => W.skip (hK1 _ ?_)⟩)
 clear hK K hK1 K1
 refine W.rs (cxt_ok _ _) (by rfl) fun K hK => ?_
 conv => whnf
 refine hK _ ?_
 clear hK K
 refine W.rs (cxt_ok _ _) (by rfl) fun K hK => ?_
 conv => whnf
 refine ⟨⟨rfl, rfl⟩, ?_⟩
 conv => whnf
 refine ⟨rfl, _, markTable_fn gbs r0 1 (by omega) (by omega) (fun j => by have := hrl j; omega) tb_k0 hq91_gbs gd, ?_⟩
 rintro hsm0 av x' t' hhm0 ⟨rfl, rfl, tb_m0, rfl, hb_m0, ho_m0⟩ _ _ _
 try dsimp only at hhm0
 conv => whnf
 refine hK _ ?_
 clear hK K
 have hmf_m0 : ∀ j, j < r0.length → r0.getD j [] ≠ [] → tb_m0 (gbs j) = some (mkT 1 r0 j) := hb_m0
 refine W.rs (cxt_ok _ _) (by rfl) fun K hK => ?_
 conv => whnf
 refine hK _ ?_
 clear hK K
 refine W.rs (cxt_ok _ _) (by rfl) fun K hK => ?_
 conv => whnf
 refine ⟨fun j => .ints (some (gbs j)) (mkT 1 r0 j), fun j hj => ⟨mkT 1 r0 j, mkT_length .., fun hne => hmf_m0 j hj (mkT_ne hne), rfl⟩, ?_⟩
 conv => whnf
 refine callV rfl (heldTable_fn _ r0 1 (by omega) (by omega) (fun j => by have := hrl j; omega)) fun hs' hhs => ?_
 try dsimp only at hhs
 conv => whnf
 refine hK _ ?_
 clear hK K
 refine W.seqK fun K1 hK1 => ?_
 refine W.rs (cxt_ok _ _) (by rfl) fun K hK => ?_
 conv => whnf
 refine hK _ (W.cond ⟨fun h7 => (by have := of_decide_eq_true h7; omega), fun _ => W.skip (hK1 _ ?_)⟩)
 clear hK K hK1 K1
 refine W.seqK fun K1 hK1 => ?_
 refine W.rs (cxt_ok _ _) (by rfl) fun K hK => ?_
 conv => whnf
 refine hK _ (W.cond ⟨fun hcc => absurd rfl (of_decide_eq_true hcc), fun _ => W.skip (hK1 _ ?_)⟩)
 clear hK K hK1 K1
 refine W.rs (cxt_ok _ _) (by rfl) fun K hK => ?_
 conv => whnf
 refine callV rfl (toField_V kp kl (by omega)) fun hs' hhs => ?_
 try dsimp only at hhs
 conv => whnf
 refine callI rfl (toInts_fn none f (by omega)) fun hs_t1 b_t1 hh_t1 hf_t1 => ?_
 try dsimp only at hh_t1 hf_t1
 conv => whnf
 refine ⟨_, cxT (hI _ _), fun lo_h hi_h hs_h x_h tn_h tb_h hl1_h hl2_h _ hp_h hf_h hn_h ho_h => ?_⟩
 try dsimp only at hl1_h hl2_h
 obtain ⟨hbs, rfl, hh, hd⟩ := hp_h
 conv => whnf
 refine hK _ ?_
 clear hK K
 have hq143_gbs : ∀ j, j < r0.length → r0.getD j [] ≠ [] → tb_h (gbs j) = some (mkT 1 r0 j) := fun j hj h => ho_h _ _ (hmf_m0 j hj h)
 have hbd_hbs : ∀ j, j < r0.length → r0.getD j [] ≠ [] → lo_h ≤ hbs j ∧ hbs j < hs_h := fun j hj h => hf_h _ (by rw [hh j hj h]; exact Option.some_ne_none _)
 have hu_hbs : ∀ j, j < r0.length → r0.getD j [] ≠ [] → tb_h (hbs j) = some (r0.getD j []) := fun j hj h => hn_h _ _ (hh j hj h)
 refine W.seqK fun K1 hK1 => ?_
 refine W.rs (cxt_ok _ _) (by rfl) fun K hK => ?_
 conv => whnf
 refine ⟨fun j => .ints (some (hbs j)) (r0.getD j []), fun j hj => ⟨r0.getD j [], rfl, hu_hbs j hj, rfl⟩, ?_⟩
 conv => whnf
 refine ⟨fun j => .ints none (r0.getD j []), fun j hj => rfl, ?_⟩
 conv => whnf
 refine callV rfl (eqTable_same _ r0 (by omega) (fun j => by have := hrl j; omega)) fun hs' hhs => ?_
 try dsimp only at hhs
 conv => whnf
 refine hK _ (W.cond ⟨fun hcc => absurd hcc (by simp), fun _ => W.skip (hK1 _ ?_)⟩)
 clear hK K hK1 K1
 refine W.rs (cxt_ok _ _) (by rfl) fun K hK => ?_
 conv => whnf
 refine hK _ ?_
 clear hK K
 refine W.rs (cxt_ok _ _) (by rfl) fun K hK => ?_
 conv => whnf
 refine ⟨fun j => .ints (some (gbs j)) (mkT 1 r0 j), fun j hj => ⟨mkT 1 r0 j, mkT_length .., fun hne => hq143_gbs j hj (mkT_ne hne), rfl⟩, ?_⟩
 conv => whnf
 refine callV rfl (heldTable_fn _ r0 1 (by omega) (by omega) (fun j => by have := hrl j; omega)) fun hs' hhs => ?_
 try dsimp only at hhs
 conv => whnf
 refine hK _ ?_
 clear hK K
 refine W.seqK fun K1 hK1 => ?_
 refine W.rs (cxt_ok _ _) (by rfl) fun K hK => ?_
 conv => whnf
 refine hK _ (W.cond ⟨fun h7 => (by have := of_decide_eq_true h7; omega), fun _ => W.skip (hK1 _ ?_)⟩)
 clear hK K hK1 K1
 refine W.seqK fun K1 hK1 => ?_
 refine W.rs (cxt_ok _ _) (by rfl) fun K hK => ?_
 conv => whnf
 refine hK _ (W.cond ⟨fun hcc => absurd rfl (of_decide_eq_true hcc), fun _ => W.skip (hK1 _ ?_)⟩)
 clear hK K hK1 K1
 refine W.rs (cxt_ok _ _) (by rfl) fun K hK => ?_
 conv => whnf
 refine hK _ ?_
 clear hK K
 refine W.ret ?_
 conv => whnf
 exact ⟨.v (.tr), rfl, trivial, rfl⟩

theorem lawRootsInField (kp : Int) (kl : List Int) (f : List Int) (h_kp : inR kp) (hz_kl : kl.length ≤ maxLen) : FnV 7 [vK kp none kl, .ints none f] .tr :=
 lawFRootsInField kp kl f hz_kl (fun hkl hf => RootsInField_both kp kl f h_kp hkl hf)

open Go Go.RowKit Go.ChangeShapes Go.WideShapes Go.ChangeAt Go.Proofs Go.Proofs.YtaemcmndfhgpjaaGreat

set_option maxRecDepth 100000 in
theorem liftedRootsInField (H : Type) (enc : TypeId × Value → H) (os : Os) (started : os.Started) :
  ReturnsInHanded {} Tryz.checked os 7 .any (Rows.fnExactRootsInFieldSpec.pre6 enc Tryz.prog Tryz.f7 Rows.fnExactRootsInFieldRow.domain false) (Rows.fnExactRootsInFieldSpec.post enc Tryz.prog Tryz.f7 false true false false) := by
 refine law_lifted (C := Tryz.checked) (tb := 4) ownP started (by kernel_rfl) Tryz.func7 laidOutP ?_ rfl (by kernel_rfl) Tryz.underlying4 ?_
  (ChangeSpec.witness6 (enc := enc) (C := Tryz.checked) false ⟨#[], #[.agg #[.int .i64 0, .slice none 0 0], .slice none 0 0], []⟩ 8 (by kernel_rfl) (by kernel_rfl) (by kernel_rfl) (by kernel_rfl)) ?_
 ·rw [Tryz.params7]
  intro t ht
  simp only [List.mem_cons, List.not_mem_nil, or_false] at ht
  rcases ht with rfl | rfl <;> exact ⟨by kernel_rfl, of_decide_eq_true (by kernel_rfl)⟩
 ·intro ds hds
  match ds, hds with
  | [d0, d1], _ => exact ⟨rfl, rfl, rfl⟩
 ·intro W args ds ps hval hA
  have hval' : ∀ (j : Nat) t v, Tryz.f7.params[j]? = some t → args[j]? = some v → ∃ base, Value.okWide Tryz.prog W .any base t v := hval
  rw [Tryz.params7] at hA hval'
  obtain ⟨v0, v1, d0, d1, q0, q1, hv, rfl, rfl, h0, h1⟩ := trodAll_two hA
  subst hv
  obtain ⟨_, hv0⟩ := hval' 0 24 v0 rfl rfl
  obtain ⟨cs0, rfl, _⟩ := okWide_struct Tryz.underlying24 hv0
  obtain ⟨xs0, hx0, hr0⟩ := arg_agg readsField h0
  obtain ⟨ys0, zs0, rfl, ⟨n0, rfl, hb0⟩, us0, ws0, rfl, ⟨l0, rfl, hi0, hm0⟩, rfl⟩ := hx0
  obtain ⟨_, hv1⟩ := hval' 1 22 v1 rfl rfl
  obtain ⟨a1, len1, cap1, rfl⟩ := okWide_slice Tryz.underlying22 hv1
  obtain ⟨x1, ⟨l1, hl1, hi1, hm1⟩, hr1⟩ := arg_cell readsInts h1 (by simp)
  cases hl1
  refine fn_true (lawRootsInField n0 l0 l1 hb0 hm0) rfl fun j hj => ?_
  simp only [List.length_cons, List.length_nil] at hj
  match j, hj with
  | 0, _ => exact hr0
  | 1, _ => exact hr1
  | j + 2, hj => omega

theorem joinedRootsInFielda : (Rows.fnExactRootsInFieldRow.inPlace == Tryz.checked.prog.inPlace 7) = true := by kernel_rfl
theorem joinedRootsInFieldb : (Rows.fnExactRootsInFieldRow.unfollowed == Tryz.checked.prog.unfollowed 7) = true := by kernel_rfl
theorem joinedRootsInFieldc : (Rows.fnExactRootsInFieldRow.recurses == Tryz.checked.prog.recurses 7) = true := by kernel_rfl
theorem joinedRootsInFieldd : (Rows.fnExactRootsInFieldRow.named == Tryz.checked.prog.varsNamed 7) = true := by kernel_rfl
theorem joinedRootsInField : joinedFacts Tryz.checked.prog 7 Tryz.f7 Rows.fnExactRootsInFieldSpec Rows.fnExactRootsInFieldRow = true := by
 unfold joinedFacts
 rw [enterP, liftP, makeP, joinedRootsInFielda, joinedRootsInFieldb, joinedRootsInFieldc, joinedRootsInFieldd]
 kernel_rfl
theorem instRootsInField : Tryz.f7.isInstance Tryz.checked.prog Rows.fnExactRootsInFieldRow.origin Rows.fnExactRootsInFieldRow.targs := of_decide_eq_true (by kernel_rfl)

theorem claimRootsInField : Rows.FnExactRootsInFieldSaid :=
 OpenClaim.holds_of_wide (p := Tryz.pinned) (s := Rows.fnExactRootsInFieldSpec) (c := Rows.fnExactRootsInFieldRow) 7 Tryz.f7 rfl rfl rfl rfl rfl rfl rfl ⟨rfl, rfl, rfl, rfl, rfl⟩ rfl rfl rfl rfl rfl (by kernel_rfl) Tryz.func7 joinedRootsInField
  instRootsInField (by unfold Func.isWrapper; first | (rw [if_pos (by decide +kernel)]; kernel_rfl) | (rw [if_neg (by decide +kernel)]; exact ⟨rfl, rfl⟩))
  (fun os started H enc _ => liftedRootsInField H enc os started)

end Go.Proofs.YtaemcmndfhgpjaaGreat
