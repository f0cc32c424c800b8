/- The program's SplitOff returns what the reference's returns, for all arguments. No conditions. -/
import Derived.Test.YtdebbdepmoecaaaGreatPj
namespace Go.Proofs.YtdebbdepmoecaaaGreat
open Go Go.RowKit Go.Proofs Poly
set_option maxRecDepth 100000
set_option maxHeartbeats 8000000

theorem lawFSplitOff (rp rq : Int) (f : List Int)  (both : f.length ≤ 1048576 → ∃ (r0 : List Int) (r1 : List Int) (r2 : Int), (∀ g1 : Option Nat, FnV 5 [vR rp rq, .ints g1 f] (.tup [.ints none r0, .ints none r1, .int .i64 r2])) ∧ (∀ g1 : Option Nat, FnT Tryz.prog 8 [vR rp rq, .ints g1 f] (fun _ _ x tb => ∃ rb0 rb1 : Nat, x = .tup [.rf rb0 r0.length, .rf rb1 r1.length, .int .i64 r2] ∧ (r0 ≠ [] → tb rb0 = some r0) ∧ (r1 ≠ [] → tb rb1 = some r1) ∧ (r0 ≠ [] → r1 ≠ [] → rb0 ≠ rb1))) ∧ r0.length ≤ 1000000 ∧ r1.length ≤ 1000000) : FnV 3 [vR rp rq, .ints none f] .tr := by
 refine fn_of (cxt_ok [8] [0, 1, 2, 4, 5, 6, 7, 8, 9, 10, 11, 12, 13, 14, 15, 16, 17, 20, 54, 59, 81, 92, 97, 100, 124, 129, 134, 137, 1000000]) Tryz.func3 rfl (by decide) Tryz.ntmps3 (Nat.le_of_ble_eq_true rfl) fun base => ?_
 refine W.tab0 rfl ?_
 refine W.rs (cxt_ok _ _) (by rfl) fun K hK => ?_
 conv => whnf
 refine ⟨rfl, ?_⟩
 conv => whnf
 intro b_p0 hs_p0 hh_p0 hf_p0
 try dsimp only at hh_p0 hf_p0
 conv => whnf
 refine hK _ ?_
 clear hK K
 refine W.seqK fun K1 hK1 => ?_
 refine W.rs (cxt_ok _ _) (by rfl) fun K hK => ?_
 conv => whnf
 refine hK _ (W.cond ⟨fun hl_f => ?_, fun hl_f => ?_⟩) <;> clear hK K
 ·refine W.rs (cxt_ok _ _) (by rfl) fun K hK => ?_
  conv => whnf
  refine hK _ ?_
  clear hK K
  refine W.ret ?_
  conv => whnf
  exact ⟨.v (.tr), rfl, trivial, rfl⟩
 have hl_f : f.length ≤ 1048576 := by have := of_decide_eq_false hl_f; omega
 refine W.skip (hK1 _ ?_)
 clear hK1 K1
 obtain ⟨r0, r1, r2, hS, hI, hr0, hr1⟩ := both hl_f
 refine W.rs (cxt_ok _ _) (by rfl) fun K hK => ?_
 conv => whnf
 refine callV rfl (toRing_V rp rq) fun hs' hhs => ?_
 try dsimp only at hhs
 conv => whnf
 refine callI rfl (toInts_fn none f (by omega)) fun hs_s1 b_s1 hh_s1 hf_s1 => ?_
 try dsimp only at hh_s1 hf_s1
 conv => whnf
 refine callV rfl (hS _) fun hs' hhs => ?_
 try dsimp only at hhs
 conv => whnf
 refine hK _ ?_
 clear hK K
 refine W.rs (cxt_ok _ _) (by rfl) fun K hK => ?_
 conv => whnf
 refine callI rfl (toInts_fn none f (by omega)) fun hs_x1 b_x1 hh_x1 hf_x1 => ?_
 try dsimp only at hh_x1 hf_x1
 conv => whnf
 refine hK _ ?_
 clear hK K
 refine W.rs (cxt_ok _ _) (by rfl) fun K hK => ?_
 conv => whnf
 refine callV rfl (toRing_V rp rq) fun hs' hhs => ?_
 try dsimp only at hhs
 conv => whnf
 refine ⟨_, cxT (hI _), fun lo_g hi_g hs_g x_g tn_g tb_g hl1_g hl2_g _ hp_g hf_g hn_g ho_g => ?_⟩
 try dsimp only at hl1_g hl2_g
 obtain ⟨gb0, gb1, rfl, gh0, gh1, gd1_0⟩ := hp_g
 conv => whnf
 refine hK _ ?_
 clear hK K
 have hbd_gb0 : r0 ≠ [] → lo_g ≤ gb0 ∧ gb0 < hs_g := fun h => hf_g _ (by rw [gh0 h]; exact Option.some_ne_none _)
 have hu_gb0 : r0 ≠ [] → tb_g gb0 = some (r0) := fun h => hn_g _ _ (gh0 h)
 have hbd_gb1 : r1 ≠ [] → lo_g ≤ gb1 ∧ gb1 < hs_g := fun h => hf_g _ (by rw [gh1 h]; exact Option.some_ne_none _)
 have hu_gb1 : r1 ≠ [] → tb_g gb1 = some (r1) := fun h => hn_g _ _ (gh1 h)
 refine W.seqK fun K1 hK1 => ?_
 refine W.rs (cxt_ok _ _) (by rfl) fun K hK => ?_
 conv => whnf
 refine ⟨r0, ⟨rfl, hu_gb0⟩, ?_⟩
 conv => whnf
 refine callV rfl (eqInts_same _ _ r0 (by omega)) fun hs' hhs => ?_
 try dsimp only at hhs
 conv => whnf
 refine ⟨r1, ⟨rfl, hu_gb1⟩, ?_⟩
 conv => whnf
 refine callV rfl (eqInts_same _ _ r1 (by omega)) fun hs' hhs => ?_
 try dsimp only at hhs
 conv => whnf
 refine hK _ (W.cond ⟨fun hcc => absurd hcc (by simp), fun _ => W.skip (hK1 _ ?_)⟩)
 clear hK K hK1 K1
 refine W.seqK fun K1 hK1 => ?_
 refine W.rs (cxt_ok _ _) (by rfl) fun K hK => ?_
 conv => whnf
 refine callI rfl (toInts_fn none f (by omega)) fun hs_z1 b_z1 hh_z1 hf_z1 => ?_
 try dsimp only at hh_z1 hf_z1
 conv => whnf
 refine callV rfl (eqInts_same _ _ f (by omega)) fun hs' hhs => ?_
 try dsimp only at hhs
 conv => whnf
 refine hK _ (W.condF rfl (W.skip (hK1 _ ?_)))
 clear hK K hK1 K1
 refine W.rs (cxt_ok _ _) (by rfl) fun K hK => ?_
 conv => whnf
 refine hK _ ?_
 clear hK K
 refine W.rs (cxt_ok _ _) (by rfl) fun K hK => ?_
 conv => whnf
 refine ⟨⟨rfl, rfl⟩, ?_⟩
 conv => whnf
 refine ⟨rfl, _, markInts_fn _ b_x1 f (1) (by omega) (by omega) tb_g, ?_⟩
 rintro hsk1 av x' t' hhk1 ⟨rfl, rfl, rfl⟩ _ _ _
 try dsimp only at hhk1
 conv => whnf
 refine hK _ ?_
 clear hK K
 refine W.seqK fun K1 hK1 => ?_
 refine W.rs (cxt_ok _ _) (by rfl) fun K hK => ?_
 conv => whnf
 refine ⟨fun hkk => ?_, fun hkk => ?_⟩ <;> conv => whnf
 ·have hkk := of_decide_eq_true hkk; omega
 refine ⟨r0, ⟨rfl, hu_gb0⟩, ?_⟩
 conv => whnf
 refine callV rfl (eqInts_same _ _ r0 (by omega)) fun hs' hhs => ?_
 try dsimp only at hhs
 conv => whnf
 refine ⟨r1, ⟨rfl, hu_gb1⟩, ?_⟩
 conv => whnf
 refine callV rfl (eqInts_same _ _ r1 (by omega)) fun hs' hhs => ?_
 try dsimp only at hhs
 conv => whnf
 refine hK _ (W.cond ⟨fun hcc => absurd hcc (by simp), fun _ => W.skip (hK1 _ ?_)⟩)
 clear hK K hK1 K1
 refine W.rs (cxt_ok _ _) (by rfl) fun K hK => ?_
 conv => whnf
 refine hK _ ?_
 clear hK K
 refine W.rs (cxt_ok _ _) (by rfl) fun K hK => ?_
 conv => whnf
 refine ⟨⟨rfl, rfl⟩, ?_⟩
 conv => whnf
 refine ⟨rfl, _, markRf_fn gb0 r0.length (1) (by omega) (by omega) tb_g (fun h => ⟨r0, rfl, hu_gb0 (fun e => h (by rw [e]; rfl))⟩), ?_⟩
 rintro hsm0 av x' t' hhm0 ⟨rfl, rfl, tb_m0, rfl, hb_m0, ho_m0⟩ _ _ _
 try dsimp only at hhm0
 conv => whnf
 refine hK _ ?_
 clear hK K
 have hm_m0_gb0 : r0 ≠ [] → tb_m0 gb0 = some (marks (1) r0.length) := fun h => hb_m0 (fun e => h (List.eq_nil_of_length_eq_zero e))
 have hm_m0_gb1 : r1 ≠ [] → tb_m0 gb1 = some (r1) := fun h => (ho_m0 _ (by by_cases hn : r0 = []; exact .inl (by rw [hn]; rfl); exact .inr (fun e => by first | exact gd1_0 hn h e.symm | exact gd1_0 h hn e | exact gd1_0 hn h e | exact gd1_0 h hn e.symm))).trans (hu_gb1 h)
 refine W.rs (cxt_ok _ _) (by rfl) fun K hK => ?_
 conv => whnf
 refine ⟨⟨rfl, rfl⟩, ?_⟩
 conv => whnf
 refine ⟨rfl, _, markRf_fn gb1 r1.length (1 + r0.length) (by omega) (by omega) tb_m0 (fun h => ⟨r1, rfl, hm_m0_gb1 (fun e => h (by rw [e]; rfl))⟩), ?_⟩
 rintro hsm1 av x' t' hhm1 ⟨rfl, rfl, tb_m1, rfl, hb_m1, ho_m1⟩ _ _ _
 try dsimp only at hhm1
 conv => whnf
 refine hK _ ?_
 clear hK K
 have hm_m1_gb0 : r0 ≠ [] → tb_m1 gb0 = some (marks (1) r0.length) := fun h => (ho_m1 _ (by by_cases hn : r1 = []; exact .inl (by rw [hn]; rfl); exact .inr (fun e => by first | exact gd1_0 hn h e.symm | exact gd1_0 h hn e | exact gd1_0 hn h e | exact gd1_0 h hn e.symm))).trans (hm_m0_gb0 h)
 have hm_m1_gb1 : r1 ≠ [] → tb_m1 gb1 = some (marks (1 + r0.length) r1.length) := fun h => hb_m1 (fun e => h (List.eq_nil_of_length_eq_zero e))
 refine W.rs (cxt_ok _ _) (by rfl) fun K hK => ?_
 conv => whnf
 refine hK _ ?_
 clear hK K
 refine W.rs (cxt_ok _ _) (by rfl) fun K hK => ?_
 conv => whnf
 refine ⟨marks (1) r0.length, ⟨marks_length .., fun h => hm_m1_gb0 (marks_ne h)⟩, ?_⟩
 conv => whnf
 refine callV rfl (held_fn _ (1) r0.length (by omega) (by omega)) fun hs' hhs => ?_
 try dsimp only at hhs
 conv => whnf
 refine hK _ ?_
 clear hK K
 refine W.seqK fun K1 hK1 => ?_
 refine W.rs (cxt_ok _ _) (by rfl) fun K hK => ?_
 conv => whnf
 refine hK _ (W.cond ⟨fun h7 => (by have := of_decide_eq_true h7; omega), fun _ => W.skip (hK1 _ ?_)⟩)
 clear hK K hK1 K1
 refine W.rs (cxt_ok _ _) (by rfl) fun K hK => ?_
 conv => whnf
 refine ⟨marks (1 + r0.length) r1.length, ⟨marks_length .., fun h => hm_m1_gb1 (marks_ne h)⟩, ?_⟩
 conv => whnf
 refine callV rfl (held_fn _ (1 + r0.length) r1.length (by omega) (by omega)) fun hs' hhs => ?_
 try dsimp only at hhs
 conv => whnf
 refine hK _ ?_
 clear hK K
 refine W.seqK fun K1 hK1 => ?_
 refine W.rs (cxt_ok _ _) (by rfl) fun K hK => ?_
 conv => whnf
 refine hK _ (W.cond ⟨fun h7 => (by have := of_decide_eq_true h7; omega), fun _ => W.skip (hK1 _ ?_)⟩)
 clear hK K hK1 K1
 refine W.seqK fun K1 hK1 => ?_
 refine W.rs (cxt_ok _ _) (by rfl) fun K hK => ?_
 conv => whnf
 refine hK _ (W.cond ⟨fun hcc => absurd rfl (of_decide_eq_true hcc), fun _ => W.skip (hK1 _ ?_)⟩)
 clear hK K hK1 K1
 refine W.rs (cxt_ok _ _) (by rfl) fun K hK => ?_
 conv => whnf
 refine callV rfl (toRing_V rp rq) fun hs' hhs => ?_
 try dsimp only at hhs
 conv => whnf
 refine callI rfl (toInts_fn none f (by omega)) fun hs_t1 b_t1 hh_t1 hf_t1 => ?_
 try dsimp only at hh_t1 hf_t1
 conv => whnf
 refine ⟨_, cxT (hI _), fun lo_h hi_h hs_h x_h tn_h tb_h hl1_h hl2_h _ hp_h hf_h hn_h ho_h => ?_⟩
 try dsimp only at hl1_h hl2_h
 obtain ⟨hb0, hb1, rfl, hh0, hh1, hd1_0⟩ := hp_h
 conv => whnf
 refine hK _ ?_
 clear hK K
 have hm_m1_gb0_h : r0 ≠ [] → tb_h gb0 = some (marks (1) r0.length) := fun h => ho_h _ _ (hm_m1_gb0 h)
 have hm_m1_gb1_h : r1 ≠ [] → tb_h gb1 = some (marks (1 + r0.length) r1.length) := fun h => ho_h _ _ (hm_m1_gb1 h)
 have hbd_hb0 : r0 ≠ [] → lo_h ≤ hb0 ∧ hb0 < hs_h := fun h => hf_h _ (by rw [hh0 h]; exact Option.some_ne_none _)
 have hu_hb0 : r0 ≠ [] → tb_h hb0 = some (r0) := fun h => hn_h _ _ (hh0 h)
 have hbd_hb1 : r1 ≠ [] → lo_h ≤ hb1 ∧ hb1 < hs_h := fun h => hf_h _ (by rw [hh1 h]; exact Option.some_ne_none _)
 have hu_hb1 : r1 ≠ [] → tb_h hb1 = some (r1) := fun h => hn_h _ _ (hh1 h)
 refine W.seqK fun K1 hK1 => ?_
 refine W.rs (cxt_ok _ _) (by rfl) fun K hK => ?_
 conv => whnf
 refine ⟨r0, ⟨rfl, hu_hb0⟩, ?_⟩
 conv => whnf
 refine callV rfl (eqInts_same _ _ r0 (by omega)) fun hs' hhs => ?_
 try dsimp only at hhs
 conv => whnf
 refine ⟨r1, ⟨rfl, hu_hb1⟩, ?_⟩
 conv => whnf
 refine callV rfl (eqInts_same _ _ r1 (by omega)) fun hs' hhs => ?_
 try dsimp only at hhs
 conv => whnf
 refine hK _ (W.cond ⟨fun hcc => absurd hcc (by simp), fun _ => W.skip (hK1 _ ?_)⟩)
 clear hK K hK1 K1
 refine W.rs (cxt_ok _ _) (by rfl) fun K hK => ?_
 conv => whnf
 refine hK _ ?_
 clear hK K
 refine W.rs (cxt_ok _ _) (by rfl) fun K hK => ?_
 conv => whnf
 refine ⟨marks (1) r0.length, ⟨marks_length .., fun h => hm_m1_gb0_h (marks_ne h)⟩, ?_⟩
 conv => whnf
 refine callV rfl (held_fn _ (1) r0.length (by omega) (by omega)) fun hs' hhs => ?_
 try dsimp only at hhs
 conv => whnf
 refine hK _ ?_
 clear hK K
 refine W.seqK fun K1 hK1 => ?_
 refine W.rs (cxt_ok _ _) (by rfl) fun K hK => ?_
 conv => whnf
 refine hK _ (W.cond ⟨fun h7 => (by have := of_decide_eq_true h7; omega), fun _ => W.skip (hK1 _ ?_)⟩)
 clear hK K hK1 K1
 refine W.rs (cxt_ok _ _) (by rfl) fun K hK => ?_
 conv => whnf
 refine ⟨marks (1 + r0.length) r1.length, ⟨marks_length .., fun h => hm_m1_gb1_h (marks_ne h)⟩, ?_⟩
 conv => whnf
 refine callV rfl (held_fn _ (1 + r0.length) r1.length (by omega) (by omega)) fun hs' hhs => ?_
 try dsimp only at hhs
 conv => whnf
 refine hK _ ?_
 clear hK K
 refine W.seqK fun K1 hK1 => ?_
 refine W.rs (cxt_ok _ _) (by rfl) fun K hK => ?_
 conv => whnf
 refine hK _ (W.cond ⟨fun h7 => (by have := of_decide_eq_true h7; omega), fun _ => W.skip (hK1 _ ?_)⟩)
 clear hK K hK1 K1
 refine W.seqK fun K1 hK1 => ?_
 refine W.rs (cxt_ok _ _) (by rfl) fun K hK => ?_
 conv => whnf
 refine hK _ (W.cond ⟨fun hcc => absurd rfl (of_decide_eq_true hcc), fun _ => W.skip (hK1 _ ?_)⟩)
 clear hK K hK1 K1
 refine W.rs (cxt_ok _ _) (by rfl) fun K hK => ?_
 conv => whnf
 refine hK _ ?_
 clear hK K
 refine W.ret ?_
 conv => whnf
 exact ⟨.v (.tr), rfl, trivial, rfl⟩

theorem lawSplitOff (rp rq : Int) (f : List Int) (h_rp : inR rp) (h_rq : inR rq)  : FnV 3 [vR rp rq, .ints none f] .tr :=
 lawFSplitOff rp rq f  (fun hf => SplitOff_both rp rq f h_rp h_rq hf)

open Go Go.RowKit Go.ChangeShapes Go.WideShapes Go.ChangeAt Go.Proofs Go.Proofs.YtdebbdepmoecaaaGreat

set_option maxRecDepth 100000 in
theorem liftedSplitOff (H : Type) (enc : TypeId × Value → H) (os : Os) (started : os.Started) :
  ReturnsInHanded {} Tryz.checked os 3 .any (Rows.fnExactSplitOffSpec.pre6 enc Tryz.prog Tryz.f3 Rows.fnExactSplitOffRow.domain false) (Rows.fnExactSplitOffSpec.post enc Tryz.prog Tryz.f3 false true false false) := by
 refine law_lifted (C := Tryz.checked) (tb := 4) ownP started (by kernel_rfl) Tryz.func3 laidOutP ?_ rfl (by kernel_rfl) Tryz.underlying4 ?_
  (ChangeSpec.witness6 (enc := enc) (C := Tryz.checked) false ⟨#[], #[.agg #[.int .i64 0, .int .i64 0], .slice none 0 0], []⟩ 8 (by kernel_rfl) (by kernel_rfl) (by kernel_rfl) (by kernel_rfl)) ?_
 ·rw [Tryz.params3]
  intro t ht
  simp only [List.mem_cons, List.not_mem_nil, or_false] at ht
  rcases ht with rfl | rfl <;> exact ⟨by kernel_rfl, of_decide_eq_true (by kernel_rfl)⟩
 ·intro ds hds
  match ds, hds with
  | [d0, d1], _ => exact ⟨rfl, rfl, rfl⟩
 ·intro W args ds ps hval hA
  have hval' : ∀ (j : Nat) t v, Tryz.f3.params[j]? = some t → args[j]? = some v → ∃ base, Value.okWide Tryz.prog W .any base t v := hval
  rw [Tryz.params3] at hA hval'
  obtain ⟨v0, v1, d0, d1, q0, q1, hv, rfl, rfl, h0, h1⟩ := trodAll_two hA
  subst hv
  obtain ⟨_, hv0⟩ := hval' 0 23 v0 rfl rfl
  obtain ⟨cs0, rfl, _⟩ := okWide_struct Tryz.underlying23 hv0
  obtain ⟨xs0, hx0, hr0⟩ := arg_agg readsRing h0
  obtain ⟨ys0, zs0, rfl, ⟨n0, rfl, hb0⟩, us0, ws0, rfl, ⟨m0, rfl, hc0⟩, rfl⟩ := hx0
  obtain ⟨_, hv1⟩ := hval' 1 24 v1 rfl rfl
  obtain ⟨a1, len1, cap1, rfl⟩ := okWide_slice Tryz.underlying24 hv1
  obtain ⟨x1, ⟨l1, hl1, hi1, hm1⟩, hr1⟩ := arg_cell readsInts h1 (by simp)
  cases hl1
  refine fn_true (lawSplitOff n0 m0 l1 hb0 hc0) rfl fun j hj => ?_
  simp only [List.length_cons, List.length_nil] at hj
  match j, hj with
  | 0, _ => exact hr0
  | 1, _ => exact hr1
  | j + 2, hj => omega

theorem joinedSplitOffa : (Rows.fnExactSplitOffRow.inPlace == Tryz.checked.prog.inPlace 3) = true := by kernel_rfl
theorem joinedSplitOffb : (Rows.fnExactSplitOffRow.unfollowed == Tryz.checked.prog.unfollowed 3) = true := by kernel_rfl
theorem joinedSplitOffc : (Rows.fnExactSplitOffRow.recurses == Tryz.checked.prog.recurses 3) = true := by kernel_rfl
theorem joinedSplitOffd : (Rows.fnExactSplitOffRow.named == Tryz.checked.prog.varsNamed 3) = true := by kernel_rfl
theorem joinedSplitOff : joinedFacts Tryz.checked.prog 3 Tryz.f3 Rows.fnExactSplitOffSpec Rows.fnExactSplitOffRow = true := by
 unfold joinedFacts
 rw [enterP, liftP, makeP, joinedSplitOffa, joinedSplitOffb, joinedSplitOffc, joinedSplitOffd]
 kernel_rfl
theorem instSplitOff : Tryz.f3.isInstance Tryz.checked.prog Rows.fnExactSplitOffRow.origin Rows.fnExactSplitOffRow.targs := of_decide_eq_true (by kernel_rfl)

theorem claimSplitOff : Rows.FnExactSplitOffSaid :=
 OpenClaim.holds_of_wide (p := Tryz.pinned) (s := Rows.fnExactSplitOffSpec) (c := Rows.fnExactSplitOffRow) 3 Tryz.f3 rfl rfl rfl rfl rfl rfl rfl ⟨rfl, rfl, rfl, rfl, rfl⟩ rfl rfl rfl rfl rfl (by kernel_rfl) Tryz.func3 joinedSplitOff
  instSplitOff (by unfold Func.isWrapper; first | (rw [if_pos (by decide +kernel)]; kernel_rfl) | (rw [if_neg (by decide +kernel)]; exact ⟨rfl, rfl⟩))
  (fun os started H enc _ => liftedSplitOff H enc os started)

end Go.Proofs.YtdebbdepmoecaaaGreat
