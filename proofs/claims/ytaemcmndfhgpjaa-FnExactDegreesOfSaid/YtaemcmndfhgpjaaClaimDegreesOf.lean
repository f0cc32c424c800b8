/- The program's DegreesOf returns what the reference's returns, for all arguments. No conditions. -/
import Derived.Test.YtaemcmndfhgpjaaPh
namespace Go.Proofs.Ytaemcmndfhgpjaa
open Go Go.RowKit Go.Proofs Poly
set_option maxRecDepth 100000
set_option maxHeartbeats 8000000

theorem lawFDegreesOf (p : Int) (f : List Int)  (both : f.length ≤ 1048576 → ∃ (r0 : List Int) (r1 : Int), (∀ g1 : Option Nat, FnV 16 [.int .i64 p, .ints g1 f] (.tup [.ints none r0, .int .i64 r1])) ∧ (∀ g1 : Option Nat, FnT Try.prog 17 [.int .i64 p, .ints g1 f] (fun _ _ x tb => ∃ rb0 : Nat, x = .tup [.rf rb0 r0.length, .int .i64 r1] ∧ (r0 ≠ [] → tb rb0 = some r0))) ∧ r0.length ≤ 1000000) : FnV 5 [.int .i64 p, .ints none f] .tr := by
 refine fn_of (cxt_ok [17] [0, 1, 4, 5, 6, 7, 8, 9, 10, 11, 12, 13, 14, 17, 41, 46, 62, 70, 73, 89, 94, 97, 1000000]) Try.func5 rfl (by decide) Try.ntmps5 (Nat.le_of_ble_eq_true rfl) fun base => ?_
 refine W.tab0 rfl ?_
 refine W.rs (cxt_ok _ _) (by rfl) fun K hK => ?_
 conv => whnf
 refine hK _ ?_
 clear hK K
 refine W.seqK fun K1 hK1 => ?_
 refine W.rs (cxt_ok _ _) (by rfl) fun K hK => ?_
 conv => whnf
 refine hK _ (W.cond ⟨fun hl_f => ?_, fun hl_f => ?_⟩) <;> clear hK K
 ·refine W.rs (cxt_ok _ _) (by rfl) fun K hK => ?_
  conv => whnf
  refine hK _ ?_
  clear hK K
  refine W.ret ?_
  conv => whnf
  exact ⟨.v (.tr), rfl, trivial, rfl⟩
 have hl_f : f.length ≤ 1048576 := by have := of_decide_eq_false hl_f; omega
 refine W.skip (hK1 _ ?_)
 clear hK1 K1
 obtain ⟨r0, r1, hS, hI, hr0⟩ := both hl_f
 refine W.rs (cxt_ok _ _) (by rfl) fun K hK => ?_
 conv => whnf
 refine callI rfl (toInts_fn none f (by omega)) fun hs_s1 b_s1 hh_s1 hf_s1 => ?_
 try dsimp only at hh_s1 hf_s1
 conv => whnf
 refine callV rfl (hS _) fun hs' hhs => ?_
 try dsimp only at hhs
 conv => whnf
 refine hK _ ?_
 clear hK K
 refine W.rs (cxt_ok _ _) (by rfl) fun K hK => ?_
 conv => whnf
 refine callI rfl (toInts_fn none f (by omega)) fun hs_x1 b_x1 hh_x1 hf_x1 => ?_
 try dsimp only at hh_x1 hf_x1
 conv => whnf
 refine hK _ ?_
 clear hK K
 refine W.rs (cxt_ok _ _) (by rfl) fun K hK => ?_
 conv => whnf
 refine ⟨_, cxT (hI _), fun lo_g hi_g hs_g x_g tn_g tb_g hl1_g hl2_g _ hp_g hf_g hn_g ho_g => ?_⟩
 try dsimp only at hl1_g hl2_g
 obtain ⟨gb0, rfl, gh0⟩ := hp_g
 conv => whnf
 refine hK _ ?_
 clear hK K
 have hbd_gb0 : r0 ≠ [] → lo_g ≤ gb0 ∧ gb0 < hs_g := fun h => hf_g _ (by rw [gh0 h]; exact Option.some_ne_none _)
 have hu_gb0 : r0 ≠ [] → tb_g gb0 = some (r0) := fun h => hn_g _ _ (gh0 h)
 refine W.seqK fun K1 hK1 => ?_
 refine W.rs (cxt_ok _ _) (by rfl) fun K hK => ?_
 conv => whnf
 refine ⟨r0, ⟨rfl, hu_gb0⟩, ?_⟩
 conv => whnf
 refine callV rfl (eqInts_same _ _ r0 (by omega)) fun hs' hhs => ?_
 try dsimp only at hhs
 conv => whnf
 refine hK _ (W.cond ⟨fun hcc => absurd hcc (by simp), fun _ => W.skip (hK1 _ ?_)⟩)
 clear hK K hK1 K1
 refine W.seqK fun K1 hK1 => ?_
 refine W.rs (cxt_ok _ _) (by rfl) fun K hK => ?_
 conv => whnf
 refine callI rfl (toInts_fn none f (by omega)) fun hs_z1 b_z1 hh_z1 hf_z1 => ?_
 try dsimp only at hh_z1 hf_z1
 conv => whnf
 refine callV rfl (eqInts_same _ _ f (by omega)) fun hs' hhs => ?_
 try dsimp only at hhs
 conv => whnf
 refine hK _ (W.condF rfl (W.skip (hK1 _ ?_)))
 clear hK K hK1 K1
 refine W.rs (cxt_ok _ _) (by rfl) fun K hK => ?_
 conv => whnf
 refine hK _ ?_
 clear hK K
 refine W.rs (cxt_ok _ _) (by rfl) fun K hK => ?_
 conv => whnf
 refine ⟨⟨rfl, rfl⟩, ?_⟩
 conv => whnf
 refine ⟨rfl, _, markInts_fn _ b_x1 f (1) (by omega) (by omega) tb_g, ?_⟩
 rintro hsk1 av x' t' hhk1 ⟨rfl, rfl, rfl⟩ _ _ _
 try dsimp only at hhk1
 conv => whnf
 refine hK _ ?_
 clear hK K
 refine W.seqK fun K1 hK1 => ?_
 refine W.rs (cxt_ok _ _) (by rfl) fun K hK => ?_
 conv => whnf
 refine ⟨fun hkk => ?_, fun hkk => ?_⟩ <;> conv => whnf
 ·have hkk := of_decide_eq_true hkk; omega
 refine ⟨r0, ⟨rfl, hu_gb0⟩, ?_⟩
 conv => whnf
 refine callV rfl (eqInts_same _ _ r0 (by omega)) fun hs' hhs => ?_
 try dsimp only at hhs
 conv => whnf
 refine hK _ (W.cond ⟨fun hcc => absurd hcc (by simp), fun _ => W.skip (hK1 _ ?_)⟩)
 clear hK K hK1 K1
 refine W.rs (cxt_ok _ _) (by rfl) fun K hK => ?_
 conv => whnf
 refine hK _ ?_
 clear hK K
 refine W.rs (cxt_ok _ _) (by rfl) fun K hK => ?_
 conv => whnf
 refine ⟨⟨rfl, rfl⟩, ?_⟩
 conv => whnf
 refine ⟨rfl, _, markRf_fn gb0 r0.length (1) (by omega) (by omega) tb_g (fun h => ⟨r0, rfl, hu_gb0 (fun e => h (by rw [e]; rfl))⟩), ?_⟩
 rintro hsm0 av x' t' hhm0 ⟨rfl, rfl, tb_m0, rfl, hb_m0, ho_m0⟩ _ _ _
 try dsimp only at hhm0
 conv => whnf
 refine hK _ ?_
 clear hK K
 have hm_m0_gb0 : r0 ≠ [] → tb_m0 gb0 = some (marks (1) r0.length) := fun h => hb_m0 (fun e => h (List.eq_nil_of_length_eq_zero e))
 refine W.rs (cxt_ok _ _) (by rfl) fun K hK => ?_
 conv => whnf
 refine hK _ ?_
 clear hK K
 refine W.rs (cxt_ok _ _) (by rfl) fun K hK => ?_
 conv => whnf
 refine ⟨marks (1) r0.length, ⟨marks_length .., fun h => hm_m0_gb0 (marks_ne h)⟩, ?_⟩
 conv => whnf
 refine callV rfl (held_fn _ (1) r0.length (by omega) (by omega)) fun hs' hhs => ?_
 try dsimp only at hhs
 conv => whnf
 refine hK _ ?_
 clear hK K
 refine W.seqK fun K1 hK1 => ?_
 refine W.rs (cxt_ok _ _) (by rfl) fun K hK => ?_
 conv => whnf
 refine hK _ (W.cond ⟨fun h7 => (by have := of_decide_eq_true h7; omega), fun _ => W.skip (hK1 _ ?_)⟩)
 clear hK K hK1 K1
 refine W.seqK fun K1 hK1 => ?_
 refine W.rs (cxt_ok _ _) (by rfl) fun K hK => ?_
 conv => whnf
 refine hK _ (W.cond ⟨fun hcc => absurd rfl (of_decide_eq_true hcc), fun _ => W.skip (hK1 _ ?_)⟩)
 clear hK K hK1 K1
 refine W.rs (cxt_ok _ _) (by rfl) fun K hK => ?_
 conv => whnf
 refine callI rfl (toInts_fn none f (by omega)) fun hs_t1 b_t1 hh_t1 hf_t1 => ?_
 try dsimp only at hh_t1 hf_t1
 conv => whnf
 refine ⟨_, cxT (hI _), fun lo_h hi_h hs_h x_h tn_h tb_h hl1_h hl2_h _ hp_h hf_h hn_h ho_h => ?_⟩
 try dsimp only at hl1_h hl2_h
 obtain ⟨hb0, rfl, hh0⟩ := hp_h
 conv => whnf
 refine hK _ ?_
 clear hK K
 have hm_m0_gb0_h : r0 ≠ [] → tb_h gb0 = some (marks (1) r0.length) := fun h => ho_h _ _ (hm_m0_gb0 h)
 have hbd_hb0 : r0 ≠ [] → lo_h ≤ hb0 ∧ hb0 < hs_h := fun h => hf_h _ (by rw [hh0 h]; exact Option.some_ne_none _)
 have hu_hb0 : r0 ≠ [] → tb_h hb0 = some (r0) := fun h => hn_h _ _ (hh0 h)
 refine W.seqK fun K1 hK1 => ?_
 refine W.rs (cxt_ok _ _) (by rfl) fun K hK => ?_
 conv => whnf
 refine ⟨r0, ⟨rfl, hu_hb0⟩, ?_⟩
 conv => whnf
 refine callV rfl (eqInts_same _ _ r0 (by omega)) fun hs' hhs => ?_
 try dsimp only at hhs
 conv => whnf
 refine hK _ (W.cond ⟨fun hcc => absurd hcc (by simp), fun _ => W.skip (hK1 _ ?_)⟩)
 clear hK K hK1 K1
 refine W.rs (cxt_ok _ _) (by rfl) fun K hK => ?_
 conv => whnf
 refine hK _ ?_
 clear hK K
 refine W.rs (cxt_ok _ _) (by rfl) fun K hK => ?_
 conv => whnf
 refine ⟨marks (1) r0.length, ⟨marks_length .., fun h => hm_m0_gb0_h (marks_ne h)⟩, ?_⟩
 conv => whnf
 refine callV rfl (held_fn _ (1) r0.length (by omega) (by omega)) fun hs' hhs => ?_
 try dsimp only at hhs
 conv => whnf
 refine hK _ ?_
 clear hK K
 refine W.seqK fun K1 hK1 => ?_
 refine W.rs (cxt_ok _ _) (by rfl) fun K hK => ?_
 conv => whnf
 refine hK _ (W.cond ⟨fun h7 => (by have := of_decide_eq_true h7; omega), fun _ => W.skip (hK1 _ ?_)⟩)
 clear hK K hK1 K1
 refine W.seqK fun K1 hK1 => ?_
 refine W.rs (cxt_ok _ _) (by rfl) fun K hK => ?_
 conv => whnf
 refine hK _ (W.cond ⟨fun hcc => absurd rfl (of_decide_eq_true hcc), fun _ => W.skip (hK1 _ ?_)⟩)
 clear hK K hK1 K1
 refine W.rs (cxt_ok _ _) (by rfl) fun K hK => ?_
 conv => whnf
 refine hK _ ?_
 clear hK K
 refine W.ret ?_
 conv => whnf
 exact ⟨.v (.tr), rfl, trivial, rfl⟩

theorem lawDegreesOf (p : Int) (f : List Int) (h_p : inR p)  : FnV 5 [.int .i64 p, .ints none f] .tr :=
 lawFDegreesOf p f  (fun hf => DegreesOf_both p f h_p hf)

open Go Go.RowKit Go.ChangeShapes Go.WideShapes Go.ChangeAt Go.Proofs Go.Proofs.Ytaemcmndfhgpjaa

set_option maxRecDepth 100000 in
theorem liftedDegreesOf (H : Type) (enc : TypeId × Value → H) (os : Os) (started : os.Started) :
  ReturnsInHanded {} Try.checked os 5 .any (Rows.fnExactDegreesOfSpec.pre6 enc Try.prog Try.f5 Rows.fnExactDegreesOfRow.domain false) (Rows.fnExactDegreesOfSpec.post enc Try.prog Try.f5 false true false false) := by
 refine law_lifted (C := Try.checked) (tb := 4) ownP started (by kernel_rfl) Try.func5 laidOutP ?_ rfl (by kernel_rfl) Try.underlying4 ?_
  (ChangeSpec.witness6 (enc := enc) (C := Try.checked) false ⟨#[], #[.int .i64 0, .slice none 0 0], []⟩ 8 (by kernel_rfl) (by kernel_rfl) (by kernel_rfl) (by kernel_rfl)) ?_
 ·rw [Try.params5]
  intro t ht
  simp only [List.mem_cons, List.not_mem_nil, or_false] at ht
  rcases ht with rfl | rfl <;> exact ⟨by kernel_rfl, of_decide_eq_true (by kernel_rfl)⟩
 ·intro ds hds
  match ds, hds with
  | [d0, d1], _ => exact ⟨rfl, rfl, rfl⟩
 ·intro W args ds ps hval hA
  have hval' : ∀ (j : Nat) t v, Try.f5.params[j]? = some t → args[j]? = some v → ∃ base, Value.okWide Try.prog W .any base t v := hval
  rw [Try.params5] at hA hval'
  obtain ⟨v0, v1, d0, d1, q0, q1, hv, rfl, rfl, h0, h1⟩ := trodAll_two hA
  subst hv
  obtain ⟨_, hv0⟩ := hval' 0 2 v0 rfl rfl
  obtain ⟨n0, rfl⟩ := okWide_int Try.underlying2 hv0
  obtain ⟨x0, ⟨z0, hz0, hb0⟩, hr0⟩ := arg_cell readsInt h0 (by simp)
  cases hz0
  obtain ⟨_, hv1⟩ := hval' 1 22 v1 rfl rfl
  obtain ⟨a1, len1, cap1, rfl⟩ := okWide_slice Try.underlying22 hv1
  obtain ⟨x1, ⟨l1, hl1, hi1, hm1⟩, hr1⟩ := arg_cell readsInts h1 (by simp)
  cases hl1
  refine fn_true (lawDegreesOf z0 l1 hb0) rfl fun j hj => ?_
  simp only [List.length_cons, List.length_nil] at hj
  match j, hj with
  | 0, _ => exact hr0
  | 1, _ => exact hr1
  | j + 2, hj => omega

theorem joinedDegreesOfa : (Rows.fnExactDegreesOfRow.inPlace == Try.checked.prog.inPlace 5) = true := by kernel_rfl
theorem joinedDegreesOfb : (Rows.fnExactDegreesOfRow.unfollowed == Try.checked.prog.unfollowed 5) = true := by kernel_rfl
theorem joinedDegreesOfc : (Rows.fnExactDegreesOfRow.recurses == Try.checked.prog.recurses 5) = true := by kernel_rfl
theorem joinedDegreesOfd : (Rows.fnExactDegreesOfRow.named == Try.checked.prog.varsNamed 5) = true := by kernel_rfl
theorem joinedDegreesOf : joinedFacts Try.checked.prog 5 Try.f5 Rows.fnExactDegreesOfSpec Rows.fnExactDegreesOfRow = true := by
 unfold joinedFacts
 rw [enterP, liftP, makeP, joinedDegreesOfa, joinedDegreesOfb, joinedDegreesOfc, joinedDegreesOfd]
 kernel_rfl
theorem instDegreesOf : Try.f5.isInstance Try.checked.prog Rows.fnExactDegreesOfRow.origin Rows.fnExactDegreesOfRow.targs := of_decide_eq_true (by kernel_rfl)

theorem claimDegreesOf : Rows.FnExactDegreesOfSaid :=
 OpenClaim.holds_of_wide (p := Try.pinned) (s := Rows.fnExactDegreesOfSpec) (c := Rows.fnExactDegreesOfRow) 5 Try.f5 rfl rfl rfl rfl rfl rfl rfl ⟨rfl, rfl, rfl, rfl, rfl⟩ rfl rfl rfl rfl rfl (by kernel_rfl) Try.func5 joinedDegreesOf
  instDegreesOf (by unfold Func.isWrapper; first | (rw [if_pos (by decide +kernel)]; kernel_rfl) | (rw [if_neg (by decide +kernel)]; exact ⟨rfl, rfl⟩))
  (fun os started H enc _ => liftedDegreesOf H enc os started)

end Go.Proofs.Ytaemcmndfhgpjaa
