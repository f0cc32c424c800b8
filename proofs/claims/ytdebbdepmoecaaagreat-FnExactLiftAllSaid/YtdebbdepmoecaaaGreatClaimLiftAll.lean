/- The program's LiftAll returns what the reference's returns, for all arguments. No conditions. -/
import Derived.Test.YtdebbdepmoecaaaGreatPj
namespace Go.Proofs.YtdebbdepmoecaaaGreat
open Go Go.RowKit Go.Proofs Poly
set_option maxRecDepth 100000
set_option maxHeartbeats 8000000

theorem lawFLiftAll (rp rq : Int) (f : List Int)  (both : f.length ≤ 1048576 → ∃ (r0 : List (List Int)) (r1 : Int), (∀ g1 : Option Nat, FnV 12 [vR rp rq, .ints g1 f] (.tup [vLL r0, .int .i64 r1])) ∧ (∀ g1 : Option Nat, FnT Tryz.prog 13 [vR rp rq, .ints g1 f] (RTS r0 r1)) ∧ r0.length ≤ 100000 ∧ (∀ j, (r0.getD j []).length ≤ 100000)) : FnV 4 [vR rp rq, .ints none f] .tr := by
 refine fn_of (cxt_ok [13] [0, 1, 2, 4, 5, 6, 7, 8, 9, 10, 11, 12, 13, 14, 17, 43, 48, 64, 72, 75, 92, 97, 100, 1000000]) Tryz.func4 rfl (by decide) Tryz.ntmps4 (Nat.le_of_ble_eq_true rfl) fun base => ?_
 refine W.tab0 rfl ?_
 refine W.rs (cxt_ok _ _) (by rfl) fun K hK => ?_
 conv => whnf
 refine ⟨rfl, ?_⟩
 conv => whnf
 intro b_p0 hs_p0 hh_p0 hf_p0
 try dsimp only at hh_p0 hf_p0
 conv => whnf
 refine hK _ ?_
 clear hK K
 refine W.seqK fun K1 hK1 => ?_
 refine W.rs (cxt_ok _ _) (by rfl) fun K hK => ?_
 conv => whnf
 refine hK _ (W.cond ⟨fun hl_f => ?_, fun hl_f => ?_⟩) <;> clear hK K
 ·refine W.rs (cxt_ok _ _) (by rfl) fun K hK => ?_
  conv => whnf
  refine hK _ ?_
  clear hK K
  refine W.ret ?_
  conv => whnf
  exact ⟨.v (.tr), rfl, trivial, rfl⟩
 have hl_f : f.length ≤ 1048576 := by have := of_decide_eq_false hl_f; omega
 refine W.skip (hK1 _ ?_)
 clear hK1 K1
 obtain ⟨r0, r1, hS, hI, hr0, hrl⟩ := both hl_f
 refine W.rs (cxt_ok _ _) (by rfl) fun K hK => ?_
 conv => whnf
 refine callV rfl (toRing_V rp rq) fun hs' hhs => ?_
 try dsimp only at hhs
 conv => whnf
 refine callI rfl (toInts_fn none f (by omega)) fun hs_s1 b_s1 hh_s1 hf_s1 => ?_
 try dsimp only at hh_s1 hf_s1
 conv => whnf
 refine callV rfl (hS _) fun hs' hhs => ?_
 try dsimp only at hhs
 conv => whnf
 refine hK _ ?_
 clear hK K
 refine W.rs (cxt_ok _ _) (by rfl) fun K hK => ?_
 conv => whnf
 refine callI rfl (toInts_fn none f (by omega)) fun hs_x1 b_x1 hh_x1 hf_x1 => ?_
 try dsimp only at hh_x1 hf_x1
 conv => whnf
 refine hK _ ?_
 clear hK K
 refine W.rs (cxt_ok _ _) (by rfl) fun K hK => ?_
 conv => whnf
 refine callV rfl (toRing_V rp rq) fun hs' hhs => ?_
 try dsimp only at hhs
 conv => whnf
 refine ⟨_, cxT (hI _), fun lo_g hi_g hs_g x_g tn_g tb_g hl1_g hl2_g _ hp_g hf_g hn_g ho_g => ?_⟩
 try dsimp only at hl1_g hl2_g
 obtain ⟨gbs, rfl, gh, gd⟩ := hp_g
 conv => whnf
 refine hK _ ?_
 clear hK K
 have hbd_gbs : ∀ j, j < r0.length → r0.getD j [] ≠ [] → lo_g ≤ gbs j ∧ gbs j < hs_g := fun j hj h => hf_g _ (by rw [gh j hj h]; exact Option.some_ne_none _)
 have hu_gbs : ∀ j, j < r0.length → r0.getD j [] ≠ [] → tb_g (gbs j) = some (r0.getD j []) := fun j hj h => hn_g _ _ (gh j hj h)
 refine W.seqK fun K1 hK1 => ?_
 refine W.rs (cxt_ok _ _) (by rfl) fun K hK => ?_
 conv => whnf
 refine ⟨fun j => .ints (some (gbs j)) (r0.getD j []), fun j hj => ⟨r0.getD j [], rfl, hu_gbs j hj, rfl⟩, ?_⟩
 conv => whnf
 refine ⟨fun j => .ints none (r0.getD j []), fun j hj => rfl, ?_⟩
 conv => whnf
 refine callV rfl (eqTable_same _ r0 (by omega) (fun j => by have := hrl j; omega)) fun hs' hhs => ?_
 try dsimp only at hhs
 conv => whnf
 refine hK _ (W.cond ⟨fun hcc => absurd hcc (by simp), fun _ => W.skip (hK1 _ ?_)⟩)
 clear hK K hK1 K1
 refine W.seqK fun K1 hK1 => ?_
 refine W.rs (cxt_ok _ _) (by rfl) fun K hK => ?_
 conv => whnf
 refine callI rfl (toInts_fn none f (by omega)) fun hs_z1 b_z1 hh_z1 hf_z1 => ?_
 try dsimp only at hh_z1 hf_z1
 conv => whnf
 refine callV rfl (eqInts_same _ _ f (by omega)) fun hs' hhs => ?_
 try dsimp only at hhs
 conv => whnf
 refine hK _ (W.condF rfl (W.skip (hK1 _ ?_)))
 clear hK K hK1 K1
 refine W.rs (cxt_ok _ _) (by rfl) fun K hK => ?_
 conv => whnf
 refine hK _ ?_
 clear hK K
 refine W.rs (cxt_ok _ _) (by rfl) fun K hK => ?_
 conv => whnf
 refine ⟨⟨rfl, rfl⟩, ?_⟩
 conv => whnf
 refine ⟨rfl, _, markInts_fn _ b_x1 f (1) (by omega) (by omega) tb_g, ?_⟩
 rintro hsk1 av x' t' hhk1 ⟨rfl, rfl, rfl⟩ _ _ _
 try dsimp only at hhk1
 conv => whnf
 refine hK _ ?_
 clear hK K
 refine W.seqK fun K1 hK1 => ?_
 refine W.rs (cxt_ok _ _) (by rfl) fun K hK => ?_
 conv => whnf
 refine ⟨fun hkk => ?_, fun hkk => ?_⟩ <;> conv => whnf
 ·have hkk := of_decide_eq_true hkk; omega
 refine ⟨fun j => .ints (some (gbs j)) (r0.getD j []), fun j hj => ⟨r0.getD j [], rfl, hu_gbs j hj, rfl⟩, ?_⟩
 conv => whnf
 refine ⟨fun j => .ints none (r0.getD j []), fun j hj => rfl, ?_⟩
 conv => whnf
 refine callV rfl (eqTable_same _ r0 (by omega) (fun j => by have := hrl j; omega)) fun hs' hhs => ?_
 try dsimp only at hhs
 conv => whnf
 refine hK _ (W.cond ⟨fun hcc => absurd hcc (by simp), fun _ => W.skip (hK1 _ ?_)⟩)
 clear hK K hK1 K1
 refine W.rs (cxt_ok _ _) (by rfl) fun K hK => ?_
 conv => whnf
 refine hK _ ?_
 clear hK K
 refine W.rs (cxt_ok _ _) (by rfl) fun K hK => ?_
 conv => whnf
 refine ⟨⟨rfl, rfl⟩, ?_⟩
 conv => whnf
 refine ⟨rfl, _, markTable_fn gbs r0 1 (by omega) (by omega) (fun j => by have := hrl j; omega) tb_g hu_gbs gd, ?_⟩
 rintro hsm0 av x' t' hhm0 ⟨rfl, rfl, tb_m0, rfl, hb_m0, ho_m0⟩ _ _ _
 try dsimp only at hhm0
 conv => whnf
 refine hK _ ?_
 clear hK K
 have hmf_m0 : ∀ j, j < r0.length → r0.getD j [] ≠ [] → tb_m0 (gbs j) = some (mkT 1 r0 j) := hb_m0
 refine W.rs (cxt_ok _ _) (by rfl) fun K hK => ?_
 conv => whnf
 refine hK _ ?_
 clear hK K
 refine W.rs (cxt_ok _ _) (by rfl) fun K hK => ?_
 conv => whnf
 refine ⟨fun j => .ints (some (gbs j)) (mkT 1 r0 j), fun j hj => ⟨mkT 1 r0 j, mkT_length .., fun hne => hmf_m0 j hj (mkT_ne hne), rfl⟩, ?_⟩
 conv => whnf
 refine callV rfl (heldTable_fn _ r0 1 (by omega) (by omega) (fun j => by have := hrl j; omega)) fun hs' hhs => ?_
 try dsimp only at hhs
 conv => whnf
 refine hK _ ?_
 clear hK K
 refine W.seqK fun K1 hK1 => ?_
 refine W.rs (cxt_ok _ _) (by rfl) fun K hK => ?_
 conv => whnf
 refine hK _ (W.cond ⟨fun h7 => (by have := of_decide_eq_true h7; omega), fun _ => W.skip (hK1 _ ?_)⟩)
 clear hK K hK1 K1
 refine W.seqK fun K1 hK1 => ?_
 refine W.rs (cxt_ok _ _) (by rfl) fun K hK => ?_
 conv => whnf
 refine hK _ (W.cond ⟨fun hcc => absurd rfl (of_decide_eq_true hcc), fun _ => W.skip (hK1 _ ?_)⟩)
 clear hK K hK1 K1
 refine W.rs (cxt_ok _ _) (by rfl) fun K hK => ?_
 conv => whnf
 refine callV rfl (toRing_V rp rq) fun hs' hhs => ?_
 try dsimp only at hhs
 conv => whnf
 refine callI rfl (toInts_fn none f (by omega)) fun hs_t1 b_t1 hh_t1 hf_t1 => ?_
 try dsimp only at hh_t1 hf_t1
 conv => whnf
 refine ⟨_, cxT (hI _), fun lo_h hi_h hs_h x_h tn_h tb_h hl1_h hl2_h _ hp_h hf_h hn_h ho_h => ?_⟩
 try dsimp only at hl1_h hl2_h
 obtain ⟨hbs, rfl, hh, hd⟩ := hp_h
 conv => whnf
 refine hK _ ?_
 clear hK K
 have hq99_gbs : ∀ j, j < r0.length → r0.getD j [] ≠ [] → tb_h (gbs j) = some (mkT 1 r0 j) := fun j hj h => ho_h _ _ (hmf_m0 j hj h)
 have hbd_hbs : ∀ j, j < r0.length → r0.getD j [] ≠ [] → lo_h ≤ hbs j ∧ hbs j < hs_h := fun j hj h => hf_h _ (by rw [hh j hj h]; exact Option.some_ne_none _)
 have hu_hbs : ∀ j, j < r0.length → r0.getD j [] ≠ [] → tb_h (hbs j) = some (r0.getD j []) := fun j hj h => hn_h _ _ (hh j hj h)
 refine W.seqK fun K1 hK1 => ?_
 refine W.rs (cxt_ok _ _) (by rfl) fun K hK => ?_
 conv => whnf
 refine ⟨fun j => .ints (some (hbs j)) (r0.getD j []), fun j hj => ⟨r0.getD j [], rfl, hu_hbs j hj, rfl⟩, ?_⟩
 conv => whnf
 refine ⟨fun j => .ints none (r0.getD j []), fun j hj => rfl, ?_⟩
 conv => whnf
 refine callV rfl (eqTable_same _ r0 (by omega) (fun j => by have := hrl j; omega)) fun hs' hhs => ?_
 try dsimp only at hhs
 conv => whnf
 refine hK _ (W.cond ⟨fun hcc => absurd hcc (by simp), fun _ => W.skip (hK1 _ ?_)⟩)
 clear hK K hK1 K1
 refine W.rs (cxt_ok _ _) (by rfl) fun K hK => ?_
 conv => whnf
 refine hK _ ?_
 clear hK K
 refine W.rs (cxt_ok _ _) (by rfl) fun K hK => ?_
 conv => whnf
 refine ⟨fun j => .ints (some (gbs j)) (mkT 1 r0 j), fun j hj => ⟨mkT 1 r0 j, mkT_length .., fun hne => hq99_gbs j hj (mkT_ne hne), rfl⟩, ?_⟩
 conv => whnf
 refine callV rfl (heldTable_fn _ r0 1 (by omega) (by omega) (fun j => by have := hrl j; omega)) fun hs' hhs => ?_
 try dsimp only at hhs
 conv => whnf
 refine hK _ ?_
 clear hK K
 refine W.seqK fun K1 hK1 => ?_
 refine W.rs (cxt_ok _ _) (by rfl) fun K hK => ?_
 conv => whnf
 refine hK _ (W.cond ⟨fun h7 => (by have := of_decide_eq_true h7; omega), fun _ => W.skip (hK1 _ ?_)⟩)
 clear hK K hK1 K1
 refine W.seqK fun K1 hK1 => ?_
 refine W.rs (cxt_ok _ _) (by rfl) fun K hK => ?_
 conv => whnf
 refine hK _ (W.cond ⟨fun hcc => absurd rfl (of_decide_eq_true hcc), fun _ => W.skip (hK1 _ ?_)⟩)
 clear hK K hK1 K1
 refine W.rs (cxt_ok _ _) (by rfl) fun K hK => ?_
 conv => whnf
 refine hK _ ?_
 clear hK K
 refine W.ret ?_
 conv => whnf
 exact ⟨.v (.tr), rfl, trivial, rfl⟩

theorem lawLiftAll (rp rq : Int) (f : List Int) (h_rp : inR rp) (h_rq : inR rq)  : FnV 4 [vR rp rq, .ints none f] .tr :=
 lawFLiftAll rp rq f  (fun hf => LiftAll_both rp rq f h_rp h_rq hf)

open Go Go.RowKit Go.ChangeShapes Go.WideShapes Go.ChangeAt Go.Proofs Go.Proofs.YtdebbdepmoecaaaGreat

set_option maxRecDepth 100000 in
theorem liftedLiftAll (H : Type) (enc : TypeId × Value → H) (os : Os) (started : os.Started) :
  ReturnsInHanded {} Tryz.checked os 4 .any (Rows.fnExactLiftAllSpec.pre6 enc Tryz.prog Tryz.f4 Rows.fnExactLiftAllRow.domain false) (Rows.fnExactLiftAllSpec.post enc Tryz.prog Tryz.f4 false true false false) := by
 refine law_lifted (C := Tryz.checked) (tb := 4) ownP started (by kernel_rfl) Tryz.func4 laidOutP ?_ rfl (by kernel_rfl) Tryz.underlying4 ?_
  (ChangeSpec.witness6 (enc := enc) (C := Tryz.checked) false ⟨#[], #[.agg #[.int .i64 0, .int .i64 0], .slice none 0 0], []⟩ 8 (by kernel_rfl) (by kernel_rfl) (by kernel_rfl) (by kernel_rfl)) ?_
 ·rw [Tryz.params4]
  intro t ht
  simp only [List.mem_cons, List.not_mem_nil, or_false] at ht
  rcases ht with rfl | rfl <;> exact ⟨by kernel_rfl, of_decide_eq_true (by kernel_rfl)⟩
 ·intro ds hds
  match ds, hds with
  | [d0, d1], _ => exact ⟨rfl, rfl, rfl⟩
 ·intro W args ds ps hval hA
  have hval' : ∀ (j : Nat) t v, Tryz.f4.params[j]? = some t → args[j]? = some v → ∃ base, Value.okWide Tryz.prog W .any base t v := hval
  rw [Tryz.params4] at hA hval'
  obtain ⟨v0, v1, d0, d1, q0, q1, hv, rfl, rfl, h0, h1⟩ := trodAll_two hA
  subst hv
  obtain ⟨_, hv0⟩ := hval' 0 23 v0 rfl rfl
  obtain ⟨cs0, rfl, _⟩ := okWide_struct Tryz.underlying23 hv0
  obtain ⟨xs0, hx0, hr0⟩ := arg_agg readsRing h0
  obtain ⟨ys0, zs0, rfl, ⟨n0, rfl, hb0⟩, us0, ws0, rfl, ⟨m0, rfl, hc0⟩, rfl⟩ := hx0
  obtain ⟨_, hv1⟩ := hval' 1 24 v1 rfl rfl
  obtain ⟨a1, len1, cap1, rfl⟩ := okWide_slice Tryz.underlying24 hv1
  obtain ⟨x1, ⟨l1, hl1, hi1, hm1⟩, hr1⟩ := arg_cell readsInts h1 (by simp)
  cases hl1
  refine fn_true (lawLiftAll n0 m0 l1 hb0 hc0) rfl fun j hj => ?_
  simp only [List.length_cons, List.length_nil] at hj
  match j, hj with
  | 0, _ => exact hr0
  | 1, _ => exact hr1
  | j + 2, hj => omega

theorem joinedLiftAlla : (Rows.fnExactLiftAllRow.inPlace == Tryz.checked.prog.inPlace 4) = true := by kernel_rfl
theorem joinedLiftAllb : (Rows.fnExactLiftAllRow.unfollowed == Tryz.checked.prog.unfollowed 4) = true := by kernel_rfl
theorem joinedLiftAllc : (Rows.fnExactLiftAllRow.recurses == Tryz.checked.prog.recurses 4) = true := by kernel_rfl
theorem joinedLiftAlld : (Rows.fnExactLiftAllRow.named == Tryz.checked.prog.varsNamed 4) = true := by kernel_rfl
theorem joinedLiftAll : joinedFacts Tryz.checked.prog 4 Tryz.f4 Rows.fnExactLiftAllSpec Rows.fnExactLiftAllRow = true := by
 unfold joinedFacts
 rw [enterP, liftP, makeP, joinedLiftAlla, joinedLiftAllb, joinedLiftAllc, joinedLiftAlld]
 kernel_rfl
theorem instLiftAll : Tryz.f4.isInstance Tryz.checked.prog Rows.fnExactLiftAllRow.origin Rows.fnExactLiftAllRow.targs := of_decide_eq_true (by kernel_rfl)

theorem claimLiftAll : Rows.FnExactLiftAllSaid :=
 OpenClaim.holds_of_wide (p := Tryz.pinned) (s := Rows.fnExactLiftAllSpec) (c := Rows.fnExactLiftAllRow) 4 Tryz.f4 rfl rfl rfl rfl rfl rfl rfl ⟨rfl, rfl, rfl, rfl, rfl⟩ rfl rfl rfl rfl rfl (by kernel_rfl) Tryz.func4 joinedLiftAll
  instLiftAll (by unfold Func.isWrapper; first | (rw [if_pos (by decide +kernel)]; kernel_rfl) | (rw [if_neg (by decide +kernel)]; exact ⟨rfl, rfl⟩))
  (fun os started H enc _ => liftedLiftAll H enc os started)

end Go.Proofs.YtdebbdepmoecaaaGreat
