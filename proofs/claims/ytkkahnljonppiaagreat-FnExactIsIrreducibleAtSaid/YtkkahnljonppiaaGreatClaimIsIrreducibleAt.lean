/- The program's IsIrreducibleAt returns what the reference's returns, for all arguments. No conditions. -/
import Derived.Test.YtkkahnljonppiaaGreatPj
namespace Go.Proofs.YtkkahnljonppiaaGreat
open Go Go.RowKit Go.Proofs Poly
set_option maxRecDepth 100000
set_option maxHeartbeats 8000000

theorem lawFIsIrreducibleAt (p : Int) (f : List Int)  (both : f.length ≤ 1048576 → ∃ (r0 : Bool) (r1 : Int), (∀ g1 : Option Nat, FnV 11 [.int .i64 p, .ints g1 f] (.tup [.bool r0, .int .i64 r1])) ∧ (∀ g1 : Option Nat, FnV 12 [.int .i64 p, .ints g1 f] (.tup [.bool r0, .int .i64 r1]))) : FnV 4 [.int .i64 p, .ints none f] .tr := by
 refine fn_of (cx_ok [0, 1, 4, 5, 6, 7, 8, 9, 12, 35, 40]) Tryz.func4 rfl (by decide) Tryz.ntmps4 (Nat.le_of_ble_eq_true rfl) fun base => ?_
 refine wrs fun K hK => ?_
 conv => whnf
 refine hK _ ?_
 clear hK K
 refine W.seqK fun K1 hK1 => ?_
 refine wrs fun K hK => ?_
 conv => whnf
 refine hK _ (W.cond ⟨fun hl_f => ?_, fun hl_f => ?_⟩) <;> clear hK K
 ·refine wrs fun K hK => ?_
  conv => whnf
  refine hK _ ?_
  clear hK K
  refine W.ret ?_
  conv => whnf
  exact ⟨.v (.tr), rfl, trivial, rfl⟩
 have hl_f : f.length ≤ 1048576 := by have := of_decide_eq_false hl_f; omega
 refine W.skip (hK1 _ ?_)
 clear hK1 K1
 obtain ⟨r0, r1, hS, hI⟩ := both hl_f
 refine wrs fun K hK => ?_
 conv => whnf
 refine callI rfl (toInts_fn none f (by omega)) fun hs_s1 b_s1 hh_s1 hf_s1 => ?_
 try dsimp only at hh_s1 hf_s1
 conv => whnf
 refine callV rfl (hS _) fun hs' hhs => ?_
 try dsimp only at hhs
 conv => whnf
 refine hK _ ?_
 clear hK K
 refine wrs fun K hK => ?_
 conv => whnf
 refine callI rfl (toInts_fn none f (by omega)) fun hs_x1 b_x1 hh_x1 hf_x1 => ?_
 try dsimp only at hh_x1 hf_x1
 conv => whnf
 refine hK _ ?_
 clear hK K
 refine wrs fun K hK => ?_
 conv => whnf
 refine callV rfl (hI _) fun hs' hhs => ?_
 try dsimp only at hhs
 conv => whnf
 refine hK _ ?_
 clear hK K
 refine W.seqK fun K1 hK1 => ?_
 refine wrs fun K hK => ?_
 conv => whnf
 refine ⟨fun hc0 => ?_, fun hc0 => ?_⟩ <;> conv => whnf
 ·exact absurd hc0 (by simp)
 refine hK _ (W.cond ⟨fun hcc => absurd hcc (by simp), fun _ => W.skip (hK1 _ ?_)⟩)
 clear hK K hK1 K1
 refine W.seqK fun K1 hK1 => ?_
 refine wrs fun K hK => ?_
 conv => whnf
 refine callI rfl (toInts_fn none f (by omega)) fun hs_z1 b_z1 hh_z1 hf_z1 => ?_
 try dsimp only at hh_z1 hf_z1
 conv => whnf
 refine callV rfl (eqInts_same _ _ f (by omega)) fun hs' hhs => ?_
 try dsimp only at hhs
 conv => whnf
 refine hK _ (W.condF rfl (W.skip (hK1 _ ?_)))
 clear hK K hK1 K1
 refine wrs fun K hK => ?_
 conv => whnf
 refine hK _ ?_
 clear hK K
 refine W.ret ?_
 conv => whnf
 exact ⟨.v (.tr), rfl, trivial, rfl⟩

theorem lawIsIrreducibleAt (p : Int) (f : List Int) (h_p : inR p)  : FnV 4 [.int .i64 p, .ints none f] .tr :=
 lawFIsIrreducibleAt p f  (fun hf => IsIrreducibleAt_both p f h_p hf)

open Go Go.RowKit Go.ChangeShapes Go.WideShapes Go.ChangeAt Go.Proofs Go.Proofs.YtkkahnljonppiaaGreat

set_option maxRecDepth 100000 in
theorem liftedIsIrreducibleAt (H : Type) (enc : TypeId × Value → H) (os : Os) (started : os.Started) :
  ReturnsInHanded {} Tryz.checked os 4 .any (Rows.fnExactIsIrreducibleAtSpec.pre6 enc Tryz.prog Tryz.f4 Rows.fnExactIsIrreducibleAtRow.domain false) (Rows.fnExactIsIrreducibleAtSpec.post enc Tryz.prog Tryz.f4 false true false false) := by
 refine law_lifted (C := Tryz.checked) (tb := 4) ownP started (by kernel_rfl) Tryz.func4 laidOutP ?_ rfl (by kernel_rfl) Tryz.underlying4 ?_
  (ChangeSpec.witness6 (enc := enc) (C := Tryz.checked) false ⟨#[], #[.int .i64 0, .slice none 0 0], []⟩ 8 (by kernel_rfl) (by kernel_rfl) (by kernel_rfl) (by kernel_rfl)) ?_
 ·rw [Tryz.params4]
  intro t ht
  simp only [List.mem_cons, List.not_mem_nil, or_false] at ht
  rcases ht with rfl | rfl <;> exact ⟨by kernel_rfl, of_decide_eq_true (by kernel_rfl)⟩
 ·intro ds hds
  match ds, hds with
  | [d0, d1], _ => exact ⟨rfl, rfl, rfl⟩
 ·intro W args ds ps hval hA
  have hval' : ∀ (j : Nat) t v, Tryz.f4.params[j]? = some t → args[j]? = some v → ∃ base, Value.okWide Tryz.prog W .any base t v := hval
  rw [Tryz.params4] at hA hval'
  obtain ⟨v0, v1, d0, d1, q0, q1, hv, rfl, rfl, h0, h1⟩ := trodAll_two hA
  subst hv
  obtain ⟨_, hv0⟩ := hval' 0 2 v0 rfl rfl
  obtain ⟨n0, rfl⟩ := okWide_int Tryz.underlying2 hv0
  obtain ⟨x0, ⟨z0, hz0, hb0⟩, hr0⟩ := arg_cell readsInt h0 (by simp)
  cases hz0
  obtain ⟨_, hv1⟩ := hval' 1 22 v1 rfl rfl
  obtain ⟨a1, len1, cap1, rfl⟩ := okWide_slice Tryz.underlying22 hv1
  obtain ⟨x1, ⟨l1, hl1, hi1, hm1⟩, hr1⟩ := arg_cell readsInts h1 (by simp)
  cases hl1
  refine fn_true (lawIsIrreducibleAt z0 l1 hb0) rfl fun j hj => ?_
  simp only [List.length_cons, List.length_nil] at hj
  match j, hj with
  | 0, _ => exact hr0
  | 1, _ => exact hr1
  | j + 2, hj => omega

theorem joinedIsIrreducibleAta : (Rows.fnExactIsIrreducibleAtRow.inPlace == Tryz.checked.prog.inPlace 4) = true := by kernel_rfl
theorem joinedIsIrreducibleAtb : (Rows.fnExactIsIrreducibleAtRow.unfollowed == Tryz.checked.prog.unfollowed 4) = true := by kernel_rfl
theorem joinedIsIrreducibleAtc : (Rows.fnExactIsIrreducibleAtRow.recurses == Tryz.checked.prog.recurses 4) = true := by kernel_rfl
theorem joinedIsIrreducibleAtd : (Rows.fnExactIsIrreducibleAtRow.named == Tryz.checked.prog.varsNamed 4) = true := by kernel_rfl
theorem joinedIsIrreducibleAt : joinedFacts Tryz.checked.prog 4 Tryz.f4 Rows.fnExactIsIrreducibleAtSpec Rows.fnExactIsIrreducibleAtRow = true := by
 unfold joinedFacts
 rw [enterP, liftP, makeP, joinedIsIrreducibleAta, joinedIsIrreducibleAtb, joinedIsIrreducibleAtc, joinedIsIrreducibleAtd]
 kernel_rfl
theorem instIsIrreducibleAt : Tryz.f4.isInstance Tryz.checked.prog Rows.fnExactIsIrreducibleAtRow.origin Rows.fnExactIsIrreducibleAtRow.targs := of_decide_eq_true (by kernel_rfl)

theorem claimIsIrreducibleAt : Rows.FnExactIsIrreducibleAtSaid :=
 OpenClaim.holds_of_wide (p := Tryz.pinned) (s := Rows.fnExactIsIrreducibleAtSpec) (c := Rows.fnExactIsIrreducibleAtRow) 4 Tryz.f4 rfl rfl rfl rfl rfl rfl rfl ⟨rfl, rfl, rfl, rfl, rfl⟩ rfl rfl rfl rfl rfl (by kernel_rfl) Tryz.func4 joinedIsIrreducibleAt
  instIsIrreducibleAt (by unfold Func.isWrapper; first | (rw [if_pos (by decide +kernel)]; kernel_rfl) | (rw [if_neg (by decide +kernel)]; exact ⟨rfl, rfl⟩))
  (fun os started H enc _ => liftedIsIrreducibleAt H enc os started)

end Go.Proofs.YtkkahnljonppiaaGreat
