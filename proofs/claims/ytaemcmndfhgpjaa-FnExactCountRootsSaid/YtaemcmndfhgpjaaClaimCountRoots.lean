/- The program's CountRoots returns what the reference's returns, for all arguments. No conditions. -/
import Derived.Test.YtaemcmndfhgpjaaPh
namespace Go.Proofs.Ytaemcmndfhgpjaa
open Go Go.RowKit Go.Proofs Poly
set_option maxRecDepth 100000
set_option maxHeartbeats 8000000

theorem lawFCountRoots (p : Int) (f : List Int)  (both : f.length ≤ 1048576 → ∃ (r0 : Int) (r1 : Int), (∀ g1 : Option Nat, FnV 14 [.int .i64 p, .ints g1 f] (.tup [.int .i64 r0, .int .i64 r1])) ∧ (∀ g1 : Option Nat, FnV 15 [.int .i64 p, .ints g1 f] (.tup [.int .i64 r0, .int .i64 r1]))) : FnV 4 [.int .i64 p, .ints none f] .tr := by
 refine fn_of (cx_ok [0, 1, 4, 5, 6, 7, 8, 9, 12, 35, 40]) Try.func4 rfl (by decide) Try.ntmps4 (Nat.le_of_ble_eq_true rfl) fun base => ?_
 refine W.rs (cx_ok _) (by rfl) fun K hK => ?_
 conv => whnf
 refine hK _ ?_
 clear hK K
 refine W.seqK fun K1 hK1 => ?_
 refine W.rs (cx_ok _) (by rfl) fun K hK => ?_
 conv => whnf
 refine hK _ (W.cond ⟨fun hl_f => ?_, fun hl_f => ?_⟩) <;> clear hK K
 ·refine W.rs (cx_ok _) (by rfl) fun K hK => ?_
  conv => whnf
  refine hK _ ?_
  clear hK K
  refine W.ret ?_
  conv => whnf
  exact ⟨.v (.tr), rfl, trivial, rfl⟩
 have hl_f : f.length ≤ 1048576 := by have := of_decide_eq_false hl_f; omega
 refine W.skip (hK1 _ ?_)
 clear hK1 K1
 obtain ⟨r0, r1, hS, hI⟩ := both hl_f
 refine W.rs (cx_ok _) (by rfl) fun K hK => ?_
 conv => whnf
 refine callI rfl (toInts_fn none f (by omega)) fun hs_s1 b_s1 hh_s1 hf_s1 => ?_
 try dsimp only at hh_s1 hf_s1
 conv => whnf
 refine callV rfl (hS _) fun hs' hhs => ?_
 try dsimp only at hhs
 conv => whnf
 refine hK _ ?_
 clear hK K
 refine W.rs (cx_ok _) (by rfl) fun K hK => ?_
 conv => whnf
 refine callI rfl (toInts_fn none f (by omega)) fun hs_x1 b_x1 hh_x1 hf_x1 => ?_
 try dsimp only at hh_x1 hf_x1
 conv => whnf
 refine hK _ ?_
 clear hK K
 refine W.rs (cx_ok _) (by rfl) fun K hK => ?_
 conv => whnf
 refine callV rfl (hI _) fun hs' hhs => ?_
 try dsimp only at hhs
 conv => whnf
 refine hK _ ?_
 clear hK K
 refine W.seqK fun K1 hK1 => ?_
 refine W.rs (cx_ok _) (by rfl) fun K hK => ?_
 conv => whnf
 refine ⟨fun hc0 => ?_, fun hc0 => ?_⟩ <;> conv => whnf
 ·exact absurd hc0 (by simp)
 refine hK _ (W.cond ⟨fun hcc => absurd hcc (by simp), fun _ => W.skip (hK1 _ ?_)⟩)
 clear hK K hK1 K1
 refine W.seqK fun K1 hK1 => ?_
 refine W.rs (cx_ok _) (by rfl) fun K hK => ?_
 conv => whnf
 refine callI rfl (toInts_fn none f (by omega)) fun hs_z1 b_z1 hh_z1 hf_z1 => ?_
 try dsimp only at hh_z1 hf_z1
 conv => whnf
 refine callV rfl (eqInts_same _ _ f (by omega)) fun hs' hhs => ?_
 try dsimp only at hhs
 conv => whnf
 refine hK _ (W.condF rfl (W.skip (hK1 _ ?_)))
 clear hK K hK1 K1
 refine W.rs (cx_ok _) (by rfl) fun K hK => ?_
 conv => whnf
 refine hK _ ?_
 clear hK K
 refine W.ret ?_
 conv => whnf
 exact ⟨.v (.tr), rfl, trivial, rfl⟩

theorem lawCountRoots (p : Int) (f : List Int) (h_p : inR p)  : FnV 4 [.int .i64 p, .ints none f] .tr :=
 lawFCountRoots p f  (fun hf => CountRoots_both p f h_p hf)

open Go Go.RowKit Go.ChangeShapes Go.WideShapes Go.ChangeAt Go.Proofs Go.Proofs.Ytaemcmndfhgpjaa

set_option maxRecDepth 100000 in
theorem liftedCountRoots (H : Type) (enc : TypeId × Value → H) (os : Os) (started : os.Started) :
  ReturnsInHanded {} Try.checked os 4 .any (Rows.fnExactCountRootsSpec.pre6 enc Try.prog Try.f4 Rows.fnExactCountRootsRow.domain false) (Rows.fnExactCountRootsSpec.post enc Try.prog Try.f4 false true false false) := by
 refine law_lifted (C := Try.checked) (tb := 4) ownP started (by kernel_rfl) Try.func4 laidOutP ?_ rfl (by kernel_rfl) Try.underlying4 ?_
  (ChangeSpec.witness6 (enc := enc) (C := Try.checked) false ⟨#[], #[.int .i64 0, .slice none 0 0], []⟩ 8 (by kernel_rfl) (by kernel_rfl) (by kernel_rfl) (by kernel_rfl)) ?_
 ·rw [Try.params4]
  intro t ht
  simp only [List.mem_cons, List.not_mem_nil, or_false] at ht
  rcases ht with rfl | rfl <;> exact ⟨by kernel_rfl, of_decide_eq_true (by kernel_rfl)⟩
 ·intro ds hds
  match ds, hds with
  | [d0, d1], _ => exact ⟨rfl, rfl, rfl⟩
 ·intro W args ds ps hval hA
  have hval' : ∀ (j : Nat) t v, Try.f4.params[j]? = some t → args[j]? = some v → ∃ base, Value.okWide Try.prog W .any base t v := hval
  rw [Try.params4] at hA hval'
  obtain ⟨v0, v1, d0, d1, q0, q1, hv, rfl, rfl, h0, h1⟩ := trodAll_two hA
  subst hv
  obtain ⟨_, hv0⟩ := hval' 0 2 v0 rfl rfl
  obtain ⟨n0, rfl⟩ := okWide_int Try.underlying2 hv0
  obtain ⟨x0, ⟨z0, hz0, hb0⟩, hr0⟩ := arg_cell readsInt h0 (by simp)
  cases hz0
  obtain ⟨_, hv1⟩ := hval' 1 22 v1 rfl rfl
  obtain ⟨a1, len1, cap1, rfl⟩ := okWide_slice Try.underlying22 hv1
  obtain ⟨x1, ⟨l1, hl1, hi1, hm1⟩, hr1⟩ := arg_cell readsInts h1 (by simp)
  cases hl1
  refine fn_true (lawCountRoots z0 l1 hb0) rfl fun j hj => ?_
  simp only [List.length_cons, List.length_nil] at hj
  match j, hj with
  | 0, _ => exact hr0
  | 1, _ => exact hr1
  | j + 2, hj => omega

theorem joinedCountRootsa : (Rows.fnExactCountRootsRow.inPlace == Try.checked.prog.inPlace 4) = true := by kernel_rfl
theorem joinedCountRootsb : (Rows.fnExactCountRootsRow.unfollowed == Try.checked.prog.unfollowed 4) = true := by kernel_rfl
theorem joinedCountRootsc : (Rows.fnExactCountRootsRow.recurses == Try.checked.prog.recurses 4) = true := by kernel_rfl
theorem joinedCountRootsd : (Rows.fnExactCountRootsRow.named == Try.checked.prog.varsNamed 4) = true := by kernel_rfl
theorem joinedCountRoots : joinedFacts Try.checked.prog 4 Try.f4 Rows.fnExactCountRootsSpec Rows.fnExactCountRootsRow = true := by
 unfold joinedFacts
 rw [enterP, liftP, makeP, joinedCountRootsa, joinedCountRootsb, joinedCountRootsc, joinedCountRootsd]
 kernel_rfl
theorem instCountRoots : Try.f4.isInstance Try.checked.prog Rows.fnExactCountRootsRow.origin Rows.fnExactCountRootsRow.targs := of_decide_eq_true (by kernel_rfl)

theorem claimCountRoots : Rows.FnExactCountRootsSaid :=
 OpenClaim.holds_of_wide (p := Try.pinned) (s := Rows.fnExactCountRootsSpec) (c := Rows.fnExactCountRootsRow) 4 Try.f4 rfl rfl rfl rfl rfl rfl rfl ⟨rfl, rfl, rfl, rfl, rfl⟩ rfl rfl rfl rfl rfl (by kernel_rfl) Try.func4 joinedCountRoots
  instCountRoots (by unfold Func.isWrapper; first | (rw [if_pos (by decide +kernel)]; kernel_rfl) | (rw [if_neg (by decide +kernel)]; exact ⟨rfl, rfl⟩))
  (fun os started H enc _ => liftedCountRoots H enc os started)

end Go.Proofs.Ytaemcmndfhgpjaa
