/- The law FnElements answers true, for all arguments. No conditions. -/
import Derived.Test.YtlmckocbhcpmdaaGreatPi
namespace Go.Proofs.YtlmckocbhcpmdaaGreat
open Go Go.RowKit Go.Proofs Poly
set_option maxRecDepth 100000
set_option maxHeartbeats 8000000

theorem lawElements {n : Nat} {c : Nat → Int} (hb : ∀ i, 0 ≤ c i ∧ c i ≤ 255) : FnV 3 [vBy n c] (.bool true) := by
 refine fn_of (cx_ok [0, 2, 3, 4, 5, 6, 7, 8, 9, 10, 11, 12, 13, 14, 15, 16, 17, 18, 19, 20, 21, 22, 23, 24, 25, 26, 27, 28, 29, 30, 31, 32, 33, 34, 35, 36, 38, 151, 157, 184, 186]) Tryz.func3 rfl (by decide) Tryz.ntmps3 (Nat.le_of_ble_eq_true rfl) fun base => ?_
 refine wrs fun K hK => ?_
 conv => whnf
 refine hK _ ?_
 clear hK K
 refine W.seqK fun K1 hK1 => ?_
 refine wrs fun K hK => ?_
 conv => whnf
 refine callV rfl (big_fn) fun hs' hhs => ?_
 try dsimp only at hhs
 conv => whnf
 refine hK _ (W.cond ⟨fun h => ?_, fun h => ?_⟩) <;> clear hK K
 ·refine wrs fun K hK => ?_
  conv => whnf
  refine hK _ ?_
  clear hK K
  refine W.ret ?_
  conv => whnf
  exact ⟨.v (.bool true), rfl, trivial, rfl⟩
 have h := of_decide_eq_false h
 have hc : Byt n c := ⟨by omega, hb⟩
 refine W.skip (hK1 _ ?_)
 clear hK1 K1
 refine wrs fun K hK => ?_
 conv => whnf
 refine callP rfl (DrawMultiplyElements_fn hc) ?_
 rintro lo hi hi' z hl1 hl2 hl3 ⟨p, L, X, Y, rfl, hp, hL, hX, hY⟩ _
 try dsimp only at hl1 hl2
 conv => whnf
 intro b_3 hs_3 hh_3 hf_3
 try dsimp only at hh_3 hf_3
 conv => whnf
 refine ⟨s23, ?_⟩
 conv => whnf
 refine hK _ ?_
 clear hK K
 have hpR : inR p := by constructor <;> omega
 obtain ⟨M, e1, hS1, hI1, hM, he1, hV1⟩ := MultiplyElements_E p L X Y hpR (by omega) (by omega) (by omega)
 obtain ⟨A, e2, hS2, hI2, hA, he2, hV2⟩ := AddElements_E p L X Y hpR (by omega) (by omega) (by omega)
 subst he1 he2
 refine wrs fun K hK => ?_
 conv => whnf
 refine callV rfl (RT.toV (hI1 _ _ _)) fun hs' hhs => ?_
 try dsimp only at hhs
 conv => whnf
 refine hK _ ?_
 clear hK K
 refine wrs fun K hK => ?_
 conv => whnf
 refine callV rfl (hS1 _ _ _) fun hs' hhs => ?_
 try dsimp only at hhs
 conv => whnf
 refine hK _ ?_
 clear hK K
 refine wrs fun K hK => ?_
 conv => whnf
 refine callV rfl (RT.toV (hI2 _ _ _)) fun hs' hhs => ?_
 try dsimp only at hhs
 conv => whnf
 refine hK _ ?_
 clear hK K
 refine wrs fun K hK => ?_
 conv => whnf
 refine callV rfl (hS2 _ _ _) fun hs' hhs => ?_
 try dsimp only at hhs
 conv => whnf
 refine hK _ ?_
 clear hK K
 refine wrs fun K hK => ?_
 conv => whnf
 refine callP rfl (DrawElementWith_fn hc) ?_
 rintro lo2 hi2 hi2' z hm1 hm2 hm3 ⟨p2, L2, q2, rfl, hp2, hL2, hq2⟩ _
 try dsimp only at hm1 hm2
 conv => whnf
 intro b_14 hs_14 hh_14 hf_14
 try dsimp only at hh_14 hf_14
 conv => whnf
 refine ⟨s23, ?_⟩
 conv => whnf
 refine hK _ ?_
 clear hK K
 obtain ⟨B, e3, hS3, hI3, hB, _⟩ := ElementWith_E p2 L2 q2 (by constructor <;> omega) (by constructor <;> omega) (by omega)
 refine wrs fun K hK => ?_
 conv => whnf
 refine callV rfl (RT.toV (hI3 _)) fun hs' hhs => ?_
 try dsimp only at hhs
 conv => whnf
 refine hK _ ?_
 clear hK K
 refine wrs fun K hK => ?_
 conv => whnf
 refine callV rfl (hS3 _) fun hs' hhs => ?_
 try dsimp only at hhs
 conv => whnf
 refine hK _ ?_
 clear hK K
 refine wrs fun K hK => ?_
 conv => whnf
 refine callP rfl (DrawPowerElement_fn hc) ?_
 rintro lo3 hi3 hi3' z hk1 hk2 hk3 ⟨p3, L3, Z, q3, rfl, hp3, hL3, hZ, hq3⟩ _
 try dsimp only at hk1 hk2
 conv => whnf
 intro b_20 hs_20 hh_20 hf_20
 try dsimp only at hh_20 hf_20
 conv => whnf
 refine ⟨s23, ?_⟩
 conv => whnf
 refine hK _ ?_
 clear hK K
 have hpR3 : inR p3 := by constructor <;> omega
 obtain ⟨R, e4, hS4, hI4, hR, hc4, hV4⟩ := PowerElement_E p3 L3 Z q3 hpR3 (by constructor <;> omega) (by omega) (by omega)
 refine wrs fun K hK => ?_
 conv => whnf
 refine callV rfl (RT.toV (hI4 _ _)) fun hs' hhs => ?_
 try dsimp only at hhs
 conv => whnf
 refine hK _ ?_
 clear hK K
 refine wrs fun K hK => ?_
 conv => whnf
 refine callV rfl (hS4 _ _) fun hs' hhs => ?_
 try dsimp only at hhs
 conv => whnf
 refine hK _ ?_
 clear hK K
 refine W.seqK fun K1 hK1 => ?_
 refine wrs fun K hK => ?_
 conv => whnf
 refine ⟨fun hc0 => absurd hc0 (by simp), fun _ => ?_⟩
 conv => whnf
 refine callV rfl (likeInts_same _ _ M (by omega)) fun hs' hhs => ?_
 try dsimp only at hhs
 conv => whnf
 refine ⟨fun hc0 => absurd hc0 (by simp), fun _ => ?_⟩
 conv => whnf
 refine callV rfl (likeInts_same _ _ A (by omega)) fun hs' hhs => ?_
 try dsimp only at hhs
 conv => whnf
 refine ⟨fun hc0 => absurd hc0 (by simp), fun _ => ?_⟩
 conv => whnf
 refine callV rfl (likeInts_same _ _ B (by omega)) fun hs' hhs => ?_
 try dsimp only at hhs
 conv => whnf
 refine ⟨fun hc0 => absurd hc0 (by simp), fun _ => ?_⟩
 conv => whnf
 refine callV rfl (likeInts_same _ _ R (by omega)) fun hs' hhs => ?_
 try dsimp only at hhs
 conv => whnf
 refine hK _ (W.condF rfl (W.skip (hK1 _ ?_)))
 clear hK K hK1 K1
 refine W.seqK fun K1 hK1 => ?_
 have fin : ∀ u : S, base ≤ u.hs → coverK u.env [(3, .ownB b_3 (vK p none L)), (4, .v (.ints none X)), (6, .v (.ints none M)), (7, .v (.int .i64 (codeEl p L true 2 (two X Y)))), (10, .v (.ints none A))] → K1 u := by
  intro u h7 h8
  refine hK1 _ (W.weak (t := ⟨[(3, .ownB b_3 (vK p none L)), (4, .v (.ints none X)), (6, .v (.ints none M)), (7, .v (.int .i64 (codeEl p L true 2 (two X Y)))), (10, .v (.ints none A))], base⟩) ⟨h7, h8⟩ (Nat.le_refl _) ?_)
  clear hK1 K1
  refine W.seqK fun K1 hK1 => ?_
  refine wrs fun K hK => ?_
  conv => whnf
  refine hK _ (W.cond ⟨fun hz => ?_, fun hz => ?_⟩) <;> clear hK K
  ·refine wrs fun K hK => ?_
   conv => whnf
   refine hK _ ?_
   clear hK K
   refine W.ret ?_
   conv => whnf
   exact ⟨.v (.bool true), rfl, trivial, rfl⟩
  have hz : codeEl p L true 2 (two X Y) = 0 := Decidable.of_not_not (of_decide_eq_false hz)
  refine W.skip (hK1 _ ?_)
  clear hK1 K1
  rw [hz]
  obtain ⟨hk, _, hh⟩ := codeEl_ok hz
  obtain ⟨hpp, f, rfl, hfi, _, hf2, hf9⟩ := fld_poly hk
  letI := sp_of hpp
  have hhX : Has p f.l X := hh 0 (by omega)
  have hhY : Has p f.l Y := hh 1 (by omega)
  obtain ⟨X, rfl⟩ := mod_poly hhX.1
  obtain ⟨Y, rfl⟩ := mod_poly hhY.1
  obtain rfl := hV1 hpp f X Y rfl rfl rfl hz
  obtain rfl := hV2 hpp f X Y rfl rfl rfl hz
  have hx : dg X < dg f := hhX.2
  have hy : dg Y < dg f := hhY.2
  have hXY : dg (X + Y) < dg f := by have := dg_add X Y; omega
  have hXX : dg (rem (X * X) f) < dg f := rem_lt _ hfi.ne
  have hM2 : dg (rem (X * Y) f) < dg f := rem_lt _ hfi.ne
  have lf : ∀ U : Poly p, dg U < dg f → U.l.length ≤ 1000000 := fun U hU => by have hU : U.l.length < f.l.length := hU; omega
  have c2 : ∀ U V : Poly p, dg U < dg f → dg V < dg f → codeEl p f.l true 2 (two U.l V.l) = 0 := fun U V hU hV => code_zero hk fun i _ => by unfold two; split; exact has_l hpp f U hU (by omega); exact has_l hpp f V hV (by omega)
  have l1 := lf _ hXY
  have l2 := lf _ hx
  have l3 := lf _ hXX
  have l4 := lf _ hM2
  obtain ⟨a, e5, _, hI5, ha, he5, hV5⟩ := MultiplyElements_E p f.l (X + Y).l X.l hpR (by omega) (by omega) (by omega)
  obtain rfl : e5 = 0 := he5.trans (c2 _ _ hXY hx)
  obtain rfl := hV5 hpp f (X + Y) X rfl rfl rfl (c2 _ _ hXY hx)
  obtain ⟨b, e6, _, hI6, _, he6, hV6⟩ := MultiplyElements_E p f.l X.l X.l hpR (by omega) (by omega) (by omega)
  obtain rfl : e6 = 0 := he6.trans (c2 _ _ hx hx)
  obtain rfl := hV6 hpp f X X rfl rfl rfl (c2 _ _ hx hx)
  obtain ⟨d, e7, _, hI7, _, he7, hV7⟩ := AddElements_E p f.l (rem (X * X) f).l (rem (X * Y) f).l hpR (by omega) (by omega) (by omega)
  obtain rfl : e7 = 0 := he7.trans (c2 _ _ hXX hM2)
  obtain rfl := hV7 hpp f (rem (X * X) f) (rem (X * Y) f) rfl rfl rfl (c2 _ _ hXX hM2)
  rw [← rem_plus hfi.ne, show X * X + X * Y = (X + Y) * X from ring [X, Y] (by rfl)] at hI7
  refine wrs fun K hK => ?_
  conv => whnf
  refine callV rfl (RT.toV (hI5 _ _ _)) fun hs' hhs => ?_
  try dsimp only at hhs
  conv => whnf
  refine hK _ ?_
  clear hK K
  refine wrs fun K hK => ?_
  conv => whnf
  refine callV rfl (RT.toV (hI6 _ _ _)) fun hs' hhs => ?_
  try dsimp only at hhs
  conv => whnf
  refine hK _ ?_
  clear hK K
  refine wrs fun K hK => ?_
  conv => whnf
  refine callV rfl (RT.toV (hI7 _ _ _)) fun hs' hhs => ?_
  try dsimp only at hhs
  conv => whnf
  refine hK _ ?_
  clear hK K
  refine wrs fun K hK => ?_
  conv => whnf
  refine ⟨fun _ => ?_, fun hc0 => absurd hc0 (by simp)⟩
  conv => whnf
  refine ⟨fun _ => ?_, fun hc0 => absurd hc0 (by simp)⟩
  conv => whnf
  refine ⟨fun _ => ?_, fun hc0 => absurd hc0 (by simp)⟩
  conv => whnf
  refine callV rfl (likeInts_same _ _ (rem ((X + Y) * X) f).l (by omega)) fun hs' hhs => ?_
  try dsimp only at hhs
  conv => whnf
  refine hK _ ?_
  clear hK K
  refine W.ret ?_
  conv => whnf
  exact ⟨.v (.bool true), rfl, trivial, rfl⟩
 refine wrs fun K hK => ?_
 conv => whnf
 by_cases h4 : e4 = 0 ∧ q3 < 1000000000000
 ·refine ⟨fun _ => ?_, fun h => absurd h4.1 (of_decide_eq_false h)⟩
  conv => whnf
  refine hK _ (W.cond ⟨fun _ => ?_, fun h => absurd h4.2 (of_decide_eq_false h)⟩)
  clear hK K
  obtain ⟨hcz, hq0, _⟩ := hc4 h4.1
  obtain ⟨hk, hh⟩ := code1_ok hcz
  obtain ⟨hpp, f, rfl, hfi, _, hf2, hf9⟩ := fld_poly hk
  letI := sp_of hpp
  obtain ⟨Z, rfl⟩ := mod_poly hh.1
  have hz : dg Z < dg f := hh.2
  obtain ⟨N, rfl⟩ : ∃ N : Nat, q3 = N := ⟨q3.toNat, by omega⟩
  obtain ⟨_, rfl⟩ := hV4 hpp f Z rfl rfl hcz N rfl (by omega)
  have hPd : dg (rem (Z ^ N) f) < dg f := rem_lt _ hfi.ne
  have hPl : (rem (Z ^ N) f).l.length < f.l.length := hPd
  have hZl : Z.l.length < f.l.length := hz
  have hcP : codeEl p3 f.l true 2 (two (rem (Z ^ N) f).l Z.l) = 0 := code_zero hk fun i _ => by unfold two; split; exact has_l hpp f _ hPd (by omega); exact hh
  obtain ⟨R2, e5, _, hI5, hR2, _, hV5⟩ := PowerElement_E p3 f.l Z.l ((N : Int) + 1) hpR3 (by constructor <;> omega) (by omega) (by omega)
  obtain ⟨rfl, rfl⟩ := hV5 hpp f Z rfl rfl hcz (N + 1) (by omega) (by omega)
  obtain ⟨R3, e6, _, hI6, _, he6, hV6⟩ := MultiplyElements_E p3 f.l (rem (Z ^ N) f).l Z.l hpR3 (by omega) (by omega) (by omega)
  obtain rfl : e6 = 0 := he6.trans hcP
  obtain rfl := hV6 hpp f (rem (Z ^ N) f) Z rfl rfl rfl hcP
  rw [rem_mul_left hfi.ne, ← pow_succ'] at hI6
  refine wrs fun K hK => ?_
  conv => whnf
  refine ⟨oo, ?_⟩
  conv => whnf
  refine callV rfl (RT.toV (hI5 _ _)) fun hs' hhs => ?_
  try dsimp only at hhs
  conv => whnf
  refine hK _ ?_
  clear hK K
  refine wrs fun K hK => ?_
  conv => whnf
  refine callV rfl (RT.toV (hI6 _ _ _)) fun hs' hhs => ?_
  try dsimp only at hhs
  conv => whnf
  refine hK _ ?_
  clear hK K
  refine wrs fun K hK => ?_
  conv => whnf
  refine ⟨fun hc0 => absurd hc0 (by simp), fun _ => ?_⟩
  conv => whnf
  refine ⟨fun hc0 => absurd hc0 (by simp), fun _ => ?_⟩
  conv => whnf
  refine callV rfl (likeInts_same _ _ (rem (Z ^ (N + 1)) f).l (by omega)) fun hs' hhs => ?_
  try dsimp only at hhs
  conv => whnf
  refine hK _ (W.condF rfl (W.skip (fin _ (by dsimp only; omega) ?_)))
  exact cvr
 ·refine ⟨fun h5 => ?_, fun h5 => ?_⟩ <;> conv => whnf
  ·refine hK _ (W.cond ⟨fun h6 => absurd ⟨of_decide_eq_true h5, of_decide_eq_true h6⟩ h4, fun _ => W.skip (fin _ (by dsimp only; omega) ?_)⟩)
   exact cvr
  ·refine hK _ (W.condF rfl (W.skip (fin _ (by dsimp only; omega) ?_)))
   exact cvr

open Go Go.RowKit Go.ChangeShapes Go.WideShapes Go.ChangeAt Go.Proofs Go.Proofs.YtlmckocbhcpmdaaGreat

set_option maxRecDepth 100000 in
theorem liftedElements (H : Type) (enc : TypeId × Value → H) (os : Os) (started : os.Started) :
  ReturnsInHanded {} Tryz.checked os 3 .any (Rows.fnElementsSpec.pre6 enc Tryz.prog Tryz.f3 Rows.fnElementsRow.domain false) (Rows.fnElementsSpec.post enc Tryz.prog Tryz.f3 false true false false) := by
 refine law_lifted (C := Tryz.checked) (tb := 4) ownP started (by kernel_rfl) Tryz.func3 laidOutP ?_ rfl (by kernel_rfl) Tryz.underlying4 ?_
  (ChangeSpec.witness6 (enc := enc) (C := Tryz.checked) false ⟨#[], #[.slice none 0 0], []⟩ 8 (by kernel_rfl) (by kernel_rfl) (by kernel_rfl) (by kernel_rfl)) ?_
 ·rw [Tryz.params3]
  intro t ht
  simp only [List.mem_singleton] at ht
  subst ht
  exact ⟨by kernel_rfl, of_decide_eq_true (by kernel_rfl)⟩
 ·intro ds hds
  match ds, hds with
  | [d0], _ => exact ⟨rfl, rfl, rfl⟩
 ·intro W args ds ps hval hA
  have hval' : ∀ (j : Nat) t v, Tryz.f3.params[j]? = some t → args[j]? = some v → ∃ base, Value.okWide Tryz.prog W .any base t v := hval
  rw [Tryz.params3] at hA hval'
  obtain ⟨v0, d0, hv, rfl, h0⟩ := trodAll_one hA
  subst hv
  obtain ⟨_, hv0⟩ := hval' 0 22 v0 rfl rfl
  obtain ⟨a0, len0, cap0, rfl⟩ := okWide_slice Tryz.underlying22 hv0
  obtain ⟨x0, hx0, hr0⟩ := arg_cell readsBytes h0 (by simp)
  obtain ⟨n, c, hb, _, hr⟩ := bytes_of hx0
  refine fn_trueB (lawElements (n := n) (c := c) hb) rfl fun j hj => ?_
  obtain rfl : j = 0 := by simpa using hj
  exact hr _ _ _ hr0

theorem joinedElementsa : (Rows.fnElementsRow.inPlace == Tryz.checked.prog.inPlace 3) = true := by kernel_rfl
theorem joinedElementsb : (Rows.fnElementsRow.unfollowed == Tryz.checked.prog.unfollowed 3) = true := by kernel_rfl
theorem joinedElementsc : (Rows.fnElementsRow.recurses == Tryz.checked.prog.recurses 3) = true := by kernel_rfl
theorem joinedElementsd : (Rows.fnElementsRow.named == Tryz.checked.prog.varsNamed 3) = true := by kernel_rfl
theorem joinedElements : joinedFacts Tryz.checked.prog 3 Tryz.f3 Rows.fnElementsSpec Rows.fnElementsRow = true := by
 unfold joinedFacts
 rw [enterP, liftP, makeP, joinedElementsa, joinedElementsb, joinedElementsc, joinedElementsd]
 kernel_rfl
theorem instElements : Tryz.f3.isInstance Tryz.checked.prog Rows.fnElementsRow.origin Rows.fnElementsRow.targs := of_decide_eq_true (by kernel_rfl)

theorem claimElements : Rows.FnElementsSaid :=
 OpenClaim.holds_of_wide (p := Tryz.pinned) (s := Rows.fnElementsSpec) (c := Rows.fnElementsRow) 3 Tryz.f3 rfl rfl rfl rfl rfl rfl rfl ⟨rfl, rfl, rfl, rfl, rfl⟩ rfl rfl rfl rfl rfl (by kernel_rfl) Tryz.func3 joinedElements
  instElements (by unfold Func.isWrapper; first | (rw [if_pos (by decide +kernel)]; kernel_rfl) | (rw [if_neg (by decide +kernel)]; exact ⟨rfl, rfl⟩))
  (fun os started H enc _ => liftedElements H enc os started)

end Go.Proofs.YtlmckocbhcpmdaaGreat
