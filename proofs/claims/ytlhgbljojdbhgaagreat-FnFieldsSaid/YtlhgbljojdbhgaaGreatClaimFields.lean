/- The law FnFields answers true, for all arguments. No conditions. -/
import Derived.Test.YtlhgbljojdbhgaaGreatPj
namespace Go.Proofs.YtlhgbljojdbhgaaGreat
open Go Go.RowKit Go.Proofs Poly
set_option maxRecDepth 100000
set_option maxHeartbeats 8000000

theorem likeFields_same (p : Int) (g g' : Option Nat) (l : List Int) (hl : l.length ≤ 1000000000) : FnV 39 [vK p g l, vK p g' l] .tr := by
 refine fn_of (cx_ok [0, 1, 2, 3, 4]) Tryz.func39 rfl (by decide) Tryz.ntmps39 (Nat.le_of_ble_eq_true rfl) fun base => ?_
 refine wrs fun K hK => ?_
 conv => whnf
 refine ⟨rfl, ?_⟩
 conv => whnf
 intro b_2 hs_2 hh_2 hf_2
 try dsimp only at hh_2 hf_2
 conv => whnf
 refine ⟨rfl, ?_⟩
 conv => whnf
 intro b_3 hs_3 hh_3 hf_3
 try dsimp only at hh_3 hf_3
 conv => whnf
 refine hK _ ?_
 clear hK K
 refine wrs fun K hK => ?_
 conv => whnf
 refine ⟨fun _ => ?_, fun hc0 => absurd hc0 (by simp)⟩
 conv => whnf
 refine callV rfl (likeInts_same _ _ l (by omega)) fun hs' hhs => ?_
 try dsimp only at hhs
 conv => whnf
 refine hK _ ?_
 clear hK K
 refine W.ret ?_
 conv => whnf
 exact ⟨.v (.tr), rfl, trivial, rfl⟩

theorem dne {α : Type} (a : α) [Decidable (a ≠ a)] : decide (a ≠ a) = false := decide_eq_false fun h => h rfl

theorem fld_made {p : Int} (hp : p ∈ primes) : letI := sp_of hp; ∀ {d : Nat} {r : Option Nat}, 1 ≤ d → d ≤ 4 → p ^ d ≤ 20000 → IsFirst (fun k => Irr (polyN p k)) (p.toNat ^ d) (2 * p.toNat ^ d) r → IsFld p (outL p.toNat r) := by
 letI := sp_of hp
 intro d r h1 h4 ho hr
 have hp2 := primes_le hp
 cases r with
 | none =>
  obtain ⟨f, hd, hc, hi⟩ := exists_deg hp d h1 h4
  have hT : Top p.toNat d f.l := ⟨hd, hc, l_digs f⟩
  have h5 := hT.range (by omega)
  exact absurd (by show Irr (polyN p (nm f)); rw [polyN_nm]; exact hi) (hr (nm f) h5.1 h5.2)
 | some v =>
  obtain ⟨h5, h6, h7, _⟩ := hr
  have hT := top_of (p := p.toNat) (by omega) h5 h6
  have h7 : Irr (polyN p v) := h7
  have hl := polyN_l (p := p) v
  have hlen : (polyN p v).l.length = d + 1 := by rw [hl]; exact hT.len
  show IsFld p (dig p.toNat v)
  rw [← hl]
  refine ⟨⟨decide_eq_true hp, by omega, fun j _ => by have := cf_bd (polyN p v) j; omega, .inr ((polyN p v).ok.2 _ (by omega))⟩, ⟨by omega, ?_⟩, by omega, ?_, ⟨hp, polyN p v, rfl, h7⟩⟩
  ·rw [hlen, hl]; exact hT.one
  ·rw [hlen]; exact ho

theorem lawFields {n : Nat} {c : Nat → Int} (hb : ∀ i, 0 ≤ c i ∧ c i ≤ 255) : FnV 4 [vBy n c] (.bool true) := by
 refine fn_of (cx_ok [0, 2, 3, 4, 5, 6, 7, 8, 9, 10, 11, 12, 13, 14, 15, 16, 17, 18, 19, 20, 21, 22, 23, 24, 25, 26, 28, 145, 147]) Tryz.func4 rfl (by decide) Tryz.ntmps4 (Nat.le_of_ble_eq_true rfl) fun base => ?_
 refine wrs fun K hK => ?_
 conv => whnf
 refine hK _ ?_
 clear hK K
 refine W.seqK fun K1 hK1 => ?_
 refine wrs fun K hK => ?_
 conv => whnf
 refine callV rfl (big_fn) fun hs' hhs => ?_
 try dsimp only at hhs
 conv => whnf
 refine hK _ (W.cond ⟨fun h => ?_, fun h => ?_⟩) <;> clear hK K
 ·refine wrs fun K hK => ?_
  conv => whnf
  refine hK _ ?_
  clear hK K
  refine W.ret ?_
  conv => whnf
  exact ⟨.v (.bool true), rfl, trivial, rfl⟩
 have h := of_decide_eq_false h
 have hc : Byt n c := ⟨by omega, hb⟩
 refine W.skip (hK1 _ ?_)
 clear hK1 K1
 refine wrs fun K hK => ?_
 conv => whnf
 refine callP rfl (DrawInvertElement_fn hc) ?_
 rintro lo hi hi' z hl1 hl2 hl3 ⟨p, L, X, rfl, hp, hL, hX⟩ _
 try dsimp only at hl1 hl2
 conv => whnf
 intro b_3 hs_3 hh_3 hf_3
 try dsimp only at hh_3 hf_3
 conv => whnf
 refine ⟨s23, ?_⟩
 conv => whnf
 refine hK _ ?_
 clear hK K
 have hpR : inR p := by constructor <;> omega
 obtain ⟨Y, e1, hS1, hI1, hY, he1, hV1⟩ := InvertElement_E p L X hpR (by omega) (by omega)
 obtain ⟨o, e2, hS2, hI2, he2, hV2⟩ := OrderOfElement_E p L X hpR (by omega) (by omega)
 obtain ⟨N, e3, hS3, hI3, hV3⟩ := OrderOfField_E p L hpR (by omega)
 subst he1 he2
 refine wrs fun K hK => ?_
 conv => whnf
 refine callV rfl (RT.toV (hI1 _ _)) fun hs' hhs => ?_
 try dsimp only at hhs
 conv => whnf
 refine hK _ ?_
 clear hK K
 refine wrs fun K hK => ?_
 conv => whnf
 refine callV rfl (hS1 _ _) fun hs' hhs => ?_
 try dsimp only at hhs
 conv => whnf
 refine hK _ ?_
 clear hK K
 refine wrs fun K hK => ?_
 conv => whnf
 refine callV rfl (hI2 _ _) fun hs' hhs => ?_
 try dsimp only at hhs
 conv => whnf
 refine hK _ ?_
 clear hK K
 refine wrs fun K hK => ?_
 conv => whnf
 refine callV rfl (hS2 _ _) fun hs' hhs => ?_
 try dsimp only at hhs
 conv => whnf
 refine hK _ ?_
 clear hK K
 refine wrs fun K hK => ?_
 conv => whnf
 refine callV rfl (hI3 _) fun hs' hhs => ?_
 try dsimp only at hhs
 conv => whnf
 refine hK _ ?_
 clear hK K
 refine wrs fun K hK => ?_
 conv => whnf
 refine callV rfl (hS3 _) fun hs' hhs => ?_
 try dsimp only at hhs
 conv => whnf
 refine hK _ ?_
 clear hK K
 refine wrs fun K hK => ?_
 conv => whnf
 refine callP rfl (DrawMakeField_fn hc) ?_
 rintro lo2 hi2 hi2' z hm1 hm2 hm3 ⟨p2, d2, rfl, hp2, hd2, hd2'⟩ _
 try dsimp only at hm1 hm2
 conv => whnf
 refine hK _ ?_
 clear hK K
 obtain ⟨Kp, Kl, e4, hS4, hI4, hK4, hV4⟩ := MakeField_E p2 d2 (by constructor <;> omega) (by constructor <;> omega)
 refine wrs fun K hK => ?_
 conv => whnf
 refine callV rfl (hI4.toK) fun hs' hhs => ?_
 try dsimp only at hhs
 conv => whnf
 intro b_19 hs_19 hh_19 hf_19
 try dsimp only at hh_19 hf_19
 conv => whnf
 refine ⟨s23, ?_⟩
 conv => whnf
 refine hK _ ?_
 clear hK K
 refine wrs fun K hK => ?_
 conv => whnf
 refine callV rfl (hS4) fun hs' hhs => ?_
 try dsimp only at hhs
 conv => whnf
 intro b_21 hs_21 hh_21 hf_21
 try dsimp only at hh_21 hf_21
 conv => whnf
 refine ⟨s23, ?_⟩
 conv => whnf
 refine hK _ ?_
 clear hK K
 refine W.seqK fun K1 hK1 => ?_
 have fin : ∀ u : S, base ≤ u.hs → coverK u.env [(3, .ownB b_3 (vK p none L)), (4, .v (.ints none X)), (5, .v (.ints none Y)), (6, .v (.int .i64 (codeU p L X))), (9, .v (.int .i64 o)), (11, .v (.int .i64 o)), (13, .v (.int .i64 N))] → K1 u := by
  intro u h7 h8
  refine hK1 _ (W.weak (t := ⟨[(3, .ownB b_3 (vK p none L)), (4, .v (.ints none X)), (5, .v (.ints none Y)), (6, .v (.int .i64 (codeU p L X))), (9, .v (.int .i64 o)), (11, .v (.int .i64 o)), (13, .v (.int .i64 N))], base⟩) ⟨h7, h8⟩ (Nat.le_refl _) ?_)
  clear hK1 K1
  refine W.seqK fun K1 hK1 => ?_
  refine wrs fun K hK => ?_
  conv => whnf
  refine hK _ (W.cond ⟨fun hz => ?_, fun hz => ?_⟩) <;> clear hK K
  ·refine wrs fun K hK => ?_
   conv => whnf
   refine hK _ ?_
   clear hK K
   refine W.ret ?_
   conv => whnf
   exact ⟨.v (.bool true), rfl, trivial, rfl⟩
  have hz : codeU p L X = 0 := Decidable.of_not_not (of_decide_eq_false hz)
  refine W.skip (hK1 _ ?_)
  clear hK1 K1
  rw [hz]
  have hz1 : code1 p L X = 0 := Classical.byContradiction fun h => h ((codeU_bad rfl h).symm.trans hz)
  obtain ⟨hk, hh⟩ := code1_ok hz1
  obtain ⟨hpp, f, rfl, hfi, _, hf2, hf9⟩ := fld_poly hk
  letI := sp_of hpp
  obtain ⟨X, rfl⟩ := mod_poly hh.1
  have hxl : dg X < dg f := hh.2
  have hp1 := primes_le hpp
  obtain ⟨r, hr⟩ : ∃ r, dg f = r + 1 := ⟨dg f - 1, by omega⟩
  obtain ⟨Y, rfl, hyl, hxy⟩ := hV1 hpp f X rfl rfl hz
  obtain ⟨q, rfl, hq⟩ := hV2 hpp f X rfl rfl hz
  obtain ⟨rfl, rfl⟩ := hV3 hk
  have hX0 : X ≠ 0 := fun e => by
   rw [e, zero_l] at hz hz1
   exact absurd ((codeU_nil hz1).symm.trans hz) (by decide)
  have hrem : ∀ A : Poly p, f ∣ A - 1 → (rem A f).l = [1] := fun A hA => by
   rw [rem_eq_of_dvd hfi.ne hA, rem_small (by rw [dg_one]; omega), ← con_one]; exact con_l (by decide) (by omega)
  have hcX : codeEl p f.l true 2 (two X.l Y.l) = 0 := code_zero hk fun i _ => by unfold two; split; exact hh; exact has_l hpp f Y hyl (by omega)
  have hxl2 : X.l.length < f.l.length := hxl
  have hyl2 : Y.l.length < f.l.length := hyl
  have hfl : f.l.length = dg f := rfl
  obtain ⟨q1, q2, q3⟩ := fld_q hk hr
  have hdv : q ∣ p.toNat ^ r - 1 := hq.2.2 _ (fermat hfi (small_ndvd hX0 hxl) hr)
  rw [q1]
  generalize p.toNat ^ r = Q at *
  have hq0 := hq.1
  have hqQ := Nat.le_of_dvd (by omega) hdv
  have hmod : ((Q : Int) - 1).tmod (q : Int) = 0 := by
   rw [show (Q : Int) - 1 = ((Q - 1 : Nat) : Int) by omega, Int.tmod_eq_emod_of_nonneg (by omega)]
   exact Int.emod_eq_zero_of_dvd (Int.natCast_dvd_natCast.2 hdv)
  obtain ⟨M, e5, _, hI5, _, he5, hV5⟩ := MultiplyElements_E p f.l X.l Y.l hpR (by omega) (by omega) (by omega)
  obtain rfl : e5 = 0 := he5.trans hcX
  obtain rfl := hV5 hpp f X Y rfl rfl rfl hcX
  rw [hrem _ hxy] at hI5
  obtain ⟨R, e6, _, hI6, _, _, hV6⟩ := PowerElement_E p f.l X.l q hpR (by constructor <;> omega) (by omega) (by omega)
  obtain ⟨rfl, rfl⟩ := hV6 hpp f X rfl rfl hz1 q rfl (by omega)
  rw [hrem _ hq.2.1] at hI6
  refine wrs fun K hK => ?_
  conv => whnf
  refine callV rfl (RT.toV (hI5 _ _ _)) fun hs' hhs => ?_
  try dsimp only at hhs
  conv => whnf
  refine hK _ ?_
  clear hK K
  refine wrs fun K hK => ?_
  conv => whnf
  refine callV rfl (RT.toV (hI6 _ _)) fun hs' hhs => ?_
  try dsimp only at hhs
  conv => whnf
  refine hK _ ?_
  clear hK K
  refine wrs fun K hK => ?_
  conv => whnf
  refine ⟨fun _ => ?_, fun hc0 => absurd hc0 (by simp)⟩
  conv => whnf
  refine ⟨⟨rfl, by decide⟩, ?_⟩
  conv => whnf
  intro b_30 hs_30 hh_30 hf_30
  try dsimp only at hh_30 hf_30
  conv => whnf
  refine callV rfl (likeInts_same _ _ [1] (by decide)) fun hs' hhs => ?_
  try dsimp only at hhs
  conv => whnf
  refine ⟨fun _ => ?_, fun hc0 => absurd hc0 (by simp)⟩
  conv => whnf
  refine ⟨⟨rfl, by decide⟩, ?_⟩
  conv => whnf
  intro b_31 hs_31 hh_31 hf_31
  try dsimp only at hh_31 hf_31
  conv => whnf
  refine callV rfl (likeInts_same _ _ [1] (by decide)) fun hs' hhs => ?_
  try dsimp only at hhs
  conv => whnf
  refine ⟨fun _ => ?_, fun hc0 => absurd (show (0 : Int) < q by omega) (of_decide_eq_false hc0)⟩
  conv => whnf
  refine ⟨oo, ?_⟩
  conv => whnf
  refine ⟨by show (q : Int) ≠ 0; omega, ?_⟩
  conv => whnf
  refine hK _ ?_
  clear hK K
  refine W.ret ?_
  conv => whnf
  exact ⟨.v (.bool true), decide_eq_true hmod, trivial, rfl⟩
 refine W.rd (cx_ok _) follows (by rfl) fun K hK => ?_
 conv => whnf
 rw [dne]
 conv => whnf
 refine ⟨_, cxF (likeInts_same _ _ Y (by omega)), ?_⟩
 conv => whnf
 rw [dne]
 conv => whnf
 rw [dne]
 conv => whnf
 rw [dne]
 conv => whnf
 rw [dne]
 conv => whnf
 rw [dne]
 conv => whnf
 refine ⟨_, cxF (likeFields_same Kp _ _ Kl (by omega)), ?_⟩
 conv => whnf
 rw [dne]
 conv => whnf
 refine ⟨_, cxF (isField_fn p _ L (by omega)), ?_⟩
 conv => whnf
 refine ⟨_, cxF (isFieldS_fn p _ L (by omega)), ?_⟩
 conv => whnf
 rw [beq_self_eq_true]
 conv => whnf
 by_cases h4 : e4 = 0
 ·subst h4
  have hk4 : IsFld Kp Kl := by
   obtain ⟨hpp, d, r, _, h5, h6, h7, rfl, h8, rfl⟩ := hV4 rfl
   exact fld_made hpp h5 h6 h7 h8
  refine ⟨_, cxF ((isField_fn Kp _ Kl (by omega)).tr (bP_true hk4)), ?_⟩
  conv => whnf
  refine hK _ (W.cond ⟨fun hcc => absurd hcc (by simp), fun _ => W.skip (fin _ (by dsimp only; omega) ?_)⟩)
  exact cvr
 ·rw [decide_eq_false h4]
  conv => whnf
  refine ⟨rfl, ?_⟩
  conv => whnf
  refine hK _ (W.cond ⟨fun hcc => absurd hcc (by simp), fun _ => W.skip (fin _ (by dsimp only; omega) ?_)⟩)
  exact cvr

open Go Go.RowKit Go.ChangeShapes Go.WideShapes Go.ChangeAt Go.Proofs Go.Proofs.YtlhgbljojdbhgaaGreat

set_option maxRecDepth 100000 in
theorem liftedFields (H : Type) (enc : TypeId × Value → H) (os : Os) (started : os.Started) :
  ReturnsInHanded {} Tryz.checked os 4 .any (Rows.fnFieldsSpec.pre6 enc Tryz.prog Tryz.f4 Rows.fnFieldsRow.domain false) (Rows.fnFieldsSpec.post enc Tryz.prog Tryz.f4 false true false false) := by
 refine law_lifted (C := Tryz.checked) (tb := 4) ownP started (by kernel_rfl) Tryz.func4 laidOutP ?_ rfl (by kernel_rfl) Tryz.underlying4 ?_
  (ChangeSpec.witness6 (enc := enc) (C := Tryz.checked) false ⟨#[], #[.slice none 0 0], []⟩ 8 (by kernel_rfl) (by kernel_rfl) (by kernel_rfl) (by kernel_rfl)) ?_
 ·rw [Tryz.params4]
  intro t ht
  simp only [List.mem_singleton] at ht
  subst ht
  exact ⟨by kernel_rfl, of_decide_eq_true (by kernel_rfl)⟩
 ·intro ds hds
  match ds, hds with
  | [d0], _ => exact ⟨rfl, rfl, rfl⟩
 ·intro W args ds ps hval hA
  have hval' : ∀ (j : Nat) t v, Tryz.f4.params[j]? = some t → args[j]? = some v → ∃ base, Value.okWide Tryz.prog W .any base t v := hval
  rw [Tryz.params4] at hA hval'
  obtain ⟨v0, d0, hv, rfl, h0⟩ := trodAll_one hA
  subst hv
  obtain ⟨_, hv0⟩ := hval' 0 22 v0 rfl rfl
  obtain ⟨a0, len0, cap0, rfl⟩ := okWide_slice Tryz.underlying22 hv0
  obtain ⟨x0, hx0, hr0⟩ := arg_cell readsBytes h0 (by simp)
  obtain ⟨n, c, hb, _, hr⟩ := bytes_of hx0
  refine fn_trueB (lawFields (n := n) (c := c) hb) rfl fun j hj => ?_
  obtain rfl : j = 0 := by simpa using hj
  exact hr _ _ _ hr0

theorem joinedFieldsa : (Rows.fnFieldsRow.inPlace == Tryz.checked.prog.inPlace 4) = true := by kernel_rfl
theorem joinedFieldsb : (Rows.fnFieldsRow.unfollowed == Tryz.checked.prog.unfollowed 4) = true := by kernel_rfl
theorem joinedFieldsc : (Rows.fnFieldsRow.recurses == Tryz.checked.prog.recurses 4) = true := by kernel_rfl
theorem joinedFieldsd : (Rows.fnFieldsRow.named == Tryz.checked.prog.varsNamed 4) = true := by kernel_rfl
theorem joinedFields : joinedFacts Tryz.checked.prog 4 Tryz.f4 Rows.fnFieldsSpec Rows.fnFieldsRow = true := by
 unfold joinedFacts
 rw [enterP, liftP, makeP, joinedFieldsa, joinedFieldsb, joinedFieldsc, joinedFieldsd]
 kernel_rfl
theorem instFields : Tryz.f4.isInstance Tryz.checked.prog Rows.fnFieldsRow.origin Rows.fnFieldsRow.targs := of_decide_eq_true (by kernel_rfl)

theorem claimFields : Rows.FnFieldsSaid :=
 OpenClaim.holds_of_wide (p := Tryz.pinned) (s := Rows.fnFieldsSpec) (c := Rows.fnFieldsRow) 4 Tryz.f4 rfl rfl rfl rfl rfl rfl rfl ⟨rfl, rfl, rfl, rfl, rfl⟩ rfl rfl rfl rfl rfl (by kernel_rfl) Tryz.func4 joinedFields
  instFields (by unfold Func.isWrapper; first | (rw [if_pos (by decide +kernel)]; kernel_rfl) | (rw [if_neg (by decide +kernel)]; exact ⟨rfl, rfl⟩))
  (fun os started H enc _ => liftedFields H enc os started)

end Go.Proofs.YtlhgbljojdbhgaaGreat
