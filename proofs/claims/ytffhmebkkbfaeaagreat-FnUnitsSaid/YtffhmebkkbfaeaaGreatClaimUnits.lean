/- The law FnUnits answers true, for all arguments. No conditions. -/
import Derived.Test.YtffhmebkkbfaeaaGreatPk
namespace Go.Proofs.YtffhmebkkbfaeaaGreat
open Go Go.RowKit Go.Proofs Poly
set_option maxRecDepth 100000
set_option maxHeartbeats 8000000

theorem zfS (p : Int) (g g' : Option Nat) (l : List Int) (hl : l.length <= 1000000000) : FnV 28 [vK p g l, vK p g' l] .tr := by
 refine ze (za [0, 1, 2, 3, 4]) Tryz.func28 rfl (by decide) Tryz.ntmps28 (lb rfl) λbase => ?_;refine wrs λK hK => ?_;conv=>whnf
 refine ⟨rfl, ?_⟩;conv=>whnf
 intro b_2 hs_2 hh_2 hf_2;try dsimp only at hh_2 hf_2
 conv=>whnf
 refine ⟨rfl, ?_⟩;conv=>whnf
 intro b_3 hs_3 hh_3 hf_3;try dsimp only at hh_3 hf_3
 conv=>whnf
 refine hK _ (wrs λK hK => ?_);conv=>whnf
 refine ⟨λ_ => ?_, λhc0 => absurd hc0 (by simp)⟩;conv=>whnf
 refine zb rfl (xG _ _ l (by omega)) λhs' hhs => ?_;try dsimp only at hhs
 conv=>whnf
 refine hK _ (W.ret ?_);conv=>whnf
 exact ⟨.v (.tr), rfl, trivial, rfl⟩

theorem lawUnits {n : Nat} {c : Nat -> Int} (hb : ∀ i, 0 <= c i ∧ c i <= 255) : FnV 4 [vBy n c] (.bool true) := by
 refine ze (za [0, 2, 3, 4, 5, 6, 7, 8, 9, 10, 11, 12, 13, 14, 15, 16, 17, 18, 19, 20, 21, 22, 23, 24, 25, 26, 27, 28, 29, 30, 31, 32, 33, 34, 36, 150, 152, 214, 216]) Tryz.func4 rfl (by decide) Tryz.ntmps4 (lb rfl) λbase => ?_;refine wrs λK hK => ?_;conv=>whnf
 refine hK _ (W.seqK λK1 hK1 => wrs λK hK => ?_);conv=>whnf
 refine zb rfl (zqB) λhs' hhs => ?_;try dsimp only at hhs
 conv=>whnf
 refine hK _ (W.cond ⟨λh => ?_, λh => ?_⟩) <;> clear hK
 ·refine wrs λK hK => ?_;conv=>whnf
  refine hK _ (W.ret ?_);conv=>whnf
  exact ⟨.v (.bool true), rfl, trivial, rfl⟩
 have h := of_decide_eq_false h;have hc : Byt n c := ⟨by omega, hb⟩
 refine W.skip (hK1 _ ?_);clear hK1;refine wrs λK hK => ?_;conv=>whnf
 refine y7 rfl (zb0 hc) ?_;rintro lo hi hi' z hl1 hl2 hl3 ⟨p, k, L, x, rfl, hp, hk, hL, hx⟩ _;try dsimp only at hl1 hl2
 conv=>whnf
 intro b_3 hs_3 hh_3 hf_3;try dsimp only at hh_3 hf_3
 conv=>whnf
 refine ⟨s23, ?_⟩;conv=>whnf
 refine hK _ ?_;clear hK;have hpR : inR p := by constructor <;> omega
 have hkR : inR k := by constructor <;> omega
 obtain ⟨U, e1, hS1, hI1, hU, hc1, hV1⟩ := zf7 p k L x hpR hkR (by omega) (by omega);obtain ⟨t, e2, hS2, hI2, hc2, hV2⟩ := zhS p k L x hpR hkR (by omega) (by omega);obtain ⟨u, e3, hS3, hI3, hc3, hV3⟩ := zjD p k L x hpR hkR (by omega) (by omega);obtain ⟨T, e4, hS4, hI4, hT, hc4, hV4⟩ := zbp p k L x hpR hkR (by omega) (by omega);obtain ⟨q, Q, e5, hS5, hI5, hQ, hr5, _⟩ := zfJ p k L hpR hkR (by omega);refine wrs λK hK => ?_;conv=>whnf
 refine zb rfl (RT.toV (hI1 _ _)) λhs' hhs => ?_;try dsimp only at hhs
 conv=>whnf
 refine hK _ (wrs λK hK => ?_);conv=>whnf
 refine zb rfl (hS1 _ _) λhs' hhs => ?_;try dsimp only at hhs
 conv=>whnf
 refine hK _ (wrs λK hK => ?_);conv=>whnf
 refine zb rfl (hI2 _ _) λhs' hhs => ?_;try dsimp only at hhs
 conv=>whnf
 refine hK _ (wrs λK hK => ?_);conv=>whnf
 refine zb rfl (hS2) λhs' hhs => ?_;try dsimp only at hhs
 conv=>whnf
 refine hK _ (wrs λK hK => ?_);conv=>whnf
 refine zb rfl (hI3 _ _) λhs' hhs => ?_;try dsimp only at hhs
 conv=>whnf
 refine hK _ (wrs λK hK => ?_);conv=>whnf
 refine zb rfl (hS3) λhs' hhs => ?_;try dsimp only at hhs
 conv=>whnf
 refine hK _ (wrs λK hK => ?_);conv=>whnf
 refine zb rfl (RT.toV (hI4 _ _)) λhs' hhs => ?_;try dsimp only at hhs
 conv=>whnf
 refine hK _ (wrs λK hK => ?_);conv=>whnf
 refine zb rfl (hS4 _ _) λhs' hhs => ?_;try dsimp only at hhs
 conv=>whnf
 refine hK _ (wrs λK hK => ?_);conv=>whnf
 refine zb rfl ((hI5 _).toK) λhs' hhs => ?_;try dsimp only at hhs
 conv=>whnf
 intro b_21 hs_21 hh_21 hf_21;try dsimp only at hh_21 hf_21
 conv=>whnf
 refine ⟨s23, ?_⟩;conv=>whnf
 refine hK _ (wrs λK hK => ?_);conv=>whnf
 refine zb rfl (hS5 _) λhs' hhs => ?_;try dsimp only at hhs
 conv=>whnf
 intro b_23 hs_23 hh_23 hf_23;try dsimp only at hh_23 hf_23
 conv=>whnf
 refine ⟨s23, ?_⟩;conv=>whnf
 refine hK _ (W.seqK λK1 hK1 => wrs λK hK => ?_);conv=>whnf
 refine ⟨λhc0 => absurd hc0 (by simp), λ_ => ?_⟩;conv=>whnf
 refine zb rfl (xG _ _ U (by omega)) λhs' hhs => ?_;try dsimp only at hhs
 conv=>whnf
 refine ⟨λhc0 => absurd hc0 (by simp), λ_ => ?_⟩;conv=>whnf
 refine ⟨λhc0 => absurd hc0 (by simp), λ_ => ?_⟩;conv=>whnf
 refine ⟨λhc0 => absurd hc0 (by simp), λ_ => ?_⟩;conv=>whnf
 refine ⟨λhc0 => absurd hc0 (by simp), λ_ => ?_⟩;conv=>whnf
 refine ⟨λhc0 => absurd hc0 (by simp), λ_ => ?_⟩;conv=>whnf
 refine zb rfl (xG _ _ T (by omega)) λhs' hhs => ?_;try dsimp only at hhs
 conv=>whnf
 refine ⟨λhc0 => absurd hc0 (by simp), λ_ => ?_⟩;conv=>whnf
 refine zb rfl (zfS q _ _ Q (by omega)) λhs' hhs => ?_;try dsimp only at hhs
 conv=>whnf
 refine hK _ (W.condF rfl (W.skip (hK1 _ ?_)));clear hK hK1;refine W.seqK λK1 hK1 => ?_
 have fin : ∀ t : S, base <= t.hs -> zB t.env [(3, .ownB b_3 (vE p k none L)), (4, .v (.ints none x)), (5, .v (.ints none U)), (6, .v (.int .i64 e1))] -> K1 t := by
  intro t h7 h8;refine hK1 _ (W.weak (t := ⟨_, base⟩) ⟨h7, h8⟩ (Nat.le_refl _) ?_);clear hK1;refine W.seqK λK1 hK1 => wrs λK hK => ?_;conv=>whnf
  refine hK _ (W.cond ⟨λhz => ?_, λhz => ?_⟩) <;> clear hK
  ·refine wrs λK hK => ?_;conv=>whnf
   refine hK _ (W.ret ?_);conv=>whnf
   exact ⟨.v (.bool true), rfl, trivial, rfl⟩
  have hz : e1 = 0 := Decidable.of_not_not (of_decide_eq_false hz);refine W.skip (hK1 _ ?_);clear hK1;obtain ⟨hex, hxx⟩ := jx (hc1 hz);obtain ⟨hpp, hx4⟩ := kh hex;letI := yL hpp;obtain ⟨M, _, f, m, rfl, he⟩ := hx4;have hf1 := he.mn.1;have hm8 := he.n8;obtain ⟨X, rfl⟩ := jo he.hm hxx.1;have hXd : dg X < dg f := hxx.2;have hXl : X.l.length = dg X := rfl;obtain ⟨V, rfl, hVd, hVc⟩ := hV1 hz hpp M ‹_› f X m he rfl rfl;have hVl : V.l.length = dg V := rfl;obtain ⟨Z, d4, _, hJ4, _, hd4, hW4⟩ := zdQ p k f.l X.l V.l hpR hkR (by omega) (by omega) (by omega)
  obtain rfl : d4 = 0 := hd4.trans (zkS hex λi hi => by
   unfold two; split
   ·exact zlH he _ (by omega)
   ·exact zlH he _ hVd)
  obtain rfl := hW4 rfl hpp M ‹_› f X V m he rfl rfl rfl;have h1 : rdM (X * V) f = 1 := Cg.eq he.mn ((xk he.mn _).trans hVc) (yi he.mn _) (Nat.le_trans kP he.n1);rw [h1, zfK he.m2] at hJ4;refine wrs λK hK => ?_;conv=>whnf
  refine zb rfl (RT.toV (hJ4 _ _ _)) λhs' hhs => ?_;try dsimp only at hhs
  conv=>whnf
  refine hK _ (wrs λK hK => ?_);conv=>whnf
  refine ⟨λ_ => ?_, λhc0 => absurd hc0 (by simp)⟩;conv=>whnf
  refine ⟨⟨rfl, by decide⟩, ?_⟩;conv=>whnf
  intro b_4 hs_4 hh_4 hf_4;try dsimp only at hh_4 hf_4
  conv=>whnf
  refine zb rfl (xG _ _ [1] (by decide)) λhs' hhs => ?_;try dsimp only at hhs
  conv=>whnf
  refine hK _ (W.ret ?_);conv=>whnf
  exact ⟨.v (.bool true), rfl, trivial, rfl⟩
 refine wrs λK hK => ?_;conv=>whnf
 refine hK _ (W.cond ⟨λhz => ?_, λhz => ?_⟩) <;> clear hK
 case refine_2 =>
  refine W.skip (fin _ (by dsimp only; omega) ?_);exact cvr
 have hz : e2 = 0 := of_decide_eq_true hz;have hcx : jd p k L x = 0 := hc2.symm.trans hz;obtain ⟨hex, hxx⟩ := jx hcx;obtain ⟨hpp, hx4⟩ := kh hex;letI := yL hpp;obtain ⟨M, _, f, m, rfl, he⟩ := hx4;have hf1 := he.mn.1;have hm8 := he.n8;have hp2 := Pr.two (p := p);obtain ⟨X, rfl⟩ := jo he.hm hxx.1;have hXd : dg X < dg f := hxx.2;have hXl : X.l.length = dg X := rfl;obtain rfl := hV2 hz hpp M ‹_› f X m he rfl rfl;obtain rfl := hV3 (hc3.trans hcx) hpp M ‹_› f X m he rfl rfl;obtain rfl := hV4 (hc4.trans hcx) hpp M ‹_› f X m he rfl rfl;obtain ⟨eK1, eK2, eK3⟩ := hr5 hex;rw [eK1, eK2];have hR := zfO he;have hIf := (zaV he.pm he.mn).1;have hIX := zbw (p := p) X;have hIl : (im p X).l.length = dg (im p X) := rfl;have hcz : zoG p (im p f).l (im p X).l = 0 := zmP he.fld λj hj => zrb hpp (im p f) (im p X) (by omega) (by omega);have hTd := zoU he.mn (by omega : dg X <= m) (p.toNat ^ m) (k - 1).toNat
 have htm : ∀ A : Poly M, (cf A.l 0).tmod p = cf (im p A).l 0 := λA => by
  rw [vV]; exact Int.tmod_eq_emod_of_nonneg (jb A 0).1
 have ht1 := htm (trM f (zfN he) X m);have ht2 := htm (nrM f (zfN he) X m);rw [zqb he.pm he.mn he.n1 hR X m] at ht1;rw [zqc he.pm he.mn he.n1 hR X m] at ht2;have hTc := zqd he.pm he.mn he.irr X (by omega) (k - 1).toNat;refine wrs λK hK => ?_;conv=>whnf
 refine ⟨by show 0 + 2 <= 3; omega, ?_⟩;conv=>whnf
 refine zb rfl (zfR he.rn.1 he.hm _ X (by omega)) λhs' hhs => ?_;try dsimp only at hhs
 conv=>whnf
 refine hK _ (wrs λK hK => ?_);conv=>whnf
 refine zb rfl (zmS p (im p f) (im p X) he.fld (by omega) hcz m hIf _ _) λhs' hhs => ?_;try dsimp only at hhs
 conv=>whnf
 refine hK _ (wrs λK hK => ?_);conv=>whnf
 refine zb rfl (zo1 p (im p f) (im p X) he.fld (by omega) hcz m hIf _ _) λhs' hhs => ?_;try dsimp only at hhs
 conv=>whnf
 refine hK _ (wrs λK hK => ?_);conv=>whnf
 refine ⟨by show 0 + 2 <= 3; omega, ?_⟩;conv=>whnf
 refine zb rfl (zfR he.rn.1 he.hm _ (tcM f X (p.toNat ^ m) (k - 1).toNat) (by omega)) λhs' hhs => ?_;try dsimp only at hhs
 conv=>whnf
 rw [hTc];refine hK _ (wrs λK hK => ?_);conv=>whnf
 refine ⟨λhc0 => absurd hc0 (by simp), λ_ => ?_⟩;conv=>whnf
 refine ⟨λhc0 => absurd hc0 (by simp), λ_ => ?_⟩;conv=>whnf
 refine ⟨λhc0 => absurd hc0 (by simp), λ_ => ?_⟩;conv=>whnf
 refine ⟨λhc0 => absurd hc0 (by simp), λ_ => ?_⟩;conv=>whnf
 refine ⟨by show p ≠ 0; omega, ?_⟩;conv=>whnf
 rw [ht1];refine ⟨λhc0 => absurd hc0 (by simp), λ_ => ?_⟩;conv=>whnf
 refine ⟨by show p ≠ 0; omega, ?_⟩;conv=>whnf
 rw [ht2];refine ⟨λhc0 => absurd hc0 (by simp), λ_ => ?_⟩;conv=>whnf
 refine zb rfl (xG _ _ (im p X).l (by omega)) λhs' hhs => ?_;try dsimp only at hhs
 conv=>whnf
 refine hK _ (W.condF rfl (W.skip (fin _ (by dsimp only; omega) ?_)));exact cvr

open Go Go.RowKit Go.ChangeShapes Go.WideShapes Go.ChangeAt Go.Proofs Go.Proofs.YtffhmebkkbfaeaaGreat

set_option maxRecDepth 100000 in
theorem liftedUnits (H : Type) (enc : TypeId × Value -> H) (os : Os) (started : os.Started) :
  ReturnsInHanded {} Tryz.checked os 4 .any (Rows.fnUnitsSpec.pre6 enc Tryz.prog Tryz.f4 Rows.fnUnitsRow.domain false) (Rows.fnUnitsSpec.post enc Tryz.prog Tryz.f4 false true false false) := by
 refine zj8 (C := Tryz.checked) (tb := 4) ownP started (by kernel_rfl) Tryz.func4 zoW ?_ rfl (by kernel_rfl) Tryz.underlying4 ?_
  (ChangeSpec.witness6 (enc := enc) (C := Tryz.checked) false ⟨#[], #[.slice none 0 0], []⟩ 8 (by kernel_rfl) (by kernel_rfl) (by kernel_rfl) (by kernel_rfl)) ?_
 ·rw [Tryz.params4];intro t ht;simp only [List.mem_singleton] at ht
  subst ht;exact ⟨by kernel_rfl, of_decide_eq_true (by kernel_rfl)⟩
 ·intro ds hds
  match ds, hds with
  | [d0], _ => exact ⟨rfl, rfl, rfl⟩
 ·intro W args ds ps hval hA;have hval' : ∀ (j : Nat) t v, Tryz.f4.params[j]? = some t -> args[j]? = some v -> ∃ base, Value.okWide Tryz.prog W .any base t v := hval;rw [Tryz.params4] at hA hval';obtain ⟨v0, d0, hv, rfl, h0⟩ := trodAll_one hA;subst hv;obtain ⟨_, hv0⟩ := hval' 0 32 v0 rfl rfl;obtain ⟨a0, len0, cap0, rfl⟩ := okWide_slice Tryz.underlying32 hv0;obtain ⟨x0, hx0, hr0⟩ := zns zkP h0 (by simp);obtain ⟨n, c, hb, _, hr⟩ := zoY hx0;refine zoZ (lawUnits (n := n) (c := c) hb) rfl λj hj => ?_;obtain rfl : j = 0 := by simpa using hj
  exact hr _ _ _ hr0

theorem joinedUnitsa : (Rows.fnUnitsRow.inPlace == Tryz.checked.prog.inPlace 4) = true := by kernel_rfl
theorem joinedUnitsb : (Rows.fnUnitsRow.unfollowed == Tryz.checked.prog.unfollowed 4) = true := by kernel_rfl
theorem joinedUnitsc : (Rows.fnUnitsRow.recurses == Tryz.checked.prog.recurses 4) = true := by kernel_rfl
theorem joinedUnitsd : (Rows.fnUnitsRow.named == Tryz.checked.prog.varsNamed 4) = true := by kernel_rfl
theorem joinedUnits : joinedFacts Tryz.checked.prog 4 Tryz.f4 Rows.fnUnitsSpec Rows.fnUnitsRow = true := by
 unfold joinedFacts;rw [zqL, zrg, zrh, joinedUnitsa, joinedUnitsb, joinedUnitsc, joinedUnitsd]
 kernel_rfl
theorem instUnits : Tryz.f4.isInstance Tryz.checked.prog Rows.fnUnitsRow.origin Rows.fnUnitsRow.targs := of_decide_eq_true (by kernel_rfl)

theorem claimUnits : Rows.FnUnitsSaid :=
 OpenClaim.holds_of_wide (p := Tryz.pinned) (s := Rows.fnUnitsSpec) (c := Rows.fnUnitsRow) 4 Tryz.f4 rfl rfl rfl rfl rfl rfl rfl ⟨rfl, rfl, rfl, rfl, rfl⟩ rfl rfl rfl rfl rfl (by kernel_rfl) Tryz.func4 joinedUnits
  instUnits (by unfold Func.isWrapper; first | (rw [if_pos (by decide +kernel)]; kernel_rfl) | (rw [if_neg (by decide +kernel)]; exact ⟨rfl, rfl⟩))
  (λos started H enc _ => liftedUnits H enc os started)

end Go.Proofs.YtffhmebkkbfaeaaGreat
