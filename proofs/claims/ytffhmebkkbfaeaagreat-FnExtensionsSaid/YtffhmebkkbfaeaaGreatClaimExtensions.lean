/- The law FnExtensions answers true, for all arguments. No conditions. -/
import Derived.Test.YtffhmebkkbfaeaaGreatPk
namespace Go.Proofs.YtffhmebkkbfaeaaGreat
open Go Go.RowKit Go.Proofs Poly
set_option maxRecDepth 100000
set_option maxHeartbeats 8000000

theorem lawExtensions {n : Nat} {c : Nat -> Int} (hb : ∀ i, 0 <= c i ∧ c i <= 255) : FnV 6 [vBy n c] (.bool true) := by
 refine zg (za [0, 2, 3, 4, 5, 6, 7, 8, 9, 10, 11, 12, 13, 14, 15, 16, 17, 18, 19, 20, 21, 22, 23, 24, 25, 26, 27, 28, 29, 30, 31, 32, 33, 34, 35, 36, 38, 125, 127]) Tryz.func6 rfl (by decide) Tryz.ntmps6 (Nat.le_of_ble_eq_true rfl) λbase => ?_;refine wrs λK hK => ?_;conv => whnf
 refine hK _ ?_;clear hK K;refine W.seqK λK1 hK1 => ?_;refine wrs λK hK => ?_;conv => whnf
 refine zb rfl (zqa) λhs' hhs => ?_;try dsimp only at hhs
 conv => whnf
 refine hK _ (W.cond ⟨λh => ?_, λh => ?_⟩) <;> clear hK K
 ·refine wrs λK hK => ?_;conv => whnf
  refine hK _ ?_;clear hK K;refine W.ret ?_;conv => whnf
  exact ⟨.v (.bool true), rfl, trivial, rfl⟩
 have h := of_decide_eq_false h;have hc : Byt n c := ⟨by omega, hb⟩
 refine W.skip (hK1 _ ?_);clear hK1 K1;refine wrs λK hK => ?_;conv => whnf
 refine yO rfl (vZ hc) ?_;rintro lo hi hi' z hl1 hl2 hl3 ⟨p, k, L, x, y, rfl, hp, hk, hL, hx, hy⟩ _;try dsimp only at hl1 hl2
 conv => whnf
 intro b_3 hs_3 hh_3 hf_3;try dsimp only at hh_3 hf_3
 conv => whnf
 refine ⟨s23, ?_⟩;conv => whnf
 refine hK _ ?_;clear hK K;have hpR : inR p := by constructor <;> omega
 have hkR : inR k := by constructor <;> omega
 obtain ⟨Z, e1, hS1, hI1, hZ, hc1, hV1⟩ := zal p k L x y hpR hkR (by omega) (by omega) (by omega);refine wrs λK hK => ?_;conv => whnf
 refine zb rfl (RT.toV (hI1 _ _ _)) λhs' hhs => ?_;try dsimp only at hhs
 conv => whnf
 refine hK _ ?_;clear hK K;refine wrs λK hK => ?_;conv => whnf
 refine zb rfl (hS1 _ _ _) λhs' hhs => ?_;try dsimp only at hhs
 conv => whnf
 refine hK _ ?_;clear hK K;refine wrs λK hK => ?_;conv => whnf
 refine yO rfl (zaq hc) ?_;rintro lo2 hi2 hi2' z hm1 hm2 hm3 ⟨p2, k2, L2, x2, rfl, hp2, hk2, hL2, hx2⟩ _;try dsimp only at hm1 hm2
 conv => whnf
 intro b_10 hs_10 hh_10 hf_10;try dsimp only at hh_10 hf_10
 conv => whnf
 refine ⟨s23, ?_⟩;conv => whnf
 refine hK _ ?_;clear hK K;obtain ⟨A2, e2, hS2, hI2, hA2, _⟩ := xr p2 k2 L2 x2 (by constructor <;> omega) (by constructor <;> omega) (by omega) (by omega);refine wrs λK hK => ?_;conv => whnf
 refine zb rfl (RT.toV (hI2 _ _)) λhs' hhs => ?_;try dsimp only at hhs
 conv => whnf
 refine hK _ ?_;clear hK K;refine wrs λK hK => ?_;conv => whnf
 refine zb rfl (hS2 _ _) λhs' hhs => ?_;try dsimp only at hhs
 conv => whnf
 refine hK _ ?_;clear hK K;refine wrs λK hK => ?_;conv => whnf
 refine yO rfl (zar hc) ?_;rintro lo3 hi3 hi3' z hk1 hk2 hk3 ⟨p3, k3, L3, rfl, hp3, hk3', hL3⟩ _;try dsimp only at hk1 hk2
 conv => whnf
 intro b_16 hs_16 hh_16 hf_16;try dsimp only at hh_16 hf_16
 conv => whnf
 refine ⟨s23, ?_⟩;conv => whnf
 refine hK _ ?_;clear hK K;obtain ⟨A3, e3, hS3, hI3, hA3, hx3⟩ := zc3 p3 k3 L3 (by constructor <;> omega) (by constructor <;> omega) (by omega);refine wrs λK hK => ?_;conv => whnf
 refine zb rfl (RT.toV (hI3 _)) λhs' hhs => ?_;try dsimp only at hhs
 conv => whnf
 refine hK _ ?_;clear hK K;refine wrs λK hK => ?_;conv => whnf
 refine zb rfl (hS3 _) λhs' hhs => ?_;try dsimp only at hhs
 conv => whnf
 refine hK _ ?_;clear hK K;refine W.seqK λK1 hK1 => ?_;refine wrs λK hK => ?_;conv => whnf
 refine ⟨λhc0 => absurd hc0 (by simp), λ_ => ?_⟩;conv => whnf
 refine zb rfl (xF _ _ Z (by omega)) λhs' hhs => ?_;try dsimp only at hhs
 conv => whnf
 refine ⟨λhc0 => absurd hc0 (by simp), λ_ => ?_⟩;conv => whnf
 refine zb rfl (xF _ _ A2 (by omega)) λhs' hhs => ?_;try dsimp only at hhs
 conv => whnf
 refine ⟨λhc0 => absurd hc0 (by simp), λ_ => ?_⟩;conv => whnf
 refine zb rfl (xF _ _ A3 (by omega)) λhs' hhs => ?_;try dsimp only at hhs
 conv => whnf
 refine zb rfl (jO p3 k3 _ L3 (by omega)) λhs' hhs => ?_;try dsimp only at hhs
 conv => whnf
 have hex : bP (jn p3 k3 L3) = decide (e3 = 0) := by
  by_cases h : jn p3 k3 L3
  ·rw [zi h, decide_eq_true (hx3.1 h)]
  ·rw [ze h, decide_eq_false λh' => h (hx3.2 h')]
 rw [hex];refine hK _ (W.cond ⟨λhcc => absurd hcc (by simp), λ_ => W.skip (hK1 _ ?_)⟩);clear hK K hK1 K1 hex;refine W.seqK λK1 hK1 => ?_;refine wrs λK hK => ?_;conv => whnf
 refine hK _ (W.cond ⟨λhz => ?_, λhz => ?_⟩) <;> clear hK K
 ·refine wrs λK hK => ?_;conv => whnf
  refine hK _ ?_;clear hK K;refine W.ret ?_;conv => whnf
  exact ⟨.v (.bool true), rfl, trivial, rfl⟩
 have hz : e1 = 0 := Decidable.of_not_not (of_decide_eq_false hz);refine W.skip (hK1 _ ?_);clear hK1 K1;obtain ⟨hex, hh⟩ := zfu (hc1.symm.trans hz);have hxx : vY p k L x := hh 0 (by omega);have hyy : vY p k L y := hh 1 (by omega);clear hh;obtain ⟨hpp, hx4⟩ := zcv hex;letI := xt hpp;obtain ⟨M, _, f, m, rfl, he⟩ := hx4;have hfl : f.l.length = dg f := rfl;have hf1 := he.mn.1;have hm8 := he.n8;have hm1 := he.n1;obtain ⟨X, rfl⟩ := zbg he.hm hxx.1;obtain ⟨Y, rfl⟩ := zbg he.hm hyy.1;have hXd : dg X < dg f := hxx.2;have hYd : dg Y < dg f := hyy.2;have hXl : X.l.length = dg X := rfl;have hYl : Y.l.length = dg Y := rfl;obtain rfl := hV1 hz hpp M ‹_› f X Y m he rfl rfl rfl;have hZd := yW he.mn (X * Y);have hZl : (rdM (X * Y) f).l.length = dg (rdM (X * Y) f) := rfl;have hR := zfz he;have hRd := hR.deg;have h0 : Cg f (evL f.l (vq he)) 0 := hR.val.top he.hm.symm;have hph : ∀ A : Poly M, dg (phi f (vq he) A) <= m := λA => vO he.mn hm1 _;obtain ⟨B1, d1, _, hJ1, _, hd1, hW1⟩ := xr p k f.l X.l hpR hkR (by omega) (by omega);obtain rfl : d1 = 0 := hd1.trans (zac hex λ_ _ => zcw he X (by omega));obtain rfl : B1 = (phi f (vq he) X).l := hW1 rfl hpp M ‹_› f X m he rfl rfl;obtain ⟨B2, d2, _, hJ2, _, hd2, hW2⟩ := xr p k f.l Y.l hpR hkR (by omega) (by omega);obtain rfl : d2 = 0 := hd2.trans (zac hex λ_ _ => zcw he Y (by omega));obtain rfl : B2 = (phi f (vq he) Y).l := hW2 rfl hpp M ‹_› f Y m he rfl rfl;obtain ⟨B3, d3, _, hJ3, _, hd3, hW3⟩ := xr p k f.l (rdM (X * Y) f).l hpR hkR (by omega) (by omega);obtain rfl : d3 = 0 := hd3.trans (zac hex λ_ _ => zcw he _ hZd);obtain rfl : B3 = (phi f (vq he) (rdM (X * Y) f)).l := hW3 rfl hpp M ‹_› f _ m he rfl rfl;have hb1 : (phi f (vq he) X).l.length <= m := hph X;have hb2 : (phi f (vq he) Y).l.length <= m := hph Y;obtain ⟨B4, d4, _, hJ4, _, hd4, hW4⟩ := zal p k f.l (phi f (vq he) X).l (phi f (vq he) Y).l hpR hkR (by omega) (by omega) (by omega)
 obtain rfl : d4 = 0 := hd4.trans (zac hex λi hi => by
  unfold two; split
  ·exact zcw he _ (hph X)
  ·exact zcw he _ (hph Y))
 obtain rfl := hW4 rfl hpp M ‹_› f _ _ m he rfl rfl rfl;rw [<- zpm he.mn hm1 h0] at hJ4;obtain ⟨K1, K2, e5, _, hI5, _, hr5, _⟩ := zfw p k f.l hpR hkR (by omega);obtain ⟨eK1, eK2, eK3⟩ := hr5 hex;rw [eK1, eK2, eK3] at hI5;have hIf := (ze7 he.pm he.mn).1;have hIX := zdi (p := p) X;have hcz : zon p (im p f).l (im p X).l = 0 := zmy he.fld λj hj => zqL hpp (im p f) (im p X) (by omega) (by omega);have hFo := zfU p (im p f) (im p X) he.fld (by omega) hcz 1 (by omega);have hfr : frN (im p f) (im p X) 1 = im p (phi f (vq he) X) := (zp9 he.pm he.mn hm1 hR X).symm;rw [hfr] at hFo;have hIm := λA : Poly M => zdi (p := p) A;have hb3 : (phi f (vq he) (rdM (X * Y) f)).l.length <= m := hph _;have hb4 : (im p (phi f (vq he) X)).l.length <= m := Nat.le_trans (hIm _) (hph X);refine wrs λK hK => ?_;conv => whnf
 refine zb rfl (RT.toV (hJ1 _ _)) λhs' hhs => ?_;try dsimp only at hhs
 conv => whnf
 refine hK _ ?_;clear hK K;refine wrs λK hK => ?_;conv => whnf
 refine zb rfl (RT.toV (hJ2 _ _)) λhs' hhs => ?_;try dsimp only at hhs
 conv => whnf
 refine hK _ ?_;clear hK K;refine wrs λK hK => ?_;conv => whnf
 refine zb rfl (RT.toV (hJ3 _ _)) λhs' hhs => ?_;try dsimp only at hhs
 conv => whnf
 refine hK _ ?_;clear hK K;refine wrs λK hK => ?_;conv => whnf
 refine zb rfl (RT.toV (hJ4 _ _ _)) λhs' hhs => ?_;try dsimp only at hhs
 conv => whnf
 refine hK _ ?_;clear hK K;refine wrs λK hK => ?_;conv => whnf
 refine zb rfl ((hI5 _).toK) λhs' hhs => ?_;try dsimp only at hhs
 conv => whnf
 intro b_29 hs_29 hh_29 hf_29;try dsimp only at hh_29 hf_29
 conv => whnf
 refine ⟨s23, ?_⟩;conv => whnf
 refine hK _ ?_;clear hK K;refine wrs λK hK => ?_;conv => whnf
 refine ⟨by show 0 + 2 <= 3; omega, ?_⟩;conv => whnf
 refine zb rfl (zfB he.rn.1 he.hm _ X (by omega)) λhs' hhs => ?_;try dsimp only at hhs
 conv => whnf
 refine hK _ ?_;clear hK K;refine wrs λK hK => ?_;conv => whnf
 refine ⟨by show 0 + 2 <= 3; omega, ?_⟩;conv => whnf
 refine zb rfl (zfB he.rn.1 he.hm _ (phi f (vq he) X) (by have := hph X; omega)) λhs' hhs => ?_;try dsimp only at hhs
 conv => whnf
 refine hK _ ?_;clear hK K;refine wrs λK hK => ?_;conv => whnf
 refine zb rfl (RT.toV (hFo _ _)) λhs' hhs => ?_;try dsimp only at hhs
 conv => whnf
 refine hK _ ?_;clear hK K;refine wrs λK hK => ?_;conv => whnf
 refine ⟨λ_ => ?_, λhc0 => absurd hc0 (by simp)⟩;conv => whnf
 refine ⟨λ_ => ?_, λhc0 => absurd hc0 (by simp)⟩;conv => whnf
 refine ⟨λ_ => ?_, λhc0 => absurd hc0 (by simp)⟩;conv => whnf
 refine ⟨λ_ => ?_, λhc0 => absurd hc0 (by simp)⟩;conv => whnf
 refine zb rfl (xF _ _ (phi f (vq he) (rdM (X * Y) f)).l (by omega)) λhs' hhs => ?_;try dsimp only at hhs
 conv => whnf
 refine ⟨λ_ => ?_, λhc0 => absurd hc0 (by simp)⟩;conv => whnf
 refine ⟨λ_ => ?_, λhc0 => absurd hc0 (by simp)⟩;conv => whnf
 refine ⟨λ_ => ?_, λhc0 => absurd hc0 (by simp)⟩;conv => whnf
 refine ⟨λ_ => ?_, λhc0 => absurd hc0 (by simp)⟩;conv => whnf
 refine zb rfl (xF _ _ (im p (phi f (vq he) X)).l (by omega)) λhs' hhs => ?_;try dsimp only at hhs
 conv => whnf
 refine hK _ ?_;clear hK K;refine W.ret ?_;conv => whnf
 exact ⟨.v (.bool true), rfl, trivial, rfl⟩

open Go Go.RowKit Go.ChangeShapes Go.WideShapes Go.ChangeAt Go.Proofs Go.Proofs.YtffhmebkkbfaeaaGreat

set_option maxRecDepth 100000 in
theorem liftedExtensions (H : Type) (enc : TypeId × Value -> H) (os : Os) (started : os.Started) :
  ReturnsInHanded {} Tryz.checked os 6 .any (Rows.fnExtensionsSpec.pre6 enc Tryz.prog Tryz.f6 Rows.fnExtensionsRow.domain false) (Rows.fnExtensionsSpec.post enc Tryz.prog Tryz.f6 false true false false) := by
 refine zjO (C := Tryz.checked) (tb := 4) ownP started (by kernel_rfl) Tryz.func6 zoB ?_ rfl (by kernel_rfl) Tryz.underlying4 ?_
  (ChangeSpec.witness6 (enc := enc) (C := Tryz.checked) false ⟨#[], #[.slice none 0 0], []⟩ 8 (by kernel_rfl) (by kernel_rfl) (by kernel_rfl) (by kernel_rfl)) ?_
 ·rw [Tryz.params6];intro t ht;simp only [List.mem_singleton] at ht
  subst ht;exact ⟨by kernel_rfl, of_decide_eq_true (by kernel_rfl)⟩
 ·intro ds hds
  match ds, hds with
  | [d0], _ => exact ⟨rfl, rfl, rfl⟩
 ·intro W args ds ps hval hA;have hval' : ∀ (j : Nat) t v, Tryz.f6.params[j]? = some t -> args[j]? = some v -> ∃ base, Value.okWide Tryz.prog W .any base t v := hval;rw [Tryz.params6] at hA hval';obtain ⟨v0, d0, hv, rfl, h0⟩ := trodAll_one hA;subst hv;obtain ⟨_, hv0⟩ := hval' 0 32 v0 rfl rfl;obtain ⟨a0, len0, cap0, rfl⟩ := okWide_slice Tryz.underlying32 hv0;obtain ⟨x0, hx0, hr0⟩ := zm9 zkx h0 (by simp);obtain ⟨n, c, hb, _, hr⟩ := zoD hx0;refine zoE (lawExtensions (n := n) (c := c) hb) rfl λj hj => ?_;obtain rfl : j = 0 := by simpa using hj
  exact hr _ _ _ hr0

theorem joinedExtensionsa : (Rows.fnExtensionsRow.inPlace == Tryz.checked.prog.inPlace 6) = true := by kernel_rfl
theorem joinedExtensionsb : (Rows.fnExtensionsRow.unfollowed == Tryz.checked.prog.unfollowed 6) = true := by kernel_rfl
theorem joinedExtensionsc : (Rows.fnExtensionsRow.recurses == Tryz.checked.prog.recurses 6) = true := by kernel_rfl
theorem joinedExtensionsd : (Rows.fnExtensionsRow.named == Tryz.checked.prog.varsNamed 6) = true := by kernel_rfl
theorem joinedExtensions : joinedFacts Tryz.checked.prog 6 Tryz.f6 Rows.fnExtensionsSpec Rows.fnExtensionsRow = true := by
 unfold joinedFacts;rw [zql, zqQ, zqR, joinedExtensionsa, joinedExtensionsb, joinedExtensionsc, joinedExtensionsd]
 kernel_rfl
theorem instExtensions : Tryz.f6.isInstance Tryz.checked.prog Rows.fnExtensionsRow.origin Rows.fnExtensionsRow.targs := of_decide_eq_true (by kernel_rfl)

theorem claimExtensions : Rows.FnExtensionsSaid :=
 OpenClaim.holds_of_wide (p := Tryz.pinned) (s := Rows.fnExtensionsSpec) (c := Rows.fnExtensionsRow) 6 Tryz.f6 rfl rfl rfl rfl rfl rfl rfl ⟨rfl, rfl, rfl, rfl, rfl⟩ rfl rfl rfl rfl rfl (by kernel_rfl) Tryz.func6 joinedExtensions
  instExtensions (by unfold Func.isWrapper; first | (rw [if_pos (by decide +kernel)]; kernel_rfl) | (rw [if_neg (by decide +kernel)]; exact ⟨rfl, rfl⟩))
  (λos started H enc _ => liftedExtensions H enc os started)

end Go.Proofs.YtffhmebkkbfaeaaGreat
