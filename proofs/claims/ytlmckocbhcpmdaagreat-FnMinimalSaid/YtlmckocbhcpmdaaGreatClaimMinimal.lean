/- The law FnMinimal answers true, for all arguments. No conditions. -/
import Derived.Test.YtlmckocbhcpmdaaGreatPk
namespace Go.Proofs.YtlmckocbhcpmdaaGreat
open Go Go.RowKit Go.Proofs Poly
set_option maxRecDepth 100000
set_option maxHeartbeats 8000000

theorem zkO {p : Int} [SP p] (f F X : Poly p) : ∀ k, k <= dg F -> f ∣ yY f F X k - ev X (F.l.drop (dg F - k))
 | 0, _ => by
  rw [Nat.sub_zero, List.drop_eq_nil_of_le (show F.l.length <= dg F from Nat.le_refl _)];exact yp f 0
 | k + 1, hk => by
  have h1 := zkO f F X k (by omega);have hl : F.l.length = dg F := rfl
  have h2 : F.l.drop (dg F - (k + 1)) = F.l[dg F - (k + 1)] :: F.l.drop (dg F - k) := by
   rw [List.drop_eq_getElem_cons (by omega), show dg F - (k + 1) + 1 = dg F - k by omega]
  rw [h2, ev]
  have h3 : cf F.l (dg F - 1 - k) = F.l[dg F - (k + 1)] := by
   rw [show dg F - 1 - k = dg F - (k + 1) by omega, yt]
  show f ∣ (rem (yY f F X k * X) f + con p (cf F.l (dg F - 1 - k))) - _
  rw [h3];have h4 := jx (zcM (xc (yY f F X k * X) f)) (zaB h1 (yp f X));have h5 := zeV h4 (yp f (con p F.l[dg F - (k + 1)]));rw [show con p F.l[dg F - (k + 1)] + X * ev X (F.l.drop (dg F - k)) = ev X (F.l.drop (dg F - k)) * X + con p F.l[dg F - (k + 1)] from zf [con p F.l[dg F - (k + 1)], X, ev X (F.l.drop (dg F - k))] (by rfl)];exact h5
theorem zlT {p : Int} [SP p] {f F X : Poly p} (hi : Irr f) (h : f ∣ ev X F.l) : yY f F X (dg F) = 0 := by
 have h1 := zkO f F X (dg F) (Nat.le_refl _);rw [Nat.sub_self, List.drop_zero] at h1;have h2 : f ∣ ev X F.l - 0 := by rw [show ev X F.l - 0 = ev X F.l from zf [ev X F.l] (by rfl)]; exact h
 exact ziC (jx h1 h2) (zce hi.ne hi.1 _) (by rw [zv]; have := hi.1; omega)

theorem lawMinimal {n : Nat} {c : Nat -> Int} (hb : ∀ i, 0 <= c i ∧ c i <= 255) : FnV 6 [vBy n c] (.bool true) := by
 refine ze (za [0, 2, 3, 4, 5, 6, 7, 8, 9, 10, 11, 12, 13, 14, 15, 16, 17, 18, 19, 20, 21, 22, 23, 24, 25, 26, 27, 28, 29, 30, 31, 32, 33, 34, 35, 36, 37, 38, 39, 41, 184, 196, 215, 217]) Tryz.func6 rfl (by decide) Tryz.ntmps6 (Nat.le_of_ble_eq_true rfl) fun base => ?_;refine wrs fun K hK => ?_;conv => whnf
 refine hK _ ?_;clear hK K;refine W.seqK fun K1 hK1 => ?_;refine wrs fun K hK => ?_;conv => whnf
 refine zc rfl (zoT) fun hs' hhs => ?_;try dsimp only at hhs
 conv => whnf
 refine hK _ (W.cond ⟨fun h => ?_, fun h => ?_⟩) <;> clear hK K
 ·refine wrs fun K hK => ?_;conv => whnf
  refine hK _ ?_;clear hK K;refine W.ret ?_;conv => whnf
  exact ⟨.v (.bool true), rfl, trivial, rfl⟩
 have h := of_decide_eq_false h;have hc : Byt n c := ⟨by omega, hb⟩
 refine W.skip (hK1 _ ?_);clear hK1 K1;refine wrs fun K hK => ?_;conv => whnf
 refine yi rfl (j2 hc) ?_;rintro lo hi hi' z hl1 hl2 hl3 ⟨p, L, X, rfl, hp, hL, hX⟩ _;try dsimp only at hl1 hl2
 conv => whnf
 intro b_3 hs_3 hh_3 hf_3;try dsimp only at hh_3 hf_3
 conv => whnf
 refine ⟨s23, ?_⟩;conv => whnf
 refine hK _ ?_;clear hK K;have hpR : inR p := by constructor <;> omega
 obtain ⟨M, e1, hS1, hI1, hM, he1, hV1⟩ := zaX p L X hpR (by omega) (by omega);obtain ⟨C, e2, hS2, hI2, hC, hC2, he2, hV2⟩ := zfg p L X hpR (by omega) (by omega);subst he1 he2;refine wrs fun K hK => ?_;conv => whnf
 refine zc rfl (RT.toV (hI1 _ _)) fun hs' hhs => ?_;try dsimp only at hhs
 conv => whnf
 refine hK _ ?_;clear hK K;refine wrs fun K hK => ?_;conv => whnf
 refine zc rfl (hS1 _ _) fun hs' hhs => ?_;try dsimp only at hhs
 conv => whnf
 refine hK _ ?_;clear hK K;refine wrs fun K hK => ?_;conv => whnf
 refine zc rfl (RTS.toV (hI2 _ _)) fun hs' hhs => ?_;try dsimp only at hhs
 conv => whnf
 refine hK _ ?_;clear hK K;refine wrs fun K hK => ?_;conv => whnf
 refine zc rfl (hS2 _ _) fun hs' hhs => ?_;try dsimp only at hhs
 conv => whnf
 refine hK _ ?_;clear hK K;refine wrs fun K hK => ?_;conv => whnf
 refine yi rfl (za0 hc) ?_;rintro lo2 hi2 hi2' z hm1 hm2 hm3 ⟨p2, L2, Y, d, rfl, hp2, hL2, hY, hd⟩ _;try dsimp only at hm1 hm2
 conv => whnf
 intro b_13 hs_13 hh_13 hf_13;try dsimp only at hh_13 hf_13
 conv => whnf
 refine ⟨s23, ?_⟩;conv => whnf
 refine hK _ ?_;clear hK K;obtain ⟨sf, e3, hS3, hI3⟩ := zcf p2 L2 Y d (by constructor <;> omega) (by constructor <;> omega) (by omega) (by omega);refine wrs fun K hK => ?_;conv => whnf
 refine zc rfl (hI3 _ _) fun hs' hhs => ?_;try dsimp only at hhs
 conv => whnf
 refine hK _ ?_;clear hK K;refine wrs fun K hK => ?_;conv => whnf
 refine zc rfl (hS3 _ _) fun hs' hhs => ?_;try dsimp only at hhs
 conv => whnf
 refine hK _ ?_;clear hK K;refine wrs fun K hK => ?_;conv => whnf
 refine yi rfl (zaZ hc) ?_;rintro lo3 hi3 hi3' z hk1 hk2 hk3 ⟨p3, L3, H, rfl, hp3, hL3, hH⟩ _;try dsimp only at hk1 hk2
 conv => whnf
 intro b_20 hs_20 hh_20 hf_20;try dsimp only at hh_20 hf_20
 conv => whnf
 refine ⟨s23, ?_⟩;conv => whnf
 refine hK _ ?_;clear hK K;obtain ⟨R, e4, hS4, hI4, hR, hR2, hV4⟩ := zfi p3 L3 H (by constructor <;> omega) (by omega) (by omega);refine wrs fun K hK => ?_;conv => whnf
 refine zc rfl (RTS.toV (hI4 _ _)) fun hs' hhs => ?_;try dsimp only at hhs
 conv => whnf
 refine hK _ ?_;clear hK K;refine wrs fun K hK => ?_;conv => whnf
 refine zc rfl (hS4 _ _) fun hs' hhs => ?_;try dsimp only at hhs
 conv => whnf
 refine hK _ ?_;clear hK K;refine wrs fun K hK => ?_;conv => whnf
 refine yi rfl (kV hc) ?_;rintro lo4 hi4 hi4' z hj1 hj2 hj3 ⟨p4, L4, U, T, rfl, hp4, hL4, hU, hT⟩ _;try dsimp only at hj1 hj2
 conv => whnf
 intro b_26 hs_26 hh_26 hf_26;try dsimp only at hh_26 hf_26
 conv => whnf
 refine ⟨s23, ?_⟩;conv => whnf
 refine hK _ ?_;clear hK K;obtain ⟨E, e5, hS5, hI5, hE, _⟩ := va p4 L4 U T (by constructor <;> omega) (by omega) (by omega) (by omega);refine wrs fun K hK => ?_;conv => whnf
 refine zc rfl (RT.toV (hI5 _ _ _)) fun hs' hhs => ?_;try dsimp only at hhs
 conv => whnf
 refine hK _ ?_;clear hK K;refine wrs fun K hK => ?_;conv => whnf
 refine zc rfl (hS5 _ _ _) fun hs' hhs => ?_;try dsimp only at hhs
 conv => whnf
 refine hK _ ?_;clear hK K;refine W.seqK fun K1 hK1 => ?_;refine wrs fun K hK => ?_;conv => whnf
 refine ⟨fun hc0 => absurd hc0 (by simp), fun _ => ?_⟩;conv => whnf
 refine zc rfl (jZ _ _ M (by omega)) fun hs' hhs => ?_;try dsimp only at hhs
 conv => whnf
 refine ⟨fun hc0 => absurd hc0 (by simp), fun _ => ?_⟩;conv => whnf
 refine zc rfl (k8 C (by omega) (fun j => by have := hC2 j; omega)) fun hs' hhs => ?_;try dsimp only at hhs
 conv => whnf
 refine ⟨fun hc0 => absurd hc0 (by simp), fun _ => ?_⟩;conv => whnf
 refine ⟨fun hc0 => absurd hc0 (by simp), fun _ => ?_⟩;conv => whnf
 refine ⟨fun hc0 => absurd hc0 (by simp), fun _ => ?_⟩;conv => whnf
 refine zc rfl (k8 R (by omega) (fun j => by have := hR2 j; omega)) fun hs' hhs => ?_;try dsimp only at hhs
 conv => whnf
 refine ⟨fun hc0 => absurd hc0 (by simp), fun _ => ?_⟩;conv => whnf
 refine zc rfl (jZ _ _ E (by omega)) fun hs' hhs => ?_;try dsimp only at hhs
 conv => whnf
 refine hK _ (W.cond ⟨fun hcc => absurd hcc (by simp), fun _ => W.skip (hK1 _ ?_)⟩);clear hK K hK1 K1;refine W.seqK fun K1 hK1 => ?_
 have fin : ∀ t : S, base <= t.hs -> zB t.env [(3, .ownB b_3 (vK p none L)), (4, .v (.ints none X)), (5, .v (.ints none M)), (6, .v (.int .i64 (xC p L X))), (9, .v (vLL C))] -> K1 t := by
  intro t h7 h8;refine hK1 _ (W.weak (t := ⟨[(3, .ownB b_3 (vK p none L)), (4, .v (.ints none X)), (5, .v (.ints none M)), (6, .v (.int .i64 (xC p L X))), (9, .v (vLL C))], base⟩) ⟨h7, h8⟩ (Nat.le_refl _) ?_);clear hK1 K1;refine W.seqK fun K1 hK1 => ?_;refine wrs fun K hK => ?_;conv => whnf
  refine hK _ (W.cond ⟨fun hz => ?_, fun hz => ?_⟩) <;> clear hK K
  ·refine wrs fun K hK => ?_;conv => whnf
   refine hK _ ?_;clear hK K;refine W.ret ?_;conv => whnf
   exact ⟨.v (.bool true), rfl, trivial, rfl⟩
  have hz : xC p L X = 0 := Decidable.of_not_not (of_decide_eq_false hz);refine W.skip (hK1 _ ?_);clear hK1 K1;rw [hz];obtain ⟨hk, hh⟩ := zaH hz;obtain ⟨hpp, f, rfl, hfi, _, hf2, hf9⟩ := vQ hk;letI := yE hpp;obtain ⟨X, rfl⟩ := vR hh.1;have hxl : dg X < dg f := hh.2;have hfl : f.l.length = dg f := rfl;obtain ⟨m, hm, rfl⟩ := hV1 hpp f X rfl rfl hz;obtain ⟨m', hm', hCl⟩ := hV2 hpp f X rfl rfl hz;obtain ⟨G, hG, hGd, hGr, hGi⟩ := zlA hfi hxl hm;have hGl : G.l.length = m + 1 := hGd;obtain ⟨d0, hd0⟩ : ∃ d, dg f = d + 1 := ⟨dg f - 1, by omega⟩
  obtain ⟨m2, hm2, hm3⟩ := jw hfi hxl hd0
  have uniq : ∀ {a b : Nat}, Per f X a -> Per f X b -> a = b := fun {a b} ha hb => by
   rcases Nat.lt_trichotomy a b with h | h | h
   ·exact absurd ha.back (hb.first a ha.pos h)
   ·exact h
   ·exact absurd hb.back (ha.first b hb.pos h)
  obtain rfl := uniq hm hm';obtain rfl := uniq hm hm2
  have hMod : yc p G.l := by
   refine ⟨decide_eq_true hpp, by omega, fun j _ => by have := vO G j; omega, .inr (G.ok.2 _ (by omega))⟩
  rw [<- hG];obtain ⟨Z, e6, _, hI6, hZ, hV6⟩ := va p f.l G.l X.l hpR (by omega) (by omega) (by omega);obtain ⟨rfl, rfl⟩ := hV6 hpp f G X rfl rfl rfl hz hMod;rw [zlT hfi hGr, xZ] at hI6;refine wrs fun K hK => ?_;conv => whnf
  refine zc rfl (RT.toV (hI6 _ _ _)) fun hs' hhs => ?_;try dsimp only at hhs
  conv => whnf
  refine hK _ ?_;clear hK K;refine wrs fun K hK => ?_;conv => whnf
  refine zc rfl (zcV p none G hMod (by have := hGi.1; omega)) fun hs' hhs => ?_;try dsimp only at hhs
  conv => whnf
  rw [zj hGi];refine hK _ ?_;clear hK K;refine wrs fun K hK => ?_;conv => whnf
  refine ⟨fun _ => ?_, fun hc0 => absurd hc0 (by simp)⟩;conv => whnf
  refine ⟨fun _ => ?_, fun hc0 => absurd hc0 (by simp)⟩;conv => whnf
  refine ⟨fun _ => ?_, fun hc0 => absurd hc0 (by simp)⟩;conv => whnf
  refine ⟨fun _ => ?_, fun hc0 => absurd hc0 (by simp)⟩;conv => whnf
  refine ⟨oo, ?_⟩;conv => whnf
  refine hK _ ?_;clear hK K;refine W.ret ?_;conv => whnf
  exact ⟨.v (.bool true), decide_eq_true (by omega), trivial, rfl⟩
 refine wrs fun K hK => ?_;conv => whnf
 refine hK _ (W.block (W.invA (fun m e => ∃ i : Nat, i <= R.length ∧ m = R.length - i ∧ e = [(3, .ownB b_3 (vK p none L)), (4, .v (.ints none X)), (5, .v (.ints none M)), (6, .v (.int .i64 (xC p L X))), (9, .v (vLL C)), (20, .ownB b_20 (vK p3 none L3)), (21, .v (.ints none H)), (22, .v (vLL R)), (23, .v (.int .i64 e4)), (33, .v (.int .i64 i))]) ⟨0, Nat.zero_le _, rfl, rfl⟩ ?_));clear hK K;rintro m e ⟨i, hi, hm, rfl⟩;refine W.seqK fun K7 hK7 => ?_;refine wrs fun K hK => ?_;conv => whnf
 refine ⟨fun h3 => ?_, fun h3 => ?_⟩
 ·conv => whnf
  refine ⟨fun h4 => ?_, fun h4 => ?_⟩
  ·conv => whnf
   refine hK _ (W.cond ⟨fun h5 => ?_, fun h5 => ?_⟩) <;> clear hK K
   ·have h3 : e4 = 0 := of_decide_eq_true h3;have h4 := of_decide_eq_true h4;refine W.skip (hK7 _ (W.seqK fun K8 hK8 => W.block ?_));clear hK7 K7 fin hK1;obtain ⟨hpp, f, Φ, rfl, rfl, hk, hmd, hall⟩ := hV4 h3;letI := yE hpp;obtain ⟨Y, hY1, hY2, hY3⟩ := hall i (by omega);have hf9 : dg f <= 9 := hk.mod.2.1;have hYl : Y.l.length < f.l.length := hY2;have hfl : f.l.length = dg f := rfl;have hcz : xC p3 f.l Y.l = 0 := zlS hk fun j hj => zpi hpp f Y hY2 (by omega);obtain ⟨Z, e6, _, hI6, _, hV6⟩ := va p3 f.l Φ.l Y.l (by constructor <;> omega) (by omega) (by omega) (by omega);obtain ⟨rfl, rfl⟩ := hV6 hpp f Φ Y rfl rfl rfl hcz hmd;rw [List.eq_nil_of_length_eq_zero hY3, <- hY1] at hI6;subst h3;refine W.rgh follows fun K hK => ?_;refine Wgh.take (za []) 0 (by rfl) (fun d hd => by injection hd with hd; subst hd; decide) (by kernel_rfl) (by kernel_rfl) (by rfl) ?_;conv => whnf
    refine Wgh.take (za []) 1 (by rfl) (fun d hd => by injection hd with hd; subst hd; decide) (by kernel_rfl) (by kernel_rfl) (by rfl) ?_;conv => whnf
    refine Wgh.take (za []) 2 (by rfl) (fun d hd => by injection hd with hd; subst hd; decide) (by kernel_rfl) (by kernel_rfl) (by rfl) ?_;conv => whnf
    refine Wgh.take (za []) 3 (by rfl) (fun d hd => by injection hd with hd; subst hd; decide) (by kernel_rfl) (by kernel_rfl) (by rfl) ?_;conv => whnf
    refine Wgh.take (za []) 4 (by rfl) (fun d hd => by injection hd with hd; subst hd; decide) (by kernel_rfl) (by kernel_rfl) (by rfl) ?_;conv => whnf
    refine ⟨oo, ?_⟩;conv => whnf
    refine Wgh.take (za []) 5 (by rfl) (fun d hd => by injection hd with hd; subst hd; decide) (by kernel_rfl) (by kernel_rfl) (by rfl) ?_;conv => whnf
    refine Wgh.one (za []) 6 [] (by rfl) (by kernel_rfl) (by kernel_rfl) (by kernel_rfl) (by rfl) (by kernel_rfl) ⟨(by (conv => whnf); exact ⟨Nat.le_refl _, rfl⟩), (by (conv => whnf); refine ⟨by first | assumption | omega | exact ⟨by omega, by omega⟩, ?_⟩; (conv => whnf); exact ⟨Nat.le_refl _, rfl⟩), (by (conv => whnf); exact ⟨Nat.le_refl _, rfl⟩), (by (conv => whnf); exact ⟨Nat.le_refl _, rfl⟩), (by (conv => whnf); exact ⟨Nat.le_refl _, rfl⟩), (by (conv => whnf); exact ⟨Nat.le_refl _, rfl⟩), trivial⟩ ?_;conv => whnf
    refine zc rfl (RT.toV (hI6 _ _ _)) fun hs' hhs => ?_;try dsimp only at hhs
    conv => whnf
    refine Wgh.take (za []) 7 (by rfl) (fun d hd => by injection hd with hd; subst hd; decide) (by kernel_rfl) (by kernel_rfl) (by rfl) ?_;conv => whnf
    refine Wgh.take (za []) 8 (by rfl) (fun d hd => by injection hd with hd; subst hd; decide) (by kernel_rfl) (by kernel_rfl) (by rfl) ?_;conv => whnf
    refine Wgh.take (za []) 9 (by rfl) (fun d hd => by injection hd with hd; subst hd; decide) (by kernel_rfl) (by kernel_rfl) (by rfl) ?_;conv => whnf
    refine Wgh.one (za []) 10 [9] (by rfl) (by kernel_rfl) (by kernel_rfl) (by kernel_rfl) (by rfl) (by kernel_rfl) ⟨(by (conv => whnf); exact ⟨Nat.le_refl _, rfl⟩), (by (conv => whnf); exact ⟨Nat.le_refl _, rfl⟩), (by (conv => whnf); exact ⟨Nat.le_refl _, rfl⟩), trivial⟩ ?_;conv => whnf
    refine Wgh.one (za []) 11 [] (by rfl) (by kernel_rfl) (by kernel_rfl) (by kernel_rfl) (by rfl) (by kernel_rfl) ⟨(by (conv => whnf); exact ⟨Nat.le_refl _, rfl⟩), trivial⟩ ?_;conv => whnf
    refine Wgh.done (za []) (by rfl) (by kernel_rfl) (by kernel_rfl) (by kernel_rfl) trivial (hK _ ?_);clear hK K;refine wrs fun K hK => ?_;conv => whnf
    refine ⟨fun hc0 => absurd hc0 (by simp), fun _ => ?_⟩;conv => whnf
    refine hK _ (W.cond ⟨fun hcc => absurd rfl (of_decide_eq_true hcc), fun _ => W.skip (hK8 _ ?_)⟩);clear hK K hK8 K8;refine wrg ?_;conv => whnf
    refine ⟨oo, ?_⟩;conv => whnf
    exact zl ⟨i + 1, by omega, rfl, rfl⟩
   ·refine W.exit (fin _ (by dsimp only; omega) ?_);exact cvr
  ·conv => whnf
   refine hK _ (W.condF rfl (W.exit (fin _ (by dsimp only; omega) ?_)));exact cvr
 ·conv => whnf
  refine hK _ (W.condF rfl (W.exit (fin _ (by dsimp only; omega) ?_)));exact cvr

open Go Go.RowKit Go.ChangeShapes Go.WideShapes Go.ChangeAt Go.Proofs Go.Proofs.YtlmckocbhcpmdaaGreat

set_option maxRecDepth 100000 in
theorem liftedMinimal (H : Type) (enc : TypeId × Value -> H) (os : Os) (started : os.Started) :
  ReturnsInHanded {} Tryz.checked os 6 .any (Rows.fnMinimalSpec.pre6 enc Tryz.prog Tryz.f6 Rows.fnMinimalRow.domain false) (Rows.fnMinimalSpec.post enc Tryz.prog Tryz.f6 false true false false) := by
 refine zjq (C := Tryz.checked) (tb := 4) ownP started (by kernel_rfl) Tryz.func6 znH ?_ rfl (by kernel_rfl) Tryz.underlying4 ?_
  (ChangeSpec.witness6 (enc := enc) (C := Tryz.checked) false ⟨#[], #[.slice none 0 0], []⟩ 8 (by kernel_rfl) (by kernel_rfl) (by kernel_rfl) (by kernel_rfl)) ?_
 ·rw [Tryz.params6];intro t ht;simp only [List.mem_singleton] at ht
  subst ht;exact ⟨by kernel_rfl, of_decide_eq_true (by kernel_rfl)⟩
 ·intro ds hds
  match ds, hds with
  | [d0], _ => exact ⟨rfl, rfl, rfl⟩
 ·intro W args ds ps hval hA;have hval' : ∀ (j : Nat) t v, Tryz.f6.params[j]? = some t -> args[j]? = some v -> ∃ base, Value.okWide Tryz.prog W .any base t v := hval;rw [Tryz.params6] at hA hval';obtain ⟨v0, d0, hv, rfl, h0⟩ := trodAll_one hA;subst hv;obtain ⟨_, hv0⟩ := hval' 0 22 v0 rfl rfl;obtain ⟨a0, len0, cap0, rfl⟩ := okWide_slice Tryz.underlying22 hv0;obtain ⟨x0, hx0, hr0⟩ := zmu zj2 h0 (by simp);obtain ⟨n, c, hb, _, hr⟩ := znJ hx0;refine znK (lawMinimal (n := n) (c := c) hb) rfl fun j hj => ?_;obtain rfl : j = 0 := by simpa using hj
  exact hr _ _ _ hr0

theorem joinedMinimala : (Rows.fnMinimalRow.inPlace == Tryz.checked.prog.inPlace 6) = true := by kernel_rfl
theorem joinedMinimalb : (Rows.fnMinimalRow.unfollowed == Tryz.checked.prog.unfollowed 6) = true := by kernel_rfl
theorem joinedMinimalc : (Rows.fnMinimalRow.recurses == Tryz.checked.prog.recurses 6) = true := by kernel_rfl
theorem joinedMinimald : (Rows.fnMinimalRow.named == Tryz.checked.prog.varsNamed 6) = true := by kernel_rfl
theorem joinedMinimal : joinedFacts Tryz.checked.prog 6 Tryz.f6 Rows.fnMinimalSpec Rows.fnMinimalRow = true := by
 unfold joinedFacts;rw [zoX, zpn, zpo, joinedMinimala, joinedMinimalb, joinedMinimalc, joinedMinimald]
 kernel_rfl
theorem instMinimal : Tryz.f6.isInstance Tryz.checked.prog Rows.fnMinimalRow.origin Rows.fnMinimalRow.targs := of_decide_eq_true (by kernel_rfl)

theorem claimMinimal : Rows.FnMinimalSaid :=
 OpenClaim.holds_of_wide (p := Tryz.pinned) (s := Rows.fnMinimalSpec) (c := Rows.fnMinimalRow) 6 Tryz.f6 rfl rfl rfl rfl rfl rfl rfl ⟨rfl, rfl, rfl, rfl, rfl⟩ rfl rfl rfl rfl rfl (by kernel_rfl) Tryz.func6 joinedMinimal
  instMinimal (by unfold Func.isWrapper; first | (rw [if_pos (by decide +kernel)]; kernel_rfl) | (rw [if_neg (by decide +kernel)]; exact ⟨rfl, rfl⟩))
  (fun os started H enc _ => liftedMinimal H enc os started)

end Go.Proofs.YtlmckocbhcpmdaaGreat
