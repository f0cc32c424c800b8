/- The law FnLiftedFactors answers true, for all arguments. No conditions. -/
import Derived.Test.YtlmckocbhcpmdaaGreatPj
namespace Go.Proofs.YtlmckocbhcpmdaaGreat
open Go Go.RowKit Go.Proofs Poly
set_option maxRecDepth 100000
set_option maxHeartbeats 8000000

theorem lawLiftedFactors {n : Nat} {c : Nat -> Int} (hb : ∀ i, 0 <= c i ∧ c i <= 255) : FnV 10 [vBy n c] (.bool true) := by
 refine zf (zb [0, 2, 3, 4, 5, 6, 7, 8, 9, 10, 11, 12, 13, 14, 15, 16, 17, 18, 19, 20, 21, 22, 23, 24, 25, 26, 28, 90, 92, 107, 109, 114, 157]) Tryz.func10 rfl (by decide) Tryz.ntmps10 (Nat.le_of_ble_eq_true rfl) fun base => ?_;refine wrs fun K hK => ?_;conv => whnf
 refine hK _ ?_;clear hK K;refine W.seqK fun K1 hK1 => ?_;refine wrs fun K hK => ?_;conv => whnf
 refine zd rfl (zn3) fun hs' hhs => ?_;try dsimp only at hhs
 conv => whnf
 refine hK _ (W.cond ⟨fun h => ?_, fun h => ?_⟩) <;> clear hK K
 ·refine wrs fun K hK => ?_;conv => whnf
  refine hK _ ?_;clear hK K;refine W.ret ?_;conv => whnf
  exact ⟨.v (.bool true), rfl, trivial, rfl⟩
 have h := of_decide_eq_false h;have hc : Byt n c := ⟨by omega, hb⟩
 refine W.skip (hK1 _ ?_);clear hK1 K1;refine wrs fun K hK => ?_;conv => whnf
 refine yR rfl (zeO hc) ?_;rintro lo hi hi' z hl1 hl2 hl3 ⟨p, k, L, rfl, hp, hk, hL⟩ _;try dsimp only at hl1 hl2
 conv => whnf
 intro b_3 hs_3 hh_3 hf_3;try dsimp only at hh_3 hf_3
 conv => whnf
 refine ⟨s23, ?_⟩;conv => whnf
 refine hK _ ?_;clear hK K;obtain ⟨R, e1, hS1, hI1, hRl, hRd, hV1⟩ := zk1 p k L (by omega);refine wrs fun K hK => ?_;conv => whnf
 refine zd rfl (RTS.toV (hI1 _)) fun hs' hhs => ?_;try dsimp only at hhs
 conv => whnf
 refine hK _ ?_;clear hK K;refine wrs fun K hK => ?_;conv => whnf
 refine zd rfl (hS1 _) fun hs' hhs => ?_;try dsimp only at hhs
 conv => whnf
 refine hK _ ?_;clear hK K;refine wrs fun K hK => ?_;conv => whnf
 refine yR rfl (zc7 hc) ?_;rintro lo2 hi2 hi2' z hm1 hm2 hm3 ⟨p2, k2, L2, rfl, hp2, hk2, hL2⟩ _;try dsimp only at hm1 hm2
 conv => whnf
 intro b_9 hs_9 hh_9 hf_9;try dsimp only at hh_9 hf_9
 conv => whnf
 refine ⟨s23, ?_⟩;conv => whnf
 refine hK _ ?_;clear hK K;obtain ⟨A, B, e2, hS2, hI2, hA, hB, hV2⟩ := zjk p2 k2 L2 (by omega);refine wrs fun K hK => ?_;conv => whnf
 refine zd rfl (RT3.toV (hI2 _)) fun hs' hhs => ?_;try dsimp only at hhs
 conv => whnf
 refine hK _ ?_;clear hK K;refine wrs fun K hK => ?_;conv => whnf
 refine zd rfl (hS2 _) fun hs' hhs => ?_;try dsimp only at hhs
 conv => whnf
 refine hK _ ?_;clear hK K;refine W.seqK fun K1 hK1 => ?_;refine wrs fun K hK => ?_;conv => whnf
 refine ⟨fun hc0 => absurd hc0 (by simp), fun _ => ?_⟩;conv => whnf
 refine zd rfl (zc6 R (by omega) (fun j => Nat.le_trans (hRd j) (by omega))) fun hs' hhs => ?_;try dsimp only at hhs
 conv => whnf
 refine ⟨fun hc0 => absurd hc0 (by simp), fun _ => ?_⟩;conv => whnf
 refine zd rfl (xH _ _ A (by omega)) fun hs' hhs => ?_;try dsimp only at hhs
 conv => whnf
 refine zd rfl (xH _ _ B (by omega)) fun hs' hhs => ?_;try dsimp only at hhs
 conv => whnf
 refine hK _ (W.condF rfl (W.skip (hK1 _ ?_)));clear hK K hK1 K1;refine W.seqK fun K1 hK1 => ?_
 have fin : ∀ t : S, base <= t.hs -> zC t.env [(3, .ownB b_3 (vR p k)), (4, .v (.ints none L)), (5, .v (vLL R)), (6, .v (.int .i64 e1))] -> K1 t := by
  intro t h7 h8;refine hK1 _ (W.weak (t := ⟨[(3, .ownB b_3 (vR p k)), (4, .v (.ints none L)), (5, .v (vLL R)), (6, .v (.int .i64 e1))], base⟩) ⟨h7, h8⟩ (Nat.le_refl _) ?_);clear hK1 K1;refine W.seqK fun K1 hK1 => ?_;refine wrs fun K hK => ?_;conv => whnf
  refine hK _ (W.cond ⟨fun hz => ?_, fun hz => ?_⟩) <;> clear hK K
  ·refine wrs fun K hK => ?_;conv => whnf
   refine hK _ ?_;clear hK K;refine W.ret ?_;conv => whnf
   exact ⟨.v (.bool true), rfl, trivial, rfl⟩
  have hz : e1 = 0 := Decidable.of_not_not (of_decide_eq_false hz);refine W.skip (hK1 _ ?_);clear hK1 K1;obtain ⟨hpp, M, _, X, m, rfl, hl, hpr⟩ := hV1 hz;letI := jC hpp;have hm1 := hl.m1
  have h1l : (1 : Poly M).l = [1] := by
   obtain ⟨h1, h2⟩ := zi0 hm1;obtain ⟨u, hu⟩ := List.length_eq_one_iff.1 h1;rw [hu] at h2 ⊢;have h2 : u = 1 := h2;rw [h2]
  have hXm := hl.mn;have hm8 := hl.n8;have hXl : X.l.length = dg X := rfl;have hXd := hXm.1;refine wrs fun K hK => ?_;conv => whnf
  refine ⟨⟨rfl, by decide⟩, ?_⟩;conv => whnf
  intro b_4 hs_4 hh_4 hf_4;try dsimp only at hh_4 hf_4
  conv => whnf
  refine hK _ ?_;clear hK K;refine W.seqK fun K1 hK1 => ?_;refine wrs fun K hK => ?_;conv => whnf
  refine hK _ (W.block (W.invE (fun mm e => ∃ (i : Nat) (P Q : Poly M) (a b : Nat), i <= R.length ∧ PR p (R.drop i) Q b ∧ P * Q = X ∧ Mn P a ∧ a + b = m ∧ mm = R.length - i ∧ e = [(3, .ownB b_3 (vR p k)), (4, .v (.ints none X.l)), (5, .v (vLL R)), (19, .v (.ints none P.l)), (20, .v (.int .i64 i))]) _ _ ⟨0, 1, X, 0, m, Nat.zero_le _, hpr, zg [X] (by rfl), zi0 hm1, by omega, rfl, rfl⟩ (by dsimp only; omega) (by rw [h1l]; repeat' first | refine And.intro ?_ ?_ | exact trivial | rfl | omega | exact .inl rfl | exact fun _ _ => rfl) ?_));clear hK K hpr;rintro mm e ⟨i, P, Q, a, b, hi, hpr, hPQ, hP, hab, hmm, rfl⟩;refine W.seqK fun K7 hK7 => wrs fun K hK => ?_;conv => whnf
  refine hK _ (W.cond ⟨fun h3 => ?_, fun h3 => ?_⟩) <;> clear hK K <;> (first | replace h3 := of_decide_eq_true h3 | replace h3 := of_decide_eq_false h3)
  ·have hlt : i < R.length := by omega
   have hRi : R.getD (i : Int).toNat [] = R[i] := by rw [show (i : Int).toNat = i from rfl, List.getD_eq_getElem?_getD, List.getElem?_eq_getElem hlt]; rfl
   rw [List.drop_eq_getElem_cons hlt] at hpr;obtain ⟨G, Q', d, b', x, hGl, rfl, rfl, hG, hd1, hQ', him, x1, x2, x3, hrest⟩ := hpr;rw [hGl] at hRi;have hP1 := hP.1;have hG1 := hG.1;have hPG := hP.mul hm1 hG;have hPG1 := hPG.1;have hI1 := (zmi hl.pm hG).1;have hfm := znj x1 x2 x3;have hP' : isP p = true := hl.rn.1.1
   have hcf : yt p (im p G).l = 0 := by
    have hIl : (im p G).l.length = dg (im p G) := rfl;unfold yt; rw [zx (znt hP' _ (by omega)), if_neg (by omega)]; rfl
   have hMul : FnV 109 [vR p k, .ints none P.l, .ints none (R.getD (i : Int).toNat [])] (.tup [.ints none (P * G).l, .int .i64 0]) := by
    rw [hRi]; exact jU hl.rn.1 hl.hm none none P G (by omega) (by omega) (by omega)
   have hImg : FnV 110 [vR p k, .ints none (R.getD (i : Int).toNat [])] (.tup [.ints none (im p G).l, .int .i64 0]) := by
    rw [hRi]; exact zjl hl.rn.1 hl.hm none G (by omega)
   obtain ⟨Gs, r1, _, hF2, _, _, hr1, hF3⟩ := zc8 p (im p G).l (by show dg (im p G) <= _; omega);rw [hcf] at hr1;subst hr1;obtain ⟨_, f, F, hf1, hf2, hf3, hF, rfl⟩ := hF3 rfl;obtain rfl := zfw hf1;rw [him] at hF;obtain rfl := hF.unique hfm;refine W.skip (hK7 _ ?_);clear hK7 K7;refine W.seqK fun K8 hK8 => W.block ?_;refine W.rgh follows fun K hK => ?_;refine Wgh.take (zb []) 0 (by rfl) (fun d hd => by injection hd with hd; subst hd; decide) (by kernel_rfl) (by kernel_rfl) (by rfl) ?_;conv => whnf
   refine Wgh.take (zb []) 1 (by rfl) (fun d hd => by injection hd with hd; subst hd; decide) (by kernel_rfl) (by kernel_rfl) (by rfl) ?_;conv => whnf
   refine Wgh.take (zb []) 2 (by rfl) (fun d hd => by injection hd with hd; subst hd; decide) (by kernel_rfl) (by kernel_rfl) (by rfl) ?_;conv => whnf
   refine Wgh.take (zb []) 3 (by rfl) (fun d hd => by injection hd with hd; subst hd; decide) (by kernel_rfl) (by kernel_rfl) (by rfl) ?_;conv => whnf
   refine Wgh.take (zb []) 4 (by rfl) (fun d hd => by injection hd with hd; subst hd; decide) (by kernel_rfl) (by kernel_rfl) (by rfl) ?_;conv => whnf
   refine ⟨oo, ?_⟩;conv => whnf
   refine Wgh.take (zb []) 5 (by rfl) (fun d hd => by injection hd with hd; subst hd; decide) (by kernel_rfl) (by kernel_rfl) (by rfl) ?_;conv => whnf
   refine Wgh.one (zb []) 6 [] (by rfl) (by kernel_rfl) (by kernel_rfl) (by kernel_rfl) (by rfl) (by kernel_rfl) ⟨(by (conv => whnf); exact ⟨Nat.le_refl _, rfl⟩), (by (conv => whnf); refine ⟨by first | assumption | omega | exact ⟨by omega, by omega⟩, ?_⟩; (conv => whnf); exact ⟨Nat.le_refl _, rfl⟩), (by (conv => whnf); exact ⟨Nat.le_refl _, rfl⟩), (by (conv => whnf); exact ⟨Nat.le_refl _, rfl⟩), (by (conv => whnf); exact ⟨Nat.le_refl _, rfl⟩), (by (conv => whnf); exact ⟨Nat.le_refl _, rfl⟩), trivial⟩ ?_;conv => whnf
   refine zd rfl (hMul) fun hs' hhs => ?_;try dsimp only at hhs
   conv => whnf
   refine Wgh.take (zb []) 7 (by rfl) (fun d hd => by injection hd with hd; subst hd; decide) (by kernel_rfl) (by kernel_rfl) (by rfl) ?_;conv => whnf
   refine Wgh.take (zb []) 8 (by rfl) (fun d hd => by injection hd with hd; subst hd; decide) (by kernel_rfl) (by kernel_rfl) (by rfl) ?_;conv => whnf
   refine Wgh.take (zb []) 9 (by rfl) (fun d hd => by injection hd with hd; subst hd; decide) (by kernel_rfl) (by kernel_rfl) (by rfl) ?_;conv => whnf
   refine Wgh.one (zb []) 10 [9] (by rfl) (by kernel_rfl) (by kernel_rfl) (by kernel_rfl) (by rfl) (by kernel_rfl) ⟨(by (conv => whnf); exact ⟨Nat.le_refl _, rfl⟩), (by (conv => whnf); exact ⟨Nat.le_refl _, rfl⟩), (by (conv => whnf); exact ⟨Nat.le_refl _, rfl⟩), trivial⟩ ?_;conv => whnf
   refine Wgh.one (zb []) 11 [] (by rfl) (by kernel_rfl) (by kernel_rfl) (by kernel_rfl) (by rfl) (by kernel_rfl) ⟨(by (conv => whnf); exact ⟨Nat.le_refl _, rfl⟩), trivial⟩ ?_;conv => whnf
   refine Wgh.done (zb []) (by rfl) (by kernel_rfl) (by kernel_rfl) (by kernel_rfl) trivial (hK _ ?_);clear hK K;refine W.rgh follows fun K hK => ?_;refine Wgh.take (zb []) 0 (by rfl) (fun d hd => by injection hd with hd; subst hd; decide) (by kernel_rfl) (by kernel_rfl) (by rfl) ?_;conv => whnf
   refine Wgh.take (zb []) 1 (by rfl) (fun d hd => by injection hd with hd; subst hd; decide) (by kernel_rfl) (by kernel_rfl) (by rfl) ?_;conv => whnf
   refine Wgh.take (zb []) 2 (by rfl) (fun d hd => by injection hd with hd; subst hd; decide) (by kernel_rfl) (by kernel_rfl) (by rfl) ?_;conv => whnf
   refine Wgh.take (zb []) 3 (by rfl) (fun d hd => by injection hd with hd; subst hd; decide) (by kernel_rfl) (by kernel_rfl) (by rfl) ?_;conv => whnf
   refine ⟨oo, ?_⟩;conv => whnf
   refine Wgh.take (zb []) 4 (by rfl) (fun d hd => by injection hd with hd; subst hd; decide) (by kernel_rfl) (by kernel_rfl) (by rfl) ?_;conv => whnf
   refine Wgh.one (zb []) 5 [] (by rfl) (by kernel_rfl) (by kernel_rfl) (by kernel_rfl) (by rfl) (by kernel_rfl) ⟨(by (conv => whnf); exact ⟨Nat.le_refl _, rfl⟩), (by (conv => whnf); refine ⟨by first | assumption | omega | exact ⟨by omega, by omega⟩, ?_⟩; (conv => whnf); exact ⟨Nat.le_refl _, rfl⟩), (by (conv => whnf); exact ⟨Nat.le_refl _, rfl⟩), (by (conv => whnf); exact ⟨Nat.le_refl _, rfl⟩), (by (conv => whnf); exact ⟨Nat.le_refl _, rfl⟩), trivial⟩ ?_;conv => whnf
   refine zd rfl (hImg) fun hs' hhs => ?_;try dsimp only at hhs
   conv => whnf
   refine Wgh.take (zb []) 6 (by rfl) (fun d hd => by injection hd with hd; subst hd; decide) (by kernel_rfl) (by kernel_rfl) (by rfl) ?_;conv => whnf
   refine Wgh.take (zb []) 7 (by rfl) (fun d hd => by injection hd with hd; subst hd; decide) (by kernel_rfl) (by kernel_rfl) (by rfl) ?_;conv => whnf
   refine Wgh.take (zb []) 8 (by rfl) (fun d hd => by injection hd with hd; subst hd; decide) (by kernel_rfl) (by kernel_rfl) (by rfl) ?_;conv => whnf
   refine Wgh.one (zb []) 9 [8] (by rfl) (by kernel_rfl) (by kernel_rfl) (by kernel_rfl) (by rfl) (by kernel_rfl) ⟨(by (conv => whnf); exact ⟨Nat.le_refl _, rfl⟩), (by (conv => whnf); exact ⟨Nat.le_refl _, rfl⟩), (by (conv => whnf); exact ⟨Nat.le_refl _, rfl⟩), trivial⟩ ?_;conv => whnf
   refine Wgh.one (zb []) 10 [] (by rfl) (by kernel_rfl) (by kernel_rfl) (by kernel_rfl) (by rfl) (by kernel_rfl) ⟨(by (conv => whnf); exact ⟨Nat.le_refl _, rfl⟩), trivial⟩ ?_;conv => whnf
   refine Wgh.done (zb []) (by rfl) (by kernel_rfl) (by kernel_rfl) (by kernel_rfl) trivial (hK _ ?_);clear hK K;refine wrs fun K hK => ?_;conv => whnf
   refine zd rfl (hF2) fun hs' hhs => ?_;try dsimp only at hhs
   conv => whnf
   refine hK _ ?_;clear hK K;refine W.seqK fun K5 hK5 => ?_;refine wrs fun K hK => ?_;conv => whnf
   refine ⟨fun hc0 => absurd hc0 (by simp), fun _ => ?_⟩;conv => whnf
   refine ⟨fun hc0 => absurd hc0 (by simp), fun _ => ?_⟩;conv => whnf
   refine ⟨fun hc0 => absurd hc0 (by simp), fun _ => ?_⟩;conv => whnf
   refine hK _ (W.cond ⟨fun hcc => absurd hcc (by simp), fun _ => W.skip (hK5 _ ?_)⟩);clear hK K hK5 K5;refine wrg ?_;conv => whnf
   refine hK8 _ ?_;clear hK8 K8;refine wrg ?_;conv => whnf
   refine ⟨oo, ?_⟩;conv => whnf
   exact zo ⟨i + 1, P * G, Q', a + d, b', by omega, hrest, by rw [zd0]; exact hPQ, hPG, by omega, rfl, rfl⟩
  ·obtain rfl : i = R.length := by omega
   rw [List.drop_length] at hpr;obtain ⟨rfl, rfl⟩ := hpr;have hPX : P = X := by rw [<- hPQ]; exact zg [P] (by rfl)
   subst hPX;refine W.exit (hK1 _ ?_);clear hK7 K7 hK1 K1;refine wrs fun K hK => ?_;conv => whnf
   refine zd rfl (xH _ _ P.l (by omega)) fun hs' hhs => ?_;try dsimp only at hhs
   conv => whnf
   refine hK _ ?_;clear hK K;refine W.ret ?_;conv => whnf
   exact ⟨.v (.bool true), rfl, trivial, rfl⟩
 refine wrs fun K hK => ?_;conv => whnf
 refine hK _ (W.cond ⟨fun hz => ?_, fun hz => ?_⟩) <;> clear hK K
 case refine_2 =>
  refine W.skip (fin _ (by dsimp only; omega) ?_);exact cvr
 have hz : e2 = 0 := of_decide_eq_true hz;obtain ⟨hpp, M, _, X, G, H, m, a, b, rfl, hl, rfl, rfl, hXe, hGm, hHm, ha1, hb1, hab⟩ := hV2 hz;letI := jC hpp;have hG1 := hGm.1;have hH1 := hHm.1;have hXm := hl.mn.1;have hm8 := hl.n8;have hXl : X.l.length = dg X := rfl;refine wrs fun K hK => ?_;conv => whnf
 refine zd rfl (jU hl.rn.1 hl.hm _ _ G H (by omega) (by omega) (by rw [<- hXe]; omega)) fun hs' hhs => ?_;try dsimp only at hhs
 conv => whnf
 rw [<- hXe];refine hK _ ?_;clear hK K;refine wrs fun K hK => ?_;conv => whnf
 refine ⟨fun hc0 => absurd hc0 (by simp), fun _ => ?_⟩;conv => whnf
 refine zd rfl (xH _ _ X.l (by omega)) fun hs' hhs => ?_;try dsimp only at hhs
 conv => whnf
 refine hK _ (W.condF rfl (W.skip (fin _ (by dsimp only; omega) ?_)));exact cvr

open Go Go.RowKit Go.ChangeShapes Go.WideShapes Go.ChangeAt Go.Proofs Go.Proofs.YtlmckocbhcpmdaaGreat

set_option maxRecDepth 100000 in
theorem liftedLiftedFactors (H : Type) (enc : TypeId × Value -> H) (os : Os) (started : os.Started) :
  ReturnsInHanded {} Tryz.checked os 10 .any (Rows.fnLiftedFactorsSpec.pre6 enc Tryz.prog Tryz.f10 Rows.fnLiftedFactorsRow.domain false) (Rows.fnLiftedFactorsSpec.post enc Tryz.prog Tryz.f10 false true false false) := by
 refine ziD (C := Tryz.checked) (tb := 4) ownP started (by kernel_rfl) Tryz.func10 zmH ?_ rfl (by kernel_rfl) Tryz.underlying4 ?_
  (ChangeSpec.witness6 (enc := enc) (C := Tryz.checked) false ⟨#[], #[.slice none 0 0], []⟩ 8 (by kernel_rfl) (by kernel_rfl) (by kernel_rfl) (by kernel_rfl)) ?_
 ·rw [Tryz.params10];intro t ht;simp only [List.mem_singleton] at ht
  subst ht;exact ⟨by kernel_rfl, of_decide_eq_true (by kernel_rfl)⟩
 ·intro ds hds
  match ds, hds with
  | [d0], _ => exact ⟨rfl, rfl, rfl⟩
 ·intro W args ds ps hval hA;have hval' : ∀ (j : Nat) t v, Tryz.f10.params[j]? = some t -> args[j]? = some v -> ∃ base, Value.okWide Tryz.prog W .any base t v := hval;rw [Tryz.params10] at hA hval';obtain ⟨v0, d0, hv, rfl, h0⟩ := trodAll_one hA;subst hv;obtain ⟨_, hv0⟩ := hval' 0 22 v0 rfl rfl;obtain ⟨a0, len0, cap0, rfl⟩ := okWide_slice Tryz.underlying22 hv0;obtain ⟨x0, hx0, hr0⟩ := zlC zjj h0 (by simp);obtain ⟨n, c, hb, _, hr⟩ := zmJ hx0;refine zmK (lawLiftedFactors (n := n) (c := c) hb) rfl fun j hj => ?_;obtain rfl : j = 0 := by simpa using hj
  exact hr _ _ _ hr0

theorem joinedLiftedFactorsa : (Rows.fnLiftedFactorsRow.inPlace == Tryz.checked.prog.inPlace 10) = true := by kernel_rfl
theorem joinedLiftedFactorsb : (Rows.fnLiftedFactorsRow.unfollowed == Tryz.checked.prog.unfollowed 10) = true := by kernel_rfl
theorem joinedLiftedFactorsc : (Rows.fnLiftedFactorsRow.recurses == Tryz.checked.prog.recurses 10) = true := by kernel_rfl
theorem joinedLiftedFactorsd : (Rows.fnLiftedFactorsRow.named == Tryz.checked.prog.varsNamed 10) = true := by kernel_rfl
theorem joinedLiftedFactors : joinedFacts Tryz.checked.prog 10 Tryz.f10 Rows.fnLiftedFactorsSpec Rows.fnLiftedFactorsRow = true := by
 unfold joinedFacts;rw [zn8, zoC, zoD, joinedLiftedFactorsa, joinedLiftedFactorsb, joinedLiftedFactorsc, joinedLiftedFactorsd]
 kernel_rfl
theorem instLiftedFactors : Tryz.f10.isInstance Tryz.checked.prog Rows.fnLiftedFactorsRow.origin Rows.fnLiftedFactorsRow.targs := of_decide_eq_true (by kernel_rfl)

theorem claimLiftedFactors : Rows.FnLiftedFactorsSaid :=
 OpenClaim.holds_of_wide (p := Tryz.pinned) (s := Rows.fnLiftedFactorsSpec) (c := Rows.fnLiftedFactorsRow) 10 Tryz.f10 rfl rfl rfl rfl rfl rfl rfl ⟨rfl, rfl, rfl, rfl, rfl⟩ rfl rfl rfl rfl rfl (by kernel_rfl) Tryz.func10 joinedLiftedFactors
  instLiftedFactors (by unfold Func.isWrapper; first | (rw [if_pos (by decide +kernel)]; kernel_rfl) | (rw [if_neg (by decide +kernel)]; exact ⟨rfl, rfl⟩))
  (fun os started H enc _ => liftedLiftedFactors H enc os started)

end Go.Proofs.YtlmckocbhcpmdaaGreat
