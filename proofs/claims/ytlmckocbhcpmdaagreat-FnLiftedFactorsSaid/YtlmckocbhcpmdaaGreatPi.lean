/- What the program's functions and the reference's return. No conditions. -/
import Derived.Test.YtlmckocbhcpmdaaGreatPh
import Derived.Test.YtlmckocbhcpmdaaGreatRows
namespace Go.Proofs.YtlmckocbhcpmdaaGreat
open Go Go.RowKit Go.Proofs Poly
set_option maxRecDepth 100000
set_option maxHeartbeats 8000000

theorem zaN (g : Option Nat) (xs : List Int) (q : Int) (hx : Bd 97 xs) (hq : 0 <= q ∧ q <= 1000000000) (hl : xs.length <= 1000) : FnI 344 [.ints g xs, .int .i64 q] (zj (z0 xs [q])) := by
 refine zf (zb [0, 1, 4]) Tryz.func344 rfl (by decide) Tryz.ntmps344 (Nat.le_of_ble_eq_true rfl) fun base => ?_;refine wrs fun K hK => ?_;conv => whnf
 refine hK _ ?_;clear hK K;refine wrs fun K hK => ?_;conv => whnf
 refine ⟨⟨rfl, by decide⟩, ?_⟩;conv => whnf
 intro b_1 hs_1 hh_1 hf_1;try dsimp only at hh_1 hf_1
 conv => whnf
 refine zh rfl (xh g (some b_1) xs [q] 97 1000000000 (by omega) (by omega) hx (bdc1 (by omega)) (by omega) (by omega) (by simp)) fun hs_2 b_2 hh_2 hf_2 => ?_;try dsimp only at hh_2 hf_2
 conv => whnf
 refine hK _ ?_;clear hK K;refine W.ret ?_;conv => whnf
 exact ⟨.ownI 2 _ (zj (z0 xs [q])), ⟨rfl, rfl, rfl⟩, trivial, _, rfl⟩


section
variable {p k M : Int} [SP p] [Pos M] {f : Poly M} {a b : Nat} {g0 h0 S T : Poly p} {G H : Poly M}
theorem zh7 (hm : M <= 1000000000) (X Y : Poly M) (hX : dg X <= 8) : Bd 8000000000000000000 (zj (z0 X.l Y.l)) := by
 refine Bd.trim fun j => ?_;rw [vP];have := zhM (A := 999999999) (B := 999999999) (by omega) (by omega) (n := dg X) (cf X.l) (cf Y.l) (yn hm X) (fun j hj => zY hj) (yn hm Y) j;have h2 : (dg X : Int) * (999999999 * 999999999) <= 8 * (999999999 * 999999999) := Int.mul_le_mul_of_nonneg_right (by omega) (by omega);omega
theorem zcY {q : Int} (hq : 0 <= q ∧ q <= 1000000000) (X : Poly p) : Bd 97000000000 (zj (z0 X.l [q])) := fun j => by
 rw [zfK];have h1 := xU X j;have h2 := SP.le (p := p);have := zn6 hq (c := cf X.l j) (by omega);omega

def znE (bg bh : Nat) (tb : Tab) (l1 l2 : List Int) (av t' : AV) : Prop := ∃ (b0 b1 : Nat) (tb' : Tab), av = .v (.tup [.rf b0 l1.length, .rf b1 l2.length]) ∧ t' = .tab tb' ∧ tb' b0 = some l1 ∧ tb' b1 = some l2 ∧ b0 ≠ b1 ∧ (b0 = bg ∨ tb b0 = none) ∧ (b1 = bh ∨ tb b1 = none) ∧ ∀ c xs, tb c = some xs -> tb' c = some xs

theorem zeG (hr : y9 p k) (hm : p ^ k.toNat = M) (hP : Pair f a b g0 h0 S T) (h9 : a + b <= 8) (hL : LAt f a b g0 h0 S T (k.toNat - 1) G H) (g : Option Nat) (bg bh : Nat) (tb : Tab) (htg : tb bg = some g0.l) (hth : tb bh = some h0.l) (hne : bg ≠ bh) :
  MFn Tryz.prog 257 [vR p k, .nil, .rf bg g0.l.length, .rf bh h0.l.length] 1 (.v (.ints g f.l)) (.tab tb) (fun _ av x' t' => x' = .v (.ints g f.l) ∧ znE bg bh tb G.l H.l av t') := by
 obtain ⟨s1, s2, s3, s4, s5, s6⟩ := hr.small;have hp := Pr.two (p := p);have hp2 := SP.le (p := p);have hpM := Pos.pos (p := M);have m9 : M <= 1000000000 := by omega
 have hg1 := hP.mg.1;have hh1 := hP.mh.1;have hf1 := hP.mf.1;have hg0 : g0 ≠ 0 := fun e => by rw [e, zr] at hg1; omega
 have hh0 : h0 ≠ 0 := fun e => by rw [e, zr] at hh1; omega
 have ha1 := hP.a1;have hb1 := hP.b1;have hS := hP.s1;have hT := hP.t1;have hfl : f.l.length = dg f := rfl;have hgl : g0.l.length = dg g0 := rfl;have hhl : h0.l.length = dg h0 := rfl;refine xN (cx := cxt [] [0, 1, 2, 3, 4, 8, 9, 10, 11, 12, 13, 14, 16, 17, 18, 31, 41, 42, 43, 44, 1000000, 1000001]) (za [] [0, 1, 2, 3, 4, 8, 9, 10, 11, 12, 13, 14, 16, 17, 18, 31, 41, 42, 43, 44, 1000000, 1000001]) Tryz.func257 rfl (by decide) Tryz.ntmps257 (Nat.le_of_ble_eq_true rfl) (Nat.le_of_ble_eq_true rfl) rfl rfl fun base hs0 O U hw v0 hb0 => ?_;refine W.rs (za _ _) (by rfl) fun K hK => ?_;conv => whnf
 refine ⟨rfl, ?_⟩;conv => whnf
 intro b_4 hs_4 hh_4 hf_4;try dsimp only at hh_4 hf_4
 conv => whnf
 refine hK _ ?_;clear hK K;refine W.rd (za _ _) follows (by rfl) fun K hK => ?_;conv => whnf
 refine ⟨_, zi1 (zcy hr hm), ?_⟩;conv => whnf
 refine hK _ ?_;clear hK K;refine W.rs (za _ _) (by rfl) fun K hK => ?_;conv => whnf
 refine ⟨h0.l, ⟨rfl, fun _ => hth⟩, ?_⟩;conv => whnf
 refine ⟨g0.l, ⟨rfl, fun _ => htg⟩, ?_⟩;conv => whnf
 refine zh rfl (zcX p (some bh) (some bg) h0 g0 S (by omega) (by omega) (by omega) hS hP.s2) fun hs_12 b_12 hh_12 hf_12 => ?_;try dsimp only at hh_12 hf_12
 conv => whnf
 refine hK _ ?_;clear hK K;refine W.seqK fun K1 hK1 => ?_;refine W.rs (za _ _) (by rfl) fun K hK => ?_;conv => whnf
 refine hK _ (W.block (W.invH hs0 hb0 (fun m e => ∃ (j : Nat) (q : Int) (bg' bh' : Nat) (X Y : Poly M) (su sv : List Int) (tbi : Tab), LAt f a b g0 h0 S T j X Y ∧ j + 1 <= k.toNat ∧ q = p ^ (j + 1) ∧ su = X.l ∧ sv = Y.l ∧ tbi bg' = some su ∧ tbi bh' = some sv ∧ bg' ≠ bh' ∧ (bg' = bg ∨ tb bg' = none) ∧ (bh' = bh ∨ tb bh' = none) ∧ (∀ c xs, tb c = some xs -> tbi c = some xs) ∧ m = k.toNat - j ∧ e = [(1, .v (.ints g f.l)), (2, .v (.rf bg' su.length)), (3, .v (.rf bh' sv.length)), (10, .v (.int .i64 p)), (11, .v (.int .i64 M)), (12, .ownI 2 b_12 S.l), (13, .v (.int .i64 q)), (vt, .tab tbi), (vk, .keep O U hw 1 v0)]) _ _ ⟨0, p, bg, bh, lft M g0, lft M h0, g0.l, h0.l, tb, LAt.start hP, by omega, (by rw [Int.pow_succ, Int.pow_zero, Int.one_mul]), (zcQ hP.ple _).symm, (zcQ hP.ple _).symm, htg, hth, hne, .inl rfl, .inl rfl, fun _ _ h => h, rfl, rfl⟩ (by dsimp only; omega) ?_ ?_))
 ·exact cvr
 clear hK K;rintro m e ⟨j, q, bg', bh', X, Y, su, sv, tbi, hI, hj, hq, rfl, rfl, htx, hty, hbb', hbg, hbh, hold, hmm, rfl⟩;have hX1 := hI.inv.mg.1;have hY1 := hI.inv.mh.1;have hXl : X.l.length = dg X := rfl;have hYl : Y.l.length = dg Y := rfl;refine W.seqK fun K7 hK7 => W.rs (za _ _) (by rfl) fun K hK => ?_;conv => whnf
 refine hK _ (W.cond ⟨fun h5 => ?_, fun h5 => ?_⟩) <;> clear hK K <;> (first | replace h5 := of_decide_eq_true h5 | replace h5 := of_decide_eq_false h5)
 ·have hj2 : j + 1 < k.toNat := Classical.byContradiction fun h => by
   have e : j + 1 = k.toNat := by omega
   rw [hq, e, hm] at h5; omega
  obtain ⟨q1, q2, q3, q4⟩ := zcz hp hj2;have hc := hI.cdg hP (by omega) q;have hn := hI.step hP hq;have htwo := hI.two hP (by omega) q;rw [<- hq] at q1 q2 q3 q4;rw [hm] at q2;obtain ⟨D, hD⟩ : ∃ D, f - X * Y = D := ⟨_, rfl⟩
  rw [hD] at hc hn htwo;have hDl : D.l.length = dg D := rfl;have hml := jH X.l Y.l;have hsl := zbY f.l (zj (z0 X.l Y.l));have hb8 := zh7 m9 X Y (by omega);obtain ⟨C, hC⟩ : ∃ C, dgt p q D = C := ⟨_, rfl⟩
  rw [hC] at hc hn htwo;obtain ⟨hc1, hc2⟩ := hc;have hx := zI (C * S) hg0;have hy := zI (C * T) hh0;generalize rem (C * T) h0 = V at hn htwo hy;have hCS := zM C S;have hCl : C.l.length = dg C := rfl;refine W.skip (hK7 _ ?_);clear hK7 K7;refine W.seqK fun K8 hK8 => W.block ?_;refine W.rs (za _ _) (by rfl) fun K hK => ?_;conv => whnf
  refine hK _ ?_;clear hK K;refine W.seqK fun K5 hK5 => ?_;refine W.rs (za _ _) (by rfl) fun K hK => ?_;conv => whnf
  refine ⟨X.l, ⟨rfl, fun _ => htx⟩, ?_⟩;conv => whnf
  refine ⟨Y.l, ⟨rfl, fun _ => hty⟩, ?_⟩;conv => whnf
  refine zh rfl (xh (some bg') (some bh') X.l Y.l 999999999 999999999 (by omega) (by omega) (yn m9 X) (yn m9 Y) (by rw [hXl]; omega) (by omega) (by omega)) fun hs_2 b_2 hh_2 hf_2 => ?_;try dsimp only at hh_2 hf_2
  conv => whnf
  refine zh rfl (zbl g (some b_2) f.l (zj (z0 X.l Y.l)) ((yn m9 f).le (by omega)) (hb8.le (by omega)) (fun j => by have := yn m9 f j; have := hb8 j; omega) (by omega) (by omega)) fun hs_3 b_3 hh_3 hf_3 => ?_;try dsimp only at hh_3 hf_3
  conv => whnf
  refine zh rfl (jS M (by omega) (by omega) (some b_3) (zj (yu f.l (zQ (-1) (zj (z0 X.l Y.l))))) (zeF (yn m9 f) hb8 (by omega)) (by omega)) fun hs_4 b_4 hh_4 hf_4 => ?_;try dsimp only at hh_4 hf_4
  conv => whnf
  rw [zcr, hD];refine hK _ (W.block (W.invH hs0 hb0 (fun m e => ∃ (i b' : Nat) (o : List Int), i <= dg D ∧ o = (D.l.take i).map (· / q) ∧ m = dg D - i ∧ e = [(1, .v (.ints g f.l)), (2, .v (.rf bg' X.l.length)), (3, .v (.rf bh' Y.l.length)), (10, .v (.int .i64 p)), (11, .v (.int .i64 M)), (12, .ownI 2 b_12 S.l), (13, .v (.int .i64 q)), (14, .ownI 2 b' o), (41, .v (.ints none D.l)), (42, .v (.int .i64 D.l.length)), (43, .v (.int .i64 i)), (vt, .tab tbi), (vk, .keep O U hw 1 v0)]) _ _ ⟨0, 0, [], Nat.zero_le _, rfl, rfl, rfl⟩ (by dsimp only; omega) ?_ ?_))
  ·exact cvr
  clear hK K;rintro m' e ⟨i, b', o, hi, rfl, hm', rfl⟩;refine W.rs (za _ _) (by rfl) fun K hK => ?_;conv => whnf
  refine hK _ ?_;clear hK K;refine W.seqK fun K7 hK7 => W.cond ⟨fun h6 => ?_, fun h6 => ?_⟩ <;> (first | replace h6 := of_decide_eq_true h6 | replace h6 := of_decide_eq_false h6)
  ·have hi2 : i < D.l.length := by omega
   have hst := y6 (fun x => x / q) hi2;have hci := xU D i;have hdq := zmA (q := q) (c := cf D.l i) (by omega) hci.1;have e1 : (D.l.getD i 0).tdiv q = cf D.l i / q := Int.tdiv_eq_ediv_of_nonneg hci.1;have hol : ((D.l.take i).map (· / q)).length = i := by rw [List.length_map, List.length_take]; omega
   refine W.skip (hK7 _ ?_);clear hK7 K7;refine W.seqK fun K9 hK9 => W.block ?_;refine W.rs (za _ _) (by rfl) fun K hK => ?_;conv => whnf
   refine ⟨oo, ?_⟩;conv => whnf
   rw [Int.toNat_natCast];refine hK _ ?_;clear hK K;refine W.region (za _ _) (by rfl) ?_;conv => whnf
   refine ⟨by omega, ?_⟩;conv => whnf
   rw [e1];refine ⟨oo, ?_⟩;conv => whnf
   refine ⟨⟨rfl, by decide⟩, ?_⟩;conv => whnf
   intro b_6 hs_6 hh_6 hf_6;try dsimp only at hh_6 hf_6
   conv => whnf
   refine ⟨by dsimp only [List.length]; omega, ?_⟩;conv => whnf
   intro b_7 hs_7 hh_7 hf_7;try dsimp only at hh_7 hf_7
   conv => whnf
   refine hK9 _ ?_;clear hK9 K9;refine W.region (za _ _) (by rfl) ?_;conv => whnf
   refine ⟨oo, ?_⟩;conv => whnf
   refine ⟨_, _, ⟨i + 1, b_7, _, by omega, hst.symm, rfl, rfl⟩, by omega, by dsimp only; omega, ?_⟩;exact cvr
  ·obtain rfl : i = D.l.length := by omega
   rw [List.take_length];have hml2 : (D.l.map (· / q)).length = dg D := (List.length_map ..).trans hDl
   have hmb : Bd 1000000000 (D.l.map (· / q)) := fun i => by
    by_cases hi : i < D.l.length
    ·rw [zao (· / q) _ hi];have hci := xU D i;have hdq := zmA (q := q) (c := cf D.l i) (by omega) hci.1;show _ <= cf D.l i / q ∧ cf D.l i / q <= _
     omega
    ·rw [zE (by simpa using hi)]; omega
   have eX : nrm p X.l = g0.l := congrArg Poly.l hI.inv.ig;have eY : nrm p Y.l = h0.l := congrArg Poly.l hI.inv.ih;obtain ⟨W0, hW0⟩ : ∃ W0, rem (C * S) g0 = W0 := ⟨_, rfl⟩
   rw [hW0] at hn htwo hx;have hWh := zM W0 h0;have hWl : W0.l.length = dg W0 := rfl;have hVl : V.l.length = dg V := rfl;have hWhl : (W0 * h0).l.length = dg (W0 * h0) := rfl;have hsl2 := zbY C.l (W0 * h0).l;have hcd := vJ C (W0 * h0);have hq9 : 0 <= q ∧ q <= 1000000000 := ⟨by omega, by omega⟩
   have hs1 := jH W0.l [q];have hs2 := jH V.l [q];have hs3 := zbX X.l (zj (z0 W0.l [q]));have hs4 := zbX Y.l (zj (z0 V.l [q]));refine W.exit (hK5 _ ?_);clear hK7 K7 hK5 K5;refine W.tick rfl fun hs9 hhs9 hbb => ?_;dsimp only at hhs9
   refine W.rs (za _ _) (by rfl) fun K hK => ?_;conv => whnf
   refine zh rfl (zq p (by omega) (by omega) (some b') (D.l.map (· / q)) (hmb.le (by omega)) (by omega)) fun hs_6 b_6 hh_6 hf_6 => ?_;try dsimp only at hh_6 hf_6
   conv => whnf
   rw [zmm, hC];refine hK _ ?_;clear hK K;refine W.rs (za _ _) (by rfl) fun K hK => ?_;conv => whnf
   refine zh rfl (xI p (some b_6) (some b_12) C S (by omega) (by omega)) fun hs_7 b_7 hh_7 hf_7 => ?_;try dsimp only at hh_7 hf_7
   conv => whnf
   refine ⟨X.l, ⟨rfl, fun _ => htx⟩, ?_⟩;conv => whnf
   refine zh rfl (zq p (by omega) (by omega) (some bg') X.l ((yn m9 X).le (by omega)) (by omega)) fun hs_8 b_8 hh_8 hf_8 => ?_;try dsimp only at hh_8 hf_8
   conv => whnf
   rw [eX];refine zd rfl (yX p (some b_7) (some b_8) (C * S) g0 (by omega) (by omega) hg0) fun hs' hhs => ?_;try dsimp only at hhs
   conv => whnf
   rw [hW0];refine hK _ ?_;clear hK K;refine W.rs (za _ _) (by rfl) fun K hK => ?_;conv => whnf
   refine ⟨Y.l, ⟨rfl, fun _ => hty⟩, ?_⟩;conv => whnf
   refine zh rfl (zq p (by omega) (by omega) (some bh') Y.l ((yn m9 Y).le (by omega)) (by omega)) fun hs_9 b_9 hh_9 hf_9 => ?_;try dsimp only at hh_9 hf_9
   conv => whnf
   rw [eY];refine zh rfl (xI p none (some b_9) W0 h0 (by omega) (by omega)) fun hs_10 b_10 hh_10 hf_10 => ?_;try dsimp only at hh_10 hf_10
   conv => whnf
   refine zh rfl (zeD (some b_6) (some b_10) C.l (W0 * h0).l ((yV C).le (by omega)) ((yV _).le (by omega)) (by omega) (by omega)) fun hs_11 b_11 hh_11 hf_11 => ?_;try dsimp only at hh_11 hf_11
   conv => whnf
   refine zh rfl (zq p (by omega) (by omega) (some b_11) (zj (yu C.l (zQ (-1) (W0 * h0).l))) (zeF (yV C) (yV _) (by omega)) (by omega)) fun hs_13 b_13 hh_13 hf_13 => ?_;try dsimp only at hh_13 hf_13
   conv => whnf
   rw [ziW];refine ⟨X.l, ⟨rfl, fun _ => htx⟩, ?_⟩;conv => whnf
   refine zh rfl (zq p (by omega) (by omega) (some bg') X.l ((yn m9 X).le (by omega)) (by omega)) fun hs_14 b_14 hh_14 hf_14 => ?_;try dsimp only at hh_14 hf_14
   conv => whnf
   rw [eX];refine zd rfl (xZ p (some b_13) (some b_14) (C - W0 * h0) g0 (by omega) (by omega) hg0) fun hs' hhs => ?_;try dsimp only at hhs
   conv => whnf
   rw [htwo];refine hK _ ?_;clear hK K;refine W.region (za _ _) (by rfl) ?_;conv => whnf
   refine zh rfl (zaN none W0.l q (yV W0) hq9 (by omega)) fun hs_15 b_15 hh_15 hf_15 => ?_;try dsimp only at hh_15 hf_15
   conv => whnf
   refine ⟨X.l, ⟨rfl, fun _ => htx⟩, ?_⟩;conv => whnf
   refine zh rfl (zat (some bg') (some b_15) X.l (zj (z0 W0.l [q])) ((yn m9 X).le (by omega)) ((zcY hq9 W0).le (by omega)) (by omega) (by simp at hs1; omega)) fun hs_16 b_16 hh_16 hf_16 => ?_;try dsimp only at hh_16 hf_16
   conv => whnf
   refine zh rfl (zq M (by omega) (by omega) (some b_16) (zj (yu X.l (zj (z0 W0.l [q])))) (zgM (yn m9 X) (zcY hq9 W0) (by omega)) (by simp at hs1; omega)) fun hs_17 b_17 hh_17 hf_17 => ?_;try dsimp only at hh_17 hf_17
   conv => whnf
   rw [jk];refine zh rfl (zaN none V.l q (yV V) hq9 (by omega)) fun hs_18 b_18 hh_18 hf_18 => ?_;try dsimp only at hh_18 hf_18
   conv => whnf
   refine ⟨Y.l, ⟨rfl, fun _ => hty⟩, ?_⟩;conv => whnf
   refine zh rfl (zat (some bh') (some b_18) Y.l (zj (z0 V.l [q])) ((yn m9 Y).le (by omega)) ((zcY hq9 V).le (by omega)) (by omega) (by simp at hs2; omega)) fun hs_19 b_19 hh_19 hf_19 => ?_;try dsimp only at hh_19 hf_19
   conv => whnf
   refine zh rfl (zq M (by omega) (by omega) (some b_19) (zj (yu Y.l (zj (z0 V.l [q])))) (zgM (yn m9 Y) (zcY hq9 V) (by omega)) (by simp at hs2; omega)) fun hs_20 b_20 hh_20 hf_20 => ?_;try dsimp only at hh_20 hf_20
   conv => whnf
   rw [jk];refine hK8 _ ?_;clear hK8 K8;rw [jk] at hf_17 hf_20;generalize hX' : X + cn M q * lft M W0 = X' at hn hf_17;generalize hY' : Y + cn M q * lft M V = Y' at hn hf_20;have hX'1 := hn.inv.mg.1;have hY'1 := hn.inv.mh.1;have hX'n : X'.l ≠ [] := fun e => by have : X'.l.length = dg X' := rfl; rw [e] at this; simp at this; omega
   have hY'n : Y'.l ≠ [] := fun e => by have : Y'.l.length = dg Y' := rfl; rw [e] at this; simp at this; omega
   have k1 := hf_17 hX'n;have k2 := hf_20 hY'n;have hlow : ∀ c xs, tb c = some xs -> c < hs9 := fun c xs h => hbb c (by rw [hold c xs h]; exact Option.some_ne_none _);refine W.give 2 fun K hK => ?_;conv => whnf
   refine hK _ ?_;clear hK K;refine W.give 3 fun K hK => ?_;conv => whnf
   refine hK _ ?_;clear hK K;refine W.region (za _ _) (by rfl) ?_;conv => whnf
   refine ⟨oo, ?_⟩;conv => whnf
   refine ⟨_, _, ⟨j + 1, q * p, b_17, b_20, X', Y', X'.l, Y'.l, kW (kW tbi b_17 X'.l) b_20 Y'.l, hn, by omega, q1, rfl, rfl, (xK _ _ (.inr (by omega))).trans (yI _ _ hX'n), yI _ _ hY'n, by omega, .inr ?_, .inr ?_, fun c xs h => ?_, rfl, rfl⟩, by omega, by dsimp only; omega, ?_⟩
   ·cases h : tb b_17 with
    | none => rfl
    | some xs => exact absurd (hlow _ _ h) (by omega)
   ·cases h : tb b_20 with
    | none => rfl
    | some xs => exact absurd (hlow _ _ h) (by omega)
   ·have := hlow _ _ h;exact ((xK _ _ (.inr (by omega))).trans (xK _ _ (.inr (by omega)))).trans (hold c xs h)
   ·exact cvr
 ·have hj2 : j = k.toNat - 1 := Classical.byContradiction fun h => by
   obtain ⟨q1, q2, q3, q4⟩ := zcz hp (j := j) (k := k.toNat) (by omega);rw [<- hq] at q2 q3 q4;rw [hm] at q2; omega
  subst hj2;obtain ⟨rfl, rfl⟩ := hI.uniq hL;refine W.exit (hK1 _ ?_);clear hK7 K7 hK1 K1;refine W.rs (za _ _) (by rfl) fun K hK => ?_;conv => whnf
  refine hK _ ?_;clear hK K;refine W.ret ?_;conv => whnf
  refine ⟨by dsimp only; omega, ?_⟩;conv => whnf
  refine ⟨rfl, ?_⟩;conv => whnf
  refine ⟨.rf bg' X.l.length, rfl, ?_⟩;conv => whnf
  refine ⟨rfl, ?_⟩;conv => whnf
  refine ⟨.rf bh' Y.l.length, rfl, ?_⟩;conv => whnf
  exact ⟨.v (.ints g f.l), kf (.ints g f.l), .inr ⟨rfl, rfl⟩, .tab tbi, fun _ _ h => h, rfl, rfl, rfl, bg', bh', tbi, rfl, rfl, htx, hty, hbb', hbg, hbh, hold⟩
end



section
variable {p k M : Int} [SP p] [Pos M] {f : Poly M} {a b : Nat} {g0 h0 S T : Poly p} {G H : Poly M}
theorem zjc (hr : y9 p k) (hm : p ^ k.toNat = M) (hP : Pair f a b g0 h0 S T) (h9 : a + b <= 8) (hL : LAt f a b g0 h0 S T (k.toNat - 1) G H) (bf bg bh : Nat) (tb : Tab) (htf : tb bf = some f.l) (htg : tb bg = some g0.l) (hth : tb bh = some h0.l) (hne : bg ≠ bh) :
  MFn Tryz.prog 257 [vR p k, .nil, .rf bg g0.l.length, .rf bh h0.l.length] 1 (.v (.rf bf f.l.length)) (.tab tb) (fun _ av x' t' => x' = .v (.rf bf f.l.length) ∧ znE bg bh tb G.l H.l av t') := by
 obtain ⟨s1, s2, s3, s4, s5, s6⟩ := hr.small;have hp := Pr.two (p := p);have hp2 := SP.le (p := p);have hpM := Pos.pos (p := M);have m9 : M <= 1000000000 := by omega
 have hg1 := hP.mg.1;have hh1 := hP.mh.1;have hf1 := hP.mf.1;have hg0 : g0 ≠ 0 := fun e => by rw [e, zr] at hg1; omega
 have hh0 : h0 ≠ 0 := fun e => by rw [e, zr] at hh1; omega
 have ha1 := hP.a1;have hb1 := hP.b1;have hS := hP.s1;have hT := hP.t1;have hfl : f.l.length = dg f := rfl;have hgl : g0.l.length = dg g0 := rfl;have hhl : h0.l.length = dg h0 := rfl;refine xN (cx := cxt [] [0, 1, 2, 3, 4, 8, 9, 10, 11, 12, 13, 14, 16, 17, 18, 31, 41, 42, 43, 44, 1000000, 1000001]) (za [] [0, 1, 2, 3, 4, 8, 9, 10, 11, 12, 13, 14, 16, 17, 18, 31, 41, 42, 43, 44, 1000000, 1000001]) Tryz.func257 rfl (by decide) Tryz.ntmps257 (Nat.le_of_ble_eq_true rfl) (Nat.le_of_ble_eq_true rfl) rfl rfl fun base hs0 O U hw v0 hb0 => ?_;refine W.rs (za _ _) (by rfl) fun K hK => ?_;conv => whnf
 refine ⟨rfl, ?_⟩;conv => whnf
 intro b_4 hs_4 hh_4 hf_4;try dsimp only at hh_4 hf_4
 conv => whnf
 refine hK _ ?_;clear hK K;refine W.rd (za _ _) follows (by rfl) fun K hK => ?_;conv => whnf
 refine ⟨_, zi1 (zcy hr hm), ?_⟩;conv => whnf
 refine hK _ ?_;clear hK K;refine W.rs (za _ _) (by rfl) fun K hK => ?_;conv => whnf
 refine ⟨h0.l, ⟨rfl, fun _ => hth⟩, ?_⟩;conv => whnf
 refine ⟨g0.l, ⟨rfl, fun _ => htg⟩, ?_⟩;conv => whnf
 refine zh rfl (zcX p (some bh) (some bg) h0 g0 S (by omega) (by omega) (by omega) hS hP.s2) fun hs_12 b_12 hh_12 hf_12 => ?_;try dsimp only at hh_12 hf_12
 conv => whnf
 refine hK _ ?_;clear hK K;refine W.seqK fun K1 hK1 => ?_;refine W.rs (za _ _) (by rfl) fun K hK => ?_;conv => whnf
 refine hK _ (W.block (W.invH hs0 hb0 (fun m e => ∃ (j : Nat) (q : Int) (bg' bh' : Nat) (X Y : Poly M) (su sv : List Int) (tbi : Tab), LAt f a b g0 h0 S T j X Y ∧ j + 1 <= k.toNat ∧ q = p ^ (j + 1) ∧ su = X.l ∧ sv = Y.l ∧ tbi bg' = some su ∧ tbi bh' = some sv ∧ bg' ≠ bh' ∧ (bg' = bg ∨ tb bg' = none) ∧ (bh' = bh ∨ tb bh' = none) ∧ (∀ c xs, tb c = some xs -> tbi c = some xs) ∧ m = k.toNat - j ∧ e = [(1, .v (.rf bf f.l.length)), (2, .v (.rf bg' su.length)), (3, .v (.rf bh' sv.length)), (10, .v (.int .i64 p)), (11, .v (.int .i64 M)), (12, .ownI 2 b_12 S.l), (13, .v (.int .i64 q)), (vt, .tab tbi), (vk, .keep O U hw 1 v0)]) _ _ ⟨0, p, bg, bh, lft M g0, lft M h0, g0.l, h0.l, tb, LAt.start hP, by omega, (by rw [Int.pow_succ, Int.pow_zero, Int.one_mul]), (zcQ hP.ple _).symm, (zcQ hP.ple _).symm, htg, hth, hne, .inl rfl, .inl rfl, fun _ _ h => h, rfl, rfl⟩ (by dsimp only; omega) ?_ ?_))
 ·exact cvr
 clear hK K;rintro m e ⟨j, q, bg', bh', X, Y, su, sv, tbi, hI, hj, hq, rfl, rfl, htx, hty, hbb', hbg, hbh, hold, hmm, rfl⟩;have hX1 := hI.inv.mg.1;have hY1 := hI.inv.mh.1;have hXl : X.l.length = dg X := rfl;have hYl : Y.l.length = dg Y := rfl;refine W.seqK fun K7 hK7 => W.rs (za _ _) (by rfl) fun K hK => ?_;conv => whnf
 refine hK _ (W.cond ⟨fun h5 => ?_, fun h5 => ?_⟩) <;> clear hK K <;> (first | replace h5 := of_decide_eq_true h5 | replace h5 := of_decide_eq_false h5)
 ·have hj2 : j + 1 < k.toNat := Classical.byContradiction fun h => by
   have e : j + 1 = k.toNat := by omega
   rw [hq, e, hm] at h5; omega
  obtain ⟨q1, q2, q3, q4⟩ := zcz hp hj2;have hc := hI.cdg hP (by omega) q;have hn := hI.step hP hq;have htwo := hI.two hP (by omega) q;rw [<- hq] at q1 q2 q3 q4;rw [hm] at q2;obtain ⟨D, hD⟩ : ∃ D, f - X * Y = D := ⟨_, rfl⟩
  rw [hD] at hc hn htwo;have hDl : D.l.length = dg D := rfl;have hml := jH X.l Y.l;have hsl := zbY f.l (zj (z0 X.l Y.l));have hb8 := zh7 m9 X Y (by omega);obtain ⟨C, hC⟩ : ∃ C, dgt p q D = C := ⟨_, rfl⟩
  rw [hC] at hc hn htwo;obtain ⟨hc1, hc2⟩ := hc;have hx := zI (C * S) hg0;have hy := zI (C * T) hh0;generalize rem (C * T) h0 = V at hn htwo hy;have hCS := zM C S;have hCl : C.l.length = dg C := rfl;refine W.skip (hK7 _ ?_);clear hK7 K7;refine W.seqK fun K8 hK8 => W.block ?_;refine W.rs (za _ _) (by rfl) fun K hK => ?_;conv => whnf
  refine hK _ ?_;clear hK K;refine W.seqK fun K5 hK5 => ?_;refine W.rs (za _ _) (by rfl) fun K hK => ?_;conv => whnf
  refine ⟨X.l, ⟨rfl, fun _ => htx⟩, ?_⟩;conv => whnf
  refine ⟨Y.l, ⟨rfl, fun _ => hty⟩, ?_⟩;conv => whnf
  refine zh rfl (xh (some bg') (some bh') X.l Y.l 999999999 999999999 (by omega) (by omega) (yn m9 X) (yn m9 Y) (by rw [hXl]; omega) (by omega) (by omega)) fun hs_2 b_2 hh_2 hf_2 => ?_;try dsimp only at hh_2 hf_2
  conv => whnf
  refine ⟨f.l, ⟨rfl, fun _ => hold bf f.l htf⟩, ?_⟩;conv => whnf
  refine zh rfl (zbl (some bf) (some b_2) f.l (zj (z0 X.l Y.l)) ((yn m9 f).le (by omega)) (hb8.le (by omega)) (fun j => by have := yn m9 f j; have := hb8 j; omega) (by omega) (by omega)) fun hs_3 b_3 hh_3 hf_3 => ?_;try dsimp only at hh_3 hf_3
  conv => whnf
  refine zh rfl (jS M (by omega) (by omega) (some b_3) (zj (yu f.l (zQ (-1) (zj (z0 X.l Y.l))))) (zeF (yn m9 f) hb8 (by omega)) (by omega)) fun hs_4 b_4 hh_4 hf_4 => ?_;try dsimp only at hh_4 hf_4
  conv => whnf
  rw [zcr, hD];refine hK _ (W.block (W.invH hs0 hb0 (fun m e => ∃ (i b' : Nat) (o : List Int), i <= dg D ∧ o = (D.l.take i).map (· / q) ∧ m = dg D - i ∧ e = [(1, .v (.rf bf f.l.length)), (2, .v (.rf bg' X.l.length)), (3, .v (.rf bh' Y.l.length)), (10, .v (.int .i64 p)), (11, .v (.int .i64 M)), (12, .ownI 2 b_12 S.l), (13, .v (.int .i64 q)), (14, .ownI 2 b' o), (41, .v (.ints none D.l)), (42, .v (.int .i64 D.l.length)), (43, .v (.int .i64 i)), (vt, .tab tbi), (vk, .keep O U hw 1 v0)]) _ _ ⟨0, 0, [], Nat.zero_le _, rfl, rfl, rfl⟩ (by dsimp only; omega) ?_ ?_))
  ·exact cvr
  clear hK K;rintro m' e ⟨i, b', o, hi, rfl, hm', rfl⟩;refine W.rs (za _ _) (by rfl) fun K hK => ?_;conv => whnf
  refine hK _ ?_;clear hK K;refine W.seqK fun K7 hK7 => W.cond ⟨fun h6 => ?_, fun h6 => ?_⟩ <;> (first | replace h6 := of_decide_eq_true h6 | replace h6 := of_decide_eq_false h6)
  ·have hi2 : i < D.l.length := by omega
   have hst := y6 (fun x => x / q) hi2;have hci := xU D i;have hdq := zmA (q := q) (c := cf D.l i) (by omega) hci.1;have e1 : (D.l.getD i 0).tdiv q = cf D.l i / q := Int.tdiv_eq_ediv_of_nonneg hci.1;have hol : ((D.l.take i).map (· / q)).length = i := by rw [List.length_map, List.length_take]; omega
   refine W.skip (hK7 _ ?_);clear hK7 K7;refine W.seqK fun K9 hK9 => W.block ?_;refine W.rs (za _ _) (by rfl) fun K hK => ?_;conv => whnf
   refine ⟨oo, ?_⟩;conv => whnf
   rw [Int.toNat_natCast];refine hK _ ?_;clear hK K;refine W.region (za _ _) (by rfl) ?_;conv => whnf
   refine ⟨by omega, ?_⟩;conv => whnf
   rw [e1];refine ⟨oo, ?_⟩;conv => whnf
   refine ⟨⟨rfl, by decide⟩, ?_⟩;conv => whnf
   intro b_6 hs_6 hh_6 hf_6;try dsimp only at hh_6 hf_6
   conv => whnf
   refine ⟨by dsimp only [List.length]; omega, ?_⟩;conv => whnf
   intro b_7 hs_7 hh_7 hf_7;try dsimp only at hh_7 hf_7
   conv => whnf
   refine hK9 _ ?_;clear hK9 K9;refine W.region (za _ _) (by rfl) ?_;conv => whnf
   refine ⟨oo, ?_⟩;conv => whnf
   refine ⟨_, _, ⟨i + 1, b_7, _, by omega, hst.symm, rfl, rfl⟩, by omega, by dsimp only; omega, ?_⟩;exact cvr
  ·obtain rfl : i = D.l.length := by omega
   rw [List.take_length];have hml2 : (D.l.map (· / q)).length = dg D := (List.length_map ..).trans hDl
   have hmb : Bd 1000000000 (D.l.map (· / q)) := fun i => by
    by_cases hi : i < D.l.length
    ·rw [zao (· / q) _ hi];have hci := xU D i;have hdq := zmA (q := q) (c := cf D.l i) (by omega) hci.1;show _ <= cf D.l i / q ∧ cf D.l i / q <= _
     omega
    ·rw [zE (by simpa using hi)]; omega
   have eX : nrm p X.l = g0.l := congrArg Poly.l hI.inv.ig;have eY : nrm p Y.l = h0.l := congrArg Poly.l hI.inv.ih;obtain ⟨W0, hW0⟩ : ∃ W0, rem (C * S) g0 = W0 := ⟨_, rfl⟩
   rw [hW0] at hn htwo hx;have hWh := zM W0 h0;have hWl : W0.l.length = dg W0 := rfl;have hVl : V.l.length = dg V := rfl;have hWhl : (W0 * h0).l.length = dg (W0 * h0) := rfl;have hsl2 := zbY C.l (W0 * h0).l;have hcd := vJ C (W0 * h0);have hq9 : 0 <= q ∧ q <= 1000000000 := ⟨by omega, by omega⟩
   have hs1 := jH W0.l [q];have hs2 := jH V.l [q];have hs3 := zbX X.l (zj (z0 W0.l [q]));have hs4 := zbX Y.l (zj (z0 V.l [q]));refine W.exit (hK5 _ ?_);clear hK7 K7 hK5 K5;refine W.tick rfl fun hs9 hhs9 hbb => ?_;dsimp only at hhs9
   refine W.rs (za _ _) (by rfl) fun K hK => ?_;conv => whnf
   refine zh rfl (zq p (by omega) (by omega) (some b') (D.l.map (· / q)) (hmb.le (by omega)) (by omega)) fun hs_6 b_6 hh_6 hf_6 => ?_;try dsimp only at hh_6 hf_6
   conv => whnf
   rw [zmm, hC];refine hK _ ?_;clear hK K;refine W.rs (za _ _) (by rfl) fun K hK => ?_;conv => whnf
   refine zh rfl (xI p (some b_6) (some b_12) C S (by omega) (by omega)) fun hs_7 b_7 hh_7 hf_7 => ?_;try dsimp only at hh_7 hf_7
   conv => whnf
   refine ⟨X.l, ⟨rfl, fun _ => htx⟩, ?_⟩;conv => whnf
   refine zh rfl (zq p (by omega) (by omega) (some bg') X.l ((yn m9 X).le (by omega)) (by omega)) fun hs_8 b_8 hh_8 hf_8 => ?_;try dsimp only at hh_8 hf_8
   conv => whnf
   rw [eX];refine zd rfl (yX p (some b_7) (some b_8) (C * S) g0 (by omega) (by omega) hg0) fun hs' hhs => ?_;try dsimp only at hhs
   conv => whnf
   rw [hW0];refine hK _ ?_;clear hK K;refine W.rs (za _ _) (by rfl) fun K hK => ?_;conv => whnf
   refine ⟨Y.l, ⟨rfl, fun _ => hty⟩, ?_⟩;conv => whnf
   refine zh rfl (zq p (by omega) (by omega) (some bh') Y.l ((yn m9 Y).le (by omega)) (by omega)) fun hs_9 b_9 hh_9 hf_9 => ?_;try dsimp only at hh_9 hf_9
   conv => whnf
   rw [eY];refine zh rfl (xI p none (some b_9) W0 h0 (by omega) (by omega)) fun hs_10 b_10 hh_10 hf_10 => ?_;try dsimp only at hh_10 hf_10
   conv => whnf
   refine zh rfl (zeD (some b_6) (some b_10) C.l (W0 * h0).l ((yV C).le (by omega)) ((yV _).le (by omega)) (by omega) (by omega)) fun hs_11 b_11 hh_11 hf_11 => ?_;try dsimp only at hh_11 hf_11
   conv => whnf
   refine zh rfl (zq p (by omega) (by omega) (some b_11) (zj (yu C.l (zQ (-1) (W0 * h0).l))) (zeF (yV C) (yV _) (by omega)) (by omega)) fun hs_13 b_13 hh_13 hf_13 => ?_;try dsimp only at hh_13 hf_13
   conv => whnf
   rw [ziW];refine ⟨X.l, ⟨rfl, fun _ => htx⟩, ?_⟩;conv => whnf
   refine zh rfl (zq p (by omega) (by omega) (some bg') X.l ((yn m9 X).le (by omega)) (by omega)) fun hs_14 b_14 hh_14 hf_14 => ?_;try dsimp only at hh_14 hf_14
   conv => whnf
   rw [eX];refine zd rfl (xZ p (some b_13) (some b_14) (C - W0 * h0) g0 (by omega) (by omega) hg0) fun hs' hhs => ?_;try dsimp only at hhs
   conv => whnf
   rw [htwo];refine hK _ ?_;clear hK K;refine W.region (za _ _) (by rfl) ?_;conv => whnf
   refine zh rfl (zaN none W0.l q (yV W0) hq9 (by omega)) fun hs_15 b_15 hh_15 hf_15 => ?_;try dsimp only at hh_15 hf_15
   conv => whnf
   refine ⟨X.l, ⟨rfl, fun _ => htx⟩, ?_⟩;conv => whnf
   refine zh rfl (zat (some bg') (some b_15) X.l (zj (z0 W0.l [q])) ((yn m9 X).le (by omega)) ((zcY hq9 W0).le (by omega)) (by omega) (by simp at hs1; omega)) fun hs_16 b_16 hh_16 hf_16 => ?_;try dsimp only at hh_16 hf_16
   conv => whnf
   refine zh rfl (zq M (by omega) (by omega) (some b_16) (zj (yu X.l (zj (z0 W0.l [q])))) (zgM (yn m9 X) (zcY hq9 W0) (by omega)) (by simp at hs1; omega)) fun hs_17 b_17 hh_17 hf_17 => ?_;try dsimp only at hh_17 hf_17
   conv => whnf
   rw [jk];refine zh rfl (zaN none V.l q (yV V) hq9 (by omega)) fun hs_18 b_18 hh_18 hf_18 => ?_;try dsimp only at hh_18 hf_18
   conv => whnf
   refine ⟨Y.l, ⟨rfl, fun _ => hty⟩, ?_⟩;conv => whnf
   refine zh rfl (zat (some bh') (some b_18) Y.l (zj (z0 V.l [q])) ((yn m9 Y).le (by omega)) ((zcY hq9 V).le (by omega)) (by omega) (by simp at hs2; omega)) fun hs_19 b_19 hh_19 hf_19 => ?_;try dsimp only at hh_19 hf_19
   conv => whnf
   refine zh rfl (zq M (by omega) (by omega) (some b_19) (zj (yu Y.l (zj (z0 V.l [q])))) (zgM (yn m9 Y) (zcY hq9 V) (by omega)) (by simp at hs2; omega)) fun hs_20 b_20 hh_20 hf_20 => ?_;try dsimp only at hh_20 hf_20
   conv => whnf
   rw [jk];refine hK8 _ ?_;clear hK8 K8;rw [jk] at hf_17 hf_20;generalize hX' : X + cn M q * lft M W0 = X' at hn hf_17;generalize hY' : Y + cn M q * lft M V = Y' at hn hf_20;have hX'1 := hn.inv.mg.1;have hY'1 := hn.inv.mh.1;have hX'n : X'.l ≠ [] := fun e => by have : X'.l.length = dg X' := rfl; rw [e] at this; simp at this; omega
   have hY'n : Y'.l ≠ [] := fun e => by have : Y'.l.length = dg Y' := rfl; rw [e] at this; simp at this; omega
   have k1 := hf_17 hX'n;have k2 := hf_20 hY'n;have hlow : ∀ c xs, tb c = some xs -> c < hs9 := fun c xs h => hbb c (by rw [hold c xs h]; exact Option.some_ne_none _);refine W.give 2 fun K hK => ?_;conv => whnf
   refine hK _ ?_;clear hK K;refine W.give 3 fun K hK => ?_;conv => whnf
   refine hK _ ?_;clear hK K;refine W.region (za _ _) (by rfl) ?_;conv => whnf
   refine ⟨oo, ?_⟩;conv => whnf
   refine ⟨_, _, ⟨j + 1, q * p, b_17, b_20, X', Y', X'.l, Y'.l, kW (kW tbi b_17 X'.l) b_20 Y'.l, hn, by omega, q1, rfl, rfl, (xK _ _ (.inr (by omega))).trans (yI _ _ hX'n), yI _ _ hY'n, by omega, .inr ?_, .inr ?_, fun c xs h => ?_, rfl, rfl⟩, by omega, by dsimp only; omega, ?_⟩
   ·cases h : tb b_17 with
    | none => rfl
    | some xs => exact absurd (hlow _ _ h) (by omega)
   ·cases h : tb b_20 with
    | none => rfl
    | some xs => exact absurd (hlow _ _ h) (by omega)
   ·have := hlow _ _ h;exact ((xK _ _ (.inr (by omega))).trans (xK _ _ (.inr (by omega)))).trans (hold c xs h)
   ·exact cvr
 ·have hj2 : j = k.toNat - 1 := Classical.byContradiction fun h => by
   obtain ⟨q1, q2, q3, q4⟩ := zcz hp (j := j) (k := k.toNat) (by omega);rw [<- hq] at q2 q3 q4;rw [hm] at q2; omega
  subst hj2;obtain ⟨rfl, rfl⟩ := hI.uniq hL;refine W.exit (hK1 _ ?_);clear hK7 K7 hK1 K1;refine W.rs (za _ _) (by rfl) fun K hK => ?_;conv => whnf
  refine hK _ ?_;clear hK K;refine W.ret ?_;conv => whnf
  refine ⟨by dsimp only; omega, ?_⟩;conv => whnf
  refine ⟨rfl, ?_⟩;conv => whnf
  refine ⟨.rf bg' X.l.length, rfl, ?_⟩;conv => whnf
  refine ⟨rfl, ?_⟩;conv => whnf
  refine ⟨.rf bh' Y.l.length, rfl, ?_⟩;conv => whnf
  exact ⟨.v (.rf bf f.l.length), rfl, .inr ⟨rfl, rfl⟩, .tab tbi, fun _ _ h => h, rfl, rfl, rfl, bg', bh', tbi, rfl, rfl, htx, hty, hbb', hbg, hbh, hold⟩
end


section
variable {p : Int} [SP p]
theorem fac2 {f : Poly p} {F : List (Poly p × Nat)} (h : zJ f F) (hf0 : f ≠ 0) (hf : dg f <= 13) : ∀ j, j < F.length -> F.getD j (0, 0) ∈ F ∧ Mon (F.getD j (0, 0)).1 ∧ dg (F.getD j (0, 0)).1 <= 13 ∧ (F.getD j (0, 0)).2 <= 13 ∧ ∀ t, t <= (F.getD j (0, 0)).2 -> dg ((F.getD j (0, 0)).1 ^ t) <= 13 := fun j hj => by
 have hm : F.getD j (0, 0) ∈ F := by rw [jf hj]; exact List.getElem_mem hj
 obtain ⟨h3, h4, h1, h2⟩ := (h.2 (F.getD j (0, 0))).1 hm;have hp := fun t ht => zni hf0 h hm (t := t) ht;have h5 := zF (h2.dvd h1) hf0;refine ⟨hm, h4, by omega, ?_, fun t ht => Nat.le_trans (hp t ht) hf⟩;have h6 := hp _ (Nat.le_refl _)
 have h7 : ∀ n, n + 1 <= dg ((F.getD j (0, 0)).1 ^ n) := fun n => by
  induction n with
  | zero => rw [zw, y7]; omega
  | succ n ih =>
   rw [zi];have := yQ (zaK h4 n).1 h3.ne;have := h3.1;omega
 have := h7 (F.getD j (0, 0)).2;omega

abbrev pwF (F : List (Poly p × Nat)) (j : Nat) : Poly p := (F.getD j (0, 0)).1 ^ (F.getD j (0, 0)).2

theorem zh8 (x : Poly p × Nat) (h : ∀ t, t <= x.2 -> dg (x.1 ^ t) <= 13) (h1 : dg x.1 <= 13) (h2 : x.2 <= 13) : FnV 258 [.int .i64 p, vF x] (.ints none (x.1 ^ x.2).l) := by
 refine zf (zb [0, 1, 3, 4, 5, 6, 11]) Tryz.func258 rfl (by decide) Tryz.ntmps258 (Nat.le_of_ble_eq_true rfl) fun base => ?_;refine wrs fun K hK => ?_;conv => whnf
 refine ⟨rfl, ?_⟩;conv => whnf
 intro b_3 hs_3 hh_3 hf_3;try dsimp only at hh_3 hf_3
 conv => whnf
 refine hK _ ?_;clear hK K;refine wrs fun K hK => ?_;conv => whnf
 refine ⟨⟨rfl, by decide⟩, ?_⟩;conv => whnf
 intro b_1 hs_1 hh_1 hf_1;try dsimp only at hh_1 hf_1
 conv => whnf
 refine hK _ ?_;clear hK K;refine W.seqK fun K1 hK1 => wrs fun K hK => ?_;conv => whnf
 refine hK _ (W.block (W.invA (fun m e => ∃ (t : Nat) (o : List Int), t <= x.2 ∧ o = (x.1 ^ t).l ∧ m = x.2 - t ∧ e = [(0, .v (.int .i64 p)), (3, .ownB b_3 (vF x)), (5, .v (.ints none o)), (6, .v (.int .i64 t))]) ⟨0, [1], Nat.zero_le _, (by rw [zw]; exact zfG.symm), rfl, rfl⟩ ?_));clear hK K;rintro m e ⟨t, o, ht, rfl, hm, rfl⟩;have hpt := h t ht;refine W.seqK fun K7 hK7 => wrs fun K hK => ?_;conv => whnf
 refine hK _ (W.cond ⟨fun h5 => ?_, fun h5 => ?_⟩) <;> clear hK K <;> (first | replace h5 := of_decide_eq_true h5 | replace h5 := of_decide_eq_false h5)
 ·refine W.skip (hK7 _ ?_);clear hK7 K7;refine W.seqK fun K8 hK8 => W.block ?_;refine wrg ?_;conv => whnf
  refine zh rfl (yr p none none (x.1 ^ t) x.1 (by omega) (by omega)) fun hs_4 b_4 hh_4 hf_4 => ?_;try dsimp only at hh_4 hf_4
  conv => whnf
  rw [<- zi];refine hK8 _ ?_;clear hK8 K8;refine wrg ?_;conv => whnf
  refine ⟨oo, ?_⟩;conv => whnf
  exact zo ⟨t + 1, _, by omega, rfl, rfl, rfl⟩
 ·obtain rfl : t = x.2 := by omega
  refine W.exit (hK1 _ ?_);clear hK7 K7 hK1 K1;refine wrs fun K hK => ?_;conv => whnf
  refine hK _ ?_;clear hK K;refine W.ret ?_;conv => whnf
  exact ⟨.v (.ints none (x.1 ^ x.2).l), ⟨rfl, rfl⟩, trivial, rfl⟩

theorem zU (g : Option Nat) (f : Poly p) (F : List (Poly p × Nat)) (hF : zJ f F) (hf0 : f ≠ 0) (h9 : dg f <= 13) : FnT Tryz.prog 253 [.int .i64 p, .ints g f.l] (fun _ _ x tb => ∃ bs : Nat -> Nat, x = .vals none 1 F.length (fun j => .rf (bs j) (pwF F j).l.length) ∧ (∀ j, j < F.length -> tb (bs j) = some (pwF F j).l) ∧ ∀ i j, i < F.length -> j < F.length -> i ≠ j -> bs i ≠ bs j) := by
 have hfl : f.l.length = dg f := rfl;have hFs := fac2 hF hf0 h9;have hFl := hF.facs.few hf0;refine za7 (za [] [0, 1, 4, 5, 7, 8, 11, 12, 13, 14, 19, 20, 21, 1000000]) Tryz.func253 rfl (by decide) Tryz.ntmps253 (Nat.le_of_ble_eq_true rfl) (fun base => ?_) (Nat.le_of_ble_eq_true rfl);refine W.sw (c' := cx [0, 1, 4, 5, 7, 8, 11, 12, 13, 14, 19, 20, 21, 1000000]) ?_;refine wrs fun K hK => ?_;conv => whnf
 refine hK _ ?_;clear hK K;refine wrs fun K hK => ?_;conv => whnf
 refine hK _ ?_;clear hK K;refine W.seqK fun K1 hK1 => ?_;refine wrs fun K hK => ?_;conv => whnf
 refine yR rfl (kL p _ g f (Nat.le_refl _) (by omega) hf0) ?_;rintro lo hi hi' z hl1 hl2 hl3 ⟨F', hF', rfl⟩ _;obtain rfl := hF.unique hF';try dsimp only at hl1 hl2
 conv => whnf
 refine hK _ (W.block (W.invA (fun m e => ∃ (i b : Nat) (bs : Nat -> Nat) (tb : Tab), i <= F.length ∧ (∀ j, j < i -> tb (bs j) = some (pwF F j).l) ∧ (∀ j j', j < i -> j' < i -> j ≠ j' -> bs j ≠ bs j') ∧ m = F.length - i ∧ e = [(vt, .tab tb), (0, .v (.int .i64 p)), (5, .ownV 24 1 b i fun j => .rf (bs j) (pwF F j).l.length), (11, .v (vFs F)), (12, .v (.int .i64 F.length)), (13, .v (.int .i64 i))]) ⟨0, 0, fun _ => 0, fun _ => none, Nat.zero_le _, fun j hj => absurd hj (Nat.not_lt_zero j), fun j _ hj => absurd hj (Nat.not_lt_zero j), rfl, rfl⟩ ?_));clear hK K;rintro m e ⟨i, b, bs, tb, hi, htb, hds, hm, rfl⟩;refine W.sw (c' := cxt [] [0, 1, 4, 5, 7, 8, 11, 12, 13, 14, 19, 20, 21, 1000000]) ?_;refine W.rs (za _ _) (by rfl) fun K hK => ?_;conv => whnf
 refine hK _ ?_;clear hK K;refine W.seqK fun K7 hK7 => W.cond ⟨fun h3 => ?_, fun h3 => ?_⟩ <;> (first | replace h3 := of_decide_eq_true h3 | replace h3 := of_decide_eq_false h3)
 ·obtain ⟨hx0, hx1, hx2, hx3, hx4⟩ := hFs i (by omega);have hpe : pwF F i = (F.getD i (0, 0)).1 ^ (F.getD i (0, 0)).2 := rfl;generalize hxx : F.getD i (0, 0) = x at hx0 hx1 hx2 hx3 hx4 hpe;have hxl : x.1.l.length = dg x.1 := rfl;refine W.skip (hK7 _ ?_);clear hK7 K7;refine W.seqK fun K8 hK8 => W.block ?_;refine W.rs (za _ _) (by rfl) fun K hK => ?_;conv => whnf
  refine ⟨oo, ?_⟩;conv => whnf
  rw [Int.toNat_natCast, hxx];intro b_2 hs_2 hh_2 hf_2;try dsimp only at hh_2 hf_2
  conv => whnf
  refine ⟨s23, ?_⟩;conv => whnf
  refine hK _ ?_;clear hK K;refine W.tick rfl fun hs9 hhs9 hbb => ?_;dsimp only at hhs9
  refine W.rs (za _ _) (by rfl) fun K hK => ?_;conv => whnf
  refine ⟨⟨rfl, by decide⟩, ?_⟩;conv => whnf
  intro b_3 hs_3 hh_3 hf_3;try dsimp only at hh_3 hf_3
  conv => whnf
  refine hK _ ?_;clear hK K;refine W.seqK fun K5 hK5 => ?_;refine W.rs (za _ _) (by rfl) fun K hK => ?_;conv => whnf
  refine hK _ (W.block (W.invA (fun m e => ∃ (t b' : Nat) (o : List Int), t <= x.2 ∧ o = (x.1 ^ t).l ∧ (∀ c, tb c ≠ none -> c ≠ b') ∧ m = x.2 - t ∧ e = [(vt, .tab tb), (0, .v (.int .i64 p)), (5, .ownV 24 1 b i fun j => .rf (bs j) (pwF F j).l.length), (7, .ownB b_2 (vF x)), (8, .ownI 2 b' o), (11, .v (vFs F)), (12, .v (.int .i64 F.length)), (13, .v (.int .i64 i)), (19, .v (.int .i64 x.2)), (20, .v (.int .i64 t))]) ⟨0, b_3, [1], Nat.zero_le _, (by rw [zw]; exact zfG.symm), fun c hc e => (by have := hbb c hc; omega), rfl, rfl⟩ ?_));clear hK K;rintro m' e ⟨t, b', o, ht, rfl, hb', hm', rfl⟩;have hpt := hx4 t ht;refine W.rs (za _ _) (by rfl) fun K hK => ?_;conv => whnf
  refine hK _ ?_;clear hK K;refine W.seqK fun K7 hK7 => W.cond ⟨fun h6 => ?_, fun h6 => ?_⟩ <;> (first | replace h6 := of_decide_eq_true h6 | replace h6 := of_decide_eq_false h6)
  ·refine W.skip (hK7 _ ?_);clear hK7 K7;refine W.seqK fun K9 hK9 => W.block ?_;refine W.tick rfl fun hs9 hhs9 hbb => ?_;dsimp only at hhs9
   refine W.region (za _ _) (by rfl) ?_;conv => whnf
   refine zh rfl (xI p (some b') none (x.1 ^ t) x.1 (by omega) (by omega)) fun hs_4 b_4 hh_4 hf_4 => ?_;try dsimp only at hh_4 hf_4
   conv => whnf
   rw [<- zi] at hf_4 ⊢;have k4 := hf_4 (fun e => by have h1 := (zaK hx1 (t + 1)).1; exact h1 (zfw (e.trans jz.symm)));refine hK9 _ ?_;clear hK9 K9;refine W.region (za _ _) (by rfl) ?_;conv => whnf
   refine ⟨oo, ?_⟩;conv => whnf
   exact zo ⟨t + 1, b_4, _, by omega, rfl, fun c hc e => (by have := hbb c hc; omega), rfl, rfl⟩
  ·obtain rfl : t = x.2 := by omega
   rw [<- hpe];have hne : (pwF F i).l ≠ [] := fun e => by have h1 := (zaK hx1 x.2).1; exact h1 (hpe ▸ zfw (e.trans jz.symm))
   refine W.exit (hK5 _ ?_);clear hK7 K7 hK5 K5;refine W.region (za _ _) (by rfl) ?_;conv => whnf
   refine ⟨⟨rfl, by decide, fun x hx => by simp at hx; subst hx; exact ⟨rfl, rfl⟩⟩, ?_⟩;conv => whnf
   intro b_6 hs_6 hh_6 hf_6;try dsimp only at hh_6 hf_6
   conv => whnf
   refine ⟨by omega, ?_⟩;conv => whnf
   refine ⟨fun j => .rf (if j = i then b' else bs j) (pwF F j).l.length, fun j hj => ?_, fun j hj => ?_, ?_⟩
   ·show V.rf (if j = i then b' else bs j) _ = V.rf (bs j) _
    rw [if_neg (by omega)]
   ·obtain rfl : j = 0 := by omega
    show V.rf (if i + 0 = i then b' else bs (i + 0)) _ = V.rf b' _
    rw [Nat.add_zero, if_pos rfl]
   intro b_7 hs_7 hh_7 hf_7;try dsimp only at hh_7 hf_7
   conv => whnf
   refine hK8 _ ?_;clear hK8 K8;refine W.region (za _ _) (by rfl) ?_;conv => whnf
   refine ⟨oo, ?_⟩;conv => whnf
   refine ⟨_, _, ⟨i + 1, b_7, fun j => if j = i then b' else bs j, kW tb b' (pwF F i).l, by omega, fun j hj => ?_, fun j j' hj hj' hne' => ?_, rfl, rfl⟩, by omega, by dsimp only; omega, ?_⟩
   ·show kW tb b' _ (if j = i then b' else bs j) = _
    by_cases h : j = i
    ·subst h; rw [if_pos rfl]; exact yI _ _ hne
    ·rw [if_neg h];have h1 := htb j (by omega);exact (xK _ _ (.inr (hb' _ (by rw [h1]; exact Option.some_ne_none _)))).trans h1
   ·show (if j = i then b' else bs j) ≠ if j' = i then b' else bs j'
    have hb2 : ∀ a, a < i -> bs a ≠ b' := fun a ha => hb' _ (by rw [htb a ha]; exact Option.some_ne_none _)
    by_cases h : j = i
    ·rw [if_pos h, if_neg (by omega)]; exact (hb2 j' (by omega)).symm
    ·rw [if_neg h]
     by_cases h' : j' = i
     ·rw [if_pos h']; exact hb2 j (by omega)
     ·rw [if_neg h']; exact hds j j' (by omega) (by omega) hne'
   ·exact cvr
 ·obtain rfl : i = F.length := by omega
  refine W.exit (hK1 _ ?_);clear hK7 K7 hK1 K1;refine W.sw (c' := cxt [] [0, 1, 4, 5, 7, 8, 11, 12, 13, 14, 19, 20, 21, 1000000]) ?_;refine W.rs (za _ _) (by rfl) fun K hK => ?_;conv => whnf
  refine hK _ ?_;clear hK K;refine W.ret ?_;conv => whnf
  exact ⟨.v (.vals none 1 F.length fun j => .rf (bs j) (pwF F j).l.length), ⟨rfl, rfl, rfl, fun _ _ => rfl⟩, ⟨trivial, fun _ _ => trivial⟩, bs, rfl, htb, hds⟩
end


theorem zfQ (p k : Int) (g : Option Nat) (xs : List Int) (hl : xs.length <= 1000000000) (h1 : ¬ xz p k xs) : FnV 251 [vR p k, .ints g xs] (.int .i64 1) := by
 refine zf (zb [0, 1, 2, 4, 5, 10, 14]) Tryz.func251 rfl (by decide) Tryz.ntmps251 (Nat.le_of_ble_eq_true rfl) fun base => ?_;refine wrs fun K hK => ?_;conv => whnf
 refine ⟨rfl, ?_⟩;conv => whnf
 intro b_2 hs_2 hh_2 hf_2;try dsimp only at hh_2 hf_2
 conv => whnf
 refine hK _ ?_;clear hK K;refine W.seqK fun K1 hK1 => W.block ?_;refine wrs fun K hK => ?_;conv => whnf
 refine zd rfl ((xk p k g xs hl).fa (zu h1)) fun hs' hhs => ?_;try dsimp only at hhs
 conv => whnf
 refine hK _ (W.condT rfl ?_);clear hK K;refine wrs fun K hK => ?_;conv => whnf
 refine hK _ ?_;clear hK K;refine W.ret ?_;conv => whnf
 exact ⟨.v (.int .i64 1), ⟨rfl, rfl⟩, trivial, rfl⟩
theorem zfR (p k : Int) (g : Option Nat) (xs : List Int) (hl : xs.length <= 1000000000) (h1 : xz p k xs) (h2 : ¬ xL xs) : FnV 251 [vR p k, .ints g xs] (.int .i64 5) := by
 refine zf (zb [0, 1, 2, 4, 5, 10, 14]) Tryz.func251 rfl (by decide) Tryz.ntmps251 (Nat.le_of_ble_eq_true rfl) fun base => ?_;refine wrs fun K hK => ?_;conv => whnf
 refine ⟨rfl, ?_⟩;conv => whnf
 intro b_2 hs_2 hh_2 hf_2;try dsimp only at hh_2 hf_2
 conv => whnf
 refine hK _ ?_;clear hK K;refine W.seqK fun K1 hK1 => W.block ?_;refine wrs fun K hK => ?_;conv => whnf
 refine zd rfl ((xk p k g xs hl).tr (zx h1)) fun hs' hhs => ?_;try dsimp only at hhs
 conv => whnf
 refine hK _ (W.condF rfl ?_);clear hK K;refine wrs fun K hK => ?_;conv => whnf
 refine zd rfl ((zbk g xs hl).fa (zu h2)) fun hs' hhs => ?_;try dsimp only at hhs
 conv => whnf
 refine hK _ (W.condT rfl ?_);clear hK K;refine wrs fun K hK => ?_;conv => whnf
 refine hK _ ?_;clear hK K;refine W.ret ?_;conv => whnf
 exact ⟨.v (.int .i64 5), ⟨rfl, rfl⟩, trivial, rfl⟩
theorem zfS (p k : Int) (g : Option Nat) (xs : List Int) (hl : xs.length <= 1000000000) (h1 : xz p k xs) (h2 : xL xs) (h3 : xs.length < 2) : FnV 251 [vR p k, .ints g xs] (.int .i64 4) := by
 refine zf (zb [0, 1, 2, 4, 5, 10, 14]) Tryz.func251 rfl (by decide) Tryz.ntmps251 (Nat.le_of_ble_eq_true rfl) fun base => ?_;refine wrs fun K hK => ?_;conv => whnf
 refine ⟨rfl, ?_⟩;conv => whnf
 intro b_2 hs_2 hh_2 hf_2;try dsimp only at hh_2 hf_2
 conv => whnf
 refine hK _ ?_;clear hK K;refine W.seqK fun K1 hK1 => W.block ?_;refine wrs fun K hK => ?_;conv => whnf
 refine zd rfl ((xk p k g xs hl).tr (zx h1)) fun hs' hhs => ?_;try dsimp only at hhs
 conv => whnf
 refine hK _ (W.condF rfl ?_);clear hK K;refine wrs fun K hK => ?_;conv => whnf
 refine zd rfl ((zbk g xs hl).tr (zx h2)) fun hs' hhs => ?_;try dsimp only at hhs
 conv => whnf
 refine hK _ (W.condF rfl ?_);clear hK K;refine wrs fun K hK => ?_;conv => whnf
 refine zd rfl (zcx g xs hl) fun hs' hhs => ?_;try dsimp only at hhs
 conv => whnf
 refine hK _ (W.cond ⟨fun _ => ?_, fun hcc => absurd (by omega) (of_decide_eq_false hcc)⟩);clear hK K;refine wrs fun K hK => ?_;conv => whnf
 refine hK _ ?_;clear hK K;refine W.ret ?_;conv => whnf
 exact ⟨.v (.int .i64 4), ⟨rfl, rfl⟩, trivial, rfl⟩
theorem zcA (p k : Int) (g : Option Nat) (xs : List Int) (hl : xs.length <= 1000000000) (h1 : xz p k xs) (h2 : xL xs) (h3 : 2 <= xs.length) : FnV 251 [vR p k, .ints g xs] (.int .i64 0) := by
 refine zf (zb [0, 1, 2, 4, 5, 10, 14]) Tryz.func251 rfl (by decide) Tryz.ntmps251 (Nat.le_of_ble_eq_true rfl) fun base => ?_;refine wrs fun K hK => ?_;conv => whnf
 refine ⟨rfl, ?_⟩;conv => whnf
 intro b_2 hs_2 hh_2 hf_2;try dsimp only at hh_2 hf_2
 conv => whnf
 refine hK _ ?_;clear hK K;refine W.seqK fun K1 hK1 => W.block ?_;refine wrs fun K hK => ?_;conv => whnf
 refine zd rfl ((xk p k g xs hl).tr (zx h1)) fun hs' hhs => ?_;try dsimp only at hhs
 conv => whnf
 refine hK _ (W.condF rfl ?_);clear hK K;refine wrs fun K hK => ?_;conv => whnf
 refine zd rfl ((zbk g xs hl).tr (zx h2)) fun hs' hhs => ?_;try dsimp only at hhs
 conv => whnf
 refine hK _ (W.condF rfl ?_);clear hK K;refine wrs fun K hK => ?_;conv => whnf
 refine zd rfl (zcx g xs hl) fun hs' hhs => ?_;try dsimp only at hhs
 conv => whnf
 refine hK _ (W.cond ⟨fun hcc => absurd (of_decide_eq_true hcc) (by omega), fun _ => W.skip (hK1 _ ?_)⟩);clear hK K hK1 K1;refine wrs fun K hK => ?_;conv => whnf
 refine hK _ ?_;clear hK K;refine W.ret ?_;conv => whnf
 exact ⟨.v (.int .i64 0), ⟨rfl, rfl⟩, trivial, rfl⟩

structure LfP (p k M : Int) [SP p] [Pos M] (f : Poly M) (n : Nat) : Prop where
 rn : xz p k f.l
 mon : xL f.l
 hm : p ^ k.toNat = M
 mn : Mn f n
 n1 : 1 <= n
 n8 : n <= 8
 pm : p ∣ M
 ple : p <= M
theorem zj3 {p k : Int} {l : List Int} (hr : xz p k l) (hmon : xL l) (h2 : 2 <= l.length) : ∃ hp : p ∈ yx, letI := jC hp; ∃ (M : Int) (_ : Pos M) (f : Poly M) (n : Nat), f.l = l ∧ LfP p k M f n := by
 obtain ⟨s1, s2, s3, s4, s5, s6⟩ := hr.1.small;have hp : p ∈ yx := of_decide_eq_true hr.1.1;refine ⟨hp, ?_⟩;letI := jC hp;obtain ⟨M, hm⟩ : ∃ M, p ^ k.toNat = M := ⟨_, rfl⟩
 rw [hm] at s5 s6;letI : Pos M := ⟨by omega⟩
 obtain ⟨f, rfl⟩ := zno hm hr;have hfl : f.l.length = dg f := rfl;have h9 := hr.2.1;have hpk : ∃ j, k.toNat = j + 1 := ⟨k.toNat - 1, by omega⟩
 obtain ⟨j, hj⟩ := hpk;refine ⟨M, ‹_›, f, dg f - 1, rfl, hr, hmon, hm, ⟨by omega, hmon.2⟩, by omega, by omega, ⟨p ^ j, by rw [<- hm, hj, Int.pow_succ, Int.mul_comm]⟩, ?_⟩;have := vZ (p := p) (by omega) (a := 1) (b := k.toNat) (by omega);rw [Int.pow_one, hm] at this; exact this

section
variable {p k M : Int} [SP p] [Pos M] {f : Poly M} {n : Nat}
theorem LfP.pair (h : LfP p k M f n) {F : List (Poly p × Nat)} {y : Poly p × Nat} {g0 h0 : Poly p} (hF : Fst (im p f) (y :: F) g0 h0) : ∃ (a b : Nat) (S T : Poly p), Pair f a b g0 h0 S T ∧ a + b <= 8 := by
 have h1 := (zmi h.pm h.mn).1;have h2 := hF.dg;have h3 := hF.g2;have h4 := hF.h2;have h8 := h.n8;obtain ⟨S, s1, s2⟩ := zeo hF.cop h3;obtain ⟨T, t1, t2⟩ := zeo hF.cop.symm h4;refine ⟨dg g0 - 1, dg h0 - 1, S, T, ⟨h.pm, h.ple, ?_, zmj hF.mg, zmj hF.mh, by omega, by omega, s1, s2, t1, t2⟩, by omega⟩;have e : dg g0 - 1 + (dg h0 - 1) = n := by omega
 rw [e]; exact h.mn

theorem LfP.img (h : LfP p k M f n) : dg (im p f) = n + 1 ∧ Mon (im p f) ∧ im p f ≠ 0 ∧ nrm p f.l = (im p f).l ∧ dg f = n + 1 := by
 have h1 := zmi h.pm h.mn;have h2 : Mn (im p f) n := h1;exact ⟨h1.1, zmk h2, (zmk h2).1, rfl, h.mn.1⟩
end


theorem zmB (p k : Int) (g : Option Nat) (l : List Int) (hl : l.length <= 1000000000) (h1 : ¬ xz p k l) : FnV 108 [vR p k, .ints g l] (.tup [.ints none [], .ints none [], .int .i64 1]) := by
 refine zf (zb [0, 1, 2, 4, 5, 6, 7, 8, 9, 10, 12, 13, 17, 20, 23, 34]) Tryz.func108 rfl (by decide) Tryz.ntmps108 (Nat.le_of_ble_eq_true rfl) fun base => ?_;refine wrs fun K hK => ?_;conv => whnf
 refine ⟨rfl, ?_⟩;conv => whnf
 intro b_2 hs_2 hh_2 hf_2;try dsimp only at hh_2 hf_2
 conv => whnf
 refine hK _ ?_;clear hK K;refine W.seqK fun K1 hK1 => ?_;refine wrs fun K hK => ?_;conv => whnf
 refine zd rfl ((ym p k g l hl).fa (zu h1)) fun hs' hhs => ?_;try dsimp only at hhs
 conv => whnf
 refine hK _ (W.condT rfl ?_);clear hK K;refine wrs fun K hK => ?_;conv => whnf
 refine hK _ ?_;clear hK K;refine W.ret ?_;conv => whnf
 exact ⟨.v (.ints none []), rfl, trivial, .v (.ints none []), rfl, trivial, .v (.int .i64 1), ⟨rfl, rfl⟩, trivial, rfl⟩
theorem zmC (p k : Int) (g : Option Nat) (l : List Int) (hl : l.length <= 1000000000) (h1 : xz p k l) (h2 : ¬ xL l) : FnV 108 [vR p k, .ints g l] (.tup [.ints none [], .ints none [], .int .i64 5]) := by
 refine zf (zb [0, 1, 2, 4, 5, 6, 7, 8, 9, 10, 12, 13, 17, 20, 23, 34]) Tryz.func108 rfl (by decide) Tryz.ntmps108 (Nat.le_of_ble_eq_true rfl) fun base => ?_;refine wrs fun K hK => ?_;conv => whnf
 refine ⟨rfl, ?_⟩;conv => whnf
 intro b_2 hs_2 hh_2 hf_2;try dsimp only at hh_2 hf_2
 conv => whnf
 refine hK _ ?_;clear hK K;refine W.seqK fun K1 hK1 => ?_;refine wrs fun K hK => ?_;conv => whnf
 refine zd rfl ((ym p k g l hl).tr (zx h1)) fun hs' hhs => ?_;try dsimp only at hhs
 conv => whnf
 refine hK _ (W.condF rfl (W.skip (hK1 _ ?_)));clear hK K hK1 K1;refine W.seqK fun K1 hK1 => ?_;refine wrs fun K hK => ?_;conv => whnf
 refine zd rfl ((xj g l hl).fa (zu h2)) fun hs' hhs => ?_;try dsimp only at hhs
 conv => whnf
 refine hK _ (W.condT rfl ?_);clear hK K;refine wrs fun K hK => ?_;conv => whnf
 refine hK _ ?_;clear hK K;refine W.ret ?_;conv => whnf
 exact ⟨.v (.ints none []), rfl, trivial, .v (.ints none []), rfl, trivial, .v (.int .i64 5), ⟨rfl, rfl⟩, trivial, rfl⟩
theorem zmD (p k : Int) (g : Option Nat) (l : List Int) (hl : l.length <= 1000000000) (h1 : xz p k l) (h2 : xL l) (h3 : l.length < 2) : FnV 108 [vR p k, .ints g l] (.tup [.ints none [], .ints none [], .int .i64 4]) := by
 refine zf (zb [0, 1, 2, 4, 5, 6, 7, 8, 9, 10, 12, 13, 17, 20, 23, 34]) Tryz.func108 rfl (by decide) Tryz.ntmps108 (Nat.le_of_ble_eq_true rfl) fun base => ?_;refine wrs fun K hK => ?_;conv => whnf
 refine ⟨rfl, ?_⟩;conv => whnf
 intro b_2 hs_2 hh_2 hf_2;try dsimp only at hh_2 hf_2
 conv => whnf
 refine hK _ ?_;clear hK K;refine W.seqK fun K1 hK1 => ?_;refine wrs fun K hK => ?_;conv => whnf
 refine zd rfl ((ym p k g l hl).tr (zx h1)) fun hs' hhs => ?_;try dsimp only at hhs
 conv => whnf
 refine hK _ (W.condF rfl (W.skip (hK1 _ ?_)));clear hK K hK1 K1;refine W.seqK fun K1 hK1 => ?_;refine wrs fun K hK => ?_;conv => whnf
 refine zd rfl ((xj g l hl).tr (zx h2)) fun hs' hhs => ?_;try dsimp only at hhs
 conv => whnf
 refine hK _ (W.condF rfl (W.skip (hK1 _ ?_)));clear hK K hK1 K1;refine W.seqK fun K1 hK1 => ?_;refine wrs fun K hK => ?_;conv => whnf
 refine hK _ (W.cond ⟨fun _ => ?_, fun hcc => absurd (by omega) (of_decide_eq_false hcc)⟩);clear hK K;refine wrs fun K hK => ?_;conv => whnf
 refine hK _ ?_;clear hK K;refine W.ret ?_;conv => whnf
 exact ⟨.v (.ints none []), rfl, trivial, .v (.ints none []), rfl, trivial, .v (.int .i64 4), ⟨rfl, rfl⟩, trivial, rfl⟩

section
variable {p k M : Int} [SP p] [Pos M] {f : Poly M} {n : Nat}
theorem zeH (h : LfP p k M f n) (g : Option Nat) {x : Poly p × Nat} (hF : zJ (im p f) [x]) : FnV 108 [vR p k, .ints g f.l] (.tup [.ints none [], .ints none [], .int .i64 4]) := by
 obtain ⟨s1, s2, s3, s4, s5, s6⟩ := h.rn.1.small;obtain ⟨i1, i2, hf0, eF, i5⟩ := h.img;have hm := h.hm;have m9 : M <= 1000000000 := by omega
 have n8 := h.n8;have n1 := h.n1;have hfl : f.l.length = dg f := rfl;have hl : f.l.length <= 1000000000 := by omega
 refine zf (zb [0, 1, 2, 4, 5, 6, 7, 8, 9, 10, 12, 13, 17, 20, 23, 34]) Tryz.func108 rfl (by decide) Tryz.ntmps108 (Nat.le_of_ble_eq_true rfl) fun base => ?_;refine wrs fun K hK => ?_;conv => whnf
 refine ⟨rfl, ?_⟩;conv => whnf
 intro b_2 hs_2 hh_2 hf_2;try dsimp only at hh_2 hf_2
 conv => whnf
 refine hK _ ?_;clear hK K;refine W.seqK fun K1 hK1 => ?_;refine wrs fun K hK => ?_;conv => whnf
 refine zd rfl ((ym p k g f.l hl).tr (zx h.rn)) fun hs' hhs => ?_;try dsimp only at hhs
 conv => whnf
 refine hK _ (W.condF rfl (W.skip (hK1 _ ?_)));clear hK K hK1 K1;refine W.seqK fun K1 hK1 => ?_;refine wrs fun K hK => ?_;conv => whnf
 refine zd rfl ((xj g f.l hl).tr (zx h.mon)) fun hs' hhs => ?_;try dsimp only at hhs
 conv => whnf
 refine hK _ (W.condF rfl (W.skip (hK1 _ ?_)));clear hK K hK1 K1;refine W.seqK fun K1 hK1 => ?_;refine wrs fun K hK => ?_;conv => whnf
 refine hK _ (W.cond ⟨fun hcc => absurd (of_decide_eq_true hcc) (by omega), fun _ => W.skip (hK1 _ ?_)⟩);clear hK K hK1 K1;refine wrs fun K hK => ?_;conv => whnf
 refine zh rfl (xr p (by omega) (by omega) g f.l ((yn m9 f).le (by omega)) (by omega)) fun hs_7 b_7 hh_7 hf_7 => ?_;try dsimp only at hh_7 hf_7
 conv => whnf
 rw [eF];refine hK _ ?_;clear hK K;refine wrs fun K hK => ?_;conv => whnf
 refine yR rfl (zcv p (some b_7) (im p f) (by omega) hf0) ?_;rintro lo hi hi' z hl1 hl2 hl3 ⟨F', hF', rfl⟩ _;obtain rfl := hF.unique hF';try dsimp only at hl1 hl2
 conv => whnf
 refine hK _ ?_;clear hK K;refine W.seqK fun K1 hK1 => ?_;refine wrs fun K hK => ?_;conv => whnf
 refine hK _ (W.cond ⟨fun _ => ?_, fun hcc => absurd (by show ((1 : Nat) : Int) < 2; decide) (of_decide_eq_false hcc)⟩);clear hK K;refine wrs fun K hK => ?_;conv => whnf
 refine hK _ ?_;clear hK K;refine W.ret ?_;conv => whnf
 exact ⟨.v (.ints none []), rfl, trivial, .v (.ints none []), rfl, trivial, .v (.int .i64 4), ⟨rfl, rfl⟩, trivial, rfl⟩

theorem zh9 (h : LfP p k M f n) (g : Option Nat) {x y : Poly p × Nat} {F : List (Poly p × Nat)} (hF : zJ (im p f) (x :: y :: F)) {h0 : Poly p} (hf : Fst (im p f) (y :: F) (x.1 ^ x.2) h0) {a b : Nat} {S T : Poly p} (hP : Pair f a b (x.1 ^ x.2) h0 S T) (h9 : a + b <= 8)
  {G H : Poly M} (hL : LAt f a b (x.1 ^ x.2) h0 S T (k.toNat - 1) G H) : FnV 108 [vR p k, .ints g f.l] (.tup [.ints none G.l, .ints none H.l, .int .i64 0]) := by
 obtain ⟨s1, s2, s3, s4, s5, s6⟩ := h.rn.1.small;obtain ⟨i1, i2, hf0, eF, i5⟩ := h.img;have hm := h.hm;have m9 : M <= 1000000000 := by omega
 have n8 := h.n8;have n1 := h.n1;have hfl : f.l.length = dg f := rfl;have hl : f.l.length <= 1000000000 := by omega
 obtain ⟨_, _, k3, k4, k5⟩ := fac2 hF hf0 (by omega) 0 (by simp);have e0 : (x :: y :: F).getD 0 (0, 0) = x := rfl;rw [e0] at k3 k4 k5;have hg1 := hP.mg.1;refine zf (zb [0, 1, 2, 4, 5, 6, 7, 8, 9, 10, 12, 13, 17, 20, 23, 34]) Tryz.func108 rfl (by decide) Tryz.ntmps108 (Nat.le_of_ble_eq_true rfl) fun base => ?_;refine wrs fun K hK => ?_;conv => whnf
 refine ⟨rfl, ?_⟩;conv => whnf
 intro b_2 hs_2 hh_2 hf_2;try dsimp only at hh_2 hf_2
 conv => whnf
 refine hK _ ?_;clear hK K;refine W.seqK fun K1 hK1 => ?_;refine wrs fun K hK => ?_;conv => whnf
 refine zd rfl ((ym p k g f.l hl).tr (zx h.rn)) fun hs' hhs => ?_;try dsimp only at hhs
 conv => whnf
 refine hK _ (W.condF rfl (W.skip (hK1 _ ?_)));clear hK K hK1 K1;refine W.seqK fun K1 hK1 => ?_;refine wrs fun K hK => ?_;conv => whnf
 refine zd rfl ((xj g f.l hl).tr (zx h.mon)) fun hs' hhs => ?_;try dsimp only at hhs
 conv => whnf
 refine hK _ (W.condF rfl (W.skip (hK1 _ ?_)));clear hK K hK1 K1;refine W.seqK fun K1 hK1 => ?_;refine wrs fun K hK => ?_;conv => whnf
 refine hK _ (W.cond ⟨fun hcc => absurd (of_decide_eq_true hcc) (by omega), fun _ => W.skip (hK1 _ ?_)⟩);clear hK K hK1 K1;refine wrs fun K hK => ?_;conv => whnf
 refine zh rfl (xr p (by omega) (by omega) g f.l ((yn m9 f).le (by omega)) (by omega)) fun hs_7 b_7 hh_7 hf_7 => ?_;try dsimp only at hh_7 hf_7
 conv => whnf
 rw [eF];refine hK _ ?_;clear hK K;refine wrs fun K hK => ?_;conv => whnf
 refine yR rfl (zcv p (some b_7) (im p f) (by omega) hf0) ?_;rintro lo hi hi' z hl1 hl2 hl3 ⟨F', hF', rfl⟩ _;obtain rfl := hF.unique hF';try dsimp only at hl1 hl2
 conv => whnf
 refine hK _ ?_;clear hK K;refine W.seqK fun K1 hK1 => ?_;refine wrs fun K hK => ?_;conv => whnf
 have hn2 : ¬ (((x :: y :: F).length : Nat) : Int) < 2 := by simp only [List.length_cons]; omega
 refine hK _ (W.cond ⟨fun hcc => absurd (of_decide_eq_true hcc) hn2, fun _ => W.skip (hK1 _ ?_)⟩);clear hK K hK1 K1;refine W.rd (zb _) follows (by rfl) fun K hK => ?_;conv => whnf
 refine ⟨⟨by decide, by simp only [List.length_cons]; omega⟩, ?_⟩;conv => whnf
 refine ⟨_, cxF (zh8 x k5 k3 k4), ?_⟩;conv => whnf
 refine hK _ ?_;clear hK K;refine wrs fun K hK => ?_;conv => whnf
 refine zd rfl (xt p (some b_7) none (im p f) (x.1 ^ x.2) (by omega) (by omega) hf.mg.1) fun hs' hhs => ?_;try dsimp only at hhs
 conv => whnf
 rw [hf.quo];refine hK _ ?_;clear hK K;refine wrs fun K hK => ?_;conv => whnf
 refine zd rfl (zjb h.rn.1 hm hP h9 hL g none none) fun hs' hhs => ?_;try dsimp only at hhs
 conv => whnf
 refine hK _ ?_;clear hK K;refine wrs fun K hK => ?_;conv => whnf
 refine hK _ ?_;clear hK K;refine W.ret ?_;conv => whnf
 exact ⟨.v (.ints none G.l), ⟨rfl, rfl⟩, trivial, .v (.ints none H.l), ⟨rfl, rfl⟩, trivial, .v (.int .i64 0), ⟨rfl, rfl⟩, trivial, rfl⟩
end

def RT3 (r0 r1 : List Int) (r2 : Int) : kX := fun _ _ x tb => ∃ rb0 rb1 : Nat, x = .tup [.rf rb0 r0.length, .rf rb1 r1.length, .int .i64 r2] ∧ (r0 ≠ [] -> tb rb0 = some r0) ∧ (r1 ≠ [] -> tb rb1 = some r1) ∧ (r0 ≠ [] -> r1 ≠ [] -> rb0 ≠ rb1)

theorem zeI (p k : Int) (g : Option Nat) (l : List Int) (c : Int) (hc : c ≠ 0) (h : FnV 251 [vR p k, .ints g l] (.int .i64 c)) : FnT Tryz.prog 107 [vR p k, .ints g l] (RT3 [] [] c) := by
 refine za7 (za [] [0, 1, 2, 4, 5, 6, 7, 8, 9, 11, 12, 17, 28, 1000000]) Tryz.func107 rfl (by decide) Tryz.ntmps107 (Nat.le_of_ble_eq_true rfl) (fun base => ?_) (Nat.le_of_ble_eq_true rfl);refine W.sw (c' := cx [0, 1, 2, 4, 5, 6, 7, 8, 9, 11, 12, 17, 28, 1000000]) ?_;refine wrs fun K hK => ?_;conv => whnf
 refine ⟨rfl, ?_⟩;conv => whnf
 intro b_2 hs_2 hh_2 hf_2;try dsimp only at hh_2 hf_2
 conv => whnf
 refine hK _ ?_;clear hK K;refine W.seqK fun K1 hK1 => ?_;refine wrs fun K hK => ?_;conv => whnf
 refine zd rfl (h) fun hs' hhs => ?_;try dsimp only at hhs
 conv => whnf
 refine hK _ ?_;clear hK K;refine wrs fun K hK => ?_;conv => whnf
 refine hK _ (W.cond ⟨fun _ => ?_, fun hcc => absurd hc (of_decide_eq_false hcc)⟩);clear hK K;refine wrs fun K hK => ?_;conv => whnf
 refine hK _ ?_;clear hK K;refine W.ret ?_;conv => whnf
 exact ⟨.v (.rf 0 0), rfl, trivial, .v (.rf 0 0), rfl, trivial, .v (.int .i64 c), ⟨rfl, rfl⟩, trivial, 0, 0, rfl, fun h => absurd rfl h, fun h => absurd rfl h, fun h => absurd rfl h⟩

section
variable {p k M : Int} [SP p] [Pos M] {f : Poly M} {n : Nat}
theorem zjd (h : LfP p k M f n) (g : Option Nat) {x : Poly p × Nat} (hF : zJ (im p f) [x]) : FnT Tryz.prog 107 [vR p k, .ints g f.l] (RT3 [] [] 4) := by
 obtain ⟨s1, s2, s3, s4, s5, s6⟩ := h.rn.1.small;obtain ⟨i1, i2, hf0, eF, i5⟩ := h.img;have hm := h.hm;have m9 : M <= 1000000000 := by omega
 have n8 := h.n8;have n1 := h.n1;have hfl : f.l.length = dg f := rfl;have hl : f.l.length <= 1000000000 := by omega
 obtain ⟨F0, hF0⟩ : ∃ F0, F0 = [x] := ⟨_, rfl⟩
 rw [<- hF0] at hF;have hFl : F0.length = 1 := by rw [hF0]; rfl
 refine za7 (za [] [0, 1, 2, 4, 5, 6, 7, 8, 9, 11, 12, 17, 28, 1000000]) Tryz.func107 rfl (by decide) Tryz.ntmps107 (Nat.le_of_ble_eq_true rfl) (fun base => ?_) (Nat.le_of_ble_eq_true rfl);refine W.sw (c' := cx [0, 1, 2, 4, 5, 6, 7, 8, 9, 11, 12, 17, 28, 1000000]) ?_;refine wrs fun K hK => ?_;conv => whnf
 refine ⟨rfl, ?_⟩;conv => whnf
 intro b_2 hs_2 hh_2 hf_2;try dsimp only at hh_2 hf_2
 conv => whnf
 refine hK _ ?_;clear hK K;refine W.seqK fun K1 hK1 => ?_;refine wrs fun K hK => ?_;conv => whnf
 refine zd rfl (zcA p k g f.l hl h.rn h.mon (by omega)) fun hs' hhs => ?_;try dsimp only at hhs
 conv => whnf
 refine hK _ ?_;clear hK K;refine wrs fun K hK => ?_;conv => whnf
 refine hK _ (W.cond ⟨fun hcc => absurd rfl (of_decide_eq_true hcc), fun _ => W.skip (hK1 _ ?_)⟩);clear hK K hK1 K1;refine W.sw (c' := cxt [253] [0, 1, 2, 4, 5, 6, 7, 8, 9, 11, 12, 17, 28, 1000000]) ?_;refine W.rdS 6 (za _ _) follows (by rfl) fun K hK => ?_;conv => whnf
 refine ⟨_, zi1 ((zq p (by omega) (by omega) g f.l ((yn m9 f).le (by omega)) (by omega)).toV), ?_⟩;conv => whnf
 rw [eF];refine ⟨_, cxT (zU none (im p f) F0 hF hf0 (by omega)), fun lo_y hi_y hs_y x_y tn_y tb_y hl1_y hl2_y _ hp_y hf_y hn_y ho_y => ?_⟩;try dsimp only at hl1_y hl2_y
 obtain ⟨bs, rfl, hbs1, hbs2⟩ := hp_y;conv => whnf
 refine hK _ ?_;clear hK K;refine W.seqK fun K1 hK1 => ?_;refine W.rs (za _ _) (by rfl) fun K hK => ?_;conv => whnf
 rw [hFl];refine hK _ (W.cond ⟨fun _ => ?_, fun hcc => absurd rfl (of_decide_eq_false hcc)⟩);clear hK K;refine W.rs (za _ _) (by rfl) fun K hK => ?_;conv => whnf
 refine hK _ ?_;clear hK K;refine W.ret ?_;conv => whnf
 exact ⟨.v (.rf 0 0), rfl, trivial, .v (.rf 0 0), rfl, trivial, .v (.int .i64 4), ⟨rfl, rfl⟩, trivial, 0, 0, rfl, fun h => absurd rfl h, fun h => absurd rfl h, fun h => absurd rfl h⟩

theorem zmE (h : LfP p k M f n) (g : Option Nat) {x y : Poly p × Nat} {F : List (Poly p × Nat)} (hF1 : zJ (im p f) (x :: y :: F)) {h0 : Poly p} (hf : Fst (im p f) (y :: F) (x.1 ^ x.2) h0) {a b : Nat} {S T : Poly p} (hP : Pair f a b (x.1 ^ x.2) h0 S T) (h9 : a + b <= 8)
  {G H : Poly M} (hL : LAt f a b (x.1 ^ x.2) h0 S T (k.toNat - 1) G H) : FnT Tryz.prog 107 [vR p k, .ints g f.l] (RT3 G.l H.l 0) := by
 obtain ⟨s1, s2, s3, s4, s5, s6⟩ := h.rn.1.small;obtain ⟨i1, i2, hf0, eF, i5⟩ := h.img;have hm := h.hm;have m9 : M <= 1000000000 := by omega
 have n8 := h.n8;have n1 := h.n1;have hfl : f.l.length = dg f := rfl;have hl : f.l.length <= 1000000000 := by omega
 have hg1 := hP.mg.1;have hh1 := hP.mh.1;obtain ⟨F0, hF0⟩ : ∃ F0, F0 = x :: y :: F := ⟨_, rfl⟩
 have hF := hF1;rw [<- hF0] at hF;have hFl : 2 <= F0.length := by rw [hF0]; simp
 have e0 : pwF F0 0 = x.1 ^ x.2 := by rw [hF0]; rfl
 have hQ0 := hf.mg.1;have hQ := hf.quo;generalize x.1 ^ x.2 = Q at hf hP hL hg1 e0 hQ0 hQ;subst e0;have hQn : (pwF F0 0).l ≠ [] := fun e => by have : (pwF F0 0).l.length = dg (pwF F0 0) := rfl; rw [e] at this; simp at this; omega
 have hhn : h0.l ≠ [] := fun e => by have : h0.l.length = dg h0 := rfl; rw [e] at this; simp at this; omega
 refine za7 (za [] [0, 1, 2, 4, 5, 6, 7, 8, 9, 11, 12, 17, 28, 1000000]) Tryz.func107 rfl (by decide) Tryz.ntmps107 (Nat.le_of_ble_eq_true rfl) (fun base => ?_) (Nat.le_of_ble_eq_true rfl);refine W.sw (c' := cx [0, 1, 2, 4, 5, 6, 7, 8, 9, 11, 12, 17, 28, 1000000]) ?_;refine wrs fun K hK => ?_;conv => whnf
 refine ⟨rfl, ?_⟩;conv => whnf
 intro b_2 hs_2 hh_2 hf_2;try dsimp only at hh_2 hf_2
 conv => whnf
 refine hK _ ?_;clear hK K;refine W.seqK fun K1 hK1 => ?_;refine wrs fun K hK => ?_;conv => whnf
 refine zd rfl (zcA p k g f.l hl h.rn h.mon (by omega)) fun hs' hhs => ?_;try dsimp only at hhs
 conv => whnf
 refine hK _ ?_;clear hK K;refine wrs fun K hK => ?_;conv => whnf
 refine hK _ (W.cond ⟨fun hcc => absurd rfl (of_decide_eq_true hcc), fun _ => W.skip (hK1 _ ?_)⟩);clear hK K hK1 K1;refine W.sw (c' := cxt [253] [0, 1, 2, 4, 5, 6, 7, 8, 9, 11, 12, 17, 28, 1000000]) ?_;refine W.rdS 6 (za _ _) follows (by rfl) fun K hK => ?_;conv => whnf
 refine ⟨_, zi1 ((zq p (by omega) (by omega) g f.l ((yn m9 f).le (by omega)) (by omega)).toV), ?_⟩;conv => whnf
 rw [eF];refine ⟨_, cxT (zU none (im p f) F0 hF hf0 (by omega)), fun lo_y hi_y hs_y x_y tn_y tb_y hl1_y hl2_y _ hp_y hf_y hn_y ho_y => ?_⟩;try dsimp only at hl1_y hl2_y
 obtain ⟨bs, rfl, hbs1, hbs2⟩ := hp_y;conv => whnf
 refine hK _ ?_;clear hK K;refine W.seqK fun K1 hK1 => ?_;refine W.rs (za _ _) (by rfl) fun K hK => ?_;conv => whnf
 refine hK _ (W.cond ⟨fun hcc => absurd (of_decide_eq_true hcc) (by omega), fun _ => W.skip (hK1 _ ?_)⟩);clear hK K hK1 K1;have hb0 : tb_y (bs 0) = some (pwF F0 0).l := hn_y _ _ (hbs1 0 (by omega));refine W.tick rfl fun hs9 hhs9 hbb => ?_;dsimp only at hhs9
 refine W.sw (c' := cxt [211] [0, 1, 2, 4, 5, 6, 7, 8, 9, 11, 12, 17, 28, 1000000]) ?_;refine W.rdW 9 6 (za _ _) follows (by rfl) (by kernel_rfl) fun K hK => ?_;conv => whnf
 refine ⟨_, zi1 ((zq p (by omega) (by omega) g f.l ((yn m9 f).le (by omega)) (by omega)).toV), ?_⟩;conv => whnf
 rw [eF];refine ⟨⟨by decide, by omega⟩, ?_⟩;conv => whnf
 intro fu;refine Wany.one (cx := cxt [211] []) (za [211] []) 9 (by rfl) (by kernel_rfl) (by rfl) (by rfl) ?_;conv => whnf
 refine ⟨(pwF F0 0).l, ⟨rfl, fun _ => hb0⟩, ?_⟩;conv => whnf
 refine ⟨_, cxT (zeC p none (some (bs 0)) (im p f) (pwF F0 0) (by omega) (by omega) hQ0), fun lo_z hi_z hs_z x_z tn_z tb_z hl1_z hl2_z _ hp_z hf_z hn_z ho_z => ?_⟩;try dsimp only at hl1_z hl2_z
 obtain ⟨bq, br, rfl, hq0, hq1, hq2⟩ := hp_z;rw [hQ] at hq0 hq2 ⊢;have kq := hf_z bq (by rw [hq0 hhn]; exact Option.some_ne_none _);have k0 := hbb (bs 0) (by rw [hb0]; exact Option.some_ne_none _);conv => whnf
 refine Wany.take (cx := cxt [211] []) (za [211] []) 10 (by rfl) (by rfl) (fun d hd => by injection hd with hd; subst hd; decide) (by kernel_rfl) (by kernel_rfl) (by kernel_rfl) (by rfl) ?_;conv => whnf
 refine Wany.take (cx := cxt [211] []) (za [211] []) 11 (by rfl) (by rfl) (fun d hd => by injection hd with hd; subst hd; decide) (by kernel_rfl) (by kernel_rfl) (by kernel_rfl) (by rfl) ?_;conv => whnf
 refine Wany.take (cx := cxt [211] []) (za [211] []) 12 (by rfl) (by rfl) (fun d hd => by injection hd with hd; subst hd; decide) (by kernel_rfl) (by kernel_rfl) (by kernel_rfl) (by rfl) ?_;conv => whnf
 refine Wany.take (cx := cxt [211] []) (za [211] []) 13 (by rfl) (by rfl) (fun d hd => by injection hd with hd; subst hd; decide) (by kernel_rfl) (by kernel_rfl) (by kernel_rfl) (by rfl) ?_;conv => whnf
 refine Wany.take (cx := cxt [211] []) (za [211] []) 14 (by rfl) (by rfl) (fun d hd => by injection hd with hd; subst hd; decide) (by kernel_rfl) (by kernel_rfl) (by kernel_rfl) (by rfl) ?_;conv => whnf
 refine wd1 (hK _ ?_);clear hK K fu;refine W.sw (c' := cxt [] [0, 1, 2, 4, 5, 6, 7, 8, 9, 11, 12, 17, 28, 1000000]) ?_;refine W.rdW 6 6 (za _ _) follows (by rfl) (by kernel_rfl) fun K hK => ?_;conv => whnf
 refine ⟨⟨by decide, by omega⟩, ?_⟩;conv => whnf
 intro fu;refine Wany.one (cx := cxt [] []) (za [] []) 6 (by rfl) (by kernel_rfl) (by rfl) (by rfl) ?_;conv => whnf
 refine ⟨⟨rfl, rfl⟩, ?_⟩;conv => whnf
 refine ⟨rfl, _, zeG h.rn.1 hm hP h9 hL g (bs 0) bq tb_z (ho_z _ _ hb0) (hn_z _ _ (hq0 hhn)) (by omega), ?_⟩;rintro hs5 av x' t' hh5 ⟨rfl, b0, b1, tb', rfl, rfl, ht0, ht1, hne, _⟩ _ _ _;try dsimp only at hh5
 conv => whnf
 refine Wany.take (cx := cxt [] []) (za [] []) 7 (by rfl) (by rfl) (fun d hd => by injection hd with hd; subst hd; decide) (by kernel_rfl) (by kernel_rfl) (by kernel_rfl) (by rfl) ?_;conv => whnf
 refine Wany.take (cx := cxt [] []) (za [] []) 8 (by rfl) (by rfl) (fun d hd => by injection hd with hd; subst hd; decide) (by kernel_rfl) (by kernel_rfl) (by kernel_rfl) (by rfl) ?_;conv => whnf
 refine Wany.take (cx := cxt [] []) (za [] []) 9 (by rfl) (by rfl) (fun d hd => by injection hd with hd; subst hd; decide) (by kernel_rfl) (by kernel_rfl) (by kernel_rfl) (by rfl) ?_;conv => whnf
 refine Wany.take (cx := cxt [] []) (za [] []) 10 (by rfl) (by rfl) (fun d hd => by injection hd with hd; subst hd; decide) (by kernel_rfl) (by kernel_rfl) (by kernel_rfl) (by rfl) ?_;conv => whnf
 refine Wany.take (cx := cxt [] []) (za [] []) 11 (by rfl) (by rfl) (fun d hd => by injection hd with hd; subst hd; decide) (by kernel_rfl) (by kernel_rfl) (by kernel_rfl) (by rfl) ?_;conv => whnf
 refine wd1 (hK _ ?_);clear hK K fu;refine W.rs (za _ _) (by rfl) fun K hK => ?_;conv => whnf
 refine hK _ ?_;clear hK K;refine W.ret ?_;conv => whnf
 exact ⟨.v (.rf b0 G.l.length), rfl, trivial, .v (.rf b1 H.l.length), rfl, trivial, .v (.int .i64 0), ⟨rfl, rfl⟩, trivial, b0, b1, rfl, fun _ => ht0, fun _ => ht1, fun _ _ => hne⟩
end



section
variable {p k M : Int} [SP p] [Pos M]
def LA (p k : Int) [SP p] : List (Poly p × Nat) -> Poly M -> List (List Int) -> Prop
  | [], _, _ => False
  | [_], f, L => L = [f.l]
  | x :: y :: F, f, L => ∃ (a b : Nat) (S T u : Poly p) (G H : Poly M) (L' : List (List Int)), Fst (im p f) (y :: F) (x.1 ^ x.2) u ∧ Pair f a b (x.1 ^ x.2) u S T ∧ a + b <= 8 ∧ LAt f a b (x.1 ^ x.2) u S T (k.toNat - 1) G H ∧
      LfP p k M H b ∧ zJ (im p H) (y :: F) ∧ L = G.l :: L' ∧ LA p k (y :: F) H L'

theorem LA.len : ∀ (F : List (Poly p × Nat)) (f : Poly M) (L : List (List Int)), LA p k F f L -> L.length = F.length
 | [], _, _, h => h.elim
 | [_], f, L, h => by obtain rfl : L = [f.l] := h; rfl
 | x :: y :: F, f, L, h => by
  obtain ⟨a, b, S, T, u, G, H, L', _, _, _, _, _, _, rfl, h⟩ := h;have := LA.len (y :: F) H L' h;simp only [List.length_cons] at *; omega
theorem LfP.of_mn {f : Poly M} {n b : Nat} {H : Poly M} (h : LfP p k M f n) (hm : Mn H b) (b1 : 1 <= b) (b8 : b <= 8) : LfP p k M H b := by
 have h1 := hm.1;have hl : H.l.length = dg H := rfl;obtain ⟨s1, s2, s3, s4, s5, s6⟩ := h.rn.1.small;have e := h.hm;have hmon : xL H.l := ⟨by omega, by rw [hl, h1]; exact hm.2⟩
 refine ⟨⟨h.rn.1, by omega, fun j _ => ?_, .inr ?_⟩, hmon, e, hm, b1, b8, h.pm, h.ple⟩
 ·have := xU H j;rw [e]; omega
 ·rw [hmon.2]; omega
theorem zfT : ∀ (F : List (Poly p × Nat)) (f : Poly M) (n : Nat), LfP p k M f n -> zJ (im p f) F -> F ≠ [] -> ∃ L, LA p k F f L ∧ L.length <= F.length ∧ ∀ j, (L.getD j []).length <= 100
 | [], _, _, _, _, h => absurd rfl h
 | [x], f, n, h, _, _ => ⟨[f.l], rfl, by simp, fun j => by
  have h9 := h.rn.2.1;cases j with
  | zero => show f.l.length <= 100; omega
  | succ j => simp⟩
 | x :: y :: F, f, n, h, hF, _ => by
  obtain ⟨i1, i2, hf0, eF, i5⟩ := h.img;obtain ⟨u, hf⟩ := zep i2 hF;obtain ⟨a, b, S, T, hP, h9⟩ := h.pair hf;obtain ⟨G, H, hL⟩ := zaL hP (k.toNat - 1);have hH := h.of_mn hL.inv.mh hP.b1 (by omega);have hHF : zJ (im p H) (y :: F) := by rw [hL.inv.ih]; exact hf.fac
  obtain ⟨L', h1, h2, h3⟩ := zfT (y :: F) H b hH hHF (by simp);refine ⟨G.l :: L', ⟨a, b, S, T, u, G, H, L', hf, hP, h9, hL, hH, hHF, rfl, h1⟩, by simp only [List.length_cons] at *; omega, fun j => ?_⟩;cases j with
  | zero =>
   show dg G <= 100
   have := hL.inv.mg.1;omega
  | succ j => exact h3 j

def zaV (N : Nat) (bs : Nat -> Nat) (tb : Tab) (L : List (List Int)) (av t' : AV) : Prop := ∃ (cs : Nat -> Nat) (tb' : Tab), av = .v (.vals none 1 L.length fun j => .rf (cs j) (L.getD j []).length) ∧ t' = .tab tb' ∧
 (∀ j, j < L.length -> tb' (cs j) = some (L.getD j [])) ∧ (∀ i j, i < L.length -> j < L.length -> i ≠ j -> cs i ≠ cs j) ∧ (∀ j, j < L.length -> (∃ i, i < N ∧ cs j = bs i) ∨ tb (cs j) = none) ∧ ∀ c xs, tb c = some xs -> tb' c = some xs

theorem zeJ {tb tb' : Tab} (h : ∀ c xs, tb c = some xs -> tb' c = some xs) {c : Nat} (hc : tb' c = none) : tb c = none := by
 cases e : tb c with
 | none => rfl
 | some xs => rw [h c xs e] at hc; cases hc

theorem zaV.cons {N : Nat} {bs cs : Nat -> Nat} {tb tbz tb2 tb3 : Tab} {G : List Int} {L : List (List Int)} {b0 : Nat} (hN : 1 <= N) (k1 : ∀ c xs, tb c = some xs -> tbz c = some xs) (k2 : ∀ c xs, tbz c = some xs -> tb2 c = some xs) (hb0 : b0 = bs 0 ∨ tbz b0 = none) (ht0 : tb2 b0 = some G)
  (hbs : ∀ j, j < N -> tb (bs j) ≠ none) (hds : ∀ i j, i < N -> j < N -> i ≠ j -> bs i ≠ bs j)
  (c1 : ∀ j, j < L.length -> tb3 (cs j) = some (L.getD j [])) (c2 : ∀ i j, i < L.length -> j < L.length -> i ≠ j -> cs i ≠ cs j) (c3 : ∀ j, j < L.length -> (∃ i, i < N - 1 ∧ cs j = bs (1 + i)) ∨ tb2 (cs j) = none) (c4 : ∀ c xs, tb2 c = some xs -> tb3 c = some xs) :
  zaV N bs tb (G :: L) (.v (.vals none 1 (G :: L).length fun j => .rf (if j = 0 then b0 else cs (j - 1)) ((G :: L).getD j []).length)) (.tab tb3) := by
 have hb : ∀ j, j < L.length -> b0 ≠ cs j := fun j hj e => by
  rcases c3 j hj with ⟨i, hi, h⟩ | h
  ·rcases hb0 with h0 | h0
   ·exact hds 0 (1 + i) (by omega) (by omega) (by omega) (by rw [<- h0, e, h])
   ·rw [e, h] at h0;cases h5 : tb (bs (1 + i)) with
    | none => exact hbs (1 + i) (by omega) h5
    | some xs => rw [k1 _ _ h5] at h0; cases h0
  ·rw [<- e, ht0] at h; cases h
 refine ⟨_, tb3, rfl, rfl, fun j hj => ?_, fun i j hi hj hij => ?_, fun j hj => ?_, fun c xs h => c4 _ _ (k2 _ _ (k1 _ _ h))⟩
 ·cases j with
  | zero => exact c4 _ _ ht0
  | succ j => exact c1 j (by simpa using hj)
 ·cases i with
  | zero =>
   cases j with
   | zero => exact absurd rfl hij
   | succ j => exact hb j (by simpa using hj)
  | succ i =>
   cases j with
   | zero => exact fun e => hb i (by simpa using hi) e.symm
   | succ j => exact c2 i j (by simpa using hi) (by simpa using hj) (by omega)
 ·cases j with
  | zero =>
   rcases hb0 with h0 | h0
   ·exact .inl ⟨0, by omega, h0⟩
   ·exact .inr (zeJ k1 h0)
  | succ j =>
   rcases c3 j (by simpa using hj) with ⟨i, hi, h⟩ | h
   ·exact .inl ⟨1 + i, by omega, h⟩
   ·exact .inr (zeJ k1 (zeJ k2 h))

theorem zfU (hr : y9 p k) (hm : p ^ k.toNat = M) : ∀ (F : List (Poly p × Nat)) (f : Poly M) (n : Nat) (L : List (List Int)), LfP p k M f n -> zJ (im p f) F -> LA p k F f L -> ∀ (bf : Nat) (bs : Nat -> Nat) (nn : Nat) (ff : Nat -> V) (tb : Tab), nn = F.length -> (∀ j, ff j = .rf (bs j) (pwF F j).l.length) ->
  tb bf = some f.l -> (∀ j, j < F.length -> tb (bs j) = some (pwF F j).l) -> (∀ i j, i < F.length -> j < F.length -> i ≠ j -> bs i ≠ bs j) ->
  MFn Tryz.prog 252 [vR p k, .nil, .vals none 1 nn ff] 1 (.v (.rf bf f.l.length)) (.tab tb) (fun _ av x' t' => x' = .v (.rf bf f.l.length) ∧ zaV F.length bs tb L av t')
 | [], _, _, _, _, _, hL => hL.elim
 | [x], f, n, L, h, hF, hL => fun bf bs nn ff tb hnn hff htf htb hds => by
  obtain ⟨i1, i2, hf0, eF, i5⟩ := h.img;have n1 := h.n1;have n8 := h.n8;have hfl : f.l.length = dg f := rfl;have hfn : f.l ≠ [] := fun e => by rw [e] at hfl; simp at hfl; omega
  obtain rfl : L = [f.l] := hL;obtain rfl : nn = 1 := hnn;refine xN (cx := cxt [] [0, 1, 2, 3, 6, 7, 9, 10, 13, 1000000, 1000001]) (za [] [0, 1, 2, 3, 6, 7, 9, 10, 13, 1000000, 1000001]) Tryz.func252 rfl (by decide) Tryz.ntmps252 (Nat.le_of_ble_eq_true rfl) (Nat.le_of_ble_eq_true rfl) rfl rfl fun base hs0 O U hw v0 hb0 => ?_;refine W.rs (za _ _) (by rfl) fun K hK => ?_;conv => whnf
  refine ⟨rfl, ?_⟩;conv => whnf
  intro b_3 hs_3 hh_3 hf_3;try dsimp only at hh_3 hf_3
  conv => whnf
  refine hK _ ?_;clear hK K;refine W.seqK fun K1 hK1 => ?_;refine W.rs (za _ _) (by rfl) fun K hK => ?_;conv => whnf
  refine hK _ (W.cond ⟨fun _ => ?_, fun hcc => absurd rfl (of_decide_eq_false hcc)⟩);clear hK K;refine W.tick rfl fun hs9 hhs9 hbb => ?_;dsimp only at hhs9
  refine W.rs (za _ _) (by rfl) fun K hK => ?_;conv => whnf
  refine ⟨f.l, ⟨rfl, fun _ => htf⟩, ?_⟩;conv => whnf
  refine zh rfl (zas (some bf) f.l (by omega)) fun hs_4 b_4 hh_4 hf_4 => ?_;try dsimp only at hh_4 hf_4
  conv => whnf
  have k4 := hf_4 hfn;refine ⟨⟨rfl, by decide, fun x hx => by simp at hx; subst hx; exact ⟨rfl, rfl⟩⟩, ?_⟩;conv => whnf
  intro b_5 hs_5 hh_5 hf_5;try dsimp only at hh_5 hf_5
  conv => whnf
  refine hK _ ?_;clear hK K;refine W.ret ?_;conv => whnf
  refine ⟨by dsimp only; omega, ?_⟩;conv => whnf
  refine ⟨rfl, ?_⟩;conv => whnf
  refine ⟨.vals none 1 1 fun j => .rf b_4 (([f.l] : List (List Int)).getD j []).length, ⟨.inl rfl, rfl, rfl, fun i hi => by obtain rfl : i = 0 := (by omega); rfl⟩, ?_⟩;conv => whnf
  refine ⟨.v (.rf bf f.l.length), rfl, .inr ⟨rfl, rfl⟩, .tab (kW tb b_4 f.l), fun _ _ h => h, rfl, rfl, rfl, fun _ => b_4, _, rfl, rfl, fun j hj => ?_, fun i j hi hj hij => ?_, fun j hj => .inr ?_, fun c xs hc => ?_⟩
  ·obtain rfl : j = 0 := by simpa using hj
   exact yI _ _ hfn
  ·have : i = 0 := by simpa using hi
   have : j = 0 := by simpa using hj
   omega
  ·cases e : tb b_4 with
   | none => rfl
   | some xs => exact absurd (hbb b_4 (by rw [e]; exact Option.some_ne_none _)) (by omega)
  ·have := hbb c (by rw [hc]; exact Option.some_ne_none _);exact (xK _ _ (.inr (by omega))).trans hc
 | x :: y :: F, f, n, L, h, hF1, hL => fun bf bs nn ff tb hnn hff htf htb hds => by
  have ih := zfU hr hm (y :: F);obtain ⟨a, b, S, T, u, G, H, L', hfs, hP, h9, hLt, hHf, hHF, rfl, hLr⟩ := hL;obtain ⟨s1, s2, s3, s4, s5, s6⟩ := h.rn.1.small;obtain ⟨i1, i2, hf0, eF, i5⟩ := h.img;have m9 : M <= 1000000000 := by omega
  have n8 := h.n8;have n1 := h.n1;have hfl : f.l.length = dg f := rfl;have hg1 := hP.mg.1;have hh1 := hP.mh.1;obtain ⟨F0, hF0⟩ : ∃ F0, F0 = x :: y :: F := ⟨_, rfl⟩
  have hF := hF1;rw [<- hF0] at hF hnn htb hds hff ⊢;have hFl : 2 <= F0.length := by rw [hF0]; simp
  have hFl2 : F0.length = (y :: F).length + 1 := by rw [hF0]; rfl
  have e0 : pwF F0 0 = x.1 ^ x.2 := by rw [hF0]; rfl
  have e1 : ∀ j, pwF F0 (1 + j) = pwF (y :: F) j := fun j => by rw [hF0, Nat.add_comm]; rfl
  have hQ0 := hfs.mg.1;have hQ := hfs.quo;have hFn := hF.facs.few hf0;generalize x.1 ^ x.2 = Q at hfs hP hLt hg1 e0 hQ0 hQ;subst e0;have hQn : (pwF F0 0).l ≠ [] := fun e => by have : (pwF F0 0).l.length = dg (pwF F0 0) := rfl; rw [e] at this; simp at this; omega
  have hun : u.l ≠ [] := fun e => by have : u.l.length = dg u := rfl; rw [e] at this; simp at this; omega
  have hL'l := LA.len _ _ _ hLr;have hFyl : (y :: F).length = F.length + 1 := rfl;obtain rfl : ff = fun j => .rf (bs j) (pwF F0 j).l.length := funext hff;obtain rfl := hnn;have hbz := htb 0 (by omega);refine xN (cx := cxt [] [0, 1, 2, 3, 6, 7, 9, 10, 13, 1000000, 1000001]) (za [] [0, 1, 2, 3, 6, 7, 9, 10, 13, 1000000, 1000001]) Tryz.func252 rfl (by decide) Tryz.ntmps252 (Nat.le_of_ble_eq_true rfl) (Nat.le_of_ble_eq_true rfl) rfl rfl fun base hs0 O U hw v0 hb0 => ?_;refine W.rs (za _ _) (by rfl) fun K hK => ?_;conv => whnf
  refine ⟨rfl, ?_⟩;conv => whnf
  intro b_3 hs_3 hh_3 hf_3;try dsimp only at hh_3 hf_3
  conv => whnf
  refine hK _ ?_;clear hK K;refine W.seqK fun K1 hK1 => ?_;refine W.rs (za _ _) (by rfl) fun K hK => ?_;conv => whnf
  refine hK _ (W.cond ⟨fun hcc => absurd (of_decide_eq_true hcc) (by omega), fun _ => W.skip (hK1 _ ?_)⟩);clear hK K hK1 K1;refine W.tick rfl fun hs9 hhs9 hbb => ?_;dsimp only at hhs9
  refine W.sw (c' := cxt [211] [0, 1, 2, 3, 6, 7, 9, 10, 13, 1000000, 1000001]) ?_;refine W.rdW 9 6 (za _ _) follows (by rfl) (by kernel_rfl) fun K hK => ?_;conv => whnf
  refine ⟨f.l, ⟨rfl, fun _ => htf⟩, ?_⟩;conv => whnf
  refine ⟨_, zi1 ((zq p (by omega) (by omega) (some bf) f.l ((yn m9 f).le (by omega)) (by omega)).toV), ?_⟩;conv => whnf
  rw [eF];refine ⟨⟨by decide, by omega⟩, ?_⟩;conv => whnf
  intro fu;refine Wany.one (cx := cxt [211] []) (za [211] []) 9 (by rfl) (by kernel_rfl) (by rfl) (by rfl) ?_;conv => whnf
  refine ⟨(pwF F0 0).l, ⟨rfl, fun _ => hbz⟩, ?_⟩;conv => whnf
  refine ⟨_, cxT (zeC p none (some (bs 0)) (im p f) (pwF F0 0) (by omega) (by omega) hQ0), fun lo_z hi_z hs_z x_z tn_z tb_z hl1_z hl2_z _ hp_z hf_z hn_z ho_z => ?_⟩;try dsimp only at hl1_z hl2_z
  obtain ⟨bq, br, rfl, hq0, hq1, hq2⟩ := hp_z;rw [hQ] at hq0 hq2 ⊢;have kq := hf_z bq (by rw [hq0 hun]; exact Option.some_ne_none _);have k0 := hbb (bs 0) (by rw [hbz]; exact Option.some_ne_none _);conv => whnf
  refine Wany.take (cx := cxt [211] []) (za [211] []) 10 (by rfl) (by rfl) (fun d hd => by injection hd with hd; subst hd; decide) (by kernel_rfl) (by kernel_rfl) (by kernel_rfl) (by rfl) ?_;conv => whnf
  refine Wany.take (cx := cxt [211] []) (za [211] []) 11 (by rfl) (by rfl) (fun d hd => by injection hd with hd; subst hd; decide) (by kernel_rfl) (by kernel_rfl) (by kernel_rfl) (by rfl) ?_;conv => whnf
  refine Wany.take (cx := cxt [211] []) (za [211] []) 12 (by rfl) (by rfl) (fun d hd => by injection hd with hd; subst hd; decide) (by kernel_rfl) (by kernel_rfl) (by kernel_rfl) (by rfl) ?_;conv => whnf
  refine Wany.take (cx := cxt [211] []) (za [211] []) 13 (by rfl) (by rfl) (fun d hd => by injection hd with hd; subst hd; decide) (by kernel_rfl) (by kernel_rfl) (by kernel_rfl) (by rfl) ?_;conv => whnf
  refine Wany.take (cx := cxt [211] []) (za [211] []) 14 (by rfl) (by rfl) (fun d hd => by injection hd with hd; subst hd; decide) (by kernel_rfl) (by kernel_rfl) (by kernel_rfl) (by rfl) ?_;conv => whnf
  refine wd1 (hK _ ?_);clear hK K fu;refine W.sw (c' := cxt [] [0, 1, 2, 3, 6, 7, 9, 10, 13, 1000000, 1000001]) ?_;refine W.rdW 6 6 (za _ _) follows (by rfl) (by kernel_rfl) fun K hK => ?_;conv => whnf
  refine ⟨⟨by decide, by omega⟩, ?_⟩;conv => whnf
  intro fu;refine Wany.one (cx := cxt [] []) (za [] []) 6 (by rfl) (by kernel_rfl) (by rfl) (by rfl) ?_;conv => whnf
  refine ⟨⟨rfl, rfl⟩, ?_⟩;conv => whnf
  refine ⟨rfl, _, zjc h.rn.1 hm hP h9 hLt bf (bs 0) bq tb_z (ho_z _ _ htf) (ho_z _ _ hbz) (hn_z _ _ (hq0 hun)) (by omega), ?_⟩;rintro hs5 av x' t' hh5 ⟨rfl, b0, b1, tb2, rfl, rfl, ht0, ht1, hne, hor0, hor1, hold⟩ _ _ _;try dsimp only at hh5
  conv => whnf
  refine Wany.take (cx := cxt [] []) (za [] []) 7 (by rfl) (by rfl) (fun d hd => by injection hd with hd; subst hd; decide) (by kernel_rfl) (by kernel_rfl) (by kernel_rfl) (by rfl) ?_;conv => whnf
  refine Wany.take (cx := cxt [] []) (za [] []) 8 (by rfl) (by rfl) (fun d hd => by injection hd with hd; subst hd; decide) (by kernel_rfl) (by kernel_rfl) (by kernel_rfl) (by rfl) ?_;conv => whnf
  refine Wany.take (cx := cxt [] []) (za [] []) 9 (by rfl) (by rfl) (fun d hd => by injection hd with hd; subst hd; decide) (by kernel_rfl) (by kernel_rfl) (by kernel_rfl) (by rfl) ?_;conv => whnf
  refine Wany.take (cx := cxt [] []) (za [] []) 10 (by rfl) (by rfl) (fun d hd => by injection hd with hd; subst hd; decide) (by kernel_rfl) (by kernel_rfl) (by kernel_rfl) (by rfl) ?_;conv => whnf
  refine Wany.take (cx := cxt [] []) (za [] []) 11 (by rfl) (by rfl) (fun d hd => by injection hd with hd; subst hd; decide) (by kernel_rfl) (by kernel_rfl) (by kernel_rfl) (by rfl) ?_;conv => whnf
  refine wd1 (hK _ ?_);clear hK K fu;refine W.seqK fun K1 hK1 => W.sch follows ?_;refine Wany.take (za [] []) 0 (by rfl) (by rfl) (fun d hd => by injection hd with hd; subst hd; decide) (by kernel_rfl) (by kernel_rfl) (by kernel_rfl) (by rfl) ?_;conv => whnf
  refine Wany.take (za [] []) 3 (by rfl) (by rfl) (fun d hd => by injection hd with hd; subst hd; decide) (by kernel_rfl) (by kernel_rfl) (by kernel_rfl) (by rfl) ?_;conv => whnf
  refine Wany.take (za [] []) 4 (by rfl) (by rfl) (fun d hd => by injection hd with hd; subst hd; decide) (by kernel_rfl) (by kernel_rfl) (by kernel_rfl) (by rfl) ?_;conv => whnf
  refine Wany.take (za [] []) 5 (by rfl) (by rfl) (fun d hd => by injection hd with hd; subst hd; decide) (by kernel_rfl) (by kernel_rfl) (by kernel_rfl) (by rfl) ?_;conv => whnf
  refine ⟨⟨by decide, by omega, by omega⟩, ?_⟩;conv => whnf
  refine Wany.two (za [] []) 1 2 (by rfl) (by kernel_rfl) (by rfl) (by rfl) (by rfl) (by rfl) ?_ ?_ <;> conv => whnf
  ·refine ⟨⟨rfl, by decide, fun x hx => by simp at hx; subst hx; exact ⟨rfl, rfl⟩⟩, ?_⟩;conv => whnf
   intro b_g hs_g hh_g hf_g;try dsimp only at hh_g hf_g
   conv => whnf
   refine Wany.one (za [] []) 2 (by rfl) (by kernel_rfl) (by rfl) (by rfl) ?_;conv => whnf
   refine Wany.one (za [] []) 6 (by rfl) (by kernel_rfl) (by rfl) (by rfl) ?_;conv => whnf
   refine ⟨⟨rfl, rfl⟩, ?_⟩;conv => whnf
   refine ⟨rfl, _, ih H b L' hHf hHF hLr b1 (fun j => bs (1 + j)) _ _ tb2 (by omega) (fun j => by rw [<- e1]; rfl) ht1 (fun j hj => by rw [<- e1]; exact hold _ _ (ho_z _ _ (htb (1 + j) (by omega)))) (fun i j hi hj hij => hds _ _ (by omega) (by omega) (by omega)), ?_⟩;rintro hs6 av x' t' hh6 ⟨rfl, cs, tb3, rfl, rfl, c1, c2, c3, c4⟩ _ _ _;try dsimp only at hh6
   conv => whnf
   refine Wany.one (za [] []) 7 (by rfl) (by kernel_rfl) (by rfl) (by rfl) ?_;conv => whnf
   refine ⟨by omega, ?_⟩;conv => whnf
   refine ⟨fun j => .rf (if j = 0 then b0 else cs (j - 1)) ((G.l :: L').getD j []).length, fun j hj => (by obtain rfl : j = 0 := (by omega); rfl), fun j hj => (by show V.rf (if 1 + j = 0 then b0 else cs (1 + j - 1)) ((G.l :: L').getD (1 + j) []).length = V.rf (cs j) (L'.getD j []).length; rw [if_neg (by omega), Nat.add_comm]; rfl), ?_⟩;intro b_r hs_r hh_r hf_r;try dsimp only at hh_r hf_r
   conv => whnf
   refine Wany.one (za [] []) 8 (by rfl) (by kernel_rfl) (by rfl) (by rfl) ?_;conv => whnf
   refine wd1 (hK1 _ ?_);clear hK1 K1;refine W.ret ?_;conv => whnf
   refine ⟨by dsimp only; omega, ?_⟩;conv => whnf
   refine ⟨rfl, ?_⟩;conv => whnf
   refine ⟨.vals none 1 (G.l :: L').length fun j => .rf (if j = 0 then b0 else cs (j - 1)) ((G.l :: L').getD j []).length, ⟨.inl rfl, rfl, by simp only [List.length_cons]; omega, fun _ _ => rfl⟩, ?_⟩;conv => whnf
   exact ⟨.v (.rf bf f.l.length), rfl, .inr ⟨rfl, rfl⟩, .tab tb3, fun _ _ h => h, rfl, rfl, rfl, zaV.cons (by omega) ho_z hold hor0 ht0 (fun j hj => by rw [htb j hj]; exact Option.some_ne_none _) hds c1 c2 (fun j hj => by rw [hFl2]; exact c3 j hj) c4⟩
  ·refine Wany.two (za [] []) 1 6 (by rfl) (by kernel_rfl) (by rfl) (by rfl) (by rfl) (by rfl) ?_ ?_ <;> conv => whnf
   ·refine ⟨⟨rfl, by decide, fun x hx => by simp at hx; subst hx; exact ⟨rfl, rfl⟩⟩, ?_⟩;conv => whnf
    intro b_g hs_g hh_g hf_g;try dsimp only at hh_g hf_g
    conv => whnf
    refine Wany.one (za [] []) 6 (by rfl) (by kernel_rfl) (by rfl) (by rfl) ?_;conv => whnf
    refine ⟨⟨rfl, rfl⟩, ?_⟩;conv => whnf
    refine ⟨rfl, _, ih H b L' hHf hHF hLr b1 (fun j => bs (1 + j)) _ _ tb2 (by omega) (fun j => by rw [<- e1]; rfl) ht1 (fun j hj => by rw [<- e1]; exact hold _ _ (ho_z _ _ (htb (1 + j) (by omega)))) (fun i j hi hj hij => hds _ _ (by omega) (by omega) (by omega)), ?_⟩;rintro hs6 av x' t' hh6 ⟨rfl, cs, tb3, rfl, rfl, c1, c2, c3, c4⟩ _ _ _;try dsimp only at hh6
    conv => whnf
    refine Wany.one (za [] []) 7 (by rfl) (by kernel_rfl) (by rfl) (by rfl) ?_;conv => whnf
    refine ⟨by omega, ?_⟩;conv => whnf
    refine ⟨fun j => .rf (if j = 0 then b0 else cs (j - 1)) ((G.l :: L').getD j []).length, fun j hj => (by obtain rfl : j = 0 := (by omega); rfl), fun j hj => (by show V.rf (if 1 + j = 0 then b0 else cs (1 + j - 1)) ((G.l :: L').getD (1 + j) []).length = V.rf (cs j) (L'.getD j []).length; rw [if_neg (by omega), Nat.add_comm]; rfl), ?_⟩;intro b_r hs_r hh_r hf_r;try dsimp only at hh_r hf_r
    conv => whnf
    refine Wany.one (za [] []) 8 (by rfl) (by kernel_rfl) (by rfl) (by rfl) ?_;conv => whnf
    refine wd1 (hK1 _ ?_);clear hK1 K1;refine W.ret ?_;conv => whnf
    refine ⟨by dsimp only; omega, ?_⟩;conv => whnf
    refine ⟨rfl, ?_⟩;conv => whnf
    refine ⟨.vals none 1 (G.l :: L').length fun j => .rf (if j = 0 then b0 else cs (j - 1)) ((G.l :: L').getD j []).length, ⟨.inl rfl, rfl, by simp only [List.length_cons]; omega, fun _ _ => rfl⟩, ?_⟩;conv => whnf
    exact ⟨.v (.rf bf f.l.length), rfl, .inr ⟨rfl, rfl⟩, .tab tb3, fun _ _ h => h, rfl, rfl, rfl, zaV.cons (by omega) ho_z hold hor0 ht0 (fun j hj => by rw [htb j hj]; exact Option.some_ne_none _) hds c1 c2 (fun j hj => by rw [hFl2]; exact c3 j hj) c4⟩
   ·refine ⟨⟨rfl, rfl⟩, ?_⟩;conv => whnf
    refine ⟨rfl, _, ih H b L' hHf hHF hLr b1 (fun j => bs (1 + j)) _ _ tb2 (by omega) (fun j => by rw [<- e1]; rfl) ht1 (fun j hj => by rw [<- e1]; exact hold _ _ (ho_z _ _ (htb (1 + j) (by omega)))) (fun i j hi hj hij => hds _ _ (by omega) (by omega) (by omega)), ?_⟩;rintro hs6 av x' t' hh6 ⟨rfl, cs, tb3, rfl, rfl, c1, c2, c3, c4⟩ _ _ _;try dsimp only at hh6
    conv => whnf
    refine Wany.one (za [] []) 1 (by rfl) (by kernel_rfl) (by rfl) (by rfl) ?_;conv => whnf
    refine ⟨⟨rfl, by decide, fun x hx => by simp at hx; subst hx; exact ⟨rfl, rfl⟩⟩, ?_⟩;conv => whnf
    intro b_g hs_g hh_g hf_g;try dsimp only at hh_g hf_g
    conv => whnf
    refine Wany.one (za [] []) 7 (by rfl) (by kernel_rfl) (by rfl) (by rfl) ?_;conv => whnf
    refine ⟨by omega, ?_⟩;conv => whnf
    refine ⟨fun j => .rf (if j = 0 then b0 else cs (j - 1)) ((G.l :: L').getD j []).length, fun j hj => (by obtain rfl : j = 0 := (by omega); rfl), fun j hj => (by show V.rf (if 1 + j = 0 then b0 else cs (1 + j - 1)) ((G.l :: L').getD (1 + j) []).length = V.rf (cs j) (L'.getD j []).length; rw [if_neg (by omega), Nat.add_comm]; rfl), ?_⟩;intro b_r hs_r hh_r hf_r;try dsimp only at hh_r hf_r
    conv => whnf
    refine Wany.one (za [] []) 8 (by rfl) (by kernel_rfl) (by rfl) (by rfl) ?_;conv => whnf
    refine wd1 (hK1 _ ?_);clear hK1 K1;refine W.ret ?_;conv => whnf
    refine ⟨by dsimp only; omega, ?_⟩;conv => whnf
    refine ⟨rfl, ?_⟩;conv => whnf
    refine ⟨.vals none 1 (G.l :: L').length fun j => .rf (if j = 0 then b0 else cs (j - 1)) ((G.l :: L').getD j []).length, ⟨.inl rfl, rfl, by simp only [List.length_cons]; omega, fun _ _ => rfl⟩, ?_⟩;conv => whnf
    exact ⟨.v (.rf bf f.l.length), rfl, .inr ⟨rfl, rfl⟩, .tab tb3, fun _ _ h => h, rfl, rfl, rfl, zaV.cons (by omega) ho_z hold hor0 ht0 (fun j hj => by rw [htb j hj]; exact Option.some_ne_none _) hds c1 c2 (fun j hj => by rw [hFl2]; exact c3 j hj) c4⟩
-- 3 ways

theorem z6 (hr : y9 p k) (hm : p ^ k.toNat = M) : ∀ (F : List (Poly p × Nat)) (f : Poly M) (n : Nat) (L : List (List Int)), LfP p k M f n -> zJ (im p f) F -> LA p k F f L -> ∀ (g : Option Nat) (bs : Nat -> Nat) (nn : Nat) (ff : Nat -> V) (tb : Tab), nn = F.length -> (∀ j, ff j = .rf (bs j) (pwF F j).l.length) ->
  (∀ j, j < F.length -> tb (bs j) = some (pwF F j).l) -> (∀ i j, i < F.length -> j < F.length -> i ≠ j -> bs i ≠ bs j) ->
  MFn Tryz.prog 252 [vR p k, .nil, .vals none 1 nn ff] 1 (.v (.ints g f.l)) (.tab tb) (fun _ av x' t' => x' = .v (.ints g f.l) ∧ zaV F.length bs tb L av t')
 | [], _, _, _, _, _, hL => hL.elim
 | [x], f, n, L, h, hF, hL => fun g bs nn ff tb hnn hff htb hds => by
  obtain ⟨i1, i2, hf0, eF, i5⟩ := h.img;have n1 := h.n1;have n8 := h.n8;have hfl : f.l.length = dg f := rfl;have hfn : f.l ≠ [] := fun e => by rw [e] at hfl; simp at hfl; omega
  obtain rfl : L = [f.l] := hL;obtain rfl : nn = 1 := hnn;refine xN (cx := cxt [] [0, 1, 2, 3, 6, 7, 9, 10, 13, 1000000, 1000001]) (za [] [0, 1, 2, 3, 6, 7, 9, 10, 13, 1000000, 1000001]) Tryz.func252 rfl (by decide) Tryz.ntmps252 (Nat.le_of_ble_eq_true rfl) (Nat.le_of_ble_eq_true rfl) rfl rfl fun base hs0 O U hw v0 hb0 => ?_;refine W.rs (za _ _) (by rfl) fun K hK => ?_;conv => whnf
  refine ⟨rfl, ?_⟩;conv => whnf
  intro b_3 hs_3 hh_3 hf_3;try dsimp only at hh_3 hf_3
  conv => whnf
  refine hK _ ?_;clear hK K;refine W.seqK fun K1 hK1 => ?_;refine W.rs (za _ _) (by rfl) fun K hK => ?_;conv => whnf
  refine hK _ (W.cond ⟨fun _ => ?_, fun hcc => absurd rfl (of_decide_eq_false hcc)⟩);clear hK K;refine W.tick rfl fun hs9 hhs9 hbb => ?_;dsimp only at hhs9
  refine W.rs (za _ _) (by rfl) fun K hK => ?_;conv => whnf
  refine zh rfl (zas g f.l (by omega)) fun hs_4 b_4 hh_4 hf_4 => ?_;try dsimp only at hh_4 hf_4
  conv => whnf
  have k4 := hf_4 hfn;refine ⟨⟨rfl, by decide, fun x hx => by simp at hx; subst hx; exact ⟨rfl, rfl⟩⟩, ?_⟩;conv => whnf
  intro b_5 hs_5 hh_5 hf_5;try dsimp only at hh_5 hf_5
  conv => whnf
  refine hK _ ?_;clear hK K;refine W.ret ?_;conv => whnf
  refine ⟨by dsimp only; omega, ?_⟩;conv => whnf
  refine ⟨rfl, ?_⟩;conv => whnf
  refine ⟨.vals none 1 1 fun j => .rf b_4 (([f.l] : List (List Int)).getD j []).length, ⟨.inl rfl, rfl, rfl, fun i hi => by obtain rfl : i = 0 := (by omega); rfl⟩, ?_⟩;conv => whnf
  refine ⟨.v (.ints g f.l), kf (.ints g f.l), .inr ⟨rfl, rfl⟩, .tab (kW tb b_4 f.l), fun _ _ h => h, rfl, rfl, rfl, fun _ => b_4, _, rfl, rfl, fun j hj => ?_, fun i j hi hj hij => ?_, fun j hj => .inr ?_, fun c xs hc => ?_⟩
  ·obtain rfl : j = 0 := by simpa using hj
   exact yI _ _ hfn
  ·have : i = 0 := by simpa using hi
   have : j = 0 := by simpa using hj
   omega
  ·cases e : tb b_4 with
   | none => rfl
   | some xs => exact absurd (hbb b_4 (by rw [e]; exact Option.some_ne_none _)) (by omega)
  ·have := hbb c (by rw [hc]; exact Option.some_ne_none _);exact (xK _ _ (.inr (by omega))).trans hc
 | x :: y :: F, f, n, L, h, hF1, hL => fun g bs nn ff tb hnn hff htb hds => by
  have ih := zfU hr hm (y :: F);obtain ⟨a, b, S, T, u, G, H, L', hfs, hP, h9, hLt, hHf, hHF, rfl, hLr⟩ := hL;obtain ⟨s1, s2, s3, s4, s5, s6⟩ := h.rn.1.small;obtain ⟨i1, i2, hf0, eF, i5⟩ := h.img;have m9 : M <= 1000000000 := by omega
  have n8 := h.n8;have n1 := h.n1;have hfl : f.l.length = dg f := rfl;have hg1 := hP.mg.1;have hh1 := hP.mh.1;obtain ⟨F0, hF0⟩ : ∃ F0, F0 = x :: y :: F := ⟨_, rfl⟩
  have hF := hF1;rw [<- hF0] at hF hnn htb hds hff ⊢;have hFl : 2 <= F0.length := by rw [hF0]; simp
  have hFl2 : F0.length = (y :: F).length + 1 := by rw [hF0]; rfl
  have e0 : pwF F0 0 = x.1 ^ x.2 := by rw [hF0]; rfl
  have e1 : ∀ j, pwF F0 (1 + j) = pwF (y :: F) j := fun j => by rw [hF0, Nat.add_comm]; rfl
  have hQ0 := hfs.mg.1;have hQ := hfs.quo;have hFn := hF.facs.few hf0;generalize x.1 ^ x.2 = Q at hfs hP hLt hg1 e0 hQ0 hQ;subst e0;have hQn : (pwF F0 0).l ≠ [] := fun e => by have : (pwF F0 0).l.length = dg (pwF F0 0) := rfl; rw [e] at this; simp at this; omega
  have hun : u.l ≠ [] := fun e => by have : u.l.length = dg u := rfl; rw [e] at this; simp at this; omega
  have hL'l := LA.len _ _ _ hLr;have hFyl : (y :: F).length = F.length + 1 := rfl;obtain rfl : ff = fun j => .rf (bs j) (pwF F0 j).l.length := funext hff;obtain rfl := hnn;have hbz := htb 0 (by omega);refine xN (cx := cxt [] [0, 1, 2, 3, 6, 7, 9, 10, 13, 1000000, 1000001]) (za [] [0, 1, 2, 3, 6, 7, 9, 10, 13, 1000000, 1000001]) Tryz.func252 rfl (by decide) Tryz.ntmps252 (Nat.le_of_ble_eq_true rfl) (Nat.le_of_ble_eq_true rfl) rfl rfl fun base hs0 O U hw v0 hb0 => ?_;refine W.rs (za _ _) (by rfl) fun K hK => ?_;conv => whnf
  refine ⟨rfl, ?_⟩;conv => whnf
  intro b_3 hs_3 hh_3 hf_3;try dsimp only at hh_3 hf_3
  conv => whnf
  refine hK _ ?_;clear hK K;refine W.seqK fun K1 hK1 => ?_;refine W.rs (za _ _) (by rfl) fun K hK => ?_;conv => whnf
  refine hK _ (W.cond ⟨fun hcc => absurd (of_decide_eq_true hcc) (by omega), fun _ => W.skip (hK1 _ ?_)⟩);clear hK K hK1 K1;refine W.tick rfl fun hs9 hhs9 hbb => ?_;dsimp only at hhs9
  refine W.sw (c' := cxt [211] [0, 1, 2, 3, 6, 7, 9, 10, 13, 1000000, 1000001]) ?_;refine W.rdW 9 6 (za _ _) follows (by rfl) (by kernel_rfl) fun K hK => ?_;conv => whnf
  refine ⟨_, zi1 ((zq p (by omega) (by omega) g f.l ((yn m9 f).le (by omega)) (by omega)).toV), ?_⟩;conv => whnf
  rw [eF];refine ⟨⟨by decide, by omega⟩, ?_⟩;conv => whnf
  intro fu;refine Wany.one (cx := cxt [211] []) (za [211] []) 9 (by rfl) (by kernel_rfl) (by rfl) (by rfl) ?_;conv => whnf
  refine ⟨(pwF F0 0).l, ⟨rfl, fun _ => hbz⟩, ?_⟩;conv => whnf
  refine ⟨_, cxT (zeC p none (some (bs 0)) (im p f) (pwF F0 0) (by omega) (by omega) hQ0), fun lo_z hi_z hs_z x_z tn_z tb_z hl1_z hl2_z _ hp_z hf_z hn_z ho_z => ?_⟩;try dsimp only at hl1_z hl2_z
  obtain ⟨bq, br, rfl, hq0, hq1, hq2⟩ := hp_z;rw [hQ] at hq0 hq2 ⊢;have kq := hf_z bq (by rw [hq0 hun]; exact Option.some_ne_none _);have k0 := hbb (bs 0) (by rw [hbz]; exact Option.some_ne_none _);conv => whnf
  refine Wany.take (cx := cxt [211] []) (za [211] []) 10 (by rfl) (by rfl) (fun d hd => by injection hd with hd; subst hd; decide) (by kernel_rfl) (by kernel_rfl) (by kernel_rfl) (by rfl) ?_;conv => whnf
  refine Wany.take (cx := cxt [211] []) (za [211] []) 11 (by rfl) (by rfl) (fun d hd => by injection hd with hd; subst hd; decide) (by kernel_rfl) (by kernel_rfl) (by kernel_rfl) (by rfl) ?_;conv => whnf
  refine Wany.take (cx := cxt [211] []) (za [211] []) 12 (by rfl) (by rfl) (fun d hd => by injection hd with hd; subst hd; decide) (by kernel_rfl) (by kernel_rfl) (by kernel_rfl) (by rfl) ?_;conv => whnf
  refine Wany.take (cx := cxt [211] []) (za [211] []) 13 (by rfl) (by rfl) (fun d hd => by injection hd with hd; subst hd; decide) (by kernel_rfl) (by kernel_rfl) (by kernel_rfl) (by rfl) ?_;conv => whnf
  refine Wany.take (cx := cxt [211] []) (za [211] []) 14 (by rfl) (by rfl) (fun d hd => by injection hd with hd; subst hd; decide) (by kernel_rfl) (by kernel_rfl) (by kernel_rfl) (by rfl) ?_;conv => whnf
  refine wd1 (hK _ ?_);clear hK K fu;refine W.sw (c' := cxt [] [0, 1, 2, 3, 6, 7, 9, 10, 13, 1000000, 1000001]) ?_;refine W.rdW 6 6 (za _ _) follows (by rfl) (by kernel_rfl) fun K hK => ?_;conv => whnf
  refine ⟨⟨by decide, by omega⟩, ?_⟩;conv => whnf
  intro fu;refine Wany.one (cx := cxt [] []) (za [] []) 6 (by rfl) (by kernel_rfl) (by rfl) (by rfl) ?_;conv => whnf
  refine ⟨⟨rfl, rfl⟩, ?_⟩;conv => whnf
  refine ⟨rfl, _, zeG h.rn.1 hm hP h9 hLt g (bs 0) bq tb_z (ho_z _ _ hbz) (hn_z _ _ (hq0 hun)) (by omega), ?_⟩;rintro hs5 av x' t' hh5 ⟨rfl, b0, b1, tb2, rfl, rfl, ht0, ht1, hne, hor0, hor1, hold⟩ _ _ _;try dsimp only at hh5
  conv => whnf
  refine Wany.take (cx := cxt [] []) (za [] []) 7 (by rfl) (by rfl) (fun d hd => by injection hd with hd; subst hd; decide) (by kernel_rfl) (by kernel_rfl) (by kernel_rfl) (by rfl) ?_;conv => whnf
  refine Wany.take (cx := cxt [] []) (za [] []) 8 (by rfl) (by rfl) (fun d hd => by injection hd with hd; subst hd; decide) (by kernel_rfl) (by kernel_rfl) (by kernel_rfl) (by rfl) ?_;conv => whnf
  refine Wany.take (cx := cxt [] []) (za [] []) 9 (by rfl) (by rfl) (fun d hd => by injection hd with hd; subst hd; decide) (by kernel_rfl) (by kernel_rfl) (by kernel_rfl) (by rfl) ?_;conv => whnf
  refine Wany.take (cx := cxt [] []) (za [] []) 10 (by rfl) (by rfl) (fun d hd => by injection hd with hd; subst hd; decide) (by kernel_rfl) (by kernel_rfl) (by kernel_rfl) (by rfl) ?_;conv => whnf
  refine Wany.take (cx := cxt [] []) (za [] []) 11 (by rfl) (by rfl) (fun d hd => by injection hd with hd; subst hd; decide) (by kernel_rfl) (by kernel_rfl) (by kernel_rfl) (by rfl) ?_;conv => whnf
  refine wd1 (hK _ ?_);clear hK K fu;refine W.seqK fun K1 hK1 => W.sch follows ?_;refine Wany.take (za [] []) 0 (by rfl) (by rfl) (fun d hd => by injection hd with hd; subst hd; decide) (by kernel_rfl) (by kernel_rfl) (by kernel_rfl) (by rfl) ?_;conv => whnf
  refine Wany.take (za [] []) 3 (by rfl) (by rfl) (fun d hd => by injection hd with hd; subst hd; decide) (by kernel_rfl) (by kernel_rfl) (by kernel_rfl) (by rfl) ?_;conv => whnf
  refine Wany.take (za [] []) 4 (by rfl) (by rfl) (fun d hd => by injection hd with hd; subst hd; decide) (by kernel_rfl) (by kernel_rfl) (by kernel_rfl) (by rfl) ?_;conv => whnf
  refine Wany.take (za [] []) 5 (by rfl) (by rfl) (fun d hd => by injection hd with hd; subst hd; decide) (by kernel_rfl) (by kernel_rfl) (by kernel_rfl) (by rfl) ?_;conv => whnf
  refine ⟨⟨by decide, by omega, by omega⟩, ?_⟩;conv => whnf
  refine Wany.two (za [] []) 1 2 (by rfl) (by kernel_rfl) (by rfl) (by rfl) (by rfl) (by rfl) ?_ ?_ <;> conv => whnf
  ·refine ⟨⟨rfl, by decide, fun x hx => by simp at hx; subst hx; exact ⟨rfl, rfl⟩⟩, ?_⟩;conv => whnf
   intro b_g hs_g hh_g hf_g;try dsimp only at hh_g hf_g
   conv => whnf
   refine Wany.one (za [] []) 2 (by rfl) (by kernel_rfl) (by rfl) (by rfl) ?_;conv => whnf
   refine Wany.one (za [] []) 6 (by rfl) (by kernel_rfl) (by rfl) (by rfl) ?_;conv => whnf
   refine ⟨⟨rfl, rfl⟩, ?_⟩;conv => whnf
   refine ⟨rfl, _, ih H b L' hHf hHF hLr b1 (fun j => bs (1 + j)) _ _ tb2 (by omega) (fun j => by rw [<- e1]; rfl) ht1 (fun j hj => by rw [<- e1]; exact hold _ _ (ho_z _ _ (htb (1 + j) (by omega)))) (fun i j hi hj hij => hds _ _ (by omega) (by omega) (by omega)), ?_⟩;rintro hs6 av x' t' hh6 ⟨rfl, cs, tb3, rfl, rfl, c1, c2, c3, c4⟩ _ _ _;try dsimp only at hh6
   conv => whnf
   refine Wany.one (za [] []) 7 (by rfl) (by kernel_rfl) (by rfl) (by rfl) ?_;conv => whnf
   refine ⟨by omega, ?_⟩;conv => whnf
   refine ⟨fun j => .rf (if j = 0 then b0 else cs (j - 1)) ((G.l :: L').getD j []).length, fun j hj => (by obtain rfl : j = 0 := (by omega); rfl), fun j hj => (by show V.rf (if 1 + j = 0 then b0 else cs (1 + j - 1)) ((G.l :: L').getD (1 + j) []).length = V.rf (cs j) (L'.getD j []).length; rw [if_neg (by omega), Nat.add_comm]; rfl), ?_⟩;intro b_r hs_r hh_r hf_r;try dsimp only at hh_r hf_r
   conv => whnf
   refine Wany.one (za [] []) 8 (by rfl) (by kernel_rfl) (by rfl) (by rfl) ?_;conv => whnf
   refine wd1 (hK1 _ ?_);clear hK1 K1;refine W.ret ?_;conv => whnf
   refine ⟨by dsimp only; omega, ?_⟩;conv => whnf
   refine ⟨rfl, ?_⟩;conv => whnf
   refine ⟨.vals none 1 (G.l :: L').length fun j => .rf (if j = 0 then b0 else cs (j - 1)) ((G.l :: L').getD j []).length, ⟨.inl rfl, rfl, by simp only [List.length_cons]; omega, fun _ _ => rfl⟩, ?_⟩;conv => whnf
   exact ⟨.v (.ints g f.l), kf (.ints g f.l), .inr ⟨rfl, rfl⟩, .tab tb3, fun _ _ h => h, rfl, rfl, rfl, zaV.cons (by omega) ho_z hold hor0 ht0 (fun j hj => by rw [htb j hj]; exact Option.some_ne_none _) hds c1 c2 (fun j hj => by rw [hFl2]; exact c3 j hj) c4⟩
  ·refine Wany.two (za [] []) 1 6 (by rfl) (by kernel_rfl) (by rfl) (by rfl) (by rfl) (by rfl) ?_ ?_ <;> conv => whnf
   ·refine ⟨⟨rfl, by decide, fun x hx => by simp at hx; subst hx; exact ⟨rfl, rfl⟩⟩, ?_⟩;conv => whnf
    intro b_g hs_g hh_g hf_g;try dsimp only at hh_g hf_g
    conv => whnf
    refine Wany.one (za [] []) 6 (by rfl) (by kernel_rfl) (by rfl) (by rfl) ?_;conv => whnf
    refine ⟨⟨rfl, rfl⟩, ?_⟩;conv => whnf
    refine ⟨rfl, _, ih H b L' hHf hHF hLr b1 (fun j => bs (1 + j)) _ _ tb2 (by omega) (fun j => by rw [<- e1]; rfl) ht1 (fun j hj => by rw [<- e1]; exact hold _ _ (ho_z _ _ (htb (1 + j) (by omega)))) (fun i j hi hj hij => hds _ _ (by omega) (by omega) (by omega)), ?_⟩;rintro hs6 av x' t' hh6 ⟨rfl, cs, tb3, rfl, rfl, c1, c2, c3, c4⟩ _ _ _;try dsimp only at hh6
    conv => whnf
    refine Wany.one (za [] []) 7 (by rfl) (by kernel_rfl) (by rfl) (by rfl) ?_;conv => whnf
    refine ⟨by omega, ?_⟩;conv => whnf
    refine ⟨fun j => .rf (if j = 0 then b0 else cs (j - 1)) ((G.l :: L').getD j []).length, fun j hj => (by obtain rfl : j = 0 := (by omega); rfl), fun j hj => (by show V.rf (if 1 + j = 0 then b0 else cs (1 + j - 1)) ((G.l :: L').getD (1 + j) []).length = V.rf (cs j) (L'.getD j []).length; rw [if_neg (by omega), Nat.add_comm]; rfl), ?_⟩;intro b_r hs_r hh_r hf_r;try dsimp only at hh_r hf_r
    conv => whnf
    refine Wany.one (za [] []) 8 (by rfl) (by kernel_rfl) (by rfl) (by rfl) ?_;conv => whnf
    refine wd1 (hK1 _ ?_);clear hK1 K1;refine W.ret ?_;conv => whnf
    refine ⟨by dsimp only; omega, ?_⟩;conv => whnf
    refine ⟨rfl, ?_⟩;conv => whnf
    refine ⟨.vals none 1 (G.l :: L').length fun j => .rf (if j = 0 then b0 else cs (j - 1)) ((G.l :: L').getD j []).length, ⟨.inl rfl, rfl, by simp only [List.length_cons]; omega, fun _ _ => rfl⟩, ?_⟩;conv => whnf
    exact ⟨.v (.ints g f.l), kf (.ints g f.l), .inr ⟨rfl, rfl⟩, .tab tb3, fun _ _ h => h, rfl, rfl, rfl, zaV.cons (by omega) ho_z hold hor0 ht0 (fun j hj => by rw [htb j hj]; exact Option.some_ne_none _) hds c1 c2 (fun j hj => by rw [hFl2]; exact c3 j hj) c4⟩
   ·refine ⟨⟨rfl, rfl⟩, ?_⟩;conv => whnf
    refine ⟨rfl, _, ih H b L' hHf hHF hLr b1 (fun j => bs (1 + j)) _ _ tb2 (by omega) (fun j => by rw [<- e1]; rfl) ht1 (fun j hj => by rw [<- e1]; exact hold _ _ (ho_z _ _ (htb (1 + j) (by omega)))) (fun i j hi hj hij => hds _ _ (by omega) (by omega) (by omega)), ?_⟩;rintro hs6 av x' t' hh6 ⟨rfl, cs, tb3, rfl, rfl, c1, c2, c3, c4⟩ _ _ _;try dsimp only at hh6
    conv => whnf
    refine Wany.one (za [] []) 1 (by rfl) (by kernel_rfl) (by rfl) (by rfl) ?_;conv => whnf
    refine ⟨⟨rfl, by decide, fun x hx => by simp at hx; subst hx; exact ⟨rfl, rfl⟩⟩, ?_⟩;conv => whnf
    intro b_g hs_g hh_g hf_g;try dsimp only at hh_g hf_g
    conv => whnf
    refine Wany.one (za [] []) 7 (by rfl) (by kernel_rfl) (by rfl) (by rfl) ?_;conv => whnf
    refine ⟨by omega, ?_⟩;conv => whnf
    refine ⟨fun j => .rf (if j = 0 then b0 else cs (j - 1)) ((G.l :: L').getD j []).length, fun j hj => (by obtain rfl : j = 0 := (by omega); rfl), fun j hj => (by show V.rf (if 1 + j = 0 then b0 else cs (1 + j - 1)) ((G.l :: L').getD (1 + j) []).length = V.rf (cs j) (L'.getD j []).length; rw [if_neg (by omega), Nat.add_comm]; rfl), ?_⟩;intro b_r hs_r hh_r hf_r;try dsimp only at hh_r hf_r
    conv => whnf
    refine Wany.one (za [] []) 8 (by rfl) (by kernel_rfl) (by rfl) (by rfl) ?_;conv => whnf
    refine wd1 (hK1 _ ?_);clear hK1 K1;refine W.ret ?_;conv => whnf
    refine ⟨by dsimp only; omega, ?_⟩;conv => whnf
    refine ⟨rfl, ?_⟩;conv => whnf
    refine ⟨.vals none 1 (G.l :: L').length fun j => .rf (if j = 0 then b0 else cs (j - 1)) ((G.l :: L').getD j []).length, ⟨.inl rfl, rfl, by simp only [List.length_cons]; omega, fun _ _ => rfl⟩, ?_⟩;conv => whnf
    exact ⟨.v (.ints g f.l), kf (.ints g f.l), .inr ⟨rfl, rfl⟩, .tab tb3, fun _ _ h => h, rfl, rfl, rfl, zaV.cons (by omega) ho_z hold hor0 ht0 (fun j hj => by rw [htb j hj]; exact Option.some_ne_none _) hds c1 c2 (fun j hj => by rw [hFl2]; exact c3 j hj) c4⟩
-- 3 ways

/- the function, with and without an error -/
theorem zbn (p k : Int) (g : Option Nat) (l : List Int) (c : Int) (hc : c ≠ 0) (h : FnV 251 [vR p k, .ints g l] (.int .i64 c)) : FnT Tryz.prog 104 [vR p k, .ints g l] (RTS [] c) := by
 refine za7 (za [] [0, 1, 2, 4, 5, 6, 11, 1000000]) Tryz.func104 rfl (by decide) Tryz.ntmps104 (Nat.le_of_ble_eq_true rfl) (fun base => ?_) (Nat.le_of_ble_eq_true rfl);refine W.sw (c' := cx [0, 1, 2, 4, 5, 6, 11, 1000000]) ?_;refine wrs fun K hK => ?_;conv => whnf
 refine ⟨rfl, ?_⟩;conv => whnf
 intro b_2 hs_2 hh_2 hf_2;try dsimp only at hh_2 hf_2
 conv => whnf
 refine hK _ ?_;clear hK K;refine W.seqK fun K1 hK1 => ?_;refine wrs fun K hK => ?_;conv => whnf
 refine zd rfl (h) fun hs' hhs => ?_;try dsimp only at hhs
 conv => whnf
 refine hK _ ?_;clear hK K;refine wrs fun K hK => ?_;conv => whnf
 refine hK _ (W.cond ⟨fun _ => ?_, fun hcc => absurd hc (of_decide_eq_false hcc)⟩);clear hK K;refine wrs fun K hK => ?_;conv => whnf
 refine hK _ ?_;clear hK K;refine W.ret ?_;conv => whnf
 exact ⟨.v (vRF [] fun _ => 0), rfl, ⟨trivial, fun _ _ => trivial⟩, .v (.int .i64 c), ⟨rfl, rfl⟩, trivial, fun _ => 0, rfl, fun j hj => absurd hj (Nat.not_lt_zero j), fun i j hi => absurd hi (Nat.not_lt_zero i)⟩

theorem zje {f : Poly M} {n : Nat} (h : LfP p k M f n) (g : Option Nat) {F : List (Poly p × Nat)} (hF : zJ (im p f) F) {L : List (List Int)} (hL : LA p k F f L) : FnT Tryz.prog 104 [vR p k, .ints g f.l] (RTS L 0) := by
 obtain ⟨s1, s2, s3, s4, s5, s6⟩ := h.rn.1.small;obtain ⟨i1, i2, hf0, eF, i5⟩ := h.img;have hm := h.hm;have m9 : M <= 1000000000 := by omega
 have n8 := h.n8;have n1 := h.n1;have hfl : f.l.length = dg f := rfl;have hl : f.l.length <= 1000000000 := by omega
 refine za7 (za [] [0, 1, 2, 4, 5, 6, 11, 1000000]) Tryz.func104 rfl (by decide) Tryz.ntmps104 (Nat.le_of_ble_eq_true rfl) (fun base => ?_) (Nat.le_of_ble_eq_true rfl);refine W.sw (c' := cx [0, 1, 2, 4, 5, 6, 11, 1000000]) ?_;refine wrs fun K hK => ?_;conv => whnf
 refine ⟨rfl, ?_⟩;conv => whnf
 intro b_2 hs_2 hh_2 hf_2;try dsimp only at hh_2 hf_2
 conv => whnf
 refine hK _ ?_;clear hK K;refine W.seqK fun K1 hK1 => ?_;refine wrs fun K hK => ?_;conv => whnf
 refine zd rfl (zcA p k g f.l hl h.rn h.mon (by omega)) fun hs' hhs => ?_;try dsimp only at hhs
 conv => whnf
 refine hK _ ?_;clear hK K;refine wrs fun K hK => ?_;conv => whnf
 refine hK _ (W.cond ⟨fun hcc => absurd rfl (of_decide_eq_true hcc), fun _ => W.skip (hK1 _ ?_)⟩);clear hK K hK1 K1;refine W.sw (c' := cxt [253] [0, 1, 2, 4, 5, 6, 11, 1000000]) ?_;refine W.seqK fun K1 hK1 => W.sch follows ?_;refine Wany.take (za [253] []) 1 (by rfl) (by rfl) (fun d hd => by injection hd with hd; subst hd; decide) (by kernel_rfl) (by kernel_rfl) (by kernel_rfl) (by rfl) ?_;conv => whnf
 refine Wany.takeF (za [253] []) 2 (by rfl) (by rfl) (by rfl) (by rfl) (by decide) (by kernel_rfl) (by kernel_rfl) (by kernel_rfl) ?_;conv => whnf
 refine Wany.takeF (za [253] []) 4 (by rfl) (by rfl) (by rfl) (by rfl) (by decide) (by kernel_rfl) (by kernel_rfl) (by kernel_rfl) ?_;conv => whnf
 refine Wany.take (za [253] []) 6 (by rfl) (by rfl) (fun d hd => by injection hd with hd; subst hd; decide) (by kernel_rfl) (by kernel_rfl) (by kernel_rfl) (by rfl) ?_;conv => whnf
 refine Wany.all (za [253] []) (by rfl) (rs := [0, 3, 5]) (by kernel_rfl) (by decide) ?_;intro i hi;simp only [List.mem_cons, List.not_mem_nil, or_false] at hi
 rcases hi with rfl | rfl | rfl <;> refine ⟨_, by rfl, by rfl, ?_⟩ <;> conv => whnf
 ·refine Wany.two (za [253] []) 3 5 (by rfl) (by kernel_rfl) (by rfl) (by rfl) (by rfl) (by rfl) ?_ ?_ <;> conv => whnf
  ·refine Wany.one (za [253] []) 5 (by rfl) (by kernel_rfl) (by rfl) (by rfl) ?_;conv => whnf
   refine Wany.one (za [253] []) 7 (by rfl) (by kernel_rfl) (by rfl) (by rfl) ?_;conv => whnf
   refine zd rfl ((zq p (by omega) (by omega) g f.l ((yn m9 f).le (by omega)) (by omega)).toV) fun hs' hhs => ?_;try dsimp only at hhs
   conv => whnf
   rw [eF];refine Wany.one (za [253] []) 8 (by rfl) (by kernel_rfl) (by rfl) (by rfl) ?_;conv => whnf
   refine ⟨_, cxT (zU none (im p f) F hF hf0 (by omega)), fun lo_y hi_y hs_y x_y tn_y tb_y hl1_y hl2_y _ hp_y hf_y hn_y ho_y => ?_⟩;try dsimp only at hl1_y hl2_y
   obtain ⟨bs, rfl, hbs1, hbs2⟩ := hp_y;conv => whnf
   refine Wany.one (za [253] []) 9 (by rfl) (by kernel_rfl) (by rfl) (by rfl) ?_;conv => whnf
   refine ⟨⟨rfl, rfl⟩, ?_⟩;conv => whnf
   refine ⟨rfl, _, z6 h.rn.1 hm F f n L h hF hL g bs _ _ tb_y rfl (fun _ => rfl) (fun j hj => hn_y _ _ (hbs1 j hj)) hbs2, ?_⟩;rintro hs5 av x' t' hh5 ⟨rfl, cs, tb', rfl, rfl, c1, c2, c3, c4⟩ _ _ _;try dsimp only at hh5
   conv => whnf
   refine Wany.one (za [253] []) 10 (by rfl) (by kernel_rfl) (by rfl) (by rfl) ?_;conv => whnf
   refine Wany.one (za [253] []) 11 (by rfl) (by kernel_rfl) (by rfl) (by rfl) ?_;conv => whnf
   refine wd1 (hK1 _ ?_);clear hK1 K1;refine W.ret ?_;conv => whnf
   exact ⟨.v (vRF L cs), ⟨rfl, rfl, rfl, fun _ _ => rfl⟩, ⟨trivial, fun _ _ => trivial⟩, .v (.int .i64 0), ⟨rfl, rfl⟩, trivial, cs, rfl, fun j hj _ => c1 j hj, fun i j hi hj hij _ _ => c2 i j hi hj hij⟩
  ·refine Wany.two (za [253] []) 3 7 (by rfl) (by kernel_rfl) (by rfl) (by rfl) (by rfl) (by rfl) ?_ ?_ <;> conv => whnf
   ·refine Wany.one (za [253] []) 7 (by rfl) (by kernel_rfl) (by rfl) (by rfl) ?_;conv => whnf
    refine zd rfl ((zq p (by omega) (by omega) g f.l ((yn m9 f).le (by omega)) (by omega)).toV) fun hs' hhs => ?_;try dsimp only at hhs
    conv => whnf
    rw [eF];refine Wany.one (za [253] []) 8 (by rfl) (by kernel_rfl) (by rfl) (by rfl) ?_;conv => whnf
    refine ⟨_, cxT (zU none (im p f) F hF hf0 (by omega)), fun lo_y hi_y hs_y x_y tn_y tb_y hl1_y hl2_y _ hp_y hf_y hn_y ho_y => ?_⟩;try dsimp only at hl1_y hl2_y
    obtain ⟨bs, rfl, hbs1, hbs2⟩ := hp_y;conv => whnf
    refine Wany.one (za [253] []) 9 (by rfl) (by kernel_rfl) (by rfl) (by rfl) ?_;conv => whnf
    refine ⟨⟨rfl, rfl⟩, ?_⟩;conv => whnf
    refine ⟨rfl, _, z6 h.rn.1 hm F f n L h hF hL g bs _ _ tb_y rfl (fun _ => rfl) (fun j hj => hn_y _ _ (hbs1 j hj)) hbs2, ?_⟩;rintro hs5 av x' t' hh5 ⟨rfl, cs, tb', rfl, rfl, c1, c2, c3, c4⟩ _ _ _;try dsimp only at hh5
    conv => whnf
    refine Wany.one (za [253] []) 10 (by rfl) (by kernel_rfl) (by rfl) (by rfl) ?_;conv => whnf
    refine Wany.one (za [253] []) 11 (by rfl) (by kernel_rfl) (by rfl) (by rfl) ?_;conv => whnf
    refine wd1 (hK1 _ ?_);clear hK1 K1;refine W.ret ?_;conv => whnf
    exact ⟨.v (vRF L cs), ⟨rfl, rfl, rfl, fun _ _ => rfl⟩, ⟨trivial, fun _ _ => trivial⟩, .v (.int .i64 0), ⟨rfl, rfl⟩, trivial, cs, rfl, fun j hj _ => c1 j hj, fun i j hi hj hij _ _ => c2 i j hi hj hij⟩
   ·refine zd rfl ((zq p (by omega) (by omega) g f.l ((yn m9 f).le (by omega)) (by omega)).toV) fun hs' hhs => ?_;try dsimp only at hhs
    conv => whnf
    rw [eF];refine Wany.one (za [253] []) 3 (by rfl) (by kernel_rfl) (by rfl) (by rfl) ?_;conv => whnf
    refine Wany.one (za [253] []) 8 (by rfl) (by kernel_rfl) (by rfl) (by rfl) ?_;conv => whnf
    refine ⟨_, cxT (zU none (im p f) F hF hf0 (by omega)), fun lo_y hi_y hs_y x_y tn_y tb_y hl1_y hl2_y _ hp_y hf_y hn_y ho_y => ?_⟩;try dsimp only at hl1_y hl2_y
    obtain ⟨bs, rfl, hbs1, hbs2⟩ := hp_y;conv => whnf
    refine Wany.one (za [253] []) 9 (by rfl) (by kernel_rfl) (by rfl) (by rfl) ?_;conv => whnf
    refine ⟨⟨rfl, rfl⟩, ?_⟩;conv => whnf
    refine ⟨rfl, _, z6 h.rn.1 hm F f n L h hF hL g bs _ _ tb_y rfl (fun _ => rfl) (fun j hj => hn_y _ _ (hbs1 j hj)) hbs2, ?_⟩;rintro hs5 av x' t' hh5 ⟨rfl, cs, tb', rfl, rfl, c1, c2, c3, c4⟩ _ _ _;try dsimp only at hh5
    conv => whnf
    refine Wany.one (za [253] []) 10 (by rfl) (by kernel_rfl) (by rfl) (by rfl) ?_;conv => whnf
    refine Wany.one (za [253] []) 11 (by rfl) (by kernel_rfl) (by rfl) (by rfl) ?_;conv => whnf
    refine wd1 (hK1 _ ?_);clear hK1 K1;refine W.ret ?_;conv => whnf
    exact ⟨.v (vRF L cs), ⟨rfl, rfl, rfl, fun _ _ => rfl⟩, ⟨trivial, fun _ _ => trivial⟩, .v (.int .i64 0), ⟨rfl, rfl⟩, trivial, cs, rfl, fun j hj _ => c1 j hj, fun i j hi hj hij _ _ => c2 i j hi hj hij⟩
 ·refine Wany.two (za [253] []) 0 5 (by rfl) (by kernel_rfl) (by rfl) (by rfl) (by rfl) (by rfl) ?_ ?_ <;> conv => whnf
  ·refine Wany.one (za [253] []) 5 (by rfl) (by kernel_rfl) (by rfl) (by rfl) ?_;conv => whnf
   refine Wany.one (za [253] []) 7 (by rfl) (by kernel_rfl) (by rfl) (by rfl) ?_;conv => whnf
   refine zd rfl ((zq p (by omega) (by omega) g f.l ((yn m9 f).le (by omega)) (by omega)).toV) fun hs' hhs => ?_;try dsimp only at hhs
   conv => whnf
   rw [eF];refine Wany.one (za [253] []) 8 (by rfl) (by kernel_rfl) (by rfl) (by rfl) ?_;conv => whnf
   refine ⟨_, cxT (zU none (im p f) F hF hf0 (by omega)), fun lo_y hi_y hs_y x_y tn_y tb_y hl1_y hl2_y _ hp_y hf_y hn_y ho_y => ?_⟩;try dsimp only at hl1_y hl2_y
   obtain ⟨bs, rfl, hbs1, hbs2⟩ := hp_y;conv => whnf
   refine Wany.one (za [253] []) 9 (by rfl) (by kernel_rfl) (by rfl) (by rfl) ?_;conv => whnf
   refine ⟨⟨rfl, rfl⟩, ?_⟩;conv => whnf
   refine ⟨rfl, _, z6 h.rn.1 hm F f n L h hF hL g bs _ _ tb_y rfl (fun _ => rfl) (fun j hj => hn_y _ _ (hbs1 j hj)) hbs2, ?_⟩;rintro hs5 av x' t' hh5 ⟨rfl, cs, tb', rfl, rfl, c1, c2, c3, c4⟩ _ _ _;try dsimp only at hh5
   conv => whnf
   refine Wany.one (za [253] []) 10 (by rfl) (by kernel_rfl) (by rfl) (by rfl) ?_;conv => whnf
   refine Wany.one (za [253] []) 11 (by rfl) (by kernel_rfl) (by rfl) (by rfl) ?_;conv => whnf
   refine wd1 (hK1 _ ?_);clear hK1 K1;refine W.ret ?_;conv => whnf
   exact ⟨.v (vRF L cs), ⟨rfl, rfl, rfl, fun _ _ => rfl⟩, ⟨trivial, fun _ _ => trivial⟩, .v (.int .i64 0), ⟨rfl, rfl⟩, trivial, cs, rfl, fun j hj _ => c1 j hj, fun i j hi hj hij _ _ => c2 i j hi hj hij⟩
  ·refine Wany.two (za [253] []) 0 7 (by rfl) (by kernel_rfl) (by rfl) (by rfl) (by rfl) (by rfl) ?_ ?_ <;> conv => whnf
   ·refine Wany.one (za [253] []) 7 (by rfl) (by kernel_rfl) (by rfl) (by rfl) ?_;conv => whnf
    refine zd rfl ((zq p (by omega) (by omega) g f.l ((yn m9 f).le (by omega)) (by omega)).toV) fun hs' hhs => ?_;try dsimp only at hhs
    conv => whnf
    rw [eF];refine Wany.one (za [253] []) 8 (by rfl) (by kernel_rfl) (by rfl) (by rfl) ?_;conv => whnf
    refine ⟨_, cxT (zU none (im p f) F hF hf0 (by omega)), fun lo_y hi_y hs_y x_y tn_y tb_y hl1_y hl2_y _ hp_y hf_y hn_y ho_y => ?_⟩;try dsimp only at hl1_y hl2_y
    obtain ⟨bs, rfl, hbs1, hbs2⟩ := hp_y;conv => whnf
    refine Wany.one (za [253] []) 9 (by rfl) (by kernel_rfl) (by rfl) (by rfl) ?_;conv => whnf
    refine ⟨⟨rfl, rfl⟩, ?_⟩;conv => whnf
    refine ⟨rfl, _, z6 h.rn.1 hm F f n L h hF hL g bs _ _ tb_y rfl (fun _ => rfl) (fun j hj => hn_y _ _ (hbs1 j hj)) hbs2, ?_⟩;rintro hs5 av x' t' hh5 ⟨rfl, cs, tb', rfl, rfl, c1, c2, c3, c4⟩ _ _ _;try dsimp only at hh5
    conv => whnf
    refine Wany.one (za [253] []) 10 (by rfl) (by kernel_rfl) (by rfl) (by rfl) ?_;conv => whnf
    refine Wany.one (za [253] []) 11 (by rfl) (by kernel_rfl) (by rfl) (by rfl) ?_;conv => whnf
    refine wd1 (hK1 _ ?_);clear hK1 K1;refine W.ret ?_;conv => whnf
    exact ⟨.v (vRF L cs), ⟨rfl, rfl, rfl, fun _ _ => rfl⟩, ⟨trivial, fun _ _ => trivial⟩, .v (.int .i64 0), ⟨rfl, rfl⟩, trivial, cs, rfl, fun j hj _ => c1 j hj, fun i j hi hj hij _ _ => c2 i j hi hj hij⟩
   ·refine zd rfl ((zq p (by omega) (by omega) g f.l ((yn m9 f).le (by omega)) (by omega)).toV) fun hs' hhs => ?_;try dsimp only at hhs
    conv => whnf
    rw [eF];refine Wany.two (za [253] []) 0 8 (by rfl) (by kernel_rfl) (by rfl) (by rfl) (by rfl) (by rfl) ?_ ?_ <;> conv => whnf
    ·refine Wany.one (za [253] []) 8 (by rfl) (by kernel_rfl) (by rfl) (by rfl) ?_;conv => whnf
     refine ⟨_, cxT (zU none (im p f) F hF hf0 (by omega)), fun lo_y hi_y hs_y x_y tn_y tb_y hl1_y hl2_y _ hp_y hf_y hn_y ho_y => ?_⟩;try dsimp only at hl1_y hl2_y
     obtain ⟨bs, rfl, hbs1, hbs2⟩ := hp_y;conv => whnf
     refine Wany.one (za [253] []) 9 (by rfl) (by kernel_rfl) (by rfl) (by rfl) ?_;conv => whnf
     refine ⟨⟨rfl, rfl⟩, ?_⟩;conv => whnf
     refine ⟨rfl, _, z6 h.rn.1 hm F f n L h hF hL g bs _ _ tb_y rfl (fun _ => rfl) (fun j hj => hn_y _ _ (hbs1 j hj)) hbs2, ?_⟩;rintro hs5 av x' t' hh5 ⟨rfl, cs, tb', rfl, rfl, c1, c2, c3, c4⟩ _ _ _;try dsimp only at hh5
     conv => whnf
     refine Wany.one (za [253] []) 10 (by rfl) (by kernel_rfl) (by rfl) (by rfl) ?_;conv => whnf
     refine Wany.one (za [253] []) 11 (by rfl) (by kernel_rfl) (by rfl) (by rfl) ?_;conv => whnf
     refine wd1 (hK1 _ ?_);clear hK1 K1;refine W.ret ?_;conv => whnf
     exact ⟨.v (vRF L cs), ⟨rfl, rfl, rfl, fun _ _ => rfl⟩, ⟨trivial, fun _ _ => trivial⟩, .v (.int .i64 0), ⟨rfl, rfl⟩, trivial, cs, rfl, fun j hj _ => c1 j hj, fun i j hi hj hij _ _ => c2 i j hi hj hij⟩
    ·refine ⟨_, cxT (zU none (im p f) F hF hf0 (by omega)), fun lo_y hi_y hs_y x_y tn_y tb_y hl1_y hl2_y _ hp_y hf_y hn_y ho_y => ?_⟩;try dsimp only at hl1_y hl2_y
     obtain ⟨bs, rfl, hbs1, hbs2⟩ := hp_y;conv => whnf
     refine Wany.one (za [253] []) 0 (by rfl) (by kernel_rfl) (by rfl) (by rfl) ?_;conv => whnf
     refine Wany.one (za [253] []) 9 (by rfl) (by kernel_rfl) (by rfl) (by rfl) ?_;conv => whnf
     refine ⟨⟨rfl, rfl⟩, ?_⟩;conv => whnf
     refine ⟨rfl, _, z6 h.rn.1 hm F f n L h hF hL g bs _ _ tb_y rfl (fun _ => rfl) (fun j hj => hn_y _ _ (hbs1 j hj)) hbs2, ?_⟩;rintro hs5 av x' t' hh5 ⟨rfl, cs, tb', rfl, rfl, c1, c2, c3, c4⟩ _ _ _;try dsimp only at hh5
     conv => whnf
     refine Wany.one (za [253] []) 10 (by rfl) (by kernel_rfl) (by rfl) (by rfl) ?_;conv => whnf
     refine Wany.one (za [253] []) 11 (by rfl) (by kernel_rfl) (by rfl) (by rfl) ?_;conv => whnf
     refine wd1 (hK1 _ ?_);clear hK1 K1;refine W.ret ?_;conv => whnf
     exact ⟨.v (vRF L cs), ⟨rfl, rfl, rfl, fun _ _ => rfl⟩, ⟨trivial, fun _ _ => trivial⟩, .v (.int .i64 0), ⟨rfl, rfl⟩, trivial, cs, rfl, fun j hj _ => c1 j hj, fun i j hi hj hij _ _ => c2 i j hi hj hij⟩
 ·refine Wany.all (za [253] []) (by rfl) (rs := [0, 3, 7]) (by kernel_rfl) (by decide) ?_;intro i hi;simp only [List.mem_cons, List.not_mem_nil, or_false] at hi
  rcases hi with rfl | rfl | rfl <;> refine ⟨_, by rfl, by rfl, ?_⟩ <;> conv => whnf
  ·refine Wany.two (za [253] []) 3 7 (by rfl) (by kernel_rfl) (by rfl) (by rfl) (by rfl) (by rfl) ?_ ?_ <;> conv => whnf
   ·refine Wany.one (za [253] []) 7 (by rfl) (by kernel_rfl) (by rfl) (by rfl) ?_;conv => whnf
    refine zd rfl ((zq p (by omega) (by omega) g f.l ((yn m9 f).le (by omega)) (by omega)).toV) fun hs' hhs => ?_;try dsimp only at hhs
    conv => whnf
    rw [eF];refine Wany.one (za [253] []) 8 (by rfl) (by kernel_rfl) (by rfl) (by rfl) ?_;conv => whnf
    refine ⟨_, cxT (zU none (im p f) F hF hf0 (by omega)), fun lo_y hi_y hs_y x_y tn_y tb_y hl1_y hl2_y _ hp_y hf_y hn_y ho_y => ?_⟩;try dsimp only at hl1_y hl2_y
    obtain ⟨bs, rfl, hbs1, hbs2⟩ := hp_y;conv => whnf
    refine Wany.one (za [253] []) 9 (by rfl) (by kernel_rfl) (by rfl) (by rfl) ?_;conv => whnf
    refine ⟨⟨rfl, rfl⟩, ?_⟩;conv => whnf
    refine ⟨rfl, _, z6 h.rn.1 hm F f n L h hF hL g bs _ _ tb_y rfl (fun _ => rfl) (fun j hj => hn_y _ _ (hbs1 j hj)) hbs2, ?_⟩;rintro hs5 av x' t' hh5 ⟨rfl, cs, tb', rfl, rfl, c1, c2, c3, c4⟩ _ _ _;try dsimp only at hh5
    conv => whnf
    refine Wany.one (za [253] []) 10 (by rfl) (by kernel_rfl) (by rfl) (by rfl) ?_;conv => whnf
    refine Wany.one (za [253] []) 11 (by rfl) (by kernel_rfl) (by rfl) (by rfl) ?_;conv => whnf
    refine wd1 (hK1 _ ?_);clear hK1 K1;refine W.ret ?_;conv => whnf
    exact ⟨.v (vRF L cs), ⟨rfl, rfl, rfl, fun _ _ => rfl⟩, ⟨trivial, fun _ _ => trivial⟩, .v (.int .i64 0), ⟨rfl, rfl⟩, trivial, cs, rfl, fun j hj _ => c1 j hj, fun i j hi hj hij _ _ => c2 i j hi hj hij⟩
   ·refine zd rfl ((zq p (by omega) (by omega) g f.l ((yn m9 f).le (by omega)) (by omega)).toV) fun hs' hhs => ?_;try dsimp only at hhs
    conv => whnf
    rw [eF];refine Wany.one (za [253] []) 3 (by rfl) (by kernel_rfl) (by rfl) (by rfl) ?_;conv => whnf
    refine Wany.one (za [253] []) 8 (by rfl) (by kernel_rfl) (by rfl) (by rfl) ?_;conv => whnf
    refine ⟨_, cxT (zU none (im p f) F hF hf0 (by omega)), fun lo_y hi_y hs_y x_y tn_y tb_y hl1_y hl2_y _ hp_y hf_y hn_y ho_y => ?_⟩;try dsimp only at hl1_y hl2_y
    obtain ⟨bs, rfl, hbs1, hbs2⟩ := hp_y;conv => whnf
    refine Wany.one (za [253] []) 9 (by rfl) (by kernel_rfl) (by rfl) (by rfl) ?_;conv => whnf
    refine ⟨⟨rfl, rfl⟩, ?_⟩;conv => whnf
    refine ⟨rfl, _, z6 h.rn.1 hm F f n L h hF hL g bs _ _ tb_y rfl (fun _ => rfl) (fun j hj => hn_y _ _ (hbs1 j hj)) hbs2, ?_⟩;rintro hs5 av x' t' hh5 ⟨rfl, cs, tb', rfl, rfl, c1, c2, c3, c4⟩ _ _ _;try dsimp only at hh5
    conv => whnf
    refine Wany.one (za [253] []) 10 (by rfl) (by kernel_rfl) (by rfl) (by rfl) ?_;conv => whnf
    refine Wany.one (za [253] []) 11 (by rfl) (by kernel_rfl) (by rfl) (by rfl) ?_;conv => whnf
    refine wd1 (hK1 _ ?_);clear hK1 K1;refine W.ret ?_;conv => whnf
    exact ⟨.v (vRF L cs), ⟨rfl, rfl, rfl, fun _ _ => rfl⟩, ⟨trivial, fun _ _ => trivial⟩, .v (.int .i64 0), ⟨rfl, rfl⟩, trivial, cs, rfl, fun j hj _ => c1 j hj, fun i j hi hj hij _ _ => c2 i j hi hj hij⟩
  ·refine Wany.two (za [253] []) 0 7 (by rfl) (by kernel_rfl) (by rfl) (by rfl) (by rfl) (by rfl) ?_ ?_ <;> conv => whnf
   ·refine Wany.one (za [253] []) 7 (by rfl) (by kernel_rfl) (by rfl) (by rfl) ?_;conv => whnf
    refine zd rfl ((zq p (by omega) (by omega) g f.l ((yn m9 f).le (by omega)) (by omega)).toV) fun hs' hhs => ?_;try dsimp only at hhs
    conv => whnf
    rw [eF];refine Wany.one (za [253] []) 8 (by rfl) (by kernel_rfl) (by rfl) (by rfl) ?_;conv => whnf
    refine ⟨_, cxT (zU none (im p f) F hF hf0 (by omega)), fun lo_y hi_y hs_y x_y tn_y tb_y hl1_y hl2_y _ hp_y hf_y hn_y ho_y => ?_⟩;try dsimp only at hl1_y hl2_y
    obtain ⟨bs, rfl, hbs1, hbs2⟩ := hp_y;conv => whnf
    refine Wany.one (za [253] []) 9 (by rfl) (by kernel_rfl) (by rfl) (by rfl) ?_;conv => whnf
    refine ⟨⟨rfl, rfl⟩, ?_⟩;conv => whnf
    refine ⟨rfl, _, z6 h.rn.1 hm F f n L h hF hL g bs _ _ tb_y rfl (fun _ => rfl) (fun j hj => hn_y _ _ (hbs1 j hj)) hbs2, ?_⟩;rintro hs5 av x' t' hh5 ⟨rfl, cs, tb', rfl, rfl, c1, c2, c3, c4⟩ _ _ _;try dsimp only at hh5
    conv => whnf
    refine Wany.one (za [253] []) 10 (by rfl) (by kernel_rfl) (by rfl) (by rfl) ?_;conv => whnf
    refine Wany.one (za [253] []) 11 (by rfl) (by kernel_rfl) (by rfl) (by rfl) ?_;conv => whnf
    refine wd1 (hK1 _ ?_);clear hK1 K1;refine W.ret ?_;conv => whnf
    exact ⟨.v (vRF L cs), ⟨rfl, rfl, rfl, fun _ _ => rfl⟩, ⟨trivial, fun _ _ => trivial⟩, .v (.int .i64 0), ⟨rfl, rfl⟩, trivial, cs, rfl, fun j hj _ => c1 j hj, fun i j hi hj hij _ _ => c2 i j hi hj hij⟩
   ·refine zd rfl ((zq p (by omega) (by omega) g f.l ((yn m9 f).le (by omega)) (by omega)).toV) fun hs' hhs => ?_;try dsimp only at hhs
    conv => whnf
    rw [eF];refine Wany.two (za [253] []) 0 8 (by rfl) (by kernel_rfl) (by rfl) (by rfl) (by rfl) (by rfl) ?_ ?_ <;> conv => whnf
    ·refine Wany.one (za [253] []) 8 (by rfl) (by kernel_rfl) (by rfl) (by rfl) ?_;conv => whnf
     refine ⟨_, cxT (zU none (im p f) F hF hf0 (by omega)), fun lo_y hi_y hs_y x_y tn_y tb_y hl1_y hl2_y _ hp_y hf_y hn_y ho_y => ?_⟩;try dsimp only at hl1_y hl2_y
     obtain ⟨bs, rfl, hbs1, hbs2⟩ := hp_y;conv => whnf
     refine Wany.one (za [253] []) 9 (by rfl) (by kernel_rfl) (by rfl) (by rfl) ?_;conv => whnf
     refine ⟨⟨rfl, rfl⟩, ?_⟩;conv => whnf
     refine ⟨rfl, _, z6 h.rn.1 hm F f n L h hF hL g bs _ _ tb_y rfl (fun _ => rfl) (fun j hj => hn_y _ _ (hbs1 j hj)) hbs2, ?_⟩;rintro hs5 av x' t' hh5 ⟨rfl, cs, tb', rfl, rfl, c1, c2, c3, c4⟩ _ _ _;try dsimp only at hh5
     conv => whnf
     refine Wany.one (za [253] []) 10 (by rfl) (by kernel_rfl) (by rfl) (by rfl) ?_;conv => whnf
     refine Wany.one (za [253] []) 11 (by rfl) (by kernel_rfl) (by rfl) (by rfl) ?_;conv => whnf
     refine wd1 (hK1 _ ?_);clear hK1 K1;refine W.ret ?_;conv => whnf
     exact ⟨.v (vRF L cs), ⟨rfl, rfl, rfl, fun _ _ => rfl⟩, ⟨trivial, fun _ _ => trivial⟩, .v (.int .i64 0), ⟨rfl, rfl⟩, trivial, cs, rfl, fun j hj _ => c1 j hj, fun i j hi hj hij _ _ => c2 i j hi hj hij⟩
    ·refine ⟨_, cxT (zU none (im p f) F hF hf0 (by omega)), fun lo_y hi_y hs_y x_y tn_y tb_y hl1_y hl2_y _ hp_y hf_y hn_y ho_y => ?_⟩;try dsimp only at hl1_y hl2_y
     obtain ⟨bs, rfl, hbs1, hbs2⟩ := hp_y;conv => whnf
     refine Wany.one (za [253] []) 0 (by rfl) (by kernel_rfl) (by rfl) (by rfl) ?_;conv => whnf
     refine Wany.one (za [253] []) 9 (by rfl) (by kernel_rfl) (by rfl) (by rfl) ?_;conv => whnf
     refine ⟨⟨rfl, rfl⟩, ?_⟩;conv => whnf
     refine ⟨rfl, _, z6 h.rn.1 hm F f n L h hF hL g bs _ _ tb_y rfl (fun _ => rfl) (fun j hj => hn_y _ _ (hbs1 j hj)) hbs2, ?_⟩;rintro hs5 av x' t' hh5 ⟨rfl, cs, tb', rfl, rfl, c1, c2, c3, c4⟩ _ _ _;try dsimp only at hh5
     conv => whnf
     refine Wany.one (za [253] []) 10 (by rfl) (by kernel_rfl) (by rfl) (by rfl) ?_;conv => whnf
     refine Wany.one (za [253] []) 11 (by rfl) (by kernel_rfl) (by rfl) (by rfl) ?_;conv => whnf
     refine wd1 (hK1 _ ?_);clear hK1 K1;refine W.ret ?_;conv => whnf
     exact ⟨.v (vRF L cs), ⟨rfl, rfl, rfl, fun _ _ => rfl⟩, ⟨trivial, fun _ _ => trivial⟩, .v (.int .i64 0), ⟨rfl, rfl⟩, trivial, cs, rfl, fun j hj _ => c1 j hj, fun i j hi hj hij _ _ => c2 i j hi hj hij⟩
  ·refine zd rfl ((zq p (by omega) (by omega) g f.l ((yn m9 f).le (by omega)) (by omega)).toV) fun hs' hhs => ?_;try dsimp only at hhs
   conv => whnf
   rw [eF];refine Wany.two (za [253] []) 0 3 (by rfl) (by kernel_rfl) (by rfl) (by rfl) (by rfl) (by rfl) ?_ ?_ <;> conv => whnf
   ·refine Wany.one (za [253] []) 3 (by rfl) (by kernel_rfl) (by rfl) (by rfl) ?_;conv => whnf
    refine Wany.one (za [253] []) 8 (by rfl) (by kernel_rfl) (by rfl) (by rfl) ?_;conv => whnf
    refine ⟨_, cxT (zU none (im p f) F hF hf0 (by omega)), fun lo_y hi_y hs_y x_y tn_y tb_y hl1_y hl2_y _ hp_y hf_y hn_y ho_y => ?_⟩;try dsimp only at hl1_y hl2_y
    obtain ⟨bs, rfl, hbs1, hbs2⟩ := hp_y;conv => whnf
    refine Wany.one (za [253] []) 9 (by rfl) (by kernel_rfl) (by rfl) (by rfl) ?_;conv => whnf
    refine ⟨⟨rfl, rfl⟩, ?_⟩;conv => whnf
    refine ⟨rfl, _, z6 h.rn.1 hm F f n L h hF hL g bs _ _ tb_y rfl (fun _ => rfl) (fun j hj => hn_y _ _ (hbs1 j hj)) hbs2, ?_⟩;rintro hs5 av x' t' hh5 ⟨rfl, cs, tb', rfl, rfl, c1, c2, c3, c4⟩ _ _ _;try dsimp only at hh5
    conv => whnf
    refine Wany.one (za [253] []) 10 (by rfl) (by kernel_rfl) (by rfl) (by rfl) ?_;conv => whnf
    refine Wany.one (za [253] []) 11 (by rfl) (by kernel_rfl) (by rfl) (by rfl) ?_;conv => whnf
    refine wd1 (hK1 _ ?_);clear hK1 K1;refine W.ret ?_;conv => whnf
    exact ⟨.v (vRF L cs), ⟨rfl, rfl, rfl, fun _ _ => rfl⟩, ⟨trivial, fun _ _ => trivial⟩, .v (.int .i64 0), ⟨rfl, rfl⟩, trivial, cs, rfl, fun j hj _ => c1 j hj, fun i j hi hj hij _ _ => c2 i j hi hj hij⟩
   ·refine Wany.two (za [253] []) 0 8 (by rfl) (by kernel_rfl) (by rfl) (by rfl) (by rfl) (by rfl) ?_ ?_ <;> conv => whnf
    ·refine Wany.one (za [253] []) 8 (by rfl) (by kernel_rfl) (by rfl) (by rfl) ?_;conv => whnf
     refine ⟨_, cxT (zU none (im p f) F hF hf0 (by omega)), fun lo_y hi_y hs_y x_y tn_y tb_y hl1_y hl2_y _ hp_y hf_y hn_y ho_y => ?_⟩;try dsimp only at hl1_y hl2_y
     obtain ⟨bs, rfl, hbs1, hbs2⟩ := hp_y;conv => whnf
     refine Wany.one (za [253] []) 9 (by rfl) (by kernel_rfl) (by rfl) (by rfl) ?_;conv => whnf
     refine ⟨⟨rfl, rfl⟩, ?_⟩;conv => whnf
     refine ⟨rfl, _, z6 h.rn.1 hm F f n L h hF hL g bs _ _ tb_y rfl (fun _ => rfl) (fun j hj => hn_y _ _ (hbs1 j hj)) hbs2, ?_⟩;rintro hs5 av x' t' hh5 ⟨rfl, cs, tb', rfl, rfl, c1, c2, c3, c4⟩ _ _ _;try dsimp only at hh5
     conv => whnf
     refine Wany.one (za [253] []) 10 (by rfl) (by kernel_rfl) (by rfl) (by rfl) ?_;conv => whnf
     refine Wany.one (za [253] []) 11 (by rfl) (by kernel_rfl) (by rfl) (by rfl) ?_;conv => whnf
     refine wd1 (hK1 _ ?_);clear hK1 K1;refine W.ret ?_;conv => whnf
     exact ⟨.v (vRF L cs), ⟨rfl, rfl, rfl, fun _ _ => rfl⟩, ⟨trivial, fun _ _ => trivial⟩, .v (.int .i64 0), ⟨rfl, rfl⟩, trivial, cs, rfl, fun j hj _ => c1 j hj, fun i j hi hj hij _ _ => c2 i j hi hj hij⟩
    ·refine ⟨_, cxT (zU none (im p f) F hF hf0 (by omega)), fun lo_y hi_y hs_y x_y tn_y tb_y hl1_y hl2_y _ hp_y hf_y hn_y ho_y => ?_⟩;try dsimp only at hl1_y hl2_y
     obtain ⟨bs, rfl, hbs1, hbs2⟩ := hp_y;conv => whnf
     refine Wany.one (za [253] []) 0 (by rfl) (by kernel_rfl) (by rfl) (by rfl) ?_;conv => whnf
     refine Wany.one (za [253] []) 9 (by rfl) (by kernel_rfl) (by rfl) (by rfl) ?_;conv => whnf
     refine ⟨⟨rfl, rfl⟩, ?_⟩;conv => whnf
     refine ⟨rfl, _, z6 h.rn.1 hm F f n L h hF hL g bs _ _ tb_y rfl (fun _ => rfl) (fun j hj => hn_y _ _ (hbs1 j hj)) hbs2, ?_⟩;rintro hs5 av x' t' hh5 ⟨rfl, cs, tb', rfl, rfl, c1, c2, c3, c4⟩ _ _ _;try dsimp only at hh5
     conv => whnf
     refine Wany.one (za [253] []) 10 (by rfl) (by kernel_rfl) (by rfl) (by rfl) ?_;conv => whnf
     refine Wany.one (za [253] []) 11 (by rfl) (by kernel_rfl) (by rfl) (by rfl) ?_;conv => whnf
     refine wd1 (hK1 _ ?_);clear hK1 K1;refine W.ret ?_;conv => whnf
     exact ⟨.v (vRF L cs), ⟨rfl, rfl, rfl, fun _ _ => rfl⟩, ⟨trivial, fun _ _ => trivial⟩, .v (.int .i64 0), ⟨rfl, rfl⟩, trivial, cs, rfl, fun j hj _ => c1 j hj, fun i j hi hj hij _ _ => c2 i j hi hj hij⟩
-- 15 ways

/- the reference -/
theorem zjf (p k : Int) (g : Option Nat) (l : List Int) (hl : l.length <= 1000000000) (h1 : ¬ xz p k l) : FnV 105 [vR p k, .ints g l] (.tup [vLL [], .int .i64 1]) := by
 refine zf (zb [0, 1, 2, 4, 5, 6, 7, 8, 9, 10, 14, 17, 20, 31]) Tryz.func105 rfl (by decide) Tryz.ntmps105 (Nat.le_of_ble_eq_true rfl) fun base => ?_;refine wrs fun K hK => ?_;conv => whnf
 refine ⟨rfl, ?_⟩;conv => whnf
 intro b_2 hs_2 hh_2 hf_2;try dsimp only at hh_2 hf_2
 conv => whnf
 refine hK _ ?_;clear hK K;refine W.seqK fun K1 hK1 => ?_;refine wrs fun K hK => ?_;conv => whnf
 refine zd rfl ((ym p k g l hl).fa (zu h1)) fun hs' hhs => ?_;try dsimp only at hhs
 conv => whnf
 refine hK _ (W.condT rfl ?_);clear hK K;refine wrs fun K hK => ?_;conv => whnf
 refine hK _ ?_;clear hK K;refine W.ret ?_;conv => whnf
 exact ⟨.v (vLL []), rfl, ⟨trivial, fun _ _ => trivial⟩, .v (.int .i64 1), ⟨rfl, rfl⟩, trivial, rfl⟩
theorem zjg (p k : Int) (g : Option Nat) (l : List Int) (hl : l.length <= 1000000000) (h1 : xz p k l) (h2 : ¬ xL l) : FnV 105 [vR p k, .ints g l] (.tup [vLL [], .int .i64 5]) := by
 refine zf (zb [0, 1, 2, 4, 5, 6, 7, 8, 9, 10, 14, 17, 20, 31]) Tryz.func105 rfl (by decide) Tryz.ntmps105 (Nat.le_of_ble_eq_true rfl) fun base => ?_;refine wrs fun K hK => ?_;conv => whnf
 refine ⟨rfl, ?_⟩;conv => whnf
 intro b_2 hs_2 hh_2 hf_2;try dsimp only at hh_2 hf_2
 conv => whnf
 refine hK _ ?_;clear hK K;refine W.seqK fun K1 hK1 => ?_;refine wrs fun K hK => ?_;conv => whnf
 refine zd rfl ((ym p k g l hl).tr (zx h1)) fun hs' hhs => ?_;try dsimp only at hhs
 conv => whnf
 refine hK _ (W.condF rfl (W.skip (hK1 _ ?_)));clear hK K hK1 K1;refine W.seqK fun K1 hK1 => ?_;refine wrs fun K hK => ?_;conv => whnf
 refine zd rfl ((xj g l hl).fa (zu h2)) fun hs' hhs => ?_;try dsimp only at hhs
 conv => whnf
 refine hK _ (W.condT rfl ?_);clear hK K;refine wrs fun K hK => ?_;conv => whnf
 refine hK _ ?_;clear hK K;refine W.ret ?_;conv => whnf
 exact ⟨.v (vLL []), rfl, ⟨trivial, fun _ _ => trivial⟩, .v (.int .i64 5), ⟨rfl, rfl⟩, trivial, rfl⟩
theorem zjh (p k : Int) (g : Option Nat) (l : List Int) (hl : l.length <= 1000000000) (h1 : xz p k l) (h2 : xL l) (h3 : l.length < 2) : FnV 105 [vR p k, .ints g l] (.tup [vLL [], .int .i64 4]) := by
 refine zf (zb [0, 1, 2, 4, 5, 6, 7, 8, 9, 10, 14, 17, 20, 31]) Tryz.func105 rfl (by decide) Tryz.ntmps105 (Nat.le_of_ble_eq_true rfl) fun base => ?_;refine wrs fun K hK => ?_;conv => whnf
 refine ⟨rfl, ?_⟩;conv => whnf
 intro b_2 hs_2 hh_2 hf_2;try dsimp only at hh_2 hf_2
 conv => whnf
 refine hK _ ?_;clear hK K;refine W.seqK fun K1 hK1 => ?_;refine wrs fun K hK => ?_;conv => whnf
 refine zd rfl ((ym p k g l hl).tr (zx h1)) fun hs' hhs => ?_;try dsimp only at hhs
 conv => whnf
 refine hK _ (W.condF rfl (W.skip (hK1 _ ?_)));clear hK K hK1 K1;refine W.seqK fun K1 hK1 => ?_;refine wrs fun K hK => ?_;conv => whnf
 refine zd rfl ((xj g l hl).tr (zx h2)) fun hs' hhs => ?_;try dsimp only at hhs
 conv => whnf
 refine hK _ (W.condF rfl (W.skip (hK1 _ ?_)));clear hK K hK1 K1;refine W.seqK fun K1 hK1 => ?_;refine wrs fun K hK => ?_;conv => whnf
 refine hK _ (W.cond ⟨fun _ => ?_, fun hcc => absurd (by omega) (of_decide_eq_false hcc)⟩);clear hK K;refine wrs fun K hK => ?_;conv => whnf
 refine hK _ ?_;clear hK K;refine W.ret ?_;conv => whnf
 exact ⟨.v (vLL []), rfl, ⟨trivial, fun _ _ => trivial⟩, .v (.int .i64 4), ⟨rfl, rfl⟩, trivial, rfl⟩

theorem zeK {α : Type} {d x : α} {L : List α} {j : Nat} (h : j < L.length) : (L ++ [x]).getD j d = L.getD j d := by
 rw [List.getD_eq_getElem?_getD, List.getD_eq_getElem?_getD, List.getElem?_append_left h]
theorem zeL {α : Type} {d x : α} {L : List α} : (L ++ [x]).getD L.length d = x := by
 rw [List.getD_eq_getElem?_getD, List.getElem?_append_right (Nat.le_refl _), Nat.sub_self]; rfl

theorem zji {f : Poly M} {n : Nat} (h : LfP p k M f n) (g : Option Nat) {F : List (Poly p × Nat)} (hF : zJ (im p f) F) (hFne : F ≠ []) {L : List (List Int)} (hL : LA p k F f L) : FnV 105 [vR p k, .ints g f.l] (.tup [vLL L, .int .i64 0]) := by
 obtain ⟨s1, s2, s3, s4, s5, s6⟩ := h.rn.1.small;obtain ⟨i1, i2, hf0, eF, i5⟩ := h.img;have hm := h.hm;have m9 : M <= 1000000000 := by omega
 have n8 := h.n8;have n1 := h.n1;have hfl : f.l.length = dg f := rfl;have hl : f.l.length <= 1000000000 := by omega
 have hFn := hF.facs.few hf0;have hLl := LA.len _ _ _ hL;refine zf (zb [0, 1, 2, 4, 5, 6, 7, 8, 9, 10, 14, 17, 20, 31]) Tryz.func105 rfl (by decide) Tryz.ntmps105 (Nat.le_of_ble_eq_true rfl) fun base => ?_;refine wrs fun K hK => ?_;conv => whnf
 refine ⟨rfl, ?_⟩;conv => whnf
 intro b_2 hs_2 hh_2 hf_2;try dsimp only at hh_2 hf_2
 conv => whnf
 refine hK _ ?_;clear hK K;refine W.seqK fun K1 hK1 => ?_;refine wrs fun K hK => ?_;conv => whnf
 refine zd rfl ((ym p k g f.l hl).tr (zx h.rn)) fun hs' hhs => ?_;try dsimp only at hhs
 conv => whnf
 refine hK _ (W.condF rfl (W.skip (hK1 _ ?_)));clear hK K hK1 K1;refine W.seqK fun K1 hK1 => ?_;refine wrs fun K hK => ?_;conv => whnf
 refine zd rfl ((xj g f.l hl).tr (zx h.mon)) fun hs' hhs => ?_;try dsimp only at hhs
 conv => whnf
 refine hK _ (W.condF rfl (W.skip (hK1 _ ?_)));clear hK K hK1 K1;refine W.seqK fun K1 hK1 => ?_;refine wrs fun K hK => ?_;conv => whnf
 refine hK _ (W.cond ⟨fun hcc => absurd (of_decide_eq_true hcc) (by omega), fun _ => W.skip (hK1 _ ?_)⟩);clear hK K hK1 K1;refine wrs fun K hK => ?_;conv => whnf
 refine ⟨⟨rfl, by decide, fun x hx => by simp at hx⟩, ?_⟩;conv => whnf
 intro b_6 hs_6 hh_6 hf_6;try dsimp only at hh_6 hf_6
 conv => whnf
 refine hK _ ?_;clear hK K;refine wrs fun K hK => ?_;conv => whnf
 refine hK _ ?_;clear hK K;refine W.block (W.invA (fun m e => ∃ (F' : List (Poly p × Nat)) (f' : Poly M) (n' : Nat) (L1 L' : List (List Int)) (g' : Option Nat) (b : Nat), F' ≠ [] ∧ LfP p k M f' n' ∧ zJ (im p f') F' ∧ LA p k F' f' L' ∧ L = L1 ++ L' ∧ m = F'.length ∧ e = [(2, .ownB b_2 (vR p k)), (6, .ownV 24 1 b L1.length fun j => .ints none (L1.getD j [])), (7, .v (.ints g' f'.l))]) ⟨F, f, n, [], L, g, b_6, hFne, h, hF, hL, rfl, rfl, rfl⟩ ?_);rintro m e ⟨F', f', n', L1, L', g', b, hne', h', hF', hL', rfl, hmm, rfl⟩;rw [List.length_append] at hLl;have hf9 := h'.rn.2.1;refine W.block ?_
 match F', hF', hL', hmm, hne' with
 | [], _, _, _, hne' => exact absurd rfl hne'
 | [x], hF', hL', hmm, _ =>
  obtain rfl : L' = [f'.l] := hL';refine wrs fun K hK => ?_;conv => whnf
  refine zd rfl (zeH h' g' hF') fun hs' hhs => ?_;try dsimp only at hhs
  conv => whnf
  refine hK _ ?_;clear hK K;refine W.seqK fun K1 hK1 => ?_;refine wrs fun K hK => ?_;conv => whnf
  refine hK _ (W.cond ⟨fun _ => ?_, fun hcc => absurd (by decide : (4 : Int) ≠ 0) (of_decide_eq_false hcc)⟩);clear hK K;refine wrs fun K hK => ?_;conv => whnf
  refine zh rfl (zeu g' f'.l (by omega)) fun hs_3 b_3 hh_3 hf_3 => ?_;try dsimp only at hh_3 hf_3
  conv => whnf
  refine ⟨⟨rfl, by decide, fun x hx => by simp at hx; subst hx; exact ⟨rfl, rfl⟩⟩, ?_⟩;conv => whnf
  intro b_4 hs_4 hh_4 hf_4;try dsimp only at hh_4 hf_4
  conv => whnf
  refine ⟨by omega, ?_⟩;conv => whnf
  refine ⟨fun j => .ints none ((L1 ++ [f'.l]).getD j []), fun j hj => by show V.ints none _ = V.ints none _; rw [zeK hj], fun j hj => by (obtain rfl : j = 0 := (by omega)); show V.ints none ((L1 ++ [f'.l]).getD (L1.length + 0) []) = V.ints none f'.l; rw [Nat.add_zero, zeL], ?_⟩;intro b_5 hs_5 hh_5 hf_5;try dsimp only at hh_5 hf_5
  conv => whnf
  refine hK _ ?_;clear hK K;refine W.ret ?_;conv => whnf
  exact ⟨.v (vLL (L1 ++ [f'.l])), ⟨.inl rfl, rfl, by simp, fun _ _ => rfl⟩, ⟨trivial, fun _ _ => trivial⟩, .v (.int .i64 0), ⟨rfl, rfl⟩, trivial, rfl⟩
 | x :: y :: F', hF', hL', hmm, _ =>
  obtain ⟨a, b', S, T, u, G, H, L2, hfs, hP, h9, hLt, hHf, hHF, rfl, hLr⟩ := hL';have hL2 := LA.len _ _ _ hLr;refine wrs fun K hK => ?_;conv => whnf
  refine zd rfl (zh9 h' g' hF' hfs hP h9 hLt) fun hs' hhs => ?_;try dsimp only at hhs
  conv => whnf
  refine hK _ ?_;clear hK K;refine W.seqK fun K1 hK1 => ?_;refine wrs fun K hK => ?_;conv => whnf
  refine hK _ (W.cond ⟨fun hcc => absurd rfl (of_decide_eq_true hcc), fun _ => W.skip (hK1 _ ?_)⟩);clear hK K hK1 K1;refine wrs fun K hK => ?_;conv => whnf
  refine ⟨⟨rfl, by decide, fun x hx => by simp at hx; subst hx; exact ⟨rfl, rfl⟩⟩, ?_⟩;conv => whnf
  intro b_4 hs_4 hh_4 hf_4;try dsimp only at hh_4 hf_4
  conv => whnf
  refine ⟨by omega, ?_⟩;conv => whnf
  refine ⟨fun j => .ints none ((L1 ++ [G.l]).getD j []), fun j hj => by show V.ints none _ = V.ints none _; rw [zeK hj], fun j hj => by (obtain rfl : j = 0 := (by omega)); show V.ints none ((L1 ++ [G.l]).getD (L1.length + 0) []) = V.ints none G.l; rw [Nat.add_zero, zeL], ?_⟩;intro b_5 hs_5 hh_5 hf_5;try dsimp only at hh_5 hf_5
  conv => whnf
  refine hK _ ?_;clear hK K;refine wrg ?_;conv => whnf
  refine ⟨_, _, ⟨y :: F', H, b', L1 ++ [G.l], L2, none, b_5, by simp, hHf, hHF, hLr, by simp, rfl, rfl⟩, by rw [hmm]; simp, by dsimp only; omega, ?_⟩
  repeat' first | refine And.intro ?_ ?_ | exact trivial | rfl | omega | exact .inl rfl | exact fun _ _ => rfl | exact fun _ _ h => h | simp
end


/- degrees -/






theorem zeM {n : Nat} {c : Nat -> Int} (hc : Byt n c) : zkQ 186 [] n c (fun r => ∃ q : Int, r = .int .i64 q ∧ q ∈ ([1, 4, 0, 97, 101, -3, 9, 2, 3, 5, 7, 11, 13, 17, 31] : List Int)) := by
 rintro b x hx;refine xN (cx := cxt [] [0, 2, 5, 1000000, 1000001]) (za [] [0, 2, 5, 1000000, 1000001]) Tryz.func186 rfl (by decide) Tryz.ntmps186 (Nat.le_of_ble_eq_true rfl) (Nat.le_of_ble_eq_true rfl) rfl rfl fun base hs0 O U hw v0 hb0 => ?_;refine W.sw (c' := cx [0, 2, 5, 1000000, 1000001]) ?_;refine wrs fun K hK => ?_;conv => whnf
 refine hK _ ?_;clear hK K;refine W.seqK fun K1 hK1 => ?_;refine wrs fun K hK => ?_;conv => whnf
 refine ⟨⟨rfl, rfl⟩, ?_⟩;conv => whnf
 refine ⟨rfl, _, (yp hc 24 (by constructor <;> decide) b x hx), ?_⟩;rintro hs_ms1 av x' t' hh_ms1 ⟨rfl, ⟨x1, hx1, rfl⟩, _, rfl, ⟨q, rfl, q0, q1, q2⟩⟩ _ _ _;try dsimp only at hh_ms1
 conv => whnf
 refine hK _ (W.cond ⟨fun h => ?_, fun h => ?_⟩) <;> clear hK K
 ·refine wrs fun K hK => ?_;conv => whnf
  refine ⟨⟨rfl, by decide⟩, ?_⟩;conv => whnf
  intro b_7 hs_7 hh_7 hf_7;try dsimp only at hh_7 hf_7
  conv => whnf
  refine ⟨⟨rfl, rfl⟩, ?_⟩;conv => whnf
  refine ⟨rfl, _, (jm hc none [1, 4, 0, 97, 101, -3, 9] ⟨by decide, by decide⟩ b x1 hx1), ?_⟩;rintro hs_ms2 av x' t' hh_ms2 ⟨rfl, ⟨x2, hx2, rfl⟩, _, rfl, ⟨r, rfl, hr⟩⟩ _ _ _;try dsimp only at hh_ms2
  conv => whnf
  refine hK _ ?_;clear hK K
  have hr2 : r ∈ ([1, 4, 0, 97, 101, -3, 9, 2, 3, 5, 7, 11, 13, 17, 31] : List Int) := by
   simp only [List.mem_cons, List.not_mem_nil, or_false] at hr ⊢
   omega
  refine W.ret ?_;conv => whnf
  refine ⟨by dsimp only; omega, ?_⟩;conv => whnf
  refine ⟨rfl, ?_⟩;conv => whnf
  refine ⟨.int .i64 r, ⟨rfl, rfl⟩, ?_⟩;conv => whnf
  exact ⟨.ownB b (x2), ⟨rfl, rfl⟩, .inr ⟨rfl, rfl⟩, .dead, trivial, rfl, rfl, rfl, ⟨x2, hx2, rfl⟩, _, rfl, ⟨r, rfl, hr2⟩⟩
 refine W.skip (hK1 _ ?_);clear hK1 K1;refine wrs fun K hK => ?_;conv => whnf
 refine ⟨⟨rfl, by decide⟩, ?_⟩;conv => whnf
 intro b_7 hs_7 hh_7 hf_7;try dsimp only at hh_7 hf_7
 conv => whnf
 refine ⟨⟨rfl, rfl⟩, ?_⟩;conv => whnf
 refine ⟨rfl, _, (jm hc none [2, 3, 5, 7, 2, 3, 5, 11, 13, 17, 31] ⟨by decide, by decide⟩ b x1 hx1), ?_⟩;rintro hs_ms2 av x' t' hh_ms2 ⟨rfl, ⟨x2, hx2, rfl⟩, _, rfl, ⟨r, rfl, hr⟩⟩ _ _ _;try dsimp only at hh_ms2
 conv => whnf
 refine hK _ ?_;clear hK K
 have hr2 : r ∈ ([1, 4, 0, 97, 101, -3, 9, 2, 3, 5, 7, 11, 13, 17, 31] : List Int) := by
  simp only [List.mem_cons, List.not_mem_nil, or_false] at hr ⊢
  omega
 refine W.ret ?_;conv => whnf
 refine ⟨by dsimp only; omega, ?_⟩;conv => whnf
 refine ⟨rfl, ?_⟩;conv => whnf
 refine ⟨.int .i64 r, ⟨rfl, rfl⟩, ?_⟩;conv => whnf
 exact ⟨.ownB b (x2), ⟨rfl, rfl⟩, .inr ⟨rfl, rfl⟩, .dead, trivial, rfl, rfl, rfl, ⟨x2, hx2, rfl⟩, _, rfl, ⟨r, rfl, hr2⟩⟩







def znF (f : Nat) (xs : List V) (n : Nat) (c : Nat -> Int) (Q : List Int -> Prop) : Prop :=
 ∀ (b : Nat) (x : V), zbS n c x -> MFn Tryz.prog f (.nil :: xs) 0 (.ownB b x) .dead (fun _ av x' t' => t' = .dead ∧ (∃ x1, zbS n c x1 ∧ x' = .ownB b x1) ∧ ∃ bo L, av = .ownI 2 bo L ∧ Q L)

theorem W.invS {P : Program} {c : Cx} {N base : Nat} {x : Code} {QQ : Exit -> S -> Prop} {s : S} (I : Nat -> Env -> Nat -> Prop) (m0 : Nat) (e0 : Env) (h0 : Nat) (hi : I m0 e0 h0) (hb : ∀ m e h, I m e h -> base <= h) (hh : h0 <= s.hs) (hc : zC s.env e0)
  (round : ∀ m e h, I m e h -> W P c N base x (Ex (fun s' => ∃ m' e' h', I m' e' h' ∧ m' < m ∧ h' <= s'.hs ∧ zC s'.env e') QQ) ⟨e, h⟩) : W P c N base (.loop x) QQ s :=
 W.inv (fun m s => I m s.env s.hs) m0 ⟨e0, h0⟩ hi ⟨hh, hc⟩ (fun m s h => hb _ _ _ h) fun m s h => by
  obtain ⟨e, hs⟩ := s;refine (round m e hs h).mono fun ex s' hq => ?_;cases ex with
  | normal => obtain ⟨m', e', h', h1, h2, h3, h4⟩ := hq; exact ⟨m', ⟨e', h'⟩, h1, h2, h3, h4⟩
  | _ => exact hq




theorem RT.toV {f : Nat} {xs : List V} {l : List Int} {c : Int} (h : FnT Tryz.prog f xs (RT l c)) : FnV f xs (.tup [.ints none l, .int .i64 c]) :=
 FnT.toV h fun _ _ x tb hx => by
  obtain ⟨b, rfl, hb⟩ := hx;refine ⟨_, rfl, rfl, fun j hj => ?_⟩
  match j, hj with
  | 0, _ => exact ⟨l, rfl, hb, rfl⟩
  | 1, _ => rfl

def vG (x : List Int × Int) : V := .agg [.ints none x.1, .int .i64 x.2]
def gd (F : List (List Int × Int)) (j : Nat) : List Int × Int := F.getD j ([], 0)
def vGs (F : List (List Int × Int)) : V := .vals none 2 F.length fun j => vG (gd F j)
noncomputable def badG (p : Int) (x : List Int × Int) : Bool := if bP (y8 p x.1) = true then !decide (1 <= x.2 ∧ x.2 <= 8) else true
def toG {p : Int} [SP p] (x : Poly p × Nat) : List Int × Int := (x.1.l, x.2)
theorem zmF {p : Int} [SP p] (F : List (Poly p × Nat)) (j : Nat) : gd (F.map toG) j = toG (F.getD j (0, 0)) := by
 unfold gd;rw [List.getD_eq_getElem?_getD, List.getD_eq_getElem?_getD, List.getElem?_map];cases F[j]? with
 | none => simp only [Option.map_none, Option.getD_none, toG, jz]; rfl
 | some x => rfl
theorem zj4 {p : Int} [SP p] (F : List (Poly p × Nat)) : vFs F = vGs (F.map toG) := by
 unfold vFs vGs;rw [List.length_map]
 congr 1
 funext j
 rw [zmF]; rfl

def okG (p : Int) (F : List (List Int × Int)) : Prop := isP p = true ∧ ∀ j, j < F.length -> badG p (gd F j) = false
def PoA (p : Int) (F : List (List Int × Int)) (r0 : List Int) (r1 : Int) : Prop := (¬ okG p F -> r0 = [] ∧ r1 = 1) ∧ (okG p F -> 8 < F.length -> r0 = [] ∧ r1 = 3) ∧
 (okG p F -> F.length <= 8 -> ∃ hp : p ∈ yx, letI := jC hp; ∃ G : List (Poly p × Nat), F = G.map toG ∧ r0 = (if 9 < dg (zc3 G G.length) then [] else (zc3 G G.length).l) ∧ r1 = if 9 < dg (zc3 G G.length) then 3 else 0)

open Go Go.RowKit Go.ChangeShapes Go.WideShapes Go.ChangeAt Go.Proofs Go.Proofs.YtlmckocbhcpmdaaGreat

theorem zmG {P : Program} {f : Nat} {xs : List V} {r : V} {w : World} {vs : Array Value} (h : Fn P f xs (fun _ _ a => a = .v r)) (hl : vs.size = xs.length)
  (hr : ∀ j, j < xs.length -> Rep (zfv w) w.heap (xs.getD j .nil) (vs.getD j undef)) :
  Calls P f vs w fun e w' => ∃ v, e = .returned v ∧ Below w.heap.size w w' ∧ Rep (okR (fun _ => False) w'.heap.size) w'.heap r v := by
 refine (h.2 (fun _ => False) w vs (fun _ h => h.elim) hl hr).mono fun e w' ⟨v, av, hi, h1, h2, h3, h4, h5⟩ => ?_;subst h3;obtain ⟨_, h6, _⟩ := h5;refine ⟨v, h1, h4, ?_⟩;exact Rep.mono h6 fun g b hb => ⟨⟨hb.1, fun h => h.elim, hb.2.2⟩, rfl⟩

theorem ownP : ownKnob Tryz.prog.godebug = none := by kernel_rfl
theorem zmH : laidOutB Tryz.prog = true := by kernel_rfl
open Go Go.RowKit Go.ChangeShapes Go.WideShapes Go.ChangeAt Go.Proofs Go.Proofs.YtlmckocbhcpmdaaGreat

section
variable {H : Type} {enc : TypeId × Value -> H} {P : Program} {w : World}
def zn7 (xs : List V) : Prop := ∃ n : Int, xs = [.int .u8 n] ∧ 0 <= n ∧ n <= 255
theorem zoy {n : Int} (h : (Lit.int .u8 n).wf = true) : 0 <= n ∧ n <= 255 := by
 simp only [Lit.wf, Bool.and_eq_true, decide_eq_true_eq] at h
 have h1 : IntKind.u8.min = 0 := rfl;have h2 : IntKind.u8.max = 255 := rfl;omega
theorem zmI {t : TypeId} (ht : P.underlying t = some (.int .u8)) : zhs enc P w t 1 zn7 := by
 intro fuel cs d ps h;obtain ⟨n, hc, hx, hw⟩ := DataW.trod_int ht h;subst hc;refine ⟨rfl, _, ⟨n, rfl, zoy hw⟩, rfl, by simp [V.isCell], fun j hj => ?_⟩;obtain rfl : j = 0 := by omega
 exact .int _ _
theorem zmJ {xs : List V} (h : ziE 1 zdX zn7 xs) : ∃ (n : Nat) (c : Nat -> Int), (∀ i, 0 <= c i ∧ c i <= 255) ∧ xs.length = 1 ∧ ∀ ok h' v, Rep ok h' (xs.getD 0 .nil) v -> Rep ok h' (vBy n c) v := by
 obtain ⟨n, f, rfl, _, hf⟩ := h
 have hf2 : ∀ i, ∃ z : Int, (0 <= z ∧ z <= 255) ∧ (i < n -> f i = .int .u8 z) := by
  intro i
  by_cases hi : i < n
  ·obtain ⟨ys, ⟨z, rfl, hz⟩, e⟩ := hf i hi;exact ⟨z, hz, fun _ => e⟩
  ·exact ⟨0, by omega, fun h => absurd h hi⟩
 refine ⟨n, fun i => Classical.choose (hf2 i), fun i => (Classical.choose_spec (hf2 i)).1, rfl, fun ok h' v r => zfh (x := .vals none 1 n f) ⟨rfl, rfl, rfl, fun i hi => (Classical.choose_spec (hf2 i)).2 hi⟩ r⟩
end
theorem zmK {P : Program} {f : Nat} {xs : List V} {w : World} {vs : Array Value} (h : Fn P f xs (fun _ _ a => a = .v (.bool true))) (hl : vs.size = xs.length)
  (hr : ∀ j, j < xs.length -> Rep (zfv w) w.heap (xs.getD j .nil) (vs.getD j undef)) :
  Calls P f vs w fun e w' => e = .returned (.bool true) ∧ Below w.heap.size w w' :=
 (zmG h hl hr).mono fun e w' ⟨v, h1, h2, h3⟩ => by
  cases h3
  exact ⟨h1, h2⟩
theorem zns : Tryz.prog.cellsOf 5 = 1 := by kernel_rfl
theorem zjj {H : Type} {enc : TypeId × Value -> H} {W : World} : zhs enc Tryz.prog W 22 1 (ziE 1 zdX zn7) :=
 zhu Tryz.underlying22 zns (fun xs h1 h2 => zm4 xs h1 h2) (zmI Tryz.underlying5)



theorem zc6 (D : List (List Int)) (hl : D.length <= 1000000) (hd : ∀ j, (D.getD j []).length <= 1000000) : FnV 70 [vLL D, vLL D] .tr := by
 refine zf (zb [0, 1, 4, 5, 10, 14, 26]) Tryz.func70 rfl (by decide) Tryz.ntmps70 (Nat.le_of_ble_eq_true rfl) fun base => ?_;refine wrs fun K hK => ?_;conv => whnf
 refine hK _ ?_;clear hK K;refine W.seqK fun K1 hK1 => wrs fun K hK => ?_;conv => whnf
 refine hK _ (W.cond ⟨fun hcc => absurd rfl (of_decide_eq_true hcc), fun _ => W.skip (hK1 _ ?_)⟩);clear hK K hK1 K1;refine W.seqK fun K1 hK1 => wrs fun K hK => ?_;conv => whnf
 refine hK _ (W.block (W.invA (fun m e => ∃ i : Nat, i <= D.length ∧ m = D.length - i ∧ e = [(0, .v (vLL D)), (1, .v (vLL D)), (5, .v (.int .i64 i))]) ⟨0, Nat.zero_le _, rfl, rfl⟩ ?_));clear hK K;rintro m e ⟨i, h1, hm, rfl⟩;refine W.seqK fun K7 hK7 => wrs fun K hK => ?_;conv => whnf
 refine hK _ (W.cond ⟨fun h3 => ?_, fun h3 => ?_⟩) <;> clear hK K <;> (first | replace h3 := of_decide_eq_true h3 | replace h3 := of_decide_eq_false h3)
 ·refine W.skip (hK7 _ ?_);clear hK7 K7;refine W.seqK fun K8 hK8 => W.block ?_;have hdi := hd i;refine W.rgh follows fun K hK => ?_;refine Wgh.take (zb []) 0 (by rfl) (fun d hd => by injection hd with hd; subst hd; decide) (by kernel_rfl) (by kernel_rfl) (by rfl) ?_;conv => whnf
  refine Wgh.take (zb []) 1 (by rfl) (fun d hd => by injection hd with hd; subst hd; decide) (by kernel_rfl) (by kernel_rfl) (by rfl) ?_;conv => whnf
  refine Wgh.take (zb []) 2 (by rfl) (fun d hd => by injection hd with hd; subst hd; decide) (by kernel_rfl) (by kernel_rfl) (by rfl) ?_;conv => whnf
  refine ⟨oo, ?_⟩;conv => whnf
  refine Wgh.take (zb []) 3 (by rfl) (fun d hd => by injection hd with hd; subst hd; decide) (by kernel_rfl) (by kernel_rfl) (by rfl) ?_;conv => whnf
  refine Wgh.take (zb []) 4 (by rfl) (fun d hd => by injection hd with hd; subst hd; decide) (by kernel_rfl) (by kernel_rfl) (by rfl) ?_;conv => whnf
  refine Wgh.take (zb []) 5 (by rfl) (fun d hd => by injection hd with hd; subst hd; decide) (by kernel_rfl) (by kernel_rfl) (by rfl) ?_;conv => whnf
  refine Wgh.take (zb []) 6 (by rfl) (fun d hd => by injection hd with hd; subst hd; decide) (by kernel_rfl) (by kernel_rfl) (by rfl) ?_;conv => whnf
  refine ⟨oo, ?_⟩;conv => whnf
  refine Wgh.take (zb []) 7 (by rfl) (fun d hd => by injection hd with hd; subst hd; decide) (by kernel_rfl) (by kernel_rfl) (by rfl) ?_;conv => whnf
  refine Wgh.one (zb []) 8 [] (by rfl) (by kernel_rfl) (by kernel_rfl) (by kernel_rfl) (by rfl) (by kernel_rfl) ⟨(by (conv => whnf); exact ⟨Nat.le_refl _, rfl⟩), (by (conv => whnf); refine ⟨by first | assumption | omega | exact ⟨by omega, by omega⟩, ?_⟩; (conv => whnf); exact ⟨Nat.le_refl _, rfl⟩), (by (conv => whnf); exact ⟨Nat.le_refl _, rfl⟩), (by (conv => whnf); exact ⟨Nat.le_refl _, rfl⟩), (by (conv => whnf); exact ⟨Nat.le_refl _, rfl⟩), (by (conv => whnf); refine ⟨by first | assumption | omega | exact ⟨by omega, by omega⟩, ?_⟩; (conv => whnf); exact ⟨Nat.le_refl _, rfl⟩), (by (conv => whnf); exact ⟨Nat.le_refl _, rfl⟩), (by (conv => whnf); exact ⟨Nat.le_refl _, rfl⟩), trivial⟩ ?_;conv => whnf
  refine zd rfl (xH _ _ (D.getD i []) (by omega)) fun hs' hhs => ?_;try dsimp only at hhs
  conv => whnf
  refine Wgh.take (zb []) 9 (by rfl) (fun d hd => by injection hd with hd; subst hd; decide) (by kernel_rfl) (by kernel_rfl) (by rfl) ?_;conv => whnf
  refine Wgh.done (zb []) (by rfl) (by kernel_rfl) (by kernel_rfl) (by kernel_rfl) ⟨(by (conv => whnf); exact ⟨Nat.le_refl _, rfl⟩), trivial⟩ (hK _ ?_);clear hK K;refine W.condF rfl (W.skip (hK8 _ ?_));clear hK8 K8;refine wrg ?_;conv => whnf
  refine ⟨oo, ?_⟩;conv => whnf
  exact zo ⟨i + 1, by omega, rfl, rfl⟩
 ·refine W.exit (hK1 _ ?_);clear hK7 K7 hK1 K1;refine wrs fun K hK => ?_;conv => whnf
  refine hK _ ?_;clear hK K;refine W.ret ?_;conv => whnf
  exact ⟨.v (.tr), rfl, trivial, rfl⟩


theorem RTS.toV {f : Nat} {xs : List V} {L : List (List Int)} {c : Int} (h : FnT Tryz.prog f xs (RTS L c)) : FnV f xs (.tup [vLL L, .int .i64 c]) := by
 refine ⟨h.1, fun D w vs hD hl hr => ?_⟩;refine (h.2 D w vs hD hl hr).mono ?_;rintro e w' ⟨v, x, tb, hi, rfl, hhi, ⟨bs, rfl, hb2, _⟩, hb, h1, h2, h3⟩;refine ⟨v, .v _, hi, rfl, hhi, rfl, hb, rfl, ?_, fun b hb => hb.elim⟩;have hm : ∀ g b, okR (fun b => D b ∨ tb b ≠ none) w'.heap.size g b -> okR (fun b => D b ∨ False) w'.heap.size g b ∧ w'.heap[b]? = w'.heap[b]? := fun g b hb => ⟨⟨hb.1, fun h => hb.2.1 (h.elim .inl False.elim), hb.2.2⟩, rfl⟩
 show Rep (okR (fun b => D b ∨ False) w'.heap.size) w'.heap _ v
 cases h1 with
 | tup _ vs' hl' hr' =>
  refine .tup _ vs' (by simpa using hl') fun j hj => ?_
  match j, hj with
  | 0, _ =>
   have h4 := hr' 0 (by simp)
   have h5 : Rep (okR (fun b => D b ∨ False) w'.heap.size) w'.heap (vLL L) (vs'.getD 0 undef) := by
    generalize vs'.getD 0 undef = u at h4;have h4 : Rep (okR (fun b => D b ∨ tb b ≠ none) w'.heap.size) w'.heap (vRF L bs) u := h4;have h6 : ∀ i, i < L.length -> uC tb (.rf (bs i) (L.getD i []).length) (.ints none (L.getD i [])) := fun i hi => ⟨_, rfl, hb2 i hi, rfl⟩
    cases h4 with
    | vals _ _ _ _ a cap hc hmx hl' hf' cc hx hr' =>
     refine .vals none 1 L.length _ a cap hc hmx (fun i hi => by rw [(zbz (h6 i hi)).1]; exact hl' i hi) (fun i hi => by rw [(zbz (h6 i hi)).2]; exact hf' i hi) cc (fun i j hi hj => ?_) fun i j hi hj => ?_
     ·obtain ⟨b, o, cur, e, fr, k1, k2, k3, k4⟩ := hx i j hi hj;exact ⟨b, o, cur, e, fr, k1, (hm _ _ k2).1, k3, k4⟩
     ·rcases zjC (h6 i hi) j with h7 | h7
      ·exact zbA hD h2 h3 h7 (hr' i j hi hj)
      ·rw [h7]; exact (hr' i j hi hj).mono hm
   exact h5
  | 1, _ => exact (hr' 1 (by simp)).mono hm
  | j + 2, hj => simp at hj; omega



def FewG (G : List (List Int × Int)) : Prop := ∀ x ∈ G, x.1.length <= 20

theorem zia {p k M : Int} [Pos M] (h : y9 p k) (hm : p ^ k.toNat = M) (m9 : M <= 1000000000) (g g' : Option Nat) (X Y : Poly M) (hX : dg X <= 8) (hY : dg Y <= 9) : FnI 262 [vR p k, .ints g X.l, .ints g' Y.l] (X * Y).l := by
 have hp := Pos.pos (p := M);have hXl : X.l.length = dg X := rfl;have hYl : Y.l.length = dg Y := rfl;have hml : (z0 X.l Y.l).length <= 2000 := by rw [z0, zS]; omega
 have hml2 := yA (z0 X.l Y.l);refine zf (zb [0, 1, 2, 3, 6]) Tryz.func262 rfl (by decide) Tryz.ntmps262 (Nat.le_of_ble_eq_true rfl) fun base => ?_;refine wrs fun K hK => ?_;conv => whnf
 refine ⟨rfl, ?_⟩;conv => whnf
 intro b_1 hs_1 hh_1 hf_1;try dsimp only at hh_1 hf_1
 conv => whnf
 refine hK _ ?_;clear hK K;refine wrs fun K hK => ?_;conv => whnf
 refine zd rfl (zcy h hm) fun hs' hhs => ?_;try dsimp only at hhs
 conv => whnf
 refine zh rfl (xh g g' X.l Y.l 999999999 999999999 (by omega) (by omega) (yn m9 X) (yn m9 Y) (by rw [hXl]; omega) (by omega) (by omega)) fun hs_2 b_2 hh_2 hf_2 => ?_;try dsimp only at hh_2 hf_2
 conv => whnf
 refine zh rfl (jS M (by omega) (by omega) (some b_2) (zj (z0 X.l Y.l)) (znp m9 X Y hX) (by omega)) fun hs_3 b_3 hh_3 hf_3 => ?_;try dsimp only at hh_3 hf_3
 conv => whnf
 refine hK _ ?_;clear hK K;refine W.ret ?_;conv => whnf
 exact ⟨.ownI 2 _ ((X * Y).l), ⟨rfl, rfl, vq _ _⟩, trivial, _, rfl⟩

section
variable {p k M : Int} [SP p] [Pos M]
def PR (p : Int) [SP p] {M : Int} [Pos M] : List (List Int) -> Poly M -> Nat -> Prop
 | [], Q, b => Q = 1 ∧ b = 0
 | l :: L, Q, b => ∃ (G Q' : Poly M) (d b' : Nat) (x : Poly p × Nat), l = G.l ∧ Q = G * Q' ∧ b = d + b' ∧ Mn G d ∧ 1 <= d ∧ Mn Q' b' ∧ im p G = x.1 ^ x.2 ∧ Irr x.1 ∧ Mon x.1 ∧ 1 <= x.2 ∧ PR p L Q' b'
theorem LfP.m1 {f : Poly M} {n : Nat} (h : LfP p k M f n) : 1 < M := by
 have := h.ple;have := Pr.two (p := p);omega
theorem LfP.kk {f : Poly M} {n : Nat} (h : LfP p k M f n) : p ^ (k.toNat - 1 + 1) = M := by
 obtain ⟨s1, s2, s3, s4, s5, s6⟩ := h.rn.1.small;rw [show k.toNat - 1 + 1 = k.toNat by omega]; exact h.hm
theorem LA.pr : ∀ (F : List (Poly p × Nat)) (f : Poly M) (n : Nat) (L : List (List Int)), LfP p k M f n -> zJ (im p f) F -> LA p k F f L -> PR p L f n
 | [], _, _, _, _, _, h => h.elim
 | [x], f, n, L, h, hF, hL => by
  obtain rfl : L = [f.l] := hL;obtain ⟨i1, i2, _⟩ := h.img;obtain ⟨a, b, c, _⟩ := (hF.2 x).1 (by simp);exact ⟨f, 1, n, 0, x, rfl, zg [f] (by rfl), rfl, h.mn, h.n1, zi0 h.m1, ziZ i2 hF, a, b, c, rfl, rfl⟩
 | x :: y :: F, f, n, L, h, hF, hL => by
  obtain ⟨a, b, S, T, u, G, H, L', hf, hP, h9, hA, hH, hHF, rfl, hr⟩ := hL;have he := hA.prod hP h.m1 hf.eq h.kk;have ih := LA.pr (y :: F) H b L' hH hHF hr;obtain ⟨c1, c2, c3, _⟩ := (hF.2 x).1 (by simp);have h1 := h.mn.1;have h2 := (hA.inv.mg.mul h.m1 hA.inv.mh).1;rw [<- he] at h2;exact ⟨G, H, a, b, x, rfl, he, by omega, hA.inv.mg, hP.a1, hA.inv.mh, hA.inv.ig, c1, c2, c3, ih⟩
end

theorem zk1 (rp rq : Int) (f : List Int) (hf : f.length <= 1048576) : ∃ (r0 : List (List Int)) (r1 : Int), (∀ g1 : Option Nat, FnV 105 [vR rp rq, .ints g1 f] (.tup [vLL r0, .int .i64 r1])) ∧
  (∀ g1 : Option Nat, FnT Tryz.prog 104 [vR rp rq, .ints g1 f] (RTS r0 r1)) ∧ r0.length <= 100000 ∧ (∀ j, (r0.getD j []).length <= 100000) ∧
  (r1 = 0 -> ∃ hp : rp ∈ yx, letI := jC hp; ∃ (M : Int) (_ : Pos M) (X : Poly M) (n : Nat), X.l = f ∧ LfP rp rq M X n ∧ PR rp r0 X n) := by
 by_cases h1 : xz rp rq f
 case neg => exact ⟨[], 1, fun g => zjf rp rq g f (by omega) h1, fun g => zbn rp rq g f 1 (by decide) (zfQ rp rq g f (by omega) h1), by simp, by simp, fun h => absurd h (by decide)⟩
 by_cases h2 : xL f
 case neg => exact ⟨[], 5, fun g => zjg rp rq g f (by omega) h1 h2, fun g => zbn rp rq g f 5 (by decide) (zfR rp rq g f (by omega) h1 h2), by simp, by simp, fun h => absurd h (by decide)⟩
 by_cases h3 : f.length < 2
 case pos => exact ⟨[], 4, fun g => zjh rp rq g f (by omega) h1 h2 h3, fun g => zbn rp rq g f 4 (by decide) (zfS rp rq g f (by omega) h1 h2 h3), by simp, by simp, fun h => absurd h (by decide)⟩
 obtain ⟨hp, hx⟩ := zj3 h1 h2 (by omega);letI := jC hp;obtain ⟨M, _, X, n, rfl, h⟩ := hx;obtain ⟨i1, i2, hf0, eF, i5⟩ := h.img;have n1 := h.n1;have n8 := h.n8;obtain ⟨F, hF⟩ := zbg hf0;have hne := zeq hf0 (by omega) hF;have hFn := hF.facs.few hf0;obtain ⟨L, hL, hl1, hl2⟩ := zfT F X n h hF hne;exact ⟨L, 0, fun g => zji h g hF hne hL, fun g => zje h g hF hL, by omega, fun j => Nat.le_trans (hl2 j) (by omega), fun _ => ⟨hp, M, ‹_›, X, n, rfl, h, LA.pr F X n L h hF hL⟩⟩

theorem zjk (rp rq : Int) (f : List Int) (hf : f.length <= 1048576) : ∃ (r0 : List Int) (r1 : List Int) (r2 : Int), (∀ g1 : Option Nat, FnV 108 [vR rp rq, .ints g1 f] (.tup [.ints none r0, .ints none r1, .int .i64 r2])) ∧
  (∀ g1 : Option Nat, FnT Tryz.prog 107 [vR rp rq, .ints g1 f] (RT3 r0 r1 r2)) ∧ r0.length <= 1000000 ∧ r1.length <= 1000000 ∧
  (r2 = 0 -> ∃ hp : rp ∈ yx, letI := jC hp; ∃ (M : Int) (_ : Pos M) (X G H : Poly M) (n a b : Nat), X.l = f ∧ LfP rp rq M X n ∧ r0 = G.l ∧ r1 = H.l ∧ X = G * H ∧ Mn G a ∧ Mn H b ∧ 1 <= a ∧ 1 <= b ∧ a + b <= 8) := by
 by_cases h1 : xz rp rq f
 case neg => exact ⟨[], [], 1, fun g => zmB rp rq g f (by omega) h1, fun g => zeI rp rq g f 1 (by decide) (zfQ rp rq g f (by omega) h1), by simp, by simp, fun h => absurd h (by decide)⟩
 by_cases h2 : xL f
 case neg => exact ⟨[], [], 5, fun g => zmC rp rq g f (by omega) h1 h2, fun g => zeI rp rq g f 5 (by decide) (zfR rp rq g f (by omega) h1 h2), by simp, by simp, fun h => absurd h (by decide)⟩
 by_cases h3 : f.length < 2
 case pos => exact ⟨[], [], 4, fun g => zmD rp rq g f (by omega) h1 h2 h3, fun g => zeI rp rq g f 4 (by decide) (zfS rp rq g f (by omega) h1 h2 h3), by simp, by simp, fun h => absurd h (by decide)⟩
 obtain ⟨hp, hx⟩ := zj3 h1 h2 (by omega);letI := jC hp;obtain ⟨M, _, X, n, rfl, h⟩ := hx;obtain ⟨i1, i2, hf0, eF, i5⟩ := h.img;have n1 := h.n1;obtain ⟨F, hF⟩ := zbg hf0
 match F, hF with
 | [], hF => exact absurd rfl (zeq hf0 (by omega) hF)
 | [x], hF => exact ⟨[], [], 4, fun g => zeH h g hF, fun g => zjd h g hF, by simp, by simp, fun h => absurd h (by decide)⟩
 | x :: y :: F, hF =>
  obtain ⟨u, hf⟩ := zep i2 hF;obtain ⟨a, b, S, T, hP, h9⟩ := h.pair hf;obtain ⟨G, H, hL⟩ := zaL hP (rq.toNat - 1);have hG := hL.inv.mg.1;have hH := hL.inv.mh.1;refine ⟨G.l, H.l, 0, fun g => zh9 h g hF hf hP h9 hL, fun g => zmE h g hF hf hP h9 hL, ?_, ?_, fun _ => ⟨hp, M, ‹_›, X, G, H, n, a, b, rfl, h, rfl, rfl, hL.prod hP h.m1 hf.eq h.kk, hL.inv.mg, hL.inv.mh, hP.a1, hP.b1, h9⟩⟩
  ·show dg G <= _; omega
  ·show dg H <= _; omega

theorem RT3.toV {f : Nat} {xs : List V} {l m : List Int} {c : Int} (h : FnT Tryz.prog f xs (RT3 l m c)) : FnV f xs (.tup [.ints none l, .ints none m, .int .i64 c]) :=
 FnT.toV h fun _ _ x tb hx => by
  obtain ⟨b, b', rfl, hb, hb', _⟩ := hx;refine ⟨_, rfl, rfl, fun j hj => ?_⟩
  match j, hj with
  | 0, _ => exact ⟨l, rfl, hb, rfl⟩
  | 1, _ => exact ⟨m, rfl, hb', rfl⟩
  | 2, _ => rfl
theorem zmL {p k M : Int} [Pos M] (hr : y9 p k) (hm : p ^ k.toNat = M) (F : Poly M) (h : dg F <= 9) : xz p k F.l :=
 ⟨hr, h, fun j _ => by have := xU F j; rw [hm]; omega, by
  by_cases h0 : F.l.length = 0
  ·exact .inl h0
  ·exact .inr (F.ok.2 _ (by omega))⟩
theorem jU {p k M : Int} [Pos M] (hr : y9 p k) (hm : p ^ k.toNat = M) (g g' : Option Nat) (F G : Poly M) (hF : dg F <= 8) (hG : dg G <= 9) (h9 : dg (F * G) <= 9) : FnV 109 [vR p k, .ints g F.l, .ints g' G.l] (.tup [.ints none (F * G).l, .int .i64 0]) := by
 obtain ⟨s1, s2, s3, s4, s5, s6⟩ := hr.small;have hfl : F.l.length = dg F := rfl;have hgl : G.l.length = dg G := rfl;have hpl : (F * G).l.length = dg (F * G) := rfl;refine zf (zb [0, 1, 2, 3, 6, 7, 8, 18, 25]) Tryz.func109 rfl (by decide) Tryz.ntmps109 (Nat.le_of_ble_eq_true rfl) fun base => ?_;refine wrs fun K hK => ?_;conv => whnf
 refine ⟨rfl, ?_⟩;conv => whnf
 intro b_3 hs_3 hh_3 hf_3;try dsimp only at hh_3 hf_3
 conv => whnf
 refine hK _ ?_;clear hK K;refine W.seqK fun K1 hK1 => ?_;refine wrs fun K hK => ?_;conv => whnf
 refine zd rfl ((xk p k g F.l (by omega)).tr (zx (zmL hr hm F (by omega)))) fun hs' hhs => ?_;try dsimp only at hhs
 conv => whnf
 refine zd rfl ((xk p k g' G.l (by omega)).tr (zx (zmL hr hm G (by omega)))) fun hs' hhs => ?_;try dsimp only at hhs
 conv => whnf
 refine hK _ (W.condF rfl (W.skip (hK1 _ ?_)));clear hK K hK1 K1;refine wrs fun K hK => ?_;conv => whnf
 refine zh rfl (zia hr hm (by omega) g g' F G (by omega) (by omega)) fun hs_8 b_8 hh_8 hf_8 => ?_;try dsimp only at hh_8 hf_8
 conv => whnf
 refine hK _ ?_;clear hK K;refine W.seqK fun K1 hK1 => ?_;refine wrs fun K hK => ?_;conv => whnf
 refine hK _ (W.cond ⟨fun h => absurd (of_decide_eq_true h) (by omega), fun _ => W.skip (hK1 _ ?_)⟩);clear hK K hK1 K1;refine wrs fun K hK => ?_;conv => whnf
 refine hK _ ?_;clear hK K;refine W.ret ?_;conv => whnf
 exact ⟨.v (.ints none (F * G).l), ⟨rfl, rfl⟩, trivial, .v (.int .i64 0), ⟨rfl, rfl⟩, trivial, rfl⟩
theorem zjl {p k M : Int} [SP p] [Pos M] (hr : y9 p k) (hm : p ^ k.toNat = M) (g : Option Nat) (F : Poly M) (hF : dg F <= 9) : FnV 110 [vR p k, .ints g F.l] (.tup [.ints none (im p F).l, .int .i64 0]) := by
 obtain ⟨s1, s2, s3, s4, s5, s6⟩ := hr.small;have hfl : F.l.length = dg F := rfl;refine zf (zb [0, 1, 2, 4, 5, 9]) Tryz.func110 rfl (by decide) Tryz.ntmps110 (Nat.le_of_ble_eq_true rfl) fun base => ?_;refine wrs fun K hK => ?_;conv => whnf
 refine ⟨rfl, ?_⟩;conv => whnf
 intro b_2 hs_2 hh_2 hf_2;try dsimp only at hh_2 hf_2
 conv => whnf
 refine hK _ ?_;clear hK K;refine W.seqK fun K1 hK1 => ?_;refine wrs fun K hK => ?_;conv => whnf
 refine zd rfl ((xk p k g F.l (by omega)).tr (zx (zmL hr hm F (by omega)))) fun hs' hhs => ?_;try dsimp only at hhs
 conv => whnf
 refine hK _ (W.condF rfl (W.skip (hK1 _ ?_)));clear hK K hK1 K1;refine wrs fun K hK => ?_;conv => whnf
 refine zh rfl (zq p (by omega) (by omega) g F.l ((yn (by omega) F).le (by omega)) (by omega)) fun hs_4 b_4 hh_4 hf_4 => ?_;try dsimp only at hh_4 hf_4
 conv => whnf
 refine hK _ ?_;clear hK K;refine W.ret ?_;conv => whnf
 exact ⟨.v (.ints none (im p F).l), ⟨.inl rfl, rfl⟩, trivial, .v (.int .i64 0), ⟨rfl, rfl⟩, trivial, rfl⟩


theorem zjm {n : Nat} {c : Nat -> Int} (hc : Byt n c) : zkQ 379 [] n c (fun r => ∃ p k : Int, r = vR p k ∧ y9 p k ∧ p <= 13 ∧ k <= 6) := by
 rintro b x hx;refine xN (cx := cxt [] [0, 2, 3, 4, 14, 1000000, 1000001]) (za [] [0, 2, 3, 4, 14, 1000000, 1000001]) Tryz.func379 rfl (by decide) Tryz.ntmps379 (Nat.le_of_ble_eq_true rfl) (Nat.le_of_ble_eq_true rfl) rfl rfl fun base hs0 O U hw v0 hb0 => ?_;refine W.sw (c' := cx [0, 2, 3, 4, 14, 1000000, 1000001]) ?_;refine wrs fun K hK => ?_;conv => whnf
 intro b_2 hs_2 hh_2 hf_2;try dsimp only at hh_2 hf_2
 conv => whnf
 refine hK _ ?_;clear hK K;refine wrs fun K hK => ?_;conv => whnf
 refine ⟨⟨rfl, by decide⟩, ?_⟩;conv => whnf
 intro b_7 hs_7 hh_7 hf_7;try dsimp only at hh_7 hf_7
 conv => whnf
 refine ⟨⟨rfl, rfl⟩, ?_⟩;conv => whnf
 refine ⟨rfl, _, (jm hc none [2, 3, 5, 7, 2, 3, 5, 11, 13] ⟨by decide, by decide⟩ b x hx), ?_⟩;rintro hs_ms1 av x' t' hh_ms1 ⟨rfl, ⟨x1, hx1, rfl⟩, _, rfl, ⟨p, rfl, hp⟩⟩ _ _ _;try dsimp only at hh_ms1
 conv => whnf
 refine hK _ ?_;clear hK K;refine wrs fun K hK => ?_;conv => whnf
 refine ⟨⟨rfl, rfl⟩, ?_⟩;conv => whnf
 refine ⟨rfl, _, (yp hc 6 (by constructor <;> decide) b x1 hx1), ?_⟩;rintro hs_ms2 av x' t' hh_ms2 ⟨rfl, ⟨x2, hx2, rfl⟩, _, rfl, ⟨q, rfl, q0, q1, _⟩⟩ _ _ _;try dsimp only at hh_ms2
 conv => whnf
 have q6 := q1 (by decide);refine ⟨oo, ?_⟩;conv => whnf
 refine hK _ ?_;clear hK K
 have hr : y9 p (1 + q) ∧ p <= 13 := by
  simp only [List.mem_cons, List.not_mem_nil, or_false] at hp
  have hq : q = 0 ∨ q = 1 ∨ q = 2 ∨ q = 3 ∨ q = 4 ∨ q = 5 := by omega
  refine ⟨⟨?_, by omega, ?_⟩, by omega⟩
  ·rcases hp with rfl | rfl | rfl | rfl | rfl | rfl | rfl | rfl | rfl <;> decide
  ·rcases hp with rfl | rfl | rfl | rfl | rfl | rfl | rfl | rfl | rfl <;> rcases hq with rfl | rfl | rfl | rfl | rfl | rfl <;> decide
 obtain ⟨hr, h13⟩ := hr;obtain ⟨s1, s2, s3, s4, s5, s6⟩ := hr.small;refine W.seqK fun K1 hK1 => W.block (W.invH hs0 hb0 (fun m e => m = 0 ∧ e = [(vt, .dead), (vk, .keep O U hw 0 v0), (0, .ownB b x2), (2, .ownB b_2 (vR 0 0)), (3, .v (.int .i64 p)), (4, .v (.int .i64 (1 + q)))]) _ _ ⟨rfl, rfl⟩ (by dsimp only; omega) (by repeat' first | refine And.intro ?_ ?_ | exact trivial | rfl | omega | assumption) ?_);rintro m e ⟨hm, rfl⟩;refine W.seqK fun K7 hK7 => ?_;refine wrs fun K hK => ?_;conv => whnf
 refine zd rfl (zdj hr rfl) fun hs' hhs => ?_;try dsimp only at hhs
 conv => whnf
 refine hK _ (W.cond ⟨fun h => absurd (of_decide_eq_true h) (by omega), fun _ => W.exit (hK1 _ (W.weak (t := ⟨[(vt, .dead), (vk, .keep O U hw 0 v0), (0, .ownB b x2), (2, .ownB b_2 (vR 0 0)), (3, .v (.int .i64 p)), (4, .v (.int .i64 (1 + q)))], hs0⟩) ⟨by dsimp only; omega, ?_⟩ hb0 ?_))⟩)
 ·exact cvr
 clear hK K hK7 K7 hK1 K1;refine wrs fun K hK => ?_;conv => whnf
 refine ⟨s23, ?_⟩;conv => whnf
 refine hK _ ?_;clear hK K;refine W.ret ?_;conv => whnf
 refine ⟨by dsimp only; omega, ?_⟩;conv => whnf
 exact ⟨.ownB b (x2), ⟨rfl, rfl⟩, .inr ⟨rfl, rfl⟩, .dead, trivial, rfl, rfl, rfl, ⟨x2, hx2, rfl⟩, _, rfl, ⟨p, 1 + q, rfl, hr, h13, by omega⟩⟩

theorem zk2 {n : Nat} {c : Nat -> Int} (hc : Byt n c) : zkQ 338 [] n c (fun r => ∃ p k : Int, r = vR p k ∧ (-1000 <= p ∧ p <= 1000) ∧ (-1000 <= k ∧ k <= 1000)) := by
 rintro b x hx;refine xN (cx := cxt [] [0, 2, 3, 7, 8, 13, 1000000, 1000001]) (za [] [0, 2, 3, 7, 8, 13, 1000000, 1000001]) Tryz.func338 rfl (by decide) Tryz.ntmps338 (Nat.le_of_ble_eq_true rfl) (Nat.le_of_ble_eq_true rfl) rfl rfl fun base hs0 O U hw v0 hb0 => ?_;refine W.sw (c' := cx [0, 2, 3, 7, 8, 13, 1000000, 1000001]) ?_;refine wrs fun K hK => ?_;conv => whnf
 intro b_2 hs_2 hh_2 hf_2;try dsimp only at hh_2 hf_2
 conv => whnf
 refine hK _ ?_;clear hK K;refine wrs fun K hK => ?_;conv => whnf
 refine ⟨⟨rfl, rfl⟩, ?_⟩;conv => whnf
 refine ⟨rfl, _, (zjm hc b x hx), ?_⟩;rintro hs_ms1 av x' t' hh_ms1 ⟨rfl, ⟨x1, hx1, rfl⟩, _, rfl, ⟨p, k, rfl, hr, hp, hk⟩⟩ _ _ _;try dsimp only at hh_ms1
 conv => whnf
 obtain ⟨s1, s2, s3, s4, s5, s6⟩ := hr.small;intro b_3 hs_3 hh_3 hf_3;try dsimp only at hh_3 hf_3
 conv => whnf
 refine ⟨s23, ?_⟩;conv => whnf
 refine hK _ ?_;clear hK K;refine W.seqK fun K1 hK1 => ?_
 have fin : ∀ (p k : Int) (y : V) (t : S), (-1000 <= p ∧ p <= 1000) -> (-1000 <= k ∧ k <= 1000) -> zbS n c y -> hs0 <= t.hs -> zC t.env [(vt, .dead), (vk, .keep O U hw 0 v0), (0, .ownB b y), (2, .ownB b_2 (vR 0 0)), (3, .ownB b_3 (vR p k))] -> K1 t := by
  intro p k y t h7 h8 hy h9 h10;refine hK1 _ (W.weak (t := ⟨[(vt, .dead), (vk, .keep O U hw 0 v0), (0, .ownB b y), (2, .ownB b_2 (vR 0 0)), (3, .ownB b_3 (vR p k))], hs0⟩) ⟨h9, h10⟩ hb0 ?_);clear hK1 K1;refine wrs fun K hK => ?_;conv => whnf
  refine ⟨s23, ?_⟩;conv => whnf
  refine hK _ ?_;clear hK K;refine W.ret ?_;conv => whnf
  refine ⟨by dsimp only; omega, ?_⟩;conv => whnf
  exact ⟨.ownB b (y), ⟨rfl, rfl⟩, .inr ⟨rfl, rfl⟩, .dead, trivial, rfl, rfl, rfl, ⟨y, hy, rfl⟩, _, rfl, ⟨p, k, rfl, h7, h8⟩⟩
 refine wrs fun K hK => ?_;conv => whnf
 refine ⟨⟨rfl, rfl⟩, ?_⟩;conv => whnf
 refine ⟨rfl, _, (yp hc 20 (by constructor <;> decide) b x1 hx1), ?_⟩;rintro hs_ms2 av x' t' hh_ms2 ⟨rfl, ⟨x2, hx2, rfl⟩, _, rfl, ⟨q, rfl, q0, q1, _⟩⟩ _ _ _;try dsimp only at hh_ms2
 conv => whnf
 refine hK _ (W.block ?_);clear hK K;refine wrs fun K hK => ?_;conv => whnf
 refine hK _ (W.cond ⟨fun h => ?_, fun h => ?_⟩) <;> clear hK K
 ·refine wrg ?_;conv => whnf
  refine ⟨⟨rfl, rfl⟩, ?_⟩;conv => whnf
  refine ⟨rfl, _, (zeM hc b x2 hx2), ?_⟩;rintro hs_ms3 av x' t' hh_ms3 ⟨rfl, ⟨x3, hx3, rfl⟩, _, rfl, ⟨p2, rfl, hp2⟩⟩ _ _ _;try dsimp only at hh_ms3
  conv => whnf
  refine ⟨⟨(by show 0 + 1 <= 2; omega), rfl⟩, ?_⟩;conv => whnf
  have hp3 : -1000 <= p2 ∧ p2 <= 1000 := by (simp only [List.mem_cons, List.not_mem_nil, or_false] at hp2; omega)
  refine fin p2 k x3 _ hp3 (by omega) hx3 (by dsimp only; omega) ?_;exact cvr
 refine wrs fun K hK => ?_;conv => whnf
 refine hK _ (W.cond ⟨fun h1 => ?_, fun h1 => ?_⟩) <;> clear hK K
 ·refine wrg ?_;conv => whnf
  refine ⟨⟨rfl, by decide⟩, ?_⟩;conv => whnf
  intro b_7 hs_7 hh_7 hf_7;try dsimp only at hh_7 hf_7
  conv => whnf
  refine ⟨⟨rfl, rfl⟩, ?_⟩;conv => whnf
  refine ⟨rfl, _, (jm hc none [0, 1, 29, 30, 12, -1] ⟨by decide, by decide⟩ b x2 hx2), ?_⟩;rintro hs_ms3 av x' t' hh_ms3 ⟨rfl, ⟨x3, hx3, rfl⟩, _, rfl, ⟨k2, rfl, hk2⟩⟩ _ _ _;try dsimp only at hh_ms3
  conv => whnf
  refine ⟨⟨(by show 1 + 1 <= 2; omega), rfl⟩, ?_⟩;conv => whnf
  have hk3 : -1000 <= k2 ∧ k2 <= 1000 := by (simp only [List.mem_cons, List.not_mem_nil, or_false] at hk2; omega)
  refine fin p k2 x3 _ (by omega) hk3 hx3 (by dsimp only; omega) ?_;exact cvr
 ·refine W.skip (fin p k x2 _ (by omega) (by omega) hx2 (by dsimp only; omega) ?_);exact cvr

def zmM (M : Int) (d : Nat) (L : List Int) : Prop := L.length = d + 1 ∧ (∀ j, 0 <= cf L j ∧ cf L j < M) ∧ cf L d = 1
theorem zmM.poly {M : Int} [Pos M] {d : Nat} {L : List Int} (h : zmM M d L) : ∃ F : Poly M, F.l = L ∧ Mn F d := by
 refine ⟨⟨L, ⟨fun x hx => ?_, fun k hk => ?_⟩⟩, rfl, h.1, h.2.2⟩
 ·obtain ⟨i, hi, rfl⟩ := List.getElem_of_mem hx;have h1 := h.2.1 i;rw [vT hi] at h1; omega
 ·have h1 := h.1;obtain rfl : k = d := by omega
  rw [h.2.2]; decide
theorem zgN {L : List Int} {r : Int} {j : Nat} : cf (L ++ [r]) j = if j < L.length then cf L j else if j = L.length then r else 0 := by
 unfold cf;rw [List.getD_eq_getElem?_getD];rcases Nat.lt_trichotomy j L.length with hj | hj | hj
 ·rw [List.getElem?_append_left hj, <- List.getD_eq_getElem?_getD, if_pos hj]
 ·rw [List.getElem?_append_right (by omega), hj, Nat.sub_self, if_neg (by omega), if_pos rfl]; rfl
 ·rw [List.getElem?_eq_none (by simp; omega), if_neg (by omega), if_neg (by omega)]; rfl

theorem zeN {n : Nat} {c : Nat -> Int} (hc : Byt n c) {p k M : Int} (hr : y9 p k) (hM : p ^ k.toNat = M) (d : Nat) (hd : d <= 12) : znF 341 [vR p k, .int .i64 d] n c (fun L => zmM M d L) := by
 obtain ⟨s1, s2, s3, s4, s5, s6⟩ := hr.small;rw [hM] at s5 s6;rintro b x hx;refine zdV (cx := cx [0, 1, 2, 4, 6, 7, 8, 9, 18, 1000000, 1000001]) Tryz.func341 rfl (by decide) Tryz.ntmps341 (Nat.le_of_ble_eq_true rfl) (Nat.le_of_ble_eq_true rfl) rfl rfl fun base hs0 O U hw v0 hb0 => ?_;refine wrs fun K hK => ?_;conv => whnf
 refine ⟨rfl, ?_⟩;conv => whnf
 intro b_4 hs_4 hh_4 hf_4;try dsimp only at hh_4 hf_4
 conv => whnf
 refine hK _ ?_;clear hK K;refine wrs fun K hK => ?_;conv => whnf
 refine zd rfl (zdj hr hM) fun hs' hhs => ?_;try dsimp only at hhs
 conv => whnf
 refine hK _ ?_;clear hK K;refine wrs fun K hK => ?_;conv => whnf
 refine ⟨⟨rfl, by decide⟩, ?_⟩;conv => whnf
 intro b_8 hs_8 hh_8 hf_8;try dsimp only at hh_8 hf_8
 conv => whnf
 refine hK _ ?_;clear hK K;refine W.seqK fun K1 hK1 => ?_;refine wrs fun K hK => ?_;conv => whnf
 refine hK _ (W.block (W.invS (fun m e hs => hs0 <= hs ∧ ∃ (i bo : Nat) (y : V) (L : List Int), i <= d ∧ zbS n c y ∧ L.length = i ∧ (∀ j, 0 <= cf L j ∧ cf L j < M) ∧ (hs0 <= bo ∧ bo < hs) ∧ m = d - i ∧ e = [(vt, .dead), (vk, .keep O U hw 0 v0), (0, .ownB b y), (2, .v (.int .i64 d)), (4, .ownB b_4 (vR p k)), (7, .v (.int .i64 M)), (8, .ownI 2 bo L), (9, .v (.int .i64 i))]) _ _ hs_8
  ⟨by omega, 0, b_8, x, [], by omega, hx, rfl, fun j => by rw [yq]; omega, (by have := hf_8 (by decide); omega), rfl, rfl⟩ (fun m e hs h => Nat.le_trans hb0 h.1) (by dsimp only; omega) (by repeat' first | refine And.intro ?_ ?_ | exact trivial | rfl | omega | exact .inl rfl | assumption) ?_))
 clear hK K;rintro m e hs ⟨hsl, i, bo, y, L, h1, hy, rfl, h3, hbo, hm, rfl⟩;refine W.seqK fun K7 hK7 => wrs fun K hK => ?_;conv => whnf
 refine hK _ (W.cond ⟨fun h5 => ?_, fun h5 => ?_⟩) <;> clear hK K <;> (first | replace h5 := of_decide_eq_true h5 | replace h5 := of_decide_eq_false h5)
 ·have hk : L.length < d := by omega
  refine W.skip (hK7 _ (W.seqK fun K8 hK8 => W.block ?_));clear hK7 K7;refine wrg ?_;conv => whnf
  refine ⟨⟨rfl, rfl⟩, ?_⟩;conv => whnf
  refine ⟨rfl, _, (yp hc M (by constructor <;> omega) b y hy), ?_⟩;rintro hs_ms2 av x' t' hh_ms2 ⟨rfl, ⟨x2, hx2, rfl⟩, _, rfl, ⟨r1, rfl, r10, r11, _⟩⟩ _ _ _;try dsimp only at hh_ms2
  conv => whnf
  have hmin : 1 <= min M 9 ∧ min M 9 <= M := by omega
  refine ⟨⟨rfl, rfl⟩, ?_⟩;conv => whnf
  refine ⟨rfl, _, (yp hc (min M 9) (by constructor <;> omega) b x2 hx2), ?_⟩;rintro hs_ms3 av x' t' hh_ms3 ⟨rfl, ⟨x3, hx3, rfl⟩, _, rfl, ⟨r2, rfl, r20, r21, r22⟩⟩ _ _ _;try dsimp only at hh_ms3
  conv => whnf
  have h11 := r11 (by omega)
  have h21 : r2 < M := by
   by_cases h : 1 < min M 9
   ·have := r21 h; omega
   ·have := r22 (by omega); omega
  refine ⟨⟨rfl, by decide⟩, ?_⟩;conv => whnf
  intro b_1 hs_1 hh_1 hf_1;try dsimp only at hh_1 hf_1
  conv => whnf
  refine ⟨⟨rfl, rfl⟩, ?_⟩;conv => whnf
  refine ⟨rfl, _, (jm hc none [r1, r2, 0] ⟨(by show 1 <= 3; omega), (by show 3 <= 1000; omega)⟩ b x3 hx3), ?_⟩;rintro hs_ms4 av x' t' hh_ms4 ⟨rfl, ⟨x4, hx4, rfl⟩, _, rfl, ⟨r, rfl, hr'⟩⟩ _ _ _;try dsimp only at hh_ms4
  conv => whnf
  have hr' : 0 <= r ∧ r < M := by
   simp only [List.mem_cons, List.not_mem_nil, or_false] at hr'
   omega
  refine ⟨⟨rfl, by decide⟩, ?_⟩;conv => whnf
  intro b_2 hs_2 hh_2 hf_2;try dsimp only at hh_2 hf_2
  conv => whnf
  refine ⟨by simp; omega, ?_⟩;conv => whnf
  intro b_3 hs_3 hh_3 hf_3;try dsimp only at hh_3 hf_3
  conv => whnf
  refine hK8 _ ?_;clear hK8 K8;refine wrg ?_;conv => whnf
  refine ⟨oo, ?_⟩;conv => whnf
  have hL : ∀ j, 0 <= cf (L ++ [r]) j ∧ cf (L ++ [r]) j < M := fun j => by
   rw [zgN]
   split
   ·exact h3 j
   ·split <;> omega
  have hlen : (L ++ [r]).length = L.length + 1 := by simp
  refine ⟨_, _, hs_3, ⟨by omega, L.length + 1, b_3, x4, L ++ [r], by omega, hx4, hlen, hL, ?_, rfl, rfl⟩, by omega, by dsimp only; omega, ?_⟩
  ·rcases hf_3 (by simp) with h | h
   ·injection h with h
    omega
   ·omega
  ·exact cvr
 ·obtain rfl : L.length = d := by omega
  refine W.exit (hK1 _ ?_);clear hK7 K7 hK1 K1;refine wrs fun K hK => ?_;conv => whnf
  refine ⟨⟨rfl, by decide⟩, ?_⟩;conv => whnf
  intro b_1 hs_1 hh_1 hf_1;try dsimp only at hh_1 hf_1
  conv => whnf
  refine ⟨by simp; omega, ?_⟩;conv => whnf
  intro b_2 hs_2 hh_2 hf_2;try dsimp only at hh_2 hf_2
  conv => whnf
  refine hK _ ?_;clear hK K
  have hL : zmM M L.length (L ++ [1]) := by
   refine ⟨by simp, fun j => ?_, ?_⟩
   ·rw [zgN]
    split
    ·exact h3 j
    ·split <;> omega
   ·rw [zgN, if_neg (by omega), if_pos rfl]
  refine W.ret ?_;conv => whnf
  refine ⟨by dsimp only; omega, ?_⟩;conv => whnf
  refine ⟨rfl, ?_⟩;conv => whnf
  refine ⟨.ownI 2 b_2 (L ++ [1]), ⟨rfl, rfl, rfl⟩, rfl, fun _ => ?_, ?_⟩
  ·rcases hf_2 (by simp) with h | h
   ·injection h with h
    dsimp only
    omega
   ·dsimp only
    omega
  conv => whnf
  exact ⟨.ownB b y, ⟨rfl, rfl⟩, .inr ⟨rfl, rfl⟩, .dead, trivial, rfl, rfl, rfl, ⟨y, hy, rfl⟩, _, _, rfl, hL⟩

theorem zaz {n : Nat} {c : Nat -> Int} (hc : Byt n c) {p k M : Int} (hr : y9 p k) (hM : p ^ k.toNat = M) (e : Int) (d : Nat) (he : e = d) (hd : d <= 12) : znF 341 [vR p k, .int .i64 e] n c (fun L => zmM M d L) := by
 subst he; exact zeN hc hr hM d hd

theorem zfV {n : Nat} {c : Nat -> Int} (hc : Byt n c) : zkQ 250 [] n c (fun r => ∃ (p k : Int) (L : List Int), r = .tup [vR p k, .ints none L] ∧ (-1000 <= p ∧ p <= 1000) ∧ (-1000 <= k ∧ k <= 1000) ∧ L.length <= 30) := by
 rintro b x hx;refine xN (cx := cxt [] [0, 2, 3, 4, 5, 6, 11, 26, 42, 43, 53, 62, 66, 1000000, 1000001]) (za [] [0, 2, 3, 4, 5, 6, 11, 26, 42, 43, 53, 62, 66, 1000000, 1000001]) Tryz.func250 rfl (by decide) Tryz.ntmps250 (Nat.le_of_ble_eq_true rfl) (Nat.le_of_ble_eq_true rfl) rfl rfl fun base hs0 O U hw v0 hb0 => ?_;refine W.sw (c' := cx [0, 2, 3, 4, 5, 6, 11, 26, 42, 43, 53, 62, 66, 1000000, 1000001]) ?_;refine wrs fun K hK => ?_;conv => whnf
 intro b_2 hs_2 hh_2 hf_2;try dsimp only at hh_2 hf_2
 conv => whnf
 refine hK _ ?_;clear hK K;refine wrs fun K hK => ?_;conv => whnf
 refine ⟨⟨rfl, rfl⟩, ?_⟩;conv => whnf
 refine ⟨rfl, _, (zk2 hc b x hx), ?_⟩;rintro hs_ms1 av x' t' hh_ms1 ⟨rfl, ⟨x1, hx1, rfl⟩, _, rfl, ⟨p, k, rfl, hp, hk⟩⟩ _ _ _;try dsimp only at hh_ms1
 conv => whnf
 intro b_4 hs_4 hh_4 hf_4;try dsimp only at hh_4 hf_4
 conv => whnf
 refine ⟨s23, ?_⟩;conv => whnf
 refine hK _ ?_;clear hK K;refine W.seqK fun K1 hK1 => ?_;refine wrs fun K hK => ?_;conv => whnf
 refine zd rfl (zbm p k) fun hs' hhs => ?_;try dsimp only at hhs
 conv => whnf
 refine hK _ (W.cond ⟨fun h => ?_, fun h => ?_⟩) <;> clear hK K
 ·refine wrs fun K hK => ?_;conv => whnf
  refine ⟨⟨rfl, by decide⟩, ?_⟩;conv => whnf
  intro b_5 hs_5 hh_5 hf_5;try dsimp only at hh_5 hf_5
  conv => whnf
  refine ⟨s23, ?_⟩;conv => whnf
  refine hK _ ?_;clear hK K;refine W.ret ?_;conv => whnf
  refine ⟨by dsimp only; omega, ?_⟩;conv => whnf
  refine ⟨rfl, ?_⟩;conv => whnf
  refine ⟨.ints none ([1, 1]), ⟨.inl rfl, rfl⟩, ?_⟩;conv => whnf
  exact ⟨.ownB b (x1), ⟨rfl, rfl⟩, .inr ⟨rfl, rfl⟩, .dead, trivial, rfl, rfl, rfl, ⟨x1, hx1, rfl⟩, _, rfl, ⟨p, k, _, rfl, hp, hk, by decide⟩⟩
 have hr : y9 p k := zcw.1 (by simpa using h);obtain ⟨s1, s2, s3, s4, s5, s6⟩ := hr.small;obtain ⟨M, hM⟩ : ∃ M, p ^ k.toNat = M := ⟨_, rfl⟩
 rw [hM] at s5 s6;letI : Pos M := ⟨by omega⟩
 refine W.skip (hK1 _ ?_);clear hK1 K1 h;refine wrs fun K hK => ?_;conv => whnf
 refine zd rfl (zdj hr hM) fun hs' hhs => ?_;try dsimp only at hhs
 conv => whnf
 refine hK _ ?_;clear hK K;refine W.rgh follows fun K hK => ?_;refine Wgh.take (zb []) 0 (by rfl) (fun d hd => by injection hd with hd; subst hd; decide) (by kernel_rfl) (by kernel_rfl) (by rfl) ?_;conv => whnf
 refine Wgh.take (zb []) 1 (by rfl) (fun d hd => by injection hd with hd; subst hd; decide) (by kernel_rfl) (by kernel_rfl) (by rfl) ?_;conv => whnf
 refine Wgh.take (zb []) 2 (by rfl) (fun d hd => by injection hd with hd; subst hd; decide) (by kernel_rfl) (by kernel_rfl) (by rfl) ?_;conv => whnf
 refine Wgh.one (zb []) 3 [1, 0] (by rfl) (by kernel_rfl) (by kernel_rfl) (by kernel_rfl) (by rfl) (by kernel_rfl) ⟨(by (conv => whnf); exact ⟨Nat.le_refl _, rfl⟩), (by (conv => whnf); exact ⟨Nat.le_refl _, rfl⟩), (by (conv => whnf); exact ⟨Nat.le_refl _, rfl⟩), trivial⟩ ?_;conv => whnf
 refine ⟨⟨rfl, rfl⟩, ?_⟩;conv => whnf
 refine ⟨rfl, _, (yp hc 5 (by constructor <;> decide) b x1 hx1), ?_⟩;rintro hs_ms2 av x' t' hh_ms2 ⟨rfl, ⟨x2, hx2, rfl⟩, _, rfl, ⟨d0, rfl, d00, d01, _⟩⟩ _ _ _;try dsimp only at hh_ms2
 conv => whnf
 have d02 := d01 (by decide);obtain ⟨d, rfl⟩ : ∃ d : Nat, d0 = d := ⟨d0.toNat, by omega⟩
 refine Wgh.one (zb []) 4 [] (by rfl) (by kernel_rfl) (by kernel_rfl) (by kernel_rfl) (by rfl) (by kernel_rfl) ⟨(by (conv => whnf); exact ⟨Nat.le_refl _, rfl⟩), (by (conv => whnf); exact ⟨Nat.le_refl _, rfl⟩), trivial⟩ ?_;conv => whnf
 refine ⟨⟨rfl, rfl⟩, ?_⟩;conv => whnf
 refine ⟨rfl, _, (zeN hc hr hM d (by omega) b x2 hx2), ?_⟩;rintro hs_ms3 av x' t' hh_ms3 ⟨rfl, ⟨x3, hx3, rfl⟩, bo3, L3, rfl, hL3⟩ _ _ hf_ms3
 replace hf_ms3 := hf_ms3 (by simp)
 try dsimp only at hh_ms3
 conv => whnf
 refine Wgh.one (zb []) 5 [] (by rfl) (by kernel_rfl) (by kernel_rfl) (by kernel_rfl) (by rfl) (by kernel_rfl) trivial ?_;conv => whnf
 refine Wgh.done (zb []) (by rfl) (by kernel_rfl) (by kernel_rfl) (by kernel_rfl) trivial (hK _ ?_);clear hK K;obtain ⟨F, rfl, hF⟩ := hL3.poly;refine W.seqK fun K1 hK1 => ?_
 have mid : ∀ (bo : Nat) (F : Poly M) (y : V) (t : S), dg F <= 20 -> 1 <= dg F -> zbS n c y -> hs0 <= t.hs -> zC t.env [(vt, .dead), (vk, .keep O U hw 0 v0), (0, .ownB b y), (2, .ownB b_2 (vR 0 0)), (4, .ownB b_4 (vR p k)), (5, .v (.int .i64 M)), (6, .ownI 2 bo F.l)] -> K1 t := by
  intro bo F y t hF1 hF2 hy h9 h10;refine hK1 _ (W.weak (t := ⟨[(vt, .dead), (vk, .keep O U hw 0 v0), (0, .ownB b y), (2, .ownB b_2 (vR 0 0)), (4, .ownB b_4 (vR p k)), (5, .v (.int .i64 M)), (6, .ownI 2 bo F.l)], hs0⟩) ⟨h9, h10⟩ hb0 ?_);clear hK1 K1 hF hL3 hf_ms3;have hFl : F.l.length = dg F := rfl;refine W.seqK fun K1 hK1 => ?_
  have fin : ∀ (bo : Nat) (L : List Int) (y : V) (t : S), L.length <= 30 -> zbS n c y -> hs0 <= t.hs -> zC t.env [(vt, .dead), (vk, .keep O U hw 0 v0), (0, .ownB b y), (2, .ownB b_2 (vR 0 0)), (4, .ownB b_4 (vR p k)), (6, .ownI 2 bo L)] -> K1 t := by
   intro bo L y t hL hy h9 h10;refine hK1 _ (W.weak (t := ⟨[(vt, .dead), (vk, .keep O U hw 0 v0), (0, .ownB b y), (2, .ownB b_2 (vR 0 0)), (4, .ownB b_4 (vR p k)), (6, .ownI 2 bo L)], hs0⟩) ⟨h9, h10⟩ hb0 ?_);clear hK1 K1;refine wrs fun K hK => ?_;conv => whnf
   refine ⟨s23, ?_⟩;conv => whnf
   refine hK _ ?_;clear hK K;refine W.ret ?_;conv => whnf
   refine ⟨by dsimp only; omega, ?_⟩;conv => whnf
   refine ⟨rfl, ?_⟩;conv => whnf
   refine ⟨.ints none (L), ⟨rfl, rfl⟩, ?_⟩;conv => whnf
   exact ⟨.ownB b (y), ⟨rfl, rfl⟩, .inr ⟨rfl, rfl⟩, .dead, trivial, rfl, rfl, rfl, ⟨y, hy, rfl⟩, _, rfl, ⟨p, k, L, rfl, hp, hk, hL⟩⟩
  refine wrs fun K hK => ?_;conv => whnf
  refine ⟨⟨rfl, rfl⟩, ?_⟩;conv => whnf
  refine ⟨rfl, _, (yp hc 24 (by constructor <;> decide) b y hy), ?_⟩;rintro hs_ms4 av x' t' hh_ms4 ⟨rfl, ⟨x4, hx4, rfl⟩, _, rfl, ⟨q, rfl, q0, q1, _⟩⟩ _ _ _;try dsimp only at hh_ms4
  conv => whnf
  refine hK _ (W.block ?_);clear hK K;refine wrs fun K hK => ?_;conv => whnf
  refine hK _ (W.cond ⟨fun h => ?_, fun h => ?_⟩) <;> clear hK K
  ·refine wrg ?_;conv => whnf
   refine ⟨oo, ?_⟩;conv => whnf
   refine ⟨⟨rfl, rfl⟩, ?_⟩;conv => whnf
   refine ⟨rfl, _, (yp hc M (by constructor <;> omega) b x4 hx4), ?_⟩;rintro hs_ms5 av x' t' hh_ms5 ⟨rfl, ⟨x5, hx5, rfl⟩, _, rfl, ⟨r, rfl, r0, r1, _⟩⟩ _ _ _;try dsimp only at hh_ms5
   conv => whnf
   refine ⟨oo, ?_⟩;conv => whnf
   refine fin bo (F.l.set ((F.l.length : Int) - 1).toNat r) x5 _ (by rw [List.length_set]; omega) hx5 (by dsimp only; omega) ?_;exact cvr
  refine wrs fun K hK => ?_;conv => whnf
  refine hK _ (W.cond ⟨fun h => ?_, fun h => ?_⟩) <;> clear hK K
  ·refine wrg ?_;conv => whnf
   refine ⟨⟨rfl, by decide⟩, ?_⟩;conv => whnf
   intro b_6 hs_6 hh_6 hf_6;try dsimp only at hh_6 hf_6
   conv => whnf
   refine ⟨⟨rfl, rfl⟩, ?_⟩;conv => whnf
   refine ⟨rfl, _, (jm hc none [0, M, -1] ⟨(by show 1 <= 3; omega), (by show 3 <= 1000; omega)⟩ b x4 hx4), ?_⟩;rintro hs_ms5 av x' t' hh_ms5 ⟨rfl, ⟨x5, hx5, rfl⟩, _, rfl, ⟨r, rfl, hr'⟩⟩ _ _ _;try dsimp only at hh_ms5
   conv => whnf
   refine ⟨⟨rfl, by decide⟩, ?_⟩;conv => whnf
   intro b_7 hs_7 hh_7 hf_7;try dsimp only at hh_7 hf_7
   conv => whnf
   refine ⟨by simp; omega, ?_⟩;conv => whnf
   intro b_8 hs_8 hh_8 hf_8;try dsimp only at hh_8 hf_8
   conv => whnf
   refine fin b_8 (F.l ++ [r]) x5 _ (by simp; omega) hx5 (by dsimp only; omega) ?_;exact cvr
  refine wrs fun K hK => ?_;conv => whnf
  refine hK _ (W.cond ⟨fun h => ?_, fun h => ?_⟩) <;> clear hK K
  ·refine wrs fun K hK => ?_;conv => whnf
   refine ⟨⟨rfl, by decide⟩, ?_⟩;conv => whnf
   intro b_6 hs_6 hh_6 hf_6;try dsimp only at hh_6 hf_6
   conv => whnf
   refine ⟨s23, ?_⟩;conv => whnf
   refine hK _ ?_;clear hK K;refine W.ret ?_;conv => whnf
   refine ⟨by dsimp only; omega, ?_⟩;conv => whnf
   refine ⟨rfl, ?_⟩;conv => whnf
   refine ⟨.ints none ([]), ⟨.inl rfl, rfl⟩, ?_⟩;conv => whnf
   exact ⟨.ownB b (x4), ⟨rfl, rfl⟩, .inr ⟨rfl, rfl⟩, .dead, trivial, rfl, rfl, rfl, ⟨x4, hx4, rfl⟩, _, rfl, ⟨p, k, _, rfl, hp, hk, by decide⟩⟩
  refine wrs fun K hK => ?_;conv => whnf
  refine hK _ (W.cond ⟨fun h => ?_, fun h => ?_⟩) <;> clear hK K
  ·refine W.rgh follows fun K hK => ?_;refine Wgh.take (zb []) 0 (by rfl) (fun d hd => by injection hd with hd; subst hd; decide) (by kernel_rfl) (by kernel_rfl) (by rfl) ?_;conv => whnf
   refine Wgh.take (zb []) 1 (by rfl) (fun d hd => by injection hd with hd; subst hd; decide) (by kernel_rfl) (by kernel_rfl) (by rfl) ?_;conv => whnf
   refine Wgh.take (zb []) 2 (by rfl) (fun d hd => by injection hd with hd; subst hd; decide) (by kernel_rfl) (by kernel_rfl) (by rfl) ?_;conv => whnf
   refine Wgh.take (zb []) 3 (by rfl) (fun d hd => by injection hd with hd; subst hd; decide) (by kernel_rfl) (by kernel_rfl) (by rfl) ?_;conv => whnf
   refine Wgh.one (zb []) 4 [2, 1, 0] (by rfl) (by kernel_rfl) (by kernel_rfl) (by kernel_rfl) (by rfl) (by kernel_rfl) ⟨(by (conv => whnf); exact ⟨Nat.le_refl _, rfl⟩), (by (conv => whnf); exact ⟨Nat.le_refl _, rfl⟩), (by (conv => whnf); exact ⟨Nat.le_refl _, rfl⟩), (by (conv => whnf); exact ⟨Nat.le_refl _, rfl⟩), trivial⟩ ?_;conv => whnf
   refine ⟨⟨rfl, rfl⟩, ?_⟩;conv => whnf
   refine ⟨rfl, _, (yp hc 3 (by constructor <;> decide) b x4 hx4), ?_⟩;rintro hs_ms5 av x' t' hh_ms5 ⟨rfl, ⟨x5, hx5, rfl⟩, _, rfl, ⟨d0, rfl, d00, d01, _⟩⟩ _ _ _;try dsimp only at hh_ms5
   conv => whnf
   have d02 := d01 (by decide);obtain ⟨d, rfl⟩ : ∃ d : Nat, d0 = d := ⟨d0.toNat, by omega⟩
   refine Wgh.take (zb []) 5 (by rfl) (fun d hd => by injection hd with hd; subst hd; decide) (by kernel_rfl) (by kernel_rfl) (by rfl) ?_;conv => whnf
   refine ⟨oo, ?_⟩;conv => whnf
   refine Wgh.one (zb []) 6 [0] (by rfl) (by kernel_rfl) (by kernel_rfl) (by kernel_rfl) (by rfl) (by kernel_rfl) ⟨(by (conv => whnf); refine ⟨by first | assumption | omega | exact ⟨by omega, by omega⟩, ?_⟩; (conv => whnf); exact ⟨Nat.le_refl _, rfl⟩), (by (conv => whnf); exact ⟨Nat.le_refl _, rfl⟩), (by (conv => whnf); exact ⟨Nat.le_refl _, rfl⟩), (by (conv => whnf); exact ⟨Nat.le_refl _, rfl⟩), trivial⟩ ?_;conv => whnf
   refine ⟨⟨rfl, rfl⟩, ?_⟩;conv => whnf
   refine ⟨rfl, _, (zaz hc hr hM (7 + d) (d + 7) (by omega) (by omega) b x5 hx5), ?_⟩;rintro hs_ms6 av x' t' hh_ms6 ⟨rfl, ⟨x6, hx6, rfl⟩, bo6, L6, rfl, hL6⟩ _ _ hf_ms6
   replace hf_ms6 := hf_ms6 (by simp)
   try dsimp only at hh_ms6
   conv => whnf
   refine Wgh.one (zb []) 7 [] (by rfl) (by kernel_rfl) (by kernel_rfl) (by kernel_rfl) (by rfl) (by kernel_rfl) ⟨(by (conv => whnf); exact ⟨Nat.le_refl _, rfl⟩), trivial⟩ ?_;conv => whnf
   refine ⟨s23, ?_⟩;conv => whnf
   refine Wgh.one (zb []) 8 [] (by rfl) (by kernel_rfl) (by kernel_rfl) (by kernel_rfl) (by rfl) (by kernel_rfl) trivial ?_;conv => whnf
   refine Wgh.done (zb []) (by rfl) (by kernel_rfl) (by kernel_rfl) (by kernel_rfl) trivial (hK _ ?_);clear hK K;have := hL6.1;refine W.ret ?_;conv => whnf
   refine ⟨by dsimp only; omega, ?_⟩;conv => whnf
   refine ⟨rfl, ?_⟩;conv => whnf
   refine ⟨.ints none (L6), ⟨.inl rfl, rfl⟩, ?_⟩;conv => whnf
   exact ⟨.ownB b (x6), ⟨rfl, rfl⟩, .inr ⟨rfl, rfl⟩, .dead, trivial, rfl, rfl, rfl, ⟨x6, hx6, rfl⟩, _, rfl, ⟨p, k, L6, rfl, hp, hk, by omega⟩⟩
  ·refine W.skip (fin bo F.l x4 _ (by omega) hx4 (by dsimp only; omega) ?_);exact cvr
 clear hK1;refine wrs fun K hK => ?_;conv => whnf
 refine ⟨⟨rfl, rfl⟩, ?_⟩;conv => whnf
 refine ⟨rfl, _, (yp hc 2 (by constructor <;> decide) b x3 hx3), ?_⟩;rintro hs_ms4 av x' t' hh_ms4 ⟨rfl, ⟨x4, hx4, rfl⟩, _, rfl, ⟨q, rfl, q0, q1, _⟩⟩ _ _ _;try dsimp only at hh_ms4
 conv => whnf
 have hF1 := hF.1;refine hK _ (W.cond ⟨fun h => ?_, fun h => ?_⟩) <;> clear hK K
 ·refine W.gh follows ?_;refine Wgh.take (zb []) 0 (by rfl) (fun d hd => by injection hd with hd; subst hd; decide) (by kernel_rfl) (by kernel_rfl) (by rfl) ?_;conv => whnf
  refine Wgh.take (zb []) 1 (by rfl) (fun d hd => by injection hd with hd; subst hd; decide) (by kernel_rfl) (by kernel_rfl) (by rfl) ?_;conv => whnf
  refine Wgh.take (zb []) 2 (by rfl) (fun d hd => by injection hd with hd; subst hd; decide) (by kernel_rfl) (by kernel_rfl) (by rfl) ?_;conv => whnf
  refine Wgh.take (zb []) 6 (by rfl) (fun d hd => by injection hd with hd; subst hd; decide) (by kernel_rfl) (by kernel_rfl) (by rfl) ?_;conv => whnf
  refine Wgh.take (zb []) 7 (by rfl) (fun d hd => by injection hd with hd; subst hd; decide) (by kernel_rfl) (by kernel_rfl) (by rfl) ?_;conv => whnf
  refine Wgh.take (zb []) 8 (by rfl) (fun d hd => by injection hd with hd; subst hd; decide) (by kernel_rfl) (by kernel_rfl) (by rfl) ?_;conv => whnf
  refine Wgh.take (zb []) 12 (by rfl) (fun d hd => by injection hd with hd; subst hd; decide) (by kernel_rfl) (by kernel_rfl) (by rfl) ?_;conv => whnf
  refine Wgh.one (zb []) 3 [12, 8, 7, 6, 1, 0] (by rfl) (by kernel_rfl) (by kernel_rfl) (by kernel_rfl) (by rfl) (by kernel_rfl) ⟨(by (conv => whnf); exact ⟨Nat.le_refl _, rfl⟩), (by (conv => whnf); exact ⟨Nat.le_refl _, rfl⟩), (by (conv => whnf); exact ⟨Nat.le_refl _, rfl⟩), (by (conv => whnf); exact ⟨Nat.le_refl _, rfl⟩), (by (conv => whnf); exact ⟨Nat.le_refl _, rfl⟩), (by (conv => whnf); exact ⟨Nat.le_refl _, rfl⟩), (by (conv => whnf); exact ⟨Nat.le_refl _, rfl⟩), trivial⟩ ?_;conv => whnf
  refine ⟨⟨rfl, rfl⟩, ?_⟩;conv => whnf
  refine ⟨rfl, _, (yp hc 2 (by constructor <;> decide) b x4 hx4), ?_⟩;rintro hs_ms5 av x' t' hh_ms5 ⟨rfl, ⟨x5, hx5, rfl⟩, _, rfl, ⟨d1, rfl, d10, d11, _⟩⟩ _ _ _;try dsimp only at hh_ms5
  conv => whnf
  have d12 := d11 (by decide);obtain ⟨d3, rfl⟩ : ∃ d : Nat, d1 = d := ⟨d1.toNat, by omega⟩
  refine Wgh.take (zb []) 4 (by rfl) (fun d hd => by injection hd with hd; subst hd; decide) (by kernel_rfl) (by kernel_rfl) (by rfl) ?_;conv => whnf
  refine ⟨oo, ?_⟩;conv => whnf
  refine Wgh.one (zb []) 5 [12, 8, 7, 6] (by rfl) (by kernel_rfl) (by kernel_rfl) (by kernel_rfl) (by rfl) (by kernel_rfl) ⟨(by (conv => whnf); refine ⟨by first | assumption | omega | exact ⟨by omega, by omega⟩, ?_⟩; (conv => whnf); exact ⟨Nat.le_refl _, rfl⟩), (by (conv => whnf); exact ⟨Nat.le_refl _, rfl⟩), (by (conv => whnf); exact ⟨Nat.le_refl _, rfl⟩), (by (conv => whnf); exact ⟨Nat.le_refl _, rfl⟩), (by (conv => whnf); exact ⟨Nat.le_refl _, rfl⟩), (by (conv => whnf); exact ⟨Nat.le_refl _, rfl⟩), (by (conv => whnf); exact ⟨Nat.le_refl _, rfl⟩), trivial⟩ ?_;conv => whnf
  refine ⟨⟨rfl, rfl⟩, ?_⟩;conv => whnf
  refine ⟨rfl, _, (zaz hc hr hM (1 + d3) (d3 + 1) (by omega) (by omega) b x5 hx5), ?_⟩;rintro hs_ms6 av x' t' hh_ms6 ⟨rfl, ⟨x6, hx6, rfl⟩, bo6, L6, rfl, hL6⟩ _ _ hf_ms6
  replace hf_ms6 := hf_ms6 (by simp)
  try dsimp only at hh_ms6
  conv => whnf
  refine Wgh.one (zb []) 9 [12, 7, 6] (by rfl) (by kernel_rfl) (by kernel_rfl) (by kernel_rfl) (by rfl) (by kernel_rfl) ⟨(by (conv => whnf); exact ⟨Nat.le_refl _, rfl⟩), (by (conv => whnf); exact ⟨Nat.le_refl _, rfl⟩), (by (conv => whnf); exact ⟨Nat.le_refl _, rfl⟩), (by (conv => whnf); exact ⟨Nat.le_refl _, rfl⟩), trivial⟩ ?_;conv => whnf
  refine ⟨⟨rfl, rfl⟩, ?_⟩;conv => whnf
  refine ⟨rfl, _, (yp hc 3 (by constructor <;> decide) b x6 hx6), ?_⟩;rintro hs_ms7 av x' t' hh_ms7 ⟨rfl, ⟨x7, hx7, rfl⟩, _, rfl, ⟨d4, rfl, d40, d41, _⟩⟩ _ _ _;try dsimp only at hh_ms7
  conv => whnf
  have d42 := d41 (by decide);obtain ⟨d5, rfl⟩ : ∃ d : Nat, d4 = d := ⟨d4.toNat, by omega⟩
  refine Wgh.take (zb []) 10 (by rfl) (fun d hd => by injection hd with hd; subst hd; decide) (by kernel_rfl) (by kernel_rfl) (by rfl) ?_;conv => whnf
  refine ⟨oo, ?_⟩;conv => whnf
  refine Wgh.one (zb []) 11 [12] (by rfl) (by kernel_rfl) (by kernel_rfl) (by kernel_rfl) (by rfl) (by kernel_rfl) ⟨(by (conv => whnf); refine ⟨by first | assumption | omega | exact ⟨by omega, by omega⟩, ?_⟩; (conv => whnf); exact ⟨Nat.le_refl _, rfl⟩), (by (conv => whnf); exact ⟨Nat.le_refl _, rfl⟩), (by (conv => whnf); exact ⟨Nat.le_refl _, rfl⟩), (by (conv => whnf); exact ⟨Nat.le_refl _, rfl⟩), trivial⟩ ?_;conv => whnf
  refine ⟨⟨rfl, rfl⟩, ?_⟩;conv => whnf
  refine ⟨rfl, _, (zaz hc hr hM (1 + d5) (d5 + 1) (by omega) (by omega) b x7 hx7), ?_⟩;rintro hs_ms8 av x' t' hh_ms8 ⟨rfl, ⟨x8, hx8, rfl⟩, bo8, L8, rfl, hL8⟩ _ _ hf_ms8
  replace hf_ms8 := hf_ms8 (by simp)
  try dsimp only at hh_ms8
  conv => whnf
  obtain ⟨F6, rfl, hF6⟩ := hL6.poly;obtain ⟨F8, rfl, hF8⟩ := hL8.poly;have hF61 := hF6.1;have hF81 := hF8.1;refine Wgh.one (zb []) 13 [] (by rfl) (by kernel_rfl) (by kernel_rfl) (by kernel_rfl) (by rfl) (by kernel_rfl) ⟨(by (conv => whnf); exact ⟨Nat.le_refl _, rfl⟩), trivial⟩ ?_;conv => whnf
  refine zh rfl (zax (by omega) _ _ F6 F8 (by omega) (by omega)) fun hs_9 b_9 hh_9 hf_9 => ?_;try dsimp only at hh_9 hf_9
  conv => whnf
  refine Wgh.one (zb []) 14 [] (by rfl) (by kernel_rfl) (by kernel_rfl) (by kernel_rfl) (by rfl) (by kernel_rfl) trivial ?_;conv => whnf
  refine Wgh.done (zb []) (by rfl) (by kernel_rfl) (by kernel_rfl) (by kernel_rfl) trivial ?_;conv => whnf
  have hFm := (hF6.mul (by omega) hF8).1;refine mid b_9 (F6 * F8) x8 _ (by omega) (by omega) hx8 (by dsimp only; omega) ?_;exact cvr
 ·refine W.skip (mid bo3 F x4 _ (by omega) (by omega) hx4 (by dsimp only; omega) ?_);exact cvr

theorem zeO {n : Nat} {c : Nat -> Int} (hc : Byt n c) : Fn Tryz.prog 103 [vBy n c] (fun _ _ z => ∃ (p k : Int) (L : List Int), z = .v (.tup [vR p k, .ints none L]) ∧ (-1000 <= p ∧ p <= 1000) ∧ (-1000 <= k ∧ k <= 1000) ∧ L.length <= 30) := by
 refine zf (zb [0, 2, 3]) Tryz.func103 rfl (by decide) Tryz.ntmps103 (Nat.le_of_ble_eq_true rfl) fun base => ?_;refine wrs fun K hK => ?_;conv => whnf
 intro b_2 hs_2 hh_2 hf_2;try dsimp only at hh_2 hf_2
 conv => whnf
 refine hK _ ?_;clear hK K;refine wrs fun K hK => ?_;conv => whnf
 refine yR rfl (zet hc) ?_;rintro lo hi hi' z hl1 hl2 hl3 ⟨b, x, hx, rfl⟩ _;try dsimp only at hl1 hl2
 conv => whnf
 refine ⟨⟨rfl, rfl⟩, ?_⟩;conv => whnf
 refine ⟨rfl, _, (zfV hc b x hx), ?_⟩;rintro hs_ms1 av x' t' hh_ms1 ⟨rfl, ⟨x1, hx1, rfl⟩, _, rfl, ⟨p, k, L, rfl, hp, hk, hL⟩⟩ _ _ _;try dsimp only at hh_ms1
 conv => whnf
 refine ⟨s23, ?_⟩;conv => whnf
 refine hK _ ?_;clear hK K;refine W.ret ?_;conv => whnf
 exact ⟨⟨trivial, trivial, trivial⟩, .v (.ints none L), ⟨rfl, rfl⟩, trivial, p, k, L, rfl, hp, hk, hL⟩
theorem zc7 {n : Nat} {c : Nat -> Int} (hc : Byt n c) : Fn Tryz.prog 106 [vBy n c] (fun _ _ z => ∃ (p k : Int) (L : List Int), z = .v (.tup [vR p k, .ints none L]) ∧ (-1000 <= p ∧ p <= 1000) ∧ (-1000 <= k ∧ k <= 1000) ∧ L.length <= 30) := by
 refine zf (zb [0, 2, 3]) Tryz.func106 rfl (by decide) Tryz.ntmps106 (Nat.le_of_ble_eq_true rfl) fun base => ?_;refine wrs fun K hK => ?_;conv => whnf
 intro b_2 hs_2 hh_2 hf_2;try dsimp only at hh_2 hf_2
 conv => whnf
 refine hK _ ?_;clear hK K;refine wrs fun K hK => ?_;conv => whnf
 refine yR rfl (zet hc) ?_;rintro lo hi hi' z hl1 hl2 hl3 ⟨b, x, hx, rfl⟩ _;try dsimp only at hl1 hl2
 conv => whnf
 refine ⟨⟨rfl, rfl⟩, ?_⟩;conv => whnf
 refine ⟨rfl, _, (zfV hc b x hx), ?_⟩;rintro hs_ms1 av x' t' hh_ms1 ⟨rfl, ⟨x1, hx1, rfl⟩, _, rfl, ⟨p, k, L, rfl, hp, hk, hL⟩⟩ _ _ _;try dsimp only at hh_ms1
 conv => whnf
 refine ⟨s23, ?_⟩;conv => whnf
 refine hK _ ?_;clear hK K;refine W.ret ?_;conv => whnf
 exact ⟨⟨trivial, trivial, trivial⟩, .v (.ints none L), ⟨rfl, rfl⟩, trivial, p, k, L, rfl, hp, hk, hL⟩


theorem zeq {p : Int} [SP p] {f : Poly p} {F : List (Poly p × Nat)} (h : zJ f F) (h2 : 2 <= dg f) : 0 < F.length := by
 obtain ⟨g, hg, hgm, hgf⟩ := vM _ f (Nat.le_refl _) h2;have hf : f ≠ 0 := fun e => by rw [e, zr] at h2; omega
 obtain ⟨e, he⟩ := yD hg.1 _ f hf (Nat.le_refl _)
 have he1 : 1 <= e := by
  rcases Nat.eq_zero_or_pos e with h0 | h0
  ·subst h0; exact absurd hgf (zL.1 he)
  ·exact h0
 exact List.length_pos_of_mem ((h.2 (g, e)).2 ⟨hg, hgm, he1, he⟩)



theorem znt {p : Int} [SP p] (hp : isP p = true) (f : Poly p) (h : dg f <= 9) : y8 p f.l :=
 ⟨hp, h, fun j _ => by have := kn f j; omega, by
  by_cases h0 : f.l.length = 0
  ·exact .inl h0
  ·exact .inr (f.ok.2 _ (by omega))⟩
theorem znu {p : Int} [SP p] {f : Poly p} {F : List (Poly p × Nat)} (hF : zJ f F) (hf : f ≠ 0) (h9 : dg f <= 9) {j : Nat} (hj : j < F.length) : Irr (F.getD j (0, 0)).1 ∧ dg (F.getD j (0, 0)).1 <= 9 ∧ 1 <= (F.getD j (0, 0)).2 ∧ (F.getD j (0, 0)).2 <= 8 := by
 obtain ⟨h1, h2, h3, u, hu, _⟩ := hF.at hj;have h4 : (F.getD j (0, 0)).1 ^ (F.getD j (0, 0)).2 ∣ f := ⟨u, hu⟩
 have h5 := zF h4 hf;have h6 := zjW h1.ne (F.getD j (0, 0)).2;have h7 := h1.1;obtain ⟨d, hd⟩ : ∃ d, dg (F.getD j (0, 0)).1 = d + 2 := ⟨dg (F.getD j (0, 0)).1 - 2, by omega⟩
 rw [hd, show d + 2 - 1 = d + 1 by omega, Nat.mul_add, Nat.mul_one] at h6;have h8 := Nat.le_mul_of_pos_left d (show 0 < (F.getD j (0, 0)).2 by omega);exact ⟨h1, by omega, h3, by omega⟩

theorem zc8 (p : Int) (L : List Int) (hl : L.length <= 1048576) : ∃ (G : List (List Int × Int)) (r1 : Int), FnV 73 [.int .i64 p, .ints none L] (.tup [vGs G, .int .i64 r1]) ∧ FnV 72 [.int .i64 p, .ints none L] (.tup [vGs G, .int .i64 r1]) ∧ G.length <= 20 ∧ (∀ j, (gd G j).1.length <= 20) ∧ r1 = yt p L ∧
  (r1 = 0 -> ∃ hp : p ∈ yx, letI := jC hp; ∃ (f : Poly p) (F : List (Poly p × Nat)), f.l = L ∧ 2 <= dg f ∧ y8 p f.l ∧ zJ f F ∧ G = F.map toG) := by
 by_cases hc : yt p L = 0
 case neg =>
  refine ⟨[], yt p L, ?_, ?_, by simp, fun j => by simp [gd], rfl, fun h => absurd h hc⟩
  ·refine zf (zb [0, 1, 4, 5, 6, 11]) Tryz.func73 rfl (by decide) Tryz.ntmps73 (Nat.le_of_ble_eq_true rfl) fun base => ?_;refine wrs fun K hK => ?_;conv => whnf
   refine hK _ ?_;clear hK K;refine wrs fun K hK => ?_;conv => whnf
   refine zd rfl (zeB none p L (by omega)) fun hs' hhs => ?_;try dsimp only at hhs
   conv => whnf
   refine hK _ ?_;clear hK K;refine W.seqK fun K1 hK1 => ?_;refine wrs fun K hK => ?_;conv => whnf
   refine hK _ (W.cond ⟨fun _ => ?_, fun hcc => absurd hc (of_decide_eq_false hcc)⟩);clear hK K;refine wrs fun K hK => ?_;conv => whnf
   refine hK _ ?_;clear hK K;refine W.ret ?_;conv => whnf
   exact ⟨.v (vGs []), rfl, ⟨trivial, fun _ _ => ⟨trivial, trivial, trivial⟩⟩, .v (.int .i64 (yt p L)), ⟨rfl, rfl⟩, trivial, rfl⟩
  ·refine zf (zb [0, 1, 4, 5, 6, 11]) Tryz.func72 rfl (by decide) Tryz.ntmps72 (Nat.le_of_ble_eq_true rfl) fun base => ?_;refine wrs fun K hK => ?_;conv => whnf
   refine hK _ ?_;clear hK K;refine W.seqK fun K1 hK1 => ?_;refine wrs fun K hK => ?_;conv => whnf
   refine zd rfl (zaT none p L) fun hs' hhs => ?_;try dsimp only at hhs
   conv => whnf
   refine hK _ ?_;clear hK K;refine wrs fun K hK => ?_;conv => whnf
   refine hK _ (W.cond ⟨fun _ => ?_, fun hcc => absurd hc (of_decide_eq_false hcc)⟩);clear hK K;refine wrs fun K hK => ?_;conv => whnf
   refine hK _ ?_;clear hK K;refine W.ret ?_;conv => whnf
   exact ⟨.v (vGs []), rfl, ⟨trivial, fun _ _ => ⟨trivial, trivial, trivial⟩⟩, .v (.int .i64 (yt p L)), ⟨rfl, rfl⟩, trivial, rfl⟩
 obtain ⟨hm, h2⟩ := zkX hc;obtain ⟨hp, f, rfl⟩ := znn hm;letI := jC hp;have h9 := hm.2.1;have hfl : f.l.length = dg f := rfl;have hf0 : f ≠ 0 := fun e => by have := ze.2 e; omega
 obtain ⟨F, hF⟩ := zbg hf0;have hFl := hF.facs.few hf0;refine ⟨F.map toG, 0, ?_, ?_, by rw [List.length_map]; omega, fun j => ?_, hc.symm, fun _ => ⟨hp, f, F, rfl, h2, hm, hF, rfl⟩⟩
 ·rw [<- zj4];refine zf (zb [0, 1, 4, 5, 6, 11]) Tryz.func73 rfl (by decide) Tryz.ntmps73 (Nat.le_of_ble_eq_true rfl) fun base => ?_;refine wrs fun K hK => ?_;conv => whnf
  refine hK _ ?_;clear hK K;refine wrs fun K hK => ?_;conv => whnf
  refine zd rfl (zeB none p f.l (by omega)) fun hs' hhs => ?_;try dsimp only at hhs
  conv => whnf
  rw [hc];refine hK _ ?_;clear hK K;refine W.seqK fun K1 hK1 => ?_;refine wrs fun K hK => ?_;conv => whnf
  refine hK _ (W.cond ⟨fun hcc => absurd rfl (of_decide_eq_true hcc), fun _ => W.skip (hK1 _ ?_)⟩);clear hK K hK1 K1;refine wrs fun K hK => ?_;conv => whnf
  refine yR rfl (zcv p none f (by omega) hf0) ?_;rintro lo hi hi' z hl1 hl2 hl3 ⟨F', hF', rfl⟩ _;obtain rfl := hF.unique hF';try dsimp only at hl1 hl2
  conv => whnf
  refine hK _ ?_;clear hK K;refine W.ret ?_;conv => whnf
  exact ⟨.v (vFs F), ⟨rfl, rfl, rfl, fun _ _ => rfl⟩, ⟨trivial, fun _ _ => ⟨trivial, trivial, trivial⟩⟩, .v (.int .i64 0), ⟨rfl, rfl⟩, trivial, rfl⟩
 ·rw [<- zj4];refine zf (zb [0, 1, 4, 5, 6, 11]) Tryz.func72 rfl (by decide) Tryz.ntmps72 (Nat.le_of_ble_eq_true rfl) fun base => ?_;refine wrs fun K hK => ?_;conv => whnf
  refine hK _ ?_;clear hK K;refine W.seqK fun K1 hK1 => ?_;refine wrs fun K hK => ?_;conv => whnf
  refine zd rfl (zaT none p f.l) fun hs' hhs => ?_;try dsimp only at hhs
  conv => whnf
  rw [hc];refine hK _ ?_;clear hK K;refine wrs fun K hK => ?_;conv => whnf
  refine hK _ (W.cond ⟨fun hcc => absurd rfl (of_decide_eq_true hcc), fun _ => W.skip (hK1 _ ?_)⟩);clear hK K hK1 K1;refine wrs fun K hK => ?_;conv => whnf
  refine yR rfl (kL p _ none f (by omega) (Nat.le_refl _) hf0) ?_;rintro lo hi hi' z hl1 hl2 hl3 ⟨F', hF', rfl⟩ _;obtain rfl := hF.unique hF';try dsimp only at hl1 hl2
  conv => whnf
  refine hK _ ?_;clear hK K;refine W.ret ?_;conv => whnf
  exact ⟨.v (vFs F), ⟨rfl, rfl, rfl, fun _ _ => rfl⟩, ⟨trivial, fun _ _ => ⟨trivial, trivial, trivial⟩⟩, .v (.int .i64 0), ⟨rfl, rfl⟩, trivial, rfl⟩
 ·rw [zmF]
  by_cases hj : j < F.length
  ·have := (znu hF hf0 (by omega) hj).2.1;exact Nat.le_trans this (by omega)
  ·rw [List.getD_eq_getElem?_getD, List.getElem?_eq_none (by omega)];show (0 : Poly p).l.length <= 20
   rw [jz]; simp

end Go.Proofs.YtlmckocbhcpmdaaGreat
