/- What the program's functions and the reference's return. No conditions. -/
import Derived.Test.YtdebbdepmoecaaaGreatPi
import Derived.Test.YtdebbdepmoecaaaGreatRows
namespace Go.Proofs.YtdebbdepmoecaaaGreat
open Go Go.RowKit Go.Proofs Poly
set_option maxRecDepth 100000
set_option maxHeartbeats 8000000

theorem mulP_bd {p : Int} [SP p] (X Y : Poly p) (hX : dg X ≤ 500) : Bd 10000000 (trimZ (mulL X.l Y.l)) := by
 refine Bd.trim fun j => ?_
 rw [cf_mulL]
 have := cv_bd (A := 97) (B := 97) (by omega) (by omega) (n := dg X) (cf X.l) (cf Y.l) (l_bd X) (fun j hj => cf_dg hj) (l_bd Y) j
 omega
theorem mulL_len (xs ys : List Int) : (trimZ (mulL xs ys)).length ≤ xs.length + ys.length := by
 have := trimZ_length (mulL xs ys); rw [mulL, mkL_length] at *; omega

theorem l12Inverse_fn (p : Int) [SP p] (g g' : Option Nat) (h f U : Poly p) (hf : dg f ≤ 500) (hh : dg h ≤ 500) (h2 : 2 ≤ dg f) (hU : dg U < dg f) (hU2 : f ∣ h * U - 1) : FnV 40 [.int .i64 p, .ints g h.l, .ints g' f.l] (.ints none U.l) := by
 have hp := Pr.two (p := p)
 have hp2 := SP.le (p := p)
 have hf0 : f ≠ 0 := fun e => by rw [e, dg_zero] at h2; omega
 have hcop : Cop f h := by
  obtain ⟨q, hq⟩ := hU2
  exact ⟨-q, U, comb 1 hq (ring [f, h, U, q] (by rfl))⟩
 have hst := CofI.start hf0 hcop
 refine fn_of (cx_ok [0, 1, 2, 6, 7, 8, 9, 10, 11, 12, 13, 23]) Tryz.func40 rfl (by decide) Tryz.ntmps40 (Nat.le_of_ble_eq_true rfl) fun base => ?_
 refine W.rs (cx_ok _) (by rfl) fun K hK => ?_
 conv => whnf
 refine hK _ ?_
 clear hK K
 refine W.rs (cx_ok _) (by rfl) fun K hK => ?_
 conv => whnf
 refine callV rfl (l08Rest_fn p g g' h f (by omega) (by omega) hf0) fun hs' hhs => ?_
 try dsimp only at hhs
 conv => whnf
 refine hK _ ?_
 clear hK K
 refine W.rs (cx_ok _) (by rfl) fun K hK => ?_
 conv => whnf
 refine ⟨⟨rfl, by decide⟩, ?_⟩
 conv => whnf
 intro b_1 hs_1 hh_1 hf_1
 try dsimp only at hh_1 hf_1
 conv => whnf
 refine ⟨⟨rfl, by decide⟩, ?_⟩
 conv => whnf
 intro b_2 hs_2 hh_2 hf_2
 try dsimp only at hh_2 hf_2
 conv => whnf
 refine hK _ ?_
 clear hK K
 refine W.seqK fun K1 hK1 => W.block (W.invA (fun m e => ∃ (a b u v : Poly p) (ga : Option Nat) (su sv : List Int), CofI f h a b u v ∧ b ≠ 0 ∧ su = u.l ∧ sv = v.l ∧ m = dg b ∧ e = [(0, .v (.int .i64 p)), (2, .v (.ints g' f.l)), (7, .v (.ints ga a.l)), (8, .v (.ints none b.l)), (9, .v (.ints none su)), (10, .v (.ints none sv))]) ⟨f, rem h f, 0, 1, g', [], [1], hst, hst.stay h2, zero_l.symm, one_l.symm, rfl, rfl⟩ ?_)
 rintro m e ⟨a, b, u, v, ga, su, sv, hI, hb0, rfl, rfl, hm, rfl⟩
 obtain ⟨hu, hv, ha, hb⟩ := hI.few
 have hbl : b.l.length = dg b := rfl
 have hul : u.l.length = dg u := rfl
 refine W.seqK fun K7 hK7 => W.rs (cx_ok _) (by rfl) fun K hK => ?_
 conv => whnf
 refine hK _ (W.cond ⟨fun h1 => ?_, fun h1 => ?_⟩) <;> clear hK K <;> (first | replace h1 := of_decide_eq_true h1 | replace h1 := of_decide_eq_false h1)
 ·have hn := hI.step hb0
  have hn0 := hn.stay (by omega)
  have hlt := rem_lt a hb0
  have hqd := quo_dg hI.a0 hb0 (Nat.le_of_lt hI.lt)
  have hql : (quo a b).l.length = dg (quo a b) := rfl
  have hvl : v.l.length = dg v := rfl
  have hml := mulL_len (quo a b).l v.l
  have hsl := sub_len u.l (trimZ (mulL (quo a b).l v.l))
  refine W.skip (hK7 _ (W.block ?_))
  clear hK7 K7
  refine W.rs (cx_ok _) (by rfl) fun K hK => ?_
  conv => whnf
  refine callV rfl (l08Divide_fn p ga none a b (by omega) (by omega) hb0) fun hs' hhs => ?_
  try dsimp only at hhs
  conv => whnf
  refine hK _ ?_
  clear hK K
  refine W.rs (cx_ok _) (by rfl) fun K hK => ?_
  conv => whnf
  refine callI rfl (l06Multiply_fn none none (quo a b).l v.l 97 97 (by omega) (by omega) (l_bd _) (l_bd v) (by omega) (by omega) (by omega)) fun hs_2 b_2 hh_2 hf_2 => ?_
  try dsimp only at hh_2 hf_2
  conv => whnf
  refine callI rfl (l06Add_fn none (some b_2) u.l (trimZ (mulL (quo a b).l v.l)) (-1) (by omega) ((l_bd u).le (by omega)) ((mulP_bd (quo a b) v (by omega)).le (by omega)) (by omega) (by omega)) fun hs_3 b_3 hh_3 hf_3 => ?_
  try dsimp only at hh_3 hf_3
  conv => whnf
  refine callI rfl (l08Reduce_fn p (by omega) (by omega) (some b_3) (trimZ (addL u.l (smulL (-1) (trimZ (mulL (quo a b).l v.l))))) (sub_bd (l_bd u) (mulP_bd (quo a b) v (by omega)) (by omega)) (by omega)) fun hs_4 b_4 hh_4 hf_4 => ?_
  try dsimp only at hh_4 hf_4
  conv => whnf
  rw [sub_mul_l]
  refine hK _ ?_
  clear hK K
  refine W.rs (cx_ok _) (by rfl) fun K hK => ?_
  conv => whnf
  refine hK _ ?_
  clear hK K
  refine W.rs (cx_ok _) (by rfl) fun K hK => ?_
  conv => whnf
  refine hK _ ?_
  clear hK K
  refine W.rs (cx_ok _) (by rfl) fun K hK => ?_
  conv => whnf
  refine hK _ ?_
  clear hK K
  refine W.region (cx_ok _) (by rfl) ?_
  conv => whnf
  exact againA ⟨b, rem a b, v, u - quo a b * v, none, _, _, hn, hn0, rfl, rfl, rfl, rfl⟩
 ·have hb1 : dg b = 1 := by
   have : dg b ≠ 0 := fun e => hb0 (dg_eq_zero.1 e)
   omega
  have hc0 : cf b.l 0 % p ≠ 0 := cf_ne_mod (dg_lead hb1)
  obtain ⟨i1, i2, i3⟩ := invm_spec hc0
  have hW := inv_is hcop hf0 hU hU2 (hI.fin2 hb1 i3)
  have hcr := cf_rng b 0
  have i4 : invm p (cf b.l 0) ≠ 0 := fun e => by rw [e] at i3; simp at i3
  have hcl := con_l (p := p) (c := invm p (cf b.l 0)) (by omega) i2
  have hcd := con_dg (p := p) (invm p (cf b.l 0))
  have hwd := dg_mul_le v (con p (invm p (cf b.l 0)))
  refine W.exit (hK1 _ ?_)
  clear hK7 K7 hK1 K1
  refine W.rs (cx_ok _) (by rfl) fun K hK => ?_
  conv => whnf
  refine ⟨⟨by omega, by omega⟩, ?_⟩
  conv => whnf
  refine callV rfl (l02Inverse_fn p _ hcr hc0) fun hs' hhs => ?_
  try dsimp only at hhs
  conv => whnf
  refine ⟨⟨rfl, by decide⟩, ?_⟩
  conv => whnf
  intro b_2 hs_2 hh_2 hf_2
  try dsimp only at hh_2 hf_2
  conv => whnf
  have e8 : [invm p (b.l.getD (Int.toNat 0) 0)] = (con p (invm p (cf b.l 0))).l := hcl.symm
  rw [e8]
  refine callI rfl (l08Multiply_fn p none _ v (con p (invm p (cf b.l 0))) (by omega) (by omega)) fun hs_3 b_3 hh_3 hf_3 => ?_
  try dsimp only at hh_3 hf_3
  conv => whnf
  refine callV rfl (l08Rest_fn p _ g' (v * con p (invm p (cf b.l 0))) f (by omega) (by omega) hf0) fun hs' hhs => ?_
  try dsimp only at hhs
  conv => whnf
  rw [hW]
  refine hK _ ?_
  clear hK K
  refine W.ret ?_
  conv => whnf
  exact ⟨.v (.ints none U.l), ⟨rfl, rfl⟩, trivial, rfl⟩

theorem q_step {p : Int} (h2 : 2 ≤ p) {j k : Nat} (h : j + 1 < k) : p ^ (j + 1) * p = p ^ (j + 1 + 1) ∧ p ^ (j + 1) * p ≤ p ^ k ∧ 2 * p ^ (j + 1) ≤ p ^ (j + 1) * p ∧ 1 ≤ p ^ (j + 1) := by
 have h1 := pow_pos' (p := p) (by omega) (j + 1)
 have h3 : p ^ (j + 1) * 2 ≤ p ^ (j + 1) * p := Int.mul_le_mul_of_nonneg_left h2 (by omega)
 have h4 := pow_mono (p := p) (by omega) (a := j + 1 + 1) (b := k) (by omega)
 rw [Int.pow_succ p (j + 1)] at h4
 exact ⟨(Int.pow_succ p (j + 1)).symm, h4, by omega, h1⟩
theorem mulq {q c : Int} (hq : 0 ≤ q ∧ q ≤ 1000000000) (hc : 0 ≤ c ∧ c ≤ 97) : 0 ≤ q * c ∧ q * c ≤ 97000000000 :=
 ⟨Int.mul_nonneg hq.1 hc.1, by have := Int.mul_le_mul hq.2 hc.2 hc.1 (by omega : (0 : Int) ≤ 1000000000); omega⟩
theorem divq {q c : Int} (hq : 1 ≤ q) (hc : 0 ≤ c) : 0 ≤ c / q ∧ c / q ≤ c := ⟨Int.ediv_nonneg hc (by omega), Int.ediv_le_self q hc⟩

section
variable {p k M : Int} [SP p] [Pos M] {f : Poly M} {a b : Nat} {g0 h0 S T : Poly p} {G H : Poly M}

theorem l02M_fn {p M : Int} (h : IsRg p k) (hm : p ^ k.toNat = M) : FnV 32 [.int .i64 p, .int .i64 k] (.int .i64 M) := by
 obtain ⟨s1, s2, s3, s4, s5, s6⟩ := h.small
 obtain ⟨j, rfl⟩ : ∃ j : Nat, k = j := ⟨k.toNat, by omega⟩
 rw [Int.toNat_natCast] at hm s6
 have hmS : modS p j = M := by unfold modS; rw [if_pos s6, hm]
 exact (l02Modulus_fn p j (by omega) (by omega) (by omega)).mono (by rw [hmS])

theorem l12Lift_fn (hr : IsRg p k) (hm : p ^ k.toNat = M) (hP : Pair f a b g0 h0 S T) (h9 : a + b ≤ 8) (hL : LAt f a b g0 h0 S T (k.toNat - 1) G H) (g g1 g2 : Option Nat) :
  FnV 23 [vR p k, .ints g f.l, .ints g1 g0.l, .ints g2 h0.l] (.tup [.ints none G.l, .ints none H.l]) := by
 obtain ⟨s1, s2, s3, s4, s5, s6⟩ := hr.small
 have hp := Pr.two (p := p)
 have hp2 := SP.le (p := p)
 have hpM := Pos.pos (p := M)
 have m9 : M ≤ 1000000000 := by omega
 have hg1 := hP.mg.1
 have hh1 := hP.mh.1
 have hf1 := hP.mf.1
 have hg0 : g0 ≠ 0 := fun e => by rw [e, dg_zero] at hg1; omega
 have hh0 : h0 ≠ 0 := fun e => by rw [e, dg_zero] at hh1; omega
 have ha1 := hP.a1
 have hb1 := hP.b1
 have hS := hP.s1
 have hT := hP.t1
 have hfl : f.l.length = dg f := rfl
 have hgl : g0.l.length = dg g0 := rfl
 have hhl : h0.l.length = dg h0 := rfl
 refine fn_of (cx_ok [0, 1, 2, 3, 4, 8, 9, 10, 11, 12, 13, 14, 15, 16, 17, 18, 19, 20, 21, 44, 59]) Tryz.func23 rfl (by decide) Tryz.ntmps23 (Nat.le_of_ble_eq_true rfl) fun base => ?_
 refine W.rs (cx_ok _) (by rfl) fun K hK => ?_
 conv => whnf
 refine ⟨rfl, ?_⟩
 conv => whnf
 intro b_4 hs_4 hh_4 hf_4
 try dsimp only at hh_4 hf_4
 conv => whnf
 refine hK _ ?_
 clear hK K
 refine W.rd (cx_ok _) follows (by rfl) fun K hK => ?_
 conv => whnf
 refine ⟨_, cxF (l02M_fn hr hm), ?_⟩
 conv => whnf
 refine hK _ ?_
 clear hK K
 refine W.rs (cx_ok _) (by rfl) fun K hK => ?_
 conv => whnf
 refine callV rfl (l12Inverse_fn p g2 g1 h0 g0 S (by omega) (by omega) (by omega) hS hP.s2) fun hs' hhs => ?_
 try dsimp only at hhs
 conv => whnf
 refine hK _ ?_
 clear hK K
 refine W.rs (cx_ok _) (by rfl) fun K hK => ?_
 conv => whnf
 refine callV rfl (l12Inverse_fn p g1 g2 g0 h0 T (by omega) (by omega) (by omega) hT hP.t2) fun hs' hhs => ?_
 try dsimp only at hhs
 conv => whnf
 refine hK _ ?_
 clear hK K
 refine W.rs (cx_ok _) (by rfl) fun K hK => ?_
 conv => whnf
 refine callI rfl (own_fn g1 g0.l (by omega)) fun hs_1 b_1 hh_1 hf_1 => ?_
 try dsimp only at hh_1 hf_1
 conv => whnf
 refine callI rfl (own_fn g2 h0.l (by omega)) fun hs_2 b_2 hh_2 hf_2 => ?_
 try dsimp only at hh_2 hf_2
 conv => whnf
 refine hK _ ?_
 clear hK K
 refine W.seqK fun K1 hK1 => W.rs (cx_ok _) (by rfl) fun K hK => ?_
 conv => whnf
 refine hK _ (W.block (W.invA (fun m e => ∃ (j : Nat) (q : Int) (X Y : Poly M) (su sv : List Int), LAt f a b g0 h0 S T j X Y ∧ j + 1 ≤ k.toNat ∧ q = p ^ (j + 1) ∧ su = X.l ∧ sv = Y.l ∧ m = k.toNat - j ∧ e = [(1, .v (.ints g f.l)), (2, .v (.ints g1 g0.l)), (3, .v (.ints g2 h0.l)), (10, .v (.int .i64 M)), (11, .v (.int .i64 p)), (12, .v (.ints none S.l)), (13, .v (.ints none T.l)), (14, .v (.ints none su)), (15, .v (.ints none sv)), (16, .v (.int .i64 q))]) ⟨0, p, lft M g0, lft M h0, g0.l, h0.l, LAt.start hP, by omega, (by rw [Int.pow_succ, Int.pow_zero, Int.one_mul]), (lft_l hP.ple _).symm, (lft_l hP.ple _).symm, rfl, rfl⟩ ?_))
 clear hK K
 rintro m e ⟨j, q, X, Y, su, sv, hI, hj, hq, rfl, rfl, hmm, rfl⟩
 have hX1 := hI.inv.mg.1
 have hY1 := hI.inv.mh.1
 have hXl : X.l.length = dg X := rfl
 have hYl : Y.l.length = dg Y := rfl
 refine W.seqK fun K7 hK7 => W.rs (cx_ok _) (by rfl) fun K hK => ?_
 conv => whnf
 refine hK _ (W.cond ⟨fun h5 => ?_, fun h5 => ?_⟩) <;> clear hK K <;> (first | replace h5 := of_decide_eq_true h5 | replace h5 := of_decide_eq_false h5)
 ·have hj2 : j + 1 < k.toNat := Classical.byContradiction fun h => by
   have e : j + 1 = k.toNat := by omega
   rw [hq, e, hm] at h5; omega
  obtain ⟨q1, q2, q3, q4⟩ := q_step hp hj2
  have hc := hI.cdg hP (by omega) q
  have hn := hI.step hP hq
  rw [← hq] at q1 q2 q3 q4
  rw [hm] at q2
  obtain ⟨D, hD⟩ : ∃ D, f - X * Y = D := ⟨_, rfl⟩
  rw [hD] at hc hn
  have hXY := dg_mul_le X Y
  have hXYl : (X * Y).l.length = dg (X * Y) := rfl
  have hDl : D.l.length = dg D := rfl
  have hx := rem_lt (dgt p q D * S) hg0
  have hy := rem_lt (dgt p q D * T) hh0
  have hxl : (rem (dgt p q D * S) g0).l.length = dg (rem (dgt p q D * S) g0) := rfl
  have hyl : (rem (dgt p q D * T) h0).l.length = dg (rem (dgt p q D * T) h0) := rfl
  have hCS := dg_mul_le (dgt p q D) S
  have hCT := dg_mul_le (dgt p q D) T
  refine W.skip (hK7 _ ?_)
  clear hK7 K7
  refine W.seqK fun K8 hK8 => W.block ?_
  refine W.rs (cx_ok _) (by rfl) fun K hK => ?_
  conv => whnf
  refine callI rfl (l12Multiply_fn m9 none none X Y (by omega) (by omega)) fun hs_2 b_2 hh_2 hf_2 => ?_
  try dsimp only at hh_2 hf_2
  conv => whnf
  refine callI rfl (l12Add_fn m9 g (some b_2) f.l (X * Y).l (-1) (.inr rfl) (rg_l _) (rg_l _) (by omega) (by omega)) fun hs_3 b_3 hh_3 hf_3 => ?_
  try dsimp only at hh_3 hf_3
  conv => whnf
  rw [subM_1, hD]
  refine hK _ ?_
  clear hK K
  refine W.rs (cx_ok _) (by rfl) fun K hK => ?_
  conv => whnf
  refine ⟨⟨rfl, by decide⟩, ?_⟩
  conv => whnf
  intro b_4 hs_4 hh_4 hf_4
  try dsimp only at hh_4 hf_4
  conv => whnf
  refine hK _ ?_
  clear hK K
  refine W.seqK fun K5 hK5 => W.rs (cx_ok _) (by rfl) fun K hK => ?_
  conv => whnf
  refine hK _ (W.block (W.invA (fun m e => ∃ (i b' : Nat) (o : List Int), i ≤ dg D ∧ o = (D.l.take i).map (fun x => x / q % p) ∧ m = dg D - i ∧ e = [(1, .v (.ints g f.l)), (2, .v (.ints g1 g0.l)), (3, .v (.ints g2 h0.l)), (10, .v (.int .i64 M)), (11, .v (.int .i64 p)), (12, .v (.ints none S.l)), (13, .v (.ints none T.l)), (14, .v (.ints none X.l)), (15, .v (.ints none Y.l)), (16, .v (.int .i64 q)), (17, .v (.ints none D.l)), (18, .ownI 2 b' o), (19, .v (.int .i64 i))]) ⟨0, b_4, [], Nat.zero_le _, rfl, rfl, rfl⟩ ?_))
  clear hK K
  rintro m' e ⟨i, b', o, hi, rfl, hm', rfl⟩
  refine W.seqK fun K7 hK7 => W.rs (cx_ok _) (by rfl) fun K hK => ?_
  conv => whnf
  refine hK _ (W.cond ⟨fun h6 => ?_, fun h6 => ?_⟩) <;> clear hK K <;> (first | replace h6 := of_decide_eq_true h6 | replace h6 := of_decide_eq_false h6)
  ·have hi2 : i < D.l.length := by omega
   have hst := take_map_succ (fun x => x / q % p) hi2
   have hci := cf_rng D i
   have hdq := divq (q := q) (c := cf D.l i) (by omega) hci.1
   have e1 : (D.l.getD i 0).tdiv q = cf D.l i / q := Int.tdiv_eq_ediv_of_nonneg hci.1
   have e2 : (cf D.l i / q).tmod p = cf D.l i / q % p := Int.tmod_eq_emod_of_nonneg hdq.1
   have hol : ((D.l.take i).map fun x => x / q % p).length = i := by rw [List.length_map, List.length_take]; omega
   refine W.skip (hK7 _ ?_)
   clear hK7 K7
   refine W.seqK fun K9 hK9 => W.block ?_
   refine W.region (cx_ok _) (by rfl) ?_
   conv => whnf
   refine ⟨⟨by omega, by omega⟩, ?_⟩
   conv => whnf
   rw [Int.toNat_natCast]
   refine ⟨by omega, ?_⟩
   conv => whnf
   rw [e1]
   refine ⟨by constructor <;> omega, ?_⟩
   conv => whnf
   refine ⟨by omega, ?_⟩
   conv => whnf
   rw [e2]
   refine ⟨⟨rfl, by decide⟩, ?_⟩
   conv => whnf
   intro b_6 hs_6 hh_6 hf_6
   try dsimp only at hh_6 hf_6
   conv => whnf
   refine ⟨by dsimp only [List.length]; omega, ?_⟩
   conv => whnf
   intro b_7 hs_7 hh_7 hf_7
   try dsimp only at hh_7 hf_7
   conv => whnf
   refine hK9 _ ?_
   clear hK9 K9
   refine W.region (cx_ok _) (by rfl) ?_
   conv => whnf
   refine ⟨by constructor <;> omega, ?_⟩
   conv => whnf
   exact againA ⟨i + 1, b_7, _, by omega, hst.symm, rfl, rfl⟩
  ·obtain rfl : i = D.l.length := by omega
   rw [List.take_length]
   have hcl : (dgt p q D).l.length = dg (dgt p q D) := rfl
   refine W.exit (hK5 _ ?_)
   clear hK7 K7 hK5 K5
   refine W.rs (cx_ok _) (by rfl) fun K hK => ?_
   conv => whnf
   refine callI rfl (l06Trim_fn _ _ (by rw [List.length_map]; omega)) fun hs_8 b_8 hh_8 hf_8 => ?_
   try dsimp only at hh_8 hf_8
   conv => whnf
   rw [dgt_l']
   refine hK _ ?_
   clear hK K
   refine W.rs (cx_ok _) (by rfl) fun K hK => ?_
   conv => whnf
   refine callI rfl (l08Multiply_fn p (some b_8) none (dgt p q D) S (by omega) (by omega)) fun hs_9 b_9 hh_9 hf_9 => ?_
   try dsimp only at hh_9 hf_9
   conv => whnf
   refine callV rfl (l08Rest_fn p (some b_9) g1 (dgt p q D * S) g0 (by omega) (by omega) hg0) fun hs' hhs => ?_
   try dsimp only at hhs
   conv => whnf
   refine hK _ ?_
   clear hK K
   refine W.rs (cx_ok _) (by rfl) fun K hK => ?_
   conv => whnf
   refine callI rfl (l08Multiply_fn p (some b_8) none (dgt p q D) T (by omega) (by omega)) fun hs_10 b_10 hh_10 hf_10 => ?_
   try dsimp only at hh_10 hf_10
   conv => whnf
   refine callV rfl (l08Rest_fn p (some b_10) g2 (dgt p q D * T) h0 (by omega) (by omega) hh0) fun hs' hhs => ?_
   try dsimp only at hhs
   conv => whnf
   refine hK _ ?_
   clear hK K
   refine W.rs (cx_ok _) (by rfl) fun K hK => ?_
   conv => whnf
   refine callI rfl (l12Add_wide m9 none none X.l (rem (dgt p q D * S) g0).l q (rg_l _) (fun j => by have := mulq (q := q) (c := cf (rem (dgt p q D * S) g0).l j) (by omega) (by have := cf_rng (rem (dgt p q D * S) g0) j; omega); omega) (by omega) (by omega)) fun hs_11 b_11 hh_11 hf_11 => ?_
   try dsimp only at hh_11 hf_11
   conv => whnf
   rw [lift_add]
   refine hK _ ?_
   clear hK K
   refine W.region (cx_ok _) (by rfl) ?_
   conv => whnf
   refine callI rfl (l12Add_wide m9 none none Y.l (rem (dgt p q D * T) h0).l q (rg_l _) (fun j => by have := mulq (q := q) (c := cf (rem (dgt p q D * T) h0).l j) (by omega) (by have := cf_rng (rem (dgt p q D * T) h0) j; omega); omega) (by omega) (by omega)) fun hs_12 b_12 hh_12 hf_12 => ?_
   try dsimp only at hh_12 hf_12
   conv => whnf
   rw [lift_add]
   refine hK8 _ ?_
   clear hK8 K8
   refine W.region (cx_ok _) (by rfl) ?_
   conv => whnf
   refine ⟨by constructor <;> omega, ?_⟩
   conv => whnf
   exact againA ⟨j + 1, q * p, _, _, _, _, hn, by omega, q1, rfl, rfl, rfl, rfl⟩
 ·have hj2 : j = k.toNat - 1 := Classical.byContradiction fun h => by
   obtain ⟨q1, q2, q3, q4⟩ := q_step hp (j := j) (k := k.toNat) (by omega)
   rw [← hq] at q2 q3 q4
   rw [hm] at q2; omega
  subst hj2
  obtain ⟨rfl, rfl⟩ := hI.uniq hL
  refine W.exit (hK1 _ ?_)
  clear hK7 K7 hK1 K1
  refine W.rs (cx_ok _) (by rfl) fun K hK => ?_
  conv => whnf
  refine hK _ ?_
  clear hK K
  refine W.ret ?_
  conv => whnf
  exact ⟨.v (.ints none X.l), ⟨rfl, rfl⟩, trivial, .v (.ints none Y.l), ⟨rfl, rfl⟩, trivial, rfl⟩
end

open Go Go.RowKit Go.Proofs Poly
set_option maxRecDepth 100000
set_option maxHeartbeats 8000000

theorem scaled_fn (g : Option Nat) (xs : List Int) (q : Int) (hx : Bd 97 xs) (hq : 0 ≤ q ∧ q ≤ 1000000000) (hl : xs.length ≤ 1000) : FnI 59 [.ints g xs, .int .i64 q] (trimZ (mulL xs [q])) := by
 refine fn_of (cx_ok [0, 1, 4]) Tryz.func59 rfl (by decide) Tryz.ntmps59 (Nat.le_of_ble_eq_true rfl) fun base => ?_
 refine W.rs (cx_ok _) (by rfl) fun K hK => ?_
 conv => whnf
 refine hK _ ?_
 clear hK K
 refine W.rs (cx_ok _) (by rfl) fun K hK => ?_
 conv => whnf
 refine ⟨⟨rfl, by decide⟩, ?_⟩
 conv => whnf
 intro b_1 hs_1 hh_1 hf_1
 try dsimp only at hh_1 hf_1
 conv => whnf
 refine callI rfl (productOf_wide g (some b_1) xs [q] 97 1000000000 (by omega) (by omega) hx (bdc1 (by omega)) (by omega) (by omega) (by simp)) fun hs_2 b_2 hh_2 hf_2 => ?_
 try dsimp only at hh_2 hf_2
 conv => whnf
 refine hK _ ?_
 clear hK K
 refine W.ret ?_
 conv => whnf
 exact ⟨.ownI 2 _ (trimZ (mulL xs [q])), ⟨rfl, rfl, rfl⟩, trivial, _, rfl⟩


section
variable {p k M : Int} [SP p] [Pos M] {f : Poly M} {a b : Nat} {g0 h0 S T : Poly p} {G H : Poly M}
theorem mulM_bd8 (hm : M ≤ 1000000000) (X Y : Poly M) (hX : dg X ≤ 8) : Bd 8000000000000000000 (trimZ (mulL X.l Y.l)) := by
 refine Bd.trim fun j => ?_
 rw [cf_mulL]
 have := cv_bd (A := 999999999) (B := 999999999) (by omega) (by omega) (n := dg X) (cf X.l) (cf Y.l) (r_bd hm X) (fun j hj => cf_dg hj) (r_bd hm Y) j
 have h2 : (dg X : Int) * (999999999 * 999999999) ≤ 8 * (999999999 * 999999999) := Int.mul_le_mul_of_nonneg_right (by omega) (by omega)
 omega
theorem sc_bd {q : Int} (hq : 0 ≤ q ∧ q ≤ 1000000000) (X : Poly p) : Bd 97000000000 (trimZ (mulL X.l [q])) := fun j => by
 rw [cf_scaled]
 have h1 := cf_rng X j
 have h2 := SP.le (p := p)
 have := mulq hq (c := cf X.l j) (by omega)
 omega

def LPost (bg bh : Nat) (tb : Tab) (l1 l2 : List Int) (av t' : AV) : Prop := ∃ (b0 b1 : Nat) (tb' : Tab), av = .v (.tup [.rf b0 l1.length, .rf b1 l2.length]) ∧ t' = .tab tb' ∧ tb' b0 = some l1 ∧ tb' b1 = some l2 ∧ b0 ≠ b1 ∧ (b0 = bg ∨ tb b0 = none) ∧ (b1 = bh ∨ tb b1 = none) ∧ ∀ c xs, tb c = some xs → tb' c = some xs

theorem liftPair_M (hr : IsRg p k) (hm : p ^ k.toNat = M) (hP : Pair f a b g0 h0 S T) (h9 : a + b ≤ 8) (hL : LAt f a b g0 h0 S T (k.toNat - 1) G H) (g : Option Nat) (bg bh : Nat) (tb : Tab) (htg : tb bg = some g0.l) (hth : tb bh = some h0.l) (hne : bg ≠ bh) :
  MFn Tryz.prog 28 [vR p k, .nil, .rf bg g0.l.length, .rf bh h0.l.length] 1 (.v (.ints g f.l)) (.tab tb) (fun _ av x' t' => x' = .v (.ints g f.l) ∧ LPost bg bh tb G.l H.l av t') := by
 obtain ⟨s1, s2, s3, s4, s5, s6⟩ := hr.small
 have hp := Pr.two (p := p)
 have hp2 := SP.le (p := p)
 have hpM := Pos.pos (p := M)
 have m9 : M ≤ 1000000000 := by omega
 have hg1 := hP.mg.1
 have hh1 := hP.mh.1
 have hf1 := hP.mf.1
 have hg0 : g0 ≠ 0 := fun e => by rw [e, dg_zero] at hg1; omega
 have hh0 : h0 ≠ 0 := fun e => by rw [e, dg_zero] at hh1; omega
 have ha1 := hP.a1
 have hb1 := hP.b1
 have hS := hP.s1
 have hT := hP.t1
 have hfl : f.l.length = dg f := rfl
 have hgl : g0.l.length = dg g0 := rfl
 have hhl : h0.l.length = dg h0 := rfl
 refine mfn_ofV (cx := cxt [] [0, 1, 2, 3, 4, 8, 9, 10, 11, 12, 13, 14, 16, 17, 18, 31, 41, 42, 43, 44, 1000000, 1000001]) (cxt_ok [] [0, 1, 2, 3, 4, 8, 9, 10, 11, 12, 13, 14, 16, 17, 18, 31, 41, 42, 43, 44, 1000000, 1000001]) Tryz.func28 rfl (by decide) Tryz.ntmps28 (Nat.le_of_ble_eq_true rfl) (Nat.le_of_ble_eq_true rfl) rfl rfl fun base hs0 O U hw v0 hb0 => ?_
 refine W.rs (cxt_ok _ _) (by rfl) fun K hK => ?_
 conv => whnf
 refine ⟨rfl, ?_⟩
 conv => whnf
 intro b_4 hs_4 hh_4 hf_4
 try dsimp only at hh_4 hf_4
 conv => whnf
 refine hK _ ?_
 clear hK K
 refine W.rd (cxt_ok _ _) follows (by rfl) fun K hK => ?_
 conv => whnf
 refine ⟨_, cxtF (ringMod_M hr hm), ?_⟩
 conv => whnf
 refine hK _ ?_
 clear hK K
 refine W.rs (cxt_ok _ _) (by rfl) fun K hK => ?_
 conv => whnf
 refine ⟨h0.l, ⟨rfl, fun _ => hth⟩, ?_⟩
 conv => whnf
 refine ⟨g0.l, ⟨rfl, fun _ => htg⟩, ?_⟩
 conv => whnf
 refine callI rfl (cofactor_fn p (some bh) (some bg) h0 g0 S (by omega) (by omega) (by omega) hS hP.s2) fun hs_12 b_12 hh_12 hf_12 => ?_
 try dsimp only at hh_12 hf_12
 conv => whnf
 refine hK _ ?_
 clear hK K
 refine W.seqK fun K1 hK1 => ?_
 refine W.rs (cxt_ok _ _) (by rfl) fun K hK => ?_
 conv => whnf
 refine hK _ (W.block (W.invH hs0 hb0 (fun m e => ∃ (j : Nat) (q : Int) (bg' bh' : Nat) (X Y : Poly M) (su sv : List Int) (tbi : Tab), LAt f a b g0 h0 S T j X Y ∧ j + 1 ≤ k.toNat ∧ q = p ^ (j + 1) ∧ su = X.l ∧ sv = Y.l ∧ tbi bg' = some su ∧ tbi bh' = some sv ∧ bg' ≠ bh' ∧ (bg' = bg ∨ tb bg' = none) ∧ (bh' = bh ∨ tb bh' = none) ∧ (∀ c xs, tb c = some xs → tbi c = some xs) ∧ m = k.toNat - j ∧ e = [(1, .v (.ints g f.l)), (2, .v (.rf bg' su.length)), (3, .v (.rf bh' sv.length)), (10, .v (.int .i64 p)), (11, .v (.int .i64 M)), (12, .ownI 2 b_12 S.l), (13, .v (.int .i64 q)), (vt, .tab tbi), (vk, .keep O U hw 1 v0)]) _ _ ⟨0, p, bg, bh, lft M g0, lft M h0, g0.l, h0.l, tb, LAt.start hP, by omega, (by rw [Int.pow_succ, Int.pow_zero, Int.one_mul]), (lft_l hP.ple _).symm, (lft_l hP.ple _).symm, htg, hth, hne, .inl rfl, .inl rfl, fun _ _ h => h, rfl, rfl⟩ (by dsimp only; omega) ?_ ?_))
 ·repeat' first | refine And.intro ?_ ?_ | exact trivial | rfl | omega | exact .inl rfl | exact fun _ _ => rfl | exact fun _ _ h => h | assumption | exact fun i hi => (by obtain rfl : i = 0 := (by omega); rfl)
 clear hK K
 rintro m e ⟨j, q, bg', bh', X, Y, su, sv, tbi, hI, hj, hq, rfl, rfl, htx, hty, hbb', hbg, hbh, hold, hmm, rfl⟩
 have hX1 := hI.inv.mg.1
 have hY1 := hI.inv.mh.1
 have hXl : X.l.length = dg X := rfl
 have hYl : Y.l.length = dg Y := rfl
 refine W.seqK fun K7 hK7 => W.rs (cxt_ok _ _) (by rfl) fun K hK => ?_
 conv => whnf
 refine hK _ (W.cond ⟨fun h5 => ?_, fun h5 => ?_⟩) <;> clear hK K <;> (first | replace h5 := of_decide_eq_true h5 | replace h5 := of_decide_eq_false h5)
 ·have hj2 : j + 1 < k.toNat := Classical.byContradiction fun h => by
   have e : j + 1 = k.toNat := by omega
   rw [hq, e, hm] at h5; omega
  obtain ⟨q1, q2, q3, q4⟩ := q_step hp hj2
  have hc := hI.cdg hP (by omega) q
  have hn := hI.step hP hq
  have htwo := hI.two hP (by omega) q
  rw [← hq] at q1 q2 q3 q4
  rw [hm] at q2
  obtain ⟨D, hD⟩ : ∃ D, f - X * Y = D := ⟨_, rfl⟩
  rw [hD] at hc hn htwo
  have hDl : D.l.length = dg D := rfl
  have hml := mulL_len X.l Y.l
  have hsl := sub_len f.l (trimZ (mulL X.l Y.l))
  have hb8 := mulM_bd8 m9 X Y (by omega)
  obtain ⟨C, hC⟩ : ∃ C, dgt p q D = C := ⟨_, rfl⟩
  rw [hC] at hc hn htwo
  obtain ⟨hc1, hc2⟩ := hc
  have hx := rem_lt (C * S) hg0
  have hy := rem_lt (C * T) hh0
  generalize rem (C * T) h0 = V at hn htwo hy
  have hCS := dg_mul_le C S
  have hCl : C.l.length = dg C := rfl
  refine W.skip (hK7 _ ?_)
  clear hK7 K7
  refine W.seqK fun K8 hK8 => W.block ?_
  refine W.rs (cxt_ok _ _) (by rfl) fun K hK => ?_
  conv => whnf
  refine hK _ ?_
  clear hK K
  refine W.seqK fun K5 hK5 => ?_
  refine W.rs (cxt_ok _ _) (by rfl) fun K hK => ?_
  conv => whnf
  refine ⟨X.l, ⟨rfl, fun _ => htx⟩, ?_⟩
  conv => whnf
  refine ⟨Y.l, ⟨rfl, fun _ => hty⟩, ?_⟩
  conv => whnf
  refine callI rfl (productOf_wide (some bg') (some bh') X.l Y.l 999999999 999999999 (by omega) (by omega) (r_bd m9 X) (r_bd m9 Y) (by rw [hXl]; omega) (by omega) (by omega)) fun hs_2 b_2 hh_2 hf_2 => ?_
  try dsimp only at hh_2 hf_2
  conv => whnf
  refine callI rfl (minus_wide g (some b_2) f.l (trimZ (mulL X.l Y.l)) ((r_bd m9 f).le (by omega)) (hb8.le (by omega)) (fun j => by have := r_bd m9 f j; have := hb8 j; omega) (by omega) (by omega)) fun hs_3 b_3 hh_3 hf_3 => ?_
  try dsimp only at hh_3 hf_3
  conv => whnf
  refine callI rfl (reduce_wide M (by omega) (by omega) (some b_3) (trimZ (addL f.l (smulL (-1) (trimZ (mulL X.l Y.l))))) (sub_bd (r_bd m9 f) hb8 (by omega)) (by omega)) fun hs_4 b_4 hh_4 hf_4 => ?_
  try dsimp only at hh_4 hf_4
  conv => whnf
  rw [sub_mul_l, hD]
  refine hK _ (W.block (W.invH hs0 hb0 (fun m e => ∃ (i b' : Nat) (o : List Int), i ≤ dg D ∧ o = (D.l.take i).map (· / q) ∧ m = dg D - i ∧ e = [(1, .v (.ints g f.l)), (2, .v (.rf bg' X.l.length)), (3, .v (.rf bh' Y.l.length)), (10, .v (.int .i64 p)), (11, .v (.int .i64 M)), (12, .ownI 2 b_12 S.l), (13, .v (.int .i64 q)), (14, .ownI 2 b' o), (41, .v (.ints none D.l)), (42, .v (.int .i64 D.l.length)), (43, .v (.int .i64 i)), (vt, .tab tbi), (vk, .keep O U hw 1 v0)]) _ _ ⟨0, 0, [], Nat.zero_le _, rfl, rfl, rfl⟩ (by dsimp only; omega) ?_ ?_))
  ·repeat' first | refine And.intro ?_ ?_ | exact trivial | rfl | omega | exact .inl rfl | exact fun _ _ => rfl | exact fun _ _ h => h | assumption | exact fun i hi => (by obtain rfl : i = 0 := (by omega); rfl)
  clear hK K
  rintro m' e ⟨i, b', o, hi, rfl, hm', rfl⟩
  refine W.rs (cxt_ok _ _) (by rfl) fun K hK => ?_
  conv => whnf
  refine hK _ ?_
  clear hK K
  refine W.seqK fun K7 hK7 => W.cond ⟨fun h6 => ?_, fun h6 => ?_⟩ <;> (first | replace h6 := of_decide_eq_true h6 | replace h6 := of_decide_eq_false h6)
  ·have hi2 : i < D.l.length := by omega
   have hst := take_map_succ (fun x => x / q) hi2
   have hci := cf_rng D i
   have hdq := divq (q := q) (c := cf D.l i) (by omega) hci.1
   have e1 : (D.l.getD i 0).tdiv q = cf D.l i / q := Int.tdiv_eq_ediv_of_nonneg hci.1
   have hol : ((D.l.take i).map (· / q)).length = i := by rw [List.length_map, List.length_take]; omega
   refine W.skip (hK7 _ ?_)
   clear hK7 K7
   refine W.seqK fun K9 hK9 => W.block ?_
   refine W.rs (cxt_ok _ _) (by rfl) fun K hK => ?_
   conv => whnf
   refine ⟨⟨by omega, by omega⟩, ?_⟩
   conv => whnf
   rw [Int.toNat_natCast]
   refine hK _ ?_
   clear hK K
   refine W.region (cxt_ok _ _) (by rfl) ?_
   conv => whnf
   refine ⟨by omega, ?_⟩
   conv => whnf
   rw [e1]
   refine ⟨by constructor <;> omega, ?_⟩
   conv => whnf
   refine ⟨⟨rfl, by decide⟩, ?_⟩
   conv => whnf
   intro b_6 hs_6 hh_6 hf_6
   try dsimp only at hh_6 hf_6
   conv => whnf
   refine ⟨by dsimp only [List.length]; omega, ?_⟩
   conv => whnf
   intro b_7 hs_7 hh_7 hf_7
   try dsimp only at hh_7 hf_7
   conv => whnf
   refine hK9 _ ?_
   clear hK9 K9
   refine W.region (cxt_ok _ _) (by rfl) ?_
   conv => whnf
   refine ⟨by constructor <;> omega, ?_⟩
   conv => whnf
   refine ⟨_, _, ⟨i + 1, b_7, _, by omega, hst.symm, rfl, rfl⟩, by omega, by dsimp only; omega, ?_⟩
   repeat' first | refine And.intro ?_ ?_ | exact trivial | rfl | omega | exact .inl rfl | exact fun _ _ => rfl | exact fun _ _ h => h | assumption | exact fun i hi => (by obtain rfl : i = 0 := (by omega); rfl)
  ·obtain rfl : i = D.l.length := by omega
   rw [List.take_length]
   have hml2 : (D.l.map (· / q)).length = dg D := (List.length_map ..).trans hDl
   have hmb : Bd 1000000000 (D.l.map (· / q)) := fun i => by
    by_cases hi : i < D.l.length
    ·rw [cf_map (· / q) _ hi]
     have hci := cf_rng D i
     have hdq := divq (q := q) (c := cf D.l i) (by omega) hci.1
     show _ ≤ cf D.l i / q ∧ cf D.l i / q ≤ _
     omega
    ·rw [cf_ge (by simpa using hi)]; omega
   have eX : nrm p X.l = g0.l := congrArg Poly.l hI.inv.ig
   have eY : nrm p Y.l = h0.l := congrArg Poly.l hI.inv.ih
   obtain ⟨W0, hW0⟩ : ∃ W0, rem (C * S) g0 = W0 := ⟨_, rfl⟩
   rw [hW0] at hn htwo hx
   have hWh := dg_mul_le W0 h0
   have hWl : W0.l.length = dg W0 := rfl
   have hVl : V.l.length = dg V := rfl
   have hWhl : (W0 * h0).l.length = dg (W0 * h0) := rfl
   have hsl2 := sub_len C.l (W0 * h0).l
   have hcd := dg_sub C (W0 * h0)
   have hq9 : 0 ≤ q ∧ q ≤ 1000000000 := ⟨by omega, by omega⟩
   have hs1 := mulL_len W0.l [q]
   have hs2 := mulL_len V.l [q]
   have hs3 := add_len X.l (trimZ (mulL W0.l [q]))
   have hs4 := add_len Y.l (trimZ (mulL V.l [q]))
   refine W.exit (hK5 _ ?_)
   clear hK7 K7 hK5 K5
   refine W.tick rfl fun hs9 hhs9 hbb => ?_
   dsimp only at hhs9
   refine W.rs (cxt_ok _ _) (by rfl) fun K hK => ?_
   conv => whnf
   refine callI rfl (reduce_fn p (by omega) (by omega) (some b') (D.l.map (· / q)) (hmb.le (by omega)) (by omega)) fun hs_6 b_6 hh_6 hf_6 => ?_
   try dsimp only at hh_6 hf_6
   conv => whnf
   rw [dgt_l, hC]
   refine hK _ ?_
   clear hK K
   refine W.rs (cxt_ok _ _) (by rfl) fun K hK => ?_
   conv => whnf
   refine callI rfl (times_fn p (some b_6) (some b_12) C S (by omega) (by omega)) fun hs_7 b_7 hh_7 hf_7 => ?_
   try dsimp only at hh_7 hf_7
   conv => whnf
   refine ⟨X.l, ⟨rfl, fun _ => htx⟩, ?_⟩
   conv => whnf
   refine callI rfl (reduce_fn p (by omega) (by omega) (some bg') X.l ((r_bd m9 X).le (by omega)) (by omega)) fun hs_8 b_8 hh_8 hf_8 => ?_
   try dsimp only at hh_8 hf_8
   conv => whnf
   rw [eX]
   refine callV rfl (remainder_fn p (some b_7) (some b_8) (C * S) g0 (by omega) (by omega) hg0) fun hs' hhs => ?_
   try dsimp only at hhs
   conv => whnf
   rw [hW0]
   refine hK _ ?_
   clear hK K
   refine W.rs (cxt_ok _ _) (by rfl) fun K hK => ?_
   conv => whnf
   refine ⟨Y.l, ⟨rfl, fun _ => hty⟩, ?_⟩
   conv => whnf
   refine callI rfl (reduce_fn p (by omega) (by omega) (some bh') Y.l ((r_bd m9 Y).le (by omega)) (by omega)) fun hs_9 b_9 hh_9 hf_9 => ?_
   try dsimp only at hh_9 hf_9
   conv => whnf
   rw [eY]
   refine callI rfl (times_fn p none (some b_9) W0 h0 (by omega) (by omega)) fun hs_10 b_10 hh_10 hf_10 => ?_
   try dsimp only at hh_10 hf_10
   conv => whnf
   refine callI rfl (minus_fn (some b_6) (some b_10) C.l (W0 * h0).l ((l_bd C).le (by omega)) ((l_bd _).le (by omega)) (by omega) (by omega)) fun hs_11 b_11 hh_11 hf_11 => ?_
   try dsimp only at hh_11 hf_11
   conv => whnf
   refine callI rfl (reduce_fn p (by omega) (by omega) (some b_11) (trimZ (addL C.l (smulL (-1) (W0 * h0).l))) (sub_bd (l_bd C) (l_bd _) (by omega)) (by omega)) fun hs_13 b_13 hh_13 hf_13 => ?_
   try dsimp only at hh_13 hf_13
   conv => whnf
   rw [subM_l]
   refine ⟨X.l, ⟨rfl, fun _ => htx⟩, ?_⟩
   conv => whnf
   refine callI rfl (reduce_fn p (by omega) (by omega) (some bg') X.l ((r_bd m9 X).le (by omega)) (by omega)) fun hs_14 b_14 hh_14 hf_14 => ?_
   try dsimp only at hh_14 hf_14
   conv => whnf
   rw [eX]
   refine callV rfl (divide_fn p (some b_13) (some b_14) (C - W0 * h0) g0 (by omega) (by omega) hg0) fun hs' hhs => ?_
   try dsimp only at hhs
   conv => whnf
   rw [htwo]
   refine hK _ ?_
   clear hK K
   refine W.region (cxt_ok _ _) (by rfl) ?_
   conv => whnf
   refine callI rfl (scaled_fn none W0.l q (l_bd W0) hq9 (by omega)) fun hs_15 b_15 hh_15 hf_15 => ?_
   try dsimp only at hh_15 hf_15
   conv => whnf
   refine ⟨X.l, ⟨rfl, fun _ => htx⟩, ?_⟩
   conv => whnf
   refine callI rfl (sumOf_fn (some bg') (some b_15) X.l (trimZ (mulL W0.l [q])) ((r_bd m9 X).le (by omega)) ((sc_bd hq9 W0).le (by omega)) (by omega) (by simp at hs1; omega)) fun hs_16 b_16 hh_16 hf_16 => ?_
   try dsimp only at hh_16 hf_16
   conv => whnf
   refine callI rfl (reduce_fn M (by omega) (by omega) (some b_16) (trimZ (addL X.l (trimZ (mulL W0.l [q])))) (add_bd (r_bd m9 X) (sc_bd hq9 W0) (by omega)) (by simp at hs1; omega)) fun hs_17 b_17 hh_17 hf_17 => ?_
   try dsimp only at hh_17 hf_17
   conv => whnf
   rw [lift_add']
   refine callI rfl (scaled_fn none V.l q (l_bd V) hq9 (by omega)) fun hs_18 b_18 hh_18 hf_18 => ?_
   try dsimp only at hh_18 hf_18
   conv => whnf
   refine ⟨Y.l, ⟨rfl, fun _ => hty⟩, ?_⟩
   conv => whnf
   refine callI rfl (sumOf_fn (some bh') (some b_18) Y.l (trimZ (mulL V.l [q])) ((r_bd m9 Y).le (by omega)) ((sc_bd hq9 V).le (by omega)) (by omega) (by simp at hs2; omega)) fun hs_19 b_19 hh_19 hf_19 => ?_
   try dsimp only at hh_19 hf_19
   conv => whnf
   refine callI rfl (reduce_fn M (by omega) (by omega) (some b_19) (trimZ (addL Y.l (trimZ (mulL V.l [q])))) (add_bd (r_bd m9 Y) (sc_bd hq9 V) (by omega)) (by simp at hs2; omega)) fun hs_20 b_20 hh_20 hf_20 => ?_
   try dsimp only at hh_20 hf_20
   conv => whnf
   rw [lift_add']
   refine hK8 _ ?_
   clear hK8 K8
   rw [lift_add'] at hf_17 hf_20
   generalize hX' : X + cn M q * lft M W0 = X' at hn hf_17
   generalize hY' : Y + cn M q * lft M V = Y' at hn hf_20
   have hX'1 := hn.inv.mg.1
   have hY'1 := hn.inv.mh.1
   have hX'n : X'.l ≠ [] := fun e => by have : X'.l.length = dg X' := rfl; rw [e] at this; simp at this; omega
   have hY'n : Y'.l ≠ [] := fun e => by have : Y'.l.length = dg Y' := rfl; rw [e] at this; simp at this; omega
   have k1 := hf_17 hX'n
   have k2 := hf_20 hY'n
   have hlow : ∀ c xs, tb c = some xs → c < hs9 := fun c xs h => hbb c (by rw [hold c xs h]; exact Option.some_ne_none _)
   refine W.give 2 fun K hK => ?_
   conv => whnf
   refine hK _ ?_
   clear hK K
   refine W.give 3 fun K hK => ?_
   conv => whnf
   refine hK _ ?_
   clear hK K
   refine W.region (cxt_ok _ _) (by rfl) ?_
   conv => whnf
   refine ⟨by constructor <;> omega, ?_⟩
   conv => whnf
   refine ⟨_, _, ⟨j + 1, q * p, b_17, b_20, X', Y', X'.l, Y'.l, tbAdd (tbAdd tbi b_17 X'.l) b_20 Y'.l, hn, by omega, q1, rfl, rfl, (tbAdd_ne _ _ (.inr (by omega))).trans (tbAdd_self _ _ hX'n), tbAdd_self _ _ hY'n, by omega, .inr ?_, .inr ?_, fun c xs h => ?_, rfl, rfl⟩, by omega, by dsimp only; omega, ?_⟩
   ·cases h : tb b_17 with
    | none => rfl
    | some xs => exact absurd (hlow _ _ h) (by omega)
   ·cases h : tb b_20 with
    | none => rfl
    | some xs => exact absurd (hlow _ _ h) (by omega)
   ·have := hlow _ _ h
    exact ((tbAdd_ne _ _ (.inr (by omega))).trans (tbAdd_ne _ _ (.inr (by omega)))).trans (hold c xs h)
   ·repeat' first | refine And.intro ?_ ?_ | exact trivial | rfl | omega | exact .inl rfl | exact fun _ _ => rfl | exact fun _ _ h => h | assumption | exact fun i hi => (by obtain rfl : i = 0 := (by omega); rfl)
 ·have hj2 : j = k.toNat - 1 := Classical.byContradiction fun h => by
   obtain ⟨q1, q2, q3, q4⟩ := q_step hp (j := j) (k := k.toNat) (by omega)
   rw [← hq] at q2 q3 q4
   rw [hm] at q2; omega
  subst hj2
  obtain ⟨rfl, rfl⟩ := hI.uniq hL
  refine W.exit (hK1 _ ?_)
  clear hK7 K7 hK1 K1
  refine W.rs (cxt_ok _ _) (by rfl) fun K hK => ?_
  conv => whnf
  refine hK _ ?_
  clear hK K
  refine W.ret ?_
  conv => whnf
  refine ⟨by dsimp only; omega, ?_⟩
  conv => whnf
  refine ⟨rfl, ?_⟩
  conv => whnf
  refine ⟨.rf bg' X.l.length, rfl, ?_⟩
  conv => whnf
  refine ⟨rfl, ?_⟩
  conv => whnf
  refine ⟨.rf bh' Y.l.length, rfl, ?_⟩
  conv => whnf
  exact ⟨.v (.ints g f.l), leV_refl (.ints g f.l), .inr ⟨rfl, rfl⟩, .tab tbi, fun _ _ h => h, rfl, rfl, rfl, bg', bh', tbi, rfl, rfl, htx, hty, hbb', hbg, hbh, hold⟩
end

open Go Go.RowKit Go.Proofs Poly
set_option maxRecDepth 100000
set_option maxHeartbeats 8000000


section
variable {p k M : Int} [SP p] [Pos M] {f : Poly M} {a b : Nat} {g0 h0 S T : Poly p} {G H : Poly M}
theorem liftPair_R (hr : IsRg p k) (hm : p ^ k.toNat = M) (hP : Pair f a b g0 h0 S T) (h9 : a + b ≤ 8) (hL : LAt f a b g0 h0 S T (k.toNat - 1) G H) (bf bg bh : Nat) (tb : Tab) (htf : tb bf = some f.l) (htg : tb bg = some g0.l) (hth : tb bh = some h0.l) (hne : bg ≠ bh) :
  MFn Tryz.prog 28 [vR p k, .nil, .rf bg g0.l.length, .rf bh h0.l.length] 1 (.v (.rf bf f.l.length)) (.tab tb) (fun _ av x' t' => x' = .v (.rf bf f.l.length) ∧ LPost bg bh tb G.l H.l av t') := by
 obtain ⟨s1, s2, s3, s4, s5, s6⟩ := hr.small
 have hp := Pr.two (p := p)
 have hp2 := SP.le (p := p)
 have hpM := Pos.pos (p := M)
 have m9 : M ≤ 1000000000 := by omega
 have hg1 := hP.mg.1
 have hh1 := hP.mh.1
 have hf1 := hP.mf.1
 have hg0 : g0 ≠ 0 := fun e => by rw [e, dg_zero] at hg1; omega
 have hh0 : h0 ≠ 0 := fun e => by rw [e, dg_zero] at hh1; omega
 have ha1 := hP.a1
 have hb1 := hP.b1
 have hS := hP.s1
 have hT := hP.t1
 have hfl : f.l.length = dg f := rfl
 have hgl : g0.l.length = dg g0 := rfl
 have hhl : h0.l.length = dg h0 := rfl
 refine mfn_ofV (cx := cxt [] [0, 1, 2, 3, 4, 8, 9, 10, 11, 12, 13, 14, 16, 17, 18, 31, 41, 42, 43, 44, 1000000, 1000001]) (cxt_ok [] [0, 1, 2, 3, 4, 8, 9, 10, 11, 12, 13, 14, 16, 17, 18, 31, 41, 42, 43, 44, 1000000, 1000001]) Tryz.func28 rfl (by decide) Tryz.ntmps28 (Nat.le_of_ble_eq_true rfl) (Nat.le_of_ble_eq_true rfl) rfl rfl fun base hs0 O U hw v0 hb0 => ?_
 refine W.rs (cxt_ok _ _) (by rfl) fun K hK => ?_
 conv => whnf
 refine ⟨rfl, ?_⟩
 conv => whnf
 intro b_4 hs_4 hh_4 hf_4
 try dsimp only at hh_4 hf_4
 conv => whnf
 refine hK _ ?_
 clear hK K
 refine W.rd (cxt_ok _ _) follows (by rfl) fun K hK => ?_
 conv => whnf
 refine ⟨_, cxtF (ringMod_M hr hm), ?_⟩
 conv => whnf
 refine hK _ ?_
 clear hK K
 refine W.rs (cxt_ok _ _) (by rfl) fun K hK => ?_
 conv => whnf
 refine ⟨h0.l, ⟨rfl, fun _ => hth⟩, ?_⟩
 conv => whnf
 refine ⟨g0.l, ⟨rfl, fun _ => htg⟩, ?_⟩
 conv => whnf
 refine callI rfl (cofactor_fn p (some bh) (some bg) h0 g0 S (by omega) (by omega) (by omega) hS hP.s2) fun hs_12 b_12 hh_12 hf_12 => ?_
 try dsimp only at hh_12 hf_12
 conv => whnf
 refine hK _ ?_
 clear hK K
 refine W.seqK fun K1 hK1 => ?_
 refine W.rs (cxt_ok _ _) (by rfl) fun K hK => ?_
 conv => whnf
 refine hK _ (W.block (W.invH hs0 hb0 (fun m e => ∃ (j : Nat) (q : Int) (bg' bh' : Nat) (X Y : Poly M) (su sv : List Int) (tbi : Tab), LAt f a b g0 h0 S T j X Y ∧ j + 1 ≤ k.toNat ∧ q = p ^ (j + 1) ∧ su = X.l ∧ sv = Y.l ∧ tbi bg' = some su ∧ tbi bh' = some sv ∧ bg' ≠ bh' ∧ (bg' = bg ∨ tb bg' = none) ∧ (bh' = bh ∨ tb bh' = none) ∧ (∀ c xs, tb c = some xs → tbi c = some xs) ∧ m = k.toNat - j ∧ e = [(1, .v (.rf bf f.l.length)), (2, .v (.rf bg' su.length)), (3, .v (.rf bh' sv.length)), (10, .v (.int .i64 p)), (11, .v (.int .i64 M)), (12, .ownI 2 b_12 S.l), (13, .v (.int .i64 q)), (vt, .tab tbi), (vk, .keep O U hw 1 v0)]) _ _ ⟨0, p, bg, bh, lft M g0, lft M h0, g0.l, h0.l, tb, LAt.start hP, by omega, (by rw [Int.pow_succ, Int.pow_zero, Int.one_mul]), (lft_l hP.ple _).symm, (lft_l hP.ple _).symm, htg, hth, hne, .inl rfl, .inl rfl, fun _ _ h => h, rfl, rfl⟩ (by dsimp only; omega) ?_ ?_))
 ·repeat' first | refine And.intro ?_ ?_ | exact trivial | rfl | omega | exact .inl rfl | exact fun _ _ => rfl | exact fun _ _ h => h | assumption | exact fun i hi => (by obtain rfl : i = 0 := (by omega); rfl)
 clear hK K
 rintro m e ⟨j, q, bg', bh', X, Y, su, sv, tbi, hI, hj, hq, rfl, rfl, htx, hty, hbb', hbg, hbh, hold, hmm, rfl⟩
 have hX1 := hI.inv.mg.1
 have hY1 := hI.inv.mh.1
 have hXl : X.l.length = dg X := rfl
 have hYl : Y.l.length = dg Y := rfl
 refine W.seqK fun K7 hK7 => W.rs (cxt_ok _ _) (by rfl) fun K hK => ?_
 conv => whnf
 refine hK _ (W.cond ⟨fun h5 => ?_, fun h5 => ?_⟩) <;> clear hK K <;> (first | replace h5 := of_decide_eq_true h5 | replace h5 := of_decide_eq_false h5)
 ·have hj2 : j + 1 < k.toNat := Classical.byContradiction fun h => by
   have e : j + 1 = k.toNat := by omega
   rw [hq, e, hm] at h5; omega
  obtain ⟨q1, q2, q3, q4⟩ := q_step hp hj2
  have hc := hI.cdg hP (by omega) q
  have hn := hI.step hP hq
  have htwo := hI.two hP (by omega) q
  rw [← hq] at q1 q2 q3 q4
  rw [hm] at q2
  obtain ⟨D, hD⟩ : ∃ D, f - X * Y = D := ⟨_, rfl⟩
  rw [hD] at hc hn htwo
  have hDl : D.l.length = dg D := rfl
  have hml := mulL_len X.l Y.l
  have hsl := sub_len f.l (trimZ (mulL X.l Y.l))
  have hb8 := mulM_bd8 m9 X Y (by omega)
  obtain ⟨C, hC⟩ : ∃ C, dgt p q D = C := ⟨_, rfl⟩
  rw [hC] at hc hn htwo
  obtain ⟨hc1, hc2⟩ := hc
  have hx := rem_lt (C * S) hg0
  have hy := rem_lt (C * T) hh0
  generalize rem (C * T) h0 = V at hn htwo hy
  have hCS := dg_mul_le C S
  have hCl : C.l.length = dg C := rfl
  refine W.skip (hK7 _ ?_)
  clear hK7 K7
  refine W.seqK fun K8 hK8 => W.block ?_
  refine W.rs (cxt_ok _ _) (by rfl) fun K hK => ?_
  conv => whnf
  refine hK _ ?_
  clear hK K
  refine W.seqK fun K5 hK5 => ?_
  refine W.rs (cxt_ok _ _) (by rfl) fun K hK => ?_
  conv => whnf
  refine ⟨X.l, ⟨rfl, fun _ => htx⟩, ?_⟩
  conv => whnf
  refine ⟨Y.l, ⟨rfl, fun _ => hty⟩, ?_⟩
  conv => whnf
  refine callI rfl (productOf_wide (some bg') (some bh') X.l Y.l 999999999 999999999 (by omega) (by omega) (r_bd m9 X) (r_bd m9 Y) (by rw [hXl]; omega) (by omega) (by omega)) fun hs_2 b_2 hh_2 hf_2 => ?_
  try dsimp only at hh_2 hf_2
  conv => whnf
  refine ⟨f.l, ⟨rfl, fun _ => hold bf f.l htf⟩, ?_⟩
  conv => whnf
  refine callI rfl (minus_wide (some bf) (some b_2) f.l (trimZ (mulL X.l Y.l)) ((r_bd m9 f).le (by omega)) (hb8.le (by omega)) (fun j => by have := r_bd m9 f j; have := hb8 j; omega) (by omega) (by omega)) fun hs_3 b_3 hh_3 hf_3 => ?_
  try dsimp only at hh_3 hf_3
  conv => whnf
  refine callI rfl (reduce_wide M (by omega) (by omega) (some b_3) (trimZ (addL f.l (smulL (-1) (trimZ (mulL X.l Y.l))))) (sub_bd (r_bd m9 f) hb8 (by omega)) (by omega)) fun hs_4 b_4 hh_4 hf_4 => ?_
  try dsimp only at hh_4 hf_4
  conv => whnf
  rw [sub_mul_l, hD]
  refine hK _ (W.block (W.invH hs0 hb0 (fun m e => ∃ (i b' : Nat) (o : List Int), i ≤ dg D ∧ o = (D.l.take i).map (· / q) ∧ m = dg D - i ∧ e = [(1, .v (.rf bf f.l.length)), (2, .v (.rf bg' X.l.length)), (3, .v (.rf bh' Y.l.length)), (10, .v (.int .i64 p)), (11, .v (.int .i64 M)), (12, .ownI 2 b_12 S.l), (13, .v (.int .i64 q)), (14, .ownI 2 b' o), (41, .v (.ints none D.l)), (42, .v (.int .i64 D.l.length)), (43, .v (.int .i64 i)), (vt, .tab tbi), (vk, .keep O U hw 1 v0)]) _ _ ⟨0, 0, [], Nat.zero_le _, rfl, rfl, rfl⟩ (by dsimp only; omega) ?_ ?_))
  ·repeat' first | refine And.intro ?_ ?_ | exact trivial | rfl | omega | exact .inl rfl | exact fun _ _ => rfl | exact fun _ _ h => h | assumption | exact fun i hi => (by obtain rfl : i = 0 := (by omega); rfl)
  clear hK K
  rintro m' e ⟨i, b', o, hi, rfl, hm', rfl⟩
  refine W.rs (cxt_ok _ _) (by rfl) fun K hK => ?_
  conv => whnf
  refine hK _ ?_
  clear hK K
  refine W.seqK fun K7 hK7 => W.cond ⟨fun h6 => ?_, fun h6 => ?_⟩ <;> (first | replace h6 := of_decide_eq_true h6 | replace h6 := of_decide_eq_false h6)
  ·have hi2 : i < D.l.length := by omega
   have hst := take_map_succ (fun x => x / q) hi2
   have hci := cf_rng D i
   have hdq := divq (q := q) (c := cf D.l i) (by omega) hci.1
   have e1 : (D.l.getD i 0).tdiv q = cf D.l i / q := Int.tdiv_eq_ediv_of_nonneg hci.1
   have hol : ((D.l.take i).map (· / q)).length = i := by rw [List.length_map, List.length_take]; omega
   refine W.skip (hK7 _ ?_)
   clear hK7 K7
   refine W.seqK fun K9 hK9 => W.block ?_
   refine W.rs (cxt_ok _ _) (by rfl) fun K hK => ?_
   conv => whnf
   refine ⟨⟨by omega, by omega⟩, ?_⟩
   conv => whnf
   rw [Int.toNat_natCast]
   refine hK _ ?_
   clear hK K
   refine W.region (cxt_ok _ _) (by rfl) ?_
   conv => whnf
   refine ⟨by omega, ?_⟩
   conv => whnf
   rw [e1]
   refine ⟨by constructor <;> omega, ?_⟩
   conv => whnf
   refine ⟨⟨rfl, by decide⟩, ?_⟩
   conv => whnf
   intro b_6 hs_6 hh_6 hf_6
   try dsimp only at hh_6 hf_6
   conv => whnf
   refine ⟨by dsimp only [List.length]; omega, ?_⟩
   conv => whnf
   intro b_7 hs_7 hh_7 hf_7
   try dsimp only at hh_7 hf_7
   conv => whnf
   refine hK9 _ ?_
   clear hK9 K9
   refine W.region (cxt_ok _ _) (by rfl) ?_
   conv => whnf
   refine ⟨by constructor <;> omega, ?_⟩
   conv => whnf
   refine ⟨_, _, ⟨i + 1, b_7, _, by omega, hst.symm, rfl, rfl⟩, by omega, by dsimp only; omega, ?_⟩
   repeat' first | refine And.intro ?_ ?_ | exact trivial | rfl | omega | exact .inl rfl | exact fun _ _ => rfl | exact fun _ _ h => h | assumption | exact fun i hi => (by obtain rfl : i = 0 := (by omega); rfl)
  ·obtain rfl : i = D.l.length := by omega
   rw [List.take_length]
   have hml2 : (D.l.map (· / q)).length = dg D := (List.length_map ..).trans hDl
   have hmb : Bd 1000000000 (D.l.map (· / q)) := fun i => by
    by_cases hi : i < D.l.length
    ·rw [cf_map (· / q) _ hi]
     have hci := cf_rng D i
     have hdq := divq (q := q) (c := cf D.l i) (by omega) hci.1
     show _ ≤ cf D.l i / q ∧ cf D.l i / q ≤ _
     omega
    ·rw [cf_ge (by simpa using hi)]; omega
   have eX : nrm p X.l = g0.l := congrArg Poly.l hI.inv.ig
   have eY : nrm p Y.l = h0.l := congrArg Poly.l hI.inv.ih
   obtain ⟨W0, hW0⟩ : ∃ W0, rem (C * S) g0 = W0 := ⟨_, rfl⟩
   rw [hW0] at hn htwo hx
   have hWh := dg_mul_le W0 h0
   have hWl : W0.l.length = dg W0 := rfl
   have hVl : V.l.length = dg V := rfl
   have hWhl : (W0 * h0).l.length = dg (W0 * h0) := rfl
   have hsl2 := sub_len C.l (W0 * h0).l
   have hcd := dg_sub C (W0 * h0)
   have hq9 : 0 ≤ q ∧ q ≤ 1000000000 := ⟨by omega, by omega⟩
   have hs1 := mulL_len W0.l [q]
   have hs2 := mulL_len V.l [q]
   have hs3 := add_len X.l (trimZ (mulL W0.l [q]))
   have hs4 := add_len Y.l (trimZ (mulL V.l [q]))
   refine W.exit (hK5 _ ?_)
   clear hK7 K7 hK5 K5
   refine W.tick rfl fun hs9 hhs9 hbb => ?_
   dsimp only at hhs9
   refine W.rs (cxt_ok _ _) (by rfl) fun K hK => ?_
   conv => whnf
   refine callI rfl (reduce_fn p (by omega) (by omega) (some b') (D.l.map (· / q)) (hmb.le (by omega)) (by omega)) fun hs_6 b_6 hh_6 hf_6 => ?_
   try dsimp only at hh_6 hf_6
   conv => whnf
   rw [dgt_l, hC]
   refine hK _ ?_
   clear hK K
   refine W.rs (cxt_ok _ _) (by rfl) fun K hK => ?_
   conv => whnf
   refine callI rfl (times_fn p (some b_6) (some b_12) C S (by omega) (by omega)) fun hs_7 b_7 hh_7 hf_7 => ?_
   try dsimp only at hh_7 hf_7
   conv => whnf
   refine ⟨X.l, ⟨rfl, fun _ => htx⟩, ?_⟩
   conv => whnf
   refine callI rfl (reduce_fn p (by omega) (by omega) (some bg') X.l ((r_bd m9 X).le (by omega)) (by omega)) fun hs_8 b_8 hh_8 hf_8 => ?_
   try dsimp only at hh_8 hf_8
   conv => whnf
   rw [eX]
   refine callV rfl (remainder_fn p (some b_7) (some b_8) (C * S) g0 (by omega) (by omega) hg0) fun hs' hhs => ?_
   try dsimp only at hhs
   conv => whnf
   rw [hW0]
   refine hK _ ?_
   clear hK K
   refine W.rs (cxt_ok _ _) (by rfl) fun K hK => ?_
   conv => whnf
   refine ⟨Y.l, ⟨rfl, fun _ => hty⟩, ?_⟩
   conv => whnf
   refine callI rfl (reduce_fn p (by omega) (by omega) (some bh') Y.l ((r_bd m9 Y).le (by omega)) (by omega)) fun hs_9 b_9 hh_9 hf_9 => ?_
   try dsimp only at hh_9 hf_9
   conv => whnf
   rw [eY]
   refine callI rfl (times_fn p none (some b_9) W0 h0 (by omega) (by omega)) fun hs_10 b_10 hh_10 hf_10 => ?_
   try dsimp only at hh_10 hf_10
   conv => whnf
   refine callI rfl (minus_fn (some b_6) (some b_10) C.l (W0 * h0).l ((l_bd C).le (by omega)) ((l_bd _).le (by omega)) (by omega) (by omega)) fun hs_11 b_11 hh_11 hf_11 => ?_
   try dsimp only at hh_11 hf_11
   conv => whnf
   refine callI rfl (reduce_fn p (by omega) (by omega) (some b_11) (trimZ (addL C.l (smulL (-1) (W0 * h0).l))) (sub_bd (l_bd C) (l_bd _) (by omega)) (by omega)) fun hs_13 b_13 hh_13 hf_13 => ?_
   try dsimp only at hh_13 hf_13
   conv => whnf
   rw [subM_l]
   refine ⟨X.l, ⟨rfl, fun _ => htx⟩, ?_⟩
   conv => whnf
   refine callI rfl (reduce_fn p (by omega) (by omega) (some bg') X.l ((r_bd m9 X).le (by omega)) (by omega)) fun hs_14 b_14 hh_14 hf_14 => ?_
   try dsimp only at hh_14 hf_14
   conv => whnf
   rw [eX]
   refine callV rfl (divide_fn p (some b_13) (some b_14) (C - W0 * h0) g0 (by omega) (by omega) hg0) fun hs' hhs => ?_
   try dsimp only at hhs
   conv => whnf
   rw [htwo]
   refine hK _ ?_
   clear hK K
   refine W.region (cxt_ok _ _) (by rfl) ?_
   conv => whnf
   refine callI rfl (scaled_fn none W0.l q (l_bd W0) hq9 (by omega)) fun hs_15 b_15 hh_15 hf_15 => ?_
   try dsimp only at hh_15 hf_15
   conv => whnf
   refine ⟨X.l, ⟨rfl, fun _ => htx⟩, ?_⟩
   conv => whnf
   refine callI rfl (sumOf_fn (some bg') (some b_15) X.l (trimZ (mulL W0.l [q])) ((r_bd m9 X).le (by omega)) ((sc_bd hq9 W0).le (by omega)) (by omega) (by simp at hs1; omega)) fun hs_16 b_16 hh_16 hf_16 => ?_
   try dsimp only at hh_16 hf_16
   conv => whnf
   refine callI rfl (reduce_fn M (by omega) (by omega) (some b_16) (trimZ (addL X.l (trimZ (mulL W0.l [q])))) (add_bd (r_bd m9 X) (sc_bd hq9 W0) (by omega)) (by simp at hs1; omega)) fun hs_17 b_17 hh_17 hf_17 => ?_
   try dsimp only at hh_17 hf_17
   conv => whnf
   rw [lift_add']
   refine callI rfl (scaled_fn none V.l q (l_bd V) hq9 (by omega)) fun hs_18 b_18 hh_18 hf_18 => ?_
   try dsimp only at hh_18 hf_18
   conv => whnf
   refine ⟨Y.l, ⟨rfl, fun _ => hty⟩, ?_⟩
   conv => whnf
   refine callI rfl (sumOf_fn (some bh') (some b_18) Y.l (trimZ (mulL V.l [q])) ((r_bd m9 Y).le (by omega)) ((sc_bd hq9 V).le (by omega)) (by omega) (by simp at hs2; omega)) fun hs_19 b_19 hh_19 hf_19 => ?_
   try dsimp only at hh_19 hf_19
   conv => whnf
   refine callI rfl (reduce_fn M (by omega) (by omega) (some b_19) (trimZ (addL Y.l (trimZ (mulL V.l [q])))) (add_bd (r_bd m9 Y) (sc_bd hq9 V) (by omega)) (by simp at hs2; omega)) fun hs_20 b_20 hh_20 hf_20 => ?_
   try dsimp only at hh_20 hf_20
   conv => whnf
   rw [lift_add']
   refine hK8 _ ?_
   clear hK8 K8
   rw [lift_add'] at hf_17 hf_20
   generalize hX' : X + cn M q * lft M W0 = X' at hn hf_17
   generalize hY' : Y + cn M q * lft M V = Y' at hn hf_20
   have hX'1 := hn.inv.mg.1
   have hY'1 := hn.inv.mh.1
   have hX'n : X'.l ≠ [] := fun e => by have : X'.l.length = dg X' := rfl; rw [e] at this; simp at this; omega
   have hY'n : Y'.l ≠ [] := fun e => by have : Y'.l.length = dg Y' := rfl; rw [e] at this; simp at this; omega
   have k1 := hf_17 hX'n
   have k2 := hf_20 hY'n
   have hlow : ∀ c xs, tb c = some xs → c < hs9 := fun c xs h => hbb c (by rw [hold c xs h]; exact Option.some_ne_none _)
   refine W.give 2 fun K hK => ?_
   conv => whnf
   refine hK _ ?_
   clear hK K
   refine W.give 3 fun K hK => ?_
   conv => whnf
   refine hK _ ?_
   clear hK K
   refine W.region (cxt_ok _ _) (by rfl) ?_
   conv => whnf
   refine ⟨by constructor <;> omega, ?_⟩
   conv => whnf
   refine ⟨_, _, ⟨j + 1, q * p, b_17, b_20, X', Y', X'.l, Y'.l, tbAdd (tbAdd tbi b_17 X'.l) b_20 Y'.l, hn, by omega, q1, rfl, rfl, (tbAdd_ne _ _ (.inr (by omega))).trans (tbAdd_self _ _ hX'n), tbAdd_self _ _ hY'n, by omega, .inr ?_, .inr ?_, fun c xs h => ?_, rfl, rfl⟩, by omega, by dsimp only; omega, ?_⟩
   ·cases h : tb b_17 with
    | none => rfl
    | some xs => exact absurd (hlow _ _ h) (by omega)
   ·cases h : tb b_20 with
    | none => rfl
    | some xs => exact absurd (hlow _ _ h) (by omega)
   ·have := hlow _ _ h
    exact ((tbAdd_ne _ _ (.inr (by omega))).trans (tbAdd_ne _ _ (.inr (by omega)))).trans (hold c xs h)
   ·repeat' first | refine And.intro ?_ ?_ | exact trivial | rfl | omega | exact .inl rfl | exact fun _ _ => rfl | exact fun _ _ h => h | assumption | exact fun i hi => (by obtain rfl : i = 0 := (by omega); rfl)
 ·have hj2 : j = k.toNat - 1 := Classical.byContradiction fun h => by
   obtain ⟨q1, q2, q3, q4⟩ := q_step hp (j := j) (k := k.toNat) (by omega)
   rw [← hq] at q2 q3 q4
   rw [hm] at q2; omega
  subst hj2
  obtain ⟨rfl, rfl⟩ := hI.uniq hL
  refine W.exit (hK1 _ ?_)
  clear hK7 K7 hK1 K1
  refine W.rs (cxt_ok _ _) (by rfl) fun K hK => ?_
  conv => whnf
  refine hK _ ?_
  clear hK K
  refine W.ret ?_
  conv => whnf
  refine ⟨by dsimp only; omega, ?_⟩
  conv => whnf
  refine ⟨rfl, ?_⟩
  conv => whnf
  refine ⟨.rf bg' X.l.length, rfl, ?_⟩
  conv => whnf
  refine ⟨rfl, ?_⟩
  conv => whnf
  refine ⟨.rf bh' Y.l.length, rfl, ?_⟩
  conv => whnf
  exact ⟨.v (.rf bf f.l.length), rfl, .inr ⟨rfl, rfl⟩, .tab tbi, fun _ _ h => h, rfl, rfl, rfl, bg', bh', tbi, rfl, rfl, htx, hty, hbb', hbg, hbh, hold⟩
end

open Go Go.RowKit Go.Proofs Poly
set_option maxRecDepth 100000
set_option maxHeartbeats 8000000

section
variable {p : Int} [SP p]
theorem fac2 {f : Poly p} {F : List (Poly p × Nat)} (h : FacOf f F) (hf0 : f ≠ 0) (hf : dg f ≤ 13) : ∀ j, j < F.length → F.getD j (0, 0) ∈ F ∧ Mon (F.getD j (0, 0)).1 ∧ dg (F.getD j (0, 0)).1 ≤ 13 ∧ (F.getD j (0, 0)).2 ≤ 13 ∧ ∀ t, t ≤ (F.getD j (0, 0)).2 → dg ((F.getD j (0, 0)).1 ^ t) ≤ 13 := fun j hj => by
 have hm : F.getD j (0, 0) ∈ F := by rw [getD_lt hj]; exact List.getElem_mem hj
 obtain ⟨h3, h4, h1, h2⟩ := (h.2 (F.getD j (0, 0))).1 hm
 have hp := fun t ht => pow_few hf0 h hm (t := t) ht
 have h5 := dvd_dg (h2.dvd h1) hf0
 refine ⟨hm, h4, by omega, ?_, fun t ht => Nat.le_trans (hp t ht) hf⟩
 have h6 := hp _ (Nat.le_refl _)
 have h7 : ∀ n, n + 1 ≤ dg ((F.getD j (0, 0)).1 ^ n) := fun n => by
  induction n with
  | zero => rw [pow_zero', dg_one]; omega
  | succ n ih =>
   rw [pow_succ']
   have := dg_mul (mon_pow h4 n).1 h3.ne
   have := h3.1
   omega
 have := h7 (F.getD j (0, 0)).2
 omega

abbrev pwF (F : List (Poly p × Nat)) (j : Nat) : Poly p := (F.getD j (0, 0)).1 ^ (F.getD j (0, 0)).2

theorem l12Power_fn (x : Poly p × Nat) (h : ∀ t, t ≤ x.2 → dg (x.1 ^ t) ≤ 13) (h1 : dg x.1 ≤ 13) (h2 : x.2 ≤ 13) : FnV 21 [.int .i64 p, vF x] (.ints none (x.1 ^ x.2).l) := by
 refine fn_of (cx_ok [0, 1, 3, 4, 5, 6, 11]) Tryz.func21 rfl (by decide) Tryz.ntmps21 (Nat.le_of_ble_eq_true rfl) fun base => ?_
 refine W.rs (cx_ok _) (by rfl) fun K hK => ?_
 conv => whnf
 refine ⟨rfl, ?_⟩
 conv => whnf
 intro b_3 hs_3 hh_3 hf_3
 try dsimp only at hh_3 hf_3
 conv => whnf
 refine hK _ ?_
 clear hK K
 refine W.rs (cx_ok _) (by rfl) fun K hK => ?_
 conv => whnf
 refine ⟨⟨rfl, by decide⟩, ?_⟩
 conv => whnf
 intro b_1 hs_1 hh_1 hf_1
 try dsimp only at hh_1 hf_1
 conv => whnf
 refine hK _ ?_
 clear hK K
 refine W.seqK fun K1 hK1 => W.rs (cx_ok _) (by rfl) fun K hK => ?_
 conv => whnf
 refine hK _ (W.block (W.invA (fun m e => ∃ (t : Nat) (o : List Int), t ≤ x.2 ∧ o = (x.1 ^ t).l ∧ m = x.2 - t ∧ e = [(0, .v (.int .i64 p)), (3, .ownB b_3 (vF x)), (5, .v (.ints none o)), (6, .v (.int .i64 t))]) ⟨0, [1], Nat.zero_le _, (by rw [pow_zero']; exact one_l.symm), rfl, rfl⟩ ?_))
 clear hK K
 rintro m e ⟨t, o, ht, rfl, hm, rfl⟩
 have hpt := h t ht
 refine W.seqK fun K7 hK7 => W.rs (cx_ok _) (by rfl) fun K hK => ?_
 conv => whnf
 refine hK _ (W.cond ⟨fun h5 => ?_, fun h5 => ?_⟩) <;> clear hK K <;> (first | replace h5 := of_decide_eq_true h5 | replace h5 := of_decide_eq_false h5)
 ·refine W.skip (hK7 _ ?_)
  clear hK7 K7
  refine W.seqK fun K8 hK8 => W.block ?_
  refine W.region (cx_ok _) (by rfl) ?_
  conv => whnf
  refine callI rfl (l08Multiply_fn p none none (x.1 ^ t) x.1 (by omega) (by omega)) fun hs_4 b_4 hh_4 hf_4 => ?_
  try dsimp only at hh_4 hf_4
  conv => whnf
  rw [← pow_succ']
  refine hK8 _ ?_
  clear hK8 K8
  refine W.region (cx_ok _) (by rfl) ?_
  conv => whnf
  refine ⟨by constructor <;> omega, ?_⟩
  conv => whnf
  exact againA ⟨t + 1, _, by omega, rfl, rfl, rfl⟩
 ·obtain rfl : t = x.2 := by omega
  refine W.exit (hK1 _ ?_)
  clear hK7 K7 hK1 K1
  refine W.rs (cx_ok _) (by rfl) fun K hK => ?_
  conv => whnf
  refine hK _ ?_
  clear hK K
  refine W.ret ?_
  conv => whnf
  exact ⟨.v (.ints none (x.1 ^ x.2).l), ⟨rfl, rfl⟩, trivial, rfl⟩

theorem partsOf_T (g : Option Nat) (f : Poly p) (F : List (Poly p × Nat)) (hF : FacOf f F) (hf0 : f ≠ 0) (h9 : dg f ≤ 13) : FnT Tryz.prog 25 [.int .i64 p, .ints g f.l] (fun _ _ x tb => ∃ bs : Nat → Nat, x = .vals none 1 F.length (fun j => .rf (bs j) (pwF F j).l.length) ∧ (∀ j, j < F.length → tb (bs j) = some (pwF F j).l) ∧ ∀ i j, i < F.length → j < F.length → i ≠ j → bs i ≠ bs j) := by
 have hfl : f.l.length = dg f := rfl
 have hFs := fac2 hF hf0 h9
 have hFl := hF.facs.few hf0
 refine fnt_of (cxt_ok [] [0, 1, 4, 5, 7, 8, 11, 12, 13, 14, 19, 20, 21, 1000000]) Tryz.func25 rfl (by decide) Tryz.ntmps25 (Nat.le_of_ble_eq_true rfl) (fun base => ?_) (Nat.le_of_ble_eq_true rfl)
 refine W.sw (c' := cx [0, 1, 4, 5, 7, 8, 11, 12, 13, 14, 19, 20, 21, 1000000]) ?_
 refine W.rs (cx_ok _) (by rfl) fun K hK => ?_
 conv => whnf
 refine hK _ ?_
 clear hK K
 refine W.rs (cx_ok _) (by rfl) fun K hK => ?_
 conv => whnf
 refine hK _ ?_
 clear hK K
 refine W.seqK fun K1 hK1 => ?_
 refine W.rs (cx_ok _) (by rfl) fun K hK => ?_
 conv => whnf
 refine callP rfl (factorsBy_fn p _ g f (Nat.le_refl _) (by omega) hf0) ?_
 rintro lo hi hi' z hl1 hl2 hl3 ⟨F', hF', rfl⟩ _
 obtain rfl := hF.unique hF'
 try dsimp only at hl1 hl2
 conv => whnf
 refine hK _ (W.block (W.invA (fun m e => ∃ (i b : Nat) (bs : Nat → Nat) (tb : Tab), i ≤ F.length ∧ (∀ j, j < i → tb (bs j) = some (pwF F j).l) ∧ (∀ j j', j < i → j' < i → j ≠ j' → bs j ≠ bs j') ∧ m = F.length - i ∧ e = [(vt, .tab tb), (0, .v (.int .i64 p)), (5, .ownV 24 1 b i fun j => .rf (bs j) (pwF F j).l.length), (11, .v (vFs F)), (12, .v (.int .i64 F.length)), (13, .v (.int .i64 i))]) ⟨0, 0, fun _ => 0, fun _ => none, Nat.zero_le _, fun j hj => absurd hj (Nat.not_lt_zero j), fun j _ hj => absurd hj (Nat.not_lt_zero j), rfl, rfl⟩ ?_))
 clear hK K
 rintro m e ⟨i, b, bs, tb, hi, htb, hds, hm, rfl⟩
 refine W.sw (c' := cxt [] [0, 1, 4, 5, 7, 8, 11, 12, 13, 14, 19, 20, 21, 1000000]) ?_
 refine W.rs (cxt_ok _ _) (by rfl) fun K hK => ?_
 conv => whnf
 refine hK _ ?_
 clear hK K
 refine W.seqK fun K7 hK7 => W.cond ⟨fun h3 => ?_, fun h3 => ?_⟩ <;> (first | replace h3 := of_decide_eq_true h3 | replace h3 := of_decide_eq_false h3)
 ·obtain ⟨hx0, hx1, hx2, hx3, hx4⟩ := hFs i (by omega)
  have hpe : pwF F i = (F.getD i (0, 0)).1 ^ (F.getD i (0, 0)).2 := rfl
  generalize hxx : F.getD i (0, 0) = x at hx0 hx1 hx2 hx3 hx4 hpe
  have hxl : x.1.l.length = dg x.1 := rfl
  refine W.skip (hK7 _ ?_)
  clear hK7 K7
  refine W.seqK fun K8 hK8 => W.block ?_
  refine W.rs (cxt_ok _ _) (by rfl) fun K hK => ?_
  conv => whnf
  refine ⟨⟨by omega, by omega⟩, ?_⟩
  conv => whnf
  rw [Int.toNat_natCast, hxx]
  intro b_2 hs_2 hh_2 hf_2
  try dsimp only at hh_2 hf_2
  conv => whnf
  refine ⟨⟨(by show 2 ≤ 2; omega), rfl⟩, ?_⟩
  conv => whnf
  refine hK _ ?_
  clear hK K
  refine W.tick rfl fun hs9 hhs9 hbb => ?_
  dsimp only at hhs9
  refine W.rs (cxt_ok _ _) (by rfl) fun K hK => ?_
  conv => whnf
  refine ⟨⟨rfl, by decide⟩, ?_⟩
  conv => whnf
  intro b_3 hs_3 hh_3 hf_3
  try dsimp only at hh_3 hf_3
  conv => whnf
  refine hK _ ?_
  clear hK K
  refine W.seqK fun K5 hK5 => ?_
  refine W.rs (cxt_ok _ _) (by rfl) fun K hK => ?_
  conv => whnf
  refine hK _ (W.block (W.invA (fun m e => ∃ (t b' : Nat) (o : List Int), t ≤ x.2 ∧ o = (x.1 ^ t).l ∧ (∀ c, tb c ≠ none → c ≠ b') ∧ m = x.2 - t ∧ e = [(vt, .tab tb), (0, .v (.int .i64 p)), (5, .ownV 24 1 b i fun j => .rf (bs j) (pwF F j).l.length), (7, .ownB b_2 (vF x)), (8, .ownI 2 b' o), (11, .v (vFs F)), (12, .v (.int .i64 F.length)), (13, .v (.int .i64 i)), (19, .v (.int .i64 x.2)), (20, .v (.int .i64 t))]) ⟨0, b_3, [1], Nat.zero_le _, (by rw [pow_zero']; exact one_l.symm), fun c hc e => (by have := hbb c hc; omega), rfl, rfl⟩ ?_))
  clear hK K
  rintro m' e ⟨t, b', o, ht, rfl, hb', hm', rfl⟩
  have hpt := hx4 t ht
  refine W.rs (cxt_ok _ _) (by rfl) fun K hK => ?_
  conv => whnf
  refine hK _ ?_
  clear hK K
  refine W.seqK fun K7 hK7 => W.cond ⟨fun h6 => ?_, fun h6 => ?_⟩ <;> (first | replace h6 := of_decide_eq_true h6 | replace h6 := of_decide_eq_false h6)
  ·refine W.skip (hK7 _ ?_)
   clear hK7 K7
   refine W.seqK fun K9 hK9 => W.block ?_
   refine W.tick rfl fun hs9 hhs9 hbb => ?_
   dsimp only at hhs9
   refine W.region (cxt_ok _ _) (by rfl) ?_
   conv => whnf
   refine callI rfl (times_fn p (some b') none (x.1 ^ t) x.1 (by omega) (by omega)) fun hs_4 b_4 hh_4 hf_4 => ?_
   try dsimp only at hh_4 hf_4
   conv => whnf
   rw [← pow_succ'] at hf_4 ⊢
   have k4 := hf_4 (fun e => by have h1 := (mon_pow hx1 (t + 1)).1; exact h1 (ext_l (e.trans zero_l.symm)))
   refine hK9 _ ?_
   clear hK9 K9
   refine W.region (cxt_ok _ _) (by rfl) ?_
   conv => whnf
   refine ⟨by constructor <;> omega, ?_⟩
   conv => whnf
   exact againA ⟨t + 1, b_4, _, by omega, rfl, fun c hc e => (by have := hbb c hc; omega), rfl, rfl⟩
  ·obtain rfl : t = x.2 := by omega
   rw [← hpe]
   have hne : (pwF F i).l ≠ [] := fun e => by have h1 := (mon_pow hx1 x.2).1; exact h1 (hpe ▸ ext_l (e.trans zero_l.symm))
   refine W.exit (hK5 _ ?_)
   clear hK7 K7 hK5 K5
   refine W.region (cxt_ok _ _) (by rfl) ?_
   conv => whnf
   refine ⟨⟨rfl, by decide, fun x hx => by simp at hx; subst hx; exact ⟨rfl, rfl⟩⟩, ?_⟩
   conv => whnf
   intro b_6 hs_6 hh_6 hf_6
   try dsimp only at hh_6 hf_6
   conv => whnf
   refine ⟨by omega, ?_⟩
   conv => whnf
   refine ⟨fun j => .rf (if j = i then b' else bs j) (pwF F j).l.length, fun j hj => ?_, fun j hj => ?_, ?_⟩
   ·show V.rf (if j = i then b' else bs j) _ = V.rf (bs j) _
    rw [if_neg (by omega)]
   ·obtain rfl : j = 0 := by omega
    show V.rf (if i + 0 = i then b' else bs (i + 0)) _ = V.rf b' _
    rw [Nat.add_zero, if_pos rfl]
   intro b_7 hs_7 hh_7 hf_7
   try dsimp only at hh_7 hf_7
   conv => whnf
   refine hK8 _ ?_
   clear hK8 K8
   refine W.region (cxt_ok _ _) (by rfl) ?_
   conv => whnf
   refine ⟨by constructor <;> omega, ?_⟩
   conv => whnf
   refine ⟨_, _, ⟨i + 1, b_7, fun j => if j = i then b' else bs j, tbAdd tb b' (pwF F i).l, by omega, fun j hj => ?_, fun j j' hj hj' hne' => ?_, rfl, rfl⟩, by omega, by dsimp only; omega, ?_⟩
   ·show tbAdd tb b' _ (if j = i then b' else bs j) = _
    by_cases h : j = i
    ·subst h; rw [if_pos rfl]; exact tbAdd_self _ _ hne
    ·rw [if_neg h]
     have h1 := htb j (by omega)
     exact (tbAdd_ne _ _ (.inr (hb' _ (by rw [h1]; exact Option.some_ne_none _)))).trans h1
   ·show (if j = i then b' else bs j) ≠ if j' = i then b' else bs j'
    have hb2 : ∀ a, a < i → bs a ≠ b' := fun a ha => hb' _ (by rw [htb a ha]; exact Option.some_ne_none _)
    by_cases h : j = i
    ·rw [if_pos h, if_neg (by omega)]; exact (hb2 j' (by omega)).symm
    ·rw [if_neg h]
     by_cases h' : j' = i
     ·rw [if_pos h']; exact hb2 j (by omega)
     ·rw [if_neg h']; exact hds j j' (by omega) (by omega) hne'
   ·repeat' first | refine And.intro ?_ ?_ | exact trivial | rfl | omega | exact .inl rfl | exact fun _ _ => rfl | exact fun _ _ h => h | assumption | exact fun i hi => (by obtain rfl : i = 0 := (by omega); rfl)
 ·obtain rfl : i = F.length := by omega
  refine W.exit (hK1 _ ?_)
  clear hK7 K7 hK1 K1
  refine W.sw (c' := cxt [] [0, 1, 4, 5, 7, 8, 11, 12, 13, 14, 19, 20, 21, 1000000]) ?_
  refine W.rs (cxt_ok _ _) (by rfl) fun K hK => ?_
  conv => whnf
  refine hK _ ?_
  clear hK K
  refine W.ret ?_
  conv => whnf
  exact ⟨.v (.vals none 1 F.length fun j => .rf (bs j) (pwF F j).l.length), ⟨rfl, rfl, rfl, fun _ _ => rfl⟩, ⟨trivial, fun _ _ => trivial⟩, bs, rfl, htb, hds⟩
end

open Go Go.RowKit Go.Proofs Poly
set_option maxRecDepth 100000
set_option maxHeartbeats 8000000

theorem lifting_1 (p k : Int) (g : Option Nat) (xs : List Int) (hl : xs.length ≤ 1000000000) (h1 : ¬ IsRn p k xs) : FnV 24 [vR p k, .ints g xs] (.int .i64 1) := by
 refine fn_of (cx_ok [0, 1, 2, 4, 5, 10, 14]) Tryz.func24 rfl (by decide) Tryz.ntmps24 (Nat.le_of_ble_eq_true rfl) fun base => ?_
 refine W.rs (cx_ok _) (by rfl) fun K hK => ?_
 conv => whnf
 refine ⟨rfl, ?_⟩
 conv => whnf
 intro b_2 hs_2 hh_2 hf_2
 try dsimp only at hh_2 hf_2
 conv => whnf
 refine hK _ ?_
 clear hK K
 refine W.seqK fun K1 hK1 => W.block ?_
 refine W.rs (cx_ok _) (by rfl) fun K hK => ?_
 conv => whnf
 refine callV rfl ((isInRing_fn p k g xs hl).fa (bP_false h1)) fun hs' hhs => ?_
 try dsimp only at hhs
 conv => whnf
 refine hK _ (W.condT rfl ?_)
 clear hK K
 refine W.rs (cx_ok _) (by rfl) fun K hK => ?_
 conv => whnf
 refine hK _ ?_
 clear hK K
 refine W.ret ?_
 conv => whnf
 exact ⟨.v (.int .i64 1), ⟨rfl, rfl⟩, trivial, rfl⟩
theorem lifting_5 (p k : Int) (g : Option Nat) (xs : List Int) (hl : xs.length ≤ 1000000000) (h1 : IsRn p k xs) (h2 : ¬ IsMon xs) : FnV 24 [vR p k, .ints g xs] (.int .i64 5) := by
 refine fn_of (cx_ok [0, 1, 2, 4, 5, 10, 14]) Tryz.func24 rfl (by decide) Tryz.ntmps24 (Nat.le_of_ble_eq_true rfl) fun base => ?_
 refine W.rs (cx_ok _) (by rfl) fun K hK => ?_
 conv => whnf
 refine ⟨rfl, ?_⟩
 conv => whnf
 intro b_2 hs_2 hh_2 hf_2
 try dsimp only at hh_2 hf_2
 conv => whnf
 refine hK _ ?_
 clear hK K
 refine W.seqK fun K1 hK1 => W.block ?_
 refine W.rs (cx_ok _) (by rfl) fun K hK => ?_
 conv => whnf
 refine callV rfl ((isInRing_fn p k g xs hl).tr (bP_true h1)) fun hs' hhs => ?_
 try dsimp only at hhs
 conv => whnf
 refine hK _ (W.condF rfl ?_)
 clear hK K
 refine W.rs (cx_ok _) (by rfl) fun K hK => ?_
 conv => whnf
 refine callV rfl ((isMonic_fn g xs hl).fa (bP_false h2)) fun hs' hhs => ?_
 try dsimp only at hhs
 conv => whnf
 refine hK _ (W.condT rfl ?_)
 clear hK K
 refine W.rs (cx_ok _) (by rfl) fun K hK => ?_
 conv => whnf
 refine hK _ ?_
 clear hK K
 refine W.ret ?_
 conv => whnf
 exact ⟨.v (.int .i64 5), ⟨rfl, rfl⟩, trivial, rfl⟩
theorem lifting_4 (p k : Int) (g : Option Nat) (xs : List Int) (hl : xs.length ≤ 1000000000) (h1 : IsRn p k xs) (h2 : IsMon xs) (h3 : xs.length < 2) : FnV 24 [vR p k, .ints g xs] (.int .i64 4) := by
 refine fn_of (cx_ok [0, 1, 2, 4, 5, 10, 14]) Tryz.func24 rfl (by decide) Tryz.ntmps24 (Nat.le_of_ble_eq_true rfl) fun base => ?_
 refine W.rs (cx_ok _) (by rfl) fun K hK => ?_
 conv => whnf
 refine ⟨rfl, ?_⟩
 conv => whnf
 intro b_2 hs_2 hh_2 hf_2
 try dsimp only at hh_2 hf_2
 conv => whnf
 refine hK _ ?_
 clear hK K
 refine W.seqK fun K1 hK1 => W.block ?_
 refine W.rs (cx_ok _) (by rfl) fun K hK => ?_
 conv => whnf
 refine callV rfl ((isInRing_fn p k g xs hl).tr (bP_true h1)) fun hs' hhs => ?_
 try dsimp only at hhs
 conv => whnf
 refine hK _ (W.condF rfl ?_)
 clear hK K
 refine W.rs (cx_ok _) (by rfl) fun K hK => ?_
 conv => whnf
 refine callV rfl ((isMonic_fn g xs hl).tr (bP_true h2)) fun hs' hhs => ?_
 try dsimp only at hhs
 conv => whnf
 refine hK _ (W.condF rfl ?_)
 clear hK K
 refine W.rs (cx_ok _) (by rfl) fun K hK => ?_
 conv => whnf
 refine callV rfl (degree_fn g xs hl) fun hs' hhs => ?_
 try dsimp only at hhs
 conv => whnf
 refine hK _ (W.cond ⟨fun _ => ?_, fun hcc => absurd (by omega) (of_decide_eq_false hcc)⟩)
 clear hK K
 refine W.rs (cx_ok _) (by rfl) fun K hK => ?_
 conv => whnf
 refine hK _ ?_
 clear hK K
 refine W.ret ?_
 conv => whnf
 exact ⟨.v (.int .i64 4), ⟨rfl, rfl⟩, trivial, rfl⟩
theorem lifting_0 (p k : Int) (g : Option Nat) (xs : List Int) (hl : xs.length ≤ 1000000000) (h1 : IsRn p k xs) (h2 : IsMon xs) (h3 : 2 ≤ xs.length) : FnV 24 [vR p k, .ints g xs] (.int .i64 0) := by
 refine fn_of (cx_ok [0, 1, 2, 4, 5, 10, 14]) Tryz.func24 rfl (by decide) Tryz.ntmps24 (Nat.le_of_ble_eq_true rfl) fun base => ?_
 refine W.rs (cx_ok _) (by rfl) fun K hK => ?_
 conv => whnf
 refine ⟨rfl, ?_⟩
 conv => whnf
 intro b_2 hs_2 hh_2 hf_2
 try dsimp only at hh_2 hf_2
 conv => whnf
 refine hK _ ?_
 clear hK K
 refine W.seqK fun K1 hK1 => W.block ?_
 refine W.rs (cx_ok _) (by rfl) fun K hK => ?_
 conv => whnf
 refine callV rfl ((isInRing_fn p k g xs hl).tr (bP_true h1)) fun hs' hhs => ?_
 try dsimp only at hhs
 conv => whnf
 refine hK _ (W.condF rfl ?_)
 clear hK K
 refine W.rs (cx_ok _) (by rfl) fun K hK => ?_
 conv => whnf
 refine callV rfl ((isMonic_fn g xs hl).tr (bP_true h2)) fun hs' hhs => ?_
 try dsimp only at hhs
 conv => whnf
 refine hK _ (W.condF rfl ?_)
 clear hK K
 refine W.rs (cx_ok _) (by rfl) fun K hK => ?_
 conv => whnf
 refine callV rfl (degree_fn g xs hl) fun hs' hhs => ?_
 try dsimp only at hhs
 conv => whnf
 refine hK _ (W.cond ⟨fun hcc => absurd (of_decide_eq_true hcc) (by omega), fun _ => W.skip (hK1 _ ?_)⟩)
 clear hK K hK1 K1
 refine W.rs (cx_ok _) (by rfl) fun K hK => ?_
 conv => whnf
 refine hK _ ?_
 clear hK K
 refine W.ret ?_
 conv => whnf
 exact ⟨.v (.int .i64 0), ⟨rfl, rfl⟩, trivial, rfl⟩

structure LfP (p k M : Int) [SP p] [Pos M] (f : Poly M) (n : Nat) : Prop where
 rn : IsRn p k f.l
 mon : IsMon f.l
 hm : p ^ k.toNat = M
 mn : Mn f n
 n1 : 1 ≤ n
 n8 : n ≤ 8
 pm : p ∣ M
 ple : p ≤ M
theorem lf_poly {p k : Int} {l : List Int} (hr : IsRn p k l) (hmon : IsMon l) (h2 : 2 ≤ l.length) : ∃ hp : p ∈ primes, letI := sp_of hp; ∃ (M : Int) (_ : Pos M) (f : Poly M) (n : Nat), f.l = l ∧ LfP p k M f n := by
 obtain ⟨s1, s2, s3, s4, s5, s6⟩ := hr.1.small
 have hp : p ∈ primes := of_decide_eq_true hr.1.1
 refine ⟨hp, ?_⟩
 letI := sp_of hp
 obtain ⟨M, hm⟩ : ∃ M, p ^ k.toNat = M := ⟨_, rfl⟩
 rw [hm] at s5 s6
 letI : Pos M := ⟨by omega⟩
 obtain ⟨f, rfl⟩ := rn_poly hm hr
 have hfl : f.l.length = dg f := rfl
 have h9 := hr.2.1
 have hpk : ∃ j, k.toNat = j + 1 := ⟨k.toNat - 1, by omega⟩
 obtain ⟨j, hj⟩ := hpk
 refine ⟨M, ‹_›, f, dg f - 1, rfl, hr, hmon, hm, ⟨by omega, hmon.2⟩, by omega, by omega, ⟨p ^ j, by rw [← hm, hj, Int.pow_succ, Int.mul_comm]⟩, ?_⟩
 have := pow_mono (p := p) (by omega) (a := 1) (b := k.toNat) (by omega)
 rw [Int.pow_one, hm] at this; exact this

section
variable {p k M : Int} [SP p] [Pos M] {f : Poly M} {n : Nat}
theorem LfP.pair (h : LfP p k M f n) {F : List (Poly p × Nat)} {y : Poly p × Nat} {g0 h0 : Poly p} (hF : Fst (im p f) (y :: F) g0 h0) : ∃ (a b : Nat) (S T : Poly p), Pair f a b g0 h0 S T ∧ a + b ≤ 8 := by
 have h1 := (im_mn h.pm h.mn).1
 have h2 := hF.dg
 have h3 := hF.g2
 have h4 := hF.h2
 have h8 := h.n8
 obtain ⟨S, s1, s2⟩ := exists_inv hF.cop h3
 obtain ⟨T, t1, t2⟩ := exists_inv hF.cop.symm h4
 refine ⟨dg g0 - 1, dg h0 - 1, S, T, ⟨h.pm, h.ple, ?_, mon_mn hF.mg, mon_mn hF.mh, by omega, by omega, s1, s2, t1, t2⟩, by omega⟩
 have e : dg g0 - 1 + (dg h0 - 1) = n := by omega
 rw [e]; exact h.mn

theorem LfP.img (h : LfP p k M f n) : dg (im p f) = n + 1 ∧ Mon (im p f) ∧ im p f ≠ 0 ∧ nrm p f.l = (im p f).l ∧ dg f = n + 1 := by
 have h1 := im_mn h.pm h.mn
 have h2 : Mn (im p f) n := h1
 exact ⟨h1.1, mn_mon h2, (mn_mon h2).1, rfl, h.mn.1⟩
end


section
variable {p k M : Int} [SP p] [Pos M] {f : Poly M} {n : Nat}
theorem splitS_one (h : LfP p k M f n) (g : Option Nat) {x : Poly p × Nat} (hF : FacOf (im p f) [x]) : FnV 5 [vR p k, .ints g f.l] (.tup [.ints none [], .ints none [], .int .i64 4]) := by
 obtain ⟨s1, s2, s3, s4, s5, s6⟩ := h.rn.1.small
 obtain ⟨i1, i2, hf0, eF, i5⟩ := h.img
 have hm := h.hm
 have m9 : M ≤ 1000000000 := by omega
 have n8 := h.n8
 have n1 := h.n1
 have hfl : f.l.length = dg f := rfl
 have hl : f.l.length ≤ 1000000000 := by omega
 refine fn_of (cx_ok [0, 1, 2, 4, 5, 6, 7, 8, 9, 10, 12, 13, 17, 20, 23, 34]) Tryz.func5 rfl (by decide) Tryz.ntmps5 (Nat.le_of_ble_eq_true rfl) fun base => ?_
 refine W.rs (cx_ok _) (by rfl) fun K hK => ?_
 conv => whnf
 refine ⟨rfl, ?_⟩
 conv => whnf
 intro b_2 hs_2 hh_2 hf_2
 try dsimp only at hh_2 hf_2
 conv => whnf
 refine hK _ ?_
 clear hK K
 refine W.seqK fun K1 hK1 => ?_
 refine W.rs (cx_ok _) (by rfl) fun K hK => ?_
 conv => whnf
 refine callV rfl ((isInRingS_fn p k g f.l hl).tr (bP_true h.rn)) fun hs' hhs => ?_
 try dsimp only at hhs
 conv => whnf
 refine hK _ (W.condF rfl (W.skip (hK1 _ ?_)))
 clear hK K hK1 K1
 refine W.seqK fun K1 hK1 => ?_
 refine W.rs (cx_ok _) (by rfl) fun K hK => ?_
 conv => whnf
 refine callV rfl ((l12Monic_fn g f.l hl).tr (bP_true h.mon)) fun hs' hhs => ?_
 try dsimp only at hhs
 conv => whnf
 refine hK _ (W.condF rfl (W.skip (hK1 _ ?_)))
 clear hK K hK1 K1
 refine W.seqK fun K1 hK1 => ?_
 refine W.rs (cx_ok _) (by rfl) fun K hK => ?_
 conv => whnf
 refine hK _ (W.cond ⟨fun hcc => absurd (of_decide_eq_true hcc) (by omega), fun _ => W.skip (hK1 _ ?_)⟩)
 clear hK K hK1 K1
 refine W.rs (cx_ok _) (by rfl) fun K hK => ?_
 conv => whnf
 refine callI rfl (l08Reduce_fn p (by omega) (by omega) g f.l ((r_bd m9 f).le (by omega)) (by omega)) fun hs_7 b_7 hh_7 hf_7 => ?_
 try dsimp only at hh_7 hf_7
 conv => whnf
 rw [eF]
 refine hK _ ?_
 clear hK K
 refine W.rs (cx_ok _) (by rfl) fun K hK => ?_
 conv => whnf
 refine callP rfl (l09All_fn p (some b_7) (im p f) (by omega) hf0) ?_
 rintro lo hi hi' z hl1 hl2 hl3 ⟨F', hF', rfl⟩ _
 obtain rfl := hF.unique hF'
 try dsimp only at hl1 hl2
 conv => whnf
 refine hK _ ?_
 clear hK K
 refine W.seqK fun K1 hK1 => ?_
 refine W.rs (cx_ok _) (by rfl) fun K hK => ?_
 conv => whnf
 refine hK _ (W.cond ⟨fun _ => ?_, fun hcc => absurd (by show ((1 : Nat) : Int) < 2; decide) (of_decide_eq_false hcc)⟩)
 clear hK K
 refine W.rs (cx_ok _) (by rfl) fun K hK => ?_
 conv => whnf
 refine hK _ ?_
 clear hK K
 refine W.ret ?_
 conv => whnf
 exact ⟨.v (.ints none []), rfl, trivial, .v (.ints none []), rfl, trivial, .v (.int .i64 4), ⟨rfl, rfl⟩, trivial, rfl⟩

theorem splitS_0 (h : LfP p k M f n) (g : Option Nat) {x y : Poly p × Nat} {F : List (Poly p × Nat)} (hF : FacOf (im p f) (x :: y :: F)) {h0 : Poly p} (hf : Fst (im p f) (y :: F) (x.1 ^ x.2) h0) {a b : Nat} {S T : Poly p} (hP : Pair f a b (x.1 ^ x.2) h0 S T) (h9 : a + b ≤ 8)
  {G H : Poly M} (hL : LAt f a b (x.1 ^ x.2) h0 S T (k.toNat - 1) G H) : FnV 5 [vR p k, .ints g f.l] (.tup [.ints none G.l, .ints none H.l, .int .i64 0]) := by
 obtain ⟨s1, s2, s3, s4, s5, s6⟩ := h.rn.1.small
 obtain ⟨i1, i2, hf0, eF, i5⟩ := h.img
 have hm := h.hm
 have m9 : M ≤ 1000000000 := by omega
 have n8 := h.n8
 have n1 := h.n1
 have hfl : f.l.length = dg f := rfl
 have hl : f.l.length ≤ 1000000000 := by omega
 obtain ⟨_, _, k3, k4, k5⟩ := fac2 hF hf0 (by omega) 0 (by simp)
 have e0 : (x :: y :: F).getD 0 (0, 0) = x := rfl
 rw [e0] at k3 k4 k5
 have hg1 := hP.mg.1
 refine fn_of (cx_ok [0, 1, 2, 4, 5, 6, 7, 8, 9, 10, 12, 13, 17, 20, 23, 34]) Tryz.func5 rfl (by decide) Tryz.ntmps5 (Nat.le_of_ble_eq_true rfl) fun base => ?_
 refine W.rs (cx_ok _) (by rfl) fun K hK => ?_
 conv => whnf
 refine ⟨rfl, ?_⟩
 conv => whnf
 intro b_2 hs_2 hh_2 hf_2
 try dsimp only at hh_2 hf_2
 conv => whnf
 refine hK _ ?_
 clear hK K
 refine W.seqK fun K1 hK1 => ?_
 refine W.rs (cx_ok _) (by rfl) fun K hK => ?_
 conv => whnf
 refine callV rfl ((isInRingS_fn p k g f.l hl).tr (bP_true h.rn)) fun hs' hhs => ?_
 try dsimp only at hhs
 conv => whnf
 refine hK _ (W.condF rfl (W.skip (hK1 _ ?_)))
 clear hK K hK1 K1
 refine W.seqK fun K1 hK1 => ?_
 refine W.rs (cx_ok _) (by rfl) fun K hK => ?_
 conv => whnf
 refine callV rfl ((l12Monic_fn g f.l hl).tr (bP_true h.mon)) fun hs' hhs => ?_
 try dsimp only at hhs
 conv => whnf
 refine hK _ (W.condF rfl (W.skip (hK1 _ ?_)))
 clear hK K hK1 K1
 refine W.seqK fun K1 hK1 => ?_
 refine W.rs (cx_ok _) (by rfl) fun K hK => ?_
 conv => whnf
 refine hK _ (W.cond ⟨fun hcc => absurd (of_decide_eq_true hcc) (by omega), fun _ => W.skip (hK1 _ ?_)⟩)
 clear hK K hK1 K1
 refine W.rs (cx_ok _) (by rfl) fun K hK => ?_
 conv => whnf
 refine callI rfl (l08Reduce_fn p (by omega) (by omega) g f.l ((r_bd m9 f).le (by omega)) (by omega)) fun hs_7 b_7 hh_7 hf_7 => ?_
 try dsimp only at hh_7 hf_7
 conv => whnf
 rw [eF]
 refine hK _ ?_
 clear hK K
 refine W.rs (cx_ok _) (by rfl) fun K hK => ?_
 conv => whnf
 refine callP rfl (l09All_fn p (some b_7) (im p f) (by omega) hf0) ?_
 rintro lo hi hi' z hl1 hl2 hl3 ⟨F', hF', rfl⟩ _
 obtain rfl := hF.unique hF'
 try dsimp only at hl1 hl2
 conv => whnf
 refine hK _ ?_
 clear hK K
 refine W.seqK fun K1 hK1 => ?_
 refine W.rs (cx_ok _) (by rfl) fun K hK => ?_
 conv => whnf
 have hn2 : ¬ (((x :: y :: F).length : Nat) : Int) < 2 := by simp only [List.length_cons]; omega
 refine hK _ (W.cond ⟨fun hcc => absurd (of_decide_eq_true hcc) hn2, fun _ => W.skip (hK1 _ ?_)⟩)
 clear hK K hK1 K1
 refine W.rd (cx_ok _) follows (by rfl) fun K hK => ?_
 conv => whnf
 refine ⟨⟨by decide, by simp only [List.length_cons]; omega⟩, ?_⟩
 conv => whnf
 refine ⟨_, cxF (l12Power_fn x k5 k3 k4), ?_⟩
 conv => whnf
 refine hK _ ?_
 clear hK K
 refine W.rs (cx_ok _) (by rfl) fun K hK => ?_
 conv => whnf
 refine callV rfl (l08Divide_fn p (some b_7) none (im p f) (x.1 ^ x.2) (by omega) (by omega) hf.mg.1) fun hs' hhs => ?_
 try dsimp only at hhs
 conv => whnf
 rw [hf.quo]
 refine hK _ ?_
 clear hK K
 refine W.rs (cx_ok _) (by rfl) fun K hK => ?_
 conv => whnf
 refine callV rfl (l12Lift_fn h.rn.1 hm hP h9 hL g none none) fun hs' hhs => ?_
 try dsimp only at hhs
 conv => whnf
 refine hK _ ?_
 clear hK K
 refine W.rs (cx_ok _) (by rfl) fun K hK => ?_
 conv => whnf
 refine hK _ ?_
 clear hK K
 refine W.ret ?_
 conv => whnf
 exact ⟨.v (.ints none G.l), ⟨rfl, rfl⟩, trivial, .v (.ints none H.l), ⟨rfl, rfl⟩, trivial, .v (.int .i64 0), ⟨rfl, rfl⟩, trivial, rfl⟩
end

section
variable {p k M : Int} [SP p] [Pos M] {f : Poly M} {n : Nat}
end

open Go Go.RowKit Go.Proofs Poly
set_option maxRecDepth 100000
set_option maxHeartbeats 8000000


section
variable {p k M : Int} [SP p] [Pos M]
def LA (p k : Int) [SP p] : List (Poly p × Nat) → Poly M → List (List Int) → Prop
  | [], _, _ => False
  | [_], f, L => L = [f.l]
  | x :: y :: F, f, L => ∃ (a b : Nat) (S T u : Poly p) (G H : Poly M) (L' : List (List Int)), Fst (im p f) (y :: F) (x.1 ^ x.2) u ∧ Pair f a b (x.1 ^ x.2) u S T ∧ a + b ≤ 8 ∧ LAt f a b (x.1 ^ x.2) u S T (k.toNat - 1) G H ∧
      LfP p k M H b ∧ FacOf (im p H) (y :: F) ∧ L = G.l :: L' ∧ LA p k (y :: F) H L'

theorem LA.len : ∀ (F : List (Poly p × Nat)) (f : Poly M) (L : List (List Int)), LA p k F f L → L.length = F.length
 | [], _, _, h => h.elim
 | [_], f, L, h => by obtain rfl : L = [f.l] := h; rfl
 | x :: y :: F, f, L, h => by
  obtain ⟨a, b, S, T, u, G, H, L', _, _, _, _, _, _, rfl, h⟩ := h
  have := LA.len (y :: F) H L' h
  simp only [List.length_cons] at *; omega
theorem LfP.of_mn {f : Poly M} {n b : Nat} {H : Poly M} (h : LfP p k M f n) (hm : Mn H b) (b1 : 1 ≤ b) (b8 : b ≤ 8) : LfP p k M H b := by
 have h1 := hm.1
 have hl : H.l.length = dg H := rfl
 obtain ⟨s1, s2, s3, s4, s5, s6⟩ := h.rn.1.small
 have e := h.hm
 have hmon : IsMon H.l := ⟨by omega, by rw [hl, h1]; exact hm.2⟩
 refine ⟨⟨h.rn.1, by omega, fun j _ => ?_, .inr ?_⟩, hmon, e, hm, b1, b8, h.pm, h.ple⟩
 ·have := cf_rng H j
  rw [e]; omega
 ·rw [hmon.2]; omega
theorem exists_LA : ∀ (F : List (Poly p × Nat)) (f : Poly M) (n : Nat), LfP p k M f n → FacOf (im p f) F → F ≠ [] → ∃ L, LA p k F f L ∧ L.length ≤ F.length ∧ ∀ j, (L.getD j []).length ≤ 100
 | [], _, _, _, _, h => absurd rfl h
 | [x], f, n, h, _, _ => ⟨[f.l], rfl, by simp, fun j => by
  have h9 := h.rn.2.1
  cases j with
  | zero => show f.l.length ≤ 100; omega
  | succ j => simp⟩
 | x :: y :: F, f, n, h, hF, _ => by
  obtain ⟨i1, i2, hf0, eF, i5⟩ := h.img
  obtain ⟨u, hf⟩ := first_part i2 hF
  obtain ⟨a, b, S, T, hP, h9⟩ := h.pair hf
  obtain ⟨G, H, hL⟩ := exists_at hP (k.toNat - 1)
  have hH := h.of_mn hL.inv.mh hP.b1 (by omega)
  have hHF : FacOf (im p H) (y :: F) := by rw [hL.inv.ih]; exact hf.fac
  obtain ⟨L', h1, h2, h3⟩ := exists_LA (y :: F) H b hH hHF (by simp)
  refine ⟨G.l :: L', ⟨a, b, S, T, u, G, H, L', hf, hP, h9, hL, hH, hHF, rfl, h1⟩, by simp only [List.length_cons] at *; omega, fun j => ?_⟩
  cases j with
  | zero =>
   show dg G ≤ 100
   have := hL.inv.mg.1
   omega
  | succ j => exact h3 j

def APost (N : Nat) (bs : Nat → Nat) (tb : Tab) (L : List (List Int)) (av t' : AV) : Prop := ∃ (cs : Nat → Nat) (tb' : Tab), av = .v (.vals none 1 L.length fun j => .rf (cs j) (L.getD j []).length) ∧ t' = .tab tb' ∧
 (∀ j, j < L.length → tb' (cs j) = some (L.getD j [])) ∧ (∀ i j, i < L.length → j < L.length → i ≠ j → cs i ≠ cs j) ∧ (∀ j, j < L.length → (∃ i, i < N ∧ cs j = bs i) ∨ tb (cs j) = none) ∧ ∀ c xs, tb c = some xs → tb' c = some xs

theorem tab_none {tb tb' : Tab} (h : ∀ c xs, tb c = some xs → tb' c = some xs) {c : Nat} (hc : tb' c = none) : tb c = none := by
 cases e : tb c with
 | none => rfl
 | some xs => rw [h c xs e] at hc; cases hc

theorem APost.cons {N : Nat} {bs cs : Nat → Nat} {tb tbz tb2 tb3 : Tab} {G : List Int} {L : List (List Int)} {b0 : Nat} (hN : 1 ≤ N) (k1 : ∀ c xs, tb c = some xs → tbz c = some xs) (k2 : ∀ c xs, tbz c = some xs → tb2 c = some xs) (hb0 : b0 = bs 0 ∨ tbz b0 = none) (ht0 : tb2 b0 = some G)
  (hbs : ∀ j, j < N → tb (bs j) ≠ none) (hds : ∀ i j, i < N → j < N → i ≠ j → bs i ≠ bs j)
  (c1 : ∀ j, j < L.length → tb3 (cs j) = some (L.getD j [])) (c2 : ∀ i j, i < L.length → j < L.length → i ≠ j → cs i ≠ cs j) (c3 : ∀ j, j < L.length → (∃ i, i < N - 1 ∧ cs j = bs (1 + i)) ∨ tb2 (cs j) = none) (c4 : ∀ c xs, tb2 c = some xs → tb3 c = some xs) :
  APost N bs tb (G :: L) (.v (.vals none 1 (G :: L).length fun j => .rf (if j = 0 then b0 else cs (j - 1)) ((G :: L).getD j []).length)) (.tab tb3) := by
 have hb : ∀ j, j < L.length → b0 ≠ cs j := fun j hj e => by
  rcases c3 j hj with ⟨i, hi, h⟩ | h
  ·rcases hb0 with h0 | h0
   ·exact hds 0 (1 + i) (by omega) (by omega) (by omega) (by rw [← h0, e, h])
   ·rw [e, h] at h0
    cases h5 : tb (bs (1 + i)) with
    | none => exact hbs (1 + i) (by omega) h5
    | some xs => rw [k1 _ _ h5] at h0; cases h0
  ·rw [← e, ht0] at h; cases h
 refine ⟨_, tb3, rfl, rfl, fun j hj => ?_, fun i j hi hj hij => ?_, fun j hj => ?_, fun c xs h => c4 _ _ (k2 _ _ (k1 _ _ h))⟩
 ·cases j with
  | zero => exact c4 _ _ ht0
  | succ j => exact c1 j (by simpa using hj)
 ·cases i with
  | zero =>
   cases j with
   | zero => exact absurd rfl hij
   | succ j => exact hb j (by simpa using hj)
  | succ i =>
   cases j with
   | zero => exact fun e => hb i (by simpa using hi) e.symm
   | succ j => exact c2 i j (by simpa using hi) (by simpa using hj) (by omega)
 ·cases j with
  | zero =>
   rcases hb0 with h0 | h0
   ·exact .inl ⟨0, by omega, h0⟩
   ·exact .inr (tab_none k1 h0)
  | succ j =>
   rcases c3 j (by simpa using hj) with ⟨i, hi, h⟩ | h
   ·exact .inl ⟨1 + i, by omega, h⟩
   ·exact .inr (tab_none k1 (tab_none k2 h))

theorem liftAll_R (hr : IsRg p k) (hm : p ^ k.toNat = M) : ∀ (F : List (Poly p × Nat)) (f : Poly M) (n : Nat) (L : List (List Int)), LfP p k M f n → FacOf (im p f) F → LA p k F f L → ∀ (bf : Nat) (bs : Nat → Nat) (nn : Nat) (ff : Nat → V) (tb : Tab), nn = F.length → (∀ j, ff j = .rf (bs j) (pwF F j).l.length) →
  tb bf = some f.l → (∀ j, j < F.length → tb (bs j) = some (pwF F j).l) → (∀ i j, i < F.length → j < F.length → i ≠ j → bs i ≠ bs j) →
  MFn Tryz.prog 30 [vR p k, .nil, .vals none 1 nn ff] 1 (.v (.rf bf f.l.length)) (.tab tb) (fun _ av x' t' => x' = .v (.rf bf f.l.length) ∧ APost F.length bs tb L av t')
 | [], _, _, _, _, _, hL => hL.elim
 | [x], f, n, L, h, hF, hL => fun bf bs nn ff tb hnn hff htf htb hds => by
  obtain ⟨i1, i2, hf0, eF, i5⟩ := h.img
  have n1 := h.n1
  have n8 := h.n8
  have hfl : f.l.length = dg f := rfl
  have hfn : f.l ≠ [] := fun e => by rw [e] at hfl; simp at hfl; omega
  obtain rfl : L = [f.l] := hL
  obtain rfl : nn = 1 := hnn
  refine mfn_ofV (cx := cxt [] [0, 1, 2, 3, 6, 7, 9, 10, 13, 1000000, 1000001]) (cxt_ok [] [0, 1, 2, 3, 6, 7, 9, 10, 13, 1000000, 1000001]) Tryz.func30 rfl (by decide) Tryz.ntmps30 (Nat.le_of_ble_eq_true rfl) (Nat.le_of_ble_eq_true rfl) rfl rfl fun base hs0 O U hw v0 hb0 => ?_
  refine W.rs (cxt_ok _ _) (by rfl) fun K hK => ?_
  conv => whnf
  refine ⟨rfl, ?_⟩
  conv => whnf
  intro b_3 hs_3 hh_3 hf_3
  try dsimp only at hh_3 hf_3
  conv => whnf
  refine hK _ ?_
  clear hK K
  refine W.seqK fun K1 hK1 => ?_
  refine W.rs (cxt_ok _ _) (by rfl) fun K hK => ?_
  conv => whnf
  refine hK _ (W.cond ⟨fun _ => ?_, fun hcc => absurd rfl (of_decide_eq_false hcc)⟩)
  clear hK K
  refine W.tick rfl fun hs9 hhs9 hbb => ?_
  dsimp only at hhs9
  refine W.rs (cxt_ok _ _) (by rfl) fun K hK => ?_
  conv => whnf
  refine ⟨f.l, ⟨rfl, fun _ => htf⟩, ?_⟩
  conv => whnf
  refine callI rfl (clone_fn (some bf) f.l (by omega)) fun hs_4 b_4 hh_4 hf_4 => ?_
  try dsimp only at hh_4 hf_4
  conv => whnf
  have k4 := hf_4 hfn
  refine ⟨⟨rfl, by decide, fun x hx => by simp at hx; subst hx; exact ⟨rfl, rfl⟩⟩, ?_⟩
  conv => whnf
  intro b_5 hs_5 hh_5 hf_5
  try dsimp only at hh_5 hf_5
  conv => whnf
  refine hK _ ?_
  clear hK K
  refine W.ret ?_
  conv => whnf
  refine ⟨by dsimp only; omega, ?_⟩
  conv => whnf
  refine ⟨rfl, ?_⟩
  conv => whnf
  refine ⟨.vals none 1 1 fun j => .rf b_4 (([f.l] : List (List Int)).getD j []).length, ⟨.inl rfl, rfl, rfl, fun i hi => by obtain rfl : i = 0 := (by omega); rfl⟩, ?_⟩
  conv => whnf
  refine ⟨.v (.rf bf f.l.length), rfl, .inr ⟨rfl, rfl⟩, .tab (tbAdd tb b_4 f.l), fun _ _ h => h, rfl, rfl, rfl, fun _ => b_4, _, rfl, rfl, fun j hj => ?_, fun i j hi hj hij => ?_, fun j hj => .inr ?_, fun c xs hc => ?_⟩
  ·obtain rfl : j = 0 := by simpa using hj
   exact tbAdd_self _ _ hfn
  ·have : i = 0 := by simpa using hi
   have : j = 0 := by simpa using hj
   omega
  ·cases e : tb b_4 with
   | none => rfl
   | some xs => exact absurd (hbb b_4 (by rw [e]; exact Option.some_ne_none _)) (by omega)
  ·have := hbb c (by rw [hc]; exact Option.some_ne_none _)
   exact (tbAdd_ne _ _ (.inr (by omega))).trans hc
 | x :: y :: F, f, n, L, h, hF1, hL => fun bf bs nn ff tb hnn hff htf htb hds => by
  have ih := liftAll_R hr hm (y :: F)
  obtain ⟨a, b, S, T, u, G, H, L', hfs, hP, h9, hLt, hHf, hHF, rfl, hLr⟩ := hL
  obtain ⟨s1, s2, s3, s4, s5, s6⟩ := h.rn.1.small
  obtain ⟨i1, i2, hf0, eF, i5⟩ := h.img
  have m9 : M ≤ 1000000000 := by omega
  have n8 := h.n8
  have n1 := h.n1
  have hfl : f.l.length = dg f := rfl
  have hg1 := hP.mg.1
  have hh1 := hP.mh.1
  obtain ⟨F0, hF0⟩ : ∃ F0, F0 = x :: y :: F := ⟨_, rfl⟩
  have hF := hF1
  rw [← hF0] at hF hnn htb hds hff ⊢
  have hFl : 2 ≤ F0.length := by rw [hF0]; simp
  have hFl2 : F0.length = (y :: F).length + 1 := by rw [hF0]; rfl
  have e0 : pwF F0 0 = x.1 ^ x.2 := by rw [hF0]; rfl
  have e1 : ∀ j, pwF F0 (1 + j) = pwF (y :: F) j := fun j => by rw [hF0, Nat.add_comm]; rfl
  have hQ0 := hfs.mg.1
  have hQ := hfs.quo
  have hFn := hF.facs.few hf0
  generalize x.1 ^ x.2 = Q at hfs hP hLt hg1 e0 hQ0 hQ
  subst e0
  have hQn : (pwF F0 0).l ≠ [] := fun e => by have : (pwF F0 0).l.length = dg (pwF F0 0) := rfl; rw [e] at this; simp at this; omega
  have hun : u.l ≠ [] := fun e => by have : u.l.length = dg u := rfl; rw [e] at this; simp at this; omega
  have hL'l := LA.len _ _ _ hLr
  have hFyl : (y :: F).length = F.length + 1 := rfl
  obtain rfl : ff = fun j => .rf (bs j) (pwF F0 j).l.length := funext hff
  obtain rfl := hnn
  have hbz := htb 0 (by omega)
  refine mfn_ofV (cx := cxt [] [0, 1, 2, 3, 6, 7, 9, 10, 13, 1000000, 1000001]) (cxt_ok [] [0, 1, 2, 3, 6, 7, 9, 10, 13, 1000000, 1000001]) Tryz.func30 rfl (by decide) Tryz.ntmps30 (Nat.le_of_ble_eq_true rfl) (Nat.le_of_ble_eq_true rfl) rfl rfl fun base hs0 O U hw v0 hb0 => ?_
  refine W.rs (cxt_ok _ _) (by rfl) fun K hK => ?_
  conv => whnf
  refine ⟨rfl, ?_⟩
  conv => whnf
  intro b_3 hs_3 hh_3 hf_3
  try dsimp only at hh_3 hf_3
  conv => whnf
  refine hK _ ?_
  clear hK K
  refine W.seqK fun K1 hK1 => ?_
  refine W.rs (cxt_ok _ _) (by rfl) fun K hK => ?_
  conv => whnf
  refine hK _ (W.cond ⟨fun hcc => absurd (of_decide_eq_true hcc) (by omega), fun _ => W.skip (hK1 _ ?_)⟩)
  clear hK K hK1 K1
  refine W.tick rfl fun hs9 hhs9 hbb => ?_
  dsimp only at hhs9
  refine W.sw (c' := cxt [27] [0, 1, 2, 3, 6, 7, 9, 10, 13, 1000000, 1000001]) ?_
  refine W.rdW 9 6 (cxt_ok _ _) follows (by rfl) (by kernel_rfl) fun K hK => ?_
  conv => whnf
  refine ⟨f.l, ⟨rfl, fun _ => htf⟩, ?_⟩
  conv => whnf
  refine ⟨_, cxtF ((reduce_fn p (by omega) (by omega) (some bf) f.l ((r_bd m9 f).le (by omega)) (by omega)).toV), ?_⟩
  conv => whnf
  rw [eF]
  refine ⟨⟨by decide, by omega⟩, ?_⟩
  conv => whnf
  intro fu
  refine Wany.one (cx := cxt [27] []) (cxt_ok [27] []) 9 (by rfl) (by kernel_rfl) (by rfl) (by rfl) ?_
  conv => whnf
  refine ⟨(pwF F0 0).l, ⟨rfl, fun _ => hbz⟩, ?_⟩
  conv => whnf
  refine ⟨_, cxT (divide_T p none (some (bs 0)) (im p f) (pwF F0 0) (by omega) (by omega) hQ0), fun lo_z hi_z hs_z x_z tn_z tb_z hl1_z hl2_z _ hp_z hf_z hn_z ho_z => ?_⟩
  try dsimp only at hl1_z hl2_z
  obtain ⟨bq, br, rfl, hq0, hq1, hq2⟩ := hp_z
  rw [hQ] at hq0 hq2 ⊢
  have kq := hf_z bq (by rw [hq0 hun]; exact Option.some_ne_none _)
  have k0 := hbb (bs 0) (by rw [hbz]; exact Option.some_ne_none _)
  conv => whnf
  refine Wany.take (cx := cxt [27] []) (cxt_ok [27] []) 10 (by rfl) (by rfl) (fun d hd => by injection hd with hd; subst hd; decide) (by kernel_rfl) (by kernel_rfl) (by kernel_rfl) (by rfl) ?_
  conv => whnf
  refine Wany.take (cx := cxt [27] []) (cxt_ok [27] []) 11 (by rfl) (by rfl) (fun d hd => by injection hd with hd; subst hd; decide) (by kernel_rfl) (by kernel_rfl) (by kernel_rfl) (by rfl) ?_
  conv => whnf
  refine Wany.take (cx := cxt [27] []) (cxt_ok [27] []) 12 (by rfl) (by rfl) (fun d hd => by injection hd with hd; subst hd; decide) (by kernel_rfl) (by kernel_rfl) (by kernel_rfl) (by rfl) ?_
  conv => whnf
  refine Wany.take (cx := cxt [27] []) (cxt_ok [27] []) 13 (by rfl) (by rfl) (fun d hd => by injection hd with hd; subst hd; decide) (by kernel_rfl) (by kernel_rfl) (by kernel_rfl) (by rfl) ?_
  conv => whnf
  refine Wany.take (cx := cxt [27] []) (cxt_ok [27] []) 14 (by rfl) (by rfl) (fun d hd => by injection hd with hd; subst hd; decide) (by kernel_rfl) (by kernel_rfl) (by kernel_rfl) (by rfl) ?_
  conv => whnf
  refine Wany.done (by kernel_rfl) (hK _ ?_)
  clear hK K fu
  refine W.sw (c' := cxt [] [0, 1, 2, 3, 6, 7, 9, 10, 13, 1000000, 1000001]) ?_
  refine W.rdW 6 6 (cxt_ok _ _) follows (by rfl) (by kernel_rfl) fun K hK => ?_
  conv => whnf
  refine ⟨⟨by decide, by omega⟩, ?_⟩
  conv => whnf
  intro fu
  refine Wany.one (cx := cxt [] []) (cxt_ok [] []) 6 (by rfl) (by kernel_rfl) (by rfl) (by rfl) ?_
  conv => whnf
  refine ⟨⟨rfl, rfl⟩, ?_⟩
  conv => whnf
  refine ⟨rfl, _, liftPair_R h.rn.1 hm hP h9 hLt bf (bs 0) bq tb_z (ho_z _ _ htf) (ho_z _ _ hbz) (hn_z _ _ (hq0 hun)) (by omega), ?_⟩
  rintro hs5 av x' t' hh5 ⟨rfl, b0, b1, tb2, rfl, rfl, ht0, ht1, hne, hor0, hor1, hold⟩ _ _ _
  try dsimp only at hh5
  conv => whnf
  refine Wany.take (cx := cxt [] []) (cxt_ok [] []) 7 (by rfl) (by rfl) (fun d hd => by injection hd with hd; subst hd; decide) (by kernel_rfl) (by kernel_rfl) (by kernel_rfl) (by rfl) ?_
  conv => whnf
  refine Wany.take (cx := cxt [] []) (cxt_ok [] []) 8 (by rfl) (by rfl) (fun d hd => by injection hd with hd; subst hd; decide) (by kernel_rfl) (by kernel_rfl) (by kernel_rfl) (by rfl) ?_
  conv => whnf
  refine Wany.take (cx := cxt [] []) (cxt_ok [] []) 9 (by rfl) (by rfl) (fun d hd => by injection hd with hd; subst hd; decide) (by kernel_rfl) (by kernel_rfl) (by kernel_rfl) (by rfl) ?_
  conv => whnf
  refine Wany.take (cx := cxt [] []) (cxt_ok [] []) 10 (by rfl) (by rfl) (fun d hd => by injection hd with hd; subst hd; decide) (by kernel_rfl) (by kernel_rfl) (by kernel_rfl) (by rfl) ?_
  conv => whnf
  refine Wany.take (cx := cxt [] []) (cxt_ok [] []) 11 (by rfl) (by rfl) (fun d hd => by injection hd with hd; subst hd; decide) (by kernel_rfl) (by kernel_rfl) (by kernel_rfl) (by rfl) ?_
  conv => whnf
  refine Wany.done (by kernel_rfl) (hK _ ?_)
  clear hK K fu
  refine W.seqK fun K1 hK1 => W.sch follows ?_
  refine Wany.take (cxt_ok [] []) 0 (by rfl) (by rfl) (fun d hd => by injection hd with hd; subst hd; decide) (by kernel_rfl) (by kernel_rfl) (by kernel_rfl) (by rfl) ?_
  conv => whnf
  refine Wany.take (cxt_ok [] []) 3 (by rfl) (by rfl) (fun d hd => by injection hd with hd; subst hd; decide) (by kernel_rfl) (by kernel_rfl) (by kernel_rfl) (by rfl) ?_
  conv => whnf
  refine Wany.take (cxt_ok [] []) 4 (by rfl) (by rfl) (fun d hd => by injection hd with hd; subst hd; decide) (by kernel_rfl) (by kernel_rfl) (by kernel_rfl) (by rfl) ?_
  conv => whnf
  refine Wany.take (cxt_ok [] []) 5 (by rfl) (by rfl) (fun d hd => by injection hd with hd; subst hd; decide) (by kernel_rfl) (by kernel_rfl) (by kernel_rfl) (by rfl) ?_
  conv => whnf
  refine ⟨⟨by decide, by omega, by omega⟩, ?_⟩
  conv => whnf
  refine Wany.two (cxt_ok [] []) 1 2 (by rfl) (by kernel_rfl) (by rfl) (by rfl) (by rfl) (by rfl) ?_ ?_ <;> conv => whnf
  ·refine ⟨⟨rfl, by decide, fun x hx => by simp at hx; subst hx; exact ⟨rfl, rfl⟩⟩, ?_⟩
   conv => whnf
   intro b_g hs_g hh_g hf_g
   try dsimp only at hh_g hf_g
   conv => whnf
   refine Wany.one (cxt_ok [] []) 2 (by rfl) (by kernel_rfl) (by rfl) (by rfl) ?_
   conv => whnf
   refine Wany.one (cxt_ok [] []) 6 (by rfl) (by kernel_rfl) (by rfl) (by rfl) ?_
   conv => whnf
   refine ⟨⟨rfl, rfl⟩, ?_⟩
   conv => whnf
   refine ⟨rfl, _, ih H b L' hHf hHF hLr b1 (fun j => bs (1 + j)) _ _ tb2 (by omega) (fun j => by rw [← e1]; rfl) ht1 (fun j hj => by rw [← e1]; exact hold _ _ (ho_z _ _ (htb (1 + j) (by omega)))) (fun i j hi hj hij => hds _ _ (by omega) (by omega) (by omega)), ?_⟩
   rintro hs6 av x' t' hh6 ⟨rfl, cs, tb3, rfl, rfl, c1, c2, c3, c4⟩ _ _ _
   try dsimp only at hh6
   conv => whnf
   refine Wany.one (cxt_ok [] []) 7 (by rfl) (by kernel_rfl) (by rfl) (by rfl) ?_
   conv => whnf
   refine ⟨by omega, ?_⟩
   conv => whnf
   refine ⟨fun j => .rf (if j = 0 then b0 else cs (j - 1)) ((G.l :: L').getD j []).length, fun j hj => (by obtain rfl : j = 0 := (by omega); rfl), fun j hj => (by show V.rf (if 1 + j = 0 then b0 else cs (1 + j - 1)) ((G.l :: L').getD (1 + j) []).length = V.rf (cs j) (L'.getD j []).length; rw [if_neg (by omega), Nat.add_comm]; rfl), ?_⟩
   intro b_r hs_r hh_r hf_r
   try dsimp only at hh_r hf_r
   conv => whnf
   refine Wany.one (cxt_ok [] []) 8 (by rfl) (by kernel_rfl) (by rfl) (by rfl) ?_
   conv => whnf
   refine Wany.done (by kernel_rfl) (hK1 _ ?_)
   clear hK1 K1
   refine W.ret ?_
   conv => whnf
   refine ⟨by dsimp only; omega, ?_⟩
   conv => whnf
   refine ⟨rfl, ?_⟩
   conv => whnf
   refine ⟨.vals none 1 (G.l :: L').length fun j => .rf (if j = 0 then b0 else cs (j - 1)) ((G.l :: L').getD j []).length, ⟨.inl rfl, rfl, by simp only [List.length_cons]; omega, fun _ _ => rfl⟩, ?_⟩
   conv => whnf
   exact ⟨.v (.rf bf f.l.length), rfl, .inr ⟨rfl, rfl⟩, .tab tb3, fun _ _ h => h, rfl, rfl, rfl, APost.cons (by omega) ho_z hold hor0 ht0 (fun j hj => by rw [htb j hj]; exact Option.some_ne_none _) hds c1 c2 (fun j hj => by rw [hFl2]; exact c3 j hj) c4⟩
  ·refine Wany.two (cxt_ok [] []) 1 6 (by rfl) (by kernel_rfl) (by rfl) (by rfl) (by rfl) (by rfl) ?_ ?_ <;> conv => whnf
   ·refine ⟨⟨rfl, by decide, fun x hx => by simp at hx; subst hx; exact ⟨rfl, rfl⟩⟩, ?_⟩
    conv => whnf
    intro b_g hs_g hh_g hf_g
    try dsimp only at hh_g hf_g
    conv => whnf
    refine Wany.one (cxt_ok [] []) 6 (by rfl) (by kernel_rfl) (by rfl) (by rfl) ?_
    conv => whnf
    refine ⟨⟨rfl, rfl⟩, ?_⟩
    conv => whnf
    refine ⟨rfl, _, ih H b L' hHf hHF hLr b1 (fun j => bs (1 + j)) _ _ tb2 (by omega) (fun j => by rw [← e1]; rfl) ht1 (fun j hj => by rw [← e1]; exact hold _ _ (ho_z _ _ (htb (1 + j) (by omega)))) (fun i j hi hj hij => hds _ _ (by omega) (by omega) (by omega)), ?_⟩
    rintro hs6 av x' t' hh6 ⟨rfl, cs, tb3, rfl, rfl, c1, c2, c3, c4⟩ _ _ _
    try dsimp only at hh6
    conv => whnf
    refine Wany.one (cxt_ok [] []) 7 (by rfl) (by kernel_rfl) (by rfl) (by rfl) ?_
    conv => whnf
    refine ⟨by omega, ?_⟩
    conv => whnf
    refine ⟨fun j => .rf (if j = 0 then b0 else cs (j - 1)) ((G.l :: L').getD j []).length, fun j hj => (by obtain rfl : j = 0 := (by omega); rfl), fun j hj => (by show V.rf (if 1 + j = 0 then b0 else cs (1 + j - 1)) ((G.l :: L').getD (1 + j) []).length = V.rf (cs j) (L'.getD j []).length; rw [if_neg (by omega), Nat.add_comm]; rfl), ?_⟩
    intro b_r hs_r hh_r hf_r
    try dsimp only at hh_r hf_r
    conv => whnf
    refine Wany.one (cxt_ok [] []) 8 (by rfl) (by kernel_rfl) (by rfl) (by rfl) ?_
    conv => whnf
    refine Wany.done (by kernel_rfl) (hK1 _ ?_)
    clear hK1 K1
    refine W.ret ?_
    conv => whnf
    refine ⟨by dsimp only; omega, ?_⟩
    conv => whnf
    refine ⟨rfl, ?_⟩
    conv => whnf
    refine ⟨.vals none 1 (G.l :: L').length fun j => .rf (if j = 0 then b0 else cs (j - 1)) ((G.l :: L').getD j []).length, ⟨.inl rfl, rfl, by simp only [List.length_cons]; omega, fun _ _ => rfl⟩, ?_⟩
    conv => whnf
    exact ⟨.v (.rf bf f.l.length), rfl, .inr ⟨rfl, rfl⟩, .tab tb3, fun _ _ h => h, rfl, rfl, rfl, APost.cons (by omega) ho_z hold hor0 ht0 (fun j hj => by rw [htb j hj]; exact Option.some_ne_none _) hds c1 c2 (fun j hj => by rw [hFl2]; exact c3 j hj) c4⟩
   ·refine ⟨⟨rfl, rfl⟩, ?_⟩
    conv => whnf
    refine ⟨rfl, _, ih H b L' hHf hHF hLr b1 (fun j => bs (1 + j)) _ _ tb2 (by omega) (fun j => by rw [← e1]; rfl) ht1 (fun j hj => by rw [← e1]; exact hold _ _ (ho_z _ _ (htb (1 + j) (by omega)))) (fun i j hi hj hij => hds _ _ (by omega) (by omega) (by omega)), ?_⟩
    rintro hs6 av x' t' hh6 ⟨rfl, cs, tb3, rfl, rfl, c1, c2, c3, c4⟩ _ _ _
    try dsimp only at hh6
    conv => whnf
    refine Wany.one (cxt_ok [] []) 1 (by rfl) (by kernel_rfl) (by rfl) (by rfl) ?_
    conv => whnf
    refine ⟨⟨rfl, by decide, fun x hx => by simp at hx; subst hx; exact ⟨rfl, rfl⟩⟩, ?_⟩
    conv => whnf
    intro b_g hs_g hh_g hf_g
    try dsimp only at hh_g hf_g
    conv => whnf
    refine Wany.one (cxt_ok [] []) 7 (by rfl) (by kernel_rfl) (by rfl) (by rfl) ?_
    conv => whnf
    refine ⟨by omega, ?_⟩
    conv => whnf
    refine ⟨fun j => .rf (if j = 0 then b0 else cs (j - 1)) ((G.l :: L').getD j []).length, fun j hj => (by obtain rfl : j = 0 := (by omega); rfl), fun j hj => (by show V.rf (if 1 + j = 0 then b0 else cs (1 + j - 1)) ((G.l :: L').getD (1 + j) []).length = V.rf (cs j) (L'.getD j []).length; rw [if_neg (by omega), Nat.add_comm]; rfl), ?_⟩
    intro b_r hs_r hh_r hf_r
    try dsimp only at hh_r hf_r
    conv => whnf
    refine Wany.one (cxt_ok [] []) 8 (by rfl) (by kernel_rfl) (by rfl) (by rfl) ?_
    conv => whnf
    refine Wany.done (by kernel_rfl) (hK1 _ ?_)
    clear hK1 K1
    refine W.ret ?_
    conv => whnf
    refine ⟨by dsimp only; omega, ?_⟩
    conv => whnf
    refine ⟨rfl, ?_⟩
    conv => whnf
    refine ⟨.vals none 1 (G.l :: L').length fun j => .rf (if j = 0 then b0 else cs (j - 1)) ((G.l :: L').getD j []).length, ⟨.inl rfl, rfl, by simp only [List.length_cons]; omega, fun _ _ => rfl⟩, ?_⟩
    conv => whnf
    exact ⟨.v (.rf bf f.l.length), rfl, .inr ⟨rfl, rfl⟩, .tab tb3, fun _ _ h => h, rfl, rfl, rfl, APost.cons (by omega) ho_z hold hor0 ht0 (fun j hj => by rw [htb j hj]; exact Option.some_ne_none _) hds c1 c2 (fun j hj => by rw [hFl2]; exact c3 j hj) c4⟩
-- 3 ways

theorem liftAll_I (hr : IsRg p k) (hm : p ^ k.toNat = M) : ∀ (F : List (Poly p × Nat)) (f : Poly M) (n : Nat) (L : List (List Int)), LfP p k M f n → FacOf (im p f) F → LA p k F f L → ∀ (g : Option Nat) (bs : Nat → Nat) (nn : Nat) (ff : Nat → V) (tb : Tab), nn = F.length → (∀ j, ff j = .rf (bs j) (pwF F j).l.length) →
  (∀ j, j < F.length → tb (bs j) = some (pwF F j).l) → (∀ i j, i < F.length → j < F.length → i ≠ j → bs i ≠ bs j) →
  MFn Tryz.prog 30 [vR p k, .nil, .vals none 1 nn ff] 1 (.v (.ints g f.l)) (.tab tb) (fun _ av x' t' => x' = .v (.ints g f.l) ∧ APost F.length bs tb L av t')
 | [], _, _, _, _, _, hL => hL.elim
 | [x], f, n, L, h, hF, hL => fun g bs nn ff tb hnn hff htb hds => by
  obtain ⟨i1, i2, hf0, eF, i5⟩ := h.img
  have n1 := h.n1
  have n8 := h.n8
  have hfl : f.l.length = dg f := rfl
  have hfn : f.l ≠ [] := fun e => by rw [e] at hfl; simp at hfl; omega
  obtain rfl : L = [f.l] := hL
  obtain rfl : nn = 1 := hnn
  refine mfn_ofV (cx := cxt [] [0, 1, 2, 3, 6, 7, 9, 10, 13, 1000000, 1000001]) (cxt_ok [] [0, 1, 2, 3, 6, 7, 9, 10, 13, 1000000, 1000001]) Tryz.func30 rfl (by decide) Tryz.ntmps30 (Nat.le_of_ble_eq_true rfl) (Nat.le_of_ble_eq_true rfl) rfl rfl fun base hs0 O U hw v0 hb0 => ?_
  refine W.rs (cxt_ok _ _) (by rfl) fun K hK => ?_
  conv => whnf
  refine ⟨rfl, ?_⟩
  conv => whnf
  intro b_3 hs_3 hh_3 hf_3
  try dsimp only at hh_3 hf_3
  conv => whnf
  refine hK _ ?_
  clear hK K
  refine W.seqK fun K1 hK1 => ?_
  refine W.rs (cxt_ok _ _) (by rfl) fun K hK => ?_
  conv => whnf
  refine hK _ (W.cond ⟨fun _ => ?_, fun hcc => absurd rfl (of_decide_eq_false hcc)⟩)
  clear hK K
  refine W.tick rfl fun hs9 hhs9 hbb => ?_
  dsimp only at hhs9
  refine W.rs (cxt_ok _ _) (by rfl) fun K hK => ?_
  conv => whnf
  refine callI rfl (clone_fn g f.l (by omega)) fun hs_4 b_4 hh_4 hf_4 => ?_
  try dsimp only at hh_4 hf_4
  conv => whnf
  have k4 := hf_4 hfn
  refine ⟨⟨rfl, by decide, fun x hx => by simp at hx; subst hx; exact ⟨rfl, rfl⟩⟩, ?_⟩
  conv => whnf
  intro b_5 hs_5 hh_5 hf_5
  try dsimp only at hh_5 hf_5
  conv => whnf
  refine hK _ ?_
  clear hK K
  refine W.ret ?_
  conv => whnf
  refine ⟨by dsimp only; omega, ?_⟩
  conv => whnf
  refine ⟨rfl, ?_⟩
  conv => whnf
  refine ⟨.vals none 1 1 fun j => .rf b_4 (([f.l] : List (List Int)).getD j []).length, ⟨.inl rfl, rfl, rfl, fun i hi => by obtain rfl : i = 0 := (by omega); rfl⟩, ?_⟩
  conv => whnf
  refine ⟨.v (.ints g f.l), leV_refl (.ints g f.l), .inr ⟨rfl, rfl⟩, .tab (tbAdd tb b_4 f.l), fun _ _ h => h, rfl, rfl, rfl, fun _ => b_4, _, rfl, rfl, fun j hj => ?_, fun i j hi hj hij => ?_, fun j hj => .inr ?_, fun c xs hc => ?_⟩
  ·obtain rfl : j = 0 := by simpa using hj
   exact tbAdd_self _ _ hfn
  ·have : i = 0 := by simpa using hi
   have : j = 0 := by simpa using hj
   omega
  ·cases e : tb b_4 with
   | none => rfl
   | some xs => exact absurd (hbb b_4 (by rw [e]; exact Option.some_ne_none _)) (by omega)
  ·have := hbb c (by rw [hc]; exact Option.some_ne_none _)
   exact (tbAdd_ne _ _ (.inr (by omega))).trans hc
 | x :: y :: F, f, n, L, h, hF1, hL => fun g bs nn ff tb hnn hff htb hds => by
  have ih := liftAll_R hr hm (y :: F)
  obtain ⟨a, b, S, T, u, G, H, L', hfs, hP, h9, hLt, hHf, hHF, rfl, hLr⟩ := hL
  obtain ⟨s1, s2, s3, s4, s5, s6⟩ := h.rn.1.small
  obtain ⟨i1, i2, hf0, eF, i5⟩ := h.img
  have m9 : M ≤ 1000000000 := by omega
  have n8 := h.n8
  have n1 := h.n1
  have hfl : f.l.length = dg f := rfl
  have hg1 := hP.mg.1
  have hh1 := hP.mh.1
  obtain ⟨F0, hF0⟩ : ∃ F0, F0 = x :: y :: F := ⟨_, rfl⟩
  have hF := hF1
  rw [← hF0] at hF hnn htb hds hff ⊢
  have hFl : 2 ≤ F0.length := by rw [hF0]; simp
  have hFl2 : F0.length = (y :: F).length + 1 := by rw [hF0]; rfl
  have e0 : pwF F0 0 = x.1 ^ x.2 := by rw [hF0]; rfl
  have e1 : ∀ j, pwF F0 (1 + j) = pwF (y :: F) j := fun j => by rw [hF0, Nat.add_comm]; rfl
  have hQ0 := hfs.mg.1
  have hQ := hfs.quo
  have hFn := hF.facs.few hf0
  generalize x.1 ^ x.2 = Q at hfs hP hLt hg1 e0 hQ0 hQ
  subst e0
  have hQn : (pwF F0 0).l ≠ [] := fun e => by have : (pwF F0 0).l.length = dg (pwF F0 0) := rfl; rw [e] at this; simp at this; omega
  have hun : u.l ≠ [] := fun e => by have : u.l.length = dg u := rfl; rw [e] at this; simp at this; omega
  have hL'l := LA.len _ _ _ hLr
  have hFyl : (y :: F).length = F.length + 1 := rfl
  obtain rfl : ff = fun j => .rf (bs j) (pwF F0 j).l.length := funext hff
  obtain rfl := hnn
  have hbz := htb 0 (by omega)
  refine mfn_ofV (cx := cxt [] [0, 1, 2, 3, 6, 7, 9, 10, 13, 1000000, 1000001]) (cxt_ok [] [0, 1, 2, 3, 6, 7, 9, 10, 13, 1000000, 1000001]) Tryz.func30 rfl (by decide) Tryz.ntmps30 (Nat.le_of_ble_eq_true rfl) (Nat.le_of_ble_eq_true rfl) rfl rfl fun base hs0 O U hw v0 hb0 => ?_
  refine W.rs (cxt_ok _ _) (by rfl) fun K hK => ?_
  conv => whnf
  refine ⟨rfl, ?_⟩
  conv => whnf
  intro b_3 hs_3 hh_3 hf_3
  try dsimp only at hh_3 hf_3
  conv => whnf
  refine hK _ ?_
  clear hK K
  refine W.seqK fun K1 hK1 => ?_
  refine W.rs (cxt_ok _ _) (by rfl) fun K hK => ?_
  conv => whnf
  refine hK _ (W.cond ⟨fun hcc => absurd (of_decide_eq_true hcc) (by omega), fun _ => W.skip (hK1 _ ?_)⟩)
  clear hK K hK1 K1
  refine W.tick rfl fun hs9 hhs9 hbb => ?_
  dsimp only at hhs9
  refine W.sw (c' := cxt [27] [0, 1, 2, 3, 6, 7, 9, 10, 13, 1000000, 1000001]) ?_
  refine W.rdW 9 6 (cxt_ok _ _) follows (by rfl) (by kernel_rfl) fun K hK => ?_
  conv => whnf
  refine ⟨_, cxtF ((reduce_fn p (by omega) (by omega) g f.l ((r_bd m9 f).le (by omega)) (by omega)).toV), ?_⟩
  conv => whnf
  rw [eF]
  refine ⟨⟨by decide, by omega⟩, ?_⟩
  conv => whnf
  intro fu
  refine Wany.one (cx := cxt [27] []) (cxt_ok [27] []) 9 (by rfl) (by kernel_rfl) (by rfl) (by rfl) ?_
  conv => whnf
  refine ⟨(pwF F0 0).l, ⟨rfl, fun _ => hbz⟩, ?_⟩
  conv => whnf
  refine ⟨_, cxT (divide_T p none (some (bs 0)) (im p f) (pwF F0 0) (by omega) (by omega) hQ0), fun lo_z hi_z hs_z x_z tn_z tb_z hl1_z hl2_z _ hp_z hf_z hn_z ho_z => ?_⟩
  try dsimp only at hl1_z hl2_z
  obtain ⟨bq, br, rfl, hq0, hq1, hq2⟩ := hp_z
  rw [hQ] at hq0 hq2 ⊢
  have kq := hf_z bq (by rw [hq0 hun]; exact Option.some_ne_none _)
  have k0 := hbb (bs 0) (by rw [hbz]; exact Option.some_ne_none _)
  conv => whnf
  refine Wany.take (cx := cxt [27] []) (cxt_ok [27] []) 10 (by rfl) (by rfl) (fun d hd => by injection hd with hd; subst hd; decide) (by kernel_rfl) (by kernel_rfl) (by kernel_rfl) (by rfl) ?_
  conv => whnf
  refine Wany.take (cx := cxt [27] []) (cxt_ok [27] []) 11 (by rfl) (by rfl) (fun d hd => by injection hd with hd; subst hd; decide) (by kernel_rfl) (by kernel_rfl) (by kernel_rfl) (by rfl) ?_
  conv => whnf
  refine Wany.take (cx := cxt [27] []) (cxt_ok [27] []) 12 (by rfl) (by rfl) (fun d hd => by injection hd with hd; subst hd; decide) (by kernel_rfl) (by kernel_rfl) (by kernel_rfl) (by rfl) ?_
  conv => whnf
  refine Wany.take (cx := cxt [27] []) (cxt_ok [27] []) 13 (by rfl) (by rfl) (fun d hd => by injection hd with hd; subst hd; decide) (by kernel_rfl) (by kernel_rfl) (by kernel_rfl) (by rfl) ?_
  conv => whnf
  refine Wany.take (cx := cxt [27] []) (cxt_ok [27] []) 14 (by rfl) (by rfl) (fun d hd => by injection hd with hd; subst hd; decide) (by kernel_rfl) (by kernel_rfl) (by kernel_rfl) (by rfl) ?_
  conv => whnf
  refine Wany.done (by kernel_rfl) (hK _ ?_)
  clear hK K fu
  refine W.sw (c' := cxt [] [0, 1, 2, 3, 6, 7, 9, 10, 13, 1000000, 1000001]) ?_
  refine W.rdW 6 6 (cxt_ok _ _) follows (by rfl) (by kernel_rfl) fun K hK => ?_
  conv => whnf
  refine ⟨⟨by decide, by omega⟩, ?_⟩
  conv => whnf
  intro fu
  refine Wany.one (cx := cxt [] []) (cxt_ok [] []) 6 (by rfl) (by kernel_rfl) (by rfl) (by rfl) ?_
  conv => whnf
  refine ⟨⟨rfl, rfl⟩, ?_⟩
  conv => whnf
  refine ⟨rfl, _, liftPair_M h.rn.1 hm hP h9 hLt g (bs 0) bq tb_z (ho_z _ _ hbz) (hn_z _ _ (hq0 hun)) (by omega), ?_⟩
  rintro hs5 av x' t' hh5 ⟨rfl, b0, b1, tb2, rfl, rfl, ht0, ht1, hne, hor0, hor1, hold⟩ _ _ _
  try dsimp only at hh5
  conv => whnf
  refine Wany.take (cx := cxt [] []) (cxt_ok [] []) 7 (by rfl) (by rfl) (fun d hd => by injection hd with hd; subst hd; decide) (by kernel_rfl) (by kernel_rfl) (by kernel_rfl) (by rfl) ?_
  conv => whnf
  refine Wany.take (cx := cxt [] []) (cxt_ok [] []) 8 (by rfl) (by rfl) (fun d hd => by injection hd with hd; subst hd; decide) (by kernel_rfl) (by kernel_rfl) (by kernel_rfl) (by rfl) ?_
  conv => whnf
  refine Wany.take (cx := cxt [] []) (cxt_ok [] []) 9 (by rfl) (by rfl) (fun d hd => by injection hd with hd; subst hd; decide) (by kernel_rfl) (by kernel_rfl) (by kernel_rfl) (by rfl) ?_
  conv => whnf
  refine Wany.take (cx := cxt [] []) (cxt_ok [] []) 10 (by rfl) (by rfl) (fun d hd => by injection hd with hd; subst hd; decide) (by kernel_rfl) (by kernel_rfl) (by kernel_rfl) (by rfl) ?_
  conv => whnf
  refine Wany.take (cx := cxt [] []) (cxt_ok [] []) 11 (by rfl) (by rfl) (fun d hd => by injection hd with hd; subst hd; decide) (by kernel_rfl) (by kernel_rfl) (by kernel_rfl) (by rfl) ?_
  conv => whnf
  refine Wany.done (by kernel_rfl) (hK _ ?_)
  clear hK K fu
  refine W.seqK fun K1 hK1 => W.sch follows ?_
  refine Wany.take (cxt_ok [] []) 0 (by rfl) (by rfl) (fun d hd => by injection hd with hd; subst hd; decide) (by kernel_rfl) (by kernel_rfl) (by kernel_rfl) (by rfl) ?_
  conv => whnf
  refine Wany.take (cxt_ok [] []) 3 (by rfl) (by rfl) (fun d hd => by injection hd with hd; subst hd; decide) (by kernel_rfl) (by kernel_rfl) (by kernel_rfl) (by rfl) ?_
  conv => whnf
  refine Wany.take (cxt_ok [] []) 4 (by rfl) (by rfl) (fun d hd => by injection hd with hd; subst hd; decide) (by kernel_rfl) (by kernel_rfl) (by kernel_rfl) (by rfl) ?_
  conv => whnf
  refine Wany.take (cxt_ok [] []) 5 (by rfl) (by rfl) (fun d hd => by injection hd with hd; subst hd; decide) (by kernel_rfl) (by kernel_rfl) (by kernel_rfl) (by rfl) ?_
  conv => whnf
  refine ⟨⟨by decide, by omega, by omega⟩, ?_⟩
  conv => whnf
  refine Wany.two (cxt_ok [] []) 1 2 (by rfl) (by kernel_rfl) (by rfl) (by rfl) (by rfl) (by rfl) ?_ ?_ <;> conv => whnf
  ·refine ⟨⟨rfl, by decide, fun x hx => by simp at hx; subst hx; exact ⟨rfl, rfl⟩⟩, ?_⟩
   conv => whnf
   intro b_g hs_g hh_g hf_g
   try dsimp only at hh_g hf_g
   conv => whnf
   refine Wany.one (cxt_ok [] []) 2 (by rfl) (by kernel_rfl) (by rfl) (by rfl) ?_
   conv => whnf
   refine Wany.one (cxt_ok [] []) 6 (by rfl) (by kernel_rfl) (by rfl) (by rfl) ?_
   conv => whnf
   refine ⟨⟨rfl, rfl⟩, ?_⟩
   conv => whnf
   refine ⟨rfl, _, ih H b L' hHf hHF hLr b1 (fun j => bs (1 + j)) _ _ tb2 (by omega) (fun j => by rw [← e1]; rfl) ht1 (fun j hj => by rw [← e1]; exact hold _ _ (ho_z _ _ (htb (1 + j) (by omega)))) (fun i j hi hj hij => hds _ _ (by omega) (by omega) (by omega)), ?_⟩
   rintro hs6 av x' t' hh6 ⟨rfl, cs, tb3, rfl, rfl, c1, c2, c3, c4⟩ _ _ _
   try dsimp only at hh6
   conv => whnf
   refine Wany.one (cxt_ok [] []) 7 (by rfl) (by kernel_rfl) (by rfl) (by rfl) ?_
   conv => whnf
   refine ⟨by omega, ?_⟩
   conv => whnf
   refine ⟨fun j => .rf (if j = 0 then b0 else cs (j - 1)) ((G.l :: L').getD j []).length, fun j hj => (by obtain rfl : j = 0 := (by omega); rfl), fun j hj => (by show V.rf (if 1 + j = 0 then b0 else cs (1 + j - 1)) ((G.l :: L').getD (1 + j) []).length = V.rf (cs j) (L'.getD j []).length; rw [if_neg (by omega), Nat.add_comm]; rfl), ?_⟩
   intro b_r hs_r hh_r hf_r
   try dsimp only at hh_r hf_r
   conv => whnf
   refine Wany.one (cxt_ok [] []) 8 (by rfl) (by kernel_rfl) (by rfl) (by rfl) ?_
   conv => whnf
   refine Wany.done (by kernel_rfl) (hK1 _ ?_)
   clear hK1 K1
   refine W.ret ?_
   conv => whnf
   refine ⟨by dsimp only; omega, ?_⟩
   conv => whnf
   refine ⟨rfl, ?_⟩
   conv => whnf
   refine ⟨.vals none 1 (G.l :: L').length fun j => .rf (if j = 0 then b0 else cs (j - 1)) ((G.l :: L').getD j []).length, ⟨.inl rfl, rfl, by simp only [List.length_cons]; omega, fun _ _ => rfl⟩, ?_⟩
   conv => whnf
   exact ⟨.v (.ints g f.l), leV_refl (.ints g f.l), .inr ⟨rfl, rfl⟩, .tab tb3, fun _ _ h => h, rfl, rfl, rfl, APost.cons (by omega) ho_z hold hor0 ht0 (fun j hj => by rw [htb j hj]; exact Option.some_ne_none _) hds c1 c2 (fun j hj => by rw [hFl2]; exact c3 j hj) c4⟩
  ·refine Wany.two (cxt_ok [] []) 1 6 (by rfl) (by kernel_rfl) (by rfl) (by rfl) (by rfl) (by rfl) ?_ ?_ <;> conv => whnf
   ·refine ⟨⟨rfl, by decide, fun x hx => by simp at hx; subst hx; exact ⟨rfl, rfl⟩⟩, ?_⟩
    conv => whnf
    intro b_g hs_g hh_g hf_g
    try dsimp only at hh_g hf_g
    conv => whnf
    refine Wany.one (cxt_ok [] []) 6 (by rfl) (by kernel_rfl) (by rfl) (by rfl) ?_
    conv => whnf
    refine ⟨⟨rfl, rfl⟩, ?_⟩
    conv => whnf
    refine ⟨rfl, _, ih H b L' hHf hHF hLr b1 (fun j => bs (1 + j)) _ _ tb2 (by omega) (fun j => by rw [← e1]; rfl) ht1 (fun j hj => by rw [← e1]; exact hold _ _ (ho_z _ _ (htb (1 + j) (by omega)))) (fun i j hi hj hij => hds _ _ (by omega) (by omega) (by omega)), ?_⟩
    rintro hs6 av x' t' hh6 ⟨rfl, cs, tb3, rfl, rfl, c1, c2, c3, c4⟩ _ _ _
    try dsimp only at hh6
    conv => whnf
    refine Wany.one (cxt_ok [] []) 7 (by rfl) (by kernel_rfl) (by rfl) (by rfl) ?_
    conv => whnf
    refine ⟨by omega, ?_⟩
    conv => whnf
    refine ⟨fun j => .rf (if j = 0 then b0 else cs (j - 1)) ((G.l :: L').getD j []).length, fun j hj => (by obtain rfl : j = 0 := (by omega); rfl), fun j hj => (by show V.rf (if 1 + j = 0 then b0 else cs (1 + j - 1)) ((G.l :: L').getD (1 + j) []).length = V.rf (cs j) (L'.getD j []).length; rw [if_neg (by omega), Nat.add_comm]; rfl), ?_⟩
    intro b_r hs_r hh_r hf_r
    try dsimp only at hh_r hf_r
    conv => whnf
    refine Wany.one (cxt_ok [] []) 8 (by rfl) (by kernel_rfl) (by rfl) (by rfl) ?_
    conv => whnf
    refine Wany.done (by kernel_rfl) (hK1 _ ?_)
    clear hK1 K1
    refine W.ret ?_
    conv => whnf
    refine ⟨by dsimp only; omega, ?_⟩
    conv => whnf
    refine ⟨rfl, ?_⟩
    conv => whnf
    refine ⟨.vals none 1 (G.l :: L').length fun j => .rf (if j = 0 then b0 else cs (j - 1)) ((G.l :: L').getD j []).length, ⟨.inl rfl, rfl, by simp only [List.length_cons]; omega, fun _ _ => rfl⟩, ?_⟩
    conv => whnf
    exact ⟨.v (.ints g f.l), leV_refl (.ints g f.l), .inr ⟨rfl, rfl⟩, .tab tb3, fun _ _ h => h, rfl, rfl, rfl, APost.cons (by omega) ho_z hold hor0 ht0 (fun j hj => by rw [htb j hj]; exact Option.some_ne_none _) hds c1 c2 (fun j hj => by rw [hFl2]; exact c3 j hj) c4⟩
   ·refine ⟨⟨rfl, rfl⟩, ?_⟩
    conv => whnf
    refine ⟨rfl, _, ih H b L' hHf hHF hLr b1 (fun j => bs (1 + j)) _ _ tb2 (by omega) (fun j => by rw [← e1]; rfl) ht1 (fun j hj => by rw [← e1]; exact hold _ _ (ho_z _ _ (htb (1 + j) (by omega)))) (fun i j hi hj hij => hds _ _ (by omega) (by omega) (by omega)), ?_⟩
    rintro hs6 av x' t' hh6 ⟨rfl, cs, tb3, rfl, rfl, c1, c2, c3, c4⟩ _ _ _
    try dsimp only at hh6
    conv => whnf
    refine Wany.one (cxt_ok [] []) 1 (by rfl) (by kernel_rfl) (by rfl) (by rfl) ?_
    conv => whnf
    refine ⟨⟨rfl, by decide, fun x hx => by simp at hx; subst hx; exact ⟨rfl, rfl⟩⟩, ?_⟩
    conv => whnf
    intro b_g hs_g hh_g hf_g
    try dsimp only at hh_g hf_g
    conv => whnf
    refine Wany.one (cxt_ok [] []) 7 (by rfl) (by kernel_rfl) (by rfl) (by rfl) ?_
    conv => whnf
    refine ⟨by omega, ?_⟩
    conv => whnf
    refine ⟨fun j => .rf (if j = 0 then b0 else cs (j - 1)) ((G.l :: L').getD j []).length, fun j hj => (by obtain rfl : j = 0 := (by omega); rfl), fun j hj => (by show V.rf (if 1 + j = 0 then b0 else cs (1 + j - 1)) ((G.l :: L').getD (1 + j) []).length = V.rf (cs j) (L'.getD j []).length; rw [if_neg (by omega), Nat.add_comm]; rfl), ?_⟩
    intro b_r hs_r hh_r hf_r
    try dsimp only at hh_r hf_r
    conv => whnf
    refine Wany.one (cxt_ok [] []) 8 (by rfl) (by kernel_rfl) (by rfl) (by rfl) ?_
    conv => whnf
    refine Wany.done (by kernel_rfl) (hK1 _ ?_)
    clear hK1 K1
    refine W.ret ?_
    conv => whnf
    refine ⟨by dsimp only; omega, ?_⟩
    conv => whnf
    refine ⟨rfl, ?_⟩
    conv => whnf
    refine ⟨.vals none 1 (G.l :: L').length fun j => .rf (if j = 0 then b0 else cs (j - 1)) ((G.l :: L').getD j []).length, ⟨.inl rfl, rfl, by simp only [List.length_cons]; omega, fun _ _ => rfl⟩, ?_⟩
    conv => whnf
    exact ⟨.v (.ints g f.l), leV_refl (.ints g f.l), .inr ⟨rfl, rfl⟩, .tab tb3, fun _ _ h => h, rfl, rfl, rfl, APost.cons (by omega) ho_z hold hor0 ht0 (fun j hj => by rw [htb j hj]; exact Option.some_ne_none _) hds c1 c2 (fun j hj => by rw [hFl2]; exact c3 j hj) c4⟩
-- 3 ways

/- the function, with and without an error -/
theorem liftAllI_c (p k : Int) (g : Option Nat) (l : List Int) (c : Int) (hc : c ≠ 0) (h : FnV 24 [vR p k, .ints g l] (.int .i64 c)) : FnT Tryz.prog 13 [vR p k, .ints g l] (RTS [] c) := by
 refine fnt_of (cxt_ok [] [0, 1, 2, 4, 5, 6, 11, 1000000]) Tryz.func13 rfl (by decide) Tryz.ntmps13 (Nat.le_of_ble_eq_true rfl) (fun base => ?_) (Nat.le_of_ble_eq_true rfl)
 refine W.sw (c' := cx [0, 1, 2, 4, 5, 6, 11, 1000000]) ?_
 refine W.rs (cx_ok _) (by rfl) fun K hK => ?_
 conv => whnf
 refine ⟨rfl, ?_⟩
 conv => whnf
 intro b_2 hs_2 hh_2 hf_2
 try dsimp only at hh_2 hf_2
 conv => whnf
 refine hK _ ?_
 clear hK K
 refine W.seqK fun K1 hK1 => ?_
 refine W.rs (cx_ok _) (by rfl) fun K hK => ?_
 conv => whnf
 refine callV rfl (h) fun hs' hhs => ?_
 try dsimp only at hhs
 conv => whnf
 refine hK _ ?_
 clear hK K
 refine W.rs (cx_ok _) (by rfl) fun K hK => ?_
 conv => whnf
 refine hK _ (W.cond ⟨fun _ => ?_, fun hcc => absurd hc (of_decide_eq_false hcc)⟩)
 clear hK K
 refine W.rs (cx_ok _) (by rfl) fun K hK => ?_
 conv => whnf
 refine hK _ ?_
 clear hK K
 refine W.ret ?_
 conv => whnf
 exact ⟨.v (vRF [] fun _ => 0), rfl, ⟨trivial, fun _ _ => trivial⟩, .v (.int .i64 c), ⟨rfl, rfl⟩, trivial, fun _ => 0, rfl, fun j hj => absurd hj (Nat.not_lt_zero j), fun i j hi => absurd hi (Nat.not_lt_zero i)⟩

theorem liftAllI_0 {f : Poly M} {n : Nat} (h : LfP p k M f n) (g : Option Nat) {F : List (Poly p × Nat)} (hF : FacOf (im p f) F) {L : List (List Int)} (hL : LA p k F f L) : FnT Tryz.prog 13 [vR p k, .ints g f.l] (RTS L 0) := by
 obtain ⟨s1, s2, s3, s4, s5, s6⟩ := h.rn.1.small
 obtain ⟨i1, i2, hf0, eF, i5⟩ := h.img
 have hm := h.hm
 have m9 : M ≤ 1000000000 := by omega
 have n8 := h.n8
 have n1 := h.n1
 have hfl : f.l.length = dg f := rfl
 have hl : f.l.length ≤ 1000000000 := by omega
 refine fnt_of (cxt_ok [] [0, 1, 2, 4, 5, 6, 11, 1000000]) Tryz.func13 rfl (by decide) Tryz.ntmps13 (Nat.le_of_ble_eq_true rfl) (fun base => ?_) (Nat.le_of_ble_eq_true rfl)
 refine W.sw (c' := cx [0, 1, 2, 4, 5, 6, 11, 1000000]) ?_
 refine W.rs (cx_ok _) (by rfl) fun K hK => ?_
 conv => whnf
 refine ⟨rfl, ?_⟩
 conv => whnf
 intro b_2 hs_2 hh_2 hf_2
 try dsimp only at hh_2 hf_2
 conv => whnf
 refine hK _ ?_
 clear hK K
 refine W.seqK fun K1 hK1 => ?_
 refine W.rs (cx_ok _) (by rfl) fun K hK => ?_
 conv => whnf
 refine callV rfl (lifting_0 p k g f.l hl h.rn h.mon (by omega)) fun hs' hhs => ?_
 try dsimp only at hhs
 conv => whnf
 refine hK _ ?_
 clear hK K
 refine W.rs (cx_ok _) (by rfl) fun K hK => ?_
 conv => whnf
 refine hK _ (W.cond ⟨fun hcc => absurd rfl (of_decide_eq_true hcc), fun _ => W.skip (hK1 _ ?_)⟩)
 clear hK K hK1 K1
 refine W.sw (c' := cxt [25] [0, 1, 2, 4, 5, 6, 11, 1000000]) ?_
 refine W.seqK fun K1 hK1 => W.sch follows ?_
 refine Wany.take (cxt_ok [25] []) 1 (by rfl) (by rfl) (fun d hd => by injection hd with hd; subst hd; decide) (by kernel_rfl) (by kernel_rfl) (by kernel_rfl) (by rfl) ?_
 conv => whnf
 refine Wany.takeF (cxt_ok [25] []) 2 (by rfl) (by rfl) (by rfl) (by rfl) (by decide) (by kernel_rfl) (by kernel_rfl) (by kernel_rfl) ?_
 conv => whnf
 refine Wany.takeF (cxt_ok [25] []) 4 (by rfl) (by rfl) (by rfl) (by rfl) (by decide) (by kernel_rfl) (by kernel_rfl) (by kernel_rfl) ?_
 conv => whnf
 refine Wany.take (cxt_ok [25] []) 6 (by rfl) (by rfl) (fun d hd => by injection hd with hd; subst hd; decide) (by kernel_rfl) (by kernel_rfl) (by kernel_rfl) (by rfl) ?_
 conv => whnf
 refine Wany.all (cxt_ok [25] []) (by rfl) (rs := [0, 3, 5]) (by kernel_rfl) (by decide) ?_
 intro i hi
 simp only [List.mem_cons, List.not_mem_nil, or_false] at hi
 rcases hi with rfl | rfl | rfl <;> refine ⟨_, by rfl, by rfl, ?_⟩ <;> conv => whnf
 ·refine Wany.two (cxt_ok [25] []) 3 5 (by rfl) (by kernel_rfl) (by rfl) (by rfl) (by rfl) (by rfl) ?_ ?_ <;> conv => whnf
  ·refine Wany.one (cxt_ok [25] []) 5 (by rfl) (by kernel_rfl) (by rfl) (by rfl) ?_
   conv => whnf
   refine Wany.one (cxt_ok [25] []) 7 (by rfl) (by kernel_rfl) (by rfl) (by rfl) ?_
   conv => whnf
   refine callV rfl ((reduce_fn p (by omega) (by omega) g f.l ((r_bd m9 f).le (by omega)) (by omega)).toV) fun hs' hhs => ?_
   try dsimp only at hhs
   conv => whnf
   rw [eF]
   refine Wany.one (cxt_ok [25] []) 8 (by rfl) (by kernel_rfl) (by rfl) (by rfl) ?_
   conv => whnf
   refine ⟨_, cxT (partsOf_T none (im p f) F hF hf0 (by omega)), fun lo_y hi_y hs_y x_y tn_y tb_y hl1_y hl2_y _ hp_y hf_y hn_y ho_y => ?_⟩
   try dsimp only at hl1_y hl2_y
   obtain ⟨bs, rfl, hbs1, hbs2⟩ := hp_y
   conv => whnf
   refine Wany.one (cxt_ok [25] []) 9 (by rfl) (by kernel_rfl) (by rfl) (by rfl) ?_
   conv => whnf
   refine ⟨⟨rfl, rfl⟩, ?_⟩
   conv => whnf
   refine ⟨rfl, _, liftAll_I h.rn.1 hm F f n L h hF hL g bs _ _ tb_y rfl (fun _ => rfl) (fun j hj => hn_y _ _ (hbs1 j hj)) hbs2, ?_⟩
   rintro hs5 av x' t' hh5 ⟨rfl, cs, tb', rfl, rfl, c1, c2, c3, c4⟩ _ _ _
   try dsimp only at hh5
   conv => whnf
   refine Wany.one (cxt_ok [25] []) 10 (by rfl) (by kernel_rfl) (by rfl) (by rfl) ?_
   conv => whnf
   refine Wany.one (cxt_ok [25] []) 11 (by rfl) (by kernel_rfl) (by rfl) (by rfl) ?_
   conv => whnf
   refine Wany.done (by kernel_rfl) (hK1 _ ?_)
   clear hK1 K1
   refine W.ret ?_
   conv => whnf
   exact ⟨.v (vRF L cs), ⟨rfl, rfl, rfl, fun _ _ => rfl⟩, ⟨trivial, fun _ _ => trivial⟩, .v (.int .i64 0), ⟨rfl, rfl⟩, trivial, cs, rfl, fun j hj _ => c1 j hj, fun i j hi hj hij _ _ => c2 i j hi hj hij⟩
  ·refine Wany.two (cxt_ok [25] []) 3 7 (by rfl) (by kernel_rfl) (by rfl) (by rfl) (by rfl) (by rfl) ?_ ?_ <;> conv => whnf
   ·refine Wany.one (cxt_ok [25] []) 7 (by rfl) (by kernel_rfl) (by rfl) (by rfl) ?_
    conv => whnf
    refine callV rfl ((reduce_fn p (by omega) (by omega) g f.l ((r_bd m9 f).le (by omega)) (by omega)).toV) fun hs' hhs => ?_
    try dsimp only at hhs
    conv => whnf
    rw [eF]
    refine Wany.one (cxt_ok [25] []) 8 (by rfl) (by kernel_rfl) (by rfl) (by rfl) ?_
    conv => whnf
    refine ⟨_, cxT (partsOf_T none (im p f) F hF hf0 (by omega)), fun lo_y hi_y hs_y x_y tn_y tb_y hl1_y hl2_y _ hp_y hf_y hn_y ho_y => ?_⟩
    try dsimp only at hl1_y hl2_y
    obtain ⟨bs, rfl, hbs1, hbs2⟩ := hp_y
    conv => whnf
    refine Wany.one (cxt_ok [25] []) 9 (by rfl) (by kernel_rfl) (by rfl) (by rfl) ?_
    conv => whnf
    refine ⟨⟨rfl, rfl⟩, ?_⟩
    conv => whnf
    refine ⟨rfl, _, liftAll_I h.rn.1 hm F f n L h hF hL g bs _ _ tb_y rfl (fun _ => rfl) (fun j hj => hn_y _ _ (hbs1 j hj)) hbs2, ?_⟩
    rintro hs5 av x' t' hh5 ⟨rfl, cs, tb', rfl, rfl, c1, c2, c3, c4⟩ _ _ _
    try dsimp only at hh5
    conv => whnf
    refine Wany.one (cxt_ok [25] []) 10 (by rfl) (by kernel_rfl) (by rfl) (by rfl) ?_
    conv => whnf
    refine Wany.one (cxt_ok [25] []) 11 (by rfl) (by kernel_rfl) (by rfl) (by rfl) ?_
    conv => whnf
    refine Wany.done (by kernel_rfl) (hK1 _ ?_)
    clear hK1 K1
    refine W.ret ?_
    conv => whnf
    exact ⟨.v (vRF L cs), ⟨rfl, rfl, rfl, fun _ _ => rfl⟩, ⟨trivial, fun _ _ => trivial⟩, .v (.int .i64 0), ⟨rfl, rfl⟩, trivial, cs, rfl, fun j hj _ => c1 j hj, fun i j hi hj hij _ _ => c2 i j hi hj hij⟩
   ·refine callV rfl ((reduce_fn p (by omega) (by omega) g f.l ((r_bd m9 f).le (by omega)) (by omega)).toV) fun hs' hhs => ?_
    try dsimp only at hhs
    conv => whnf
    rw [eF]
    refine Wany.one (cxt_ok [25] []) 3 (by rfl) (by kernel_rfl) (by rfl) (by rfl) ?_
    conv => whnf
    refine Wany.one (cxt_ok [25] []) 8 (by rfl) (by kernel_rfl) (by rfl) (by rfl) ?_
    conv => whnf
    refine ⟨_, cxT (partsOf_T none (im p f) F hF hf0 (by omega)), fun lo_y hi_y hs_y x_y tn_y tb_y hl1_y hl2_y _ hp_y hf_y hn_y ho_y => ?_⟩
    try dsimp only at hl1_y hl2_y
    obtain ⟨bs, rfl, hbs1, hbs2⟩ := hp_y
    conv => whnf
    refine Wany.one (cxt_ok [25] []) 9 (by rfl) (by kernel_rfl) (by rfl) (by rfl) ?_
    conv => whnf
    refine ⟨⟨rfl, rfl⟩, ?_⟩
    conv => whnf
    refine ⟨rfl, _, liftAll_I h.rn.1 hm F f n L h hF hL g bs _ _ tb_y rfl (fun _ => rfl) (fun j hj => hn_y _ _ (hbs1 j hj)) hbs2, ?_⟩
    rintro hs5 av x' t' hh5 ⟨rfl, cs, tb', rfl, rfl, c1, c2, c3, c4⟩ _ _ _
    try dsimp only at hh5
    conv => whnf
    refine Wany.one (cxt_ok [25] []) 10 (by rfl) (by kernel_rfl) (by rfl) (by rfl) ?_
    conv => whnf
    refine Wany.one (cxt_ok [25] []) 11 (by rfl) (by kernel_rfl) (by rfl) (by rfl) ?_
    conv => whnf
    refine Wany.done (by kernel_rfl) (hK1 _ ?_)
    clear hK1 K1
    refine W.ret ?_
    conv => whnf
    exact ⟨.v (vRF L cs), ⟨rfl, rfl, rfl, fun _ _ => rfl⟩, ⟨trivial, fun _ _ => trivial⟩, .v (.int .i64 0), ⟨rfl, rfl⟩, trivial, cs, rfl, fun j hj _ => c1 j hj, fun i j hi hj hij _ _ => c2 i j hi hj hij⟩
 ·refine Wany.two (cxt_ok [25] []) 0 5 (by rfl) (by kernel_rfl) (by rfl) (by rfl) (by rfl) (by rfl) ?_ ?_ <;> conv => whnf
  ·refine Wany.one (cxt_ok [25] []) 5 (by rfl) (by kernel_rfl) (by rfl) (by rfl) ?_
   conv => whnf
   refine Wany.one (cxt_ok [25] []) 7 (by rfl) (by kernel_rfl) (by rfl) (by rfl) ?_
   conv => whnf
   refine callV rfl ((reduce_fn p (by omega) (by omega) g f.l ((r_bd m9 f).le (by omega)) (by omega)).toV) fun hs' hhs => ?_
   try dsimp only at hhs
   conv => whnf
   rw [eF]
   refine Wany.one (cxt_ok [25] []) 8 (by rfl) (by kernel_rfl) (by rfl) (by rfl) ?_
   conv => whnf
   refine ⟨_, cxT (partsOf_T none (im p f) F hF hf0 (by omega)), fun lo_y hi_y hs_y x_y tn_y tb_y hl1_y hl2_y _ hp_y hf_y hn_y ho_y => ?_⟩
   try dsimp only at hl1_y hl2_y
   obtain ⟨bs, rfl, hbs1, hbs2⟩ := hp_y
   conv => whnf
   refine Wany.one (cxt_ok [25] []) 9 (by rfl) (by kernel_rfl) (by rfl) (by rfl) ?_
   conv => whnf
   refine ⟨⟨rfl, rfl⟩, ?_⟩
   conv => whnf
   refine ⟨rfl, _, liftAll_I h.rn.1 hm F f n L h hF hL g bs _ _ tb_y rfl (fun _ => rfl) (fun j hj => hn_y _ _ (hbs1 j hj)) hbs2, ?_⟩
   rintro hs5 av x' t' hh5 ⟨rfl, cs, tb', rfl, rfl, c1, c2, c3, c4⟩ _ _ _
   try dsimp only at hh5
   conv => whnf
   refine Wany.one (cxt_ok [25] []) 10 (by rfl) (by kernel_rfl) (by rfl) (by rfl) ?_
   conv => whnf
   refine Wany.one (cxt_ok [25] []) 11 (by rfl) (by kernel_rfl) (by rfl) (by rfl) ?_
   conv => whnf
   refine Wany.done (by kernel_rfl) (hK1 _ ?_)
   clear hK1 K1
   refine W.ret ?_
   conv => whnf
   exact ⟨.v (vRF L cs), ⟨rfl, rfl, rfl, fun _ _ => rfl⟩, ⟨trivial, fun _ _ => trivial⟩, .v (.int .i64 0), ⟨rfl, rfl⟩, trivial, cs, rfl, fun j hj _ => c1 j hj, fun i j hi hj hij _ _ => c2 i j hi hj hij⟩
  ·refine Wany.two (cxt_ok [25] []) 0 7 (by rfl) (by kernel_rfl) (by rfl) (by rfl) (by rfl) (by rfl) ?_ ?_ <;> conv => whnf
   ·refine Wany.one (cxt_ok [25] []) 7 (by rfl) (by kernel_rfl) (by rfl) (by rfl) ?_
    conv => whnf
    refine callV rfl ((reduce_fn p (by omega) (by omega) g f.l ((r_bd m9 f).le (by omega)) (by omega)).toV) fun hs' hhs => ?_
    try dsimp only at hhs
    conv => whnf
    rw [eF]
    refine Wany.one (cxt_ok [25] []) 8 (by rfl) (by kernel_rfl) (by rfl) (by rfl) ?_
    conv => whnf
    refine ⟨_, cxT (partsOf_T none (im p f) F hF hf0 (by omega)), fun lo_y hi_y hs_y x_y tn_y tb_y hl1_y hl2_y _ hp_y hf_y hn_y ho_y => ?_⟩
    try dsimp only at hl1_y hl2_y
    obtain ⟨bs, rfl, hbs1, hbs2⟩ := hp_y
    conv => whnf
    refine Wany.one (cxt_ok [25] []) 9 (by rfl) (by kernel_rfl) (by rfl) (by rfl) ?_
    conv => whnf
    refine ⟨⟨rfl, rfl⟩, ?_⟩
    conv => whnf
    refine ⟨rfl, _, liftAll_I h.rn.1 hm F f n L h hF hL g bs _ _ tb_y rfl (fun _ => rfl) (fun j hj => hn_y _ _ (hbs1 j hj)) hbs2, ?_⟩
    rintro hs5 av x' t' hh5 ⟨rfl, cs, tb', rfl, rfl, c1, c2, c3, c4⟩ _ _ _
    try dsimp only at hh5
    conv => whnf
    refine Wany.one (cxt_ok [25] []) 10 (by rfl) (by kernel_rfl) (by rfl) (by rfl) ?_
    conv => whnf
    refine Wany.one (cxt_ok [25] []) 11 (by rfl) (by kernel_rfl) (by rfl) (by rfl) ?_
    conv => whnf
    refine Wany.done (by kernel_rfl) (hK1 _ ?_)
    clear hK1 K1
    refine W.ret ?_
    conv => whnf
    exact ⟨.v (vRF L cs), ⟨rfl, rfl, rfl, fun _ _ => rfl⟩, ⟨trivial, fun _ _ => trivial⟩, .v (.int .i64 0), ⟨rfl, rfl⟩, trivial, cs, rfl, fun j hj _ => c1 j hj, fun i j hi hj hij _ _ => c2 i j hi hj hij⟩
   ·refine callV rfl ((reduce_fn p (by omega) (by omega) g f.l ((r_bd m9 f).le (by omega)) (by omega)).toV) fun hs' hhs => ?_
    try dsimp only at hhs
    conv => whnf
    rw [eF]
    refine Wany.two (cxt_ok [25] []) 0 8 (by rfl) (by kernel_rfl) (by rfl) (by rfl) (by rfl) (by rfl) ?_ ?_ <;> conv => whnf
    ·refine Wany.one (cxt_ok [25] []) 8 (by rfl) (by kernel_rfl) (by rfl) (by rfl) ?_
     conv => whnf
     refine ⟨_, cxT (partsOf_T none (im p f) F hF hf0 (by omega)), fun lo_y hi_y hs_y x_y tn_y tb_y hl1_y hl2_y _ hp_y hf_y hn_y ho_y => ?_⟩
     try dsimp only at hl1_y hl2_y
     obtain ⟨bs, rfl, hbs1, hbs2⟩ := hp_y
     conv => whnf
     refine Wany.one (cxt_ok [25] []) 9 (by rfl) (by kernel_rfl) (by rfl) (by rfl) ?_
     conv => whnf
     refine ⟨⟨rfl, rfl⟩, ?_⟩
     conv => whnf
     refine ⟨rfl, _, liftAll_I h.rn.1 hm F f n L h hF hL g bs _ _ tb_y rfl (fun _ => rfl) (fun j hj => hn_y _ _ (hbs1 j hj)) hbs2, ?_⟩
     rintro hs5 av x' t' hh5 ⟨rfl, cs, tb', rfl, rfl, c1, c2, c3, c4⟩ _ _ _
     try dsimp only at hh5
     conv => whnf
     refine Wany.one (cxt_ok [25] []) 10 (by rfl) (by kernel_rfl) (by rfl) (by rfl) ?_
     conv => whnf
     refine Wany.one (cxt_ok [25] []) 11 (by rfl) (by kernel_rfl) (by rfl) (by rfl) ?_
     conv => whnf
     refine Wany.done (by kernel_rfl) (hK1 _ ?_)
     clear hK1 K1
     refine W.ret ?_
     conv => whnf
     exact ⟨.v (vRF L cs), ⟨rfl, rfl, rfl, fun _ _ => rfl⟩, ⟨trivial, fun _ _ => trivial⟩, .v (.int .i64 0), ⟨rfl, rfl⟩, trivial, cs, rfl, fun j hj _ => c1 j hj, fun i j hi hj hij _ _ => c2 i j hi hj hij⟩
    ·refine ⟨_, cxT (partsOf_T none (im p f) F hF hf0 (by omega)), fun lo_y hi_y hs_y x_y tn_y tb_y hl1_y hl2_y _ hp_y hf_y hn_y ho_y => ?_⟩
     try dsimp only at hl1_y hl2_y
     obtain ⟨bs, rfl, hbs1, hbs2⟩ := hp_y
     conv => whnf
     refine Wany.one (cxt_ok [25] []) 0 (by rfl) (by kernel_rfl) (by rfl) (by rfl) ?_
     conv => whnf
     refine Wany.one (cxt_ok [25] []) 9 (by rfl) (by kernel_rfl) (by rfl) (by rfl) ?_
     conv => whnf
     refine ⟨⟨rfl, rfl⟩, ?_⟩
     conv => whnf
     refine ⟨rfl, _, liftAll_I h.rn.1 hm F f n L h hF hL g bs _ _ tb_y rfl (fun _ => rfl) (fun j hj => hn_y _ _ (hbs1 j hj)) hbs2, ?_⟩
     rintro hs5 av x' t' hh5 ⟨rfl, cs, tb', rfl, rfl, c1, c2, c3, c4⟩ _ _ _
     try dsimp only at hh5
     conv => whnf
     refine Wany.one (cxt_ok [25] []) 10 (by rfl) (by kernel_rfl) (by rfl) (by rfl) ?_
     conv => whnf
     refine Wany.one (cxt_ok [25] []) 11 (by rfl) (by kernel_rfl) (by rfl) (by rfl) ?_
     conv => whnf
     refine Wany.done (by kernel_rfl) (hK1 _ ?_)
     clear hK1 K1
     refine W.ret ?_
     conv => whnf
     exact ⟨.v (vRF L cs), ⟨rfl, rfl, rfl, fun _ _ => rfl⟩, ⟨trivial, fun _ _ => trivial⟩, .v (.int .i64 0), ⟨rfl, rfl⟩, trivial, cs, rfl, fun j hj _ => c1 j hj, fun i j hi hj hij _ _ => c2 i j hi hj hij⟩
 ·refine Wany.all (cxt_ok [25] []) (by rfl) (rs := [0, 3, 7]) (by kernel_rfl) (by decide) ?_
  intro i hi
  simp only [List.mem_cons, List.not_mem_nil, or_false] at hi
  rcases hi with rfl | rfl | rfl <;> refine ⟨_, by rfl, by rfl, ?_⟩ <;> conv => whnf
  ·refine Wany.two (cxt_ok [25] []) 3 7 (by rfl) (by kernel_rfl) (by rfl) (by rfl) (by rfl) (by rfl) ?_ ?_ <;> conv => whnf
   ·refine Wany.one (cxt_ok [25] []) 7 (by rfl) (by kernel_rfl) (by rfl) (by rfl) ?_
    conv => whnf
    refine callV rfl ((reduce_fn p (by omega) (by omega) g f.l ((r_bd m9 f).le (by omega)) (by omega)).toV) fun hs' hhs => ?_
    try dsimp only at hhs
    conv => whnf
    rw [eF]
    refine Wany.one (cxt_ok [25] []) 8 (by rfl) (by kernel_rfl) (by rfl) (by rfl) ?_
    conv => whnf
    refine ⟨_, cxT (partsOf_T none (im p f) F hF hf0 (by omega)), fun lo_y hi_y hs_y x_y tn_y tb_y hl1_y hl2_y _ hp_y hf_y hn_y ho_y => ?_⟩
    try dsimp only at hl1_y hl2_y
    obtain ⟨bs, rfl, hbs1, hbs2⟩ := hp_y
    conv => whnf
    refine Wany.one (cxt_ok [25] []) 9 (by rfl) (by kernel_rfl) (by rfl) (by rfl) ?_
    conv => whnf
    refine ⟨⟨rfl, rfl⟩, ?_⟩
    conv => whnf
    refine ⟨rfl, _, liftAll_I h.rn.1 hm F f n L h hF hL g bs _ _ tb_y rfl (fun _ => rfl) (fun j hj => hn_y _ _ (hbs1 j hj)) hbs2, ?_⟩
    rintro hs5 av x' t' hh5 ⟨rfl, cs, tb', rfl, rfl, c1, c2, c3, c4⟩ _ _ _
    try dsimp only at hh5
    conv => whnf
    refine Wany.one (cxt_ok [25] []) 10 (by rfl) (by kernel_rfl) (by rfl) (by rfl) ?_
    conv => whnf
    refine Wany.one (cxt_ok [25] []) 11 (by rfl) (by kernel_rfl) (by rfl) (by rfl) ?_
    conv => whnf
    refine Wany.done (by kernel_rfl) (hK1 _ ?_)
    clear hK1 K1
    refine W.ret ?_
    conv => whnf
    exact ⟨.v (vRF L cs), ⟨rfl, rfl, rfl, fun _ _ => rfl⟩, ⟨trivial, fun _ _ => trivial⟩, .v (.int .i64 0), ⟨rfl, rfl⟩, trivial, cs, rfl, fun j hj _ => c1 j hj, fun i j hi hj hij _ _ => c2 i j hi hj hij⟩
   ·refine callV rfl ((reduce_fn p (by omega) (by omega) g f.l ((r_bd m9 f).le (by omega)) (by omega)).toV) fun hs' hhs => ?_
    try dsimp only at hhs
    conv => whnf
    rw [eF]
    refine Wany.one (cxt_ok [25] []) 3 (by rfl) (by kernel_rfl) (by rfl) (by rfl) ?_
    conv => whnf
    refine Wany.one (cxt_ok [25] []) 8 (by rfl) (by kernel_rfl) (by rfl) (by rfl) ?_
    conv => whnf
    refine ⟨_, cxT (partsOf_T none (im p f) F hF hf0 (by omega)), fun lo_y hi_y hs_y x_y tn_y tb_y hl1_y hl2_y _ hp_y hf_y hn_y ho_y => ?_⟩
    try dsimp only at hl1_y hl2_y
    obtain ⟨bs, rfl, hbs1, hbs2⟩ := hp_y
    conv => whnf
    refine Wany.one (cxt_ok [25] []) 9 (by rfl) (by kernel_rfl) (by rfl) (by rfl) ?_
    conv => whnf
    refine ⟨⟨rfl, rfl⟩, ?_⟩
    conv => whnf
    refine ⟨rfl, _, liftAll_I h.rn.1 hm F f n L h hF hL g bs _ _ tb_y rfl (fun _ => rfl) (fun j hj => hn_y _ _ (hbs1 j hj)) hbs2, ?_⟩
    rintro hs5 av x' t' hh5 ⟨rfl, cs, tb', rfl, rfl, c1, c2, c3, c4⟩ _ _ _
    try dsimp only at hh5
    conv => whnf
    refine Wany.one (cxt_ok [25] []) 10 (by rfl) (by kernel_rfl) (by rfl) (by rfl) ?_
    conv => whnf
    refine Wany.one (cxt_ok [25] []) 11 (by rfl) (by kernel_rfl) (by rfl) (by rfl) ?_
    conv => whnf
    refine Wany.done (by kernel_rfl) (hK1 _ ?_)
    clear hK1 K1
    refine W.ret ?_
    conv => whnf
    exact ⟨.v (vRF L cs), ⟨rfl, rfl, rfl, fun _ _ => rfl⟩, ⟨trivial, fun _ _ => trivial⟩, .v (.int .i64 0), ⟨rfl, rfl⟩, trivial, cs, rfl, fun j hj _ => c1 j hj, fun i j hi hj hij _ _ => c2 i j hi hj hij⟩
  ·refine Wany.two (cxt_ok [25] []) 0 7 (by rfl) (by kernel_rfl) (by rfl) (by rfl) (by rfl) (by rfl) ?_ ?_ <;> conv => whnf
   ·refine Wany.one (cxt_ok [25] []) 7 (by rfl) (by kernel_rfl) (by rfl) (by rfl) ?_
    conv => whnf
    refine callV rfl ((reduce_fn p (by omega) (by omega) g f.l ((r_bd m9 f).le (by omega)) (by omega)).toV) fun hs' hhs => ?_
    try dsimp only at hhs
    conv => whnf
    rw [eF]
    refine Wany.one (cxt_ok [25] []) 8 (by rfl) (by kernel_rfl) (by rfl) (by rfl) ?_
    conv => whnf
    refine ⟨_, cxT (partsOf_T none (im p f) F hF hf0 (by omega)), fun lo_y hi_y hs_y x_y tn_y tb_y hl1_y hl2_y _ hp_y hf_y hn_y ho_y => ?_⟩
    try dsimp only at hl1_y hl2_y
    obtain ⟨bs, rfl, hbs1, hbs2⟩ := hp_y
    conv => whnf
    refine Wany.one (cxt_ok [25] []) 9 (by rfl) (by kernel_rfl) (by rfl) (by rfl) ?_
    conv => whnf
    refine ⟨⟨rfl, rfl⟩, ?_⟩
    conv => whnf
    refine ⟨rfl, _, liftAll_I h.rn.1 hm F f n L h hF hL g bs _ _ tb_y rfl (fun _ => rfl) (fun j hj => hn_y _ _ (hbs1 j hj)) hbs2, ?_⟩
    rintro hs5 av x' t' hh5 ⟨rfl, cs, tb', rfl, rfl, c1, c2, c3, c4⟩ _ _ _
    try dsimp only at hh5
    conv => whnf
    refine Wany.one (cxt_ok [25] []) 10 (by rfl) (by kernel_rfl) (by rfl) (by rfl) ?_
    conv => whnf
    refine Wany.one (cxt_ok [25] []) 11 (by rfl) (by kernel_rfl) (by rfl) (by rfl) ?_
    conv => whnf
    refine Wany.done (by kernel_rfl) (hK1 _ ?_)
    clear hK1 K1
    refine W.ret ?_
    conv => whnf
    exact ⟨.v (vRF L cs), ⟨rfl, rfl, rfl, fun _ _ => rfl⟩, ⟨trivial, fun _ _ => trivial⟩, .v (.int .i64 0), ⟨rfl, rfl⟩, trivial, cs, rfl, fun j hj _ => c1 j hj, fun i j hi hj hij _ _ => c2 i j hi hj hij⟩
   ·refine callV rfl ((reduce_fn p (by omega) (by omega) g f.l ((r_bd m9 f).le (by omega)) (by omega)).toV) fun hs' hhs => ?_
    try dsimp only at hhs
    conv => whnf
    rw [eF]
    refine Wany.two (cxt_ok [25] []) 0 8 (by rfl) (by kernel_rfl) (by rfl) (by rfl) (by rfl) (by rfl) ?_ ?_ <;> conv => whnf
    ·refine Wany.one (cxt_ok [25] []) 8 (by rfl) (by kernel_rfl) (by rfl) (by rfl) ?_
     conv => whnf
     refine ⟨_, cxT (partsOf_T none (im p f) F hF hf0 (by omega)), fun lo_y hi_y hs_y x_y tn_y tb_y hl1_y hl2_y _ hp_y hf_y hn_y ho_y => ?_⟩
     try dsimp only at hl1_y hl2_y
     obtain ⟨bs, rfl, hbs1, hbs2⟩ := hp_y
     conv => whnf
     refine Wany.one (cxt_ok [25] []) 9 (by rfl) (by kernel_rfl) (by rfl) (by rfl) ?_
     conv => whnf
     refine ⟨⟨rfl, rfl⟩, ?_⟩
     conv => whnf
     refine ⟨rfl, _, liftAll_I h.rn.1 hm F f n L h hF hL g bs _ _ tb_y rfl (fun _ => rfl) (fun j hj => hn_y _ _ (hbs1 j hj)) hbs2, ?_⟩
     rintro hs5 av x' t' hh5 ⟨rfl, cs, tb', rfl, rfl, c1, c2, c3, c4⟩ _ _ _
     try dsimp only at hh5
     conv => whnf
     refine Wany.one (cxt_ok [25] []) 10 (by rfl) (by kernel_rfl) (by rfl) (by rfl) ?_
     conv => whnf
     refine Wany.one (cxt_ok [25] []) 11 (by rfl) (by kernel_rfl) (by rfl) (by rfl) ?_
     conv => whnf
     refine Wany.done (by kernel_rfl) (hK1 _ ?_)
     clear hK1 K1
     refine W.ret ?_
     conv => whnf
     exact ⟨.v (vRF L cs), ⟨rfl, rfl, rfl, fun _ _ => rfl⟩, ⟨trivial, fun _ _ => trivial⟩, .v (.int .i64 0), ⟨rfl, rfl⟩, trivial, cs, rfl, fun j hj _ => c1 j hj, fun i j hi hj hij _ _ => c2 i j hi hj hij⟩
    ·refine ⟨_, cxT (partsOf_T none (im p f) F hF hf0 (by omega)), fun lo_y hi_y hs_y x_y tn_y tb_y hl1_y hl2_y _ hp_y hf_y hn_y ho_y => ?_⟩
     try dsimp only at hl1_y hl2_y
     obtain ⟨bs, rfl, hbs1, hbs2⟩ := hp_y
     conv => whnf
     refine Wany.one (cxt_ok [25] []) 0 (by rfl) (by kernel_rfl) (by rfl) (by rfl) ?_
     conv => whnf
     refine Wany.one (cxt_ok [25] []) 9 (by rfl) (by kernel_rfl) (by rfl) (by rfl) ?_
     conv => whnf
     refine ⟨⟨rfl, rfl⟩, ?_⟩
     conv => whnf
     refine ⟨rfl, _, liftAll_I h.rn.1 hm F f n L h hF hL g bs _ _ tb_y rfl (fun _ => rfl) (fun j hj => hn_y _ _ (hbs1 j hj)) hbs2, ?_⟩
     rintro hs5 av x' t' hh5 ⟨rfl, cs, tb', rfl, rfl, c1, c2, c3, c4⟩ _ _ _
     try dsimp only at hh5
     conv => whnf
     refine Wany.one (cxt_ok [25] []) 10 (by rfl) (by kernel_rfl) (by rfl) (by rfl) ?_
     conv => whnf
     refine Wany.one (cxt_ok [25] []) 11 (by rfl) (by kernel_rfl) (by rfl) (by rfl) ?_
     conv => whnf
     refine Wany.done (by kernel_rfl) (hK1 _ ?_)
     clear hK1 K1
     refine W.ret ?_
     conv => whnf
     exact ⟨.v (vRF L cs), ⟨rfl, rfl, rfl, fun _ _ => rfl⟩, ⟨trivial, fun _ _ => trivial⟩, .v (.int .i64 0), ⟨rfl, rfl⟩, trivial, cs, rfl, fun j hj _ => c1 j hj, fun i j hi hj hij _ _ => c2 i j hi hj hij⟩
  ·refine callV rfl ((reduce_fn p (by omega) (by omega) g f.l ((r_bd m9 f).le (by omega)) (by omega)).toV) fun hs' hhs => ?_
   try dsimp only at hhs
   conv => whnf
   rw [eF]
   refine Wany.two (cxt_ok [25] []) 0 3 (by rfl) (by kernel_rfl) (by rfl) (by rfl) (by rfl) (by rfl) ?_ ?_ <;> conv => whnf
   ·refine Wany.one (cxt_ok [25] []) 3 (by rfl) (by kernel_rfl) (by rfl) (by rfl) ?_
    conv => whnf
    refine Wany.one (cxt_ok [25] []) 8 (by rfl) (by kernel_rfl) (by rfl) (by rfl) ?_
    conv => whnf
    refine ⟨_, cxT (partsOf_T none (im p f) F hF hf0 (by omega)), fun lo_y hi_y hs_y x_y tn_y tb_y hl1_y hl2_y _ hp_y hf_y hn_y ho_y => ?_⟩
    try dsimp only at hl1_y hl2_y
    obtain ⟨bs, rfl, hbs1, hbs2⟩ := hp_y
    conv => whnf
    refine Wany.one (cxt_ok [25] []) 9 (by rfl) (by kernel_rfl) (by rfl) (by rfl) ?_
    conv => whnf
    refine ⟨⟨rfl, rfl⟩, ?_⟩
    conv => whnf
    refine ⟨rfl, _, liftAll_I h.rn.1 hm F f n L h hF hL g bs _ _ tb_y rfl (fun _ => rfl) (fun j hj => hn_y _ _ (hbs1 j hj)) hbs2, ?_⟩
    rintro hs5 av x' t' hh5 ⟨rfl, cs, tb', rfl, rfl, c1, c2, c3, c4⟩ _ _ _
    try dsimp only at hh5
    conv => whnf
    refine Wany.one (cxt_ok [25] []) 10 (by rfl) (by kernel_rfl) (by rfl) (by rfl) ?_
    conv => whnf
    refine Wany.one (cxt_ok [25] []) 11 (by rfl) (by kernel_rfl) (by rfl) (by rfl) ?_
    conv => whnf
    refine Wany.done (by kernel_rfl) (hK1 _ ?_)
    clear hK1 K1
    refine W.ret ?_
    conv => whnf
    exact ⟨.v (vRF L cs), ⟨rfl, rfl, rfl, fun _ _ => rfl⟩, ⟨trivial, fun _ _ => trivial⟩, .v (.int .i64 0), ⟨rfl, rfl⟩, trivial, cs, rfl, fun j hj _ => c1 j hj, fun i j hi hj hij _ _ => c2 i j hi hj hij⟩
   ·refine Wany.two (cxt_ok [25] []) 0 8 (by rfl) (by kernel_rfl) (by rfl) (by rfl) (by rfl) (by rfl) ?_ ?_ <;> conv => whnf
    ·refine Wany.one (cxt_ok [25] []) 8 (by rfl) (by kernel_rfl) (by rfl) (by rfl) ?_
     conv => whnf
     refine ⟨_, cxT (partsOf_T none (im p f) F hF hf0 (by omega)), fun lo_y hi_y hs_y x_y tn_y tb_y hl1_y hl2_y _ hp_y hf_y hn_y ho_y => ?_⟩
     try dsimp only at hl1_y hl2_y
     obtain ⟨bs, rfl, hbs1, hbs2⟩ := hp_y
     conv => whnf
     refine Wany.one (cxt_ok [25] []) 9 (by rfl) (by kernel_rfl) (by rfl) (by rfl) ?_
     conv => whnf
     refine ⟨⟨rfl, rfl⟩, ?_⟩
     conv => whnf
     refine ⟨rfl, _, liftAll_I h.rn.1 hm F f n L h hF hL g bs _ _ tb_y rfl (fun _ => rfl) (fun j hj => hn_y _ _ (hbs1 j hj)) hbs2, ?_⟩
     rintro hs5 av x' t' hh5 ⟨rfl, cs, tb', rfl, rfl, c1, c2, c3, c4⟩ _ _ _
     try dsimp only at hh5
     conv => whnf
     refine Wany.one (cxt_ok [25] []) 10 (by rfl) (by kernel_rfl) (by rfl) (by rfl) ?_
     conv => whnf
     refine Wany.one (cxt_ok [25] []) 11 (by rfl) (by kernel_rfl) (by rfl) (by rfl) ?_
     conv => whnf
     refine Wany.done (by kernel_rfl) (hK1 _ ?_)
     clear hK1 K1
     refine W.ret ?_
     conv => whnf
     exact ⟨.v (vRF L cs), ⟨rfl, rfl, rfl, fun _ _ => rfl⟩, ⟨trivial, fun _ _ => trivial⟩, .v (.int .i64 0), ⟨rfl, rfl⟩, trivial, cs, rfl, fun j hj _ => c1 j hj, fun i j hi hj hij _ _ => c2 i j hi hj hij⟩
    ·refine ⟨_, cxT (partsOf_T none (im p f) F hF hf0 (by omega)), fun lo_y hi_y hs_y x_y tn_y tb_y hl1_y hl2_y _ hp_y hf_y hn_y ho_y => ?_⟩
     try dsimp only at hl1_y hl2_y
     obtain ⟨bs, rfl, hbs1, hbs2⟩ := hp_y
     conv => whnf
     refine Wany.one (cxt_ok [25] []) 0 (by rfl) (by kernel_rfl) (by rfl) (by rfl) ?_
     conv => whnf
     refine Wany.one (cxt_ok [25] []) 9 (by rfl) (by kernel_rfl) (by rfl) (by rfl) ?_
     conv => whnf
     refine ⟨⟨rfl, rfl⟩, ?_⟩
     conv => whnf
     refine ⟨rfl, _, liftAll_I h.rn.1 hm F f n L h hF hL g bs _ _ tb_y rfl (fun _ => rfl) (fun j hj => hn_y _ _ (hbs1 j hj)) hbs2, ?_⟩
     rintro hs5 av x' t' hh5 ⟨rfl, cs, tb', rfl, rfl, c1, c2, c3, c4⟩ _ _ _
     try dsimp only at hh5
     conv => whnf
     refine Wany.one (cxt_ok [25] []) 10 (by rfl) (by kernel_rfl) (by rfl) (by rfl) ?_
     conv => whnf
     refine Wany.one (cxt_ok [25] []) 11 (by rfl) (by kernel_rfl) (by rfl) (by rfl) ?_
     conv => whnf
     refine Wany.done (by kernel_rfl) (hK1 _ ?_)
     clear hK1 K1
     refine W.ret ?_
     conv => whnf
     exact ⟨.v (vRF L cs), ⟨rfl, rfl, rfl, fun _ _ => rfl⟩, ⟨trivial, fun _ _ => trivial⟩, .v (.int .i64 0), ⟨rfl, rfl⟩, trivial, cs, rfl, fun j hj _ => c1 j hj, fun i j hi hj hij _ _ => c2 i j hi hj hij⟩
-- 15 ways

/- the reference -/
theorem liftAllS_1 (p k : Int) (g : Option Nat) (l : List Int) (hl : l.length ≤ 1000000000) (h1 : ¬ IsRn p k l) : FnV 12 [vR p k, .ints g l] (.tup [vLL [], .int .i64 1]) := by
 refine fn_of (cx_ok [0, 1, 2, 4, 5, 6, 7, 8, 9, 10, 14, 17, 20, 31]) Tryz.func12 rfl (by decide) Tryz.ntmps12 (Nat.le_of_ble_eq_true rfl) fun base => ?_
 refine W.rs (cx_ok _) (by rfl) fun K hK => ?_
 conv => whnf
 refine ⟨rfl, ?_⟩
 conv => whnf
 intro b_2 hs_2 hh_2 hf_2
 try dsimp only at hh_2 hf_2
 conv => whnf
 refine hK _ ?_
 clear hK K
 refine W.seqK fun K1 hK1 => ?_
 refine W.rs (cx_ok _) (by rfl) fun K hK => ?_
 conv => whnf
 refine callV rfl ((isInRingS_fn p k g l hl).fa (bP_false h1)) fun hs' hhs => ?_
 try dsimp only at hhs
 conv => whnf
 refine hK _ (W.condT rfl ?_)
 clear hK K
 refine W.rs (cx_ok _) (by rfl) fun K hK => ?_
 conv => whnf
 refine hK _ ?_
 clear hK K
 refine W.ret ?_
 conv => whnf
 exact ⟨.v (vLL []), rfl, ⟨trivial, fun _ _ => trivial⟩, .v (.int .i64 1), ⟨rfl, rfl⟩, trivial, rfl⟩
theorem liftAllS_5 (p k : Int) (g : Option Nat) (l : List Int) (hl : l.length ≤ 1000000000) (h1 : IsRn p k l) (h2 : ¬ IsMon l) : FnV 12 [vR p k, .ints g l] (.tup [vLL [], .int .i64 5]) := by
 refine fn_of (cx_ok [0, 1, 2, 4, 5, 6, 7, 8, 9, 10, 14, 17, 20, 31]) Tryz.func12 rfl (by decide) Tryz.ntmps12 (Nat.le_of_ble_eq_true rfl) fun base => ?_
 refine W.rs (cx_ok _) (by rfl) fun K hK => ?_
 conv => whnf
 refine ⟨rfl, ?_⟩
 conv => whnf
 intro b_2 hs_2 hh_2 hf_2
 try dsimp only at hh_2 hf_2
 conv => whnf
 refine hK _ ?_
 clear hK K
 refine W.seqK fun K1 hK1 => ?_
 refine W.rs (cx_ok _) (by rfl) fun K hK => ?_
 conv => whnf
 refine callV rfl ((isInRingS_fn p k g l hl).tr (bP_true h1)) fun hs' hhs => ?_
 try dsimp only at hhs
 conv => whnf
 refine hK _ (W.condF rfl (W.skip (hK1 _ ?_)))
 clear hK K hK1 K1
 refine W.seqK fun K1 hK1 => ?_
 refine W.rs (cx_ok _) (by rfl) fun K hK => ?_
 conv => whnf
 refine callV rfl ((l12Monic_fn g l hl).fa (bP_false h2)) fun hs' hhs => ?_
 try dsimp only at hhs
 conv => whnf
 refine hK _ (W.condT rfl ?_)
 clear hK K
 refine W.rs (cx_ok _) (by rfl) fun K hK => ?_
 conv => whnf
 refine hK _ ?_
 clear hK K
 refine W.ret ?_
 conv => whnf
 exact ⟨.v (vLL []), rfl, ⟨trivial, fun _ _ => trivial⟩, .v (.int .i64 5), ⟨rfl, rfl⟩, trivial, rfl⟩
theorem liftAllS_4 (p k : Int) (g : Option Nat) (l : List Int) (hl : l.length ≤ 1000000000) (h1 : IsRn p k l) (h2 : IsMon l) (h3 : l.length < 2) : FnV 12 [vR p k, .ints g l] (.tup [vLL [], .int .i64 4]) := by
 refine fn_of (cx_ok [0, 1, 2, 4, 5, 6, 7, 8, 9, 10, 14, 17, 20, 31]) Tryz.func12 rfl (by decide) Tryz.ntmps12 (Nat.le_of_ble_eq_true rfl) fun base => ?_
 refine W.rs (cx_ok _) (by rfl) fun K hK => ?_
 conv => whnf
 refine ⟨rfl, ?_⟩
 conv => whnf
 intro b_2 hs_2 hh_2 hf_2
 try dsimp only at hh_2 hf_2
 conv => whnf
 refine hK _ ?_
 clear hK K
 refine W.seqK fun K1 hK1 => ?_
 refine W.rs (cx_ok _) (by rfl) fun K hK => ?_
 conv => whnf
 refine callV rfl ((isInRingS_fn p k g l hl).tr (bP_true h1)) fun hs' hhs => ?_
 try dsimp only at hhs
 conv => whnf
 refine hK _ (W.condF rfl (W.skip (hK1 _ ?_)))
 clear hK K hK1 K1
 refine W.seqK fun K1 hK1 => ?_
 refine W.rs (cx_ok _) (by rfl) fun K hK => ?_
 conv => whnf
 refine callV rfl ((l12Monic_fn g l hl).tr (bP_true h2)) fun hs' hhs => ?_
 try dsimp only at hhs
 conv => whnf
 refine hK _ (W.condF rfl (W.skip (hK1 _ ?_)))
 clear hK K hK1 K1
 refine W.seqK fun K1 hK1 => ?_
 refine W.rs (cx_ok _) (by rfl) fun K hK => ?_
 conv => whnf
 refine hK _ (W.cond ⟨fun _ => ?_, fun hcc => absurd (by omega) (of_decide_eq_false hcc)⟩)
 clear hK K
 refine W.rs (cx_ok _) (by rfl) fun K hK => ?_
 conv => whnf
 refine hK _ ?_
 clear hK K
 refine W.ret ?_
 conv => whnf
 exact ⟨.v (vLL []), rfl, ⟨trivial, fun _ _ => trivial⟩, .v (.int .i64 4), ⟨rfl, rfl⟩, trivial, rfl⟩

theorem getD_snoc1 {α : Type} {d x : α} {L : List α} {j : Nat} (h : j < L.length) : (L ++ [x]).getD j d = L.getD j d := by
 rw [List.getD_eq_getElem?_getD, List.getD_eq_getElem?_getD, List.getElem?_append_left h]
theorem getD_snoc2 {α : Type} {d x : α} {L : List α} : (L ++ [x]).getD L.length d = x := by
 rw [List.getD_eq_getElem?_getD, List.getElem?_append_right (Nat.le_refl _), Nat.sub_self]; rfl

theorem liftAllS_0 {f : Poly M} {n : Nat} (h : LfP p k M f n) (g : Option Nat) {F : List (Poly p × Nat)} (hF : FacOf (im p f) F) (hFne : F ≠ []) {L : List (List Int)} (hL : LA p k F f L) : FnV 12 [vR p k, .ints g f.l] (.tup [vLL L, .int .i64 0]) := by
 obtain ⟨s1, s2, s3, s4, s5, s6⟩ := h.rn.1.small
 obtain ⟨i1, i2, hf0, eF, i5⟩ := h.img
 have hm := h.hm
 have m9 : M ≤ 1000000000 := by omega
 have n8 := h.n8
 have n1 := h.n1
 have hfl : f.l.length = dg f := rfl
 have hl : f.l.length ≤ 1000000000 := by omega
 have hFn := hF.facs.few hf0
 have hLl := LA.len _ _ _ hL
 refine fn_of (cx_ok [0, 1, 2, 4, 5, 6, 7, 8, 9, 10, 14, 17, 20, 31]) Tryz.func12 rfl (by decide) Tryz.ntmps12 (Nat.le_of_ble_eq_true rfl) fun base => ?_
 refine W.rs (cx_ok _) (by rfl) fun K hK => ?_
 conv => whnf
 refine ⟨rfl, ?_⟩
 conv => whnf
 intro b_2 hs_2 hh_2 hf_2
 try dsimp only at hh_2 hf_2
 conv => whnf
 refine hK _ ?_
 clear hK K
 refine W.seqK fun K1 hK1 => ?_
 refine W.rs (cx_ok _) (by rfl) fun K hK => ?_
 conv => whnf
 refine callV rfl ((isInRingS_fn p k g f.l hl).tr (bP_true h.rn)) fun hs' hhs => ?_
 try dsimp only at hhs
 conv => whnf
 refine hK _ (W.condF rfl (W.skip (hK1 _ ?_)))
 clear hK K hK1 K1
 refine W.seqK fun K1 hK1 => ?_
 refine W.rs (cx_ok _) (by rfl) fun K hK => ?_
 conv => whnf
 refine callV rfl ((l12Monic_fn g f.l hl).tr (bP_true h.mon)) fun hs' hhs => ?_
 try dsimp only at hhs
 conv => whnf
 refine hK _ (W.condF rfl (W.skip (hK1 _ ?_)))
 clear hK K hK1 K1
 refine W.seqK fun K1 hK1 => ?_
 refine W.rs (cx_ok _) (by rfl) fun K hK => ?_
 conv => whnf
 refine hK _ (W.cond ⟨fun hcc => absurd (of_decide_eq_true hcc) (by omega), fun _ => W.skip (hK1 _ ?_)⟩)
 clear hK K hK1 K1
 refine W.rs (cx_ok _) (by rfl) fun K hK => ?_
 conv => whnf
 refine ⟨⟨rfl, by decide, fun x hx => by simp at hx⟩, ?_⟩
 conv => whnf
 intro b_6 hs_6 hh_6 hf_6
 try dsimp only at hh_6 hf_6
 conv => whnf
 refine hK _ ?_
 clear hK K
 refine W.rs (cx_ok _) (by rfl) fun K hK => ?_
 conv => whnf
 refine hK _ ?_
 clear hK K
 refine W.block (W.invA (fun m e => ∃ (F' : List (Poly p × Nat)) (f' : Poly M) (n' : Nat) (L1 L' : List (List Int)) (g' : Option Nat) (b : Nat), F' ≠ [] ∧ LfP p k M f' n' ∧ FacOf (im p f') F' ∧ LA p k F' f' L' ∧ L = L1 ++ L' ∧ m = F'.length ∧ e = [(2, .ownB b_2 (vR p k)), (6, .ownV 24 1 b L1.length fun j => .ints none (L1.getD j [])), (7, .v (.ints g' f'.l))]) ⟨F, f, n, [], L, g, b_6, hFne, h, hF, hL, rfl, rfl, rfl⟩ ?_)
 rintro m e ⟨F', f', n', L1, L', g', b, hne', h', hF', hL', rfl, hmm, rfl⟩
 rw [List.length_append] at hLl
 have hf9 := h'.rn.2.1
 refine W.block ?_
 match F', hF', hL', hmm, hne' with
 | [], _, _, _, hne' => exact absurd rfl hne'
 | [x], hF', hL', hmm, _ =>
  obtain rfl : L' = [f'.l] := hL'
  refine W.rs (cx_ok _) (by rfl) fun K hK => ?_
  conv => whnf
  refine callV rfl (splitS_one h' g' hF') fun hs' hhs => ?_
  try dsimp only at hhs
  conv => whnf
  refine hK _ ?_
  clear hK K
  refine W.seqK fun K1 hK1 => ?_
  refine W.rs (cx_ok _) (by rfl) fun K hK => ?_
  conv => whnf
  refine hK _ (W.cond ⟨fun _ => ?_, fun hcc => absurd (by decide : (4 : Int) ≠ 0) (of_decide_eq_false hcc)⟩)
  clear hK K
  refine W.rs (cx_ok _) (by rfl) fun K hK => ?_
  conv => whnf
  refine callI rfl (own_fn g' f'.l (by omega)) fun hs_3 b_3 hh_3 hf_3 => ?_
  try dsimp only at hh_3 hf_3
  conv => whnf
  refine ⟨⟨rfl, by decide, fun x hx => by simp at hx; subst hx; exact ⟨rfl, rfl⟩⟩, ?_⟩
  conv => whnf
  intro b_4 hs_4 hh_4 hf_4
  try dsimp only at hh_4 hf_4
  conv => whnf
  refine ⟨by omega, ?_⟩
  conv => whnf
  refine ⟨fun j => .ints none ((L1 ++ [f'.l]).getD j []), fun j hj => by show V.ints none _ = V.ints none _; rw [getD_snoc1 hj], fun j hj => by (obtain rfl : j = 0 := (by omega)); show V.ints none ((L1 ++ [f'.l]).getD (L1.length + 0) []) = V.ints none f'.l; rw [Nat.add_zero, getD_snoc2], ?_⟩
  intro b_5 hs_5 hh_5 hf_5
  try dsimp only at hh_5 hf_5
  conv => whnf
  refine hK _ ?_
  clear hK K
  refine W.ret ?_
  conv => whnf
  exact ⟨.v (vLL (L1 ++ [f'.l])), ⟨.inl rfl, rfl, by simp, fun _ _ => rfl⟩, ⟨trivial, fun _ _ => trivial⟩, .v (.int .i64 0), ⟨rfl, rfl⟩, trivial, rfl⟩
 | x :: y :: F', hF', hL', hmm, _ =>
  obtain ⟨a, b', S, T, u, G, H, L2, hfs, hP, h9, hLt, hHf, hHF, rfl, hLr⟩ := hL'
  have hL2 := LA.len _ _ _ hLr
  refine W.rs (cx_ok _) (by rfl) fun K hK => ?_
  conv => whnf
  refine callV rfl (splitS_0 h' g' hF' hfs hP h9 hLt) fun hs' hhs => ?_
  try dsimp only at hhs
  conv => whnf
  refine hK _ ?_
  clear hK K
  refine W.seqK fun K1 hK1 => ?_
  refine W.rs (cx_ok _) (by rfl) fun K hK => ?_
  conv => whnf
  refine hK _ (W.cond ⟨fun hcc => absurd rfl (of_decide_eq_true hcc), fun _ => W.skip (hK1 _ ?_)⟩)
  clear hK K hK1 K1
  refine W.rs (cx_ok _) (by rfl) fun K hK => ?_
  conv => whnf
  refine ⟨⟨rfl, by decide, fun x hx => by simp at hx; subst hx; exact ⟨rfl, rfl⟩⟩, ?_⟩
  conv => whnf
  intro b_4 hs_4 hh_4 hf_4
  try dsimp only at hh_4 hf_4
  conv => whnf
  refine ⟨by omega, ?_⟩
  conv => whnf
  refine ⟨fun j => .ints none ((L1 ++ [G.l]).getD j []), fun j hj => by show V.ints none _ = V.ints none _; rw [getD_snoc1 hj], fun j hj => by (obtain rfl : j = 0 := (by omega)); show V.ints none ((L1 ++ [G.l]).getD (L1.length + 0) []) = V.ints none G.l; rw [Nat.add_zero, getD_snoc2], ?_⟩
  intro b_5 hs_5 hh_5 hf_5
  try dsimp only at hh_5 hf_5
  conv => whnf
  refine hK _ ?_
  clear hK K
  refine W.region (cx_ok _) (by rfl) ?_
  conv => whnf
  refine ⟨_, _, ⟨y :: F', H, b', L1 ++ [G.l], L2, none, b_5, by simp, hHf, hHF, hLr, by simp, rfl, rfl⟩, by rw [hmm]; simp, by dsimp only; omega, ?_⟩
  repeat' first | refine And.intro ?_ ?_ | exact trivial | rfl | omega | exact .inl rfl | exact fun _ _ => rfl | exact fun _ _ h => h | simp
end

theorem LiftAll_both (rp rq : Int) (f : List Int) (_ : inR rp) (_ : inR rq) (hf : f.length ≤ 1048576) : ∃ (r0 : List (List Int)) (r1 : Int), (∀ g1 : Option Nat, FnV 12 [vR rp rq, .ints g1 f] (.tup [vLL r0, .int .i64 r1])) ∧
  (∀ g1 : Option Nat, FnT Tryz.prog 13 [vR rp rq, .ints g1 f] (RTS r0 r1)) ∧ r0.length ≤ 100000 ∧ (∀ j, (r0.getD j []).length ≤ 100000) := by
 by_cases h1 : IsRn rp rq f
 case neg => exact ⟨[], 1, fun g => liftAllS_1 rp rq g f (by omega) h1, fun g => liftAllI_c rp rq g f 1 (by decide) (lifting_1 rp rq g f (by omega) h1), by simp, by simp⟩
 by_cases h2 : IsMon f
 case neg => exact ⟨[], 5, fun g => liftAllS_5 rp rq g f (by omega) h1 h2, fun g => liftAllI_c rp rq g f 5 (by decide) (lifting_5 rp rq g f (by omega) h1 h2), by simp, by simp⟩
 by_cases h3 : f.length < 2
 case pos => exact ⟨[], 4, fun g => liftAllS_4 rp rq g f (by omega) h1 h2 h3, fun g => liftAllI_c rp rq g f 4 (by decide) (lifting_4 rp rq g f (by omega) h1 h2 h3), by simp, by simp⟩
 obtain ⟨hp, hx⟩ := lf_poly h1 h2 (by omega)
 letI := sp_of hp
 obtain ⟨M, _, X, n, rfl, h⟩ := hx
 obtain ⟨i1, i2, hf0, eF, i5⟩ := h.img
 have n1 := h.n1
 have n8 := h.n8
 obtain ⟨F, hF⟩ := exists_fac hf0
 have hne := fac_some hf0 (by omega) hF
 have hFn := hF.facs.few hf0
 obtain ⟨L, hL, hl1, hl2⟩ := exists_LA F X n h hF hne
 exact ⟨L, 0, fun g => liftAllS_0 h g hF hne hL, fun g => liftAllI_0 h g hF hL, by omega, fun j => Nat.le_trans (hl2 j) (by omega)⟩

open Go Go.RowKit Go.ChangeShapes Go.WideShapes Go.ChangeAt Go.Proofs Go.Proofs.YtdebbdepmoecaaaGreat

theorem fn_calls {P : Program} {f : Nat} {xs : List V} {r : V} {w : World} {vs : Array Value} (h : Fn P f xs (fun _ _ a => a = .v r)) (hl : vs.size = xs.length)
  (hr : ∀ j, j < xs.length → Rep (okAll w) w.heap (xs.getD j .nil) (vs.getD j undef)) :
  Calls P f vs w fun e w' => ∃ v, e = .returned v ∧ Below w.heap.size w w' ∧ Rep (okR (fun _ => False) w'.heap.size) w'.heap r v := by
 refine (h.2 (fun _ => False) w vs (fun _ h => h.elim) hl hr).mono fun e w' ⟨v, av, hi, h1, h2, h3, h4, h5⟩ => ?_
 subst h3
 obtain ⟨_, h6, _⟩ := h5
 refine ⟨v, h1, h4, ?_⟩
 exact Rep.mono h6 fun g b hb => ⟨⟨hb.1, fun h => h.elim, hb.2.2⟩, rfl⟩

theorem fn_true {P : Program} {f : Nat} {xs : List V} {w : World} {vs : Array Value} (h : Fn P f xs (fun _ _ a => a = .v .tr)) (hl : vs.size = xs.length)
  (hr : ∀ j, j < xs.length → Rep (okAll w) w.heap (xs.getD j .nil) (vs.getD j undef)) :
  Calls P f vs w fun e w' => e = .returned (.bool true) ∧ Below w.heap.size w w' :=
 (fn_calls h hl hr).mono fun e w' ⟨v, h1, h2, h3⟩ => by
  cases h3
  exact ⟨h1, h2⟩

theorem ownP : ownKnob Tryz.prog.godebug = none := by kernel_rfl
theorem laidOutP : laidOutB Tryz.prog = true := by kernel_rfl
theorem cellsInt : Tryz.prog.cellsOf 2 = 1 := by kernel_rfl

theorem readsInt {H : Type} {enc : TypeId × Value → H} {W : World} : Reads enc Tryz.prog W 2 1 TyInt := reads_int Tryz.underlying2
theorem readsInts {H : Type} {enc : TypeId × Value → H} {W : World} : Reads enc Tryz.prog W 24 1 TyInts := reads_ints Tryz.underlying24 Tryz.underlying2 cellsInt
theorem readsRing {H : Type} {enc : TypeId × Value → H} {W : World} : Reads enc Tryz.prog W 23 2 (TyCat [TyInt, TyInt]) :=
 reads_struct Tryz.underlying23 (by kernel_rfl) ⟨rfl, 1, cellsInt, readsInt, rfl, 1, cellsInt, readsInt, rfl⟩
open Go Go.RowKit Go.ChangeShapes Go.WideShapes Go.ChangeAt Go.Proofs Go.Proofs.YtdebbdepmoecaaaGreat
set_option maxRecDepth 100000

def signs : List Char := [104, 97, 114, 110, 101, 115, 115, 32, 100, 102, 51, 51, 54, 102, 102, 102, 98, 53, 98, 101, 49, 100, 55, 54, 51, 56, 54, 56, 55, 48, 102, 48, 50, 100, 55, 57, 51, 102, 49, 100, 98, 57, 53, 53, 52, 49, 49, 48, 99, 98, 53, 101, 101, 101, 49, 55, 102, 56, 50, 48, 51, 102, 51, 97, 101, 50, 52, 48, 50, 50, 55, 50, 32, 99, 117, 116, 32, 97, 116, 32, 108, 111, 111, 112, 46, 101, 120, 97, 109, 112, 108, 101, 47, 103, 48, 49, 48, 48, 48, 47, 108, 97, 119, 115, 46, 70, 110, 69, 120, 97, 99, 116, 83, 112, 108, 105, 116, 79, 102, 102, 32, 108, 111, 111, 112, 46, 101, 120, 97, 109, 112, 108, 101, 47, 103, 48, 49, 48, 48, 48, 47, 108, 97, 119, 115, 46, 70, 110, 69, 120, 97, 99, 116, 76, 105, 102, 116, 65, 108, 108].map Char.ofNat
def word1 : List Char := [99, 117, 116].map Char.ofNat
def words : List (List Char) := [[97, 116], [108, 111, 111, 112, 46, 101, 120, 97, 109, 112, 108, 101, 47, 103, 48, 49, 48, 48, 48, 47, 108, 97, 119, 115, 46, 70, 110, 69, 120, 97, 99, 116, 83, 112, 108, 105, 116, 79, 102, 102], [108, 111, 111, 112, 46, 101, 120, 97, 109, 112, 108, 101, 47, 103, 48, 49, 48, 48, 48, 47, 108, 97, 119, 115, 46, 70, 110, 69, 120, 97, 99, 116, 76, 105, 102, 116, 65, 108, 108]].map fun w => w.map Char.ofNat
theorem initS : Tryz.checked.prog.initOrder = String.ofList signs := by kernel_rfl
theorem initW : behindMainWord (wordsSigns Tryz.checked.prog.initOrder.toList) = word1 :: words := by rw [initS, String.toList_ofList]; kernel_rfl
theorem mayEnter_of {P : Program} {c : List Char} {rest : List (List Char)} (h0 : behindMainWord (wordsSigns P.initOrder.toList) = c :: rest) (h1 : (stripLifts liftWords (c :: rest)) = ([], c :: rest)) (h2 : (c == "cut".toList) = true)
  (h3 : P.laysLater = false) (h4 : P.bearsReflect = false) (h5 : P.doorFits [] = true) : P.mayEnter = true := by
 unfold Program.mayEnter
 rw [h0]
 have e : (some c == some "cut".toList) = true := h2
 refine (Bool.or_eq_true _ _).mpr (.inr ?_)
 rw [h1, h3, h4, h5]
 show ((some c == some "cut".toList) && _ && _ && _ && _) = true
 rw [e]
 rfl
theorem lifts0 : stripLifts liftWords (word1 :: words) = ([], word1 :: words) := by kernel_rfl
theorem enterP : Tryz.checked.prog.mayEnter = true := mayEnter_of initW lifts0 (by kernel_rfl) (by kernel_rfl) (by kernel_rfl) (by kernel_rfl)
theorem headLifts_of {P : Program} {c : List Char} {rest : List (List Char)} (h0 : behindMainWord (wordsSigns P.initOrder.toList) = c :: rest) (h1 : stripLifts liftWords (c :: rest) = ([], c :: rest)) : P.headLifts = [] := by
 unfold Program.headLifts
 rw [h0, h1]
 dsimp only
 split <;> rfl
theorem liftsFinal_of {P : Program} {c : List Char} {rest : List (List Char)} (h0 : behindMainWord (wordsSigns P.initOrder.toList) = c :: rest) (hh : P.headLifts = []) (h2 : (c == "carried".toList) = false) : P.liftsFinal = false := by
 have e : (some c == some "carried".toList) = false := h2
 unfold Program.liftsFinal
 rw [h0, hh]
 show (((some c == some "carried".toList) && _) || _) = false
 rw [e]
 rfl
theorem make_of {P : Program} {c : List Char} {rest : List (List Char)} (h0 : behindMainWord (wordsSigns P.initOrder.toList) = c :: rest) (h1 : (c == "gc".toList) = false) (h2 : (c == "spec".toList) = false) (h3 : (c == "cut".toList) = true) : P.make = some .cut := by
 unfold Program.make
 rw [h0]
 dsimp only
 rw [h1, h2, h3]
 rfl
theorem headP : Tryz.checked.prog.headLifts = [] := headLifts_of initW lifts0
theorem liftP : Tryz.checked.prog.liftsFinal = false := liftsFinal_of initW headP (by kernel_rfl)
theorem makeP : Tryz.checked.prog.make = some .cut := make_of initW (by kernel_rfl) (by kernel_rfl) (by kernel_rfl)

end Go.Proofs.YtdebbdepmoecaaaGreat
