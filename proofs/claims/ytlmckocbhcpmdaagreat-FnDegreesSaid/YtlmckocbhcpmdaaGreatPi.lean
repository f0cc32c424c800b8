/- What the program's functions and the reference's return. No conditions. -/
import Derived.Test.YtlmckocbhcpmdaaGreatPh
namespace Go.Proofs.YtlmckocbhcpmdaaGreat
open Go Go.RowKit Go.Proofs Poly
set_option maxRecDepth 100000
set_option maxHeartbeats 8000000

theorem fac_some {p : Int} [SP p] {f : Poly p} {F : List (Poly p × Nat)} (h : FacOf f F) (h2 : 2 ≤ dg f) : 0 < F.length := by
 obtain ⟨g, hg, hgm, hgf⟩ := exists_irr _ f (Nat.le_refl _) h2
 have hf : f ≠ 0 := fun e => by rw [e, dg_zero] at h2; omega
 obtain ⟨e, he⟩ := exists_mult hg.1 _ f hf (Nat.le_refl _)
 have he1 : 1 ≤ e := by
  rcases Nat.eq_zero_or_pos e with h0 | h0
  ·subst h0; exact absurd hgf (isMult_zero.1 he)
  ·exact h0
 exact List.length_pos_of_mem ((h.2 (g, e)).2 ⟨hg, hgm, he1, he⟩)


theorem SmallestFactor_E (p : Int) (f : List Int) (h : f.length ≤ 1048576) : ∃ (r0 : List Int) (r1 : Int), (∀ g1 : Option Nat, FnV 48 [.int .i64 p, .ints g1 f] (.tup [.ints none r0, .int .i64 r1])) ∧
  (∀ g1 : Option Nat, FnV 47 [.int .i64 p, .ints g1 f] (.tup [.ints none r0, .int .i64 r1])) ∧ r0.length ≤ 1000000 ∧ r1 = codeFa p f ∧
  (∀ hp : p ∈ primes, letI := sp_of hp; ∀ (φ : Poly p) (F : List (Poly p × Nat)), φ.l = f → codeFa p f = 0 → FacOf φ F → r0 = (F.getD 0 (0, 0)).1.l) := by
 by_cases hc : codeFa p f = 0
 case neg =>
  refine ⟨[], codeFa p f, fun g => ?_, fun g => ?_, by simp, rfl, fun _ _ _ _ h0 _ => absurd h0 hc⟩
  ·refine fn_of (cx_ok [0, 1, 4, 5, 6, 11]) Tryz.func48 rfl (by decide) Tryz.ntmps48 (Nat.le_of_ble_eq_true rfl) fun base => ?_
   refine wrs fun K hK => ?_
   conv => whnf
   refine hK _ ?_
   clear hK K
   refine wrs fun K hK => ?_
   conv => whnf
   refine callV rfl (l09Code_fn g p f (by omega)) fun hs' hhs => ?_
   try dsimp only at hhs
   conv => whnf
   refine hK _ ?_
   clear hK K
   refine W.seqK fun K1 hK1 => ?_
   refine wrs fun K hK => ?_
   conv => whnf
   refine hK _ (W.cond ⟨fun _ => ?_, fun hcc => absurd hc (of_decide_eq_false hcc)⟩)
   clear hK K
   refine wrs fun K hK => ?_
   conv => whnf
   refine hK _ ?_
   clear hK K
   refine W.ret ?_
   conv => whnf
   exact ⟨.v (.ints none []), rfl, trivial, .v (.int .i64 (codeFa p f)), ⟨rfl, rfl⟩, trivial, rfl⟩
  ·refine fn_of (cx_ok [0, 1, 4, 5, 6, 11]) Tryz.func47 rfl (by decide) Tryz.ntmps47 (Nat.le_of_ble_eq_true rfl) fun base => ?_
   refine wrs fun K hK => ?_
   conv => whnf
   refine hK _ ?_
   clear hK K
   refine W.seqK fun K1 hK1 => ?_
   refine wrs fun K hK => ?_
   conv => whnf
   refine callV rfl (factorable_fn g p f) fun hs' hhs => ?_
   try dsimp only at hhs
   conv => whnf
   refine hK _ ?_
   clear hK K
   refine wrs fun K hK => ?_
   conv => whnf
   refine hK _ (W.cond ⟨fun _ => ?_, fun hcc => absurd hc (of_decide_eq_false hcc)⟩)
   clear hK K
   refine wrs fun K hK => ?_
   conv => whnf
   refine hK _ ?_
   clear hK K
   refine W.ret ?_
   conv => whnf
   exact ⟨.v (.ints none []), rfl, trivial, .v (.int .i64 (codeFa p f)), ⟨rfl, rfl⟩, trivial, rfl⟩
 obtain ⟨hm, h2⟩ := codeFa_ok hc
 obtain ⟨hp, f, rfl⟩ := poly_of hm
 letI := sp_of hp
 have h9 := hm.2.1
 have hfl : f.l.length = dg f := rfl
 have hf0 : f ≠ 0 := fun e => by have := dg_eq_zero.2 e; omega
 obtain ⟨F, hF⟩ := exists_fac hf0
 have hpos := fac_some hF (by omega)
 have hx := (hF.fac hf0 (by omega) 0 hpos).1
 refine ⟨(F.getD 0 (0, 0)).1.l, 0, fun g => ?_, fun g => ?_, by show dg _ ≤ _; omega, hc.symm, fun _ φ G e _ hG => (by obtain rfl := ext_l e; rw [hF.unique hG])⟩
 ·refine fn_of (cx_ok [0, 1, 4, 5, 6, 11]) Tryz.func48 rfl (by decide) Tryz.ntmps48 (Nat.le_of_ble_eq_true rfl) fun base => ?_
  refine wrs fun K hK => ?_
  conv => whnf
  refine hK _ ?_
  clear hK K
  refine wrs fun K hK => ?_
  conv => whnf
  refine callV rfl (l09Code_fn g p f.l (by omega)) fun hs' hhs => ?_
  try dsimp only at hhs
  conv => whnf
  rw [hc]
  refine hK _ ?_
  clear hK K
  refine W.seqK fun K1 hK1 => ?_
  refine wrs fun K hK => ?_
  conv => whnf
  refine hK _ (W.cond ⟨fun hcc => absurd rfl (of_decide_eq_true hcc), fun _ => W.skip (hK1 _ ?_)⟩)
  clear hK K hK1 K1
  refine wrs fun K hK => ?_
  conv => whnf
  refine callP rfl (l09All_fn p g f (by omega) hf0) ?_
  rintro lo hi hi' z hl1 hl2 hl3 ⟨F', hF', rfl⟩ _
  obtain rfl := hF.unique hF'
  try dsimp only at hl1 hl2
  conv => whnf
  refine ⟨oo, ?_⟩
  conv => whnf
  refine hK _ ?_
  clear hK K
  refine W.ret ?_
  conv => whnf
  exact ⟨.v (.ints none (F.getD 0 (0, 0)).1.l), ⟨rfl, rfl⟩, trivial, .v (.int .i64 0), ⟨rfl, rfl⟩, trivial, rfl⟩
 ·refine fn_of (cx_ok [0, 1, 4, 5, 6, 11]) Tryz.func47 rfl (by decide) Tryz.ntmps47 (Nat.le_of_ble_eq_true rfl) fun base => ?_
  refine wrs fun K hK => ?_
  conv => whnf
  refine hK _ ?_
  clear hK K
  refine W.seqK fun K1 hK1 => ?_
  refine wrs fun K hK => ?_
  conv => whnf
  refine callV rfl (factorable_fn g p f.l) fun hs' hhs => ?_
  try dsimp only at hhs
  conv => whnf
  rw [hc]
  refine hK _ ?_
  clear hK K
  refine wrs fun K hK => ?_
  conv => whnf
  refine hK _ (W.cond ⟨fun hcc => absurd rfl (of_decide_eq_true hcc), fun _ => W.skip (hK1 _ ?_)⟩)
  clear hK K hK1 K1
  refine wrs fun K hK => ?_
  conv => whnf
  refine callP rfl (factorsBy_fn p (dg f) g f (Nat.le_refl _) (by omega) hf0) ?_
  rintro lo hi hi' z hl1 hl2 hl3 ⟨F', hF', rfl⟩ _
  obtain rfl := hF.unique hF'
  try dsimp only at hl1 hl2
  conv => whnf
  refine ⟨oo, ?_⟩
  conv => whnf
  refine hK _ ?_
  clear hK K
  refine W.ret ?_
  conv => whnf
  exact ⟨.v (.ints none (F.getD 0 (0, 0)).1.l), ⟨rfl, rfl⟩, trivial, .v (.int .i64 0), ⟨rfl, rfl⟩, trivial, rfl⟩

theorem IsIrreducible_E (p : Int) (f : List Int) (h : f.length ≤ 1048576) : ∃ (r0 : Bool) (r1 : Int), (∀ g1 : Option Nat, FnV 52 [.int .i64 p, .ints g1 f] (.tup [.bool r0, .int .i64 r1])) ∧
  (∀ g1 : Option Nat, FnV 41 [.int .i64 p, .ints g1 f] (.tup [.bool r0, .int .i64 r1])) := by
 by_cases hc : codeFa p f = 0
 case neg =>
  refine ⟨false, codeFa p f, fun g => ?_, fun g => ?_⟩
  ·refine fn_of (cx_ok [0, 1, 4, 5, 6, 11]) Tryz.func52 rfl (by decide) Tryz.ntmps52 (Nat.le_of_ble_eq_true rfl) fun base => ?_
   refine wrs fun K hK => ?_
   conv => whnf
   refine hK _ ?_
   clear hK K
   refine wrs fun K hK => ?_
   conv => whnf
   refine callV rfl (l09Code_fn g p f (by omega)) fun hs' hhs => ?_
   try dsimp only at hhs
   conv => whnf
   refine hK _ ?_
   clear hK K
   refine W.seqK fun K1 hK1 => ?_
   refine wrs fun K hK => ?_
   conv => whnf
   refine hK _ (W.cond ⟨fun _ => ?_, fun hcc => absurd hc (of_decide_eq_false hcc)⟩)
   clear hK K
   refine wrs fun K hK => ?_
   conv => whnf
   refine hK _ ?_
   clear hK K
   refine W.ret ?_
   conv => whnf
   exact ⟨.v (.bool false), rfl, trivial, .v (.int .i64 (codeFa p f)), ⟨rfl, rfl⟩, trivial, rfl⟩
  ·refine fn_of (cx_ok [0, 1, 4, 5, 6, 11]) Tryz.func41 rfl (by decide) Tryz.ntmps41 (Nat.le_of_ble_eq_true rfl) fun base => ?_
   refine wrs fun K hK => ?_
   conv => whnf
   refine hK _ ?_
   clear hK K
   refine W.seqK fun K1 hK1 => ?_
   refine wrs fun K hK => ?_
   conv => whnf
   refine callV rfl (factorable_fn g p f) fun hs' hhs => ?_
   try dsimp only at hhs
   conv => whnf
   refine hK _ ?_
   clear hK K
   refine wrs fun K hK => ?_
   conv => whnf
   refine hK _ (W.cond ⟨fun _ => ?_, fun hcc => absurd hc (of_decide_eq_false hcc)⟩)
   clear hK K
   refine wrs fun K hK => ?_
   conv => whnf
   refine hK _ ?_
   clear hK K
   refine W.ret ?_
   conv => whnf
   exact ⟨.v (.bool false), rfl, trivial, .v (.int .i64 (codeFa p f)), ⟨rfl, rfl⟩, trivial, rfl⟩
 obtain ⟨hm, h2⟩ := codeFa_ok hc
 obtain ⟨hp, f, rfl⟩ := poly_of hm
 letI := sp_of hp
 have h9 := hm.2.1
 have hfl : f.l.length = dg f := rfl
 have hf0 : f ≠ 0 := fun e => by have := dg_eq_zero.2 e; omega
 refine ⟨bP (Irr f), 0, fun g => ?_, fun g => ?_⟩
 ·refine fn_of (cx_ok [0, 1, 4, 5, 6, 11]) Tryz.func52 rfl (by decide) Tryz.ntmps52 (Nat.le_of_ble_eq_true rfl) fun base => ?_
  refine wrs fun K hK => ?_
  conv => whnf
  refine hK _ ?_
  clear hK K
  refine wrs fun K hK => ?_
  conv => whnf
  refine callV rfl (l09Code_fn g p f.l (by omega)) fun hs' hhs => ?_
  try dsimp only at hhs
  conv => whnf
  rw [hc]
  refine hK _ ?_
  clear hK K
  refine W.seqK fun K1 hK1 => ?_
  refine wrs fun K hK => ?_
  conv => whnf
  refine hK _ (W.cond ⟨fun hcc => absurd rfl (of_decide_eq_true hcc), fun _ => W.skip (hK1 _ ?_)⟩)
  clear hK K hK1 K1
  refine wrs fun K hK => ?_
  conv => whnf
  refine callV rfl (l09Irreducible_V p g f (by omega) hf0) fun hs' hhs => ?_
  try dsimp only at hhs
  conv => whnf
  refine hK _ ?_
  clear hK K
  refine W.ret ?_
  conv => whnf
  exact ⟨.v (.bool (bP (Irr f))), rfl, trivial, .v (.int .i64 0), ⟨rfl, rfl⟩, trivial, rfl⟩
 ·refine fn_of (cx_ok [0, 1, 4, 5, 6, 11]) Tryz.func41 rfl (by decide) Tryz.ntmps41 (Nat.le_of_ble_eq_true rfl) fun base => ?_
  refine wrs fun K hK => ?_
  conv => whnf
  refine hK _ ?_
  clear hK K
  refine W.seqK fun K1 hK1 => ?_
  refine wrs fun K hK => ?_
  conv => whnf
  refine callV rfl (factorable_fn g p f.l) fun hs' hhs => ?_
  try dsimp only at hhs
  conv => whnf
  rw [hc]
  refine hK _ ?_
  clear hK K
  refine wrs fun K hK => ?_
  conv => whnf
  refine hK _ (W.cond ⟨fun hcc => absurd rfl (of_decide_eq_true hcc), fun _ => W.skip (hK1 _ ?_)⟩)
  clear hK K hK1 K1
  refine wrs fun K hK => ?_
  conv => whnf
  refine callV rfl (isIrreducible_V p g f (by omega) hf0) fun hs' hhs => ?_
  try dsimp only at hhs
  conv => whnf
  refine hK _ ?_
  clear hK K
  refine W.ret ?_
  conv => whnf
  exact ⟨.v (.bool (bP (Irr f))), rfl, trivial, .v (.int .i64 0), ⟨rfl, rfl⟩, trivial, rfl⟩

theorem IsSquareFree_ok (p : Int) [SP p] (hp : 2 ≤ p ∧ p ≤ 97) (g : Option Nat) (F : Poly p) (hm : IsMod p F.l) : FnV 53 [.int .i64 p, .ints g F.l] (.tup [.bool (decide (((gcd F (der F)).l.length : Int) = 1)), .int .i64 0]) := by
 have h9 := hm.2.1
 have hfl : F.l.length = dg F := rfl
 have hgl : dg (gcd F (der F)) ≤ 10 := by
  by_cases h0 : F = 0
  ·rw [h0]
   have hz : der (0 : Poly p) = 0 := ext_cf fun i => by rw [cf_der, cf_zero]; simp [dv, cf_zero]
   rw [hz, gcd_zero, mnc_zero, dg_zero]; omega
  ·have := dvd_dg (gcd_left F (der F)) h0; omega
 have hdl : dg (der F) ≤ 10 := by
  by_cases h0 : F = 0
  ·rw [h0]
   have hz : der (0 : Poly p) = 0 := ext_cf fun i => by rw [cf_der, cf_zero]; simp [dv, cf_zero]
   rw [hz, dg_zero]; omega
  ·have := der_dg h0; omega
 refine fn_of (cx_ok [0, 1, 4, 5, 9]) Tryz.func53 rfl (by decide) Tryz.ntmps53 (Nat.le_of_ble_eq_true rfl) fun base => ?_
 refine wrs fun K hK => ?_
 conv => whnf
 refine hK _ ?_
 clear hK K
 refine W.seqK fun K1 hK1 => ?_
 refine wrs fun K hK => ?_
 conv => whnf
 refine callV rfl ((isModular_fn g p F.l).tr (bP_true hm)) fun hs' hhs => ?_
 try dsimp only at hhs
 conv => whnf
 refine hK _ (W.condF rfl (W.skip (hK1 _ ?_)))
 clear hK K hK1 K1
 refine wrs fun K hK => ?_
 conv => whnf
 refine callV rfl (derivative_fn _ F.l ((l_bd F).le (by omega)) (by omega)) fun hs' hhs => ?_
 try dsimp only at hhs
 conv => whnf
 refine callI rfl (reduce_fn p (by omega) (by omega) _ (mkL (F.l.length - 1) (dv (cf F.l))) (dv_bd F (by omega)) (by rw [mkL_length]; omega)) fun hs_2 b_2 hh_2 hf_2 => ?_
 try dsimp only at hh_2 hf_2
 conv => whnf
 rw [der_l]
 refine callI rfl (common_fn p _ _ F (der F) (by omega) (by omega)) fun hs_3 b_3 hh_3 hf_3 => ?_
 try dsimp only at hh_3 hf_3
 conv => whnf
 refine hK _ ?_
 clear hK K
 refine W.ret ?_
 conv => whnf
 exact ⟨.v (.bool (decide (((gcd F (der F)).l.length : Int) = 1))), rfl, trivial, .v (.int .i64 0), ⟨rfl, rfl⟩, trivial, rfl⟩

theorem DivideModular_ok (p : Int) [SP p] (g g' : Option Nat) (F G : Poly p) (hF : IsMod p F.l) (hG : IsMod p G.l) (hG0 : 1 ≤ dg G) : FnV 54 [.int .i64 p, .ints g F.l, .ints g' G.l] (.tup [.ints none (quo F G).l, .ints none (rem F G).l, .int .i64 0]) := by
 have h9 := hF.2.1
 have hfl : F.l.length = dg F := rfl
 have h9' := hG.2.1
 have hgl : G.l.length = dg G := rfl
 refine fn_of (cx_ok [0, 1, 2, 6, 7, 8, 9, 10, 11, 22]) Tryz.func54 rfl (by decide) Tryz.ntmps54 (Nat.le_of_ble_eq_true rfl) fun base => ?_
 refine wrs fun K hK => ?_
 conv => whnf
 refine hK _ ?_
 clear hK K
 refine W.seqK fun K1 hK1 => ?_
 refine W.block ?_
 refine wrs fun K hK => ?_
 conv => whnf
 refine callV rfl ((isModular_fn g p F.l).tr (bP_true hF)) fun hs' hhs => ?_
 try dsimp only at hhs
 conv => whnf
 refine callV rfl ((isModular_fn g' p G.l).tr (bP_true hG)) fun hs' hhs => ?_
 try dsimp only at hhs
 conv => whnf
 refine hK _ (W.condF rfl ?_)
 clear hK K
 refine wrs fun K hK => ?_
 conv => whnf
 refine hK _ (W.cond ⟨fun h => absurd (of_decide_eq_true h) (by omega), fun _ => W.skip (hK1 _ ?_)⟩)
 clear hK K hK1 K1
 refine wrs fun K hK => ?_
 conv => whnf
 refine callV rfl (divide_fn p g g' F G (by omega) (by omega) (fun e => by rw [e, dg_zero] at hG0; omega)) fun hs' hhs => ?_
 try dsimp only at hhs
 conv => whnf
 refine hK _ ?_
 clear hK K
 refine wrs fun K hK => ?_
 conv => whnf
 refine hK _ ?_
 clear hK K
 refine W.ret ?_
 conv => whnf
 exact ⟨.v (.ints none (quo F G).l), ⟨rfl, rfl⟩, trivial, .v (.ints none (rem F G).l), ⟨rfl, rfl⟩, trivial, .v (.int .i64 0), ⟨rfl, rfl⟩, trivial, rfl⟩

def sumT (xs : List Int) (k : Nat) : Int := (xs.take k).sum
theorem sumT_succ {xs : List Int} {k : Nat} (h : k < xs.length) : sumT xs (k + 1) = sumT xs k + xs.getD k 0 := by
 unfold sumT
 rw [List.take_succ_eq_append_getElem h, List.sum_append, List.getD_eq_getElem?_getD, List.getElem?_eq_getElem h]
 simp
theorem sum_fn (g : Option Nat) (xs : List Int) (hl : xs.length ≤ 1000000) (hb : ∀ j, 0 ≤ xs.getD j 0 ∧ xs.getD j 0 ≤ 1000000) : FnV 55 [.ints g xs] (.int .i64 xs.sum) := by
 have hb2 : ∀ k, k ≤ xs.length → 0 ≤ sumT xs k ∧ sumT xs k ≤ 1000000 * (k : Int) := by
  intro k
  induction k with
  | zero => intro _; simp [sumT]
  | succ k ih =>
   intro hk
   have h1 := ih (by omega)
   have h2 := hb k
   rw [sumT_succ (by omega)]
   omega
 refine fn_of (cx_ok [0, 2, 3, 4, 8]) Tryz.func55 rfl (by decide) Tryz.ntmps55 (Nat.le_of_ble_eq_true rfl) fun base => ?_
 refine wrs fun K hK => ?_
 conv => whnf
 refine hK _ ?_
 clear hK K
 refine wrs fun K hK => ?_
 conv => whnf
 refine hK _ ?_
 clear hK K
 refine W.seqK fun K1 hK1 => wrs fun K hK => ?_
 conv => whnf
 refine hK _ (W.block (W.invA (fun m e => ∃ k : Nat, k ≤ xs.length ∧ m = xs.length - k ∧ e = [(0, .v (.ints g xs)), (3, .v (.int .i64 (sumT xs k))), (4, .v (.int .i64 k))]) ⟨0, Nat.zero_le _, rfl, rfl⟩ ?_))
 clear hK K
 rintro m e ⟨k, hk, hm, rfl⟩
 refine W.seqK fun K7 hK7 => wrs fun K hK => ?_
 conv => whnf
 refine hK _ (W.cond ⟨fun h3 => ?_, fun h3 => ?_⟩) <;> clear hK K <;> (first | replace h3 := of_decide_eq_true h3 | replace h3 := of_decide_eq_false h3)
 ·have h1 := hb2 (k + 1) (by omega)
  rw [sumT_succ (by omega)] at h1
  refine W.skip (hK7 _ ?_)
  clear hK7 K7
  refine W.seqK fun K8 hK8 => W.block ?_
  refine wrg ?_
  conv => whnf
  refine ⟨oo, ?_⟩
  conv => whnf
  rw [Int.toNat_natCast]
  refine ⟨by show _ ≤ sumT xs k + xs.getD k 0 ∧ sumT xs k + xs.getD k 0 ≤ _; omega, ?_⟩
  conv => whnf
  refine hK8 _ ?_
  clear hK8 K8
  refine wrg ?_
  conv => whnf
  refine ⟨oo, ?_⟩
  conv => whnf
  rw [← sumT_succ (by omega)]
  exact againA ⟨k + 1, by omega, rfl, rfl⟩
 ·obtain rfl : k = xs.length := by omega
  refine W.exit (hK1 _ ?_)
  clear hK7 K7 hK1 K1
  rw [show sumT xs xs.length = xs.sum from congrArg List.sum (List.take_length ..)]
  refine wrs fun K hK => ?_
  conv => whnf
  refine hK _ ?_
  clear hK K
  refine W.ret ?_
  conv => whnf
  exact ⟨.v (.int .i64 xs.sum), ⟨rfl, rfl⟩, trivial, rfl⟩

open Go Go.RowKit Go.ChangeShapes Go.WideShapes Go.ChangeAt Go.Proofs Go.Proofs.YtlmckocbhcpmdaaGreat
set_option maxRecDepth 100000

def signs : List Char := [104, 97, 114, 110, 101, 115, 115, 32, 48, 57, 56, 100, 53, 97, 99, 53, 56, 52, 54, 50, 51, 98, 100, 54, 52, 56, 97, 51, 53, 53, 49, 100, 101, 98, 98, 54, 102, 54, 101, 101, 55, 55, 53, 52, 97, 52, 102, 97, 55, 50, 97, 54, 56, 54, 52, 48, 101, 56, 97, 48, 50, 50, 48, 55, 51, 54, 97, 56, 50, 51, 53, 49, 32, 99, 117, 116, 32, 97, 116, 32, 108, 111, 111, 112, 46, 101, 120, 97, 109, 112, 108, 101, 47, 103, 48, 49, 48, 48, 48, 47, 108, 97, 119, 115, 46, 70, 110, 69, 108, 101, 109, 101, 110, 116, 115, 32, 108, 111, 111, 112, 46, 101, 120, 97, 109, 112, 108, 101, 47, 103, 48, 49, 48, 48, 48, 47, 108, 97, 119, 115, 46, 70, 110, 78, 117, 109, 98, 101, 114, 101, 100, 32, 108, 111, 111, 112, 46, 101, 120, 97, 109, 112, 108, 101, 47, 103, 48, 49, 48, 48, 48, 47, 108, 97, 119, 115, 46, 70, 110, 68, 101, 103, 114, 101, 101, 115, 32, 108, 111, 111, 112, 46, 101, 120, 97, 109, 112, 108, 101, 47, 103, 48, 49, 48, 48, 48, 47, 108, 97, 119, 115, 46, 70, 110, 77, 105, 110, 105, 109, 97, 108, 32, 108, 111, 111, 112, 46, 101, 120, 97, 109, 112, 108, 101, 47, 103, 48, 49, 48, 48, 48, 47, 108, 97, 119, 115, 46, 70, 110, 77, 111, 100, 117, 108, 97, 114, 70, 97, 99, 116, 111, 114, 115, 32, 108, 111, 111, 112, 46, 101, 120, 97, 109, 112, 108, 101, 47, 103, 48, 49, 48, 48, 48, 47, 108, 97, 119, 115, 46, 70, 110, 76, 111, 103, 115, 32, 108, 111, 111, 112, 46, 101, 120, 97, 109, 112, 108, 101, 47, 103, 48, 49, 48, 48, 48, 47, 108, 97, 119, 115, 46, 70, 110, 80, 114, 105, 109, 105, 116, 105, 118, 101, 32, 108, 111, 111, 112, 46, 101, 120, 97, 109, 112, 108, 101, 47, 103, 48, 49, 48, 48, 48, 47, 108, 97, 119, 115, 46, 70, 110, 76, 105, 102, 116, 101, 100, 70, 97, 99, 116, 111, 114, 115, 32, 108, 111, 111, 112, 46, 101, 120, 97, 109, 112, 108, 101, 47, 103, 48, 49, 48, 48, 48, 47, 108, 97, 119, 115, 46, 70, 110, 69, 120, 116, 101, 110, 115, 105, 111, 110, 115, 32, 108, 111, 111, 112, 46, 101, 120, 97, 109, 112, 108, 101, 47, 103, 48, 49, 48, 48, 48, 47, 108, 97, 119, 115, 46, 70, 110, 85, 110, 105, 116, 115, 32, 108, 111, 111, 112, 46, 101, 120, 97, 109, 112, 108, 101, 47, 103, 48, 49, 48, 48, 48, 47, 108, 97, 119, 115, 46, 70, 110, 82, 101, 115, 105, 100, 117, 97, 108, 70, 97, 99, 116, 111, 114, 115, 32, 108, 111, 111, 112, 46, 101, 120, 97, 109, 112, 108, 101, 47, 103, 48, 49, 48, 48, 48, 47, 108, 97, 119, 115, 46, 70, 110, 69, 120, 97, 99, 116, 83, 112, 108, 105, 116, 116, 105, 110, 103, 115, 79, 102].map Char.ofNat
def word1 : List Char := [99, 117, 116].map Char.ofNat
def words : List (List Char) := [[97, 116], [108, 111, 111, 112, 46, 101, 120, 97, 109, 112, 108, 101, 47, 103, 48, 49, 48, 48, 48, 47, 108, 97, 119, 115, 46, 70, 110, 69, 108, 101, 109, 101, 110, 116, 115], [108, 111, 111, 112, 46, 101, 120, 97, 109, 112, 108, 101, 47, 103, 48, 49, 48, 48, 48, 47, 108, 97, 119, 115, 46, 70, 110, 78, 117, 109, 98, 101, 114, 101, 100], [108, 111, 111, 112, 46, 101, 120, 97, 109, 112, 108, 101, 47, 103, 48, 49, 48, 48, 48, 47, 108, 97, 119, 115, 46, 70, 110, 68, 101, 103, 114, 101, 101, 115], [108, 111, 111, 112, 46, 101, 120, 97, 109, 112, 108, 101, 47, 103, 48, 49, 48, 48, 48, 47, 108, 97, 119, 115, 46, 70, 110, 77, 105, 110, 105, 109, 97, 108], [108, 111, 111, 112, 46, 101, 120, 97, 109, 112, 108, 101, 47, 103, 48, 49, 48, 48, 48, 47, 108, 97, 119, 115, 46, 70, 110, 77, 111, 100, 117, 108, 97, 114, 70, 97, 99, 116, 111, 114, 115], [108, 111, 111, 112, 46, 101, 120, 97, 109, 112, 108, 101, 47, 103, 48, 49, 48, 48, 48, 47, 108, 97, 119, 115, 46, 70, 110, 76, 111, 103, 115], [108, 111, 111, 112, 46, 101, 120, 97, 109, 112, 108, 101, 47, 103, 48, 49, 48, 48, 48, 47, 108, 97, 119, 115, 46, 70, 110, 80, 114, 105, 109, 105, 116, 105, 118, 101], [108, 111, 111, 112, 46, 101, 120, 97, 109, 112, 108, 101, 47, 103, 48, 49, 48, 48, 48, 47, 108, 97, 119, 115, 46, 70, 110, 76, 105, 102, 116, 101, 100, 70, 97, 99, 116, 111, 114, 115], [108, 111, 111, 112, 46, 101, 120, 97, 109, 112, 108, 101, 47, 103, 48, 49, 48, 48, 48, 47, 108, 97, 119, 115, 46, 70, 110, 69, 120, 116, 101, 110, 115, 105, 111, 110, 115], [108, 111, 111, 112, 46, 101, 120, 97, 109, 112, 108, 101, 47, 103, 48, 49, 48, 48, 48, 47, 108, 97, 119, 115, 46, 70, 110, 85, 110, 105, 116, 115], [108, 111, 111, 112, 46, 101, 120, 97, 109, 112, 108, 101, 47, 103, 48, 49, 48, 48, 48, 47, 108, 97, 119, 115, 46, 70, 110, 82, 101, 115, 105, 100, 117, 97, 108, 70, 97, 99, 116, 111, 114, 115], [108, 111, 111, 112, 46, 101, 120, 97, 109, 112, 108, 101, 47, 103, 48, 49, 48, 48, 48, 47, 108, 97, 119, 115, 46, 70, 110, 69, 120, 97, 99, 116, 83, 112, 108, 105, 116, 116, 105, 110, 103, 115, 79, 102]].map fun w => w.map Char.ofNat
theorem initS : Tryz.checked.prog.initOrder = String.ofList signs := by kernel_rfl
theorem initW : behindMainWord (wordsSigns Tryz.checked.prog.initOrder.toList) = word1 :: words := by rw [initS, String.toList_ofList]; kernel_rfl
theorem mayEnter_of {P : Program} {c : List Char} {rest : List (List Char)} (h0 : behindMainWord (wordsSigns P.initOrder.toList) = c :: rest) (h1 : (stripLifts liftWords (c :: rest)) = ([], c :: rest)) (h2 : (c == "cut".toList) = true)
  (h3 : P.laysLater = false) (h4 : P.bearsReflect = false) (h5 : P.doorFits [] = true) : P.mayEnter = true := by
 unfold Program.mayEnter
 rw [h0]
 have e : (some c == some "cut".toList) = true := h2
 refine (Bool.or_eq_true _ _).mpr (.inr ?_)
 rw [h1, h3, h4, h5]
 show ((some c == some "cut".toList) && _ && _ && _ && _) = true
 rw [e]
 rfl
theorem lifts0 : stripLifts liftWords (word1 :: words) = ([], word1 :: words) := by kernel_rfl
theorem enterP : Tryz.checked.prog.mayEnter = true := mayEnter_of initW lifts0 (by kernel_rfl) (by kernel_rfl) (by kernel_rfl) (by kernel_rfl)
theorem headLifts_of {P : Program} {c : List Char} {rest : List (List Char)} (h0 : behindMainWord (wordsSigns P.initOrder.toList) = c :: rest) (h1 : stripLifts liftWords (c :: rest) = ([], c :: rest)) : P.headLifts = [] := by
 unfold Program.headLifts
 rw [h0, h1]
 dsimp only
 split <;> rfl
theorem liftsFinal_of {P : Program} {c : List Char} {rest : List (List Char)} (h0 : behindMainWord (wordsSigns P.initOrder.toList) = c :: rest) (hh : P.headLifts = []) (h2 : (c == "carried".toList) = false) : P.liftsFinal = false := by
 have e : (some c == some "carried".toList) = false := h2
 unfold Program.liftsFinal
 rw [h0, hh]
 show (((some c == some "carried".toList) && _) || _) = false
 rw [e]
 rfl
theorem make_of {P : Program} {c : List Char} {rest : List (List Char)} (h0 : behindMainWord (wordsSigns P.initOrder.toList) = c :: rest) (h1 : (c == "gc".toList) = false) (h2 : (c == "spec".toList) = false) (h3 : (c == "cut".toList) = true) : P.make = some .cut := by
 unfold Program.make
 rw [h0]
 dsimp only
 rw [h1, h2, h3]
 rfl
theorem headP : Tryz.checked.prog.headLifts = [] := headLifts_of initW lifts0
theorem liftP : Tryz.checked.prog.liftsFinal = false := liftsFinal_of initW headP (by kernel_rfl)
theorem makeP : Tryz.checked.prog.make = some .cut := make_of initW (by kernel_rfl) (by kernel_rfl) (by kernel_rfl)

end Go.Proofs.YtlmckocbhcpmdaaGreat
