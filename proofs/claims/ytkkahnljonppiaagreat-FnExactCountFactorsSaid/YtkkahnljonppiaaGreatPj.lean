/- What the program's functions and the reference's return. No conditions. -/
import Derived.Test.YtkkahnljonppiaaGreatPi
import Derived.Test.YtkkahnljonppiaaGreatRows
namespace Go.Proofs.YtkkahnljonppiaaGreat
open Go Go.RowKit Go.Proofs Poly Hull
set_option maxRecDepth 100000
set_option maxHeartbeats 8000000


structure SplB (p : Int) (l : List Int) (S : List Spl.Sp) (code : Int) : Prop where
 ok : Spl.Ok 10000 S
 pos : code = 0 → 1 ≤ S.length
 neg : code ≠ 0 → S = []
 imp : ∀ g : Option Nat, FnV 23 [.int .i64 p, .ints g l] (.tup [vSs S, .int .i64 code])
 spe : ∀ g : Option Nat, FnV 21 [.int .i64 p, .ints g l] (.tup [vSs S, .int .i64 code])

theorem spl_both (p : Int) (l : List Int) (hl : l.length ≤ 1048576) : ∃ S code, SplB p l S code := by
 by_cases hcode : codeRes p l = 0
 case neg =>
  refine ⟨[], codeRes p l, Spl.Ok.nil.le (by decide), fun h => absurd h hcode, fun _ => rfl, fun g => ?_, fun g => ?_⟩
  ·refine fn_of (cx_ok [0, 1, 4, 5, 6, 7, 8, 9, 11, 12, 13, 14, 19, 24, 27, 28, 29, 30, 39, 40, 41, 42, 55]) Tryz.func23 rfl (by decide) Tryz.ntmps23 (Nat.le_of_ble_eq_true rfl) fun base => ?_
   refine wrs fun K hK => ?_
   conv => whnf
   refine hK _ ?_
   clear hK K
   refine W.seqK fun K1 hK1 => ?_
   refine wrs fun K hK => ?_
   conv => whnf
   refine callV rfl (residual_fn g p l) fun hs' hhs => ?_
   try dsimp only at hhs
   conv => whnf
   refine hK _ ?_
   clear hK K
   refine wrs fun K hK => ?_
   conv => whnf
   refine hK _ (W.cond ⟨fun _ => ?_, fun hcc => absurd hcode (of_decide_eq_false hcc)⟩)
   clear hK K
   refine wrs fun K hK => ?_
   conv => whnf
   refine hK _ ?_
   clear hK K
   refine W.ret ?_
   conv => whnf
   exact ⟨.v (vSs []), rfl, ⟨trivial, fun _ h => absurd h (Nat.not_lt_zero _)⟩, .v (.int .i64 (codeRes p l)), ⟨rfl, rfl⟩, trivial, rfl⟩
  ·refine fn_of (cx_ok [0, 1, 4, 5, 6, 17, 19]) Tryz.func21 rfl (by decide) Tryz.ntmps21 (Nat.le_of_ble_eq_true rfl) fun base => ?_
   refine wrs fun K hK => ?_
   conv => whnf
   refine hK _ ?_
   clear hK K
   refine wrs fun K hK => ?_
   conv => whnf
   refine callV rfl (l14Code_fn g p l (by omega)) fun hs' hhs => ?_
   try dsimp only at hhs
   conv => whnf
   refine hK _ ?_
   clear hK K
   refine W.seqK fun K1 hK1 => ?_
   refine wrs fun K hK => ?_
   conv => whnf
   refine ⟨fun h1 => ?_, fun h1 => ?_⟩ <;> conv => whnf
   ·exact absurd (of_decide_eq_true h1) hcode
   refine hK _ (W.condF rfl (W.skip (hK1 _ ?_)))
   clear hK K hK1 K1
   refine W.seqK fun K1 hK1 => ?_
   refine wrs fun K hK => ?_
   conv => whnf
   refine hK _ (W.cond ⟨fun _ => ?_, fun hcc => absurd hcode (of_decide_eq_false hcc)⟩)
   clear hK K
   refine wrs fun K hK => ?_
   conv => whnf
   refine hK _ ?_
   clear hK K
   refine W.ret ?_
   conv => whnf
   exact ⟨.v (vSs []), rfl, ⟨trivial, fun _ h => absurd h (Nat.not_lt_zero _)⟩, .v (.int .i64 (codeRes p l)), ⟨rfl, rfl⟩, trivial, rfl⟩
 case pos =>
  obtain ⟨hp, hP, T, R, F, hN⟩ := newton p l hcode
  letI := sp_of hp
  have hp2 := isP_le hP
  have hrI : ∀ g : Option Nat, FnV 32 [.int .i64 p, .ints g l] (.bool (bP (RegT p R T.length))) := fun g => isRegular_fn p hp2 g l T hN.few (hN.slI g) R (fun i hi => ⟨(hN.res i hi).1, (hN.res i hi).2.1⟩) (fun i hi => hN.reI g i hi)
  have hrS : ∀ g : Option Nat, FnV 29 [.int .i64 p, .ints g l] (.bool (bP (RegT p R T.length))) := fun g => l14Regular_fn p g l T hN.few (hN.slS g) R (fun i hi => ⟨hN.mod i hi, (hN.res i hi).2.1⟩) (fun i hi => hN.reS g i hi)
  by_cases hr : RegT p R T.length
  case neg =>
   refine ⟨[], 4, Spl.Ok.nil.le (by decide), fun h => absurd h (by decide), fun _ => rfl, fun g => ?_, fun g => ?_⟩
   ·refine fn_of (cx_ok [0, 1, 4, 5, 6, 7, 8, 9, 11, 12, 13, 14, 19, 24, 27, 28, 29, 30, 39, 40, 41, 42, 55]) Tryz.func23 rfl (by decide) Tryz.ntmps23 (Nat.le_of_ble_eq_true rfl) fun base => ?_
    refine wrs fun K hK => ?_
    conv => whnf
    refine hK _ ?_
    clear hK K
    refine W.seqK fun K1 hK1 => ?_
    refine wrs fun K hK => ?_
    conv => whnf
    refine callV rfl (residual_fn g p l) fun hs' hhs => ?_
    try dsimp only at hhs
    conv => whnf
    rw [hcode]
    refine hK _ ?_
    clear hK K
    refine wrs fun K hK => ?_
    conv => whnf
    refine hK _ (W.cond ⟨fun hcc => absurd rfl (of_decide_eq_true hcc), fun _ => W.skip (hK1 _ ?_)⟩)
    clear hK K hK1 K1
    refine W.seqK fun K1 hK1 => ?_
    refine wrs fun K hK => ?_
    conv => whnf
    refine callV rfl (hrI g) fun hs' hhs => ?_
    try dsimp only at hhs
    conv => whnf
    rw [bP_false hr]
    conv => whnf
    refine hK _ (W.cond ⟨fun _ => ?_, fun h => absurd h (by decide)⟩)
    clear hK K
    refine wrs fun K hK => ?_
    conv => whnf
    refine hK _ ?_
    clear hK K
    refine W.ret ?_
    conv => whnf
    exact ⟨.v (vSs []), rfl, ⟨trivial, fun _ h => absurd h (Nat.not_lt_zero _)⟩, .v (.int .i64 4), ⟨rfl, rfl⟩, trivial, rfl⟩
   ·refine fn_of (cx_ok [0, 1, 4, 5, 6, 17, 19]) Tryz.func21 rfl (by decide) Tryz.ntmps21 (Nat.le_of_ble_eq_true rfl) fun base => ?_
    refine wrs fun K hK => ?_
    conv => whnf
    refine hK _ ?_
    clear hK K
    refine wrs fun K hK => ?_
    conv => whnf
    refine callV rfl (l14Code_fn g p l (by omega)) fun hs' hhs => ?_
    try dsimp only at hhs
    conv => whnf
    rw [hcode]
    refine hK _ ?_
    clear hK K
    refine W.seqK fun K1 hK1 => ?_
    refine wrs fun K hK => ?_
    conv => whnf
    refine ⟨fun h1 => ?_, fun h1 => ?_⟩ <;> conv => whnf
    ·refine callV rfl (hrS g) fun hs' hhs => ?_
     try dsimp only at hhs
     conv => whnf
     rw [bP_false hr]
     conv => whnf
     refine hK _ (W.cond ⟨fun _ => ?_, fun h => absurd h (by decide)⟩)
     clear hK K
     refine wrg ?_
     conv => whnf
     refine hK1 _ ?_
     clear hK1 K1
     refine W.seqK fun K1 hK1 => ?_
     refine wrs fun K hK => ?_
     conv => whnf
     refine hK _ (W.cond ⟨fun _ => ?_, fun h => absurd h (by decide)⟩)
     clear hK K
     refine wrs fun K hK => ?_
     conv => whnf
     refine hK _ ?_
     clear hK K
     refine W.ret ?_
     conv => whnf
     exact ⟨.v (vSs []), rfl, ⟨trivial, fun _ h => absurd h (Nat.not_lt_zero _)⟩, .v (.int .i64 4), ⟨rfl, rfl⟩, trivial, rfl⟩
    ·exact absurd rfl (of_decide_eq_false h1)
  case pos =>
   have hok := Spl.putO_ok (run := runT T) (ds := fun i => degT (F i) (F i).length) (n := T.length) (m := 100) hN.run hN.deg T.length (Nat.le_refl _)
   have h1 := hN.one
   have h100 : T.length * 100 ≤ 100 * 100 := Nat.mul_le_mul_right _ hN.few
   have hne : Spl.putO (runT T) (fun i => degT (F i) (F i).length) T.length ≠ [] := by
    obtain ⟨k, hk⟩ : ∃ k, T.length = k + 1 := ⟨T.length - 1, by omega⟩
    rw [hk, Spl.putO]
    exact Spl.putI_ne _ (hN.deg1 k (by omega))
   refine ⟨Spl.putO (runT T) (fun i => degT (F i) (F i).length) T.length, 0, hok.le (by omega), fun _ => List.length_pos_iff.2 hne, fun h => absurd rfl h, fun g => splittings_ok p g l hcode T hN.few hN.run (hN.slI g) R F hN.res hN.deg (hN.reI g) (hrI g) hr, fun g => ?_⟩
   refine fn_of (cx_ok [0, 1, 4, 5, 6, 17, 19]) Tryz.func21 rfl (by decide) Tryz.ntmps21 (Nat.le_of_ble_eq_true rfl) fun base => ?_
   refine wrs fun K hK => ?_
   conv => whnf
   refine hK _ ?_
   clear hK K
   refine wrs fun K hK => ?_
   conv => whnf
   refine callV rfl (l14Code_fn g p l (by omega)) fun hs' hhs => ?_
   try dsimp only at hhs
   conv => whnf
   rw [hcode]
   refine hK _ ?_
   clear hK K
   refine W.seqK fun K1 hK1 => ?_
   refine wrs fun K hK => ?_
   conv => whnf
   refine ⟨fun h2 => ?_, fun h2 => ?_⟩ <;> conv => whnf
   ·refine callV rfl (hrS g) fun hs' hhs => ?_
    try dsimp only at hhs
    conv => whnf
    rw [bP_true hr]
    conv => whnf
    refine hK _ (W.cond ⟨fun h => absurd h (by decide), fun _ => W.skip (hK1 _ ?_)⟩)
    clear hK K hK1 K1
    refine W.seqK fun K1 hK1 => ?_
    refine wrs fun K hK => ?_
    conv => whnf
    refine hK _ (W.cond ⟨fun hcc => absurd rfl (of_decide_eq_true hcc), fun _ => W.skip (hK1 _ ?_)⟩)
    clear hK K hK1 K1
    refine wrs fun K hK => ?_
    conv => whnf
    refine callV rfl (l14Splittings_fn p g l T hN.few hN.run (hN.slS g) R F hN.res hN.deg (hN.reS g)) fun hs' hhs => ?_
    try dsimp only at hhs
    conv => whnf
    refine hK _ ?_
    clear hK K
    refine W.ret ?_
    conv => whnf
    exact ⟨.v (vSs (Spl.putO (runT T) (fun i => degT (F i) (F i).length) T.length)), ⟨rfl, rfl, rfl, fun _ _ => rfl⟩, ⟨trivial, fun _ _ => ⟨trivial, trivial, trivial, trivial⟩⟩, .v (.int .i64 0), ⟨rfl, rfl⟩, trivial, rfl⟩
   ·exact absurd rfl (of_decide_eq_false h2)

theorem countFactors_fn (g : Option Nat) (S : List Spl.Sp) (hS : Spl.Ok 10000 S) (f : Nat) (P : Spl.Sp → Bool) (hP : ∀ j, j < S.length → FnV f [vS (S.getD j (0, 0, 0))] (.bool (P (S.getD j (0, 0, 0))))) :
  FnV 24 [.vals g 3 S.length fun j => vS (S.getD j (0, 0, 0)), .func f []] (.int .i64 (Spl.cnt P S S.length)) := by
 have hfew := hS.few
 have hbd := fun k hk => Spl.cnt_bd (P := P) hS k hk
 refine fn_of (cx_ok [0, 1, 4, 5, 7, 8, 9, 10, 11, 16]) Tryz.func24 rfl (by decide) Tryz.ntmps24 (Nat.le_of_ble_eq_true rfl) fun base => ?_
 refine wrs fun K hK => ?_
 conv => whnf
 refine hK _ ?_
 clear hK K
 refine wrs fun K hK => ?_
 conv => whnf
 refine hK _ ?_
 clear hK K
 refine W.seqK fun K1 hK1 => wrs fun K hK => ?_
 conv => whnf
 refine hK _ (W.block (W.invA (fun m e => ∃ k : Nat, k ≤ S.length ∧ m = S.length - k ∧ e = [(1, .v (.func f [])), (5, .v (.int .i64 (Spl.cnt P S k))), (8, .v (.vals g 3 S.length fun j => vS (S.getD j (0, 0, 0)))), (9, .v (.int .i64 S.length)), (10, .v (.int .i64 k))]) ⟨0, Nat.zero_le _, rfl, rfl⟩ ?_))
 clear hK K
 rintro m e ⟨k, h1, hm, rfl⟩
 refine wrs fun K hK => ?_
 conv => whnf
 refine hK _ ?_
 clear hK K
 refine W.seqK fun K7 hK7 => W.cond ⟨fun h3 => ?_, fun h3 => ?_⟩ <;> (first | replace h3 := of_decide_eq_true h3 | replace h3 := of_decide_eq_false h3)
 ·have hk : k < S.length := by omega
  have b1 := hbd (k + 1) (by omega)
  have e10 : ((k + 1 : Nat) : Int) * (10000 : Nat) ≤ 10000 * 10000 := Int.mul_le_mul_of_nonneg_right (by omega) (by decide)
  refine W.skip (hK7 _ ?_)
  clear hK7 K7
  refine W.seqK fun K8 hK8 => W.block ?_
  refine wrs fun K hK => ?_
  conv => whnf
  refine ⟨oo, ?_⟩
  conv => whnf
  rw [Int.toNat_natCast]
  intro b_7 hs_7 hh_7 hf_7
  try dsimp only at hh_7 hf_7
  conv => whnf
  refine ⟨s23, ?_⟩
  conv => whnf
  refine hK _ ?_
  clear hK K
  refine wrs fun K hK => ?_
  conv => whnf
  refine callV rfl (hP k hk) fun hs' hhs => ?_
  try dsimp only at hhs
  conv => whnf
  refine hK _ (W.cond ⟨fun h4 => ?_, fun h4 => ?_⟩) <;> clear hK K
  ·have hnx : Spl.cnt P S (k + 1) = Spl.cnt P S k + (S.getD k Spl.z0).2.2 := by rw [Spl.cnt, show P (S.getD k Spl.z0) = true from h4, cond_true]
   rw [hnx] at b1
   refine wrg ?_
   conv => whnf
   refine ⟨by show _ ≤ Spl.cnt P S k + (S.getD k Spl.z0).2.2 ∧ Spl.cnt P S k + (S.getD k Spl.z0).2.2 ≤ _; omega, ?_⟩
   conv => whnf
   refine hK8 _ ?_
   clear hK8 K8
   refine wrg ?_
   conv => whnf
   refine ⟨oo, ?_⟩
   conv => whnf
   exact againA ⟨k + 1, by omega, rfl, by rw [hnx]⟩
  ·have hnx : Spl.cnt P S (k + 1) = Spl.cnt P S k := by rw [Spl.cnt, show P (S.getD k Spl.z0) = false from h4, cond_false, Int.add_zero]
   refine W.skip (hK8 _ ?_)
   clear hK8 K8
   refine wrg ?_
   conv => whnf
   refine ⟨oo, ?_⟩
   conv => whnf
   exact againA ⟨k + 1, by omega, rfl, by rw [hnx]⟩
 ·obtain rfl : k = S.length := by omega
  refine W.exit (hK1 _ ?_)
  clear hK7 K7 hK1 K1
  refine wrs fun K hK => ?_
  conv => whnf
  refine hK _ ?_
  clear hK K
  refine W.ret ?_
  conv => whnf
  exact ⟨.v (.int .i64 (Spl.cnt P S S.length)), ⟨rfl, rfl⟩, trivial, rfl⟩

theorem l14Count_fn (g : Option Nat) (S : List Spl.Sp) (hS : Spl.Ok 10000 S) : FnV 22 [.vals g 3 S.length fun j => vS (S.getD j (0, 0, 0))] (.int .i64 (Spl.cnt (fun _ => true) S S.length)) := by
 have hfew := hS.few
 have hbd := fun k hk => Spl.cnt_bd (P := fun _ => true) hS k hk
 refine fn_of (cx_ok [0, 2, 3, 4, 8]) Tryz.func22 rfl (by decide) Tryz.ntmps22 (Nat.le_of_ble_eq_true rfl) fun base => ?_
 refine wrs fun K hK => ?_
 conv => whnf
 refine hK _ ?_
 clear hK K
 refine wrs fun K hK => ?_
 conv => whnf
 refine hK _ ?_
 clear hK K
 refine W.seqK fun K1 hK1 => wrs fun K hK => ?_
 conv => whnf
 refine hK _ (W.block (W.invA (fun m e => ∃ k : Nat, k ≤ S.length ∧ m = S.length - k ∧ e = [(0, .v (.vals g 3 S.length fun j => vS (S.getD j (0, 0, 0)))), (3, .v (.int .i64 (Spl.cnt (fun _ => true) S k))), (4, .v (.int .i64 k))]) ⟨0, Nat.zero_le _, rfl, rfl⟩ ?_))
 clear hK K
 rintro m e ⟨k, h1, hm, rfl⟩
 refine W.seqK fun K7 hK7 => wrs fun K hK => ?_
 conv => whnf
 refine hK _ (W.cond ⟨fun h3 => ?_, fun h3 => ?_⟩) <;> clear hK K <;> (first | replace h3 := of_decide_eq_true h3 | replace h3 := of_decide_eq_false h3)
 ·have hk : k < S.length := by omega
  have b1 := hbd (k + 1) (by omega)
  have e10 : ((k + 1 : Nat) : Int) * (10000 : Nat) ≤ 10000 * 10000 := Int.mul_le_mul_of_nonneg_right (by omega) (by decide)
  have hnx : Spl.cnt (fun _ => true) S (k + 1) = Spl.cnt (fun _ => true) S k + (S.getD k Spl.z0).2.2 := rfl
  rw [hnx] at b1
  refine W.skip (hK7 _ (W.seqK fun K8 hK8 => W.block ?_))
  clear hK7 K7
  refine wrg ?_
  conv => whnf
  refine ⟨oo, ?_⟩
  conv => whnf
  rw [Int.toNat_natCast]
  refine ⟨by show _ ≤ Spl.cnt (fun _ => true) S k + (S.getD k Spl.z0).2.2 ∧ Spl.cnt (fun _ => true) S k + (S.getD k Spl.z0).2.2 ≤ _; omega, ?_⟩
  conv => whnf
  refine hK8 _ ?_
  clear hK8 K8
  refine wrg ?_
  conv => whnf
  refine ⟨oo, ?_⟩
  conv => whnf
  exact againA ⟨k + 1, by omega, rfl, by rw [hnx]⟩
 ·obtain rfl : k = S.length := by omega
  refine W.exit (hK1 _ ?_)
  clear hK7 K7 hK1 K1
  refine wrs fun K hK => ?_
  conv => whnf
  refine hK _ ?_
  clear hK K
  refine W.ret ?_
  conv => whnf
  exact ⟨.v (.int .i64 (Spl.cnt (fun _ => true) S S.length)), ⟨rfl, rfl⟩, trivial, rfl⟩

theorem anySp_fn (x : Spl.Sp) : FnV 25 [vS x] (.bool true) := by
 refine fn_of (cx_ok [0, 2]) Tryz.func25 rfl (by decide) Tryz.ntmps25 (Nat.le_of_ble_eq_true rfl) fun base => ?_
 refine wrs fun K hK => ?_
 conv => whnf
 refine ⟨rfl, ?_⟩
 conv => whnf
 intro b_1 hs_1 hh_1 hf_1
 try dsimp only at hh_1 hf_1
 conv => whnf
 refine hK _ ?_
 clear hK K
 refine wrs fun K hK => ?_
 conv => whnf
 refine hK _ ?_
 clear hK K
 refine W.ret ?_
 conv => whnf
 exact ⟨.v (.bool true), rfl, trivial, rfl⟩
theorem oneSp_fn (x : Spl.Sp) (h1 : 1 ≤ x.1 ∧ x.1 ≤ 1000) (h2 : 1 ≤ x.2.1 ∧ x.2.1 ≤ 1000) : FnV 26 [vS x] (.bool (Spl.one x)) := by
 have h3 : 0 ≤ x.1 * x.2.1 ∧ x.1 * x.2.1 ≤ 1000 * 1000 := ⟨Int.mul_nonneg (by omega) (by omega), Int.mul_le_mul h1.2 h2.2 (by omega) (by decide)⟩
 refine fn_of (cx_ok [0, 1, 2]) Tryz.func26 rfl (by decide) Tryz.ntmps26 (Nat.le_of_ble_eq_true rfl) fun base => ?_
 refine wrs fun K hK => ?_
 conv => whnf
 refine ⟨rfl, ?_⟩
 conv => whnf
 intro b_1 hs_1 hh_1 hf_1
 try dsimp only at hh_1 hf_1
 conv => whnf
 refine hK _ ?_
 clear hK K
 refine wrs fun K hK => ?_
 conv => whnf
 refine ⟨by show _ ≤ x.1 * x.2.1 ∧ x.1 * x.2.1 ≤ _; omega, ?_⟩
 conv => whnf
 refine hK _ ?_
 clear hK K
 refine W.ret ?_
 conv => whnf
 exact ⟨.v (.bool (Spl.one x)), rfl, trivial, rfl⟩

theorem CountFactors_both (p : Int) (f : List Int) (_ : inR p) (h : f.length ≤ 1048576) : ∃ (r0 : Int) (r1 : Int), (∀ g1 : Option Nat, FnV 7 [.int .i64 p, .ints g1 f] (.tup [.int .i64 r0, .int .i64 r1])) ∧
  (∀ g1 : Option Nat, FnV 9 [.int .i64 p, .ints g1 f] (.tup [.int .i64 r0, .int .i64 r1])) := by
 obtain ⟨S, code, hS⟩ := spl_both p f h
 refine ⟨Spl.cnt (fun _ => true) S S.length, code, fun g => ?_, fun g => ?_⟩
 ·refine fn_of (cx_ok [0, 1, 4, 5, 6, 7]) Tryz.func7 rfl (by decide) Tryz.ntmps7 (Nat.le_of_ble_eq_true rfl) fun base => ?_
  refine wrs fun K hK => ?_
  conv => whnf
  refine hK _ ?_
  clear hK K
  refine wrs fun K hK => ?_
  conv => whnf
  refine callV rfl (hS.spe g) fun hs' hhs => ?_
  try dsimp only at hhs
  conv => whnf
  refine hK _ ?_
  clear hK K
  refine wrs fun K hK => ?_
  conv => whnf
  refine callV rfl (l14Count_fn none S hS.ok) fun hs' hhs => ?_
  try dsimp only at hhs
  conv => whnf
  refine hK _ ?_
  clear hK K
  refine W.ret ?_
  conv => whnf
  exact ⟨.v (.int .i64 (Spl.cnt (fun _ => true) S S.length)), ⟨rfl, rfl⟩, trivial, .v (.int .i64 code), ⟨rfl, rfl⟩, trivial, rfl⟩
 ·refine fn_of (cx_ok [0, 1, 4, 5, 6, 7]) Tryz.func9 rfl (by decide) Tryz.ntmps9 (Nat.le_of_ble_eq_true rfl) fun base => ?_
  refine wrs fun K hK => ?_
  conv => whnf
  refine hK _ ?_
  clear hK K
  refine wrs fun K hK => ?_
  conv => whnf
  refine callV rfl (hS.imp g) fun hs' hhs => ?_
  try dsimp only at hhs
  conv => whnf
  refine hK _ ?_
  clear hK K
  refine wrs fun K hK => ?_
  conv => whnf
  refine callV rfl (countFactors_fn none S hS.ok _ (fun _ => true) (fun j _ => anySp_fn _)) fun hs' hhs => ?_
  try dsimp only at hhs
  conv => whnf
  refine hK _ ?_
  clear hK K
  refine W.ret ?_
  conv => whnf
  exact ⟨.v (.int .i64 (Spl.cnt (fun _ => true) S S.length)), ⟨rfl, rfl⟩, trivial, .v (.int .i64 code), ⟨rfl, rfl⟩, trivial, rfl⟩

theorem IsIrreducibleAt_both (p : Int) (f : List Int) (_ : inR p) (h : f.length ≤ 1048576) : ∃ (r0 : Bool) (r1 : Int), (∀ g1 : Option Nat, FnV 11 [.int .i64 p, .ints g1 f] (.tup [.bool r0, .int .i64 r1])) ∧
  (∀ g1 : Option Nat, FnV 12 [.int .i64 p, .ints g1 f] (.tup [.bool r0, .int .i64 r1])) := by
 obtain ⟨S, code, hS⟩ := spl_both p f h
 refine ⟨decide (code = 0 ∧ Spl.cnt (fun _ => true) S S.length = 1), code, fun g => ?_, fun g => ?_⟩
 ·refine fn_of (cx_ok [0, 1, 4, 5, 6, 7]) Tryz.func11 rfl (by decide) Tryz.ntmps11 (Nat.le_of_ble_eq_true rfl) fun base => ?_
  refine wrs fun K hK => ?_
  conv => whnf
  refine hK _ ?_
  clear hK K
  refine wrs fun K hK => ?_
  conv => whnf
  refine callV rfl (hS.spe g) fun hs' hhs => ?_
  try dsimp only at hhs
  conv => whnf
  refine hK _ ?_
  clear hK K
  refine wrs fun K hK => ?_
  conv => whnf
  refine ⟨fun h1 => ?_, fun h1 => ?_⟩ <;> conv => whnf
  ·have h1 := of_decide_eq_true h1
   refine callV rfl (l14Count_fn none S hS.ok) fun hs' hhs => ?_
   try dsimp only at hhs
   conv => whnf
   refine hK _ ?_
   clear hK K
   refine W.ret ?_
   conv => whnf
   exact ⟨.v (.bool (decide (code = 0 ∧ Spl.cnt (fun _ => true) S S.length = 1))), decide_eq_decide.2 ⟨fun h2 => ⟨h1, h2⟩, fun h2 => h2.2⟩, trivial, .v (.int .i64 code), ⟨rfl, rfl⟩, trivial, rfl⟩
  ·have h1 := of_decide_eq_false h1
   refine hK _ ?_
   clear hK K
   refine W.ret ?_
   conv => whnf
   exact ⟨.v (.bool (decide (code = 0 ∧ Spl.cnt (fun _ => true) S S.length = 1))), decide_eq_false (fun h2 => h1 h2.1), trivial, .v (.int .i64 code), ⟨rfl, rfl⟩, trivial, rfl⟩
 ·refine fn_of (cx_ok [0, 1, 4, 5, 6, 7]) Tryz.func12 rfl (by decide) Tryz.ntmps12 (Nat.le_of_ble_eq_true rfl) fun base => ?_
  refine wrs fun K hK => ?_
  conv => whnf
  refine hK _ ?_
  clear hK K
  refine wrs fun K hK => ?_
  conv => whnf
  refine callV rfl (hS.imp g) fun hs' hhs => ?_
  try dsimp only at hhs
  conv => whnf
  refine hK _ ?_
  clear hK K
  refine wrs fun K hK => ?_
  conv => whnf
  refine ⟨fun h1 => ?_, fun h1 => ?_⟩ <;> conv => whnf
  ·have h1 := of_decide_eq_true h1
   refine callV rfl (countFactors_fn none S hS.ok _ (fun _ => true) (fun j _ => anySp_fn _)) fun hs' hhs => ?_
   try dsimp only at hhs
   conv => whnf
   refine hK _ ?_
   clear hK K
   refine W.ret ?_
   conv => whnf
   exact ⟨.v (.bool (decide (code = 0 ∧ Spl.cnt (fun _ => true) S S.length = 1))), decide_eq_decide.2 ⟨fun h2 => ⟨h1, h2⟩, fun h2 => h2.2⟩, trivial, .v (.int .i64 code), ⟨rfl, rfl⟩, trivial, rfl⟩
  ·have h1 := of_decide_eq_false h1
   refine hK _ ?_
   clear hK K
   refine W.ret ?_
   conv => whnf
   exact ⟨.v (.bool (decide (code = 0 ∧ Spl.cnt (fun _ => true) S S.length = 1))), decide_eq_false (fun h2 => h1 h2.1), trivial, .v (.int .i64 code), ⟨rfl, rfl⟩, trivial, rfl⟩

theorem PadicRootCount_both (p : Int) (f : List Int) (_ : inR p) (h : f.length ≤ 1048576) : ∃ (r0 : Int) (r1 : Int), (∀ g1 : Option Nat, FnV 13 [.int .i64 p, .ints g1 f] (.tup [.int .i64 r0, .int .i64 r1])) ∧
  (∀ g1 : Option Nat, FnV 14 [.int .i64 p, .ints g1 f] (.tup [.int .i64 r0, .int .i64 r1])) := by
 obtain ⟨S, code, hS⟩ := spl_both p f h
 refine ⟨Spl.cnt Spl.one S S.length, code, fun g => ?_, fun g => ?_⟩
 ·refine fn_of (cx_ok [0, 1, 4, 5, 6, 7, 29]) Tryz.func13 rfl (by decide) Tryz.ntmps13 (Nat.le_of_ble_eq_true rfl) fun base => ?_
  refine wrs fun K hK => ?_
  conv => whnf
  refine hK _ ?_
  clear hK K
  refine wrs fun K hK => ?_
  conv => whnf
  refine callV rfl (hS.spe g) fun hs' hhs => ?_
  try dsimp only at hhs
  conv => whnf
  refine hK _ ?_
  clear hK K
  refine W.seqK fun K1 hK1 => ?_
  by_cases hc : code = 0
  ·have hpos := hS.pos hc
   have hcnt := Spl.cnt_one hS.ok S.length hpos (Nat.le_refl _)
   subst hc
   have fin : ¬ ((S.getD 0 Spl.z0).1 = 1 ∧ (S.getD 0 Spl.z0).2.1 = 1) → ∀ t : _root_.Go.Proofs.YtkkahnljonppiaaGreat.S, base ≤ t.hs → coverK t.env [(6, .v (vSs S)), (7, .v (.int .i64 0))] → K1 t := by
    intro hn t h7 h8
    rw [if_neg hn] at hcnt
    refine hK1 _ (W.weak (t := ⟨[(6, .v (vSs S)), (7, .v (.int .i64 0))], base⟩) ⟨h7, h8⟩ (Nat.le_refl _) ?_)
    clear hK1 K1
    refine wrs fun K hK => ?_
    conv => whnf
    refine hK _ ?_
    clear hK K
    refine W.ret ?_
    conv => whnf
    exact ⟨.v (.int .i64 (Spl.cnt Spl.one S S.length)), ⟨rfl, hcnt.symm⟩, trivial, .v (.int .i64 0), ⟨rfl, rfl⟩, trivial, rfl⟩
   refine wrs fun K hK => ?_
   conv => whnf
   refine ⟨fun h1 => ?_, fun h1 => ?_⟩ <;> conv => whnf
   ·refine ⟨⟨by decide, by omega⟩, ?_⟩
    conv => whnf
    refine ⟨fun h2 => ?_, fun h2 => ?_⟩ <;> conv => whnf
    ·have h2 : (S.getD 0 Spl.z0).1 = 1 := of_decide_eq_true h2
     refine ⟨⟨by decide, by omega⟩, ?_⟩
     conv => whnf
     refine hK _ (W.cond ⟨fun h3 => ?_, fun h3 => ?_⟩) <;> clear hK K
     ·have h3 : (S.getD 0 Spl.z0).2.1 = 1 := of_decide_eq_true h3
      rw [if_pos ⟨h2, h3⟩] at hcnt
      clear fin
      refine wrs fun K hK => ?_
      conv => whnf
      refine ⟨⟨by decide, by omega⟩, ?_⟩
      conv => whnf
      refine hK _ ?_
      clear hK K
      refine W.ret ?_
      conv => whnf
      exact ⟨.v (.int .i64 (Spl.cnt Spl.one S S.length)), ⟨rfl, hcnt.symm⟩, trivial, .v (.int .i64 0), ⟨rfl, rfl⟩, trivial, rfl⟩
     ·have h3 : ¬ (S.getD 0 Spl.z0).2.1 = 1 := of_decide_eq_false h3
      refine W.skip (fin (fun hh => h3 hh.2) _ (by dsimp only; omega) ?_)
      exact cvr
    ·have h2 : ¬ (S.getD 0 Spl.z0).1 = 1 := of_decide_eq_false h2
     refine hK _ (W.condF rfl (W.skip (fin (fun hh => h2 hh.1) _ (by dsimp only; omega) ?_)))
     exact cvr
   ·exact absurd rfl (of_decide_eq_false h1)
  ·have he := hS.neg hc
   subst he
   refine wrs fun K hK => ?_
   conv => whnf
   refine ⟨fun h1 => ?_, fun h1 => ?_⟩ <;> conv => whnf
   ·exact absurd (of_decide_eq_true h1) hc
   refine hK _ (W.condF rfl (W.skip (hK1 _ ?_)))
   clear hK K hK1 K1
   refine wrs fun K hK => ?_
   conv => whnf
   refine hK _ ?_
   clear hK K
   refine W.ret ?_
   conv => whnf
   exact ⟨.v (.int .i64 (Spl.cnt Spl.one [] ([] : List Spl.Sp).length)), ⟨rfl, rfl⟩, trivial, .v (.int .i64 code), ⟨rfl, rfl⟩, trivial, rfl⟩
 ·refine fn_of (cx_ok [0, 1, 4, 5, 6, 7]) Tryz.func14 rfl (by decide) Tryz.ntmps14 (Nat.le_of_ble_eq_true rfl) fun base => ?_
  refine wrs fun K hK => ?_
  conv => whnf
  refine hK _ ?_
  clear hK K
  refine wrs fun K hK => ?_
  conv => whnf
  refine callV rfl (hS.imp g) fun hs' hhs => ?_
  try dsimp only at hhs
  conv => whnf
  refine hK _ ?_
  clear hK K
  refine wrs fun K hK => ?_
  conv => whnf
  refine callV rfl (countFactors_fn none S hS.ok _ Spl.one (fun j hj => oneSp_fn _ (hS.ok.bd j hj).1 (hS.ok.bd j hj).2.1)) fun hs' hhs => ?_
  try dsimp only at hhs
  conv => whnf
  refine hK _ ?_
  clear hK K
  refine W.ret ?_
  conv => whnf
  exact ⟨.v (.int .i64 (Spl.cnt Spl.one S S.length)), ⟨rfl, rfl⟩, trivial, .v (.int .i64 code), ⟨rfl, rfl⟩, trivial, rfl⟩

open Go Go.RowKit Go.Proofs Poly
set_option maxRecDepth 100000
set_option maxHeartbeats 8000000

theorem mul64_fn (a b : Nat) (ha : a ≤ 1000) (hb : b ≤ 1000000) : FnV 108 [.int .u64 a, .int .u64 b] (.tup [.int .u64 0, .int .u64 (a * b : Nat)]) := by
 have hab : a * b ≤ 1000 * 1000000 := Nat.mul_le_mul ha hb
 have p32 : (2 : Int) ^ Int.toNat 32 = 4294967296 := rfl
 have ea : (a : Int) % (4294967295 + 1) = a := by omega
 have eb : (b : Int) % (4294967295 + 1) = b := by omega
 have da : (a : Int) / 2 ^ Int.toNat 32 = 0 := by rw [p32]; omega
 have db : (b : Int) / 2 ^ Int.toNat 32 = 0 := by rw [p32]; omega
 have em : (a : Int) * b % 18446744073709551616 = ((a * b : Nat) : Int) := by rw [← Int.natCast_mul]; omega
 have dm : ((a * b : Nat) : Int) / 2 ^ Int.toNat 32 = 0 := by rw [p32]; omega
 refine fn_of (cx_ok [0, 1, 4, 5, 6, 7, 8, 9, 10, 11, 12, 13]) Tryz.func108 rfl (by decide) Tryz.ntmps108 (Nat.le_of_ble_eq_true rfl) fun base => ?_
 refine wrs fun K hK => ?_
 conv => whnf
 refine hK _ ?_
 clear hK K
 refine wrs fun K hK => ?_
 conv => whnf
 refine ⟨⟨⟨by omega, by omega⟩, .inl rfl⟩, ?_⟩
 conv => whnf
 rw [ea]
 refine hK _ ?_
 clear hK K
 refine wrs fun K hK => ?_
 conv => whnf
 refine ⟨⟨by omega, by decide, by decide⟩, ?_⟩
 conv => whnf
 rw [da]
 refine hK _ ?_
 clear hK K
 refine wrs fun K hK => ?_
 conv => whnf
 refine ⟨⟨⟨by omega, by omega⟩, .inl rfl⟩, ?_⟩
 conv => whnf
 rw [eb]
 refine hK _ ?_
 clear hK K
 refine wrs fun K hK => ?_
 conv => whnf
 refine ⟨⟨by omega, by decide, by decide⟩, ?_⟩
 conv => whnf
 rw [db]
 refine hK _ ?_
 clear hK K
 refine wrs fun K hK => ?_
 conv => whnf
 rw [em]
 refine hK _ ?_
 clear hK K
 refine wrs fun K hK => ?_
 conv => whnf
 refine ⟨⟨by omega, by decide, by decide⟩, ?_⟩
 conv => whnf
 rw [dm, show ((0 : Int) * b % 18446744073709551616 + 0) % 18446744073709551616 = 0 by omega]
 refine hK _ ?_
 clear hK K
 refine wrs fun K hK => ?_
 conv => whnf
 refine ⟨⟨⟨by decide, by decide⟩, .inl rfl⟩, ?_⟩
 conv => whnf
 rw [show (0 : Int) % (4294967295 + 1) = 0 by decide]
 refine hK _ ?_
 clear hK K
 refine wrs fun K hK => ?_
 conv => whnf
 refine ⟨⟨by decide, by decide, by decide⟩, ?_⟩
 conv => whnf
 rw [show (0 : Int) / 2 ^ Int.toNat 32 = 0 from rfl]
 refine hK _ ?_
 clear hK K
 refine wrs fun K hK => ?_
 conv => whnf
 rw [show ((0 : Int) + (a : Int) * 0 % 18446744073709551616) % 18446744073709551616 = 0 by omega]
 refine hK _ ?_
 clear hK K
 refine wrs fun K hK => ?_
 conv => whnf
 refine ⟨⟨by decide, by decide, by decide⟩, ?_⟩
 conv => whnf
 rw [show (0 : Int) / 2 ^ Int.toNat 32 = 0 from rfl, show (((0 : Int) * 0 % 18446744073709551616 + 0) % 18446744073709551616 + 0) % 18446744073709551616 = 0 by decide]
 refine hK _ ?_
 clear hK K
 refine wrs fun K hK => ?_
 conv => whnf
 rw [em]
 refine hK _ ?_
 clear hK K
 refine W.ret ?_
 conv => whnf
 exact ⟨.v (.int .u64 0), ⟨rfl, rfl⟩, trivial, .v (.int .u64 (a * b : Nat)), ⟨rfl, rfl⟩, trivial, rfl⟩

theorem mul_fn (a b : Nat) (ha : a ≤ 1000) (hb : b ≤ 1000000) : FnV 87 [.int .u64 a, .int .u64 b] (.tup [.int .u64 0, .int .u64 (a * b : Nat)]) := by
 refine fn_of (cx_ok [0, 1, 4, 5, 6, 7, 8, 9]) Tryz.func87 rfl (by decide) Tryz.ntmps87 (Nat.le_of_ble_eq_true rfl) fun base => ?_
 refine wrs fun K hK => ?_
 conv => whnf
 refine hK _ ?_
 clear hK K
 refine W.seqK fun K1 hK1 => ?_
 refine W.cond (W.skip (cx := cx []) (hK1 _ ?_))
 clear hK1 K1
 refine wrs fun K hK => ?_
 conv => whnf
 refine callV rfl (mul64_fn a b ha hb) fun hs' hhs => ?_
 try dsimp only at hhs
 conv => whnf
 refine hK _ ?_
 clear hK K
 refine wrs fun K hK => ?_
 conv => whnf
 refine hK _ ?_
 clear hK K
 refine W.ret ?_
 conv => whnf
 exact ⟨.v (.int .u64 0), ⟨rfl, rfl⟩, trivial, .v (.int .u64 (a * b : Nat)), ⟨rfl, rfl⟩, trivial, rfl⟩

def fillL (c : Int) (n k : Nat) : List Int := List.replicate k c ++ List.replicate (n - k) 0
theorem fillL_length {c : Int} {n k : Nat} (h : k ≤ n) : (fillL c n k).length = n := by simp [fillL]; omega
theorem fillL_all (c : Int) (n : Nat) : fillL c n n = List.replicate n c := by simp [fillL]
theorem fillL_none (c : Int) (n : Nat) : List.replicate n 0 = fillL c n 0 := by simp [fillL]

theorem fillL_first (c : Int) {n : Nat} (h : 1 ≤ n) : putL (fillL c n 0) 0 n [c] = fillL c n 1 := by
 unfold putL fillL
 have h1 : min n ([c] : List Int).length = 1 := by simp; omega
 have h2 : ([c] : List Int).take n = [c] := List.take_of_length_le (by simpa using h)
 rw [h1, h2]
 simp
theorem fillL_src {c : Int} {n k : Nat} (_ : k ≤ n) : ((fillL c n k).drop 0).take k = List.replicate k c := by simp [fillL]
theorem fillL_put' {c : Int} {n k : Nat} (h : k ≤ n) : putL (fillL c n k) k (n - k) (List.replicate k c) = fillL c n (min n (k + k)) := by
 unfold putL fillL
 rw [List.length_replicate, List.take_replicate]
 have e1 : (List.replicate k c ++ List.replicate (n - k) 0).take k = List.replicate k c := by simp
 have e2 : (List.replicate k c ++ List.replicate (n - k) (0 : Int)).drop (k + min (n - k) k) = List.replicate (n - min n (k + k)) 0 := by
  rw [List.drop_append]; simp; omega
 rw [e1, e2, List.replicate_append_replicate]
 congr 2
 omega

def R1r (l : List Int) : PostT := fun _ _ x tb => ∃ b : Nat, x = .rf b l.length ∧ (l ≠ [] → tb b = some l)

theorem repeat_T (g : Option Nat) (c : Int) (n : Nat) (hn : 1 ≤ n) (hn2 : n ≤ 1000000) : FnT Tryz.prog 54 [.ints g [c], .int .i64 n] (R1r (List.replicate n c)) := by
 have e1 : ([c] : List Int).length = 1 := rfl
 refine fnt_of (cxt_ok [] [0, 1, 4, 5, 6, 7, 8, 10, 26, 37, 1000000]) Tryz.func54 rfl (by decide) Tryz.ntmps54 (Nat.le_of_ble_eq_true rfl) (fun base => ?_) (Nat.le_of_ble_eq_true rfl)
 refine W.sw (c' := cx [0, 1, 4, 5, 6, 7, 8, 10, 26, 37, 1000000]) ?_
 refine wrs fun K hK => ?_
 conv => whnf
 refine hK _ ?_
 clear hK K
 refine W.seqK fun K1 hK1 => ?_
 refine wrs fun K hK => ?_
 conv => whnf
 refine hK _ (W.cond ⟨fun h => absurd (of_decide_eq_true h) (by omega), fun _ => W.skip (hK1 _ ?_)⟩)
 clear hK K hK1 K1
 refine wrs fun K hK => ?_
 conv => whnf
 rw [e1]
 refine ⟨⟨by decide, by decide, by decide⟩, ?_⟩
 conv => whnf
 refine ⟨⟨by omega, by omega, by omega⟩, ?_⟩
 conv => whnf
 refine callV rfl (mul_fn 1 n (by omega) hn2) fun hs' hhs => ?_
 try dsimp only at hhs
 conv => whnf
 rw [Nat.one_mul]
 refine hK _ ?_
 clear hK K
 refine W.seqK fun K1 hK1 => ?_
 refine wrs fun K hK => ?_
 conv => whnf
 refine ⟨fun h => ?_, fun h => ?_⟩ <;> conv => whnf
 ·exact absurd (of_decide_eq_true h) (by decide)
 refine hK _ (W.cond ⟨fun h => absurd (of_decide_eq_true h) (by omega), fun _ => W.skip (hK1 _ ?_)⟩)
 clear hK K hK1 K1
 refine wrs fun K hK => ?_
 conv => whnf
 refine ⟨⟨by omega, by omega, by omega⟩, ?_⟩
 conv => whnf
 refine ⟨rfl, ?_⟩
 conv => whnf
 refine ⟨oo, ?_⟩
 conv => whnf
 rw [Int.toNat_natCast]
 intro b_2 hs_2 hh_2 hf_2
 try dsimp only at hh_2 hf_2
 conv => whnf
 refine hK _ ?_
 clear hK K
 refine W.give 7 fun K hK => ?_
 conv => whnf
 refine hK _ ?_
 clear hK K
 rw [List.length_replicate]
 have hne : List.replicate n (0 : Int) ≠ [] := fun e => by have := congrArg List.length e; simp at this; omega
 have htb0 := tbAdd_self (fun _ => none) b_2 (xs := List.replicate n (0 : Int)) hne
 rw [fillL_none c n] at htb0
 refine wrs fun K hK => ?_
 conv => whnf
 refine ⟨by omega, ?_⟩
 conv => whnf
 refine ⟨by simp, ?_⟩
 conv => whnf
 refine ⟨_, htb0, by rw [fillL_length (by omega)]; omega, ?_⟩
 conv => whnf
 rw [e1, fillL_first c hn, show min n 1 = 1 by omega]
 refine hK _ ?_
 clear hK K
 refine W.seqK fun K1 hK1 => W.block (W.invA (fun m e => ∃ (k : Nat) (tb : Tab), 1 ≤ k ∧ k ≤ n ∧ tb b_2 = some (fillL c n k) ∧ m = n - k ∧ e = [(vt, .tab tb), (7, .v (.rf b_2 n)), (8, .v (.int .i64 k))]) ⟨1, _, Nat.le_refl _, hn, tbSet_self _ _ _, rfl, rfl⟩ ?_)
 rintro m e ⟨k, tb, hk1, hk2, htb, hm, rfl⟩
 have hfl : (fillL c n k).length = n := fillL_length hk2
 refine W.seqK fun K7 hK7 => wrs fun K hK => ?_
 conv => whnf
 refine hK _ (W.cond ⟨fun h => ?_, fun h => ?_⟩) <;> clear hK K <;> (first | replace h := of_decide_eq_true h | replace h := of_decide_eq_false h)
 ·refine W.skip (hK7 _ (W.block ?_))
  clear hK7 K7
  refine W.sch follows ?_
  refine wt 0 ?_
  conv => whnf
  refine wt 1 ?_
  conv => whnf
  refine wt 2 ?_
  conv => whnf
  refine wt 3 ?_
  conv => whnf
  refine ⟨⟨by omega, by omega, by omega⟩, ?_⟩
  conv => whnf
  rw [Int.toNat_natCast, Int.toNat_natCast]
  refine wt 4 ?_
  conv => whnf
  refine wt 5 ?_
  conv => whnf
  refine wt 6 ?_
  conv => whnf
  refine ⟨⟨by decide, by omega, by omega⟩, ?_⟩
  conv => whnf
  rw [Int.toNat_natCast, show Int.toNat 0 = 0 from rfl, Nat.sub_zero]
  refine w1 7 ?_
  conv => whnf
  refine ⟨_, htb, by rw [hfl]; omega, ?_⟩
  conv => whnf
  refine ⟨_, htb, by rw [hfl]; omega, ?_⟩
  rw [fillL_src hk2, fillL_put' hk2, List.length_replicate]
  conv => whnf
  refine w1 8 ?_
  conv => whnf
  refine ⟨oo, ?_⟩
  conv => whnf
  refine w1 9 ?_
  conv => whnf
  refine Wany.done (by kernel_rfl) ?_
  conv => whnf
  refine ⟨_, _, ⟨min n (k + k), tbSet tb b_2 (fillL c n (min n (k + k))), by omega, by omega, tbSet_self _ _ _, rfl, rfl⟩, by omega, by dsimp only; omega, ?_⟩
  repeat' first | refine And.intro ?_ ?_ | exact trivial | rfl | omega | exact fun _ _ h => h
-- 1 ways
 ·obtain rfl : k = n := by omega
  refine W.exit (hK1 _ ?_)
  clear hK7 K7 hK1 K1
  rw [fillL_all] at htb
  refine wrs fun K hK => ?_
  conv => whnf
  refine hK _ ?_
  clear hK K
  refine W.ret ?_
  conv => whnf
  refine ⟨.v (.rf b_2 k), rfl, trivial, b_2, by rw [List.length_replicate], fun _ => htb⟩

theorem repeat_fn (g : Option Nat) (c : Int) (n : Nat) (hn : 1 ≤ n) (hn2 : n ≤ 1000000) : FnV 54 [.ints g [c], .int .i64 n] (.ints none (List.replicate n c)) :=
 (repeat_T g c n hn hn2).toV fun _ _ _ _ ⟨_, hx, hb⟩ => by subst hx; exact ⟨List.replicate n c, rfl, hb, rfl⟩

/- degrees -/
theorem repl_snoc {α : Type} (n : Nat) (a : α) : List.replicate n a ++ [a] = List.replicate (n + 1) a := by
 rw [List.replicate_succ']
def degT {p : Int} [SP p] (F : List (Poly p × Nat)) : Nat → List Int
 | 0 => []
 | k + 1 => degT F k ++ List.replicate (F.getD k (0, 0)).2 (((F.getD k (0, 0)).1.l.length : Int) - 1)
theorem degT_len {p : Int} [SP p] {F : List (Poly p × Nat)} (h : ∀ j, j < F.length → (F.getD j (0, 0)).2 ≤ 13) : ∀ k, k ≤ F.length → (degT F k).length ≤ 13 * k
 | 0, _ => Nat.le_refl _
 | k + 1, hk => by
  have h1 := degT_len h k (by omega)
  have h2 := h k (by omega)
  rw [degT, List.length_append, List.length_replicate]; omega
theorem _root_.Go.Proofs.YtkkahnljonppiaaGreat.Poly.FacOf.fac {p : Int} [SP p] {f : Poly p} {F : List (Poly p × Nat)} (h : FacOf f F) (hf0 : f ≠ 0) (hf : dg f ≤ 13) : ∀ j, j < F.length → dg (F.getD j (0, 0)).1 ≤ 13 ∧ 2 ≤ dg (F.getD j (0, 0)).1 ∧ 1 ≤ (F.getD j (0, 0)).2 ∧ (F.getD j (0, 0)).2 ≤ 13 := fun j hj => by
 obtain ⟨h3, _, h1, h2⟩ := (h.2 (F.getD j (0, 0))).1 (by rw [getD_lt hj]; exact List.getElem_mem hj)
 have h4 := dvd_dg (h2.dvd h1) hf0
 have h5 := pow_dg h3.1 (F.getD j (0, 0)).2
 obtain ⟨u, hu, _⟩ := h2
 have h6 := dvd_dg (⟨u, hu⟩ : (F.getD j (0, 0)).1 ^ (F.getD j (0, 0)).2 ∣ f) hf0
 exact ⟨by omega, h3.1, h1, by omega⟩

theorem degreesOf_T (p : Int) [SP p] (g : Option Nat) (f : Poly p) (F : List (Poly p × Nat)) (hF : FacOf f F) (hf0 : f ≠ 0) (h9 : dg f ≤ 13) : FnT Tryz.prog 34 [.int .i64 p, .ints g f.l] (R1r (degT F F.length)) := by
 have hfl : f.l.length = dg f := rfl
 have hFs := hF.fac hf0 h9
 have hFl := hF.facs.few hf0
 have hdl := degT_len (fun j hj => (hFs j hj).2.2.2)
 refine fnt_of (cxt_ok [] [0, 1, 4, 5, 7, 10, 11, 12, 13, 1000000]) Tryz.func34 rfl (by decide) Tryz.ntmps34 (Nat.le_of_ble_eq_true rfl) (fun base => ?_) (Nat.le_of_ble_eq_true rfl)
 refine W.sw (c' := cx [0, 1, 4, 5, 7, 10, 11, 12, 13, 1000000]) ?_
 refine wrs fun K hK => ?_
 conv => whnf
 refine hK _ ?_
 clear hK K
 refine wrs fun K hK => ?_
 conv => whnf
 refine hK _ ?_
 clear hK K
 refine W.seqK fun K1 hK1 => ?_
 refine wrs fun K hK => ?_
 conv => whnf
 refine callP rfl (factorsBy_fn p _ g f (Nat.le_refl _) (by omega) hf0) ?_
 rintro lo hi hi' z hl1 hl2 hl3 ⟨F', hF', rfl⟩ _
 obtain rfl := hF.unique hF'
 try dsimp only at hl1 hl2
 conv => whnf
 refine hK _ (W.block (W.invA (fun m e => ∃ (k b : Nat) (o : List Int), k ≤ F.length ∧ o = degT F k ∧ m = F.length - k ∧ e = [(vt, .tab fun _ => none), (5, .ownI 2 b o), (10, .v (vFs F)), (11, .v (.int .i64 F.length)), (12, .v (.int .i64 k))]) ⟨0, 0, [], Nat.zero_le _, rfl, rfl, rfl⟩ ?_))
 clear hK K
 rintro m e ⟨k, b, o, hk, rfl, hm, rfl⟩
 refine wrs fun K hK => ?_
 conv => whnf
 refine hK _ ?_
 clear hK K
 refine W.seqK fun K7 hK7 => W.cond ⟨fun h3 => ?_, fun h3 => ?_⟩ <;> (first | replace h3 := of_decide_eq_true h3 | replace h3 := of_decide_eq_false h3)
 ·obtain ⟨hx1, hx2, hx3, hx4⟩ := hFs k (by omega)
  have hol := hdl k (by omega)
  have hxl : (F.getD k (0, 0)).1.l.length = dg (F.getD k (0, 0)).1 := rfl
  refine W.skip (hK7 _ ?_)
  clear hK7 K7
  refine W.seqK fun K8 hK8 => W.block ?_
  refine wrs fun K hK => ?_
  conv => whnf
  refine ⟨oo, ?_⟩
  conv => whnf
  rw [Int.toNat_natCast]
  intro b_2 hs_2 hh_2 hf_2
  try dsimp only at hh_2 hf_2
  conv => whnf
  refine ⟨s23, ?_⟩
  conv => whnf
  refine hK _ ?_
  clear hK K
  refine W.drawS 8 (cx_ok _) follows (by rfl) ?_
  conv => whnf
  refine ⟨_, cxF (degree_fn none _ (by omega)), ?_⟩
  conv => whnf
  refine ⟨⟨rfl, by decide⟩, ?_⟩
  conv => whnf
  refine ⟨_, cxF (repeat_fn none _ _ hx3 (by omega)), ?_⟩
  conv => whnf
  refine ⟨by rw [List.length_replicate]; omega, ?_⟩
  conv => whnf
  intro b_6 hs_6 hh_6 hf_6
  try dsimp only at hh_6 hf_6
  conv => whnf
  refine hK8 _ ?_
  clear hK8 K8
  refine wrg ?_
  conv => whnf
  refine ⟨oo, ?_⟩
  conv => whnf
  exact againA ⟨k + 1, b_6, _, by omega, rfl, rfl, rfl⟩
 ·obtain rfl : k = F.length := by omega
  refine W.exit (hK1 _ ?_)
  clear hK7 K7 hK1 K1
  refine W.sw (c' := cxt [] [0, 1, 4, 5, 7, 10, 11, 12, 13, 1000000]) ?_
  refine W.rs (cxt_ok _ _) (by rfl) fun K hK => ?_
  conv => whnf
  refine hK _ ?_
  clear hK K
  refine W.ret ?_
  conv => whnf
  exact ⟨.v (.rf b (degT F F.length).length), rfl, trivial, b, rfl, fun h => tbAdd_self _ _ h⟩
theorem degreesOf_fn (p : Int) [SP p] (g : Option Nat) (f : Poly p) (F : List (Poly p × Nat)) (hF : FacOf f F) (hf0 : f ≠ 0) (h9 : dg f ≤ 13) : FnV 34 [.int .i64 p, .ints g f.l] (.ints none (degT F F.length)) :=
 (degreesOf_T p g f F hF hf0 h9).toV fun _ _ _ _ ⟨_, hx, hb⟩ => by subst hx; exact ⟨degT F F.length, rfl, hb, rfl⟩

theorem l09Degrees_fn (p : Int) [SP p] (g : Option Nat) (f : Poly p) (F : List (Poly p × Nat)) (hF : FacOf f F) (hf0 : f ≠ 0) (h9 : dg f ≤ 13) : FnV 44 [.int .i64 p, .ints g f.l] (.ints none (degT F F.length)) := by
 have hfl : f.l.length = dg f := rfl
 have hFs := hF.fac hf0 h9
 have hFl := hF.facs.few hf0
 have hdl := degT_len (fun j hj => (hFs j hj).2.2.2)
 refine fn_of (cx_ok [0, 1, 4, 5, 6, 7, 8, 16, 25]) Tryz.func44 rfl (by decide) Tryz.ntmps44 (Nat.le_of_ble_eq_true rfl) fun base => ?_
 refine wrs fun K hK => ?_
 conv => whnf
 refine hK _ ?_
 clear hK K
 refine wrs fun K hK => ?_
 conv => whnf
 refine ⟨⟨rfl, by decide⟩, ?_⟩
 conv => whnf
 intro b_1 hs_1 hh_1 hf_1
 try dsimp only at hh_1 hf_1
 conv => whnf
 refine hK _ ?_
 clear hK K
 refine wrs fun K hK => ?_
 conv => whnf
 refine callP rfl (l09All_fn p g f (by omega) hf0) ?_
 rintro lo hi hi' z hl1 hl2 hl3 ⟨F', hF', rfl⟩ _
 obtain rfl := hF.unique hF'
 try dsimp only at hl1 hl2
 conv => whnf
 refine hK _ ?_
 clear hK K
 refine W.seqK fun K1 hK1 => ?_
 refine wrs fun K hK => ?_
 conv => whnf
 refine hK _ (W.block (W.invA (fun m e => ∃ (k b : Nat) (o : List Int), k ≤ F.length ∧ o = degT F k ∧ m = F.length - k ∧ e = [(5, .ownI 2 b o), (6, .v (vFs F)), (7, .v (.int .i64 k))]) ⟨0, b_1, [], Nat.zero_le _, rfl, rfl, rfl⟩ ?_))
 clear hK K
 rintro m e ⟨k, b, o, hk, rfl, hm, rfl⟩
 refine W.seqK fun K7 hK7 => wrs fun K hK => ?_
 conv => whnf
 refine hK _ (W.cond ⟨fun h3 => ?_, fun h3 => ?_⟩) <;> clear hK K <;> (first | replace h3 := of_decide_eq_true h3 | replace h3 := of_decide_eq_false h3)
 ·obtain ⟨hx1, hx2, hx3, hx4⟩ := hFs k (by omega)
  have hol := hdl k (by omega)
  have hxl : (F.getD k (0, 0)).1.l.length = dg (F.getD k (0, 0)).1 := rfl
  refine W.skip (hK7 _ ?_)
  clear hK7 K7
  refine W.seqK fun K8 hK8 => W.block ?_
  refine wrs fun K hK => ?_
  conv => whnf
  refine hK _ (W.block (W.invE (fun m e => ∃ (j b : Nat) (o : List Int), j ≤ (F.getD k (0, 0)).2 ∧ o = degT F k ++ List.replicate j (((F.getD k (0, 0)).1.l.length : Int) - 1) ∧ m = (F.getD k (0, 0)).2 - j ∧ e = [(5, .ownI 2 b o), (6, .v (vFs F)), (7, .v (.int .i64 k)), (8, .v (.int .i64 j))]) _ _ ⟨0, b, degT F k, Nat.zero_le _, by simp, rfl, rfl⟩ (by dsimp only; omega) (by repeat' first | refine And.intro ?_ ?_ | exact trivial | rfl | omega | exact fun _ _ => rfl) ?_))
  clear hK K b
  rintro m' e ⟨j, b, o, hj, rfl, hm', rfl⟩
  refine W.seqK fun K7 hK7 => ?_
  refine wrs fun K hK => ?_
  conv => whnf
  refine ⟨oo, ?_⟩
  conv => whnf
  rw [Int.toNat_natCast]
  refine hK _ (W.cond ⟨fun h => ?_, fun h => ?_⟩) <;> clear hK K
  ·have h : (j : Int) < ((F.getD k (0, 0)).2 : Nat) := of_decide_eq_true h
   refine W.skip (hK7 _ ?_)
   clear hK7 K7
   refine W.seqK fun K6 hK6 => W.block ?_
   refine wrg ?_
   conv => whnf
   refine ⟨oo, ?_⟩
   conv => whnf
   rw [Int.toNat_natCast]
   refine ⟨oo, ?_⟩
   conv => whnf
   refine ⟨⟨rfl, by decide⟩, ?_⟩
   conv => whnf
   intro b_2 hs_2 hh_2 hf_2
   try dsimp only at hh_2 hf_2
   conv => whnf
   refine ⟨by simp; omega, ?_⟩
   conv => whnf
   intro b_3 hs_3 hh_3 hf_3
   try dsimp only at hh_3 hf_3
   conv => whnf
   refine hK6 _ ?_
   clear hK6 K6
   refine wrg ?_
   conv => whnf
   refine ⟨oo, ?_⟩
   conv => whnf
   exact againA ⟨j + 1, b_3, _, by omega, by rw [← repl_snoc, ← List.append_assoc], rfl, rfl⟩
  ·have h : ¬ (j : Int) < ((F.getD k (0, 0)).2 : Nat) := of_decide_eq_false h
   obtain rfl : j = (F.getD k (0, 0)).2 := by omega
   refine W.exit (hK8 _ ?_)
   clear hK7 K7 hK8 K8
   refine wrg ?_
   conv => whnf
   refine ⟨oo, ?_⟩
   conv => whnf
   exact againA ⟨k + 1, b, _, by omega, rfl, rfl, rfl⟩
 ·obtain rfl : k = F.length := by omega
  refine W.exit (hK1 _ ?_)
  clear hK7 K7 hK1 K1
  refine wrs fun K hK => ?_
  conv => whnf
  refine hK _ ?_
  clear hK K
  refine W.ret ?_
  conv => whnf
  exact ⟨.v (.ints none (degT F F.length)), ⟨rfl, rfl⟩, trivial, rfl⟩

open Go Go.RowKit Go.ChangeShapes Go.WideShapes Go.ChangeAt Go.Proofs Go.Proofs.YtkkahnljonppiaaGreat

theorem fn_calls {P : Program} {f : Nat} {xs : List V} {r : V} {w : World} {vs : Array Value} (h : Fn P f xs (fun _ _ a => a = .v r)) (hl : vs.size = xs.length)
  (hr : ∀ j, j < xs.length → Rep (okAll w) w.heap (xs.getD j .nil) (vs.getD j undef)) :
  Calls P f vs w fun e w' => ∃ v, e = .returned v ∧ Below w.heap.size w w' ∧ Rep (okR (fun _ => False) w'.heap.size) w'.heap r v := by
 refine (h.2 (fun _ => False) w vs (fun _ h => h.elim) hl hr).mono fun e w' ⟨v, av, hi, h1, h2, h3, h4, h5⟩ => ?_
 subst h3
 obtain ⟨_, h6, _⟩ := h5
 refine ⟨v, h1, h4, ?_⟩
 exact Rep.mono h6 fun g b hb => ⟨⟨hb.1, fun h => h.elim, hb.2.2⟩, rfl⟩

theorem fn_true {P : Program} {f : Nat} {xs : List V} {w : World} {vs : Array Value} (h : Fn P f xs (fun _ _ a => a = .v .tr)) (hl : vs.size = xs.length)
  (hr : ∀ j, j < xs.length → Rep (okAll w) w.heap (xs.getD j .nil) (vs.getD j undef)) :
  Calls P f vs w fun e w' => e = .returned (.bool true) ∧ Below w.heap.size w w' :=
 (fn_calls h hl hr).mono fun e w' ⟨v, h1, h2, h3⟩ => by
  cases h3
  exact ⟨h1, h2⟩

theorem ownP : ownKnob Tryz.prog.godebug = none := by kernel_rfl
theorem laidOutP : laidOutB Tryz.prog = true := by kernel_rfl
theorem cellsInt : Tryz.prog.cellsOf 2 = 1 := by kernel_rfl

theorem readsInt {H : Type} {enc : TypeId × Value → H} {W : World} : Reads enc Tryz.prog W 2 1 TyInt := reads_int Tryz.underlying2
theorem readsInts {H : Type} {enc : TypeId × Value → H} {W : World} : Reads enc Tryz.prog W 22 1 TyInts := reads_ints Tryz.underlying22 Tryz.underlying2 cellsInt
open Go Go.RowKit Go.ChangeShapes Go.WideShapes Go.ChangeAt Go.Proofs Go.Proofs.YtkkahnljonppiaaGreat
set_option maxRecDepth 100000

def signs : List Char := [104, 97, 114, 110, 101, 115, 115, 32, 48, 50, 98, 48, 56, 101, 97, 100, 98, 54, 48, 99, 101, 97, 101, 52, 55, 98, 97, 100, 101, 57, 57, 52, 56, 49, 55, 53, 49, 55, 98, 102, 55, 101, 101, 54, 53, 54, 98, 49, 54, 54, 97, 98, 98, 100, 102, 57, 53, 56, 53, 49, 49, 101, 52, 50, 49, 100, 51, 99, 53, 49, 98, 52, 32, 99, 117, 116, 32, 97, 116, 32, 108, 111, 111, 112, 46, 101, 120, 97, 109, 112, 108, 101, 47, 103, 48, 49, 48, 48, 48, 47, 108, 97, 119, 115, 46, 70, 110, 69, 120, 97, 99, 116, 67, 111, 117, 110, 116, 70, 97, 99, 116, 111, 114, 115, 32, 108, 111, 111, 112, 46, 101, 120, 97, 109, 112, 108, 101, 47, 103, 48, 49, 48, 48, 48, 47, 108, 97, 119, 115, 46, 70, 110, 69, 120, 97, 99, 116, 73, 115, 73, 114, 114, 101, 100, 117, 99, 105, 98, 108, 101, 65, 116, 32, 108, 111, 111, 112, 46, 101, 120, 97, 109, 112, 108, 101, 47, 103, 48, 49, 48, 48, 48, 47, 108, 97, 119, 115, 46, 70, 110, 69, 120, 97, 99, 116, 80, 97, 100, 105, 99, 82, 111, 111, 116, 67, 111, 117, 110, 116, 32, 108, 111, 111, 112, 46, 101, 120, 97, 109, 112, 108, 101, 47, 103, 48, 49, 48, 48, 48, 47, 108, 97, 119, 115, 46, 70, 110, 69, 120, 97, 99, 116, 83, 112, 108, 105, 116, 116, 105, 110, 103, 115, 79, 102].map Char.ofNat
def word1 : List Char := [99, 117, 116].map Char.ofNat
def words : List (List Char) := [[97, 116], [108, 111, 111, 112, 46, 101, 120, 97, 109, 112, 108, 101, 47, 103, 48, 49, 48, 48, 48, 47, 108, 97, 119, 115, 46, 70, 110, 69, 120, 97, 99, 116, 67, 111, 117, 110, 116, 70, 97, 99, 116, 111, 114, 115], [108, 111, 111, 112, 46, 101, 120, 97, 109, 112, 108, 101, 47, 103, 48, 49, 48, 48, 48, 47, 108, 97, 119, 115, 46, 70, 110, 69, 120, 97, 99, 116, 73, 115, 73, 114, 114, 101, 100, 117, 99, 105, 98, 108, 101, 65, 116], [108, 111, 111, 112, 46, 101, 120, 97, 109, 112, 108, 101, 47, 103, 48, 49, 48, 48, 48, 47, 108, 97, 119, 115, 46, 70, 110, 69, 120, 97, 99, 116, 80, 97, 100, 105, 99, 82, 111, 111, 116, 67, 111, 117, 110, 116], [108, 111, 111, 112, 46, 101, 120, 97, 109, 112, 108, 101, 47, 103, 48, 49, 48, 48, 48, 47, 108, 97, 119, 115, 46, 70, 110, 69, 120, 97, 99, 116, 83, 112, 108, 105, 116, 116, 105, 110, 103, 115, 79, 102]].map fun w => w.map Char.ofNat
theorem initS : Tryz.checked.prog.initOrder = String.ofList signs := by kernel_rfl
theorem initW : behindMainWord (wordsSigns Tryz.checked.prog.initOrder.toList) = word1 :: words := by rw [initS, String.toList_ofList]; kernel_rfl
theorem mayEnter_of {P : Program} {c : List Char} {rest : List (List Char)} (h0 : behindMainWord (wordsSigns P.initOrder.toList) = c :: rest) (h1 : (stripLifts liftWords (c :: rest)) = ([], c :: rest)) (h2 : (c == "cut".toList) = true)
  (h3 : P.laysLater = false) (h4 : P.bearsReflect = false) (h5 : P.doorFits [] = true) : P.mayEnter = true := by
 unfold Program.mayEnter
 rw [h0]
 have e : (some c == some "cut".toList) = true := h2
 refine (Bool.or_eq_true _ _).mpr (.inr ?_)
 rw [h1, h3, h4, h5]
 show ((some c == some "cut".toList) && _ && _ && _ && _) = true
 rw [e]
 rfl
theorem lifts0 : stripLifts liftWords (word1 :: words) = ([], word1 :: words) := by kernel_rfl
theorem enterP : Tryz.checked.prog.mayEnter = true := mayEnter_of initW lifts0 (by kernel_rfl) (by kernel_rfl) (by kernel_rfl) (by kernel_rfl)
theorem headLifts_of {P : Program} {c : List Char} {rest : List (List Char)} (h0 : behindMainWord (wordsSigns P.initOrder.toList) = c :: rest) (h1 : stripLifts liftWords (c :: rest) = ([], c :: rest)) : P.headLifts = [] := by
 unfold Program.headLifts
 rw [h0, h1]
 dsimp only
 split <;> rfl
theorem liftsFinal_of {P : Program} {c : List Char} {rest : List (List Char)} (h0 : behindMainWord (wordsSigns P.initOrder.toList) = c :: rest) (hh : P.headLifts = []) (h2 : (c == "carried".toList) = false) : P.liftsFinal = false := by
 have e : (some c == some "carried".toList) = false := h2
 unfold Program.liftsFinal
 rw [h0, hh]
 show (((some c == some "carried".toList) && _) || _) = false
 rw [e]
 rfl
theorem make_of {P : Program} {c : List Char} {rest : List (List Char)} (h0 : behindMainWord (wordsSigns P.initOrder.toList) = c :: rest) (h1 : (c == "gc".toList) = false) (h2 : (c == "spec".toList) = false) (h3 : (c == "cut".toList) = true) : P.make = some .cut := by
 unfold Program.make
 rw [h0]
 dsimp only
 rw [h1, h2, h3]
 rfl
theorem headP : Tryz.checked.prog.headLifts = [] := headLifts_of initW lifts0
theorem liftP : Tryz.checked.prog.liftsFinal = false := liftsFinal_of initW headP (by kernel_rfl)
theorem makeP : Tryz.checked.prog.make = some .cut := make_of initW (by kernel_rfl) (by kernel_rfl) (by kernel_rfl)

end Go.Proofs.YtkkahnljonppiaaGreat
