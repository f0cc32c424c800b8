/- What the program's functions and the reference's return. No conditions. -/
import Derived.Test.YtkkahnljonppiaaGreatPh
import Derived.Test.YtkkahnljonppiaaGreatProg
import Derived.Shelf.Spec.SlicesInsertGrow
namespace Go.Proofs.YtkkahnljonppiaaGreat
open Go Go.RowKit Go.Proofs Poly Hull
set_option maxRecDepth 100000
set_option maxHeartbeats 8000000

noncomputable def codeRes (p : Int) (xs : List Int) : Int := bif isP p then (bif bP (IsPoly xs) then (if xs.length < 2 ∨ cf xs 0 = 0 then 5 else 0) else 1) else 1


theorem residual_fn (g : Option Nat) (p : Int) (xs : List Int) : FnV 31 [.int .i64 p, .ints g xs] (.int .i64 (codeRes p xs)) := by
 refine fn_of (cx_ok [0, 1, 4, 5, 14]) Tryz.func31 rfl (by decide) Tryz.ntmps31 (Nat.le_of_ble_eq_true rfl) fun base => ?_
 refine wrs fun K hK => ?_
 conv => whnf
 refine hK _ ?_
 clear hK K
 refine W.seqK fun K1 hK1 => W.block ?_
 refine wrs fun K hK => ?_
 conv => whnf
 refine callV rfl (isSmallPrime_fn p) fun hs' hhs => ?_
 try dsimp only at hhs
 conv => whnf
 refine ⟨fun h1 => ?_, fun h1 => ?_⟩ <;> conv => whnf
 ·have h1 : isP p = false := by simpa using h1
  refine hK _ (W.condT rfl ?_)
  clear hK K
  refine wrs fun K hK => ?_
  conv => whnf
  refine hK _ ?_
  clear hK K
  refine W.ret ?_
  conv => whnf
  exact ⟨.v (.int .i64 (codeRes p xs)), ⟨rfl, by unfold codeRes; rw [h1]; rfl⟩, trivial, rfl⟩
 have h1 : isP p = true := by simpa using h1
 refine callV rfl (isPolynomial_fn g xs) fun hs' hhs => ?_
 try dsimp only at hhs
 conv => whnf
 refine hK _ (W.cond ⟨fun h2 => ?_, fun h2 => ?_⟩) <;> clear hK K
 ·have h2 : bP (IsPoly xs) = false := by simpa using h2
  refine wrs fun K hK => ?_
  conv => whnf
  refine hK _ ?_
  clear hK K
  refine W.ret ?_
  conv => whnf
  exact ⟨.v (.int .i64 (codeRes p xs)), ⟨rfl, by unfold codeRes; rw [h1, h2]; rfl⟩, trivial, rfl⟩
 have h2 : bP (IsPoly xs) = true := by simpa using h2
 have h9 : xs.length ≤ 9 := (bP_iff.1 h2).1


 refine wrs fun K hK => ?_
 conv => whnf
 refine ⟨fun h3 => ?_, fun h3 => ?_⟩ <;> conv => whnf
 ·have h3 := of_decide_eq_true h3
  refine hK _ (W.condT rfl ?_)
  clear hK K
  refine wrs fun K hK => ?_
  conv => whnf
  refine hK _ ?_
  clear hK K
  refine W.ret ?_
  conv => whnf
  exact ⟨.v (.int .i64 (codeRes p xs)), ⟨rfl, by unfold codeRes; rw [h1, h2, cond_true, cond_true, if_pos (.inl (by omega))]⟩, trivial, rfl⟩
 have h3 := of_decide_eq_false h3
 refine ⟨oo, ?_⟩
 conv => whnf
 refine hK _ (W.cond ⟨fun h4 => ?_, fun h4 => ?_⟩) <;> clear hK K
 ·have h4 : cf xs 0 = 0 := of_decide_eq_true h4
  refine wrs fun K hK => ?_
  conv => whnf
  refine hK _ ?_
  clear hK K
  refine W.ret ?_
  conv => whnf
  exact ⟨.v (.int .i64 (codeRes p xs)), ⟨rfl, by unfold codeRes; rw [h1, h2, cond_true, cond_true, if_pos (.inr h4)]⟩, trivial, rfl⟩
 have h4 : ¬ cf xs 0 = 0 := of_decide_eq_false h4
 refine W.skip (hK1 _ ?_)
 clear hK1 K1
 refine wrs fun K hK => ?_
 conv => whnf
 refine hK _ ?_
 clear hK K
 refine W.ret ?_
 conv => whnf
 exact ⟨.v (.int .i64 (codeRes p xs)), ⟨rfl, by unfold codeRes; rw [h1, h2, cond_true, cond_true, if_neg (fun hh => hh.elim (fun h' => by omega) h4)]⟩, trivial, rfl⟩
theorem l14Code_fn (g : Option Nat) (p : Int) (xs : List Int) (hl : xs.length ≤ 1000000000) : FnV 28 [.int .i64 p, .ints g xs] (.int .i64 (codeRes p xs)) := by
 refine fn_of (cx_ok [0, 1, 4, 12, 21]) Tryz.func28 rfl (by decide) Tryz.ntmps28 (Nat.le_of_ble_eq_true rfl) fun base => ?_
 refine wrs fun K hK => ?_
 conv => whnf
 refine hK _ ?_
 clear hK K
 refine W.seqK fun K1 hK1 => ?_
 refine wrs fun K hK => ?_
 conv => whnf
 refine callV rfl (l01Small_fn p) fun hs' hhs => ?_
 try dsimp only at hhs
 conv => whnf
 refine ⟨fun h1 => ?_, fun h1 => ?_⟩ <;> conv => whnf
 ·have h1 : isP p = false := by simpa using h1
  refine hK _ (W.condT rfl ?_)
  clear hK K
  refine wrs fun K hK => ?_
  conv => whnf
  refine hK _ ?_
  clear hK K
  refine W.ret ?_
  conv => whnf
  exact ⟨.v (.int .i64 (codeRes p xs)), ⟨rfl, by unfold codeRes; rw [h1]; rfl⟩, trivial, rfl⟩
 have h1 : isP p = true := by simpa using h1
 refine callV rfl (isPolyS_fn g xs hl) fun hs' hhs => ?_
 try dsimp only at hhs
 conv => whnf
 refine hK _ (W.cond ⟨fun h2 => ?_, fun h2 => ?_⟩) <;> clear hK K
 ·have h2 : bP (IsPoly xs) = false := by simpa using h2
  refine wrs fun K hK => ?_
  conv => whnf
  refine hK _ ?_
  clear hK K
  refine W.ret ?_
  conv => whnf
  exact ⟨.v (.int .i64 (codeRes p xs)), ⟨rfl, by unfold codeRes; rw [h1, h2]; rfl⟩, trivial, rfl⟩
 have h2 : bP (IsPoly xs) = true := by simpa using h2
 have h9 : xs.length ≤ 9 := (bP_iff.1 h2).1
 refine W.skip (hK1 _ ?_)
 (clear hK1 K1; refine W.seqK fun K1 hK1 => ?_)
 refine wrs fun K hK => ?_
 conv => whnf
 refine ⟨fun h3 => ?_, fun h3 => ?_⟩ <;> conv => whnf
 ·have h3 := of_decide_eq_true h3
  refine hK _ (W.condT rfl ?_)
  clear hK K
  refine wrs fun K hK => ?_
  conv => whnf
  refine hK _ ?_
  clear hK K
  refine W.ret ?_
  conv => whnf
  exact ⟨.v (.int .i64 (codeRes p xs)), ⟨rfl, by unfold codeRes; rw [h1, h2, cond_true, cond_true, if_pos (.inl (by omega))]⟩, trivial, rfl⟩
 have h3 := of_decide_eq_false h3
 refine ⟨oo, ?_⟩
 conv => whnf
 refine hK _ (W.cond ⟨fun h4 => ?_, fun h4 => ?_⟩) <;> clear hK K
 ·have h4 : cf xs 0 = 0 := of_decide_eq_true h4
  refine wrs fun K hK => ?_
  conv => whnf
  refine hK _ ?_
  clear hK K
  refine W.ret ?_
  conv => whnf
  exact ⟨.v (.int .i64 (codeRes p xs)), ⟨rfl, by unfold codeRes; rw [h1, h2, cond_true, cond_true, if_pos (.inr h4)]⟩, trivial, rfl⟩
 have h4 : ¬ cf xs 0 = 0 := of_decide_eq_false h4
 refine W.skip (hK1 _ ?_)
 clear hK1 K1
 refine wrs fun K hK => ?_
 conv => whnf
 refine hK _ ?_
 clear hK K
 refine W.ret ?_
 conv => whnf
 exact ⟨.v (.int .i64 (codeRes p xs)), ⟨rfl, by unfold codeRes; rw [h1, h2, cond_true, cond_true, if_neg (fun hh => hh.elim (fun h' => by omega) h4)]⟩, trivial, rfl⟩

theorem trimZ_id {l : List Int} (h : lastNZ l) : trimZ l = l := eq_of_cf (trimZ_last l) h fun i => cf_trimZ l i
theorem slT_at (L : List (Int × Int)) : ∀ (k j : Nat), j < k → (slT L k).getD j (0, 0, 0) = sl (L.getD j (0, 0)) (L.getD (j + 1) (0, 0))
 | 0, j, h => absurd h (Nat.not_lt_zero j)
 | k + 1, j, h => by
  rw [slT]
  by_cases hj : j < k
  ·rw [getD_one (by rw [slT_len]; exact hj)]; exact slT_at L k j hj
  ·obtain rfl : j = k := by omega
   have e := getD_end (d := ((0, 0, 0) : Int × Int × Int)) (x := sl (L.getD j (0, 0)) (L.getD (j + 1) (0, 0))) (L := slT L j)
   rw [slT_len] at e
   exact e
theorem ppow_bd {p : Int} (hp : 2 ≤ p ∧ p ≤ 97) {y : Nat} {c : Int} (hc : c ≠ 0) (hb : -1000000 ≤ c ∧ c ≤ 1000000) (hy : y ≤ vl p c) : 0 < p ^ y ∧ p ^ y ≤ 1000000 := by
 obtain ⟨u, h1, h2⟩ := vl_spec hp.1 hc
 have hu : u ≠ 0 := fun e => h2 (by rw [e]; exact Int.dvd_zero p)
 obtain ⟨d, hd⟩ : ∃ d, vl p c = y + d := ⟨vl p c - y, by omega⟩
 have p1 : 0 < p ^ y := Int.pow_pos (by omega)
 have p2 : 0 < p ^ d := Int.pow_pos (by omega)
 rw [hd, Int.pow_add, Int.mul_assoc] at h1
 refine ⟨p1, ?_⟩
 have hw : p ^ d * u ≠ 0 := fun e => hc (by rw [h1, e, Int.mul_zero])
 have h3 : c.natAbs = (p ^ y).natAbs * (p ^ d * u).natAbs := by rw [h1, Int.natAbs_mul]
 have h4 : (p ^ y).natAbs * 1 ≤ (p ^ y).natAbs * (p ^ d * u).natAbs := Nat.mul_le_mul_left _ (by omega)
 omega
theorem ln_ok {p : Int} (hp : 2 ≤ p ∧ p ≤ 97) {l : List Int} (hb : ∀ j, -1000000 ≤ cf l j ∧ cf l j ≤ 1000000) {a b : Int × Int} {g : Nat} {run rise : Int} (h : Ln a b g run rise) (ha : Cor p l a) (hb' : Cor p l b) {k : Nat} (hk : k ≤ g) :
  (∃ x : Nat, x < l.length ∧ a.1 + (k : Int) * run = x) ∧ ∃ y : Nat, y ≤ 20 ∧ a.2 + (k : Int) * rise = y ∧ ∀ j, j ≤ y → 0 < p ^ j ∧ p ^ j ≤ 1000000 := by
 have hx := h.x hk
 have hy := h.y hk
 obtain ⟨ia, a1, a2, a3⟩ := ha
 obtain ⟨ib, b1, b2, b3⟩ := hb'
 have va := vl_small hp.1 a2 (k := 20) (by have := hb ia; have : (2 : Nat) ^ 20 = 1048576 := rfl; omega)
 have vb := vl_small hp.1 b2 (k := 20) (by have := hb ib; have : (2 : Nat) ^ 20 = 1048576 := rfl; omega)
 rw [a3, b3] at hx hy
 rw [a3]
 dsimp only at hx hy ⊢
 refine ⟨⟨((ia : Int) + (k : Int) * run).toNat, by omega, by omega⟩, ((vl p (cf l ia) : Nat) + (k : Int) * rise).toNat, by omega, by omega, fun j hj => ?_⟩
 rcases hy with hy | hy
 ·exact ppow_bd hp b2 (hb ib) (by omega)
 ·exact ppow_bd hp a2 (hb ia) (by omega)

structure Pc (p : Int) (l : List Int) (L : List (Int × Int)) (i : Nat) (a b : Int × Int) (g : Nat) (run rise : Int) : Prop where
 ha : L.getD i (0, 0) = a
 hi : i + 1 < L.length
 hs : (slT L (L.length - 1)).getD i (0, 0, 0) = (rise, run, b.1 - a.1)
 ln : Ln a b g run rise
 ca : Cor p l a
 cb : Cor p l b
 g8 : (g : Int) ≤ 100
 r8 : run ≤ 100
 b8 : b.1 - a.1 ≤ 100
 s8 : -100 ≤ rise ∧ rise ≤ 100
 p8 : (0 ≤ a.1 ∧ a.1 ≤ 100) ∧ 0 ≤ a.2 ∧ a.2 ≤ 100

open Go Go.RowKit Go.Proofs Poly Hull
set_option maxRecDepth 100000
set_option maxHeartbeats 8000000

theorem residualOf_fn (p : Int) (hp : 2 ≤ p ∧ p ≤ 97) (g0 : Option Nat) (l : List Int) (hl : l.length ≤ 100) (hb : ∀ j, -1000000 ≤ cf l j ∧ cf l j ≤ 1000000) (L : List (Int × Int)) (hpol : FnV 51 [.int .i64 p, .ints g0 l] (vCs L)) (hslo : FnV 33 [.int .i64 p, .ints g0 l] (vSs (slT L (L.length - 1))))
  (i : Nat) (x0 y0 : Int) (b : Int × Int) (g : Nat) (run rise : Int) (hP : Pc p l L i (x0, y0) b g run rise) : FnI 35 [.int .i64 p, .ints g0 l, .int .i64 i] (resT p l (x0, y0) run rise (g + 1)) := by
 have hi := hP.hi
 have hln := hP.ln
 have g8 := hP.g8
 have r8 := hP.r8
 have s8 := hP.s8
 have r1 := hln.run1
 have p8 := hP.p8
 have b8 := hP.b8
 dsimp only at p8 b8
 have e7 : vC (L.getD i (0, 0)) = .agg [.int .i64 x0, .int .i64 y0] := by rw [hP.ha]
 have e8 : vS ((slT L (L.length - 1)).getD i (0, 0, 0)) = .agg [.int .i64 rise, .int .i64 run, .int .i64 (b.1 - x0)] := by rw [hP.hs]
 have hsl := slT_len L (L.length - 1)
 refine fn_of (cx_ok [0, 1, 2, 6, 7, 8, 9, 10, 11, 12, 31, 56]) Tryz.func35 rfl (by decide) Tryz.ntmps35 (Nat.le_of_ble_eq_true rfl) fun base => ?_
 refine wrs fun K hK => ?_
 conv => whnf
 refine hK _ ?_
 clear hK K
 refine W.seqK fun K9 hK9 => ?_
 have mid : ∀ (bx bz : Nat) (t : S), base ≤ t.hs → coverK t.env [(0, .v (.int .i64 p)), (1, .v (.ints g0 l)), (7, .ownB bx (vC (L.getD i (0, 0)))), (8, .ownB bz (vS ((slT L (L.length - 1)).getD i (0, 0, 0))))] → K9 t := by
  intro bx bz t h7 h8
  rw [e7, e8] at h8
  refine hK9 _ (W.weak (t := ⟨[(0, .v (.int .i64 p)), (1, .v (.ints g0 l)), (7, .ownB bx (.agg [.int .i64 x0, .int .i64 y0])), (8, .ownB bz (.agg [.int .i64 rise, .int .i64 run, .int .i64 (b.1 - x0)]))], base⟩) ⟨h7, h8⟩ (Nat.le_refl _) ?_)
  clear hK9 K9
  refine wrs fun K hK => ?_
  conv => whnf
  refine hK _ ?_
  clear hK K
  refine W.seqK fun K1 hK1 => wrs fun K hK => ?_
  conv => whnf
  refine hK _ (W.block (W.invA (fun m e => ∃ (k bo : Nat), k ≤ g + 1 ∧ m = g + 1 - k ∧ e = [(0, .v (.int .i64 p)), (1, .v (.ints g0 l)), (7, .ownB bx (.agg [.int .i64 x0, .int .i64 y0])), (8, .ownB bz (.agg [.int .i64 rise, .int .i64 run, .int .i64 (b.1 - x0)])), (9, .ownI 2 bo (resT p l (x0, y0) run rise k)), (10, .v (.int .i64 k))]) ⟨0, 0, Nat.zero_le _, rfl, rfl⟩ ?_))
  clear hK K
  rintro m e ⟨k, bo, hk, hm, rfl⟩
  have hlen := resT_len p l (x0, y0) run rise k
  have m0 : 0 ≤ (k : Int) * run ∧ (k : Int) * run ≤ 101 * 100 := ⟨Int.mul_nonneg (by omega) (by omega), Int.mul_le_mul (by omega) r8 (by omega) (by decide)⟩
  refine W.seqK fun K7 hK7 => ?_
  refine wrs fun K hK => ?_
  conv => whnf
  refine ⟨by show _ ≤ (k : Int) * run ∧ (k : Int) * run ≤ _; omega, ?_⟩
  conv => whnf
  refine hK _ (W.cond ⟨fun h3 => ?_, fun h3 => ?_⟩) <;> clear hK K <;> (first | replace h3 := of_decide_eq_true h3 | replace h3 := of_decide_eq_false h3)
  ·have hkg : k ≤ g := (hln.iff (k := k)).1 h3
   obtain ⟨⟨x, hx, ex⟩, y, hy, ey, hpw⟩ := ln_ok hp hb hln hP.ca hP.cb hkg
   dsimp only at ex ey
   have m1 := mul100 (a := k) (b := rise) (by omega) (by omega)
   have hbx := hb x
   have hpy := hpw y (Nat.le_refl _)
   have hnx : resT p l (x0, y0) run rise (k + 1) = resT p l (x0, y0) run rise k ++ [resE p (cf l x) y] := by rw [resT]; dsimp only; rw [ex, ey, Int.toNat_natCast, Int.toNat_natCast]
   refine W.skip (hK7 _ ?_)
   clear hK7 K7
   refine W.seqK fun K8 hK8 => W.block ?_
   refine W.rd (cx_ok _) follows (by rfl) fun K hK => ?_
   conv => whnf
   refine ⟨by show _ ≤ (k : Int) * run ∧ (k : Int) * run ≤ _; omega, ?_⟩
   conv => whnf
   refine ⟨by show _ ≤ x0 + (k : Int) * run ∧ x0 + (k : Int) * run ≤ _; omega, ?_⟩
   conv => whnf
   rw [ex]
   refine ⟨oo, ?_⟩
   conv => whnf
   rw [Int.toNat_natCast]
   refine ⟨by show _ ≤ (k : Int) * rise ∧ (k : Int) * rise ≤ _; omega, ?_⟩
   conv => whnf
   refine ⟨by show _ ≤ y0 + (k : Int) * rise ∧ y0 + (k : Int) * rise ≤ _; omega, ?_⟩
   conv => whnf
   rw [ey]
   refine ⟨_, cxF (power_fn p y (fun j hj => by have := hpw j hj; constructor <;> omega) (by omega)), ?_⟩
   conv => whnf
   refine hK _ ?_
   clear hK K
   refine W.seqK fun K4 hK4 => ?_
   have fin : ∀ (c : Int) (t : S), c.tdiv (p ^ y) % p = resE p (cf l x) y → -1000000 ≤ c ∧ c ≤ 1000000 → base ≤ t.hs → coverK t.env [(0, .v (.int .i64 p)), (1, .v (.ints g0 l)), (7, .ownB bx (.agg [.int .i64 x0, .int .i64 y0])), (8, .ownB bz (.agg [.int .i64 rise, .int .i64 run, .int .i64 (b.1 - x0)])), (9, .ownI 2 bo (resT p l (x0, y0) run rise k)), (10, .v (.int .i64 k)), (11, .v (.int .i64 c)), (12, .v (.int .i64 (p ^ y)))] → K4 t := by
    intro c t hc hcb h7 h8
    refine hK4 _ (W.weak (t := ⟨[(0, .v (.int .i64 p)), (1, .v (.ints g0 l)), (7, .ownB bx (.agg [.int .i64 x0, .int .i64 y0])), (8, .ownB bz (.agg [.int .i64 rise, .int .i64 run, .int .i64 (b.1 - x0)])), (9, .ownI 2 bo (resT p l (x0, y0) run rise k)), (10, .v (.int .i64 k)), (11, .v (.int .i64 c)), (12, .v (.int .i64 (p ^ y)))], base⟩) ⟨h7, h8⟩ (Nat.le_refl _) ?_)
    clear hK4 K4
    have hq := down_bd (p := p) y hcb
    refine wrg ?_
    conv => whnf
    refine ⟨by show p ^ y ≠ 0; omega, ?_⟩
    conv => whnf
    refine ⟨by show _ ≤ c.tdiv (p ^ y) ∧ c.tdiv (p ^ y) ≤ _; omega, ?_⟩
    conv => whnf
    refine callV rfl (mod_fn (c.tdiv (p ^ y)) p (by omega) (by omega) (by omega)) fun hs' hhs => ?_
    try dsimp only at hhs
    conv => whnf
    rw [hc]
    refine ⟨⟨rfl, by decide⟩, ?_⟩
    conv => whnf
    intro b_1 hs_1 hh_1 hf_1
    try dsimp only at hh_1 hf_1
    conv => whnf
    refine ⟨by rw [hlen]; simp; omega, ?_⟩
    conv => whnf
    intro b_2 hs_2 hh_2 hf_2
    try dsimp only at hh_2 hf_2
    conv => whnf
    refine hK8 _ ?_
    clear hK8 K8
    refine wrg ?_
    conv => whnf
    refine ⟨oo, ?_⟩
    conv => whnf
    exact againA ⟨k + 1, b_2, by omega, rfl, by rw [hnx]⟩
   refine wrs fun K hK => ?_
   conv => whnf
   refine ⟨by show p ^ y ≠ 0; omega, ?_⟩
   conv => whnf
   refine hK _ (W.cond ⟨fun h4 => ?_, fun h4 => ?_⟩) <;> clear hK K
   ·have h4 : (cf l x).tmod (p ^ y) ≠ 0 := of_decide_eq_true h4
    refine wrg ?_
    conv => whnf
    refine fin 0 _ (by rw [resE_no hp.1 h4]; simp) (by omega) (by dsimp only; omega) ?_
    exact cvr
   ·have h4 : ¬ (cf l x).tmod (p ^ y) ≠ 0 := of_decide_eq_false h4
    refine W.skip (fin (cf l x) _ (resE_yes hp.1 (Classical.byContradiction fun hh => h4 hh)).symm hbx (by dsimp only; omega) ?_)
    exact cvr
  ·obtain rfl : k = g + 1 := by
    have : ¬ k ≤ g := fun hk => h3 ((hln.iff (k := k)).2 hk)
    omega
   have hz := trimZ_id (resT_nrm hp.1 hln hP.cb).2
   refine W.exit (hK1 _ ?_)
   clear hK7 K7 hK1 K1
   refine wrs fun K hK => ?_
   conv => whnf
   refine callI rfl (trim_fn _ _ (by rw [hlen]; omega)) fun hs_1 b_1 hh_1 hf_1 => ?_
   try dsimp only at hh_1 hf_1
   conv => whnf
   rw [hz]
   refine hK _ ?_
   clear hK K
   refine W.ret ?_
   conv => whnf
   exact ⟨.ownI 2 _ (resT p l (x0, y0) run rise (g + 1)), ⟨rfl, rfl, rfl⟩, trivial, _, rfl⟩
 refine W.sch follows ?_
 refine Wany.join (fun t => ∃ bx bz, base ≤ t.hs ∧ coverK t.env [(0, .v (.int .i64 p)), (1, .v (.ints g0 l)), (18, .v (vC (L.getD i (0, 0)))), (24, .v (vS ((slT L (L.length - 1)).getD i (0, 0, 0)))), (7, .ownB bx (.agg [.int .i64 0, .int .i64 0])), (8, .ownB bz (.agg [.int .i64 0, .int .i64 0, .int .i64 0]))]) 2 #[true, true, true, true, true, true, true, true, true, true, true, true, true, true, false, false] (fun t ht => ?_) fun jn => ?_
 ·obtain ⟨bx, bz, h7, h8⟩ := ht
  refine Wany.cov h8 ?_
  refine w1 14 ?_
  conv => whnf
  refine ⟨s23, ?_⟩
  conv => whnf
  refine w1 15 ?_
  conv => whnf
  refine ⟨s23, ?_⟩
  conv => whnf
  refine wd1 (mid bx bz _ h7 ?_)
  exact cvr
 refine wt 0 ?_
 conv => whnf
 refine wt 1 ?_
 conv => whnf
 refine wt 3 ?_
 conv => whnf
 refine wt 6 ?_
 conv => whnf
 refine wt 7 ?_
 conv => whnf
 refine wt 9 ?_
 conv => whnf
 refine w3 2 12 13 ?_ ?_ ?_ <;> conv => whnf
 ·refine callV rfl hpol fun hs' hhs => ?_
  try dsimp only at hhs
  conv => whnf
  refine wi 4 ?_
  conv => whnf
  refine ⟨oo, ?_⟩
  conv => whnf
  rw [Int.toNat_natCast]
  refine Wany.all (cx_ok []) (by rfl) (rs := [5, 8, 12, 13]) (by kernel_rfl) (by decide) ?_
  intro i hi
  simp only [List.mem_cons, List.not_mem_nil, or_false] at hi
  rcases hi with rfl | rfl | rfl | rfl <;> refine ⟨_, by rfl, by rfl, ?_⟩ <;> conv => whnf
  ·refine w3 8 12 13 ?_ ?_ ?_ <;> conv => whnf
   ·refine callV rfl hslo fun hs' hhs => ?_
    try dsimp only at hhs
    conv => whnf
    refine wi 10 ?_
    conv => whnf
    refine ⟨oo, ?_⟩
    conv => whnf
    rw [Int.toNat_natCast]
    refine w3 11 12 13 ?_ ?_ ?_ <;> conv => whnf
    ·refine w2 12 13 ?_ ?_ <;> conv => whnf
     ·intro b_x hs_x hh_x hf_x
      try dsimp only at hh_x hf_x
      conv => whnf
      refine w1 13 ?_
      conv => whnf
      intro b_z hs_z hh_z hf_z
      try dsimp only at hh_z hf_z
      conv => whnf
      refine jn _ ⟨b_x, b_z, by dsimp only; omega, ?_⟩
      exact cvr
     ·intro b_z hs_z hh_z hf_z
      try dsimp only at hh_z hf_z
      conv => whnf
      refine w1 12 ?_
      conv => whnf
      intro b_x hs_x hh_x hf_x
      try dsimp only at hh_x hf_x
      conv => whnf
      refine jn _ ⟨b_x, b_z, by dsimp only; omega, ?_⟩
      exact cvr
    ·intro b_x hs_x hh_x hf_x
     try dsimp only at hh_x hf_x
     conv => whnf
     refine w2 11 13 ?_ ?_ <;> conv => whnf
     ·refine w1 13 ?_
      conv => whnf
      intro b_z hs_z hh_z hf_z
      try dsimp only at hh_z hf_z
      conv => whnf
      refine jn _ ⟨b_x, b_z, by dsimp only; omega, ?_⟩
      exact cvr
     ·intro b_z hs_z hh_z hf_z
      try dsimp only at hh_z hf_z
      conv => whnf
      refine w2 11 14 ?_ ?_ <;> conv => whnf
      ·refine jn _ ⟨b_x, b_z, by dsimp only; omega, ?_⟩
       exact cvr
      ·refine ⟨s23, ?_⟩
       conv => whnf
       refine w1 11 ?_
       conv => whnf
       refine w1 15 ?_
       conv => whnf
       refine ⟨s23, ?_⟩
       conv => whnf
       refine wd1 (mid b_x b_z _ (by dsimp only; omega) ?_)
       exact cvr
    ·intro b_z hs_z hh_z hf_z
     try dsimp only at hh_z hf_z
     conv => whnf
     refine w2 11 12 ?_ ?_ <;> conv => whnf
     ·refine w1 12 ?_
      conv => whnf
      intro b_x hs_x hh_x hf_x
      try dsimp only at hh_x hf_x
      conv => whnf
      refine jn _ ⟨b_x, b_z, by dsimp only; omega, ?_⟩
      exact cvr
     ·intro b_x hs_x hh_x hf_x
      try dsimp only at hh_x hf_x
      conv => whnf
      refine w2 11 14 ?_ ?_ <;> conv => whnf
      ·refine jn _ ⟨b_x, b_z, by dsimp only; omega, ?_⟩
       exact cvr
      ·refine ⟨s23, ?_⟩
       conv => whnf
       refine w1 11 ?_
       conv => whnf
       refine w1 15 ?_
       conv => whnf
       refine ⟨s23, ?_⟩
       conv => whnf
       refine wd1 (mid b_x b_z _ (by dsimp only; omega) ?_)
       exact cvr
   ·intro b_x hs_x hh_x hf_x
    try dsimp only at hh_x hf_x
    conv => whnf
    refine w2 8 13 ?_ ?_ <;> conv => whnf
    ·refine callV rfl hslo fun hs' hhs => ?_
     try dsimp only at hhs
     conv => whnf
     refine wi 10 ?_
     conv => whnf
     refine ⟨oo, ?_⟩
     conv => whnf
     rw [Int.toNat_natCast]
     refine w2 11 13 ?_ ?_ <;> conv => whnf
     ·refine w1 13 ?_
      conv => whnf
      intro b_z hs_z hh_z hf_z
      try dsimp only at hh_z hf_z
      conv => whnf
      refine jn _ ⟨b_x, b_z, by dsimp only; omega, ?_⟩
      exact cvr
     ·intro b_z hs_z hh_z hf_z
      try dsimp only at hh_z hf_z
      conv => whnf
      refine w2 11 14 ?_ ?_ <;> conv => whnf
      ·refine jn _ ⟨b_x, b_z, by dsimp only; omega, ?_⟩
       exact cvr
      ·refine ⟨s23, ?_⟩
       conv => whnf
       refine w1 11 ?_
       conv => whnf
       refine w1 15 ?_
       conv => whnf
       refine ⟨s23, ?_⟩
       conv => whnf
       refine wd1 (mid b_x b_z _ (by dsimp only; omega) ?_)
       exact cvr
    ·intro b_z hs_z hh_z hf_z
     try dsimp only at hh_z hf_z
     conv => whnf
     refine w1 8 ?_
     conv => whnf
     refine callV rfl hslo fun hs' hhs => ?_
     try dsimp only at hhs
     conv => whnf
     refine wi 10 ?_
     conv => whnf
     refine ⟨oo, ?_⟩
     conv => whnf
     rw [Int.toNat_natCast]
     refine w2 11 14 ?_ ?_ <;> conv => whnf
     ·refine jn _ ⟨b_x, b_z, by dsimp only; omega, ?_⟩
      exact cvr
     ·refine ⟨s23, ?_⟩
      conv => whnf
      refine w1 11 ?_
      conv => whnf
      refine w1 15 ?_
      conv => whnf
      refine ⟨s23, ?_⟩
      conv => whnf
      refine wd1 (mid b_x b_z _ (by dsimp only; omega) ?_)
      exact cvr
   ·intro b_z hs_z hh_z hf_z
    try dsimp only at hh_z hf_z
    conv => whnf
    refine w2 8 12 ?_ ?_ <;> conv => whnf
    ·refine callV rfl hslo fun hs' hhs => ?_
     try dsimp only at hhs
     conv => whnf
     refine wi 10 ?_
     conv => whnf
     refine ⟨oo, ?_⟩
     conv => whnf
     rw [Int.toNat_natCast]
     refine w2 11 12 ?_ ?_ <;> conv => whnf
     ·refine w1 12 ?_
      conv => whnf
      intro b_x hs_x hh_x hf_x
      try dsimp only at hh_x hf_x
      conv => whnf
      refine jn _ ⟨b_x, b_z, by dsimp only; omega, ?_⟩
      exact cvr
     ·intro b_x hs_x hh_x hf_x
      try dsimp only at hh_x hf_x
      conv => whnf
      refine w2 11 14 ?_ ?_ <;> conv => whnf
      ·refine jn _ ⟨b_x, b_z, by dsimp only; omega, ?_⟩
       exact cvr
      ·refine ⟨s23, ?_⟩
       conv => whnf
       refine w1 11 ?_
       conv => whnf
       refine w1 15 ?_
       conv => whnf
       refine ⟨s23, ?_⟩
       conv => whnf
       refine wd1 (mid b_x b_z _ (by dsimp only; omega) ?_)
       exact cvr
    ·intro b_x hs_x hh_x hf_x
     try dsimp only at hh_x hf_x
     conv => whnf
     refine w1 8 ?_
     conv => whnf
     refine callV rfl hslo fun hs' hhs => ?_
     try dsimp only at hhs
     conv => whnf
     refine wi 10 ?_
     conv => whnf
     refine ⟨oo, ?_⟩
     conv => whnf
     rw [Int.toNat_natCast]
     refine w2 11 14 ?_ ?_ <;> conv => whnf
     ·refine jn _ ⟨b_x, b_z, by dsimp only; omega, ?_⟩
      exact cvr
     ·refine ⟨s23, ?_⟩
      conv => whnf
      refine w1 11 ?_
      conv => whnf
      refine w1 15 ?_
      conv => whnf
      refine ⟨s23, ?_⟩
      conv => whnf
      refine wd1 (mid b_x b_z _ (by dsimp only; omega) ?_)
      exact cvr
  ·refine callV rfl hslo fun hs' hhs => ?_
   try dsimp only at hhs
   conv => whnf
   refine wi 10 ?_
   conv => whnf
   refine ⟨oo, ?_⟩
   conv => whnf
   rw [Int.toNat_natCast]
   refine Wany.all (cx_ok []) (by rfl) (rs := [5, 11, 12, 13]) (by kernel_rfl) (by decide) ?_
   intro i hi
   simp only [List.mem_cons, List.not_mem_nil, or_false] at hi
   rcases hi with rfl | rfl | rfl | rfl <;> refine ⟨_, by rfl, by rfl, ?_⟩ <;> conv => whnf
   ·refine w3 11 12 13 ?_ ?_ ?_ <;> conv => whnf
    ·refine w2 12 13 ?_ ?_ <;> conv => whnf
     ·intro b_x hs_x hh_x hf_x
      try dsimp only at hh_x hf_x
      conv => whnf
      refine w1 13 ?_
      conv => whnf
      intro b_z hs_z hh_z hf_z
      try dsimp only at hh_z hf_z
      conv => whnf
      refine jn _ ⟨b_x, b_z, by dsimp only; omega, ?_⟩
      exact cvr
     ·intro b_z hs_z hh_z hf_z
      try dsimp only at hh_z hf_z
      conv => whnf
      refine w1 12 ?_
      conv => whnf
      intro b_x hs_x hh_x hf_x
      try dsimp only at hh_x hf_x
      conv => whnf
      refine jn _ ⟨b_x, b_z, by dsimp only; omega, ?_⟩
      exact cvr
    ·intro b_x hs_x hh_x hf_x
     try dsimp only at hh_x hf_x
     conv => whnf
     refine w2 11 13 ?_ ?_ <;> conv => whnf
     ·refine w1 13 ?_
      conv => whnf
      intro b_z hs_z hh_z hf_z
      try dsimp only at hh_z hf_z
      conv => whnf
      refine jn _ ⟨b_x, b_z, by dsimp only; omega, ?_⟩
      exact cvr
     ·intro b_z hs_z hh_z hf_z
      try dsimp only at hh_z hf_z
      conv => whnf
      refine w2 11 14 ?_ ?_ <;> conv => whnf
      ·refine jn _ ⟨b_x, b_z, by dsimp only; omega, ?_⟩
       exact cvr
      ·refine ⟨s23, ?_⟩
       conv => whnf
       refine w1 11 ?_
       conv => whnf
       refine w1 15 ?_
       conv => whnf
       refine ⟨s23, ?_⟩
       conv => whnf
       refine wd1 (mid b_x b_z _ (by dsimp only; omega) ?_)
       exact cvr
    ·intro b_z hs_z hh_z hf_z
     try dsimp only at hh_z hf_z
     conv => whnf
     refine w2 11 12 ?_ ?_ <;> conv => whnf
     ·refine w1 12 ?_
      conv => whnf
      intro b_x hs_x hh_x hf_x
      try dsimp only at hh_x hf_x
      conv => whnf
      refine jn _ ⟨b_x, b_z, by dsimp only; omega, ?_⟩
      exact cvr
     ·intro b_x hs_x hh_x hf_x
      try dsimp only at hh_x hf_x
      conv => whnf
      refine w2 11 14 ?_ ?_ <;> conv => whnf
      ·refine jn _ ⟨b_x, b_z, by dsimp only; omega, ?_⟩
       exact cvr
      ·refine ⟨s23, ?_⟩
       conv => whnf
       refine w1 11 ?_
       conv => whnf
       refine w1 15 ?_
       conv => whnf
       refine ⟨s23, ?_⟩
       conv => whnf
       refine wd1 (mid b_x b_z _ (by dsimp only; omega) ?_)
       exact cvr
   ·refine w3 5 12 13 ?_ ?_ ?_ <;> conv => whnf
    ·refine w2 12 13 ?_ ?_ <;> conv => whnf
     ·intro b_x hs_x hh_x hf_x
      try dsimp only at hh_x hf_x
      conv => whnf
      refine w1 13 ?_
      conv => whnf
      intro b_z hs_z hh_z hf_z
      try dsimp only at hh_z hf_z
      conv => whnf
      refine jn _ ⟨b_x, b_z, by dsimp only; omega, ?_⟩
      exact cvr
     ·intro b_z hs_z hh_z hf_z
      try dsimp only at hh_z hf_z
      conv => whnf
      refine w1 12 ?_
      conv => whnf
      intro b_x hs_x hh_x hf_x
      try dsimp only at hh_x hf_x
      conv => whnf
      refine jn _ ⟨b_x, b_z, by dsimp only; omega, ?_⟩
      exact cvr
    ·intro b_x hs_x hh_x hf_x
     try dsimp only at hh_x hf_x
     conv => whnf
     refine w2 5 13 ?_ ?_ <;> conv => whnf
     ·refine w1 13 ?_
      conv => whnf
      intro b_z hs_z hh_z hf_z
      try dsimp only at hh_z hf_z
      conv => whnf
      refine jn _ ⟨b_x, b_z, by dsimp only; omega, ?_⟩
      exact cvr
     ·intro b_z hs_z hh_z hf_z
      try dsimp only at hh_z hf_z
      conv => whnf
      refine w1 5 ?_
      conv => whnf
      refine jn _ ⟨b_x, b_z, by dsimp only; omega, ?_⟩
      exact cvr
    ·intro b_z hs_z hh_z hf_z
     try dsimp only at hh_z hf_z
     conv => whnf
     refine w2 5 12 ?_ ?_ <;> conv => whnf
     ·refine w1 12 ?_
      conv => whnf
      intro b_x hs_x hh_x hf_x
      try dsimp only at hh_x hf_x
      conv => whnf
      refine jn _ ⟨b_x, b_z, by dsimp only; omega, ?_⟩
      exact cvr
     ·intro b_x hs_x hh_x hf_x
      try dsimp only at hh_x hf_x
      conv => whnf
      refine w1 5 ?_
      conv => whnf
      refine jn _ ⟨b_x, b_z, by dsimp only; omega, ?_⟩
      exact cvr
   ·intro b_x hs_x hh_x hf_x
    try dsimp only at hh_x hf_x
    conv => whnf
    refine w3 5 11 13 ?_ ?_ ?_ <;> conv => whnf
    ·refine w2 11 13 ?_ ?_ <;> conv => whnf
     ·refine w1 13 ?_
      conv => whnf
      intro b_z hs_z hh_z hf_z
      try dsimp only at hh_z hf_z
      conv => whnf
      refine jn _ ⟨b_x, b_z, by dsimp only; omega, ?_⟩
      exact cvr
     ·intro b_z hs_z hh_z hf_z
      try dsimp only at hh_z hf_z
      conv => whnf
      refine w2 11 14 ?_ ?_ <;> conv => whnf
      ·refine jn _ ⟨b_x, b_z, by dsimp only; omega, ?_⟩
       exact cvr
      ·refine ⟨s23, ?_⟩
       conv => whnf
       refine w1 11 ?_
       conv => whnf
       refine w1 15 ?_
       conv => whnf
       refine ⟨s23, ?_⟩
       conv => whnf
       refine wd1 (mid b_x b_z _ (by dsimp only; omega) ?_)
       exact cvr
    ·refine w2 5 13 ?_ ?_ <;> conv => whnf
     ·refine w1 13 ?_
      conv => whnf
      intro b_z hs_z hh_z hf_z
      try dsimp only at hh_z hf_z
      conv => whnf
      refine jn _ ⟨b_x, b_z, by dsimp only; omega, ?_⟩
      exact cvr
     ·intro b_z hs_z hh_z hf_z
      try dsimp only at hh_z hf_z
      conv => whnf
      refine w1 5 ?_
      conv => whnf
      refine jn _ ⟨b_x, b_z, by dsimp only; omega, ?_⟩
      exact cvr
    ·intro b_z hs_z hh_z hf_z
     try dsimp only at hh_z hf_z
     conv => whnf
     refine w2 5 11 ?_ ?_ <;> conv => whnf
     ·refine w2 11 14 ?_ ?_ <;> conv => whnf
      ·refine jn _ ⟨b_x, b_z, by dsimp only; omega, ?_⟩
       exact cvr
      ·refine ⟨s23, ?_⟩
       conv => whnf
       refine w1 11 ?_
       conv => whnf
       refine w1 15 ?_
       conv => whnf
       refine ⟨s23, ?_⟩
       conv => whnf
       refine wd1 (mid b_x b_z _ (by dsimp only; omega) ?_)
       exact cvr
     ·refine w1 5 ?_
      conv => whnf
      refine jn _ ⟨b_x, b_z, by dsimp only; omega, ?_⟩
      exact cvr
   ·intro b_z hs_z hh_z hf_z
    try dsimp only at hh_z hf_z
    conv => whnf
    refine w3 5 11 12 ?_ ?_ ?_ <;> conv => whnf
    ·refine w2 11 12 ?_ ?_ <;> conv => whnf
     ·refine w1 12 ?_
      conv => whnf
      intro b_x hs_x hh_x hf_x
      try dsimp only at hh_x hf_x
      conv => whnf
      refine jn _ ⟨b_x, b_z, by dsimp only; omega, ?_⟩
      exact cvr
     ·intro b_x hs_x hh_x hf_x
      try dsimp only at hh_x hf_x
      conv => whnf
      refine w2 11 14 ?_ ?_ <;> conv => whnf
      ·refine jn _ ⟨b_x, b_z, by dsimp only; omega, ?_⟩
       exact cvr
      ·refine ⟨s23, ?_⟩
       conv => whnf
       refine w1 11 ?_
       conv => whnf
       refine w1 15 ?_
       conv => whnf
       refine ⟨s23, ?_⟩
       conv => whnf
       refine wd1 (mid b_x b_z _ (by dsimp only; omega) ?_)
       exact cvr
    ·refine w2 5 12 ?_ ?_ <;> conv => whnf
     ·refine w1 12 ?_
      conv => whnf
      intro b_x hs_x hh_x hf_x
      try dsimp only at hh_x hf_x
      conv => whnf
      refine jn _ ⟨b_x, b_z, by dsimp only; omega, ?_⟩
      exact cvr
     ·intro b_x hs_x hh_x hf_x
      try dsimp only at hh_x hf_x
      conv => whnf
      refine w1 5 ?_
      conv => whnf
      refine jn _ ⟨b_x, b_z, by dsimp only; omega, ?_⟩
      exact cvr
    ·intro b_x hs_x hh_x hf_x
     try dsimp only at hh_x hf_x
     conv => whnf
     refine w2 5 11 ?_ ?_ <;> conv => whnf
     ·refine w2 11 14 ?_ ?_ <;> conv => whnf
      ·refine jn _ ⟨b_x, b_z, by dsimp only; omega, ?_⟩
       exact cvr
      ·refine ⟨s23, ?_⟩
       conv => whnf
       refine w1 11 ?_
       conv => whnf
       refine w1 15 ?_
       conv => whnf
       refine ⟨s23, ?_⟩
       conv => whnf
       refine wd1 (mid b_x b_z _ (by dsimp only; omega) ?_)
       exact cvr
     ·refine w1 5 ?_
      conv => whnf
      refine jn _ ⟨b_x, b_z, by dsimp only; omega, ?_⟩
      exact cvr
  ·intro b_x hs_x hh_x hf_x
   try dsimp only at hh_x hf_x
   conv => whnf
   refine w3 5 8 13 ?_ ?_ ?_ <;> conv => whnf
   ·refine w2 8 13 ?_ ?_ <;> conv => whnf
    ·refine callV rfl hslo fun hs' hhs => ?_
     try dsimp only at hhs
     conv => whnf
     refine wi 10 ?_
     conv => whnf
     refine ⟨oo, ?_⟩
     conv => whnf
     rw [Int.toNat_natCast]
     refine w2 11 13 ?_ ?_ <;> conv => whnf
     ·refine w1 13 ?_
      conv => whnf
      intro b_z hs_z hh_z hf_z
      try dsimp only at hh_z hf_z
      conv => whnf
      refine jn _ ⟨b_x, b_z, by dsimp only; omega, ?_⟩
      exact cvr
     ·intro b_z hs_z hh_z hf_z
      try dsimp only at hh_z hf_z
      conv => whnf
      refine w2 11 14 ?_ ?_ <;> conv => whnf
      ·refine jn _ ⟨b_x, b_z, by dsimp only; omega, ?_⟩
       exact cvr
      ·refine ⟨s23, ?_⟩
       conv => whnf
       refine w1 11 ?_
       conv => whnf
       refine w1 15 ?_
       conv => whnf
       refine ⟨s23, ?_⟩
       conv => whnf
       refine wd1 (mid b_x b_z _ (by dsimp only; omega) ?_)
       exact cvr
    ·intro b_z hs_z hh_z hf_z
     try dsimp only at hh_z hf_z
     conv => whnf
     refine w1 8 ?_
     conv => whnf
     refine callV rfl hslo fun hs' hhs => ?_
     try dsimp only at hhs
     conv => whnf
     refine wi 10 ?_
     conv => whnf
     refine ⟨oo, ?_⟩
     conv => whnf
     rw [Int.toNat_natCast]
     refine w2 11 14 ?_ ?_ <;> conv => whnf
     ·refine jn _ ⟨b_x, b_z, by dsimp only; omega, ?_⟩
      exact cvr
     ·refine ⟨s23, ?_⟩
      conv => whnf
      refine w1 11 ?_
      conv => whnf
      refine w1 15 ?_
      conv => whnf
      refine ⟨s23, ?_⟩
      conv => whnf
      refine wd1 (mid b_x b_z _ (by dsimp only; omega) ?_)
      exact cvr
   ·refine callV rfl hslo fun hs' hhs => ?_
    try dsimp only at hhs
    conv => whnf
    refine wi 10 ?_
    conv => whnf
    refine ⟨oo, ?_⟩
    conv => whnf
    rw [Int.toNat_natCast]
    refine w3 5 11 13 ?_ ?_ ?_ <;> conv => whnf
    ·refine w2 11 13 ?_ ?_ <;> conv => whnf
     ·refine w1 13 ?_
      conv => whnf
      intro b_z hs_z hh_z hf_z
      try dsimp only at hh_z hf_z
      conv => whnf
      refine jn _ ⟨b_x, b_z, by dsimp only; omega, ?_⟩
      exact cvr
     ·intro b_z hs_z hh_z hf_z
      try dsimp only at hh_z hf_z
      conv => whnf
      refine w2 11 14 ?_ ?_ <;> conv => whnf
      ·refine jn _ ⟨b_x, b_z, by dsimp only; omega, ?_⟩
       exact cvr
      ·refine ⟨s23, ?_⟩
       conv => whnf
       refine w1 11 ?_
       conv => whnf
       refine w1 15 ?_
       conv => whnf
       refine ⟨s23, ?_⟩
       conv => whnf
       refine wd1 (mid b_x b_z _ (by dsimp only; omega) ?_)
       exact cvr
    ·refine w2 5 13 ?_ ?_ <;> conv => whnf
     ·refine w1 13 ?_
      conv => whnf
      intro b_z hs_z hh_z hf_z
      try dsimp only at hh_z hf_z
      conv => whnf
      refine jn _ ⟨b_x, b_z, by dsimp only; omega, ?_⟩
      exact cvr
     ·intro b_z hs_z hh_z hf_z
      try dsimp only at hh_z hf_z
      conv => whnf
      refine w1 5 ?_
      conv => whnf
      refine jn _ ⟨b_x, b_z, by dsimp only; omega, ?_⟩
      exact cvr
    ·intro b_z hs_z hh_z hf_z
     try dsimp only at hh_z hf_z
     conv => whnf
     refine w2 5 11 ?_ ?_ <;> conv => whnf
     ·refine w2 11 14 ?_ ?_ <;> conv => whnf
      ·refine jn _ ⟨b_x, b_z, by dsimp only; omega, ?_⟩
       exact cvr
      ·refine ⟨s23, ?_⟩
       conv => whnf
       refine w1 11 ?_
       conv => whnf
       refine w1 15 ?_
       conv => whnf
       refine ⟨s23, ?_⟩
       conv => whnf
       refine wd1 (mid b_x b_z _ (by dsimp only; omega) ?_)
       exact cvr
     ·refine w1 5 ?_
      conv => whnf
      refine jn _ ⟨b_x, b_z, by dsimp only; omega, ?_⟩
      exact cvr
   ·intro b_z hs_z hh_z hf_z
    try dsimp only at hh_z hf_z
    conv => whnf
    refine w2 5 8 ?_ ?_ <;> conv => whnf
    ·refine w1 8 ?_
     conv => whnf
     refine callV rfl hslo fun hs' hhs => ?_
     try dsimp only at hhs
     conv => whnf
     refine wi 10 ?_
     conv => whnf
     refine ⟨oo, ?_⟩
     conv => whnf
     rw [Int.toNat_natCast]
     refine w2 11 14 ?_ ?_ <;> conv => whnf
     ·refine jn _ ⟨b_x, b_z, by dsimp only; omega, ?_⟩
      exact cvr
     ·refine ⟨s23, ?_⟩
      conv => whnf
      refine w1 11 ?_
      conv => whnf
      refine w1 15 ?_
      conv => whnf
      refine ⟨s23, ?_⟩
      conv => whnf
      refine wd1 (mid b_x b_z _ (by dsimp only; omega) ?_)
      exact cvr
    ·refine callV rfl hslo fun hs' hhs => ?_
     try dsimp only at hhs
     conv => whnf
     refine wi 10 ?_
     conv => whnf
     refine ⟨oo, ?_⟩
     conv => whnf
     rw [Int.toNat_natCast]
     refine w2 5 11 ?_ ?_ <;> conv => whnf
     ·refine w2 11 14 ?_ ?_ <;> conv => whnf
      ·refine jn _ ⟨b_x, b_z, by dsimp only; omega, ?_⟩
       exact cvr
      ·refine ⟨s23, ?_⟩
       conv => whnf
       refine w1 11 ?_
       conv => whnf
       refine w1 15 ?_
       conv => whnf
       refine ⟨s23, ?_⟩
       conv => whnf
       refine wd1 (mid b_x b_z _ (by dsimp only; omega) ?_)
       exact cvr
     ·refine w1 5 ?_
      conv => whnf
      refine jn _ ⟨b_x, b_z, by dsimp only; omega, ?_⟩
      exact cvr
  ·intro b_z hs_z hh_z hf_z
   try dsimp only at hh_z hf_z
   conv => whnf
   refine w3 5 8 12 ?_ ?_ ?_ <;> conv => whnf
   ·refine w2 8 12 ?_ ?_ <;> conv => whnf
    ·refine callV rfl hslo fun hs' hhs => ?_
     try dsimp only at hhs
     conv => whnf
     refine wi 10 ?_
     conv => whnf
     refine ⟨oo, ?_⟩
     conv => whnf
     rw [Int.toNat_natCast]
     refine w2 11 12 ?_ ?_ <;> conv => whnf
     ·refine w1 12 ?_
      conv => whnf
      intro b_x hs_x hh_x hf_x
      try dsimp only at hh_x hf_x
      conv => whnf
      refine jn _ ⟨b_x, b_z, by dsimp only; omega, ?_⟩
      exact cvr
     ·intro b_x hs_x hh_x hf_x
      try dsimp only at hh_x hf_x
      conv => whnf
      refine w2 11 14 ?_ ?_ <;> conv => whnf
      ·refine jn _ ⟨b_x, b_z, by dsimp only; omega, ?_⟩
       exact cvr
      ·refine ⟨s23, ?_⟩
       conv => whnf
       refine w1 11 ?_
       conv => whnf
       refine w1 15 ?_
       conv => whnf
       refine ⟨s23, ?_⟩
       conv => whnf
       refine wd1 (mid b_x b_z _ (by dsimp only; omega) ?_)
       exact cvr
    ·intro b_x hs_x hh_x hf_x
     try dsimp only at hh_x hf_x
     conv => whnf
     refine w1 8 ?_
     conv => whnf
     refine callV rfl hslo fun hs' hhs => ?_
     try dsimp only at hhs
     conv => whnf
     refine wi 10 ?_
     conv => whnf
     refine ⟨oo, ?_⟩
     conv => whnf
     rw [Int.toNat_natCast]
     refine w2 11 14 ?_ ?_ <;> conv => whnf
     ·refine jn _ ⟨b_x, b_z, by dsimp only; omega, ?_⟩
      exact cvr
     ·refine ⟨s23, ?_⟩
      conv => whnf
      refine w1 11 ?_
      conv => whnf
      refine w1 15 ?_
      conv => whnf
      refine ⟨s23, ?_⟩
      conv => whnf
      refine wd1 (mid b_x b_z _ (by dsimp only; omega) ?_)
      exact cvr
   ·refine callV rfl hslo fun hs' hhs => ?_
    try dsimp only at hhs
    conv => whnf
    refine wi 10 ?_
    conv => whnf
    refine ⟨oo, ?_⟩
    conv => whnf
    rw [Int.toNat_natCast]
    refine w3 5 11 12 ?_ ?_ ?_ <;> conv => whnf
    ·refine w2 11 12 ?_ ?_ <;> conv => whnf
     ·refine w1 12 ?_
      conv => whnf
      intro b_x hs_x hh_x hf_x
      try dsimp only at hh_x hf_x
      conv => whnf
      refine jn _ ⟨b_x, b_z, by dsimp only; omega, ?_⟩
      exact cvr
     ·intro b_x hs_x hh_x hf_x
      try dsimp only at hh_x hf_x
      conv => whnf
      refine w2 11 14 ?_ ?_ <;> conv => whnf
      ·refine jn _ ⟨b_x, b_z, by dsimp only; omega, ?_⟩
       exact cvr
      ·refine ⟨s23, ?_⟩
       conv => whnf
       refine w1 11 ?_
       conv => whnf
       refine w1 15 ?_
       conv => whnf
       refine ⟨s23, ?_⟩
       conv => whnf
       refine wd1 (mid b_x b_z _ (by dsimp only; omega) ?_)
       exact cvr
    ·refine w2 5 12 ?_ ?_ <;> conv => whnf
     ·refine w1 12 ?_
      conv => whnf
      intro b_x hs_x hh_x hf_x
      try dsimp only at hh_x hf_x
      conv => whnf
      refine jn _ ⟨b_x, b_z, by dsimp only; omega, ?_⟩
      exact cvr
     ·intro b_x hs_x hh_x hf_x
      try dsimp only at hh_x hf_x
      conv => whnf
      refine w1 5 ?_
      conv => whnf
      refine jn _ ⟨b_x, b_z, by dsimp only; omega, ?_⟩
      exact cvr
    ·intro b_x hs_x hh_x hf_x
     try dsimp only at hh_x hf_x
     conv => whnf
     refine w2 5 11 ?_ ?_ <;> conv => whnf
     ·refine w2 11 14 ?_ ?_ <;> conv => whnf
      ·refine jn _ ⟨b_x, b_z, by dsimp only; omega, ?_⟩
       exact cvr
      ·refine ⟨s23, ?_⟩
       conv => whnf
       refine w1 11 ?_
       conv => whnf
       refine w1 15 ?_
       conv => whnf
       refine ⟨s23, ?_⟩
       conv => whnf
       refine wd1 (mid b_x b_z _ (by dsimp only; omega) ?_)
       exact cvr
     ·refine w1 5 ?_
      conv => whnf
      refine jn _ ⟨b_x, b_z, by dsimp only; omega, ?_⟩
      exact cvr
   ·intro b_x hs_x hh_x hf_x
    try dsimp only at hh_x hf_x
    conv => whnf
    refine w2 5 8 ?_ ?_ <;> conv => whnf
    ·refine w1 8 ?_
     conv => whnf
     refine callV rfl hslo fun hs' hhs => ?_
     try dsimp only at hhs
     conv => whnf
     refine wi 10 ?_
     conv => whnf
     refine ⟨oo, ?_⟩
     conv => whnf
     rw [Int.toNat_natCast]
     refine w2 11 14 ?_ ?_ <;> conv => whnf
     ·refine jn _ ⟨b_x, b_z, by dsimp only; omega, ?_⟩
      exact cvr
     ·refine ⟨s23, ?_⟩
      conv => whnf
      refine w1 11 ?_
      conv => whnf
      refine w1 15 ?_
      conv => whnf
      refine ⟨s23, ?_⟩
      conv => whnf
      refine wd1 (mid b_x b_z _ (by dsimp only; omega) ?_)
      exact cvr
    ·refine callV rfl hslo fun hs' hhs => ?_
     try dsimp only at hhs
     conv => whnf
     refine wi 10 ?_
     conv => whnf
     refine ⟨oo, ?_⟩
     conv => whnf
     rw [Int.toNat_natCast]
     refine w2 5 11 ?_ ?_ <;> conv => whnf
     ·refine w2 11 14 ?_ ?_ <;> conv => whnf
      ·refine jn _ ⟨b_x, b_z, by dsimp only; omega, ?_⟩
       exact cvr
      ·refine ⟨s23, ?_⟩
       conv => whnf
       refine w1 11 ?_
       conv => whnf
       refine w1 15 ?_
       conv => whnf
       refine ⟨s23, ?_⟩
       conv => whnf
       refine wd1 (mid b_x b_z _ (by dsimp only; omega) ?_)
       exact cvr
     ·refine w1 5 ?_
      conv => whnf
      refine jn _ ⟨b_x, b_z, by dsimp only; omega, ?_⟩
      exact cvr
 ·intro b_x hs_x hh_x hf_x
  try dsimp only at hh_x hf_x
  conv => whnf
  refine w2 2 13 ?_ ?_ <;> conv => whnf
  ·refine callV rfl hpol fun hs' hhs => ?_
   try dsimp only at hhs
   conv => whnf
   refine wi 4 ?_
   conv => whnf
   refine ⟨oo, ?_⟩
   conv => whnf
   rw [Int.toNat_natCast]
   refine w3 5 8 13 ?_ ?_ ?_ <;> conv => whnf
   ·refine w2 8 13 ?_ ?_ <;> conv => whnf
    ·refine callV rfl hslo fun hs' hhs => ?_
     try dsimp only at hhs
     conv => whnf
     refine wi 10 ?_
     conv => whnf
     refine ⟨oo, ?_⟩
     conv => whnf
     rw [Int.toNat_natCast]
     refine w2 11 13 ?_ ?_ <;> conv => whnf
     ·refine w1 13 ?_
      conv => whnf
      intro b_z hs_z hh_z hf_z
      try dsimp only at hh_z hf_z
      conv => whnf
      refine jn _ ⟨b_x, b_z, by dsimp only; omega, ?_⟩
      exact cvr
     ·intro b_z hs_z hh_z hf_z
      try dsimp only at hh_z hf_z
      conv => whnf
      refine w2 11 14 ?_ ?_ <;> conv => whnf
      ·refine jn _ ⟨b_x, b_z, by dsimp only; omega, ?_⟩
       exact cvr
      ·refine ⟨s23, ?_⟩
       conv => whnf
       refine w1 11 ?_
       conv => whnf
       refine w1 15 ?_
       conv => whnf
       refine ⟨s23, ?_⟩
       conv => whnf
       refine wd1 (mid b_x b_z _ (by dsimp only; omega) ?_)
       exact cvr
    ·intro b_z hs_z hh_z hf_z
     try dsimp only at hh_z hf_z
     conv => whnf
     refine w1 8 ?_
     conv => whnf
     refine callV rfl hslo fun hs' hhs => ?_
     try dsimp only at hhs
     conv => whnf
     refine wi 10 ?_
     conv => whnf
     refine ⟨oo, ?_⟩
     conv => whnf
     rw [Int.toNat_natCast]
     refine w2 11 14 ?_ ?_ <;> conv => whnf
     ·refine jn _ ⟨b_x, b_z, by dsimp only; omega, ?_⟩
      exact cvr
     ·refine ⟨s23, ?_⟩
      conv => whnf
      refine w1 11 ?_
      conv => whnf
      refine w1 15 ?_
      conv => whnf
      refine ⟨s23, ?_⟩
      conv => whnf
      refine wd1 (mid b_x b_z _ (by dsimp only; omega) ?_)
      exact cvr
   ·refine callV rfl hslo fun hs' hhs => ?_
    try dsimp only at hhs
    conv => whnf
    refine wi 10 ?_
    conv => whnf
    refine ⟨oo, ?_⟩
    conv => whnf
    rw [Int.toNat_natCast]
    refine w3 5 11 13 ?_ ?_ ?_ <;> conv => whnf
    ·refine w2 11 13 ?_ ?_ <;> conv => whnf
     ·refine w1 13 ?_
      conv => whnf
      intro b_z hs_z hh_z hf_z
      try dsimp only at hh_z hf_z
      conv => whnf
      refine jn _ ⟨b_x, b_z, by dsimp only; omega, ?_⟩
      exact cvr
     ·intro b_z hs_z hh_z hf_z
      try dsimp only at hh_z hf_z
      conv => whnf
      refine w2 11 14 ?_ ?_ <;> conv => whnf
      ·refine jn _ ⟨b_x, b_z, by dsimp only; omega, ?_⟩
       exact cvr
      ·refine ⟨s23, ?_⟩
       conv => whnf
       refine w1 11 ?_
       conv => whnf
       refine w1 15 ?_
       conv => whnf
       refine ⟨s23, ?_⟩
       conv => whnf
       refine wd1 (mid b_x b_z _ (by dsimp only; omega) ?_)
       exact cvr
    ·refine w2 5 13 ?_ ?_ <;> conv => whnf
     ·refine w1 13 ?_
      conv => whnf
      intro b_z hs_z hh_z hf_z
      try dsimp only at hh_z hf_z
      conv => whnf
      refine jn _ ⟨b_x, b_z, by dsimp only; omega, ?_⟩
      exact cvr
     ·intro b_z hs_z hh_z hf_z
      try dsimp only at hh_z hf_z
      conv => whnf
      refine w1 5 ?_
      conv => whnf
      refine jn _ ⟨b_x, b_z, by dsimp only; omega, ?_⟩
      exact cvr
    ·intro b_z hs_z hh_z hf_z
     try dsimp only at hh_z hf_z
     conv => whnf
     refine w2 5 11 ?_ ?_ <;> conv => whnf
     ·refine w2 11 14 ?_ ?_ <;> conv => whnf
      ·refine jn _ ⟨b_x, b_z, by dsimp only; omega, ?_⟩
       exact cvr
      ·refine ⟨s23, ?_⟩
       conv => whnf
       refine w1 11 ?_
       conv => whnf
       refine w1 15 ?_
       conv => whnf
       refine ⟨s23, ?_⟩
       conv => whnf
       refine wd1 (mid b_x b_z _ (by dsimp only; omega) ?_)
       exact cvr
     ·refine w1 5 ?_
      conv => whnf
      refine jn _ ⟨b_x, b_z, by dsimp only; omega, ?_⟩
      exact cvr
   ·intro b_z hs_z hh_z hf_z
    try dsimp only at hh_z hf_z
    conv => whnf
    refine w2 5 8 ?_ ?_ <;> conv => whnf
    ·refine w1 8 ?_
     conv => whnf
     refine callV rfl hslo fun hs' hhs => ?_
     try dsimp only at hhs
     conv => whnf
     refine wi 10 ?_
     conv => whnf
     refine ⟨oo, ?_⟩
     conv => whnf
     rw [Int.toNat_natCast]
     refine w2 11 14 ?_ ?_ <;> conv => whnf
     ·refine jn _ ⟨b_x, b_z, by dsimp only; omega, ?_⟩
      exact cvr
     ·refine ⟨s23, ?_⟩
      conv => whnf
      refine w1 11 ?_
      conv => whnf
      refine w1 15 ?_
      conv => whnf
      refine ⟨s23, ?_⟩
      conv => whnf
      refine wd1 (mid b_x b_z _ (by dsimp only; omega) ?_)
      exact cvr
    ·refine callV rfl hslo fun hs' hhs => ?_
     try dsimp only at hhs
     conv => whnf
     refine wi 10 ?_
     conv => whnf
     refine ⟨oo, ?_⟩
     conv => whnf
     rw [Int.toNat_natCast]
     refine w2 5 11 ?_ ?_ <;> conv => whnf
     ·refine w2 11 14 ?_ ?_ <;> conv => whnf
      ·refine jn _ ⟨b_x, b_z, by dsimp only; omega, ?_⟩
       exact cvr
      ·refine ⟨s23, ?_⟩
       conv => whnf
       refine w1 11 ?_
       conv => whnf
       refine w1 15 ?_
       conv => whnf
       refine ⟨s23, ?_⟩
       conv => whnf
       refine wd1 (mid b_x b_z _ (by dsimp only; omega) ?_)
       exact cvr
     ·refine w1 5 ?_
      conv => whnf
      refine jn _ ⟨b_x, b_z, by dsimp only; omega, ?_⟩
      exact cvr
  ·intro b_z hs_z hh_z hf_z
   try dsimp only at hh_z hf_z
   conv => whnf
   refine w1 2 ?_
   conv => whnf
   refine callV rfl hpol fun hs' hhs => ?_
   try dsimp only at hhs
   conv => whnf
   refine wi 4 ?_
   conv => whnf
   refine ⟨oo, ?_⟩
   conv => whnf
   rw [Int.toNat_natCast]
   refine w2 5 8 ?_ ?_ <;> conv => whnf
   ·refine w1 8 ?_
    conv => whnf
    refine callV rfl hslo fun hs' hhs => ?_
    try dsimp only at hhs
    conv => whnf
    refine wi 10 ?_
    conv => whnf
    refine ⟨oo, ?_⟩
    conv => whnf
    rw [Int.toNat_natCast]
    refine w2 11 14 ?_ ?_ <;> conv => whnf
    ·refine jn _ ⟨b_x, b_z, by dsimp only; omega, ?_⟩
     exact cvr
    ·refine ⟨s23, ?_⟩
     conv => whnf
     refine w1 11 ?_
     conv => whnf
     refine w1 15 ?_
     conv => whnf
     refine ⟨s23, ?_⟩
     conv => whnf
     refine wd1 (mid b_x b_z _ (by dsimp only; omega) ?_)
     exact cvr
   ·refine callV rfl hslo fun hs' hhs => ?_
    try dsimp only at hhs
    conv => whnf
    refine wi 10 ?_
    conv => whnf
    refine ⟨oo, ?_⟩
    conv => whnf
    rw [Int.toNat_natCast]
    refine w2 5 11 ?_ ?_ <;> conv => whnf
    ·refine w2 11 14 ?_ ?_ <;> conv => whnf
     ·refine jn _ ⟨b_x, b_z, by dsimp only; omega, ?_⟩
      exact cvr
     ·refine ⟨s23, ?_⟩
      conv => whnf
      refine w1 11 ?_
      conv => whnf
      refine w1 15 ?_
      conv => whnf
      refine ⟨s23, ?_⟩
      conv => whnf
      refine wd1 (mid b_x b_z _ (by dsimp only; omega) ?_)
      exact cvr
    ·refine w1 5 ?_
     conv => whnf
     refine jn _ ⟨b_x, b_z, by dsimp only; omega, ?_⟩
     exact cvr
 ·intro b_z hs_z hh_z hf_z
  try dsimp only at hh_z hf_z
  conv => whnf
  refine w2 2 12 ?_ ?_ <;> conv => whnf
  ·refine callV rfl hpol fun hs' hhs => ?_
   try dsimp only at hhs
   conv => whnf
   refine wi 4 ?_
   conv => whnf
   refine ⟨oo, ?_⟩
   conv => whnf
   rw [Int.toNat_natCast]
   refine w3 5 8 12 ?_ ?_ ?_ <;> conv => whnf
   ·refine w2 8 12 ?_ ?_ <;> conv => whnf
    ·refine callV rfl hslo fun hs' hhs => ?_
     try dsimp only at hhs
     conv => whnf
     refine wi 10 ?_
     conv => whnf
     refine ⟨oo, ?_⟩
     conv => whnf
     rw [Int.toNat_natCast]
     refine w2 11 12 ?_ ?_ <;> conv => whnf
     ·refine w1 12 ?_
      conv => whnf
      intro b_x hs_x hh_x hf_x
      try dsimp only at hh_x hf_x
      conv => whnf
      refine jn _ ⟨b_x, b_z, by dsimp only; omega, ?_⟩
      exact cvr
     ·intro b_x hs_x hh_x hf_x
      try dsimp only at hh_x hf_x
      conv => whnf
      refine w2 11 14 ?_ ?_ <;> conv => whnf
      ·refine jn _ ⟨b_x, b_z, by dsimp only; omega, ?_⟩
       exact cvr
      ·refine ⟨s23, ?_⟩
       conv => whnf
       refine w1 11 ?_
       conv => whnf
       refine w1 15 ?_
       conv => whnf
       refine ⟨s23, ?_⟩
       conv => whnf
       refine wd1 (mid b_x b_z _ (by dsimp only; omega) ?_)
       exact cvr
    ·intro b_x hs_x hh_x hf_x
     try dsimp only at hh_x hf_x
     conv => whnf
     refine w1 8 ?_
     conv => whnf
     refine callV rfl hslo fun hs' hhs => ?_
     try dsimp only at hhs
     conv => whnf
     refine wi 10 ?_
     conv => whnf
     refine ⟨oo, ?_⟩
     conv => whnf
     rw [Int.toNat_natCast]
     refine w2 11 14 ?_ ?_ <;> conv => whnf
     ·refine jn _ ⟨b_x, b_z, by dsimp only; omega, ?_⟩
      exact cvr
     ·refine ⟨s23, ?_⟩
      conv => whnf
      refine w1 11 ?_
      conv => whnf
      refine w1 15 ?_
      conv => whnf
      refine ⟨s23, ?_⟩
      conv => whnf
      refine wd1 (mid b_x b_z _ (by dsimp only; omega) ?_)
      exact cvr
   ·refine callV rfl hslo fun hs' hhs => ?_
    try dsimp only at hhs
    conv => whnf
    refine wi 10 ?_
    conv => whnf
    refine ⟨oo, ?_⟩
    conv => whnf
    rw [Int.toNat_natCast]
    refine w3 5 11 12 ?_ ?_ ?_ <;> conv => whnf
    ·refine w2 11 12 ?_ ?_ <;> conv => whnf
     ·refine w1 12 ?_
      conv => whnf
      intro b_x hs_x hh_x hf_x
      try dsimp only at hh_x hf_x
      conv => whnf
      refine jn _ ⟨b_x, b_z, by dsimp only; omega, ?_⟩
      exact cvr
     ·intro b_x hs_x hh_x hf_x
      try dsimp only at hh_x hf_x
      conv => whnf
      refine w2 11 14 ?_ ?_ <;> conv => whnf
      ·refine jn _ ⟨b_x, b_z, by dsimp only; omega, ?_⟩
       exact cvr
      ·refine ⟨s23, ?_⟩
       conv => whnf
       refine w1 11 ?_
       conv => whnf
       refine w1 15 ?_
       conv => whnf
       refine ⟨s23, ?_⟩
       conv => whnf
       refine wd1 (mid b_x b_z _ (by dsimp only; omega) ?_)
       exact cvr
    ·refine w2 5 12 ?_ ?_ <;> conv => whnf
     ·refine w1 12 ?_
      conv => whnf
      intro b_x hs_x hh_x hf_x
      try dsimp only at hh_x hf_x
      conv => whnf
      refine jn _ ⟨b_x, b_z, by dsimp only; omega, ?_⟩
      exact cvr
     ·intro b_x hs_x hh_x hf_x
      try dsimp only at hh_x hf_x
      conv => whnf
      refine w1 5 ?_
      conv => whnf
      refine jn _ ⟨b_x, b_z, by dsimp only; omega, ?_⟩
      exact cvr
    ·intro b_x hs_x hh_x hf_x
     try dsimp only at hh_x hf_x
     conv => whnf
     refine w2 5 11 ?_ ?_ <;> conv => whnf
     ·refine w2 11 14 ?_ ?_ <;> conv => whnf
      ·refine jn _ ⟨b_x, b_z, by dsimp only; omega, ?_⟩
       exact cvr
      ·refine ⟨s23, ?_⟩
       conv => whnf
       refine w1 11 ?_
       conv => whnf
       refine w1 15 ?_
       conv => whnf
       refine ⟨s23, ?_⟩
       conv => whnf
       refine wd1 (mid b_x b_z _ (by dsimp only; omega) ?_)
       exact cvr
     ·refine w1 5 ?_
      conv => whnf
      refine jn _ ⟨b_x, b_z, by dsimp only; omega, ?_⟩
      exact cvr
   ·intro b_x hs_x hh_x hf_x
    try dsimp only at hh_x hf_x
    conv => whnf
    refine w2 5 8 ?_ ?_ <;> conv => whnf
    ·refine w1 8 ?_
     conv => whnf
     refine callV rfl hslo fun hs' hhs => ?_
     try dsimp only at hhs
     conv => whnf
     refine wi 10 ?_
     conv => whnf
     refine ⟨oo, ?_⟩
     conv => whnf
     rw [Int.toNat_natCast]
     refine w2 11 14 ?_ ?_ <;> conv => whnf
     ·refine jn _ ⟨b_x, b_z, by dsimp only; omega, ?_⟩
      exact cvr
     ·refine ⟨s23, ?_⟩
      conv => whnf
      refine w1 11 ?_
      conv => whnf
      refine w1 15 ?_
      conv => whnf
      refine ⟨s23, ?_⟩
      conv => whnf
      refine wd1 (mid b_x b_z _ (by dsimp only; omega) ?_)
      exact cvr
    ·refine callV rfl hslo fun hs' hhs => ?_
     try dsimp only at hhs
     conv => whnf
     refine wi 10 ?_
     conv => whnf
     refine ⟨oo, ?_⟩
     conv => whnf
     rw [Int.toNat_natCast]
     refine w2 5 11 ?_ ?_ <;> conv => whnf
     ·refine w2 11 14 ?_ ?_ <;> conv => whnf
      ·refine jn _ ⟨b_x, b_z, by dsimp only; omega, ?_⟩
       exact cvr
      ·refine ⟨s23, ?_⟩
       conv => whnf
       refine w1 11 ?_
       conv => whnf
       refine w1 15 ?_
       conv => whnf
       refine ⟨s23, ?_⟩
       conv => whnf
       refine wd1 (mid b_x b_z _ (by dsimp only; omega) ?_)
       exact cvr
     ·refine w1 5 ?_
      conv => whnf
      refine jn _ ⟨b_x, b_z, by dsimp only; omega, ?_⟩
      exact cvr
  ·intro b_x hs_x hh_x hf_x
   try dsimp only at hh_x hf_x
   conv => whnf
   refine w1 2 ?_
   conv => whnf
   refine callV rfl hpol fun hs' hhs => ?_
   try dsimp only at hhs
   conv => whnf
   refine wi 4 ?_
   conv => whnf
   refine ⟨oo, ?_⟩
   conv => whnf
   rw [Int.toNat_natCast]
   refine w2 5 8 ?_ ?_ <;> conv => whnf
   ·refine w1 8 ?_
    conv => whnf
    refine callV rfl hslo fun hs' hhs => ?_
    try dsimp only at hhs
    conv => whnf
    refine wi 10 ?_
    conv => whnf
    refine ⟨oo, ?_⟩
    conv => whnf
    rw [Int.toNat_natCast]
    refine w2 11 14 ?_ ?_ <;> conv => whnf
    ·refine jn _ ⟨b_x, b_z, by dsimp only; omega, ?_⟩
     exact cvr
    ·refine ⟨s23, ?_⟩
     conv => whnf
     refine w1 11 ?_
     conv => whnf
     refine w1 15 ?_
     conv => whnf
     refine ⟨s23, ?_⟩
     conv => whnf
     refine wd1 (mid b_x b_z _ (by dsimp only; omega) ?_)
     exact cvr
   ·refine callV rfl hslo fun hs' hhs => ?_
    try dsimp only at hhs
    conv => whnf
    refine wi 10 ?_
    conv => whnf
    refine ⟨oo, ?_⟩
    conv => whnf
    rw [Int.toNat_natCast]
    refine w2 5 11 ?_ ?_ <;> conv => whnf
    ·refine w2 11 14 ?_ ?_ <;> conv => whnf
     ·refine jn _ ⟨b_x, b_z, by dsimp only; omega, ?_⟩
      exact cvr
     ·refine ⟨s23, ?_⟩
      conv => whnf
      refine w1 11 ?_
      conv => whnf
      refine w1 15 ?_
      conv => whnf
      refine ⟨s23, ?_⟩
      conv => whnf
      refine wd1 (mid b_x b_z _ (by dsimp only; omega) ?_)
      exact cvr
    ·refine w1 5 ?_
     conv => whnf
     refine jn _ ⟨b_x, b_z, by dsimp only; omega, ?_⟩
     exact cvr
-- 130 ways

open Go Go.RowKit Go.Proofs Poly Hull
set_option maxRecDepth 100000
set_option maxHeartbeats 8000000

theorem l14Residual_fn (p : Int) (hp : 2 ≤ p ∧ p ≤ 97) (g0 : Option Nat) (l : List Int) (hl : l.length ≤ 100) (hb : ∀ j, -1000000 ≤ cf l j ∧ cf l j ≤ 1000000) (L : List (Int × Int)) (hpol : FnV 65 [.int .i64 p, .ints g0 l] (vCs L)) (hslo : FnV 41 [.int .i64 p, .ints g0 l] (vSs (slT L (L.length - 1))))
  (i : Nat) (x0 y0 : Int) (b : Int × Int) (g : Nat) (run rise : Int) (hP : Pc p l L i (x0, y0) b g run rise) : FnI 43 [.int .i64 p, .ints g0 l, .int .i64 i] (resT p l (x0, y0) run rise (g + 1)) := by
 have hi := hP.hi
 have hln := hP.ln
 have g8 := hP.g8
 have r8 := hP.r8
 have s8 := hP.s8
 have r1 := hln.run1
 have p8 := hP.p8
 have b8 := hP.b8
 have hq0 := hln.quot
 dsimp only at p8 b8 hq0
 have e7 : vC (L.getD i (0, 0)) = .agg [.int .i64 x0, .int .i64 y0] := by rw [hP.ha]
 have e8 : vS ((slT L (L.length - 1)).getD i (0, 0, 0)) = .agg [.int .i64 rise, .int .i64 run, .int .i64 (b.1 - x0)] := by rw [hP.hs]
 have hsl := slT_len L (L.length - 1)
 refine fn_of (cx_ok [0, 1, 2, 6, 7, 8, 9, 10, 11, 12, 13, 14, 34, 62, 65]) Tryz.func43 rfl (by decide) Tryz.ntmps43 (Nat.le_of_ble_eq_true rfl) fun base => ?_
 refine wrs fun K hK => ?_
 conv => whnf
 refine hK _ ?_
 clear hK K
 refine W.seqK fun K9 hK9 => ?_
 have mid : ∀ (bx bz : Nat) (t : S), base ≤ t.hs → coverK t.env [(0, .v (.int .i64 p)), (1, .v (.ints g0 l)), (7, .ownB bx (vC (L.getD i (0, 0)))), (8, .ownB bz (vS ((slT L (L.length - 1)).getD i (0, 0, 0))))] → K9 t := by
  intro bx bz t h7 h8
  rw [e7, e8] at h8
  refine hK9 _ (W.weak (t := ⟨[(0, .v (.int .i64 p)), (1, .v (.ints g0 l)), (7, .ownB bx (.agg [.int .i64 x0, .int .i64 y0])), (8, .ownB bz (.agg [.int .i64 rise, .int .i64 run, .int .i64 (b.1 - x0)]))], base⟩) ⟨h7, h8⟩ (Nat.le_refl _) ?_)
  clear hK9 K9
  refine wrs fun K hK => ?_
  conv => whnf
  refine ⟨⟨rfl, by decide⟩, ?_⟩
  conv => whnf
  intro b_0 hs_0 hh_0 hf_0
  try dsimp only at hh_0 hf_0
  conv => whnf
  refine hK _ ?_
  clear hK K
  refine W.seqK fun K1 hK1 => wrs fun K hK => ?_
  conv => whnf
  refine hK _ (W.block (W.invA (fun m e => ∃ (k bo : Nat), k ≤ g + 1 ∧ m = g + 1 - k ∧ e = [(0, .v (.int .i64 p)), (1, .v (.ints g0 l)), (7, .ownB bx (.agg [.int .i64 x0, .int .i64 y0])), (8, .ownB bz (.agg [.int .i64 rise, .int .i64 run, .int .i64 (b.1 - x0)])), (9, .ownI 2 bo (resT p l (x0, y0) run rise k)), (10, .v (.int .i64 k))]) ⟨0, b_0, Nat.zero_le _, rfl, rfl⟩ ?_))
  clear hK K
  rintro m e ⟨k, bo, hk, hm, rfl⟩
  have hlen := resT_len p l (x0, y0) run rise k
  refine W.seqK fun K7 hK7 => ?_
  refine wrs fun K hK => ?_
  conv => whnf
  refine ⟨by show run ≠ 0; omega, ?_⟩
  conv => whnf
  rw [hq0]
  refine ⟨oo, ?_⟩
  conv => whnf
  refine hK _ (W.cond ⟨fun h3 => ?_, fun h3 => ?_⟩) <;> clear hK K <;> (first | replace h3 := of_decide_eq_true h3 | replace h3 := of_decide_eq_false h3)
  ·have hkg : k ≤ g := by omega
   have m0 : 0 ≤ (k : Int) * run ∧ (k : Int) * run ≤ 101 * 100 := ⟨Int.mul_nonneg (by omega) (by omega), Int.mul_le_mul (by omega) r8 (by omega) (by decide)⟩
   obtain ⟨⟨x, hx, ex⟩, y, hy, ey, hpw⟩ := ln_ok hp hb hln hP.ca hP.cb hkg
   dsimp only at ex ey
   have m1 := mul100 (a := k) (b := rise) (by omega) (by omega)
   have hbx := hb x
   have hnx : resT p l (x0, y0) run rise (k + 1) = resT p l (x0, y0) run rise k ++ [resE p (cf l x) y] := by rw [resT]; dsimp only; rw [ex, ey, Int.toNat_natCast, Int.toNat_natCast]
   refine W.skip (hK7 _ ?_)
   clear hK7 K7
   refine W.seqK fun K8 hK8 => W.block ?_
   refine wrs fun K hK => ?_
   conv => whnf
   refine ⟨by show _ ≤ (k : Int) * run ∧ (k : Int) * run ≤ _; omega, ?_⟩
   conv => whnf
   refine ⟨by show _ ≤ x0 + (k : Int) * run ∧ x0 + (k : Int) * run ≤ _; omega, ?_⟩
   conv => whnf
   rw [ex]
   refine ⟨oo, ?_⟩
   conv => whnf
   rw [Int.toNat_natCast]
   refine hK _ ?_
   clear hK K
   refine wrs fun K hK => ?_
   conv => whnf
   refine ⟨by show _ ≤ (k : Int) * rise ∧ (k : Int) * rise ≤ _; omega, ?_⟩
   conv => whnf
   refine ⟨by show _ ≤ y0 + (k : Int) * rise ∧ y0 + (k : Int) * rise ≤ _; omega, ?_⟩
   conv => whnf
   rw [ey]
   refine hK _ ?_
   clear hK K
   refine wrs fun K hK => ?_
   conv => whnf
   refine hK _ ?_
   clear hK K
   refine W.seqK fun K4 hK4 => ?_
   have fin : ∀ (c : Int) (t : S), c = resE p (cf l x) y → base ≤ t.hs → coverK t.env [(0, .v (.int .i64 p)), (1, .v (.ints g0 l)), (7, .ownB bx (.agg [.int .i64 x0, .int .i64 y0])), (8, .ownB bz (.agg [.int .i64 rise, .int .i64 run, .int .i64 (b.1 - x0)])), (9, .ownI 2 bo (resT p l (x0, y0) run rise k)), (10, .v (.int .i64 k)), (13, .v (.int .i64 c))] → K4 t := by
    intro c t hc h7 h8
    subst hc
    refine hK4 _ (W.weak (t := ⟨[(0, .v (.int .i64 p)), (1, .v (.ints g0 l)), (7, .ownB bx (.agg [.int .i64 x0, .int .i64 y0])), (8, .ownB bz (.agg [.int .i64 rise, .int .i64 run, .int .i64 (b.1 - x0)])), (9, .ownI 2 bo (resT p l (x0, y0) run rise k)), (10, .v (.int .i64 k)), (13, .v (.int .i64 (resE p (cf l x) y)))], base⟩) ⟨h7, h8⟩ (Nat.le_refl _) ?_)
    clear hK4 K4
    refine wrg ?_
    conv => whnf
    refine ⟨⟨rfl, by decide⟩, ?_⟩
    conv => whnf
    intro b_1 hs_1 hh_1 hf_1
    try dsimp only at hh_1 hf_1
    conv => whnf
    refine ⟨by rw [hlen]; simp; omega, ?_⟩
    conv => whnf
    intro b_2 hs_2 hh_2 hf_2
    try dsimp only at hh_2 hf_2
    conv => whnf
    refine hK8 _ ?_
    clear hK8 K8
    refine wrg ?_
    conv => whnf
    refine ⟨oo, ?_⟩
    conv => whnf
    exact againA ⟨k + 1, b_2, by omega, rfl, by rw [hnx]⟩
   refine wrs fun K hK => ?_
   conv => whnf
   refine ⟨fun h4 => ?_, fun h4 => ?_⟩ <;> conv => whnf
   ·have h4 : cf l x ≠ 0 := of_decide_eq_true h4
    refine callV rfl (l01Valuation_fn p (cf l x) hp h4 hbx) fun hs' hhs => ?_
    try dsimp only at hhs
    conv => whnf
    refine hK _ (W.cond ⟨fun h5 => ?_, fun h5 => ?_⟩) <;> clear hK K
    ·have h5 : ((vl p (cf l x) : Nat) : Int) = (y : Int) := of_decide_eq_true h5
     have h6 : cf l x ≠ 0 ∧ vl p (cf l x) = y := ⟨h4, by omega⟩
     refine W.seqK fun K5 hK5 => wrs fun K hK => ?_
     conv => whnf
     refine hK _ (W.block (W.invA (fun m e => ∃ i : Nat, i ≤ y ∧ m = y - i ∧ e = [(0, .v (.int .i64 p)), (1, .v (.ints g0 l)), (7, .ownB bx (.agg [.int .i64 x0, .int .i64 y0])), (8, .ownB bz (.agg [.int .i64 rise, .int .i64 run, .int .i64 (b.1 - x0)])), (9, .ownI 2 bo (resT p l (x0, y0) run rise k)), (10, .v (.int .i64 k)), (11, .v (.int .i64 ((cf l x).tdiv (p ^ i)))), (12, .v (.int .i64 y)), (14, .v (.int .i64 i))]) ⟨0, Nat.zero_le _, rfl, by rw [Int.pow_zero, Int.tdiv_one]⟩ ?_))
     clear hK K
     rintro m' e ⟨i, h7, hm', rfl⟩
     have hd := down_bd (p := p) i hbx
     refine W.seqK fun K7 hK7 => wrs fun K hK => ?_
     conv => whnf
     refine hK _ (W.cond ⟨fun h8 => ?_, fun h8 => ?_⟩) <;> clear hK K <;> (first | replace h8 := of_decide_eq_true h8 | replace h8 := of_decide_eq_false h8)
     ·have e9 := div_down hp.1 h6 (show i < y by omega)
      have hd2 := down_bd (p := p) (i + 1) hbx
      refine W.skip (hK7 _ (W.seqK fun K6 hK6 => W.block ?_))
      clear hK7 K7
      refine wrg ?_
      conv => whnf
      refine ⟨by show p ≠ 0; omega, ?_⟩
      conv => whnf
      rw [e9]
      refine ⟨oo, ?_⟩
      conv => whnf
      refine hK6 _ ?_
      clear hK6 K6
      refine wrg ?_
      conv => whnf
      refine ⟨oo, ?_⟩
      conv => whnf
      exact againA ⟨i + 1, by omega, rfl, rfl⟩
     ·obtain rfl : i = y := by omega
      have e9 : (cf l x).tdiv (p ^ i) % p = resE p (cf l x) i := by unfold resE; rw [if_pos h6]
      refine W.exit (hK5 _ ?_)
      clear hK7 K7 hK5 K5
      refine wrg ?_
      conv => whnf
      refine callV rfl (l01Mod_fn ((cf l x).tdiv (p ^ i)) p (by omega) (by omega) (by omega)) fun hs' hhs => ?_
      try dsimp only at hhs
      conv => whnf
      rw [e9]
      refine fin _ _ rfl (by dsimp only; omega) ?_
      exact cvr
    ·have h5 : ¬ ((vl p (cf l x) : Nat) : Int) = (y : Int) := of_decide_eq_false h5
     refine W.skip (fin 0 _ (by unfold resE; rw [if_neg fun hh => h5 (by rw [hh.2])]) (by dsimp only; omega) ?_)
     exact cvr
   ·have h4 : cf l x = 0 := by have := of_decide_eq_false h4; exact Classical.byContradiction fun h' => this h'
    refine hK _ (W.condF rfl (W.skip (fin 0 _ (by unfold resE; rw [if_neg fun hh => hh.1 h4]) (by dsimp only; omega) ?_)))
    clear hK K
    exact cvr
  ·obtain rfl : k = g + 1 := by omega
   refine W.exit (hK1 _ ?_)
   clear hK7 K7 hK1 K1
   refine W.sw (c' := cxr [0, 1, 2, 6, 7, 8, 9, 10, 11, 12, 13, 14, 34, 62, 65]) (W.rs (cxr_ok _) (by rfl) fun K hK => ?_)
   conv => whnf
   refine hK _ ?_
   clear hK K
   refine W.ret ?_
   conv => whnf
   exact ⟨.ownI 2 _ (resT p l (x0, y0) run rise (g + 1)), ⟨rfl, rfl, rfl⟩, trivial, _, rfl⟩
 refine W.sch follows ?_
 refine Wany.join (fun t => ∃ bx bz, base ≤ t.hs ∧ coverK t.env [(0, .v (.int .i64 p)), (1, .v (.ints g0 l)), (20, .v (vC (L.getD i (0, 0)))), (26, .v (vS ((slT L (L.length - 1)).getD i (0, 0, 0)))), (7, .ownB bx (.agg [.int .i64 0, .int .i64 0])), (8, .ownB bz (.agg [.int .i64 0, .int .i64 0, .int .i64 0]))]) 2 #[true, true, true, true, true, true, true, true, true, true, true, true, true, true, false, false] (fun t ht => ?_) fun jn => ?_
 ·obtain ⟨bx, bz, h7, h8⟩ := ht
  refine Wany.cov h8 ?_
  refine w1 14 ?_
  conv => whnf
  refine ⟨s23, ?_⟩
  conv => whnf
  refine w1 15 ?_
  conv => whnf
  refine ⟨s23, ?_⟩
  conv => whnf
  refine wd1 (mid bx bz _ h7 ?_)
  exact cvr
 refine wt 0 ?_
 conv => whnf
 refine wt 1 ?_
 conv => whnf
 refine wt 3 ?_
 conv => whnf
 refine wt 6 ?_
 conv => whnf
 refine wt 7 ?_
 conv => whnf
 refine wt 9 ?_
 conv => whnf
 refine w3 2 12 13 ?_ ?_ ?_ <;> conv => whnf
 ·refine callV rfl hpol fun hs' hhs => ?_
  try dsimp only at hhs
  conv => whnf
  refine wi 4 ?_
  conv => whnf
  refine ⟨oo, ?_⟩
  conv => whnf
  rw [Int.toNat_natCast]
  refine Wany.all (cx_ok []) (by rfl) (rs := [5, 8, 12, 13]) (by kernel_rfl) (by decide) ?_
  intro i hi
  simp only [List.mem_cons, List.not_mem_nil, or_false] at hi
  rcases hi with rfl | rfl | rfl | rfl <;> refine ⟨_, by rfl, by rfl, ?_⟩ <;> conv => whnf
  ·refine w3 8 12 13 ?_ ?_ ?_ <;> conv => whnf
   ·refine callV rfl hslo fun hs' hhs => ?_
    try dsimp only at hhs
    conv => whnf
    refine wi 10 ?_
    conv => whnf
    refine ⟨oo, ?_⟩
    conv => whnf
    rw [Int.toNat_natCast]
    refine w3 11 12 13 ?_ ?_ ?_ <;> conv => whnf
    ·refine w2 12 13 ?_ ?_ <;> conv => whnf
     ·intro b_x hs_x hh_x hf_x
      try dsimp only at hh_x hf_x
      conv => whnf
      refine w1 13 ?_
      conv => whnf
      intro b_z hs_z hh_z hf_z
      try dsimp only at hh_z hf_z
      conv => whnf
      refine jn _ ⟨b_x, b_z, by dsimp only; omega, ?_⟩
      exact cvr
     ·intro b_z hs_z hh_z hf_z
      try dsimp only at hh_z hf_z
      conv => whnf
      refine w1 12 ?_
      conv => whnf
      intro b_x hs_x hh_x hf_x
      try dsimp only at hh_x hf_x
      conv => whnf
      refine jn _ ⟨b_x, b_z, by dsimp only; omega, ?_⟩
      exact cvr
    ·intro b_x hs_x hh_x hf_x
     try dsimp only at hh_x hf_x
     conv => whnf
     refine w2 11 13 ?_ ?_ <;> conv => whnf
     ·refine w1 13 ?_
      conv => whnf
      intro b_z hs_z hh_z hf_z
      try dsimp only at hh_z hf_z
      conv => whnf
      refine jn _ ⟨b_x, b_z, by dsimp only; omega, ?_⟩
      exact cvr
     ·intro b_z hs_z hh_z hf_z
      try dsimp only at hh_z hf_z
      conv => whnf
      refine w2 11 14 ?_ ?_ <;> conv => whnf
      ·refine jn _ ⟨b_x, b_z, by dsimp only; omega, ?_⟩
       exact cvr
      ·refine ⟨s23, ?_⟩
       conv => whnf
       refine w1 11 ?_
       conv => whnf
       refine w1 15 ?_
       conv => whnf
       refine ⟨s23, ?_⟩
       conv => whnf
       refine wd1 (mid b_x b_z _ (by dsimp only; omega) ?_)
       exact cvr
    ·intro b_z hs_z hh_z hf_z
     try dsimp only at hh_z hf_z
     conv => whnf
     refine w2 11 12 ?_ ?_ <;> conv => whnf
     ·refine w1 12 ?_
      conv => whnf
      intro b_x hs_x hh_x hf_x
      try dsimp only at hh_x hf_x
      conv => whnf
      refine jn _ ⟨b_x, b_z, by dsimp only; omega, ?_⟩
      exact cvr
     ·intro b_x hs_x hh_x hf_x
      try dsimp only at hh_x hf_x
      conv => whnf
      refine w2 11 14 ?_ ?_ <;> conv => whnf
      ·refine jn _ ⟨b_x, b_z, by dsimp only; omega, ?_⟩
       exact cvr
      ·refine ⟨s23, ?_⟩
       conv => whnf
       refine w1 11 ?_
       conv => whnf
       refine w1 15 ?_
       conv => whnf
       refine ⟨s23, ?_⟩
       conv => whnf
       refine wd1 (mid b_x b_z _ (by dsimp only; omega) ?_)
       exact cvr
   ·intro b_x hs_x hh_x hf_x
    try dsimp only at hh_x hf_x
    conv => whnf
    refine w2 8 13 ?_ ?_ <;> conv => whnf
    ·refine callV rfl hslo fun hs' hhs => ?_
     try dsimp only at hhs
     conv => whnf
     refine wi 10 ?_
     conv => whnf
     refine ⟨oo, ?_⟩
     conv => whnf
     rw [Int.toNat_natCast]
     refine w2 11 13 ?_ ?_ <;> conv => whnf
     ·refine w1 13 ?_
      conv => whnf
      intro b_z hs_z hh_z hf_z
      try dsimp only at hh_z hf_z
      conv => whnf
      refine jn _ ⟨b_x, b_z, by dsimp only; omega, ?_⟩
      exact cvr
     ·intro b_z hs_z hh_z hf_z
      try dsimp only at hh_z hf_z
      conv => whnf
      refine w2 11 14 ?_ ?_ <;> conv => whnf
      ·refine jn _ ⟨b_x, b_z, by dsimp only; omega, ?_⟩
       exact cvr
      ·refine ⟨s23, ?_⟩
       conv => whnf
       refine w1 11 ?_
       conv => whnf
       refine w1 15 ?_
       conv => whnf
       refine ⟨s23, ?_⟩
       conv => whnf
       refine wd1 (mid b_x b_z _ (by dsimp only; omega) ?_)
       exact cvr
    ·intro b_z hs_z hh_z hf_z
     try dsimp only at hh_z hf_z
     conv => whnf
     refine w1 8 ?_
     conv => whnf
     refine callV rfl hslo fun hs' hhs => ?_
     try dsimp only at hhs
     conv => whnf
     refine wi 10 ?_
     conv => whnf
     refine ⟨oo, ?_⟩
     conv => whnf
     rw [Int.toNat_natCast]
     refine w2 11 14 ?_ ?_ <;> conv => whnf
     ·refine jn _ ⟨b_x, b_z, by dsimp only; omega, ?_⟩
      exact cvr
     ·refine ⟨s23, ?_⟩
      conv => whnf
      refine w1 11 ?_
      conv => whnf
      refine w1 15 ?_
      conv => whnf
      refine ⟨s23, ?_⟩
      conv => whnf
      refine wd1 (mid b_x b_z _ (by dsimp only; omega) ?_)
      exact cvr
   ·intro b_z hs_z hh_z hf_z
    try dsimp only at hh_z hf_z
    conv => whnf
    refine w2 8 12 ?_ ?_ <;> conv => whnf
    ·refine callV rfl hslo fun hs' hhs => ?_
     try dsimp only at hhs
     conv => whnf
     refine wi 10 ?_
     conv => whnf
     refine ⟨oo, ?_⟩
     conv => whnf
     rw [Int.toNat_natCast]
     refine w2 11 12 ?_ ?_ <;> conv => whnf
     ·refine w1 12 ?_
      conv => whnf
      intro b_x hs_x hh_x hf_x
      try dsimp only at hh_x hf_x
      conv => whnf
      refine jn _ ⟨b_x, b_z, by dsimp only; omega, ?_⟩
      exact cvr
     ·intro b_x hs_x hh_x hf_x
      try dsimp only at hh_x hf_x
      conv => whnf
      refine w2 11 14 ?_ ?_ <;> conv => whnf
      ·refine jn _ ⟨b_x, b_z, by dsimp only; omega, ?_⟩
       exact cvr
      ·refine ⟨s23, ?_⟩
       conv => whnf
       refine w1 11 ?_
       conv => whnf
       refine w1 15 ?_
       conv => whnf
       refine ⟨s23, ?_⟩
       conv => whnf
       refine wd1 (mid b_x b_z _ (by dsimp only; omega) ?_)
       exact cvr
    ·intro b_x hs_x hh_x hf_x
     try dsimp only at hh_x hf_x
     conv => whnf
     refine w1 8 ?_
     conv => whnf
     refine callV rfl hslo fun hs' hhs => ?_
     try dsimp only at hhs
     conv => whnf
     refine wi 10 ?_
     conv => whnf
     refine ⟨oo, ?_⟩
     conv => whnf
     rw [Int.toNat_natCast]
     refine w2 11 14 ?_ ?_ <;> conv => whnf
     ·refine jn _ ⟨b_x, b_z, by dsimp only; omega, ?_⟩
      exact cvr
     ·refine ⟨s23, ?_⟩
      conv => whnf
      refine w1 11 ?_
      conv => whnf
      refine w1 15 ?_
      conv => whnf
      refine ⟨s23, ?_⟩
      conv => whnf
      refine wd1 (mid b_x b_z _ (by dsimp only; omega) ?_)
      exact cvr
  ·refine callV rfl hslo fun hs' hhs => ?_
   try dsimp only at hhs
   conv => whnf
   refine wi 10 ?_
   conv => whnf
   refine ⟨oo, ?_⟩
   conv => whnf
   rw [Int.toNat_natCast]
   refine Wany.all (cx_ok []) (by rfl) (rs := [5, 11, 12, 13]) (by kernel_rfl) (by decide) ?_
   intro i hi
   simp only [List.mem_cons, List.not_mem_nil, or_false] at hi
   rcases hi with rfl | rfl | rfl | rfl <;> refine ⟨_, by rfl, by rfl, ?_⟩ <;> conv => whnf
   ·refine w3 11 12 13 ?_ ?_ ?_ <;> conv => whnf
    ·refine w2 12 13 ?_ ?_ <;> conv => whnf
     ·intro b_x hs_x hh_x hf_x
      try dsimp only at hh_x hf_x
      conv => whnf
      refine w1 13 ?_
      conv => whnf
      intro b_z hs_z hh_z hf_z
      try dsimp only at hh_z hf_z
      conv => whnf
      refine jn _ ⟨b_x, b_z, by dsimp only; omega, ?_⟩
      exact cvr
     ·intro b_z hs_z hh_z hf_z
      try dsimp only at hh_z hf_z
      conv => whnf
      refine w1 12 ?_
      conv => whnf
      intro b_x hs_x hh_x hf_x
      try dsimp only at hh_x hf_x
      conv => whnf
      refine jn _ ⟨b_x, b_z, by dsimp only; omega, ?_⟩
      exact cvr
    ·intro b_x hs_x hh_x hf_x
     try dsimp only at hh_x hf_x
     conv => whnf
     refine w2 11 13 ?_ ?_ <;> conv => whnf
     ·refine w1 13 ?_
      conv => whnf
      intro b_z hs_z hh_z hf_z
      try dsimp only at hh_z hf_z
      conv => whnf
      refine jn _ ⟨b_x, b_z, by dsimp only; omega, ?_⟩
      exact cvr
     ·intro b_z hs_z hh_z hf_z
      try dsimp only at hh_z hf_z
      conv => whnf
      refine w2 11 14 ?_ ?_ <;> conv => whnf
      ·refine jn _ ⟨b_x, b_z, by dsimp only; omega, ?_⟩
       exact cvr
      ·refine ⟨s23, ?_⟩
       conv => whnf
       refine w1 11 ?_
       conv => whnf
       refine w1 15 ?_
       conv => whnf
       refine ⟨s23, ?_⟩
       conv => whnf
       refine wd1 (mid b_x b_z _ (by dsimp only; omega) ?_)
       exact cvr
    ·intro b_z hs_z hh_z hf_z
     try dsimp only at hh_z hf_z
     conv => whnf
     refine w2 11 12 ?_ ?_ <;> conv => whnf
     ·refine w1 12 ?_
      conv => whnf
      intro b_x hs_x hh_x hf_x
      try dsimp only at hh_x hf_x
      conv => whnf
      refine jn _ ⟨b_x, b_z, by dsimp only; omega, ?_⟩
      exact cvr
     ·intro b_x hs_x hh_x hf_x
      try dsimp only at hh_x hf_x
      conv => whnf
      refine w2 11 14 ?_ ?_ <;> conv => whnf
      ·refine jn _ ⟨b_x, b_z, by dsimp only; omega, ?_⟩
       exact cvr
      ·refine ⟨s23, ?_⟩
       conv => whnf
       refine w1 11 ?_
       conv => whnf
       refine w1 15 ?_
       conv => whnf
       refine ⟨s23, ?_⟩
       conv => whnf
       refine wd1 (mid b_x b_z _ (by dsimp only; omega) ?_)
       exact cvr
   ·refine w3 5 12 13 ?_ ?_ ?_ <;> conv => whnf
    ·refine w2 12 13 ?_ ?_ <;> conv => whnf
     ·intro b_x hs_x hh_x hf_x
      try dsimp only at hh_x hf_x
      conv => whnf
      refine w1 13 ?_
      conv => whnf
      intro b_z hs_z hh_z hf_z
      try dsimp only at hh_z hf_z
      conv => whnf
      refine jn _ ⟨b_x, b_z, by dsimp only; omega, ?_⟩
      exact cvr
     ·intro b_z hs_z hh_z hf_z
      try dsimp only at hh_z hf_z
      conv => whnf
      refine w1 12 ?_
      conv => whnf
      intro b_x hs_x hh_x hf_x
      try dsimp only at hh_x hf_x
      conv => whnf
      refine jn _ ⟨b_x, b_z, by dsimp only; omega, ?_⟩
      exact cvr
    ·intro b_x hs_x hh_x hf_x
     try dsimp only at hh_x hf_x
     conv => whnf
     refine w2 5 13 ?_ ?_ <;> conv => whnf
     ·refine w1 13 ?_
      conv => whnf
      intro b_z hs_z hh_z hf_z
      try dsimp only at hh_z hf_z
      conv => whnf
      refine jn _ ⟨b_x, b_z, by dsimp only; omega, ?_⟩
      exact cvr
     ·intro b_z hs_z hh_z hf_z
      try dsimp only at hh_z hf_z
      conv => whnf
      refine w1 5 ?_
      conv => whnf
      refine jn _ ⟨b_x, b_z, by dsimp only; omega, ?_⟩
      exact cvr
    ·intro b_z hs_z hh_z hf_z
     try dsimp only at hh_z hf_z
     conv => whnf
     refine w2 5 12 ?_ ?_ <;> conv => whnf
     ·refine w1 12 ?_
      conv => whnf
      intro b_x hs_x hh_x hf_x
      try dsimp only at hh_x hf_x
      conv => whnf
      refine jn _ ⟨b_x, b_z, by dsimp only; omega, ?_⟩
      exact cvr
     ·intro b_x hs_x hh_x hf_x
      try dsimp only at hh_x hf_x
      conv => whnf
      refine w1 5 ?_
      conv => whnf
      refine jn _ ⟨b_x, b_z, by dsimp only; omega, ?_⟩
      exact cvr
   ·intro b_x hs_x hh_x hf_x
    try dsimp only at hh_x hf_x
    conv => whnf
    refine w3 5 11 13 ?_ ?_ ?_ <;> conv => whnf
    ·refine w2 11 13 ?_ ?_ <;> conv => whnf
     ·refine w1 13 ?_
      conv => whnf
      intro b_z hs_z hh_z hf_z
      try dsimp only at hh_z hf_z
      conv => whnf
      refine jn _ ⟨b_x, b_z, by dsimp only; omega, ?_⟩
      exact cvr
     ·intro b_z hs_z hh_z hf_z
      try dsimp only at hh_z hf_z
      conv => whnf
      refine w2 11 14 ?_ ?_ <;> conv => whnf
      ·refine jn _ ⟨b_x, b_z, by dsimp only; omega, ?_⟩
       exact cvr
      ·refine ⟨s23, ?_⟩
       conv => whnf
       refine w1 11 ?_
       conv => whnf
       refine w1 15 ?_
       conv => whnf
       refine ⟨s23, ?_⟩
       conv => whnf
       refine wd1 (mid b_x b_z _ (by dsimp only; omega) ?_)
       exact cvr
    ·refine w2 5 13 ?_ ?_ <;> conv => whnf
     ·refine w1 13 ?_
      conv => whnf
      intro b_z hs_z hh_z hf_z
      try dsimp only at hh_z hf_z
      conv => whnf
      refine jn _ ⟨b_x, b_z, by dsimp only; omega, ?_⟩
      exact cvr
     ·intro b_z hs_z hh_z hf_z
      try dsimp only at hh_z hf_z
      conv => whnf
      refine w1 5 ?_
      conv => whnf
      refine jn _ ⟨b_x, b_z, by dsimp only; omega, ?_⟩
      exact cvr
    ·intro b_z hs_z hh_z hf_z
     try dsimp only at hh_z hf_z
     conv => whnf
     refine w2 5 11 ?_ ?_ <;> conv => whnf
     ·refine w2 11 14 ?_ ?_ <;> conv => whnf
      ·refine jn _ ⟨b_x, b_z, by dsimp only; omega, ?_⟩
       exact cvr
      ·refine ⟨s23, ?_⟩
       conv => whnf
       refine w1 11 ?_
       conv => whnf
       refine w1 15 ?_
       conv => whnf
       refine ⟨s23, ?_⟩
       conv => whnf
       refine wd1 (mid b_x b_z _ (by dsimp only; omega) ?_)
       exact cvr
     ·refine w1 5 ?_
      conv => whnf
      refine jn _ ⟨b_x, b_z, by dsimp only; omega, ?_⟩
      exact cvr
   ·intro b_z hs_z hh_z hf_z
    try dsimp only at hh_z hf_z
    conv => whnf
    refine w3 5 11 12 ?_ ?_ ?_ <;> conv => whnf
    ·refine w2 11 12 ?_ ?_ <;> conv => whnf
     ·refine w1 12 ?_
      conv => whnf
      intro b_x hs_x hh_x hf_x
      try dsimp only at hh_x hf_x
      conv => whnf
      refine jn _ ⟨b_x, b_z, by dsimp only; omega, ?_⟩
      exact cvr
     ·intro b_x hs_x hh_x hf_x
      try dsimp only at hh_x hf_x
      conv => whnf
      refine w2 11 14 ?_ ?_ <;> conv => whnf
      ·refine jn _ ⟨b_x, b_z, by dsimp only; omega, ?_⟩
       exact cvr
      ·refine ⟨s23, ?_⟩
       conv => whnf
       refine w1 11 ?_
       conv => whnf
       refine w1 15 ?_
       conv => whnf
       refine ⟨s23, ?_⟩
       conv => whnf
       refine wd1 (mid b_x b_z _ (by dsimp only; omega) ?_)
       exact cvr
    ·refine w2 5 12 ?_ ?_ <;> conv => whnf
     ·refine w1 12 ?_
      conv => whnf
      intro b_x hs_x hh_x hf_x
      try dsimp only at hh_x hf_x
      conv => whnf
      refine jn _ ⟨b_x, b_z, by dsimp only; omega, ?_⟩
      exact cvr
     ·intro b_x hs_x hh_x hf_x
      try dsimp only at hh_x hf_x
      conv => whnf
      refine w1 5 ?_
      conv => whnf
      refine jn _ ⟨b_x, b_z, by dsimp only; omega, ?_⟩
      exact cvr
    ·intro b_x hs_x hh_x hf_x
     try dsimp only at hh_x hf_x
     conv => whnf
     refine w2 5 11 ?_ ?_ <;> conv => whnf
     ·refine w2 11 14 ?_ ?_ <;> conv => whnf
      ·refine jn _ ⟨b_x, b_z, by dsimp only; omega, ?_⟩
       exact cvr
      ·refine ⟨s23, ?_⟩
       conv => whnf
       refine w1 11 ?_
       conv => whnf
       refine w1 15 ?_
       conv => whnf
       refine ⟨s23, ?_⟩
       conv => whnf
       refine wd1 (mid b_x b_z _ (by dsimp only; omega) ?_)
       exact cvr
     ·refine w1 5 ?_
      conv => whnf
      refine jn _ ⟨b_x, b_z, by dsimp only; omega, ?_⟩
      exact cvr
  ·intro b_x hs_x hh_x hf_x
   try dsimp only at hh_x hf_x
   conv => whnf
   refine w3 5 8 13 ?_ ?_ ?_ <;> conv => whnf
   ·refine w2 8 13 ?_ ?_ <;> conv => whnf
    ·refine callV rfl hslo fun hs' hhs => ?_
     try dsimp only at hhs
     conv => whnf
     refine wi 10 ?_
     conv => whnf
     refine ⟨oo, ?_⟩
     conv => whnf
     rw [Int.toNat_natCast]
     refine w2 11 13 ?_ ?_ <;> conv => whnf
     ·refine w1 13 ?_
      conv => whnf
      intro b_z hs_z hh_z hf_z
      try dsimp only at hh_z hf_z
      conv => whnf
      refine jn _ ⟨b_x, b_z, by dsimp only; omega, ?_⟩
      exact cvr
     ·intro b_z hs_z hh_z hf_z
      try dsimp only at hh_z hf_z
      conv => whnf
      refine w2 11 14 ?_ ?_ <;> conv => whnf
      ·refine jn _ ⟨b_x, b_z, by dsimp only; omega, ?_⟩
       exact cvr
      ·refine ⟨s23, ?_⟩
       conv => whnf
       refine w1 11 ?_
       conv => whnf
       refine w1 15 ?_
       conv => whnf
       refine ⟨s23, ?_⟩
       conv => whnf
       refine wd1 (mid b_x b_z _ (by dsimp only; omega) ?_)
       exact cvr
    ·intro b_z hs_z hh_z hf_z
     try dsimp only at hh_z hf_z
     conv => whnf
     refine w1 8 ?_
     conv => whnf
     refine callV rfl hslo fun hs' hhs => ?_
     try dsimp only at hhs
     conv => whnf
     refine wi 10 ?_
     conv => whnf
     refine ⟨oo, ?_⟩
     conv => whnf
     rw [Int.toNat_natCast]
     refine w2 11 14 ?_ ?_ <;> conv => whnf
     ·refine jn _ ⟨b_x, b_z, by dsimp only; omega, ?_⟩
      exact cvr
     ·refine ⟨s23, ?_⟩
      conv => whnf
      refine w1 11 ?_
      conv => whnf
      refine w1 15 ?_
      conv => whnf
      refine ⟨s23, ?_⟩
      conv => whnf
      refine wd1 (mid b_x b_z _ (by dsimp only; omega) ?_)
      exact cvr
   ·refine callV rfl hslo fun hs' hhs => ?_
    try dsimp only at hhs
    conv => whnf
    refine wi 10 ?_
    conv => whnf
    refine ⟨oo, ?_⟩
    conv => whnf
    rw [Int.toNat_natCast]
    refine w3 5 11 13 ?_ ?_ ?_ <;> conv => whnf
    ·refine w2 11 13 ?_ ?_ <;> conv => whnf
     ·refine w1 13 ?_
      conv => whnf
      intro b_z hs_z hh_z hf_z
      try dsimp only at hh_z hf_z
      conv => whnf
      refine jn _ ⟨b_x, b_z, by dsimp only; omega, ?_⟩
      exact cvr
     ·intro b_z hs_z hh_z hf_z
      try dsimp only at hh_z hf_z
      conv => whnf
      refine w2 11 14 ?_ ?_ <;> conv => whnf
      ·refine jn _ ⟨b_x, b_z, by dsimp only; omega, ?_⟩
       exact cvr
      ·refine ⟨s23, ?_⟩
       conv => whnf
       refine w1 11 ?_
       conv => whnf
       refine w1 15 ?_
       conv => whnf
       refine ⟨s23, ?_⟩
       conv => whnf
       refine wd1 (mid b_x b_z _ (by dsimp only; omega) ?_)
       exact cvr
    ·refine w2 5 13 ?_ ?_ <;> conv => whnf
     ·refine w1 13 ?_
      conv => whnf
      intro b_z hs_z hh_z hf_z
      try dsimp only at hh_z hf_z
      conv => whnf
      refine jn _ ⟨b_x, b_z, by dsimp only; omega, ?_⟩
      exact cvr
     ·intro b_z hs_z hh_z hf_z
      try dsimp only at hh_z hf_z
      conv => whnf
      refine w1 5 ?_
      conv => whnf
      refine jn _ ⟨b_x, b_z, by dsimp only; omega, ?_⟩
      exact cvr
    ·intro b_z hs_z hh_z hf_z
     try dsimp only at hh_z hf_z
     conv => whnf
     refine w2 5 11 ?_ ?_ <;> conv => whnf
     ·refine w2 11 14 ?_ ?_ <;> conv => whnf
      ·refine jn _ ⟨b_x, b_z, by dsimp only; omega, ?_⟩
       exact cvr
      ·refine ⟨s23, ?_⟩
       conv => whnf
       refine w1 11 ?_
       conv => whnf
       refine w1 15 ?_
       conv => whnf
       refine ⟨s23, ?_⟩
       conv => whnf
       refine wd1 (mid b_x b_z _ (by dsimp only; omega) ?_)
       exact cvr
     ·refine w1 5 ?_
      conv => whnf
      refine jn _ ⟨b_x, b_z, by dsimp only; omega, ?_⟩
      exact cvr
   ·intro b_z hs_z hh_z hf_z
    try dsimp only at hh_z hf_z
    conv => whnf
    refine w2 5 8 ?_ ?_ <;> conv => whnf
    ·refine w1 8 ?_
     conv => whnf
     refine callV rfl hslo fun hs' hhs => ?_
     try dsimp only at hhs
     conv => whnf
     refine wi 10 ?_
     conv => whnf
     refine ⟨oo, ?_⟩
     conv => whnf
     rw [Int.toNat_natCast]
     refine w2 11 14 ?_ ?_ <;> conv => whnf
     ·refine jn _ ⟨b_x, b_z, by dsimp only; omega, ?_⟩
      exact cvr
     ·refine ⟨s23, ?_⟩
      conv => whnf
      refine w1 11 ?_
      conv => whnf
      refine w1 15 ?_
      conv => whnf
      refine ⟨s23, ?_⟩
      conv => whnf
      refine wd1 (mid b_x b_z _ (by dsimp only; omega) ?_)
      exact cvr
    ·refine callV rfl hslo fun hs' hhs => ?_
     try dsimp only at hhs
     conv => whnf
     refine wi 10 ?_
     conv => whnf
     refine ⟨oo, ?_⟩
     conv => whnf
     rw [Int.toNat_natCast]
     refine w2 5 11 ?_ ?_ <;> conv => whnf
     ·refine w2 11 14 ?_ ?_ <;> conv => whnf
      ·refine jn _ ⟨b_x, b_z, by dsimp only; omega, ?_⟩
       exact cvr
      ·refine ⟨s23, ?_⟩
       conv => whnf
       refine w1 11 ?_
       conv => whnf
       refine w1 15 ?_
       conv => whnf
       refine ⟨s23, ?_⟩
       conv => whnf
       refine wd1 (mid b_x b_z _ (by dsimp only; omega) ?_)
       exact cvr
     ·refine w1 5 ?_
      conv => whnf
      refine jn _ ⟨b_x, b_z, by dsimp only; omega, ?_⟩
      exact cvr
  ·intro b_z hs_z hh_z hf_z
   try dsimp only at hh_z hf_z
   conv => whnf
   refine w3 5 8 12 ?_ ?_ ?_ <;> conv => whnf
   ·refine w2 8 12 ?_ ?_ <;> conv => whnf
    ·refine callV rfl hslo fun hs' hhs => ?_
     try dsimp only at hhs
     conv => whnf
     refine wi 10 ?_
     conv => whnf
     refine ⟨oo, ?_⟩
     conv => whnf
     rw [Int.toNat_natCast]
     refine w2 11 12 ?_ ?_ <;> conv => whnf
     ·refine w1 12 ?_
      conv => whnf
      intro b_x hs_x hh_x hf_x
      try dsimp only at hh_x hf_x
      conv => whnf
      refine jn _ ⟨b_x, b_z, by dsimp only; omega, ?_⟩
      exact cvr
     ·intro b_x hs_x hh_x hf_x
      try dsimp only at hh_x hf_x
      conv => whnf
      refine w2 11 14 ?_ ?_ <;> conv => whnf
      ·refine jn _ ⟨b_x, b_z, by dsimp only; omega, ?_⟩
       exact cvr
      ·refine ⟨s23, ?_⟩
       conv => whnf
       refine w1 11 ?_
       conv => whnf
       refine w1 15 ?_
       conv => whnf
       refine ⟨s23, ?_⟩
       conv => whnf
       refine wd1 (mid b_x b_z _ (by dsimp only; omega) ?_)
       exact cvr
    ·intro b_x hs_x hh_x hf_x
     try dsimp only at hh_x hf_x
     conv => whnf
     refine w1 8 ?_
     conv => whnf
     refine callV rfl hslo fun hs' hhs => ?_
     try dsimp only at hhs
     conv => whnf
     refine wi 10 ?_
     conv => whnf
     refine ⟨oo, ?_⟩
     conv => whnf
     rw [Int.toNat_natCast]
     refine w2 11 14 ?_ ?_ <;> conv => whnf
     ·refine jn _ ⟨b_x, b_z, by dsimp only; omega, ?_⟩
      exact cvr
     ·refine ⟨s23, ?_⟩
      conv => whnf
      refine w1 11 ?_
      conv => whnf
      refine w1 15 ?_
      conv => whnf
      refine ⟨s23, ?_⟩
      conv => whnf
      refine wd1 (mid b_x b_z _ (by dsimp only; omega) ?_)
      exact cvr
   ·refine callV rfl hslo fun hs' hhs => ?_
    try dsimp only at hhs
    conv => whnf
    refine wi 10 ?_
    conv => whnf
    refine ⟨oo, ?_⟩
    conv => whnf
    rw [Int.toNat_natCast]
    refine w3 5 11 12 ?_ ?_ ?_ <;> conv => whnf
    ·refine w2 11 12 ?_ ?_ <;> conv => whnf
     ·refine w1 12 ?_
      conv => whnf
      intro b_x hs_x hh_x hf_x
      try dsimp only at hh_x hf_x
      conv => whnf
      refine jn _ ⟨b_x, b_z, by dsimp only; omega, ?_⟩
      exact cvr
     ·intro b_x hs_x hh_x hf_x
      try dsimp only at hh_x hf_x
      conv => whnf
      refine w2 11 14 ?_ ?_ <;> conv => whnf
      ·refine jn _ ⟨b_x, b_z, by dsimp only; omega, ?_⟩
       exact cvr
      ·refine ⟨s23, ?_⟩
       conv => whnf
       refine w1 11 ?_
       conv => whnf
       refine w1 15 ?_
       conv => whnf
       refine ⟨s23, ?_⟩
       conv => whnf
       refine wd1 (mid b_x b_z _ (by dsimp only; omega) ?_)
       exact cvr
    ·refine w2 5 12 ?_ ?_ <;> conv => whnf
     ·refine w1 12 ?_
      conv => whnf
      intro b_x hs_x hh_x hf_x
      try dsimp only at hh_x hf_x
      conv => whnf
      refine jn _ ⟨b_x, b_z, by dsimp only; omega, ?_⟩
      exact cvr
     ·intro b_x hs_x hh_x hf_x
      try dsimp only at hh_x hf_x
      conv => whnf
      refine w1 5 ?_
      conv => whnf
      refine jn _ ⟨b_x, b_z, by dsimp only; omega, ?_⟩
      exact cvr
    ·intro b_x hs_x hh_x hf_x
     try dsimp only at hh_x hf_x
     conv => whnf
     refine w2 5 11 ?_ ?_ <;> conv => whnf
     ·refine w2 11 14 ?_ ?_ <;> conv => whnf
      ·refine jn _ ⟨b_x, b_z, by dsimp only; omega, ?_⟩
       exact cvr
      ·refine ⟨s23, ?_⟩
       conv => whnf
       refine w1 11 ?_
       conv => whnf
       refine w1 15 ?_
       conv => whnf
       refine ⟨s23, ?_⟩
       conv => whnf
       refine wd1 (mid b_x b_z _ (by dsimp only; omega) ?_)
       exact cvr
     ·refine w1 5 ?_
      conv => whnf
      refine jn _ ⟨b_x, b_z, by dsimp only; omega, ?_⟩
      exact cvr
   ·intro b_x hs_x hh_x hf_x
    try dsimp only at hh_x hf_x
    conv => whnf
    refine w2 5 8 ?_ ?_ <;> conv => whnf
    ·refine w1 8 ?_
     conv => whnf
     refine callV rfl hslo fun hs' hhs => ?_
     try dsimp only at hhs
     conv => whnf
     refine wi 10 ?_
     conv => whnf
     refine ⟨oo, ?_⟩
     conv => whnf
     rw [Int.toNat_natCast]
     refine w2 11 14 ?_ ?_ <;> conv => whnf
     ·refine jn _ ⟨b_x, b_z, by dsimp only; omega, ?_⟩
      exact cvr
     ·refine ⟨s23, ?_⟩
      conv => whnf
      refine w1 11 ?_
      conv => whnf
      refine w1 15 ?_
      conv => whnf
      refine ⟨s23, ?_⟩
      conv => whnf
      refine wd1 (mid b_x b_z _ (by dsimp only; omega) ?_)
      exact cvr
    ·refine callV rfl hslo fun hs' hhs => ?_
     try dsimp only at hhs
     conv => whnf
     refine wi 10 ?_
     conv => whnf
     refine ⟨oo, ?_⟩
     conv => whnf
     rw [Int.toNat_natCast]
     refine w2 5 11 ?_ ?_ <;> conv => whnf
     ·refine w2 11 14 ?_ ?_ <;> conv => whnf
      ·refine jn _ ⟨b_x, b_z, by dsimp only; omega, ?_⟩
       exact cvr
      ·refine ⟨s23, ?_⟩
       conv => whnf
       refine w1 11 ?_
       conv => whnf
       refine w1 15 ?_
       conv => whnf
       refine ⟨s23, ?_⟩
       conv => whnf
       refine wd1 (mid b_x b_z _ (by dsimp only; omega) ?_)
       exact cvr
     ·refine w1 5 ?_
      conv => whnf
      refine jn _ ⟨b_x, b_z, by dsimp only; omega, ?_⟩
      exact cvr
 ·intro b_x hs_x hh_x hf_x
  try dsimp only at hh_x hf_x
  conv => whnf
  refine w2 2 13 ?_ ?_ <;> conv => whnf
  ·refine callV rfl hpol fun hs' hhs => ?_
   try dsimp only at hhs
   conv => whnf
   refine wi 4 ?_
   conv => whnf
   refine ⟨oo, ?_⟩
   conv => whnf
   rw [Int.toNat_natCast]
   refine w3 5 8 13 ?_ ?_ ?_ <;> conv => whnf
   ·refine w2 8 13 ?_ ?_ <;> conv => whnf
    ·refine callV rfl hslo fun hs' hhs => ?_
     try dsimp only at hhs
     conv => whnf
     refine wi 10 ?_
     conv => whnf
     refine ⟨oo, ?_⟩
     conv => whnf
     rw [Int.toNat_natCast]
     refine w2 11 13 ?_ ?_ <;> conv => whnf
     ·refine w1 13 ?_
      conv => whnf
      intro b_z hs_z hh_z hf_z
      try dsimp only at hh_z hf_z
      conv => whnf
      refine jn _ ⟨b_x, b_z, by dsimp only; omega, ?_⟩
      exact cvr
     ·intro b_z hs_z hh_z hf_z
      try dsimp only at hh_z hf_z
      conv => whnf
      refine w2 11 14 ?_ ?_ <;> conv => whnf
      ·refine jn _ ⟨b_x, b_z, by dsimp only; omega, ?_⟩
       exact cvr
      ·refine ⟨s23, ?_⟩
       conv => whnf
       refine w1 11 ?_
       conv => whnf
       refine w1 15 ?_
       conv => whnf
       refine ⟨s23, ?_⟩
       conv => whnf
       refine wd1 (mid b_x b_z _ (by dsimp only; omega) ?_)
       exact cvr
    ·intro b_z hs_z hh_z hf_z
     try dsimp only at hh_z hf_z
     conv => whnf
     refine w1 8 ?_
     conv => whnf
     refine callV rfl hslo fun hs' hhs => ?_
     try dsimp only at hhs
     conv => whnf
     refine wi 10 ?_
     conv => whnf
     refine ⟨oo, ?_⟩
     conv => whnf
     rw [Int.toNat_natCast]
     refine w2 11 14 ?_ ?_ <;> conv => whnf
     ·refine jn _ ⟨b_x, b_z, by dsimp only; omega, ?_⟩
      exact cvr
     ·refine ⟨s23, ?_⟩
      conv => whnf
      refine w1 11 ?_
      conv => whnf
      refine w1 15 ?_
      conv => whnf
      refine ⟨s23, ?_⟩
      conv => whnf
      refine wd1 (mid b_x b_z _ (by dsimp only; omega) ?_)
      exact cvr
   ·refine callV rfl hslo fun hs' hhs => ?_
    try dsimp only at hhs
    conv => whnf
    refine wi 10 ?_
    conv => whnf
    refine ⟨oo, ?_⟩
    conv => whnf
    rw [Int.toNat_natCast]
    refine w3 5 11 13 ?_ ?_ ?_ <;> conv => whnf
    ·refine w2 11 13 ?_ ?_ <;> conv => whnf
     ·refine w1 13 ?_
      conv => whnf
      intro b_z hs_z hh_z hf_z
      try dsimp only at hh_z hf_z
      conv => whnf
      refine jn _ ⟨b_x, b_z, by dsimp only; omega, ?_⟩
      exact cvr
     ·intro b_z hs_z hh_z hf_z
      try dsimp only at hh_z hf_z
      conv => whnf
      refine w2 11 14 ?_ ?_ <;> conv => whnf
      ·refine jn _ ⟨b_x, b_z, by dsimp only; omega, ?_⟩
       exact cvr
      ·refine ⟨s23, ?_⟩
       conv => whnf
       refine w1 11 ?_
       conv => whnf
       refine w1 15 ?_
       conv => whnf
       refine ⟨s23, ?_⟩
       conv => whnf
       refine wd1 (mid b_x b_z _ (by dsimp only; omega) ?_)
       exact cvr
    ·refine w2 5 13 ?_ ?_ <;> conv => whnf
     ·refine w1 13 ?_
      conv => whnf
      intro b_z hs_z hh_z hf_z
      try dsimp only at hh_z hf_z
      conv => whnf
      refine jn _ ⟨b_x, b_z, by dsimp only; omega, ?_⟩
      exact cvr
     ·intro b_z hs_z hh_z hf_z
      try dsimp only at hh_z hf_z
      conv => whnf
      refine w1 5 ?_
      conv => whnf
      refine jn _ ⟨b_x, b_z, by dsimp only; omega, ?_⟩
      exact cvr
    ·intro b_z hs_z hh_z hf_z
     try dsimp only at hh_z hf_z
     conv => whnf
     refine w2 5 11 ?_ ?_ <;> conv => whnf
     ·refine w2 11 14 ?_ ?_ <;> conv => whnf
      ·refine jn _ ⟨b_x, b_z, by dsimp only; omega, ?_⟩
       exact cvr
      ·refine ⟨s23, ?_⟩
       conv => whnf
       refine w1 11 ?_
       conv => whnf
       refine w1 15 ?_
       conv => whnf
       refine ⟨s23, ?_⟩
       conv => whnf
       refine wd1 (mid b_x b_z _ (by dsimp only; omega) ?_)
       exact cvr
     ·refine w1 5 ?_
      conv => whnf
      refine jn _ ⟨b_x, b_z, by dsimp only; omega, ?_⟩
      exact cvr
   ·intro b_z hs_z hh_z hf_z
    try dsimp only at hh_z hf_z
    conv => whnf
    refine w2 5 8 ?_ ?_ <;> conv => whnf
    ·refine w1 8 ?_
     conv => whnf
     refine callV rfl hslo fun hs' hhs => ?_
     try dsimp only at hhs
     conv => whnf
     refine wi 10 ?_
     conv => whnf
     refine ⟨oo, ?_⟩
     conv => whnf
     rw [Int.toNat_natCast]
     refine w2 11 14 ?_ ?_ <;> conv => whnf
     ·refine jn _ ⟨b_x, b_z, by dsimp only; omega, ?_⟩
      exact cvr
     ·refine ⟨s23, ?_⟩
      conv => whnf
      refine w1 11 ?_
      conv => whnf
      refine w1 15 ?_
      conv => whnf
      refine ⟨s23, ?_⟩
      conv => whnf
      refine wd1 (mid b_x b_z _ (by dsimp only; omega) ?_)
      exact cvr
    ·refine callV rfl hslo fun hs' hhs => ?_
     try dsimp only at hhs
     conv => whnf
     refine wi 10 ?_
     conv => whnf
     refine ⟨oo, ?_⟩
     conv => whnf
     rw [Int.toNat_natCast]
     refine w2 5 11 ?_ ?_ <;> conv => whnf
     ·refine w2 11 14 ?_ ?_ <;> conv => whnf
      ·refine jn _ ⟨b_x, b_z, by dsimp only; omega, ?_⟩
       exact cvr
      ·refine ⟨s23, ?_⟩
       conv => whnf
       refine w1 11 ?_
       conv => whnf
       refine w1 15 ?_
       conv => whnf
       refine ⟨s23, ?_⟩
       conv => whnf
       refine wd1 (mid b_x b_z _ (by dsimp only; omega) ?_)
       exact cvr
     ·refine w1 5 ?_
      conv => whnf
      refine jn _ ⟨b_x, b_z, by dsimp only; omega, ?_⟩
      exact cvr
  ·intro b_z hs_z hh_z hf_z
   try dsimp only at hh_z hf_z
   conv => whnf
   refine w1 2 ?_
   conv => whnf
   refine callV rfl hpol fun hs' hhs => ?_
   try dsimp only at hhs
   conv => whnf
   refine wi 4 ?_
   conv => whnf
   refine ⟨oo, ?_⟩
   conv => whnf
   rw [Int.toNat_natCast]
   refine w2 5 8 ?_ ?_ <;> conv => whnf
   ·refine w1 8 ?_
    conv => whnf
    refine callV rfl hslo fun hs' hhs => ?_
    try dsimp only at hhs
    conv => whnf
    refine wi 10 ?_
    conv => whnf
    refine ⟨oo, ?_⟩
    conv => whnf
    rw [Int.toNat_natCast]
    refine w2 11 14 ?_ ?_ <;> conv => whnf
    ·refine jn _ ⟨b_x, b_z, by dsimp only; omega, ?_⟩
     exact cvr
    ·refine ⟨s23, ?_⟩
     conv => whnf
     refine w1 11 ?_
     conv => whnf
     refine w1 15 ?_
     conv => whnf
     refine ⟨s23, ?_⟩
     conv => whnf
     refine wd1 (mid b_x b_z _ (by dsimp only; omega) ?_)
     exact cvr
   ·refine callV rfl hslo fun hs' hhs => ?_
    try dsimp only at hhs
    conv => whnf
    refine wi 10 ?_
    conv => whnf
    refine ⟨oo, ?_⟩
    conv => whnf
    rw [Int.toNat_natCast]
    refine w2 5 11 ?_ ?_ <;> conv => whnf
    ·refine w2 11 14 ?_ ?_ <;> conv => whnf
     ·refine jn _ ⟨b_x, b_z, by dsimp only; omega, ?_⟩
      exact cvr
     ·refine ⟨s23, ?_⟩
      conv => whnf
      refine w1 11 ?_
      conv => whnf
      refine w1 15 ?_
      conv => whnf
      refine ⟨s23, ?_⟩
      conv => whnf
      refine wd1 (mid b_x b_z _ (by dsimp only; omega) ?_)
      exact cvr
    ·refine w1 5 ?_
     conv => whnf
     refine jn _ ⟨b_x, b_z, by dsimp only; omega, ?_⟩
     exact cvr
 ·intro b_z hs_z hh_z hf_z
  try dsimp only at hh_z hf_z
  conv => whnf
  refine w2 2 12 ?_ ?_ <;> conv => whnf
  ·refine callV rfl hpol fun hs' hhs => ?_
   try dsimp only at hhs
   conv => whnf
   refine wi 4 ?_
   conv => whnf
   refine ⟨oo, ?_⟩
   conv => whnf
   rw [Int.toNat_natCast]
   refine w3 5 8 12 ?_ ?_ ?_ <;> conv => whnf
   ·refine w2 8 12 ?_ ?_ <;> conv => whnf
    ·refine callV rfl hslo fun hs' hhs => ?_
     try dsimp only at hhs
     conv => whnf
     refine wi 10 ?_
     conv => whnf
     refine ⟨oo, ?_⟩
     conv => whnf
     rw [Int.toNat_natCast]
     refine w2 11 12 ?_ ?_ <;> conv => whnf
     ·refine w1 12 ?_
      conv => whnf
      intro b_x hs_x hh_x hf_x
      try dsimp only at hh_x hf_x
      conv => whnf
      refine jn _ ⟨b_x, b_z, by dsimp only; omega, ?_⟩
      exact cvr
     ·intro b_x hs_x hh_x hf_x
      try dsimp only at hh_x hf_x
      conv => whnf
      refine w2 11 14 ?_ ?_ <;> conv => whnf
      ·refine jn _ ⟨b_x, b_z, by dsimp only; omega, ?_⟩
       exact cvr
      ·refine ⟨s23, ?_⟩
       conv => whnf
       refine w1 11 ?_
       conv => whnf
       refine w1 15 ?_
       conv => whnf
       refine ⟨s23, ?_⟩
       conv => whnf
       refine wd1 (mid b_x b_z _ (by dsimp only; omega) ?_)
       exact cvr
    ·intro b_x hs_x hh_x hf_x
     try dsimp only at hh_x hf_x
     conv => whnf
     refine w1 8 ?_
     conv => whnf
     refine callV rfl hslo fun hs' hhs => ?_
     try dsimp only at hhs
     conv => whnf
     refine wi 10 ?_
     conv => whnf
     refine ⟨oo, ?_⟩
     conv => whnf
     rw [Int.toNat_natCast]
     refine w2 11 14 ?_ ?_ <;> conv => whnf
     ·refine jn _ ⟨b_x, b_z, by dsimp only; omega, ?_⟩
      exact cvr
     ·refine ⟨s23, ?_⟩
      conv => whnf
      refine w1 11 ?_
      conv => whnf
      refine w1 15 ?_
      conv => whnf
      refine ⟨s23, ?_⟩
      conv => whnf
      refine wd1 (mid b_x b_z _ (by dsimp only; omega) ?_)
      exact cvr
   ·refine callV rfl hslo fun hs' hhs => ?_
    try dsimp only at hhs
    conv => whnf
    refine wi 10 ?_
    conv => whnf
    refine ⟨oo, ?_⟩
    conv => whnf
    rw [Int.toNat_natCast]
    refine w3 5 11 12 ?_ ?_ ?_ <;> conv => whnf
    ·refine w2 11 12 ?_ ?_ <;> conv => whnf
     ·refine w1 12 ?_
      conv => whnf
      intro b_x hs_x hh_x hf_x
      try dsimp only at hh_x hf_x
      conv => whnf
      refine jn _ ⟨b_x, b_z, by dsimp only; omega, ?_⟩
      exact cvr
     ·intro b_x hs_x hh_x hf_x
      try dsimp only at hh_x hf_x
      conv => whnf
      refine w2 11 14 ?_ ?_ <;> conv => whnf
      ·refine jn _ ⟨b_x, b_z, by dsimp only; omega, ?_⟩
       exact cvr
      ·refine ⟨s23, ?_⟩
       conv => whnf
       refine w1 11 ?_
       conv => whnf
       refine w1 15 ?_
       conv => whnf
       refine ⟨s23, ?_⟩
       conv => whnf
       refine wd1 (mid b_x b_z _ (by dsimp only; omega) ?_)
       exact cvr
    ·refine w2 5 12 ?_ ?_ <;> conv => whnf
     ·refine w1 12 ?_
      conv => whnf
      intro b_x hs_x hh_x hf_x
      try dsimp only at hh_x hf_x
      conv => whnf
      refine jn _ ⟨b_x, b_z, by dsimp only; omega, ?_⟩
      exact cvr
     ·intro b_x hs_x hh_x hf_x
      try dsimp only at hh_x hf_x
      conv => whnf
      refine w1 5 ?_
      conv => whnf
      refine jn _ ⟨b_x, b_z, by dsimp only; omega, ?_⟩
      exact cvr
    ·intro b_x hs_x hh_x hf_x
     try dsimp only at hh_x hf_x
     conv => whnf
     refine w2 5 11 ?_ ?_ <;> conv => whnf
     ·refine w2 11 14 ?_ ?_ <;> conv => whnf
      ·refine jn _ ⟨b_x, b_z, by dsimp only; omega, ?_⟩
       exact cvr
      ·refine ⟨s23, ?_⟩
       conv => whnf
       refine w1 11 ?_
       conv => whnf
       refine w1 15 ?_
       conv => whnf
       refine ⟨s23, ?_⟩
       conv => whnf
       refine wd1 (mid b_x b_z _ (by dsimp only; omega) ?_)
       exact cvr
     ·refine w1 5 ?_
      conv => whnf
      refine jn _ ⟨b_x, b_z, by dsimp only; omega, ?_⟩
      exact cvr
   ·intro b_x hs_x hh_x hf_x
    try dsimp only at hh_x hf_x
    conv => whnf
    refine w2 5 8 ?_ ?_ <;> conv => whnf
    ·refine w1 8 ?_
     conv => whnf
     refine callV rfl hslo fun hs' hhs => ?_
     try dsimp only at hhs
     conv => whnf
     refine wi 10 ?_
     conv => whnf
     refine ⟨oo, ?_⟩
     conv => whnf
     rw [Int.toNat_natCast]
     refine w2 11 14 ?_ ?_ <;> conv => whnf
     ·refine jn _ ⟨b_x, b_z, by dsimp only; omega, ?_⟩
      exact cvr
     ·refine ⟨s23, ?_⟩
      conv => whnf
      refine w1 11 ?_
      conv => whnf
      refine w1 15 ?_
      conv => whnf
      refine ⟨s23, ?_⟩
      conv => whnf
      refine wd1 (mid b_x b_z _ (by dsimp only; omega) ?_)
      exact cvr
    ·refine callV rfl hslo fun hs' hhs => ?_
     try dsimp only at hhs
     conv => whnf
     refine wi 10 ?_
     conv => whnf
     refine ⟨oo, ?_⟩
     conv => whnf
     rw [Int.toNat_natCast]
     refine w2 5 11 ?_ ?_ <;> conv => whnf
     ·refine w2 11 14 ?_ ?_ <;> conv => whnf
      ·refine jn _ ⟨b_x, b_z, by dsimp only; omega, ?_⟩
       exact cvr
      ·refine ⟨s23, ?_⟩
       conv => whnf
       refine w1 11 ?_
       conv => whnf
       refine w1 15 ?_
       conv => whnf
       refine ⟨s23, ?_⟩
       conv => whnf
       refine wd1 (mid b_x b_z _ (by dsimp only; omega) ?_)
       exact cvr
     ·refine w1 5 ?_
      conv => whnf
      refine jn _ ⟨b_x, b_z, by dsimp only; omega, ?_⟩
      exact cvr
  ·intro b_x hs_x hh_x hf_x
   try dsimp only at hh_x hf_x
   conv => whnf
   refine w1 2 ?_
   conv => whnf
   refine callV rfl hpol fun hs' hhs => ?_
   try dsimp only at hhs
   conv => whnf
   refine wi 4 ?_
   conv => whnf
   refine ⟨oo, ?_⟩
   conv => whnf
   rw [Int.toNat_natCast]
   refine w2 5 8 ?_ ?_ <;> conv => whnf
   ·refine w1 8 ?_
    conv => whnf
    refine callV rfl hslo fun hs' hhs => ?_
    try dsimp only at hhs
    conv => whnf
    refine wi 10 ?_
    conv => whnf
    refine ⟨oo, ?_⟩
    conv => whnf
    rw [Int.toNat_natCast]
    refine w2 11 14 ?_ ?_ <;> conv => whnf
    ·refine jn _ ⟨b_x, b_z, by dsimp only; omega, ?_⟩
     exact cvr
    ·refine ⟨s23, ?_⟩
     conv => whnf
     refine w1 11 ?_
     conv => whnf
     refine w1 15 ?_
     conv => whnf
     refine ⟨s23, ?_⟩
     conv => whnf
     refine wd1 (mid b_x b_z _ (by dsimp only; omega) ?_)
     exact cvr
   ·refine callV rfl hslo fun hs' hhs => ?_
    try dsimp only at hhs
    conv => whnf
    refine wi 10 ?_
    conv => whnf
    refine ⟨oo, ?_⟩
    conv => whnf
    rw [Int.toNat_natCast]
    refine w2 5 11 ?_ ?_ <;> conv => whnf
    ·refine w2 11 14 ?_ ?_ <;> conv => whnf
     ·refine jn _ ⟨b_x, b_z, by dsimp only; omega, ?_⟩
      exact cvr
     ·refine ⟨s23, ?_⟩
      conv => whnf
      refine w1 11 ?_
      conv => whnf
      refine w1 15 ?_
      conv => whnf
      refine ⟨s23, ?_⟩
      conv => whnf
      refine wd1 (mid b_x b_z _ (by dsimp only; omega) ?_)
      exact cvr
    ·refine w1 5 ?_
     conv => whnf
     refine jn _ ⟨b_x, b_z, by dsimp only; omega, ?_⟩
     exact cvr
-- 130 ways

open Go Go.RowKit Go.Proofs Poly Hull
set_option maxRecDepth 100000
set_option maxHeartbeats 8000000

theorem sqFreeS_fn (p : Int) [SP p] (g : Option Nat) (F : Poly p) (hm : IsMod p F.l) (h1 : 1 ≤ dg F) : FnV 42 [.int .i64 p, .ints g F.l] (.tup [.bool (decide (dg (gcd F (der F)) = 1)), .int .i64 0]) := by
 have h9 : dg F ≤ 9 := hm.2.1
 have hd : dg (der F) ≤ 9 := by
  have := der_dg (f := F) (fun e => by rw [e, dg_zero] at h1; omega)
  omega
 have h1' : 1 ≤ F.l.length := h1
 refine fn_of (cx_ok [0, 1, 4, 5, 9]) Tryz.func42 rfl (by decide) Tryz.ntmps42 (Nat.le_of_ble_eq_true rfl) fun base => ?_
 refine wrs fun K hK => ?_
 conv => whnf
 refine hK _ ?_
 clear hK K
 refine W.seqK fun K1 hK1 => ?_
 refine wrs fun K hK => ?_
 conv => whnf
 refine callV rfl (isModS_fn g p F.l (by have : F.l.length ≤ 9 := h9; omega)) fun hs' hhs => ?_
 try dsimp only at hhs
 conv => whnf
 refine hK _ (W.cond ⟨fun h => ?_, fun h => ?_⟩) <;> clear hK K
 ·rw [bP_true hm] at h; cases h
 refine W.skip (hK1 _ ?_)
 clear hK1 K1
 refine wrs fun K hK => ?_
 conv => whnf
 refine ⟨fun h2 => ?_, fun h2 => ?_⟩ <;> conv => whnf
 ·refine callI rfl (l08Derivative_fn p g F (by omega)) fun hs_1 b_1 hh_1 hf_1 => ?_
  try dsimp only at hh_1 hf_1
  conv => whnf
  refine callI rfl (l08Common_fn p g _ F (der F) (by omega) (by omega)) fun hs_2 b_2 hh_2 hf_2 => ?_
  try dsimp only at hh_2 hf_2
  conv => whnf
  refine hK _ ?_
  clear hK K
  refine W.ret ?_
  conv => whnf
  exact ⟨.v (.bool (decide (dg (gcd F (der F)) = 1))), (by show decide _ = decide _; exact decide_eq_decide.2 (by show ((gcd F (der F)).l.length : Int) = 1 ↔ (gcd F (der F)).l.length = 1; omega)), trivial, .v (.int .i64 0), ⟨rfl, rfl⟩, trivial, rfl⟩
 ·exact absurd (of_decide_eq_false h2) (by omega)

def RegT (p : Int) [SP p] (R : Nat → Poly p) (n : Nat) : Prop := ∀ i, i < n → dg (gcd (R i) (der (R i))) = 1

theorem isRegular_fn (p : Int) [SP p] (hp : 2 ≤ p ∧ p ≤ 97) (g : Option Nat) (l : List Int) (T : List (Int × Int × Int)) (hT : T.length ≤ 100) (hslo : FnV 33 [.int .i64 p, .ints g l] (vSs T)) (R : Nat → Poly p) (hR : ∀ i, i < T.length → dg (R i) ≤ 9 ∧ R i ≠ 0)
  (hres : ∀ i : Nat, i < T.length → FnI 35 [.int .i64 p, .ints g l, .int .i64 i] (R i).l) : FnV 32 [.int .i64 p, .ints g l] (.bool (bP (RegT p R T.length))) := by
 refine fn_of (cx_ok [0, 1, 4, 5, 6, 10, 11, 12, 26]) Tryz.func32 rfl (by decide) Tryz.ntmps32 (Nat.le_of_ble_eq_true rfl) fun base => ?_
 refine wrs fun K hK => ?_
 conv => whnf
 refine hK _ ?_
 clear hK K
 refine W.seqK fun K1 hK1 => ?_
 refine wrs fun K hK => ?_
 conv => whnf
 refine callV rfl (hslo) fun hs' hhs => ?_
 try dsimp only at hhs
 conv => whnf
 refine hK _ (W.block (W.invA (fun m e => ∃ i : Nat, i ≤ T.length ∧ RegT p R i ∧ m = T.length - i ∧ e = [(0, .v (.int .i64 p)), (1, .v (.ints g l)), (10, .v (.int .i64 T.length)), (11, .v (.int .i64 i))]) ⟨0, Nat.zero_le _, fun j hj => absurd hj (Nat.not_lt_zero j), rfl, rfl⟩ ?_))
 clear hK K
 rintro m e ⟨i, h1, h2, hm, rfl⟩
 refine wrs fun K hK => ?_
 conv => whnf
 refine hK _ ?_
 clear hK K
 refine W.seqK fun K7 hK7 => W.cond ⟨fun h3 => ?_, fun h3 => ?_⟩ <;> (first | replace h3 := of_decide_eq_true h3 | replace h3 := of_decide_eq_false h3)
 ·have hi : i < T.length := by omega
  obtain ⟨h9, h0⟩ := hR i hi
  have hd := der_dg h0
  have hl9 : (R i).l.length ≤ 9 := h9
  have e1 : ((R i).l.length : Int) = (dg (R i) : Nat) := rfl
  refine W.skip (hK7 _ ?_)
  clear hK7 K7
  refine W.seqK fun K8 hK8 => W.block ?_
  refine wrs fun K hK => ?_
  conv => whnf
  refine hK _ ?_
  clear hK K
  refine wrs fun K hK => ?_
  conv => whnf
  refine callI rfl (hres i hi) fun hs_1 b_1 hh_1 hf_1 => ?_
  try dsimp only at hh_1 hf_1
  conv => whnf
  refine hK _ ?_
  clear hK K
  refine wrs fun K hK => ?_
  conv => whnf
  refine callV rfl (derivative_fn _ (R i).l ((l_bd (R i)).le (by omega)) (by omega)) fun hs' hhs => ?_
  try dsimp only at hhs
  conv => whnf
  refine callI rfl (reduce_fn p (by omega) (by omega) _ (mkL ((R i).l.length - 1) (dv (cf (R i).l))) (dv_bd (R i) (by omega)) (by rw [mkL_length]; omega)) fun hs_2 b_2 hh_2 hf_2 => ?_
  try dsimp only at hh_2 hf_2
  conv => whnf
  rw [der_l]
  refine callI rfl (common_fn p _ _ (R i) (der (R i)) (by omega) (by omega)) fun hs_3 b_3 hh_3 hf_3 => ?_
  try dsimp only at hh_3 hf_3
  conv => whnf
  refine hK _ (W.cond ⟨fun h4 => ?_, fun h4 => ?_⟩) <;> clear hK K
  ·have h4 := of_decide_eq_true h4
   have h5 : ¬ dg (gcd (R i) (der (R i))) = 1 := fun h5 => h4 (by show ((gcd (R i) (der (R i))).l.length : Int) = 1; have h6 : (gcd (R i) (der (R i))).l.length = 1 := h5; omega)
   refine wrs fun K hK => ?_
   conv => whnf
   refine hK _ ?_
   clear hK K
   refine W.ret ?_
   conv => whnf
   exact ⟨.v (.bool (bP (RegT p R T.length))), bP_false fun hh => h5 (hh i hi), trivial, rfl⟩
  ·have h4 := of_decide_eq_false h4
   have h5 : dg (gcd (R i) (der (R i))) = 1 := by
    have h6 : ((gcd (R i) (der (R i))).l.length : Int) = 1 := Classical.byContradiction fun h' => h4 h'
    show (gcd (R i) (der (R i))).l.length = 1
    omega
   refine W.skip (hK8 _ ?_)
   clear hK8 K8
   refine wrg ?_
   conv => whnf
   refine ⟨oo, ?_⟩
   conv => whnf
   exact againA ⟨i + 1, by omega, fun j hj => by by_cases hji : j = i; (subst hji; exact h5); exact h2 j (by omega), rfl, rfl⟩
 ·obtain rfl : i = T.length := by omega
  refine W.exit (hK1 _ ?_)
  clear hK7 K7 hK1 K1
  refine wrs fun K hK => ?_
  conv => whnf
  refine hK _ ?_
  clear hK K
  refine W.ret ?_
  conv => whnf
  exact ⟨.v (.bool (bP (RegT p R T.length))), bP_true h2, trivial, rfl⟩

theorem l14Regular_fn (p : Int) [SP p] (g : Option Nat) (l : List Int) (T : List (Int × Int × Int)) (hT : T.length ≤ 100) (hslo : FnV 41 [.int .i64 p, .ints g l] (vSs T)) (R : Nat → Poly p) (hR : ∀ i, i < T.length → IsMod p (R i).l ∧ R i ≠ 0)
  (hres : ∀ i : Nat, i < T.length → FnI 43 [.int .i64 p, .ints g l, .int .i64 i] (R i).l) : FnV 29 [.int .i64 p, .ints g l] (.bool (bP (RegT p R T.length))) := by
 refine fn_of (cx_ok [0, 1, 4, 5, 6, 7, 15, 28]) Tryz.func29 rfl (by decide) Tryz.ntmps29 (Nat.le_of_ble_eq_true rfl) fun base => ?_
 refine wrs fun K hK => ?_
 conv => whnf
 refine hK _ ?_
 clear hK K
 refine wrs fun K hK => ?_
 conv => whnf
 refine callV rfl (hslo) fun hs' hhs => ?_
 try dsimp only at hhs
 conv => whnf
 refine hK _ ?_
 clear hK K
 refine W.seqK fun K1 hK1 => wrs fun K hK => ?_
 conv => whnf
 refine hK _ (W.block (W.invA (fun m e => ∃ i : Nat, i ≤ T.length ∧ RegT p R i ∧ m = T.length - i ∧ e = [(0, .v (.int .i64 p)), (1, .v (.ints g l)), (5, .v (.int .i64 T.length)), (6, .v (.int .i64 i))]) ⟨0, Nat.zero_le _, fun j hj => absurd hj (Nat.not_lt_zero j), rfl, rfl⟩ ?_))
 clear hK K
 rintro m e ⟨i, h1, h2, hm, rfl⟩
 refine W.seqK fun K7 hK7 => wrs fun K hK => ?_
 conv => whnf
 refine hK _ (W.cond ⟨fun h3 => ?_, fun h3 => ?_⟩) <;> clear hK K <;> (first | replace h3 := of_decide_eq_true h3 | replace h3 := of_decide_eq_false h3)
 ·have hi : i < T.length := by omega
  obtain ⟨hmd, h0⟩ := hR i hi
  have hd : 1 ≤ dg (R i) := by
   rcases Nat.eq_zero_or_pos (dg (R i)) with h | h
   ·exact absurd (dg_eq_zero.1 h) h0
   ·exact h
  refine W.skip (hK7 _ ?_)
  clear hK7 K7
  refine W.seqK fun K8 hK8 => W.block ?_
  refine wrs fun K hK => ?_
  conv => whnf
  refine callI rfl (hres i hi) fun hs_1 b_1 hh_1 hf_1 => ?_
  try dsimp only at hh_1 hf_1
  conv => whnf
  refine callV rfl (sqFreeS_fn p _ (R i) hmd hd) fun hs' hhs => ?_
  try dsimp only at hhs
  conv => whnf
  refine hK _ ?_
  clear hK K
  refine wrs fun K hK => ?_
  conv => whnf
  refine hK _ (W.cond ⟨fun h4 => ?_, fun h4 => ?_⟩) <;> clear hK K
  ·have h4 : ¬ dg (gcd (R i) (der (R i))) = 1 := nd_true h4
   refine wrs fun K hK => ?_
   conv => whnf
   refine hK _ ?_
   clear hK K
   refine W.ret ?_
   conv => whnf
   exact ⟨.v (.bool (bP (RegT p R T.length))), bP_false fun hh => h4 (hh i hi), trivial, rfl⟩
  ·have h4 : dg (gcd (R i) (der (R i))) = 1 := nd_false h4
   refine W.skip (hK8 _ ?_)
   clear hK8 K8
   refine wrg ?_
   conv => whnf
   refine ⟨oo, ?_⟩
   conv => whnf
   exact againA ⟨i + 1, by omega, fun j hj => by by_cases hji : j = i; (subst hji; exact h4); exact h2 j (by omega), rfl, rfl⟩
 ·obtain rfl : i = T.length := by omega
  refine W.exit (hK1 _ ?_)
  clear hK7 K7 hK1 K1
  refine wrs fun K hK => ?_
  conv => whnf
  refine hK _ ?_
  clear hK K
  refine W.ret ?_
  conv => whnf
  exact ⟨.v (.bool (bP (RegT p R T.length))), bP_true h2, trivial, rfl⟩

open Go Go.RowKit Go.Proofs Poly
set_option maxRecDepth 100000
set_option maxHeartbeats 8000000

theorem mul64_fn (a b : Nat) (ha : a ≤ 1000) (hb : b ≤ 1000000) : FnV 108 [.int .u64 a, .int .u64 b] (.tup [.int .u64 0, .int .u64 (a * b : Nat)]) := by
 have hab : a * b ≤ 1000 * 1000000 := Nat.mul_le_mul ha hb
 have p32 : (2 : Int) ^ Int.toNat 32 = 4294967296 := rfl
 have ea : (a : Int) % (4294967295 + 1) = a := by omega
 have eb : (b : Int) % (4294967295 + 1) = b := by omega
 have da : (a : Int) / 2 ^ Int.toNat 32 = 0 := by rw [p32]; omega
 have db : (b : Int) / 2 ^ Int.toNat 32 = 0 := by rw [p32]; omega
 have em : (a : Int) * b % 18446744073709551616 = ((a * b : Nat) : Int) := by rw [← Int.natCast_mul]; omega
 have dm : ((a * b : Nat) : Int) / 2 ^ Int.toNat 32 = 0 := by rw [p32]; omega
 refine fn_of (cx_ok [0, 1, 4, 5, 6, 7, 8, 9, 10, 11, 12, 13]) Tryz.func108 rfl (by decide) Tryz.ntmps108 (Nat.le_of_ble_eq_true rfl) fun base => ?_
 refine wrs fun K hK => ?_
 conv => whnf
 refine hK _ ?_
 clear hK K
 refine wrs fun K hK => ?_
 conv => whnf
 refine ⟨⟨⟨by omega, by omega⟩, .inl rfl⟩, ?_⟩
 conv => whnf
 rw [ea]
 refine hK _ ?_
 clear hK K
 refine wrs fun K hK => ?_
 conv => whnf
 refine ⟨⟨by omega, by decide, by decide⟩, ?_⟩
 conv => whnf
 rw [da]
 refine hK _ ?_
 clear hK K
 refine wrs fun K hK => ?_
 conv => whnf
 refine ⟨⟨⟨by omega, by omega⟩, .inl rfl⟩, ?_⟩
 conv => whnf
 rw [eb]
 refine hK _ ?_
 clear hK K
 refine wrs fun K hK => ?_
 conv => whnf
 refine ⟨⟨by omega, by decide, by decide⟩, ?_⟩
 conv => whnf
 rw [db]
 refine hK _ ?_
 clear hK K
 refine wrs fun K hK => ?_
 conv => whnf
 rw [em]
 refine hK _ ?_
 clear hK K
 refine wrs fun K hK => ?_
 conv => whnf
 refine ⟨⟨by omega, by decide, by decide⟩, ?_⟩
 conv => whnf
 rw [dm, show ((0 : Int) * b % 18446744073709551616 + 0) % 18446744073709551616 = 0 by omega]
 refine hK _ ?_
 clear hK K
 refine wrs fun K hK => ?_
 conv => whnf
 refine ⟨⟨⟨by decide, by decide⟩, .inl rfl⟩, ?_⟩
 conv => whnf
 rw [show (0 : Int) % (4294967295 + 1) = 0 by decide]
 refine hK _ ?_
 clear hK K
 refine wrs fun K hK => ?_
 conv => whnf
 refine ⟨⟨by decide, by decide, by decide⟩, ?_⟩
 conv => whnf
 rw [show (0 : Int) / 2 ^ Int.toNat 32 = 0 from rfl]
 refine hK _ ?_
 clear hK K
 refine wrs fun K hK => ?_
 conv => whnf
 rw [show ((0 : Int) + (a : Int) * 0 % 18446744073709551616) % 18446744073709551616 = 0 by omega]
 refine hK _ ?_
 clear hK K
 refine wrs fun K hK => ?_
 conv => whnf
 refine ⟨⟨by decide, by decide, by decide⟩, ?_⟩
 conv => whnf
 rw [show (0 : Int) / 2 ^ Int.toNat 32 = 0 from rfl, show (((0 : Int) * 0 % 18446744073709551616 + 0) % 18446744073709551616 + 0) % 18446744073709551616 = 0 by decide]
 refine hK _ ?_
 clear hK K
 refine wrs fun K hK => ?_
 conv => whnf
 rw [em]
 refine hK _ ?_
 clear hK K
 refine W.ret ?_
 conv => whnf
 exact ⟨.v (.int .u64 0), ⟨rfl, rfl⟩, trivial, .v (.int .u64 (a * b : Nat)), ⟨rfl, rfl⟩, trivial, rfl⟩

theorem mul_fn (a b : Nat) (ha : a ≤ 1000) (hb : b ≤ 1000000) : FnV 87 [.int .u64 a, .int .u64 b] (.tup [.int .u64 0, .int .u64 (a * b : Nat)]) := by
 refine fn_of (cx_ok [0, 1, 4, 5, 6, 7, 8, 9]) Tryz.func87 rfl (by decide) Tryz.ntmps87 (Nat.le_of_ble_eq_true rfl) fun base => ?_
 refine wrs fun K hK => ?_
 conv => whnf
 refine hK _ ?_
 clear hK K
 refine W.seqK fun K1 hK1 => ?_
 refine W.cond (W.skip (cx := cx []) (hK1 _ ?_))
 clear hK1 K1
 refine wrs fun K hK => ?_
 conv => whnf
 refine callV rfl (mul64_fn a b ha hb) fun hs' hhs => ?_
 try dsimp only at hhs
 conv => whnf
 refine hK _ ?_
 clear hK K
 refine wrs fun K hK => ?_
 conv => whnf
 refine hK _ ?_
 clear hK K
 refine W.ret ?_
 conv => whnf
 exact ⟨.v (.int .u64 0), ⟨rfl, rfl⟩, trivial, .v (.int .u64 (a * b : Nat)), ⟨rfl, rfl⟩, trivial, rfl⟩

def fillL (c : Int) (n k : Nat) : List Int := List.replicate k c ++ List.replicate (n - k) 0
theorem fillL_length {c : Int} {n k : Nat} (h : k ≤ n) : (fillL c n k).length = n := by simp [fillL]; omega
theorem fillL_all (c : Int) (n : Nat) : fillL c n n = List.replicate n c := by simp [fillL]
theorem fillL_none (c : Int) (n : Nat) : List.replicate n 0 = fillL c n 0 := by simp [fillL]

theorem fillL_first (c : Int) {n : Nat} (h : 1 ≤ n) : putL (fillL c n 0) 0 n [c] = fillL c n 1 := by
 unfold putL fillL
 have h1 : min n ([c] : List Int).length = 1 := by simp; omega
 have h2 : ([c] : List Int).take n = [c] := List.take_of_length_le (by simpa using h)
 rw [h1, h2]
 simp
theorem fillL_src {c : Int} {n k : Nat} (_ : k ≤ n) : ((fillL c n k).drop 0).take k = List.replicate k c := by simp [fillL]
theorem fillL_put' {c : Int} {n k : Nat} (h : k ≤ n) : putL (fillL c n k) k (n - k) (List.replicate k c) = fillL c n (min n (k + k)) := by
 unfold putL fillL
 rw [List.length_replicate, List.take_replicate]
 have e1 : (List.replicate k c ++ List.replicate (n - k) 0).take k = List.replicate k c := by simp
 have e2 : (List.replicate k c ++ List.replicate (n - k) (0 : Int)).drop (k + min (n - k) k) = List.replicate (n - min n (k + k)) 0 := by
  rw [List.drop_append]; simp; omega
 rw [e1, e2, List.replicate_append_replicate]
 congr 2
 omega

def R1r (l : List Int) : PostT := fun _ _ x tb => ∃ b : Nat, x = .rf b l.length ∧ (l ≠ [] → tb b = some l)

theorem repeat_T (g : Option Nat) (c : Int) (n : Nat) (hn : 1 ≤ n) (hn2 : n ≤ 1000000) : FnT Tryz.prog 54 [.ints g [c], .int .i64 n] (R1r (List.replicate n c)) := by
 have e1 : ([c] : List Int).length = 1 := rfl
 refine fnt_of (cxt_ok [] [0, 1, 4, 5, 6, 7, 8, 10, 26, 37, 1000000]) Tryz.func54 rfl (by decide) Tryz.ntmps54 (Nat.le_of_ble_eq_true rfl) (fun base => ?_) (Nat.le_of_ble_eq_true rfl)
 refine W.sw (c' := cx [0, 1, 4, 5, 6, 7, 8, 10, 26, 37, 1000000]) ?_
 refine wrs fun K hK => ?_
 conv => whnf
 refine hK _ ?_
 clear hK K
 refine W.seqK fun K1 hK1 => ?_
 refine wrs fun K hK => ?_
 conv => whnf
 refine hK _ (W.cond ⟨fun h => absurd (of_decide_eq_true h) (by omega), fun _ => W.skip (hK1 _ ?_)⟩)
 clear hK K hK1 K1
 refine wrs fun K hK => ?_
 conv => whnf
 rw [e1]
 refine ⟨⟨by decide, by decide, by decide⟩, ?_⟩
 conv => whnf
 refine ⟨⟨by omega, by omega, by omega⟩, ?_⟩
 conv => whnf
 refine callV rfl (mul_fn 1 n (by omega) hn2) fun hs' hhs => ?_
 try dsimp only at hhs
 conv => whnf
 rw [Nat.one_mul]
 refine hK _ ?_
 clear hK K
 refine W.seqK fun K1 hK1 => ?_
 refine wrs fun K hK => ?_
 conv => whnf
 refine ⟨fun h => ?_, fun h => ?_⟩ <;> conv => whnf
 ·exact absurd (of_decide_eq_true h) (by decide)
 refine hK _ (W.cond ⟨fun h => absurd (of_decide_eq_true h) (by omega), fun _ => W.skip (hK1 _ ?_)⟩)
 clear hK K hK1 K1
 refine wrs fun K hK => ?_
 conv => whnf
 refine ⟨⟨by omega, by omega, by omega⟩, ?_⟩
 conv => whnf
 refine ⟨rfl, ?_⟩
 conv => whnf
 refine ⟨oo, ?_⟩
 conv => whnf
 rw [Int.toNat_natCast]
 intro b_2 hs_2 hh_2 hf_2
 try dsimp only at hh_2 hf_2
 conv => whnf
 refine hK _ ?_
 clear hK K
 refine W.give 7 fun K hK => ?_
 conv => whnf
 refine hK _ ?_
 clear hK K
 rw [List.length_replicate]
 have hne : List.replicate n (0 : Int) ≠ [] := fun e => by have := congrArg List.length e; simp at this; omega
 have htb0 := tbAdd_self (fun _ => none) b_2 (xs := List.replicate n (0 : Int)) hne
 rw [fillL_none c n] at htb0
 refine wrs fun K hK => ?_
 conv => whnf
 refine ⟨by omega, ?_⟩
 conv => whnf
 refine ⟨by simp, ?_⟩
 conv => whnf
 refine ⟨_, htb0, by rw [fillL_length (by omega)]; omega, ?_⟩
 conv => whnf
 rw [e1, fillL_first c hn, show min n 1 = 1 by omega]
 refine hK _ ?_
 clear hK K
 refine W.seqK fun K1 hK1 => W.block (W.invA (fun m e => ∃ (k : Nat) (tb : Tab), 1 ≤ k ∧ k ≤ n ∧ tb b_2 = some (fillL c n k) ∧ m = n - k ∧ e = [(vt, .tab tb), (7, .v (.rf b_2 n)), (8, .v (.int .i64 k))]) ⟨1, _, Nat.le_refl _, hn, tbSet_self _ _ _, rfl, rfl⟩ ?_)
 rintro m e ⟨k, tb, hk1, hk2, htb, hm, rfl⟩
 have hfl : (fillL c n k).length = n := fillL_length hk2
 refine W.seqK fun K7 hK7 => wrs fun K hK => ?_
 conv => whnf
 refine hK _ (W.cond ⟨fun h => ?_, fun h => ?_⟩) <;> clear hK K <;> (first | replace h := of_decide_eq_true h | replace h := of_decide_eq_false h)
 ·refine W.skip (hK7 _ (W.block ?_))
  clear hK7 K7
  refine W.sch follows ?_
  refine wt 0 ?_
  conv => whnf
  refine wt 1 ?_
  conv => whnf
  refine wt 2 ?_
  conv => whnf
  refine wt 3 ?_
  conv => whnf
  refine ⟨⟨by omega, by omega, by omega⟩, ?_⟩
  conv => whnf
  rw [Int.toNat_natCast, Int.toNat_natCast]
  refine wt 4 ?_
  conv => whnf
  refine wt 5 ?_
  conv => whnf
  refine wt 6 ?_
  conv => whnf
  refine ⟨⟨by decide, by omega, by omega⟩, ?_⟩
  conv => whnf
  rw [Int.toNat_natCast, show Int.toNat 0 = 0 from rfl, Nat.sub_zero]
  refine w1 7 ?_
  conv => whnf
  refine ⟨_, htb, by rw [hfl]; omega, ?_⟩
  conv => whnf
  refine ⟨_, htb, by rw [hfl]; omega, ?_⟩
  rw [fillL_src hk2, fillL_put' hk2, List.length_replicate]
  conv => whnf
  refine w1 8 ?_
  conv => whnf
  refine ⟨oo, ?_⟩
  conv => whnf
  refine w1 9 ?_
  conv => whnf
  refine Wany.done (by kernel_rfl) ?_
  conv => whnf
  refine ⟨_, _, ⟨min n (k + k), tbSet tb b_2 (fillL c n (min n (k + k))), by omega, by omega, tbSet_self _ _ _, rfl, rfl⟩, by omega, by dsimp only; omega, ?_⟩
  repeat' first | refine And.intro ?_ ?_ | exact trivial | rfl | omega | exact fun _ _ h => h
-- 1 ways
 ·obtain rfl : k = n := by omega
  refine W.exit (hK1 _ ?_)
  clear hK7 K7 hK1 K1
  rw [fillL_all] at htb
  refine wrs fun K hK => ?_
  conv => whnf
  refine hK _ ?_
  clear hK K
  refine W.ret ?_
  conv => whnf
  refine ⟨.v (.rf b_2 k), rfl, trivial, b_2, by rw [List.length_replicate], fun _ => htb⟩

theorem repeat_fn (g : Option Nat) (c : Int) (n : Nat) (hn : 1 ≤ n) (hn2 : n ≤ 1000000) : FnV 54 [.ints g [c], .int .i64 n] (.ints none (List.replicate n c)) :=
 (repeat_T g c n hn hn2).toV fun _ _ _ _ ⟨_, hx, hb⟩ => by subst hx; exact ⟨List.replicate n c, rfl, hb, rfl⟩

/- degrees -/
theorem repl_snoc {α : Type} (n : Nat) (a : α) : List.replicate n a ++ [a] = List.replicate (n + 1) a := by
 rw [List.replicate_succ']
def degT {p : Int} [SP p] (F : List (Poly p × Nat)) : Nat → List Int
 | 0 => []
 | k + 1 => degT F k ++ List.replicate (F.getD k (0, 0)).2 (((F.getD k (0, 0)).1.l.length : Int) - 1)
theorem degT_len {p : Int} [SP p] {F : List (Poly p × Nat)} (h : ∀ j, j < F.length → (F.getD j (0, 0)).2 ≤ 13) : ∀ k, k ≤ F.length → (degT F k).length ≤ 13 * k
 | 0, _ => Nat.le_refl _
 | k + 1, hk => by
  have h1 := degT_len h k (by omega)
  have h2 := h k (by omega)
  rw [degT, List.length_append, List.length_replicate]; omega
theorem _root_.Go.Proofs.YtkkahnljonppiaaGreat.Poly.FacOf.fac {p : Int} [SP p] {f : Poly p} {F : List (Poly p × Nat)} (h : FacOf f F) (hf0 : f ≠ 0) (hf : dg f ≤ 13) : ∀ j, j < F.length → dg (F.getD j (0, 0)).1 ≤ 13 ∧ 2 ≤ dg (F.getD j (0, 0)).1 ∧ 1 ≤ (F.getD j (0, 0)).2 ∧ (F.getD j (0, 0)).2 ≤ 13 := fun j hj => by
 obtain ⟨h3, _, h1, h2⟩ := (h.2 (F.getD j (0, 0))).1 (by rw [getD_lt hj]; exact List.getElem_mem hj)
 have h4 := dvd_dg (h2.dvd h1) hf0
 have h5 := pow_dg h3.1 (F.getD j (0, 0)).2
 obtain ⟨u, hu, _⟩ := h2
 have h6 := dvd_dg (⟨u, hu⟩ : (F.getD j (0, 0)).1 ^ (F.getD j (0, 0)).2 ∣ f) hf0
 exact ⟨by omega, h3.1, h1, by omega⟩

theorem degreesOf_T (p : Int) [SP p] (g : Option Nat) (f : Poly p) (F : List (Poly p × Nat)) (hF : FacOf f F) (hf0 : f ≠ 0) (h9 : dg f ≤ 13) : FnT Tryz.prog 34 [.int .i64 p, .ints g f.l] (R1r (degT F F.length)) := by
 have hfl : f.l.length = dg f := rfl
 have hFs := hF.fac hf0 h9
 have hFl := hF.facs.few hf0
 have hdl := degT_len (fun j hj => (hFs j hj).2.2.2)
 refine fnt_of (cxt_ok [] [0, 1, 4, 5, 7, 10, 11, 12, 13, 1000000]) Tryz.func34 rfl (by decide) Tryz.ntmps34 (Nat.le_of_ble_eq_true rfl) (fun base => ?_) (Nat.le_of_ble_eq_true rfl)
 refine W.sw (c' := cx [0, 1, 4, 5, 7, 10, 11, 12, 13, 1000000]) ?_
 refine wrs fun K hK => ?_
 conv => whnf
 refine hK _ ?_
 clear hK K
 refine wrs fun K hK => ?_
 conv => whnf
 refine hK _ ?_
 clear hK K
 refine W.seqK fun K1 hK1 => ?_
 refine wrs fun K hK => ?_
 conv => whnf
 refine callP rfl (factorsBy_fn p _ g f (Nat.le_refl _) (by omega) hf0) ?_
 rintro lo hi hi' z hl1 hl2 hl3 ⟨F', hF', rfl⟩ _
 obtain rfl := hF.unique hF'
 try dsimp only at hl1 hl2
 conv => whnf
 refine hK _ (W.block (W.invA (fun m e => ∃ (k b : Nat) (o : List Int), k ≤ F.length ∧ o = degT F k ∧ m = F.length - k ∧ e = [(vt, .tab fun _ => none), (5, .ownI 2 b o), (10, .v (vFs F)), (11, .v (.int .i64 F.length)), (12, .v (.int .i64 k))]) ⟨0, 0, [], Nat.zero_le _, rfl, rfl, rfl⟩ ?_))
 clear hK K
 rintro m e ⟨k, b, o, hk, rfl, hm, rfl⟩
 refine wrs fun K hK => ?_
 conv => whnf
 refine hK _ ?_
 clear hK K
 refine W.seqK fun K7 hK7 => W.cond ⟨fun h3 => ?_, fun h3 => ?_⟩ <;> (first | replace h3 := of_decide_eq_true h3 | replace h3 := of_decide_eq_false h3)
 ·obtain ⟨hx1, hx2, hx3, hx4⟩ := hFs k (by omega)
  have hol := hdl k (by omega)
  have hxl : (F.getD k (0, 0)).1.l.length = dg (F.getD k (0, 0)).1 := rfl
  refine W.skip (hK7 _ ?_)
  clear hK7 K7
  refine W.seqK fun K8 hK8 => W.block ?_
  refine wrs fun K hK => ?_
  conv => whnf
  refine ⟨oo, ?_⟩
  conv => whnf
  rw [Int.toNat_natCast]
  intro b_2 hs_2 hh_2 hf_2
  try dsimp only at hh_2 hf_2
  conv => whnf
  refine ⟨s23, ?_⟩
  conv => whnf
  refine hK _ ?_
  clear hK K
  refine W.drawS 8 (cx_ok _) follows (by rfl) ?_
  conv => whnf
  refine ⟨_, cxF (degree_fn none _ (by omega)), ?_⟩
  conv => whnf
  refine ⟨⟨rfl, by decide⟩, ?_⟩
  conv => whnf
  refine ⟨_, cxF (repeat_fn none _ _ hx3 (by omega)), ?_⟩
  conv => whnf
  refine ⟨by rw [List.length_replicate]; omega, ?_⟩
  conv => whnf
  intro b_6 hs_6 hh_6 hf_6
  try dsimp only at hh_6 hf_6
  conv => whnf
  refine hK8 _ ?_
  clear hK8 K8
  refine wrg ?_
  conv => whnf
  refine ⟨oo, ?_⟩
  conv => whnf
  exact againA ⟨k + 1, b_6, _, by omega, rfl, rfl, rfl⟩
 ·obtain rfl : k = F.length := by omega
  refine W.exit (hK1 _ ?_)
  clear hK7 K7 hK1 K1
  refine W.sw (c' := cxt [] [0, 1, 4, 5, 7, 10, 11, 12, 13, 1000000]) ?_
  refine W.rs (cxt_ok _ _) (by rfl) fun K hK => ?_
  conv => whnf
  refine hK _ ?_
  clear hK K
  refine W.ret ?_
  conv => whnf
  exact ⟨.v (.rf b (degT F F.length).length), rfl, trivial, b, rfl, fun h => tbAdd_self _ _ h⟩
theorem degreesOf_fn (p : Int) [SP p] (g : Option Nat) (f : Poly p) (F : List (Poly p × Nat)) (hF : FacOf f F) (hf0 : f ≠ 0) (h9 : dg f ≤ 13) : FnV 34 [.int .i64 p, .ints g f.l] (.ints none (degT F F.length)) :=
 (degreesOf_T p g f F hF hf0 h9).toV fun _ _ _ _ ⟨_, hx, hb⟩ => by subst hx; exact ⟨degT F F.length, rfl, hb, rfl⟩

theorem l09Degrees_fn (p : Int) [SP p] (g : Option Nat) (f : Poly p) (F : List (Poly p × Nat)) (hF : FacOf f F) (hf0 : f ≠ 0) (h9 : dg f ≤ 13) : FnV 44 [.int .i64 p, .ints g f.l] (.ints none (degT F F.length)) := by
 have hfl : f.l.length = dg f := rfl
 have hFs := hF.fac hf0 h9
 have hFl := hF.facs.few hf0
 have hdl := degT_len (fun j hj => (hFs j hj).2.2.2)
 refine fn_of (cx_ok [0, 1, 4, 5, 6, 7, 8, 16, 25]) Tryz.func44 rfl (by decide) Tryz.ntmps44 (Nat.le_of_ble_eq_true rfl) fun base => ?_
 refine wrs fun K hK => ?_
 conv => whnf
 refine hK _ ?_
 clear hK K
 refine wrs fun K hK => ?_
 conv => whnf
 refine ⟨⟨rfl, by decide⟩, ?_⟩
 conv => whnf
 intro b_1 hs_1 hh_1 hf_1
 try dsimp only at hh_1 hf_1
 conv => whnf
 refine hK _ ?_
 clear hK K
 refine wrs fun K hK => ?_
 conv => whnf
 refine callP rfl (l09All_fn p g f (by omega) hf0) ?_
 rintro lo hi hi' z hl1 hl2 hl3 ⟨F', hF', rfl⟩ _
 obtain rfl := hF.unique hF'
 try dsimp only at hl1 hl2
 conv => whnf
 refine hK _ ?_
 clear hK K
 refine W.seqK fun K1 hK1 => ?_
 refine wrs fun K hK => ?_
 conv => whnf
 refine hK _ (W.block (W.invA (fun m e => ∃ (k b : Nat) (o : List Int), k ≤ F.length ∧ o = degT F k ∧ m = F.length - k ∧ e = [(5, .ownI 2 b o), (6, .v (vFs F)), (7, .v (.int .i64 k))]) ⟨0, b_1, [], Nat.zero_le _, rfl, rfl, rfl⟩ ?_))
 clear hK K
 rintro m e ⟨k, b, o, hk, rfl, hm, rfl⟩
 refine W.seqK fun K7 hK7 => wrs fun K hK => ?_
 conv => whnf
 refine hK _ (W.cond ⟨fun h3 => ?_, fun h3 => ?_⟩) <;> clear hK K <;> (first | replace h3 := of_decide_eq_true h3 | replace h3 := of_decide_eq_false h3)
 ·obtain ⟨hx1, hx2, hx3, hx4⟩ := hFs k (by omega)
  have hol := hdl k (by omega)
  have hxl : (F.getD k (0, 0)).1.l.length = dg (F.getD k (0, 0)).1 := rfl
  refine W.skip (hK7 _ ?_)
  clear hK7 K7
  refine W.seqK fun K8 hK8 => W.block ?_
  refine wrs fun K hK => ?_
  conv => whnf
  refine hK _ (W.block (W.invE (fun m e => ∃ (j b : Nat) (o : List Int), j ≤ (F.getD k (0, 0)).2 ∧ o = degT F k ++ List.replicate j (((F.getD k (0, 0)).1.l.length : Int) - 1) ∧ m = (F.getD k (0, 0)).2 - j ∧ e = [(5, .ownI 2 b o), (6, .v (vFs F)), (7, .v (.int .i64 k)), (8, .v (.int .i64 j))]) _ _ ⟨0, b, degT F k, Nat.zero_le _, by simp, rfl, rfl⟩ (by dsimp only; omega) (by repeat' first | refine And.intro ?_ ?_ | exact trivial | rfl | omega | exact fun _ _ => rfl) ?_))
  clear hK K b
  rintro m' e ⟨j, b, o, hj, rfl, hm', rfl⟩
  refine W.seqK fun K7 hK7 => ?_
  refine wrs fun K hK => ?_
  conv => whnf
  refine ⟨oo, ?_⟩
  conv => whnf
  rw [Int.toNat_natCast]
  refine hK _ (W.cond ⟨fun h => ?_, fun h => ?_⟩) <;> clear hK K
  ·have h : (j : Int) < ((F.getD k (0, 0)).2 : Nat) := of_decide_eq_true h
   refine W.skip (hK7 _ ?_)
   clear hK7 K7
   refine W.seqK fun K6 hK6 => W.block ?_
   refine wrg ?_
   conv => whnf
   refine ⟨oo, ?_⟩
   conv => whnf
   rw [Int.toNat_natCast]
   refine ⟨oo, ?_⟩
   conv => whnf
   refine ⟨⟨rfl, by decide⟩, ?_⟩
   conv => whnf
   intro b_2 hs_2 hh_2 hf_2
   try dsimp only at hh_2 hf_2
   conv => whnf
   refine ⟨by simp; omega, ?_⟩
   conv => whnf
   intro b_3 hs_3 hh_3 hf_3
   try dsimp only at hh_3 hf_3
   conv => whnf
   refine hK6 _ ?_
   clear hK6 K6
   refine wrg ?_
   conv => whnf
   refine ⟨oo, ?_⟩
   conv => whnf
   exact againA ⟨j + 1, b_3, _, by omega, by rw [← repl_snoc, ← List.append_assoc], rfl, rfl⟩
  ·have h : ¬ (j : Int) < ((F.getD k (0, 0)).2 : Nat) := of_decide_eq_false h
   obtain rfl : j = (F.getD k (0, 0)).2 := by omega
   refine W.exit (hK8 _ ?_)
   clear hK7 K7 hK8 K8
   refine wrg ?_
   conv => whnf
   refine ⟨oo, ?_⟩
   conv => whnf
   exact againA ⟨k + 1, b, _, by omega, rfl, rfl, rfl⟩
 ·obtain rfl : k = F.length := by omega
  refine W.exit (hK1 _ ?_)
  clear hK7 K7 hK1 K1
  refine wrs fun K hK => ?_
  conv => whnf
  refine hK _ ?_
  clear hK K
  refine W.ret ?_
  conv => whnf
  exact ⟨.v (.ints none (degT F F.length)), ⟨rfl, rfl⟩, trivial, rfl⟩

open Go Go.RowKit Go.Proofs Go.Lib

section
variable {P : Program}
theorem run_copy_cellsN (w : World) (dT sT ty elem : TypeId) (sz b o dLen dCap : Nat) (a : Addr) (sLen sCap : Nat) (cs : List Value)
  (hu : P.underlying dT = some (.slice elem)) (hs : (P.info? elem).map (·.size) = some sz) (hn : cs.length = Nat.min sLen dLen * sz)
  (hsrc : ∀ j v, cs[j]? = some v → w.cell? (a.add j) = some v) (hc : ∀ j, j < cs.length → (w.cell? ⟨b, o + j, none⟩).isSome = true) (hf : ∀ j, j < cs.length → w.frozen? ⟨b, o + j, none⟩ = false) (h1 : ∀ v ∈ cs, v.oneCell' = true) :
  (Builtin.copy_ #[dT, sT] ty #[.slice (some ⟨b, o, none⟩) dLen dCap, .slice (some a) sLen sCap]).run P w = .ok (goInt (Nat.min sLen dLen)) (w.setCells b o cs) := by
 have hl := run_loadCells_list (P := P) w a cs hsrc
 have hst := run_storeCells_cells (P := P) b o cs 0 w (by simpa using hc) (by simpa using hf) h1
 cases hq : P.info? elem with
 | none => simp [hq] at hs
 | some i =>
  have hi : i.size = sz := by simpa [hq] using hs
  simp [Builtin.copy_, run_underlying hu, Builtin.lenOf, Builtin.firstCells, sizeOf, typeInfo, hq, hi, ← hn, hl, hst]

theorem run_overlaps_own (w : World) (tS tR e : TypeId) (ht : P.underlying tS = some (.slice e)) (size : Nat) (hz : ∀ w, (Go.sizeOf e).run P w = .ok size w)
  (a b : Addr) (la ca lb cb : Nat) (hne : a.block ≠ b.block) (tA tB : TypeId) (kA kB : Nat)
  (hsa : w.shape? a.block = some (tA, kA)) (hsb : w.shape? b.block = some (tB, kB)) (hkA : kA ≠ 0)
  (hfb : w.frozen? b = false) (hfe : w.frozen? { block := b.block, off := kB } = false) :
  (Extern.SlicesOverlaps.overlaps #[tS, tS] #[tR] #[.slice (some a) la ca, .slice (some b) lb cb]).run P w = .ok (.bool false) w := by
 have hnb : (a.block != b.block) = true := by simpa using hne
 have hnb' : (a.block == b.block) = false := by simpa using hne
 change Sem.run P (α := Value) (do
  let some t := (#[tS, tS] : Array TypeId)[0]? | stuck "slices.overlaps: no parameter types"
  let .slice elem ← underlying t | stuck "slices.overlaps: slice type expected"
  let size ← sizeOf elem
  match (some a : Option Addr), (some b : Option Addr) with
  | some a, some b =>
   if la = 0 ∨ lb = 0 ∨ size = 0 then pure (Value.bool false)
   else if a.block != b.block && (← frozen a) && (← frozen b) then unsupported .addressObserved
   else do
    if a.block != b.block then do
     noView a; noView b
     if ← mayBeOne a b then return Value.bool ((← choose (.extern "sameAddr.stringBytes" 2)) == 1)
    pure (Value.bool (a.block == b.block && a.off < b.off + lb * size && b.off < a.off + la * size))
  | _, _ => pure (Value.bool false)) w = _
 by_cases h0 : la = 0 ∨ lb = 0 ∨ size = 0
 ·simp [run_underlying ht, hz, h0]
 ·cases kA with
  | zero => exact absurd rfl hkA
  | succ kA =>
   cases hfa : w.frozen? a <;> simp [run_underlying ht, hz, h0, hnb, hnb', frozen, noView, viewAt, mayBeOne, stringish, shape, Sem.run, hsa, hsb, hfa, hfb, hfe]
   all_goals (cases hfk : w.frozen? { block := a.block, off := kA + 1 } <;> simp [hfk])
end

set_option maxHeartbeats 4000000 in
set_option maxRecDepth 100000 in
theorem ins_shift (b n c i vb voff vc : Nat) (cs vs : List Value) (w : World) (hi : i < n) (hroom : n + 1 ≤ c) (hc63 : c ≤ 9223372036854775807) (hvb : vb ≠ b)
  (hcl : cs.length = n * 3) (hvl : vs.length = 3)
  (hcs : ∀ j v, cs[j]? = some v → w.cell? ⟨b, j, none⟩ = some v) (hsp : ∀ j, j < (n + 1) * 3 → (w.cell? ⟨b, j, none⟩).isSome = true) (hfz : ∀ j, w.frozen? ⟨b, j, none⟩ = false)
  (hvs : ∀ j v, vs[j]? = some v → w.cell? ⟨vb, voff + j, none⟩ = some v) (h1c : ∀ v ∈ cs, v.oneCell' = true) (h1v : ∀ v ∈ vs, v.oneCell' = true)
  (tA tB : TypeId) (kA kB : Nat) (hsa : w.shape? vb = some (tA, kA)) (hsb : w.shape? b = some (tB, kB)) (hkA : kA ≠ 0) :
  Calls Tryz.prog 38 #[.slice (some ⟨b, 0, none⟩) n c, .int .i64 i, .slice (some ⟨vb, voff, none⟩) 1 vc] w fun e w' =>
   e = .returned (.slice (some ⟨b, 0, none⟩) (n + 1) c) ∧ w' = (w.drew.setCells b ((i + 1) * 3) (cs.drop (i * 3))).setCells b (i * 3) vs := by
 have hT : Tryz.prog.underlying 30 = some (.slice 40) := Tryz.underlying30
 have hsz : (Tryz.prog.info? 40).map (·.size) = some 3 := by kernel_rfl
 have hz1 : ¬ ((1 : Int) = 0) := by omega
 have hz2 : ¬ ((i : Int) = (n : Int)) := by omega
 have hszr : ∀ w, (Go.sizeOf 40).run Tryz.prog w = .ok 3 w := fun w => by
  cases hq : Tryz.prog.info? 40 with
  | none => simp [hq] at hsz
  | some i0 =>
   have hi0 : i0.size = 3 := by simpa [hq] using hsz
   simp [Go.sizeOf, typeInfo, hq, hi0]
 have hov : ∀ lb cb, (callFunc 61 #[.slice (some ⟨vb, voff, none⟩) 1 vc, .slice (some ⟨b, (i + 1) * 3, none⟩) lb cb]).run Tryz.prog w = .ok (.value (.bool false)) w := fun lb cb => by
  rw [run_callFunc_extern (e := Extern.SlicesOverlaps.overlaps #[30, 30] #[4]) Tryz.func61 (by kernel_rfl) (by kernel_rfl) (by kernel_rfl) (by kernel_rfl),
   run_overlaps_own w _ _ _ hT 3 hszr ⟨vb, voff, none⟩ ⟨b, (i + 1) * 3, none⟩ 1 vc lb cb hvb tA tB kA kB hsa hsb hkA (hfz _) (hfz _)]
  rfl
 have hdl : (cs.drop (i * 3)).length = (n - i) * 3 := by rw [List.length_drop, hcl]; omega
 have mixed : Tryz.prog.follows .mixedOrders = true := by kernel_rfl
 have hw1 : IntKind.i64.wrap ((i : Int) + 1) = (i : Int) + 1 := by rw [IntKind.wrap_i64]; omega
 have hb1 : (0 : Int) ≤ (i : Int) + 1 := by omega
 have hin : i ≤ n := by omega
 have htn : ((i : Int) + 1).toNat = i + 1 := by omega
 have hb2 : ¬ (c = i + 1) := by omega
 have hb3 : (i : Int) ≤ (n : Int) + 1 := by omega
 have hb4 : ¬ (c = i) := by omega
 have hcp1 : ∀ ty dc sc, (Builtin.copy_ #[30, 30] ty #[.slice (some ⟨b, (i + 1) * 3, none⟩) (n + 1 - (i + 1)) dc, .slice (some ⟨b, i * 3, none⟩) (n + 1 - i) sc]).run Tryz.prog w.drew = .ok (goInt (Nat.min (n + 1 - i) (n + 1 - (i + 1)))) (w.drew.setCells b ((i + 1) * 3) (cs.drop (i * 3))) := fun ty dc sc =>
  run_copy_cellsN w.drew _ _ ty 40 3 b ((i + 1) * 3) (n + 1 - (i + 1)) dc ⟨b, i * 3, none⟩ (n + 1 - i) sc (cs.drop (i * 3)) hT hsz (by rw [hdl]; simp only [Nat.min_def]; split <;> omega)
   (fun j v hj => by rw [Addr.add_lit]; exact hcs (i * 3 + j) v (by rwa [List.getElem?_drop] at hj))
   (fun j hj => hsp _ (by omega)) (fun j hj => hfz _) (fun v hv => h1c v (List.mem_of_mem_drop hv))
 obtain ⟨W1, hW1⟩ : ∃ W1, W1 = w.drew.setCells b ((i + 1) * 3) (cs.drop (i * 3)) := ⟨_, rfl⟩
 have hsp1 : ∀ k, k < (n + 1) * 3 → (W1.cell? ⟨b, k, none⟩).isSome = true := fun k hk => by
  rw [hW1]
  exact isSome_setCells b (cs.drop (i * 3)) ((i + 1) * 3) w.drew (fun j hj => hsp _ (by omega)) _ (hsp k hk)
 have hcp2 : ∀ (W : World), (∀ x, W.cell? x = W1.cell? x) → (∀ x, W.frozen? x = W1.frozen? x) → ∀ ty dc, (Builtin.copy_ #[30, 30] ty #[.slice (some ⟨b, i * 3, none⟩) (n + 1 - i) dc, .slice (some ⟨vb, voff, none⟩) 1 vc]).run Tryz.prog W = .ok (goInt (Nat.min 1 (n + 1 - i))) (W.setCells b (i * 3) vs) := fun W hWc hWf ty dc =>
  run_copy_cellsN W _ _ ty 40 3 b (i * 3) (n + 1 - i) dc ⟨vb, voff, none⟩ 1 vc vs hT hsz (by rw [hvl]; simp only [Nat.min_def]; split <;> omega)
   (fun j v hj => by
    rw [Addr.add_lit, hWc, hW1, World.cell?_setCells_out b _ _ _ _ (fun h _ => absurd h hvb)]
    exact hvs j v hj)
   (fun j hj => by rw [hWc]; exact hsp1 _ (by omega)) (fun j hj => by rw [hWf, hW1, World.frozen?_setCells]; exact hfz _) h1v
 rw [← hW1] at hcp1
 go_enter Tryz.func38, Tryz.ntmps38
 go_wp2_with (simp only [hov])
 go_region_law_o (refine step_copy_runI rfl _ _ 30 30 rfl (.slice (some ⟨b, (i + 1) * 3, none⟩) (n + 1 - (i + 1)) (c - (i + 1))) (.slice (some ⟨b, i * 3, none⟩) (n + 1 - i) (c - i)) (by simp [Act.eval, Act.put]) (by simp [Act.eval, Act.put]) (hcp1 3 (c - (i + 1)) (c - i)) ?_)
 go_wp2_with (at_builtin; refine wpList_copy_runI _ rfl _ _ 30 30 rfl _ _ rfl rfl (hcp2 _ (fun _ => rfl) (fun _ => rfl) _ _) ?_)
 go_ret
 first | exact ⟨rfl, rfl⟩ | exact ⟨rfl, by rw [hW1]⟩

abbrev zSp : Value := .agg #[.int .i64 0, .int .i64 0, .int .i64 0]

set_option maxHeartbeats 4000000 in
set_option maxRecDepth 100000 in
theorem ins_grow (b n c i vb voff vc : Nat) (cs vs : List Value) (w : World) (hi : i < n) (hnc : n ≤ c) (hroom : c < n + 1) (hbig : n ≤ 1000000000)
  (hcl : cs.length = n * 3) (hvl : vs.length = 3)
  (hcs : ∀ j v, cs[j]? = some v → w.cell? ⟨b, j, none⟩ = some v)
  (hvs : ∀ j v, vs[j]? = some v → w.cell? ⟨vb, voff + j, none⟩ = some v) (h1c : ∀ v ∈ cs, v.oneCell' = true) (h1v : ∀ v ∈ vs, v.oneCell' = true) :
  Calls Tryz.prog 38 #[.slice (some ⟨b, 0, none⟩) n c, .int .i64 i, .slice (some ⟨vb, voff, none⟩) 1 vc] w fun e w' =>
   e = .returned (.slice (some ⟨w.heap.size, 0, none⟩) (n + 1) (grownCap w (n + 1) c 40)) ∧
   w' = (((w.alloc (.cells ((cs.take (i * 3)).toArray ++ Builtin.zeroCells zSp.cells (n + 1 - i) ++ Builtin.zeroCells zSp.cells (grownCap w (n + 1) c 40 - (n + 1))) 40)).drew.setCells w.heap.size (i * 3) vs).drew).setCells w.heap.size ((i + 1) * 3) (cs.drop (i * 3)) := by
 have hT : Tryz.prog.underlying 30 = some (.slice 40) := Tryz.underlying30
 have hTi : Tryz.prog.underlying 3 = some (.int .i64) := Tryz.underlying3
 have i9 : (Tryz.prog.info? 40).map (fun i => (i.zero, i.size, i.bytes)) = some (some zSp, 3, 24) := by kernel_rfl
 have mixed : Tryz.prog.follows .mixedOrders = true := by kernel_rfl
 obtain ⟨i0, hi0, hz0, hzs, hzb⟩ := info_parts i9
 have hz1 : ¬ ((1 : Int) = 0) := by omega
 have hz2 : ¬ ((i : Int) = (n : Int)) := by omega
 have hz3 : (c : Int) < (n : Int) + 1 := by omega
 have hsz : (Tryz.prog.info? 40).map (·.size) = some 3 := by rw [hi0]; simp [hzs]
 have hbw : b < w.heap.size := block_lt_of_cell (hcs 0 _ (List.getElem?_eq_getElem (by omega)))
 have hvw : vb < w.heap.size := block_lt_of_cell (hvs 0 _ (List.getElem?_eq_getElem (by omega)))
 have hkk : (n : Int) + 1 - (i : Int) = ((n + 1 - i : Nat) : Int) := by omega
 have hik : i + (n + 1 - i) = n + 1 := by omega
 have htl : (cs.take (i * 3)).length = i * 3 := by rw [List.length_take, hcl]; omega
 have hold : (Builtin.firstCells i0.size i (.slice (some ⟨b, 0, none⟩) i c)).run Tryz.prog w.drew = .ok (cs.take (i * 3)).toArray w.drew := by
  rw [hzs]
  exact run_firstCells_some w.drew 3 i ⟨b, 0, none⟩ i c (cs.take (i * 3)) htl (fun j v hj => by
   rw [Addr.add_lit, Nat.zero_add]
   rw [List.getElem?_take] at hj
   split at hj
   ·exact hcs j v hj
   ·cases hj)
 have hrz : ∀ ty, (Builtin.append_ #[30, 3] ty #[.slice (some ⟨b, 0, none⟩) i c, .int .i64 ((n : Int) + 1 - (i : Int))]).run Tryz.prog w =
   .ok (.slice (some ⟨w.heap.size, 0, none⟩) (n + 1) (grownCap w (n + 1) c 40)) (w.drew.alloc (.cells ((cs.take (i * 3)).toArray ++ Builtin.zeroCells zSp.cells (n + 1 - i) ++ Builtin.zeroCells zSp.cells (grownCap w (n + 1) c 40 - (n + 1))) 40)) := fun ty => by
  have h := Lib.run_append_grow_zeros w 30 3 ty 40 i0 _ .i64 .i64 hT hTi hi0 hz0 (some ⟨b, 0, none⟩) i c (cs.take (i * 3)) hold (n + 1 - i) (by omega) (by omega) (by omega) (by omega) (by rw [hzb]; omega) (by rw [hzb, hik]; exact growslice_fits hroom (by omega))
  rw [hik] at h
  rw [hkk]
  exact h
 obtain ⟨G, hG⟩ : ∃ G, G = grownCap w (n + 1) c 40 := ⟨_, rfl⟩
 obtain ⟨ROW, hROW⟩ : ∃ ROW : Array Value, ROW = (cs.take (i * 3)).toArray ++ Builtin.zeroCells zSp.cells (n + 1 - i) ++ Builtin.zeroCells zSp.cells (G - (n + 1)) := ⟨_, rfl⟩
 rw [← hG] at hrz ⊢
 rw [← hROW] at hrz ⊢
 have hRl : (n + 1) * 3 ≤ ROW.size := by
  rw [hROW]
  simp [Builtin.zeroCells, Value.cells, htl]
  omega
 obtain ⟨W1, hW1⟩ : ∃ W1, W1 = w.drew.alloc (.cells ROW 40) := ⟨_, rfl⟩
 rw [← hW1] at hrz
 have hN : ∀ j, j < (n + 1) * 3 → (W1.cell? ⟨w.heap.size, j, none⟩).isSome = true := fun j hj => by
  rw [hW1, World.cell?_alloc_at (w := w.drew) ROW _ w.heap.size j rfl, Array.getElem?_eq_getElem (by omega)]; rfl
 have hNf : ∀ j, W1.frozen? ⟨w.heap.size, j, none⟩ = false := fun j => by rw [hW1]; exact World.frozen?_alloc_at (w := w.drew) ROW _ w.heap.size j rfl
 have hOb : ∀ j v, w.cell? ⟨b, j, none⟩ = some v → W1.cell? ⟨b, j, none⟩ = some v := fun j v h => by rw [hW1, World.cell?_alloc_past (w := w.drew) _ b j hbw]; exact h
 have hOv : ∀ j v, w.cell? ⟨vb, j, none⟩ = some v → W1.cell? ⟨vb, j, none⟩ = some v := fun j v h => by rw [hW1, World.cell?_alloc_past (w := w.drew) _ vb j hvw]; exact h
 have hcpA : ∀ (W : World), (∀ x, W.cell? x = W1.cell? x) → (∀ x, W.frozen? x = W1.frozen? x) → ∀ ty dc, (Builtin.copy_ #[30, 30] ty #[.slice (some ⟨w.heap.size, i * 3, none⟩) (n + 1 - i) dc, .slice (some ⟨vb, voff, none⟩) 1 vc]).run Tryz.prog W = .ok (goInt (Nat.min 1 (n + 1 - i))) (W.setCells w.heap.size (i * 3) vs) := fun W hWc hWf ty dc =>
  run_copy_cellsN W _ _ ty 40 3 w.heap.size (i * 3) (n + 1 - i) dc ⟨vb, voff, none⟩ 1 vc vs hT hsz (by rw [hvl]; simp only [Nat.min_def]; split <;> omega)
   (fun j v hj => by rw [Addr.add_lit, hWc]; exact hOv _ v (hvs j v hj))
   (fun j hj => by rw [hWc]; exact hN _ (by omega)) (fun j hj => by rw [hWf]; exact hNf _) h1v
 have hGn : n + 1 ≤ G := by rw [hG]; exact grownCap_ge w _ _ _
 have hG63 : G ≤ 9223372036854775807 := by
  have := grownCap_le_maxLen w (n + 1) c 40 (by unfold maxLen; omega)
  rw [← hG] at this
  unfold maxLen at this
  omega
 have hGi : ¬ (G = i) := by omega
 have hGim : ¬ (G = i + 1) := by omega
 have hci : ¬ (c = i) := by omega
 have hbN : b ≠ w.heap.size := by omega
 have hdl : (cs.drop (i * 3)).length = (n - i) * 3 := by rw [List.length_drop, hcl]; omega
 have hcpB : ∀ (W : World), (∀ x, W.cell? x = (W1.setCells w.heap.size (i * 3) vs).cell? x) → (∀ x, W.frozen? x = (W1.setCells w.heap.size (i * 3) vs).frozen? x) → ∀ ty dc sc, (Builtin.copy_ #[30, 30] ty #[.slice (some ⟨w.heap.size, (i + 1) * 3, none⟩) (n + 1 - (i + 1)) dc, .slice (some ⟨b, i * 3, none⟩) (n - i) sc]).run Tryz.prog W = .ok (goInt (Nat.min (n - i) (n + 1 - (i + 1)))) (W.setCells w.heap.size ((i + 1) * 3) (cs.drop (i * 3))) := fun W hWc hWf ty dc sc =>
  run_copy_cellsN W _ _ ty 40 3 w.heap.size ((i + 1) * 3) (n + 1 - (i + 1)) dc ⟨b, i * 3, none⟩ (n - i) sc (cs.drop (i * 3)) hT hsz (by rw [hdl]; simp only [Nat.min_def]; split <;> omega)
   (fun j v hj => by
    rw [Addr.add_lit, hWc, World.cell?_setCells_out _ _ _ _ _ (fun h _ => absurd h hbN)]
    exact hOb _ v (hcs (i * 3 + j) v (by rwa [List.getElem?_drop] at hj)))
   (fun j hj => by rw [hWc]; exact isSome_setCells _ vs (i * 3) _ (fun t ht => hN _ (by omega)) _ (hN _ (by omega)))
   (fun j hj => by rw [hWf, World.frozen?_setCells]; exact hNf _) (fun v hv => h1c v (List.mem_of_mem_drop hv))
 subst hW1
 have hE1 : ∀ x, ((w.alloc (.cells ROW 40)).drew).cell? x = (w.drew.alloc (.cells ROW 40)).cell? x := fun x => rfl
 have hE2 : ∀ x, ((w.alloc (.cells ROW 40)).drew).frozen? x = (w.drew.alloc (.cells ROW 40)).frozen? x := fun x => rfl
 have hF1 : ∀ x, (((w.alloc (.cells ROW 40)).drew.setCells w.heap.size (i * 3) vs).drew).cell? x = ((w.drew.alloc (.cells ROW 40)).setCells w.heap.size (i * 3) vs).cell? x := fun x => rfl
 have hF2 : ∀ x, (((w.alloc (.cells ROW 40)).drew.setCells w.heap.size (i * 3) vs).drew).frozen? x = ((w.drew.alloc (.cells ROW 40)).setCells w.heap.size (i * 3) vs).frozen? x := fun x => rfl
 have hw1 : IntKind.i64.wrap ((i : Int) + 1) = (i : Int) + 1 := by rw [IntKind.wrap_i64]; omega
 have hb1 : (0 : Int) ≤ (i : Int) + 1 := by omega
 have hin : i ≤ n := by omega
 have htn : ((i : Int) + 1).toNat = i + 1 := by omega
 have hb3 : (i : Int) ≤ (n : Int) := by omega
 clear hkk hik hold hROW hG hRl
 go_enter Tryz.func38, Tryz.ntmps38
 go_wp2_with (first
  | (at_builtin; refine Lib.wpList_append_run _ rfl _ _ _ _ rfl _ _ rfl rfl _ _ (hrz _) ?_)
  | (at_builtin; refine wpList_copy_runI _ rfl _ _ 30 30 rfl _ _ rfl rfl (hcpA _ hE1 hE2 _ _) ?_)
  | (at_builtin; refine wpList_copy_runI _ rfl _ _ 30 30 rfl _ _ rfl rfl (hcpB _ (fun _ => rfl) (fun _ => rfl) _ _ _) ?_))
 go_region_law_o (refine step_copy_runI rfl _ _ 30 30 rfl (.slice (some ⟨w.heap.size, (i + 1) * 3, none⟩) (n + 1 - (i + 1)) (G - (i + 1))) (.slice (some ⟨b, i * 3, none⟩) (n - i) (c - i)) (by simp [Act.eval, Act.put]) (by simp [Act.eval, Act.put]) (hcpB _ hF1 hF2 3 (G - (i + 1)) (c - i)) ?_)
 go_wp2
 go_ret
 exact ⟨rfl, rfl⟩

open Go Go.RowKit Go.Proofs Go.Lib
set_option maxRecDepth 100000
set_option maxHeartbeats 8000000

theorem frozen_own {w : World} {b : Nat} {cur : Array Value} {el : TypeId} (h : w.heap[b]? = some (.cells cur el (0, 0))) (j : Nat) : w.frozen? ⟨b, j, none⟩ = false := by
 simp [World.frozen?, h]

theorem setCells_row {w : World} {b o : Nat} {cur : Array Value} {el : TypeId} {vs : List Value} (P : Program) (h : w.heap[b]? = some (.cells cur el (0, 0))) (hl : o + vs.length ≤ cur.size) (h1 : ∀ v ∈ vs, v.oneCell' = true) :
  w.setCells b o vs = w.setRow b (cur.toList.take o ++ vs ++ cur.toList.drop (o + vs.length)).toArray := by
 have hc : ∀ j, j < vs.length → (w.cell? ⟨b, o + j, none⟩).isSome = true := fun j hj => by
  rw [cell_at h (c := cur[o + j]'(by omega)) (Array.getElem?_eq_getElem (by omega))]; rfl
 have h2 := run_storeCells_cells (P := P) b o vs 0 w (by simpa using hc) (fun j _ => frozen_own h _) h1
 have h3 := run_storeCells_at P b o el vs 0 cur w h (by omega) h1
 rw [h2] at h3
 simp only [Nat.add_zero] at h3
 injection h3

theorem ins_calls {w : World} {v sv : Value} {b n i : Nat} {olds news : List Value} (hi : i ≤ n) (hn : n ≤ 1000000) (hO : OwnS w.heap 40 3 b n v olds) (h1o : ∀ u ∈ olds, u.oneCell' = true)
  {vb voff vc : Nat} (hsv : sv = .slice (some ⟨vb, voff, none⟩) 1 vc) (hvl : news.length = 3) (hvs : ∀ j u, news[j]? = some u → w.cell? ⟨vb, voff + j, none⟩ = some u) (h1v : ∀ u ∈ news, u.oneCell' = true) (hvb : ∀ c, v = .slice (some ⟨b, 0, none⟩) n (c + 1) → vb ≠ b)
  {tA : TypeId} {kA : Nat} (hsa : w.shape? vb = some (tA, kA)) (hkA : kA ≠ 0) :
  Calls Tryz.prog 38 #[v, .int .i64 i, sv] w fun e w' => ∃ v', e = .returned v' ∧ w.heap.size ≤ w'.heap.size ∧
   AppRes w w' 40 3 b n 1 v v' (olds.take (i * 3) ++ news ++ olds.drop (i * 3)) := by
 subst hsv
 have hol : olds.length = n * 3 := hO.1
 by_cases hin : i = n
 ·subst hin
  have ht1 : olds.take (i * 3) = olds := List.take_of_length_le (by omega)
  have ht2 : olds.drop (i * 3) = [] := List.drop_of_length_le (by omega)
  rw [ht1, ht2, List.append_nil]
  obtain ⟨v', w', hrun, hge, hres⟩ := append_cases (P := Tryz.prog) (w := w) (t := 30) (ty := 30) (tj := tiStruct [(0, 2), (1, 2), (2, 2)] 24 [.int .i64 0, .int .i64 0, .int .i64 0])
   (okTI_slice (by kernel_rfl) Tryz.underlying30) rfl (okTI_struct (by kernel_rfl) Tryz.underlying40 rfl (by kernel_rfl) (by decide) (by decide) rfl) (b := b) (n := i) (m := 1) (v := v) (sv := .slice (some ⟨vb, voff, none⟩) 1 vc) (olds := olds) (news := news) hO
   ⟨by rw [hvl]; rfl, _, _, rfl, fun _ => ⟨vb, voff, rfl, hvs⟩⟩ h1v (by omega)
  have mixed : Tryz.prog.follows .mixedOrders = true := by kernel_rfl
  have hz1 : ¬ ((1 : Int) = 0) := by omega
  have endR : ∀ Z : Value → World → Prop, Z v' w' → Calls Tryz.prog 38 #[v, .int .i64 i, .slice (some ⟨vb, voff, none⟩) 1 vc] w fun e w2 => ∃ v2, e = .returned v2 ∧ Z v2 w2 := by
   clear hres
   intro Z hZ
   rcases hO.2 with ⟨ad, rfl, hn0⟩ | ⟨cap, cur, rfl, hh, hle, hmx, hcs, htk⟩
   ·subst hn0
    cases ad with
    | none =>
     go_enter Tryz.func38, Tryz.ntmps38
     go_wp2_with (at_builtin; refine Lib.wpList_append_run _ rfl _ _ _ _ rfl _ _ rfl rfl _ _ hrun ?_)
     go_ret
     exact ⟨_, rfl, hZ⟩
    | some ad =>
     obtain ⟨ab, ao, asp⟩ := ad
     go_enter Tryz.func38, Tryz.ntmps38
     go_wp2_with (at_builtin; refine Lib.wpList_append_run _ rfl _ _ _ _ rfl _ _ rfl rfl _ _ hrun ?_)
     all_goals (go_ret; exact ⟨_, rfl, hZ⟩)
   ·have hm63 : cap + 1 ≤ 9223372036854775807 := by unfold maxLen at hmx; omega
    go_enter Tryz.func38, Tryz.ntmps38
    go_wp2_with (at_builtin; refine Lib.wpList_append_run _ rfl _ _ _ _ rfl _ _ rfl rfl _ _ hrun ?_)
    all_goals (go_ret; exact ⟨_, rfl, hZ⟩)
  exact endR (fun v2 w2 => w.heap.size ≤ w2.heap.size ∧ AppRes w w2 40 3 b i 1 v v2 (olds ++ news)) ⟨hge, hres⟩
 ·have hlt : i < n := by omega
  rcases hO.2 with ⟨ad, rfl, hn0⟩ | ⟨cap, cur, rfl, hh, hle, hmx, hcs, htk⟩
  ·omega
  have hm63 : cap + 1 ≤ 9223372036854775807 := by unfold maxLen at hmx; omega
  have hcells : ∀ j u, olds[j]? = some u → w.cell? ⟨b, j, none⟩ = some u := fun j u hj => by
   have hjl : j < n * 3 := by
    rw [← hol]
    rcases Nat.lt_or_ge j olds.length with h | h
    ·exact h
    ·rw [List.getElem?_eq_none h] at hj; cases hj
   exact cell_at hh (by rw [← Array.getElem?_toList, take_get htk hjl]; exact hj)
  have hdl : (olds.drop (i * 3)).length = (n - i) * 3 := by rw [List.length_drop, hol]; omega
  have htl : (olds.take (i * 3)).length = i * 3 := by rw [List.length_take, hol]; omega
  have h1d : ∀ u ∈ olds.drop (i * 3), u.oneCell' = true := fun u hu => h1o u (List.mem_of_mem_drop hu)
  have hall : (olds.take (i * 3) ++ news ++ olds.drop (i * 3)).length = (n + 1) * 3 := by rw [List.length_append, List.length_append, htl, hvl, hdl]; omega
  by_cases hroom : n + 1 ≤ cap + 1
  ·refine (ins_shift b n (cap + 1) i vb voff vc olds news w hlt hroom hm63 (hvb cap rfl) hol hvl hcells (fun j hj => ?_) (fun j => frozen_own hh j) hvs h1o h1v tA _ kA _ hsa (by unfold World.shape?; rw [hh]) hkA).mono ?_
   ·rw [cell_at hh (c := cur[j]'(by omega)) (Array.getElem?_eq_getElem (by omega))]; rfl
   ·rintro e w' ⟨rfl, rfl⟩
    have hhd : w.drew.heap[b]? = some (.cells cur 40 (0, 0)) := hh
    have hsz1 : (i + 1) * 3 + (olds.drop (i * 3)).length ≤ cur.size := by rw [hdl, hcs]; omega
    rw [setCells_row Tryz.prog hhd hsz1 h1d]
    generalize hr1 : (cur.toList.take ((i + 1) * 3) ++ olds.drop (i * 3) ++ cur.toList.drop ((i + 1) * 3 + (olds.drop (i * 3)).length)).toArray = r1
    have hr1s : r1.size = cur.size := by rw [← hr1]; simp; omega
    have hh1 := setRow_heap w.drew b cur r1 _ _ hhd
    have hsz2 : i * 3 + news.length ≤ r1.size := by rw [hvl, hr1s, hcs]; omega
    rw [setCells_row Tryz.prog hh1 hsz2 h1v, setRow_setRow]
    generalize hr2 : (r1.toList.take (i * 3) ++ news ++ r1.toList.drop (i * 3 + news.length)).toArray = r2
    have hr2s : r2.size = cur.size := by rw [← hr2, ← hr1s]; simp; omega
    refine ⟨_, rfl, by simp, .inl ⟨⟨rfl, rfl, rfl, by simp, fun k _ hk => setRow_other w.drew b k _ (fun e => hk (by rw [e]))⟩, by simp, ⟨hall, .inr ⟨cap, r2, rfl, setRow_heap w.drew b cur r2 _ _ hhd, hroom, hmx, by rw [hr2s, hcs], ?_⟩⟩, .inl ⟨cap, rfl, rfl⟩⟩⟩
    refine List.ext_getElem? fun k => ?_
    rw [List.getElem?_take]
    split
    ·rename_i hk
     rw [← hr2, List.toList_toArray, splice_get (by rw [Array.length_toList]; exact hsz2), hvl]
     rcases Nat.lt_or_ge k (i * 3) with h3 | h3
     ·rw [if_neg (by omega), ← hr1, List.toList_toArray, splice_get (by rw [Array.length_toList]; exact hsz1), if_neg (by omega), take_get htk (by omega), List.append_assoc, List.getElem?_append_left (by omega), List.getElem?_take_of_lt h3]
     ·rcases Nat.lt_or_ge k (i * 3 + 3) with h4 | h4
      ·rw [if_pos ⟨h3, h4⟩, List.append_assoc, List.getElem?_append_right (by omega), htl, List.getElem?_append_left (by omega)]
      ·rw [if_neg (by omega), ← hr1, List.toList_toArray, splice_get (by rw [Array.length_toList]; exact hsz1), if_pos ⟨by omega, by rw [hdl]; omega⟩, List.getElem?_append_right (by rw [List.length_append]; omega), List.length_append, htl, hvl, show (i + 1) * 3 = i * 3 + 3 by omega]
    ·rename_i hk
     rw [List.getElem?_eq_none (by omega)]
  ·refine (ins_grow b n (cap + 1) i vb voff vc olds news w hlt hle (by omega) (by omega) hol hvl hcells hvs h1o h1v).mono ?_
   rintro e w' ⟨rfl, rfl⟩
   have hge := grownCap_ge w (n + 1) (cap + 1) 40
   have hcm : grownCap w (n + 1) (cap + 1) 40 ≤ maxLen := grownCap_le_maxLen w (n + 1) (cap + 1) 40 (by simp [maxLen]; omega)
   generalize grownCap w (n + 1) (cap + 1) 40 = G at hge hcm ⊢
   obtain ⟨c, rfl⟩ : ∃ c, G = c + 1 := ⟨G - 1, by omega⟩
   generalize hrow : (olds.take (i * 3)).toArray ++ Builtin.zeroCells zSp.cells (n + 1 - i) ++ Builtin.zeroCells zSp.cells (c + 1 - (n + 1)) = row
   have hrs : row.size = (c + 1) * 3 := by rw [← hrow]; simp [Builtin.zeroCells, Value.cells, htl]; omega
   have hrt : ∀ k, k < i * 3 → row.toList[k]? = olds[k]? := fun k hk => by
    rw [← hrow, Array.toList_append, Array.toList_append, List.append_assoc, List.getElem?_append_left (by simpa [htl] using hk)]
    simp [List.getElem?_take_of_lt hk]
   have hhd : ((w.alloc (.cells row 40)).drew).heap[w.heap.size]? = some (.cells row 40 (0, 0)) := heap_alloc_new w _
   have hsz1 : i * 3 + news.length ≤ row.size := by rw [hvl, hrs]; omega
   rw [setCells_row Tryz.prog hhd hsz1 h1v]
   generalize hr1 : (row.toList.take (i * 3) ++ news ++ row.toList.drop (i * 3 + news.length)).toArray = r1
   have hr1s : r1.size = row.size := by rw [← hr1]; simp; omega
   have hh1 : (((w.alloc (.cells row 40)).drew.setRow w.heap.size r1).drew).heap[w.heap.size]? = some (.cells r1 40 (0, 0)) := setRow_heap ((w.alloc (.cells row 40)).drew) w.heap.size row r1 _ _ hhd
   have hsz2 : (i + 1) * 3 + (olds.drop (i * 3)).length ≤ r1.size := by rw [hdl, hr1s, hrs]; omega
   rw [setCells_row Tryz.prog hh1 hsz2 h1d]
   generalize hr2 : (r1.toList.take ((i + 1) * 3) ++ olds.drop (i * 3) ++ r1.toList.drop ((i + 1) * 3 + (olds.drop (i * 3)).length)).toArray = r2
   have hr2s : r2.size = row.size := by rw [← hr2, ← hr1s]; simp; omega
   refine ⟨_, rfl, by simp, .inr ⟨⟨rfl, rfl, rfl, by simp, fun k hk _ => ?_⟩, by simp, ⟨hall, .inr ⟨c, r2, rfl, setRow_heap _ w.heap.size r1 r2 _ _ hh1, hge, hcm, by rw [hr2s, hrs], ?_⟩⟩, by omega⟩⟩
   ·have hkn : k ≠ w.heap.size := by omega
    rw [setRow_other _ _ _ _ hkn]
    show ((w.alloc _).drew.setRow w.heap.size r1).heap[k]? = _
    rw [setRow_other _ _ _ _ hkn]
    exact Below.heap_alloc w _ k hk
   ·refine List.ext_getElem? fun k => ?_
    rw [List.getElem?_take]
    split
    ·rename_i hk
     rw [← hr2, List.toList_toArray, splice_get (by rw [Array.length_toList]; exact hsz2), hdl]
     rcases Nat.lt_or_ge k (i * 3 + 3) with h3 | h3
     ·rw [if_neg (by omega), ← hr1, List.toList_toArray, splice_get (by rw [Array.length_toList]; exact hsz1), hvl]
      rcases Nat.lt_or_ge k (i * 3) with h4 | h4
      ·rw [if_neg (by omega), hrt k h4, List.append_assoc, List.getElem?_append_left (by omega), List.getElem?_take_of_lt h4]
      ·rw [if_pos ⟨h4, h3⟩, List.append_assoc, List.getElem?_append_right (by omega), htl, List.getElem?_append_left (by omega)]
     ·rw [if_pos ⟨by omega, by omega⟩, List.getElem?_append_right (by rw [List.length_append]; omega), List.length_append, htl, hvl, show (i + 1) * 3 = i * 3 + 3 by omega]
    ·rename_i hk
     rw [List.getElem?_eq_none (by omega)]

open Go Go.RowKit Go.Proofs

def insF (f : Nat → V) (i : Nat) (x : V) (j : Nat) : V := if j < i then f j else if j = i then x else f (j - 1)

theorem RepE.ins {ok : OkB} {h : Array Obj} {n i : Nat} {f g : Nat → V} {olds news : List Value} (hol : olds.length = n * 3) (hnl : news.length = 3) (hi : i ≤ n) (hf : RepE ok h 3 n f olds) (hg : RepE ok h 3 1 g news) :
  RepE ok h 3 (n + 1) (insF f i (g 0)) (olds.take (i * 3) ++ news ++ olds.drop (i * 3)) := by
 have htl : (olds.take (i * 3)).length = i * 3 := by rw [List.length_take, hol]; omega
 refine ⟨fun j hj => ?_, fun j jj hj hjj => ?_⟩
 ·unfold insF
  split
  ·exact hf.1 j (by omega)
  split
  ·exact hg.1 0 (by omega)
  ·exact hf.1 (j - 1) (by omega)
 ·unfold insF
  split
  ·rename_i h1
   obtain ⟨c, h2, h3⟩ := hf.2 j jj (by omega) hjj
   exact ⟨c, by rw [List.append_assoc, List.getElem?_append_left (by omega), List.getElem?_take_of_lt (by omega)]; exact h2, h3⟩
  split
  ·rename_i h0 h1
   subst h1
   obtain ⟨c, h2, h3⟩ := hg.2 0 jj (by omega) hjj
   refine ⟨c, ?_, h3⟩
   rw [List.append_assoc, List.getElem?_append_right (by omega), htl, List.getElem?_append_left (by omega), show j * 3 + jj - j * 3 = 0 * 3 + jj by omega]
   exact h2
  ·rename_i h0 h1
   obtain ⟨c, h2, h3⟩ := hf.2 (j - 1) jj (by omega) hjj
   refine ⟨c, ?_, h3⟩
   rw [List.getElem?_append_right (by rw [List.length_append]; omega), List.length_append, htl, hnl, List.getElem?_drop, show i * 3 + (j * 3 + jj - (i * 3 + 3)) = (j - 1) * 3 + jj by omega]
   exact h2

theorem leK_dead' {x : AV} : leK x .dead := by cases x <;> trivial
theorem rep_block {ok : OkB} {h : Array Obj} {g : Option Nat} {sz n : Nat} {f : Nat → V} {v : Value} (r : Rep ok h (.vals g sz n f) v) (hn : 0 < n) (hs : 0 < sz) :
  ∃ b o cap cur e fr, v = .slice (some ⟨b, o, none⟩) n cap ∧ ok g b ∧ h[b]? = some (.cells cur e fr) ∧ cur.size ≠ 0 := by
 cases r with
 | vals g sz n f a cap hc hm hl hf c hx hr =>
  obtain ⟨b, o, cur, e, fr, rfl, h1, h2, h3⟩ := hx 0 0 hn hs
  refine ⟨b, o, cap, cur, e, fr, rfl, h1, h2, fun h0 => ?_⟩
  have := (Array.getElem?_eq_some_iff.1 h3).1
  omega

theorem RepE.one {ok : OkB} {h : Array Obj} {n : Nat} {f : Nat → V} {cells : List Value} (hl : cells.length = n * 3) (r : RepE ok h 3 n f cells) : ∀ u ∈ cells, u.oneCell' = true := fun u hu => by
 obtain ⟨k, hk, rfl⟩ := List.mem_iff_getElem.1 hu
 obtain ⟨c, h1, h2⟩ := r.2 (k / 3) (k % 3) (by omega) (by omega)
 rw [show k / 3 * 3 + k % 3 = k by omega, List.getElem?_eq_getElem hk] at h1
 cases h1
 obtain ⟨h3, h4⟩ := r.1 (k / 3) (by omega)
 exact h2.oneCell (cellAt_isCell h4 (by rw [h3]; omega))

theorem insert_m (b n i : Nat) (f : Nat → V) (g : Option Nat) (h : Nat → V) (hi : i ≤ n) (hn : n ≤ 1000000) :
  MFn Tryz.prog 38 [.nil, .int .i64 i, .vals g 3 1 h] 0 (.ownV 40 3 b n f) .dead (fun _ av x' t' => t' = .dead ∧ x' = .dead ∧ ∃ b', av = .ownV 40 3 b' (n + 1) (insF f i (h 0))) := by
 refine ⟨⟨_, Tryz.func38, rfl, by decide⟩, fun D w0 hs w vs O U hsz hk r => ?_⟩
 obtain ⟨v, vi, sv, rfl⟩ : ∃ v vi sv, vs = #[v, vi, sv] := by
  refine ⟨vs.getD 0 undef, vs.getD 1 undef, vs.getD 2 undef, Array.ext (by simpa using hsz) fun k h1 h2 => ?_⟩
  have h3 : vs.size = 3 := hsz
  have h4 : k = 0 ∨ k = 1 ∨ k = 2 := by omega
  rcases h4 with rfl | rfl | rfl <;> simp [Array.getD_eq_getD_getElem?, Array.getElem?_eq_getElem h1]
 have hvk : (#[v, vi, sv] : Array Value).getD 0 undef = v := rfl
 rw [hvk] at r ⊢
 generalize hσ : mInit [.nil, .int .i64 i, .vals g 3 1 h] 0 (.ownV 40 3 b n f) .dead O U w.heap v = σ at r
 have σ0 : σ 0 = .ownV 40 3 b n f := by rw [← hσ]; rfl
 have σ1 : σ 1 = .v (.int .i64 i) := by rw [← hσ]; rfl
 have σ2 : σ 2 = .v (.vals g 3 1 h) := by rw [← hσ]; rfl
 have σ3 : σ 3 = .dead := by rw [← hσ]; rfl
 have σk : σ vk = .keep O U w.heap 0 v := by rw [← hσ]; rfl
 have s0 := r.slots 0
 have s1 := r.slots 1
 have s2 := r.slots 2
 rw [σ0] at s0
 rw [σ1] at s1
 rw [σ2] at s2
 have s1 : Rep _ w.heap (.int .i64 i) vi := s1
 have s2 : Rep _ w.heap (.vals g 3 1 h) sv := s2
 obtain ⟨_, olds, hO, hE⟩ := s0
 have hO : OwnS w.heap 40 3 b n v olds := hO
 have hvi : vi = .int .i64 i := by cases s1; rfl
 subst hvi
 obtain ⟨vb, vo, vc, cur, ve, fr, rfl, hok, hhb, hcs⟩ := rep_block s2 (by decide) (by decide)
 obtain ⟨news, ⟨hnl, ad, cap, hsv, hsrc⟩, hN, h1n⟩ := rep_srcV (w := w) (by decide) s2
 obtain ⟨vb', vo', hadd, hcells⟩ := hsrc (by decide)
 rw [hadd] at hsv
 simp only [Value.slice.injEq, Option.some.injEq, Addr.mk.injEq, and_true, true_and] at hsv
 obtain ⟨⟨rfl, rfl⟩, rfl⟩ := hsv
 have hrb0 : ∀ c, v = .slice (some ⟨b, 0, none⟩) n (c + 1) → rb (σ 0) v b := fun c hc => by rw [σ0, hc]; exact (rb_slice (n := n) (sz := 3) rfl _ _ _ _).2 rfl
 refine (ins_calls hi hn hO (hE.one hO.1) rfl (by simpa using hnl) hcells h1n (fun c hc he => ?_) (tA := ve) (kA := cur.size) (by unfold World.shape?; rw [hhb]) hcs).mono ?_
 ·subst he
  exact hok.2.1 ⟨0, hrb0 c hc⟩
 rintro e w' ⟨v', rfl, hge, hres⟩
 have r3 : R D w0 4 σ hs { tmps := (#[v, .int .i64 i, .slice (some ⟨vb, vo, none⟩) 1 vc] : Array Value).push undef, defers := [] } w := by
  have hT : (fun k => ((#[v, .int .i64 i, .slice (some ⟨vb, vo, none⟩) 1 vc] : Array Value).push undef).getD k undef) = fun k => (#[v, .int .i64 i, .slice (some ⟨vb, vo, none⟩) 1 vc] : Array Value).getD k undef := by
   funext k
   rw [push_getD]
   split
   ·rename_i hk; subst hk; rfl
   ·rfl
  have hTk := fun k => congrFun hT k
  refine ⟨rfl, rfl, r.hs1, r.hs2, r.below, fun k hk => ?_, fun k => ?_, fun k c hc => ?_, fun k k' c hc hc' => ?_, r.old⟩
  ·rcases r.dom k hk with h | h
   ·have : (#[v, .int .i64 i, .slice (some ⟨vb, vo, none⟩) 1 vc] : Array Value).size = 3 := rfl
    omega
   ·exact .inr h
  ·show AVR (okF D (owns σ (fun k => ((#[v, .int .i64 i, .slice (some ⟨vb, vo, none⟩) 1 vc] : Array Value).push undef).getD k undef)) w.heap.size) w.heap σ (fun k => ((#[v, .int .i64 i, .slice (some ⟨vb, vo, none⟩) 1 vc] : Array Value).push undef).getD k undef) (σ k) (((#[v, .int .i64 i, .slice (some ⟨vb, vo, none⟩) 1 vc] : Array Value).push undef).getD k undef)
   rw [hT, hTk k]
   exact r.slots k
  ·exact r.real k c (by rw [← hTk k]; exact hc)
  ·exact r.dist k k' c (by rw [← hTk k]; exact hc) (by rw [← hTk k']; exact hc')
 have hm : ∀ {mod : Option Nat}, w.grownBy w' mod → (∀ bb, mod = some bb → rb (σ 0) v bb) → ∀ g bb, okF D (owns σ (tv { tmps := (#[v, .int .i64 i, .slice (some ⟨vb, vo, none⟩) 1 vc] : Array Value).push undef, defers := [] })) w.heap.size g bb →
   okF D (owns σ (tv { tmps := (#[v, .int .i64 i, .slice (some ⟨vb, vo, none⟩) 1 vc] : Array Value).push undef, defers := [] })) w.heap.size g bb ∧ w'.heap[bb]? = w.heap[bb]? :=
  fun hg hmod => okF_grown hg fun bb hbb => ⟨0, hmod bb hbb⟩
 have hE3 := r3.slots 0
 rw [σ0] at hE3
 obtain ⟨_, olds', hO', hE3⟩ := hE3
 have hN3 := r3.slots 2
 rw [σ2] at hN3
 have fin : ∀ (b' : Nat) (mod : Option Nat), w.grownBy w' mod → (∀ bb, mod = some bb → rb (σ 0) v bb) → OwnS w'.heap 40 3 b' (n + 1) v' (olds.take (i * 3) ++ news ++ olds.drop (i * 3)) →
   (∀ bb, rb (.ownV 40 3 b' (n + 1) (insF f i (h 0))) v' bb → rb (σ 0) v bb ∨ (w.heap.size ≤ bb ∧ bb < w'.heap.size)) →
   ∃ v_1 av x' t' hs', Ending.returned v' = .returned v_1 ∧ hs ≤ hs' ∧ (t' = .dead ∧ x' = .dead ∧ ∃ b', av = .ownV 40 3 b' (n + 1) (insF f i (h 0))) ∧ okAfter (.ownV 40 3 b n f) x' ∧ t'.tabOk = true ∧ av.isRes = true ∧ (x' ≠ .dead → av.fresh hs hs') ∧
    R D w0 ((#[v, .int .i64 i, .slice (some ⟨vb, vo, none⟩) 1 vc] : Array Value).size + 1) (mFin (#[v, .int .i64 i, .slice (some ⟨vb, vo, none⟩) 1 vc] : Array Value).size 0 av x' t' O U w.heap v) hs' { tmps := (#[v, .int .i64 i, .slice (some ⟨vb, vo, none⟩) 1 vc] : Array Value).push v_1, defers := [] } w' := by
  intro b' mod hg hmod hOS hown
  refine ⟨v', _, .dead, .dead, hs, rfl, Nat.le_refl _, ⟨rfl, rfl, b', rfl⟩, .inl rfl, rfl, rfl, fun hh => absurd rfl hh, ?_⟩
  have r4 := r3.setOwn (hs' := hs) mod hg (Nat.le_trans r.hs2 hge) r.hs1 (d := 3) (s := 0) (by decide) (x := .ownV 40 3 b' (n + 1) (insF f i (h 0))) (v := v') hmod hown (fun _ => rfl)
   ⟨by decide, _, hOS, RepE.mono (RepE.ins hO.1 (by simpa using hnl) hi hE hN) fun g bb hbb => ⟨okF_less (fun c ⟨k, hk⟩ => ⟨k, by
    have hT : ((#[v, .int .i64 i, .slice (some ⟨vb, vo, none⟩) 1 vc] : Array Value).push undef).getD k undef = (#[v, .int .i64 i, .slice (some ⟨vb, vo, none⟩) 1 vc] : Array Value).getD k undef := by
     rw [push_getD]
     split
     ·rename_i hk; subst hk; rfl
     ·rfl
    show rb (σ k) ((#[v, .int .i64 i, .slice (some ⟨vb, vo, none⟩) 1 vc] : Array Value).getD k undef) c
    rw [← hT]; exact hk⟩) hbb, hg.block bb hbb.1 (fun e => hbb.2.1 ⟨0, hmod bb e.symm⟩)⟩⟩
  have e1 : ({ tmps := (#[v, .int .i64 i, .slice (some ⟨vb, vo, none⟩) 1 vc] : Array Value).push undef, defers := [] } : Act).put (some 3) v' = { tmps := (#[v, .int .i64 i, .slice (some ⟨vb, vo, none⟩) 1 vc] : Array Value).push v', defers := [] } := rfl
  rw [e1] at r4
  refine r4.leAll fun j => ?_
  unfold mFin
  split
  ·rename_i hj
   subst hj
   have e2 : upd (killed (upd σ 0 .dead) 3) 3 (.ownV 40 3 b' (n + 1) (insF f i (h 0))) vk = .keep O U w.heap 0 v := by
    simp [upd, killed, σk, AV.touches, vk]
    rfl
   rw [e2]
   exact ⟨rfl, rfl, rfl, rfl, rfl⟩
  split
  ·exact leK_dead'
  split
  ·exact leK_dead'
  split
  ·rename_i hj
   have hj : j = 3 := hj
   subst hj
   have e2 : upd (killed (upd σ 0 .dead) 3) 3 (.ownV 40 3 b' (n + 1) (insF f i (h 0))) 3 = .ownV 40 3 b' (n + 1) (insF f i (h 0)) := by simp [upd]
   rw [e2]
   exact ⟨rfl, rfl, rfl, rfl, fun _ _ => rfl⟩
  ·exact leK_dead'
 rcases hres with ⟨hg, hsz', hOS, ⟨c, hv, hv'⟩ | ⟨rfl, rfl⟩⟩ | ⟨hg, hsz', hOS, hpos⟩
 ·exact fin b (some b) hg (fun bb hbb => by cases hbb; exact hrb0 c hv) hOS (fun bb hbb => .inl (by
   rw [hv'] at hbb
   have := (rb_slice (n := n + 1) (sz := 3) rfl bb _ _ _).1 hbb
   subst this; exact hrb0 c hv))
 ·exfalso
  rcases hOS.2 with ⟨a1, h1, h2⟩ | ⟨c1, cur1, h1, _⟩ <;> rcases hO.2 with ⟨a2, h3, h4⟩ | ⟨c2, cur2, h3, _⟩
  ·omega
  ·omega
  ·have h3 : v' = .slice a2 0 0 := h3
   rw [h3] at h1; simp at h1
  ·have h3 : v' = .slice (some ⟨b, 0, none⟩) n (c2 + 1) := h3
   rw [h3] at h1; simp at h1
 ·exact fin w.heap.size none hg (by simp) hOS (fun bb hbb => .inr (by
   obtain ⟨rfl, _⟩ := hOS.rbs (n' := n + 1) (sz' := 3) rfl bb hbb; omega))

open Go Go.RowKit Go.Proofs Poly Hull
set_option maxRecDepth 100000
set_option maxHeartbeats 8000000

theorem cmpOr_fn (g : Option Nat) (x y : Int) : FnV 59 [.ints g [x, y]] (.int .i64 (if x ≠ 0 then x else y)) := by
 refine fn_of (cx_ok [0, 2, 3, 5, 6, 7, 8, 9, 14]) Tryz.func59 rfl (by decide) Tryz.ntmps59 (Nat.le_of_ble_eq_true rfl) fun base => ?_
 refine wrs fun K hK => ?_
 conv => whnf
 refine hK _ ?_
 clear hK K
 refine wrs fun K hK => ?_
 conv => whnf
 refine hK _ ?_
 clear hK K
 refine W.seqK fun K1 hK1 => wrs fun K hK => ?_
 conv => whnf
 refine hK _ (W.block (W.invA (fun m e => ∃ k : Nat, k ≤ 2 ∧ (1 ≤ k → x = 0) ∧ (2 ≤ k → y = 0) ∧ m = 2 - k ∧ e = [(3, .v (.int .i64 0)), (6, .v (.ints g [x, y])), (7, .v (.int .i64 (2 : Nat))), (8, .v (.int .i64 k))]) ⟨0, by decide, fun h => absurd h (by decide), fun h => absurd h (by decide), rfl, rfl⟩ ?_))
 clear hK K
 rintro m e ⟨k, h1, h2, h3, hm, rfl⟩
 refine wrs fun K hK => ?_
 conv => whnf
 refine hK _ ?_
 clear hK K
 refine W.seqK fun K7 hK7 => W.cond ⟨fun h4 => ?_, fun h4 => ?_⟩ <;> (first | replace h4 := of_decide_eq_true h4 | replace h4 := of_decide_eq_false h4)
 ·have hk : k < 2 := by omega
  have hxy : [x, y].getD k 0 = if k = 0 then x else y := by
   have : k = 0 ∨ k = 1 := by omega
   rcases this with rfl | rfl <;> rfl
  refine W.skip (hK7 _ ?_)
  clear hK7 K7
  refine W.seqK fun K8 hK8 => W.block ?_
  refine wrs fun K hK => ?_
  conv => whnf
  refine ⟨⟨by omega, by show (k : Int) < 2; omega⟩, ?_⟩
  conv => whnf
  rw [Int.toNat_natCast]
  refine hK _ ?_
  clear hK K
  refine wrs fun K hK => ?_
  conv => whnf
  refine hK _ (W.cond ⟨fun h5 => ?_, fun h5 => ?_⟩) <;> clear hK K
  ·have h5 : [x, y].getD k 0 ≠ 0 := of_decide_eq_true h5
   rw [hxy] at h5
   refine wrs fun K hK => ?_
   conv => whnf
   refine hK _ ?_
   clear hK K
   have e9 : [x, y].getD k 0 = if x ≠ 0 then x else y := by
    rw [hxy]
    by_cases hk0 : k = 0
    ·rw [if_pos hk0] at h5 ⊢; rw [if_pos h5]
    ·rw [if_neg hk0, if_neg fun hx => hx (h2 (by omega))]
   refine W.ret ?_
   conv => whnf
   exact ⟨.v (.int .i64 (if x ≠ 0 then x else y)), ⟨rfl, e9⟩, trivial, rfl⟩
  ·have h5 : [x, y].getD k 0 = 0 := Classical.byContradiction fun h' => of_decide_eq_false h5 h'
   rw [hxy] at h5
   refine W.skip (hK8 _ ?_)
   clear hK8 K8
   refine wrg ?_
   conv => whnf
   refine ⟨oo, ?_⟩
   conv => whnf
   exact againA ⟨k + 1, by omega, fun _ => by by_cases hk0 : k = 0; (rw [if_pos hk0] at h5; exact h5); exact h2 (by omega), fun hh => by rw [if_neg (by omega)] at h5; exact h5, rfl, rfl⟩
 ·obtain rfl : k = 2 := by omega
  refine W.exit (hK1 _ ?_)
  clear hK7 K7 hK1 K1
  refine wrs fun K hK => ?_
  conv => whnf
  refine hK _ ?_
  clear hK K
  refine W.ret ?_
  conv => whnf
  exact ⟨.v (.int .i64 (if x ≠ 0 then x else y)), ⟨rfl, by rw [h2 (by omega), h3 (by omega)]; rfl⟩, trivial, rfl⟩

theorem cmp_or (a b : Spl.Sp) : (if cmpI a.1 b.1 ≠ 0 then cmpI a.1 b.1 else cmpI a.2.1 b.2.1) = Spl.cmp a b := by
 unfold cmpI Spl.cmp Spl.lt
 by_cases h1 : a.1 < b.1
 ·simp [h1]
 ·by_cases h2 : b.1 < a.1
  ·have : ¬ a.1 = b.1 := by omega
   simp [h1, h2, this]
  ·have : a.1 = b.1 := by omega
   simp [this]

theorem compareSp_fn (a b : Spl.Sp) : FnV 37 [vS a, vS b] (.int .i64 (Spl.cmp a b)) := by
 refine fn_of (cx_ok [0, 1, 2, 3, 4]) Tryz.func37 rfl (by decide) Tryz.ntmps37 (Nat.le_of_ble_eq_true rfl) fun base => ?_
 refine wrs fun K hK => ?_
 conv => whnf
 refine ⟨rfl, ?_⟩
 conv => whnf
 intro b_1 hs_1 hh_1 hf_1
 try dsimp only at hh_1 hf_1
 conv => whnf
 refine ⟨rfl, ?_⟩
 conv => whnf
 intro b_2 hs_2 hh_2 hf_2
 try dsimp only at hh_2 hf_2
 conv => whnf
 refine hK _ ?_
 clear hK K
 refine W.rd (cx_ok _) follows (by rfl) fun K hK => ?_
 conv => whnf
 refine ⟨_, cxF (compareInt64_fn a.1 b.1), ?_⟩
 conv => whnf
 refine ⟨_, cxF (compareInt64_fn a.2.1 b.2.1), ?_⟩
 conv => whnf
 refine ⟨⟨rfl, by decide⟩, ?_⟩
 conv => whnf
 refine ⟨_, cxF (cmpOr_fn _ (cmpI a.1 b.1) (cmpI a.2.1 b.2.1)), ?_⟩
 conv => whnf
 rw [cmp_or]
 refine hK _ ?_
 clear hK K
 refine W.ret ?_
 conv => whnf
 exact ⟨.v (.int .i64 (Spl.cmp a b)), ⟨rfl, rfl⟩, trivial, rfl⟩

theorem before_fn (a b : Spl.Sp) : FnV 73 [vS a, vS b] (.bool (decide (Spl.lt a b))) := by
 refine fn_of (cx_ok [0, 1, 2, 3, 4]) Tryz.func73 rfl (by decide) Tryz.ntmps73 (Nat.le_of_ble_eq_true rfl) fun base => ?_
 refine wrs fun K hK => ?_
 conv => whnf
 refine ⟨rfl, ?_⟩
 conv => whnf
 intro b_1 hs_1 hh_1 hf_1
 try dsimp only at hh_1 hf_1
 conv => whnf
 refine ⟨rfl, ?_⟩
 conv => whnf
 intro b_2 hs_2 hh_2 hf_2
 try dsimp only at hh_2 hf_2
 conv => whnf
 refine hK _ ?_
 clear hK K
 refine wrs fun K hK => ?_
 conv => whnf
 refine ⟨fun h1 => ?_, fun h1 => ?_⟩ <;> conv => whnf
 ·have h1 : a.1 < b.1 := of_decide_eq_true h1
  refine hK _ ?_
  clear hK K
  refine W.ret ?_
  conv => whnf
  exact ⟨.v (.bool (decide (Spl.lt a b))), decide_eq_true (.inl h1), trivial, rfl⟩
 ·have h1 : ¬ a.1 < b.1 := of_decide_eq_false h1
  refine ⟨fun h2 => ?_, fun h2 => ?_⟩ <;> conv => whnf
  ·have h2 : a.1 = b.1 := of_decide_eq_true h2
   refine hK _ ?_
   clear hK K
   refine W.ret ?_
   conv => whnf
   exact ⟨.v (.bool (decide (Spl.lt a b))), decide_eq_decide.2 ⟨fun h3 => .inr ⟨h2, h3⟩, fun h3 => h3.elim (fun h4 => absurd h4 h1) fun h4 => h4.2⟩, trivial, rfl⟩
  ·have h2 : ¬ a.1 = b.1 := of_decide_eq_false h2
   refine hK _ ?_
   clear hK K
   refine W.ret ?_
   conv => whnf
   exact ⟨.v (.bool (decide (Spl.lt a b))), decide_eq_false fun h3 => h3.elim h1 fun h4 => h2 h4.1, trivial, rfl⟩

theorem bsearch_fn (g : Option Nat) (S : List Spl.Sp) (x : Spl.Sp) (hS : Spl.Srt S) (hl : S.length ≤ 1000000) :
  FnV 36 [.vals g 3 S.length fun j => vS (S.getD j (0, 0, 0)), vS x, .func 37 []] (.tup [.int .i64 (Spl.pos S x : Nat), .bool (bP (Spl.there S x (Spl.pos S x)))]) := by
 refine fn_of (cx_ok [0, 1, 2, 4, 6, 7, 8, 9, 10, 11, 17, 31]) Tryz.func36 rfl (by decide) Tryz.ntmps36 (Nat.le_of_ble_eq_true rfl) fun base => ?_
 refine wrs fun K hK => ?_
 conv => whnf
 refine ⟨rfl, ?_⟩
 conv => whnf
 intro b_4 hs_4 hh_4 hf_4
 try dsimp only at hh_4 hf_4
 conv => whnf
 refine hK _ ?_
 clear hK K
 refine wrs fun K hK => ?_
 conv => whnf
 refine hK _ ?_
 clear hK K
 refine wrs fun K hK => ?_
 conv => whnf
 refine hK _ ?_
 clear hK K
 refine W.seqK fun K1 hK1 => W.block (W.invA (fun m e => ∃ i j : Nat, i ≤ j ∧ j ≤ S.length ∧ (∀ k, k < i → Spl.lt (S.getD k Spl.z0) x) ∧ (∀ k, j ≤ k → k < S.length → ¬ Spl.lt (S.getD k Spl.z0) x) ∧ m = j - i ∧ e = [(0, .v (.vals g 3 S.length fun j => vS (S.getD j (0, 0, 0)))), (2, .v (.func 37 [])), (4, .ownB b_4 (vS x)), (8, .v (.int .i64 S.length)), (9, .v (.int .i64 i)), (10, .v (.int .i64 j))]) ⟨0, S.length, Nat.zero_le _, Nat.le_refl _, fun k hk => absurd hk (Nat.not_lt_zero k), fun k h1 h2 => absurd h1 (by omega), rfl, rfl⟩ ?_)
 rintro m e ⟨i, j, h1, h2, h3, h4, hm, rfl⟩
 refine W.seqK fun K7 hK7 => wrs fun K hK => ?_
 conv => whnf
 refine hK _ (W.cond ⟨fun h5 => ?_, fun h5 => ?_⟩) <;> clear hK K <;> (first | replace h5 := of_decide_eq_true h5 | replace h5 := of_decide_eq_false h5)
 ·have hij : i < j := by omega
  have e1 : ((i : Int) + (j : Int)) / 2 ^ Int.toNat 1 = (((i + j) / 2 : Nat) : Int) := by
   rw [show (2 : Int) ^ Int.toNat 1 = 2 from rfl]; omega
  refine W.skip (hK7 _ (W.block ?_))
  clear hK7 K7
  refine wrs fun K hK => ?_
  conv => whnf
  refine ⟨oo, ?_⟩
  conv => whnf
  refine ⟨⟨by omega, by constructor <;> omega⟩, ?_⟩
  conv => whnf
  refine ⟨⟨by omega, by decide, by decide⟩, ?_⟩
  conv => whnf
  rw [e1]
  refine ⟨⟨by omega, by constructor <;> omega⟩, ?_⟩
  conv => whnf
  refine hK _ ?_
  clear hK K
  generalize hh : (i + j) / 2 = h
  have hih : i ≤ h := by omega
  have hhj : h < j := by omega
  refine W.rd (cx_ok _) follows (by rfl) fun K hK => ?_
  conv => whnf
  refine ⟨oo, ?_⟩
  conv => whnf
  rw [Int.toNat_natCast]
  refine ⟨_, cxF (compareSp_fn (S.getD h (0, 0, 0)) x), ?_⟩
  conv => whnf
  refine hK _ (W.cond ⟨fun h6 => ?_, fun h6 => ?_⟩) <;> clear hK K
  ·have h6 := Spl.cmp_lt.1 (of_decide_eq_true h6)
   refine wrg ?_
   conv => whnf
   refine ⟨oo, ?_⟩
   conv => whnf
   exact againA ⟨h + 1, j, by omega, h2, fun k hk => by by_cases hkh : k = h; (subst hkh; exact h6); exact Spl.lt_trans (hS k h (by omega) (by omega)) h6, h4, rfl, rfl⟩
  ·have h6 : ¬ Spl.lt (S.getD h (0, 0, 0)) x := fun h' => of_decide_eq_false h6 (Spl.cmp_lt.2 h')
   refine wrg ?_
   conv => whnf
   exact againA ⟨i, h, hih, by omega, h3, fun k h7 h8 h9 => by by_cases hkh : k = h; (subst hkh; exact h6 h9); exact h6 (Spl.lt_trans (hS h k (by omega) h8) h9), rfl, rfl⟩
 ·obtain rfl : i = j := by omega
  have hp : Spl.pos S x = i := Spl.pos_eq ⟨h2, h3, fun hi => h4 i (Nat.le_refl _) hi⟩
  refine W.exit (hK1 _ ?_)
  clear hK7 K7 hK1 K1
  rcases Nat.lt_or_ge i S.length with hi | hi
  ·have hn := h4 i (Nat.le_refl _) hi
   refine W.rd (cx_ok _) follows (by rfl) fun K hK => ?_
   conv => whnf
   have e0 : decide ((i : Int) < (S.length : Int)) = true := decide_eq_true (by omega)
   rw [e0]
   conv => whnf
   refine ⟨oo, ?_⟩
   conv => whnf
   rw [Int.toNat_natCast]
   refine ⟨_, cxF (compareSp_fn (S.getD i (0, 0, 0)) x), ?_⟩
   conv => whnf
   refine hK _ ?_
   clear hK K
   have e9 : decide (Spl.cmp (S.getD i (0, 0, 0)) x = 0) = bP (Spl.there S x (Spl.pos S x)) := by
    rw [hp]
    by_cases hc : Spl.cmp (S.getD i (0, 0, 0)) x = 0
    ·rw [bP_true ⟨hi, (Spl.cmp_not hn).1 hc⟩]; exact decide_eq_true hc
    ·rw [bP_false fun h' => hc ((Spl.cmp_not hn).2 h'.2)]; exact decide_eq_false hc
   refine W.ret ?_
   conv => whnf
   exact ⟨.v (.int .i64 (Spl.pos S x : Nat)), ⟨rfl, by rw [hp]⟩, trivial, .v (.bool (bP (Spl.there S x (Spl.pos S x)))), e9, trivial, rfl⟩
  ·refine W.rd (cx_ok _) follows (by rfl) fun K hK => ?_
   conv => whnf
   have e0 : decide ((i : Int) < (S.length : Int)) = false := decide_eq_false (by omega)
   rw [e0]
   conv => whnf
   refine ⟨rfl, ?_⟩
   conv => whnf
   refine hK _ ?_
   clear hK K
   have e9 : bP (Spl.there S x (Spl.pos S x)) = false := by
    rw [hp]
    exact bP_false fun h' => absurd h'.1 (by omega)
   refine W.ret ?_
   conv => whnf
   exact ⟨.v (.int .i64 (Spl.pos S x : Nat)), ⟨rfl, by rw [hp]⟩, trivial, .v (.bool (bP (Spl.there S x (Spl.pos S x)))), e9.symm, trivial, rfl⟩

open Go Go.RowKit Go.Proofs Poly Hull
set_option maxRecDepth 100000
set_option maxHeartbeats 8000000

theorem l14Put_fn (g : Option Nat) (L : List Spl.Sp) (x : Spl.Sp) (c : Nat) (hS : Spl.Ok c L) (hc : c ≤ 100000) (hx : x.2.2 = 1) :
  FnV 45 [.vals g 3 L.length fun j => vS (L.getD j (0, 0, 0)), vS x] (vSs (Spl.put L x)) := by
 have hl := hS.few
 refine fn_of (cx_ok [0, 1, 3, 4, 5, 6, 18, 36]) Tryz.func45 rfl (by decide) Tryz.ntmps45 (Nat.le_of_ble_eq_true rfl) fun base => ?_
 refine wrs fun K hK => ?_
 conv => whnf
 refine ⟨rfl, ?_⟩
 conv => whnf
 intro b_3 hs_3 hh_3 hf_3
 try dsimp only at hh_3 hf_3
 conv => whnf
 refine hK _ ?_
 clear hK K
 refine wrs fun K hK => ?_
 conv => whnf
 refine hK _ ?_
 clear hK K
 refine W.seqK fun K1 hK1 => W.block (W.invA (fun m e => ∃ k : Nat, k ≤ L.length ∧ (∀ j, j < k → Spl.lt (L.getD j Spl.z0) x) ∧ m = L.length - k ∧ e = [(0, .v (.vals g 3 L.length fun j => vS (L.getD j (0, 0, 0)))), (3, .ownB b_3 (vS x)), (5, .v (.int .i64 k))]) ⟨0, Nat.zero_le _, fun j hj => absurd hj (Nat.not_lt_zero j), rfl, rfl⟩ ?_)
 rintro m e ⟨k, h1, h2, hm, rfl⟩
 have fin : ∀ s : S, base ≤ s.hs → (k < L.length → ¬ Spl.lt (L.getD k Spl.z0) x) → coverK s.env [(0, .v (.vals g 3 L.length fun j => vS (L.getD j (0, 0, 0)))), (3, .ownB b_3 (vS x)), (5, .v (.int .i64 k))] → K1 s := by
  intro s h5 h6 h7
  refine hK1 _ (W.weak (t := ⟨[(0, .v (.vals g 3 L.length fun j => vS (L.getD j (0, 0, 0)))), (3, .ownB b_3 (vS x)), (5, .v (.int .i64 k))], base⟩) ⟨h5, h7⟩ (Nat.le_refl _) ?_)
  clear hK1 K1 h5 h7
  have hp : Spl.pos L x = k := Spl.pos_eq ⟨h1, h2, h6⟩
  refine wrs fun K hK => ?_
  conv => whnf
  refine ⟨⟨rfl, by decide, fun x hx => by simp at hx⟩, ?_⟩
  conv => whnf
  intro b_6 hs_6 hh_6 hf_6
  try dsimp only at hh_6 hf_6
  conv => whnf
  refine ⟨by omega, ?_⟩
  conv => whnf
  refine ⟨fun j => vS (L.getD j (0, 0, 0)), fun i hi => absurd hi (by omega), fun j hj => by show vS _ = vS _; rw [Nat.zero_add], ?_⟩
  intro b_7 hs_7 hh_7 hf_7
  try dsimp only at hh_7 hf_7
  conv => whnf
  refine hK _ ?_
  clear hK K
  refine W.seqK fun K2 hK2 => ?_
  have tl : ¬ Spl.there L x k → ∀ s : S, base ≤ s.hs → coverK s.env [(0, .v (.vals g 3 L.length fun j => vS (L.getD j (0, 0, 0)))), (3, .ownB b_3 (vS x)), (5, .v (.int .i64 k))] → K2 s := by
   intro hn s h5 h7
   refine hK2 _ (W.weak (t := ⟨[(0, .v (.vals g 3 L.length fun j => vS (L.getD j (0, 0, 0)))), (3, .ownB b_3 (vS x)), (5, .v (.int .i64 k))], base⟩) ⟨h5, h7⟩ (Nat.le_refl _) ?_)
   clear hK2 K2 h5 h7
   have hput : Spl.put L x = L.take k ++ x :: L.drop k := by rw [Spl.put_not (by rw [hp]; exact hn), hp]
   have hpl : (Spl.put L x).length = L.length + 1 := by rw [hput]; exact Spl.ins_len h1
   have hg : ∀ j, (Spl.put L x).getD j Spl.z0 = if j < k then L.getD j Spl.z0 else if j = k then x else L.getD (j - 1) Spl.z0 := fun j => by rw [hput]; exact Spl.ins_getD h1
   refine W.seqK fun K9 hK9 => W.sch follows ?_
   refine wt 1 ?_
   conv => whnf
   refine wt 2 ?_
   conv => whnf
   refine wt 3 ?_
   conv => whnf
   refine ⟨⟨by omega, by omega, by omega⟩, ?_⟩
   conv => whnf
   refine wt 8 ?_
   conv => whnf
   refine wt 9 ?_
   conv => whnf
   refine wt 10 ?_
   conv => whnf
   refine ⟨⟨by omega, by omega, by omega⟩, ?_⟩
   conv => whnf
   refine w2 0 5 ?_ ?_ <;> conv => whnf
   ·refine ⟨⟨rfl, by decide, fun x hx => by simp at hx⟩, ?_⟩
    conv => whnf
    intro b_a hs_a hh_a hf_a
    try dsimp only at hh_a hf_a
    conv => whnf
    refine w2 4 5 ?_ ?_ <;> conv => whnf
    ·refine ⟨by omega, ?_⟩
     conv => whnf
     refine ⟨fun j => vS ((Spl.put L x).getD j Spl.z0), fun i hi => absurd hi (by omega), fun j hj => by show vS ((Spl.put L x).getD _ Spl.z0) = vS (L.getD _ Spl.z0); rw [hg, if_pos (by omega)]; congr 2 <;> omega, ?_⟩
     intro b_b hs_b hh_b hf_b
     try dsimp only at hh_b hf_b
     conv => whnf
     refine w1 5 ?_
     conv => whnf
     refine w1 6 ?_
     conv => whnf
     refine ⟨⟨rfl, by decide, fun y hy => by simp at hy; subst hy; exact ⟨rfl, rfl⟩⟩, ?_⟩
     conv => whnf
     intro b_c hs_c hh_c hf_c
     try dsimp only at hh_c hf_c
     conv => whnf
     refine w1 7 ?_
     conv => whnf
     refine ⟨by omega, ?_⟩
     conv => whnf
     refine ⟨fun j => vS ((Spl.put L x).getD j Spl.z0), fun i hi => rfl, fun j hj => by (obtain rfl : j = 0 := (by omega)); show vS ((Spl.put L x).getD _ Spl.z0) = vS x; rw [hg, if_neg (by omega), if_pos (by omega)], ?_⟩
     intro b_d hs_d hh_d hf_d
     try dsimp only at hh_d hf_d
     conv => whnf
     refine w1 11 ?_
     conv => whnf
     refine ⟨by omega, ?_⟩
     conv => whnf
     refine ⟨fun j => vS ((Spl.put L x).getD j Spl.z0), fun i hi => rfl, fun j hj => by show vS ((Spl.put L x).getD _ Spl.z0) = vS (L.getD _ Spl.z0); rw [hg, if_neg (by omega), if_neg (by omega)]; congr 2 <;> omega, ?_⟩
     intro b_e hs_e hh_e hf_e
     try dsimp only at hh_e hf_e
     conv => whnf
     refine w1 12 ?_
     conv => whnf
     refine wd1 (hK9 _ ?_)
     clear hK9 K9
     refine W.ret ?_
     conv => whnf
     exact ⟨.v (vSs (Spl.put L x)), ⟨.inl rfl, rfl, by rw [hpl]; omega, fun _ _ => rfl⟩, ⟨trivial, fun _ _ => ⟨trivial, trivial, trivial, trivial⟩⟩, rfl⟩
    ·refine w2 4 6 ?_ ?_ <;> conv => whnf
     ·refine ⟨by omega, ?_⟩
      conv => whnf
      refine ⟨fun j => vS ((Spl.put L x).getD j Spl.z0), fun i hi => absurd hi (by omega), fun j hj => by show vS ((Spl.put L x).getD _ Spl.z0) = vS (L.getD _ Spl.z0); rw [hg, if_pos (by omega)]; congr 2 <;> omega, ?_⟩
      intro b_b hs_b hh_b hf_b
      try dsimp only at hh_b hf_b
      conv => whnf
      refine w1 6 ?_
      conv => whnf
      refine ⟨⟨rfl, by decide, fun y hy => by simp at hy; subst hy; exact ⟨rfl, rfl⟩⟩, ?_⟩
      conv => whnf
      intro b_c hs_c hh_c hf_c
      try dsimp only at hh_c hf_c
      conv => whnf
      refine w1 7 ?_
      conv => whnf
      refine ⟨by omega, ?_⟩
      conv => whnf
      refine ⟨fun j => vS ((Spl.put L x).getD j Spl.z0), fun i hi => rfl, fun j hj => by (obtain rfl : j = 0 := (by omega)); show vS ((Spl.put L x).getD _ Spl.z0) = vS x; rw [hg, if_neg (by omega), if_pos (by omega)], ?_⟩
      intro b_d hs_d hh_d hf_d
      try dsimp only at hh_d hf_d
      conv => whnf
      refine w1 11 ?_
      conv => whnf
      refine ⟨by omega, ?_⟩
      conv => whnf
      refine ⟨fun j => vS ((Spl.put L x).getD j Spl.z0), fun i hi => rfl, fun j hj => by show vS ((Spl.put L x).getD _ Spl.z0) = vS (L.getD _ Spl.z0); rw [hg, if_neg (by omega), if_neg (by omega)]; congr 2 <;> omega, ?_⟩
      intro b_e hs_e hh_e hf_e
      try dsimp only at hh_e hf_e
      conv => whnf
      refine w1 12 ?_
      conv => whnf
      refine wd1 (hK9 _ ?_)
      clear hK9 K9
      refine W.ret ?_
      conv => whnf
      exact ⟨.v (vSs (Spl.put L x)), ⟨.inl rfl, rfl, by rw [hpl]; omega, fun _ _ => rfl⟩, ⟨trivial, fun _ _ => ⟨trivial, trivial, trivial, trivial⟩⟩, rfl⟩
     ·refine ⟨⟨rfl, by decide, fun y hy => by simp at hy; subst hy; exact ⟨rfl, rfl⟩⟩, ?_⟩
      conv => whnf
      intro b_c hs_c hh_c hf_c
      try dsimp only at hh_c hf_c
      conv => whnf
      refine w1 4 ?_
      conv => whnf
      refine ⟨by omega, ?_⟩
      conv => whnf
      refine ⟨fun j => vS ((Spl.put L x).getD j Spl.z0), fun i hi => absurd hi (by omega), fun j hj => by show vS ((Spl.put L x).getD _ Spl.z0) = vS (L.getD _ Spl.z0); rw [hg, if_pos (by omega)]; congr 2 <;> omega, ?_⟩
      intro b_b hs_b hh_b hf_b
      try dsimp only at hh_b hf_b
      conv => whnf
      refine w1 7 ?_
      conv => whnf
      refine ⟨by omega, ?_⟩
      conv => whnf
      refine ⟨fun j => vS ((Spl.put L x).getD j Spl.z0), fun i hi => rfl, fun j hj => by (obtain rfl : j = 0 := (by omega)); show vS ((Spl.put L x).getD _ Spl.z0) = vS x; rw [hg, if_neg (by omega), if_pos (by omega)], ?_⟩
      intro b_d hs_d hh_d hf_d
      try dsimp only at hh_d hf_d
      conv => whnf
      refine w1 11 ?_
      conv => whnf
      refine ⟨by omega, ?_⟩
      conv => whnf
      refine ⟨fun j => vS ((Spl.put L x).getD j Spl.z0), fun i hi => rfl, fun j hj => by show vS ((Spl.put L x).getD _ Spl.z0) = vS (L.getD _ Spl.z0); rw [hg, if_neg (by omega), if_neg (by omega)]; congr 2 <;> omega, ?_⟩
      intro b_e hs_e hh_e hf_e
      try dsimp only at hh_e hf_e
      conv => whnf
      refine w1 12 ?_
      conv => whnf
      refine wd1 (hK9 _ ?_)
      clear hK9 K9
      refine W.ret ?_
      conv => whnf
      exact ⟨.v (vSs (Spl.put L x)), ⟨.inl rfl, rfl, by rw [hpl]; omega, fun _ _ => rfl⟩, ⟨trivial, fun _ _ => ⟨trivial, trivial, trivial, trivial⟩⟩, rfl⟩
   ·refine w2 0 6 ?_ ?_ <;> conv => whnf
    ·refine ⟨⟨rfl, by decide, fun x hx => by simp at hx⟩, ?_⟩
     conv => whnf
     intro b_a hs_a hh_a hf_a
     try dsimp only at hh_a hf_a
     conv => whnf
     refine w2 4 6 ?_ ?_ <;> conv => whnf
     ·refine ⟨by omega, ?_⟩
      conv => whnf
      refine ⟨fun j => vS ((Spl.put L x).getD j Spl.z0), fun i hi => absurd hi (by omega), fun j hj => by show vS ((Spl.put L x).getD _ Spl.z0) = vS (L.getD _ Spl.z0); rw [hg, if_pos (by omega)]; congr 2 <;> omega, ?_⟩
      intro b_b hs_b hh_b hf_b
      try dsimp only at hh_b hf_b
      conv => whnf
      refine w1 6 ?_
      conv => whnf
      refine ⟨⟨rfl, by decide, fun y hy => by simp at hy; subst hy; exact ⟨rfl, rfl⟩⟩, ?_⟩
      conv => whnf
      intro b_c hs_c hh_c hf_c
      try dsimp only at hh_c hf_c
      conv => whnf
      refine w1 7 ?_
      conv => whnf
      refine ⟨by omega, ?_⟩
      conv => whnf
      refine ⟨fun j => vS ((Spl.put L x).getD j Spl.z0), fun i hi => rfl, fun j hj => by (obtain rfl : j = 0 := (by omega)); show vS ((Spl.put L x).getD _ Spl.z0) = vS x; rw [hg, if_neg (by omega), if_pos (by omega)], ?_⟩
      intro b_d hs_d hh_d hf_d
      try dsimp only at hh_d hf_d
      conv => whnf
      refine w1 11 ?_
      conv => whnf
      refine ⟨by omega, ?_⟩
      conv => whnf
      refine ⟨fun j => vS ((Spl.put L x).getD j Spl.z0), fun i hi => rfl, fun j hj => by show vS ((Spl.put L x).getD _ Spl.z0) = vS (L.getD _ Spl.z0); rw [hg, if_neg (by omega), if_neg (by omega)]; congr 2 <;> omega, ?_⟩
      intro b_e hs_e hh_e hf_e
      try dsimp only at hh_e hf_e
      conv => whnf
      refine w1 12 ?_
      conv => whnf
      refine wd1 (hK9 _ ?_)
      clear hK9 K9
      refine W.ret ?_
      conv => whnf
      exact ⟨.v (vSs (Spl.put L x)), ⟨.inl rfl, rfl, by rw [hpl]; omega, fun _ _ => rfl⟩, ⟨trivial, fun _ _ => ⟨trivial, trivial, trivial, trivial⟩⟩, rfl⟩
     ·refine ⟨⟨rfl, by decide, fun y hy => by simp at hy; subst hy; exact ⟨rfl, rfl⟩⟩, ?_⟩
      conv => whnf
      intro b_c hs_c hh_c hf_c
      try dsimp only at hh_c hf_c
      conv => whnf
      refine w1 4 ?_
      conv => whnf
      refine ⟨by omega, ?_⟩
      conv => whnf
      refine ⟨fun j => vS ((Spl.put L x).getD j Spl.z0), fun i hi => absurd hi (by omega), fun j hj => by show vS ((Spl.put L x).getD _ Spl.z0) = vS (L.getD _ Spl.z0); rw [hg, if_pos (by omega)]; congr 2 <;> omega, ?_⟩
      intro b_b hs_b hh_b hf_b
      try dsimp only at hh_b hf_b
      conv => whnf
      refine w1 7 ?_
      conv => whnf
      refine ⟨by omega, ?_⟩
      conv => whnf
      refine ⟨fun j => vS ((Spl.put L x).getD j Spl.z0), fun i hi => rfl, fun j hj => by (obtain rfl : j = 0 := (by omega)); show vS ((Spl.put L x).getD _ Spl.z0) = vS x; rw [hg, if_neg (by omega), if_pos (by omega)], ?_⟩
      intro b_d hs_d hh_d hf_d
      try dsimp only at hh_d hf_d
      conv => whnf
      refine w1 11 ?_
      conv => whnf
      refine ⟨by omega, ?_⟩
      conv => whnf
      refine ⟨fun j => vS ((Spl.put L x).getD j Spl.z0), fun i hi => rfl, fun j hj => by show vS ((Spl.put L x).getD _ Spl.z0) = vS (L.getD _ Spl.z0); rw [hg, if_neg (by omega), if_neg (by omega)]; congr 2 <;> omega, ?_⟩
      intro b_e hs_e hh_e hf_e
      try dsimp only at hh_e hf_e
      conv => whnf
      refine w1 12 ?_
      conv => whnf
      refine wd1 (hK9 _ ?_)
      clear hK9 K9
      refine W.ret ?_
      conv => whnf
      exact ⟨.v (vSs (Spl.put L x)), ⟨.inl rfl, rfl, by rw [hpl]; omega, fun _ _ => rfl⟩, ⟨trivial, fun _ _ => ⟨trivial, trivial, trivial, trivial⟩⟩, rfl⟩
    ·refine ⟨⟨rfl, by decide, fun y hy => by simp at hy; subst hy; exact ⟨rfl, rfl⟩⟩, ?_⟩
     conv => whnf
     intro b_c hs_c hh_c hf_c
     try dsimp only at hh_c hf_c
     conv => whnf
     refine w1 0 ?_
     conv => whnf
     refine ⟨⟨rfl, by decide, fun x hx => by simp at hx⟩, ?_⟩
     conv => whnf
     intro b_a hs_a hh_a hf_a
     try dsimp only at hh_a hf_a
     conv => whnf
     refine w1 4 ?_
     conv => whnf
     refine ⟨by omega, ?_⟩
     conv => whnf
     refine ⟨fun j => vS ((Spl.put L x).getD j Spl.z0), fun i hi => absurd hi (by omega), fun j hj => by show vS ((Spl.put L x).getD _ Spl.z0) = vS (L.getD _ Spl.z0); rw [hg, if_pos (by omega)]; congr 2 <;> omega, ?_⟩
     intro b_b hs_b hh_b hf_b
     try dsimp only at hh_b hf_b
     conv => whnf
     refine w1 7 ?_
     conv => whnf
     refine ⟨by omega, ?_⟩
     conv => whnf
     refine ⟨fun j => vS ((Spl.put L x).getD j Spl.z0), fun i hi => rfl, fun j hj => by (obtain rfl : j = 0 := (by omega)); show vS ((Spl.put L x).getD _ Spl.z0) = vS x; rw [hg, if_neg (by omega), if_pos (by omega)], ?_⟩
     intro b_d hs_d hh_d hf_d
     try dsimp only at hh_d hf_d
     conv => whnf
     refine w1 11 ?_
     conv => whnf
     refine ⟨by omega, ?_⟩
     conv => whnf
     refine ⟨fun j => vS ((Spl.put L x).getD j Spl.z0), fun i hi => rfl, fun j hj => by show vS ((Spl.put L x).getD _ Spl.z0) = vS (L.getD _ Spl.z0); rw [hg, if_neg (by omega), if_neg (by omega)]; congr 2 <;> omega, ?_⟩
     intro b_e hs_e hh_e hf_e
     try dsimp only at hh_e hf_e
     conv => whnf
     refine w1 12 ?_
     conv => whnf
     refine wd1 (hK9 _ ?_)
     clear hK9 K9
     refine W.ret ?_
     conv => whnf
     exact ⟨.v (vSs (Spl.put L x)), ⟨.inl rfl, rfl, by rw [hpl]; omega, fun _ _ => rfl⟩, ⟨trivial, fun _ _ => ⟨trivial, trivial, trivial, trivial⟩⟩, rfl⟩
-- 6 ways
  rcases Nat.lt_or_ge k L.length with hk | hk
  ·have hbk := hS.bd k hk
   refine W.rd (cx_ok _) follows (by rfl) fun K hK => ?_
   conv => whnf
   have e0 : decide ((k : Int) < (L.length : Int)) = true := decide_eq_true (by omega)
   rw [e0]
   conv => whnf
   refine ⟨oo, ?_⟩
   conv => whnf
   rw [Int.toNat_natCast]
   refine ⟨_, cxF (before_fn x (L.getD k (0, 0, 0))), ?_⟩
   conv => whnf
   refine hK _ (W.cond ⟨fun h => ?_, fun h => ?_⟩) <;> clear hK K
   ·have h : ¬ Spl.lt x (L.getD k (0, 0, 0)) := nd_true h
    have ht : Spl.there L x (Spl.pos L x) := by rw [hp]; exact ⟨hk, h⟩
    have hput : Spl.put L x = L.set k (Spl.more (L.getD k Spl.z0) x.2.2) := by rw [Spl.put_there ht, hp]
    have hpl : (Spl.put L x).length = L.length := by rw [hput, List.length_set]
    have hg : ∀ j, (Spl.put L x).getD j Spl.z0 = if j = k then Spl.more (L.getD k Spl.z0) x.2.2 else L.getD j Spl.z0 := fun j => by rw [hput]; exact Spl.set_getD hk
    clear tl
    refine W.rd (cx_ok _) follows (by rfl) fun K hK => ?_
    conv => whnf
    refine ⟨oo, ?_⟩
    conv => whnf
    rw [Int.toNat_natCast]
    refine ⟨by show _ ≤ (L.getD k Spl.z0).2.2 + x.2.2 ∧ (L.getD k Spl.z0).2.2 + x.2.2 ≤ _; have := hbk.2.2; omega, ?_⟩
    conv => whnf
    refine ⟨oo, ?_⟩
    conv => whnf
    rw [Int.toNat_natCast]
    refine ⟨⟨by show 2 + 1 ≤ 3; omega, rfl⟩, ?_⟩
    conv => whnf
    refine ⟨fun j => vS ((Spl.put L x).getD j Spl.z0), by show vS _ = _; rw [hg, if_pos rfl]; rfl, fun j hj hjk => by show vS _ = vS _; rw [hg, if_neg hjk], ?_⟩
    conv => whnf
    refine hK _ ?_
    clear hK K
    refine wrs fun K hK => ?_
    conv => whnf
    refine hK _ ?_
    clear hK K
    refine W.ret ?_
    conv => whnf
    exact ⟨.v (vSs (Spl.put L x)), ⟨rfl, rfl, by rw [hpl]; omega, fun _ _ => rfl⟩, ⟨trivial, fun _ _ => ⟨trivial, trivial, trivial, trivial⟩⟩, rfl⟩
   ·have h : Spl.lt x (L.getD k (0, 0, 0)) := nd_false h
    refine W.skip (tl (fun ht => ht.2 h) _ (by dsimp only; omega) ?_)
    clear tl hK2 K2
    exact cvr
  ·refine W.rd (cx_ok _) follows (by rfl) fun K hK => ?_
   conv => whnf
   have e0 : decide ((k : Int) < (L.length : Int)) = false := decide_eq_false (by omega)
   rw [e0]
   conv => whnf
   refine ⟨rfl, ?_⟩
   conv => whnf
   refine hK _ (W.cond ⟨fun h => absurd h (by decide), fun _ => W.skip (tl (fun ht => absurd ht.1 (by omega)) _ (by dsimp only; omega) ?_)⟩)
   clear tl hK2 K2 hK K
   exact cvr
 refine W.seqK fun K7 hK7 => ?_
 rcases Nat.lt_or_ge k L.length with hk | hk
 ·refine W.rd (cx_ok _) follows (by rfl) fun K hK => ?_
  conv => whnf
  have e0 : decide ((k : Int) < (L.length : Int)) = true := decide_eq_true (by omega)
  rw [e0]
  conv => whnf
  refine ⟨oo, ?_⟩
  conv => whnf
  rw [Int.toNat_natCast]
  refine ⟨_, cxF (before_fn (L.getD k (0, 0, 0)) x), ?_⟩
  conv => whnf
  refine hK _ (W.cond ⟨fun h => ?_, fun h => ?_⟩) <;> clear hK K
  ·have h := of_decide_eq_true h
   refine W.skip (hK7 _ (W.block ?_))
   clear hK7 K7 fin
   refine wrg ?_
   conv => whnf
   refine ⟨oo, ?_⟩
   conv => whnf
   exact againA ⟨k + 1, by omega, fun j hj => by by_cases h9 : j = k; (subst h9; exact h); exact h2 j (by omega), rfl, rfl⟩
  ·have h := of_decide_eq_false h
   refine W.exit (fin _ (by dsimp only; omega) (fun _ => h) ?_)
   clear fin hK7 K7
   exact cvr
 ·refine W.rd (cx_ok _) follows (by rfl) fun K hK => ?_
  conv => whnf
  have e0 : decide ((k : Int) < (L.length : Int)) = false := decide_eq_false (by omega)
  rw [e0]
  conv => whnf
  refine ⟨rfl, ?_⟩
  conv => whnf
  refine hK _ (W.cond ⟨fun h => absurd h (by decide), fun _ => W.exit (fin _ (by dsimp only; omega) (fun hh => absurd hh (by omega)) ?_)⟩)
  clear fin hK7 K7 hK K
  exact cvr

abbrev runT (T : List (Int × Int × Int)) (k : Nat) : Int := (T.getD k (0, 0, 0)).2.1

theorem l14Splittings_fn (p : Int) [SP p] (g : Option Nat) (l : List Int) (T : List (Int × Int × Int)) (hT : T.length ≤ 100) (hrun : ∀ k, k < T.length → 1 ≤ runT T k ∧ runT T k ≤ 1000) (hslo : FnV 41 [.int .i64 p, .ints g l] (vSs T)) (R : Nat → Poly p) (F : Nat → List (Poly p × Nat))
  (hR : ∀ i, i < T.length → dg (R i) ≤ 9 ∧ R i ≠ 0 ∧ FacOf (R i) (F i)) (hD : ∀ i, i < T.length → (degT (F i) (F i).length).length ≤ 100 ∧ ∀ q, q < (degT (F i) (F i).length).length → 1 ≤ (degT (F i) (F i).length).getD q 0 ∧ (degT (F i) (F i).length).getD q 0 ≤ 1000)
  (hres : ∀ i : Nat, i < T.length → FnI 43 [.int .i64 p, .ints g l, .int .i64 i] (R i).l) : FnV 30 [.int .i64 p, .ints g l] (vSs (Spl.putO (runT T) (fun i => degT (F i) (F i).length) T.length)) := by
 refine fn_of (cx_ok [0, 1, 4, 5, 6, 7, 8, 9, 17, 29]) Tryz.func30 rfl (by decide) Tryz.ntmps30 (Nat.le_of_ble_eq_true rfl) fun base => ?_
 refine wrs fun K hK => ?_
 conv => whnf
 refine hK _ ?_
 clear hK K
 refine wrs fun K hK => ?_
 conv => whnf
 refine callV rfl (hslo) fun hs' hhs => ?_
 try dsimp only at hhs
 conv => whnf
 refine hK _ ?_
 clear hK K
 refine wrs fun K hK => ?_
 conv => whnf
 refine ⟨⟨rfl, by decide, fun x hx => by simp at hx⟩, ?_⟩
 conv => whnf
 intro b_6 hs_6 hh_6 hf_6
 try dsimp only at hh_6 hf_6
 conv => whnf
 refine hK _ ?_
 clear hK K
 refine W.seqK fun K1 hK1 => wrs fun K hK => ?_
 conv => whnf
 refine hK _ (W.block (W.invA (fun m e => ∃ (i n : Nat) (S : List Spl.Sp), i ≤ T.length ∧ S = Spl.putO (runT T) (fun i => degT (F i) (F i).length) i ∧ n = S.length ∧ m = T.length - i ∧ e = [(0, .v (.int .i64 p)), (1, .v (.ints g l)), (5, .v (vSs T)), (6, .v (.vals none 3 n fun j => vS (S.getD j (0, 0, 0)))), (7, .v (.int .i64 i))]) ⟨0, 0, [], Nat.zero_le _, rfl, rfl, rfl, rfl⟩ ?_))
 clear hK K
 rintro m e ⟨i, n, S, h1, hS, hn, hm, rfl⟩
 refine W.seqK fun K7 hK7 => wrs fun K hK => ?_
 conv => whnf
 refine hK _ (W.cond ⟨fun h3 => ?_, fun h3 => ?_⟩) <;> clear hK K <;> (first | replace h3 := of_decide_eq_true h3 | replace h3 := of_decide_eq_false h3)
 ·have hi : i < T.length := by omega
  obtain ⟨h9, h0, hF⟩ := hR i hi
  obtain ⟨hd1, hd2⟩ := hD i hi
  have hok := Spl.putO_ok (run := runT T) (ds := fun i => degT (F i) (F i).length) (n := T.length) (m := 100) hrun hD i (by omega)
  rw [← hS] at hok
  generalize hds : degT (F i) (F i).length = ds at hd1 hd2
  have hnx : Spl.putO (runT T) (fun i => degT (F i) (F i).length) (i + 1) = Spl.putI (runT T i) ds S ds.length := by rw [Spl.putO, ← hS, hds]
  have hdeg := l09Degrees_fn p
  refine W.skip (hK7 _ ?_)
  clear hK7 K7
  refine W.seqK fun K8 hK8 => W.block ?_
  refine wrs fun K hK => ?_
  conv => whnf
  refine callI rfl (hres i hi) fun hs_1 b_1 hh_1 hf_1 => ?_
  try dsimp only at hh_1 hf_1
  conv => whnf
  refine callV rfl (l09Degrees_fn p _ (R i) (F i) hF h0 (by omega)) fun hs' hhs => ?_
  try dsimp only at hhs
  conv => whnf
  rw [hds]
  refine hK _ ?_
  clear hK K
  refine wrs fun K hK => ?_
  conv => whnf
  refine hK _ (W.block (W.invA (fun m e => ∃ (q n : Nat) (Q : List Spl.Sp), q ≤ ds.length ∧ Q = Spl.putI (runT T i) ds S q ∧ n = Q.length ∧ m = ds.length - q ∧ e = [(0, .v (.int .i64 p)), (1, .v (.ints g l)), (5, .v (vSs T)), (6, .v (.vals none 3 n fun j => vS (Q.getD j (0, 0, 0)))), (7, .v (.int .i64 i)), (8, .v (.ints none ds)), (9, .v (.int .i64 q))]) ⟨0, n, S, Nat.zero_le _, rfl, hn, rfl, rfl⟩ ?_))
  clear hK K
  rintro m' e ⟨q, n', Q, h4, hQ, hn', hm', rfl⟩
  refine W.seqK fun K7 hK7 => wrs fun K hK => ?_
  conv => whnf
  refine hK _ (W.cond ⟨fun h5 => ?_, fun h5 => ?_⟩) <;> clear hK K <;> (first | replace h5 := of_decide_eq_true h5 | replace h5 := of_decide_eq_false h5)
  ·have hq : q < ds.length := by omega
   have hokq := Spl.putI_ok hok (hrun i hi) hd2 q (by omega)
   rw [← hQ] at hokq
   have hnq : Spl.putI (runT T i) ds S (q + 1) = Spl.put Q (runT T i, ds.getD q 0, 1) := by rw [Spl.putI, ← hQ]
   subst hn'
   have hi100 : i * 100 ≤ 100 * 100 := Nat.mul_le_mul_right _ (by omega)
   refine W.skip (hK7 _ (W.seqK fun K6 hK6 => W.block ?_))
   clear hK7 K7
   refine W.sch follows ?_
   refine wt 0 ?_
   conv => whnf
   refine wt 1 ?_
   conv => whnf
   refine wt 2 ?_
   conv => whnf
   refine wi 3 ?_
   conv => whnf
   refine ⟨oo, ?_⟩
   conv => whnf
   rw [Int.toNat_natCast]
   refine Wany.takeF (cx_ok []) 4 (by rfl) (by rfl) (by rfl) (by rfl) (by decide) (by kernel_rfl) (by kernel_rfl) (by kernel_rfl) ?_
   conv => whnf
   refine wt 6 ?_
   conv => whnf
   refine wt 7 ?_
   conv => whnf
   refine wi 8 ?_
   conv => whnf
   refine ⟨oo, ?_⟩
   conv => whnf
   rw [Int.toNat_natCast]
   refine w2 5 9 ?_ ?_ <;> conv => whnf
   ·refine w1 9 ?_
    conv => whnf
    refine wt 10 ?_
    conv => whnf
    refine w1 11 ?_
    conv => whnf
    refine callV rfl (l14Put_fn none Q (runT T i, ds.getD q 0, 1) _ hokq (by omega) rfl) fun hs' hhs => ?_
    try dsimp only at hhs
    conv => whnf
    refine w1 12 ?_
    conv => whnf
    refine wd1 (hK6 _ ?_)
    clear hK6 K6
    refine wrg ?_
    conv => whnf
    refine ⟨oo, ?_⟩
    conv => whnf
    exact againA ⟨q + 1, _, _, by omega, hnq.symm, rfl, rfl, rfl⟩
   ·refine w1 5 ?_
    conv => whnf
    refine wt 10 ?_
    conv => whnf
    refine w1 11 ?_
    conv => whnf
    refine callV rfl (l14Put_fn none Q (runT T i, ds.getD q 0, 1) _ hokq (by omega) rfl) fun hs' hhs => ?_
    try dsimp only at hhs
    conv => whnf
    refine w1 12 ?_
    conv => whnf
    refine wd1 (hK6 _ ?_)
    clear hK6 K6
    refine wrg ?_
    conv => whnf
    refine ⟨oo, ?_⟩
    conv => whnf
    exact againA ⟨q + 1, _, _, by omega, hnq.symm, rfl, rfl, rfl⟩
-- 2 ways
  ·obtain rfl : q = ds.length := by omega
   subst hQ
   refine W.exit (hK8 _ ?_)
   clear hK7 K7 hK8 K8
   refine wrg ?_
   conv => whnf
   refine ⟨oo, ?_⟩
   conv => whnf
   exact againA ⟨i + 1, n', _, by omega, hnx.symm, hn', rfl, rfl⟩
 ·obtain rfl : i = T.length := by omega
  subst hS hn
  refine W.exit (hK1 _ ?_)
  clear hK7 K7 hK1 K1
  refine wrs fun K hK => ?_
  conv => whnf
  refine hK _ ?_
  clear hK K
  refine W.ret ?_
  conv => whnf
  exact ⟨.v (vSs (Spl.putO (runT T) (fun i => degT (F i) (F i).length) T.length)), ⟨rfl, rfl, rfl, fun _ _ => rfl⟩, ⟨trivial, fun _ _ => ⟨trivial, trivial, trivial, trivial⟩⟩, rfl⟩

end Go.Proofs.YtkkahnljonppiaaGreat
