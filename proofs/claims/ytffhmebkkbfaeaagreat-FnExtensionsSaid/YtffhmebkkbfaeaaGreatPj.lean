/- What the program's functions and the reference's return. No conditions. -/
import Derived.Test.YtffhmebkkbfaeaaGreatPi
import Derived.Test.YtffhmebkkbfaeaaGreatRows
namespace Go.Proofs.YtffhmebkkbfaeaaGreat
open Go Go.RowKit Go.Proofs Poly
set_option maxRecDepth 100000
set_option maxHeartbeats 8000000

abbrev vR (p k : Int) : V := .agg [.int .i64 p, .int .i64 k]
abbrev vE (p k : Int) (g : Option Nat) (l : List Int) : V := .agg [.int .i64 p, .int .i64 k, .ints g l]

def xO (p k : Int) : Prop := isP p = true ∧ 1 <= k ∧ p ^ k.toNat <= 1000000000
theorem jN {p : Int} (hp : 1 <= p) {a b : Nat} (h : a <= b) : p ^ a <= p ^ b := by
 obtain ⟨q, rfl⟩ : ∃ q : Nat, p = q := ⟨p.toNat, by omega⟩
 have h1 : q ^ a <= q ^ b := Nat.pow_le_pow_right (by omega) h;rw [<- Int.natCast_pow, <- Int.natCast_pow]; omega
theorem zaY {p : Int} (hp : 1 <= p) (a : Nat) : 1 <= p ^ a := by
 have := jN hp (Nat.zero_le a)
 rwa [Int.pow_zero] at this
theorem zor {p : Int} (hp : 2 <= p) {a : Nat} (h : p ^ a <= 1000000000) : a < 30 := by
 refine Nat.lt_of_not_le λh1 => ?_;obtain ⟨q, rfl⟩ : ∃ q : Nat, p = q := ⟨p.toNat, by omega⟩
 have h2 := jN (p := (q : Int)) (by omega) h1;have h3 : 2 ^ 30 <= q ^ 30 := Nat.pow_le_pow_left (by omega) 30;rw [<- Int.natCast_pow] at h2;omega
theorem xO.small {p k : Int} (h : xO p k) : 2 <= p ∧ p <= 97 ∧ 1 <= k ∧ k < 30 ∧ 2 <= p ^ k.toNat ∧ p ^ k.toNat <= 1000000000 := by
 have h1 := zaX h.1;have h2 := zor (by omega) h.2.2;have h3 := jN (p := p) (by omega) (a := 1) (b := k.toNat) (by have := h.2.1; omega);rw [Int.pow_one] at h3;have := h.2.1;have := h.2.2;omega

theorem zgG (p k : Int) : FnV 147 [vR p k] (.bool (bP (xO p k))) := by
 refine zg (za [0, 1, 2, 3, 12, 15, 16, 17, 23]) Tryz.func147 rfl (by decide) Tryz.ntmps147 (Nat.le_of_ble_eq_true rfl) λbase => ?_;refine wrs λK hK => ?_;conv => whnf
 refine ⟨rfl, ?_⟩;conv => whnf
 intro b_1 hs_1 hh_1 hf_1;try dsimp only at hh_1 hf_1
 conv => whnf
 refine hK _ ?_;clear hK K;refine W.seqK λK1 hK1 => ?_;refine wrs λK hK => ?_;conv => whnf
 refine zb rfl (zaj p) λhs' hhs => ?_;try dsimp only at hhs
 conv => whnf
 refine ⟨λh => ?_, λh => ?_⟩ <;> conv => whnf
 ·have h : isP p = false := by simpa using h
  refine hK _ (W.condT rfl ?_);clear hK K;refine wrs λK hK => ?_;conv => whnf
  refine hK _ ?_;clear hK K;refine W.ret ?_;conv => whnf
  exact ⟨.v (.bool (bP (xO p k))), (ze λh' => by rw [h'.1] at h; cases h), trivial, rfl⟩
 have h : isP p = true := by simpa using h
 have hp := zaX h;refine hK _ (W.cond ⟨λh1 => ?_, λh1 => ?_⟩) <;> clear hK K
 ·have h1 := of_decide_eq_true h1;refine wrs λK hK => ?_;conv => whnf
  refine hK _ ?_;clear hK K;refine W.ret ?_;conv => whnf
  exact ⟨.v (.bool (bP (xO p k))), ze λh' => by have := h'.2.1; omega, trivial, rfl⟩
 have h1 := of_decide_eq_false h1;refine W.skip (hK1 _ ?_);clear hK1 K1;refine wrs λK hK => ?_;conv => whnf
 refine hK _ ?_;clear hK K;refine W.seqK λK1 hK1 => ?_;refine wrs λK hK => ?_;conv => whnf
 refine hK _ (W.block (W.invA (λm e => ∃ j : Nat, (j : Int) <= min k 40 ∧ p ^ j <= 1000000000 ∧ m = 40 - j ∧ e = [(1, .ownB b_1 (vR p k)), (3, .v (.int .i64 (p ^ j))), (15, .v (.int .i64 (min k 40))), (16, .v (.int .i64 j))]) ⟨0, by omega, by rw [Int.pow_zero]; omega, rfl, by rw [Int.pow_zero] <;> rfl⟩ ?_));clear hK K;rintro m e ⟨j, hj, hpj, hm, rfl⟩;have hpos := zaY (p := p) (by omega) j;have hs : p ^ (j + 1) = p ^ j * p := Int.pow_succ ..;have hb : 0 <= p ^ j * p ∧ p ^ j * p <= 1000000000 * 97 := ⟨Int.mul_nonneg (by omega) (by omega), Int.mul_le_mul hpj (by omega) (by omega) (by omega)⟩
 refine wrs λK hK => ?_;conv => whnf
 refine hK _ ?_;clear hK K;refine W.seqK λK7 hK7 => W.cond ⟨λh2 => ?_, λh2 => ?_⟩ <;> (first | replace h2 := of_decide_eq_true h2 | replace h2 := of_decide_eq_false h2)
 ·refine W.skip (hK7 _ ?_);clear hK7 K7;refine W.seqK λK8 hK8 => W.block ?_;refine wrs λK hK => ?_;conv => whnf
  refine ⟨oo, ?_⟩;conv => whnf
  refine hK _ ?_;clear hK K;refine wrs λK hK => ?_;conv => whnf
  refine hK _ (W.cond ⟨λh3 => ?_, λh3 => ?_⟩) <;> clear hK K
  ·have h3 : 1000000000 < p ^ j * p := of_decide_eq_true h3;have h4 := jN (p := p) (by omega) (a := j + 1) (b := k.toNat) (by omega);refine wrs λK hK => ?_;conv => whnf
   refine hK _ ?_;clear hK K;refine W.ret ?_;conv => whnf
   exact ⟨.v (.bool (bP (xO p k))), ze λh' => by have := h'.2.2; omega, trivial, rfl⟩
  ·have h3 : ¬ 1000000000 < p ^ j * p := of_decide_eq_false h3;refine W.skip (hK8 _ ?_);clear hK8 K8;refine wrg ?_;conv => whnf
   refine ⟨oo, ?_⟩;conv => whnf
   refine ⟨_, _, ⟨j + 1, by omega, by omega, rfl, rfl⟩, by omega, by dsimp only; omega, ?_⟩;rw [hs];exact cvr
 ·have h4 := zor (by omega) hpj;have h5 : k.toNat = j := by omega
  refine W.exit (hK1 _ ?_);clear hK7 K7 hK1 K1;refine wrs λK hK => ?_;conv => whnf
  refine hK _ ?_;clear hK K;refine W.ret ?_;conv => whnf
  exact ⟨.v (.bool (bP (xO p k))), zi ⟨h, by omega, by rw [h5]; exact hpj⟩, trivial, rfl⟩

def zdE (p : Int) (n : Nat) : Int := if p ^ n <= 1000000000 then p ^ n else 0
theorem vQ (p : Int) (n : Nat) (h2 : 2 <= p) (h97 : p <= 97) (hn : n <= 1000000) : FnV 138 [.int .i64 p, .int .i64 n] (.int .i64 (zdE p n)) := by
 refine zg (za [0, 1, 4, 5, 7, 14]) Tryz.func138 rfl (by decide) Tryz.ntmps138 (Nat.le_of_ble_eq_true rfl) λbase => ?_;refine wrs λK hK => ?_;conv => whnf
 refine hK _ ?_;clear hK K;refine wrs λK hK => ?_;conv => whnf
 refine hK _ ?_;clear hK K;refine W.seqK λK1 hK1 => W.block (W.invA (λm e => ∃ k : Nat, k <= n ∧ p ^ k <= 1000000000 ∧ m = n - k ∧ e = [(0, .v (.int .i64 p)), (1, .v (.int .i64 ((n - k : Nat) : Int))), (5, .v (.int .i64 (p ^ k)))]) ⟨0, Nat.zero_le _, by rw [Int.pow_zero]; omega, rfl, by rw [Int.pow_zero] <;> rfl⟩ ?_);rintro m e ⟨k, h1, h3, hm, rfl⟩;have hpos := zaY (p := p) (by omega) k;have hs : p ^ (k + 1) = p ^ k * p := Int.pow_succ ..;have hb : 0 <= p ^ k * p ∧ p ^ k * p <= 1000000000 * 97 := ⟨Int.mul_nonneg (by omega) (by omega), Int.mul_le_mul h3 (by omega) (by omega) (by omega)⟩
 refine W.seqK λK7 hK7 => wrs λK hK => ?_;conv => whnf
 refine hK _ (W.cond ⟨λh5 => ?_, λh5 => ?_⟩) <;> clear hK K <;> (first | replace h5 := of_decide_eq_true h5 | replace h5 := of_decide_eq_false h5)
 ·refine W.skip (hK7 _ ?_);clear hK7 K7;refine W.seqK λK8 hK8 => W.block ?_;refine wrs λK hK => ?_;conv => whnf
  refine ⟨oo, ?_⟩;conv => whnf
  refine hK _ ?_;clear hK K;refine wrs λK hK => ?_;conv => whnf
  refine hK _ (W.cond ⟨λh6 => ?_, λh6 => ?_⟩) <;> clear hK K
  ·have h6 : 1000000000 < p ^ k * p := of_decide_eq_true h6;have h7 := jN (p := p) (by omega) (a := k + 1) (b := n) (by omega);refine wrs λK hK => ?_;conv => whnf
   refine hK _ ?_;clear hK K;refine W.ret ?_;conv => whnf
   exact ⟨.v (.int .i64 (zdE p n)), ⟨rfl, by unfold zdE; rw [if_neg (by omega)]⟩, trivial, rfl⟩
  ·have h6 : ¬ 1000000000 < p ^ k * p := of_decide_eq_false h6;refine W.skip (hK8 _ ?_);clear hK8 K8;refine wrg ?_;conv => whnf
   refine ⟨oo, ?_⟩;conv => whnf
   refine ⟨_, _, ⟨k + 1, by omega, by omega, rfl, rfl⟩, by omega, by dsimp only; omega, ?_⟩;rw [hs];exact cvr
 ·obtain rfl : k = n := by omega
  refine W.exit (hK1 _ ?_);clear hK7 K7 hK1 K1;refine wrs λK hK => ?_;conv => whnf
  refine hK _ ?_;clear hK K;refine W.ret ?_;conv => whnf
  exact ⟨.v (.int .i64 (zdE p k)), ⟨rfl, by unfold zdE; rw [if_pos h3]⟩, trivial, rfl⟩

theorem zfq (p k : Int) : FnV 187 [vR p k] (.bool (bP (xO p k))) := by
 by_cases h : isP p = true
 case neg =>
  refine zg (za [0, 1, 2]) Tryz.func187 rfl (by decide) Tryz.ntmps187 (Nat.le_of_ble_eq_true rfl) λbase => ?_;refine wrs λK hK => ?_;conv => whnf
  refine ⟨rfl, ?_⟩;conv => whnf
  intro b_1 hs_1 hh_1 hf_1;try dsimp only at hh_1 hf_1
  conv => whnf
  refine hK _ ?_;clear hK K;refine wrs λK hK => ?_;conv => whnf
  refine zb rfl (vX p) λhs' hhs => ?_;try dsimp only at hhs
  conv => whnf
  refine ⟨λh1 => ?_, λh1 => ?_⟩ <;> conv => whnf
  ·exact absurd h1 h
  refine hK _ ?_;clear hK K;refine W.ret ?_;conv => whnf
  exact ⟨.v (.bool (bP (xO p k))), ze λh' => h h'.1, trivial, rfl⟩
 have hp := zaX h
 by_cases hk : 1 <= k ∧ k <= 40
 case neg =>
  have hn : ¬ xO p k := λh' => by have := h'.small; omega
  refine zg (za [0, 1, 2]) Tryz.func187 rfl (by decide) Tryz.ntmps187 (Nat.le_of_ble_eq_true rfl) λbase => ?_;refine wrs λK hK => ?_;conv => whnf
  refine ⟨rfl, ?_⟩;conv => whnf
  intro b_1 hs_1 hh_1 hf_1;try dsimp only at hh_1 hf_1
  conv => whnf
  refine hK _ ?_;clear hK K;refine wrs λK hK => ?_;conv => whnf
  refine zb rfl (vX p) λhs' hhs => ?_;try dsimp only at hhs
  conv => whnf
  refine ⟨λh1 => ?_, λh1 => ?_⟩ <;> conv => whnf
  ·refine zb rfl ((kH k 1 40).fa (decide_eq_false hk)) λhs' hhs => ?_;try dsimp only at hhs
   conv => whnf
   refine hK _ ?_;clear hK K;refine W.ret ?_;conv => whnf
   exact ⟨.v (.bool (bP (xO p k))), ze hn, trivial, rfl⟩
  ·exact absurd h (by rw [h1]; decide)
 obtain ⟨n, rfl⟩ : ∃ n : Nat, k = n := ⟨k.toNat, by omega⟩
 have hpos := zaY (p := p) (by omega) n
 have e1 : decide (0 < zdE p n) = bP (xO p n) := by
  unfold zdE
  by_cases h3 : p ^ n <= 1000000000
  ·rw [if_pos h3, zi ⟨h, hk.1, by rw [Int.toNat_natCast]; exact h3⟩]; exact decide_eq_true (by omega)
  ·rw [if_neg h3, ze λh' => h3 (by have := h'.2.2; rwa [Int.toNat_natCast] at this)]; decide
 refine zg (za [0, 1, 2]) Tryz.func187 rfl (by decide) Tryz.ntmps187 (Nat.le_of_ble_eq_true rfl) λbase => ?_;refine wrs λK hK => ?_;conv => whnf
 refine ⟨rfl, ?_⟩;conv => whnf
 intro b_1 hs_1 hh_1 hf_1;try dsimp only at hh_1 hf_1
 conv => whnf
 refine hK _ ?_;clear hK K;refine wrs λK hK => ?_;conv => whnf
 refine zb rfl (vX p) λhs' hhs => ?_;try dsimp only at hhs
 conv => whnf
 refine ⟨λh1 => ?_, λh1 => ?_⟩ <;> conv => whnf
 ·refine zb rfl ((kH (n : Nat) 1 40).tr (decide_eq_true hk)) λhs' hhs => ?_;try dsimp only at hhs
  conv => whnf
  refine zb rfl (vQ p n (by omega) (by omega) (by omega)) λhs' hhs => ?_;try dsimp only at hhs
  conv => whnf
  refine hK _ ?_;clear hK K;refine W.ret ?_;conv => whnf
  exact ⟨.v (.bool (bP (xO p n))), e1, trivial, rfl⟩
 ·exact absurd h (by rw [h1]; decide)

theorem zfr (p k : Int) (h : xO p k) : FnV 69 [vR p k] (.int .i64 (p ^ k.toNat)) := by
 obtain ⟨h1, h2, h3, h4, h5, h6⟩ := h.small;obtain ⟨n, rfl⟩ : ∃ n : Nat, k = n := ⟨k.toNat, by omega⟩
 rw [Int.toNat_natCast] at *;refine zg (za [0, 1, 2]) Tryz.func69 rfl (by decide) Tryz.ntmps69 (Nat.le_of_ble_eq_true rfl) λbase => ?_;refine wrs λK hK => ?_;conv => whnf
 refine ⟨rfl, ?_⟩;conv => whnf
 intro b_1 hs_1 hh_1 hf_1;try dsimp only at hh_1 hf_1
 conv => whnf
 refine hK _ ?_;clear hK K;refine wrs λK hK => ?_;conv => whnf
 refine zb rfl (zfb p n (λj hj => by have := jN (p := p) (by omega) hj; have := zaY (p := p) (by omega) j; constructor <;> omega) (by omega)) λhs' hhs => ?_;try dsimp only at hhs
 conv => whnf
 refine hK _ ?_;clear hK K;refine W.ret ?_;conv => whnf
 exact ⟨.v (.int .i64 (p ^ n)), ⟨rfl, rfl⟩, trivial, rfl⟩
theorem zjg (p k c : Int) (h : xO p k) : FnV 149 [vR p k, .int .i64 c] (.bool (decide (0 <= c ∧ c <= p ^ k.toNat - 1))) := by
 obtain ⟨h1, h2, h3, h4, h5, h6⟩ := h.small;refine zg (za [0, 1, 2, 4]) Tryz.func149 rfl (by decide) Tryz.ntmps149 (Nat.le_of_ble_eq_true rfl) λbase => ?_;refine wrs λK hK => ?_;conv => whnf
 refine ⟨rfl, ?_⟩;conv => whnf
 intro b_1 hs_1 hh_1 hf_1;try dsimp only at hh_1 hf_1
 conv => whnf
 refine hK _ ?_;clear hK K;refine wrs λK hK => ?_;conv => whnf
 refine zb rfl (zfr p k h) λhs' hhs => ?_;try dsimp only at hhs
 conv => whnf
 refine ⟨oo, ?_⟩;conv => whnf
 refine zb rfl (kG _ _ _) λhs' hhs => ?_;try dsimp only at hhs
 conv => whnf
 refine hK _ ?_;clear hK K;refine W.ret ?_;conv => whnf
 exact ⟨.v (.bool (decide (0 <= c ∧ c <= p ^ k.toNat - 1))), rfl, trivial, rfl⟩
theorem zos (p k c : Int) (g : Option Nat) (h : xO p k) : FnV 148 [.int .i64 c, .box g (vR p k)] (.bool (!(decide (0 <= c ∧ c <= p ^ k.toNat - 1)))) := by
 refine zg (za [0, 1, 3]) Tryz.func148 rfl (by decide) Tryz.ntmps148 (Nat.le_of_ble_eq_true rfl) λbase => ?_;refine wrs λK hK => ?_;conv => whnf
 refine hK _ ?_;clear hK K;refine wrs λK hK => ?_;conv => whnf
 refine zb rfl (zjg p k c h) λhs' hhs => ?_;try dsimp only at hhs
 conv => whnf
 refine hK _ ?_;clear hK K;refine W.ret ?_;conv => whnf
 exact ⟨.v (.bool (!(decide (0 <= c ∧ c <= p ^ k.toNat - 1)))), rfl, trivial, rfl⟩

def xU (p k : Int) (xs : List Int) : Prop := xO p k ∧ xs.length <= 9 ∧ zfQ 0 (p ^ k.toNat - 1) xs ∧ zln xs

theorem xT (p k : Int) (g : Option Nat) (xs : List Int) (hl : xs.length <= 1000000000) : FnV 87 [vR p k, .ints g xs] (.bool (bP (xU p k xs))) := by
 by_cases hr : xO p k
 case neg =>
  refine zg (za [0, 1, 2, 4, 17]) Tryz.func87 rfl (by decide) Tryz.ntmps87 (Nat.le_of_ble_eq_true rfl) λbase => ?_;refine wrs λK hK => ?_;conv => whnf
  refine ⟨rfl, ?_⟩;conv => whnf
  intro b_1 hs_1 hh_1 hf_1;try dsimp only at hh_1 hf_1
  conv => whnf
  refine hK _ ?_;clear hK K;refine W.seqK λK1 hK1 => ?_;refine wrs λK hK => ?_;conv => whnf
  refine zb rfl ((zgG p k).fa (ze hr)) λhs' hhs => ?_;try dsimp only at hhs
  conv => whnf
  refine hK _ (W.condT rfl ?_);clear hK K;refine wrs λK hK => ?_;conv => whnf
  refine hK _ ?_;clear hK K;refine W.ret ?_;conv => whnf
  exact ⟨.v (.bool (bP (xU p k xs))), ze λh => hr h.1, trivial, rfl⟩
 have hs := hr.small;refine zg (za [0, 1, 2, 4, 17]) Tryz.func87 rfl (by decide) Tryz.ntmps87 (Nat.le_of_ble_eq_true rfl) λbase => ?_;refine wrs λK hK => ?_;conv => whnf
 refine ⟨rfl, ?_⟩;conv => whnf
 intro b_1 hs_1 hh_1 hf_1;try dsimp only at hh_1 hf_1
 conv => whnf
 refine hK _ ?_;clear hK K;refine W.seqK λK1 hK1 => ?_;refine wrs λK hK => ?_;conv => whnf
 refine zb rfl ((zgG p k).tr (zi hr)) λhs' hhs => ?_;try dsimp only at hhs
 conv => whnf
 refine ⟨λh0 => ?_, λh0 => ?_⟩ <;> conv => whnf
 ·have h0 := of_decide_eq_true h0;refine hK _ (W.condT rfl ?_);clear hK K;refine wrs λK hK => ?_;conv => whnf
  refine hK _ ?_;clear hK K;refine W.ret ?_;conv => whnf
  exact ⟨.v (.bool (bP (xU p k xs))), ze λh => by have := h.2.1; omega, trivial, rfl⟩
 have h0 := of_decide_eq_false h0;refine zb rfl (zak g xs 148 [.box none (vR p k)] (λi => !(decide (0 <= cf xs i ∧ cf xs i <= p ^ k.toNat - 1))) (by omega) (λi hi => zos p k _ none hr)) λhs' hhs => ?_;try dsimp only at hhs
 conv => whnf
 refine hK _ (W.cond ⟨λh1 => ?_, λh1 => ?_⟩) <;> clear hK K
 ·have h1 := zdV.1 (zc1.1 h1);refine wrs λK hK => ?_;conv => whnf
  refine hK _ ?_;clear hK K;refine W.ret ?_;conv => whnf
  exact ⟨.v (.bool (bP (xU p k xs))), ze λh => h1 h.2.2.1, trivial, rfl⟩
 have h1 : zfQ 0 (p ^ k.toNat - 1) xs := Classical.byContradiction λh' => zkl h1 (zdV.2 h');refine W.skip (hK1 _ ?_);clear hK1 K1;refine wrs λK hK => ?_;conv => whnf
 refine ⟨λh2 => ?_, λh2 => ?_⟩ <;> conv => whnf
 ·have h2 := of_decide_eq_true h2;refine hK _ ?_;clear hK K;refine W.ret ?_;conv => whnf
  exact ⟨.v (.bool (bP (xU p k xs))), (by show bP _ = true; exact zi ⟨hr, by omega, h1, .inl (by omega)⟩), trivial, rfl⟩
 ·have h2 := of_decide_eq_false h2;have e1 : ((xs.length : Int) - 1).toNat = xs.length - 1 := by omega
  refine ⟨oo, ?_⟩;conv => whnf
  refine ⟨oo, ?_⟩;conv => whnf
  rw [e1];refine hK _ ?_;clear hK K;refine W.ret ?_;conv => whnf
  refine ⟨.v (.bool (bP (xU p k xs))), ?_, trivial, rfl⟩;show decide (cf xs (xs.length - 1) ≠ 0) = bP (xU p k xs)
  by_cases hc : cf xs (xs.length - 1) ≠ 0
  ·rw [decide_eq_true hc, zi ⟨hr, by omega, h1, .inr hc⟩]
  ·rw [decide_eq_false hc, ze λh => h.2.2.2.elim (λh3 => h2 (by omega)) hc]

theorem vp (p k : Int) (g : Option Nat) (xs : List Int) (hl : xs.length <= 1000000000) : FnV 144 [vR p k, .ints g xs] (.bool (bP (xU p k xs))) := by
 by_cases hr : xO p k
 case neg =>
  refine zg (za [0, 1, 2, 4, 5, 6, 14, 23, 33]) Tryz.func144 rfl (by decide) Tryz.ntmps144 (Nat.le_of_ble_eq_true rfl) λbase => ?_;refine wrs λK hK => ?_;conv => whnf
  refine ⟨rfl, ?_⟩;conv => whnf
  intro b_1 hs_1 hh_1 hf_1;try dsimp only at hh_1 hf_1
  conv => whnf
  refine hK _ ?_;clear hK K;refine W.seqK λK1 hK1 => ?_;refine wrs λK hK => ?_;conv => whnf
  refine zb rfl ((zfq p k).fa (ze hr)) λhs' hhs => ?_;try dsimp only at hhs
  conv => whnf
  refine hK _ (W.condT rfl ?_);clear hK K;refine wrs λK hK => ?_;conv => whnf
  refine hK _ ?_;clear hK K;refine W.ret ?_;conv => whnf
  exact ⟨.v (.bool (bP (xU p k xs))), ze λh => hr h.1, trivial, rfl⟩
 obtain ⟨s1, s2, s3, s4, s5, s6⟩ := hr.small;obtain ⟨n, rfl⟩ : ∃ n : Nat, k = n := ⟨k.toNat, by omega⟩
 rw [Int.toNat_natCast] at s5 s6;have hmS : zdE p n = p ^ n := if_pos s6;have hR : ∀ {a : Prop}, (xU p n xs ↔ xO p n ∧ xs.length <= 9 ∧ zfQ 0 (p ^ n - 1) xs ∧ zln xs) := λ{_} => by unfold xU; rw [Int.toNat_natCast]
 have hR := @hR True;refine zg (za [0, 1, 2, 4, 5, 6, 14, 23, 33]) Tryz.func144 rfl (by decide) Tryz.ntmps144 (Nat.le_of_ble_eq_true rfl) λbase => ?_;refine wrs λK hK => ?_;conv => whnf
 refine ⟨rfl, ?_⟩;conv => whnf
 intro b_1 hs_1 hh_1 hf_1;try dsimp only at hh_1 hf_1
 conv => whnf
 refine hK _ ?_;clear hK K;refine W.seqK λK1 hK1 => ?_;refine wrs λK hK => ?_;conv => whnf
 refine zb rfl ((zfq p n).tr (zi hr)) λhs' hhs => ?_;try dsimp only at hhs
 conv => whnf
 refine hK _ (W.cond ⟨λh0 => ?_, λh0 => ?_⟩) <;> clear hK K
 ·have h0 := of_decide_eq_true h0;refine wrs λK hK => ?_;conv => whnf
  refine hK _ ?_;clear hK K;refine W.ret ?_;conv => whnf
  exact ⟨.v (.bool (bP (xU p n xs))), ze λh => by have := h.2.1; omega, trivial, rfl⟩
 have h0 := of_decide_eq_false h0;refine W.skip (hK1 _ ?_);clear hK1 K1;refine wrs λK hK => ?_;conv => whnf
 refine zb rfl (vQ p n (by omega) (by omega) (by omega)) λhs' hhs => ?_;try dsimp only at hhs
 conv => whnf
 rw [hmS];refine hK _ ?_;clear hK K;refine W.seqK λK1 hK1 => ?_;refine wrs λK hK => ?_;conv => whnf
 refine hK _ (W.block (W.invA (λm e => ∃ i : Nat, i <= xs.length ∧ (∀ j, j < i -> 0 <= cf xs j ∧ cf xs j <= p ^ n - 1) ∧ m = xs.length - i ∧ e = [(1, .v (.ints g xs)), (5, .v (.int .i64 (p ^ n))), (6, .v (.int .i64 i))]) ⟨0, Nat.zero_le _, λj hj => by omega, rfl, rfl⟩ ?_));clear hK K;rintro m e ⟨i, hi, h1, hm, rfl⟩;refine W.seqK λK7 hK7 => wrs λK hK => ?_;conv => whnf
 refine hK _ (W.cond ⟨λh2 => ?_, λh2 => ?_⟩) <;> clear hK K <;> (first | replace h2 := of_decide_eq_true h2 | replace h2 := of_decide_eq_false h2)
 ·refine W.skip (hK7 _ ?_);clear hK7 K7;refine W.seqK λK8 hK8 => W.block ?_;refine wrs λK hK => ?_;conv => whnf
  refine ⟨oo, ?_⟩;conv => whnf
  rw [Int.toNat_natCast];refine ⟨oo, ?_⟩;conv => whnf
  refine zb rfl (kH _ _ _) λhs' hhs => ?_;try dsimp only at hhs
  conv => whnf
  refine hK _ (W.cond ⟨λh3 => ?_, λh3 => ?_⟩) <;> clear hK K
  ·have h3 : ¬ (0 <= cf xs i ∧ cf xs i <= p ^ n - 1) := zhA h3;refine wrs λK hK => ?_;conv => whnf
   refine hK _ ?_;clear hK K;refine W.ret ?_;conv => whnf
   exact ⟨.v (.bool (bP (xU p n xs))), ze λh => h3 ((hR.1 h).2.2.1 i (by omega)), trivial, rfl⟩
  ·have h3 : 0 <= cf xs i ∧ cf xs i <= p ^ n - 1 := zfk h3;refine W.skip (hK8 _ ?_);clear hK8 K8;refine wrg ?_;conv => whnf
   refine ⟨oo, ?_⟩;conv => whnf
   exact zm ⟨i + 1, by omega, λj hj => by by_cases h9 : j = i; (subst h9; exact h3); exact h1 j (by omega), rfl, rfl⟩
 ·obtain rfl : i = xs.length := by omega
  have h1 : zfQ 0 (p ^ n - 1) xs := h1;refine W.exit (hK1 _ ?_);clear hK7 K7 hK1 K1;refine wrs λK hK => ?_;conv => whnf
  refine ⟨λh2 => ?_, λh2 => ?_⟩ <;> conv => whnf
  ·have h2 := of_decide_eq_true h2;refine hK _ ?_;clear hK K;refine W.ret ?_;conv => whnf
   exact ⟨.v (.bool (bP (xU p n xs))), (by show bP _ = true; exact zi (hR.2 ⟨hr, by omega, h1, .inl (by omega)⟩)), trivial, rfl⟩
  ·have h2 := of_decide_eq_false h2;have e1 : ((xs.length : Int) - 1).toNat = xs.length - 1 := by omega
   refine ⟨oo, ?_⟩;conv => whnf
   refine ⟨oo, ?_⟩;conv => whnf
   rw [e1];refine hK _ ?_;clear hK K;refine W.ret ?_;conv => whnf
   refine ⟨.v (.bool (bP (xU p n xs))), ?_, trivial, rfl⟩;show decide (cf xs (xs.length - 1) ≠ 0) = bP (xU p n xs)
   by_cases hc : cf xs (xs.length - 1) ≠ 0
   ·rw [decide_eq_true hc, zi (hR.2 ⟨hr, by omega, h1, .inr hc⟩)]
   ·rw [decide_eq_false hc, ze λh => (hR.1 h).2.2.2.elim (λh3 => h2 (by omega)) hc]

/- extensions -/
theorem zbs {p k : Int} {l : List Int} (h : xU p k l) : Bd 1000000000 l := λj => by
 have hs := h.1.small
 by_cases hj : j < l.length
 ·have := h.2.2.1 j hj; omega
 ·rw [zN (by omega)]; omega
theorem zjh (p k : Int) (g : Option Nat) (l : List Int) (h : xU p k l) : FnV 80 [vE p k g l] (vK p none (nrm p l)) := by
 have hs := h.1.small;have h9 := h.2.1;refine zg (za [0, 1, 2]) Tryz.func80 rfl (by decide) Tryz.ntmps80 (Nat.le_of_ble_eq_true rfl) λbase => ?_;refine wrs λK hK => ?_;conv => whnf
 refine ⟨rfl, ?_⟩;conv => whnf
 intro b_1 hs_1 hh_1 hf_1;try dsimp only at hh_1 hf_1
 conv => whnf
 intro b_2 hs_2 hh_2 hf_2;try dsimp only at hh_2 hf_2
 conv => whnf
 refine hK _ ?_;clear hK K;refine W.rdS 9 (za _) follows (by rfl) λK hK => ?_;conv => whnf
 refine ⟨_, cxF ((zL p (by omega) (by omega) g l ((zbs h).le (by omega)) (by omega)).toV), ?_⟩;conv => whnf
 refine ⟨s23, ?_⟩;conv => whnf
 refine hK _ ?_;clear hK K;refine W.ret ?_;conv => whnf
 exact ⟨⟨trivial, trivial, trivial⟩, rfl⟩
theorem zaZ (p k : Int) (g : Option Nat) (l : List Int) (h : xU p k l) : FnV 85 [vE p k g l] (vK p none (nrm p l)) := by
 have hs := h.1.small;have h9 := h.2.1;refine zg (za [0, 1, 2]) Tryz.func85 rfl (by decide) Tryz.ntmps85 (Nat.le_of_ble_eq_true rfl) λbase => ?_;refine wrs λK hK => ?_;conv => whnf
 refine ⟨rfl, ?_⟩;conv => whnf
 intro b_1 hs_1 hh_1 hf_1;try dsimp only at hh_1 hf_1
 conv => whnf
 intro b_2 hs_2 hh_2 hf_2;try dsimp only at hh_2 hf_2
 conv => whnf
 refine hK _ ?_;clear hK K;refine W.rdS 9 (za _) follows (by rfl) λK hK => ?_;conv => whnf
 refine ⟨_, cxF ((xp p (by omega) (by omega) g l ((zbs h).le (by omega)) (by omega)).toV), ?_⟩;conv => whnf
 refine ⟨s23, ?_⟩;conv => whnf
 refine hK _ ?_;clear hK K;refine W.ret ?_;conv => whnf
 exact ⟨⟨trivial, trivial, trivial⟩, rfl⟩

def jn (p k : Int) (l : List Int) : Prop := xU p k l ∧ jg l ∧ IsFld p (nrm p l)

theorem jO (p k : Int) (g : Option Nat) (l : List Int) (hl : l.length <= 1000000000) : FnV 55 [vE p k g l] (.bool (bP (jn p k l))) := by
 by_cases h1 : xU p k l
 case neg =>
  refine zg (za [0, 1, 2]) Tryz.func55 rfl (by decide) Tryz.ntmps55 (Nat.le_of_ble_eq_true rfl) λbase => ?_;refine wrs λK hK => ?_;conv => whnf
  refine ⟨rfl, ?_⟩;conv => whnf
  intro b_1 hs_1 hh_1 hf_1;try dsimp only at hh_1 hf_1
  conv => whnf
  refine hK _ ?_;clear hK K;refine wrs λK hK => ?_;conv => whnf
  refine ⟨by show 0 + 2 <= 3; omega, ?_⟩;conv => whnf
  refine zb rfl ((xT p k g l hl).fa (ze h1)) λhs' hhs => ?_;try dsimp only at hhs
  conv => whnf
  refine hK _ ?_;clear hK K;refine W.ret ?_;conv => whnf
  exact ⟨.v (.bool (bP (jn p k l))), ze λh => h1 h.1, trivial, rfl⟩
 by_cases h2 : jg l
 case neg =>
  refine zg (za [0, 1, 2]) Tryz.func55 rfl (by decide) Tryz.ntmps55 (Nat.le_of_ble_eq_true rfl) λbase => ?_;refine wrs λK hK => ?_;conv => whnf
  refine ⟨rfl, ?_⟩;conv => whnf
  intro b_1 hs_1 hh_1 hf_1;try dsimp only at hh_1 hf_1
  conv => whnf
  refine hK _ ?_;clear hK K;refine wrs λK hK => ?_;conv => whnf
  refine ⟨by show 0 + 2 <= 3; omega, ?_⟩;conv => whnf
  refine zb rfl ((xT p k g l hl).tr (zi h1)) λhs' hhs => ?_;try dsimp only at hhs
  conv => whnf
  refine zb rfl ((k9 g l hl).fa (ze h2)) λhs' hhs => ?_;try dsimp only at hhs
  conv => whnf
  refine hK _ ?_;clear hK K;refine W.ret ?_;conv => whnf
  exact ⟨.v (.bool (bP (jn p k l))), ze λh => h2 h.2.1, trivial, rfl⟩
 have hnl : (nrm p l).length <= l.length := by
  have h3 := z0 (l.map (· % p));rw [List.length_map] at h3; exact h3
 refine zg (za [0, 1, 2]) Tryz.func55 rfl (by decide) Tryz.ntmps55 (Nat.le_of_ble_eq_true rfl) λbase => ?_;refine wrs λK hK => ?_;conv => whnf
 refine ⟨rfl, ?_⟩;conv => whnf
 intro b_1 hs_1 hh_1 hf_1;try dsimp only at hh_1 hf_1
 conv => whnf
 refine hK _ ?_;clear hK K;refine wrs λK hK => ?_;conv => whnf
 refine ⟨by show 0 + 2 <= 3; omega, ?_⟩;conv => whnf
 refine zb rfl ((xT p k g l hl).tr (zi h1)) λhs' hhs => ?_;try dsimp only at hhs
 conv => whnf
 refine zb rfl ((k9 g l hl).tr (zi h2)) λhs' hhs => ?_;try dsimp only at hhs
 conv => whnf
 refine zb rfl (zjh p k g l h1) λhs' hhs => ?_;try dsimp only at hhs
 conv => whnf
 refine zb rfl (zbP p none (nrm p l) (by omega)) λhs' hhs => ?_;try dsimp only at hhs
 conv => whnf
 refine hK _ ?_;clear hK K;refine W.ret ?_;conv => whnf
 exact ⟨.v (.bool (bP (jn p k l))), zct ⟨λh => ⟨h1, h2, h⟩, λh => h.2.2⟩, trivial, rfl⟩
theorem zU (p k : Int) (g : Option Nat) (l : List Int) (hl : l.length <= 1000000000) : FnV 86 [vE p k g l] (.bool (bP (jn p k l))) := by
 by_cases h1 : xU p k l
 case neg =>
  refine zg (za [0, 1, 2]) Tryz.func86 rfl (by decide) Tryz.ntmps86 (Nat.le_of_ble_eq_true rfl) λbase => ?_;refine wrs λK hK => ?_;conv => whnf
  refine ⟨rfl, ?_⟩;conv => whnf
  intro b_1 hs_1 hh_1 hf_1;try dsimp only at hh_1 hf_1
  conv => whnf
  refine hK _ ?_;clear hK K;refine wrs λK hK => ?_;conv => whnf
  refine ⟨by show 0 + 2 <= 3; omega, ?_⟩;conv => whnf
  refine zb rfl ((vp p k g l hl).fa (ze h1)) λhs' hhs => ?_;try dsimp only at hhs
  conv => whnf
  refine hK _ ?_;clear hK K;refine W.ret ?_;conv => whnf
  exact ⟨.v (.bool (bP (jn p k l))), ze λh => h1 h.1, trivial, rfl⟩
 by_cases h2 : jg l
 case neg =>
  refine zg (za [0, 1, 2]) Tryz.func86 rfl (by decide) Tryz.ntmps86 (Nat.le_of_ble_eq_true rfl) λbase => ?_;refine wrs λK hK => ?_;conv => whnf
  refine ⟨rfl, ?_⟩;conv => whnf
  intro b_1 hs_1 hh_1 hf_1;try dsimp only at hh_1 hf_1
  conv => whnf
  refine hK _ ?_;clear hK K;refine wrs λK hK => ?_;conv => whnf
  refine ⟨by show 0 + 2 <= 3; omega, ?_⟩;conv => whnf
  refine zb rfl ((vp p k g l hl).tr (zi h1)) λhs' hhs => ?_;try dsimp only at hhs
  conv => whnf
  refine zb rfl ((j6 g l hl).fa (ze h2)) λhs' hhs => ?_;try dsimp only at hhs
  conv => whnf
  refine hK _ ?_;clear hK K;refine W.ret ?_;conv => whnf
  exact ⟨.v (.bool (bP (jn p k l))), ze λh => h2 h.2.1, trivial, rfl⟩
 have hnl : (nrm p l).length <= l.length := by
  have h3 := z0 (l.map (· % p));rw [List.length_map] at h3; exact h3
 refine zg (za [0, 1, 2]) Tryz.func86 rfl (by decide) Tryz.ntmps86 (Nat.le_of_ble_eq_true rfl) λbase => ?_;refine wrs λK hK => ?_;conv => whnf
 refine ⟨rfl, ?_⟩;conv => whnf
 intro b_1 hs_1 hh_1 hf_1;try dsimp only at hh_1 hf_1
 conv => whnf
 refine hK _ ?_;clear hK K;refine wrs λK hK => ?_;conv => whnf
 refine ⟨by show 0 + 2 <= 3; omega, ?_⟩;conv => whnf
 refine zb rfl ((vp p k g l hl).tr (zi h1)) λhs' hhs => ?_;try dsimp only at hhs
 conv => whnf
 refine zb rfl ((j6 g l hl).tr (zi h2)) λhs' hhs => ?_;try dsimp only at hhs
 conv => whnf
 refine zb rfl (zaZ p k g l h1) λhs' hhs => ?_;try dsimp only at hhs
 conv => whnf
 refine zb rfl (zjc p none (nrm p l) (by omega)) λhs' hhs => ?_;try dsimp only at hhs
 conv => whnf
 refine hK _ ?_;clear hK K;refine W.ret ?_;conv => whnf
 exact ⟨.v (.bool (bP (jn p k l))), zct ⟨λh => ⟨h1, h2, h⟩, λh => h.2.2⟩, trivial, rfl⟩


theorem R1.V {f : Nat} {xs : List V} {l : List Int} (h : FnT Tryz.prog f xs (R1 l)) : FnV f xs (.ints none l) :=
 h.toV λ_ _ _ _ ⟨_, hx, hb⟩ => by subst hx; exact ⟨l, rfl, hb, rfl⟩

structure ExtP (p k M : Int) [SP p] [Pos M] (f : Poly M) (n : Nat) : Prop where
 rn : xU p k f.l
 hm : p ^ k.toNat = M
 mn : Mn f n
 n1 : 1 <= n
 n8 : n <= 8
 fld : IsFld p (im p f).l
 irr : Irr (im p f)
 pm : p ∣ M
 ple : p <= M
 m2 : 2 <= M
 m9 : M <= 1000000000

theorem zbg {p k M : Int} [Pos M] (hm : p ^ k.toNat = M) {x : List Int} (h : xU p k x) : ∃ X : Poly M, X.l = x := by
 refine ⟨⟨x, ⟨λc hx => ?_, λn hn => ?_⟩⟩, rfl⟩
 ·obtain ⟨i, hi, rfl⟩ := List.getElem_of_mem hx;have h1 := h.2.2.1 i hi;rw [yE hi, hm] at h1; omega
 ·rcases h.2.2.2 with h0 | h0
  ·omega
  ·rw [hn] at h0; exact h0

theorem zcv {p k : Int} {l : List Int} (h : jn p k l) : ∃ hp : p ∈ z7, letI := xt hp; ∃ (M : Int) (_ : Pos M) (f : Poly M) (n : Nat), f.l = l ∧ ExtP p k M f n := by
 obtain ⟨hr, hmon, hf⟩ := h;obtain ⟨s1, s2, s3, s4, s5, s6⟩ := hr.1.small;have hp : p ∈ z7 := of_decide_eq_true hr.1.1;refine ⟨hp, ?_⟩;letI := xt hp;obtain ⟨M, hm⟩ : ∃ M, p ^ k.toNat = M := ⟨_, rfl⟩
 rw [hm] at s5 s6;letI : Pos M := ⟨by omega⟩
 obtain ⟨f, rfl⟩ := zbg hm hr;have hfl : f.l.length = dg f := rfl;have h9 := hr.2.1;have h2 := hf.two;have hil : (im p f).l.length <= dg f := zdi f;have e1 : nrm p f.l = (im p f).l := rfl;rw [e1] at h2 hf;have h1 := hmon.1;have hpk : ∃ j, k.toNat = j + 1 := ⟨k.toNat - 1, by omega⟩
 obtain ⟨j, hj⟩ := hpk;have hpos := zaY (p := p) (by omega) j;refine ⟨M, ‹_›, f, dg f - 1, rfl, hr, hm, ⟨by omega, hmon.2⟩, by omega, by omega, hf, ?_, ⟨p ^ j, by rw [<- hm, hj, Int.pow_succ, Int.mul_comm]⟩, ?_, s5, s6⟩
 ·obtain ⟨hp', f', hf', hi, _⟩ := zol hf;have e2 : f' = im p f := zai hf';rw [<- e2]; exact hi
 ·have := jN (p := p) (by omega) (a := 1) (b := k.toNat) (by omega);rw [Int.pow_one, hm] at this; exact this

section
variable {p k M : Int} [SP p] [Pos M] {f : Poly M} {n : Nat}

theorem za0 (hm : M <= 1000000000) (X : Poly M) : Bd 999999999 X.l := λj => by have := jK X j; omega
theorem zpu (hm : M <= 1000000000) (X Y : Poly M) (hX : dg X <= 8) : Bd 9223372036854775807 (zu (v9 X.l Y.l)) := by
 refine Bd.trim λj => ?_;rw [zba];have := znF (A := 999999999) (B := 999999999) (by omega) (by omega) (n := dg X) (cf X.l) (cf Y.l) (za0 hm X) (λj hj => z3 hj) (za0 hm Y) j;have h2 : (dg X : Int) * (999999999 * 999999999) <= 8 * (999999999 * 999999999) := Int.mul_le_mul_of_nonneg_right (by omega) (by omega);omega

theorem zM {p M : Int} (h : xO p k) (hm : p ^ k.toNat = M) : FnV 69 [vR p k] (.int .i64 M) := (zfr p k h).mono (by rw [hm])
theorem zkq {p : Int} (h : xO p k) (hm : p ^ k.toNat = M) (m9 : M <= 1000000000) (g g' : Option Nat) (X Y : Poly M) (hX : dg X <= 8) (hY : dg Y <= 8) : FnI 140 [vR p k, .ints g X.l, .ints g' Y.l] (X * Y).l := by
 have hp := Pos.pos (p := M);have hXl : X.l.length = dg X := rfl;have hYl : Y.l.length = dg Y := rfl;have hml : (v9 X.l Y.l).length <= 2000 := by rw [v9, zK]; omega
 have hml2 := z0 (v9 X.l Y.l);refine zg (za [0, 1, 2, 3, 6]) Tryz.func140 rfl (by decide) Tryz.ntmps140 (Nat.le_of_ble_eq_true rfl) λbase => ?_;refine wrs λK hK => ?_;conv => whnf
 refine ⟨rfl, ?_⟩;conv => whnf
 intro b_1 hs_1 hh_1 hf_1;try dsimp only at hh_1 hf_1
 conv => whnf
 refine hK _ ?_;clear hK K;refine wrs λK hK => ?_;conv => whnf
 refine zb rfl (zM h hm) λhs' hhs => ?_;try dsimp only at hhs
 conv => whnf
 refine zr rfl (zaV g g' X.l Y.l 999999999 999999999 (by omega) (by omega) (za0 m9 X) (za0 m9 Y) (by rw [hXl]; omega) (by omega) (by omega)) λhs_2 b_2 hh_2 hf_2 => ?_;try dsimp only at hh_2 hf_2
 conv => whnf
 refine zr rfl (zdk M (by omega) (by omega) (some b_2) (zu (v9 X.l Y.l)) (zpu m9 X Y hX) (by omega)) λhs_3 b_3 hh_3 hf_3 => ?_;try dsimp only at hh_3 hf_3
 conv => whnf
 refine hK _ ?_;clear hK K;refine W.ret ?_;conv => whnf
 exact ⟨.ownI 2 _ ((X * Y).l), ⟨rfl, rfl, xf _ _⟩, trivial, _, rfl⟩

theorem zqe {a b : Int} (ha : 0 <= a ∧ a <= 999999999) (hb : 0 <= b ∧ b <= 999999999) : 0 <= a * b ∧ a * b <= 999999998000000001 :=
 ⟨Int.mul_nonneg ha.1 hb.1, by have := Int.mul_le_mul ha.2 hb.2 hb.1 (by omega : (0 : Int) <= 999999999); omega⟩

def RQ (q r : List Int) : ki := λ_ _ x tb => ∃ b0 b1 : Nat, x = .tup [.rf b0 q.length, .rf b1 r.length, .int .i64 0] ∧ (q ≠ [] -> tb b0 = some q) ∧ (r ≠ [] -> tb b1 = some r)

theorem zkr {p : Int} (h : xO p k) (hm : p ^ k.toNat = M) (m9 : M <= 1000000000) (g g' : Option Nat) (F G : Poly M) (hF : dg F <= 1000) (hGn : Mn G n) (hn9 : n <= 1000) : FnT Tryz.prog 139 [vR p k, .ints g F.l, .ints g' G.l] (RQ (qtM F G).l (rdM F G).l) := by
 have hp := Pos.pos (p := M);have hFl : F.l.length = dg F := rfl;have hGl : G.l.length = dg G := rfl;have hG1 := hGn.1;have hmx : (max (0 : Int) ((dg F : Int) - dg G + 1)) = ((dg F + 1 - dg G : Nat) : Int) := by omega
 refine yU (zh [] [0, 1, 2, 3, 6, 7, 8, 9, 10, 11, 12, 13, 28, 42, 43, 44, 45, 1000000]) Tryz.func139 rfl (by decide) Tryz.ntmps139 (Nat.le_of_ble_eq_true rfl) (λbase => ?_) (Nat.le_of_ble_eq_true rfl);refine W.sw (c' := cx [0, 1, 2, 3, 6, 7, 8, 9, 10, 11, 12, 13, 28, 42, 43, 44, 45, 1000000]) ?_;refine wrs λK hK => ?_;conv => whnf
 refine ⟨rfl, ?_⟩;conv => whnf
 intro b_1 hs_1 hh_1 hf_1;try dsimp only at hh_1 hf_1
 conv => whnf
 refine hK _ ?_;clear hK K;refine wrs λK hK => ?_;conv => whnf
 refine zr rfl (zaU _ _ (by omega)) λhs_0 b_0 hh_0 hf_0 => ?_;try dsimp only at hh_0 hf_0
 conv => whnf
 refine hK _ ?_;clear hK K;refine wrs λK hK => ?_;conv => whnf
 rw [hFl, hGl];refine ⟨oo, ?_⟩;conv => whnf
 refine ⟨oo, ?_⟩;conv => whnf
 rw [hmx];refine ⟨rfl, ?_⟩;conv => whnf
 refine ⟨oo, ?_⟩;conv => whnf
 generalize hnq : dg F + 1 - dg G = nq;rw [Int.toNat_natCast];intro b_q hs_q hh_q hf_q;try dsimp only at hh_q hf_q
 conv => whnf
 refine hK _ ?_;clear hK K;refine W.seqK λK1 hK1 => wrs λK hK => ?_;conv => whnf
 rw [List.length_replicate];refine ⟨oo, ?_⟩;conv => whnf
 refine hK _ (W.block (W.invA (λm e => ∃ (j b b' : Nat) (r q : List Int), j <= nq ∧ DivN M F G nq j r q ∧ m = j ∧ e = [(vt, .tab λ_ => none), (2, .v (.ints g' G.l)), (3, .ownB b_1 (vR p k)), (9, .ownI 2 b r), (10, .ownI 2 b' q), (11, .v (.int .i64 ((j : Int) - 1)))]) ⟨nq, b_0, b_q, F.l, List.replicate nq 0, Nat.le_refl _, DivN.start F G (by omega), rfl, rfl⟩ ?_));clear hK K;rintro m e ⟨j', b, b', r, q, hk, hd, hme, rfl⟩;refine W.seqK λK7 hK7 => wrs λK hK => ?_;conv => whnf
 refine hK _ (W.cond ⟨λh5 => ?_, λh5 => ?_⟩) <;> clear hK K <;> (first | replace h5 := of_decide_eq_true h5 | replace h5 := of_decide_eq_false h5)
 ·refine W.skip (hK7 _ ?_);clear hK7 K7;refine W.seqK λK8 hK8 => W.block ?_;obtain ⟨j, rfl⟩ : ∃ j, j' = j + 1 := ⟨j' - 1, by omega⟩
  have hrl := hd.rl;have hql := hd.ql;have e1 : (((j + 1 : Nat) : Int) - 1) = j := by omega
  have e2 : ((j : Int) + dg G - 1).toNat = j + dg G - 1 := by omega
  rw [e1];have h1 := hd.rr (j + dg G - 1);generalize hc : cf r (j + dg G - 1) = c at h1;have hc2 : r.getD (j + dg G - 1) 0 = c := hc;refine wrs λK hK => ?_;conv => whnf
  rw [hGl];refine ⟨oo, ?_⟩;conv => whnf
  refine ⟨oo, ?_⟩;conv => whnf
  refine ⟨oo, ?_⟩;conv => whnf
  rw [e2, hc2];refine ⟨oo, ?_⟩;conv => whnf
  rw [Int.toNat_natCast];refine hK _ ?_;clear hK K;refine wrs λK hK => ?_;conv => whnf
  rw [hGl];refine hK _ (W.block (W.invE (λm e => ∃ (i b : Nat) (o : List Int), i <= dg G ∧ o.length = dg F ∧ (∀ x, cf o x = if j <= x ∧ x < j + i then (cf r x - c * cf G.l (x - j)) % M else cf r x) ∧ m = dg G - i ∧ e = [(vt, .tab λ_ => none), (2, .v (.ints g' G.l)), (3, .ownB b_1 (vR p k)), (9, .ownI 2 b o), (10, .ownI 2 b' (q.set j c)), (11, .v (.int .i64 j)), (42, .v (.ints g' G.l)), (43, .v (.int .i64 (dg G))), (44, .v (.int .i64 i))]) _ _ ⟨0, b, r, Nat.zero_le _, hrl, λx => by rw [if_neg (by omega)], rfl, rfl⟩ (by dsimp only; omega) (by repeat' first | refine And.intro ?_ ?_ | exact trivial | rfl | omega | assumption | exact λ_ _ h => h) ?_));clear hK K b;rintro m' e ⟨i, b, o, h5, h6, h7, hm', rfl⟩;refine wrs λK hK => ?_;conv => whnf
  refine hK _ ?_;clear hK K;refine W.seqK λK7 hK7 => W.cond ⟨λh8 => ?_, λh8 => ?_⟩ <;> (first | replace h8 := of_decide_eq_true h8 | replace h8 := of_decide_eq_false h8)
  ·refine W.skip (hK7 _ ?_);clear hK7 K7;refine W.seqK λK9 hK9 => W.block ?_;have h8 : i < dg G := by omega
   refine wrs λK hK => ?_;conv => whnf
   refine ⟨oo, ?_⟩;conv => whnf
   rw [Int.toNat_natCast];refine hK _ ?_;clear hK K;obtain ⟨h9, h10⟩ := zaN (p := M) (c := c) (g := cf G.l) (r := r) (o := o) (k := j) (i := i) h6 (by omega) h7;have h11 := hd.rr (j + i);have h12 := jK G i;have h13 := zqe (a := c) (b := cf G.l i) (by omega) (by omega);have e4 : ((j : Int) + i).toNat = j + i := by omega
   have e5 : (q.set j c).getD j 0 = c := by
    have := z4 (l := q) (i := j) (by omega) c j;rw [if_pos rfl] at this; exact this
   refine W.draw (za _) follows (by rfl) ?_;conv => whnf
   refine ⟨oo, ?_⟩;conv => whnf
   refine ⟨oo, ?_⟩;conv => whnf
   refine ⟨oo, ?_⟩;conv => whnf
   rw [e4];refine ⟨⟨by omega, by simp; omega⟩, ?_⟩;conv => whnf
   rw [Int.toNat_natCast, e5];refine ⟨by show _ <= c * cf G.l i ∧ c * cf G.l i <= _; omega, ?_⟩;conv => whnf
   refine ⟨by show _ <= cf o (j + i) - c * cf G.l i ∧ cf o (j + i) - c * cf G.l i <= _; omega, ?_⟩;conv => whnf
   refine ⟨_, cxF (zM h hm), ?_⟩;conv => whnf
   refine ⟨_, cxF (k7 _ M (by omega) (by show _ <= cf o (j + i) - c * cf G.l i ∧ cf o (j + i) - c * cf G.l i <= _; omega) (by omega)), ?_⟩;conv => whnf
   refine ⟨oo, ?_⟩;conv => whnf
   refine hK9 _ ?_;clear hK9 K9;refine wrg ?_;conv => whnf
   refine ⟨oo, ?_⟩;conv => whnf
   exact zm ⟨i + 1, b, o.set (j + i) ((cf o (j + i) - c * cf G.l i) % M), by omega, by simpa using h6, h10, rfl, rfl⟩
  ·obtain rfl : i = dg G := by omega
   refine W.exit (hK8 _ ?_);clear hK7 K7 hK8 K8;refine wrg ?_;conv => whnf
   refine ⟨oo, ?_⟩;conv => whnf
   exact zm ⟨j, b, b', o, q.set j c, by omega, hd.step hGn (by omega) c hc.symm (by omega) h7, rfl, rfl⟩
 ·refine W.exit (hK1 _ ?_);clear hK7 K7 hK1 K1;obtain rfl : j' = 0 := by omega
  obtain ⟨h1, h2⟩ := hd.fin hGn;have hrl := hd.rl;have hql := hd.ql;refine wrs λK hK => ?_;conv => whnf
  refine zr rfl (vP _ _ (by omega)) λhs_2 b_2 hh_2 hf_2 => ?_;try dsimp only at hh_2 hf_2
  conv => whnf
  refine zr rfl (vP _ _ (by omega)) λhs_3 b_3 hh_3 hf_3 => ?_;try dsimp only at hh_3 hf_3
  conv => whnf
  refine hK _ ?_;clear hK K;rw [h1, h2];rw [h1] at hf_2;rw [h2] at hf_3;have hd : (qtM F G).l ≠ [] -> (rdM F G).l ≠ [] -> b_2 ≠ b_3 := λe1 e2 => by have := hf_2 e1; have := hf_3 e2; omega
  refine W.give 6 λK hK => ?_;conv => whnf
  refine hK _ ?_;clear hK K;refine W.give 7 λK hK => ?_;conv => whnf
  refine hK _ ?_;clear hK K;refine W.ret ?_;conv => whnf
  refine ⟨.v (.rf b_2 (qtM F G).l.length), rfl, trivial, .v (.rf b_3 (rdM F G).l.length), rfl, trivial, .v (.int .i64 0), ⟨rfl, rfl⟩, trivial, b_2, b_3, rfl, λh => ?_, λh => zI _ _ h⟩
  by_cases h3 : (rdM F G).l = []
  ·rw [h3]; exact zI _ _ h
  ·exact (zjb _ _ (.inr (hd h h3))).trans (zI _ _ h)

theorem zfs (he : ExtP p k M f n) (g g1 g2 : Option Nat) (X Y : Poly M) (hX : dg X <= n) (hY : dg Y <= n) : FnT Tryz.prog 77 [vE p k g f.l, .ints g1 X.l, .ints g2 Y.l] (R1 (rdM (X * Y) f).l) := by
 have h8 := he.n8;have h1 := y0 X Y;refine yU (zh [] [0, 1, 2, 3, 6, 8, 1000000]) Tryz.func77 rfl (by decide) Tryz.ntmps77 (Nat.le_of_ble_eq_true rfl) (λbase => ?_) (Nat.le_of_ble_eq_true rfl);refine W.rs (zh _ _) (by rfl) λK hK => ?_;conv => whnf
 refine ⟨rfl, ?_⟩;conv => whnf
 intro b_1 hs_1 hh_1 hf_1;try dsimp only at hh_1 hf_1
 conv => whnf
 refine hK _ ?_;clear hK K;refine W.sw (c' := cxt [139] [0, 1, 2, 3, 6, 8, 1000000]) ?_;refine W.rdW 9 8 (zh _ _) follows (by rfl) (by kernel_rfl) λK hK => ?_;conv => whnf
 refine ⟨by show 0 + 2 <= 3; omega, ?_⟩;conv => whnf
 refine ⟨by show 0 + 2 <= 3; omega, ?_⟩;conv => whnf
 refine ⟨_, zcm ((zkq he.rn.1 he.hm he.m9 _ _ X Y (by omega) (by omega)).toV), ?_⟩;conv => whnf
 intro fu;refine Wany.one (cx := cxt [139] []) (zh [139] []) 9 (by rfl) (by kernel_rfl) (by rfl) (by rfl) ?_;conv => whnf
 refine ⟨_, cxT (zkr he.rn.1 he.hm he.m9 _ _ (X * Y) f (by omega) he.mn (by omega)), λlo_r hi_r hs_r x_r tn_r tb_r hl1_r hl2_r _ hp_r hf_r hn_r ho_r => ?_⟩;try dsimp only at hl1_r hl2_r
 obtain ⟨b0, b1, rfl, hq0, hq1⟩ := hp_r;conv => whnf
 refine Wany.take (cx := cxt [139] []) (zh [139] []) 10 (by rfl) (by rfl) (λd hd => by injection hd with hd; subst hd; decide) (by kernel_rfl) (by kernel_rfl) (by kernel_rfl) (by rfl) ?_;conv => whnf
 refine Wany.take (cx := cxt [139] []) (zh [139] []) 11 (by rfl) (by rfl) (λd hd => by injection hd with hd; subst hd; decide) (by kernel_rfl) (by kernel_rfl) (by kernel_rfl) (by rfl) ?_;conv => whnf
 refine Wany.take (cx := cxt [139] []) (zh [139] []) 12 (by rfl) (by rfl) (λd hd => by injection hd with hd; subst hd; decide) (by kernel_rfl) (by kernel_rfl) (by kernel_rfl) (by rfl) ?_;conv => whnf
 refine Wany.take (cx := cxt [139] []) (zh [139] []) 13 (by rfl) (by rfl) (λd hd => by injection hd with hd; subst hd; decide) (by kernel_rfl) (by kernel_rfl) (by kernel_rfl) (by rfl) ?_;conv => whnf
 refine Wany.take (cx := cxt [139] []) (zh [139] []) 14 (by rfl) (by rfl) (λd hd => by injection hd with hd; subst hd; decide) (by kernel_rfl) (by kernel_rfl) (by kernel_rfl) (by rfl) ?_;conv => whnf
 refine Wany.take (cx := cxt [139] []) (zh [139] []) 15 (by rfl) (by rfl) (λd hd => by injection hd with hd; subst hd; decide) (by kernel_rfl) (by kernel_rfl) (by kernel_rfl) (by rfl) ?_;conv => whnf
 refine Wany.take (cx := cxt [139] []) (zh [139] []) 16 (by rfl) (by rfl) (λd hd => by injection hd with hd; subst hd; decide) (by kernel_rfl) (by kernel_rfl) (by kernel_rfl) (by rfl) ?_;conv => whnf
 refine wd1 (hK _ ?_);clear hK K fu;refine W.rs (zh _ _) (by rfl) λK hK => ?_;conv => whnf
 refine hK _ ?_;clear hK K;refine W.ret ?_;conv => whnf
 exact ⟨.v (.rf b1 (rdM (X * Y) f).l.length), rfl, trivial, b1, rfl, λh => hn_r _ _ (hq1 h)⟩
theorem zbh (he : ExtP p k M f n) (g g1 g2 : Option Nat) (X Y : Poly M) (hX : dg X <= n) (hY : dg Y <= n) : FnV 77 [vE p k g f.l, .ints g1 X.l, .ints g2 Y.l] (.ints none (rdM (X * Y) f).l) :=
 R1.V (zfs he g g1 g2 X Y hX hY)

/- the same in the reference -/
theorem zhD (m9 : M <= 1000000000) (g g' : Option Nat) (F G : Poly M) (hF : dg F <= 1000) (hGn : Mn G n) (hn9 : n <= 1000) : FnV 141 [.ints g F.l, .ints g' G.l, .int .i64 M] (.tup [.ints none (qtM F G).l, .ints none (rdM F G).l]) := by
 have hp := Pos.pos (p := M);have hFl : F.l.length = dg F := rfl;have hGl : G.l.length = dg G := rfl;have hG1 := hGn.1;have hmx : (max (0 : Int) ((dg F : Int) - dg G + 1)) = ((dg F + 1 - dg G : Nat) : Int) := by omega
 refine zg (za [0, 1, 2, 6, 7, 8, 9, 10, 11, 12, 27, 45]) Tryz.func141 rfl (by decide) Tryz.ntmps141 (Nat.le_of_ble_eq_true rfl) λbase => ?_;refine wrs λK hK => ?_;conv => whnf
 refine hK _ ?_;clear hK K;refine wrs λK hK => ?_;conv => whnf
 refine zr rfl (zfd _ _ (by omega)) λhs_0 b_0 hh_0 hf_0 => ?_;try dsimp only at hh_0 hf_0
 conv => whnf
 refine hK _ ?_;clear hK K;refine wrs λK hK => ?_;conv => whnf
 rw [hFl, hGl];refine ⟨oo, ?_⟩;conv => whnf
 refine ⟨oo, ?_⟩;conv => whnf
 rw [hmx];refine ⟨rfl, ?_⟩;conv => whnf
 refine ⟨oo, ?_⟩;conv => whnf
 generalize hnq : dg F + 1 - dg G = nq;rw [Int.toNat_natCast];intro b_q hs_q hh_q hf_q;try dsimp only at hh_q hf_q
 conv => whnf
 refine hK _ ?_;clear hK K;refine W.seqK λK1 hK1 => wrs λK hK => ?_;conv => whnf
 rw [List.length_replicate];refine ⟨oo, ?_⟩;conv => whnf
 refine hK _ (W.block (W.invA (λm e => ∃ (j b b' : Nat) (r q : List Int), j <= nq ∧ DivN M F G nq j r q ∧ m = j ∧ e = [(1, .v (.ints g' G.l)), (2, .v (.int .i64 M)), (8, .ownI 2 b r), (9, .ownI 2 b' q), (10, .v (.int .i64 ((j : Int) - 1)))]) ⟨nq, b_0, b_q, F.l, List.replicate nq 0, Nat.le_refl _, DivN.start F G (by omega), rfl, rfl⟩ ?_));clear hK K;rintro m e ⟨j', b, b', r, q, hk, hd, hm, rfl⟩;refine W.seqK λK7 hK7 => wrs λK hK => ?_;conv => whnf
 refine hK _ (W.cond ⟨λh5 => ?_, λh5 => ?_⟩) <;> clear hK K <;> (first | replace h5 := of_decide_eq_true h5 | replace h5 := of_decide_eq_false h5)
 ·refine W.skip (hK7 _ ?_);clear hK7 K7;refine W.seqK λK8 hK8 => W.block ?_;obtain ⟨j, rfl⟩ : ∃ j, j' = j + 1 := ⟨j' - 1, by omega⟩
  have hrl := hd.rl;have hql := hd.ql;have e1 : (((j + 1 : Nat) : Int) - 1) = j := by omega
  have e2 : ((j : Int) + dg G - 1).toNat = j + dg G - 1 := by omega
  rw [e1];have h1 := hd.rr (j + dg G - 1);generalize hc : cf r (j + dg G - 1) = c at h1;have hc2 : r.getD (j + dg G - 1) 0 = c := hc;refine wrs λK hK => ?_;conv => whnf
  rw [hGl];refine ⟨oo, ?_⟩;conv => whnf
  refine ⟨oo, ?_⟩;conv => whnf
  refine ⟨oo, ?_⟩;conv => whnf
  rw [e2, hc2];refine hK _ ?_;clear hK K;refine wrs λK hK => ?_;conv => whnf
  refine ⟨oo, ?_⟩;conv => whnf
  rw [Int.toNat_natCast];refine hK _ ?_;clear hK K;refine wrs λK hK => ?_;conv => whnf
  refine hK _ (W.block (W.invE (λm e => ∃ (i b : Nat) (o : List Int), i <= dg G ∧ o.length = dg F ∧ (∀ x, cf o x = if j <= x ∧ x < j + i then (cf r x - c * cf G.l (x - j)) % M else cf r x) ∧ m = dg G - i ∧ e = [(1, .v (.ints g' G.l)), (2, .v (.int .i64 M)), (8, .ownI 2 b o), (9, .ownI 2 b' (q.set j c)), (10, .v (.int .i64 j)), (11, .v (.int .i64 c)), (12, .v (.int .i64 i))]) _ _ ⟨0, b, r, Nat.zero_le _, hrl, λx => by rw [if_neg (by omega)], rfl, rfl⟩ (by dsimp only; omega) (by repeat' first | refine And.intro ?_ ?_ | exact trivial | rfl | omega | assumption | exact λ_ _ h => h) ?_));clear hK K b;rintro m' e ⟨i, b, o, h5, h6, h7, hm', rfl⟩;refine W.seqK λK7 hK7 => wrs λK hK => ?_;conv => whnf
  refine hK _ (W.cond ⟨λh8 => ?_, λh8 => ?_⟩) <;> clear hK K <;> (first | replace h8 := of_decide_eq_true h8 | replace h8 := of_decide_eq_false h8)
  ·refine W.skip (hK7 _ ?_);clear hK7 K7;refine W.seqK λK9 hK9 => W.block ?_;have h8 : i < dg G := by omega
   obtain ⟨h9, h10⟩ := zaN (p := M) (c := c) (g := cf G.l) (r := r) (o := o) (k := j) (i := i) h6 (by omega) h7;have h11 := hd.rr (j + i);have h12 := jK G i;have h13 := zqe (a := c) (b := cf G.l i) (by omega) (by omega);have e4 : ((j : Int) + i).toNat = j + i := by omega
   refine W.draw (za _) follows (by rfl) ?_;conv => whnf
   refine ⟨oo, ?_⟩;conv => whnf
   refine ⟨oo, ?_⟩;conv => whnf
   refine ⟨oo, ?_⟩;conv => whnf
   rw [e4];refine ⟨oo, ?_⟩;conv => whnf
   rw [Int.toNat_natCast];refine ⟨by show _ <= c * cf G.l i ∧ c * cf G.l i <= _; omega, ?_⟩;conv => whnf
   refine ⟨by show _ <= cf o (j + i) - c * cf G.l i ∧ cf o (j + i) - c * cf G.l i <= _; omega, ?_⟩;conv => whnf
   refine ⟨_, cxF (vI _ M (by omega) (by show _ <= cf o (j + i) - c * cf G.l i ∧ cf o (j + i) - c * cf G.l i <= _; omega) (by omega)), ?_⟩;conv => whnf
   refine ⟨oo, ?_⟩;conv => whnf
   refine hK9 _ ?_;clear hK9 K9;refine wrg ?_;conv => whnf
   refine ⟨oo, ?_⟩;conv => whnf
   exact zm ⟨i + 1, b, o.set (j + i) ((cf o (j + i) - c * cf G.l i) % M), by omega, by simpa using h6, h10, rfl, rfl⟩
  ·obtain rfl : i = dg G := by omega
   refine W.exit (hK8 _ ?_);clear hK7 K7 hK8 K8;refine wrg ?_;conv => whnf
   refine ⟨oo, ?_⟩;conv => whnf
   exact zm ⟨j, b, b', o, q.set j c, by omega, hd.step hGn (by omega) c hc.symm (by omega) h7, rfl, rfl⟩
 ·refine W.exit (hK1 _ ?_);clear hK7 K7 hK1 K1;obtain rfl : j' = 0 := by omega
  obtain ⟨h1, h2⟩ := hd.fin hGn;have hrl := hd.rl;have hql := hd.ql;refine wrs λK hK => ?_;conv => whnf
  refine zr rfl (yu _ _ (by omega)) λhs_2 b_2 hh_2 hf_2 => ?_;try dsimp only at hh_2 hf_2
  conv => whnf
  refine zr rfl (yu _ _ (by omega)) λhs_3 b_3 hh_3 hf_3 => ?_;try dsimp only at hh_3 hf_3
  conv => whnf
  refine hK _ ?_;clear hK K;rw [h1, h2];refine W.ret ?_;conv => whnf
  exact ⟨.v (.ints none (qtM F G).l), ⟨.inl rfl, rfl⟩, trivial, .v (.ints none (rdM F G).l), ⟨.inl rfl, rfl⟩, trivial, rfl⟩

theorem zks {M : Int} {f h : List Int} {o : List Int} {i k : Nat} (hn : o.length + 1 = f.length + h.length) (hi : i < f.length) (hk : k < h.length) (h3 : ∀ j, cf o j = part (cf f) (cf h) i k j % M) :
  i + k < o.length ∧ ∀ j, cf (o.set (i + k) ((cf o (i + k) + cf f i * cf h k) % M)) j = part (cf f) (cf h) i (k + 1) j % M := by
 refine ⟨by omega, λj => ?_⟩;rw [z4 (by omega), zbd]
 split
 ·rename_i hj; subst hj; rw [h3, Int.emod_add_emod]
 ·exact h3 j
theorem zmu {f h : Poly M} {o : List Int} (ho : ∀ j, cf o j = cv (cf f.l) (cf h.l) j % M) : zu o = (f * h).l := by
 refine yt (xc _) (f * h).ok.2 λi => ?_;rw [yJ, ho, yL]

theorem zft (m9 : M <= 1000000000) (g g' : Option Nat) (F H : Poly M) (hF : dg F <= 1000) (hH : dg H <= 1000) : FnI 142 [.ints g F.l, .ints g' H.l, .int .i64 M] (F * H).l := by
 have hp := Pos.pos (p := M);have hFl : F.l.length = dg F := rfl;have hHl : H.l.length = dg H := rfl
 have hz : (dg F = 0 ∨ dg H = 0) -> (F * H).l = [] := λh => by
  have h1 : F * H = 0 := h.elim (λh => by rw [zd.1 h]; exact zf [H] (by rfl)) λh => by rw [zd.1 h]; exact zf [F] (by rfl)
  rw [h1]; exact kd
 refine zg (za [0, 1, 2, 6, 7, 8, 9, 17, 29, 35]) Tryz.func142 rfl (by decide) Tryz.ntmps142 (Nat.le_of_ble_eq_true rfl) λbase => ?_;refine wrs λK hK => ?_;conv => whnf
 refine hK _ ?_;clear hK K;refine W.seqK λK1 hK1 => wrs λK hK => ?_;conv => whnf
 refine ⟨λh0 => ?_, λh0 => ?_⟩ <;> conv => whnf
 ·have h0 := of_decide_eq_true h0;refine hK _ (W.condT rfl ?_);clear hK K;refine wrs λK hK => ?_;conv => whnf
  refine ⟨⟨rfl, by decide⟩, ?_⟩;conv => whnf
  intro b_0 hs_0 hh_0 hf_0;try dsimp only at hh_0 hf_0
  conv => whnf
  refine hK _ ?_;clear hK K;refine W.ret ?_;conv => whnf
  exact ⟨.ownI 2 b_0 [], ⟨rfl, rfl, rfl⟩, trivial, _, by rw [hz (.inl (by omega))]⟩
 have h0 := of_decide_eq_false h0;refine hK _ (W.cond ⟨λh0' => ?_, λh0' => ?_⟩) <;> clear hK K
 ·have h0' := of_decide_eq_true h0';refine wrs λK hK => ?_;conv => whnf
  refine ⟨⟨rfl, by decide⟩, ?_⟩;conv => whnf
  intro b_0 hs_0 hh_0 hf_0;try dsimp only at hh_0 hf_0
  conv => whnf
  refine hK _ ?_;clear hK K;refine W.ret ?_;conv => whnf
  exact ⟨.ownI 2 b_0 [], ⟨rfl, rfl, rfl⟩, trivial, _, by rw [hz (.inr (by omega))]⟩
 have h0' := of_decide_eq_false h0';clear hz;refine W.skip (hK1 _ ?_);clear hK1 K1;refine wrs λK hK => ?_;conv => whnf
 refine ⟨oo, ?_⟩;conv => whnf
 refine ⟨oo, ?_⟩;conv => whnf
 refine ⟨rfl, ?_⟩;conv => whnf
 refine ⟨oo, ?_⟩;conv => whnf
 have hn : ((F.l.length : Int) + H.l.length - 1).toNat + 1 = F.l.length + H.l.length := by omega
 generalize hnn : ((F.l.length : Int) + H.l.length - 1).toNat = n at hn;intro b_0 hs_0 hh_0 hf_0;try dsimp only at hh_0 hf_0
 conv => whnf
 refine hK _ ?_;clear hK K;refine W.seqK λK1 hK1 => wrs λK hK => ?_;conv => whnf
 refine hK _ (W.block (W.invA (λm e => ∃ (i b : Nat) (o : List Int), i <= F.l.length ∧ o.length = n ∧ (∀ j, cf o j = part (cf F.l) (cf H.l) i 0 j % M) ∧ m = F.l.length - i ∧ e = [(0, .v (.ints g F.l)), (1, .v (.ints g' H.l)), (2, .v (.int .i64 M)), (7, .ownI 2 b o), (8, .v (.int .i64 i))]) ⟨0, b_0, List.replicate n 0, Nat.zero_le _, by simp, λj => by rw [zB, zbL]; rfl, rfl, rfl⟩ ?_));clear hK K;rintro m e ⟨i, b, o, h1, h2, h3, hm, rfl⟩;refine W.seqK λK7 hK7 => wrs λK hK => ?_;conv => whnf
 refine hK _ (W.cond ⟨λh4 => ?_, λh4 => ?_⟩) <;> clear hK K <;> (first | replace h4 := of_decide_eq_true h4 | replace h4 := of_decide_eq_false h4)
 ·refine W.skip (hK7 _ ?_);clear hK7 K7;refine W.seqK λK8 hK8 => W.block ?_;have h4 : i < F.l.length := by omega
  refine wrs λK hK => ?_;conv => whnf
  refine hK _ (W.block (W.invE (λm e => ∃ (k b : Nat) (o : List Int), k <= H.l.length ∧ o.length = n ∧ (∀ j, cf o j = part (cf F.l) (cf H.l) i k j % M) ∧ m = H.l.length - k ∧ e = [(0, .v (.ints g F.l)), (1, .v (.ints g' H.l)), (2, .v (.int .i64 M)), (7, .ownI 2 b o), (8, .v (.int .i64 i)), (9, .v (.int .i64 k))]) _ _ ⟨0, b, o, Nat.zero_le _, h2, h3, rfl, rfl⟩ (by dsimp only; omega) (by repeat' first | refine And.intro ?_ ?_ | exact trivial | rfl | omega | assumption) ?_));clear hK K;clear h3 h2 b o;rintro m' e ⟨k, b, o, h5, h2, h3, hm', rfl⟩;refine W.seqK λK7 hK7 => wrs λK hK => ?_;conv => whnf
  refine hK _ (W.cond ⟨λh6 => ?_, λh6 => ?_⟩) <;> clear hK K <;> (first | replace h6 := of_decide_eq_true h6 | replace h6 := of_decide_eq_false h6)
  ·refine W.skip (hK7 _ ?_);clear hK7 K7;refine W.seqK λK10 hK10 => W.block ?_;have h7 := zks (o := o) (by omega) h4 (by omega : k < H.l.length) h3;have h8 : 0 <= cf o (i + k) ∧ cf o (i + k) < M := by rw [h3]; exact ⟨Int.emod_nonneg _ (by omega), Int.emod_lt_of_pos _ (by omega)⟩
   have h9 := jK F i;have h10 := jK H k;have h11 := zqe (a := cf F.l i) (b := cf H.l k) (by omega) (by omega);have e1 : ((i : Int) + k).toNat = i + k := by omega
   have e2 : (cf o (i + k) + cf F.l i * cf H.l k).tmod M = (cf o (i + k) + cf F.l i * cf H.l k) % M := Int.tmod_eq_emod_of_nonneg (by omega);have e3 : (o.getD (i + k) 0 + F.l.getD i 0 * H.l.getD k 0).tmod M = (cf o (i + k) + cf F.l i * cf H.l k) % M := e2;refine W.draw (za _) follows (by rfl) ?_;conv => whnf
   refine ⟨oo, ?_⟩;conv => whnf
   refine ⟨oo, ?_⟩;conv => whnf
   refine ⟨oo, ?_⟩;conv => whnf
   refine ⟨oo, ?_⟩;conv => whnf
   refine ⟨oo, ?_⟩;conv => whnf
   rw [e1, Int.toNat_natCast, Int.toNat_natCast];refine ⟨by show _ <= cf F.l i * cf H.l k ∧ cf F.l i * cf H.l k <= _; omega, ?_⟩;conv => whnf
   refine ⟨by show _ <= cf o (i + k) + cf F.l i * cf H.l k ∧ cf o (i + k) + cf F.l i * cf H.l k <= _; omega, ?_⟩;conv => whnf
   refine ⟨by omega, ?_⟩;conv => whnf
   rw [e3];refine ⟨oo, ?_⟩;conv => whnf
   refine hK10 _ ?_;clear hK10 K10;refine wrg ?_;conv => whnf
   refine ⟨oo, ?_⟩;conv => whnf
   exact zm ⟨k + 1, b, o.set (i + k) ((cf o (i + k) + cf F.l i * cf H.l k) % M), by omega, by simpa using h2, h7.2, rfl, rfl⟩
  ·obtain rfl : k = H.l.length := by omega
   refine W.exit (hK8 _ ?_);clear hK7 K7 hK8 K8;refine wrg ?_;conv => whnf
   refine ⟨oo, ?_⟩;conv => whnf
   exact zm ⟨i + 1, b, o, by omega, h2, λj => by rw [h3 j]; congr 1; exact zeQ (λj hj => zN hj) i j, rfl, rfl⟩
 ·refine W.exit (hK1 _ ?_);clear hK7 K7 hK1 K1;obtain rfl : i = F.l.length := by omega
  refine wrs λK hK => ?_;conv => whnf
  refine zr rfl (yu _ _ (by omega)) λhs_1 b_1 hh_1 hf_1 => ?_;try dsimp only at hh_1 hf_1
  conv => whnf
  refine hK _ ?_;clear hK K;refine W.ret ?_;conv => whnf
  exact ⟨.ownI 2 _ ((F * H).l), ⟨rfl, rfl, zmu λj => by rw [h3 j]; congr 1; exact zeR (λj hj => zN hj) j⟩, trivial, _, rfl⟩

def RgL (M : Int) (l : List Int) : Prop := ∀ j, 0 <= cf l j ∧ cf l j < M
theorem zqf {s c : Int} (hs : s = 1 ∨ s = -1) (hc : 0 <= c ∧ c <= 999999999) : -999999999 <= s * c ∧ s * c <= 999999999 := by rcases hs with rfl | rfl <;> omega
theorem zji (m9 : M <= 1000000000) (g g' : Option Nat) (xs ys : List Int) (s : Int) (hx : RgL M xs) (hsy : ∀ j, -999999999999999 <= s * cf ys j ∧ s * cf ys j <= 999999999999999) (hxl : xs.length <= 1000) (hyl : ys.length <= 1000) : FnI 74 [.ints g xs, .ints g' ys, .int .i64 s, .int .i64 M] (nrm M (yK xs (zV s ys))) := by
 have hp := Pos.pos (p := M);have hmx : (max (xs.length : Int) (ys.length : Int)) = ((max xs.length ys.length : Nat) : Int) := by omega
 refine zg (za [0, 1, 2, 3, 8, 9, 10, 20, 26, 37]) Tryz.func74 rfl (by decide) Tryz.ntmps74 (Nat.le_of_ble_eq_true rfl) λbase => ?_;refine wrs λK hK => ?_;conv => whnf
 refine hK _ ?_;clear hK K;refine wrs λK hK => ?_;conv => whnf
 rw [hmx];refine ⟨rfl, ?_⟩;conv => whnf
 refine ⟨oo, ?_⟩;conv => whnf
 rw [Int.toNat_natCast];have hx2 : xs.length <= max xs.length ys.length := by omega
 have hy2 : ys.length <= max xs.length ys.length := by omega
 have hN : max xs.length ys.length <= 1000 := by omega
 generalize max xs.length ys.length = N at hx2 hy2 hN;intro b_0 hs_0 hh_0 hf_0;try dsimp only at hh_0 hf_0
 conv => whnf
 refine hK _ ?_;clear hK K;refine W.seqK λK1 hK1 => wrs λK hK => ?_;conv => whnf
 refine hK _ (W.block (W.invA (λm e => ∃ (i b : Nat) (o : List Int), i <= N ∧ o.length = N ∧ (∀ j, cf o j = if j < i then (cf xs j + s * cf ys j) % M else 0) ∧ m = N - i ∧ e = [(0, .v (.ints g xs)), (1, .v (.ints g' ys)), (2, .v (.int .i64 s)), (3, .v (.int .i64 M)), (9, .ownI 2 b o), (10, .v (.int .i64 i))]) ⟨0, b_0, List.replicate N 0, Nat.zero_le _, by simp, λj => by rw [zB, if_neg (by omega)], rfl, rfl⟩ ?_));clear hK K;rintro m e ⟨i, b, o, h1, h2, h3, hm, rfl⟩;refine W.seqK λK7 hK7 => wrs λK hK => ?_;conv => whnf
 refine hK _ (W.cond ⟨λh4 => ?_, λh4 => ?_⟩) <;> clear hK K <;> (first | replace h4 := of_decide_eq_true h4 | replace h4 := of_decide_eq_false h4)
 ·refine W.skip (hK7 _ ?_);clear hK7 K7;refine W.seqK λK8 hK8 => W.block ?_;have hxi := hx i;have hmi := hsy i;refine W.seqK λK9 hK9 => ?_
  have fin : ∀ (o' : List Int) (b' : Nat) (t : S), o'.length = N -> (∀ j, cf o' j = if j < i + 1 then (cf xs j + s * cf ys j) % M else 0) -> base <= t.hs ->
    zD t.env [(0, .v (.ints g xs)), (1, .v (.ints g' ys)), (2, .v (.int .i64 s)), (3, .v (.int .i64 M)), (9, .ownI 2 b' o'), (10, .v (.int .i64 i))] -> K8 t := by
   intro o' b' t h5 h6 h7 h8;refine hK8 _ (W.weak (t := ⟨[(0, .v (.ints g xs)), (1, .v (.ints g' ys)), (2, .v (.int .i64 s)), (3, .v (.int .i64 M)), (9, .ownI 2 b' o'), (10, .v (.int .i64 i))], base⟩) ⟨h7, h8⟩ (Nat.le_refl _) ?_);clear hK9 K9 hK8 K8;refine wrg ?_;conv => whnf
   refine ⟨oo, ?_⟩;conv => whnf
   exact zm ⟨i + 1, b', o', by omega, h5, h6, rfl, rfl⟩
  have mid : ∀ (o1 : List Int) (b1 : Nat) (t : S), o1.length = N -> (∀ j, cf o1 j = if j < i then (cf xs j + s * cf ys j) % M else if j = i then cf xs j else 0) -> base <= t.hs ->
    zD t.env [(0, .v (.ints g xs)), (1, .v (.ints g' ys)), (2, .v (.int .i64 s)), (3, .v (.int .i64 M)), (9, .ownI 2 b1 o1), (10, .v (.int .i64 i))] -> K9 t := by
   intro o1 b1 t h5 h6 h7 h8;refine hK9 _ (W.weak (t := ⟨[(0, .v (.ints g xs)), (1, .v (.ints g' ys)), (2, .v (.int .i64 s)), (3, .v (.int .i64 M)), (9, .ownI 2 b1 o1), (10, .v (.int .i64 i))], base⟩) ⟨h7, h8⟩ (Nat.le_refl _) ?_);clear hK9 K9 hK8 h3;have hoi : cf o1 i = cf xs i := by rw [h6, if_neg (by omega), if_pos rfl]
   refine wrs λK hK => ?_;conv => whnf
   refine hK _ (W.cond ⟨λh9 => ?_, λh9 => ?_⟩) <;> clear hK K
   ·have h9 := of_decide_eq_true h9;refine W.draw (za _) follows (by rfl) ?_;conv => whnf
    refine ⟨oo, ?_⟩;conv => whnf
    refine ⟨oo, ?_⟩;conv => whnf
    rw [Int.toNat_natCast];refine ⟨by show _ <= s * cf ys i ∧ s * cf ys i <= _; omega, ?_⟩;conv => whnf
    refine ⟨by show _ <= cf o1 i + s * cf ys i ∧ cf o1 i + s * cf ys i <= _; omega, ?_⟩;conv => whnf
    refine ⟨_, cxF (vI _ M (by omega) (by show _ <= cf o1 i + s * cf ys i ∧ cf o1 i + s * cf ys i <= _; omega) (by omega)), ?_⟩;conv => whnf
    refine ⟨oo, ?_⟩;conv => whnf
    refine fin (o1.set i ((cf o1 i + s * cf ys i) % M)) b1 _ (by simpa using h5) (λj => ?_) (by dsimp only; omega) ?_
    ·rw [z4 (by omega), h6 j]
     by_cases h10 : j = i
     ·subst h10; rw [if_pos rfl, if_pos (by omega), hoi]
     ·rw [if_neg h10]
      by_cases h11 : j < i
      ·rw [if_pos h11, if_pos (by omega)]
      ·rw [if_neg h11, if_neg h10, if_neg (by omega)]
    ·exact cvr
   ·have h9 := of_decide_eq_false h9;refine W.skip (fin o1 b1 _ h5 (λj => ?_) (by dsimp only; omega) ?_)
    ·rw [h6 j]
     by_cases h10 : j = i
     ·subst h10; rw [if_neg (by omega), if_pos rfl, if_pos (by omega), zN (l := ys) (by omega), Int.mul_zero, Int.add_zero, Int.emod_eq_of_lt hxi.1 hxi.2]
     ·by_cases h11 : j < i
      ·rw [if_pos h11, if_pos (by omega)]
      ·rw [if_neg h11, if_neg h10, if_neg (by omega)]
    ·exact cvr
  clear hK9 fin;refine wrs λK hK => ?_;conv => whnf
  refine hK _ (W.cond ⟨λh9 => ?_, λh9 => ?_⟩) <;> clear hK K
  ·have h9 := of_decide_eq_true h9;refine wrg ?_;conv => whnf
   refine ⟨oo, ?_⟩;conv => whnf
   refine ⟨oo, ?_⟩;conv => whnf
   rw [Int.toNat_natCast];refine mid (o.set i (cf xs i)) b _ (by simpa using h2) (λj => ?_) (by dsimp only; omega) ?_
   ·rw [z4 (by omega), h3 j]
    by_cases h10 : j = i
    ·subst h10; rw [if_pos rfl, if_neg (by omega), if_pos rfl]
    ·rw [if_neg h10]
     by_cases h11 : j < i
     ·rw [if_pos h11, if_pos h11]
     ·rw [if_neg h11, if_neg h11, if_neg h10]
   ·exact cvr
  ·have h9 := of_decide_eq_false h9;refine W.skip (mid o b _ h2 (λj => ?_) (by dsimp only; omega) ?_)
   ·rw [h3 j]
    by_cases h10 : j = i
    ·subst h10; rw [if_neg (by omega), if_neg (by omega), if_pos rfl, zN (l := xs) (by omega)]
    ·by_cases h11 : j < i
     ·rw [if_pos h11, if_pos h11]
     ·rw [if_neg h11, if_neg h11, if_neg h10]
   ·exact cvr
 ·obtain rfl : i = N := by omega
  refine W.exit (hK1 _ ?_);clear hK7 K7 hK1 K1;refine wrs λK hK => ?_;conv => whnf
  refine zr rfl (yu _ _ (by omega)) λhs_1 b_1 hh_1 hf_1 => ?_;try dsimp only at hh_1 hf_1
  conv => whnf
  refine hK _ ?_;clear hK K;refine W.ret ?_;conv => whnf
  refine ⟨.ownI 2 b_1 (zu o), ⟨rfl, rfl, rfl⟩, trivial, b_1, ?_⟩
  congr 1
  refine yt (xc _) (va _ _) λj => ?_;rw [yJ, h3, kS, y3, x9]
  split
  ·rfl
  ·rw [zN (l := xs) (by omega), zN (l := ys) (by omega)]; simp
theorem zc2 (m9 : M <= 1000000000) (g g' : Option Nat) (xs ys : List Int) (s : Int) (hs : s = 1 ∨ s = -1) (hx : RgL M xs) (hy : RgL M ys) (hxl : xs.length <= 1000) (hyl : ys.length <= 1000) : FnI 74 [.ints g xs, .ints g' ys, .int .i64 s, .int .i64 M] (nrm M (yK xs (zV s ys))) :=
 zji m9 g g' xs ys s hx (λj => by have := zqf hs (c := cf ys j) (by have := hy j; omega); omega) hxl hyl


theorem j7 (he : ExtP p k M f n) (g : Option Nat) : FnV 75 [vE p k g f.l] (.int .i64 M) := by
 obtain ⟨s1, s2, s3, s4, s5, s6⟩ := he.rn.1.small;have hm := he.hm;obtain ⟨j, rfl⟩ : ∃ j : Nat, k = j := ⟨k.toNat, by omega⟩
 rw [Int.toNat_natCast] at hm s6;have hmS : zdE p j = M := by unfold zdE; rw [if_pos s6, hm]
 refine zg (za [0, 1, 2]) Tryz.func75 rfl (by decide) Tryz.ntmps75 (Nat.le_of_ble_eq_true rfl) λbase => ?_;refine wrs λK hK => ?_;conv => whnf
 refine ⟨rfl, ?_⟩;conv => whnf
 intro b_1 hs_1 hh_1 hf_1;try dsimp only at hh_1 hf_1
 conv => whnf
 refine hK _ ?_;clear hK K;refine wrs λK hK => ?_;conv => whnf
 refine zb rfl (vQ p j (by omega) (by omega) (by omega)) λhs' hhs => ?_;try dsimp only at hhs
 conv => whnf
 rw [hmS];refine hK _ ?_;clear hK K;refine W.ret ?_;conv => whnf
 exact ⟨.v (.int .i64 M), ⟨rfl, rfl⟩, trivial, rfl⟩

theorem xh (he : ExtP p k M f n) (g g1 g2 : Option Nat) (X Y : Poly M) (hX : dg X <= n) (hY : dg Y <= n) : FnV 78 [vE p k g f.l, .ints g1 X.l, .ints g2 Y.l] (.ints none (rdM (X * Y) f).l) := by
 have h8 := he.n8;have h1 := y0 X Y;refine zg (za [0, 1, 2, 3, 6, 8]) Tryz.func78 rfl (by decide) Tryz.ntmps78 (Nat.le_of_ble_eq_true rfl) λbase => ?_;refine wrs λK hK => ?_;conv => whnf
 refine ⟨rfl, ?_⟩;conv => whnf
 intro b_1 hs_1 hh_1 hf_1;try dsimp only at hh_1 hf_1
 conv => whnf
 refine hK _ ?_;clear hK K;refine W.rdW 9 6 (za _) follows (by rfl) (by kernel_rfl) λK hK => ?_;conv => whnf
 refine ⟨_, cxF (j7 he g), ?_⟩;conv => whnf
 refine ⟨_, cxF ((zft he.m9 g1 g2 X Y (by omega) (by omega)).toV), ?_⟩;conv => whnf
 refine ⟨_, cxF (j7 he g), ?_⟩;conv => whnf
 intro fu;refine Wany.one (cx := cx []) (za []) 9 (by rfl) (by kernel_rfl) (by rfl) (by rfl) ?_;conv => whnf
 refine zb rfl (zhD he.m9 none _ (X * Y) f (by omega) he.mn (by omega)) λhs' hhs => ?_;try dsimp only at hhs
 conv => whnf
 refine Wany.take (cx := cx []) (za []) 10 (by rfl) (by rfl) (λd hd => by injection hd with hd; subst hd; decide) (by kernel_rfl) (by kernel_rfl) (by kernel_rfl) (by rfl) ?_;conv => whnf
 refine Wany.take (cx := cx []) (za []) 11 (by rfl) (by rfl) (λd hd => by injection hd with hd; subst hd; decide) (by kernel_rfl) (by kernel_rfl) (by kernel_rfl) (by rfl) ?_;conv => whnf
 refine Wany.take (cx := cx []) (za []) 12 (by rfl) (by rfl) (λd hd => by injection hd with hd; subst hd; decide) (by kernel_rfl) (by kernel_rfl) (by kernel_rfl) (by rfl) ?_;conv => whnf
 refine Wany.take (cx := cx []) (za []) 13 (by rfl) (by rfl) (λd hd => by injection hd with hd; subst hd; decide) (by kernel_rfl) (by kernel_rfl) (by kernel_rfl) (by rfl) ?_;conv => whnf
 refine Wany.take (cx := cx []) (za []) 14 (by rfl) (by rfl) (λd hd => by injection hd with hd; subst hd; decide) (by kernel_rfl) (by kernel_rfl) (by kernel_rfl) (by rfl) ?_;conv => whnf
 refine wd1 (hK _ ?_);clear hK K fu;refine wrs λK hK => ?_;conv => whnf
 refine hK _ ?_;clear hK K;refine W.ret ?_;conv => whnf
 exact ⟨.v (.ints none (rdM (X * Y) f).l), ⟨rfl, rfl⟩, trivial, rfl⟩
end


def vY (p k : Int) (l x : List Int) : Prop := xU p k x ∧ x.length < l.length

theorem zpv (p k : Int) (g g' gb : Option Nat) (l x : List Int) (hx : x.length <= 1000000000) : FnV 124 [.ints g' x, .box gb (vE p k g l)] (.bool (!(bP (vY p k l x)))) := by
 by_cases hm : xU p k x
 ·refine zg (za [0, 1, 3]) Tryz.func124 rfl (by decide) Tryz.ntmps124 (Nat.le_of_ble_eq_true rfl) λbase => ?_;refine wrs λK hK => ?_;conv => whnf
  refine hK _ ?_;clear hK K;refine wrs λK hK => ?_;conv => whnf
  refine ⟨by show 0 + 2 <= 3; omega, ?_⟩;conv => whnf
  refine zb rfl ((xT p k g' x hx).tr (zi hm)) λhs' hhs => ?_;try dsimp only at hhs
  conv => whnf
  refine hK _ ?_;clear hK K;refine W.ret ?_;conv => whnf
  exact ⟨.v (.bool (!(bP (vY p k l x)))), (by show decide ((l.length : Int) <= x.length) = !(bP _); by_cases h : x.length < l.length; (rw [decide_eq_false (by omega), zi ⟨hm, h⟩]; rfl); (rw [decide_eq_true (by omega), ze λh' => h h'.2]; rfl)), trivial, rfl⟩
 ·refine zg (za [0, 1, 3]) Tryz.func124 rfl (by decide) Tryz.ntmps124 (Nat.le_of_ble_eq_true rfl) λbase => ?_;refine wrs λK hK => ?_;conv => whnf
  refine hK _ ?_;clear hK K;refine wrs λK hK => ?_;conv => whnf
  refine ⟨by show 0 + 2 <= 3; omega, ?_⟩;conv => whnf
  refine zb rfl ((xT p k g' x hx).fa (ze hm)) λhs' hhs => ?_;try dsimp only at hhs
  conv => whnf
  refine hK _ ?_;clear hK K;refine W.ret ?_;conv => whnf
  exact ⟨.v (.bool (!(bP (vY p k l x)))), (by rw [ze λh => hm h.1]; rfl), trivial, rfl⟩
theorem za1 (p k : Int) (g g' : Option Nat) (l x : List Int) (hx : x.length <= 1000000000) : FnV 130 [vE p k g l, .ints g' x] (.bool (bP (vY p k l x))) := by
 by_cases hm : xU p k x
 ·refine zg (za [0, 1, 2, 4]) Tryz.func130 rfl (by decide) Tryz.ntmps130 (Nat.le_of_ble_eq_true rfl) λbase => ?_;refine wrs λK hK => ?_;conv => whnf
  refine ⟨rfl, ?_⟩;conv => whnf
  intro b_1 hs_1 hh_1 hf_1;try dsimp only at hh_1 hf_1
  conv => whnf
  refine hK _ ?_;clear hK K;refine wrs λK hK => ?_;conv => whnf
  refine ⟨by show 0 + 2 <= 3; omega, ?_⟩;conv => whnf
  refine zb rfl ((vp p k g' x hx).tr (zi hm)) λhs' hhs => ?_;try dsimp only at hhs
  conv => whnf
  refine hK _ ?_;clear hK K;refine W.ret ?_;conv => whnf
  exact ⟨.v (.bool (bP (vY p k l x))), (by show decide ((x.length : Int) < l.length) = bP _; by_cases h : x.length < l.length; (rw [decide_eq_true (by omega), zi ⟨hm, h⟩]); (rw [decide_eq_false (by omega), ze λh' => h h'.2])), trivial, rfl⟩
 ·refine zg (za [0, 1, 2, 4]) Tryz.func130 rfl (by decide) Tryz.ntmps130 (Nat.le_of_ble_eq_true rfl) λbase => ?_;refine wrs λK hK => ?_;conv => whnf
  refine ⟨rfl, ?_⟩;conv => whnf
  intro b_1 hs_1 hh_1 hf_1;try dsimp only at hh_1 hf_1
  conv => whnf
  refine hK _ ?_;clear hK K;refine wrs λK hK => ?_;conv => whnf
  refine ⟨by show 0 + 2 <= 3; omega, ?_⟩;conv => whnf
  refine zb rfl ((vp p k g' x hx).fa (ze hm)) λhs' hhs => ?_;try dsimp only at hhs
  conv => whnf
  refine hK _ ?_;clear hK K;refine W.ret ?_;conv => whnf
  exact ⟨.v (.bool (bP (vY p k l x))), ze λh => hm h.1, trivial, rfl⟩

noncomputable def z8 (p k : Int) (l : List Int) (n : Nat) (X : Nat -> List Int) : Int :=
 bif bP (jn p k l) then (bif bP (∀ i, i < n -> vY p k l (X i)) then 0 else 2) else 1
theorem zot {p k : Int} {l : List Int} {n : Nat} {X : Nat -> List Int} : bP (∃ i, i < n ∧ (λi => !(bP (vY p k l (X i)))) i = true) = !(bP (∀ i, i < n -> vY p k l (X i))) := by
 by_cases h : ∀ i, i < n -> vY p k l (X i)
 ·rw [zi h];refine ze ?_;rintro ⟨i, hi, h2⟩;have h2 : (!(bP (vY p k l (X i)))) = true := h2;rw [zi (h i hi)] at h2; cases h2
 ·rw [ze h];refine zi (Classical.byContradiction λh2 => h λi hi => Classical.byContradiction λh3 => h2 ⟨i, hi, ?_⟩);show (!(bP (vY p k l (X i)))) = true
  rw [ze h3]; rfl
theorem zfu {p k : Int} {l : List Int} {n : Nat} {X : Nat -> List Int} (h : z8 p k l n X = 0) : jn p k l ∧ ∀ i, i < n -> vY p k l (X i) := by
 unfold z8 at h
 by_cases hk : jn p k l
 ·rw [zi hk] at h
  by_cases h2 : ∀ i, i < n -> vY p k l (X i)
  ·exact ⟨hk, h2⟩
  ·rw [ze h2] at h; cases h
 ·rw [ze hk] at h; cases h
theorem zjj {p k : Int} {l : List Int} {n m : Nat} {X Y : Nat -> List Int} (h : (∀ i, i < n -> vY p k l (X i)) ↔ (∀ i, i < m -> vY p k l (Y i))) : z8 p k l n X = z8 p k l m Y := by
 unfold z8; rw [zct h]

theorem yQ (p k : Int) (g gs : Option Nat) (l : List Int) (n : Nat) (f : Nat -> V) (X : Nat -> List Int) (hn : n <= 100000000) (hl : l.length <= 1000000000) (hX : ∀ i, i < n -> (X i).length <= 1000000000) (hf : ∀ i, i < n -> ∃ g', f i = .ints g' (X i)) :
  FnV 61 [vE p k g l, .vals gs 1 n f] (.int .i64 (z8 p k l n X)) := by
 by_cases hk : jn p k l
 case neg =>
  refine zg (za [0, 1, 2, 4, 5, 9]) Tryz.func61 rfl (by decide) Tryz.ntmps61 (Nat.le_of_ble_eq_true rfl) λbase => ?_;refine wrs λK hK => ?_;conv => whnf
  refine ⟨rfl, ?_⟩;conv => whnf
  intro b_1 hs_1 hh_1 hf_1;try dsimp only at hh_1 hf_1
  conv => whnf
  refine hK _ ?_;clear hK K;refine W.seqK λK1 hK1 => W.block ?_;refine wrs λK hK => ?_;conv => whnf
  refine zb rfl ((jO p k g l hl).fa (ze hk)) λhs' hhs => ?_;try dsimp only at hhs
  conv => whnf
  refine hK _ (W.condT rfl ?_);clear hK K;refine wrs λK hK => ?_;conv => whnf
  refine hK _ ?_;clear hK K;refine W.ret ?_;conv => whnf
  exact ⟨.v (.int .i64 (z8 p k l n X)), ⟨rfl, by unfold z8; rw [ze hk]; rfl⟩, trivial, rfl⟩
 refine zg (za [0, 1, 2, 4, 5, 9]) Tryz.func61 rfl (by decide) Tryz.ntmps61 (Nat.le_of_ble_eq_true rfl) λbase => ?_;refine wrs λK hK => ?_;conv => whnf
 refine ⟨rfl, ?_⟩;conv => whnf
 intro b_1 hs_1 hh_1 hf_1;try dsimp only at hh_1 hf_1
 conv => whnf
 refine hK _ ?_;clear hK K;refine W.seqK λK1 hK1 => W.block ?_;refine wrs λK hK => ?_;conv => whnf
 refine zb rfl ((jO p k g l hl).tr (zi hk)) λhs' hhs => ?_;try dsimp only at hhs
 conv => whnf
 refine hK _ (W.condF rfl ?_);clear hK K;refine wrs λK hK => ?_;conv => whnf
 refine zb rfl (kJ gs n f 124 [.box none (vE p k g l)] (λi => !(bP (vY p k l (X i)))) hn (λi hi => by obtain ⟨g', h⟩ := hf i hi; exact ⟨_, _, h⟩) (λi hi => by obtain ⟨g', h⟩ := hf i hi; rw [h]; exact zpv p k g g' none l (X i) (hX i hi))) λhs' hhs => ?_;try dsimp only at hhs
 conv => whnf
 rw [zot];refine hK _ (W.cond ⟨λh => ?_, λh => ?_⟩) <;> clear hK K
 ·refine wrs λK hK => ?_;conv => whnf
  refine hK _ ?_;clear hK K;refine W.ret ?_;conv => whnf
  exact ⟨.v (.int .i64 (z8 p k l n X)), ⟨rfl, by unfold z8; rw [zi hk]; simp only [cond_true]; rw [show bP (∀ i, i < n -> vY p k l (X i)) = false by simpa using h]; rfl⟩, trivial, rfl⟩
 refine W.skip (hK1 _ ?_);clear hK1 K1;refine wrs λK hK => ?_;conv => whnf
 refine hK _ ?_;clear hK K;refine W.ret ?_;conv => whnf
 exact ⟨.v (.int .i64 (z8 p k l n X)), ⟨rfl, by unfold z8; rw [zi hk]; simp only [cond_true]; rw [show bP (∀ i, i < n -> vY p k l (X i)) = true by simpa using h]; rfl⟩, trivial, rfl⟩

theorem zbQ (p k : Int) (g g1 g2 : Option Nat) (l x y : List Int) (hl : l.length <= 1000000000) (hx : x.length <= 1000000000) (hy : y.length <= 1000000000) :
  FnV 64 [vE p k g l, .ints g1 x, .ints g2 y] (.int .i64 (z8 p k l 2 (two x y))) := by
 by_cases hk : jn p k l
 case neg =>
  refine zg (za [0, 1, 2, 3, 6, 9, 19]) Tryz.func64 rfl (by decide) Tryz.ntmps64 (Nat.le_of_ble_eq_true rfl) λbase => ?_;refine wrs λK hK => ?_;conv => whnf
  refine ⟨rfl, ?_⟩;conv => whnf
  intro b_1 hs_1 hh_1 hf_1;try dsimp only at hh_1 hf_1
  conv => whnf
  refine hK _ ?_;clear hK K;refine W.seqK λK1 hK1 => ?_;refine wrs λK hK => ?_;conv => whnf
  refine zb rfl ((zU p k g l hl).fa (ze hk)) λhs' hhs => ?_;try dsimp only at hhs
  conv => whnf
  refine hK _ (W.condT rfl ?_);clear hK K;refine wrs λK hK => ?_;conv => whnf
  refine hK _ ?_;clear hK K;refine W.ret ?_;conv => whnf
  exact ⟨.v (.int .i64 (z8 p k l 2 (two x y))), ⟨rfl, by unfold z8; rw [ze hk]; rfl⟩, trivial, rfl⟩
 by_cases h1 : vY p k l x
 case neg =>
  refine zg (za [0, 1, 2, 3, 6, 9, 19]) Tryz.func64 rfl (by decide) Tryz.ntmps64 (Nat.le_of_ble_eq_true rfl) λbase => ?_;refine wrs λK hK => ?_;conv => whnf
  refine ⟨rfl, ?_⟩;conv => whnf
  intro b_1 hs_1 hh_1 hf_1;try dsimp only at hh_1 hf_1
  conv => whnf
  refine hK _ ?_;clear hK K;refine W.seqK λK1 hK1 => ?_;refine wrs λK hK => ?_;conv => whnf
  refine zb rfl ((zU p k g l hl).tr (zi hk)) λhs' hhs => ?_;try dsimp only at hhs
  conv => whnf
  refine hK _ (W.condF rfl (W.skip (hK1 _ ?_)));clear hK K hK1 K1;refine W.seqK λK1 hK1 => ?_;refine wrs λK hK => ?_;conv => whnf
  refine zb rfl ((za1 p k g g1 l x hx).fa (ze h1)) λhs' hhs => ?_;try dsimp only at hhs
  conv => whnf
  refine hK _ (W.condT rfl ?_);clear hK K;refine wrs λK hK => ?_;conv => whnf
  refine hK _ ?_;clear hK K;refine W.ret ?_;conv => whnf
  exact ⟨.v (.int .i64 (z8 p k l 2 (two x y))), ⟨rfl, by unfold z8; rw [zi hk, ze λh => h1 (h 0 (by omega))]; rfl⟩, trivial, rfl⟩
 by_cases h2 : vY p k l y
 case neg =>
  refine zg (za [0, 1, 2, 3, 6, 9, 19]) Tryz.func64 rfl (by decide) Tryz.ntmps64 (Nat.le_of_ble_eq_true rfl) λbase => ?_;refine wrs λK hK => ?_;conv => whnf
  refine ⟨rfl, ?_⟩;conv => whnf
  intro b_1 hs_1 hh_1 hf_1;try dsimp only at hh_1 hf_1
  conv => whnf
  refine hK _ ?_;clear hK K;refine W.seqK λK1 hK1 => ?_;refine wrs λK hK => ?_;conv => whnf
  refine zb rfl ((zU p k g l hl).tr (zi hk)) λhs' hhs => ?_;try dsimp only at hhs
  conv => whnf
  refine hK _ (W.condF rfl (W.skip (hK1 _ ?_)));clear hK K hK1 K1;refine W.seqK λK1 hK1 => ?_;refine wrs λK hK => ?_;conv => whnf
  refine zb rfl ((za1 p k g g1 l x hx).tr (zi h1)) λhs' hhs => ?_;try dsimp only at hhs
  conv => whnf
  refine zb rfl ((za1 p k g g2 l y hy).fa (ze h2)) λhs' hhs => ?_;try dsimp only at hhs
  conv => whnf
  refine hK _ (W.condT rfl ?_);clear hK K;refine wrs λK hK => ?_;conv => whnf
  refine hK _ ?_;clear hK K;refine W.ret ?_;conv => whnf
  exact ⟨.v (.int .i64 (z8 p k l 2 (two x y))), ⟨rfl, by unfold z8; rw [zi hk, ze λh => h2 (h 1 (by omega))]; rfl⟩, trivial, rfl⟩
 refine zg (za [0, 1, 2, 3, 6, 9, 19]) Tryz.func64 rfl (by decide) Tryz.ntmps64 (Nat.le_of_ble_eq_true rfl) λbase => ?_;refine wrs λK hK => ?_;conv => whnf
 refine ⟨rfl, ?_⟩;conv => whnf
 intro b_1 hs_1 hh_1 hf_1;try dsimp only at hh_1 hf_1
 conv => whnf
 refine hK _ ?_;clear hK K;refine W.seqK λK1 hK1 => ?_;refine wrs λK hK => ?_;conv => whnf
 refine zb rfl ((zU p k g l hl).tr (zi hk)) λhs' hhs => ?_;try dsimp only at hhs
 conv => whnf
 refine hK _ (W.condF rfl (W.skip (hK1 _ ?_)));clear hK K hK1 K1;refine W.seqK λK1 hK1 => ?_;refine wrs λK hK => ?_;conv => whnf
 refine zb rfl ((za1 p k g g1 l x hx).tr (zi h1)) λhs' hhs => ?_;try dsimp only at hhs
 conv => whnf
 refine zb rfl ((za1 p k g g2 l y hy).tr (zi h2)) λhs' hhs => ?_;try dsimp only at hhs
 conv => whnf
 refine hK _ (W.condF rfl (W.skip (hK1 _ ?_)));clear hK K hK1 K1;refine wrs λK hK => ?_;conv => whnf
 refine hK _ ?_;clear hK K;refine W.ret ?_;conv => whnf
 exact ⟨.v (.int .i64 (z8 p k l 2 (two x y))), ⟨rfl, by unfold z8; rw [zi hk, zi (λi hi => by match i, hi with | 0, _ => exact h1 | 1, _ => exact h2)]; rfl⟩, trivial, rfl⟩
noncomputable def zfv (p k : Int) (l x : List Int) : Int := z8 p k l 1 (λ_ => x)
theorem zmv (p k : Int) (l x : List Int) : z8 p k l 2 (two x x) = zfv p k l x :=
 zjj ⟨λh i hi => h 0 (by omega), λh i hi => by match i, hi with | 0, _ => exact h 0 (by omega) | 1, _ => exact h 0 (by omega)⟩
theorem zdv (p k : Int) (g g1 g2 : Option Nat) (l x : List Int) (hl : l.length <= 1000000000) (hx : x.length <= 1000000000) : FnV 64 [vE p k g l, .ints g1 x, .ints g2 x] (.int .i64 (zfv p k l x)) :=
 (zbQ p k g g1 g2 l x x hl hx hx).mono (by rw [zmv])
theorem zmw {p k : Int} {l x : List Int} (h : zfv p k l x = 0) : jn p k l ∧ vY p k l x := by
 obtain ⟨h1, h2⟩ := zfu h;exact ⟨h1, h2 0 (by omega)⟩




theorem zal (kp kq : Int) (kl x y : List Int) (_ : inR kp) (_ : inR kq) (hkl : kl.length <= 1048576) (hx : x.length <= 1048576) (hy : y.length <= 1048576) : ∃ (r0 : List Int) (r1 : Int),
  (∀ g0 g1 g2 : Option Nat, FnV 48 [vE kp kq g0 kl, .ints g1 x, .ints g2 y] (.tup [.ints none r0, .int .i64 r1])) ∧ (∀ g0 g1 g2 : Option Nat, FnT Tryz.prog 32 [vE kp kq g0 kl, .ints g1 x, .ints g2 y] (RT r0 r1)) ∧ r0.length <= 1000000 ∧ r1 = z8 kp kq kl 2 (two x y) ∧ (r1 = 0 -> ∀ hp : kp ∈ z7, letI := xt hp; ∀ (M : Int) (_ : Pos M) (f X Y : Poly M) (n : Nat), ExtP kp kq M f n -> f.l = kl -> X.l = x -> Y.l = y -> r0 = (rdM (X * Y) f).l) := by
 generalize hc : z8 kp kq kl 2 (two x y) = c;have hlen : ∀ i, i < 2 -> (two x y i).length <= 1000000000 := λi hi => by unfold two; split <;> omega
 by_cases h0 : c = 0
 case neg =>
  refine ⟨[], c, λg0 g1 g2 => ?_, λg0 g1 g2 => ?_, by simp, rfl, λh => absurd h h0⟩
  ·refine zg (za [0, 1, 2, 3, 6, 7, 8, 14]) Tryz.func48 rfl (by decide) Tryz.ntmps48 (Nat.le_of_ble_eq_true rfl) λbase => ?_;refine wrs λK hK => ?_;conv => whnf
   refine ⟨rfl, ?_⟩;conv => whnf
   intro b_1 hs_1 hh_1 hf_1;try dsimp only at hh_1 hf_1
   conv => whnf
   refine hK _ ?_;clear hK K;refine wrs λK hK => ?_;conv => whnf
   refine zb rfl (zbQ kp kq g0 g1 g2 kl x y (by omega) (by omega) (by omega)) λhs' hhs => ?_;try dsimp only at hhs
   conv => whnf
   rw [hc];refine hK _ ?_;clear hK K;refine W.seqK λK1 hK1 => ?_;refine wrs λK hK => ?_;conv => whnf
   refine hK _ (W.cond ⟨λ_ => ?_, λhcc => absurd h0 (of_decide_eq_false hcc)⟩);clear hK K;refine wrs λK hK => ?_;conv => whnf
   refine hK _ ?_;clear hK K;refine W.ret ?_;conv => whnf
   exact ⟨.v (.ints none []), rfl, trivial, .v (.int .i64 c), ⟨rfl, rfl⟩, trivial, rfl⟩
  ·refine yU (zh [] [0, 1, 2, 3, 6, 7, 8, 15, 1000000]) Tryz.func32 rfl (by decide) Tryz.ntmps32 (Nat.le_of_ble_eq_true rfl) (λbase => ?_) (Nat.le_of_ble_eq_true rfl);refine W.sw (c' := cx [0, 1, 2, 3, 6, 7, 8, 15, 1000000]) ?_;refine wrs λK hK => ?_;conv => whnf
   refine ⟨rfl, ?_⟩;conv => whnf
   intro b_1 hs_1 hh_1 hf_1;try dsimp only at hh_1 hf_1
   conv => whnf
   refine hK _ ?_;clear hK K;refine W.seqK λK1 hK1 => ?_;refine wrs λK hK => ?_;conv => whnf
   refine ⟨⟨rfl, by decide, λx hx => (by simp at hx; rcases hx with rfl | rfl <;> exact ⟨rfl, rfl⟩)⟩, ?_⟩;conv => whnf
   intro b_2 hs_2 hh_2 hf_2;try dsimp only at hh_2 hf_2
   conv => whnf
   refine zb rfl (yQ kp kq g0 (some b_2) kl 2 _ (two x y) (by omega) (by omega) hlen (els2 g1 g2 x y)) λhs' hhs => ?_;try dsimp only at hhs
   conv => whnf
   rw [hc];refine hK _ ?_;clear hK K;refine wrs λK hK => ?_;conv => whnf
   refine hK _ (W.cond ⟨λ_ => ?_, λhcc => absurd h0 (of_decide_eq_false hcc)⟩);clear hK K;refine wrs λK hK => ?_;conv => whnf
   refine hK _ ?_;clear hK K;refine W.ret ?_;conv => whnf
   exact ⟨.v (.rf 0 0), rfl, trivial, .v (.int .i64 (c)), ⟨rfl, rfl⟩, trivial, 0, rfl, λhne => absurd rfl hne⟩
 subst h0;obtain ⟨hk, hh⟩ := zfu hc;obtain ⟨hp, hx2⟩ := zcv hk;letI := xt hp;obtain ⟨M, _, f, n, rfl, he⟩ := hx2;have hfl : f.l.length = dg f := rfl;have hf1 := he.mn.1;have hn8 := he.n8;obtain ⟨X, rfl⟩ := zbg he.hm (hh 0 (by omega)).1;have hdX : dg X < dg f := (hh 0 (by omega)).2;have hdX : dg X <= n := by omega
 have hlX : X.l.length = dg X := rfl;obtain ⟨Y, rfl⟩ := zbg he.hm (hh 1 (by omega)).1;have hdY : dg Y < dg f := (hh 1 (by omega)).2;have hdY : dg Y <= n := by omega
 have hlY : Y.l.length = dg Y := rfl;refine ⟨(rdM (X * Y) f).l, 0, λg0 g1 g2 => ?_, λg0 g1 g2 => ?_, ?_, rfl, λ_ hp' M' _ f' X' Y' n' he' e1 e2 e3 => ?_⟩
 ·refine zg (za [0, 1, 2, 3, 6, 7, 8, 14]) Tryz.func48 rfl (by decide) Tryz.ntmps48 (Nat.le_of_ble_eq_true rfl) λbase => ?_;refine wrs λK hK => ?_;conv => whnf
  refine ⟨rfl, ?_⟩;conv => whnf
  intro b_1 hs_1 hh_1 hf_1;try dsimp only at hh_1 hf_1
  conv => whnf
  refine hK _ ?_;clear hK K;refine wrs λK hK => ?_;conv => whnf
  refine zb rfl (zbQ kp kq g0 g1 g2 f.l X.l Y.l (by omega) (by omega) (by omega)) λhs' hhs => ?_;try dsimp only at hhs
  conv => whnf
  rw [hc];refine hK _ ?_;clear hK K;refine W.seqK λK1 hK1 => ?_;refine wrs λK hK => ?_;conv => whnf
  refine hK _ (W.cond ⟨λhcc => absurd rfl (of_decide_eq_true hcc), λ_ => W.skip (hK1 _ ?_)⟩);clear hK K hK1 K1;refine wrs λK hK => ?_;conv => whnf
  refine zb rfl (xh he g0 g1 g2 X Y hdX hdY) λhs' hhs => ?_;try dsimp only at hhs
  conv => whnf
  refine hK _ ?_;clear hK K;refine W.ret ?_;conv => whnf
  exact ⟨.v (.ints none (rdM (X * Y) f).l), ⟨rfl, rfl⟩, trivial, .v (.int .i64 0), ⟨rfl, rfl⟩, trivial, rfl⟩
 ·refine yU (zh [] [0, 1, 2, 3, 6, 7, 8, 15, 1000000]) Tryz.func32 rfl (by decide) Tryz.ntmps32 (Nat.le_of_ble_eq_true rfl) (λbase => ?_) (Nat.le_of_ble_eq_true rfl);refine W.sw (c' := cx [0, 1, 2, 3, 6, 7, 8, 15, 1000000]) ?_;refine wrs λK hK => ?_;conv => whnf
  refine ⟨rfl, ?_⟩;conv => whnf
  intro b_1 hs_1 hh_1 hf_1;try dsimp only at hh_1 hf_1
  conv => whnf
  refine hK _ ?_;clear hK K;refine W.seqK λK1 hK1 => ?_;refine wrs λK hK => ?_;conv => whnf
  refine ⟨⟨rfl, by decide, λx hx => (by simp at hx; rcases hx with rfl | rfl <;> exact ⟨rfl, rfl⟩)⟩, ?_⟩;conv => whnf
  intro b_2 hs_2 hh_2 hf_2;try dsimp only at hh_2 hf_2
  conv => whnf
  refine zb rfl (yQ kp kq g0 (some b_2) f.l 2 _ (two X.l Y.l) (by omega) (by omega) hlen (els2 g1 g2 X.l Y.l)) λhs' hhs => ?_;try dsimp only at hhs
  conv => whnf
  rw [hc];refine hK _ ?_;clear hK K;refine wrs λK hK => ?_;conv => whnf
  refine hK _ (W.cond ⟨λhcc => absurd rfl (of_decide_eq_true hcc), λ_ => W.skip (hK1 _ ?_)⟩);clear hK K hK1 K1;refine W.sw (c' := cxt [77] [0, 1, 2, 3, 6, 7, 8, 15, 1000000]) ?_;refine W.rs (zh _ _) (by rfl) λK hK => ?_;conv => whnf
  refine ⟨_, cxT (zfs he g0 g1 g2 X Y hdX hdY), λlo_t hi_t hs_t x_t tn_t tb_t hl1_t hl2_t _ hp_t hf_t hn_t ho_t => ?_⟩;try dsimp only at hl1_t hl2_t
  obtain ⟨bt, rfl, ht⟩ := hp_t;conv => whnf
  refine hK _ ?_;clear hK K;refine W.ret ?_;conv => whnf
  exact ⟨.v (.rf bt (rdM (X * Y) f).l.length), rfl, trivial, .v (.int .i64 0), ⟨rfl, rfl⟩, trivial, bt, rfl, λh => hn_t _ _ (ht h)⟩
 ·have := yW he.mn (X * Y);show dg (rdM (X * Y) f) <= _; omega
 ·obtain rfl : M' = M := he'.hm.symm.trans he.hm;obtain rfl := zai e1;obtain rfl := zai e2;obtain rfl := zai e3
  rfl


def RTF (q : Int) (l : List Int) (c : Int) : ki := λ_ _ x tb => ∃ b : Nat, x = .tup [.agg [.int .i64 q, .rf b l.length], .int .i64 c] ∧ (l ≠ [] -> tb b = some l)
theorem zqJ {f : Nat} {xs : List V} {c : Int} (h : FnV f xs (.tup [.agg [.int .i64 0, .nil], .int .i64 c])) : FnV f xs (.tup [vK 0 none [], .int .i64 c]) :=
 h.le λ_ _ _ r => zi1 (λ_ r => zi2 (λ_ r => r) zn8 rfl rfl r) (λ_ r => r) r
theorem zqK {f : Nat} {xs : List V} {c : Int} (h : FnT Tryz.prog f xs (λ_ _ x _ => x = .tup [.agg [.int .i64 0, .nil], .int .i64 c])) : FnT Tryz.prog f xs (RTF 0 [] c) :=
 h.le λ_ _ x tb hx => ⟨.tup [.agg [.int .i64 0, .rf 0 0], .int .i64 c], ⟨0, rfl, λh => absurd rfl h⟩, λ_ _ _ r => by subst hx; exact zi1 (λ_ r => zi2 (λ_ r => r) zn9 rfl rfl r) (λ_ r => r) r⟩

theorem zpw (p k : Int) (g : Option Nat) (l : List Int) (h : xU p k l) : FnT Tryz.prog 80 [vE p k g l] (λ_ _ x tb => ∃ b : Nat, x = .agg [.int .i64 p, .rf b (nrm p l).length] ∧ (nrm p l ≠ [] -> tb b = some (nrm p l))) := by
 have hs := h.1.small;have h9 := h.2.1;refine yU (zh [] [0, 1, 2, 1000000]) Tryz.func80 rfl (by decide) Tryz.ntmps80 (Nat.le_of_ble_eq_true rfl) (λbase => ?_) (Nat.le_of_ble_eq_true rfl);refine W.rs (zh _ _) (by rfl) λK hK => ?_;conv => whnf
 refine ⟨rfl, ?_⟩;conv => whnf
 intro b_1 hs_1 hh_1 hf_1;try dsimp only at hh_1 hf_1
 conv => whnf
 intro b_2 hs_2 hh_2 hf_2;try dsimp only at hh_2 hf_2
 conv => whnf
 refine hK _ ?_;clear hK K;refine W.seqK λK1 hK1 => W.sch follows ?_;refine Wany.takeF (zh [] []) 0 (by rfl) (by rfl) (by rfl) (by rfl) (by decide) (by kernel_rfl) (by kernel_rfl) (by kernel_rfl) ?_;conv => whnf
 refine Wany.takeF (zh [] []) 1 (by rfl) (by rfl) (by rfl) (by rfl) (by decide) (by kernel_rfl) (by kernel_rfl) (by kernel_rfl) ?_;conv => whnf
 refine Wany.takeF (zh [] []) 3 (by rfl) (by rfl) (by rfl) (by rfl) (by decide) (by kernel_rfl) (by kernel_rfl) (by kernel_rfl) ?_;conv => whnf
 refine Wany.takeF (zh [] []) 4 (by rfl) (by rfl) (by rfl) (by rfl) (by decide) (by kernel_rfl) (by kernel_rfl) (by kernel_rfl) ?_;conv => whnf
 refine Wany.takeF (zh [] []) 6 (by rfl) (by rfl) (by rfl) (by rfl) (by decide) (by kernel_rfl) (by kernel_rfl) (by kernel_rfl) ?_;conv => whnf
 refine Wany.all (zh [] []) (by rfl) (rs := [2, 5, 7]) (by kernel_rfl) (by decide) ?_;intro i hi;simp only [List.mem_cons, List.not_mem_nil, or_false] at hi
 rcases hi with rfl | rfl | rfl <;> refine ⟨_, by rfl, by rfl, ?_⟩ <;> conv => whnf
 ·refine Wany.two (zh [] []) 5 7 (by rfl) (by kernel_rfl) (by rfl) (by rfl) (by rfl) (by rfl) ?_ ?_ <;> conv => whnf
  ·refine Wany.one (zh [] []) 7 (by rfl) (by kernel_rfl) (by rfl) (by rfl) ?_;conv => whnf
   refine Wany.one (zh [] []) 8 (by rfl) (by kernel_rfl) (by rfl) (by rfl) ?_;conv => whnf
   refine zr rfl (zL p (by omega) (by omega) g l ((zbs h).le (by omega)) (by omega)) λhs_3 b_3 hh_3 hf_3 => ?_;try dsimp only at hh_3 hf_3
   conv => whnf
   refine Wany.take (zh [] []) 9 (by rfl) (by rfl) (λd hd => by injection hd with hd; subst hd; decide) (by kernel_rfl) (by kernel_rfl) (by kernel_rfl) (by rfl) ?_;conv => whnf
   refine Wany.one (zh [] []) 10 (by rfl) (by kernel_rfl) (by rfl) (by rfl) ?_;conv => whnf
   refine ⟨s23, ?_⟩;conv => whnf
   refine wd1 (hK1 _ ?_);clear hK1 K1;refine W.ret ?_;conv => whnf
   exact ⟨⟨trivial, trivial, trivial⟩, b_3, rfl, λh => zI _ _ h⟩
  ·refine Wany.one (zh [] []) 5 (by rfl) (by kernel_rfl) (by rfl) (by rfl) ?_;conv => whnf
   refine Wany.one (zh [] []) 8 (by rfl) (by kernel_rfl) (by rfl) (by rfl) ?_;conv => whnf
   refine zr rfl (zL p (by omega) (by omega) g l ((zbs h).le (by omega)) (by omega)) λhs_3 b_3 hh_3 hf_3 => ?_;try dsimp only at hh_3 hf_3
   conv => whnf
   refine Wany.take (zh [] []) 9 (by rfl) (by rfl) (λd hd => by injection hd with hd; subst hd; decide) (by kernel_rfl) (by kernel_rfl) (by kernel_rfl) (by rfl) ?_;conv => whnf
   refine Wany.one (zh [] []) 10 (by rfl) (by kernel_rfl) (by rfl) (by rfl) ?_;conv => whnf
   refine ⟨s23, ?_⟩;conv => whnf
   refine wd1 (hK1 _ ?_);clear hK1 K1;refine W.ret ?_;conv => whnf
   exact ⟨⟨trivial, trivial, trivial⟩, b_3, rfl, λh => zI _ _ h⟩
 ·refine Wany.two (zh [] []) 2 7 (by rfl) (by kernel_rfl) (by rfl) (by rfl) (by rfl) (by rfl) ?_ ?_ <;> conv => whnf
  ·refine Wany.one (zh [] []) 7 (by rfl) (by kernel_rfl) (by rfl) (by rfl) ?_;conv => whnf
   refine Wany.one (zh [] []) 8 (by rfl) (by kernel_rfl) (by rfl) (by rfl) ?_;conv => whnf
   refine zr rfl (zL p (by omega) (by omega) g l ((zbs h).le (by omega)) (by omega)) λhs_3 b_3 hh_3 hf_3 => ?_;try dsimp only at hh_3 hf_3
   conv => whnf
   refine Wany.take (zh [] []) 9 (by rfl) (by rfl) (λd hd => by injection hd with hd; subst hd; decide) (by kernel_rfl) (by kernel_rfl) (by kernel_rfl) (by rfl) ?_;conv => whnf
   refine Wany.one (zh [] []) 10 (by rfl) (by kernel_rfl) (by rfl) (by rfl) ?_;conv => whnf
   refine ⟨s23, ?_⟩;conv => whnf
   refine wd1 (hK1 _ ?_);clear hK1 K1;refine W.ret ?_;conv => whnf
   exact ⟨⟨trivial, trivial, trivial⟩, b_3, rfl, λh => zI _ _ h⟩
  ·refine Wany.two (zh [] []) 2 8 (by rfl) (by kernel_rfl) (by rfl) (by rfl) (by rfl) (by rfl) ?_ ?_ <;> conv => whnf
   ·refine Wany.one (zh [] []) 8 (by rfl) (by kernel_rfl) (by rfl) (by rfl) ?_;conv => whnf
    refine zr rfl (zL p (by omega) (by omega) g l ((zbs h).le (by omega)) (by omega)) λhs_3 b_3 hh_3 hf_3 => ?_;try dsimp only at hh_3 hf_3
    conv => whnf
    refine Wany.take (zh [] []) 9 (by rfl) (by rfl) (λd hd => by injection hd with hd; subst hd; decide) (by kernel_rfl) (by kernel_rfl) (by kernel_rfl) (by rfl) ?_;conv => whnf
    refine Wany.one (zh [] []) 10 (by rfl) (by kernel_rfl) (by rfl) (by rfl) ?_;conv => whnf
    refine ⟨s23, ?_⟩;conv => whnf
    refine wd1 (hK1 _ ?_);clear hK1 K1;refine W.ret ?_;conv => whnf
    exact ⟨⟨trivial, trivial, trivial⟩, b_3, rfl, λh => zI _ _ h⟩
   ·refine zr rfl (zL p (by omega) (by omega) g l ((zbs h).le (by omega)) (by omega)) λhs_3 b_3 hh_3 hf_3 => ?_;try dsimp only at hh_3 hf_3
    conv => whnf
    refine Wany.one (zh [] []) 2 (by rfl) (by kernel_rfl) (by rfl) (by rfl) ?_;conv => whnf
    refine Wany.take (zh [] []) 9 (by rfl) (by rfl) (λd hd => by injection hd with hd; subst hd; decide) (by kernel_rfl) (by kernel_rfl) (by kernel_rfl) (by rfl) ?_;conv => whnf
    refine Wany.one (zh [] []) 10 (by rfl) (by kernel_rfl) (by rfl) (by rfl) ?_;conv => whnf
    refine ⟨s23, ?_⟩;conv => whnf
    refine wd1 (hK1 _ ?_);clear hK1 K1;refine W.ret ?_;conv => whnf
    exact ⟨⟨trivial, trivial, trivial⟩, b_3, rfl, λh => zI _ _ h⟩
 ·refine Wany.two (zh [] []) 2 5 (by rfl) (by kernel_rfl) (by rfl) (by rfl) (by rfl) (by rfl) ?_ ?_ <;> conv => whnf
  ·refine Wany.one (zh [] []) 5 (by rfl) (by kernel_rfl) (by rfl) (by rfl) ?_;conv => whnf
   refine Wany.one (zh [] []) 8 (by rfl) (by kernel_rfl) (by rfl) (by rfl) ?_;conv => whnf
   refine zr rfl (zL p (by omega) (by omega) g l ((zbs h).le (by omega)) (by omega)) λhs_3 b_3 hh_3 hf_3 => ?_;try dsimp only at hh_3 hf_3
   conv => whnf
   refine Wany.take (zh [] []) 9 (by rfl) (by rfl) (λd hd => by injection hd with hd; subst hd; decide) (by kernel_rfl) (by kernel_rfl) (by kernel_rfl) (by rfl) ?_;conv => whnf
   refine Wany.one (zh [] []) 10 (by rfl) (by kernel_rfl) (by rfl) (by rfl) ?_;conv => whnf
   refine ⟨s23, ?_⟩;conv => whnf
   refine wd1 (hK1 _ ?_);clear hK1 K1;refine W.ret ?_;conv => whnf
   exact ⟨⟨trivial, trivial, trivial⟩, b_3, rfl, λh => zI _ _ h⟩
  ·refine Wany.two (zh [] []) 2 8 (by rfl) (by kernel_rfl) (by rfl) (by rfl) (by rfl) (by rfl) ?_ ?_ <;> conv => whnf
   ·refine Wany.one (zh [] []) 8 (by rfl) (by kernel_rfl) (by rfl) (by rfl) ?_;conv => whnf
    refine zr rfl (zL p (by omega) (by omega) g l ((zbs h).le (by omega)) (by omega)) λhs_3 b_3 hh_3 hf_3 => ?_;try dsimp only at hh_3 hf_3
    conv => whnf
    refine Wany.take (zh [] []) 9 (by rfl) (by rfl) (λd hd => by injection hd with hd; subst hd; decide) (by kernel_rfl) (by kernel_rfl) (by kernel_rfl) (by rfl) ?_;conv => whnf
    refine Wany.one (zh [] []) 10 (by rfl) (by kernel_rfl) (by rfl) (by rfl) ?_;conv => whnf
    refine ⟨s23, ?_⟩;conv => whnf
    refine wd1 (hK1 _ ?_);clear hK1 K1;refine W.ret ?_;conv => whnf
    exact ⟨⟨trivial, trivial, trivial⟩, b_3, rfl, λh => zI _ _ h⟩
   ·refine zr rfl (zL p (by omega) (by omega) g l ((zbs h).le (by omega)) (by omega)) λhs_3 b_3 hh_3 hf_3 => ?_;try dsimp only at hh_3 hf_3
    conv => whnf
    refine Wany.one (zh [] []) 2 (by rfl) (by kernel_rfl) (by rfl) (by rfl) ?_;conv => whnf
    refine Wany.take (zh [] []) 9 (by rfl) (by rfl) (λd hd => by injection hd with hd; subst hd; decide) (by kernel_rfl) (by kernel_rfl) (by kernel_rfl) (by rfl) ?_;conv => whnf
    refine Wany.one (zh [] []) 10 (by rfl) (by kernel_rfl) (by rfl) (by rfl) ?_;conv => whnf
    refine ⟨s23, ?_⟩;conv => whnf
    refine wd1 (hK1 _ ?_);clear hK1 K1;refine W.ret ?_;conv => whnf
    exact ⟨⟨trivial, trivial, trivial⟩, b_3, rfl, λh => zI _ _ h⟩
-- 8 ways

theorem zfw (kp kq : Int) (kl : List Int) (_ : inR kp) (_ : inR kq) (hkl : kl.length <= 1048576) : ∃ (r0p : Int) (r0l : List Int) (r1 : Int),
  (∀ g0 : Option Nat, FnV 26 [vE kp kq g0 kl] (.tup [vK r0p none r0l, .int .i64 r1])) ∧ (∀ g0 : Option Nat, FnT Tryz.prog 25 [vE kp kq g0 kl] (RTF r0p r0l r1)) ∧ r0l.length <= 1000000 ∧ (jn kp kq kl -> r0p = kp ∧ r0l = nrm kp kl ∧ r1 = 0) ∧ (¬ jn kp kq kl -> r1 = 1) := by
 by_cases hk : jn kp kq kl
 case neg =>
  have hc : z8 kp kq kl 0 (λ_ => []) = 1 := by unfold z8; rw [ze hk]; rfl
  refine ⟨0, [], 1, λg0 => zqJ ?_, λg0 => zqK ?_, by simp, λh => absurd h hk, λ_ => rfl⟩
  ·refine zg (za [0, 1, 2, 3, 6]) Tryz.func26 rfl (by decide) Tryz.ntmps26 (Nat.le_of_ble_eq_true rfl) λbase => ?_;refine wrs λK hK => ?_;conv => whnf
   refine ⟨rfl, ?_⟩;conv => whnf
   intro b_1 hs_1 hh_1 hf_1;try dsimp only at hh_1 hf_1
   conv => whnf
   intro b_2 hs_2 hh_2 hf_2;try dsimp only at hh_2 hf_2
   conv => whnf
   refine hK _ ?_;clear hK K;refine W.seqK λK1 hK1 => ?_;refine wrs λK hK => ?_;conv => whnf
   refine zb rfl ((zU kp kq g0 kl (by omega)).fa (ze hk)) λhs' hhs => ?_;try dsimp only at hhs
   conv => whnf
   refine hK _ (W.condT rfl ?_);clear hK K;refine wrs λK hK => ?_;conv => whnf
   refine ⟨s23, ?_⟩;conv => whnf
   refine hK _ ?_;clear hK K;refine W.ret ?_;conv => whnf
   exact ⟨⟨trivial, trivial, trivial⟩, .v (.int .i64 1), ⟨rfl, rfl⟩, trivial, rfl⟩
  ·refine yU (zh [] [0, 1, 2, 3, 4, 8, 1000000]) Tryz.func25 rfl (by decide) Tryz.ntmps25 (Nat.le_of_ble_eq_true rfl) (λbase => ?_) (Nat.le_of_ble_eq_true rfl);refine W.sw (c' := cx [0, 1, 2, 3, 4, 8, 1000000]) ?_;refine wrs λK hK => ?_;conv => whnf
   refine ⟨rfl, ?_⟩;conv => whnf
   intro b_1 hs_1 hh_1 hf_1;try dsimp only at hh_1 hf_1
   conv => whnf
   intro b_2 hs_2 hh_2 hf_2;try dsimp only at hh_2 hf_2
   conv => whnf
   refine hK _ ?_;clear hK K;refine W.seqK λK1 hK1 => ?_;refine wrs λK hK => ?_;conv => whnf
   refine zb rfl (yQ kp kq g0 none kl 0 _ (λ_ => []) (by omega) (by omega) (λi hi => by omega) (λi hi => by omega)) λhs' hhs => ?_;try dsimp only at hhs
   conv => whnf
   rw [hc];refine hK _ ?_;clear hK K;refine wrs λK hK => ?_;conv => whnf
   refine hK _ (W.cond ⟨λ_ => ?_, λhcc => absurd (by decide : (1 : Int) ≠ 0) (of_decide_eq_false hcc)⟩);clear hK K;refine wrs λK hK => ?_;conv => whnf
   refine ⟨s23, ?_⟩;conv => whnf
   refine hK _ ?_;clear hK K;refine W.ret ?_;conv => whnf
   exact ⟨⟨trivial, trivial, trivial⟩, .v (.int .i64 1), ⟨rfl, rfl⟩, trivial, rfl⟩
 have hc : z8 kp kq kl 0 (λ_ => []) = 0 := by unfold z8; rw [zi hk, zi (λi hi => by omega)]; rfl
 have h9 := hk.1.2.1
 have hnl : (nrm kp kl).length <= kl.length := by
  have h3 := z0 (kl.map (· % kp));rw [List.length_map] at h3; exact h3
 refine ⟨kp, nrm kp kl, 0, λg0 => ?_, λg0 => ?_, by omega, λ_ => ⟨rfl, rfl, rfl⟩, λh => absurd hk h⟩
 ·refine zg (za [0, 1, 2, 3, 6]) Tryz.func26 rfl (by decide) Tryz.ntmps26 (Nat.le_of_ble_eq_true rfl) λbase => ?_;refine wrs λK hK => ?_;conv => whnf
  refine ⟨rfl, ?_⟩;conv => whnf
  intro b_1 hs_1 hh_1 hf_1;try dsimp only at hh_1 hf_1
  conv => whnf
  intro b_2 hs_2 hh_2 hf_2;try dsimp only at hh_2 hf_2
  conv => whnf
  refine hK _ ?_;clear hK K;refine W.seqK λK1 hK1 => ?_;refine wrs λK hK => ?_;conv => whnf
  refine zb rfl ((zU kp kq g0 kl (by omega)).tr (zi hk)) λhs' hhs => ?_;try dsimp only at hhs
  conv => whnf
  refine hK _ (W.condF rfl (W.skip (hK1 _ ?_)));clear hK K hK1 K1;refine wrs λK hK => ?_;conv => whnf
  refine zb rfl (zaZ kp kq g0 kl hk.1) λhs' hhs => ?_;try dsimp only at hhs
  conv => whnf
  refine ⟨s23, ?_⟩;conv => whnf
  refine hK _ ?_;clear hK K;refine W.ret ?_;conv => whnf
  exact ⟨⟨trivial, trivial, trivial⟩, .v (.int .i64 0), ⟨rfl, rfl⟩, trivial, rfl⟩
 ·refine yU (zh [] [0, 1, 2, 3, 4, 8, 1000000]) Tryz.func25 rfl (by decide) Tryz.ntmps25 (Nat.le_of_ble_eq_true rfl) (λbase => ?_) (Nat.le_of_ble_eq_true rfl);refine W.sw (c' := cx [0, 1, 2, 3, 4, 8, 1000000]) ?_;refine wrs λK hK => ?_;conv => whnf
  refine ⟨rfl, ?_⟩;conv => whnf
  intro b_1 hs_1 hh_1 hf_1;try dsimp only at hh_1 hf_1
  conv => whnf
  intro b_2 hs_2 hh_2 hf_2;try dsimp only at hh_2 hf_2
  conv => whnf
  refine hK _ ?_;clear hK K;refine W.seqK λK1 hK1 => ?_;refine wrs λK hK => ?_;conv => whnf
  refine zb rfl (yQ kp kq g0 none kl 0 _ (λ_ => []) (by omega) (by omega) (λi hi => by omega) (λi hi => by omega)) λhs' hhs => ?_;try dsimp only at hhs
  conv => whnf
  rw [hc];refine hK _ ?_;clear hK K;refine wrs λK hK => ?_;conv => whnf
  refine hK _ (W.cond ⟨λhcc => absurd rfl (of_decide_eq_true hcc), λ_ => W.skip (hK1 _ ?_)⟩);clear hK K hK1 K1;refine W.sw (c' := cxt [80] [0, 1, 2, 3, 4, 8, 1000000]) ?_;refine W.rs (zh _ _) (by rfl) λK hK => ?_;conv => whnf
  refine ⟨_, cxT (zpw kp kq g0 kl hk.1), λlo_t hi_t hs_t x_t tn_t tb_t hl1_t hl2_t _ hp_t hf_t hn_t ho_t => ?_⟩;try dsimp only at hl1_t hl2_t
  obtain ⟨bt, rfl, ht⟩ := hp_t;conv => whnf
  refine ⟨s23, ?_⟩;conv => whnf
  refine hK _ ?_;clear hK K;refine W.ret ?_;conv => whnf
  exact ⟨⟨trivial, trivial, trivial⟩, .v (.int .i64 0), ⟨rfl, rfl⟩, trivial, bt, rfl, λh => hn_t _ _ (ht h)⟩


section
variable {p k M : Int} [SP p] [Pos M] {f : Poly M} {n : Nat}

theorem zou (h : 2 <= M) : (1 : Poly M).l = [1] := by
 have h1 : Nrm M [1] := ⟨λx hx => by simp at hx; omega, λm hm => by
  have : m = 0 := by simpa using hm
  subst this;decide⟩
 exact zg5 h1
theorem zlq : (0 : Poly M).l = [] := kd
theorem zlr (c : Int) (j : Nat) : cf [c] j = if j = 0 then c else 0 := by
 cases j with
 | zero => rfl
 | succ j => rw [zk, zO, if_neg (by omega)]
theorem zpx {c B : Int} (h : -B <= c ∧ c <= B) : Bd B [c] := λj => by rw [zlr]; split <;> omega
theorem zov {M : Int} {c : Int} (h : 0 <= c ∧ c < M) : RgL M [c] := λj => by rw [zlr]; split <;> omega
theorem zpy (X : Poly M) : RgL M X.l := jK X
theorem zqg {B : Int} {xs ys : List Int} {A C : Int} (hx : Bd A xs) (hy : Bd C ys) (h : A + C <= B) : Bd B (zu (yK xs ys)) := λi => by
 rw [yJ, y3]; have := hx i; have := hy i; omega
theorem zow {B : Int} {xs ys : List Int} {A C : Int} (hx : Bd A xs) (hy : Bd C ys) (h : A + C <= B) : Bd B (zu (yK xs (zV (-1) ys))) := λi => by
 rw [yJ, y3, x9]; have := hx i; have := hy i; omega
theorem zls (xs ys : List Int) : (zu (yK xs ys)).length <= max xs.length ys.length := by
 have := z0 (yK xs ys); unfold yK at *; rw [zK] at *; exact this
theorem zhE (xs ys : List Int) : (zu (yK xs (zV (-1) ys))).length <= max xs.length ys.length := by
 have := zls xs (zV (-1) ys); unfold zV at *; rwa [List.length_map] at this

/- values -/
theorem zkt (he : ExtP p k M f n) (g g1 g2 : Option Nat) (F X : Poly M) (hF : dg F <= 100) (hX : dg X <= n) : FnI 71 [vE p k g f.l, .ints g1 F.l, .ints g2 X.l] (zY f F X (dg F)).l := by
 have h8 := he.n8;have m9 := he.m9;have hp := Pos.pos (p := M);have hFl : F.l.length = dg F := rfl;have hV := λj => vO (F := F) (X := X) he.mn he.n1 j;refine zg (za [0, 1, 2, 3, 6, 7, 8, 13]) Tryz.func71 rfl (by decide) Tryz.ntmps71 (Nat.le_of_ble_eq_true rfl) λbase => ?_;refine wrs λK hK => ?_;conv => whnf
 refine ⟨rfl, ?_⟩;conv => whnf
 intro b_3 hs_3 hh_3 hf_3;try dsimp only at hh_3 hf_3
 conv => whnf
 refine hK _ ?_;clear hK K;refine wrs λK hK => ?_;conv => whnf
 refine hK _ ?_;clear hK K;refine W.seqK λK1 hK1 => wrs λK hK => ?_;conv => whnf
 refine ⟨oo, ?_⟩;conv => whnf
 refine hK _ (W.block (W.invA (λm e => ∃ (j b : Nat) (s : List Int), j <= dg F ∧ s = (zY f F X (dg F - j)).l ∧ m = j ∧ e = [(1, .v (.ints g1 F.l)), (2, .v (.ints g2 X.l)), (3, .ownB b_3 (vE p k g f.l)), (7, .ownI 2 b s), (8, .v (.int .i64 ((j : Int) - 1)))]) ⟨F.l.length, 0, [], Nat.le_refl _, (by rw [hFl, Nat.sub_self]; exact zlq.symm), rfl, rfl⟩ ?_));clear hK K;rintro m e ⟨j', b, s, hj, rfl, hm, rfl⟩;refine W.seqK λK7 hK7 => wrs λK hK => ?_;conv => whnf
 refine hK _ (W.cond ⟨λh => ?_, λh => ?_⟩) <;> clear hK K <;> (first | replace h := of_decide_eq_true h | replace h := of_decide_eq_false h)
 ·obtain ⟨j, rfl⟩ : ∃ j, j' = j + 1 := ⟨j' - 1, by omega⟩
  obtain ⟨t, ht⟩ : ∃ t, dg F = t + (j + 1) := ⟨dg F - (j + 1), by omega⟩
  have e0 : dg F - (j + 1) = t := by omega
  rw [e0];have hVj := hV t;have hR := yW he.mn (zY f F X t * X);have hRl : (rdM (zY f F X t * X) f).l.length = dg (rdM (zY f F X t * X) f) := rfl;have e1 : (((j + 1 : Nat) : Int) - 1) = j := by omega
  have hcr := jK F j;have hsl := zls (rdM (zY f F X t * X) f).l [cf F.l j]
  have hnx : (rdM (zY f F X t * X) f + cn M (cf F.l j)).l = (zY f F X (dg F - j)).l := by
   rw [show dg F - j = t + 1 by omega, zY, show dg F - 1 - t = j by omega]
  refine W.skip (hK7 _ ?_);clear hK7 K7;refine W.seqK λK8 hK8 => W.block ?_;rw [e1];refine W.drawS 13 (za _) follows (by rfl) ?_;conv => whnf
  refine ⟨by show 0 + 2 <= 3; omega, ?_⟩;conv => whnf
  refine ⟨_, cxF (zM he.rn.1 he.hm), ?_⟩;conv => whnf
  refine ⟨_, cxF (zbh he g (some b) g2 (zY f F X t) X hVj hX), ?_⟩;conv => whnf
  refine ⟨oo, ?_⟩;conv => whnf
  rw [Int.toNat_natCast];refine ⟨⟨rfl, by decide⟩, ?_⟩;conv => whnf
  have e2 : F.l.getD j 0 = cf F.l j := rfl;rw [e2];refine ⟨_, cxF ((zi5 none none (rdM (zY f F X t * X) f).l [cf F.l j] ((za0 m9 _).le (by omega)) (zpx (by omega)) (by omega) (by simp)).toV), ?_⟩;conv => whnf
  refine zr rfl (zL M (by omega) (by omega) none (zu (yK (rdM (zY f F X t * X) f).l [cf F.l j])) (zqg (za0 m9 _) (zpx (B := 999999999) (by omega)) (by omega)) (by simp at hsl; omega)) λhs_5 b_5 hh_5 hf_5 => ?_;try dsimp only at hh_5 hf_5
  conv => whnf
  rw [zld, hnx];refine hK8 _ ?_;clear hK8 K8;refine wrg ?_;conv => whnf
  refine ⟨oo, ?_⟩;conv => whnf
  exact zm ⟨j, b_5, _, by omega, rfl, rfl, rfl⟩
 ·obtain rfl : j' = 0 := by omega
  refine W.exit (hK1 _ ?_);clear hK7 K7 hK1 K1;refine W.sw (c' := cxr [0, 1, 2, 3, 6, 7, 8, 13]) (W.rs (zn7 _) (by rfl) λK hK => ?_);conv => whnf
  refine hK _ ?_;clear hK K;refine W.ret ?_;conv => whnf
  exact ⟨.ownI 2 _ ((zY f F X (dg F)).l), ⟨rfl, rfl, rfl⟩, trivial, _, rfl⟩
theorem zlt (he : ExtP p k M f n) (g g1 g2 : Option Nat) (F X : Poly M) (hF : dg F <= 100) (hX : dg X <= n) : FnV 71 [vE p k g f.l, .ints g1 F.l, .ints g2 X.l] (.ints none (zY f F X (dg F)).l) :=
 (zkt he g g1 g2 F X hF hX).toV

theorem zpz (X : Poly M) (c : Int) : nrm M (yK X.l (zV 1 [c])) = (X + cn M c).l := by rw [zom, <- xf, zld]
theorem zpA (X : Poly M) (c : Int) : nrm M (yK [c] (zV (-1) X.l)) = (cn M c - X).l := by rw [<- xf, zle]
theorem zqh (X Y : Poly M) : nrm M (yK X.l (zV (-1) Y.l)) = (X - Y).l := by rw [<- xf, zn5]
theorem za2 (he : ExtP p k M f n) (g g1 g2 : Option Nat) (F X : Poly M) (hF : dg F <= 100) (hX : dg X <= n) : FnV 114 [vE p k g f.l, .ints g1 F.l, .ints g2 X.l] (.ints none (zY f F X (dg F)).l) := by
 have h8 := he.n8;have m9 := he.m9;have hp := Pos.pos (p := M);have hFl : F.l.length = dg F := rfl;have hV := λj => vO (F := F) (X := X) he.mn he.n1 j;refine zg (za [0, 1, 2, 3, 6, 7, 8, 14]) Tryz.func114 rfl (by decide) Tryz.ntmps114 (Nat.le_of_ble_eq_true rfl) λbase => ?_;refine wrs λK hK => ?_;conv => whnf
 refine ⟨rfl, ?_⟩;conv => whnf
 intro b_3 hs_3 hh_3 hf_3;try dsimp only at hh_3 hf_3
 conv => whnf
 refine hK _ ?_;clear hK K;refine wrs λK hK => ?_;conv => whnf
 refine ⟨⟨rfl, by decide⟩, ?_⟩;conv => whnf
 intro b_4 hs_4 hh_4 hf_4;try dsimp only at hh_4 hf_4
 conv => whnf
 refine hK _ ?_;clear hK K;refine W.seqK λK1 hK1 => wrs λK hK => ?_;conv => whnf
 refine ⟨oo, ?_⟩;conv => whnf
 refine hK _ (W.block (W.invA (λm e => ∃ (j : Nat) (s : List Int), j <= dg F ∧ s = (zY f F X (dg F - j)).l ∧ m = j ∧ e = [(1, .v (.ints g1 F.l)), (2, .v (.ints g2 X.l)), (3, .ownB b_3 (vE p k g f.l)), (7, .v (.ints none s)), (8, .v (.int .i64 ((j : Int) - 1)))]) ⟨F.l.length, [], Nat.le_refl _, (by rw [hFl, Nat.sub_self]; exact zlq.symm), rfl, rfl⟩ ?_));clear hK K;rintro m e ⟨j', s, hj, rfl, hm, rfl⟩;refine W.seqK λK7 hK7 => wrs λK hK => ?_;conv => whnf
 refine hK _ (W.cond ⟨λh => ?_, λh => ?_⟩) <;> clear hK K <;> (first | replace h := of_decide_eq_true h | replace h := of_decide_eq_false h)
 ·obtain ⟨j, rfl⟩ : ∃ j, j' = j + 1 := ⟨j' - 1, by omega⟩
  obtain ⟨t, ht⟩ : ∃ t, dg F = t + (j + 1) := ⟨dg F - (j + 1), by omega⟩
  have e0 : dg F - (j + 1) = t := by omega
  rw [e0];have hVj := hV t;have hR := yW he.mn (zY f F X t * X);have hRl : (rdM (zY f F X t * X) f).l.length = dg (rdM (zY f F X t * X) f) := rfl;have e1 : (((j + 1 : Nat) : Int) - 1) = j := by omega
  have hcr := jK F j
  have hnx : (rdM (zY f F X t * X) f + cn M (cf F.l j)).l = (zY f F X (dg F - j)).l := by
   rw [show dg F - j = t + 1 by omega, zY, show dg F - 1 - t = j by omega]
  refine W.skip (hK7 _ ?_);clear hK7 K7;refine W.seqK λK8 hK8 => W.block ?_;rw [e1];refine W.draw (za _) follows (by rfl) ?_;conv => whnf
  refine ⟨_, cxF (xh he g none g2 (zY f F X t) X hVj hX), ?_⟩;conv => whnf
  refine ⟨oo, ?_⟩;conv => whnf
  rw [Int.toNat_natCast];refine ⟨⟨rfl, by decide⟩, ?_⟩;conv => whnf
  have e2 : F.l.getD j 0 = cf F.l j := rfl;rw [e2];refine ⟨_, cxF (j7 he g), ?_⟩;conv => whnf
  refine ⟨_, cxF ((zc2 m9 none none (rdM (zY f F X t * X) f).l [cf F.l j] 1 (.inl rfl) (zpy _) (zov hcr) (by omega) (by simp)).toV), ?_⟩;conv => whnf
  rw [zpz, hnx];refine hK8 _ ?_;clear hK8 K8;refine wrg ?_;conv => whnf
  refine ⟨oo, ?_⟩;conv => whnf
  exact zm ⟨j, _, by omega, rfl, rfl, rfl⟩
 ·obtain rfl : j' = 0 := by omega
  refine W.exit (hK1 _ ?_);clear hK7 K7 hK1 K1;refine wrs λK hK => ?_;conv => whnf
  refine hK _ ?_;clear hK K;refine W.ret ?_;conv => whnf
  exact ⟨.v (.ints none (zY f F X (dg F)).l), ⟨rfl, rfl⟩, trivial, rfl⟩

/- inverses -/
theorem zku (he : ExtP p k M f n) {X U : Poly M} (h : Cg f (X * U) 1) : im p f ∣ im p X * im p U - 1 := by
 obtain ⟨q, hq⟩ := zn2 he.pm h;rw [k6 he.pm, zkc he.pm] at hq;exact ⟨q, comb 1 hq (zf [im p X, im p U, q, im p f] (by rfl))⟩
theorem zpB (he : ExtP p k M f n) {X U : Poly M} (h : Cg f (X * U) 1) : ¬ im p f ∣ im p X := λhd => by
 have h1 := dvd_sub (ye (im p U) hd) (zku he h);rw [show im p U * im p X - (im p X * im p U - 1) = 1 from zf [im p U, im p X] (by rfl)] at h1;have h2 := zP h1 zeE;rw [yV] at h2;have h3 := he.irr.1;omega
theorem xI (he : ExtP p k M f n) (g : Option Nat) : FnV 80 [vE p k g f.l] (vK p none (im p f).l) := zjh p k g f.l he.rn
theorem zfx (he : ExtP p k M f n) (g : Option Nat) : FnV 85 [vE p k g f.l] (vK p none (im p f).l) := zaZ p k g f.l he.rn
theorem zox (he : ExtP p k M f n) (g : Option Nat) (X : Poly M) (hX : dg X <= n) : FnI 62 [.int .i64 p, .ints g X.l] (im p X).l := by
 have := he.rn.1.small;have hXl : X.l.length = dg X := rfl;have h8 := he.n8;exact zL p (by omega) (by omega) g X.l ((za0 he.m9 X).le (by omega)) (by omega)
theorem zjk (he : ExtP p k M f n) (g : Option Nat) (X : Poly M) (hX : dg X <= n) : FnI 65 [.int .i64 p, .ints g X.l] (im p X).l := by
 have := he.rn.1.small;have hXl : X.l.length = dg X := rfl;have h8 := he.n8;exact xp p (by omega) (by omega) g X.l ((za0 he.m9 X).le (by omega)) (by omega)

theorem zqi (he : ExtP p k M f n) (g g1 : Option Nat) (X U : Poly M) (hX : dg X <= n) (hU : dg U <= n) (hU2 : Cg f (X * U) 1) : FnT Tryz.prog 63 [vE p k g f.l, .ints g1 X.l] (R1 U.l) := by
 have h8 := he.n8;have hn1 := he.n1;have m9 := he.m9;have hp := Pos.pos (p := M);obtain ⟨s1, s2, s3, s4, s5, s6⟩ := he.rn.1.small;have hmM : M = p ^ k.toNat := he.hm.symm;have hfd := (ze7 he.pm he.mn).1;have hXd := zdi (p := p) X;have hUd := zdi (p := p) U;have hI0 : InvI p f X n (2 ^ 0) (lft M (im p U)) := InvI.start he.pm (by omega) (zku he hU2);have hl0 : (im p U).l = (lft M (im p U)).l := (zlb he.ple _).symm;refine yU (zh [] [0, 1, 2, 4, 5, 6, 27, 1000000]) Tryz.func63 rfl (by decide) Tryz.ntmps63 (Nat.le_of_ble_eq_true rfl) (λbase => ?_) (Nat.le_of_ble_eq_true rfl);refine W.sw (c' := cx [0, 1, 2, 4, 5, 6, 27, 1000000]) ?_;refine wrs λK hK => ?_;conv => whnf
 refine ⟨rfl, ?_⟩;conv => whnf
 intro b_2 hs_2 hh_2 hf_2;try dsimp only at hh_2 hf_2
 conv => whnf
 refine hK _ ?_;clear hK K;refine wrs λK hK => ?_;conv => whnf
 refine ⟨by show 0 + 2 <= 3; omega, ?_⟩;conv => whnf
 refine zb rfl (zM he.rn.1 he.hm) λhs' hhs => ?_;try dsimp only at hhs
 conv => whnf
 refine hK _ ?_;clear hK K;refine W.sw (c' := cxt [] [0, 1, 2, 4, 5, 6, 27, 1000000]) ?_;refine W.rdS 11 (zh _ _) follows (by rfl) λK hK => ?_;conv => whnf
 refine ⟨_, zcm ((zox he g1 X hX).toV), ?_⟩;conv => whnf
 refine ⟨_, zcm (xI he g), ?_⟩;conv => whnf

 refine zr rfl (zjf p none none (im p X) (im p f) (im p U) (by omega) (by omega) (by omega) (by omega) (zku he hU2)) λhs_6 b_6 hh_6 hf_6 => ?_;try dsimp only at hh_6 hf_6
 conv => whnf
 rw [hl0];refine hK _ ?_;clear hK K;refine W.give 6 λK hK => ?_;conv => whnf
 refine hK _ ?_;clear hK K;refine W.seqK λK1 hK1 => W.block (W.invA (λm e => ∃ (i : Nat) (y : Poly M) (b : Nat) (tb : Tab), InvI p f X n (2 ^ i) y ∧ i <= 40 ∧ (y.l ≠ [] -> tb b = some y.l) ∧ m = 40 - i ∧ e = [(vt, .tab tb), (1, .v (.ints g1 X.l)), (2, .ownB b_2 (vE p k g f.l)), (5, .v (.int .i64 M)), (6, .v (.rf b y.l.length))]) ⟨0, lft M (im p U), b_6, _, hI0, by omega, λh => zI _ _ h, rfl, rfl⟩ ?_);rintro m e ⟨i, y, b, tb, hI, hi, hy, hm, rfl⟩;have hyd := hI.deg;have hR := yW he.mn (X * y);have hRl : (rdM (X * y) f).l.length = dg (rdM (X * y) f) := rfl;refine W.seqK λK7 hK7 => ?_;refine W.rs (zh _ _) (by rfl) λK hK => ?_;conv => whnf
 refine ⟨y.l, ⟨rfl, hy⟩, ?_⟩;conv => whnf
 refine zb rfl (zbh he g g1 (some b) X y hX hyd) λhs' hhs => ?_;try dsimp only at hhs
 conv => whnf
 by_cases h1 : (rdM (X * y) f).l = [1]
 ·have h2 : rdM (X * y) f = 1 := zai (by rw [h1, zou he.m2]);obtain rfl := hI.is he.mn h2 hU hU2;refine zb rfl ((zje none (rdM (X * y) f).l).tr (decide_eq_true h1)) λhs' hhs => ?_;try dsimp only at hhs
  conv => whnf
  refine hK _ (W.condF rfl (W.exit (hK1 _ ?_)));clear hK K hK7 K7 hK1 K1;refine W.rs (zh _ _) (by rfl) λK hK => ?_;conv => whnf
  refine hK _ ?_;clear hK K;refine W.ret ?_;conv => whnf
  exact ⟨.v (.rf b y.l.length), rfl, trivial, b, rfl, hy⟩
 ·have h3 : 2 ^ i < k.toNat := Nat.lt_of_not_le λh => h1 (by rw [hI.rem hmM he.mn hn1 h, zou he.m2]);have h4 : i < 2 ^ i := Nat.lt_two_pow_self;have hcd := vH (cn M 2) (rdM (X * y) f);have hc2 := znW (m := M) 2;have hcd2 : dg (cn M 2 - rdM (X * y) f) <= n := by omega
  have hsl := zhE [2] (rdM (X * y) f).l;refine zb rfl ((zje none (rdM (X * y) f).l).fa (decide_eq_false h1)) λhs' hhs => ?_;try dsimp only at hhs
  conv => whnf
  refine hK _ (W.condT rfl (W.skip (hK7 _ (W.block ?_))));clear hK K hK7 K7;refine W.sw (c' := cxt [77] [0, 1, 2, 4, 5, 6, 27, 1000000]) ?_;refine W.drawS2 10 (zh [] []) (zh _ _) follows (by rfl) ?_;conv => whnf
  refine ⟨⟨rfl, by decide⟩, ?_⟩;conv => whnf
  refine ⟨y.l, ⟨rfl, hy⟩, ?_⟩;conv => whnf
  refine ⟨_, zcm (zbh he g g1 (some b) X y hX hyd), ?_⟩;conv => whnf
  refine ⟨_, zcm ((zfp none none [2] (rdM (X * y) f).l (zpx (by omega)) ((za0 m9 _).le (by omega)) (by simp) (by omega)).toV), ?_⟩;conv => whnf
  refine ⟨_, zcm ((zL M (by omega) (by omega) none (zu (yK [2] (zV (-1) (rdM (X * y) f).l))) (zow (zpx (B := 2) (by omega)) (za0 m9 _) (by omega)) (by simp at hsl; omega)).toV), ?_⟩;conv => whnf
  rw [zle];refine ⟨y.l, ⟨rfl, hy⟩, ?_⟩;conv => whnf
  refine ⟨_, cxT (zfs he g (some b) none y (cn M 2 - rdM (X * y) f) hyd hcd2), λlo_t hi_t hs_t x_t tn_t tb_t hl1_t hl2_t _ hp_t hf_t hn_t ho_t => ?_⟩;try dsimp only at hl1_t hl2_t
  obtain ⟨bt, rfl, ht⟩ := hp_t;conv => whnf
  exact zm ⟨i + 1, rdM (y * (cn M 2 - rdM (X * y) f)) f, bt, tb_t, (by rw [Nat.pow_succ, Nat.mul_two]; exact hI.step he.mn), by omega, λh => hn_t _ _ (ht h), rfl, rfl⟩
theorem zpC (he : ExtP p k M f n) (g g1 : Option Nat) (X U : Poly M) (hX : dg X <= n) (hU : dg U <= n) (hU2 : Cg f (X * U) 1) : FnV 63 [vE p k g f.l, .ints g1 X.l] (.ints none U.l) :=
 R1.V (zqi he g g1 X U hX hU hU2)

theorem zfS (he : ExtP p k M f n) (g g1 : Option Nat) (X U : Poly M) (hX : dg X <= n) (hU : dg U <= n) (hU2 : Cg f (X * U) 1) : FnV 66 [vE p k g f.l, .ints g1 X.l] (.ints none U.l) := by
 have h8 := he.n8;have hn1 := he.n1;have m9 := he.m9;have m2 := he.m2;have hp := Pos.pos (p := M);obtain ⟨s1, s2, s3, s4, s5, s6⟩ := he.rn.1.small;have hmM : M = p ^ k.toNat := he.hm.symm;have hfd := (ze7 he.pm he.mn).1;have hfl : (im p f).l.length = dg (im p f) := rfl;have hf0 := he.irr.ne;have hXd := zdi (p := p) X;obtain ⟨hq1, hq2, hq3⟩ := zqH he.fld hfd;have hiv := zpf he.irr (zpB he hU2) hfd;have hil := zX (im p X ^ (2 * p.toNat ^ n - 3)) hf0;generalize p.toNat ^ n = q at hq1 hq2 hq3 hiv hil;have hI0 : InvI p f X n (2 ^ 0) (lft M (rem (im p X ^ (2 * q - 3)) (im p f))) := InvI.start he.pm (by omega) hiv;have hl0 : (rem (im p X ^ (2 * q - 3)) (im p f)).l = (lft M (rem (im p X ^ (2 * q - 3)) (im p f))).l := (zlb he.ple _).symm;have h2m : (2 : Int).tmod M = 2 % M := Int.tmod_eq_emod_of_nonneg (by omega);have h2r : 0 <= 2 % M ∧ 2 % M < M := ⟨Int.emod_nonneg _ (by omega), Int.emod_lt_of_pos _ (by omega)⟩
 refine zg (za [0, 1, 2, 4, 5, 6, 7, 24]) Tryz.func66 rfl (by decide) Tryz.ntmps66 (Nat.le_of_ble_eq_true rfl) λbase => ?_;refine wrs λK hK => ?_;conv => whnf
 refine ⟨rfl, ?_⟩;conv => whnf
 intro b_2 hs_2 hh_2 hf_2;try dsimp only at hh_2 hf_2
 conv => whnf
 refine hK _ ?_;clear hK K;refine wrs λK hK => ?_;conv => whnf
 refine zb rfl (zfx he g) λhs' hhs => ?_;try dsimp only at hhs
 conv => whnf
 intro b_3 hs_3 hh_3 hf_3;try dsimp only at hh_3 hf_3
 conv => whnf
 refine ⟨s23, ?_⟩;conv => whnf
 refine hK _ ?_;clear hK K;refine W.rd (za _) follows (by rfl) λK hK => ?_;conv => whnf
 refine ⟨_, cxF ((zjk he g1 X hX).toV), ?_⟩;conv => whnf
 refine ⟨_, cxF (zko p none (im p f).l he.fld), ?_⟩;conv => whnf
 rw [hq1];refine ⟨oo, ?_⟩;conv => whnf
 refine ⟨oo, ?_⟩;conv => whnf
 rw [show (2 : Int) * ((q : Nat) : Int) - 3 = ((2 * q - 3 : Nat) : Int) by omega];refine ⟨_, cxF (zdu p none none (im p f) (im p X) (2 * q - 3) (by omega) (by omega) (by omega) hf0), ?_⟩;conv => whnf
 rw [hl0];refine hK _ ?_;clear hK K;refine W.seqK λK1 hK1 => wrs λK hK => ?_;conv => whnf
 refine hK _ (W.block (W.invA (λm e => ∃ (i : Nat) (y : Poly M), InvI p f X n (2 ^ i) y ∧ i <= 40 ∧ m = 40 - i ∧ e = [(1, .v (.ints g1 X.l)), (2, .ownB b_2 (vE p k g f.l)), (6, .v (.ints none y.l)), (7, .v (.int .i64 ((2 ^ i : Nat) : Int)))]) ⟨0, lft M (rem (im p X ^ (2 * q - 3)) (im p f)), hI0, by omega, rfl, rfl⟩ ?_));clear hK K;rintro m e ⟨i, y, hI, hi, hm, rfl⟩;have hyd := hI.deg;have hR := yW he.mn (X * y);have hRl : (rdM (X * y) f).l.length = dg (rdM (X * y) f) := rfl;refine W.seqK λK7 hK7 => wrs λK hK => ?_;conv => whnf
 refine hK _ (W.cond ⟨λh => ?_, λh => ?_⟩) <;> clear hK K <;> (first | replace h := of_decide_eq_true h | replace h := of_decide_eq_false h)
 ·have h4 : i < 2 ^ i := Nat.lt_two_pow_self;have hcd := vH (cn M 2) (rdM (X * y) f);have hc2 := znW (m := M) 2;have hcd2 : dg (cn M 2 - rdM (X * y) f) <= n := by omega
  have hps : ((2 ^ (i + 1) : Nat) : Int) = 2 * ((2 ^ i : Nat) : Int) := by rw [Nat.pow_succ]; omega
  refine W.skip (hK7 _ ?_);clear hK7 K7;refine W.seqK λK8 hK8 => W.block ?_;refine W.draw (za _) follows (by rfl) ?_;conv => whnf
  refine ⟨_, cxF (j7 he g), ?_⟩;conv => whnf
  refine ⟨by omega, ?_⟩;conv => whnf
  rw [h2m];refine ⟨⟨rfl, by decide⟩, ?_⟩;conv => whnf
  refine ⟨_, cxF (xh he g g1 none X y hX hyd), ?_⟩;conv => whnf
  refine ⟨_, cxF (j7 he g), ?_⟩;conv => whnf
  refine ⟨_, cxF ((zc2 m9 none none [2 % M] (rdM (X * y) f).l (-1) (.inr rfl) (zov h2r) (zpy _) (by simp) (by omega)).toV), ?_⟩;conv => whnf
  rw [zpA, ze5];refine ⟨_, cxF (xh he g none none y (cn M 2 - rdM (X * y) f) hyd hcd2), ?_⟩;conv => whnf
  refine hK8 _ ?_;clear hK8 K8;refine wrg ?_;conv => whnf
  refine ⟨oo, ?_⟩;conv => whnf
  refine ⟨_, _, ⟨i + 1, _, (by rw [Nat.pow_succ, Nat.mul_two]; exact hI.step he.mn), by omega, rfl, rfl⟩, by omega, by dsimp only; omega, ?_⟩;rw [hps];exact cvr
 ·obtain rfl := hI.fin hmM he.mn (by omega) hU hU2;refine W.exit (hK1 _ ?_);clear hK7 K7 hK1 K1;refine wrs λK hK => ?_;conv => whnf
  refine hK _ ?_;clear hK K;refine W.ret ?_;conv => whnf
  exact ⟨.v (.ints none y.l), ⟨rfl, rfl⟩, trivial, rfl⟩
end


section
variable {p k M : Int} [SP p] [Pos M] {f : Poly M} {n : Nat}

theorem zoy (m9 : M <= 1000000000) (h9 : dg f <= 100) : Bd 100000000000 (mkL (f.l.length - 1) (dv (cf f.l))) := λj => by
 rw [yC]
 split
 ·rename_i hj
  have h1 := jK f (j + 1);have hfl : f.l.length = dg f := rfl;have h2 : 0 <= ((j : Int) + 1) * cf f.l (j + 1) := Int.mul_nonneg (by omega) h1.1;have h3 : ((j : Int) + 1) * cf f.l (j + 1) <= 100 * 1000000000 := Int.mul_le_mul (by omega) (by omega) h1.1 (by omega);unfold dv;omega
 ·omega
theorem ziN : nrm M (mkL (f.l.length - 1) (dv (cf f.l))) = (zcl f).l := rfl
theorem zgH (he : ExtP p k M f n) {y : Poly M} {i : Nat} (hI : RootI p f n i y) : ∃ s, dg s <= n ∧ Cg f (slp f y * s) 1 :=
 zaR he.hm.symm (by have := he.rn.1.small; omega) he.mn he.irr (hI.unit he.pm he.mn he.irr)
theorem zoz (he : ExtP p k M f n) (y : Poly M) : dg (slp f y) <= n := vO he.mn he.n1 _


theorem zdw (he : ExtP p k M f n) (g : Option Nat) (R : Poly M) (hR : RootI p f n k.toNat R) : FnT Tryz.prog 67 [vE p k g f.l] (R1 R.l) := by
 have h8 := he.n8;have hn1 := he.n1;have m9 := he.m9;have hp := Pos.pos (p := M);obtain ⟨s1, s2, s3, s4, s5, s6⟩ := he.rn.1.small;have hmM : M = p ^ k.toNat := he.hm.symm;have hf1 := he.mn.1;have hfl : f.l.length = dg f := rfl;have hfd := (ze7 he.pm he.mn).1;have hX1 : dg (X p) <= 2 := by show (X p).l.length <= 2; rw [X_l]; simp
 have eX : [(0 : Int), 1] = (X p).l := X_l.symm;have hf0 := he.irr.ne;have hI0 : RootI p f n (2 ^ 0) (lft M (rem (X p ^ p.toNat) (im p f))) := RootI.start he.pm he.ple he.irr hfd;have hl0 : (rem (X p ^ p.toNat) (im p f)).l = (lft M (rem (X p ^ p.toNat) (im p f))).l := (zlb he.ple _).symm;have hdd := zlg f;have hmkl : (mkL (f.l.length - 1) (dv (cf f.l))).length <= 100 := by rw [zK]; omega
 refine yU (zh [] [0, 1, 2, 3, 4, 5, 6, 24, 1000000]) Tryz.func67 rfl (by decide) Tryz.ntmps67 (Nat.le_of_ble_eq_true rfl) (λbase => ?_) (Nat.le_of_ble_eq_true rfl);refine W.sw (c' := cx [0, 1, 2, 3, 4, 5, 6, 24, 1000000]) ?_;refine wrs λK hK => ?_;conv => whnf
 refine ⟨rfl, ?_⟩;conv => whnf
 intro b_1 hs_1 hh_1 hf_1;try dsimp only at hh_1 hf_1
 conv => whnf
 refine hK _ ?_;clear hK K;refine W.seqK λK1 hK1 => ?_
 have fin : ∀ (b : Nat) (t : S), base <= t.hs -> zD t.env [(vt, .tab λ_ => none), (1, .ownB b_1 (vE p k g f.l)), (3, .ownB b (vK p none (im p f).l)), (4, .v (.int .i64 M))] -> K1 t := by
  intro b3 t h7 h9;refine hK1 _ (W.weak (t := ⟨[(vt, .tab λ_ => none), (1, .ownB b_1 (vE p k g f.l)), (3, .ownB b3 (vK p none (im p f).l)), (4, .v (.int .i64 M))], base⟩) ⟨h7, h9⟩ (Nat.le_refl _) ?_);clear hK1 K1;refine W.sw (c' := cxt [134] [0, 1, 2, 3, 4, 5, 6, 24, 1000000]) ?_;refine W.rs (zh _ _) (by rfl) λK hK => ?_;conv => whnf
  refine ⟨⟨rfl, by decide⟩, ?_⟩;conv => whnf
  intro b_7 hs_7 hh_7 hf_7;try dsimp only at hh_7 hf_7
  conv => whnf
  rw [eX];refine ⟨_, cxT (zgF p none (some b_7) (im p f) (X p) (by omega) (by omega) hf0), λlo_y hi_y hs_y x_y tn_y tb_y hl1_y hl2_y _ hp_y hf_y hn_y ho_y => ?_⟩;try dsimp only at hl1_y hl2_y
  obtain ⟨b0, rfl, hy0⟩ := hp_y;conv => whnf
  refine hK _ ?_;clear hK K;rw [hl0];rw [hl0] at hy0;refine W.sw (c' := cxt [] [0, 1, 2, 3, 4, 5, 6, 24, 1000000]) ?_;refine W.seqK λK1 hK1 => W.block (W.invA (λm e => ∃ (i : Nat) (y : Poly M), RootI p f n (2 ^ i) y ∧ i <= 40 ∧ m = 40 - i ∧ ((∃ (b : Nat) (tb : Tab), (y.l ≠ [] -> tb b = some y.l) ∧ e = [(vt, .tab tb), (1, .ownB b_1 (vE p k g f.l)), (4, .v (.int .i64 M)), (5, .v (.rf b y.l.length))]) ∨ ∃ (b : Nat) (tb : Tab), e = [(vt, .tab tb), (1, .ownB b_1 (vE p k g f.l)), (4, .v (.int .i64 M)), (5, .ownI 2 b y.l)])) ⟨0, _, hI0, by omega, rfl, .inl ⟨b0, tb_y, λh => hn_y _ _ (hy0 h), rfl⟩⟩ ?_);rintro m e ⟨i, y, hI, hi, hm, hcase⟩;have hyd := hI.deg;have hV := vO (F := f) (X := y) he.mn hn1 (dg f);obtain ⟨s, hs1, hs2⟩ := zgH he hI;have hSd := zoz he y;have hR1 := yW he.mn (zY f f y (dg f) * s);have hRl : (rdM (zY f f y (dg f) * s) f).l.length = dg (rdM (zY f f y (dg f) * s) f) := rfl;have hyl : y.l.length = dg y := rfl;have hsl := zhE y.l (rdM (zY f f y (dg f) * s) f).l;refine W.give 5 λK9 hK9 => ?_
  have core : ∀ (b : Nat) (tb : Tab) (t : S), (y.l ≠ [] -> tb b = some y.l) -> base <= t.hs -> zD t.env [(vt, .tab tb), (1, .ownB b_1 (vE p k g f.l)), (4, .v (.int .i64 M)), (5, .v (.rf b y.l.length))] -> K9 t := by
   intro b tb t hy h7 h9;refine hK9 _ (W.weak (t := ⟨[(vt, .tab tb), (1, .ownB b_1 (vE p k g f.l)), (4, .v (.int .i64 M)), (5, .v (.rf b y.l.length))], base⟩) ⟨h7, h9⟩ (Nat.le_refl _) ?_);clear hK9 K9 hcase;refine W.seqK λK7 hK7 => ?_;refine W.rs (zh _ _) (by rfl) λK hK => ?_;conv => whnf
   refine ⟨y.l, ⟨rfl, hy⟩, ?_⟩;conv => whnf
   refine zr rfl (zkt he g g (some b) f y (by omega) hyd) λhs_8 b_8 hh_8 hf_8 => ?_;try dsimp only at hh_8 hf_8
   conv => whnf
   have hVl : (zY f f y (dg f)).l.length = dg (zY f f y (dg f)) := rfl;refine hK _ (W.cond ⟨λh => ?_, λh => ?_⟩) <;> clear hK K
   ·have h := of_decide_eq_true h
    have hlt : 2 ^ i < k.toNat := Nat.lt_of_not_le λhle => by
     have h0 := hI.zero_of hmM he.mn hn1 hle;rw [h0] at hVl h;rw [zlh] at hVl;omega
    have h4 : i < 2 ^ i := Nat.lt_two_pow_self;refine W.skip (hK7 _ (W.block ?_));clear hK7 K7;refine W.rd (zh _ _) follows (by rfl) λK hK => ?_;conv => whnf
    refine ⟨_, zcm (zbp g f.l ((za0 m9 f).le (by omega)) (by omega)), ?_⟩;conv => whnf
    refine ⟨_, zcm ((zL M (by omega) (by omega) none _ ((zoy m9 (by omega)).le (by omega)) (by omega)).toV), ?_⟩;conv => whnf
    rw [ziN];refine ⟨y.l, ⟨rfl, hy⟩, ?_⟩;conv => whnf
    refine ⟨_, zcm (zlt he g none (some b) (zcl f) y (by omega) hyd), ?_⟩;conv => whnf
    refine hK _ ?_;clear hK K;have eS : zY f (zcl f) y (dg (zcl f)) = slp f y := rfl;rw [eS];refine W.drawS 13 (zh _ _) follows (by rfl) ?_;conv => whnf
    refine ⟨y.l, ⟨rfl, hy⟩, ?_⟩;conv => whnf
    refine ⟨_, zcm (zlt he g g (some b) f y (by omega) hyd), ?_⟩;conv => whnf
    refine ⟨_, zcm (zpC he g none (slp f y) s hSd hs1 hs2), ?_⟩;conv => whnf
    refine ⟨_, zcm (zbh he g none none (zY f f y (dg f)) s hV hs1), ?_⟩;conv => whnf
    refine ⟨y.l, ⟨rfl, hy⟩, ?_⟩;conv => whnf
    refine ⟨_, zcm ((zfp (some b) none y.l (rdM (zY f f y (dg f) * s) f).l ((za0 m9 _).le (by omega)) ((za0 m9 _).le (by omega)) (by omega) (by omega)).toV), ?_⟩;conv => whnf
    refine zr rfl (zL M (by omega) (by omega) none (zu (yK y.l (zV (-1) (rdM (zY f f y (dg f) * s) f).l))) (zow (za0 m9 _) (za0 m9 _) (by omega)) (by omega)) λhs_6 b_6 hh_6 hf_6 => ?_;try dsimp only at hh_6 hf_6
    conv => whnf
    rw [zn5];exact zm ⟨i + 1, _, (by rw [Nat.pow_succ, Nat.mul_two]; exact hI.next he.pm he.mn (Nat.pow_pos (by omega)) hs2), by omega, rfl, .inr ⟨b_6, tb, rfl⟩⟩
   ·have h := of_decide_eq_false h;have h0 : zY f f y (dg f) = 0 := zd.1 (by omega);obtain rfl := (hI.of_zero he.mn h0 k.toNat).unique hmM (by omega) he.mn he.irr hR (Nat.le_refl _) (Nat.le_refl _);refine W.exit (hK1 _ ?_);clear hK7 K7 hK1 K1;refine W.rs (zh _ _) (by rfl) λK hK => ?_;conv => whnf
    refine hK _ ?_;clear hK K;refine W.ret ?_;conv => whnf
    exact ⟨.v (.rf b y.l.length), rfl, trivial, b, rfl, hy⟩
  clear hK9;rcases hcase with ⟨b, tb, hy, rfl⟩ | ⟨b, tb, rfl⟩
  ·conv => whnf
   refine core b tb _ hy (by dsimp only; omega) ?_;exact cvr
  ·conv => whnf
   refine core b (zkA tb b y.l) _ (λh => zI _ _ h) (by dsimp only; omega) ?_;exact cvr
 clear hK1;refine W.sch follows ?_;refine Wany.takeF (za []) 2 (by rfl) (by rfl) (by rfl) (by rfl) (by decide) (by kernel_rfl) (by kernel_rfl) (by kernel_rfl) ?_;conv => whnf
 refine w3 0 3 5 ?_ ?_ ?_ <;> conv => whnf
 ·refine w3 1 3 5 ?_ ?_ ?_ <;> conv => whnf
  ·refine zb rfl (xI he g) λhs' hhs => ?_;try dsimp only at hhs
   conv => whnf
   refine w2 3 5 ?_ ?_ <;> conv => whnf
   ·refine ⟨by show 0 + 2 <= 3; omega, ?_⟩;conv => whnf
    refine w2 4 5 ?_ ?_ <;> conv => whnf
    ·refine zb rfl (zM he.rn.1 he.hm) λhs' hhs => ?_;try dsimp only at hhs
     conv => whnf
     refine w1 5 ?_;conv => whnf
     intro b_5 hs_5 hh_5 hf_5;try dsimp only at hh_5 hf_5
     conv => whnf
     refine w1 6 ?_;conv => whnf
     refine ⟨s23, ?_⟩;conv => whnf
     refine w1 7 ?_;conv => whnf
     refine wd1 (fin b_5 _ (by dsimp only; omega) ?_);exact cvr
    ·intro b_5 hs_5 hh_5 hf_5;try dsimp only at hh_5 hf_5
     conv => whnf
     refine w1 4 ?_;conv => whnf
     refine zb rfl (zM he.rn.1 he.hm) λhs' hhs => ?_;try dsimp only at hhs
     conv => whnf
     refine w1 6 ?_;conv => whnf
     refine ⟨s23, ?_⟩;conv => whnf
     refine w1 7 ?_;conv => whnf
     refine wd1 (fin b_5 _ (by dsimp only; omega) ?_);exact cvr
   ·intro b_5 hs_5 hh_5 hf_5;try dsimp only at hh_5 hf_5
    conv => whnf
    refine w1 3 ?_;conv => whnf
    refine ⟨by show 0 + 2 <= 3; omega, ?_⟩;conv => whnf
    refine w1 4 ?_;conv => whnf
    refine zb rfl (zM he.rn.1 he.hm) λhs' hhs => ?_;try dsimp only at hhs
    conv => whnf
    refine w1 6 ?_;conv => whnf
    refine ⟨s23, ?_⟩;conv => whnf
    refine w1 7 ?_;conv => whnf
    refine wd1 (fin b_5 _ (by dsimp only; omega) ?_);exact cvr
  ·refine ⟨by show 0 + 2 <= 3; omega, ?_⟩;conv => whnf
   refine w2 1 5 ?_ ?_ <;> conv => whnf
   ·refine zb rfl (xI he g) λhs' hhs => ?_;try dsimp only at hhs
    conv => whnf
    refine w2 4 5 ?_ ?_ <;> conv => whnf
    ·refine zb rfl (zM he.rn.1 he.hm) λhs' hhs => ?_;try dsimp only at hhs
     conv => whnf
     refine w1 5 ?_;conv => whnf
     intro b_5 hs_5 hh_5 hf_5;try dsimp only at hh_5 hf_5
     conv => whnf
     refine w1 6 ?_;conv => whnf
     refine ⟨s23, ?_⟩;conv => whnf
     refine w1 7 ?_;conv => whnf
     refine wd1 (fin b_5 _ (by dsimp only; omega) ?_);exact cvr
    ·intro b_5 hs_5 hh_5 hf_5;try dsimp only at hh_5 hf_5
     conv => whnf
     refine w1 4 ?_;conv => whnf
     refine zb rfl (zM he.rn.1 he.hm) λhs' hhs => ?_;try dsimp only at hhs
     conv => whnf
     refine w1 6 ?_;conv => whnf
     refine ⟨s23, ?_⟩;conv => whnf
     refine w1 7 ?_;conv => whnf
     refine wd1 (fin b_5 _ (by dsimp only; omega) ?_);exact cvr
   ·intro b_5 hs_5 hh_5 hf_5;try dsimp only at hh_5 hf_5
    conv => whnf
    refine w1 1 ?_;conv => whnf
    refine zb rfl (xI he g) λhs' hhs => ?_;try dsimp only at hhs
    conv => whnf
    refine w1 4 ?_;conv => whnf
    refine zb rfl (zM he.rn.1 he.hm) λhs' hhs => ?_;try dsimp only at hhs
    conv => whnf
    refine w1 6 ?_;conv => whnf
    refine ⟨s23, ?_⟩;conv => whnf
    refine w1 7 ?_;conv => whnf
    refine wd1 (fin b_5 _ (by dsimp only; omega) ?_);exact cvr
  ·intro b_5 hs_5 hh_5 hf_5;try dsimp only at hh_5 hf_5
   conv => whnf
   refine w2 1 3 ?_ ?_ <;> conv => whnf
   ·refine zb rfl (xI he g) λhs' hhs => ?_;try dsimp only at hhs
    conv => whnf
    refine w1 3 ?_;conv => whnf
    refine ⟨by show 0 + 2 <= 3; omega, ?_⟩;conv => whnf
    refine w1 4 ?_;conv => whnf
    refine zb rfl (zM he.rn.1 he.hm) λhs' hhs => ?_;try dsimp only at hhs
    conv => whnf
    refine w1 6 ?_;conv => whnf
    refine ⟨s23, ?_⟩;conv => whnf
    refine w1 7 ?_;conv => whnf
    refine wd1 (fin b_5 _ (by dsimp only; omega) ?_);exact cvr
   ·refine ⟨by show 0 + 2 <= 3; omega, ?_⟩;conv => whnf
    refine w1 1 ?_;conv => whnf
    refine zb rfl (xI he g) λhs' hhs => ?_;try dsimp only at hhs
    conv => whnf
    refine w1 4 ?_;conv => whnf
    refine zb rfl (zM he.rn.1 he.hm) λhs' hhs => ?_;try dsimp only at hhs
    conv => whnf
    refine w1 6 ?_;conv => whnf
    refine ⟨s23, ?_⟩;conv => whnf
    refine w1 7 ?_;conv => whnf
    refine wd1 (fin b_5 _ (by dsimp only; omega) ?_);exact cvr
 ·refine ⟨by show 0 + 2 <= 3; omega, ?_⟩;conv => whnf
  refine w2 0 5 ?_ ?_ <;> conv => whnf
  ·refine w2 1 5 ?_ ?_ <;> conv => whnf
   ·refine zb rfl (xI he g) λhs' hhs => ?_;try dsimp only at hhs
    conv => whnf
    refine w2 4 5 ?_ ?_ <;> conv => whnf
    ·refine zb rfl (zM he.rn.1 he.hm) λhs' hhs => ?_;try dsimp only at hhs
     conv => whnf
     refine w1 5 ?_;conv => whnf
     intro b_5 hs_5 hh_5 hf_5;try dsimp only at hh_5 hf_5
     conv => whnf
     refine w1 6 ?_;conv => whnf
     refine ⟨s23, ?_⟩;conv => whnf
     refine w1 7 ?_;conv => whnf
     refine wd1 (fin b_5 _ (by dsimp only; omega) ?_);exact cvr
    ·intro b_5 hs_5 hh_5 hf_5;try dsimp only at hh_5 hf_5
     conv => whnf
     refine w1 4 ?_;conv => whnf
     refine zb rfl (zM he.rn.1 he.hm) λhs' hhs => ?_;try dsimp only at hhs
     conv => whnf
     refine w1 6 ?_;conv => whnf
     refine ⟨s23, ?_⟩;conv => whnf
     refine w1 7 ?_;conv => whnf
     refine wd1 (fin b_5 _ (by dsimp only; omega) ?_);exact cvr
   ·intro b_5 hs_5 hh_5 hf_5;try dsimp only at hh_5 hf_5
    conv => whnf
    refine w1 1 ?_;conv => whnf
    refine zb rfl (xI he g) λhs' hhs => ?_;try dsimp only at hhs
    conv => whnf
    refine w1 4 ?_;conv => whnf
    refine zb rfl (zM he.rn.1 he.hm) λhs' hhs => ?_;try dsimp only at hhs
    conv => whnf
    refine w1 6 ?_;conv => whnf
    refine ⟨s23, ?_⟩;conv => whnf
    refine w1 7 ?_;conv => whnf
    refine wd1 (fin b_5 _ (by dsimp only; omega) ?_);exact cvr
  ·intro b_5 hs_5 hh_5 hf_5;try dsimp only at hh_5 hf_5
   conv => whnf
   refine w1 0 ?_;conv => whnf
   refine w1 1 ?_;conv => whnf
   refine zb rfl (xI he g) λhs' hhs => ?_;try dsimp only at hhs
   conv => whnf
   refine w1 4 ?_;conv => whnf
   refine zb rfl (zM he.rn.1 he.hm) λhs' hhs => ?_;try dsimp only at hhs
   conv => whnf
   refine w1 6 ?_;conv => whnf
   refine ⟨s23, ?_⟩;conv => whnf
   refine w1 7 ?_;conv => whnf
   refine wd1 (fin b_5 _ (by dsimp only; omega) ?_);exact cvr
 ·intro b_5 hs_5 hh_5 hf_5;try dsimp only at hh_5 hf_5
  conv => whnf
  refine w2 0 3 ?_ ?_ <;> conv => whnf
  ·refine w2 1 3 ?_ ?_ <;> conv => whnf
   ·refine zb rfl (xI he g) λhs' hhs => ?_;try dsimp only at hhs
    conv => whnf
    refine w1 3 ?_;conv => whnf
    refine ⟨by show 0 + 2 <= 3; omega, ?_⟩;conv => whnf
    refine w1 4 ?_;conv => whnf
    refine zb rfl (zM he.rn.1 he.hm) λhs' hhs => ?_;try dsimp only at hhs
    conv => whnf
    refine w1 6 ?_;conv => whnf
    refine ⟨s23, ?_⟩;conv => whnf
    refine w1 7 ?_;conv => whnf
    refine wd1 (fin b_5 _ (by dsimp only; omega) ?_);exact cvr
   ·refine ⟨by show 0 + 2 <= 3; omega, ?_⟩;conv => whnf
    refine w1 1 ?_;conv => whnf
    refine zb rfl (xI he g) λhs' hhs => ?_;try dsimp only at hhs
    conv => whnf
    refine w1 4 ?_;conv => whnf
    refine zb rfl (zM he.rn.1 he.hm) λhs' hhs => ?_;try dsimp only at hhs
    conv => whnf
    refine w1 6 ?_;conv => whnf
    refine ⟨s23, ?_⟩;conv => whnf
    refine w1 7 ?_;conv => whnf
    refine wd1 (fin b_5 _ (by dsimp only; omega) ?_);exact cvr
  ·refine ⟨by show 0 + 2 <= 3; omega, ?_⟩;conv => whnf
   refine w1 0 ?_;conv => whnf
   refine w1 1 ?_;conv => whnf
   refine zb rfl (xI he g) λhs' hhs => ?_;try dsimp only at hhs
   conv => whnf
   refine w1 4 ?_;conv => whnf
   refine zb rfl (zM he.rn.1 he.hm) λhs' hhs => ?_;try dsimp only at hhs
   conv => whnf
   refine w1 6 ?_;conv => whnf
   refine ⟨s23, ?_⟩;conv => whnf
   refine w1 7 ?_;conv => whnf
   refine wd1 (fin b_5 _ (by dsimp only; omega) ?_);exact cvr
-- 15 ways
theorem zhF (he : ExtP p k M f n) (g : Option Nat) (R : Poly M) (hR : RootI p f n k.toNat R) : FnV 67 [vE p k g f.l] (.ints none R.l) := R1.V (zdw he g R hR)

theorem zfy (he : ExtP p k M f n) (g : Option Nat) (R : Poly M) (hR : RootI p f n k.toNat R) : FnV 115 [vE p k g f.l] (.ints none R.l) := by
 have h8 := he.n8;have hn1 := he.n1;have m9 := he.m9;have hp := Pos.pos (p := M);obtain ⟨s1, s2, s3, s4, s5, s6⟩ := he.rn.1.small;have hmM : M = p ^ k.toNat := he.hm.symm;have hf1 := he.mn.1;have hfl : f.l.length = dg f := rfl;have hfd := (ze7 he.pm he.mn).1;have hX1 : dg (X p) <= 2 := by show (X p).l.length <= 2; rw [X_l]; simp
 have eX : [(0 : Int), 1] = (X p).l := X_l.symm;have hf0 := he.irr.ne;have hI0 : RootI p f n (2 ^ 0) (lft M (rem (X p ^ p.toNat) (im p f))) := RootI.start he.pm he.ple he.irr hfd;have hl0 : (rem (X p ^ p.toNat) (im p f)).l = (lft M (rem (X p ^ p.toNat) (im p f))).l := (zlb he.ple _).symm;have hdd := zlg f;have hmkl : (mkL (f.l.length - 1) (dv (cf f.l))).length <= 100 := by rw [zK]; omega
 refine zg (za [0, 1, 2, 3, 4, 5, 6, 7, 25]) Tryz.func115 rfl (by decide) Tryz.ntmps115 (Nat.le_of_ble_eq_true rfl) λbase => ?_;refine wrs λK hK => ?_;conv => whnf
 refine ⟨rfl, ?_⟩;conv => whnf
 intro b_1 hs_1 hh_1 hf_1;try dsimp only at hh_1 hf_1
 conv => whnf
 refine hK _ ?_;clear hK K;refine wrs λK hK => ?_;conv => whnf
 refine zb rfl (zfx he g) λhs' hhs => ?_;try dsimp only at hhs
 conv => whnf
 intro b_3 hs_3 hh_3 hf_3;try dsimp only at hh_3 hf_3
 conv => whnf
 refine ⟨s23, ?_⟩;conv => whnf
 refine hK _ ?_;clear hK K;refine wrs λK hK => ?_;conv => whnf
 refine ⟨⟨rfl, by decide⟩, ?_⟩;conv => whnf
 intro b_7 hs_7 hh_7 hf_7;try dsimp only at hh_7 hf_7
 conv => whnf
 rw [eX];refine zb rfl (zhC p none (some b_7) (im p f) (X p) (by omega) (by omega) hf0) λhs' hhs => ?_;try dsimp only at hhs
 conv => whnf
 rw [hl0];refine hK _ ?_;clear hK K;refine W.rd (za _) follows (by rfl) λK hK => ?_;conv => whnf
 refine ⟨_, cxF (j7 he g), ?_⟩;conv => whnf
 refine ⟨_, cxF (kI g f.l ((za0 m9 f).le (by omega)) (by omega)), ?_⟩;conv => whnf
 refine ⟨_, cxF ((xp M (by omega) (by omega) none _ ((zoy m9 (by omega)).le (by omega)) (by omega)).toV), ?_⟩;conv => whnf
 rw [ziN];refine hK _ ?_;clear hK K;refine W.seqK λK1 hK1 => wrs λK hK => ?_;conv => whnf
 refine hK _ (W.block (W.invA (λm e => ∃ (i : Nat) (y : Poly M), RootI p f n (2 ^ i) y ∧ i <= 40 ∧ m = 40 - i ∧ e = [(1, .ownB b_1 (vE p k g f.l)), (4, .v (.ints none y.l)), (5, .v (.ints none (zcl f).l)), (6, .v (.int .i64 ((2 ^ i : Nat) : Int)))]) ⟨0, _, hI0, by omega, rfl, rfl⟩ ?_));clear hK K;rintro m e ⟨i, y, hI, hi, hm, rfl⟩;have hyd := hI.deg;have hV := vO (F := f) (X := y) he.mn hn1 (dg f);obtain ⟨s, hs1, hs2⟩ := zgH he hI;have hSd := zoz he y;have hR1 := yW he.mn (zY f f y (dg f) * s);have hRl : (rdM (zY f f y (dg f) * s) f).l.length = dg (rdM (zY f f y (dg f) * s) f) := rfl;have hyl : y.l.length = dg y := rfl;have hsl := zhE y.l (rdM (zY f f y (dg f) * s) f).l;refine W.seqK λK7 hK7 => wrs λK hK => ?_;conv => whnf
 refine hK _ (W.cond ⟨λh => ?_, λh => ?_⟩) <;> clear hK K <;> (first | replace h := of_decide_eq_true h | replace h := of_decide_eq_false h)
 ·have h4 : i < 2 ^ i := Nat.lt_two_pow_self;have hps : ((2 ^ (i + 1) : Nat) : Int) = 2 * ((2 ^ i : Nat) : Int) := by rw [Nat.pow_succ]; omega
  have eS : zY f (zcl f) y (dg (zcl f)) = slp f y := rfl;refine W.skip (hK7 _ ?_);clear hK7 K7;refine W.seqK λK8 hK8 => W.block ?_;refine W.rd (za _) follows (by rfl) λK hK => ?_;conv => whnf
  refine ⟨_, cxF (za2 he g g none f y (by omega) hyd), ?_⟩;conv => whnf
  refine ⟨_, cxF (za2 he g none none (zcl f) y (by omega) hyd), ?_⟩;conv => whnf
  rw [eS];refine ⟨_, cxF (zfS he g none (slp f y) s hSd hs1 hs2), ?_⟩;conv => whnf
  refine ⟨_, cxF (xh he g none none (zY f f y (dg f)) s hV hs1), ?_⟩;conv => whnf
  refine hK _ ?_;clear hK K;refine wrg ?_;conv => whnf
  refine zb rfl (j7 he g) λhs' hhs => ?_;try dsimp only at hhs
  conv => whnf
  refine zb rfl ((zc2 m9 none none y.l (rdM (zY f f y (dg f) * s) f).l (-1) (.inr rfl) (zpy _) (zpy _) (by omega) (by omega)).toV) λhs' hhs => ?_;try dsimp only at hhs
  conv => whnf
  rw [zqh];refine hK8 _ ?_;clear hK8 K8;refine wrg ?_;conv => whnf
  refine ⟨oo, ?_⟩;conv => whnf
  refine ⟨_, _, ⟨i + 1, _, (by rw [Nat.pow_succ, Nat.mul_two]; exact hI.next he.pm he.mn (Nat.pow_pos (by omega)) hs2), by omega, rfl, rfl⟩, by omega, by dsimp only; omega, ?_⟩;rw [hps];exact cvr
 ·obtain rfl := hI.unique hmM (by omega) he.mn he.irr hR (by omega) (Nat.le_refl _);refine W.exit (hK1 _ ?_);clear hK7 K7 hK1 K1;refine wrs λK hK => ?_;conv => whnf
  refine hK _ ?_;clear hK K;refine W.ret ?_;conv => whnf
  exact ⟨.v (.ints none y.l), ⟨rfl, rfl⟩, trivial, rfl⟩
end


section
variable {p k M : Int} [SP p] [Pos M] {f : Poly M} {n : Nat}
theorem zjl (he : ExtP p k M f n) : ∃ R, RootI p f n k.toNat R :=
 zi0 (f := f) (n := n) he.hm.symm (by have := he.rn.1.small; omega) he.ple he.mn he.irr
noncomputable def vq (he : ExtP p k M f n) : Poly M := (zjl he).choose
theorem zfz (he : ExtP p k M f n) : RootI p f n k.toNat (vq he) := (zjl he).choose_spec
end



theorem zc3 (kp kq : Int) (kl : List Int) (_ : inR kp) (_ : inR kq) (hkl : kl.length <= 1048576) : ∃ (r0 : List Int) (r1 : Int),
  (∀ g0 : Option Nat, FnV 54 [vE kp kq g0 kl] (.tup [.ints none r0, .int .i64 r1])) ∧ (∀ g0 : Option Nat, FnT Tryz.prog 53 [vE kp kq g0 kl] (RT r0 r1)) ∧ r0.length <= 1000000 ∧ (jn kp kq kl ↔ r1 = 0) := by
 by_cases hk : jn kp kq kl
 case neg =>
  have hc : z8 kp kq kl 0 (λ_ => []) = 1 := by unfold z8; rw [ze hk]; rfl
  refine ⟨[], 1, λg0 => ?_, λg0 => ?_, by simp, λh => absurd h hk, λh => absurd h (by decide)⟩
  ·refine zg (za [0, 1, 2, 3, 6]) Tryz.func54 rfl (by decide) Tryz.ntmps54 (Nat.le_of_ble_eq_true rfl) λbase => ?_;refine wrs λK hK => ?_;conv => whnf
   refine ⟨rfl, ?_⟩;conv => whnf
   intro b_1 hs_1 hh_1 hf_1;try dsimp only at hh_1 hf_1
   conv => whnf
   refine hK _ ?_;clear hK K;refine W.seqK λK1 hK1 => ?_;refine wrs λK hK => ?_;conv => whnf
   refine zb rfl ((zU kp kq g0 kl (by omega)).fa (ze hk)) λhs' hhs => ?_;try dsimp only at hhs
   conv => whnf
   refine hK _ (W.condT rfl ?_);clear hK K;refine wrs λK hK => ?_;conv => whnf
   refine hK _ ?_;clear hK K;refine W.ret ?_;conv => whnf
   exact ⟨.v (.ints none []), rfl, trivial, .v (.int .i64 1), ⟨rfl, rfl⟩, trivial, rfl⟩
  ·refine yU (zh [] [0, 1, 2, 3, 4, 8, 1000000]) Tryz.func53 rfl (by decide) Tryz.ntmps53 (Nat.le_of_ble_eq_true rfl) (λbase => ?_) (Nat.le_of_ble_eq_true rfl);refine W.sw (c' := cx [0, 1, 2, 3, 4, 8, 1000000]) ?_;refine wrs λK hK => ?_;conv => whnf
   refine ⟨rfl, ?_⟩;conv => whnf
   intro b_1 hs_1 hh_1 hf_1;try dsimp only at hh_1 hf_1
   conv => whnf
   refine hK _ ?_;clear hK K;refine W.seqK λK1 hK1 => ?_;refine wrs λK hK => ?_;conv => whnf
   refine zb rfl (yQ kp kq g0 none kl 0 _ (λ_ => []) (by omega) (by omega) (λi hi => by omega) (λi hi => by omega)) λhs' hhs => ?_;try dsimp only at hhs
   conv => whnf
   rw [hc];refine hK _ ?_;clear hK K;refine wrs λK hK => ?_;conv => whnf
   refine hK _ (W.cond ⟨λ_ => ?_, λhcc => absurd (by decide : (1 : Int) ≠ 0) (of_decide_eq_false hcc)⟩);clear hK K;refine wrs λK hK => ?_;conv => whnf
   refine hK _ ?_;clear hK K;refine W.ret ?_;conv => whnf
   exact ⟨.v (.rf 0 0), rfl, trivial, .v (.int .i64 (1)), ⟨rfl, rfl⟩, trivial, 0, rfl, λhne => absurd rfl hne⟩
 have hc : z8 kp kq kl 0 (λ_ => []) = 0 := by unfold z8; rw [zi hk, zi (λi hi => by omega)]; rfl
 have hk2 := hk;obtain ⟨hp, hx2⟩ := zcv hk;letI := xt hp;obtain ⟨M, _, f, n, rfl, he⟩ := hx2;have hfl : f.l.length = dg f := rfl;have hf1 := he.mn.1;have hn8 := he.n8;obtain ⟨R, hRe, hR⟩ : ∃ R, vq he = R ∧ RootI kp f n kq.toNat R := ⟨_, rfl, zfz he⟩
 have hRd := hR.deg;refine ⟨R.l, 0, λg0 => ?_, λg0 => ?_, by show dg R <= _; omega, λ_ => rfl, λ_ => hk2⟩
 ·refine zg (za [0, 1, 2, 3, 6]) Tryz.func54 rfl (by decide) Tryz.ntmps54 (Nat.le_of_ble_eq_true rfl) λbase => ?_;refine wrs λK hK => ?_;conv => whnf
  refine ⟨rfl, ?_⟩;conv => whnf
  intro b_1 hs_1 hh_1 hf_1;try dsimp only at hh_1 hf_1
  conv => whnf
  refine hK _ ?_;clear hK K;refine W.seqK λK1 hK1 => ?_;refine wrs λK hK => ?_;conv => whnf
  refine zb rfl ((zU kp kq g0 f.l (by omega)).tr (zi hk2)) λhs' hhs => ?_;try dsimp only at hhs
  conv => whnf
  refine hK _ (W.condF rfl (W.skip (hK1 _ ?_)));clear hK K hK1 K1;refine wrs λK hK => ?_;conv => whnf
  refine zb rfl (zfy he g0 R hR) λhs' hhs => ?_;try dsimp only at hhs
  conv => whnf
  refine hK _ ?_;clear hK K;refine W.ret ?_;conv => whnf
  exact ⟨.v (.ints none R.l), ⟨rfl, rfl⟩, trivial, .v (.int .i64 0), ⟨rfl, rfl⟩, trivial, rfl⟩
 ·refine yU (zh [] [0, 1, 2, 3, 4, 8, 1000000]) Tryz.func53 rfl (by decide) Tryz.ntmps53 (Nat.le_of_ble_eq_true rfl) (λbase => ?_) (Nat.le_of_ble_eq_true rfl);refine W.sw (c' := cx [0, 1, 2, 3, 4, 8, 1000000]) ?_;refine wrs λK hK => ?_;conv => whnf
  refine ⟨rfl, ?_⟩;conv => whnf
  intro b_1 hs_1 hh_1 hf_1;try dsimp only at hh_1 hf_1
  conv => whnf
  refine hK _ ?_;clear hK K;refine W.seqK λK1 hK1 => ?_;refine wrs λK hK => ?_;conv => whnf
  refine zb rfl (yQ kp kq g0 none f.l 0 _ (λ_ => []) (by omega) (by omega) (λi hi => by omega) (λi hi => by omega)) λhs' hhs => ?_;try dsimp only at hhs
  conv => whnf
  rw [hc];refine hK _ ?_;clear hK K;refine wrs λK hK => ?_;conv => whnf
  refine hK _ (W.cond ⟨λhcc => absurd rfl (of_decide_eq_true hcc), λ_ => W.skip (hK1 _ ?_)⟩);clear hK K hK1 K1;refine W.sw (c' := cxt [67] [0, 1, 2, 3, 4, 8, 1000000]) ?_;refine W.rs (zh _ _) (by rfl) λK hK => ?_;conv => whnf
  refine ⟨_, cxT (zdw he g0 R hR), λlo_t hi_t hs_t x_t tn_t tb_t hl1_t hl2_t _ hp_t hf_t hn_t ho_t => ?_⟩;try dsimp only at hl1_t hl2_t
  obtain ⟨bt, rfl, ht⟩ := hp_t;conv => whnf
  refine hK _ ?_;clear hK K;refine W.ret ?_;conv => whnf
  exact ⟨.v (.rf bt R.l.length), rfl, trivial, .v (.int .i64 0), ⟨rfl, rfl⟩, trivial, bt, rfl, λh => hn_t _ _ (ht h)⟩

theorem xr (kp kq : Int) (kl x : List Int) (_ : inR kp) (_ : inR kq) (hkl : kl.length <= 1048576) (hx : x.length <= 1048576) : ∃ (r0 : List Int) (r1 : Int),
  (∀ g0 g1 : Option Nat, FnV 51 [vE kp kq g0 kl, .ints g1 x] (.tup [.ints none r0, .int .i64 r1])) ∧ (∀ g0 g1 : Option Nat, FnT Tryz.prog 50 [vE kp kq g0 kl, .ints g1 x] (RT r0 r1)) ∧ r0.length <= 1000000 ∧ r1 = zfv kp kq kl x ∧ (r1 = 0 -> ∀ hp : kp ∈ z7, letI := xt hp; ∀ (M : Int) (_ : Pos M) (f X : Poly M) (n : Nat) (he : ExtP kp kq M f n), f.l = kl -> X.l = x -> r0 = (zY f X (vq he) (dg X)).l) := by
 generalize hc : zfv kp kq kl x = c
 by_cases h0 : c = 0
 case neg =>
  refine ⟨[], c, λg0 g1 => ?_, λg0 g1 => ?_, by simp, rfl, λh => absurd h h0⟩
  ·refine zg (za [0, 1, 2, 4, 5, 6, 12]) Tryz.func51 rfl (by decide) Tryz.ntmps51 (Nat.le_of_ble_eq_true rfl) λbase => ?_;refine wrs λK hK => ?_;conv => whnf
   refine ⟨rfl, ?_⟩;conv => whnf
   intro b_1 hs_1 hh_1 hf_1;try dsimp only at hh_1 hf_1
   conv => whnf
   refine hK _ ?_;clear hK K;refine wrs λK hK => ?_;conv => whnf
   refine zb rfl (zdv kp kq g0 g1 g1 kl x (by omega) (by omega)) λhs' hhs => ?_;try dsimp only at hhs
   conv => whnf
   rw [hc];refine hK _ ?_;clear hK K;refine W.seqK λK1 hK1 => ?_;refine wrs λK hK => ?_;conv => whnf
   refine hK _ (W.cond ⟨λ_ => ?_, λhcc => absurd h0 (of_decide_eq_false hcc)⟩);clear hK K;refine wrs λK hK => ?_;conv => whnf
   refine hK _ ?_;clear hK K;refine W.ret ?_;conv => whnf
   exact ⟨.v (.ints none []), rfl, trivial, .v (.int .i64 c), ⟨rfl, rfl⟩, trivial, rfl⟩
  ·refine yU (zh [] [0, 1, 2, 4, 5, 6, 12, 1000000]) Tryz.func50 rfl (by decide) Tryz.ntmps50 (Nat.le_of_ble_eq_true rfl) (λbase => ?_) (Nat.le_of_ble_eq_true rfl);refine W.sw (c' := cx [0, 1, 2, 4, 5, 6, 12, 1000000]) ?_;refine wrs λK hK => ?_;conv => whnf
   refine ⟨rfl, ?_⟩;conv => whnf
   intro b_1 hs_1 hh_1 hf_1;try dsimp only at hh_1 hf_1
   conv => whnf
   refine hK _ ?_;clear hK K;refine W.seqK λK1 hK1 => ?_;refine wrs λK hK => ?_;conv => whnf
   refine ⟨⟨rfl, by decide, λx hx => (by simp at hx; subst hx; exact ⟨rfl, rfl⟩)⟩, ?_⟩;conv => whnf
   intro b_2 hs_2 hh_2 hf_2;try dsimp only at hh_2 hf_2
   conv => whnf
   refine zb rfl (yQ kp kq g0 (some b_2) kl 1 _ (λ_ => x) (by omega) (by omega) (λi hi => by omega) (zqc g1 x)) λhs' hhs => ?_;try dsimp only at hhs
   conv => whnf
   rw [show z8 kp kq kl 1 (λ_ => x) = c from hc];refine hK _ ?_;clear hK K;refine wrs λK hK => ?_;conv => whnf
   refine hK _ (W.cond ⟨λ_ => ?_, λhcc => absurd h0 (of_decide_eq_false hcc)⟩);clear hK K;refine wrs λK hK => ?_;conv => whnf
   refine hK _ ?_;clear hK K;refine W.ret ?_;conv => whnf
   exact ⟨.v (.rf 0 0), rfl, trivial, .v (.int .i64 (c)), ⟨rfl, rfl⟩, trivial, 0, rfl, λhne => absurd rfl hne⟩
 subst h0;obtain ⟨hk, hh⟩ := zmw hc;obtain ⟨hp, hx2⟩ := zcv hk;letI := xt hp;obtain ⟨M, _, f, n, rfl, he⟩ := hx2;have hfl : f.l.length = dg f := rfl;have hf1 := he.mn.1;have hn8 := he.n8;obtain ⟨X, rfl⟩ := zbg he.hm hh.1;have hdX : dg X < dg f := hh.2;have hdX : dg X <= n := by omega
 have hlX : X.l.length = dg X := rfl;obtain ⟨R, hRe, hR⟩ : ∃ R, vq he = R ∧ RootI kp f n kq.toNat R := ⟨_, rfl, zfz he⟩
 have hRd := hR.deg;have hV := vO (F := X) (X := R) he.mn he.n1 (dg X);refine ⟨(zY f X R (dg X)).l, 0, λg0 g1 => ?_, λg0 g1 => ?_, by show dg _ <= _; omega, rfl, λ_ hp' M' _ f' X' n' he' e1 e2 => ?_⟩
 ·refine zg (za [0, 1, 2, 4, 5, 6, 12]) Tryz.func51 rfl (by decide) Tryz.ntmps51 (Nat.le_of_ble_eq_true rfl) λbase => ?_;refine wrs λK hK => ?_;conv => whnf
  refine ⟨rfl, ?_⟩;conv => whnf
  intro b_1 hs_1 hh_1 hf_1;try dsimp only at hh_1 hf_1
  conv => whnf
  refine hK _ ?_;clear hK K;refine wrs λK hK => ?_;conv => whnf
  refine zb rfl (zdv kp kq g0 g1 g1 f.l X.l (by omega) (by omega)) λhs' hhs => ?_;try dsimp only at hhs
  conv => whnf
  rw [hc];refine hK _ ?_;clear hK K;refine W.seqK λK1 hK1 => ?_;refine wrs λK hK => ?_;conv => whnf
  refine hK _ (W.cond ⟨λhcc => absurd rfl (of_decide_eq_true hcc), λ_ => W.skip (hK1 _ ?_)⟩);clear hK K hK1 K1;refine W.rd (za _) follows (by rfl) λK hK => ?_;conv => whnf
  refine ⟨_, cxF (zfy he g0 R hR), ?_⟩;conv => whnf
  refine ⟨_, cxF (za2 he g0 g1 none X R (by omega) hRd), ?_⟩;conv => whnf
  refine hK _ ?_;clear hK K;refine W.ret ?_;conv => whnf
  exact ⟨.v (.ints none (zY f X R (dg X)).l), ⟨rfl, rfl⟩, trivial, .v (.int .i64 0), ⟨rfl, rfl⟩, trivial, rfl⟩
 ·refine yU (zh [] [0, 1, 2, 4, 5, 6, 12, 1000000]) Tryz.func50 rfl (by decide) Tryz.ntmps50 (Nat.le_of_ble_eq_true rfl) (λbase => ?_) (Nat.le_of_ble_eq_true rfl);refine W.sw (c' := cx [0, 1, 2, 4, 5, 6, 12, 1000000]) ?_;refine wrs λK hK => ?_;conv => whnf
  refine ⟨rfl, ?_⟩;conv => whnf
  intro b_1 hs_1 hh_1 hf_1;try dsimp only at hh_1 hf_1
  conv => whnf
  refine hK _ ?_;clear hK K;refine W.seqK λK1 hK1 => ?_;refine wrs λK hK => ?_;conv => whnf
  refine ⟨⟨rfl, by decide, λx hx => (by simp at hx; subst hx; exact ⟨rfl, rfl⟩)⟩, ?_⟩;conv => whnf
  intro b_2 hs_2 hh_2 hf_2;try dsimp only at hh_2 hf_2
  conv => whnf
  refine zb rfl (yQ kp kq g0 (some b_2) f.l 1 _ (λ_ => X.l) (by omega) (by omega) (λi hi => by omega) (zqc g1 X.l)) λhs' hhs => ?_;try dsimp only at hhs
  conv => whnf
  rw [show z8 kp kq f.l 1 (λ_ => X.l) = 0 from hc];refine hK _ ?_;clear hK K;refine wrs λK hK => ?_;conv => whnf
  refine hK _ (W.cond ⟨λhcc => absurd rfl (of_decide_eq_true hcc), λ_ => W.skip (hK1 _ ?_)⟩);clear hK K hK1 K1;refine W.sw (c' := cxt [] [0, 1, 2, 4, 5, 6, 12, 1000000]) ?_;refine W.rdS 4 (zh _ _) follows (by rfl) λK hK => ?_;conv => whnf
  refine ⟨_, zcm (zhF he g0 R hR), ?_⟩;conv => whnf
  refine zr rfl (zkt he g0 g1 none X R (by omega) hRd) λhs_5 b_5 hh_5 hf_5 => ?_;try dsimp only at hh_5 hf_5
  conv => whnf
  refine hK _ ?_;clear hK K;refine W.give 4 λK hK => ?_;conv => whnf
  refine hK _ ?_;clear hK K;refine W.ret ?_;conv => whnf
  exact ⟨.v (.rf b_5 _), rfl, trivial, .v (.int .i64 (0)), ⟨rfl, rfl⟩, trivial, b_5, rfl, λhne => zI _ _ hne⟩
 ·obtain rfl : M' = M := he'.hm.symm.trans he.hm;obtain rfl := zai e1;obtain rfl := zai e2;obtain rfl : n' = n := by have := he'.mn.1; have := he.mn.1; omega
  rw [hRe]


section
variable {p k M : Int} [SP p] [Pos M] {f : Poly M} {n : Nat}
end



section
variable {M : Int} [Pos M]
end

section
variable {p k M : Int} [SP p] [Pos M] {f : Poly M} {n : Nat}
end



section
variable {p k M : Int} [SP p] [Pos M] {f : Poly M} {a b : Nat} {g0 h0 S T : Poly p} {G H : Poly M}

theorem zhG {p M : Int} (h : xO p k) (hm : p ^ k.toNat = M) : FnV 138 [.int .i64 p, .int .i64 k] (.int .i64 M) := by
 obtain ⟨s1, s2, s3, s4, s5, s6⟩ := h.small;obtain ⟨j, rfl⟩ : ∃ j : Nat, k = j := ⟨k.toNat, by omega⟩
 rw [Int.toNat_natCast] at hm s6;have hmS : zdE p j = M := by unfold zdE; rw [if_pos s6, hm]
 exact (vQ p j (by omega) (by omega) (by omega)).mono (by rw [hmS])

end


section
variable {p k M : Int} [SP p] [Pos M] {f : Poly M} {a b : Nat} {g0 h0 S T : Poly p} {G H : Poly M}
end



section
variable {p k M : Int} [SP p] [Pos M] {f : Poly M} {a b : Nat} {g0 h0 S T : Poly p} {G H : Poly M}
end


section
variable {p : Int} [SP p]
end


structure LfP (p k M : Int) [SP p] [Pos M] (f : Poly M) (n : Nat) : Prop where
 rn : xU p k f.l
 mon : jg f.l
 hm : p ^ k.toNat = M
 mn : Mn f n
 n1 : 1 <= n
 n8 : n <= 8
 pm : p ∣ M
 ple : p <= M
section
variable {p k M : Int} [SP p] [Pos M] {f : Poly M} {n : Nat}
end


section
variable {p k M : Int} [SP p] [Pos M] {f : Poly M} {n : Nat}
end

def RT3 (r0 r1 : List Int) (r2 : Int) : ki := λ_ _ x tb => ∃ rb0 rb1 : Nat, x = .tup [.rf rb0 r0.length, .rf rb1 r1.length, .int .i64 r2] ∧ (r0 ≠ [] -> tb rb0 = some r0) ∧ (r1 ≠ [] -> tb rb1 = some r1) ∧ (r0 ≠ [] -> r1 ≠ [] -> rb0 ≠ rb1)

section
variable {p k M : Int} [SP p] [Pos M] {f : Poly M} {n : Nat}
end



section
variable {p k M : Int} [SP p] [Pos M]
end


def zab (p n : Int) : Int := if isP p = true then (if 1 <= n ∧ n <= 4 then 0 else 2) else 1
theorem zmx {p n : Int} (h : zab p n = 0) : isP p = true ∧ 1 <= n ∧ n <= 4 := by
 unfold zab at h
 by_cases h1 : isP p = true
 ·rw [if_pos h1] at h
  by_cases h2 : 1 <= n ∧ n <= 4
  ·exact ⟨h1, h2⟩
  ·rw [if_neg h2] at h; cases h
 ·rw [if_neg h1] at h; cases h

theorem zkv {p : Int} (hp : 2 <= p) (d : Nat) : (List.replicate (d + 1) (0 : Int)).set d 1 = dig p.toNat (p.toNat ^ d) := by
 have hT : Top p.toNat d ((List.replicate (d + 1) (0 : Int)).set d 1) := by
  refine ⟨by simp, by rw [z4 (by simp), if_pos rfl], λx hx => ?_⟩;obtain ⟨i, hi, rfl⟩ := List.getElem_of_mem hx;rw [List.getElem_set]
  split
  ·omega
  ·simp; omega
 have hn : num p.toNat ((List.replicate (d + 1) (0 : Int)).set d 1) = p.toNat ^ d := by
  have h1 : (List.replicate (d + 1) (0 : Int)).set d 1 = List.replicate d 0 ++ [1] := by
   refine zaL (by simp) λj hj => ?_;have hj : j < d + 1 := by simpa using hj
   rw [z4 (by simp)]
   by_cases h2 : j = d
   ·subst h2; rw [if_pos rfl, zcW]
   ·rw [if_neg h2, zB, yE (by simp; omega), List.getElem_append_left (by simp; omega)]; simp
  rw [h1, zcU]; simp [num]
 rw [<- hn, hT.dig (by omega)]

theorem zbj (p n : Int) (r : Option Nat) (hr : ∀ h : p ∈ z7, 1 <= n ∧ n <= 4 -> letI := xt h; zaa (λk => Irr (xu p k)) (p.toNat ^ n.toNat) (2 * p.toNat ^ n.toNat) r) :
  FnV 203 [.int .i64 p, .int .i64 n] (if zab p n = 0 then RV (zjd p.toNat r) 0 else RV [] (zab p n)) := by
 by_cases hc : zab p n = 0
 ·obtain ⟨hp0, hn1, hn4⟩ := zmx hc;have hp := zaX hp0;have hpr : p ∈ z7 := of_decide_eq_true hp0;have hr := hr hpr ⟨hn1, hn4⟩;letI := xt hpr;rw [if_pos hc];obtain ⟨d, rfl⟩ : ∃ d : Nat, n = d := ⟨n.toNat, by omega⟩
  rw [Int.toNat_natCast] at hr;have hB : 0 < p.toNat ^ d := Nat.pow_pos (by omega);have hfl := zkv (p := p) (by omega) d;refine zg (za [0, 1, 4, 5, 6, 7, 12]) Tryz.func203 rfl (by decide) Tryz.ntmps203 (Nat.le_of_ble_eq_true rfl) λbase => ?_;refine wrs λK hK => ?_;conv => whnf
  refine hK _ ?_;clear hK K;refine wrs λK hK => ?_;conv => whnf
  refine zb rfl (zfn p d 1 4) λhs' hhs => ?_;try dsimp only at hhs
  conv => whnf
  rw [show (if isP p = true then (if 1 <= (d : Int) ∧ (d : Int) <= 4 then (0 : Int) else 2) else 1) = 0 from hc];refine hK _ ?_;clear hK K;refine W.seqK λK1 hK1 => ?_;refine wrs λK hK => ?_;conv => whnf
  refine hK _ (W.cond ⟨λhcc => absurd rfl (of_decide_eq_true hcc), λ_ => W.skip (hK1 _ ?_)⟩);clear hK K hK1 K1;refine wrs λK hK => ?_;conv => whnf
  refine ⟨oo, ?_⟩;conv => whnf
  refine ⟨rfl, ?_⟩;conv => whnf
  refine ⟨oo, ?_⟩;conv => whnf
  have e1 : ((d : Int) + 1).toNat = d + 1 := by omega
  rw [e1];intro b_2 hs_2 hh_2 hf_2;try dsimp only at hh_2 hf_2
  conv => whnf
  refine hK _ ?_;clear hK K;refine wrs λK hK => ?_;conv => whnf
  refine ⟨⟨by omega, by simp; omega⟩, ?_⟩;conv => whnf
  rw [Int.toNat_natCast, hfl];refine hK _ ?_;clear hK K;refine wrs λK hK => ?_;conv => whnf
  refine zb rfl (zfo p (some b_2) d (p.toNat ^ d) (by omega) (by omega) (Nat.le_refl _) (by omega) r hr) λhs' hhs => ?_;try dsimp only at hhs
  conv => whnf
  refine hK _ ?_;clear hK K;refine W.ret ?_;conv => whnf
  exact ⟨.v (.ints none (zjd p.toNat r)), ⟨rfl, rfl⟩, trivial, .v (.int .i64 0), ⟨rfl, rfl⟩, trivial, rfl⟩
 ·rw [if_neg hc];refine zg (za [0, 1, 4, 5, 6, 7, 12]) Tryz.func203 rfl (by decide) Tryz.ntmps203 (Nat.le_of_ble_eq_true rfl) λbase => ?_;refine wrs λK hK => ?_;conv => whnf
  refine hK _ ?_;clear hK K;refine wrs λK hK => ?_;conv => whnf
  refine zb rfl (zfn p n 1 4) λhs' hhs => ?_;try dsimp only at hhs
  conv => whnf
  rw [show (if isP p = true then (if 1 <= n ∧ n <= 4 then (0 : Int) else 2) else 1) = zab p n from rfl];refine hK _ ?_;clear hK K;refine W.seqK λK1 hK1 => ?_;refine wrs λK hK => ?_;conv => whnf
  refine hK _ (W.cond ⟨λ_ => ?_, λhcc => absurd hc (of_decide_eq_false hcc)⟩);clear hK K;refine wrs λK hK => ?_;conv => whnf
  refine hK _ ?_;clear hK K;refine W.ret ?_;conv => whnf
  exact ⟨.v (.ints none []), rfl, trivial, .v (.int .i64 (zab p n)), ⟨rfl, rfl⟩, trivial, rfl⟩



theorem zfA {n : Nat} {c : Nat -> Int} (hc : Byt n c) : zi4 205 [] n c (λr => ∃ q : Int, r = .int .i64 q ∧ q ∈ ([1, 4, 0, 97, 101, -3, 9, 2, 3, 5, 7, 11, 13, 17, 31] : List Int)) := by
 rintro b x hx;refine jV (cx := cxt [] [0, 2, 5, 1000000, 1000001]) (zh [] [0, 2, 5, 1000000, 1000001]) Tryz.func205 rfl (by decide) Tryz.ntmps205 (Nat.le_of_ble_eq_true rfl) (Nat.le_of_ble_eq_true rfl) rfl rfl λbase hs0 O U hw v0 hb0 => ?_;refine W.sw (c' := cx [0, 2, 5, 1000000, 1000001]) ?_;refine wrs λK hK => ?_;conv => whnf
 refine hK _ ?_;clear hK K;refine W.seqK λK1 hK1 => ?_;refine wrs λK hK => ?_;conv => whnf
 refine ⟨⟨rfl, rfl⟩, ?_⟩;conv => whnf
 refine ⟨rfl, _, (zS hc 24 (by constructor <;> decide) b x hx), ?_⟩;rintro hs_ms1 av x' t' hh_ms1 ⟨rfl, ⟨x1, hx1, rfl⟩, _, rfl, ⟨q, rfl, q0, q1, q2⟩⟩ _ _ _;try dsimp only at hh_ms1
 conv => whnf
 refine hK _ (W.cond ⟨λh => ?_, λh => ?_⟩) <;> clear hK K
 ·refine wrs λK hK => ?_;conv => whnf
  refine ⟨⟨rfl, by decide⟩, ?_⟩;conv => whnf
  intro b_7 hs_7 hh_7 hf_7;try dsimp only at hh_7 hf_7
  conv => whnf
  refine ⟨⟨rfl, rfl⟩, ?_⟩;conv => whnf
  refine ⟨rfl, _, (vJ hc none [1, 4, 0, 97, 101, -3, 9] ⟨by decide, by decide⟩ b x1 hx1), ?_⟩;rintro hs_ms2 av x' t' hh_ms2 ⟨rfl, ⟨x2, hx2, rfl⟩, _, rfl, ⟨r, rfl, hr⟩⟩ _ _ _;try dsimp only at hh_ms2
  conv => whnf
  refine hK _ ?_;clear hK K
  have hr2 : r ∈ ([1, 4, 0, 97, 101, -3, 9, 2, 3, 5, 7, 11, 13, 17, 31] : List Int) := by
   simp only [List.mem_cons, List.not_mem_nil, or_false] at hr ⊢
   omega
  refine W.ret ?_;conv => whnf
  refine ⟨by dsimp only; omega, ?_⟩;conv => whnf
  refine ⟨rfl, ?_⟩;conv => whnf
  refine ⟨.int .i64 r, ⟨rfl, rfl⟩, ?_⟩;conv => whnf
  exact ⟨.ownB b (x2), ⟨rfl, rfl⟩, .inr ⟨rfl, rfl⟩, .dead, trivial, rfl, rfl, rfl, ⟨x2, hx2, rfl⟩, _, rfl, ⟨r, rfl, hr2⟩⟩
 refine W.skip (hK1 _ ?_);clear hK1 K1;refine wrs λK hK => ?_;conv => whnf
 refine ⟨⟨rfl, by decide⟩, ?_⟩;conv => whnf
 intro b_7 hs_7 hh_7 hf_7;try dsimp only at hh_7 hf_7
 conv => whnf
 refine ⟨⟨rfl, rfl⟩, ?_⟩;conv => whnf
 refine ⟨rfl, _, (vJ hc none [2, 3, 5, 7, 2, 3, 5, 11, 13, 17, 31] ⟨by decide, by decide⟩ b x1 hx1), ?_⟩;rintro hs_ms2 av x' t' hh_ms2 ⟨rfl, ⟨x2, hx2, rfl⟩, _, rfl, ⟨r, rfl, hr⟩⟩ _ _ _;try dsimp only at hh_ms2
 conv => whnf
 refine hK _ ?_;clear hK K
 have hr2 : r ∈ ([1, 4, 0, 97, 101, -3, 9, 2, 3, 5, 7, 11, 13, 17, 31] : List Int) := by
  simp only [List.mem_cons, List.not_mem_nil, or_false] at hr ⊢
  omega
 refine W.ret ?_;conv => whnf
 refine ⟨by dsimp only; omega, ?_⟩;conv => whnf
 refine ⟨rfl, ?_⟩;conv => whnf
 refine ⟨.int .i64 r, ⟨rfl, rfl⟩, ?_⟩;conv => whnf
 exact ⟨.ownB b (x2), ⟨rfl, rfl⟩, .inr ⟨rfl, rfl⟩, .dead, trivial, rfl, rfl, rfl, ⟨x2, hx2, rfl⟩, _, rfl, ⟨r, rfl, hr2⟩⟩

theorem zkw {n : Nat} {c : Nat -> Int} (hc : Byt n c) : zi4 168 [] n c (λr => ∃ (p : Int) (L : List Int), r = vK p none L ∧ (2 <= p ∧ p <= 7) ∧ L.length <= 9 ∧ p ∈ z7 ∧ ∀ j, 0 <= cf L j ∧ cf L j < p) := by
 rintro b x hx;refine jV (cx := cxt [] [0, 2, 3, 4, 5, 6, 7, 19, 36, 1000000, 1000001]) (zh [] [0, 2, 3, 4, 5, 6, 7, 19, 36, 1000000, 1000001]) Tryz.func168 rfl (by decide) Tryz.ntmps168 (Nat.le_of_ble_eq_true rfl) (Nat.le_of_ble_eq_true rfl) rfl rfl λbase hs0 O U hw v0 hb0 => ?_;refine W.sw (c' := cx [0, 2, 3, 4, 5, 6, 7, 19, 36, 1000000, 1000001]) ?_;refine wrs λK hK => ?_;conv => whnf
 intro b_2 hs_2 hh_2 hf_2;try dsimp only at hh_2 hf_2
 conv => whnf
 refine hK _ ?_;clear hK K;refine wrs λK hK => ?_;conv => whnf
 refine ⟨⟨rfl, by decide⟩, ?_⟩;conv => whnf
 intro b_7 hs_7 hh_7 hf_7;try dsimp only at hh_7 hf_7
 conv => whnf
 refine ⟨⟨rfl, rfl⟩, ?_⟩;conv => whnf
 refine ⟨rfl, _, (vJ hc none [2, 3, 5, 2, 3, 7] ⟨by decide, by decide⟩ b x hx), ?_⟩;rintro hs_ms1 av x' t' hh_ms1 ⟨rfl, ⟨x1, hx1, rfl⟩, _, rfl, ⟨p, rfl, hp⟩⟩ _ _ _;try dsimp only at hh_ms1
 conv => whnf
 refine hK _ ?_;clear hK K
 have hpp : p ∈ z7 := by
  simp only [List.mem_cons, List.not_mem_nil, or_false] at hp
  unfold z7;simp only [List.mem_cons, List.not_mem_nil, or_false]
  omega
 have hp27 : 2 <= p ∧ p <= 7 := by
  simp only [List.mem_cons, List.not_mem_nil, or_false] at hp
  omega
 letI := xt hpp;refine wrs λK hK => ?_;conv => whnf
 refine ⟨⟨rfl, rfl⟩, ?_⟩;conv => whnf
 refine ⟨rfl, _, (zS hc 4 (by constructor <;> decide) b x1 hx1), ?_⟩;rintro hs_ms2 av x' t' hh_ms2 ⟨rfl, ⟨x2, hx2, rfl⟩, _, rfl, ⟨q, rfl, q0, q1, _⟩⟩ _ _ _;try dsimp only at hh_ms2
 conv => whnf
 have hq4 := q1 (by decide);refine ⟨oo, ?_⟩;conv => whnf
 refine hK _ ?_;clear hK K;obtain ⟨d, hd⟩ : ∃ d : Nat, 1 + q = d := ⟨(1 + q).toNat, by omega⟩
 rw [hd];have hd14 : 1 <= d ∧ d <= 4 := by omega
 refine wrs λK hK => ?_;conv => whnf
 refine ⟨oo, ?_⟩;conv => whnf
 refine ⟨rfl, ?_⟩;conv => whnf
 refine ⟨oo, ?_⟩;conv => whnf
 intro b_5 hs_5 hh_5 hf_5;try dsimp only at hh_5 hf_5
 conv => whnf
 refine hK _ ?_;clear hK K;refine W.seqK λK1 hK1 => wrs λK hK => ?_;conv => whnf
 refine hK _ (W.block (W.invH hs0 hb0 (λm e => ∃ (i bo : Nat) (y : V) (X : List Int), i <= d ∧ zaT n c y ∧ X.length = d + 1 ∧ (∀ j, 0 <= cf X j ∧ cf X j < p) ∧ m = d - i ∧ e = [(vt, .dead), (vk, .keep O U hw 0 v0), (0, .ownB b y), (2, .ownB b_2 (.agg [.int .i64 0, .nil])), (3, .v (.int .i64 p)), (4, .v (.int .i64 d)), (5, .ownI 2 bo X), (6, .v (.int .i64 i))]) _ _ (⟨0, b_5, x2, List.replicate (d + 1) 0, Nat.zero_le _, hx2, by simp, λj => by rw [zB]; omega, rfl, rfl⟩) (by dsimp only; omega) (by repeat' first | refine And.intro ?_ ?_ | exact trivial | rfl | omega | exact .inl rfl | exact λ_ _ => rfl | exact λ_ _ h => h | assumption | exact λi hi => (by obtain rfl : i = 0 := (by omega); rfl)) ?_));clear hK K;rintro m e ⟨i, bo, y, X, h1, hy, h2, h3, hm, rfl⟩;refine W.seqK λK7 hK7 => wrs λK hK => ?_;conv => whnf
 refine hK _ (W.cond ⟨λh5 => ?_, λh5 => ?_⟩) <;> clear hK K <;> (first | replace h5 := of_decide_eq_true h5 | replace h5 := of_decide_eq_false h5)
 ·have hi : i < d := by omega
  refine W.skip (hK7 _ (W.seqK λK8 hK8 => W.block ?_));clear hK7 K7;refine wrg ?_;conv => whnf
  refine ⟨⟨rfl, rfl⟩, ?_⟩;conv => whnf
  refine ⟨rfl, _, (zS hc p (by constructor <;> omega) b y hy), ?_⟩;rintro hs_ms3 av x' t' hh_ms3 ⟨rfl, ⟨x3, hx3, rfl⟩, _, rfl, ⟨r1, rfl, r10, r11, _⟩⟩ _ _ _;try dsimp only at hh_ms3
  conv => whnf
  have h11 := r11 (by omega);refine ⟨oo, ?_⟩;conv => whnf
  rw [Int.toNat_natCast];refine hK8 _ ?_;clear hK8 K8;refine wrg ?_;conv => whnf
  refine ⟨oo, ?_⟩;conv => whnf
  have hX : ∀ j, 0 <= cf (X.set i r1) j ∧ cf (X.set i r1) j < p := λj => by
   unfold cf;rw [List.getD_eq_getElem?_getD, List.getElem?_set]
   by_cases hj : i = j
   ·rw [if_pos hj, if_pos (by omega)]; exact ⟨r10, h11⟩
   ·rw [if_neg hj, <- List.getD_eq_getElem?_getD]; exact h3 j
  exact zm ⟨i + 1, bo, x3, X.set i r1, by omega, hx3, by simp; omega, hX, rfl, rfl⟩
 ·obtain rfl : i = d := by omega
  have hp1 := yN hpp
  have hT : Top p.toNat i (X.set i 1) := by
   refine ⟨by simp; omega, ?_, λz hz => ?_⟩
   ·unfold cf; rw [List.getD_eq_getElem?_getD, List.getElem?_set_self (by omega)]; rfl
   ·obtain ⟨j, hj, rfl⟩ := List.mem_iff_getElem.1 hz;rw [List.getElem_set]
    split
    ·omega
    ·have := h3 j;rw [yE (by simpa using hj)] at this;omega
  have hdig := hT.dig (by omega);have hrng := hT.range (by omega);obtain ⟨r, hr⟩ := zcu (λn => Irr (xu p n)) (num p.toNat (X.set i 1)) (2 * p.toNat ^ i);obtain ⟨r2, hr2⟩ := zcu (λn => Irr (xu p n)) (p.toNat ^ i) (2 * p.toNat ^ i)
  have ho : ∀ {a : Nat} {q : Option Nat}, p.toNat ^ i <= a -> zaa (λn => Irr (xu p n)) a (2 * p.toNat ^ i) q -> (zjd p.toNat q).length <= 9 ∧ ∀ j, 0 <= cf (zjd p.toNat q) j ∧ cf (zjd p.toNat q) j < p := λ{a q} ha hq => by
   cases q with
   | none => exact ⟨Nat.zero_le _, λj => by rw [show cf (zjd p.toNat none) j = 0 from zO j]; omega⟩
   | some v =>
    have := (znN (p := p.toNat) (d := i) (k := v) (by omega) (by have := hq.1; omega) hq.2.1).len;refine ⟨?_, λj => ?_⟩
    ·show (dig p.toNat v).length <= 9
     omega
    ·have := kD (xu p v) j;rw [zbe] at this;exact this
  refine W.exit (hK1 _ ?_);clear hK7 K7 hK1 K1;refine wrs λK hK => ?_;conv => whnf
  refine ⟨oo, ?_⟩;conv => whnf
  rw [Int.toNat_natCast];refine hK _ ?_;clear hK K;refine wrs λK hK => ?_;conv => whnf
  refine zb rfl ((by have := zfo p (some bo) i (num p.toNat (X.set i 1)) hd14.1 hd14.2 hrng.1 hrng.2 r hr; rw [hdig] at this; exact this)) λhs' hhs => ?_;try dsimp only at hhs
  conv => whnf
  refine hK _ ?_;clear hK K;refine W.seqK λK1 hK1 => ?_
  have fin : ∀ (L : List Int) (t : S), (L.length <= 9 ∧ ∀ j, 0 <= cf L j ∧ cf L j < p) -> hs0 <= t.hs -> zD t.env [(vt, .dead), (vk, .keep O U hw 0 v0), (0, .ownB b y), (2, .ownB b_2 (.agg [.int .i64 0, .nil])), (3, .v (.int .i64 p)), (7, .v (.ints none L))] -> K1 t := by
   intro L t hL h9 h10;refine hK1 _ (W.weak (t := ⟨_, hs0⟩) ⟨h9, h10⟩ hb0 ?_);clear hK1 K1;refine wrs λK hK => ?_;conv => whnf
   refine ⟨s23, ?_⟩;conv => whnf
   refine hK _ ?_;clear hK K;refine W.ret ?_;conv => whnf
   refine ⟨by dsimp only; omega, ?_⟩;conv => whnf
   exact ⟨.ownB b (y), ⟨rfl, rfl⟩, .inr ⟨rfl, rfl⟩, .dead, trivial, rfl, rfl, rfl, ⟨y, hy, rfl⟩, _, rfl, ⟨p, L, rfl, hp27, hL.1, hpp, hL.2⟩⟩
  refine wrs λK hK => ?_;conv => whnf
  refine hK _ (W.cond ⟨λh => ?_, λh => ?_⟩) <;> clear hK K
  ·have hcn : zab p i = 0 := by
    unfold zab;rw [if_pos (show isP p = true from decide_eq_true hpp), if_pos (by omega)]
   refine wrg ?_;conv => whnf
   refine zb rfl ((by have := zbj p i r2 (λ_ _ => by rw [Int.toNat_natCast]; exact hr2); rw [if_pos hcn] at this; exact this)) λhs' hhs => ?_;try dsimp only at hhs
   conv => whnf
   refine fin _ _ (ho (Nat.le_refl _) hr2) (by dsimp only; omega) ?_;exact cvr
  ·refine W.skip (fin _ _ (ho hrng.1 hr) (by dsimp only; omega) ?_);exact cvr







def zpM (f : Nat) (xs : List V) (n : Nat) (c : Nat -> Int) (Q : List Int -> Prop) : Prop :=
 ∀ (b : Nat) (x : V), zaT n c x -> MFn Tryz.prog f (.nil :: xs) 0 (.ownB b x) .dead (λ_ av x' t' => t' = .dead ∧ (∃ x1, zaT n c x1 ∧ x' = .ownB b x1) ∧ ∃ bo L, av = .ownI 2 bo L ∧ Q L)

theorem W.invS {P : Program} {c : Cx} {N base : Nat} {x : Code} {QQ : Exit -> S -> Prop} {s : S} (I : Nat -> Env -> Nat -> Prop) (m0 : Nat) (e0 : Env) (h0 : Nat) (hi : I m0 e0 h0) (hb : ∀ m e h, I m e h -> base <= h) (hh : h0 <= s.hs) (hc : zD s.env e0)
  (round : ∀ m e h, I m e h -> W P c N base x (Ex (λs' => ∃ m' e' h', I m' e' h' ∧ m' < m ∧ h' <= s'.hs ∧ zD s'.env e') QQ) ⟨e, h⟩) : W P c N base (.loop x) QQ s :=
 W.inv (λm s => I m s.env s.hs) m0 ⟨e0, h0⟩ hi ⟨hh, hc⟩ (λm s h => hb _ _ _ h) λm s h => by
  obtain ⟨e, hs⟩ := s;refine (round m e hs h).mono λex s' hq => ?_;cases ex with
  | normal => obtain ⟨m', e', h', h1, h2, h3, h4⟩ := hq; exact ⟨m', ⟨e', h'⟩, h1, h2, h3, h4⟩
  | _ => exact hq



theorem RT.toV {f : Nat} {xs : List V} {l : List Int} {c : Int} (h : FnT Tryz.prog f xs (RT l c)) : FnV f xs (.tup [.ints none l, .int .i64 c]) :=
 FnT.toV h λ_ _ x tb hx => by
  obtain ⟨b, rfl, hb⟩ := hx;refine ⟨_, rfl, rfl, λj hj => ?_⟩
  match j, hj with
  | 0, _ => exact ⟨l, rfl, hb, rfl⟩
  | 1, _ => rfl
theorem zqL {p : Int} (hp : p ∈ z7) : letI := xt hp; ∀ f X : Poly p, dg X < dg f -> dg f <= 10 -> Has p f.l X.l := by
 letI := xt hp;intro f X h1 h2;have h3 : X.l.length < f.l.length := h1;have h4 : f.l.length <= 10 := h2;refine ⟨⟨decide_eq_true hp, by omega, λj _ => by have := kD X j; omega, ?_⟩, h1⟩
 by_cases h : X.l.length = 0
 ·exact .inl (by omega)
 ·exact .inr (X.ok.2 _ (by omega))
theorem zmy {p : Int} {l : List Int} {n : Nat} {X : Nat -> List Int} (hk : IsFld p l) (h : ∀ i, i < n -> Has p l (X i)) : y2 p l true n X = 0 := by
 unfold y2; rw [zi hk, zi h]; rfl


open Go Go.RowKit Go.ChangeShapes Go.WideShapes Go.ChangeAt Go.Proofs Go.Proofs.YtffhmebkkbfaeaaGreat

theorem zoA {P : Program} {f : Nat} {xs : List V} {r : V} {w : World} {vs : Array Value} (h : Fn P f xs (λ_ _ a => a = .v r)) (hl : vs.size = xs.length)
  (hr : ∀ j, j < xs.length -> Rep (zgl w) w.heap (xs.getD j .nil) (vs.getD j undef)) :
  Calls P f vs w λe w' => ∃ v, e = .returned v ∧ Below w.heap.size w w' ∧ Rep (okR (λ_ => False) w'.heap.size) w'.heap r v := by
 refine (h.2 (λ_ => False) w vs (λ_ h => h.elim) hl hr).mono λe w' ⟨v, av, hi, h1, h2, h3, h4, h5⟩ => ?_;subst h3;obtain ⟨_, h6, _⟩ := h5;refine ⟨v, h1, h4, ?_⟩;exact Rep.mono h6 λg b hb => ⟨⟨hb.1, λh => h.elim, hb.2.2⟩, rfl⟩

theorem ownP : ownKnob Tryz.prog.godebug = none := by kernel_rfl
theorem zoB : laidOutB Tryz.prog = true := by kernel_rfl
open Go Go.RowKit Go.ChangeShapes Go.WideShapes Go.ChangeAt Go.Proofs Go.Proofs.YtffhmebkkbfaeaaGreat

section
variable {H : Type} {enc : TypeId × Value -> H} {P : Program} {w : World}
def zqj (xs : List V) : Prop := ∃ n : Int, xs = [.int .u8 n] ∧ 0 <= n ∧ n <= 255
theorem zqM {n : Int} (h : (Lit.int .u8 n).wf = true) : 0 <= n ∧ n <= 255 := by
 simp only [Lit.wf, Bool.and_eq_true, decide_eq_true_eq] at h
 have h1 : IntKind.u8.min = 0 := rfl;have h2 : IntKind.u8.max = 255 := rfl;omega
theorem zoC {t : TypeId} (ht : P.underlying t = some (.int .u8)) : zin enc P w t 1 zqj := by
 intro fuel cs d ps h;obtain ⟨n, hc, hx, hw⟩ := DataW.trod_int ht h;subst hc;refine ⟨rfl, _, ⟨n, rfl, zqM hw⟩, rfl, by simp [V.isCell], λj hj => ?_⟩;obtain rfl : j = 0 := by omega
 exact .int _ _
theorem zoD {xs : List V} (h : zjP 1 zey zqj xs) : ∃ (n : Nat) (c : Nat -> Int), (∀ i, 0 <= c i ∧ c i <= 255) ∧ xs.length = 1 ∧ ∀ ok h' v, Rep ok h' (xs.getD 0 .nil) v -> Rep ok h' (vBy n c) v := by
 obtain ⟨n, f, rfl, _, hf⟩ := h
 have hf2 : ∀ i, ∃ z : Int, (0 <= z ∧ z <= 255) ∧ (i < n -> f i = .int .u8 z) := by
  intro i
  by_cases hi : i < n
  ·obtain ⟨ys, ⟨z, rfl, hz⟩, e⟩ := hf i hi;exact ⟨z, hz, λ_ => e⟩
  ·exact ⟨0, by omega, λh => absurd h hi⟩
 refine ⟨n, λi => Classical.choose (hf2 i), λi => (Classical.choose_spec (hf2 i)).1, rfl, λok h' v r => za5 (x := .vals none 1 n f) ⟨rfl, rfl, rfl, λi hi => (Classical.choose_spec (hf2 i)).2 hi⟩ r⟩
end
theorem zoE {P : Program} {f : Nat} {xs : List V} {w : World} {vs : Array Value} (h : Fn P f xs (λ_ _ a => a = .v (.bool true))) (hl : vs.size = xs.length)
  (hr : ∀ j, j < xs.length -> Rep (zgl w) w.heap (xs.getD j .nil) (vs.getD j undef)) :
  Calls P f vs w λe w' => e = .returned (.bool true) ∧ Below w.heap.size w w' :=
 (zoA h hl hr).mono λe w' ⟨v, h1, h2, h3⟩ => by
  cases h3
  exact ⟨h1, h2⟩
theorem zpD : Tryz.prog.cellsOf 5 = 1 := by kernel_rfl
theorem zkx {H : Type} {enc : TypeId × Value -> H} {W : World} : zin enc Tryz.prog W 32 1 (zjP 1 zey zqj) :=
 ziq Tryz.underlying32 zpD (λxs h1 h2 => zoY xs h1 h2) (zoC Tryz.underlying5)




section
variable {p k M : Int} [SP p] [Pos M]
end

theorem RT3.toV {f : Nat} {xs : List V} {l m : List Int} {c : Int} (h : FnT Tryz.prog f xs (RT3 l m c)) : FnV f xs (.tup [.ints none l, .ints none m, .int .i64 c]) :=
 FnT.toV h λ_ _ x tb hx => by
  obtain ⟨b, b', rfl, hb, hb', _⟩ := hx;refine ⟨_, rfl, rfl, λj hj => ?_⟩
  match j, hj with
  | 0, _ => exact ⟨l, rfl, hb, rfl⟩
  | 1, _ => exact ⟨m, rfl, hb', rfl⟩
  | 2, _ => rfl
theorem zpN {p k M : Int} [Pos M] (hr : xO p k) (hm : p ^ k.toNat = M) (F : Poly M) (h : dg F <= 9) : xU p k F.l :=
 ⟨hr, h, λj _ => by have := jK F j; rw [hm]; omega, by
  by_cases h0 : F.l.length = 0
  ·exact .inl h0
  ·exact .inr (F.ok.2 _ (by omega))⟩
theorem zfB {p k M : Int} [SP p] [Pos M] (hr : xO p k) (hm : p ^ k.toNat = M) (g : Option Nat) (F : Poly M) (hF : dg F <= 9) : FnV 29 [vR p k, .ints g F.l] (.tup [.ints none (im p F).l, .int .i64 0]) := by
 obtain ⟨s1, s2, s3, s4, s5, s6⟩ := hr.small;have hfl : F.l.length = dg F := rfl;refine zg (za [0, 1, 2, 4, 5, 9]) Tryz.func29 rfl (by decide) Tryz.ntmps29 (Nat.le_of_ble_eq_true rfl) λbase => ?_;refine wrs λK hK => ?_;conv => whnf
 refine ⟨rfl, ?_⟩;conv => whnf
 intro b_2 hs_2 hh_2 hf_2;try dsimp only at hh_2 hf_2
 conv => whnf
 refine hK _ ?_;clear hK K;refine W.seqK λK1 hK1 => ?_;refine wrs λK hK => ?_;conv => whnf
 refine zb rfl ((xT p k g F.l (by omega)).tr (zi (zpN hr hm F (by omega)))) λhs' hhs => ?_;try dsimp only at hhs
 conv => whnf
 refine hK _ (W.condF rfl (W.skip (hK1 _ ?_)));clear hK K hK1 K1;refine wrs λK hK => ?_;conv => whnf
 refine zr rfl (zL p (by omega) (by omega) g F.l ((za0 (by omega) F).le (by omega)) (by omega)) λhs_4 b_4 hh_4 hf_4 => ?_;try dsimp only at hh_4 hf_4
 conv => whnf
 refine hK _ ?_;clear hK K;refine W.ret ?_;conv => whnf
 exact ⟨.v (.ints none (im p F).l), ⟨.inl rfl, rfl⟩, trivial, .v (.int .i64 0), ⟨rfl, rfl⟩, trivial, rfl⟩


theorem zky {n : Nat} {c : Nat -> Int} (hc : Byt n c) : zi4 204 [] n c (λr => ∃ p k : Int, r = vR p k ∧ xO p k ∧ p <= 13 ∧ k <= 6) := by
 rintro b x hx;refine jV (cx := cxt [] [0, 2, 3, 4, 14, 1000000, 1000001]) (zh [] [0, 2, 3, 4, 14, 1000000, 1000001]) Tryz.func204 rfl (by decide) Tryz.ntmps204 (Nat.le_of_ble_eq_true rfl) (Nat.le_of_ble_eq_true rfl) rfl rfl λbase hs0 O U hw v0 hb0 => ?_;refine W.sw (c' := cx [0, 2, 3, 4, 14, 1000000, 1000001]) ?_;refine wrs λK hK => ?_;conv => whnf
 intro b_2 hs_2 hh_2 hf_2;try dsimp only at hh_2 hf_2
 conv => whnf
 refine hK _ ?_;clear hK K;refine wrs λK hK => ?_;conv => whnf
 refine ⟨⟨rfl, by decide⟩, ?_⟩;conv => whnf
 intro b_7 hs_7 hh_7 hf_7;try dsimp only at hh_7 hf_7
 conv => whnf
 refine ⟨⟨rfl, rfl⟩, ?_⟩;conv => whnf
 refine ⟨rfl, _, (vJ hc none [2, 3, 5, 7, 2, 3, 5, 11, 13] ⟨by decide, by decide⟩ b x hx), ?_⟩;rintro hs_ms1 av x' t' hh_ms1 ⟨rfl, ⟨x1, hx1, rfl⟩, _, rfl, ⟨p, rfl, hp⟩⟩ _ _ _;try dsimp only at hh_ms1
 conv => whnf
 refine hK _ ?_;clear hK K;refine wrs λK hK => ?_;conv => whnf
 refine ⟨⟨rfl, rfl⟩, ?_⟩;conv => whnf
 refine ⟨rfl, _, (zS hc 6 (by constructor <;> decide) b x1 hx1), ?_⟩;rintro hs_ms2 av x' t' hh_ms2 ⟨rfl, ⟨x2, hx2, rfl⟩, _, rfl, ⟨q, rfl, q0, q1, _⟩⟩ _ _ _;try dsimp only at hh_ms2
 conv => whnf
 have q6 := q1 (by decide);refine ⟨oo, ?_⟩;conv => whnf
 refine hK _ ?_;clear hK K
 have hr : xO p (1 + q) ∧ p <= 13 := by
  simp only [List.mem_cons, List.not_mem_nil, or_false] at hp
  have hq : q = 0 ∨ q = 1 ∨ q = 2 ∨ q = 3 ∨ q = 4 ∨ q = 5 := by omega
  refine ⟨⟨?_, by omega, ?_⟩, by omega⟩
  ·rcases hp with rfl | rfl | rfl | rfl | rfl | rfl | rfl | rfl | rfl <;> decide
  ·rcases hp with rfl | rfl | rfl | rfl | rfl | rfl | rfl | rfl | rfl <;> rcases hq with rfl | rfl | rfl | rfl | rfl | rfl <;> decide
 obtain ⟨hr, h13⟩ := hr;obtain ⟨s1, s2, s3, s4, s5, s6⟩ := hr.small;refine W.seqK λK1 hK1 => W.block (W.invH hs0 hb0 (λm e => m = 0 ∧ e = [(vt, .dead), (vk, .keep O U hw 0 v0), (0, .ownB b x2), (2, .ownB b_2 (vR 0 0)), (3, .v (.int .i64 p)), (4, .v (.int .i64 (1 + q)))]) _ _ ⟨rfl, rfl⟩ (by dsimp only; omega) (by repeat' first | refine And.intro ?_ ?_ | exact trivial | rfl | omega | assumption) ?_);rintro m e ⟨hm, rfl⟩;refine W.seqK λK7 hK7 => ?_;refine wrs λK hK => ?_;conv => whnf
 refine zb rfl (zhG hr rfl) λhs' hhs => ?_;try dsimp only at hhs
 conv => whnf
 refine hK _ (W.cond ⟨λh => absurd (of_decide_eq_true h) (by omega), λ_ => W.exit (hK1 _ (W.weak (t := ⟨[(vt, .dead), (vk, .keep O U hw 0 v0), (0, .ownB b x2), (2, .ownB b_2 (vR 0 0)), (3, .v (.int .i64 p)), (4, .v (.int .i64 (1 + q)))], hs0⟩) ⟨by dsimp only; omega, ?_⟩ hb0 ?_))⟩)
 ·exact cvr
 clear hK K hK7 K7 hK1 K1;refine wrs λK hK => ?_;conv => whnf
 refine ⟨s23, ?_⟩;conv => whnf
 refine hK _ ?_;clear hK K;refine W.ret ?_;conv => whnf
 refine ⟨by dsimp only; omega, ?_⟩;conv => whnf
 exact ⟨.ownB b (x2), ⟨rfl, rfl⟩, .inr ⟨rfl, rfl⟩, .dead, trivial, rfl, rfl, rfl, ⟨x2, hx2, rfl⟩, _, rfl, ⟨p, 1 + q, rfl, hr, h13, by omega⟩⟩

theorem zmz {n : Nat} {c : Nat -> Int} (hc : Byt n c) : zi4 169 [] n c (λr => ∃ p k : Int, r = vR p k ∧ (-1000 <= p ∧ p <= 1000) ∧ (-1000 <= k ∧ k <= 1000)) := by
 rintro b x hx;refine jV (cx := cxt [] [0, 2, 3, 7, 8, 13, 1000000, 1000001]) (zh [] [0, 2, 3, 7, 8, 13, 1000000, 1000001]) Tryz.func169 rfl (by decide) Tryz.ntmps169 (Nat.le_of_ble_eq_true rfl) (Nat.le_of_ble_eq_true rfl) rfl rfl λbase hs0 O U hw v0 hb0 => ?_;refine W.sw (c' := cx [0, 2, 3, 7, 8, 13, 1000000, 1000001]) ?_;refine wrs λK hK => ?_;conv => whnf
 intro b_2 hs_2 hh_2 hf_2;try dsimp only at hh_2 hf_2
 conv => whnf
 refine hK _ ?_;clear hK K;refine wrs λK hK => ?_;conv => whnf
 refine ⟨⟨rfl, rfl⟩, ?_⟩;conv => whnf
 refine ⟨rfl, _, (zky hc b x hx), ?_⟩;rintro hs_ms1 av x' t' hh_ms1 ⟨rfl, ⟨x1, hx1, rfl⟩, _, rfl, ⟨p, k, rfl, hr, hp, hk⟩⟩ _ _ _;try dsimp only at hh_ms1
 conv => whnf
 obtain ⟨s1, s2, s3, s4, s5, s6⟩ := hr.small;intro b_3 hs_3 hh_3 hf_3;try dsimp only at hh_3 hf_3
 conv => whnf
 refine ⟨s23, ?_⟩;conv => whnf
 refine hK _ ?_;clear hK K;refine W.seqK λK1 hK1 => ?_
 have fin : ∀ (p k : Int) (y : V) (t : S), (-1000 <= p ∧ p <= 1000) -> (-1000 <= k ∧ k <= 1000) -> zaT n c y -> hs0 <= t.hs -> zD t.env [(vt, .dead), (vk, .keep O U hw 0 v0), (0, .ownB b y), (2, .ownB b_2 (vR 0 0)), (3, .ownB b_3 (vR p k))] -> K1 t := by
  intro p k y t h7 h8 hy h9 h10;refine hK1 _ (W.weak (t := ⟨_, hs0⟩) ⟨h9, h10⟩ hb0 ?_);clear hK1 K1;refine wrs λK hK => ?_;conv => whnf
  refine ⟨s23, ?_⟩;conv => whnf
  refine hK _ ?_;clear hK K;refine W.ret ?_;conv => whnf
  refine ⟨by dsimp only; omega, ?_⟩;conv => whnf
  exact ⟨.ownB b (y), ⟨rfl, rfl⟩, .inr ⟨rfl, rfl⟩, .dead, trivial, rfl, rfl, rfl, ⟨y, hy, rfl⟩, _, rfl, ⟨p, k, rfl, h7, h8⟩⟩
 refine wrs λK hK => ?_;conv => whnf
 refine ⟨⟨rfl, rfl⟩, ?_⟩;conv => whnf
 refine ⟨rfl, _, (zS hc 20 (by constructor <;> decide) b x1 hx1), ?_⟩;rintro hs_ms2 av x' t' hh_ms2 ⟨rfl, ⟨x2, hx2, rfl⟩, _, rfl, ⟨q, rfl, q0, q1, _⟩⟩ _ _ _;try dsimp only at hh_ms2
 conv => whnf
 refine hK _ (W.block ?_);clear hK K;refine wrs λK hK => ?_;conv => whnf
 refine hK _ (W.cond ⟨λh => ?_, λh => ?_⟩) <;> clear hK K
 ·refine wrg ?_;conv => whnf
  refine ⟨⟨rfl, rfl⟩, ?_⟩;conv => whnf
  refine ⟨rfl, _, (zfA hc b x2 hx2), ?_⟩;rintro hs_ms3 av x' t' hh_ms3 ⟨rfl, ⟨x3, hx3, rfl⟩, _, rfl, ⟨p2, rfl, hp2⟩⟩ _ _ _;try dsimp only at hh_ms3
  conv => whnf
  refine ⟨⟨(by show 0 + 1 <= 2; omega), rfl⟩, ?_⟩;conv => whnf
  have hp3 : -1000 <= p2 ∧ p2 <= 1000 := by (simp only [List.mem_cons, List.not_mem_nil, or_false] at hp2; omega)
  refine fin p2 k x3 _ hp3 (by omega) hx3 (by dsimp only; omega) ?_;exact cvr
 refine wrs λK hK => ?_;conv => whnf
 refine hK _ (W.cond ⟨λh1 => ?_, λh1 => ?_⟩) <;> clear hK K
 ·refine wrg ?_;conv => whnf
  refine ⟨⟨rfl, by decide⟩, ?_⟩;conv => whnf
  intro b_7 hs_7 hh_7 hf_7;try dsimp only at hh_7 hf_7
  conv => whnf
  refine ⟨⟨rfl, rfl⟩, ?_⟩;conv => whnf
  refine ⟨rfl, _, (vJ hc none [0, 1, 29, 30, 12, -1] ⟨by decide, by decide⟩ b x2 hx2), ?_⟩;rintro hs_ms3 av x' t' hh_ms3 ⟨rfl, ⟨x3, hx3, rfl⟩, _, rfl, ⟨k2, rfl, hk2⟩⟩ _ _ _;try dsimp only at hh_ms3
  conv => whnf
  refine ⟨⟨(by show 1 + 1 <= 2; omega), rfl⟩, ?_⟩;conv => whnf
  have hk3 : -1000 <= k2 ∧ k2 <= 1000 := by (simp only [List.mem_cons, List.not_mem_nil, or_false] at hk2; omega)
  refine fin p k2 x3 _ (by omega) hk3 hx3 (by dsimp only; omega) ?_;exact cvr
 ·refine W.skip (fin p k x2 _ (by omega) (by omega) hx2 (by dsimp only; omega) ?_);exact cvr

def zqk (M : Int) (d : Nat) (L : List Int) : Prop := L.length = d + 1 ∧ (∀ j, 0 <= cf L j ∧ cf L j < M) ∧ cf L d = 1
theorem zhH {L : List Int} {r : Int} {j : Nat} : cf (L ++ [r]) j = if j < L.length then cf L j else if j = L.length then r else 0 := by
 unfold cf;rw [List.getD_eq_getElem?_getD];rcases Nat.lt_trichotomy j L.length with hj | hj | hj
 ·rw [List.getElem?_append_left hj, <- List.getD_eq_getElem?_getD, if_pos hj]
 ·rw [List.getElem?_append_right (by omega), hj, Nat.sub_self, if_neg (by omega), if_pos rfl]; rfl
 ·rw [List.getElem?_eq_none (by simp; omega), if_neg (by omega), if_neg (by omega)]; rfl

theorem zkz {n : Nat} {c : Nat -> Int} (hc : Byt n c) {p k M : Int} (hr : xO p k) (hM : p ^ k.toNat = M) (d : Nat) (hd : d <= 12) : zpM 170 [vR p k, .int .i64 d] n c (λL => zqk M d L) := by
 obtain ⟨s1, s2, s3, s4, s5, s6⟩ := hr.small;rw [hM] at s5 s6;rintro b x hx;refine zew (cx := cx [0, 1, 2, 4, 6, 7, 8, 9, 18, 1000000, 1000001]) Tryz.func170 rfl (by decide) Tryz.ntmps170 (Nat.le_of_ble_eq_true rfl) (Nat.le_of_ble_eq_true rfl) rfl rfl λbase hs0 O U hw v0 hb0 => ?_;refine wrs λK hK => ?_;conv => whnf
 refine ⟨rfl, ?_⟩;conv => whnf
 intro b_4 hs_4 hh_4 hf_4;try dsimp only at hh_4 hf_4
 conv => whnf
 refine hK _ ?_;clear hK K;refine wrs λK hK => ?_;conv => whnf
 refine zb rfl (zhG hr hM) λhs' hhs => ?_;try dsimp only at hhs
 conv => whnf
 refine hK _ ?_;clear hK K;refine wrs λK hK => ?_;conv => whnf
 refine ⟨⟨rfl, by decide⟩, ?_⟩;conv => whnf
 intro b_8 hs_8 hh_8 hf_8;try dsimp only at hh_8 hf_8
 conv => whnf
 refine hK _ ?_;clear hK K;refine W.seqK λK1 hK1 => ?_;refine wrs λK hK => ?_;conv => whnf
 refine hK _ (W.block (W.invS (λm e hs => hs0 <= hs ∧ ∃ (i bo : Nat) (y : V) (L : List Int), i <= d ∧ zaT n c y ∧ L.length = i ∧ (∀ j, 0 <= cf L j ∧ cf L j < M) ∧ (hs0 <= bo ∧ bo < hs) ∧ m = d - i ∧ e = [(vt, .dead), (vk, .keep O U hw 0 v0), (0, .ownB b y), (2, .v (.int .i64 d)), (4, .ownB b_4 (vR p k)), (7, .v (.int .i64 M)), (8, .ownI 2 bo L), (9, .v (.int .i64 i))]) _ _ hs_8
  ⟨by omega, 0, b_8, x, [], by omega, hx, rfl, λj => by rw [zO]; omega, (by have := hf_8 (by decide); omega), rfl, rfl⟩ (λm e hs h => Nat.le_trans hb0 h.1) (by dsimp only; omega) (by repeat' first | refine And.intro ?_ ?_ | exact trivial | rfl | omega | exact .inl rfl | assumption) ?_))
 clear hK K;rintro m e hs ⟨hsl, i, bo, y, L, h1, hy, rfl, h3, hbo, hm, rfl⟩;refine W.seqK λK7 hK7 => wrs λK hK => ?_;conv => whnf
 refine hK _ (W.cond ⟨λh5 => ?_, λh5 => ?_⟩) <;> clear hK K <;> (first | replace h5 := of_decide_eq_true h5 | replace h5 := of_decide_eq_false h5)
 ·have hk : L.length < d := by omega
  refine W.skip (hK7 _ (W.seqK λK8 hK8 => W.block ?_));clear hK7 K7;refine wrg ?_;conv => whnf
  refine ⟨⟨rfl, rfl⟩, ?_⟩;conv => whnf
  refine ⟨rfl, _, (zS hc M (by constructor <;> omega) b y hy), ?_⟩;rintro hs_ms2 av x' t' hh_ms2 ⟨rfl, ⟨x2, hx2, rfl⟩, _, rfl, ⟨r1, rfl, r10, r11, _⟩⟩ _ _ _;try dsimp only at hh_ms2
  conv => whnf
  have hmin : 1 <= min M 9 ∧ min M 9 <= M := by omega
  refine ⟨⟨rfl, rfl⟩, ?_⟩;conv => whnf
  refine ⟨rfl, _, (zS hc (min M 9) (by constructor <;> omega) b x2 hx2), ?_⟩;rintro hs_ms3 av x' t' hh_ms3 ⟨rfl, ⟨x3, hx3, rfl⟩, _, rfl, ⟨r2, rfl, r20, r21, r22⟩⟩ _ _ _;try dsimp only at hh_ms3
  conv => whnf
  have h11 := r11 (by omega)
  have h21 : r2 < M := by
   by_cases h : 1 < min M 9
   ·have := r21 h; omega
   ·have := r22 (by omega); omega
  refine ⟨⟨rfl, by decide⟩, ?_⟩;conv => whnf
  intro b_1 hs_1 hh_1 hf_1;try dsimp only at hh_1 hf_1
  conv => whnf
  refine ⟨⟨rfl, rfl⟩, ?_⟩;conv => whnf
  refine ⟨rfl, _, (vJ hc none [r1, r2, 0] ⟨(by show 1 <= 3; omega), (by show 3 <= 1000; omega)⟩ b x3 hx3), ?_⟩;rintro hs_ms4 av x' t' hh_ms4 ⟨rfl, ⟨x4, hx4, rfl⟩, _, rfl, ⟨r, rfl, hr'⟩⟩ _ _ _;try dsimp only at hh_ms4
  conv => whnf
  have hr' : 0 <= r ∧ r < M := by
   simp only [List.mem_cons, List.not_mem_nil, or_false] at hr'
   omega
  refine ⟨⟨rfl, by decide⟩, ?_⟩;conv => whnf
  intro b_2 hs_2 hh_2 hf_2;try dsimp only at hh_2 hf_2
  conv => whnf
  refine ⟨by simp; omega, ?_⟩;conv => whnf
  intro b_3 hs_3 hh_3 hf_3;try dsimp only at hh_3 hf_3
  conv => whnf
  refine hK8 _ ?_;clear hK8 K8;refine wrg ?_;conv => whnf
  refine ⟨oo, ?_⟩;conv => whnf
  have hL : ∀ j, 0 <= cf (L ++ [r]) j ∧ cf (L ++ [r]) j < M := λj => by
   rw [zhH]
   split
   ·exact h3 j
   ·split <;> omega
  have hlen : (L ++ [r]).length = L.length + 1 := by simp
  refine ⟨_, _, hs_3, ⟨by omega, L.length + 1, b_3, x4, L ++ [r], by omega, hx4, hlen, hL, ?_, rfl, rfl⟩, by omega, by dsimp only; omega, ?_⟩
  ·rcases hf_3 (by simp) with h | h
   ·injection h with h
    omega
   ·omega
  ·exact cvr
 ·obtain rfl : L.length = d := by omega
  refine W.exit (hK1 _ ?_);clear hK7 K7 hK1 K1;refine wrs λK hK => ?_;conv => whnf
  refine ⟨⟨rfl, by decide⟩, ?_⟩;conv => whnf
  intro b_1 hs_1 hh_1 hf_1;try dsimp only at hh_1 hf_1
  conv => whnf
  refine ⟨by simp; omega, ?_⟩;conv => whnf
  intro b_2 hs_2 hh_2 hf_2;try dsimp only at hh_2 hf_2
  conv => whnf
  refine hK _ ?_;clear hK K
  have hL : zqk M L.length (L ++ [1]) := by
   refine ⟨by simp, λj => ?_, ?_⟩
   ·rw [zhH]
    split
    ·exact h3 j
    ·split <;> omega
   ·rw [zhH, if_neg (by omega), if_pos rfl]
  refine W.ret ?_;conv => whnf
  refine ⟨by dsimp only; omega, ?_⟩;conv => whnf
  refine ⟨rfl, ?_⟩;conv => whnf
  refine ⟨.ownI 2 b_2 (L ++ [1]), ⟨rfl, rfl, rfl⟩, rfl, λ_ => ?_, ?_⟩
  ·rcases hf_2 (by simp) with h | h
   ·injection h with h
    dsimp only
    omega
   ·dsimp only
    omega
  conv => whnf
  exact ⟨.ownB b y, ⟨rfl, rfl⟩, .inr ⟨rfl, rfl⟩, .dead, trivial, rfl, rfl, rfl, ⟨y, hy, rfl⟩, _, _, rfl, hL⟩

theorem zjm {n : Nat} {c : Nat -> Int} (hc : Byt n c) {p k M : Int} (hr : xO p k) (hM : p ^ k.toNat = M) (e : Int) (d : Nat) (he : e = d) (hd : d <= 12) : zpM 170 [vR p k, .int .i64 e] n c (λL => zqk M d L) := by
 subst he; exact zkz hc hr hM d hd


def QE (r : V) : Prop := ∃ (p k : Int) (L : List Int), r = vE p k none L ∧ (-1000 <= p ∧ p <= 1000) ∧ (-1000 <= k ∧ k <= 1000) ∧ L.length <= 30

theorem zoF {p k : Int} (hp : p ∈ z7) (h7 : p <= 7) (h1 : 1 <= k) (h5 : k <= 5) : xO p k := by
 have hp2 := yN hp;refine ⟨decide_eq_true hp, h1, ?_⟩;have hp' : p = 2 ∨ p = 3 ∨ p = 4 ∨ p = 5 ∨ p = 6 ∨ p = 7 := by omega
 have hk : k = 1 ∨ k = 2 ∨ k = 3 ∨ k = 4 ∨ k = 5 := by omega
 rcases hp' with rfl | rfl | rfl | rfl | rfl | rfl <;> rcases hk with rfl | rfl | rfl | rfl | rfl <;> decide

theorem zgI {n : Nat} {c : Nat -> Int} (hc : Byt n c) : zi4 112 [] n c QE := by
 rintro b x hx;refine jV (cx := cxt [] [0, 2, 3, 4, 5, 6, 7, 23, 49, 50, 56, 1000000, 1000001]) (zh [] [0, 2, 3, 4, 5, 6, 7, 23, 49, 50, 56, 1000000, 1000001]) Tryz.func112 rfl (by decide) Tryz.ntmps112 (Nat.le_of_ble_eq_true rfl) (Nat.le_of_ble_eq_true rfl) rfl rfl λbase hs0 O U hw v0 hb0 => ?_;refine W.sw (c' := cx [0, 2, 3, 4, 5, 6, 7, 23, 49, 50, 56, 1000000, 1000001]) ?_;refine wrs λK hK => ?_;conv => whnf
 intro b_2 hs_2 hh_2 hf_2;try dsimp only at hh_2 hf_2
 conv => whnf
 refine hK _ ?_;clear hK K;refine wrs λK hK => ?_;conv => whnf
 refine ⟨⟨rfl, rfl⟩, ?_⟩;conv => whnf
 refine ⟨rfl, _, (zkw hc b x hx), ?_⟩;rintro hs_ms1 av x' t' hh_ms1 ⟨rfl, ⟨x1, hx1, rfl⟩, _, rfl, ⟨p, L, rfl, hp, hL, hpp, hLb⟩⟩ _ _ _;try dsimp only at hh_ms1
 conv => whnf
 intro b_3 hs_3 hh_3 hf_3;try dsimp only at hh_3 hf_3
 conv => whnf
 refine ⟨s23, ?_⟩;conv => whnf
 refine hK _ ?_;clear hK K;refine W.seqK λK2 hK2 => ?_
 have next : ∀ (b4 : Nat) (e : Int) (y : V) (t : S), (1 <= e ∧ e <= 5) -> zaT n c y -> hs0 <= t.hs -> zD t.env [(vt, .dead), (vk, .keep O U hw 0 v0), (0, .ownB b y), (2, .ownB b_2 (.agg [.int .i64 0, .int .i64 0, .nil])), (3, .ownB b_3 (vK p none L)), (4, .ownB b4 (vR p e))] -> K2 t := by
  intro b4 e y t he hy h9 h10;have hp2 := yN hpp;have hrg := zoF hpp (by omega) he.1 he.2;obtain ⟨s1, s2, s3, s4, s5, s6⟩ := hrg.small;obtain ⟨M, hM⟩ : ∃ M, p ^ e.toNat = M := ⟨_, rfl⟩
  rw [hM] at s5 s6;refine hK2 _ (W.weak (t := ⟨_, hs0⟩) ⟨h9, h10⟩ hb0 ?_);clear hK2;refine wrs λK hK => ?_;conv => whnf
  refine zr rfl (zfd none L (by omega)) λhs_5 b_5 hh_5 hf_5 => ?_;try dsimp only at hh_5 hf_5
  conv => whnf
  refine hK _ ?_;clear hK K;refine W.seqK λK1 hK1 => ?_;refine wrs λK hK => ?_;conv => whnf
  refine hK _ (W.block (W.invH hs0 hb0 (λm e' => ∃ (i bo : Nat) (y : V) (X : List Int), zaT n c y ∧ X.length = L.length ∧ (∀ j, 0 <= cf X j ∧ cf X j <= 1000000000) ∧ m = L.length - i ∧ e' = [(vt, .dead), (vk, .keep O U hw 0 v0), (0, .ownB b y), (2, .ownB b_2 (.agg [.int .i64 0, .int .i64 0, .nil])), (3, .ownB b_3 (vK p none L)), (4, .ownB b4 (vR p e)), (5, .ownI 2 bo X), (6, .v (.int .i64 i))]) _ _ ⟨0, b_5, y, L, hy, rfl, λj => by have := hLb j; omega, rfl, rfl⟩ (by dsimp only; omega) (by repeat' first | refine And.intro ?_ ?_ | exact trivial | rfl | omega | assumption) ?_));clear hK K;rintro m e' ⟨i, bo, y, X, hy, hXl, hXb, hm, rfl⟩;refine W.seqK λK7 hK7 => ?_;refine wrs λK hK => ?_;conv => whnf
  refine ⟨oo, ?_⟩;conv => whnf
  refine hK _ (W.cond ⟨λh5 => ?_, λh5 => ?_⟩) <;> clear hK K
  ·have h5 := of_decide_eq_true h5;refine W.skip (hK7 _ (W.seqK λK8 hK8 => W.block ?_));clear hK7 K7;have hi : i < X.length := by omega
   have hXi : X.getD (i : Int).toNat 0 = cf X i := rfl;have hXbi := hXb i;refine W.gh follows ?_;refine Wgh.tk (za []) 0 ?_;conv => whnf
   refine Wgh.tk (za []) 1 ?_;conv => whnf
   refine Wgh.tk (za []) 2 ?_;conv => whnf
   refine Wgh.tk (za []) 3 ?_;conv => whnf
   refine Wgh.tk (za []) 4 ?_;conv => whnf
   refine ⟨oo, ?_⟩;conv => whnf
   refine Wgh.tk (za []) 5 ?_;conv => whnf
   refine Wgh.tk (za []) 6 ?_;conv => whnf
   refine Wgh.tk (za []) 7 ?_;conv => whnf
   refine Wgh.tk (za []) 8 ?_;conv => whnf
   refine Wgh.tk (za []) 12 ?_;conv => whnf
   refine Wgh.tk (za []) 13 ?_;conv => whnf
   refine Wgh.tk (za []) 14 ?_;conv => whnf
   refine Wgh.tk (za []) 15 ?_;conv => whnf
   refine Wgh.on (za []) 9 [15, 14, 13, 12, 7, 6, 5, 4, 3, 2, 1, 0] ⟨(by (conv => whnf); exact ⟨Nat.le_refl _, rfl⟩), (by (conv => whnf); exact ⟨Nat.le_refl _, rfl⟩), (by (conv => whnf); exact ⟨Nat.le_refl _, rfl⟩), (by (conv => whnf); exact ⟨Nat.le_refl _, rfl⟩), (by (conv => whnf); exact ⟨Nat.le_refl _, rfl⟩), (by (conv => whnf); exact ⟨Nat.le_refl _, rfl⟩), (by (conv => whnf); exact ⟨Nat.le_refl _, rfl⟩), (by (conv => whnf); exact ⟨Nat.le_refl _, rfl⟩), (by (conv => whnf); refine ⟨by first | assumption | omega | exact ⟨by omega, by omega⟩, ?_⟩; (conv => whnf); exact ⟨Nat.le_refl _, rfl⟩), (by (conv => whnf); exact ⟨Nat.le_refl _, rfl⟩), (by (conv => whnf); exact ⟨Nat.le_refl _, rfl⟩), (by (conv => whnf); exact ⟨Nat.le_refl _, rfl⟩), (by (conv => whnf); exact ⟨Nat.le_refl _, rfl⟩), trivial⟩ ?_;conv => whnf
   refine ⟨⟨rfl, rfl⟩, ?_⟩;conv => whnf
   refine ⟨rfl, _, (zS hc 10 (by constructor <;> decide) b y hy), ?_⟩;rintro hs_ms3 av x' t' hh_ms3 ⟨rfl, ⟨x3, hx3, rfl⟩, _, rfl, ⟨q, rfl, q0, q1, _⟩⟩ _ _ _;try dsimp only at hh_ms3
   conv => whnf
   have q10 := q1 (by decide);have hmul : 0 <= p * q ∧ p * q <= 70 := ⟨Int.mul_nonneg (by omega) q0, by have := Int.mul_le_mul hp.2 (show q <= 10 by omega) q0 (by omega : (0 : Int) <= 7); omega⟩
   refine Wgh.tk (za []) 10 ?_;conv => whnf
   refine ⟨oo, ?_⟩;conv => whnf
   refine Wgh.tk (za []) 11 ?_;conv => whnf
   refine ⟨oo, ?_⟩;conv => whnf
   refine Wgh.on (za []) 16 [11, 10, 7, 6, 5, 4, 3, 2, 1, 0] ⟨(by (conv => whnf); refine ⟨by first | assumption | omega | exact ⟨by omega, by omega⟩, ?_⟩; (conv => whnf); exact ⟨Nat.le_refl _, rfl⟩), (by (conv => whnf); refine ⟨by first | assumption | omega | exact ⟨by omega, by omega⟩, ?_⟩; (conv => whnf); exact ⟨Nat.le_refl _, rfl⟩), (by (conv => whnf); exact ⟨Nat.le_refl _, rfl⟩), (by (conv => whnf); exact ⟨Nat.le_refl _, rfl⟩), (by (conv => whnf); exact ⟨Nat.le_refl _, rfl⟩), (by (conv => whnf); exact ⟨Nat.le_refl _, rfl⟩), (by (conv => whnf); exact ⟨Nat.le_refl _, rfl⟩), (by (conv => whnf); exact ⟨Nat.le_refl _, rfl⟩), (by (conv => whnf); exact ⟨Nat.le_refl _, rfl⟩), (by (conv => whnf); refine ⟨by first | assumption | omega | exact ⟨by omega, by omega⟩, ?_⟩; (conv => whnf); exact ⟨Nat.le_refl _, rfl⟩), (by (conv => whnf); exact ⟨Nat.le_refl _, rfl⟩), (by (conv => whnf); exact ⟨Nat.le_refl _, rfl⟩), (by (conv => whnf); exact ⟨Nat.le_refl _, rfl⟩), (by (conv => whnf); exact ⟨Nat.le_refl _, rfl⟩), trivial⟩ ?_;conv => whnf
   refine zb rfl (zhG hrg hM) λhs' hhs => ?_;try dsimp only at hhs
   conv => whnf
   refine Wgh.tk (za []) 17 ?_;conv => whnf
   refine ⟨by show M ≠ 0; omega, ?_⟩;conv => whnf
   refine Wgh.tk (za []) 18 ?_;conv => whnf
   refine ⟨oo, ?_⟩;conv => whnf
   refine Wgh.on (za []) 19 [] ⟨(by (conv => whnf); refine ⟨by first | assumption | omega | exact ⟨by omega, by omega⟩, ?_⟩; (conv => whnf); exact ⟨Nat.le_refl _, rfl⟩), (by (conv => whnf); refine ⟨by first | assumption | omega | exact ⟨by omega, by omega⟩, ?_⟩; (conv => whnf); exact ⟨Nat.le_refl _, rfl⟩), (by (conv => whnf); refine ⟨by first | assumption | omega | exact ⟨by omega, by omega⟩, ?_⟩; (conv => whnf); exact ⟨Nat.le_refl _, rfl⟩), (by (conv => whnf); refine ⟨by first | assumption | omega | exact ⟨by omega, by omega⟩, ?_⟩; (conv => whnf); exact ⟨Nat.le_refl _, rfl⟩), (by (conv => whnf); exact ⟨Nat.le_refl _, rfl⟩), (by (conv => whnf); exact ⟨Nat.le_refl _, rfl⟩), (by (conv => whnf); exact ⟨Nat.le_refl _, rfl⟩), (by (conv => whnf); refine ⟨by first | assumption | omega | exact ⟨by omega, by omega⟩, ?_⟩; (conv => whnf); exact ⟨Nat.le_refl _, rfl⟩), (by (conv => whnf); exact ⟨Nat.le_refl _, rfl⟩), (by (conv => whnf); exact ⟨Nat.le_refl _, rfl⟩), (by (conv => whnf); exact ⟨Nat.le_refl _, rfl⟩), (by (conv => whnf); exact ⟨Nat.le_refl _, rfl⟩), trivial⟩ ?_;conv => whnf
   refine Wgh.dn (za []) trivial ?_;conv => whnf
   obtain ⟨r, hr, hr0, hr1⟩ := zdT (a := X.getD (i : Int).toNat 0 + p * q) (b := M) (by omega) (by omega);rw [hr];refine hK8 _ ?_;clear hK8 K8;refine wrg ?_;conv => whnf
   refine ⟨oo, ?_⟩;conv => whnf
   have hX2 : ∀ j, 0 <= cf (X.set (i : Int).toNat r) j ∧ cf (X.set (i : Int).toNat r) j <= 1000000000 := λj => by
    unfold cf;rw [show (i : Int).toNat = i from rfl, List.getD_eq_getElem?_getD, List.getElem?_set]
    by_cases hj : i = j
    ·rw [if_pos hj, if_pos (by omega)]; exact ⟨hr0, by show r <= _; omega⟩
    ·rw [if_neg hj, <- List.getD_eq_getElem?_getD]; exact hXb j
   exact zm ⟨i + 1, bo, x3, X.set (i : Int).toNat r, hx3, by rw [List.length_set]; exact hXl, hX2, rfl, rfl⟩
  ·have hXl2 : X.length <= 9 := by omega
   refine W.exit (hK1 _ ?_);clear hK7 K7 hK1 K1;refine wrs λK hK => ?_;conv => whnf
   intro b_7 hs_7 hh_7 hf_7;try dsimp only at hh_7 hf_7
   conv => whnf
   refine ⟨s23, ?_⟩;conv => whnf
   refine hK _ ?_;clear hK K;refine W.seqK λK1 hK1 => ?_;refine wrs λK hK => ?_;conv => whnf
   refine ⟨⟨rfl, rfl⟩, ?_⟩;conv => whnf
   refine ⟨rfl, _, (zS hc 24 (by constructor <;> decide) b y hy), ?_⟩;rintro hs_ms3 av x' t' hh_ms3 ⟨rfl, ⟨x3, hx3, rfl⟩, _, rfl, ⟨q, rfl, q0, q1, _⟩⟩ _ _ _;try dsimp only at hh_ms3
   conv => whnf
   refine hK _ (W.block ?_);clear hK K;refine wrs λK hK => ?_;conv => whnf
   refine hK _ (W.cond ⟨λh => ?_, λh => ?_⟩) <;> clear hK K
   ·refine wrs λK hK => ?_;conv => whnf
    refine ⟨⟨rfl, rfl⟩, ?_⟩;conv => whnf
    refine ⟨rfl, _, (zmz hc b x3 hx3), ?_⟩;rintro hs_ms4 av x' t' hh_ms4 ⟨rfl, ⟨x4, hx4, rfl⟩, _, rfl, ⟨p', k', rfl, hp', hk'⟩⟩ _ _ _;try dsimp only at hh_ms4
    conv => whnf
    refine ⟨s23, ?_⟩;conv => whnf
    refine hK _ ?_;clear hK K;refine W.ret ?_;conv => whnf
    refine ⟨by dsimp only; omega, ?_⟩;conv => whnf
    exact ⟨.ownB b (x4), ⟨rfl, rfl⟩, .inr ⟨rfl, rfl⟩, .dead, trivial, rfl, rfl, rfl, ⟨x4, hx4, rfl⟩, _, rfl, ⟨p', k', X, rfl, hp', hk', by omega⟩⟩
   refine wrs λK hK => ?_;conv => whnf
   refine hK _ (W.cond ⟨λh => ?_, λh => ?_⟩) <;> clear hK K
   ·refine W.rgh follows λK hK => ?_;refine Wgh.tk (za []) 0 ?_;conv => whnf
    refine Wgh.tk (za []) 1 ?_;conv => whnf
    refine Wgh.tk (za []) 2 ?_;conv => whnf
    refine Wgh.on (za []) 3 [0] (by refine ⟨?_, ?_, ?_, trivial⟩ <;> (conv => whnf) <;> exact ⟨Nat.le_refl _, rfl⟩) ?_;conv => whnf
    refine ⟨⟨rfl, rfl⟩, ?_⟩;conv => whnf
    refine ⟨rfl, _, (zjm hc hrg hM 2 2 (by decide) (by decide) b x3 hx3), ?_⟩;rintro hs_ms4 av x' t' hh_ms4 ⟨rfl, ⟨x4, hx4, rfl⟩, bo4, L4, rfl, hL4⟩ _ _ hf_ms4
    replace hf_ms4 := hf_ms4 (by simp)
    try dsimp only at hh_ms4
    conv => whnf
    refine Wgh.tk (za []) 4 ?_;conv => whnf
    refine Wgh.on (za []) 5 [] (by refine ⟨?_, ?_, trivial⟩ <;> (conv => whnf) <;> exact ⟨Nat.le_refl _, rfl⟩) ?_;conv => whnf
    refine ⟨s23, ?_⟩;conv => whnf
    refine Wgh.dn (za []) trivial (hK _ ?_);clear hK K;have := hL4.1;refine W.ret ?_;conv => whnf
    refine ⟨by dsimp only; omega, ?_⟩;conv => whnf
    exact ⟨.ownB b (x4), ⟨rfl, rfl⟩, .inr ⟨rfl, rfl⟩, .dead, trivial, rfl, rfl, rfl, ⟨x4, hx4, rfl⟩, _, rfl, ⟨p, e, L4, rfl, by omega, by omega, by omega⟩⟩
   ·refine W.skip (hK1 _ ?_);clear hK1 K1;refine wrs λK hK => ?_;conv => whnf
    refine ⟨s23, ?_⟩;conv => whnf
    refine hK _ ?_;clear hK K;refine W.ret ?_;conv => whnf
    refine ⟨by dsimp only; omega, ?_⟩;conv => whnf
    exact ⟨.ownB b (x3), ⟨rfl, rfl⟩, .inr ⟨rfl, rfl⟩, .dead, trivial, rfl, rfl, rfl, ⟨x3, hx3, rfl⟩, _, rfl, ⟨p, e, X, rfl, by omega, by omega, by omega⟩⟩
 clear hK2;refine W.sch follows ?_;refine Wany.takeF (za []) 0 (by rfl) (by rfl) (by rfl) (by rfl) (by decide) (by kernel_rfl) (by kernel_rfl) (by kernel_rfl) ?_;conv => whnf
 refine wt 2 ?_;conv => whnf
 refine w3 1 3 6 ?_ ?_ ?_ <;> conv => whnf
 ·refine w2 3 6 ?_ ?_ <;> conv => whnf
  ·refine ⟨⟨rfl, rfl⟩, ?_⟩;conv => whnf
   refine ⟨rfl, _, (zS hc 5 (by constructor <;> decide) b x1 hx1), ?_⟩;rintro hs_ms2 av x' t' hh_ms2 ⟨rfl, ⟨x2, hx2, rfl⟩, _, rfl, ⟨q, rfl, q0, q1, _⟩⟩ _ _ _;try dsimp only at hh_ms2
   conv => whnf
   have q5 := q1 (by decide);refine Wany.takeB (za []) 4 (by rfl) (by rfl) (by rfl) (by rfl) (by decide) (by rfl) (by rfl) (by kernel_rfl) (by kernel_rfl) (by kernel_rfl) ?_;conv => whnf
   refine ⟨oo, ?_⟩;conv => whnf
   refine wt 5 ?_;conv => whnf
   refine w1 6 ?_;conv => whnf
   intro b_4 hs_4 hh_4 hf_4;try dsimp only at hh_4 hf_4
   conv => whnf
   refine w1 7 ?_;conv => whnf
   refine ⟨s23, ?_⟩;conv => whnf
   refine wd1 (next b_4 (1 + q) x2 _ (by omega) hx2 (by dsimp only; omega) ?_);exact cvr
  ·intro b_4 hs_4 hh_4 hf_4;try dsimp only at hh_4 hf_4
   conv => whnf
   refine w1 3 ?_;conv => whnf
   refine ⟨⟨rfl, rfl⟩, ?_⟩;conv => whnf
   refine ⟨rfl, _, (zS hc 5 (by constructor <;> decide) b x1 hx1), ?_⟩;rintro hs_ms2 av x' t' hh_ms2 ⟨rfl, ⟨x2, hx2, rfl⟩, _, rfl, ⟨q, rfl, q0, q1, _⟩⟩ _ _ _;try dsimp only at hh_ms2
   conv => whnf
   have q5 := q1 (by decide);refine Wany.takeB (za []) 4 (by rfl) (by rfl) (by rfl) (by rfl) (by decide) (by rfl) (by rfl) (by kernel_rfl) (by kernel_rfl) (by kernel_rfl) ?_;conv => whnf
   refine ⟨oo, ?_⟩;conv => whnf
   refine wt 5 ?_;conv => whnf
   refine w1 7 ?_;conv => whnf
   refine ⟨s23, ?_⟩;conv => whnf
   refine wd1 (next b_4 (1 + q) x2 _ (by omega) hx2 (by dsimp only; omega) ?_);exact cvr
 ·refine ⟨⟨rfl, rfl⟩, ?_⟩;conv => whnf
  refine ⟨rfl, _, (zS hc 5 (by constructor <;> decide) b x1 hx1), ?_⟩;rintro hs_ms2 av x' t' hh_ms2 ⟨rfl, ⟨x2, hx2, rfl⟩, _, rfl, ⟨q, rfl, q0, q1, _⟩⟩ _ _ _;try dsimp only at hh_ms2
  conv => whnf
  have q5 := q1 (by decide);refine Wany.takeB (za []) 4 (by rfl) (by rfl) (by rfl) (by rfl) (by decide) (by rfl) (by rfl) (by kernel_rfl) (by kernel_rfl) (by kernel_rfl) ?_;conv => whnf
  refine ⟨oo, ?_⟩;conv => whnf
  refine w2 1 6 ?_ ?_ <;> conv => whnf
  ·refine wt 5 ?_;conv => whnf
   refine w1 6 ?_;conv => whnf
   intro b_4 hs_4 hh_4 hf_4;try dsimp only at hh_4 hf_4
   conv => whnf
   refine w1 7 ?_;conv => whnf
   refine ⟨s23, ?_⟩;conv => whnf
   refine wd1 (next b_4 (1 + q) x2 _ (by omega) hx2 (by dsimp only; omega) ?_);exact cvr
  ·intro b_4 hs_4 hh_4 hf_4;try dsimp only at hh_4 hf_4
   conv => whnf
   refine w1 1 ?_;conv => whnf
   refine wt 5 ?_;conv => whnf
   refine w1 7 ?_;conv => whnf
   refine ⟨s23, ?_⟩;conv => whnf
   refine wd1 (next b_4 (1 + q) x2 _ (by omega) hx2 (by dsimp only; omega) ?_);exact cvr
 ·intro b_4 hs_4 hh_4 hf_4;try dsimp only at hh_4 hf_4
  conv => whnf
  refine w2 1 3 ?_ ?_ <;> conv => whnf
  ·refine w1 3 ?_;conv => whnf
   refine ⟨⟨rfl, rfl⟩, ?_⟩;conv => whnf
   refine ⟨rfl, _, (zS hc 5 (by constructor <;> decide) b x1 hx1), ?_⟩;rintro hs_ms2 av x' t' hh_ms2 ⟨rfl, ⟨x2, hx2, rfl⟩, _, rfl, ⟨q, rfl, q0, q1, _⟩⟩ _ _ _;try dsimp only at hh_ms2
   conv => whnf
   have q5 := q1 (by decide);refine Wany.takeB (za []) 4 (by rfl) (by rfl) (by rfl) (by rfl) (by decide) (by rfl) (by rfl) (by kernel_rfl) (by kernel_rfl) (by kernel_rfl) ?_;conv => whnf
   refine ⟨oo, ?_⟩;conv => whnf
   refine wt 5 ?_;conv => whnf
   refine w1 7 ?_;conv => whnf
   refine ⟨s23, ?_⟩;conv => whnf
   refine wd1 (next b_4 (1 + q) x2 _ (by omega) hx2 (by dsimp only; omega) ?_);exact cvr
  ·refine ⟨⟨rfl, rfl⟩, ?_⟩;conv => whnf
   refine ⟨rfl, _, (zS hc 5 (by constructor <;> decide) b x1 hx1), ?_⟩;rintro hs_ms2 av x' t' hh_ms2 ⟨rfl, ⟨x2, hx2, rfl⟩, _, rfl, ⟨q, rfl, q0, q1, _⟩⟩ _ _ _;try dsimp only at hh_ms2
   conv => whnf
   have q5 := q1 (by decide);refine Wany.takeB (za []) 4 (by rfl) (by rfl) (by rfl) (by rfl) (by decide) (by rfl) (by rfl) (by kernel_rfl) (by kernel_rfl) (by kernel_rfl) ?_;conv => whnf
   refine ⟨oo, ?_⟩;conv => whnf
   refine w1 1 ?_;conv => whnf
   refine wt 5 ?_;conv => whnf
   refine w1 7 ?_;conv => whnf
   refine ⟨s23, ?_⟩;conv => whnf
   refine wd1 (next b_4 (1 + q) x2 _ (by omega) hx2 (by dsimp only; omega) ?_);exact cvr
-- 6 ways

end Go.Proofs.YtffhmebkkbfaeaaGreat
