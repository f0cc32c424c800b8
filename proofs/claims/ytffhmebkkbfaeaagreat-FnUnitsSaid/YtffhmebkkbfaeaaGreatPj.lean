/- What the program's functions and the reference's return. No conditions. -/
import Derived.Test.YtffhmebkkbfaeaaGreatPi
namespace Go.Proofs.YtffhmebkkbfaeaaGreat
open Go Go.RowKit Go.Proofs Poly
set_option maxRecDepth 100000
set_option maxHeartbeats 8000000

abbrev vR (p k : Int) : V := .agg [.int .i64 p, .int .i64 k]
abbrev vE (p k : Int) (g : Option Nat) (l : List Int) : V := .agg [.int .i64 p, .int .i64 k, .ints g l]

def xQ (p k : Int) : Prop := isP p = true ∧ 1 <= k ∧ p ^ k.toNat <= 1000000000
theorem jS {p : Int} (hp : 1 <= p) {a b : Nat} (h : a <= b) : p ^ a <= p ^ b := by
 obtain ⟨q, rfl⟩ : ∃ q : Nat, p = q := ⟨p.toNat, by omega⟩
 have h1 : q ^ a <= q ^ b := Nat.pow_le_pow_right (by omega) h;rw [<- Int.natCast_pow, <- Int.natCast_pow]; omega
theorem za2 {p : Int} (hp : 1 <= p) (a : Nat) : 1 <= p ^ a := by
 have := jS hp (Nat.zero_le a)
 rwa [Int.pow_zero] at this
theorem zoJ {p : Int} (hp : 2 <= p) {a : Nat} (h : p ^ a <= 1000000000) : a < 30 := by
 refine Nat.lt_of_not_le λh1 => ?_;obtain ⟨q, rfl⟩ : ∃ q : Nat, p = q := ⟨p.toNat, by omega⟩
 have h2 := jS (p := (q : Int)) (by omega) h1;have h3 : 2 ^ 30 <= q ^ 30 := Nat.pow_le_pow_left (by omega) 30;rw [<- Int.natCast_pow] at h2;omega
theorem xQ.small {p k : Int} (h : xQ p k) : 2 <= p ∧ p <= 97 ∧ 1 <= k ∧ k < 30 ∧ 2 <= p ^ k.toNat ∧ p ^ k.toNat <= 1000000000 := by
 have h1 := zaj h.1;have h2 := zoJ (by omega) h.2.2;have h3 := jS (p := p) (by omega) (a := 1) (b := k.toNat) (by have := h.2.1; omega);rw [Int.pow_one] at h3;have := h.2.1;have := h.2.2;omega

theorem zgP (p k : Int) : FnV 147 [vR p k] (.bool (bP (xQ p k))) := by
 refine ze (za [0, 1, 2, 3, 12, 15, 16, 17, 23]) Tryz.func147 rfl (by decide) Tryz.ntmps147 (lb rfl) λbase => ?_;refine wrs λK hK => ?_;conv=>whnf
 refine ⟨rfl, ?_⟩;conv=>whnf
 intro b_1 hs_1 hh_1 hf_1;try dsimp only at hh_1 hf_1
 conv=>whnf
 refine hK _ (W.seqK λK1 hK1 => wrs λK hK => ?_);conv=>whnf
 refine zb rfl (zas p) λhs' hhs => ?_;try dsimp only at hhs
 conv=>whnf
 refine ⟨λh => ?_, λh => ?_⟩ <;> conv=>whnf
 ·have h : isP p = false := by simpa using h
  refine hK _ (W.condT rfl ?_);clear hK;refine wrs λK hK => ?_;conv=>whnf
  refine hK _ (W.ret ?_);conv=>whnf
  exact ⟨.v (.bool (bP (xQ p k))), (zf λh' => by rw [h'.1] at h; cases h), trivial, rfl⟩
 have h : isP p = true := by simpa using h
 have hp := zaj h;refine hK _ (W.cond ⟨λh1 => ?_, λh1 => ?_⟩) <;> clear hK
 ·have h1 := of_decide_eq_true h1;refine wrs λK hK => ?_;conv=>whnf
  refine hK _ (W.ret ?_);conv=>whnf
  exact ⟨.v (.bool (bP (xQ p k))), zf λh' => by have := h'.2.1; omega, trivial, rfl⟩
 have h1 := of_decide_eq_false h1;refine W.skip (hK1 _ ?_);clear hK1;refine wrs λK hK => ?_;conv=>whnf
 refine hK _ (W.seqK λK1 hK1 => wrs λK hK => ?_);conv=>whnf
 refine hK _ (W.block (W.invA (λm e => ∃ j : Nat, (j : Int) <= min k 40 ∧ p ^ j <= 1000000000 ∧ m = 40 - j ∧ e = [(1, .ownB b_1 (vR p k)), (3, .v (.int .i64 (p ^ j))), (15, .v (.int .i64 (min k 40))), (16, .v (.int .i64 j))]) ⟨0, by omega, by rw [Int.pow_zero]; omega, rfl, by rw [Int.pow_zero] <;> rfl⟩ ?_));clear hK;rintro m e ⟨j, hj, hpj, hm, rfl⟩;have hpos := za2 (p := p) (by omega) j;have hs : p ^ (j + 1) = p ^ j * p := Int.pow_succ ..;have hb : 0 <= p ^ j * p ∧ p ^ j * p <= 1000000000 * 97 := ⟨Int.mul_nonneg (by omega) (by omega), Int.mul_le_mul hpj (by omega) (by omega) (by omega)⟩
 refine wrs λK hK => ?_;conv=>whnf
 refine hK _ ?_;clear hK;refine W.seqK λK7 hK7 => W.cond ⟨λh2 => ?_, λh2 => ?_⟩ <;> (first | replace h2 := of_decide_eq_true h2 | replace h2 := of_decide_eq_false h2)
 ·refine W.skip (hK7 _ ?_);clear hK7;refine W.seqK λK8 hK8 => W.block ?_;refine wrs λK hK => ?_;conv=>whnf
  refine ⟨oo, ?_⟩;conv=>whnf
  refine hK _ (wrs λK hK => ?_);conv=>whnf
  refine hK _ (W.cond ⟨λh3 => ?_, λh3 => ?_⟩) <;> clear hK
  ·have h3 : 1000000000 < p ^ j * p := of_decide_eq_true h3;have h4 := jS (p := p) (by omega) (a := j + 1) (b := k.toNat) (by omega);refine wrs λK hK => ?_;conv=>whnf
   refine hK _ (W.ret ?_);conv=>whnf
   exact ⟨.v (.bool (bP (xQ p k))), zf λh' => by have := h'.2.2; omega, trivial, rfl⟩
  ·have h3 : ¬ 1000000000 < p ^ j * p := of_decide_eq_false h3;refine W.skip (hK8 _ ?_);clear hK8;refine wrg ?_;conv=>whnf
   refine ⟨oo, ?_⟩;conv=>whnf
   refine ⟨_, _, ⟨j + 1, by omega, by omega, rfl, rfl⟩, by omega, by dsimp only; omega, ?_⟩;rw [hs];exact cvr
 ·have h4 := zoJ (by omega) hpj;have h5 : k.toNat = j := by omega
  refine W.exit (hK1 _ ?_);clear hK7 hK1;refine wrs λK hK => ?_;conv=>whnf
  refine hK _ (W.ret ?_);conv=>whnf
  exact ⟨.v (.bool (bP (xQ p k))), zj ⟨h, by omega, by rw [h5]; exact hpj⟩, trivial, rfl⟩

def zdP (p : Int) (n : Nat) : Int := if p ^ n <= 1000000000 then p ^ n else 0
theorem vO (p : Int) (n : Nat) (h2 : 2 <= p) (h97 : p <= 97) (hn : n <= 1000000) : FnV 138 [.int .i64 p, .int .i64 n] (.int .i64 (zdP p n)) := by
 refine ze (za [0, 1, 4, 5, 7, 14]) Tryz.func138 rfl (by decide) Tryz.ntmps138 (lb rfl) λbase => ?_;refine wrs λK hK => ?_;conv=>whnf
 refine hK _ (wrs λK hK => ?_);conv=>whnf
 refine hK _ ?_;clear hK;refine W.seqK λK1 hK1 => W.block (W.invA (λm e => ∃ k : Nat, k <= n ∧ p ^ k <= 1000000000 ∧ m = n - k ∧ e = [(0, .v (.int .i64 p)), (1, .v (.int .i64 ((n - k : Nat) : Int))), (5, .v (.int .i64 (p ^ k)))]) ⟨0, Nat.zero_le _, by rw [Int.pow_zero]; omega, rfl, by rw [Int.pow_zero] <;> rfl⟩ ?_);rintro m e ⟨k, h1, h3, hm, rfl⟩;have hpos := za2 (p := p) (by omega) k;have hs : p ^ (k + 1) = p ^ k * p := Int.pow_succ ..;have hb : 0 <= p ^ k * p ∧ p ^ k * p <= 1000000000 * 97 := ⟨Int.mul_nonneg (by omega) (by omega), Int.mul_le_mul h3 (by omega) (by omega) (by omega)⟩
 refine W.seqK λK7 hK7 => wrs λK hK => ?_;conv=>whnf
 refine hK _ (W.cond ⟨λh5 => ?_, λh5 => ?_⟩) <;> clear hK <;> (first | replace h5 := of_decide_eq_true h5 | replace h5 := of_decide_eq_false h5)
 ·refine W.skip (hK7 _ ?_);clear hK7;refine W.seqK λK8 hK8 => W.block ?_;refine wrs λK hK => ?_;conv=>whnf
  refine ⟨oo, ?_⟩;conv=>whnf
  refine hK _ (wrs λK hK => ?_);conv=>whnf
  refine hK _ (W.cond ⟨λh6 => ?_, λh6 => ?_⟩) <;> clear hK
  ·have h6 : 1000000000 < p ^ k * p := of_decide_eq_true h6;have h7 := jS (p := p) (by omega) (a := k + 1) (b := n) (by omega);refine wrs λK hK => ?_;conv=>whnf
   refine hK _ (W.ret ?_);conv=>whnf
   exact ⟨.v (.int .i64 (zdP p n)), ⟨rfl, by unfold zdP; rw [if_neg (by omega)]⟩, trivial, rfl⟩
  ·have h6 : ¬ 1000000000 < p ^ k * p := of_decide_eq_false h6;refine W.skip (hK8 _ ?_);clear hK8;refine wrg ?_;conv=>whnf
   refine ⟨oo, ?_⟩;conv=>whnf
   refine ⟨_, _, ⟨k + 1, by omega, by omega, rfl, rfl⟩, by omega, by dsimp only; omega, ?_⟩;rw [hs];exact cvr
 ·obtain rfl : k = n := by omega
  refine W.exit (hK1 _ ?_);clear hK7 hK1;refine wrs λK hK => ?_;conv=>whnf
  refine hK _ (W.ret ?_);conv=>whnf
  exact ⟨.v (.int .i64 (zdP p k)), ⟨rfl, by unfold zdP; rw [if_pos h3]⟩, trivial, rfl⟩

theorem zfF (p k : Int) : FnV 187 [vR p k] (.bool (bP (xQ p k))) := by
 by_cases h : isP p = true
 case neg =>
  refine ze (za [0, 1, 2]) Tryz.func187 rfl (by decide) Tryz.ntmps187 (lb rfl) λbase => ?_;refine wrs λK hK => ?_;conv=>whnf
  refine ⟨rfl, ?_⟩;conv=>whnf
  intro b_1 hs_1 hh_1 hf_1;try dsimp only at hh_1 hf_1
  conv=>whnf
  refine hK _ (wrs λK hK => ?_);conv=>whnf
  refine zb rfl (vW p) λhs' hhs => ?_;try dsimp only at hhs
  conv=>whnf
  refine ⟨λh1 => ?_, λh1 => ?_⟩ <;> conv=>whnf
  ·exact absurd h1 h
  refine hK _ (W.ret ?_);conv=>whnf
  exact ⟨.v (.bool (bP (xQ p k))), zf λh' => h h'.1, trivial, rfl⟩
 have hp := zaj h
 by_cases hk : 1 <= k ∧ k <= 40
 case neg =>
  have hn : ¬ xQ p k := λh' => by have := h'.small; omega
  refine ze (za [0, 1, 2]) Tryz.func187 rfl (by decide) Tryz.ntmps187 (lb rfl) λbase => ?_;refine wrs λK hK => ?_;conv=>whnf
  refine ⟨rfl, ?_⟩;conv=>whnf
  intro b_1 hs_1 hh_1 hf_1;try dsimp only at hh_1 hf_1
  conv=>whnf
  refine hK _ (wrs λK hK => ?_);conv=>whnf
  refine zb rfl (vW p) λhs' hhs => ?_;try dsimp only at hhs
  conv=>whnf
  refine ⟨λh1 => ?_, λh1 => ?_⟩ <;> conv=>whnf
  ·refine zb rfl ((kQ k 1 40).fa (decide_eq_false hk)) λhs' hhs => ?_;try dsimp only at hhs
   conv=>whnf
   refine hK _ (W.ret ?_);conv=>whnf
   exact ⟨.v (.bool (bP (xQ p k))), zf hn, trivial, rfl⟩
  ·exact absurd h (by rw [h1]; decide)
 obtain ⟨n, rfl⟩ : ∃ n : Nat, k = n := ⟨k.toNat, by omega⟩
 have hpos := za2 (p := p) (by omega) n
 have e1 : decide (0 < zdP p n) = bP (xQ p n) := by
  unfold zdP
  by_cases h3 : p ^ n <= 1000000000
  ·rw [if_pos h3, zj ⟨h, hk.1, by rw [Int.toNat_natCast]; exact h3⟩]; exact decide_eq_true (by omega)
  ·rw [if_neg h3, zf λh' => h3 (by have := h'.2.2; rwa [Int.toNat_natCast] at this)]; decide
 refine ze (za [0, 1, 2]) Tryz.func187 rfl (by decide) Tryz.ntmps187 (lb rfl) λbase => ?_;refine wrs λK hK => ?_;conv=>whnf
 refine ⟨rfl, ?_⟩;conv=>whnf
 intro b_1 hs_1 hh_1 hf_1;try dsimp only at hh_1 hf_1
 conv=>whnf
 refine hK _ (wrs λK hK => ?_);conv=>whnf
 refine zb rfl (vW p) λhs' hhs => ?_;try dsimp only at hhs
 conv=>whnf
 refine ⟨λh1 => ?_, λh1 => ?_⟩ <;> conv=>whnf
 ·refine zb rfl ((kQ (n : Nat) 1 40).tr (decide_eq_true hk)) λhs' hhs => ?_;try dsimp only at hhs
  conv=>whnf
  refine zb rfl (vO p n (by omega) (by omega) (by omega)) λhs' hhs => ?_;try dsimp only at hhs
  conv=>whnf
  refine hK _ (W.ret ?_);conv=>whnf
  exact ⟨.v (.bool (bP (xQ p n))), e1, trivial, rfl⟩
 ·exact absurd h (by rw [h1]; decide)

theorem zfG (p k : Int) (h : xQ p k) : FnV 69 [vR p k] (.int .i64 (p ^ k.toNat)) := by
 obtain ⟨h1, h2, h3, h4, h5, h6⟩ := h.small;obtain ⟨n, rfl⟩ : ∃ n : Nat, k = n := ⟨k.toNat, by omega⟩
 rw [Int.toNat_natCast] at *;refine ze (za [0, 1, 2]) Tryz.func69 rfl (by decide) Tryz.ntmps69 (lb rfl) λbase => ?_;refine wrs λK hK => ?_;conv=>whnf
 refine ⟨rfl, ?_⟩;conv=>whnf
 intro b_1 hs_1 hh_1 hf_1;try dsimp only at hh_1 hf_1
 conv=>whnf
 refine hK _ (wrs λK hK => ?_);conv=>whnf
 refine zb rfl (zfo p n (λj hj => by have := jS (p := p) (by omega) hj; have := za2 (p := p) (by omega) j; constructor <;> omega) (by omega)) λhs' hhs => ?_;try dsimp only at hhs
 conv=>whnf
 refine hK _ (W.ret ?_);conv=>whnf
 exact ⟨.v (.int .i64 (p ^ n)), ⟨rfl, rfl⟩, trivial, rfl⟩
theorem zjx (p k c : Int) (h : xQ p k) : FnV 149 [vR p k, .int .i64 c] (.bool (decide (0 <= c ∧ c <= p ^ k.toNat - 1))) := by
 obtain ⟨h1, h2, h3, h4, h5, h6⟩ := h.small;refine ze (za [0, 1, 2, 4]) Tryz.func149 rfl (by decide) Tryz.ntmps149 (lb rfl) λbase => ?_;refine wrs λK hK => ?_;conv=>whnf
 refine ⟨rfl, ?_⟩;conv=>whnf
 intro b_1 hs_1 hh_1 hf_1;try dsimp only at hh_1 hf_1
 conv=>whnf
 refine hK _ (wrs λK hK => ?_);conv=>whnf
 refine zb rfl (zfG p k h) λhs' hhs => ?_;try dsimp only at hhs
 conv=>whnf
 refine ⟨oo, ?_⟩;conv=>whnf
 refine zb rfl (zbl _ _ _) λhs' hhs => ?_;try dsimp only at hhs
 conv=>whnf
 refine hK _ (W.ret ?_);conv=>whnf
 exact ⟨.v (.bool (decide (0 <= c ∧ c <= p ^ k.toNat - 1))), rfl, trivial, rfl⟩
theorem zoK (p k c : Int) (g : Option Nat) (h : xQ p k) : FnV 148 [.int .i64 c, .box g (vR p k)] (.bool (!(decide (0 <= c ∧ c <= p ^ k.toNat - 1)))) := by
 refine ze (za [0, 1, 3]) Tryz.func148 rfl (by decide) Tryz.ntmps148 (lb rfl) λbase => ?_;refine wrs λK hK => ?_;conv=>whnf
 refine hK _ (wrs λK hK => ?_);conv=>whnf
 refine zb rfl (zjx p k c h) λhs' hhs => ?_;try dsimp only at hhs
 conv=>whnf
 refine hK _ (W.ret ?_);conv=>whnf
 exact ⟨.v (.bool (!(decide (0 <= c ∧ c <= p ^ k.toNat - 1)))), rfl, trivial, rfl⟩

def xV (p k : Int) (xs : List Int) : Prop := xQ p k ∧ xs.length <= 9 ∧ zf6 0 (p ^ k.toNat - 1) xs ∧ zlD xs

theorem xU (p k : Int) (g : Option Nat) (xs : List Int) (hl : xs.length <= 1000000000) : FnV 87 [vR p k, .ints g xs] (.bool (bP (xV p k xs))) := by
 by_cases hr : xQ p k
 case neg =>
  refine ze (za [0, 1, 2, 4, 17]) Tryz.func87 rfl (by decide) Tryz.ntmps87 (lb rfl) λbase => ?_;refine wrs λK hK => ?_;conv=>whnf
  refine ⟨rfl, ?_⟩;conv=>whnf
  intro b_1 hs_1 hh_1 hf_1;try dsimp only at hh_1 hf_1
  conv=>whnf
  refine hK _ (W.seqK λK1 hK1 => wrs λK hK => ?_);conv=>whnf
  refine zb rfl ((zgP p k).fa (zf hr)) λhs' hhs => ?_;try dsimp only at hhs
  conv=>whnf
  refine hK _ (W.condT rfl ?_);clear hK;refine wrs λK hK => ?_;conv=>whnf
  refine hK _ (W.ret ?_);conv=>whnf
  exact ⟨.v (.bool (bP (xV p k xs))), zf λh => hr h.1, trivial, rfl⟩
 have hs := hr.small;refine ze (za [0, 1, 2, 4, 17]) Tryz.func87 rfl (by decide) Tryz.ntmps87 (lb rfl) λbase => ?_;refine wrs λK hK => ?_;conv=>whnf
 refine ⟨rfl, ?_⟩;conv=>whnf
 intro b_1 hs_1 hh_1 hf_1;try dsimp only at hh_1 hf_1
 conv=>whnf
 refine hK _ (W.seqK λK1 hK1 => wrs λK hK => ?_);conv=>whnf
 refine zb rfl ((zgP p k).tr (zj hr)) λhs' hhs => ?_;try dsimp only at hhs
 conv=>whnf
 refine ⟨λh0 => ?_, λh0 => ?_⟩ <;> conv=>whnf
 ·have h0 := of_decide_eq_true h0;refine hK _ (W.condT rfl ?_);clear hK;refine wrs λK hK => ?_;conv=>whnf
  refine hK _ (W.ret ?_);conv=>whnf
  exact ⟨.v (.bool (bP (xV p k xs))), zf λh => by have := h.2.1; omega, trivial, rfl⟩
 have h0 := of_decide_eq_false h0;refine zb rfl (zat g xs 148 [.box none (vR p k)] (λi => !(decide (0 <= cf xs i ∧ cf xs i <= p ^ k.toNat - 1))) (by omega) (λi hi => zoK p k _ none hr)) λhs' hhs => ?_;try dsimp only at hhs
 conv=>whnf
 refine hK _ (W.cond ⟨λh1 => ?_, λh1 => ?_⟩) <;> clear hK
 ·have h1 := zd5.1 (zdf.1 h1);refine wrs λK hK => ?_;conv=>whnf
  refine hK _ (W.ret ?_);conv=>whnf
  exact ⟨.v (.bool (bP (xV p k xs))), zf λh => h1 h.2.2.1, trivial, rfl⟩
 have h1 : zf6 0 (p ^ k.toNat - 1) xs := Classical.byContradiction λh' => zkC h1 (zd5.2 h');refine W.skip (hK1 _ ?_);clear hK1;refine wrs λK hK => ?_;conv=>whnf
 refine ⟨λh2 => ?_, λh2 => ?_⟩ <;> conv=>whnf
 ·have h2 := of_decide_eq_true h2;refine hK _ (W.ret ?_);conv=>whnf
  exact ⟨.v (.bool (bP (xV p k xs))), (by show bP _ = true; exact zj ⟨hr, by omega, h1, .inl (by omega)⟩), trivial, rfl⟩
 ·have h2 := of_decide_eq_false h2;have e1 : ((xs.length : Int) - 1).toNat = xs.length - 1 := by omega
  refine ⟨oo, ?_⟩;conv=>whnf
  refine ⟨oo, ?_⟩;conv=>whnf
  rw [e1];refine hK _ (W.ret ?_);conv=>whnf
  refine ⟨.v (.bool (bP (xV p k xs))), ?_, trivial, rfl⟩;show decide (cf xs (xs.length - 1) ≠ 0) = bP (xV p k xs)
  by_cases hc : cf xs (xs.length - 1) ≠ 0
  ·rw [decide_eq_true hc, zj ⟨hr, by omega, h1, .inr hc⟩]
  ·rw [decide_eq_false hc, zf λh => h.2.2.2.elim (λh3 => h2 (by omega)) hc]

theorem vo (p k : Int) (g : Option Nat) (xs : List Int) (hl : xs.length <= 1000000000) : FnV 144 [vR p k, .ints g xs] (.bool (bP (xV p k xs))) := by
 by_cases hr : xQ p k
 case neg =>
  refine ze (za [0, 1, 2, 4, 5, 6, 14, 23, 33]) Tryz.func144 rfl (by decide) Tryz.ntmps144 (lb rfl) λbase => ?_;refine wrs λK hK => ?_;conv=>whnf
  refine ⟨rfl, ?_⟩;conv=>whnf
  intro b_1 hs_1 hh_1 hf_1;try dsimp only at hh_1 hf_1
  conv=>whnf
  refine hK _ (W.seqK λK1 hK1 => wrs λK hK => ?_);conv=>whnf
  refine zb rfl ((zfF p k).fa (zf hr)) λhs' hhs => ?_;try dsimp only at hhs
  conv=>whnf
  refine hK _ (W.condT rfl ?_);clear hK;refine wrs λK hK => ?_;conv=>whnf
  refine hK _ (W.ret ?_);conv=>whnf
  exact ⟨.v (.bool (bP (xV p k xs))), zf λh => hr h.1, trivial, rfl⟩
 obtain ⟨s1, s2, s3, s4, s5, s6⟩ := hr.small;obtain ⟨n, rfl⟩ : ∃ n : Nat, k = n := ⟨k.toNat, by omega⟩
 rw [Int.toNat_natCast] at s5 s6;have hmS : zdP p n = p ^ n := if_pos s6;have hR : ∀ {a : Prop}, (xV p n xs ↔ xQ p n ∧ xs.length <= 9 ∧ zf6 0 (p ^ n - 1) xs ∧ zlD xs) := λ{_} => by unfold xV; rw [Int.toNat_natCast]
 have hR := @hR True;refine ze (za [0, 1, 2, 4, 5, 6, 14, 23, 33]) Tryz.func144 rfl (by decide) Tryz.ntmps144 (lb rfl) λbase => ?_;refine wrs λK hK => ?_;conv=>whnf
 refine ⟨rfl, ?_⟩;conv=>whnf
 intro b_1 hs_1 hh_1 hf_1;try dsimp only at hh_1 hf_1
 conv=>whnf
 refine hK _ (W.seqK λK1 hK1 => wrs λK hK => ?_);conv=>whnf
 refine zb rfl ((zfF p n).tr (zj hr)) λhs' hhs => ?_;try dsimp only at hhs
 conv=>whnf
 refine hK _ (W.cond ⟨λh0 => ?_, λh0 => ?_⟩) <;> clear hK
 ·have h0 := of_decide_eq_true h0;refine wrs λK hK => ?_;conv=>whnf
  refine hK _ (W.ret ?_);conv=>whnf
  exact ⟨.v (.bool (bP (xV p n xs))), zf λh => by have := h.2.1; omega, trivial, rfl⟩
 have h0 := of_decide_eq_false h0;refine W.skip (hK1 _ ?_);clear hK1;refine wrs λK hK => ?_;conv=>whnf
 refine zb rfl (vO p n (by omega) (by omega) (by omega)) λhs' hhs => ?_;try dsimp only at hhs
 conv=>whnf
 rw [hmS];refine hK _ (W.seqK λK1 hK1 => wrs λK hK => ?_);conv=>whnf
 refine hK _ (W.block (W.invA (λm e => ∃ i : Nat, i <= xs.length ∧ (∀ j, j < i -> 0 <= cf xs j ∧ cf xs j <= p ^ n - 1) ∧ m = xs.length - i ∧ e = [(1, .v (.ints g xs)), (5, .v (.int .i64 (p ^ n))), (6, .v (.int .i64 i))]) ⟨0, Nat.zero_le _, λj hj => by omega, rfl, rfl⟩ ?_));clear hK;rintro m e ⟨i, hi, h1, hm, rfl⟩;refine W.seqK λK7 hK7 => wrs λK hK => ?_;conv=>whnf
 refine hK _ (W.cond ⟨λh2 => ?_, λh2 => ?_⟩) <;> clear hK <;> (first | replace h2 := of_decide_eq_true h2 | replace h2 := of_decide_eq_false h2)
 ·refine W.skip (hK7 _ ?_);clear hK7;refine W.seqK λK8 hK8 => W.block ?_;refine wrs λK hK => ?_;conv=>whnf
  refine ⟨oo, ?_⟩;conv=>whnf
  rw [Int.toNat_natCast];refine ⟨oo, ?_⟩;conv=>whnf
  refine zb rfl (kQ _ _ _) λhs' hhs => ?_;try dsimp only at hhs
  conv=>whnf
  refine hK _ (W.cond ⟨λh3 => ?_, λh3 => ?_⟩) <;> clear hK
  ·have h3 : ¬ (0 <= cf xs i ∧ cf xs i <= p ^ n - 1) := zhM h3;refine wrs λK hK => ?_;conv=>whnf
   refine hK _ (W.ret ?_);conv=>whnf
   exact ⟨.v (.bool (bP (xV p n xs))), zf λh => h3 ((hR.1 h).2.2.1 i (by omega)), trivial, rfl⟩
  ·have h3 : 0 <= cf xs i ∧ cf xs i <= p ^ n - 1 := zfw h3;refine W.skip (hK8 _ ?_);clear hK8;refine wrg ?_;conv=>whnf
   refine ⟨oo, ?_⟩;conv=>whnf
   exact zk ⟨i + 1, by omega, λj hj => by by_cases h9 : j = i; (subst h9; exact h3); exact h1 j (by omega), rfl, rfl⟩
 ·obtain rfl : i = xs.length := by omega
  have h1 : zf6 0 (p ^ n - 1) xs := h1;refine W.exit (hK1 _ ?_);clear hK7 hK1;refine wrs λK hK => ?_;conv=>whnf
  refine ⟨λh2 => ?_, λh2 => ?_⟩ <;> conv=>whnf
  ·have h2 := of_decide_eq_true h2;refine hK _ (W.ret ?_);conv=>whnf
   exact ⟨.v (.bool (bP (xV p n xs))), (by show bP _ = true; exact zj (hR.2 ⟨hr, by omega, h1, .inl (by omega)⟩)), trivial, rfl⟩
  ·have h2 := of_decide_eq_false h2;have e1 : ((xs.length : Int) - 1).toNat = xs.length - 1 := by omega
   refine ⟨oo, ?_⟩;conv=>whnf
   refine ⟨oo, ?_⟩;conv=>whnf
   rw [e1];refine hK _ (W.ret ?_);conv=>whnf
   refine ⟨.v (.bool (bP (xV p n xs))), ?_, trivial, rfl⟩;show decide (cf xs (xs.length - 1) ≠ 0) = bP (xV p n xs)
   by_cases hc : cf xs (xs.length - 1) ≠ 0
   ·rw [decide_eq_true hc, zj (hR.2 ⟨hr, by omega, h1, .inr hc⟩)]
   ·rw [decide_eq_false hc, zf λh => (hR.1 h).2.2.2.elim (λh3 => h2 (by omega)) hc]

/- extensions -/
theorem zbA {p k : Int} {l : List Int} (h : xV p k l) : Bd 1000000000 l := λj => by
 have hs := h.1.small
 by_cases hj : j < l.length
 ·have := h.2.2.1 j hj; omega
 ·rw [zT (by omega)]; omega
theorem zfH (p k : Int) (g : Option Nat) (l : List Int) (h : xV p k l) : FnV 80 [vE p k g l] (vK p none (nrm p l)) := by
 have hs := h.1.small;have h9 := h.2.1;refine ze (za [0, 1, 2]) Tryz.func80 rfl (by decide) Tryz.ntmps80 (lb rfl) λbase => ?_;refine wrs λK hK => ?_;conv=>whnf
 refine ⟨rfl, ?_⟩;conv=>whnf
 intro b_1 hs_1 hh_1 hf_1;try dsimp only at hh_1 hf_1
 conv=>whnf
 intro b_2 hs_2 hh_2 hf_2;try dsimp only at hh_2 hf_2
 conv=>whnf
 refine hK _ ?_;clear hK;refine W.rdS 9 (za _) follows (by rfl) λK hK => ?_;conv=>whnf
 refine ⟨_, cxF ((zG p (by omega) (by omega) g l ((zbA h).le (by omega)) (by omega)).toV), ?_⟩;conv=>whnf
 refine ⟨s23, ?_⟩;conv=>whnf
 refine hK _ (W.ret ?_);conv=>whnf
 exact ⟨⟨trivial, trivial, trivial⟩, rfl⟩
theorem kg (p k : Int) (g : Option Nat) (l : List Int) (h : xV p k l) : FnV 85 [vE p k g l] (vK p none (nrm p l)) := by
 have hs := h.1.small;have h9 := h.2.1;refine ze (za [0, 1, 2]) Tryz.func85 rfl (by decide) Tryz.ntmps85 (lb rfl) λbase => ?_;refine wrs λK hK => ?_;conv=>whnf
 refine ⟨rfl, ?_⟩;conv=>whnf
 intro b_1 hs_1 hh_1 hf_1;try dsimp only at hh_1 hf_1
 conv=>whnf
 intro b_2 hs_2 hh_2 hf_2;try dsimp only at hh_2 hf_2
 conv=>whnf
 refine hK _ ?_;clear hK;refine W.rdS 9 (za _) follows (by rfl) λK hK => ?_;conv=>whnf
 refine ⟨_, cxF ((xt p (by omega) (by omega) g l ((zbA h).le (by omega)) (by omega)).toV), ?_⟩;conv=>whnf
 refine ⟨s23, ?_⟩;conv=>whnf
 refine hK _ (W.ret ?_);conv=>whnf
 exact ⟨⟨trivial, trivial, trivial⟩, rfl⟩

def kU (p k : Int) (l : List Int) : Prop := xV p k l ∧ jh l ∧ IsFld p (nrm p l)

theorem za3 (p k : Int) (g : Option Nat) (l : List Int) (hl : l.length <= 1000000000) : FnV 55 [vE p k g l] (.bool (bP (kU p k l))) := by
 by_cases h1 : xV p k l
 case neg =>
  refine ze (za [0, 1, 2]) Tryz.func55 rfl (by decide) Tryz.ntmps55 (lb rfl) λbase => ?_;refine wrs λK hK => ?_;conv=>whnf
  refine ⟨rfl, ?_⟩;conv=>whnf
  intro b_1 hs_1 hh_1 hf_1;try dsimp only at hh_1 hf_1
  conv=>whnf
  refine hK _ (wrs λK hK => ?_);conv=>whnf
  refine ⟨by show 0 + 2 <= 3; omega, ?_⟩;conv=>whnf
  refine zb rfl ((xU p k g l hl).fa (zf h1)) λhs' hhs => ?_;try dsimp only at hhs
  conv=>whnf
  refine hK _ (W.ret ?_);conv=>whnf
  exact ⟨.v (.bool (bP (kU p k l))), zf λh => h1 h.1, trivial, rfl⟩
 by_cases h2 : jh l
 case neg =>
  refine ze (za [0, 1, 2]) Tryz.func55 rfl (by decide) Tryz.ntmps55 (lb rfl) λbase => ?_;refine wrs λK hK => ?_;conv=>whnf
  refine ⟨rfl, ?_⟩;conv=>whnf
  intro b_1 hs_1 hh_1 hf_1;try dsimp only at hh_1 hf_1
  conv=>whnf
  refine hK _ (wrs λK hK => ?_);conv=>whnf
  refine ⟨by show 0 + 2 <= 3; omega, ?_⟩;conv=>whnf
  refine zb rfl ((xU p k g l hl).tr (zj h1)) λhs' hhs => ?_;try dsimp only at hhs
  conv=>whnf
  refine zb rfl ((zak g l hl).fa (zf h2)) λhs' hhs => ?_;try dsimp only at hhs
  conv=>whnf
  refine hK _ (W.ret ?_);conv=>whnf
  exact ⟨.v (.bool (bP (kU p k l))), zf λh => h2 h.2.1, trivial, rfl⟩
 have hnl : (nrm p l).length <= l.length := by
  have h3 := zW (l.map (· % p));rw [List.length_map] at h3; exact h3
 refine ze (za [0, 1, 2]) Tryz.func55 rfl (by decide) Tryz.ntmps55 (lb rfl) λbase => ?_;refine wrs λK hK => ?_;conv=>whnf
 refine ⟨rfl, ?_⟩;conv=>whnf
 intro b_1 hs_1 hh_1 hf_1;try dsimp only at hh_1 hf_1
 conv=>whnf
 refine hK _ (wrs λK hK => ?_);conv=>whnf
 refine ⟨by show 0 + 2 <= 3; omega, ?_⟩;conv=>whnf
 refine zb rfl ((xU p k g l hl).tr (zj h1)) λhs' hhs => ?_;try dsimp only at hhs
 conv=>whnf
 refine zb rfl ((zak g l hl).tr (zj h2)) λhs' hhs => ?_;try dsimp only at hhs
 conv=>whnf
 refine zb rfl (zfH p k g l h1) λhs' hhs => ?_;try dsimp only at hhs
 conv=>whnf
 refine zb rfl (zbY p none (nrm p l) (by omega)) λhs' hhs => ?_;try dsimp only at hhs
 conv=>whnf
 refine hK _ (W.ret ?_);conv=>whnf
 exact ⟨.v (.bool (bP (kU p k l))), zcF ⟨λh => ⟨h1, h2, h⟩, λh => h.2.2⟩, trivial, rfl⟩
theorem yn (p k : Int) (g : Option Nat) (l : List Int) (hl : l.length <= 1000000000) : FnV 86 [vE p k g l] (.bool (bP (kU p k l))) := by
 by_cases h1 : xV p k l
 case neg =>
  refine ze (za [0, 1, 2]) Tryz.func86 rfl (by decide) Tryz.ntmps86 (lb rfl) λbase => ?_;refine wrs λK hK => ?_;conv=>whnf
  refine ⟨rfl, ?_⟩;conv=>whnf
  intro b_1 hs_1 hh_1 hf_1;try dsimp only at hh_1 hf_1
  conv=>whnf
  refine hK _ (wrs λK hK => ?_);conv=>whnf
  refine ⟨by show 0 + 2 <= 3; omega, ?_⟩;conv=>whnf
  refine zb rfl ((vo p k g l hl).fa (zf h1)) λhs' hhs => ?_;try dsimp only at hhs
  conv=>whnf
  refine hK _ (W.ret ?_);conv=>whnf
  exact ⟨.v (.bool (bP (kU p k l))), zf λh => h1 h.1, trivial, rfl⟩
 by_cases h2 : jh l
 case neg =>
  refine ze (za [0, 1, 2]) Tryz.func86 rfl (by decide) Tryz.ntmps86 (lb rfl) λbase => ?_;refine wrs λK hK => ?_;conv=>whnf
  refine ⟨rfl, ?_⟩;conv=>whnf
  intro b_1 hs_1 hh_1 hf_1;try dsimp only at hh_1 hf_1
  conv=>whnf
  refine hK _ (wrs λK hK => ?_);conv=>whnf
  refine ⟨by show 0 + 2 <= 3; omega, ?_⟩;conv=>whnf
  refine zb rfl ((vo p k g l hl).tr (zj h1)) λhs' hhs => ?_;try dsimp only at hhs
  conv=>whnf
  refine zb rfl ((ke g l hl).fa (zf h2)) λhs' hhs => ?_;try dsimp only at hhs
  conv=>whnf
  refine hK _ (W.ret ?_);conv=>whnf
  exact ⟨.v (.bool (bP (kU p k l))), zf λh => h2 h.2.1, trivial, rfl⟩
 have hnl : (nrm p l).length <= l.length := by
  have h3 := zW (l.map (· % p));rw [List.length_map] at h3; exact h3
 refine ze (za [0, 1, 2]) Tryz.func86 rfl (by decide) Tryz.ntmps86 (lb rfl) λbase => ?_;refine wrs λK hK => ?_;conv=>whnf
 refine ⟨rfl, ?_⟩;conv=>whnf
 intro b_1 hs_1 hh_1 hf_1;try dsimp only at hh_1 hf_1
 conv=>whnf
 refine hK _ (wrs λK hK => ?_);conv=>whnf
 refine ⟨by show 0 + 2 <= 3; omega, ?_⟩;conv=>whnf
 refine zb rfl ((vo p k g l hl).tr (zj h1)) λhs' hhs => ?_;try dsimp only at hhs
 conv=>whnf
 refine zb rfl ((ke g l hl).tr (zj h2)) λhs' hhs => ?_;try dsimp only at hhs
 conv=>whnf
 refine zb rfl (kg p k g l h1) λhs' hhs => ?_;try dsimp only at hhs
 conv=>whnf
 refine zb rfl (zjr p none (nrm p l) (by omega)) λhs' hhs => ?_;try dsimp only at hhs
 conv=>whnf
 refine hK _ (W.ret ?_);conv=>whnf
 exact ⟨.v (.bool (bP (kU p k l))), zcF ⟨λh => ⟨h1, h2, h⟩, λh => h.2.2⟩, trivial, rfl⟩


theorem R1.V {f : Nat} {xs : List V} {l : List Int} (h : FnT Tryz.prog f xs (R1 l)) : FnV f xs (.ints none l) :=
 h.toV λ_ _ _ _ ⟨_, hx, hb⟩ => by subst hx; exact ⟨l, rfl, hb, rfl⟩

structure ExtP (p k M : Int) [SP p] [Pos M] (f : Poly M) (n : Nat) : Prop where
 rn : xV p k f.l
 hm : p ^ k.toNat = M
 mn : Mn f n
 n1 : 1 <= n
 n8 : n <= 8
 fld : IsFld p (im p f).l
 irr : Irr (im p f)
 pm : p ∣ M
 ple : p <= M
 m2 : 2 <= M
 m9 : M <= 1000000000

theorem jo {p k M : Int} [Pos M] (hm : p ^ k.toNat = M) {x : List Int} (h : xV p k x) : ∃ X : Poly M, X.l = x := by
 refine ⟨⟨x, ⟨λc hx => ?_, λn hn => ?_⟩⟩, rfl⟩
 ·obtain ⟨i, hi, rfl⟩ := List.getElem_of_mem hx;have h1 := h.2.2.1 i hi;rw [yK hi, hm] at h1; omega
 ·rcases h.2.2.2 with h0 | h0
  ·omega
  ·rw [hn] at h0; exact h0

theorem kh {p k : Int} {l : List Int} (h : kU p k l) : ∃ hp : p ∈ zY, letI := yL hp; ∃ (M : Int) (_ : Pos M) (f : Poly M) (n : Nat), f.l = l ∧ ExtP p k M f n := by
 obtain ⟨hr, hmon, hf⟩ := h;obtain ⟨s1, s2, s3, s4, s5, s6⟩ := hr.1.small;have hp : p ∈ zY := of_decide_eq_true hr.1.1;refine ⟨hp, ?_⟩;letI := yL hp;obtain ⟨M, hm⟩ : ∃ M, p ^ k.toNat = M := ⟨_, rfl⟩
 rw [hm] at s5 s6;letI : Pos M := ⟨by omega⟩
 obtain ⟨f, rfl⟩ := jo hm hr;have hfl : f.l.length = dg f := rfl;have h9 := hr.2.1;have h2 := hf.two;have hil : (im p f).l.length <= dg f := zbw f;have e1 : nrm p f.l = (im p f).l := rfl;rw [e1] at h2 hf;have h1 := hmon.1;have hpk : ∃ j, k.toNat = j + 1 := ⟨k.toNat - 1, by omega⟩
 obtain ⟨j, hj⟩ := hpk;have hpos := za2 (p := p) (by omega) j;refine ⟨M, ‹_›, f, dg f - 1, rfl, hr, hm, ⟨by omega, hmon.2⟩, by omega, by omega, hf, ?_, ⟨p ^ j, by rw [<- hm, hj, Int.pow_succ, Int.mul_comm]⟩, ?_, s5, s6⟩
 ·obtain ⟨hp', f', hf', hi, _⟩ := zoF hf;have e2 : f' = im p f := vq hf';rw [<- e2]; exact hi
 ·have := jS (p := p) (by omega) (a := 1) (b := k.toNat) (by omega);rw [Int.pow_one, hm] at this; exact this

section
variable {p k M : Int} [SP p] [Pos M] {f : Poly M} {n : Nat}

theorem kv (hm : M <= 1000000000) (X : Poly M) : Bd 999999999 X.l := λj => by have := jb X j; omega
theorem zpO (hm : M <= 1000000000) (X Y : Poly M) (hX : dg X <= 8) : Bd 9223372036854775807 (zu (v7 X.l Y.l)) := by
 refine Bd.trim λj => ?_;rw [zbg];have := znX (A := 999999999) (B := 999999999) (by omega) (by omega) (n := dg X) (cf X.l) (cf Y.l) (kv hm X) (λj hj => z5 hj) (kv hm Y) j;have h2 : (dg X : Int) * (999999999 * 999999999) <= 8 * (999999999 * 999999999) := Int.mul_le_mul_of_nonneg_right (by omega) (by omega);omega

theorem zK {p M : Int} (h : xQ p k) (hm : p ^ k.toNat = M) : FnV 69 [vR p k] (.int .i64 M) := (zfG p k h).mono (by rw [hm])
theorem zkH {p : Int} (h : xQ p k) (hm : p ^ k.toNat = M) (m9 : M <= 1000000000) (g g' : Option Nat) (X Y : Poly M) (hX : dg X <= 8) (hY : dg Y <= 8) : FnI 140 [vR p k, .ints g X.l, .ints g' Y.l] (X * Y).l := by
 have hp := Pos.pos (p := M);have hXl : X.l.length = dg X := rfl;have hYl : Y.l.length = dg Y := rfl;have hml : (v7 X.l Y.l).length <= 2000 := by rw [v7, zH]; omega
 have hml2 := zW (v7 X.l Y.l);refine ze (za [0, 1, 2, 3, 6]) Tryz.func140 rfl (by decide) Tryz.ntmps140 (lb rfl) λbase => ?_;refine wrs λK hK => ?_;conv=>whnf
 refine ⟨rfl, ?_⟩;conv=>whnf
 intro b_1 hs_1 hh_1 hf_1;try dsimp only at hh_1 hf_1
 conv=>whnf
 refine hK _ (wrs λK hK => ?_);conv=>whnf
 refine zb rfl (zK h hm) λhs' hhs => ?_;try dsimp only at hhs
 conv=>whnf
 refine zr rfl (zaZ g g' X.l Y.l 999999999 999999999 (by omega) (by omega) (kv m9 X) (kv m9 Y) (by rw [hXl]; omega) (by omega) (by omega)) λhs_2 b_2 hh_2 hf_2 => ?_;try dsimp only at hh_2 hf_2
 conv=>whnf
 refine zr rfl (zdw M (by omega) (by omega) (some b_2) (zu (v7 X.l Y.l)) (zpO m9 X Y hX) (by omega)) λhs_3 b_3 hh_3 hf_3 => ?_;try dsimp only at hh_3 hf_3
 conv=>whnf
 refine hK _ (W.ret ?_);conv=>whnf
 exact ⟨.ownI 2 _ ((X * Y).l), ⟨rfl, rfl, yE _ _⟩, trivial, _, rfl⟩

theorem zqF {a b : Int} (ha : 0 <= a ∧ a <= 999999999) (hb : 0 <= b ∧ b <= 999999999) : 0 <= a * b ∧ a * b <= 999999998000000001 :=
 ⟨Int.mul_nonneg ha.1 hb.1, by have := Int.mul_le_mul ha.2 hb.2 hb.1 (by omega : (0 : Int) <= 999999999); omega⟩

def RQ (q r : List Int) : kw := λ_ _ x tb => ∃ b0 b1 : Nat, x = .tup [.rf b0 q.length, .rf b1 r.length, .int .i64 0] ∧ (q ≠ [] -> tb b0 = some q) ∧ (r ≠ [] -> tb b1 = some r)

theorem zkI {p : Int} (h : xQ p k) (hm : p ^ k.toNat = M) (m9 : M <= 1000000000) (g g' : Option Nat) (F G : Poly M) (hF : dg F <= 1000) (hGn : Mn G n) (hn9 : n <= 1000) : FnT Tryz.prog 139 [vR p k, .ints g F.l, .ints g' G.l] (RQ (qtM F G).l (rdM F G).l) := by
 have hp := Pos.pos (p := M);have hFl : F.l.length = dg F := rfl;have hGl : G.l.length = dg G := rfl;have hG1 := hGn.1;have hmx : (max (0 : Int) ((dg F : Int) - dg G + 1)) = ((dg F + 1 - dg G : Nat) : Int) := by omega
 refine y6 (zg [] [0, 1, 2, 3, 6, 7, 8, 9, 10, 11, 12, 13, 28, 42, 43, 44, 45, 1000000]) Tryz.func139 rfl (by decide) Tryz.ntmps139 (lb rfl) (λbase => ?_) (lb rfl);refine W.sw (c' := cx [0, 1, 2, 3, 6, 7, 8, 9, 10, 11, 12, 13, 28, 42, 43, 44, 45, 1000000]) ?_;refine wrs λK hK => ?_;conv=>whnf
 refine ⟨rfl, ?_⟩;conv=>whnf
 intro b_1 hs_1 hh_1 hf_1;try dsimp only at hh_1 hf_1
 conv=>whnf
 refine hK _ (wrs λK hK => ?_);conv=>whnf
 refine zr rfl (zaY _ _ (by omega)) λhs_0 b_0 hh_0 hf_0 => ?_;try dsimp only at hh_0 hf_0
 conv=>whnf
 refine hK _ (wrs λK hK => ?_);conv=>whnf
 rw [hFl, hGl];refine ⟨oo, ?_⟩;conv=>whnf
 refine ⟨oo, ?_⟩;conv=>whnf
 rw [hmx];refine ⟨rfl, ?_⟩;conv=>whnf
 refine ⟨oo, ?_⟩;conv=>whnf
 generalize hnq : dg F + 1 - dg G = nq;rw [Int.toNat_natCast];intro b_q hs_q hh_q hf_q;try dsimp only at hh_q hf_q
 conv=>whnf
 refine hK _ (W.seqK λK1 hK1 => wrs λK hK => ?_);conv=>whnf
 rw [List.length_replicate];refine ⟨oo, ?_⟩;conv=>whnf
 refine hK _ (W.block (W.invA (λm e => ∃ (j b b' : Nat) (r q : List Int), j <= nq ∧ DivN M F G nq j r q ∧ m = j ∧ e = [(vt, .tab λ_ => none), (2, .v (.ints g' G.l)), (3, .ownB b_1 (vR p k)), (9, .ownI 2 b r), (10, .ownI 2 b' q), (11, .v (.int .i64 ((j : Int) - 1)))]) ⟨nq, b_0, b_q, F.l, List.replicate nq 0, Nat.le_refl _, DivN.start F G (by omega), rfl, rfl⟩ ?_));clear hK;rintro m e ⟨j', b, b', r, q, hk, hd, hme, rfl⟩;refine W.seqK λK7 hK7 => wrs λK hK => ?_;conv=>whnf
 refine hK _ (W.cond ⟨λh5 => ?_, λh5 => ?_⟩) <;> clear hK <;> (first | replace h5 := of_decide_eq_true h5 | replace h5 := of_decide_eq_false h5)
 ·refine W.skip (hK7 _ ?_);clear hK7;refine W.seqK λK8 hK8 => W.block ?_;obtain ⟨j, rfl⟩ : ∃ j, j' = j + 1 := ⟨j' - 1, by omega⟩
  have hrl := hd.rl;have hql := hd.ql;have e1 : (((j + 1 : Nat) : Int) - 1) = j := by omega
  have e2 : ((j : Int) + dg G - 1).toNat = j + dg G - 1 := by omega
  rw [e1];have h1 := hd.rr (j + dg G - 1);generalize hc : cf r (j + dg G - 1) = c at h1;have hc2 : r.getD (j + dg G - 1) 0 = c := hc;refine wrs λK hK => ?_;conv=>whnf
  rw [hGl];refine ⟨oo, ?_⟩;conv=>whnf
  refine ⟨oo, ?_⟩;conv=>whnf
  refine ⟨oo, ?_⟩;conv=>whnf
  rw [e2, hc2];refine ⟨oo, ?_⟩;conv=>whnf
  rw [Int.toNat_natCast];refine hK _ (wrs λK hK => ?_);conv=>whnf
  rw [hGl];refine hK _ (W.block (W.invE (λm e => ∃ (i b : Nat) (o : List Int), i <= dg G ∧ o.length = dg F ∧ (∀ x, cf o x = if j <= x ∧ x < j + i then (cf r x - c * cf G.l (x - j)) % M else cf r x) ∧ m = dg G - i ∧ e = [(vt, .tab λ_ => none), (2, .v (.ints g' G.l)), (3, .ownB b_1 (vR p k)), (9, .ownI 2 b o), (10, .ownI 2 b' (q.set j c)), (11, .v (.int .i64 j)), (42, .v (.ints g' G.l)), (43, .v (.int .i64 (dg G))), (44, .v (.int .i64 i))]) _ _ ⟨0, b, r, Nat.zero_le _, hrl, λx => by rw [if_neg (by omega)], rfl, rfl⟩ (by dsimp only; omega) (by repeat' first | refine And.intro ?_ ?_ | exact trivial | rfl | omega | assumption | exact λ_ _ h => h) ?_));clear hK b;rintro m' e ⟨i, b, o, h5, h6, h7, hm', rfl⟩;refine wrs λK hK => ?_;conv=>whnf
  refine hK _ ?_;clear hK;refine W.seqK λK7 hK7 => W.cond ⟨λh8 => ?_, λh8 => ?_⟩ <;> (first | replace h8 := of_decide_eq_true h8 | replace h8 := of_decide_eq_false h8)
  ·refine W.skip (hK7 _ ?_);clear hK7;refine W.seqK λK9 hK9 => W.block ?_;have h8 : i < dg G := by omega
   refine wrs λK hK => ?_;conv=>whnf
   refine ⟨oo, ?_⟩;conv=>whnf
   rw [Int.toNat_natCast];refine hK _ ?_;clear hK;obtain ⟨h9, h10⟩ := zaS (p := M) (c := c) (g := cf G.l) (r := r) (o := o) (k := j) (i := i) h6 (by omega) h7;have h11 := hd.rr (j + i);have h12 := jb G i;have h13 := zqF (a := c) (b := cf G.l i) (by omega) (by omega);have e4 : ((j : Int) + i).toNat = j + i := by omega
   have e5 : (q.set j c).getD j 0 = c := by
    have := z6 (l := q) (i := j) (by omega) c j;rw [if_pos rfl] at this; exact this
   refine W.draw (za _) follows (by rfl) ?_;conv=>whnf
   refine ⟨oo, ?_⟩;conv=>whnf
   refine ⟨oo, ?_⟩;conv=>whnf
   refine ⟨oo, ?_⟩;conv=>whnf
   rw [e4];refine ⟨⟨by omega, by simp; omega⟩, ?_⟩;conv=>whnf
   rw [Int.toNat_natCast, e5];refine ⟨by show _ <= c * cf G.l i ∧ c * cf G.l i <= _; omega, ?_⟩;conv=>whnf
   refine ⟨by show _ <= cf o (j + i) - c * cf G.l i ∧ cf o (j + i) - c * cf G.l i <= _; omega, ?_⟩;conv=>whnf
   refine ⟨_, cxF (zK h hm), ?_⟩;conv=>whnf
   refine ⟨_, cxF (zah _ M (by omega) (by show _ <= cf o (j + i) - c * cf G.l i ∧ cf o (j + i) - c * cf G.l i <= _; omega) (by omega)), ?_⟩;conv=>whnf
   refine ⟨oo, ?_⟩;conv=>whnf
   refine hK9 _ ?_;clear hK9;refine wrg ?_;conv=>whnf
   refine ⟨oo, ?_⟩;conv=>whnf
   exact zk ⟨i + 1, b, o.set (j + i) ((cf o (j + i) - c * cf G.l i) % M), by omega, by simpa using h6, h10, rfl, rfl⟩
  ·obtain rfl : i = dg G := by omega
   refine W.exit (hK8 _ ?_);clear hK7 hK8;refine wrg ?_;conv=>whnf
   refine ⟨oo, ?_⟩;conv=>whnf
   exact zk ⟨j, b, b', o, q.set j c, by omega, hd.step hGn (by omega) c hc.symm (by omega) h7, rfl, rfl⟩
 ·refine W.exit (hK1 _ ?_);clear hK7 hK1;obtain rfl : j' = 0 := by omega
  obtain ⟨h1, h2⟩ := hd.fin hGn;have hrl := hd.rl;have hql := hd.ql;refine wrs λK hK => ?_;conv=>whnf
  refine zr rfl (vN _ _ (by omega)) λhs_2 b_2 hh_2 hf_2 => ?_;try dsimp only at hh_2 hf_2
  conv=>whnf
  refine zr rfl (vN _ _ (by omega)) λhs_3 b_3 hh_3 hf_3 => ?_;try dsimp only at hh_3 hf_3
  conv=>whnf
  refine hK _ ?_;clear hK;rw [h1, h2];rw [h1] at hf_2;rw [h2] at hf_3;have hd : (qtM F G).l ≠ [] -> (rdM F G).l ≠ [] -> b_2 ≠ b_3 := λe1 e2 => by have := hf_2 e1; have := hf_3 e2; omega
  refine W.give 6 λK hK => ?_;conv=>whnf
  refine hK _ ?_;clear hK;refine W.give 7 λK hK => ?_;conv=>whnf
  refine hK _ (W.ret ?_);conv=>whnf
  refine ⟨.v (.rf b_2 (qtM F G).l.length), rfl, trivial, .v (.rf b_3 (rdM F G).l.length), rfl, trivial, .v (.int .i64 0), ⟨rfl, rfl⟩, trivial, b_2, b_3, rfl, λh => ?_, λh => zJ _ _ h⟩
  by_cases h3 : (rdM F G).l = []
  ·rw [h3]; exact zJ _ _ h
  ·exact (zfx _ _ (.inr (hd h h3))).trans (zJ _ _ h)

theorem za4 (he : ExtP p k M f n) (g g1 g2 : Option Nat) (X Y : Poly M) (hX : dg X <= n) (hY : dg Y <= n) : FnT Tryz.prog 77 [vE p k g f.l, .ints g1 X.l, .ints g2 Y.l] (R1 (rdM (X * Y) f).l) := by
 have h8 := he.n8;have h1 := yR X Y;refine y6 (zg [] [0, 1, 2, 3, 6, 8, 1000000]) Tryz.func77 rfl (by decide) Tryz.ntmps77 (lb rfl) (λbase => ?_) (lb rfl);refine W.rs (zg _ _) (by rfl) λK hK => ?_;conv=>whnf
 refine ⟨rfl, ?_⟩;conv=>whnf
 intro b_1 hs_1 hh_1 hf_1;try dsimp only at hh_1 hf_1
 conv=>whnf
 refine hK _ ?_;clear hK;refine W.sw (c' := cxt [139] [0, 1, 2, 3, 6, 8, 1000000]) ?_;refine W.rdW 9 8 (zg _ _) follows (by rfl) (by kernel_rfl) λK hK => ?_;conv=>whnf
 refine ⟨by show 0 + 2 <= 3; omega, ?_⟩;conv=>whnf
 refine ⟨by show 0 + 2 <= 3; omega, ?_⟩;conv=>whnf
 refine ⟨_, zda ((zkH he.rn.1 he.hm he.m9 _ _ X Y (by omega) (by omega)).toV), ?_⟩;conv=>whnf
 intro fu;refine Wany.one (cx := cxt [139] []) (zg [139] []) 9 (by rfl) (by kernel_rfl) (by rfl) (by rfl) ?_;conv=>whnf
 refine ⟨_, cxT (zkI he.rn.1 he.hm he.m9 _ _ (X * Y) f (by omega) he.mn (by omega)), λlo_r hi_r hs_r x_r tn_r tb_r hl1_r hl2_r _ hp_r hf_r hn_r ho_r => ?_⟩;try dsimp only at hl1_r hl2_r
 obtain ⟨b0, b1, rfl, hq0, hq1⟩ := hp_r;conv=>whnf
 refine Wany.take (cx := cxt [139] []) (zg [139] []) 10 (by rfl) (by rfl) (λd hd => by injection hd with hd; subst hd; decide) (by kernel_rfl) (by kernel_rfl) (by kernel_rfl) (by rfl) ?_;conv=>whnf
 refine Wany.take (cx := cxt [139] []) (zg [139] []) 11 (by rfl) (by rfl) (λd hd => by injection hd with hd; subst hd; decide) (by kernel_rfl) (by kernel_rfl) (by kernel_rfl) (by rfl) ?_;conv=>whnf
 refine Wany.take (cx := cxt [139] []) (zg [139] []) 12 (by rfl) (by rfl) (λd hd => by injection hd with hd; subst hd; decide) (by kernel_rfl) (by kernel_rfl) (by kernel_rfl) (by rfl) ?_;conv=>whnf
 refine Wany.take (cx := cxt [139] []) (zg [139] []) 13 (by rfl) (by rfl) (λd hd => by injection hd with hd; subst hd; decide) (by kernel_rfl) (by kernel_rfl) (by kernel_rfl) (by rfl) ?_;conv=>whnf
 refine Wany.take (cx := cxt [139] []) (zg [139] []) 14 (by rfl) (by rfl) (λd hd => by injection hd with hd; subst hd; decide) (by kernel_rfl) (by kernel_rfl) (by kernel_rfl) (by rfl) ?_;conv=>whnf
 refine Wany.take (cx := cxt [139] []) (zg [139] []) 15 (by rfl) (by rfl) (λd hd => by injection hd with hd; subst hd; decide) (by kernel_rfl) (by kernel_rfl) (by kernel_rfl) (by rfl) ?_;conv=>whnf
 refine Wany.take (cx := cxt [139] []) (zg [139] []) 16 (by rfl) (by rfl) (λd hd => by injection hd with hd; subst hd; decide) (by kernel_rfl) (by kernel_rfl) (by kernel_rfl) (by rfl) ?_;conv=>whnf
 refine wd1 (hK _ ?_);clear hK fu;refine W.rs (zg _ _) (by rfl) λK hK => ?_;conv=>whnf
 refine hK _ (W.ret ?_);conv=>whnf
 exact ⟨.v (.rf b1 (rdM (X * Y) f).l.length), rfl, trivial, b1, rfl, λh => hn_r _ _ (hq1 h)⟩
theorem kV (he : ExtP p k M f n) (g g1 g2 : Option Nat) (X Y : Poly M) (hX : dg X <= n) (hY : dg Y <= n) : FnV 77 [vE p k g f.l, .ints g1 X.l, .ints g2 Y.l] (.ints none (rdM (X * Y) f).l) :=
 R1.V (za4 he g g1 g2 X Y hX hY)

/- the same in the reference -/
theorem zhP (m9 : M <= 1000000000) (g g' : Option Nat) (F G : Poly M) (hF : dg F <= 1000) (hGn : Mn G n) (hn9 : n <= 1000) : FnV 141 [.ints g F.l, .ints g' G.l, .int .i64 M] (.tup [.ints none (qtM F G).l, .ints none (rdM F G).l]) := by
 have hp := Pos.pos (p := M);have hFl : F.l.length = dg F := rfl;have hGl : G.l.length = dg G := rfl;have hG1 := hGn.1;have hmx : (max (0 : Int) ((dg F : Int) - dg G + 1)) = ((dg F + 1 - dg G : Nat) : Int) := by omega
 refine ze (za [0, 1, 2, 6, 7, 8, 9, 10, 11, 12, 27, 45]) Tryz.func141 rfl (by decide) Tryz.ntmps141 (lb rfl) λbase => ?_;refine wrs λK hK => ?_;conv=>whnf
 refine hK _ (wrs λK hK => ?_);conv=>whnf
 refine zr rfl (zdb _ _ (by omega)) λhs_0 b_0 hh_0 hf_0 => ?_;try dsimp only at hh_0 hf_0
 conv=>whnf
 refine hK _ (wrs λK hK => ?_);conv=>whnf
 rw [hFl, hGl];refine ⟨oo, ?_⟩;conv=>whnf
 refine ⟨oo, ?_⟩;conv=>whnf
 rw [hmx];refine ⟨rfl, ?_⟩;conv=>whnf
 refine ⟨oo, ?_⟩;conv=>whnf
 generalize hnq : dg F + 1 - dg G = nq;rw [Int.toNat_natCast];intro b_q hs_q hh_q hf_q;try dsimp only at hh_q hf_q
 conv=>whnf
 refine hK _ (W.seqK λK1 hK1 => wrs λK hK => ?_);conv=>whnf
 rw [List.length_replicate];refine ⟨oo, ?_⟩;conv=>whnf
 refine hK _ (W.block (W.invA (λm e => ∃ (j b b' : Nat) (r q : List Int), j <= nq ∧ DivN M F G nq j r q ∧ m = j ∧ e = [(1, .v (.ints g' G.l)), (2, .v (.int .i64 M)), (8, .ownI 2 b r), (9, .ownI 2 b' q), (10, .v (.int .i64 ((j : Int) - 1)))]) ⟨nq, b_0, b_q, F.l, List.replicate nq 0, Nat.le_refl _, DivN.start F G (by omega), rfl, rfl⟩ ?_));clear hK;rintro m e ⟨j', b, b', r, q, hk, hd, hm, rfl⟩;refine W.seqK λK7 hK7 => wrs λK hK => ?_;conv=>whnf
 refine hK _ (W.cond ⟨λh5 => ?_, λh5 => ?_⟩) <;> clear hK <;> (first | replace h5 := of_decide_eq_true h5 | replace h5 := of_decide_eq_false h5)
 ·refine W.skip (hK7 _ ?_);clear hK7;refine W.seqK λK8 hK8 => W.block ?_;obtain ⟨j, rfl⟩ : ∃ j, j' = j + 1 := ⟨j' - 1, by omega⟩
  have hrl := hd.rl;have hql := hd.ql;have e1 : (((j + 1 : Nat) : Int) - 1) = j := by omega
  have e2 : ((j : Int) + dg G - 1).toNat = j + dg G - 1 := by omega
  rw [e1];have h1 := hd.rr (j + dg G - 1);generalize hc : cf r (j + dg G - 1) = c at h1;have hc2 : r.getD (j + dg G - 1) 0 = c := hc;refine wrs λK hK => ?_;conv=>whnf
  rw [hGl];refine ⟨oo, ?_⟩;conv=>whnf
  refine ⟨oo, ?_⟩;conv=>whnf
  refine ⟨oo, ?_⟩;conv=>whnf
  rw [e2, hc2];refine hK _ (wrs λK hK => ?_);conv=>whnf
  refine ⟨oo, ?_⟩;conv=>whnf
  rw [Int.toNat_natCast];refine hK _ (wrs λK hK => ?_);conv=>whnf
  refine hK _ (W.block (W.invE (λm e => ∃ (i b : Nat) (o : List Int), i <= dg G ∧ o.length = dg F ∧ (∀ x, cf o x = if j <= x ∧ x < j + i then (cf r x - c * cf G.l (x - j)) % M else cf r x) ∧ m = dg G - i ∧ e = [(1, .v (.ints g' G.l)), (2, .v (.int .i64 M)), (8, .ownI 2 b o), (9, .ownI 2 b' (q.set j c)), (10, .v (.int .i64 j)), (11, .v (.int .i64 c)), (12, .v (.int .i64 i))]) _ _ ⟨0, b, r, Nat.zero_le _, hrl, λx => by rw [if_neg (by omega)], rfl, rfl⟩ (by dsimp only; omega) (by repeat' first | refine And.intro ?_ ?_ | exact trivial | rfl | omega | assumption | exact λ_ _ h => h) ?_));clear hK b;rintro m' e ⟨i, b, o, h5, h6, h7, hm', rfl⟩;refine W.seqK λK7 hK7 => wrs λK hK => ?_;conv=>whnf
  refine hK _ (W.cond ⟨λh8 => ?_, λh8 => ?_⟩) <;> clear hK <;> (first | replace h8 := of_decide_eq_true h8 | replace h8 := of_decide_eq_false h8)
  ·refine W.skip (hK7 _ ?_);clear hK7;refine W.seqK λK9 hK9 => W.block ?_;have h8 : i < dg G := by omega
   obtain ⟨h9, h10⟩ := zaS (p := M) (c := c) (g := cf G.l) (r := r) (o := o) (k := j) (i := i) h6 (by omega) h7;have h11 := hd.rr (j + i);have h12 := jb G i;have h13 := zqF (a := c) (b := cf G.l i) (by omega) (by omega);have e4 : ((j : Int) + i).toNat = j + i := by omega
   refine W.draw (za _) follows (by rfl) ?_;conv=>whnf
   refine ⟨oo, ?_⟩;conv=>whnf
   refine ⟨oo, ?_⟩;conv=>whnf
   refine ⟨oo, ?_⟩;conv=>whnf
   rw [e4];refine ⟨oo, ?_⟩;conv=>whnf
   rw [Int.toNat_natCast];refine ⟨by show _ <= c * cf G.l i ∧ c * cf G.l i <= _; omega, ?_⟩;conv=>whnf
   refine ⟨by show _ <= cf o (j + i) - c * cf G.l i ∧ cf o (j + i) - c * cf G.l i <= _; omega, ?_⟩;conv=>whnf
   refine ⟨_, cxF (vH _ M (by omega) (by show _ <= cf o (j + i) - c * cf G.l i ∧ cf o (j + i) - c * cf G.l i <= _; omega) (by omega)), ?_⟩;conv=>whnf
   refine ⟨oo, ?_⟩;conv=>whnf
   refine hK9 _ ?_;clear hK9;refine wrg ?_;conv=>whnf
   refine ⟨oo, ?_⟩;conv=>whnf
   exact zk ⟨i + 1, b, o.set (j + i) ((cf o (j + i) - c * cf G.l i) % M), by omega, by simpa using h6, h10, rfl, rfl⟩
  ·obtain rfl : i = dg G := by omega
   refine W.exit (hK8 _ ?_);clear hK7 hK8;refine wrg ?_;conv=>whnf
   refine ⟨oo, ?_⟩;conv=>whnf
   exact zk ⟨j, b, b', o, q.set j c, by omega, hd.step hGn (by omega) c hc.symm (by omega) h7, rfl, rfl⟩
 ·refine W.exit (hK1 _ ?_);clear hK7 hK1;obtain rfl : j' = 0 := by omega
  obtain ⟨h1, h2⟩ := hd.fin hGn;have hrl := hd.rl;have hql := hd.ql;refine wrs λK hK => ?_;conv=>whnf
  refine zr rfl (yy _ _ (by omega)) λhs_2 b_2 hh_2 hf_2 => ?_;try dsimp only at hh_2 hf_2
  conv=>whnf
  refine zr rfl (yy _ _ (by omega)) λhs_3 b_3 hh_3 hf_3 => ?_;try dsimp only at hh_3 hf_3
  conv=>whnf
  refine hK _ ?_;clear hK;rw [h1, h2];refine W.ret ?_;conv=>whnf
  exact ⟨.v (.ints none (qtM F G).l), ⟨.inl rfl, rfl⟩, trivial, .v (.ints none (rdM F G).l), ⟨.inl rfl, rfl⟩, trivial, rfl⟩

theorem zkJ {M : Int} {f h : List Int} {o : List Int} {i k : Nat} (hn : o.length + 1 = f.length + h.length) (hi : i < f.length) (hk : k < h.length) (h3 : ∀ j, cf o j = part (cf f) (cf h) i k j % M) :
  i + k < o.length ∧ ∀ j, cf (o.set (i + k) ((cf o (i + k) + cf f i * cf h k) % M)) j = part (cf f) (cf h) i (k + 1) j % M := by
 refine ⟨by omega, λj => ?_⟩;rw [z6 (by omega), zbj]
 split
 ·rename_i hj; subst hj; rw [h3, Int.emod_add_emod]
 ·exact h3 j
theorem zmL {f h : Poly M} {o : List Int} (ho : ∀ j, cf o j = cv (cf f.l) (cf h.l) j % M) : zu o = (f * h).l := by
 refine yw (xg _) (f * h).ok.2 λi => ?_;rw [yC, ho, yQ]

theorem zfI (m9 : M <= 1000000000) (g g' : Option Nat) (F H : Poly M) (hF : dg F <= 1000) (hH : dg H <= 1000) : FnI 142 [.ints g F.l, .ints g' H.l, .int .i64 M] (F * H).l := by
 have hp := Pos.pos (p := M);have hFl : F.l.length = dg F := rfl;have hHl : H.l.length = dg H := rfl
 have hz : (dg F = 0 ∨ dg H = 0) -> (F * H).l = [] := λh => by
  have h1 : F * H = 0 := h.elim (λh => by rw [zd.1 h]; exact zh [H] (by rfl)) λh => by rw [zd.1 h]; exact zh [F] (by rfl)
  rw [h1]; exact ko
 refine ze (za [0, 1, 2, 6, 7, 8, 9, 17, 29, 35]) Tryz.func142 rfl (by decide) Tryz.ntmps142 (lb rfl) λbase => ?_;refine wrs λK hK => ?_;conv=>whnf
 refine hK _ (W.seqK λK1 hK1 => wrs λK hK => ?_);conv=>whnf
 refine ⟨λh0 => ?_, λh0 => ?_⟩ <;> conv=>whnf
 ·have h0 := of_decide_eq_true h0;refine hK _ (W.condT rfl ?_);clear hK;refine wrs λK hK => ?_;conv=>whnf
  refine ⟨⟨rfl, by decide⟩, ?_⟩;conv=>whnf
  intro b_0 hs_0 hh_0 hf_0;try dsimp only at hh_0 hf_0
  conv=>whnf
  refine hK _ (W.ret ?_);conv=>whnf
  exact ⟨.ownI 2 b_0 [], ⟨rfl, rfl, rfl⟩, trivial, _, by rw [hz (.inl (by omega))]⟩
 have h0 := of_decide_eq_false h0;refine hK _ (W.cond ⟨λh0' => ?_, λh0' => ?_⟩) <;> clear hK
 ·have h0' := of_decide_eq_true h0';refine wrs λK hK => ?_;conv=>whnf
  refine ⟨⟨rfl, by decide⟩, ?_⟩;conv=>whnf
  intro b_0 hs_0 hh_0 hf_0;try dsimp only at hh_0 hf_0
  conv=>whnf
  refine hK _ (W.ret ?_);conv=>whnf
  exact ⟨.ownI 2 b_0 [], ⟨rfl, rfl, rfl⟩, trivial, _, by rw [hz (.inr (by omega))]⟩
 have h0' := of_decide_eq_false h0';clear hz;refine W.skip (hK1 _ ?_);clear hK1;refine wrs λK hK => ?_;conv=>whnf
 refine ⟨oo, ?_⟩;conv=>whnf
 refine ⟨oo, ?_⟩;conv=>whnf
 refine ⟨rfl, ?_⟩;conv=>whnf
 refine ⟨oo, ?_⟩;conv=>whnf
 have hn : ((F.l.length : Int) + H.l.length - 1).toNat + 1 = F.l.length + H.l.length := by omega
 generalize hnn : ((F.l.length : Int) + H.l.length - 1).toNat = n at hn;intro b_0 hs_0 hh_0 hf_0;try dsimp only at hh_0 hf_0
 conv=>whnf
 refine hK _ (W.seqK λK1 hK1 => wrs λK hK => ?_);conv=>whnf
 refine hK _ (W.block (W.invA (λm e => ∃ (i b : Nat) (o : List Int), i <= F.l.length ∧ o.length = n ∧ (∀ j, cf o j = part (cf F.l) (cf H.l) i 0 j % M) ∧ m = F.l.length - i ∧ e = [(0, .v (.ints g F.l)), (1, .v (.ints g' H.l)), (2, .v (.int .i64 M)), (7, .ownI 2 b o), (8, .v (.int .i64 i))]) ⟨0, b_0, List.replicate n 0, Nat.zero_le _, by simp, λj => by rw [zD, zbU]; rfl, rfl, rfl⟩ ?_));clear hK;rintro m e ⟨i, b, o, h1, h2, h3, hm, rfl⟩;refine W.seqK λK7 hK7 => wrs λK hK => ?_;conv=>whnf
 refine hK _ (W.cond ⟨λh4 => ?_, λh4 => ?_⟩) <;> clear hK <;> (first | replace h4 := of_decide_eq_true h4 | replace h4 := of_decide_eq_false h4)
 ·refine W.skip (hK7 _ ?_);clear hK7;refine W.seqK λK8 hK8 => W.block ?_;have h4 : i < F.l.length := by omega
  refine wrs λK hK => ?_;conv=>whnf
  refine hK _ (W.block (W.invE (λm e => ∃ (k b : Nat) (o : List Int), k <= H.l.length ∧ o.length = n ∧ (∀ j, cf o j = part (cf F.l) (cf H.l) i k j % M) ∧ m = H.l.length - k ∧ e = [(0, .v (.ints g F.l)), (1, .v (.ints g' H.l)), (2, .v (.int .i64 M)), (7, .ownI 2 b o), (8, .v (.int .i64 i)), (9, .v (.int .i64 k))]) _ _ ⟨0, b, o, Nat.zero_le _, h2, h3, rfl, rfl⟩ (by dsimp only; omega) (by repeat' first | refine And.intro ?_ ?_ | exact trivial | rfl | omega | assumption) ?_));clear hK;clear h3 h2 b o;rintro m' e ⟨k, b, o, h5, h2, h3, hm', rfl⟩;refine W.seqK λK7 hK7 => wrs λK hK => ?_;conv=>whnf
  refine hK _ (W.cond ⟨λh6 => ?_, λh6 => ?_⟩) <;> clear hK <;> (first | replace h6 := of_decide_eq_true h6 | replace h6 := of_decide_eq_false h6)
  ·refine W.skip (hK7 _ ?_);clear hK7;refine W.seqK λK10 hK10 => W.block ?_;have h7 := zkJ (o := o) (by omega) h4 (by omega : k < H.l.length) h3;have h8 : 0 <= cf o (i + k) ∧ cf o (i + k) < M := by rw [h3]; exact ⟨Int.emod_nonneg _ (by omega), Int.emod_lt_of_pos _ (by omega)⟩
   have h9 := jb F i;have h10 := jb H k;have h11 := zqF (a := cf F.l i) (b := cf H.l k) (by omega) (by omega);have e1 : ((i : Int) + k).toNat = i + k := by omega
   have e2 : (cf o (i + k) + cf F.l i * cf H.l k).tmod M = (cf o (i + k) + cf F.l i * cf H.l k) % M := Int.tmod_eq_emod_of_nonneg (by omega);have e3 : (o.getD (i + k) 0 + F.l.getD i 0 * H.l.getD k 0).tmod M = (cf o (i + k) + cf F.l i * cf H.l k) % M := e2;refine W.draw (za _) follows (by rfl) ?_;conv=>whnf
   refine ⟨oo, ?_⟩;conv=>whnf
   refine ⟨oo, ?_⟩;conv=>whnf
   refine ⟨oo, ?_⟩;conv=>whnf
   refine ⟨oo, ?_⟩;conv=>whnf
   refine ⟨oo, ?_⟩;conv=>whnf
   rw [e1, Int.toNat_natCast, Int.toNat_natCast];refine ⟨by show _ <= cf F.l i * cf H.l k ∧ cf F.l i * cf H.l k <= _; omega, ?_⟩;conv=>whnf
   refine ⟨by show _ <= cf o (i + k) + cf F.l i * cf H.l k ∧ cf o (i + k) + cf F.l i * cf H.l k <= _; omega, ?_⟩;conv=>whnf
   refine ⟨by omega, ?_⟩;conv=>whnf
   rw [e3];refine ⟨oo, ?_⟩;conv=>whnf
   refine hK10 _ ?_;clear hK10 K10;refine wrg ?_;conv=>whnf
   refine ⟨oo, ?_⟩;conv=>whnf
   exact zk ⟨k + 1, b, o.set (i + k) ((cf o (i + k) + cf F.l i * cf H.l k) % M), by omega, by simpa using h2, h7.2, rfl, rfl⟩
  ·obtain rfl : k = H.l.length := by omega
   refine W.exit (hK8 _ ?_);clear hK7 hK8;refine wrg ?_;conv=>whnf
   refine ⟨oo, ?_⟩;conv=>whnf
   exact zk ⟨i + 1, b, o, by omega, h2, λj => by rw [h3 j]; congr 1; exact ze2 (λj hj => zT hj) i j, rfl, rfl⟩
 ·refine W.exit (hK1 _ ?_);clear hK7 hK1;obtain rfl : i = F.l.length := by omega
  refine wrs λK hK => ?_;conv=>whnf
  refine zr rfl (yy _ _ (by omega)) λhs_1 b_1 hh_1 hf_1 => ?_;try dsimp only at hh_1 hf_1
  conv=>whnf
  refine hK _ (W.ret ?_);conv=>whnf
  exact ⟨.ownI 2 _ ((F * H).l), ⟨rfl, rfl, zmL λj => by rw [h3 j]; congr 1; exact ze3 (λj hj => zT hj) j⟩, trivial, _, rfl⟩

def RgL (M : Int) (l : List Int) : Prop := ∀ j, 0 <= cf l j ∧ cf l j < M
theorem zqG {s c : Int} (hs : s = 1 ∨ s = -1) (hc : 0 <= c ∧ c <= 999999999) : -999999999 <= s * c ∧ s * c <= 999999999 := by rcases hs with rfl | rfl <;> omega
theorem zjy (m9 : M <= 1000000000) (g g' : Option Nat) (xs ys : List Int) (s : Int) (hx : RgL M xs) (hsy : ∀ j, -999999999999999 <= s * cf ys j ∧ s * cf ys j <= 999999999999999) (hxl : xs.length <= 1000) (hyl : ys.length <= 1000) : FnI 74 [.ints g xs, .ints g' ys, .int .i64 s, .int .i64 M] (nrm M (yr xs (zU s ys))) := by
 have hp := Pos.pos (p := M);have hmx : (max (xs.length : Int) (ys.length : Int)) = ((max xs.length ys.length : Nat) : Int) := by omega
 refine ze (za [0, 1, 2, 3, 8, 9, 10, 20, 26, 37]) Tryz.func74 rfl (by decide) Tryz.ntmps74 (lb rfl) λbase => ?_;refine wrs λK hK => ?_;conv=>whnf
 refine hK _ (wrs λK hK => ?_);conv=>whnf
 rw [hmx];refine ⟨rfl, ?_⟩;conv=>whnf
 refine ⟨oo, ?_⟩;conv=>whnf
 rw [Int.toNat_natCast];have hx2 : xs.length <= max xs.length ys.length := by omega
 have hy2 : ys.length <= max xs.length ys.length := by omega
 have hN : max xs.length ys.length <= 1000 := by omega
 generalize max xs.length ys.length = N at hx2 hy2 hN;intro b_0 hs_0 hh_0 hf_0;try dsimp only at hh_0 hf_0
 conv=>whnf
 refine hK _ (W.seqK λK1 hK1 => wrs λK hK => ?_);conv=>whnf
 refine hK _ (W.block (W.invA (λm e => ∃ (i b : Nat) (o : List Int), i <= N ∧ o.length = N ∧ (∀ j, cf o j = if j < i then (cf xs j + s * cf ys j) % M else 0) ∧ m = N - i ∧ e = [(0, .v (.ints g xs)), (1, .v (.ints g' ys)), (2, .v (.int .i64 s)), (3, .v (.int .i64 M)), (9, .ownI 2 b o), (10, .v (.int .i64 i))]) ⟨0, b_0, List.replicate N 0, Nat.zero_le _, by simp, λj => by rw [zD, if_neg (by omega)], rfl, rfl⟩ ?_));clear hK;rintro m e ⟨i, b, o, h1, h2, h3, hm, rfl⟩;refine W.seqK λK7 hK7 => wrs λK hK => ?_;conv=>whnf
 refine hK _ (W.cond ⟨λh4 => ?_, λh4 => ?_⟩) <;> clear hK <;> (first | replace h4 := of_decide_eq_true h4 | replace h4 := of_decide_eq_false h4)
 ·refine W.skip (hK7 _ ?_);clear hK7;refine W.seqK λK8 hK8 => W.block ?_;have hxi := hx i;have hmi := hsy i;refine W.seqK λK9 hK9 => ?_
  have fin : ∀ (o' : List Int) (b' : Nat) (t : S), o'.length = N -> (∀ j, cf o' j = if j < i + 1 then (cf xs j + s * cf ys j) % M else 0) -> base <= t.hs ->
    zB t.env [(0, .v (.ints g xs)), (1, .v (.ints g' ys)), (2, .v (.int .i64 s)), (3, .v (.int .i64 M)), (9, .ownI 2 b' o'), (10, .v (.int .i64 i))] -> K8 t := by
   intro o' b' t h5 h6 h7 h8;refine hK8 _ (W.weak (t := ⟨[(0, .v (.ints g xs)), (1, .v (.ints g' ys)), (2, .v (.int .i64 s)), (3, .v (.int .i64 M)), (9, .ownI 2 b' o'), (10, .v (.int .i64 i))], base⟩) ⟨h7, h8⟩ (Nat.le_refl _) ?_);clear hK9 hK8;refine wrg ?_;conv=>whnf
   refine ⟨oo, ?_⟩;conv=>whnf
   exact zk ⟨i + 1, b', o', by omega, h5, h6, rfl, rfl⟩
  have mid : ∀ (o1 : List Int) (b1 : Nat) (t : S), o1.length = N -> (∀ j, cf o1 j = if j < i then (cf xs j + s * cf ys j) % M else if j = i then cf xs j else 0) -> base <= t.hs ->
    zB t.env [(0, .v (.ints g xs)), (1, .v (.ints g' ys)), (2, .v (.int .i64 s)), (3, .v (.int .i64 M)), (9, .ownI 2 b1 o1), (10, .v (.int .i64 i))] -> K9 t := by
   intro o1 b1 t h5 h6 h7 h8;refine hK9 _ (W.weak (t := ⟨[(0, .v (.ints g xs)), (1, .v (.ints g' ys)), (2, .v (.int .i64 s)), (3, .v (.int .i64 M)), (9, .ownI 2 b1 o1), (10, .v (.int .i64 i))], base⟩) ⟨h7, h8⟩ (Nat.le_refl _) ?_);clear hK9 hK8 h3;have hoi : cf o1 i = cf xs i := by rw [h6, if_neg (by omega), if_pos rfl]
   refine wrs λK hK => ?_;conv=>whnf
   refine hK _ (W.cond ⟨λh9 => ?_, λh9 => ?_⟩) <;> clear hK
   ·have h9 := of_decide_eq_true h9;refine W.draw (za _) follows (by rfl) ?_;conv=>whnf
    refine ⟨oo, ?_⟩;conv=>whnf
    refine ⟨oo, ?_⟩;conv=>whnf
    rw [Int.toNat_natCast];refine ⟨by show _ <= s * cf ys i ∧ s * cf ys i <= _; omega, ?_⟩;conv=>whnf
    refine ⟨by show _ <= cf o1 i + s * cf ys i ∧ cf o1 i + s * cf ys i <= _; omega, ?_⟩;conv=>whnf
    refine ⟨_, cxF (vH _ M (by omega) (by show _ <= cf o1 i + s * cf ys i ∧ cf o1 i + s * cf ys i <= _; omega) (by omega)), ?_⟩;conv=>whnf
    refine ⟨oo, ?_⟩;conv=>whnf
    refine fin (o1.set i ((cf o1 i + s * cf ys i) % M)) b1 _ (by simpa using h5) (λj => ?_) (by dsimp only; omega) ?_
    ·rw [z6 (by omega), h6 j]
     by_cases h10 : j = i
     ·subst h10; rw [if_pos rfl, if_pos (by omega), hoi]
     ·rw [if_neg h10]
      by_cases h11 : j < i
      ·rw [if_pos h11, if_pos (by omega)]
      ·rw [if_neg h11, if_neg h10, if_neg (by omega)]
    ·exact cvr
   ·have h9 := of_decide_eq_false h9;refine W.skip (fin o1 b1 _ h5 (λj => ?_) (by dsimp only; omega) ?_)
    ·rw [h6 j]
     by_cases h10 : j = i
     ·subst h10; rw [if_neg (by omega), if_pos rfl, if_pos (by omega), zT (l := ys) (by omega), Int.mul_zero, Int.add_zero, Int.emod_eq_of_lt hxi.1 hxi.2]
     ·by_cases h11 : j < i
      ·rw [if_pos h11, if_pos (by omega)]
      ·rw [if_neg h11, if_neg h10, if_neg (by omega)]
    ·exact cvr
  clear hK9 fin;refine wrs λK hK => ?_;conv=>whnf
  refine hK _ (W.cond ⟨λh9 => ?_, λh9 => ?_⟩) <;> clear hK
  ·have h9 := of_decide_eq_true h9;refine wrg ?_;conv=>whnf
   refine ⟨oo, ?_⟩;conv=>whnf
   refine ⟨oo, ?_⟩;conv=>whnf
   rw [Int.toNat_natCast];refine mid (o.set i (cf xs i)) b _ (by simpa using h2) (λj => ?_) (by dsimp only; omega) ?_
   ·rw [z6 (by omega), h3 j]
    by_cases h10 : j = i
    ·subst h10; rw [if_pos rfl, if_neg (by omega), if_pos rfl]
    ·rw [if_neg h10]
     by_cases h11 : j < i
     ·rw [if_pos h11, if_pos h11]
     ·rw [if_neg h11, if_neg h11, if_neg h10]
   ·exact cvr
  ·have h9 := of_decide_eq_false h9;refine W.skip (mid o b _ h2 (λj => ?_) (by dsimp only; omega) ?_)
   ·rw [h3 j]
    by_cases h10 : j = i
    ·subst h10; rw [if_neg (by omega), if_neg (by omega), if_pos rfl, zT (l := xs) (by omega)]
    ·by_cases h11 : j < i
     ·rw [if_pos h11, if_pos h11]
     ·rw [if_neg h11, if_neg h11, if_neg h10]
   ·exact cvr
 ·obtain rfl : i = N := by omega
  refine W.exit (hK1 _ ?_);clear hK7 hK1;refine wrs λK hK => ?_;conv=>whnf
  refine zr rfl (yy _ _ (by omega)) λhs_1 b_1 hh_1 hf_1 => ?_;try dsimp only at hh_1 hf_1
  conv=>whnf
  refine hK _ (W.ret ?_);conv=>whnf
  refine ⟨.ownI 2 b_1 (zu o), ⟨rfl, rfl, rfl⟩, trivial, b_1, ?_⟩
  congr 1
  refine yw (xg _) (vd _ _) λj => ?_;rw [yC, h3, k8, y1, va]
  split
  ·rfl
  ·rw [zT (l := xs) (by omega), zT (l := ys) (by omega)]; simp
theorem zbn (m9 : M <= 1000000000) (g g' : Option Nat) (xs ys : List Int) (s : Int) (hs : s = 1 ∨ s = -1) (hx : RgL M xs) (hy : RgL M ys) (hxl : xs.length <= 1000) (hyl : ys.length <= 1000) : FnI 74 [.ints g xs, .ints g' ys, .int .i64 s, .int .i64 M] (nrm M (yr xs (zU s ys))) :=
 zjy m9 g g' xs ys s hx (λj => by have := zqG hs (c := cf ys j) (by have := hy j; omega); omega) hxl hyl


theorem jp (he : ExtP p k M f n) (g : Option Nat) : FnV 75 [vE p k g f.l] (.int .i64 M) := by
 obtain ⟨s1, s2, s3, s4, s5, s6⟩ := he.rn.1.small;have hm := he.hm;obtain ⟨j, rfl⟩ : ∃ j : Nat, k = j := ⟨k.toNat, by omega⟩
 rw [Int.toNat_natCast] at hm s6;have hmS : zdP p j = M := by unfold zdP; rw [if_pos s6, hm]
 refine ze (za [0, 1, 2]) Tryz.func75 rfl (by decide) Tryz.ntmps75 (lb rfl) λbase => ?_;refine wrs λK hK => ?_;conv=>whnf
 refine ⟨rfl, ?_⟩;conv=>whnf
 intro b_1 hs_1 hh_1 hf_1;try dsimp only at hh_1 hf_1
 conv=>whnf
 refine hK _ (wrs λK hK => ?_);conv=>whnf
 refine zb rfl (vO p j (by omega) (by omega) (by omega)) λhs' hhs => ?_;try dsimp only at hhs
 conv=>whnf
 rw [hmS];refine hK _ (W.ret ?_);conv=>whnf
 exact ⟨.v (.int .i64 M), ⟨rfl, rfl⟩, trivial, rfl⟩

theorem yj (he : ExtP p k M f n) (g g1 g2 : Option Nat) (X Y : Poly M) (hX : dg X <= n) (hY : dg Y <= n) : FnV 78 [vE p k g f.l, .ints g1 X.l, .ints g2 Y.l] (.ints none (rdM (X * Y) f).l) := by
 have h8 := he.n8;have h1 := yR X Y;refine ze (za [0, 1, 2, 3, 6, 8]) Tryz.func78 rfl (by decide) Tryz.ntmps78 (lb rfl) λbase => ?_;refine wrs λK hK => ?_;conv=>whnf
 refine ⟨rfl, ?_⟩;conv=>whnf
 intro b_1 hs_1 hh_1 hf_1;try dsimp only at hh_1 hf_1
 conv=>whnf
 refine hK _ ?_;clear hK;refine W.rdW 9 6 (za _) follows (by rfl) (by kernel_rfl) λK hK => ?_;conv=>whnf
 refine ⟨_, cxF (jp he g), ?_⟩;conv=>whnf
 refine ⟨_, cxF ((zfI he.m9 g1 g2 X Y (by omega) (by omega)).toV), ?_⟩;conv=>whnf
 refine ⟨_, cxF (jp he g), ?_⟩;conv=>whnf
 intro fu;refine Wany.one (cx := cx []) (za []) 9 (by rfl) (by kernel_rfl) (by rfl) (by rfl) ?_;conv=>whnf
 refine zb rfl (zhP he.m9 none _ (X * Y) f (by omega) he.mn (by omega)) λhs' hhs => ?_;try dsimp only at hhs
 conv=>whnf
 refine Wany.take (cx := cx []) (za []) 10 (by rfl) (by rfl) (λd hd => by injection hd with hd; subst hd; decide) (by kernel_rfl) (by kernel_rfl) (by kernel_rfl) (by rfl) ?_;conv=>whnf
 refine Wany.take (cx := cx []) (za []) 11 (by rfl) (by rfl) (λd hd => by injection hd with hd; subst hd; decide) (by kernel_rfl) (by kernel_rfl) (by kernel_rfl) (by rfl) ?_;conv=>whnf
 refine Wany.take (cx := cx []) (za []) 12 (by rfl) (by rfl) (λd hd => by injection hd with hd; subst hd; decide) (by kernel_rfl) (by kernel_rfl) (by kernel_rfl) (by rfl) ?_;conv=>whnf
 refine Wany.take (cx := cx []) (za []) 13 (by rfl) (by rfl) (λd hd => by injection hd with hd; subst hd; decide) (by kernel_rfl) (by kernel_rfl) (by kernel_rfl) (by rfl) ?_;conv=>whnf
 refine Wany.take (cx := cx []) (za []) 14 (by rfl) (by rfl) (λd hd => by injection hd with hd; subst hd; decide) (by kernel_rfl) (by kernel_rfl) (by kernel_rfl) (by rfl) ?_;conv=>whnf
 refine wd1 (hK _ ?_);clear hK fu;refine wrs λK hK => ?_;conv=>whnf
 refine hK _ (W.ret ?_);conv=>whnf
 exact ⟨.v (.ints none (rdM (X * Y) f).l), ⟨rfl, rfl⟩, trivial, rfl⟩
end


def jq (p k : Int) (l x : List Int) : Prop := xV p k x ∧ x.length < l.length

theorem zpP (p k : Int) (g g' gb : Option Nat) (l x : List Int) (hx : x.length <= 1000000000) : FnV 124 [.ints g' x, .box gb (vE p k g l)] (.bool (!(bP (jq p k l x)))) := by
 by_cases hm : xV p k x
 ·refine ze (za [0, 1, 3]) Tryz.func124 rfl (by decide) Tryz.ntmps124 (lb rfl) λbase => ?_;refine wrs λK hK => ?_;conv=>whnf
  refine hK _ (wrs λK hK => ?_);conv=>whnf
  refine ⟨by show 0 + 2 <= 3; omega, ?_⟩;conv=>whnf
  refine zb rfl ((xU p k g' x hx).tr (zj hm)) λhs' hhs => ?_;try dsimp only at hhs
  conv=>whnf
  refine hK _ (W.ret ?_);conv=>whnf
  exact ⟨.v (.bool (!(bP (jq p k l x)))), (by show decide ((l.length : Int) <= x.length) = !(bP _); by_cases h : x.length < l.length; (rw [decide_eq_false (by omega), zj ⟨hm, h⟩]; rfl); (rw [decide_eq_true (by omega), zf λh' => h h'.2]; rfl)), trivial, rfl⟩
 ·refine ze (za [0, 1, 3]) Tryz.func124 rfl (by decide) Tryz.ntmps124 (lb rfl) λbase => ?_;refine wrs λK hK => ?_;conv=>whnf
  refine hK _ (wrs λK hK => ?_);conv=>whnf
  refine ⟨by show 0 + 2 <= 3; omega, ?_⟩;conv=>whnf
  refine zb rfl ((xU p k g' x hx).fa (zf hm)) λhs' hhs => ?_;try dsimp only at hhs
  conv=>whnf
  refine hK _ (W.ret ?_);conv=>whnf
  exact ⟨.v (.bool (!(bP (jq p k l x)))), (by rw [zf λh => hm h.1]; rfl), trivial, rfl⟩
theorem za5 (p k : Int) (g g' : Option Nat) (l x : List Int) (hx : x.length <= 1000000000) : FnV 130 [vE p k g l, .ints g' x] (.bool (bP (jq p k l x))) := by
 by_cases hm : xV p k x
 ·refine ze (za [0, 1, 2, 4]) Tryz.func130 rfl (by decide) Tryz.ntmps130 (lb rfl) λbase => ?_;refine wrs λK hK => ?_;conv=>whnf
  refine ⟨rfl, ?_⟩;conv=>whnf
  intro b_1 hs_1 hh_1 hf_1;try dsimp only at hh_1 hf_1
  conv=>whnf
  refine hK _ (wrs λK hK => ?_);conv=>whnf
  refine ⟨by show 0 + 2 <= 3; omega, ?_⟩;conv=>whnf
  refine zb rfl ((vo p k g' x hx).tr (zj hm)) λhs' hhs => ?_;try dsimp only at hhs
  conv=>whnf
  refine hK _ (W.ret ?_);conv=>whnf
  exact ⟨.v (.bool (bP (jq p k l x))), (by show decide ((x.length : Int) < l.length) = bP _; by_cases h : x.length < l.length; (rw [decide_eq_true (by omega), zj ⟨hm, h⟩]); (rw [decide_eq_false (by omega), zf λh' => h h'.2])), trivial, rfl⟩
 ·refine ze (za [0, 1, 2, 4]) Tryz.func130 rfl (by decide) Tryz.ntmps130 (lb rfl) λbase => ?_;refine wrs λK hK => ?_;conv=>whnf
  refine ⟨rfl, ?_⟩;conv=>whnf
  intro b_1 hs_1 hh_1 hf_1;try dsimp only at hh_1 hf_1
  conv=>whnf
  refine hK _ (wrs λK hK => ?_);conv=>whnf
  refine ⟨by show 0 + 2 <= 3; omega, ?_⟩;conv=>whnf
  refine zb rfl ((vo p k g' x hx).fa (zf hm)) λhs' hhs => ?_;try dsimp only at hhs
  conv=>whnf
  refine hK _ (W.ret ?_);conv=>whnf
  exact ⟨.v (.bool (bP (jq p k l x))), zf λh => hm h.1, trivial, rfl⟩

noncomputable def z3 (p k : Int) (l : List Int) (n : Nat) (X : Nat -> List Int) : Int :=
 bif bP (kU p k l) then (bif bP (∀ i, i < n -> jq p k l (X i)) then 0 else 2) else 1
theorem zoL {p k : Int} {l : List Int} {n : Nat} {X : Nat -> List Int} : bP (∃ i, i < n ∧ (λi => !(bP (jq p k l (X i)))) i = true) = !(bP (∀ i, i < n -> jq p k l (X i))) := by
 by_cases h : ∀ i, i < n -> jq p k l (X i)
 ·rw [zj h];refine zf ?_;rintro ⟨i, hi, h2⟩;have h2 : (!(bP (jq p k l (X i)))) = true := h2;rw [zj (h i hi)] at h2; cases h2
 ·rw [zf h];refine zj (Classical.byContradiction λh2 => h λi hi => Classical.byContradiction λh3 => h2 ⟨i, hi, ?_⟩);show (!(bP (jq p k l (X i)))) = true
  rw [zf h3]; rfl
theorem zjz {p k : Int} {l : List Int} {n : Nat} {X : Nat -> List Int} (h : z3 p k l n X = 0) : kU p k l ∧ ∀ i, i < n -> jq p k l (X i) := by
 unfold z3 at h
 by_cases hk : kU p k l
 ·rw [zj hk] at h
  by_cases h2 : ∀ i, i < n -> jq p k l (X i)
  ·exact ⟨hk, h2⟩
  ·rw [zf h2] at h; cases h
 ·rw [zf hk] at h; cases h
theorem zjA {p k : Int} {l : List Int} {n m : Nat} {X Y : Nat -> List Int} (h : (∀ i, i < n -> jq p k l (X i)) ↔ (∀ i, i < m -> jq p k l (Y i))) : z3 p k l n X = z3 p k l m Y := by
 unfold z3; rw [zcF h]

theorem zZ (p k : Int) (g gs : Option Nat) (l : List Int) (n : Nat) (f : Nat -> V) (X : Nat -> List Int) (hn : n <= 100000000) (hl : l.length <= 1000000000) (hX : ∀ i, i < n -> (X i).length <= 1000000000) (hf : ∀ i, i < n -> ∃ g', f i = .ints g' (X i)) :
  FnV 61 [vE p k g l, .vals gs 1 n f] (.int .i64 (z3 p k l n X)) := by
 by_cases hk : kU p k l
 case neg =>
  refine ze (za [0, 1, 2, 4, 5, 9]) Tryz.func61 rfl (by decide) Tryz.ntmps61 (lb rfl) λbase => ?_;refine wrs λK hK => ?_;conv=>whnf
  refine ⟨rfl, ?_⟩;conv=>whnf
  intro b_1 hs_1 hh_1 hf_1;try dsimp only at hh_1 hf_1
  conv=>whnf
  refine hK _ ?_;clear hK;refine W.seqK λK1 hK1 => W.block ?_;refine wrs λK hK => ?_;conv=>whnf
  refine zb rfl ((za3 p k g l hl).fa (zf hk)) λhs' hhs => ?_;try dsimp only at hhs
  conv=>whnf
  refine hK _ (W.condT rfl ?_);clear hK;refine wrs λK hK => ?_;conv=>whnf
  refine hK _ (W.ret ?_);conv=>whnf
  exact ⟨.v (.int .i64 (z3 p k l n X)), ⟨rfl, by unfold z3; rw [zf hk]; rfl⟩, trivial, rfl⟩
 refine ze (za [0, 1, 2, 4, 5, 9]) Tryz.func61 rfl (by decide) Tryz.ntmps61 (lb rfl) λbase => ?_;refine wrs λK hK => ?_;conv=>whnf
 refine ⟨rfl, ?_⟩;conv=>whnf
 intro b_1 hs_1 hh_1 hf_1;try dsimp only at hh_1 hf_1
 conv=>whnf
 refine hK _ ?_;clear hK;refine W.seqK λK1 hK1 => W.block ?_;refine wrs λK hK => ?_;conv=>whnf
 refine zb rfl ((za3 p k g l hl).tr (zj hk)) λhs' hhs => ?_;try dsimp only at hhs
 conv=>whnf
 refine hK _ (W.condF rfl ?_);clear hK;refine wrs λK hK => ?_;conv=>whnf
 refine zb rfl (kS gs n f 124 [.box none (vE p k g l)] (λi => !(bP (jq p k l (X i)))) hn (λi hi => by obtain ⟨g', h⟩ := hf i hi; exact ⟨_, _, h⟩) (λi hi => by obtain ⟨g', h⟩ := hf i hi; rw [h]; exact zpP p k g g' none l (X i) (hX i hi))) λhs' hhs => ?_;try dsimp only at hhs
 conv=>whnf
 rw [zoL];refine hK _ (W.cond ⟨λh => ?_, λh => ?_⟩) <;> clear hK
 ·refine wrs λK hK => ?_;conv=>whnf
  refine hK _ (W.ret ?_);conv=>whnf
  exact ⟨.v (.int .i64 (z3 p k l n X)), ⟨rfl, by unfold z3; rw [zj hk]; simp only [cond_true]; rw [show bP (∀ i, i < n -> jq p k l (X i)) = false by simpa using h]; rfl⟩, trivial, rfl⟩
 refine W.skip (hK1 _ ?_);clear hK1;refine wrs λK hK => ?_;conv=>whnf
 refine hK _ (W.ret ?_);conv=>whnf
 exact ⟨.v (.int .i64 (z3 p k l n X)), ⟨rfl, by unfold z3; rw [zj hk]; simp only [cond_true]; rw [show bP (∀ i, i < n -> jq p k l (X i)) = true by simpa using h]; rfl⟩, trivial, rfl⟩

theorem zbZ (p k : Int) (g g1 g2 : Option Nat) (l x y : List Int) (hl : l.length <= 1000000000) (hx : x.length <= 1000000000) (hy : y.length <= 1000000000) :
  FnV 64 [vE p k g l, .ints g1 x, .ints g2 y] (.int .i64 (z3 p k l 2 (two x y))) := by
 by_cases hk : kU p k l
 case neg =>
  refine ze (za [0, 1, 2, 3, 6, 9, 19]) Tryz.func64 rfl (by decide) Tryz.ntmps64 (lb rfl) λbase => ?_;refine wrs λK hK => ?_;conv=>whnf
  refine ⟨rfl, ?_⟩;conv=>whnf
  intro b_1 hs_1 hh_1 hf_1;try dsimp only at hh_1 hf_1
  conv=>whnf
  refine hK _ (W.seqK λK1 hK1 => wrs λK hK => ?_);conv=>whnf
  refine zb rfl ((yn p k g l hl).fa (zf hk)) λhs' hhs => ?_;try dsimp only at hhs
  conv=>whnf
  refine hK _ (W.condT rfl ?_);clear hK;refine wrs λK hK => ?_;conv=>whnf
  refine hK _ (W.ret ?_);conv=>whnf
  exact ⟨.v (.int .i64 (z3 p k l 2 (two x y))), ⟨rfl, by unfold z3; rw [zf hk]; rfl⟩, trivial, rfl⟩
 by_cases h1 : jq p k l x
 case neg =>
  refine ze (za [0, 1, 2, 3, 6, 9, 19]) Tryz.func64 rfl (by decide) Tryz.ntmps64 (lb rfl) λbase => ?_;refine wrs λK hK => ?_;conv=>whnf
  refine ⟨rfl, ?_⟩;conv=>whnf
  intro b_1 hs_1 hh_1 hf_1;try dsimp only at hh_1 hf_1
  conv=>whnf
  refine hK _ (W.seqK λK1 hK1 => wrs λK hK => ?_);conv=>whnf
  refine zb rfl ((yn p k g l hl).tr (zj hk)) λhs' hhs => ?_;try dsimp only at hhs
  conv=>whnf
  refine hK _ (W.condF rfl (W.skip (hK1 _ ?_)));clear hK hK1;refine W.seqK λK1 hK1 => wrs λK hK => ?_;conv=>whnf
  refine zb rfl ((za5 p k g g1 l x hx).fa (zf h1)) λhs' hhs => ?_;try dsimp only at hhs
  conv=>whnf
  refine hK _ (W.condT rfl ?_);clear hK;refine wrs λK hK => ?_;conv=>whnf
  refine hK _ (W.ret ?_);conv=>whnf
  exact ⟨.v (.int .i64 (z3 p k l 2 (two x y))), ⟨rfl, by unfold z3; rw [zj hk, zf λh => h1 (h 0 (by omega))]; rfl⟩, trivial, rfl⟩
 by_cases h2 : jq p k l y
 case neg =>
  refine ze (za [0, 1, 2, 3, 6, 9, 19]) Tryz.func64 rfl (by decide) Tryz.ntmps64 (lb rfl) λbase => ?_;refine wrs λK hK => ?_;conv=>whnf
  refine ⟨rfl, ?_⟩;conv=>whnf
  intro b_1 hs_1 hh_1 hf_1;try dsimp only at hh_1 hf_1
  conv=>whnf
  refine hK _ (W.seqK λK1 hK1 => wrs λK hK => ?_);conv=>whnf
  refine zb rfl ((yn p k g l hl).tr (zj hk)) λhs' hhs => ?_;try dsimp only at hhs
  conv=>whnf
  refine hK _ (W.condF rfl (W.skip (hK1 _ ?_)));clear hK hK1;refine W.seqK λK1 hK1 => wrs λK hK => ?_;conv=>whnf
  refine zb rfl ((za5 p k g g1 l x hx).tr (zj h1)) λhs' hhs => ?_;try dsimp only at hhs
  conv=>whnf
  refine zb rfl ((za5 p k g g2 l y hy).fa (zf h2)) λhs' hhs => ?_;try dsimp only at hhs
  conv=>whnf
  refine hK _ (W.condT rfl ?_);clear hK;refine wrs λK hK => ?_;conv=>whnf
  refine hK _ (W.ret ?_);conv=>whnf
  exact ⟨.v (.int .i64 (z3 p k l 2 (two x y))), ⟨rfl, by unfold z3; rw [zj hk, zf λh => h2 (h 1 (by omega))]; rfl⟩, trivial, rfl⟩
 refine ze (za [0, 1, 2, 3, 6, 9, 19]) Tryz.func64 rfl (by decide) Tryz.ntmps64 (lb rfl) λbase => ?_;refine wrs λK hK => ?_;conv=>whnf
 refine ⟨rfl, ?_⟩;conv=>whnf
 intro b_1 hs_1 hh_1 hf_1;try dsimp only at hh_1 hf_1
 conv=>whnf
 refine hK _ (W.seqK λK1 hK1 => wrs λK hK => ?_);conv=>whnf
 refine zb rfl ((yn p k g l hl).tr (zj hk)) λhs' hhs => ?_;try dsimp only at hhs
 conv=>whnf
 refine hK _ (W.condF rfl (W.skip (hK1 _ ?_)));clear hK hK1;refine W.seqK λK1 hK1 => wrs λK hK => ?_;conv=>whnf
 refine zb rfl ((za5 p k g g1 l x hx).tr (zj h1)) λhs' hhs => ?_;try dsimp only at hhs
 conv=>whnf
 refine zb rfl ((za5 p k g g2 l y hy).tr (zj h2)) λhs' hhs => ?_;try dsimp only at hhs
 conv=>whnf
 refine hK _ (W.condF rfl (W.skip (hK1 _ ?_)));clear hK hK1;refine wrs λK hK => ?_;conv=>whnf
 refine hK _ (W.ret ?_);conv=>whnf
 exact ⟨.v (.int .i64 (z3 p k l 2 (two x y))), ⟨rfl, by unfold z3; rw [zj hk, zj (λi hi => by match i, hi with | 0, _ => exact h1 | 1, _ => exact h2)]; rfl⟩, trivial, rfl⟩
noncomputable def jd (p k : Int) (l x : List Int) : Int := z3 p k l 1 (λ_ => x)
theorem zmM (p k : Int) (l x : List Int) : z3 p k l 2 (two x x) = jd p k l x :=
 zjA ⟨λh i hi => h 0 (by omega), λh i hi => by match i, hi with | 0, _ => exact h 0 (by omega) | 1, _ => exact h 0 (by omega)⟩
theorem yH (p k : Int) (g g1 g2 : Option Nat) (l x : List Int) (hl : l.length <= 1000000000) (hx : x.length <= 1000000000) : FnV 64 [vE p k g l, .ints g1 x, .ints g2 x] (.int .i64 (jd p k l x)) :=
 (zbZ p k g g1 g2 l x x hl hx hx).mono (by rw [zmM])
theorem jx {p k : Int} {l x : List Int} (h : jd p k l x = 0) : kU p k l ∧ jq p k l x := by
 obtain ⟨h1, h2⟩ := zjz h;exact ⟨h1, h2 0 (by omega)⟩




theorem zdQ (kp kq : Int) (kl x y : List Int) (_ : inR kp) (_ : inR kq) (hkl : kl.length <= 1048576) (hx : x.length <= 1048576) (hy : y.length <= 1048576) : ∃ (r0 : List Int) (r1 : Int),
  (∀ g0 g1 g2 : Option Nat, FnV 48 [vE kp kq g0 kl, .ints g1 x, .ints g2 y] (.tup [.ints none r0, .int .i64 r1])) ∧ (∀ g0 g1 g2 : Option Nat, FnT Tryz.prog 32 [vE kp kq g0 kl, .ints g1 x, .ints g2 y] (RT r0 r1)) ∧ r0.length <= 1000000 ∧ r1 = z3 kp kq kl 2 (two x y) ∧ (r1 = 0 -> ∀ hp : kp ∈ zY, letI := yL hp; ∀ (M : Int) (_ : Pos M) (f X Y : Poly M) (n : Nat), ExtP kp kq M f n -> f.l = kl -> X.l = x -> Y.l = y -> r0 = (rdM (X * Y) f).l) := by
 generalize hc : z3 kp kq kl 2 (two x y) = c;have hlen : ∀ i, i < 2 -> (two x y i).length <= 1000000000 := λi hi => by unfold two; split <;> omega
 by_cases h0 : c = 0
 case neg =>
  refine ⟨[], c, λg0 g1 g2 => ?_, λg0 g1 g2 => ?_, by simp, rfl, λh => absurd h h0⟩
  ·refine ze (za [0, 1, 2, 3, 6, 7, 8, 14]) Tryz.func48 rfl (by decide) Tryz.ntmps48 (lb rfl) λbase => ?_;refine wrs λK hK => ?_;conv=>whnf
   refine ⟨rfl, ?_⟩;conv=>whnf
   intro b_1 hs_1 hh_1 hf_1;try dsimp only at hh_1 hf_1
   conv=>whnf
   refine hK _ (wrs λK hK => ?_);conv=>whnf
   refine zb rfl (zbZ kp kq g0 g1 g2 kl x y (by omega) (by omega) (by omega)) λhs' hhs => ?_;try dsimp only at hhs
   conv=>whnf
   rw [hc];refine hK _ (W.seqK λK1 hK1 => wrs λK hK => ?_);conv=>whnf
   refine hK _ (W.cond ⟨λ_ => ?_, λhcc => absurd h0 (of_decide_eq_false hcc)⟩);clear hK;refine wrs λK hK => ?_;conv=>whnf
   refine hK _ (W.ret ?_);conv=>whnf
   exact ⟨.v (.ints none []), rfl, trivial, .v (.int .i64 c), ⟨rfl, rfl⟩, trivial, rfl⟩
  ·refine y6 (zg [] [0, 1, 2, 3, 6, 7, 8, 15, 1000000]) Tryz.func32 rfl (by decide) Tryz.ntmps32 (lb rfl) (λbase => ?_) (lb rfl);refine W.sw (c' := cx [0, 1, 2, 3, 6, 7, 8, 15, 1000000]) ?_;refine wrs λK hK => ?_;conv=>whnf
   refine ⟨rfl, ?_⟩;conv=>whnf
   intro b_1 hs_1 hh_1 hf_1;try dsimp only at hh_1 hf_1
   conv=>whnf
   refine hK _ (W.seqK λK1 hK1 => wrs λK hK => ?_);conv=>whnf
   refine ⟨⟨rfl, by decide, λx hx => (by simp at hx; rcases hx with rfl | rfl <;> exact ⟨rfl, rfl⟩)⟩, ?_⟩;conv=>whnf
   intro b_2 hs_2 hh_2 hf_2;try dsimp only at hh_2 hf_2
   conv=>whnf
   refine zb rfl (zZ kp kq g0 (some b_2) kl 2 _ (two x y) (by omega) (by omega) hlen (els2 g1 g2 x y)) λhs' hhs => ?_;try dsimp only at hhs
   conv=>whnf
   rw [hc];refine hK _ (wrs λK hK => ?_);conv=>whnf
   refine hK _ (W.cond ⟨λ_ => ?_, λhcc => absurd h0 (of_decide_eq_false hcc)⟩);clear hK;refine wrs λK hK => ?_;conv=>whnf
   refine hK _ (W.ret ?_);conv=>whnf
   exact ⟨.v (.rf 0 0), rfl, trivial, .v (.int .i64 (c)), ⟨rfl, rfl⟩, trivial, 0, rfl, λhne => absurd rfl hne⟩
 subst h0;obtain ⟨hk, hh⟩ := zjz hc;obtain ⟨hp, hx2⟩ := kh hk;letI := yL hp;obtain ⟨M, _, f, n, rfl, he⟩ := hx2;have hfl : f.l.length = dg f := rfl;have hf1 := he.mn.1;have hn8 := he.n8;obtain ⟨X, rfl⟩ := jo he.hm (hh 0 (by omega)).1;have hdX : dg X < dg f := (hh 0 (by omega)).2;have hdX : dg X <= n := by omega
 have hlX : X.l.length = dg X := rfl;obtain ⟨Y, rfl⟩ := jo he.hm (hh 1 (by omega)).1;have hdY : dg Y < dg f := (hh 1 (by omega)).2;have hdY : dg Y <= n := by omega
 have hlY : Y.l.length = dg Y := rfl;refine ⟨(rdM (X * Y) f).l, 0, λg0 g1 g2 => ?_, λg0 g1 g2 => ?_, ?_, rfl, λ_ hp' M' _ f' X' Y' n' he' e1 e2 e3 => ?_⟩
 ·refine ze (za [0, 1, 2, 3, 6, 7, 8, 14]) Tryz.func48 rfl (by decide) Tryz.ntmps48 (lb rfl) λbase => ?_;refine wrs λK hK => ?_;conv=>whnf
  refine ⟨rfl, ?_⟩;conv=>whnf
  intro b_1 hs_1 hh_1 hf_1;try dsimp only at hh_1 hf_1
  conv=>whnf
  refine hK _ (wrs λK hK => ?_);conv=>whnf
  refine zb rfl (zbZ kp kq g0 g1 g2 f.l X.l Y.l (by omega) (by omega) (by omega)) λhs' hhs => ?_;try dsimp only at hhs
  conv=>whnf
  rw [hc];refine hK _ (W.seqK λK1 hK1 => wrs λK hK => ?_);conv=>whnf
  refine hK _ (W.cond ⟨λhcc => absurd rfl (of_decide_eq_true hcc), λ_ => W.skip (hK1 _ ?_)⟩);clear hK hK1;refine wrs λK hK => ?_;conv=>whnf
  refine zb rfl (yj he g0 g1 g2 X Y hdX hdY) λhs' hhs => ?_;try dsimp only at hhs
  conv=>whnf
  refine hK _ (W.ret ?_);conv=>whnf
  exact ⟨.v (.ints none (rdM (X * Y) f).l), ⟨rfl, rfl⟩, trivial, .v (.int .i64 0), ⟨rfl, rfl⟩, trivial, rfl⟩
 ·refine y6 (zg [] [0, 1, 2, 3, 6, 7, 8, 15, 1000000]) Tryz.func32 rfl (by decide) Tryz.ntmps32 (lb rfl) (λbase => ?_) (lb rfl);refine W.sw (c' := cx [0, 1, 2, 3, 6, 7, 8, 15, 1000000]) ?_;refine wrs λK hK => ?_;conv=>whnf
  refine ⟨rfl, ?_⟩;conv=>whnf
  intro b_1 hs_1 hh_1 hf_1;try dsimp only at hh_1 hf_1
  conv=>whnf
  refine hK _ (W.seqK λK1 hK1 => wrs λK hK => ?_);conv=>whnf
  refine ⟨⟨rfl, by decide, λx hx => (by simp at hx; rcases hx with rfl | rfl <;> exact ⟨rfl, rfl⟩)⟩, ?_⟩;conv=>whnf
  intro b_2 hs_2 hh_2 hf_2;try dsimp only at hh_2 hf_2
  conv=>whnf
  refine zb rfl (zZ kp kq g0 (some b_2) f.l 2 _ (two X.l Y.l) (by omega) (by omega) hlen (els2 g1 g2 X.l Y.l)) λhs' hhs => ?_;try dsimp only at hhs
  conv=>whnf
  rw [hc];refine hK _ (wrs λK hK => ?_);conv=>whnf
  refine hK _ (W.cond ⟨λhcc => absurd rfl (of_decide_eq_true hcc), λ_ => W.skip (hK1 _ ?_)⟩);clear hK hK1;refine W.sw (c' := cxt [77] [0, 1, 2, 3, 6, 7, 8, 15, 1000000]) ?_;refine W.rs (zg _ _) (by rfl) λK hK => ?_;conv=>whnf
  refine ⟨_, cxT (za4 he g0 g1 g2 X Y hdX hdY), λlo_t hi_t hs_t x_t tn_t tb_t hl1_t hl2_t _ hp_t hf_t hn_t ho_t => ?_⟩;try dsimp only at hl1_t hl2_t
  obtain ⟨bt, rfl, ht⟩ := hp_t;conv=>whnf
  refine hK _ (W.ret ?_);conv=>whnf
  exact ⟨.v (.rf bt (rdM (X * Y) f).l.length), rfl, trivial, .v (.int .i64 0), ⟨rfl, rfl⟩, trivial, bt, rfl, λh => hn_t _ _ (ht h)⟩
 ·have := yi he.mn (X * Y);show dg (rdM (X * Y) f) <= _; omega
 ·obtain rfl : M' = M := he'.hm.symm.trans he.hm;obtain rfl := vq e1;obtain rfl := vq e2;obtain rfl := vq e3
  rfl


def RTF (q : Int) (l : List Int) (c : Int) : kw := λ_ _ x tb => ∃ b : Nat, x = .tup [.agg [.int .i64 q, .rf b l.length], .int .i64 c] ∧ (l ≠ [] -> tb b = some l)
theorem zq9 {f : Nat} {xs : List V} {c : Int} (h : FnV f xs (.tup [.agg [.int .i64 0, .nil], .int .i64 c])) : FnV f xs (.tup [vK 0 none [], .int .i64 c]) :=
 h.le λ_ _ _ r => zjh (λ_ r => zji (λ_ r => r) zot rfl rfl r) (λ_ r => r) r
theorem zra {f : Nat} {xs : List V} {c : Int} (h : FnT Tryz.prog f xs (λ_ _ x _ => x = .tup [.agg [.int .i64 0, .nil], .int .i64 c])) : FnT Tryz.prog f xs (RTF 0 [] c) :=
 h.le λ_ _ x tb hx => ⟨.tup [.agg [.int .i64 0, .rf 0 0], .int .i64 c], ⟨0, rfl, λh => absurd rfl h⟩, λ_ _ _ r => by subst hx; exact zjh (λ_ r => zji (λ_ r => r) zou rfl rfl r) (λ_ r => r) r⟩

theorem zpQ (p k : Int) (g : Option Nat) (l : List Int) (h : xV p k l) : FnT Tryz.prog 80 [vE p k g l] (λ_ _ x tb => ∃ b : Nat, x = .agg [.int .i64 p, .rf b (nrm p l).length] ∧ (nrm p l ≠ [] -> tb b = some (nrm p l))) := by
 have hs := h.1.small;have h9 := h.2.1;refine y6 (zg [] [0, 1, 2, 1000000]) Tryz.func80 rfl (by decide) Tryz.ntmps80 (lb rfl) (λbase => ?_) (lb rfl);refine W.rs (zg _ _) (by rfl) λK hK => ?_;conv=>whnf
 refine ⟨rfl, ?_⟩;conv=>whnf
 intro b_1 hs_1 hh_1 hf_1;try dsimp only at hh_1 hf_1
 conv=>whnf
 intro b_2 hs_2 hh_2 hf_2;try dsimp only at hh_2 hf_2
 conv=>whnf
 refine hK _ ?_;clear hK;refine W.seqK λK1 hK1 => W.sch follows ?_;refine Wany.takeF (zg [] []) 0 (by rfl) (by rfl) (by rfl) (by rfl) (by decide) (by kernel_rfl) (by kernel_rfl) (by kernel_rfl) ?_;conv=>whnf
 refine Wany.takeF (zg [] []) 1 (by rfl) (by rfl) (by rfl) (by rfl) (by decide) (by kernel_rfl) (by kernel_rfl) (by kernel_rfl) ?_;conv=>whnf
 refine Wany.takeF (zg [] []) 3 (by rfl) (by rfl) (by rfl) (by rfl) (by decide) (by kernel_rfl) (by kernel_rfl) (by kernel_rfl) ?_;conv=>whnf
 refine Wany.takeF (zg [] []) 4 (by rfl) (by rfl) (by rfl) (by rfl) (by decide) (by kernel_rfl) (by kernel_rfl) (by kernel_rfl) ?_;conv=>whnf
 refine Wany.takeF (zg [] []) 6 (by rfl) (by rfl) (by rfl) (by rfl) (by decide) (by kernel_rfl) (by kernel_rfl) (by kernel_rfl) ?_;conv=>whnf
 refine Wany.all (zg [] []) (by rfl) (rs := [2, 5, 7]) (by kernel_rfl) (by decide) ?_;intro i hi;simp only [List.mem_cons, List.not_mem_nil, or_false] at hi
 rcases hi with rfl | rfl | rfl <;> refine ⟨_, by rfl, by rfl, ?_⟩ <;> conv=>whnf
 ·refine Wany.two (zg [] []) 5 7 (by rfl) (by kernel_rfl) (by rfl) (by rfl) (by rfl) (by rfl) ?_ ?_ <;> conv=>whnf
  ·refine Wany.one (zg [] []) 7 (by rfl) (by kernel_rfl) (by rfl) (by rfl) ?_;conv=>whnf
   refine Wany.one (zg [] []) 8 (by rfl) (by kernel_rfl) (by rfl) (by rfl) ?_;conv=>whnf
   refine zr rfl (zG p (by omega) (by omega) g l ((zbA h).le (by omega)) (by omega)) λhs_3 b_3 hh_3 hf_3 => ?_;try dsimp only at hh_3 hf_3
   conv=>whnf
   refine Wany.take (zg [] []) 9 (by rfl) (by rfl) (λd hd => by injection hd with hd; subst hd; decide) (by kernel_rfl) (by kernel_rfl) (by kernel_rfl) (by rfl) ?_;conv=>whnf
   refine Wany.one (zg [] []) 10 (by rfl) (by kernel_rfl) (by rfl) (by rfl) ?_;conv=>whnf
   refine ⟨s23, ?_⟩;conv=>whnf
   refine wd1 (hK1 _ ?_);clear hK1;refine W.ret ?_;conv=>whnf
   exact ⟨⟨trivial, trivial, trivial⟩, b_3, rfl, λh => zJ _ _ h⟩
  ·refine Wany.one (zg [] []) 5 (by rfl) (by kernel_rfl) (by rfl) (by rfl) ?_;conv=>whnf
   refine Wany.one (zg [] []) 8 (by rfl) (by kernel_rfl) (by rfl) (by rfl) ?_;conv=>whnf
   refine zr rfl (zG p (by omega) (by omega) g l ((zbA h).le (by omega)) (by omega)) λhs_3 b_3 hh_3 hf_3 => ?_;try dsimp only at hh_3 hf_3
   conv=>whnf
   refine Wany.take (zg [] []) 9 (by rfl) (by rfl) (λd hd => by injection hd with hd; subst hd; decide) (by kernel_rfl) (by kernel_rfl) (by kernel_rfl) (by rfl) ?_;conv=>whnf
   refine Wany.one (zg [] []) 10 (by rfl) (by kernel_rfl) (by rfl) (by rfl) ?_;conv=>whnf
   refine ⟨s23, ?_⟩;conv=>whnf
   refine wd1 (hK1 _ ?_);clear hK1;refine W.ret ?_;conv=>whnf
   exact ⟨⟨trivial, trivial, trivial⟩, b_3, rfl, λh => zJ _ _ h⟩
 ·refine Wany.two (zg [] []) 2 7 (by rfl) (by kernel_rfl) (by rfl) (by rfl) (by rfl) (by rfl) ?_ ?_ <;> conv=>whnf
  ·refine Wany.one (zg [] []) 7 (by rfl) (by kernel_rfl) (by rfl) (by rfl) ?_;conv=>whnf
   refine Wany.one (zg [] []) 8 (by rfl) (by kernel_rfl) (by rfl) (by rfl) ?_;conv=>whnf
   refine zr rfl (zG p (by omega) (by omega) g l ((zbA h).le (by omega)) (by omega)) λhs_3 b_3 hh_3 hf_3 => ?_;try dsimp only at hh_3 hf_3
   conv=>whnf
   refine Wany.take (zg [] []) 9 (by rfl) (by rfl) (λd hd => by injection hd with hd; subst hd; decide) (by kernel_rfl) (by kernel_rfl) (by kernel_rfl) (by rfl) ?_;conv=>whnf
   refine Wany.one (zg [] []) 10 (by rfl) (by kernel_rfl) (by rfl) (by rfl) ?_;conv=>whnf
   refine ⟨s23, ?_⟩;conv=>whnf
   refine wd1 (hK1 _ ?_);clear hK1;refine W.ret ?_;conv=>whnf
   exact ⟨⟨trivial, trivial, trivial⟩, b_3, rfl, λh => zJ _ _ h⟩
  ·refine Wany.two (zg [] []) 2 8 (by rfl) (by kernel_rfl) (by rfl) (by rfl) (by rfl) (by rfl) ?_ ?_ <;> conv=>whnf
   ·refine Wany.one (zg [] []) 8 (by rfl) (by kernel_rfl) (by rfl) (by rfl) ?_;conv=>whnf
    refine zr rfl (zG p (by omega) (by omega) g l ((zbA h).le (by omega)) (by omega)) λhs_3 b_3 hh_3 hf_3 => ?_;try dsimp only at hh_3 hf_3
    conv=>whnf
    refine Wany.take (zg [] []) 9 (by rfl) (by rfl) (λd hd => by injection hd with hd; subst hd; decide) (by kernel_rfl) (by kernel_rfl) (by kernel_rfl) (by rfl) ?_;conv=>whnf
    refine Wany.one (zg [] []) 10 (by rfl) (by kernel_rfl) (by rfl) (by rfl) ?_;conv=>whnf
    refine ⟨s23, ?_⟩;conv=>whnf
    refine wd1 (hK1 _ ?_);clear hK1;refine W.ret ?_;conv=>whnf
    exact ⟨⟨trivial, trivial, trivial⟩, b_3, rfl, λh => zJ _ _ h⟩
   ·refine zr rfl (zG p (by omega) (by omega) g l ((zbA h).le (by omega)) (by omega)) λhs_3 b_3 hh_3 hf_3 => ?_;try dsimp only at hh_3 hf_3
    conv=>whnf
    refine Wany.one (zg [] []) 2 (by rfl) (by kernel_rfl) (by rfl) (by rfl) ?_;conv=>whnf
    refine Wany.take (zg [] []) 9 (by rfl) (by rfl) (λd hd => by injection hd with hd; subst hd; decide) (by kernel_rfl) (by kernel_rfl) (by kernel_rfl) (by rfl) ?_;conv=>whnf
    refine Wany.one (zg [] []) 10 (by rfl) (by kernel_rfl) (by rfl) (by rfl) ?_;conv=>whnf
    refine ⟨s23, ?_⟩;conv=>whnf
    refine wd1 (hK1 _ ?_);clear hK1;refine W.ret ?_;conv=>whnf
    exact ⟨⟨trivial, trivial, trivial⟩, b_3, rfl, λh => zJ _ _ h⟩
 ·refine Wany.two (zg [] []) 2 5 (by rfl) (by kernel_rfl) (by rfl) (by rfl) (by rfl) (by rfl) ?_ ?_ <;> conv=>whnf
  ·refine Wany.one (zg [] []) 5 (by rfl) (by kernel_rfl) (by rfl) (by rfl) ?_;conv=>whnf
   refine Wany.one (zg [] []) 8 (by rfl) (by kernel_rfl) (by rfl) (by rfl) ?_;conv=>whnf
   refine zr rfl (zG p (by omega) (by omega) g l ((zbA h).le (by omega)) (by omega)) λhs_3 b_3 hh_3 hf_3 => ?_;try dsimp only at hh_3 hf_3
   conv=>whnf
   refine Wany.take (zg [] []) 9 (by rfl) (by rfl) (λd hd => by injection hd with hd; subst hd; decide) (by kernel_rfl) (by kernel_rfl) (by kernel_rfl) (by rfl) ?_;conv=>whnf
   refine Wany.one (zg [] []) 10 (by rfl) (by kernel_rfl) (by rfl) (by rfl) ?_;conv=>whnf
   refine ⟨s23, ?_⟩;conv=>whnf
   refine wd1 (hK1 _ ?_);clear hK1;refine W.ret ?_;conv=>whnf
   exact ⟨⟨trivial, trivial, trivial⟩, b_3, rfl, λh => zJ _ _ h⟩
  ·refine Wany.two (zg [] []) 2 8 (by rfl) (by kernel_rfl) (by rfl) (by rfl) (by rfl) (by rfl) ?_ ?_ <;> conv=>whnf
   ·refine Wany.one (zg [] []) 8 (by rfl) (by kernel_rfl) (by rfl) (by rfl) ?_;conv=>whnf
    refine zr rfl (zG p (by omega) (by omega) g l ((zbA h).le (by omega)) (by omega)) λhs_3 b_3 hh_3 hf_3 => ?_;try dsimp only at hh_3 hf_3
    conv=>whnf
    refine Wany.take (zg [] []) 9 (by rfl) (by rfl) (λd hd => by injection hd with hd; subst hd; decide) (by kernel_rfl) (by kernel_rfl) (by kernel_rfl) (by rfl) ?_;conv=>whnf
    refine Wany.one (zg [] []) 10 (by rfl) (by kernel_rfl) (by rfl) (by rfl) ?_;conv=>whnf
    refine ⟨s23, ?_⟩;conv=>whnf
    refine wd1 (hK1 _ ?_);clear hK1;refine W.ret ?_;conv=>whnf
    exact ⟨⟨trivial, trivial, trivial⟩, b_3, rfl, λh => zJ _ _ h⟩
   ·refine zr rfl (zG p (by omega) (by omega) g l ((zbA h).le (by omega)) (by omega)) λhs_3 b_3 hh_3 hf_3 => ?_;try dsimp only at hh_3 hf_3
    conv=>whnf
    refine Wany.one (zg [] []) 2 (by rfl) (by kernel_rfl) (by rfl) (by rfl) ?_;conv=>whnf
    refine Wany.take (zg [] []) 9 (by rfl) (by rfl) (λd hd => by injection hd with hd; subst hd; decide) (by kernel_rfl) (by kernel_rfl) (by kernel_rfl) (by rfl) ?_;conv=>whnf
    refine Wany.one (zg [] []) 10 (by rfl) (by kernel_rfl) (by rfl) (by rfl) ?_;conv=>whnf
    refine ⟨s23, ?_⟩;conv=>whnf
    refine wd1 (hK1 _ ?_);clear hK1;refine W.ret ?_;conv=>whnf
    exact ⟨⟨trivial, trivial, trivial⟩, b_3, rfl, λh => zJ _ _ h⟩
-- 8 ways

theorem zfJ (kp kq : Int) (kl : List Int) (_ : inR kp) (_ : inR kq) (hkl : kl.length <= 1048576) : ∃ (r0p : Int) (r0l : List Int) (r1 : Int),
  (∀ g0 : Option Nat, FnV 26 [vE kp kq g0 kl] (.tup [vK r0p none r0l, .int .i64 r1])) ∧ (∀ g0 : Option Nat, FnT Tryz.prog 25 [vE kp kq g0 kl] (RTF r0p r0l r1)) ∧ r0l.length <= 1000000 ∧ (kU kp kq kl -> r0p = kp ∧ r0l = nrm kp kl ∧ r1 = 0) ∧ (¬ kU kp kq kl -> r1 = 1) := by
 by_cases hk : kU kp kq kl
 case neg =>
  have hc : z3 kp kq kl 0 (λ_ => []) = 1 := by unfold z3; rw [zf hk]; rfl
  refine ⟨0, [], 1, λg0 => zq9 ?_, λg0 => zra ?_, by simp, λh => absurd h hk, λ_ => rfl⟩
  ·refine ze (za [0, 1, 2, 3, 6]) Tryz.func26 rfl (by decide) Tryz.ntmps26 (lb rfl) λbase => ?_;refine wrs λK hK => ?_;conv=>whnf
   refine ⟨rfl, ?_⟩;conv=>whnf
   intro b_1 hs_1 hh_1 hf_1;try dsimp only at hh_1 hf_1
   conv=>whnf
   intro b_2 hs_2 hh_2 hf_2;try dsimp only at hh_2 hf_2
   conv=>whnf
   refine hK _ (W.seqK λK1 hK1 => wrs λK hK => ?_);conv=>whnf
   refine zb rfl ((yn kp kq g0 kl (by omega)).fa (zf hk)) λhs' hhs => ?_;try dsimp only at hhs
   conv=>whnf
   refine hK _ (W.condT rfl ?_);clear hK;refine wrs λK hK => ?_;conv=>whnf
   refine ⟨s23, ?_⟩;conv=>whnf
   refine hK _ (W.ret ?_);conv=>whnf
   exact ⟨⟨trivial, trivial, trivial⟩, .v (.int .i64 1), ⟨rfl, rfl⟩, trivial, rfl⟩
  ·refine y6 (zg [] [0, 1, 2, 3, 4, 8, 1000000]) Tryz.func25 rfl (by decide) Tryz.ntmps25 (lb rfl) (λbase => ?_) (lb rfl);refine W.sw (c' := cx [0, 1, 2, 3, 4, 8, 1000000]) ?_;refine wrs λK hK => ?_;conv=>whnf
   refine ⟨rfl, ?_⟩;conv=>whnf
   intro b_1 hs_1 hh_1 hf_1;try dsimp only at hh_1 hf_1
   conv=>whnf
   intro b_2 hs_2 hh_2 hf_2;try dsimp only at hh_2 hf_2
   conv=>whnf
   refine hK _ (W.seqK λK1 hK1 => wrs λK hK => ?_);conv=>whnf
   refine zb rfl (zZ kp kq g0 none kl 0 _ (λ_ => []) (by omega) (by omega) (λi hi => by omega) (λi hi => by omega)) λhs' hhs => ?_;try dsimp only at hhs
   conv=>whnf
   rw [hc];refine hK _ (wrs λK hK => ?_);conv=>whnf
   refine hK _ (W.cond ⟨λ_ => ?_, λhcc => absurd (by decide : (1 : Int) ≠ 0) (of_decide_eq_false hcc)⟩);clear hK;refine wrs λK hK => ?_;conv=>whnf
   refine ⟨s23, ?_⟩;conv=>whnf
   refine hK _ (W.ret ?_);conv=>whnf
   exact ⟨⟨trivial, trivial, trivial⟩, .v (.int .i64 1), ⟨rfl, rfl⟩, trivial, rfl⟩
 have hc : z3 kp kq kl 0 (λ_ => []) = 0 := by unfold z3; rw [zj hk, zj (λi hi => by omega)]; rfl
 have h9 := hk.1.2.1
 have hnl : (nrm kp kl).length <= kl.length := by
  have h3 := zW (kl.map (· % kp));rw [List.length_map] at h3; exact h3
 refine ⟨kp, nrm kp kl, 0, λg0 => ?_, λg0 => ?_, by omega, λ_ => ⟨rfl, rfl, rfl⟩, λh => absurd hk h⟩
 ·refine ze (za [0, 1, 2, 3, 6]) Tryz.func26 rfl (by decide) Tryz.ntmps26 (lb rfl) λbase => ?_;refine wrs λK hK => ?_;conv=>whnf
  refine ⟨rfl, ?_⟩;conv=>whnf
  intro b_1 hs_1 hh_1 hf_1;try dsimp only at hh_1 hf_1
  conv=>whnf
  intro b_2 hs_2 hh_2 hf_2;try dsimp only at hh_2 hf_2
  conv=>whnf
  refine hK _ (W.seqK λK1 hK1 => wrs λK hK => ?_);conv=>whnf
  refine zb rfl ((yn kp kq g0 kl (by omega)).tr (zj hk)) λhs' hhs => ?_;try dsimp only at hhs
  conv=>whnf
  refine hK _ (W.condF rfl (W.skip (hK1 _ ?_)));clear hK hK1;refine wrs λK hK => ?_;conv=>whnf
  refine zb rfl (kg kp kq g0 kl hk.1) λhs' hhs => ?_;try dsimp only at hhs
  conv=>whnf
  refine ⟨s23, ?_⟩;conv=>whnf
  refine hK _ (W.ret ?_);conv=>whnf
  exact ⟨⟨trivial, trivial, trivial⟩, .v (.int .i64 0), ⟨rfl, rfl⟩, trivial, rfl⟩
 ·refine y6 (zg [] [0, 1, 2, 3, 4, 8, 1000000]) Tryz.func25 rfl (by decide) Tryz.ntmps25 (lb rfl) (λbase => ?_) (lb rfl);refine W.sw (c' := cx [0, 1, 2, 3, 4, 8, 1000000]) ?_;refine wrs λK hK => ?_;conv=>whnf
  refine ⟨rfl, ?_⟩;conv=>whnf
  intro b_1 hs_1 hh_1 hf_1;try dsimp only at hh_1 hf_1
  conv=>whnf
  intro b_2 hs_2 hh_2 hf_2;try dsimp only at hh_2 hf_2
  conv=>whnf
  refine hK _ (W.seqK λK1 hK1 => wrs λK hK => ?_);conv=>whnf
  refine zb rfl (zZ kp kq g0 none kl 0 _ (λ_ => []) (by omega) (by omega) (λi hi => by omega) (λi hi => by omega)) λhs' hhs => ?_;try dsimp only at hhs
  conv=>whnf
  rw [hc];refine hK _ (wrs λK hK => ?_);conv=>whnf
  refine hK _ (W.cond ⟨λhcc => absurd rfl (of_decide_eq_true hcc), λ_ => W.skip (hK1 _ ?_)⟩);clear hK hK1;refine W.sw (c' := cxt [80] [0, 1, 2, 3, 4, 8, 1000000]) ?_;refine W.rs (zg _ _) (by rfl) λK hK => ?_;conv=>whnf
  refine ⟨_, cxT (zpQ kp kq g0 kl hk.1), λlo_t hi_t hs_t x_t tn_t tb_t hl1_t hl2_t _ hp_t hf_t hn_t ho_t => ?_⟩;try dsimp only at hl1_t hl2_t
  obtain ⟨bt, rfl, ht⟩ := hp_t;conv=>whnf
  refine ⟨s23, ?_⟩;conv=>whnf
  refine hK _ (W.ret ?_);conv=>whnf
  exact ⟨⟨trivial, trivial, trivial⟩, .v (.int .i64 0), ⟨rfl, rfl⟩, trivial, bt, rfl, λh => hn_t _ _ (ht h)⟩


section
variable {p k M : Int} [SP p] [Pos M] {f : Poly M} {n : Nat}

theorem zfK (h : 2 <= M) : (1 : Poly M).l = [1] := by
 have h1 : Nrm M [1] := ⟨λx hx => by simp at hx; omega, λm hm => by
  have : m = 0 := by simpa using hm
  subst this;decide⟩
 exact zeN h1
theorem zd6 : (0 : Poly M).l = [] := ko
theorem zlG (c : Int) (j : Nat) : cf [c] j = if j = 0 then c else 0 := by
 cases j with
 | zero => rfl
 | succ j => rw [zm, zS, if_neg (by omega)]
theorem zpR {c B : Int} (h : -B <= c ∧ c <= B) : Bd B [c] := λj => by rw [zlG]; split <;> omega
theorem zoM {M : Int} {c : Int} (h : 0 <= c ∧ c < M) : RgL M [c] := λj => by rw [zlG]; split <;> omega
theorem zmN (X : Poly M) : RgL M X.l := jb X
theorem zoN {B : Int} {xs ys : List Int} {A C : Int} (hx : Bd A xs) (hy : Bd C ys) (h : A + C <= B) : Bd B (zu (yr xs ys)) := λi => by
 rw [yC, y1]; have := hx i; have := hy i; omega
theorem zoO {B : Int} {xs ys : List Int} {A C : Int} (hx : Bd A xs) (hy : Bd C ys) (h : A + C <= B) : Bd B (zu (yr xs (zU (-1) ys))) := λi => by
 rw [yC, y1, va]; have := hx i; have := hy i; omega
theorem zhQ (xs ys : List Int) : (zu (yr xs ys)).length <= max xs.length ys.length := by
 have := zW (yr xs ys); unfold yr at *; rw [zH] at *; exact this
theorem zhR (xs ys : List Int) : (zu (yr xs (zU (-1) ys))).length <= max xs.length ys.length := by
 have := zhQ xs (zU (-1) ys); unfold zU at *; rwa [List.length_map] at this

/- values -/
theorem zoP (he : ExtP p k M f n) (g g1 g2 : Option Nat) (F X : Poly M) (hF : dg F <= 100) (hX : dg X <= n) : FnI 71 [vE p k g f.l, .ints g1 F.l, .ints g2 X.l] (z4 f F X (dg F)).l := by
 have h8 := he.n8;have m9 := he.m9;have hp := Pos.pos (p := M);have hFl : F.l.length = dg F := rfl;have hV := λj => kb (F := F) (X := X) he.mn he.n1 j;refine ze (za [0, 1, 2, 3, 6, 7, 8, 13]) Tryz.func71 rfl (by decide) Tryz.ntmps71 (lb rfl) λbase => ?_;refine wrs λK hK => ?_;conv=>whnf
 refine ⟨rfl, ?_⟩;conv=>whnf
 intro b_3 hs_3 hh_3 hf_3;try dsimp only at hh_3 hf_3
 conv=>whnf
 refine hK _ (wrs λK hK => ?_);conv=>whnf
 refine hK _ (W.seqK λK1 hK1 => wrs λK hK => ?_);conv=>whnf
 refine ⟨oo, ?_⟩;conv=>whnf
 refine hK _ (W.block (W.invA (λm e => ∃ (j b : Nat) (s : List Int), j <= dg F ∧ s = (z4 f F X (dg F - j)).l ∧ m = j ∧ e = [(1, .v (.ints g1 F.l)), (2, .v (.ints g2 X.l)), (3, .ownB b_3 (vE p k g f.l)), (7, .ownI 2 b s), (8, .v (.int .i64 ((j : Int) - 1)))]) ⟨F.l.length, 0, [], Nat.le_refl _, (by rw [hFl, Nat.sub_self]; exact zd6.symm), rfl, rfl⟩ ?_));clear hK;rintro m e ⟨j', b, s, hj, rfl, hm, rfl⟩;refine W.seqK λK7 hK7 => wrs λK hK => ?_;conv=>whnf
 refine hK _ (W.cond ⟨λh => ?_, λh => ?_⟩) <;> clear hK <;> (first | replace h := of_decide_eq_true h | replace h := of_decide_eq_false h)
 ·obtain ⟨j, rfl⟩ : ∃ j, j' = j + 1 := ⟨j' - 1, by omega⟩
  obtain ⟨t, ht⟩ : ∃ t, dg F = t + (j + 1) := ⟨dg F - (j + 1), by omega⟩
  have e0 : dg F - (j + 1) = t := by omega
  rw [e0];have hVj := hV t;have hR := yi he.mn (z4 f F X t * X);have hRl : (rdM (z4 f F X t * X) f).l.length = dg (rdM (z4 f F X t * X) f) := rfl;have e1 : (((j + 1 : Nat) : Int) - 1) = j := by omega
  have hcr := jb F j;have hsl := zhQ (rdM (z4 f F X t * X) f).l [cf F.l j]
  have hnx : (rdM (z4 f F X t * X) f + cn M (cf F.l j)).l = (z4 f F X (dg F - j)).l := by
   rw [show dg F - j = t + 1 by omega, z4, show dg F - 1 - t = j by omega]
  refine W.skip (hK7 _ ?_);clear hK7;refine W.seqK λK8 hK8 => W.block ?_;rw [e1];refine W.drawS 13 (za _) follows (by rfl) ?_;conv=>whnf
  refine ⟨by show 0 + 2 <= 3; omega, ?_⟩;conv=>whnf
  refine ⟨_, cxF (zK he.rn.1 he.hm), ?_⟩;conv=>whnf
  refine ⟨_, cxF (kV he g (some b) g2 (z4 f F X t) X hVj hX), ?_⟩;conv=>whnf
  refine ⟨oo, ?_⟩;conv=>whnf
  rw [Int.toNat_natCast];refine ⟨⟨rfl, by decide⟩, ?_⟩;conv=>whnf
  have e2 : F.l.getD j 0 = cf F.l j := rfl;rw [e2];refine ⟨_, cxF ((zcy none none (rdM (z4 f F X t * X) f).l [cf F.l j] ((kv m9 _).le (by omega)) (zpR (by omega)) (by omega) (by simp)).toV), ?_⟩;conv=>whnf
  refine zr rfl (zG M (by omega) (by omega) none (zu (yr (rdM (z4 f F X t * X) f).l [cf F.l j])) (zoN (kv m9 _) (zpR (B := 999999999) (by omega)) (by omega)) (by simp at hsl; omega)) λhs_5 b_5 hh_5 hf_5 => ?_;try dsimp only at hh_5 hf_5
  conv=>whnf
  rw [zlu, hnx];refine hK8 _ ?_;clear hK8;refine wrg ?_;conv=>whnf
  refine ⟨oo, ?_⟩;conv=>whnf
  exact zk ⟨j, b_5, _, by omega, rfl, rfl, rfl⟩
 ·obtain rfl : j' = 0 := by omega
  refine W.exit (hK1 _ ?_);clear hK7 hK1;refine W.sw (c' := cxr [0, 1, 2, 3, 6, 7, 8, 13]) (W.rs (zos _) (by rfl) λK hK => ?_);conv=>whnf
  refine hK _ (W.ret ?_);conv=>whnf
  exact ⟨.ownI 2 _ ((z4 f F X (dg F)).l), ⟨rfl, rfl, rfl⟩, trivial, _, rfl⟩
theorem zd7 (he : ExtP p k M f n) (g g1 g2 : Option Nat) (F X : Poly M) (hF : dg F <= 100) (hX : dg X <= n) : FnV 71 [vE p k g f.l, .ints g1 F.l, .ints g2 X.l] (.ints none (z4 f F X (dg F)).l) :=
 (zoP he g g1 g2 F X hF hX).toV

theorem zpS (X : Poly M) (c : Int) : nrm M (yr X.l (zU 1 [c])) = (X + cn M c).l := by rw [zjt, <- yE, zlu]
theorem zpT (X : Poly M) (c : Int) : nrm M (yr [c] (zU (-1) X.l)) = (cn M c - X).l := by rw [<- yE, zlv]
theorem zqH (X Y : Poly M) : nrm M (yr X.l (zU (-1) Y.l)) = (X - Y).l := by rw [<- yE, zop]
theorem zqI (X Y : Poly M) : nrm M (yr X.l (zU 1 Y.l)) = (X + Y).l := by rw [zjt, <- yE, zoo]

theorem za6 (he : ExtP p k M f n) (g g1 g2 : Option Nat) (F X : Poly M) (hF : dg F <= 100) (hX : dg X <= n) : FnV 114 [vE p k g f.l, .ints g1 F.l, .ints g2 X.l] (.ints none (z4 f F X (dg F)).l) := by
 have h8 := he.n8;have m9 := he.m9;have hp := Pos.pos (p := M);have hFl : F.l.length = dg F := rfl;have hV := λj => kb (F := F) (X := X) he.mn he.n1 j;refine ze (za [0, 1, 2, 3, 6, 7, 8, 14]) Tryz.func114 rfl (by decide) Tryz.ntmps114 (lb rfl) λbase => ?_;refine wrs λK hK => ?_;conv=>whnf
 refine ⟨rfl, ?_⟩;conv=>whnf
 intro b_3 hs_3 hh_3 hf_3;try dsimp only at hh_3 hf_3
 conv=>whnf
 refine hK _ (wrs λK hK => ?_);conv=>whnf
 refine ⟨⟨rfl, by decide⟩, ?_⟩;conv=>whnf
 intro b_4 hs_4 hh_4 hf_4;try dsimp only at hh_4 hf_4
 conv=>whnf
 refine hK _ (W.seqK λK1 hK1 => wrs λK hK => ?_);conv=>whnf
 refine ⟨oo, ?_⟩;conv=>whnf
 refine hK _ (W.block (W.invA (λm e => ∃ (j : Nat) (s : List Int), j <= dg F ∧ s = (z4 f F X (dg F - j)).l ∧ m = j ∧ e = [(1, .v (.ints g1 F.l)), (2, .v (.ints g2 X.l)), (3, .ownB b_3 (vE p k g f.l)), (7, .v (.ints none s)), (8, .v (.int .i64 ((j : Int) - 1)))]) ⟨F.l.length, [], Nat.le_refl _, (by rw [hFl, Nat.sub_self]; exact zd6.symm), rfl, rfl⟩ ?_));clear hK;rintro m e ⟨j', s, hj, rfl, hm, rfl⟩;refine W.seqK λK7 hK7 => wrs λK hK => ?_;conv=>whnf
 refine hK _ (W.cond ⟨λh => ?_, λh => ?_⟩) <;> clear hK <;> (first | replace h := of_decide_eq_true h | replace h := of_decide_eq_false h)
 ·obtain ⟨j, rfl⟩ : ∃ j, j' = j + 1 := ⟨j' - 1, by omega⟩
  obtain ⟨t, ht⟩ : ∃ t, dg F = t + (j + 1) := ⟨dg F - (j + 1), by omega⟩
  have e0 : dg F - (j + 1) = t := by omega
  rw [e0];have hVj := hV t;have hR := yi he.mn (z4 f F X t * X);have hRl : (rdM (z4 f F X t * X) f).l.length = dg (rdM (z4 f F X t * X) f) := rfl;have e1 : (((j + 1 : Nat) : Int) - 1) = j := by omega
  have hcr := jb F j
  have hnx : (rdM (z4 f F X t * X) f + cn M (cf F.l j)).l = (z4 f F X (dg F - j)).l := by
   rw [show dg F - j = t + 1 by omega, z4, show dg F - 1 - t = j by omega]
  refine W.skip (hK7 _ ?_);clear hK7;refine W.seqK λK8 hK8 => W.block ?_;rw [e1];refine W.draw (za _) follows (by rfl) ?_;conv=>whnf
  refine ⟨_, cxF (yj he g none g2 (z4 f F X t) X hVj hX), ?_⟩;conv=>whnf
  refine ⟨oo, ?_⟩;conv=>whnf
  rw [Int.toNat_natCast];refine ⟨⟨rfl, by decide⟩, ?_⟩;conv=>whnf
  have e2 : F.l.getD j 0 = cf F.l j := rfl;rw [e2];refine ⟨_, cxF (jp he g), ?_⟩;conv=>whnf
  refine ⟨_, cxF ((zbn m9 none none (rdM (z4 f F X t * X) f).l [cf F.l j] 1 (.inl rfl) (zmN _) (zoM hcr) (by omega) (by simp)).toV), ?_⟩;conv=>whnf
  rw [zpS, hnx];refine hK8 _ ?_;clear hK8;refine wrg ?_;conv=>whnf
  refine ⟨oo, ?_⟩;conv=>whnf
  exact zk ⟨j, _, by omega, rfl, rfl, rfl⟩
 ·obtain rfl : j' = 0 := by omega
  refine W.exit (hK1 _ ?_);clear hK7 hK1;refine wrs λK hK => ?_;conv=>whnf
  refine hK _ (W.ret ?_);conv=>whnf
  exact ⟨.v (.ints none (z4 f F X (dg F)).l), ⟨rfl, rfl⟩, trivial, rfl⟩

/- inverses -/
theorem zkK (he : ExtP p k M f n) {X U : Poly M} (h : Cg f (X * U) 1) : im p f ∣ im p X * im p U - 1 := by
 obtain ⟨q, hq⟩ := zls he.pm h;rw [jQ he.pm, zfj he.pm] at hq;exact ⟨q, comb 1 hq (zh [im p X, im p U, q, im p f] (by rfl))⟩
theorem zpU (he : ExtP p k M f n) {X U : Poly M} (h : Cg f (X * U) 1) : ¬ im p f ∣ im p X := λhd => by
 have h1 := dvd_sub (ye (im p U) hd) (zkK he h);rw [show im p U * im p X - (im p X * im p U - 1) = 1 from zh [im p U, im p X] (by rfl)] at h1;have h2 := zP h1 zeQ;rw [yT] at h2;have h3 := he.irr.1;omega
theorem xJ (he : ExtP p k M f n) (g : Option Nat) : FnV 80 [vE p k g f.l] (vK p none (im p f).l) := zfH p k g f.l he.rn
theorem zfL (he : ExtP p k M f n) (g : Option Nat) : FnV 85 [vE p k g f.l] (vK p none (im p f).l) := kg p k g f.l he.rn
theorem zfM (he : ExtP p k M f n) (g : Option Nat) (X : Poly M) (hX : dg X <= n) : FnI 62 [.int .i64 p, .ints g X.l] (im p X).l := by
 have := he.rn.1.small;have hXl : X.l.length = dg X := rfl;have h8 := he.n8;exact zG p (by omega) (by omega) g X.l ((kv he.m9 X).le (by omega)) (by omega)
theorem za7 (he : ExtP p k M f n) (g : Option Nat) (X : Poly M) (hX : dg X <= n) : FnI 65 [.int .i64 p, .ints g X.l] (im p X).l := by
 have := he.rn.1.small;have hXl : X.l.length = dg X := rfl;have h8 := he.n8;exact xt p (by omega) (by omega) g X.l ((kv he.m9 X).le (by omega)) (by omega)

theorem zoQ (he : ExtP p k M f n) (g g1 : Option Nat) (X U : Poly M) (hX : dg X <= n) (hU : dg U <= n) (hU2 : Cg f (X * U) 1) : FnT Tryz.prog 63 [vE p k g f.l, .ints g1 X.l] (R1 U.l) := by
 have h8 := he.n8;have hn1 := he.n1;have m9 := he.m9;have hp := Pos.pos (p := M);obtain ⟨s1, s2, s3, s4, s5, s6⟩ := he.rn.1.small;have hmM : M = p ^ k.toNat := he.hm.symm;have hfd := (zaV he.pm he.mn).1;have hXd := zbw (p := p) X;have hUd := zbw (p := p) U;have hI0 : InvI p f X n (2 ^ 0) (lft M (im p U)) := InvI.start he.pm (by omega) (zkK he hU2);have hl0 : (im p U).l = (lft M (im p U)).l := (zlr he.ple _).symm;refine y6 (zg [] [0, 1, 2, 4, 5, 6, 27, 1000000]) Tryz.func63 rfl (by decide) Tryz.ntmps63 (lb rfl) (λbase => ?_) (lb rfl);refine W.sw (c' := cx [0, 1, 2, 4, 5, 6, 27, 1000000]) ?_;refine wrs λK hK => ?_;conv=>whnf
 refine ⟨rfl, ?_⟩;conv=>whnf
 intro b_2 hs_2 hh_2 hf_2;try dsimp only at hh_2 hf_2
 conv=>whnf
 refine hK _ (wrs λK hK => ?_);conv=>whnf
 refine ⟨by show 0 + 2 <= 3; omega, ?_⟩;conv=>whnf
 refine zb rfl (zK he.rn.1 he.hm) λhs' hhs => ?_;try dsimp only at hhs
 conv=>whnf
 refine hK _ ?_;clear hK;refine W.sw (c' := cxt [] [0, 1, 2, 4, 5, 6, 27, 1000000]) ?_;refine W.rdS 11 (zg _ _) follows (by rfl) λK hK => ?_;conv=>whnf
 refine ⟨_, zda ((zfM he g1 X hX).toV), ?_⟩;conv=>whnf
 refine ⟨_, zda (xJ he g), ?_⟩;conv=>whnf

 refine zr rfl (zjw p none none (im p X) (im p f) (im p U) (by omega) (by omega) (by omega) (by omega) (zkK he hU2)) λhs_6 b_6 hh_6 hf_6 => ?_;try dsimp only at hh_6 hf_6
 conv=>whnf
 rw [hl0];refine hK _ ?_;clear hK;refine W.give 6 λK hK => ?_;conv=>whnf
 refine hK _ ?_;clear hK;refine W.seqK λK1 hK1 => W.block (W.invA (λm e => ∃ (i : Nat) (y : Poly M) (b : Nat) (tb : Tab), InvI p f X n (2 ^ i) y ∧ i <= 40 ∧ (y.l ≠ [] -> tb b = some y.l) ∧ m = 40 - i ∧ e = [(vt, .tab tb), (1, .v (.ints g1 X.l)), (2, .ownB b_2 (vE p k g f.l)), (5, .v (.int .i64 M)), (6, .v (.rf b y.l.length))]) ⟨0, lft M (im p U), b_6, _, hI0, by omega, λh => zJ _ _ h, rfl, rfl⟩ ?_);rintro m e ⟨i, y, b, tb, hI, hi, hy, hm, rfl⟩;have hyd := hI.deg;have hR := yi he.mn (X * y);have hRl : (rdM (X * y) f).l.length = dg (rdM (X * y) f) := rfl;refine W.seqK λK7 hK7 => ?_;refine W.rs (zg _ _) (by rfl) λK hK => ?_;conv=>whnf
 refine ⟨y.l, ⟨rfl, hy⟩, ?_⟩;conv=>whnf
 refine zb rfl (kV he g g1 (some b) X y hX hyd) λhs' hhs => ?_;try dsimp only at hhs
 conv=>whnf
 by_cases h1 : (rdM (X * y) f).l = [1]
 ·have h2 : rdM (X * y) f = 1 := vq (by rw [h1, zfK he.m2]);obtain rfl := hI.is he.mn h2 hU hU2;refine zb rfl ((zjv none (rdM (X * y) f).l).tr (decide_eq_true h1)) λhs' hhs => ?_;try dsimp only at hhs
  conv=>whnf
  refine hK _ (W.condF rfl (W.exit (hK1 _ ?_)));clear hK hK7 hK1;refine W.rs (zg _ _) (by rfl) λK hK => ?_;conv=>whnf
  refine hK _ (W.ret ?_);conv=>whnf
  exact ⟨.v (.rf b y.l.length), rfl, trivial, b, rfl, hy⟩
 ·have h3 : 2 ^ i < k.toNat := Nat.lt_of_not_le λh => h1 (by rw [hI.rem hmM he.mn hn1 h, zfK he.m2]);have h4 : i < 2 ^ i := Nat.lt_two_pow_self;have hcd := vG (cn M 2) (rdM (X * y) f);have hc2 := zog (m := M) 2;have hcd2 : dg (cn M 2 - rdM (X * y) f) <= n := by omega
  have hsl := zhR [2] (rdM (X * y) f).l;refine zb rfl ((zjv none (rdM (X * y) f).l).fa (decide_eq_false h1)) λhs' hhs => ?_;try dsimp only at hhs
  conv=>whnf
  refine hK _ (W.condT rfl (W.skip (hK7 _ (W.block ?_))));clear hK hK7;refine W.sw (c' := cxt [77] [0, 1, 2, 4, 5, 6, 27, 1000000]) ?_;refine W.drawS2 10 (zg [] []) (zg _ _) follows (by rfl) ?_;conv=>whnf
  refine ⟨⟨rfl, by decide⟩, ?_⟩;conv=>whnf
  refine ⟨y.l, ⟨rfl, hy⟩, ?_⟩;conv=>whnf
  refine ⟨_, zda (kV he g g1 (some b) X y hX hyd), ?_⟩;conv=>whnf
  refine ⟨_, zda ((zfE none none [2] (rdM (X * y) f).l (zpR (by omega)) ((kv m9 _).le (by omega)) (by simp) (by omega)).toV), ?_⟩;conv=>whnf
  refine ⟨_, zda ((zG M (by omega) (by omega) none (zu (yr [2] (zU (-1) (rdM (X * y) f).l))) (zoO (zpR (B := 2) (by omega)) (kv m9 _) (by omega)) (by simp at hsl; omega)).toV), ?_⟩;conv=>whnf
  rw [zlv];refine ⟨y.l, ⟨rfl, hy⟩, ?_⟩;conv=>whnf
  refine ⟨_, cxT (za4 he g (some b) none y (cn M 2 - rdM (X * y) f) hyd hcd2), λlo_t hi_t hs_t x_t tn_t tb_t hl1_t hl2_t _ hp_t hf_t hn_t ho_t => ?_⟩;try dsimp only at hl1_t hl2_t
  obtain ⟨bt, rfl, ht⟩ := hp_t;conv=>whnf
  exact zk ⟨i + 1, rdM (y * (cn M 2 - rdM (X * y) f)) f, bt, tb_t, (by rw [Nat.pow_succ, Nat.mul_two]; exact hI.step he.mn), by omega, λh => hn_t _ _ (ht h), rfl, rfl⟩
theorem zpV (he : ExtP p k M f n) (g g1 : Option Nat) (X U : Poly M) (hX : dg X <= n) (hU : dg U <= n) (hU2 : Cg f (X * U) 1) : FnV 63 [vE p k g f.l, .ints g1 X.l] (.ints none U.l) :=
 R1.V (zoQ he g g1 X U hX hU hU2)

theorem zbB (he : ExtP p k M f n) (g g1 : Option Nat) (X U : Poly M) (hX : dg X <= n) (hU : dg U <= n) (hU2 : Cg f (X * U) 1) : FnV 66 [vE p k g f.l, .ints g1 X.l] (.ints none U.l) := by
 have h8 := he.n8;have hn1 := he.n1;have m9 := he.m9;have m2 := he.m2;have hp := Pos.pos (p := M);obtain ⟨s1, s2, s3, s4, s5, s6⟩ := he.rn.1.small;have hmM : M = p ^ k.toNat := he.hm.symm;have hfd := (zaV he.pm he.mn).1;have hfl : (im p f).l.length = dg (im p f) := rfl;have hf0 := he.irr.ne;have hXd := zbw (p := p) X;obtain ⟨hq1, hq2, hq3⟩ := zp8 he.fld hfd;have hiv := zpC he.irr (zpU he hU2) hfd;have hil := zO (im p X ^ (2 * p.toNat ^ n - 3)) hf0;generalize p.toNat ^ n = q at hq1 hq2 hq3 hiv hil;have hI0 : InvI p f X n (2 ^ 0) (lft M (rem (im p X ^ (2 * q - 3)) (im p f))) := InvI.start he.pm (by omega) hiv;have hl0 : (rem (im p X ^ (2 * q - 3)) (im p f)).l = (lft M (rem (im p X ^ (2 * q - 3)) (im p f))).l := (zlr he.ple _).symm;have h2m : (2 : Int).tmod M = 2 % M := Int.tmod_eq_emod_of_nonneg (by omega);have h2r : 0 <= 2 % M ∧ 2 % M < M := ⟨Int.emod_nonneg _ (by omega), Int.emod_lt_of_pos _ (by omega)⟩
 refine ze (za [0, 1, 2, 4, 5, 6, 7, 24]) Tryz.func66 rfl (by decide) Tryz.ntmps66 (lb rfl) λbase => ?_;refine wrs λK hK => ?_;conv=>whnf
 refine ⟨rfl, ?_⟩;conv=>whnf
 intro b_2 hs_2 hh_2 hf_2;try dsimp only at hh_2 hf_2
 conv=>whnf
 refine hK _ (wrs λK hK => ?_);conv=>whnf
 refine zb rfl (zfL he g) λhs' hhs => ?_;try dsimp only at hhs
 conv=>whnf
 intro b_3 hs_3 hh_3 hf_3;try dsimp only at hh_3 hf_3
 conv=>whnf
 refine ⟨s23, ?_⟩;conv=>whnf
 refine hK _ ?_;clear hK;refine W.rd (za _) follows (by rfl) λK hK => ?_;conv=>whnf
 refine ⟨_, cxF ((za7 he g1 X hX).toV), ?_⟩;conv=>whnf
 refine ⟨_, cxF (zfC p none (im p f).l he.fld), ?_⟩;conv=>whnf
 rw [hq1];refine ⟨oo, ?_⟩;conv=>whnf
 refine ⟨oo, ?_⟩;conv=>whnf
 rw [show (2 : Int) * ((q : Nat) : Int) - 3 = ((2 * q - 3 : Nat) : Int) by omega];refine ⟨_, cxF (zdH p none none (im p f) (im p X) (2 * q - 3) (by omega) (by omega) (by omega) hf0), ?_⟩;conv=>whnf
 rw [hl0];refine hK _ (W.seqK λK1 hK1 => wrs λK hK => ?_);conv=>whnf
 refine hK _ (W.block (W.invA (λm e => ∃ (i : Nat) (y : Poly M), InvI p f X n (2 ^ i) y ∧ i <= 40 ∧ m = 40 - i ∧ e = [(1, .v (.ints g1 X.l)), (2, .ownB b_2 (vE p k g f.l)), (6, .v (.ints none y.l)), (7, .v (.int .i64 ((2 ^ i : Nat) : Int)))]) ⟨0, lft M (rem (im p X ^ (2 * q - 3)) (im p f)), hI0, by omega, rfl, rfl⟩ ?_));clear hK;rintro m e ⟨i, y, hI, hi, hm, rfl⟩;have hyd := hI.deg;have hR := yi he.mn (X * y);have hRl : (rdM (X * y) f).l.length = dg (rdM (X * y) f) := rfl;refine W.seqK λK7 hK7 => wrs λK hK => ?_;conv=>whnf
 refine hK _ (W.cond ⟨λh => ?_, λh => ?_⟩) <;> clear hK <;> (first | replace h := of_decide_eq_true h | replace h := of_decide_eq_false h)
 ·have h4 : i < 2 ^ i := Nat.lt_two_pow_self;have hcd := vG (cn M 2) (rdM (X * y) f);have hc2 := zog (m := M) 2;have hcd2 : dg (cn M 2 - rdM (X * y) f) <= n := by omega
  have hps : ((2 ^ (i + 1) : Nat) : Int) = 2 * ((2 ^ i : Nat) : Int) := by rw [Nat.pow_succ]; omega
  refine W.skip (hK7 _ ?_);clear hK7;refine W.seqK λK8 hK8 => W.block ?_;refine W.draw (za _) follows (by rfl) ?_;conv=>whnf
  refine ⟨_, cxF (jp he g), ?_⟩;conv=>whnf
  refine ⟨by omega, ?_⟩;conv=>whnf
  rw [h2m];refine ⟨⟨rfl, by decide⟩, ?_⟩;conv=>whnf
  refine ⟨_, cxF (yj he g g1 none X y hX hyd), ?_⟩;conv=>whnf
  refine ⟨_, cxF (jp he g), ?_⟩;conv=>whnf
  refine ⟨_, cxF ((zbn m9 none none [2 % M] (rdM (X * y) f).l (-1) (.inr rfl) (zoM h2r) (zmN _) (by simp) (by omega)).toV), ?_⟩;conv=>whnf
  rw [zpT, zfh];refine ⟨_, cxF (yj he g none none y (cn M 2 - rdM (X * y) f) hyd hcd2), ?_⟩;conv=>whnf
  refine hK8 _ ?_;clear hK8;refine wrg ?_;conv=>whnf
  refine ⟨oo, ?_⟩;conv=>whnf
  refine ⟨_, _, ⟨i + 1, _, (by rw [Nat.pow_succ, Nat.mul_two]; exact hI.step he.mn), by omega, rfl, rfl⟩, by omega, by dsimp only; omega, ?_⟩;rw [hps];exact cvr
 ·obtain rfl := hI.fin hmM he.mn (by omega) hU hU2;refine W.exit (hK1 _ ?_);clear hK7 hK1;refine wrs λK hK => ?_;conv=>whnf
  refine hK _ (W.ret ?_);conv=>whnf
  exact ⟨.v (.ints none y.l), ⟨rfl, rfl⟩, trivial, rfl⟩
end


section
variable {p k M : Int} [SP p] [Pos M] {f : Poly M} {n : Nat}

theorem zoR (m9 : M <= 1000000000) (h9 : dg f <= 100) : Bd 100000000000 (mkL (f.l.length - 1) (dv (cf f.l))) := λj => by
 rw [y0]
 split
 ·rename_i hj
  have h1 := jb f (j + 1);have hfl : f.l.length = dg f := rfl;have h2 : 0 <= ((j : Int) + 1) * cf f.l (j + 1) := Int.mul_nonneg (by omega) h1.1;have h3 : ((j : Int) + 1) * cf f.l (j + 1) <= 100 * 1000000000 := Int.mul_le_mul (by omega) (by omega) h1.1 (by omega);unfold dv;omega
 ·omega
theorem zi2 : nrm M (mkL (f.l.length - 1) (dv (cf f.l))) = (zcx f).l := rfl
theorem zgQ (he : ExtP p k M f n) {y : Poly M} {i : Nat} (hI : RootI p f n i y) : ∃ s, dg s <= n ∧ Cg f (slp f y * s) 1 :=
 ka he.hm.symm (by have := he.rn.1.small; omega) he.mn he.irr (hI.unit he.pm he.mn he.irr)
theorem zoS (he : ExtP p k M f n) (y : Poly M) : dg (slp f y) <= n := kb he.mn he.n1 _


theorem zjB (he : ExtP p k M f n) (g : Option Nat) (R : Poly M) (hR : RootI p f n k.toNat R) : FnT Tryz.prog 67 [vE p k g f.l] (R1 R.l) := by
 have h8 := he.n8;have hn1 := he.n1;have m9 := he.m9;have hp := Pos.pos (p := M);obtain ⟨s1, s2, s3, s4, s5, s6⟩ := he.rn.1.small;have hmM : M = p ^ k.toNat := he.hm.symm;have hf1 := he.mn.1;have hfl : f.l.length = dg f := rfl;have hfd := (zaV he.pm he.mn).1;have hX1 : dg (X p) <= 2 := by show (X p).l.length <= 2; rw [X_l]; simp
 have eX : [(0 : Int), 1] = (X p).l := X_l.symm;have hf0 := he.irr.ne;have hI0 : RootI p f n (2 ^ 0) (lft M (rem (X p ^ p.toNat) (im p f))) := RootI.start he.pm he.ple he.irr hfd;have hl0 : (rem (X p ^ p.toNat) (im p f)).l = (lft M (rem (X p ^ p.toNat) (im p f))).l := (zlr he.ple _).symm;have hdd := zly f;have hmkl : (mkL (f.l.length - 1) (dv (cf f.l))).length <= 100 := by rw [zH]; omega
 refine y6 (zg [] [0, 1, 2, 3, 4, 5, 6, 24, 1000000]) Tryz.func67 rfl (by decide) Tryz.ntmps67 (lb rfl) (λbase => ?_) (lb rfl);refine W.sw (c' := cx [0, 1, 2, 3, 4, 5, 6, 24, 1000000]) ?_;refine wrs λK hK => ?_;conv=>whnf
 refine ⟨rfl, ?_⟩;conv=>whnf
 intro b_1 hs_1 hh_1 hf_1;try dsimp only at hh_1 hf_1
 conv=>whnf
 refine hK _ ?_;clear hK;refine W.seqK λK1 hK1 => ?_
 have fin : ∀ (b : Nat) (t : S), base <= t.hs -> zB t.env [(vt, .tab λ_ => none), (1, .ownB b_1 (vE p k g f.l)), (3, .ownB b (vK p none (im p f).l)), (4, .v (.int .i64 M))] -> K1 t := by
  intro b3 t h7 h9;refine hK1 _ (W.weak (t := ⟨[(vt, .tab λ_ => none), (1, .ownB b_1 (vE p k g f.l)), (3, .ownB b3 (vK p none (im p f).l)), (4, .v (.int .i64 M))], base⟩) ⟨h7, h9⟩ (Nat.le_refl _) ?_);clear hK1;refine W.sw (c' := cxt [134] [0, 1, 2, 3, 4, 5, 6, 24, 1000000]) ?_;refine W.rs (zg _ _) (by rfl) λK hK => ?_;conv=>whnf
  refine ⟨⟨rfl, by decide⟩, ?_⟩;conv=>whnf
  intro b_7 hs_7 hh_7 hf_7;try dsimp only at hh_7 hf_7
  conv=>whnf
  rw [eX];refine ⟨_, cxT (zmJ p none (some b_7) (im p f) (X p) (by omega) (by omega) hf0), λlo_y hi_y hs_y x_y tn_y tb_y hl1_y hl2_y _ hp_y hf_y hn_y ho_y => ?_⟩;try dsimp only at hl1_y hl2_y
  obtain ⟨b0, rfl, hy0⟩ := hp_y;conv=>whnf
  refine hK _ ?_;clear hK;rw [hl0];rw [hl0] at hy0;refine W.sw (c' := cxt [] [0, 1, 2, 3, 4, 5, 6, 24, 1000000]) ?_;refine W.seqK λK1 hK1 => W.block (W.invA (λm e => ∃ (i : Nat) (y : Poly M), RootI p f n (2 ^ i) y ∧ i <= 40 ∧ m = 40 - i ∧ ((∃ (b : Nat) (tb : Tab), (y.l ≠ [] -> tb b = some y.l) ∧ e = [(vt, .tab tb), (1, .ownB b_1 (vE p k g f.l)), (4, .v (.int .i64 M)), (5, .v (.rf b y.l.length))]) ∨ ∃ (b : Nat) (tb : Tab), e = [(vt, .tab tb), (1, .ownB b_1 (vE p k g f.l)), (4, .v (.int .i64 M)), (5, .ownI 2 b y.l)])) ⟨0, _, hI0, by omega, rfl, .inl ⟨b0, tb_y, λh => hn_y _ _ (hy0 h), rfl⟩⟩ ?_);rintro m e ⟨i, y, hI, hi, hm, hcase⟩;have hyd := hI.deg;have hV := kb (F := f) (X := y) he.mn hn1 (dg f);obtain ⟨s, hs1, hs2⟩ := zgQ he hI;have hSd := zoS he y;have hR1 := yi he.mn (z4 f f y (dg f) * s);have hRl : (rdM (z4 f f y (dg f) * s) f).l.length = dg (rdM (z4 f f y (dg f) * s) f) := rfl;have hyl : y.l.length = dg y := rfl;have hsl := zhR y.l (rdM (z4 f f y (dg f) * s) f).l;refine W.give 5 λK9 hK9 => ?_
  have core : ∀ (b : Nat) (tb : Tab) (t : S), (y.l ≠ [] -> tb b = some y.l) -> base <= t.hs -> zB t.env [(vt, .tab tb), (1, .ownB b_1 (vE p k g f.l)), (4, .v (.int .i64 M)), (5, .v (.rf b y.l.length))] -> K9 t := by
   intro b tb t hy h7 h9;refine hK9 _ (W.weak (t := ⟨[(vt, .tab tb), (1, .ownB b_1 (vE p k g f.l)), (4, .v (.int .i64 M)), (5, .v (.rf b y.l.length))], base⟩) ⟨h7, h9⟩ (Nat.le_refl _) ?_);clear hK9 hcase;refine W.seqK λK7 hK7 => ?_;refine W.rs (zg _ _) (by rfl) λK hK => ?_;conv=>whnf
   refine ⟨y.l, ⟨rfl, hy⟩, ?_⟩;conv=>whnf
   refine zr rfl (zoP he g g (some b) f y (by omega) hyd) λhs_8 b_8 hh_8 hf_8 => ?_;try dsimp only at hh_8 hf_8
   conv=>whnf
   have hVl : (z4 f f y (dg f)).l.length = dg (z4 f f y (dg f)) := rfl;refine hK _ (W.cond ⟨λh => ?_, λh => ?_⟩) <;> clear hK
   ·have h := of_decide_eq_true h
    have hlt : 2 ^ i < k.toNat := Nat.lt_of_not_le λhle => by
     have h0 := hI.zero_of hmM he.mn hn1 hle;rw [h0] at hVl h;rw [zhA] at hVl;omega
    have h4 : i < 2 ^ i := Nat.lt_two_pow_self;refine W.skip (hK7 _ (W.block ?_));clear hK7;refine W.rd (zg _ _) follows (by rfl) λK hK => ?_;conv=>whnf
    refine ⟨_, zda (zbx g f.l ((kv m9 f).le (by omega)) (by omega)), ?_⟩;conv=>whnf
    refine ⟨_, zda ((zG M (by omega) (by omega) none _ ((zoR m9 (by omega)).le (by omega)) (by omega)).toV), ?_⟩;conv=>whnf
    rw [zi2];refine ⟨y.l, ⟨rfl, hy⟩, ?_⟩;conv=>whnf
    refine ⟨_, zda (zd7 he g none (some b) (zcx f) y (by omega) hyd), ?_⟩;conv=>whnf
    refine hK _ ?_;clear hK;have eS : z4 f (zcx f) y (dg (zcx f)) = slp f y := rfl;rw [eS];refine W.drawS 13 (zg _ _) follows (by rfl) ?_;conv=>whnf
    refine ⟨y.l, ⟨rfl, hy⟩, ?_⟩;conv=>whnf
    refine ⟨_, zda (zd7 he g g (some b) f y (by omega) hyd), ?_⟩;conv=>whnf
    refine ⟨_, zda (zpV he g none (slp f y) s hSd hs1 hs2), ?_⟩;conv=>whnf
    refine ⟨_, zda (kV he g none none (z4 f f y (dg f)) s hV hs1), ?_⟩;conv=>whnf
    refine ⟨y.l, ⟨rfl, hy⟩, ?_⟩;conv=>whnf
    refine ⟨_, zda ((zfE (some b) none y.l (rdM (z4 f f y (dg f) * s) f).l ((kv m9 _).le (by omega)) ((kv m9 _).le (by omega)) (by omega) (by omega)).toV), ?_⟩;conv=>whnf
    refine zr rfl (zG M (by omega) (by omega) none (zu (yr y.l (zU (-1) (rdM (z4 f f y (dg f) * s) f).l))) (zoO (kv m9 _) (kv m9 _) (by omega)) (by omega)) λhs_6 b_6 hh_6 hf_6 => ?_;try dsimp only at hh_6 hf_6
    conv=>whnf
    rw [zop];exact zk ⟨i + 1, _, (by rw [Nat.pow_succ, Nat.mul_two]; exact hI.next he.pm he.mn (Nat.pow_pos (by omega)) hs2), by omega, rfl, .inr ⟨b_6, tb, rfl⟩⟩
   ·have h := of_decide_eq_false h;have h0 : z4 f f y (dg f) = 0 := zd.1 (by omega);obtain rfl := (hI.of_zero he.mn h0 k.toNat).unique hmM (by omega) he.mn he.irr hR (Nat.le_refl _) (Nat.le_refl _);refine W.exit (hK1 _ ?_);clear hK7 hK1;refine W.rs (zg _ _) (by rfl) λK hK => ?_;conv=>whnf
    refine hK _ (W.ret ?_);conv=>whnf
    exact ⟨.v (.rf b y.l.length), rfl, trivial, b, rfl, hy⟩
  clear hK9;rcases hcase with ⟨b, tb, hy, rfl⟩ | ⟨b, tb, rfl⟩
  ·conv=>whnf
   refine core b tb _ hy (by dsimp only; omega) ?_;exact cvr
  ·conv=>whnf
   refine core b (zhW tb b y.l) _ (λh => zJ _ _ h) (by dsimp only; omega) ?_;exact cvr
 clear hK1;refine W.sch follows ?_;refine wf 2 ?_;conv=>whnf
 refine w3 0 3 5 ?_ ?_ ?_ <;> conv=>whnf
 ·refine w3 1 3 5 ?_ ?_ ?_ <;> conv=>whnf
  ·refine zb rfl (xJ he g) λhs' hhs => ?_;try dsimp only at hhs
   conv=>whnf
   refine w2 3 5 ?_ ?_ <;> conv=>whnf
   ·refine ⟨by show 0 + 2 <= 3; omega, ?_⟩;conv=>whnf
    refine w2 4 5 ?_ ?_ <;> conv=>whnf
    ·refine zb rfl (zK he.rn.1 he.hm) λhs' hhs => ?_;try dsimp only at hhs
     conv=>whnf
     refine w1 5 ?_;conv=>whnf
     intro b_5 hs_5 hh_5 hf_5;try dsimp only at hh_5 hf_5
     conv=>whnf
     refine w1 6 ?_;conv=>whnf
     refine ⟨s23, ?_⟩;conv=>whnf
     refine w1 7 ?_;conv=>whnf
     refine wd1 (fin b_5 _ (by dsimp only; omega) ?_);exact cvr
    ·intro b_5 hs_5 hh_5 hf_5;try dsimp only at hh_5 hf_5
     conv=>whnf
     refine w1 4 ?_;conv=>whnf
     refine zb rfl (zK he.rn.1 he.hm) λhs' hhs => ?_;try dsimp only at hhs
     conv=>whnf
     refine w1 6 ?_;conv=>whnf
     refine ⟨s23, ?_⟩;conv=>whnf
     refine w1 7 ?_;conv=>whnf
     refine wd1 (fin b_5 _ (by dsimp only; omega) ?_);exact cvr
   ·intro b_5 hs_5 hh_5 hf_5;try dsimp only at hh_5 hf_5
    conv=>whnf
    refine w1 3 ?_;conv=>whnf
    refine ⟨by show 0 + 2 <= 3; omega, ?_⟩;conv=>whnf
    refine w1 4 ?_;conv=>whnf
    refine zb rfl (zK he.rn.1 he.hm) λhs' hhs => ?_;try dsimp only at hhs
    conv=>whnf
    refine w1 6 ?_;conv=>whnf
    refine ⟨s23, ?_⟩;conv=>whnf
    refine w1 7 ?_;conv=>whnf
    refine wd1 (fin b_5 _ (by dsimp only; omega) ?_);exact cvr
  ·refine ⟨by show 0 + 2 <= 3; omega, ?_⟩;conv=>whnf
   refine w2 1 5 ?_ ?_ <;> conv=>whnf
   ·refine zb rfl (xJ he g) λhs' hhs => ?_;try dsimp only at hhs
    conv=>whnf
    refine w2 4 5 ?_ ?_ <;> conv=>whnf
    ·refine zb rfl (zK he.rn.1 he.hm) λhs' hhs => ?_;try dsimp only at hhs
     conv=>whnf
     refine w1 5 ?_;conv=>whnf
     intro b_5 hs_5 hh_5 hf_5;try dsimp only at hh_5 hf_5
     conv=>whnf
     refine w1 6 ?_;conv=>whnf
     refine ⟨s23, ?_⟩;conv=>whnf
     refine w1 7 ?_;conv=>whnf
     refine wd1 (fin b_5 _ (by dsimp only; omega) ?_);exact cvr
    ·intro b_5 hs_5 hh_5 hf_5;try dsimp only at hh_5 hf_5
     conv=>whnf
     refine w1 4 ?_;conv=>whnf
     refine zb rfl (zK he.rn.1 he.hm) λhs' hhs => ?_;try dsimp only at hhs
     conv=>whnf
     refine w1 6 ?_;conv=>whnf
     refine ⟨s23, ?_⟩;conv=>whnf
     refine w1 7 ?_;conv=>whnf
     refine wd1 (fin b_5 _ (by dsimp only; omega) ?_);exact cvr
   ·intro b_5 hs_5 hh_5 hf_5;try dsimp only at hh_5 hf_5
    conv=>whnf
    refine w1 1 ?_;conv=>whnf
    refine zb rfl (xJ he g) λhs' hhs => ?_;try dsimp only at hhs
    conv=>whnf
    refine w1 4 ?_;conv=>whnf
    refine zb rfl (zK he.rn.1 he.hm) λhs' hhs => ?_;try dsimp only at hhs
    conv=>whnf
    refine w1 6 ?_;conv=>whnf
    refine ⟨s23, ?_⟩;conv=>whnf
    refine w1 7 ?_;conv=>whnf
    refine wd1 (fin b_5 _ (by dsimp only; omega) ?_);exact cvr
  ·intro b_5 hs_5 hh_5 hf_5;try dsimp only at hh_5 hf_5
   conv=>whnf
   refine w2 1 3 ?_ ?_ <;> conv=>whnf
   ·refine zb rfl (xJ he g) λhs' hhs => ?_;try dsimp only at hhs
    conv=>whnf
    refine w1 3 ?_;conv=>whnf
    refine ⟨by show 0 + 2 <= 3; omega, ?_⟩;conv=>whnf
    refine w1 4 ?_;conv=>whnf
    refine zb rfl (zK he.rn.1 he.hm) λhs' hhs => ?_;try dsimp only at hhs
    conv=>whnf
    refine w1 6 ?_;conv=>whnf
    refine ⟨s23, ?_⟩;conv=>whnf
    refine w1 7 ?_;conv=>whnf
    refine wd1 (fin b_5 _ (by dsimp only; omega) ?_);exact cvr
   ·refine ⟨by show 0 + 2 <= 3; omega, ?_⟩;conv=>whnf
    refine w1 1 ?_;conv=>whnf
    refine zb rfl (xJ he g) λhs' hhs => ?_;try dsimp only at hhs
    conv=>whnf
    refine w1 4 ?_;conv=>whnf
    refine zb rfl (zK he.rn.1 he.hm) λhs' hhs => ?_;try dsimp only at hhs
    conv=>whnf
    refine w1 6 ?_;conv=>whnf
    refine ⟨s23, ?_⟩;conv=>whnf
    refine w1 7 ?_;conv=>whnf
    refine wd1 (fin b_5 _ (by dsimp only; omega) ?_);exact cvr
 ·refine ⟨by show 0 + 2 <= 3; omega, ?_⟩;conv=>whnf
  refine w2 0 5 ?_ ?_ <;> conv=>whnf
  ·refine w2 1 5 ?_ ?_ <;> conv=>whnf
   ·refine zb rfl (xJ he g) λhs' hhs => ?_;try dsimp only at hhs
    conv=>whnf
    refine w2 4 5 ?_ ?_ <;> conv=>whnf
    ·refine zb rfl (zK he.rn.1 he.hm) λhs' hhs => ?_;try dsimp only at hhs
     conv=>whnf
     refine w1 5 ?_;conv=>whnf
     intro b_5 hs_5 hh_5 hf_5;try dsimp only at hh_5 hf_5
     conv=>whnf
     refine w1 6 ?_;conv=>whnf
     refine ⟨s23, ?_⟩;conv=>whnf
     refine w1 7 ?_;conv=>whnf
     refine wd1 (fin b_5 _ (by dsimp only; omega) ?_);exact cvr
    ·intro b_5 hs_5 hh_5 hf_5;try dsimp only at hh_5 hf_5
     conv=>whnf
     refine w1 4 ?_;conv=>whnf
     refine zb rfl (zK he.rn.1 he.hm) λhs' hhs => ?_;try dsimp only at hhs
     conv=>whnf
     refine w1 6 ?_;conv=>whnf
     refine ⟨s23, ?_⟩;conv=>whnf
     refine w1 7 ?_;conv=>whnf
     refine wd1 (fin b_5 _ (by dsimp only; omega) ?_);exact cvr
   ·intro b_5 hs_5 hh_5 hf_5;try dsimp only at hh_5 hf_5
    conv=>whnf
    refine w1 1 ?_;conv=>whnf
    refine zb rfl (xJ he g) λhs' hhs => ?_;try dsimp only at hhs
    conv=>whnf
    refine w1 4 ?_;conv=>whnf
    refine zb rfl (zK he.rn.1 he.hm) λhs' hhs => ?_;try dsimp only at hhs
    conv=>whnf
    refine w1 6 ?_;conv=>whnf
    refine ⟨s23, ?_⟩;conv=>whnf
    refine w1 7 ?_;conv=>whnf
    refine wd1 (fin b_5 _ (by dsimp only; omega) ?_);exact cvr
  ·intro b_5 hs_5 hh_5 hf_5;try dsimp only at hh_5 hf_5
   conv=>whnf
   refine w1 0 ?_;conv=>whnf
   refine w1 1 ?_;conv=>whnf
   refine zb rfl (xJ he g) λhs' hhs => ?_;try dsimp only at hhs
   conv=>whnf
   refine w1 4 ?_;conv=>whnf
   refine zb rfl (zK he.rn.1 he.hm) λhs' hhs => ?_;try dsimp only at hhs
   conv=>whnf
   refine w1 6 ?_;conv=>whnf
   refine ⟨s23, ?_⟩;conv=>whnf
   refine w1 7 ?_;conv=>whnf
   refine wd1 (fin b_5 _ (by dsimp only; omega) ?_);exact cvr
 ·intro b_5 hs_5 hh_5 hf_5;try dsimp only at hh_5 hf_5
  conv=>whnf
  refine w2 0 3 ?_ ?_ <;> conv=>whnf
  ·refine w2 1 3 ?_ ?_ <;> conv=>whnf
   ·refine zb rfl (xJ he g) λhs' hhs => ?_;try dsimp only at hhs
    conv=>whnf
    refine w1 3 ?_;conv=>whnf
    refine ⟨by show 0 + 2 <= 3; omega, ?_⟩;conv=>whnf
    refine w1 4 ?_;conv=>whnf
    refine zb rfl (zK he.rn.1 he.hm) λhs' hhs => ?_;try dsimp only at hhs
    conv=>whnf
    refine w1 6 ?_;conv=>whnf
    refine ⟨s23, ?_⟩;conv=>whnf
    refine w1 7 ?_;conv=>whnf
    refine wd1 (fin b_5 _ (by dsimp only; omega) ?_);exact cvr
   ·refine ⟨by show 0 + 2 <= 3; omega, ?_⟩;conv=>whnf
    refine w1 1 ?_;conv=>whnf
    refine zb rfl (xJ he g) λhs' hhs => ?_;try dsimp only at hhs
    conv=>whnf
    refine w1 4 ?_;conv=>whnf
    refine zb rfl (zK he.rn.1 he.hm) λhs' hhs => ?_;try dsimp only at hhs
    conv=>whnf
    refine w1 6 ?_;conv=>whnf
    refine ⟨s23, ?_⟩;conv=>whnf
    refine w1 7 ?_;conv=>whnf
    refine wd1 (fin b_5 _ (by dsimp only; omega) ?_);exact cvr
  ·refine ⟨by show 0 + 2 <= 3; omega, ?_⟩;conv=>whnf
   refine w1 0 ?_;conv=>whnf
   refine w1 1 ?_;conv=>whnf
   refine zb rfl (xJ he g) λhs' hhs => ?_;try dsimp only at hhs
   conv=>whnf
   refine w1 4 ?_;conv=>whnf
   refine zb rfl (zK he.rn.1 he.hm) λhs' hhs => ?_;try dsimp only at hhs
   conv=>whnf
   refine w1 6 ?_;conv=>whnf
   refine ⟨s23, ?_⟩;conv=>whnf
   refine w1 7 ?_;conv=>whnf
   refine wd1 (fin b_5 _ (by dsimp only; omega) ?_);exact cvr
-- 15 ways
theorem zcH (he : ExtP p k M f n) (g : Option Nat) (R : Poly M) (hR : RootI p f n k.toNat R) : FnV 67 [vE p k g f.l] (.ints none R.l) := R1.V (zjB he g R hR)

theorem zkL (he : ExtP p k M f n) (g : Option Nat) (R : Poly M) (hR : RootI p f n k.toNat R) : FnV 115 [vE p k g f.l] (.ints none R.l) := by
 have h8 := he.n8;have hn1 := he.n1;have m9 := he.m9;have hp := Pos.pos (p := M);obtain ⟨s1, s2, s3, s4, s5, s6⟩ := he.rn.1.small;have hmM : M = p ^ k.toNat := he.hm.symm;have hf1 := he.mn.1;have hfl : f.l.length = dg f := rfl;have hfd := (zaV he.pm he.mn).1;have hX1 : dg (X p) <= 2 := by show (X p).l.length <= 2; rw [X_l]; simp
 have eX : [(0 : Int), 1] = (X p).l := X_l.symm;have hf0 := he.irr.ne;have hI0 : RootI p f n (2 ^ 0) (lft M (rem (X p ^ p.toNat) (im p f))) := RootI.start he.pm he.ple he.irr hfd;have hl0 : (rem (X p ^ p.toNat) (im p f)).l = (lft M (rem (X p ^ p.toNat) (im p f))).l := (zlr he.ple _).symm;have hdd := zly f;have hmkl : (mkL (f.l.length - 1) (dv (cf f.l))).length <= 100 := by rw [zH]; omega
 refine ze (za [0, 1, 2, 3, 4, 5, 6, 7, 25]) Tryz.func115 rfl (by decide) Tryz.ntmps115 (lb rfl) λbase => ?_;refine wrs λK hK => ?_;conv=>whnf
 refine ⟨rfl, ?_⟩;conv=>whnf
 intro b_1 hs_1 hh_1 hf_1;try dsimp only at hh_1 hf_1
 conv=>whnf
 refine hK _ (wrs λK hK => ?_);conv=>whnf
 refine zb rfl (zfL he g) λhs' hhs => ?_;try dsimp only at hhs
 conv=>whnf
 intro b_3 hs_3 hh_3 hf_3;try dsimp only at hh_3 hf_3
 conv=>whnf
 refine ⟨s23, ?_⟩;conv=>whnf
 refine hK _ (wrs λK hK => ?_);conv=>whnf
 refine ⟨⟨rfl, by decide⟩, ?_⟩;conv=>whnf
 intro b_7 hs_7 hh_7 hf_7;try dsimp only at hh_7 hf_7
 conv=>whnf
 rw [eX];refine zb rfl (zhO p none (some b_7) (im p f) (X p) (by omega) (by omega) hf0) λhs' hhs => ?_;try dsimp only at hhs
 conv=>whnf
 rw [hl0];refine hK _ ?_;clear hK;refine W.rd (za _) follows (by rfl) λK hK => ?_;conv=>whnf
 refine ⟨_, cxF (jp he g), ?_⟩;conv=>whnf
 refine ⟨_, cxF (kR g f.l ((kv m9 f).le (by omega)) (by omega)), ?_⟩;conv=>whnf
 refine ⟨_, cxF ((xt M (by omega) (by omega) none _ ((zoR m9 (by omega)).le (by omega)) (by omega)).toV), ?_⟩;conv=>whnf
 rw [zi2];refine hK _ (W.seqK λK1 hK1 => wrs λK hK => ?_);conv=>whnf
 refine hK _ (W.block (W.invA (λm e => ∃ (i : Nat) (y : Poly M), RootI p f n (2 ^ i) y ∧ i <= 40 ∧ m = 40 - i ∧ e = [(1, .ownB b_1 (vE p k g f.l)), (4, .v (.ints none y.l)), (5, .v (.ints none (zcx f).l)), (6, .v (.int .i64 ((2 ^ i : Nat) : Int)))]) ⟨0, _, hI0, by omega, rfl, rfl⟩ ?_));clear hK;rintro m e ⟨i, y, hI, hi, hm, rfl⟩;have hyd := hI.deg;have hV := kb (F := f) (X := y) he.mn hn1 (dg f);obtain ⟨s, hs1, hs2⟩ := zgQ he hI;have hSd := zoS he y;have hR1 := yi he.mn (z4 f f y (dg f) * s);have hRl : (rdM (z4 f f y (dg f) * s) f).l.length = dg (rdM (z4 f f y (dg f) * s) f) := rfl;have hyl : y.l.length = dg y := rfl;have hsl := zhR y.l (rdM (z4 f f y (dg f) * s) f).l;refine W.seqK λK7 hK7 => wrs λK hK => ?_;conv=>whnf
 refine hK _ (W.cond ⟨λh => ?_, λh => ?_⟩) <;> clear hK <;> (first | replace h := of_decide_eq_true h | replace h := of_decide_eq_false h)
 ·have h4 : i < 2 ^ i := Nat.lt_two_pow_self;have hps : ((2 ^ (i + 1) : Nat) : Int) = 2 * ((2 ^ i : Nat) : Int) := by rw [Nat.pow_succ]; omega
  have eS : z4 f (zcx f) y (dg (zcx f)) = slp f y := rfl;refine W.skip (hK7 _ ?_);clear hK7;refine W.seqK λK8 hK8 => W.block ?_;refine W.rd (za _) follows (by rfl) λK hK => ?_;conv=>whnf
  refine ⟨_, cxF (za6 he g g none f y (by omega) hyd), ?_⟩;conv=>whnf
  refine ⟨_, cxF (za6 he g none none (zcx f) y (by omega) hyd), ?_⟩;conv=>whnf
  rw [eS];refine ⟨_, cxF (zbB he g none (slp f y) s hSd hs1 hs2), ?_⟩;conv=>whnf
  refine ⟨_, cxF (yj he g none none (z4 f f y (dg f)) s hV hs1), ?_⟩;conv=>whnf
  refine hK _ ?_;clear hK;refine wrg ?_;conv=>whnf
  refine zb rfl (jp he g) λhs' hhs => ?_;try dsimp only at hhs
  conv=>whnf
  refine zb rfl ((zbn m9 none none y.l (rdM (z4 f f y (dg f) * s) f).l (-1) (.inr rfl) (zmN _) (zmN _) (by omega) (by omega)).toV) λhs' hhs => ?_;try dsimp only at hhs
  conv=>whnf
  rw [zqH];refine hK8 _ ?_;clear hK8;refine wrg ?_;conv=>whnf
  refine ⟨oo, ?_⟩;conv=>whnf
  refine ⟨_, _, ⟨i + 1, _, (by rw [Nat.pow_succ, Nat.mul_two]; exact hI.next he.pm he.mn (Nat.pow_pos (by omega)) hs2), by omega, rfl, rfl⟩, by omega, by dsimp only; omega, ?_⟩;rw [hps];exact cvr
 ·obtain rfl := hI.unique hmM (by omega) he.mn he.irr hR (by omega) (Nat.le_refl _);refine W.exit (hK1 _ ?_);clear hK7 hK1;refine wrs λK hK => ?_;conv=>whnf
  refine hK _ (W.ret ?_);conv=>whnf
  exact ⟨.v (.ints none y.l), ⟨rfl, rfl⟩, trivial, rfl⟩
end


section
variable {p k M : Int} [SP p] [Pos M] {f : Poly M} {n : Nat}
theorem zjC (he : ExtP p k M f n) : ∃ R, RootI p f n k.toNat R :=
 zjf (f := f) (n := n) he.hm.symm (by have := he.rn.1.small; omega) he.ple he.mn he.irr
noncomputable def zfN (he : ExtP p k M f n) : Poly M := (zjC he).choose
theorem zfO (he : ExtP p k M f n) : RootI p f n k.toNat (zfN he) := (zjC he).choose_spec
end



theorem zf7 (kp kq : Int) (kl x : List Int) (_ : inR kp) (_ : inR kq) (hkl : kl.length <= 1048576) (hx : x.length <= 1048576) : ∃ (r0 : List Int) (r1 : Int),
  (∀ g0 g1 : Option Nat, FnV 18 [vE kp kq g0 kl, .ints g1 x] (.tup [.ints none r0, .int .i64 r1])) ∧ (∀ g0 g1 : Option Nat, FnT Tryz.prog 17 [vE kp kq g0 kl, .ints g1 x] (RT r0 r1)) ∧ r0.length <= 1000000 ∧ (r1 = 0 -> jd kp kq kl x = 0) ∧ (r1 = 0 -> ∀ hp : kp ∈ zY, letI := yL hp; ∀ (M : Int) (_ : Pos M) (f X : Poly M) (n : Nat), ExtP kp kq M f n -> f.l = kl -> X.l = x -> ∃ U : Poly M, r0 = U.l ∧ dg U <= n ∧ Cg f (X * U) 1) := by
 generalize hc : jd kp kq kl x = c
 by_cases h0 : c = 0
 case neg =>
  refine ⟨[], c, λg0 g1 => ?_, λg0 g1 => ?_, by simp, λh => absurd h h0, λh => absurd h h0⟩
  ·refine ze (za [0, 1, 2, 4, 5, 6, 21, 23]) Tryz.func18 rfl (by decide) Tryz.ntmps18 (lb rfl) λbase => ?_;refine wrs λK hK => ?_;conv=>whnf
   refine ⟨rfl, ?_⟩;conv=>whnf
   intro b_1 hs_1 hh_1 hf_1;try dsimp only at hh_1 hf_1
   conv=>whnf
   refine hK _ (wrs λK hK => ?_);conv=>whnf
   refine zb rfl (yH kp kq g0 g1 g1 kl x (by omega) (by omega)) λhs' hhs => ?_;try dsimp only at hhs
   conv=>whnf
   rw [hc];refine hK _ (W.seqK λK1 hK1 => wrs λK hK => ?_);conv=>whnf
   refine ⟨λh => ?_, λh => ?_⟩ <;> conv=>whnf
   ·exact absurd (of_decide_eq_true h) h0
   refine hK _ (W.condF rfl (W.skip (hK1 _ ?_)));clear hK hK1;refine W.seqK λK1 hK1 => wrs λK hK => ?_;conv=>whnf
   refine hK _ (W.cond ⟨λ_ => ?_, λhcc => absurd h0 (of_decide_eq_false hcc)⟩);clear hK;refine wrs λK hK => ?_;conv=>whnf
   refine hK _ (W.ret ?_);conv=>whnf
   exact ⟨.v (.ints none []), rfl, trivial, .v (.int .i64 c), ⟨rfl, rfl⟩, trivial, rfl⟩
  ·refine y6 (zg [] [0, 1, 2, 4, 5, 6, 12, 20, 1000000]) Tryz.func17 rfl (by decide) Tryz.ntmps17 (lb rfl) (λbase => ?_) (lb rfl);refine W.sw (c' := cx [0, 1, 2, 4, 5, 6, 12, 20, 1000000]) ?_;refine wrs λK hK => ?_;conv=>whnf
   refine ⟨rfl, ?_⟩;conv=>whnf
   intro b_1 hs_1 hh_1 hf_1;try dsimp only at hh_1 hf_1
   conv=>whnf
   refine hK _ (W.seqK λK1 hK1 => wrs λK hK => ?_);conv=>whnf
   refine ⟨⟨rfl, by decide, λx hx => (by simp at hx; subst hx; exact ⟨rfl, rfl⟩)⟩, ?_⟩;conv=>whnf
   intro b_2 hs_2 hh_2 hf_2;try dsimp only at hh_2 hf_2
   conv=>whnf
   refine zb rfl (zZ kp kq g0 (some b_2) kl 1 _ (λ_ => x) (by omega) (by omega) (λi hi => by omega) (zfD g1 x)) λhs' hhs => ?_;try dsimp only at hhs
   conv=>whnf
   rw [show z3 kp kq kl 1 (λ_ => x) = c from hc];refine hK _ (wrs λK hK => ?_);conv=>whnf
   refine hK _ (W.cond ⟨λ_ => ?_, λhcc => absurd h0 (of_decide_eq_false hcc)⟩);clear hK;refine wrs λK hK => ?_;conv=>whnf
   refine hK _ (W.ret ?_);conv=>whnf
   exact ⟨.v (.rf 0 0), rfl, trivial, .v (.int .i64 (c)), ⟨rfl, rfl⟩, trivial, 0, rfl, λhne => absurd rfl hne⟩
 subst h0;obtain ⟨hk, hh⟩ := jx hc;obtain ⟨hp, hx2⟩ := kh hk;letI := yL hp;obtain ⟨M, _, f, n, rfl, he⟩ := hx2;have hfl : f.l.length = dg f := rfl;have hf1 := he.mn.1;have hn8 := he.n8;obtain ⟨X, rfl⟩ := jo he.hm hh.1;have hdX : dg X < dg f := hh.2;have hdX : dg X <= n := by omega
 have hlX : X.l.length = dg X := rfl;have hil : (im kp X).l.length = dg (im kp X) := rfl;have hfd := (zaV he.pm he.mn).1;have hXd := zbw (p := kp) X
 by_cases hX0 : im kp X = 0
 case pos =>
  have hX1 : dg (im kp X) = 0 := zd.2 hX0;refine ⟨[], 5, λg0 g1 => ?_, λg0 g1 => ?_, by simp, λh => absurd h (by decide), λh => absurd h (by decide)⟩
  ·refine ze (za [0, 1, 2, 4, 5, 6, 21, 23]) Tryz.func18 rfl (by decide) Tryz.ntmps18 (lb rfl) λbase => ?_;refine wrs λK hK => ?_;conv=>whnf
   refine ⟨rfl, ?_⟩;conv=>whnf
   intro b_1 hs_1 hh_1 hf_1;try dsimp only at hh_1 hf_1
   conv=>whnf
   refine hK _ (wrs λK hK => ?_);conv=>whnf
   refine zb rfl (yH kp kq g0 g1 g1 f.l X.l (by omega) (by omega)) λhs' hhs => ?_;try dsimp only at hhs
   conv=>whnf
   rw [hc];refine hK _ (W.seqK λK1 hK1 => wrs λK hK => ?_);conv=>whnf
   refine ⟨λh => ?_, λh => ?_⟩ <;> conv=>whnf
   ·refine zb rfl ((za7 he g1 X hdX).toV) λhs' hhs => ?_;try dsimp only at hhs
    conv=>whnf
    refine hK _ (W.cond ⟨λ_ => ?_, λh4 => absurd (of_decide_eq_false h4) (by omega)⟩);clear hK;refine wrg ?_;conv=>whnf
    refine hK1 _ ?_;clear hK1;refine W.seqK λK1 hK1 => wrs λK hK => ?_;conv=>whnf
    refine hK _ (W.cond ⟨λ_ => ?_, λhcc => absurd (by decide : (5 : Int) ≠ 0) (of_decide_eq_false hcc)⟩);clear hK;refine wrs λK hK => ?_;conv=>whnf
    refine hK _ (W.ret ?_);conv=>whnf
    exact ⟨.v (.ints none []), rfl, trivial, .v (.int .i64 5), ⟨rfl, rfl⟩, trivial, rfl⟩
   ·exact absurd rfl (of_decide_eq_false h)
  ·refine y6 (zg [] [0, 1, 2, 4, 5, 6, 12, 20, 1000000]) Tryz.func17 rfl (by decide) Tryz.ntmps17 (lb rfl) (λbase => ?_) (lb rfl);refine W.sw (c' := cx [0, 1, 2, 4, 5, 6, 12, 20, 1000000]) ?_;refine wrs λK hK => ?_;conv=>whnf
   refine ⟨rfl, ?_⟩;conv=>whnf
   intro b_1 hs_1 hh_1 hf_1;try dsimp only at hh_1 hf_1
   conv=>whnf
   refine hK _ (W.seqK λK1 hK1 => wrs λK hK => ?_);conv=>whnf
   refine ⟨⟨rfl, by decide, λx hx => (by simp at hx; subst hx; exact ⟨rfl, rfl⟩)⟩, ?_⟩;conv=>whnf
   intro b_2 hs_2 hh_2 hf_2;try dsimp only at hh_2 hf_2
   conv=>whnf
   refine zb rfl (zZ kp kq g0 (some b_2) f.l 1 _ (λ_ => X.l) (by omega) (by omega) (λi hi => by omega) (zfD g1 X.l)) λhs' hhs => ?_;try dsimp only at hhs
   conv=>whnf
   rw [show z3 kp kq f.l 1 (λ_ => X.l) = 0 from hc];refine hK _ (wrs λK hK => ?_);conv=>whnf
   refine hK _ (W.cond ⟨λhcc => absurd rfl (of_decide_eq_true hcc), λ_ => W.skip (hK1 _ ?_)⟩);clear hK hK1;refine W.seqK λK1 hK1 => wrs λK hK => ?_;conv=>whnf
   refine zb rfl ((zfM he g1 X hdX).toV) λhs' hhs => ?_;try dsimp only at hhs
   conv=>whnf
   refine hK _ (W.cond ⟨λ_ => ?_, λh4 => absurd (of_decide_eq_false h4) (by omega)⟩);clear hK;refine wrs λK hK => ?_;conv=>whnf
   refine hK _ (W.ret ?_);conv=>whnf
   exact ⟨.v (.rf 0 0), rfl, trivial, .v (.int .i64 (5)), ⟨rfl, rfl⟩, trivial, 0, rfl, λhne => absurd rfl hne⟩
 have hX1 : dg (im kp X) ≠ 0 := λe => hX0 (zd.1 e);obtain ⟨U, hU1, hU2⟩ := ka he.hm.symm (by have := he.rn.1.small; omega) he.mn he.irr (xP hX0 (by omega));refine ⟨U.l, 0, λg0 g1 => ?_, λg0 g1 => ?_, by show dg U <= _; omega, λ_ => rfl, λ_ hp' M' _ f' X' n' he' e1 e2 => ?_⟩
 ·refine ze (za [0, 1, 2, 4, 5, 6, 21, 23]) Tryz.func18 rfl (by decide) Tryz.ntmps18 (lb rfl) λbase => ?_;refine wrs λK hK => ?_;conv=>whnf
  refine ⟨rfl, ?_⟩;conv=>whnf
  intro b_1 hs_1 hh_1 hf_1;try dsimp only at hh_1 hf_1
  conv=>whnf
  refine hK _ (wrs λK hK => ?_);conv=>whnf
  refine zb rfl (yH kp kq g0 g1 g1 f.l X.l (by omega) (by omega)) λhs' hhs => ?_;try dsimp only at hhs
  conv=>whnf
  rw [hc];refine hK _ (W.seqK λK1 hK1 => wrs λK hK => ?_);conv=>whnf
  refine ⟨λh => ?_, λh => ?_⟩ <;> conv=>whnf
  ·refine zb rfl ((za7 he g1 X hdX).toV) λhs' hhs => ?_;try dsimp only at hhs
   conv=>whnf
   refine hK _ (W.cond ⟨λh4 => absurd (of_decide_eq_true h4) (by omega), λ_ => W.skip (hK1 _ ?_)⟩);clear hK hK1;refine W.seqK λK1 hK1 => wrs λK hK => ?_;conv=>whnf
   refine hK _ (W.cond ⟨λhcc => absurd rfl (of_decide_eq_true hcc), λ_ => W.skip (hK1 _ ?_)⟩);clear hK hK1;refine wrs λK hK => ?_;conv=>whnf
   refine zb rfl (zbB he g0 g1 X U hdX hU1 hU2) λhs' hhs => ?_;try dsimp only at hhs
   conv=>whnf
   refine hK _ (W.ret ?_);conv=>whnf
   exact ⟨.v (.ints none U.l), ⟨rfl, rfl⟩, trivial, .v (.int .i64 0), ⟨rfl, rfl⟩, trivial, rfl⟩
  ·exact absurd rfl (of_decide_eq_false h)
 ·refine y6 (zg [] [0, 1, 2, 4, 5, 6, 12, 20, 1000000]) Tryz.func17 rfl (by decide) Tryz.ntmps17 (lb rfl) (λbase => ?_) (lb rfl);refine W.sw (c' := cx [0, 1, 2, 4, 5, 6, 12, 20, 1000000]) ?_;refine wrs λK hK => ?_;conv=>whnf
  refine ⟨rfl, ?_⟩;conv=>whnf
  intro b_1 hs_1 hh_1 hf_1;try dsimp only at hh_1 hf_1
  conv=>whnf
  refine hK _ (W.seqK λK1 hK1 => wrs λK hK => ?_);conv=>whnf
  refine ⟨⟨rfl, by decide, λx hx => (by simp at hx; subst hx; exact ⟨rfl, rfl⟩)⟩, ?_⟩;conv=>whnf
  intro b_2 hs_2 hh_2 hf_2;try dsimp only at hh_2 hf_2
  conv=>whnf
  refine zb rfl (zZ kp kq g0 (some b_2) f.l 1 _ (λ_ => X.l) (by omega) (by omega) (λi hi => by omega) (zfD g1 X.l)) λhs' hhs => ?_;try dsimp only at hhs
  conv=>whnf
  rw [show z3 kp kq f.l 1 (λ_ => X.l) = 0 from hc];refine hK _ (wrs λK hK => ?_);conv=>whnf
  refine hK _ (W.cond ⟨λhcc => absurd rfl (of_decide_eq_true hcc), λ_ => W.skip (hK1 _ ?_)⟩);clear hK hK1;refine W.seqK λK1 hK1 => wrs λK hK => ?_;conv=>whnf
  refine zb rfl ((zfM he g1 X hdX).toV) λhs' hhs => ?_;try dsimp only at hhs
  conv=>whnf
  refine hK _ (W.cond ⟨λh4 => absurd (of_decide_eq_true h4) (by omega), λ_ => W.skip (hK1 _ ?_)⟩);clear hK hK1;refine W.sw (c' := cxt [63] [0, 1, 2, 4, 5, 6, 12, 20, 1000000]) ?_;refine W.rs (zg _ _) (by rfl) λK hK => ?_;conv=>whnf
  refine ⟨_, cxT (zoQ he g0 g1 X U hdX hU1 hU2), λlo_t hi_t hs_t x_t tn_t tb_t hl1_t hl2_t _ hp_t hf_t hn_t ho_t => ?_⟩;try dsimp only at hl1_t hl2_t
  obtain ⟨bt, rfl, ht⟩ := hp_t;conv=>whnf
  refine hK _ (W.ret ?_);conv=>whnf
  exact ⟨.v (.rf bt U.l.length), rfl, trivial, .v (.int .i64 0), ⟨rfl, rfl⟩, trivial, bt, rfl, λh => hn_t _ _ (ht h)⟩
 ·obtain rfl : M' = M := he'.hm.symm.trans he.hm;obtain rfl := vq e1;obtain rfl := vq e2;obtain rfl : n' = n := by have := he'.mn.1; have := he.mn.1; omega
  exact ⟨U, rfl, hU1, hU2⟩


section
variable {p k M : Int} [SP p] [Pos M] {f : Poly M} {n : Nat}
noncomputable def zpW (f R X : Poly M) (c : Nat) : V := .vals none 1 c λj => .ints none (frM f R X j).l

theorem zcI (he : ExtP p k M f n) (g : Option Nat) (X R : Poly M) (hX : dg X <= n) (hR : RootI p f n k.toNat R) : FnV 73 [vE p k g f.l, .ints none X.l] (zpW f R X n) := by
 have h8 := he.n8;have hf1 := he.mn.1;have hfl : f.l.length = dg f := rfl;have hRd := hR.deg;have hF := λj => zhB (R := R) he.mn he.n1 hX j;refine ze (za [0, 1, 2, 4, 5, 6, 7, 15]) Tryz.func73 rfl (by decide) Tryz.ntmps73 (lb rfl) λbase => ?_;refine wrs λK hK => ?_;conv=>whnf
 refine ⟨rfl, ?_⟩;conv=>whnf
 intro b_2 hs_2 hh_2 hf_2;try dsimp only at hh_2 hf_2
 conv=>whnf
 refine hK _ (wrs λK hK => ?_);conv=>whnf
 refine zb rfl (zkL he g R hR) λhs' hhs => ?_;try dsimp only at hhs
 conv=>whnf
 refine hK _ (wrs λK hK => ?_);conv=>whnf
 refine ⟨⟨rfl, by decide, λx hx => by simp at hx⟩, ?_⟩;conv=>whnf
 intro b_3 hs_3 hh_3 hf_3;try dsimp only at hh_3 hf_3
 conv=>whnf
 refine hK _ (W.seqK λK1 hK1 => wrs λK hK => ?_);conv=>whnf
 refine hK _ (W.block (W.invE (λm e => ∃ j b : Nat, j <= n ∧ m = n - j ∧ e = [(1, .v (.ints none (frM f R X j).l)), (2, .ownB b_2 (vE p k g f.l)), (5, .v (.ints none R.l)), (6, .ownV 22 1 b j λi => .ints none (frM f R X i).l), (7, .v (.int .i64 ((j + 1 : Nat) : Int)))]) _ _ ⟨0, b_3, Nat.zero_le _, rfl, rfl⟩ (by dsimp only; omega) (by repeat' first | refine And.intro ?_ ?_ | exact trivial | rfl | omega | exact λ_ _ => rfl | exact λi hi => absurd hi (by omega)) ?_));clear hK;rintro m e ⟨j, b, hj, hm, rfl⟩;have hFj := hF j;refine W.seqK λK7 hK7 => wrs λK hK => ?_;conv=>whnf
 refine hK _ (W.cond ⟨λh => ?_, λh => ?_⟩) <;> clear hK <;> (first | replace h := of_decide_eq_true h | replace h := of_decide_eq_false h)
 ·refine W.skip (hK7 _ ?_);clear hK7;refine W.seqK λK8 hK8 => W.block ?_;refine wrs λK hK => ?_;conv=>whnf
  refine ⟨⟨rfl, by decide, λx hx => by simp at hx; subst hx; exact ⟨rfl, rfl⟩⟩, ?_⟩;conv=>whnf
  intro b_4 hs_4 hh_4 hf_4;try dsimp only at hh_4 hf_4
  conv=>whnf
  refine ⟨by omega, ?_⟩;conv=>whnf
  refine ⟨λi => .ints none (frM f R X i).l, λi hi => rfl, λi hi => ?_, ?_⟩
  ·obtain rfl : i = 0 := by omega
   rfl
  intro b_5 hs_5 hh_5 hf_5;try dsimp only at hh_5 hf_5
  conv=>whnf
  refine hK _ ?_;clear hK;refine wrg ?_;conv=>whnf
  refine zb rfl (za6 he g none none (frM f R X j) R (by omega) hRd) λhs' hhs => ?_;try dsimp only at hhs
  conv=>whnf
  refine hK8 _ ?_;clear hK8;refine wrg ?_;conv=>whnf
  refine ⟨oo, ?_⟩;conv=>whnf
  exact zk ⟨j + 1, b_5, by omega, rfl, rfl⟩
 ·obtain rfl : j = n := by omega
  refine W.exit (hK1 _ ?_);clear hK7 hK1;refine wrs λK hK => ?_;conv=>whnf
  refine hK _ (W.ret ?_);conv=>whnf
  exact ⟨.v (zpW f R X j), ⟨rfl, rfl, rfl, λ_ _ => rfl⟩, ⟨trivial, λ_ _ => trivial⟩, rfl⟩
end


theorem zhS (kp kq : Int) (kl x : List Int) (_ : inR kp) (_ : inR kq) (hkl : kl.length <= 1048576) (hx : x.length <= 1048576) : ∃ r0 r1 : Int,
  (FnV 20 [vE kp kq none kl, .ints none x] (.tup [.int .i64 r0, .int .i64 r1])) ∧ (∀ g0 g1 : Option Nat, FnV 19 [vE kp kq g0 kl, .ints g1 x] (.tup [.int .i64 r0, .int .i64 r1])) ∧ r1 = jd kp kq kl x ∧ (r1 = 0 -> ∀ hp : kp ∈ zY, letI := yL hp; ∀ (M : Int) (_ : Pos M) (f X : Poly M) (n : Nat) (he : ExtP kp kq M f n), f.l = kl -> X.l = x -> r0 = cf (trM f (zfN he) X n).l 0) := by
 generalize hc : jd kp kq kl x = c
 by_cases h0 : c = 0
 case neg =>
  refine ⟨0, c, ?_, λg0 g1 => ?_, rfl, λh => absurd h h0⟩
  ·refine ze (za [0, 1, 2, 4, 5, 6, 7, 8, 9, 15, 24]) Tryz.func20 rfl (by decide) Tryz.ntmps20 (lb rfl) λbase => ?_;refine wrs λK hK => ?_;conv=>whnf
   refine ⟨rfl, ?_⟩;conv=>whnf
   intro b_1 hs_1 hh_1 hf_1;try dsimp only at hh_1 hf_1
   conv=>whnf
   refine hK _ (wrs λK hK => ?_);conv=>whnf
   refine zb rfl (yH kp kq none none none kl x (by omega) (by omega)) λhs' hhs => ?_;try dsimp only at hhs
   conv=>whnf
   rw [hc];refine hK _ (W.seqK λK1 hK1 => wrs λK hK => ?_);conv=>whnf
   refine hK _ (W.cond ⟨λ_ => ?_, λhcc => absurd h0 (of_decide_eq_false hcc)⟩);clear hK;refine wrs λK hK => ?_;conv=>whnf
   refine hK _ (W.ret ?_);conv=>whnf
   exact ⟨.v (.int .i64 0), ⟨rfl, rfl⟩, trivial, .v (.int .i64 c), ⟨rfl, rfl⟩, trivial, rfl⟩
  ·refine ze (za [0, 1, 2, 4, 5, 6, 7, 8, 9, 15, 22, 23, 24]) Tryz.func19 rfl (by decide) Tryz.ntmps19 (lb rfl) λbase => ?_;refine wrs λK hK => ?_;conv=>whnf
   refine ⟨rfl, ?_⟩;conv=>whnf
   intro b_1 hs_1 hh_1 hf_1;try dsimp only at hh_1 hf_1
   conv=>whnf
   refine hK _ (W.seqK λK1 hK1 => wrs λK hK => ?_);conv=>whnf
   refine ⟨⟨rfl, by decide, λx hx => (by simp at hx; subst hx; exact ⟨rfl, rfl⟩)⟩, ?_⟩;conv=>whnf
   intro b_2 hs_2 hh_2 hf_2;try dsimp only at hh_2 hf_2
   conv=>whnf
   refine zb rfl (zZ kp kq g0 (some b_2) kl 1 _ (λ_ => x) (by omega) (by omega) (λi hi => by omega) (zfD g1 x)) λhs' hhs => ?_;try dsimp only at hhs
   conv=>whnf
   rw [show z3 kp kq kl 1 (λ_ => x) = c from hc];refine hK _ (wrs λK hK => ?_);conv=>whnf
   refine hK _ (W.cond ⟨λ_ => ?_, λhcc => absurd h0 (of_decide_eq_false hcc)⟩);clear hK;refine wrs λK hK => ?_;conv=>whnf
   refine hK _ (W.ret ?_);conv=>whnf
   exact ⟨.v (.int .i64 0), ⟨rfl, rfl⟩, trivial, .v (.int .i64 c), ⟨rfl, rfl⟩, trivial, rfl⟩
 subst h0;obtain ⟨hk, hh⟩ := jx hc;obtain ⟨hp, hx2⟩ := kh hk;letI := yL hp;obtain ⟨M, _, f, n, rfl, he⟩ := hx2;have hfl : f.l.length = dg f := rfl;have hf1 := he.mn.1;have hn8 := he.n8;obtain ⟨X, rfl⟩ := jo he.hm hh.1;have hdX : dg X < dg f := hh.2;have hdX : dg X <= n := by omega
 have hlX : X.l.length = dg X := rfl;obtain ⟨R, hRe, hR⟩ : ∃ R, zfN he = R ∧ RootI kp f n kq.toNat R := ⟨_, rfl, zfO he⟩
 have hRd := hR.deg;have m9 := he.m9;have hp := Pos.pos (p := M);have hF := λj => zhB (R := R) he.mn he.n1 hdX j;have hT := λj => zor (R := R) he.mn he.n1 hdX j;refine ⟨cf (trM f R X n).l 0, 0, ?_, λg0 g1 => ?_, rfl, λ_ hp' M' _ f' X' n' he' e1 e2 => ?_⟩
 ·refine ze (za [0, 1, 2, 4, 5, 6, 7, 8, 9, 15, 24]) Tryz.func20 rfl (by decide) Tryz.ntmps20 (lb rfl) λbase => ?_;refine wrs λK hK => ?_;conv=>whnf
  refine ⟨rfl, ?_⟩;conv=>whnf
  intro b_1 hs_1 hh_1 hf_1;try dsimp only at hh_1 hf_1
  conv=>whnf
  refine hK _ (wrs λK hK => ?_);conv=>whnf
  refine zb rfl (yH kp kq none none none f.l X.l (by omega) (by omega)) λhs' hhs => ?_;try dsimp only at hhs
  conv=>whnf
  rw [hc];refine hK _ (W.seqK λK1 hK1 => wrs λK hK => ?_);conv=>whnf
  refine hK _ (W.cond ⟨λhcc => absurd rfl (of_decide_eq_true hcc), λ_ => W.skip (hK1 _ ?_)⟩);clear hK hK1;refine wrs λK hK => ?_;conv=>whnf
  refine zb rfl (zcI he none X R hdX hR) λhs' hhs => ?_;try dsimp only at hhs
  conv=>whnf
  refine hK _ (wrs λK hK => ?_);conv=>whnf
  refine ⟨⟨rfl, by decide⟩, ?_⟩;conv=>whnf
  intro b_5 hs_5 hh_5 hf_5;try dsimp only at hh_5 hf_5
  conv=>whnf
  refine hK _ (W.seqK λK1 hK1 => wrs λK hK => ?_);conv=>whnf
  refine hK _ (W.block (W.invA (λm e => ∃ (j : Nat) (s : List Int), j <= n ∧ s = (trM f R X j).l ∧ m = n - j ∧ e = [(2, .ownB b_1 (vE kp kq none f.l)), (7, .v (zpW f R X n)), (8, .v (.ints none s)), (9, .v (.int .i64 j))]) ⟨0, [], Nat.zero_le _, zd6.symm, rfl, rfl⟩ ?_));clear hK;rintro m e ⟨j, s, hj, rfl, hm, rfl⟩;have hFj := hF j;have hTj := hT j;have hFl : (frM f R X j).l.length = dg (frM f R X j) := rfl;have hTl : (trM f R X j).l.length = dg (trM f R X j) := rfl;refine W.seqK λK7 hK7 => wrs λK hK => ?_;conv=>whnf
  refine hK _ (W.cond ⟨λh => ?_, λh => ?_⟩) <;> clear hK <;> (first | replace h := of_decide_eq_true h | replace h := of_decide_eq_false h)
  ·refine W.skip (hK7 _ ?_);clear hK7;refine W.seqK λK8 hK8 => W.block ?_;refine W.draw (za _) follows (by rfl) ?_;conv=>whnf
   refine ⟨oo, ?_⟩;conv=>whnf
   rw [Int.toNat_natCast];refine ⟨_, cxF (jp he none), ?_⟩;conv=>whnf
   refine ⟨_, cxF ((zbn m9 none none (trM f R X j).l (frM f R X j).l 1 (.inl rfl) (zmN _) (zmN _) (by omega) (by omega)).toV), ?_⟩;conv=>whnf
   rw [zqI];refine hK8 _ ?_;clear hK8;refine wrg ?_;conv=>whnf
   refine ⟨oo, ?_⟩;conv=>whnf
   exact zk ⟨j + 1, _, by omega, rfl, rfl, rfl⟩
  ·obtain rfl : j = n := by omega
   refine W.exit (hK1 _ ?_);clear hK7 hK1;refine wrs λK hK => ?_;conv=>whnf
   refine zb rfl (za1 none (trM f R X j).l (by omega)) λhs' hhs => ?_;try dsimp only at hhs
   conv=>whnf
   refine hK _ (W.ret ?_);conv=>whnf
   exact ⟨.v (.int .i64 (cf (trM f R X j).l 0)), ⟨rfl, rfl⟩, trivial, .v (.int .i64 0), ⟨rfl, rfl⟩, trivial, rfl⟩
 ·refine ze (za [0, 1, 2, 4, 5, 6, 7, 8, 9, 15, 22, 23, 24]) Tryz.func19 rfl (by decide) Tryz.ntmps19 (lb rfl) λbase => ?_;refine wrs λK hK => ?_;conv=>whnf
  refine ⟨rfl, ?_⟩;conv=>whnf
  intro b_1 hs_1 hh_1 hf_1;try dsimp only at hh_1 hf_1
  conv=>whnf
  refine hK _ (W.seqK λK1 hK1 => wrs λK hK => ?_);conv=>whnf
  refine ⟨⟨rfl, by decide, λx hx => (by simp at hx; subst hx; exact ⟨rfl, rfl⟩)⟩, ?_⟩;conv=>whnf
  intro b_2 hs_2 hh_2 hf_2;try dsimp only at hh_2 hf_2
  conv=>whnf
  refine zb rfl (zZ kp kq g0 (some b_2) f.l 1 _ (λ_ => X.l) (by omega) (by omega) (λi hi => by omega) (zfD g1 X.l)) λhs' hhs => ?_;try dsimp only at hhs
  conv=>whnf
  rw [show z3 kp kq f.l 1 (λ_ => X.l) = 0 from hc];refine hK _ (wrs λK hK => ?_);conv=>whnf
  refine hK _ (W.cond ⟨λhcc => absurd rfl (of_decide_eq_true hcc), λ_ => W.skip (hK1 _ ?_)⟩);clear hK hK1;refine wrs λK hK => ?_;conv=>whnf
  refine hK _ (wrs λK hK => ?_);conv=>whnf
  refine zb rfl (zcH he g0 R hR) λhs' hhs => ?_;try dsimp only at hhs
  conv=>whnf
  refine hK _ (W.seqK λK1 hK1 => wrs λK hK => ?_);conv=>whnf
  refine zb rfl (jw g0 f.l (by omega)) λhs' hhs => ?_;try dsimp only at hhs
  conv=>whnf
  refine hK _ (W.block (W.invA (λm e => ∃ (j : Nat) (g' : Option Nat) (s : List Int), j <= n ∧ s = (trM f R X j).l ∧ m = n - j ∧ e = [(2, .ownB b_1 (vE kp kq g0 f.l)), (7, .v (.ints none s)), (8, .v (.ints none R.l)), (9, .v (.ints g' (frM f R X j).l)), (22, .v (.int .i64 ((f.l.length : Int) - 1))), (23, .v (.int .i64 j))]) ⟨0, g1, [], Nat.zero_le _, zd6.symm, rfl, rfl⟩ ?_));clear hK;rintro m e ⟨j, g', s, hj, rfl, hm, rfl⟩;have hFj := hF j;have hTj := hT j;have hFl : (frM f R X j).l.length = dg (frM f R X j) := rfl;have hTl : (trM f R X j).l.length = dg (trM f R X j) := rfl;have hsl := zhQ (trM f R X j).l (frM f R X j).l;refine wrs λK hK => ?_;conv=>whnf
  refine hK _ ?_;clear hK;refine W.seqK λK7 hK7 => W.cond ⟨λh => ?_, λh => ?_⟩ <;> (first | replace h := of_decide_eq_true h | replace h := of_decide_eq_false h)
  ·refine W.skip (hK7 _ ?_);clear hK7;refine W.seqK λK8 hK8 => W.block ?_;refine wrs λK hK => ?_;conv=>whnf
   refine ⟨by show 0 + 2 <= 3; omega, ?_⟩;conv=>whnf
   refine zb rfl (zK he.rn.1 he.hm) λhs' hhs => ?_;try dsimp only at hhs
   conv=>whnf
   refine zb rfl ((zcy none g' (trM f R X j).l (frM f R X j).l ((kv m9 _).le (by omega)) ((kv m9 _).le (by omega)) (by omega) (by omega)).toV) λhs' hhs => ?_;try dsimp only at hhs
   conv=>whnf
   refine zb rfl ((zG M (by omega) (by omega) none (zu (yr (trM f R X j).l (frM f R X j).l)) (zoN (kv m9 _) (kv m9 _) (by omega)) (by omega)).toV) λhs' hhs => ?_;try dsimp only at hhs
   conv=>whnf
   rw [zoo];refine hK _ ?_;clear hK;refine wrg ?_;conv=>whnf
   refine zb rfl (zd7 he g0 g' none (frM f R X j) R (by omega) hRd) λhs' hhs => ?_;try dsimp only at hhs
   conv=>whnf
   refine hK8 _ ?_;clear hK8;refine wrg ?_;conv=>whnf
   refine ⟨oo, ?_⟩;conv=>whnf
   exact zk ⟨j + 1, none, _, by omega, rfl, rfl, rfl⟩
  ·obtain rfl : j = n := by omega
   refine W.exit (hK1 _ ?_);clear hK7 hK1;refine wrs λK hK => ?_;conv=>whnf
   refine zb rfl (kf none (trM f R X j).l (by omega)) λhs' hhs => ?_;try dsimp only at hhs
   conv=>whnf
   refine hK _ (W.ret ?_);conv=>whnf
   exact ⟨.v (.int .i64 (cf (trM f R X j).l 0)), ⟨rfl, rfl⟩, trivial, .v (.int .i64 0), ⟨rfl, rfl⟩, trivial, rfl⟩
 ·obtain rfl : M' = M := he'.hm.symm.trans he.hm;obtain rfl := vq e1;obtain rfl := vq e2;obtain rfl : n' = n := by have := he'.mn.1; have := he.mn.1; omega
  rw [hRe]

theorem zjD (kp kq : Int) (kl x : List Int) (_ : inR kp) (_ : inR kq) (hkl : kl.length <= 1048576) (hx : x.length <= 1048576) : ∃ r0 r1 : Int,
  (FnV 22 [vE kp kq none kl, .ints none x] (.tup [.int .i64 r0, .int .i64 r1])) ∧ (∀ g0 g1 : Option Nat, FnV 21 [vE kp kq g0 kl, .ints g1 x] (.tup [.int .i64 r0, .int .i64 r1])) ∧ r1 = jd kp kq kl x ∧ (r1 = 0 -> ∀ hp : kp ∈ zY, letI := yL hp; ∀ (M : Int) (_ : Pos M) (f X : Poly M) (n : Nat) (he : ExtP kp kq M f n), f.l = kl -> X.l = x -> r0 = cf (nrM f (zfN he) X n).l 0) := by
 generalize hc : jd kp kq kl x = c
 by_cases h0 : c = 0
 case neg =>
  refine ⟨0, c, ?_, λg0 g1 => ?_, rfl, λh => absurd h h0⟩
  ·refine ze (za [0, 1, 2, 4, 5, 6, 7, 8, 9, 15, 24]) Tryz.func22 rfl (by decide) Tryz.ntmps22 (lb rfl) λbase => ?_;refine wrs λK hK => ?_;conv=>whnf
   refine ⟨rfl, ?_⟩;conv=>whnf
   intro b_1 hs_1 hh_1 hf_1;try dsimp only at hh_1 hf_1
   conv=>whnf
   refine hK _ (wrs λK hK => ?_);conv=>whnf
   refine zb rfl (yH kp kq none none none kl x (by omega) (by omega)) λhs' hhs => ?_;try dsimp only at hhs
   conv=>whnf
   rw [hc];refine hK _ (W.seqK λK1 hK1 => wrs λK hK => ?_);conv=>whnf
   refine hK _ (W.cond ⟨λ_ => ?_, λhcc => absurd h0 (of_decide_eq_false hcc)⟩);clear hK;refine wrs λK hK => ?_;conv=>whnf
   refine hK _ (W.ret ?_);conv=>whnf
   exact ⟨.v (.int .i64 0), ⟨rfl, rfl⟩, trivial, .v (.int .i64 c), ⟨rfl, rfl⟩, trivial, rfl⟩
  ·refine ze (za [0, 1, 2, 4, 5, 6, 7, 8, 9, 15, 23, 24, 25]) Tryz.func21 rfl (by decide) Tryz.ntmps21 (lb rfl) λbase => ?_;refine wrs λK hK => ?_;conv=>whnf
   refine ⟨rfl, ?_⟩;conv=>whnf
   intro b_1 hs_1 hh_1 hf_1;try dsimp only at hh_1 hf_1
   conv=>whnf
   refine hK _ (W.seqK λK1 hK1 => wrs λK hK => ?_);conv=>whnf
   refine ⟨⟨rfl, by decide, λx hx => (by simp at hx; subst hx; exact ⟨rfl, rfl⟩)⟩, ?_⟩;conv=>whnf
   intro b_2 hs_2 hh_2 hf_2;try dsimp only at hh_2 hf_2
   conv=>whnf
   refine zb rfl (zZ kp kq g0 (some b_2) kl 1 _ (λ_ => x) (by omega) (by omega) (λi hi => by omega) (zfD g1 x)) λhs' hhs => ?_;try dsimp only at hhs
   conv=>whnf
   rw [show z3 kp kq kl 1 (λ_ => x) = c from hc];refine hK _ (wrs λK hK => ?_);conv=>whnf
   refine hK _ (W.cond ⟨λ_ => ?_, λhcc => absurd h0 (of_decide_eq_false hcc)⟩);clear hK;refine wrs λK hK => ?_;conv=>whnf
   refine hK _ (W.ret ?_);conv=>whnf
   exact ⟨.v (.int .i64 0), ⟨rfl, rfl⟩, trivial, .v (.int .i64 c), ⟨rfl, rfl⟩, trivial, rfl⟩
 subst h0;obtain ⟨hk, hh⟩ := jx hc;obtain ⟨hp, hx2⟩ := kh hk;letI := yL hp;obtain ⟨M, _, f, n, rfl, he⟩ := hx2;have hfl : f.l.length = dg f := rfl;have hf1 := he.mn.1;have hn8 := he.n8;obtain ⟨X, rfl⟩ := jo he.hm hh.1;have hdX : dg X < dg f := hh.2;have hdX : dg X <= n := by omega
 have hlX : X.l.length = dg X := rfl;obtain ⟨R, hRe, hR⟩ : ∃ R, zfN he = R ∧ RootI kp f n kq.toNat R := ⟨_, rfl, zfO he⟩
 have hRd := hR.deg;have m9 := he.m9;have hp := Pos.pos (p := M);have hF := λj => zhB (R := R) he.mn he.n1 hdX j;have hN := λj => zqz (f := f) (R := R) (X := X) he.mn he.n1 j;refine ⟨cf (nrM f R X n).l 0, 0, ?_, λg0 g1 => ?_, rfl, λ_ hp' M' _ f' X' n' he' e1 e2 => ?_⟩
 ·refine ze (za [0, 1, 2, 4, 5, 6, 7, 8, 9, 15, 24]) Tryz.func22 rfl (by decide) Tryz.ntmps22 (lb rfl) λbase => ?_;refine wrs λK hK => ?_;conv=>whnf
  refine ⟨rfl, ?_⟩;conv=>whnf
  intro b_1 hs_1 hh_1 hf_1;try dsimp only at hh_1 hf_1
  conv=>whnf
  refine hK _ (wrs λK hK => ?_);conv=>whnf
  refine zb rfl (yH kp kq none none none f.l X.l (by omega) (by omega)) λhs' hhs => ?_;try dsimp only at hhs
  conv=>whnf
  rw [hc];refine hK _ (W.seqK λK1 hK1 => wrs λK hK => ?_);conv=>whnf
  refine hK _ (W.cond ⟨λhcc => absurd rfl (of_decide_eq_true hcc), λ_ => W.skip (hK1 _ ?_)⟩);clear hK hK1;refine wrs λK hK => ?_;conv=>whnf
  refine zb rfl (zcI he none X R hdX hR) λhs' hhs => ?_;try dsimp only at hhs
  conv=>whnf
  refine hK _ (wrs λK hK => ?_);conv=>whnf
  refine ⟨⟨rfl, by decide⟩, ?_⟩;conv=>whnf
  intro b_5 hs_5 hh_5 hf_5;try dsimp only at hh_5 hf_5
  conv=>whnf
  refine hK _ (W.seqK λK1 hK1 => wrs λK hK => ?_);conv=>whnf
  refine hK _ (W.block (W.invA (λm e => ∃ (j : Nat) (s : List Int), j <= n ∧ s = (nrM f R X j).l ∧ m = n - j ∧ e = [(2, .ownB b_1 (vE kp kq none f.l)), (7, .v (zpW f R X n)), (8, .v (.ints none s)), (9, .v (.int .i64 j))]) ⟨0, [1], Nat.zero_le _, (zfK he.m2).symm, rfl, rfl⟩ ?_));clear hK;rintro m e ⟨j, s, hj, rfl, hm, rfl⟩;have hFj := hF j;have hNj := hN j;have hNl : (nrM f R X j).l.length = dg (nrM f R X j) := rfl;refine W.seqK λK7 hK7 => wrs λK hK => ?_;conv=>whnf
  refine hK _ (W.cond ⟨λh => ?_, λh => ?_⟩) <;> clear hK <;> (first | replace h := of_decide_eq_true h | replace h := of_decide_eq_false h)
  ·refine W.skip (hK7 _ ?_);clear hK7;refine W.seqK λK8 hK8 => W.block ?_;refine W.draw (za _) follows (by rfl) ?_;conv=>whnf
   refine ⟨oo, ?_⟩;conv=>whnf
   rw [Int.toNat_natCast];refine ⟨_, cxF (yj he none none none (nrM f R X j) (frM f R X j) hNj hFj), ?_⟩;conv=>whnf
   refine hK8 _ ?_;clear hK8;refine wrg ?_;conv=>whnf
   refine ⟨oo, ?_⟩;conv=>whnf
   exact zk ⟨j + 1, _, by omega, rfl, rfl, rfl⟩
  ·obtain rfl : j = n := by omega
   refine W.exit (hK1 _ ?_);clear hK7 hK1;refine wrs λK hK => ?_;conv=>whnf
   refine zb rfl (za1 none (nrM f R X j).l (by omega)) λhs' hhs => ?_;try dsimp only at hhs
   conv=>whnf
   refine hK _ (W.ret ?_);conv=>whnf
   exact ⟨.v (.int .i64 (cf (nrM f R X j).l 0)), ⟨rfl, rfl⟩, trivial, .v (.int .i64 0), ⟨rfl, rfl⟩, trivial, rfl⟩
 ·refine ze (za [0, 1, 2, 4, 5, 6, 7, 8, 9, 15, 23, 24, 25]) Tryz.func21 rfl (by decide) Tryz.ntmps21 (lb rfl) λbase => ?_;refine wrs λK hK => ?_;conv=>whnf
  refine ⟨rfl, ?_⟩;conv=>whnf
  intro b_1 hs_1 hh_1 hf_1;try dsimp only at hh_1 hf_1
  conv=>whnf
  refine hK _ (W.seqK λK1 hK1 => wrs λK hK => ?_);conv=>whnf
  refine ⟨⟨rfl, by decide, λx hx => (by simp at hx; subst hx; exact ⟨rfl, rfl⟩)⟩, ?_⟩;conv=>whnf
  intro b_2 hs_2 hh_2 hf_2;try dsimp only at hh_2 hf_2
  conv=>whnf
  refine zb rfl (zZ kp kq g0 (some b_2) f.l 1 _ (λ_ => X.l) (by omega) (by omega) (λi hi => by omega) (zfD g1 X.l)) λhs' hhs => ?_;try dsimp only at hhs
  conv=>whnf
  rw [show z3 kp kq f.l 1 (λ_ => X.l) = 0 from hc];refine hK _ (wrs λK hK => ?_);conv=>whnf
  refine hK _ (W.cond ⟨λhcc => absurd rfl (of_decide_eq_true hcc), λ_ => W.skip (hK1 _ ?_)⟩);clear hK hK1;refine wrs λK hK => ?_;conv=>whnf
  refine ⟨⟨rfl, by decide⟩, ?_⟩;conv=>whnf
  intro b_4 hs_4 hh_4 hf_4;try dsimp only at hh_4 hf_4
  conv=>whnf
  refine hK _ (wrs λK hK => ?_);conv=>whnf
  refine zb rfl (zcH he g0 R hR) λhs' hhs => ?_;try dsimp only at hhs
  conv=>whnf
  refine hK _ (W.seqK λK1 hK1 => wrs λK hK => ?_);conv=>whnf
  refine zb rfl (jw g0 f.l (by omega)) λhs' hhs => ?_;try dsimp only at hhs
  conv=>whnf
  refine hK _ (W.block (W.invA (λm e => ∃ (j : Nat) (g' : Option Nat) (s : List Int), j <= n ∧ s = (nrM f R X j).l ∧ m = n - j ∧ e = [(2, .ownB b_1 (vE kp kq g0 f.l)), (7, .v (.ints none s)), (8, .v (.ints none R.l)), (9, .v (.ints g' (frM f R X j).l)), (23, .v (.int .i64 ((f.l.length : Int) - 1))), (24, .v (.int .i64 j))]) ⟨0, g1, [1], Nat.zero_le _, (zfK he.m2).symm, rfl, rfl⟩ ?_));clear hK;rintro m e ⟨j, g', s, hj, rfl, hm, rfl⟩;have hFj := hF j;have hNj := hN j;have hNl : (nrM f R X j).l.length = dg (nrM f R X j) := rfl;refine wrs λK hK => ?_;conv=>whnf
  refine hK _ ?_;clear hK;refine W.seqK λK7 hK7 => W.cond ⟨λh => ?_, λh => ?_⟩ <;> (first | replace h := of_decide_eq_true h | replace h := of_decide_eq_false h)
  ·refine W.skip (hK7 _ ?_);clear hK7;refine W.seqK λK8 hK8 => W.block ?_;refine wrs λK hK => ?_;conv=>whnf
   refine zb rfl (kV he g0 none g' (nrM f R X j) (frM f R X j) hNj hFj) λhs' hhs => ?_;try dsimp only at hhs
   conv=>whnf
   refine hK _ ?_;clear hK;refine wrg ?_;conv=>whnf
   refine zb rfl (zd7 he g0 g' none (frM f R X j) R (by omega) hRd) λhs' hhs => ?_;try dsimp only at hhs
   conv=>whnf
   refine hK8 _ ?_;clear hK8;refine wrg ?_;conv=>whnf
   refine ⟨oo, ?_⟩;conv=>whnf
   exact zk ⟨j + 1, none, _, by omega, rfl, rfl, rfl⟩
  ·obtain rfl : j = n := by omega
   refine W.exit (hK1 _ ?_);clear hK7 hK1;refine wrs λK hK => ?_;conv=>whnf
   refine zb rfl (kf none (nrM f R X j).l (by omega)) λhs' hhs => ?_;try dsimp only at hhs
   conv=>whnf
   refine hK _ (W.ret ?_);conv=>whnf
   exact ⟨.v (.int .i64 (cf (nrM f R X j).l 0)), ⟨rfl, rfl⟩, trivial, .v (.int .i64 0), ⟨rfl, rfl⟩, trivial, rfl⟩
 ·obtain rfl : M' = M := he'.hm.symm.trans he.hm;obtain rfl := vq e1;obtain rfl := vq e2;obtain rfl : n' = n := by have := he'.mn.1; have := he.mn.1; omega
  rw [hRe]


section
variable {M : Int} [Pos M]
theorem zoT (h : 2 <= M) : (1 : Poly M).l = [1] := by
 have h1 : Nrm M [1] := ⟨λx hx => by simp at hx; omega, λm hm => by
  have : m = 0 := by simpa using hm
  subst this;decide⟩
 exact zeN h1
theorem zgR {f o b t : Poly M} {n j : Nat} (hf : Mn f n) (h : Cg f (o * b ^ j) t) : Cg f ((if j % 2 = 1 then rdM (o * b) f else o) * rdM (b * b) f ^ (j / 2)) t := by
 refine Cg.trans (Cg.mul ?_ (zlz (xk hf (b * b)) (j / 2))) (zmx h)
 split
 ·exact xk hf _
 ·exact Cg.refl f o
theorem zjE {f o b t : Poly M} {n : Nat} (hf : Mn f n) (h : Cg f (o * b ^ 0) t) (ho : dg o <= n) : o = rdM t f := by
 rw [zv, show o * 1 = o from zh [o] (by rfl)] at h;exact Cg.eq hf (h.trans (xk hf t).symm) ho (yi hf t)
theorem zfP (f b : Poly M) (j : Nat) : Cg f (1 * b ^ j) (b ^ j) := by
 rw [show 1 * b ^ j = b ^ j from zh [b ^ j] (by rfl)];exact Cg.refl f _
noncomputable def tcM (f X : Poly M) (q : Nat) : Nat -> Poly M
 | 0 => X
 | j + 1 => rdM (tcM f X q j ^ q) f
theorem zoU {f X : Poly M} {n : Nat} (hf : Mn f n) (hX : dg X <= n) (q : Nat) : ∀ j, dg (tcM f X q j) <= n
 | 0 => hX
 | _ + 1 => yi hf _
end

section
variable {p k M : Int} [SP p] [Pos M] {f : Poly M} {n : Nat}
theorem zpX (he : ExtP p k M f n) (g : Option Nat) : FnV 80 [vE p k g f.l] (vK p none (im p f).l) := zfH p k g f.l he.rn
theorem zkM (he : ExtP p k M f n) (g : Option Nat) : FnV 85 [vE p k g f.l] (vK p none (im p f).l) := kg p k g f.l he.rn

theorem zjF (he : ExtP p k M f n) (g g1 : Option Nat) (X : Poly M) (q : Nat) (hq : q <= 1000000000000) (hX : dg X <= n) : FnV 83 [vE p k g f.l, .ints g1 X.l, .int .i64 q] (.ints none (rdM (X ^ q) f).l) := by
 have hO1 : dg (1 : Poly M) <= n := Nat.le_trans kP he.n1;have e1 : [(1 : Int)] = (1 : Poly M).l := (zoT he.m2).symm;refine ze (za [0, 1, 2, 3, 6, 7, 10, 15]) Tryz.func83 rfl (by decide) Tryz.ntmps83 (lb rfl) λbase => ?_;refine wrs λK hK => ?_;conv=>whnf
 refine ⟨rfl, ?_⟩;conv=>whnf
 intro b_3 hs_3 hh_3 hf_3;try dsimp only at hh_3 hf_3
 conv=>whnf
 refine hK _ (wrs λK hK => ?_);conv=>whnf
 refine ⟨⟨rfl, by decide⟩, ?_⟩;conv=>whnf
 intro b_4 hs_4 hh_4 hf_4;try dsimp only at hh_4 hf_4
 conv=>whnf
 rw [e1];refine hK _ ?_;clear hK;refine W.seqK λK1 hK1 => W.block (W.invA (λm e => ∃ (i : Nat) (g' : Option Nat) (B O : Poly M), i <= 1000000000000 ∧ Cg f (O * B ^ i) (X ^ q) ∧ dg B <= n ∧ dg O <= n ∧ m = i ∧ e = [(1, .v (.ints g' B.l)), (2, .v (.int .i64 i)), (3, .ownB b_3 (vE p k g f.l)), (7, .v (.ints none O.l))]) ⟨q, g1, X, 1, hq, zfP f X q, hX, hO1, rfl, rfl⟩ ?_);rintro m e ⟨i, g', B, O, hi, h1, h2, h3, hm, rfl⟩;refine W.seqK λK7 hK7 => wrs λK hK => ?_;conv=>whnf
 refine hK _ (W.cond ⟨λh => ?_, λh => ?_⟩) <;> clear hK <;> (first | replace h := of_decide_eq_true h | replace h := of_decide_eq_false h)
 ·refine W.skip (hK7 _ ?_);clear hK7;refine W.seqK λK8 hK8 => W.block ?_;refine W.seqK λK9 hK9 => ?_
  have fin : ∀ (O' : Poly M) (t : S), dg O' <= n -> O' = (if i % 2 = 1 then rdM (O * B) f else O) -> base <= t.hs ->
    zB t.env [(1, .v (.ints g' B.l)), (2, .v (.int .i64 i)), (3, .ownB b_3 (vE p k g f.l)), (7, .v (.ints none O'.l))] -> K9 t := by
   intro O' t h4 h5 h6 h7;refine hK9 _ (W.weak (t := ⟨[(1, .v (.ints g' B.l)), (2, .v (.int .i64 i)), (3, .ownB b_3 (vE p k g f.l)), (7, .v (.ints none O'.l))], base⟩) ⟨h6, h7⟩ (Nat.le_refl _) ?_);clear hK9;refine wrg ?_;conv=>whnf
   refine zb rfl (yj he g g' g' B B h2 h2) λhs' hhs => ?_;try dsimp only at hhs
   conv=>whnf
   refine hK8 _ ?_;clear hK8;refine wrg ?_;conv=>whnf
   refine ⟨by omega, ?_⟩;conv=>whnf
   rw [Int.tdiv_eq_ediv_of_nonneg (by omega)];refine ⟨oo, ?_⟩;conv=>whnf
   exact zk ⟨i / 2, none, rdM (B * B) f, O', by omega, by rw [h5]; exact zgR he.mn h1, yi he.mn _, h4, rfl, rfl⟩
  clear hK9;refine wrs λK hK => ?_;conv=>whnf
  refine ⟨by omega, ?_⟩;conv=>whnf
  rw [Int.tmod_eq_emod_of_nonneg (by omega)];refine hK _ (W.cond ⟨λh4 => ?_, λh4 => ?_⟩) <;> clear hK
  ·have h4 := of_decide_eq_true h4;refine wrg ?_;conv=>whnf
   refine zb rfl (yj he g none g' O B h3 h2) λhs' hhs => ?_;try dsimp only at hhs
   conv=>whnf
   refine fin (rdM (O * B) f) _ (yi he.mn _) (by rw [if_pos (by omega)]) (by dsimp only; omega) ?_;exact cvr
  ·have h4 := of_decide_eq_false h4;refine W.skip (fin O _ h3 (by rw [if_neg (by omega)]) (by dsimp only; omega) ?_);exact cvr
 ·obtain rfl : i = 0 := by omega
  obtain rfl := zjE he.mn h1 h3;refine W.exit (hK1 _ ?_);clear hK7 hK1;refine wrs λK hK => ?_;conv=>whnf
  refine hK _ (W.ret ?_);conv=>whnf
  exact ⟨.v (.ints none (rdM (X ^ q) f).l), ⟨rfl, rfl⟩, trivial, rfl⟩
end

theorem zbp (kp kq : Int) (kl x : List Int) (_ : inR kp) (_ : inR kq) (hkl : kl.length <= 1048576) (hx : x.length <= 1048576) : ∃ (r0 : List Int) (r1 : Int),
  (∀ g0 g1 : Option Nat, FnV 24 [vE kp kq g0 kl, .ints g1 x] (.tup [.ints none r0, .int .i64 r1])) ∧ (∀ g0 g1 : Option Nat, FnT Tryz.prog 23 [vE kp kq g0 kl, .ints g1 x] (RT r0 r1)) ∧ r0.length <= 1000000 ∧ r1 = jd kp kq kl x ∧ (r1 = 0 -> ∀ hp : kp ∈ zY, letI := yL hp; ∀ (M : Int) (_ : Pos M) (f X : Poly M) (n : Nat), ExtP kp kq M f n -> f.l = kl -> X.l = x -> r0 = (tcM f X (kp.toNat ^ n) (kq - 1).toNat).l) := by
 generalize hc : jd kp kq kl x = c
 by_cases h0 : c = 0
 case neg =>
  refine ⟨[], c, λg0 g1 => ?_, λg0 g1 => ?_, by simp, rfl, λh => absurd h h0⟩
  ·refine ze (za [0, 1, 2, 4, 5, 6, 7, 8, 14, 22]) Tryz.func24 rfl (by decide) Tryz.ntmps24 (lb rfl) λbase => ?_;refine wrs λK hK => ?_;conv=>whnf
   refine ⟨rfl, ?_⟩;conv=>whnf
   intro b_1 hs_1 hh_1 hf_1;try dsimp only at hh_1 hf_1
   conv=>whnf
   refine hK _ (wrs λK hK => ?_);conv=>whnf
   refine zb rfl (yH kp kq g0 g1 g1 kl x (by omega) (by omega)) λhs' hhs => ?_;try dsimp only at hhs
   conv=>whnf
   rw [hc];refine hK _ (W.seqK λK1 hK1 => wrs λK hK => ?_);conv=>whnf
   refine hK _ (W.cond ⟨λ_ => ?_, λhcc => absurd h0 (of_decide_eq_false hcc)⟩);clear hK;refine wrs λK hK => ?_;conv=>whnf
   refine hK _ (W.ret ?_);conv=>whnf
   exact ⟨.v (.ints none []), rfl, trivial, .v (.int .i64 c), ⟨rfl, rfl⟩, trivial, rfl⟩
  ·refine y6 (zg [] [0, 1, 2, 4, 5, 6, 7, 8, 9, 10, 16, 23, 24, 25, 32, 37, 1000000]) Tryz.func23 rfl (by decide) Tryz.ntmps23 (lb rfl) (λbase => ?_) (lb rfl);refine W.sw (c' := cx [0, 1, 2, 4, 5, 6, 7, 8, 9, 10, 16, 23, 24, 25, 32, 37, 1000000]) ?_;refine wrs λK hK => ?_;conv=>whnf
   refine ⟨rfl, ?_⟩;conv=>whnf
   intro b_1 hs_1 hh_1 hf_1;try dsimp only at hh_1 hf_1
   conv=>whnf
   refine hK _ (W.seqK λK1 hK1 => wrs λK hK => ?_);conv=>whnf
   refine ⟨⟨rfl, by decide, λx hx => (by simp at hx; subst hx; exact ⟨rfl, rfl⟩)⟩, ?_⟩;conv=>whnf
   intro b_2 hs_2 hh_2 hf_2;try dsimp only at hh_2 hf_2
   conv=>whnf
   refine zb rfl (zZ kp kq g0 (some b_2) kl 1 _ (λ_ => x) (by omega) (by omega) (λi hi => by omega) (zfD g1 x)) λhs' hhs => ?_;try dsimp only at hhs
   conv=>whnf
   rw [show z3 kp kq kl 1 (λ_ => x) = c from hc];refine hK _ (wrs λK hK => ?_);conv=>whnf
   refine hK _ (W.cond ⟨λ_ => ?_, λhcc => absurd h0 (of_decide_eq_false hcc)⟩);clear hK;refine wrs λK hK => ?_;conv=>whnf
   refine hK _ (W.ret ?_);conv=>whnf
   exact ⟨.v (.rf 0 0), rfl, trivial, .v (.int .i64 (c)), ⟨rfl, rfl⟩, trivial, 0, rfl, λhne => absurd rfl hne⟩
 subst h0;obtain ⟨hk, hh⟩ := jx hc;obtain ⟨hp, hx2⟩ := kh hk;letI := yL hp;obtain ⟨M, _, f, n, rfl, he⟩ := hx2;have hfl : f.l.length = dg f := rfl;have hf1 := he.mn.1;have hn8 := he.n8;obtain ⟨X, rfl⟩ := jo he.hm hh.1;have hdX : dg X < dg f := hh.2;have hdX : dg X <= n := by omega
 have hlX : X.l.length = dg X := rfl;obtain ⟨s1, s2, s3, s4, s5, s6⟩ := he.rn.1.small;have hfd := (zaV he.pm he.mn).1;have hil : (im kp f).l.length = dg (im kp f) := rfl;obtain ⟨hq1, hq2, hq3⟩ := zp8 he.fld hfd;generalize hqe : kp.toNat ^ n = q at hq1 hq2 hq3;have hT := zoU he.mn hdX q;have hO1 : dg (1 : Poly M) <= n := Nat.le_trans kP he.n1;have e1 : [(1 : Int)] = (1 : Poly M).l := (zoT he.m2).symm;have n1 : (1 : Poly M).l ≠ [] := by rw [<- e1]; simp
 obtain ⟨kk, hkk⟩ : ∃ kk : Nat, kq - 1 = kk := ⟨(kq - 1).toNat, by omega⟩
 refine ⟨(tcM f X q kk).l, 0, λg0 g1 => ?_, λg0 g1 => ?_, by have := hT kk; show dg _ <= _; omega, rfl, λ_ hp' M' _ f' X' n' he' e1 e2 => ?_⟩
 ·refine ze (za [0, 1, 2, 4, 5, 6, 7, 8, 14, 22]) Tryz.func24 rfl (by decide) Tryz.ntmps24 (lb rfl) λbase => ?_;refine wrs λK hK => ?_;conv=>whnf
  refine ⟨rfl, ?_⟩;conv=>whnf
  intro b_1 hs_1 hh_1 hf_1;try dsimp only at hh_1 hf_1
  conv=>whnf
  refine hK _ (wrs λK hK => ?_);conv=>whnf
  refine zb rfl (yH kp kq g0 g1 g1 f.l X.l (by omega) (by omega)) λhs' hhs => ?_;try dsimp only at hhs
  conv=>whnf
  rw [hc];refine hK _ (W.seqK λK1 hK1 => wrs λK hK => ?_);conv=>whnf
  refine hK _ (W.cond ⟨λhcc => absurd rfl (of_decide_eq_true hcc), λ_ => W.skip (hK1 _ ?_)⟩);clear hK hK1;refine wrs λK hK => ?_;conv=>whnf
  refine zr rfl (zdb g1 X.l (by omega)) λhs_2 b_2 hh_2 hf_2 => ?_;try dsimp only at hh_2 hf_2
  conv=>whnf
  refine hK _ (W.seqK λK1 hK1 => wrs λK hK => ?_);conv=>whnf
  refine hK _ (W.block (W.invA (λm e => ∃ j : Nat, j <= kk ∧ m = kk - j ∧ e = [(2, .ownB b_1 (vE kp kq g0 f.l)), (7, .v (.ints none (tcM f X q j).l)), (8, .v (.int .i64 ((j + 1 : Nat) : Int)))]) ⟨0, Nat.zero_le _, rfl, rfl⟩ ?_));clear hK;rintro m e ⟨j, hj, hm, rfl⟩;refine W.seqK λK7 hK7 => wrs λK hK => ?_;conv=>whnf
  refine hK _ (W.cond ⟨λh => ?_, λh => ?_⟩) <;> clear hK <;> (first | replace h := of_decide_eq_true h | replace h := of_decide_eq_false h)
  ·refine W.skip (hK7 _ ?_);clear hK7;refine W.seqK λK8 hK8 => W.block ?_;refine W.draw (za _) follows (by rfl) ?_;conv=>whnf
   refine ⟨_, cxF (zkM he g0), ?_⟩;conv=>whnf
   refine ⟨_, cxF (zfC kp none (im kp f).l he.fld), ?_⟩;conv=>whnf
   rw [hq1];refine ⟨_, cxF (zjF he g0 none (tcM f X q j) q (by omega) (hT j)), ?_⟩;conv=>whnf
   refine hK8 _ ?_;clear hK8;refine wrg ?_;conv=>whnf
   refine ⟨oo, ?_⟩;conv=>whnf
   exact zk ⟨j + 1, by omega, rfl, rfl⟩
  ·obtain rfl : j = kk := by omega
   refine W.exit (hK1 _ ?_);clear hK7 hK1;refine wrs λK hK => ?_;conv=>whnf
   refine hK _ (W.ret ?_);conv=>whnf
   exact ⟨.v (.ints none (tcM f X q j).l), ⟨rfl, rfl⟩, trivial, .v (.int .i64 0), ⟨rfl, rfl⟩, trivial, rfl⟩
 ·refine y6 (zg [] [0, 1, 2, 4, 5, 6, 7, 8, 9, 10, 16, 23, 24, 25, 32, 37, 1000000]) Tryz.func23 rfl (by decide) Tryz.ntmps23 (lb rfl) (λbase => ?_) (lb rfl);refine W.sw (c' := cx [0, 1, 2, 4, 5, 6, 7, 8, 9, 10, 16, 23, 24, 25, 32, 37, 1000000]) ?_;refine wrs λK hK => ?_;conv=>whnf
  refine ⟨rfl, ?_⟩;conv=>whnf
  intro b_1 hs_1 hh_1 hf_1;try dsimp only at hh_1 hf_1
  conv=>whnf
  refine hK _ (W.seqK λK1 hK1 => wrs λK hK => ?_);conv=>whnf
  refine ⟨⟨rfl, by decide, λx hx => (by simp at hx; subst hx; exact ⟨rfl, rfl⟩)⟩, ?_⟩;conv=>whnf
  intro b_2 hs_2 hh_2 hf_2;try dsimp only at hh_2 hf_2
  conv=>whnf
  refine zb rfl (zZ kp kq g0 (some b_2) f.l 1 _ (λ_ => X.l) (by omega) (by omega) (λi hi => by omega) (zfD g1 X.l)) λhs' hhs => ?_;try dsimp only at hhs
  conv=>whnf
  rw [show z3 kp kq f.l 1 (λ_ => X.l) = 0 from hc];refine hK _ (wrs λK hK => ?_);conv=>whnf
  refine hK _ (W.cond ⟨λhcc => absurd rfl (of_decide_eq_true hcc), λ_ => W.skip (hK1 _ ?_)⟩);clear hK hK1;refine W.sw (c' := cxt [] [0, 1, 2, 4, 5, 6, 7, 8, 9, 10, 16, 23, 24, 25, 32, 37, 1000000]) ?_;refine W.rs (zg _ _) (by rfl) λK hK => ?_;conv=>whnf
  refine zr rfl (zaY g1 X.l (by omega)) λhs_3 b_3 hh_3 hf_3 => ?_;try dsimp only at hh_3 hf_3
  conv=>whnf
  refine hK _ ?_;clear hK;refine W.give 7 λK hK => ?_;conv=>whnf
  refine hK _ ?_;clear hK;refine W.seqK λK1 hK1 => ?_;refine W.rs (zg _ _) (by rfl) λK hK => ?_;conv=>whnf
  refine ⟨oo, ?_⟩;conv=>whnf
  rw [hkk];refine hK _ (W.block (W.invA (λm e => ∃ (j b : Nat) (tb : Tab), j <= kk ∧ ((tcM f X q j).l ≠ [] -> tb b = some (tcM f X q j).l) ∧ m = kk - j ∧ e = [(vt, .tab tb), (2, .ownB b_1 (vE kp kq g0 f.l)), (7, .v (.rf b (tcM f X q j).l.length)), (23, .v (.int .i64 (kk : Nat))), (24, .v (.int .i64 j))]) ⟨0, b_3, _, Nat.zero_le _, λh => zJ _ _ h, rfl, rfl⟩ ?_));clear hK;rintro m e ⟨j, b, tb, hj, hy, hm, rfl⟩;have hTj := hT j;generalize hY : tcM f X q j = Y at hy hTj;refine W.rs (zg _ _) (by rfl) λK hK => ?_;conv=>whnf
  refine hK _ ?_;clear hK;refine W.seqK λK7 hK7 => W.cond ⟨λh => ?_, λh => ?_⟩ <;> (first | replace h := of_decide_eq_true h | replace h := of_decide_eq_false h)
  ·refine W.skip (hK7 _ ?_);clear hK7;refine W.seqK λK8 hK8 => W.block ?_;refine W.tick rfl λhs9 hhs9 hbb => ?_;dsimp only at hhs9
   refine W.rs (zg _ _) (by rfl) λK hK => ?_;conv=>whnf
   refine ⟨⟨rfl, by decide⟩, ?_⟩;conv=>whnf
   intro b_4 hs_4 hh_4 hf_4;try dsimp only at hh_4 hf_4
   conv=>whnf
   rw [e1];refine hK _ ?_;clear hK;refine W.give 9 λK hK => ?_;conv=>whnf
   refine hK _ ?_;clear hK
   have hyb : Y.l ≠ [] -> zhW tb b_4 (1 : Poly M).l b = some Y.l := λh => (zfx _ _ (.inr λe => by
    have h3 := hbb b (by rw [hy h]; simp);have h4 := hf_4 (by simp);omega)).trans (hy h)
   refine W.seqK λK9 hK9 => ?_;refine W.rs (zg _ _) (by rfl) λK hK => ?_;conv=>whnf
   refine zb rfl (zpX he g0) λhs' hhs => ?_;try dsimp only at hhs
   conv=>whnf
   refine zb rfl (zjq kp none (im kp f).l (by omega) (by omega) (by omega) (by omega)) λhs' hhs => ?_;try dsimp only at hhs
   conv=>whnf
   rw [hq1];refine hK _ (W.block (W.invA (λm e => ∃ (i : Nat) (B O : Poly M) (bb bo : Nat) (tb' : Tab), Cg f (O * B ^ i) (Y ^ q) ∧ dg B <= n ∧ dg O <= n ∧ i <= 1000000 ∧ (B.l ≠ [] -> tb' bb = some B.l) ∧ (O.l ≠ [] -> tb' bo = some O.l) ∧ m = i ∧ e = [(vt, .tab tb'), (2, .ownB b_1 (vE kp kq g0 f.l)), (8, .v (.rf bb B.l.length)), (9, .v (.rf bo O.l.length)), (10, .v (.int .i64 i)), (23, .v (.int .i64 (kk : Nat))), (24, .v (.int .i64 j))]) ⟨q, Y, 1, b, b_4, _, zfP f Y q, hTj, hO1, Nat.le_trans hq2 (by omega), hyb, λh => zJ _ _ h, rfl, rfl⟩ ?_));clear hK;clear hyb hbb hhs9;rintro m e ⟨i, B, O, bb, bo, tb', h1, h2, h3, hi, hB, hO, hm, rfl⟩;refine W.seqK λK7 hK7 => W.rs (zg _ _) (by rfl) λK hK => ?_;conv=>whnf
   refine hK _ (W.cond ⟨λh5 => ?_, λh5 => ?_⟩) <;> clear hK <;> (first | replace h5 := of_decide_eq_true h5 | replace h5 := of_decide_eq_false h5)
   ·refine W.skip (hK7 _ ?_);clear hK7;refine W.seqK λK10 hK10 => W.block ?_;refine W.seqK λK11 hK11 => ?_
    have fin : ∀ (O' : Poly M) (b' : Nat) (tc : Tab) (t : S), dg O' <= n -> O' = (if i % 2 = 1 then rdM (O * B) f else O) -> (O'.l ≠ [] -> tc b' = some O'.l) -> (B.l ≠ [] -> tc bb = some B.l) -> base <= t.hs ->
      zB t.env [(vt, .tab tc), (2, .ownB b_1 (vE kp kq g0 f.l)), (8, .v (.rf bb B.l.length)), (9, .v (.rf b' O'.l.length)), (10, .v (.int .i64 i)), (23, .v (.int .i64 (kk : Nat))), (24, .v (.int .i64 j))] -> K11 t := by
     intro O' b' tc t h6 h7 hO' hB' h8 h9;refine hK11 _ (W.weak (t := ⟨[(vt, .tab tc), (2, .ownB b_1 (vE kp kq g0 f.l)), (8, .v (.rf bb B.l.length)), (9, .v (.rf b' O'.l.length)), (10, .v (.int .i64 i)), (23, .v (.int .i64 (kk : Nat))), (24, .v (.int .i64 j))], base⟩) ⟨h8, h9⟩ (Nat.le_refl _) ?_);clear hK11 K11;refine W.sw (c' := cxt [77] [0, 1, 2, 4, 5, 6, 7, 8, 9, 10, 16, 23, 24, 25, 32, 37, 1000000]) ?_;refine W.region (zg _ _) (by rfl) ?_;conv=>whnf
     refine ⟨B.l, ⟨rfl, hB'⟩, ?_⟩;conv=>whnf
     refine ⟨B.l, ⟨rfl, hB'⟩, ?_⟩;conv=>whnf
     refine ⟨_, cxT (za4 he g0 (some bb) (some bb) B B h2 h2), λlo_t hi_t hs_t x_t tn_t tb_t hl1_t hl2_t _ hp_t hf_t hn_t ho_t => ?_⟩;try dsimp only at hl1_t hl2_t
     obtain ⟨bt, rfl, ht⟩ := hp_t;conv=>whnf
     refine hK10 _ ?_;clear hK10 K10;refine W.region (zg _ _) (by rfl) ?_;conv=>whnf
     refine ⟨⟨by omega, rfl⟩, ?_⟩;conv=>whnf
     exact zk ⟨i / 2, rdM (B * B) f, O', bt, b', tb_t, by rw [h7]; exact zgR he.mn h1, yi he.mn _, h6, by omega, λh => hn_t _ _ (ht h), λh => ho_t _ _ (hO' h), rfl, rfl⟩
    clear hK11;refine W.sw (c' := cxt [] [0, 1, 2, 4, 5, 6, 7, 8, 9, 10, 16, 23, 24, 25, 32, 37, 1000000]) ?_;refine W.rs (zg _ _) (by rfl) λK hK => ?_;conv=>whnf
    refine ⟨⟨by omega, by omega, rfl⟩, ?_⟩;conv=>whnf
    refine hK _ (W.cond ⟨λh4 => ?_, λh4 => ?_⟩) <;> clear hK
    ·have h4 := of_decide_eq_true h4;refine W.sw (c' := cxt [77] [0, 1, 2, 4, 5, 6, 7, 8, 9, 10, 16, 23, 24, 25, 32, 37, 1000000]) ?_;refine W.region (zg _ _) (by rfl) ?_;conv=>whnf
     refine ⟨O.l, ⟨rfl, hO⟩, ?_⟩;conv=>whnf
     refine ⟨B.l, ⟨rfl, hB⟩, ?_⟩;conv=>whnf
     refine ⟨_, cxT (za4 he g0 (some bo) (some bb) O B h3 h2), λlo_r hi_r hs_r x_r tn_r tb_r hl1_r hl2_r _ hp_r hf_r hn_r ho_r => ?_⟩;try dsimp only at hl1_r hl2_r
     obtain ⟨br, rfl, hr⟩ := hp_r;conv=>whnf
     refine fin (rdM (O * B) f) br tb_r _ (yi he.mn _) (by rw [if_pos (by omega)]) (λh => hn_r _ _ (hr h)) (λh => ho_r _ _ (hB h)) (by dsimp only; omega) ?_;exact cvr
    ·have h4 := of_decide_eq_false h4;refine W.skip (fin O bo tb' _ h3 (by rw [if_neg (by omega)]) hO hB (by dsimp only; omega) ?_);exact cvr
   ·obtain rfl : i = 0 := by omega
    obtain rfl := zjE he.mn h1 h3;refine W.exit (hK9 _ ?_);clear hK7 hK9;refine W.sw (c' := cxt [] [0, 1, 2, 4, 5, 6, 7, 8, 9, 10, 16, 23, 24, 25, 32, 37, 1000000]) ?_;refine W.region (zg _ _) (by rfl) ?_;conv=>whnf
    refine hK8 _ ?_;clear hK8;refine W.region (zg _ _) (by rfl) ?_;conv=>whnf
    refine ⟨oo, ?_⟩;conv=>whnf
    subst hY;exact zk ⟨j + 1, bo, tb', by omega, hO, rfl, rfl⟩
  ·obtain rfl : j = kk := by omega
   subst hY;refine W.exit (hK1 _ ?_);clear hK7 hK1;refine W.rs (zg _ _) (by rfl) λK hK => ?_;conv=>whnf
   refine hK _ (W.ret ?_);conv=>whnf
   exact ⟨.v (.rf b (tcM f X q j).l.length), rfl, trivial, .v (.int .i64 0), ⟨rfl, rfl⟩, trivial, b, rfl, hy⟩
 ·obtain rfl : M' = M := he'.hm.symm.trans he.hm;obtain rfl := vq e1;obtain rfl := vq e2;obtain rfl : n' = n := by have := he'.mn.1; have := he.mn.1; omega
  rw [hqe, hkk]; rfl



section
variable {p k M : Int} [SP p] [Pos M] {f : Poly M} {a b : Nat} {g0 h0 S T : Poly p} {G H : Poly M}

theorem zhT {p M : Int} (h : xQ p k) (hm : p ^ k.toNat = M) : FnV 138 [.int .i64 p, .int .i64 k] (.int .i64 M) := by
 obtain ⟨s1, s2, s3, s4, s5, s6⟩ := h.small;obtain ⟨j, rfl⟩ : ∃ j : Nat, k = j := ⟨k.toNat, by omega⟩
 rw [Int.toNat_natCast] at hm s6;have hmS : zdP p j = M := by unfold zdP; rw [if_pos s6, hm]
 exact (vO p j (by omega) (by omega) (by omega)).mono (by rw [hmS])

end


section
variable {p k M : Int} [SP p] [Pos M] {f : Poly M} {a b : Nat} {g0 h0 S T : Poly p} {G H : Poly M}
end



section
variable {p k M : Int} [SP p] [Pos M] {f : Poly M} {a b : Nat} {g0 h0 S T : Poly p} {G H : Poly M}
end


section
variable {p : Int} [SP p]
end


structure LfP (p k M : Int) [SP p] [Pos M] (f : Poly M) (n : Nat) : Prop where
 rn : xV p k f.l
 mon : jh f.l
 hm : p ^ k.toNat = M
 mn : Mn f n
 n1 : 1 <= n
 n8 : n <= 8
 pm : p ∣ M
 ple : p <= M
section
variable {p k M : Int} [SP p] [Pos M] {f : Poly M} {n : Nat}
end


section
variable {p k M : Int} [SP p] [Pos M] {f : Poly M} {n : Nat}
end

def RT3 (r0 r1 : List Int) (r2 : Int) : kw := λ_ _ x tb => ∃ rb0 rb1 : Nat, x = .tup [.rf rb0 r0.length, .rf rb1 r1.length, .int .i64 r2] ∧ (r0 ≠ [] -> tb rb0 = some r0) ∧ (r1 ≠ [] -> tb rb1 = some r1) ∧ (r0 ≠ [] -> r1 ≠ [] -> rb0 ≠ rb1)

section
variable {p k M : Int} [SP p] [Pos M] {f : Poly M} {n : Nat}
end



section
variable {p k M : Int} [SP p] [Pos M]
end


def zam (p n : Int) : Int := if isP p = true then (if 1 <= n ∧ n <= 4 then 0 else 2) else 1
theorem zmO {p n : Int} (h : zam p n = 0) : isP p = true ∧ 1 <= n ∧ n <= 4 := by
 unfold zam at h
 by_cases h1 : isP p = true
 ·rw [if_pos h1] at h
  by_cases h2 : 1 <= n ∧ n <= 4
  ·exact ⟨h1, h2⟩
  ·rw [if_neg h2] at h; cases h
 ·rw [if_neg h1] at h; cases h

theorem zkN {p : Int} (hp : 2 <= p) (d : Nat) : (List.replicate (d + 1) (0 : Int)).set d 1 = dig p.toNat (p.toNat ^ d) := by
 have hT : Top p.toNat d ((List.replicate (d + 1) (0 : Int)).set d 1) := by
  refine ⟨by simp, by rw [z6 (by simp), if_pos rfl], λx hx => ?_⟩;obtain ⟨i, hi, rfl⟩ := List.getElem_of_mem hx;rw [List.getElem_set]
  split
  ·omega
  ·simp; omega
 have hn : num p.toNat ((List.replicate (d + 1) (0 : Int)).set d 1) = p.toNat ^ d := by
  have h1 : (List.replicate (d + 1) (0 : Int)).set d 1 = List.replicate d 0 ++ [1] := by
   refine zaQ (by simp) λj hj => ?_;have hj : j < d + 1 := by simpa using hj
   rw [z6 (by simp)]
   by_cases h2 : j = d
   ·subst h2; rw [if_pos rfl, zc8]
   ·rw [if_neg h2, zD, yK (by simp; omega), List.getElem_append_left (by simp; omega)]; simp
  rw [h1, zc6]; simp [num]
 rw [<- hn, hT.dig (by omega)]

theorem zbq (p n : Int) (r : Option Nat) (hr : ∀ h : p ∈ zY, 1 <= n ∧ n <= 4 -> letI := yL h; zal (λk => Irr (xv p k)) (p.toNat ^ n.toNat) (2 * p.toNat ^ n.toNat) r) :
  FnV 203 [.int .i64 p, .int .i64 n] (if zam p n = 0 then RV (zjs p.toNat r) 0 else RV [] (zam p n)) := by
 by_cases hc : zam p n = 0
 ·obtain ⟨hp0, hn1, hn4⟩ := zmO hc;have hp := zaj hp0;have hpr : p ∈ zY := of_decide_eq_true hp0;have hr := hr hpr ⟨hn1, hn4⟩;letI := yL hpr;rw [if_pos hc];obtain ⟨d, rfl⟩ : ∃ d : Nat, n = d := ⟨n.toNat, by omega⟩
  rw [Int.toNat_natCast] at hr;have hB : 0 < p.toNat ^ d := Nat.pow_pos (by omega);have hfl := zkN (p := p) (by omega) d;refine ze (za [0, 1, 4, 5, 6, 7, 12]) Tryz.func203 rfl (by decide) Tryz.ntmps203 (lb rfl) λbase => ?_;refine wrs λK hK => ?_;conv=>whnf
  refine hK _ (wrs λK hK => ?_);conv=>whnf
  refine zb rfl (zfA p d 1 4) λhs' hhs => ?_;try dsimp only at hhs
  conv=>whnf
  rw [show (if isP p = true then (if 1 <= (d : Int) ∧ (d : Int) <= 4 then (0 : Int) else 2) else 1) = 0 from hc];refine hK _ (W.seqK λK1 hK1 => wrs λK hK => ?_);conv=>whnf
  refine hK _ (W.cond ⟨λhcc => absurd rfl (of_decide_eq_true hcc), λ_ => W.skip (hK1 _ ?_)⟩);clear hK hK1;refine wrs λK hK => ?_;conv=>whnf
  refine ⟨oo, ?_⟩;conv=>whnf
  refine ⟨rfl, ?_⟩;conv=>whnf
  refine ⟨oo, ?_⟩;conv=>whnf
  have e1 : ((d : Int) + 1).toNat = d + 1 := by omega
  rw [e1];intro b_2 hs_2 hh_2 hf_2;try dsimp only at hh_2 hf_2
  conv=>whnf
  refine hK _ (wrs λK hK => ?_);conv=>whnf
  refine ⟨⟨by omega, by simp; omega⟩, ?_⟩;conv=>whnf
  rw [Int.toNat_natCast, hfl];refine hK _ (wrs λK hK => ?_);conv=>whnf
  refine zb rfl (zfB p (some b_2) d (p.toNat ^ d) (by omega) (by omega) (Nat.le_refl _) (by omega) r hr) λhs' hhs => ?_;try dsimp only at hhs
  conv=>whnf
  refine hK _ (W.ret ?_);conv=>whnf
  exact ⟨.v (.ints none (zjs p.toNat r)), ⟨rfl, rfl⟩, trivial, .v (.int .i64 0), ⟨rfl, rfl⟩, trivial, rfl⟩
 ·rw [if_neg hc];refine ze (za [0, 1, 4, 5, 6, 7, 12]) Tryz.func203 rfl (by decide) Tryz.ntmps203 (lb rfl) λbase => ?_;refine wrs λK hK => ?_;conv=>whnf
  refine hK _ (wrs λK hK => ?_);conv=>whnf
  refine zb rfl (zfA p n 1 4) λhs' hhs => ?_;try dsimp only at hhs
  conv=>whnf
  rw [show (if isP p = true then (if 1 <= n ∧ n <= 4 then (0 : Int) else 2) else 1) = zam p n from rfl];refine hK _ (W.seqK λK1 hK1 => wrs λK hK => ?_);conv=>whnf
  refine hK _ (W.cond ⟨λ_ => ?_, λhcc => absurd hc (of_decide_eq_false hcc)⟩);clear hK;refine wrs λK hK => ?_;conv=>whnf
  refine hK _ (W.ret ?_);conv=>whnf
  exact ⟨.v (.ints none []), rfl, trivial, .v (.int .i64 (zam p n)), ⟨rfl, rfl⟩, trivial, rfl⟩



theorem zfQ {n : Nat} {c : Nat -> Int} (hc : Byt n c) : zjk 205 [] n c (λr => ∃ q : Int, r = .int .i64 q ∧ q ∈ ([1, 4, 0, 97, 101, -3, 9, 2, 3, 5, 7, 11, 13, 17, 31] : List Int)) := by
 rintro b x hx;refine j1 (cx := cxt [] [0, 2, 5, 1000000, 1000001]) (zg [] [0, 2, 5, 1000000, 1000001]) Tryz.func205 rfl (by decide) Tryz.ntmps205 (lb rfl) (lb rfl) rfl rfl λbase hs0 O U hw v0 hb0 => ?_;refine W.sw (c' := cx [0, 2, 5, 1000000, 1000001]) ?_;refine wrs λK hK => ?_;conv=>whnf
 refine hK _ (W.seqK λK1 hK1 => wrs λK hK => ?_);conv=>whnf
 refine ⟨⟨rfl, rfl⟩, ?_⟩;conv=>whnf
 refine ⟨rfl, _, (zR hc 24 (by constructor <;> decide) b x hx), ?_⟩;rintro hs_ms1 av x' t' hh_ms1 ⟨rfl, ⟨x1, hx1, rfl⟩, _, rfl, ⟨q, rfl, q0, q1, q2⟩⟩ _ _ _;try dsimp only at hh_ms1
 conv=>whnf
 refine hK _ (W.cond ⟨λh => ?_, λh => ?_⟩) <;> clear hK
 ·refine wrs λK hK => ?_;conv=>whnf
  refine ⟨⟨rfl, by decide⟩, ?_⟩;conv=>whnf
  intro b_7 hs_7 hh_7 hf_7;try dsimp only at hh_7 hf_7
  conv=>whnf
  refine ⟨⟨rfl, rfl⟩, ?_⟩;conv=>whnf
  refine ⟨rfl, _, (vI hc none [1, 4, 0, 97, 101, -3, 9] ⟨by decide, by decide⟩ b x1 hx1), ?_⟩;rintro hs_ms2 av x' t' hh_ms2 ⟨rfl, ⟨x2, hx2, rfl⟩, _, rfl, ⟨r, rfl, hr⟩⟩ _ _ _;try dsimp only at hh_ms2
  conv=>whnf
  refine hK _ ?_;clear hK
  have hr2 : r ∈ ([1, 4, 0, 97, 101, -3, 9, 2, 3, 5, 7, 11, 13, 17, 31] : List Int) := by
   simp only [List.mem_cons, List.not_mem_nil, or_false] at hr ⊢
   omega
  refine W.ret ?_;conv=>whnf
  refine ⟨by dsimp only; omega, ?_⟩;conv=>whnf
  refine ⟨rfl, ?_⟩;conv=>whnf
  refine ⟨.int .i64 r, ⟨rfl, rfl⟩, ?_⟩;conv=>whnf
  exact ⟨.ownB b (x2), ⟨rfl, rfl⟩, .inr ⟨rfl, rfl⟩, .dead, trivial, rfl, rfl, rfl, ⟨x2, hx2, rfl⟩, _, rfl, ⟨r, rfl, hr2⟩⟩
 refine W.skip (hK1 _ ?_);clear hK1;refine wrs λK hK => ?_;conv=>whnf
 refine ⟨⟨rfl, by decide⟩, ?_⟩;conv=>whnf
 intro b_7 hs_7 hh_7 hf_7;try dsimp only at hh_7 hf_7
 conv=>whnf
 refine ⟨⟨rfl, rfl⟩, ?_⟩;conv=>whnf
 refine ⟨rfl, _, (vI hc none [2, 3, 5, 7, 2, 3, 5, 11, 13, 17, 31] ⟨by decide, by decide⟩ b x1 hx1), ?_⟩;rintro hs_ms2 av x' t' hh_ms2 ⟨rfl, ⟨x2, hx2, rfl⟩, _, rfl, ⟨r, rfl, hr⟩⟩ _ _ _;try dsimp only at hh_ms2
 conv=>whnf
 refine hK _ ?_;clear hK
 have hr2 : r ∈ ([1, 4, 0, 97, 101, -3, 9, 2, 3, 5, 7, 11, 13, 17, 31] : List Int) := by
  simp only [List.mem_cons, List.not_mem_nil, or_false] at hr ⊢
  omega
 refine W.ret ?_;conv=>whnf
 refine ⟨by dsimp only; omega, ?_⟩;conv=>whnf
 refine ⟨rfl, ?_⟩;conv=>whnf
 refine ⟨.int .i64 r, ⟨rfl, rfl⟩, ?_⟩;conv=>whnf
 exact ⟨.ownB b (x2), ⟨rfl, rfl⟩, .inr ⟨rfl, rfl⟩, .dead, trivial, rfl, rfl, rfl, ⟨x2, hx2, rfl⟩, _, rfl, ⟨r, rfl, hr2⟩⟩

theorem zkO {n : Nat} {c : Nat -> Int} (hc : Byt n c) : zjk 168 [] n c (λr => ∃ (p : Int) (L : List Int), r = vK p none L ∧ (2 <= p ∧ p <= 7) ∧ L.length <= 9 ∧ p ∈ zY ∧ ∀ j, 0 <= cf L j ∧ cf L j < p) := by
 rintro b x hx;refine j1 (cx := cxt [] [0, 2, 3, 4, 5, 6, 7, 19, 36, 1000000, 1000001]) (zg [] [0, 2, 3, 4, 5, 6, 7, 19, 36, 1000000, 1000001]) Tryz.func168 rfl (by decide) Tryz.ntmps168 (lb rfl) (lb rfl) rfl rfl λbase hs0 O U hw v0 hb0 => ?_;refine W.sw (c' := cx [0, 2, 3, 4, 5, 6, 7, 19, 36, 1000000, 1000001]) ?_;refine wrs λK hK => ?_;conv=>whnf
 intro b_2 hs_2 hh_2 hf_2;try dsimp only at hh_2 hf_2
 conv=>whnf
 refine hK _ (wrs λK hK => ?_);conv=>whnf
 refine ⟨⟨rfl, by decide⟩, ?_⟩;conv=>whnf
 intro b_7 hs_7 hh_7 hf_7;try dsimp only at hh_7 hf_7
 conv=>whnf
 refine ⟨⟨rfl, rfl⟩, ?_⟩;conv=>whnf
 refine ⟨rfl, _, (vI hc none [2, 3, 5, 2, 3, 7] ⟨by decide, by decide⟩ b x hx), ?_⟩;rintro hs_ms1 av x' t' hh_ms1 ⟨rfl, ⟨x1, hx1, rfl⟩, _, rfl, ⟨p, rfl, hp⟩⟩ _ _ _;try dsimp only at hh_ms1
 conv=>whnf
 refine hK _ ?_;clear hK
 have hpp : p ∈ zY := by
  simp only [List.mem_cons, List.not_mem_nil, or_false] at hp
  unfold zY;simp only [List.mem_cons, List.not_mem_nil, or_false]
  omega
 have hp27 : 2 <= p ∧ p <= 7 := by
  simp only [List.mem_cons, List.not_mem_nil, or_false] at hp
  omega
 letI := yL hpp;refine wrs λK hK => ?_;conv=>whnf
 refine ⟨⟨rfl, rfl⟩, ?_⟩;conv=>whnf
 refine ⟨rfl, _, (zR hc 4 (by constructor <;> decide) b x1 hx1), ?_⟩;rintro hs_ms2 av x' t' hh_ms2 ⟨rfl, ⟨x2, hx2, rfl⟩, _, rfl, ⟨q, rfl, q0, q1, _⟩⟩ _ _ _;try dsimp only at hh_ms2
 conv=>whnf
 have hq4 := q1 (by decide);refine ⟨oo, ?_⟩;conv=>whnf
 refine hK _ ?_;clear hK;obtain ⟨d, hd⟩ : ∃ d : Nat, 1 + q = d := ⟨(1 + q).toNat, by omega⟩
 rw [hd];have hd14 : 1 <= d ∧ d <= 4 := by omega
 refine wrs λK hK => ?_;conv=>whnf
 refine ⟨oo, ?_⟩;conv=>whnf
 refine ⟨rfl, ?_⟩;conv=>whnf
 refine ⟨oo, ?_⟩;conv=>whnf
 intro b_5 hs_5 hh_5 hf_5;try dsimp only at hh_5 hf_5
 conv=>whnf
 refine hK _ (W.seqK λK1 hK1 => wrs λK hK => ?_);conv=>whnf
 refine hK _ (W.block (W.invH hs0 hb0 (λm e => ∃ (i bo : Nat) (y : V) (X : List Int), i <= d ∧ zaX n c y ∧ X.length = d + 1 ∧ (∀ j, 0 <= cf X j ∧ cf X j < p) ∧ m = d - i ∧ e = [(vt, .dead), (vk, .keep O U hw 0 v0), (0, .ownB b y), (2, .ownB b_2 (.agg [.int .i64 0, .nil])), (3, .v (.int .i64 p)), (4, .v (.int .i64 d)), (5, .ownI 2 bo X), (6, .v (.int .i64 i))]) _ _ (⟨0, b_5, x2, List.replicate (d + 1) 0, Nat.zero_le _, hx2, by simp, λj => by rw [zD]; omega, rfl, rfl⟩) (by dsimp only; omega) (by repeat' first | refine And.intro ?_ ?_ | exact trivial | rfl | omega | exact .inl rfl | exact λ_ _ => rfl | exact λ_ _ h => h | assumption | exact λi hi => (by obtain rfl : i = 0 := (by omega); rfl)) ?_));clear hK;rintro m e ⟨i, bo, y, X, h1, hy, h2, h3, hm, rfl⟩;refine W.seqK λK7 hK7 => wrs λK hK => ?_;conv=>whnf
 refine hK _ (W.cond ⟨λh5 => ?_, λh5 => ?_⟩) <;> clear hK <;> (first | replace h5 := of_decide_eq_true h5 | replace h5 := of_decide_eq_false h5)
 ·have hi : i < d := by omega
  refine W.skip (hK7 _ (W.seqK λK8 hK8 => W.block ?_));clear hK7;refine wrg ?_;conv=>whnf
  refine ⟨⟨rfl, rfl⟩, ?_⟩;conv=>whnf
  refine ⟨rfl, _, (zR hc p (by constructor <;> omega) b y hy), ?_⟩;rintro hs_ms3 av x' t' hh_ms3 ⟨rfl, ⟨x3, hx3, rfl⟩, _, rfl, ⟨r1, rfl, r10, r11, _⟩⟩ _ _ _;try dsimp only at hh_ms3
  conv=>whnf
  have h11 := r11 (by omega);refine ⟨oo, ?_⟩;conv=>whnf
  rw [Int.toNat_natCast];refine hK8 _ ?_;clear hK8;refine wrg ?_;conv=>whnf
  refine ⟨oo, ?_⟩;conv=>whnf
  have hX : ∀ j, 0 <= cf (X.set i r1) j ∧ cf (X.set i r1) j < p := λj => by
   unfold cf;rw [List.getD_eq_getElem?_getD, List.getElem?_set]
   by_cases hj : i = j
   ·rw [if_pos hj, if_pos (by omega)]; exact ⟨r10, h11⟩
   ·rw [if_neg hj, <- List.getD_eq_getElem?_getD]; exact h3 j
  exact zk ⟨i + 1, bo, x3, X.set i r1, by omega, hx3, by simp; omega, hX, rfl, rfl⟩
 ·obtain rfl : i = d := by omega
  have hp1 := yU hpp
  have hT : Top p.toNat i (X.set i 1) := by
   refine ⟨by simp; omega, ?_, λz hz => ?_⟩
   ·unfold cf; rw [List.getD_eq_getElem?_getD, List.getElem?_set_self (by omega)]; rfl
   ·obtain ⟨j, hj, rfl⟩ := List.mem_iff_getElem.1 hz;rw [List.getElem_set]
    split
    ·omega
    ·have := h3 j;rw [yK (by simpa using hj)] at this;omega
  have hdig := hT.dig (by omega);have hrng := hT.range (by omega);obtain ⟨r, hr⟩ := zcG (λn => Irr (xv p n)) (num p.toNat (X.set i 1)) (2 * p.toNat ^ i);obtain ⟨r2, hr2⟩ := zcG (λn => Irr (xv p n)) (p.toNat ^ i) (2 * p.toNat ^ i)
  have ho : ∀ {a : Nat} {q : Option Nat}, p.toNat ^ i <= a -> zal (λn => Irr (xv p n)) a (2 * p.toNat ^ i) q -> (zjs p.toNat q).length <= 9 ∧ ∀ j, 0 <= cf (zjs p.toNat q) j ∧ cf (zjs p.toNat q) j < p := λ{a q} ha hq => by
   cases q with
   | none => exact ⟨Nat.zero_le _, λj => by rw [show cf (zjs p.toNat none) j = 0 from zS j]; omega⟩
   | some v =>
    have := (zn5 (p := p.toNat) (d := i) (k := v) (by omega) (by have := hq.1; omega) hq.2.1).len;refine ⟨?_, λj => ?_⟩
    ·show (dig p.toNat v).length <= 9
     omega
    ·have := jP (xv p v) j;rw [zbk] at this;exact this
  refine W.exit (hK1 _ ?_);clear hK7 hK1;refine wrs λK hK => ?_;conv=>whnf
  refine ⟨oo, ?_⟩;conv=>whnf
  rw [Int.toNat_natCast];refine hK _ (wrs λK hK => ?_);conv=>whnf
  refine zb rfl ((by have := zfB p (some bo) i (num p.toNat (X.set i 1)) hd14.1 hd14.2 hrng.1 hrng.2 r hr; rw [hdig] at this; exact this)) λhs' hhs => ?_;try dsimp only at hhs
  conv=>whnf
  refine hK _ ?_;clear hK;refine W.seqK λK1 hK1 => ?_
  have fin : ∀ (L : List Int) (t : S), (L.length <= 9 ∧ ∀ j, 0 <= cf L j ∧ cf L j < p) -> hs0 <= t.hs -> zB t.env [(vt, .dead), (vk, .keep O U hw 0 v0), (0, .ownB b y), (2, .ownB b_2 (.agg [.int .i64 0, .nil])), (3, .v (.int .i64 p)), (7, .v (.ints none L))] -> K1 t := by
   intro L t hL h9 h10;refine hK1 _ (W.weak (t := ⟨_, hs0⟩) ⟨h9, h10⟩ hb0 ?_);clear hK1;refine wrs λK hK => ?_;conv=>whnf
   refine ⟨s23, ?_⟩;conv=>whnf
   refine hK _ (W.ret ?_);conv=>whnf
   refine ⟨by dsimp only; omega, ?_⟩;conv=>whnf
   exact ⟨.ownB b (y), ⟨rfl, rfl⟩, .inr ⟨rfl, rfl⟩, .dead, trivial, rfl, rfl, rfl, ⟨y, hy, rfl⟩, _, rfl, ⟨p, L, rfl, hp27, hL.1, hpp, hL.2⟩⟩
  refine wrs λK hK => ?_;conv=>whnf
  refine hK _ (W.cond ⟨λh => ?_, λh => ?_⟩) <;> clear hK
  ·have hcn : zam p i = 0 := by
    unfold zam;rw [if_pos (show isP p = true from decide_eq_true hpp), if_pos (by omega)]
   refine wrg ?_;conv=>whnf
   refine zb rfl ((by have := zbq p i r2 (λ_ _ => by rw [Int.toNat_natCast]; exact hr2); rw [if_pos hcn] at this; exact this)) λhs' hhs => ?_;try dsimp only at hhs
   conv=>whnf
   refine fin _ _ (ho (Nat.le_refl _) hr2) (by dsimp only; omega) ?_;exact cvr
  ·refine W.skip (fin _ _ (ho hrng.1 hr) (by dsimp only; omega) ?_);exact cvr







def zp9 (f : Nat) (xs : List V) (n : Nat) (c : Nat -> Int) (Q : List Int -> Prop) : Prop :=
 ∀ (b : Nat) (x : V), zaX n c x -> MFn Tryz.prog f (.nil :: xs) 0 (.ownB b x) .dead (λ_ av x' t' => t' = .dead ∧ (∃ x1, zaX n c x1 ∧ x' = .ownB b x1) ∧ ∃ bo L, av = .ownI 2 bo L ∧ Q L)

theorem W.invS {P : Program} {c : Cx} {N base : Nat} {x : Code} {QQ : Exit -> S -> Prop} {s : S} (I : Nat -> Env -> Nat -> Prop) (m0 : Nat) (e0 : Env) (h0 : Nat) (hi : I m0 e0 h0) (hb : ∀ m e h, I m e h -> base <= h) (hh : h0 <= s.hs) (hc : zB s.env e0)
  (round : ∀ m e h, I m e h -> W P c N base x (Ex (λs' => ∃ m' e' h', I m' e' h' ∧ m' < m ∧ h' <= s'.hs ∧ zB s'.env e') QQ) ⟨e, h⟩) : W P c N base (.loop x) QQ s :=
 W.inv (λm s => I m s.env s.hs) m0 ⟨e0, h0⟩ hi ⟨hh, hc⟩ (λm s h => hb _ _ _ h) λm s h => by
  obtain ⟨e, hs⟩ := s;refine (round m e hs h).mono λex s' hq => ?_;cases ex with
  | normal => obtain ⟨m', e', h', h1, h2, h3, h4⟩ := hq; exact ⟨m', ⟨e', h'⟩, h1, h2, h3, h4⟩
  | _ => exact hq


end Go.Proofs.YtffhmebkkbfaeaaGreat
