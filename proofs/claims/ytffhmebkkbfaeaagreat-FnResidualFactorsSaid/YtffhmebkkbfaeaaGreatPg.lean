/- What the program's functions and the reference's return. No conditions. -/
import Derived.Test.YtffhmebkkbfaeaaGreatPf
namespace Go.Proofs.YtffhmebkkbfaeaaGreat
open Go Go.RowKit Go.Proofs Poly
set_option maxRecDepth 100000
set_option maxHeartbeats 8000000

def ja (x y : Int) : Int := if x < y then -1 else if y < x then 1 else 0
def zaC (f g : List Int) : Nat -> Int
 | 0 => 0
 | n + 1 => if cf f n < cf g n then -1 else if cf g n < cf f n then 1 else zaC f g n
def vH (f g : List Int) : Int := if f.length < g.length then -1 else if g.length < f.length then 1 else zaC f g f.length

theorem zny {xs ys : List Int} (h : xs.length ≠ ys.length) : vH xs ys = ja xs.length ys.length := by
 unfold vH ja
 by_cases h1 : xs.length < ys.length
 ·rw [if_pos h1, if_pos (by omega)]
 ·rw [if_neg h1, if_pos (by omega), if_neg (by omega), if_pos (by omega)]

theorem zcw (x : Int) : FnV 247 [.int .i64 x] (.bool false) := by
 refine ze (za [0, 2]) Tryz.func247 rfl (by decide) Tryz.ntmps247 (lb rfl) λbase => ?_;refine wrs λK hK => ?_;conv=>whnf
 refine hK _ (wrs λK hK => ?_);conv=>whnf
 refine hK _ (W.ret ?_);conv=>whnf
 exact ⟨.v (.bool false), (decide_eq_false λh : x ≠ x => h rfl), trivial, rfl⟩
theorem zaD (x : Int) : FnV 213 [.int .i64 x] (.bool false) := by
 refine ze (za [0, 2]) Tryz.func213 rfl (by decide) Tryz.ntmps213 (lb rfl) λbase => ?_;refine wrs λK hK => ?_;conv=>whnf
 refine hK _ (wrs λK hK => ?_);conv=>whnf
 refine hK _ (W.ret ?_);conv=>whnf
 exact ⟨.v (.bool false), (decide_eq_false λh : x ≠ x => h rfl), trivial, rfl⟩
theorem zeE (x y : Int) : FnV 227 [.int .i64 x, .int .i64 y] (.int .i64 (ja x y)) := by
 refine ze (za [0, 1, 4, 5, 6, 11, 12, 13, 16, 19]) Tryz.func227 rfl (by decide) Tryz.ntmps227 (lb rfl) λbase => ?_;refine wrs λK hK => ?_;conv=>whnf
 refine hK _ (wrs λK hK => ?_);conv=>whnf
 refine zc rfl (zcw x) λhs' hhs => ?_;try dsimp only at hhs
 conv=>whnf
 refine hK _ (wrs λK hK => ?_);conv=>whnf
 refine zc rfl (zcw y) λhs' hhs => ?_;try dsimp only at hhs
 conv=>whnf
 refine hK _ (W.seqK λK1 hK1 => wrs λK hK => ?_);conv=>whnf
 refine hK _ (W.cond ⟨λh => absurd h (by decide), λ_ => W.skip (hK1 _ ?_)⟩);clear hK hK1;refine W.seqK λK1 hK1 => wrs λK hK => ?_;conv=>whnf
 refine hK _ (W.cond ⟨λh => absurd h (by decide), λ_ => W.skip (hK1 _ ?_)⟩);clear hK hK1;refine W.seqK λK1 hK1 => wrs λK hK => ?_;conv=>whnf
 refine hK _ (W.cond ⟨λh => ?_, λh => ?_⟩) <;> clear hK
 ·have h := of_decide_eq_true h;refine wrs λK hK => ?_;conv=>whnf
  refine hK _ (W.ret ?_);conv=>whnf
  exact ⟨.v (.int .i64 (ja x y)), ⟨rfl, by rw [ja, if_pos h]⟩, trivial, rfl⟩
 ·have h := of_decide_eq_false h;refine W.skip (hK1 _ ?_);clear hK1;refine W.seqK λK1 hK1 => wrs λK hK => ?_;conv=>whnf
  refine hK _ (W.cond ⟨λh2 => ?_, λh2 => ?_⟩) <;> clear hK
  ·have h2 := of_decide_eq_true h2;refine wrs λK hK => ?_;conv=>whnf
   refine hK _ (W.ret ?_);conv=>whnf
   exact ⟨.v (.int .i64 (ja x y)), ⟨rfl, by rw [ja, if_neg h, if_pos h2]⟩, trivial, rfl⟩
  ·have h2 := of_decide_eq_false h2;refine W.skip (hK1 _ ?_);clear hK1;refine wrs λK hK => ?_;conv=>whnf
   refine hK _ (W.ret ?_);conv=>whnf
   exact ⟨.v (.int .i64 (ja x y)), ⟨rfl, by rw [ja, if_neg h, if_neg h2]⟩, trivial, rfl⟩
theorem vu (x y : Int) : FnV 178 [.int .i64 x, .int .i64 y] (.int .i64 (ja x y)) := by
 refine ze (za [0, 1, 4, 5, 6, 11, 12, 13, 16, 19]) Tryz.func178 rfl (by decide) Tryz.ntmps178 (lb rfl) λbase => ?_;refine wrs λK hK => ?_;conv=>whnf
 refine hK _ (wrs λK hK => ?_);conv=>whnf
 refine zc rfl (zaD x) λhs' hhs => ?_;try dsimp only at hhs
 conv=>whnf
 refine hK _ (wrs λK hK => ?_);conv=>whnf
 refine zc rfl (zaD y) λhs' hhs => ?_;try dsimp only at hhs
 conv=>whnf
 refine hK _ (W.seqK λK1 hK1 => wrs λK hK => ?_);conv=>whnf
 refine hK _ (W.cond ⟨λh => absurd h (by decide), λ_ => W.skip (hK1 _ ?_)⟩);clear hK hK1;refine W.seqK λK1 hK1 => wrs λK hK => ?_;conv=>whnf
 refine hK _ (W.cond ⟨λh => absurd h (by decide), λ_ => W.skip (hK1 _ ?_)⟩);clear hK hK1;refine W.seqK λK1 hK1 => wrs λK hK => ?_;conv=>whnf
 refine hK _ (W.cond ⟨λh => ?_, λh => ?_⟩) <;> clear hK
 ·have h := of_decide_eq_true h;refine wrs λK hK => ?_;conv=>whnf
  refine hK _ (W.ret ?_);conv=>whnf
  exact ⟨.v (.int .i64 (ja x y)), ⟨rfl, by rw [ja, if_pos h]⟩, trivial, rfl⟩
 ·have h := of_decide_eq_false h;refine W.skip (hK1 _ ?_);clear hK1;refine W.seqK λK1 hK1 => wrs λK hK => ?_;conv=>whnf
  refine hK _ (W.cond ⟨λh2 => ?_, λh2 => ?_⟩) <;> clear hK
  ·have h2 := of_decide_eq_true h2;refine wrs λK hK => ?_;conv=>whnf
   refine hK _ (W.ret ?_);conv=>whnf
   exact ⟨.v (.int .i64 (ja x y)), ⟨rfl, by rw [ja, if_neg h, if_pos h2]⟩, trivial, rfl⟩
  ·have h2 := of_decide_eq_false h2;refine W.skip (hK1 _ ?_);clear hK1;refine wrs λK hK => ?_;conv=>whnf
   refine hK _ (W.ret ?_);conv=>whnf
   exact ⟨.v (.int .i64 (ja x y)), ⟨rfl, by rw [ja, if_neg h, if_neg h2]⟩, trivial, rfl⟩
theorem kv (g g' : Option Nat) (xs ys : List Int) (hx : xs.length <= 1000000) (_ : ys.length <= 1000000) : FnV 211 [.ints g xs, .ints g' ys] (.int .i64 (vH xs ys)) := by
 refine ze (za [0, 1, 4, 5, 10, 20, 31]) Tryz.func211 rfl (by decide) Tryz.ntmps211 (lb rfl) λbase => ?_;refine wrs λK hK => ?_;conv=>whnf
 refine hK _ (W.seqK λK1 hK1 => wrs λK hK => ?_);conv=>whnf
 refine hK _ (W.cond ⟨λh => ?_, λh => ?_⟩) <;> clear hK
 ·have h := of_decide_eq_true h;refine wrs λK hK => ?_;conv=>whnf
  refine zc rfl (zeE xs.length ys.length) λhs' hhs => ?_;try dsimp only at hhs
  conv=>whnf
  refine hK _ ?_;clear hK;have h' : xs.length ≠ ys.length := λe => h (by rw [e]);refine W.ret ?_;conv=>whnf
  exact ⟨.v (.int .i64 (vH xs ys)), ⟨rfl, (zny h').symm⟩, trivial, rfl⟩
 ·have h := of_decide_eq_false h;have h' : xs.length = ys.length := by omega
  refine W.skip (hK1 _ ?_);clear hK1;refine W.seqK λK1 hK1 => wrs λK hK => ?_;conv=>whnf
  refine ⟨oo, ?_⟩;conv=>whnf
  refine hK _ (W.block (W.invA (λm e => ∃ n : Nat, n <= xs.length ∧ vH xs ys = zaC xs ys n ∧ m = n ∧ e = [(0, .v (.ints g xs)), (1, .v (.ints g' ys)), (5, .v (.int .i64 ((n : Int) - 1)))]) ⟨xs.length, Nat.le_refl _, by unfold vH; rw [if_neg (by omega), if_neg (by omega)], rfl, rfl⟩ ?_));clear hK;rintro m e ⟨n, h1, h2, hm, rfl⟩;refine W.seqK λK7 hK7 => wrs λK hK => ?_;conv=>whnf
  refine hK _ (W.cond ⟨λh3 => ?_, λh3 => ?_⟩) <;> clear hK <;> (first | replace h3 := of_decide_eq_true h3 | replace h3 := of_decide_eq_false h3)
  ·obtain ⟨k, rfl⟩ : ∃ k, n = k + 1 := ⟨n - 1, by omega⟩
   have ek : (((k + 1 : Nat) : Int) - 1) = (k : Int) := by omega
   rw [ek];refine W.skip (hK7 _ ?_);clear hK7;refine W.seqK λK8 hK8 => W.block ?_;refine W.rd (za _) follows (by rfl) λK hK => ?_;conv=>whnf
   refine ⟨oo, ?_⟩;conv=>whnf
   refine ⟨oo, ?_⟩;conv=>whnf
   rw [Int.toNat_natCast];refine hK _ (W.cond ⟨λh4 => ?_, λh4 => ?_⟩) <;> clear hK
   ·have h4 : cf xs k ≠ cf ys k := of_decide_eq_true h4;refine W.rd (za _) follows (by rfl) λK hK => ?_;conv=>whnf
    refine ⟨oo, ?_⟩;conv=>whnf
    refine ⟨oo, ?_⟩;conv=>whnf
    rw [Int.toNat_natCast];refine ⟨_, cxF (vu (cf xs k) (cf ys k)), ?_⟩;conv=>whnf
    refine hK _ (W.ret ?_);conv=>whnf
    exact ⟨.v (.int .i64 (vH xs ys)), ⟨rfl, by rw [h2]; unfold zaC ja; by_cases h5 : cf xs k < cf ys k <;> by_cases h6 : cf ys k < cf xs k <;> first | omega | simp [h5, h6]⟩, trivial, rfl⟩
   ·have h4 : ¬ cf xs k ≠ cf ys k := of_decide_eq_false h4;refine W.skip (hK8 _ ?_);clear hK8;refine wrg ?_;conv=>whnf
    refine ⟨oo, ?_⟩;conv=>whnf
    exact zf ⟨k, by omega, by rw [h2]; exact (if_neg (by omega)).trans (if_neg (by omega)), rfl, rfl⟩
  ·obtain rfl : n = 0 := by omega
   refine W.exit (hK1 _ ?_);clear hK7 hK1;refine wrs λK hK => ?_;conv=>whnf
   refine hK _ (W.ret ?_);conv=>whnf
   exact ⟨.v (.int .i64 (vH xs ys)), ⟨rfl, h2.symm⟩, trivial, rfl⟩

theorem zeF (g g' : Option Nat) (xs ys : List Int) (hx : xs.length <= 1000000) (_ : ys.length <= 1000000) : FnV 252 [.ints g xs, .ints g' ys] (.int .i64 (vH xs ys)) := by
 refine ze (za [0, 1, 4, 5, 6, 12, 22, 25, 35]) Tryz.func252 rfl (by decide) Tryz.ntmps252 (lb rfl) λbase => ?_;refine wrs λK hK => ?_;conv=>whnf
 refine hK _ ?_;clear hK;refine W.seqK λK1 hK1 => W.block (wrs λK hK => ?_);conv=>whnf
 refine hK _ (W.cond ⟨λh => ?_, λh => ?_⟩) <;> clear hK
 ·have h := of_decide_eq_true h;refine wrs λK hK => ?_;conv=>whnf
  refine hK _ (W.ret ?_);conv=>whnf
  exact ⟨.v (.int .i64 (vH xs ys)), ⟨rfl, by unfold vH; rw [if_pos (by omega)]⟩, trivial, rfl⟩
 have h := of_decide_eq_false h;refine wrs λK hK => ?_;conv=>whnf
 refine hK _ (W.cond ⟨λh' => ?_, λh' => ?_⟩) <;> clear hK
 ·have h' := of_decide_eq_true h';refine wrs λK hK => ?_;conv=>whnf
  refine hK _ (W.ret ?_);conv=>whnf
  exact ⟨.v (.int .i64 (vH xs ys)), ⟨rfl, by unfold vH; rw [if_neg (by omega), if_pos (by omega)]⟩, trivial, rfl⟩
 have h' := of_decide_eq_false h';refine W.skip (hK1 _ ?_);clear hK1;refine W.seqK λK1 hK1 => wrs λK hK => ?_;conv=>whnf
 refine ⟨oo, ?_⟩;conv=>whnf
 refine hK _ (W.block (W.invA (λm e => ∃ n : Nat, n <= xs.length ∧ vH xs ys = zaC xs ys n ∧ m = n ∧ e = [(0, .v (.ints g xs)), (1, .v (.ints g' ys)), (5, .v (.int .i64 ((n : Int) - 1)))]) ⟨xs.length, Nat.le_refl _, by unfold vH; rw [if_neg (by omega), if_neg (by omega)], rfl, rfl⟩ ?_));clear hK;rintro m e ⟨n, h1, h2, hm, rfl⟩;refine W.seqK λK7 hK7 => wrs λK hK => ?_;conv=>whnf
 refine hK _ (W.cond ⟨λh3 => ?_, λh3 => ?_⟩) <;> clear hK <;> (first | replace h3 := of_decide_eq_true h3 | replace h3 := of_decide_eq_false h3)
 ·obtain ⟨k, rfl⟩ : ∃ k, n = k + 1 := ⟨n - 1, by omega⟩
  have ek : (((k + 1 : Nat) : Int) - 1) = (k : Int) := by omega
  rw [ek];refine W.skip (hK7 _ ?_);clear hK7;refine W.seqK λK8 hK8 => W.block ?_;refine W.block ?_;refine W.rd (za _) follows (by rfl) λK hK => ?_;conv=>whnf
  refine ⟨oo, ?_⟩;conv=>whnf
  refine ⟨oo, ?_⟩;conv=>whnf
  rw [Int.toNat_natCast];refine hK _ (W.cond ⟨λh4 => ?_, λh4 => ?_⟩) <;> clear hK
  ·have h4 : cf xs k < cf ys k := of_decide_eq_true h4;refine wrs λK hK => ?_;conv=>whnf
   refine hK _ (W.ret ?_);conv=>whnf
   exact ⟨.v (.int .i64 (vH xs ys)), ⟨rfl, by rw [h2]; unfold zaC; rw [if_pos h4]⟩, trivial, rfl⟩
  have h4 : ¬ cf xs k < cf ys k := of_decide_eq_false h4;refine W.rd (za _) follows (by rfl) λK hK => ?_;conv=>whnf
  refine ⟨oo, ?_⟩;conv=>whnf
  refine ⟨oo, ?_⟩;conv=>whnf
  rw [Int.toNat_natCast];refine hK _ (W.cond ⟨λh5 => ?_, λh5 => ?_⟩) <;> clear hK
  ·have h5 : cf ys k < cf xs k := of_decide_eq_true h5;refine wrs λK hK => ?_;conv=>whnf
   refine hK _ (W.ret ?_);conv=>whnf
   exact ⟨.v (.int .i64 (vH xs ys)), ⟨rfl, by rw [h2]; unfold zaC; rw [if_neg h4, if_pos h5]⟩, trivial, rfl⟩
  have h5 : ¬ cf ys k < cf xs k := of_decide_eq_false h5;refine W.skip (hK8 _ ?_);clear hK8;refine wrg ?_;conv=>whnf
  refine ⟨oo, ?_⟩;conv=>whnf
  exact zf ⟨k, by omega, by rw [h2]; exact (if_neg (by omega)).trans (if_neg (by omega)), rfl, rfl⟩
 ·obtain rfl : n = 0 := by omega
  refine W.exit (hK1 _ ?_);clear hK7 hK1;refine wrs λK hK => ?_;conv=>whnf
  refine hK _ (W.ret ?_);conv=>whnf
  exact ⟨.v (.int .i64 (vH xs ys)), ⟨rfl, h2.symm⟩, trivial, rfl⟩

theorem zhX {f g : List Int} : ∀ n, zaC f g n < 0 ↔ ∃ i, i < n ∧ cf f i < cf g i ∧ ∀ j, i < j -> j < n -> cf f j = cf g j
 | 0 => ⟨λh => by simp [zaC] at h, λ⟨i, h, _⟩ => by omega⟩
 | n + 1 => by
  unfold zaC
  by_cases h1 : cf f n < cf g n
  ·rw [if_pos h1];exact ⟨λ_ => ⟨n, by omega, h1, λj h2 h3 => by omega⟩, λ_ => by omega⟩
  ·rw [if_neg h1]
   by_cases h2 : cf g n < cf f n
   ·rw [if_pos h2];refine ⟨λh => by omega, λ⟨i, h3, h4, h5⟩ => ?_⟩
    by_cases hi : i = n
    ·subst hi; omega
    ·have := h5 n (by omega) (by omega); omega
   ·rw [if_neg h2, zhX n]
    constructor
    ·rintro ⟨i, h3, h4, h5⟩;refine ⟨i, by omega, h4, λj h6 h7 => ?_⟩
     by_cases hj : j = n
     ·subst hj; omega
     ·exact h5 j h6 (by omega)
    ·rintro ⟨i, h3, h4, h5⟩
     by_cases hi : i = n
     ·subst hi; omega
     ·exact ⟨i, by omega, h4, λj h6 h7 => h5 j h6 (by omega)⟩
theorem zcU {p : Int} [SP p] (f g : Poly p) : vH f.l g.l < 0 ↔ ltP f g := by
 have hf : f.l.length = dg f := rfl;have hg : g.l.length = dg g := rfl;unfold vH ltP
 by_cases h1 : f.l.length < g.l.length
 ·rw [if_pos h1]; exact ⟨λ_ => .inl h1, λ_ => by omega⟩
 ·rw [if_neg h1]
  by_cases h2 : g.l.length < f.l.length
  ·rw [if_pos h2]; exact ⟨λh => by omega, λh => by omega⟩
  ·rw [if_neg h2, zhX];have he : ∀ j, f.l.length <= j -> cf f.l j = cf g.l j := λj hj => by rw [z4 hj, z4 (by omega)]
   constructor
   ·rintro ⟨i, h3, h4, h5⟩
    exact .inr ⟨by omega, i, h4, λj hj => by
     by_cases h6 : j < f.l.length
     ·exact h5 j hj h6
     ·exact he j (by omega)⟩
   ·rintro (h | ⟨_, i, h4, h5⟩)
    ·omega
    ·refine ⟨i, ?_, h4, λj hj _ => h5 j hj⟩
     by_cases h6 : i < f.l.length
     ·exact h6
     ·have := he i (by omega); omega


variable {p : Int} [SP p]
def vF (x : Poly p × Nat) : V := .agg [.ints none x.1.l, .int .i64 (x.2 : Int)]

structure Mix (n : Nat) (h0 h : Nat -> Poly p × Nat) : Prop where
 mem : ∀ x, (∃ i, i < n ∧ h i = x) ↔ (∃ i, i < n ∧ h0 i = x)
 dis : ∀ i j, i < n -> j < n -> (h i).1 = (h j).1 -> i = j
def jp (h : Nat -> Poly p × Nat) (a b : Nat) : Nat -> Poly p × Nat := λj => if j = a then h b else if j = b then h a else h j
theorem zgi {p : Int} (h : Nat -> Poly p × Nat) (a b : Nat) : jp h a b a = h b := if_pos rfl
theorem zjU {p : Int} (h : Nat -> Poly p × Nat) (a b : Nat) : jp h a b b = h a := by
 unfold jp
 by_cases e : b = a
 ·rw [if_pos e, e]
 ·rw [if_neg e, if_pos rfl]
theorem zbz {p : Int} {h : Nat -> Poly p × Nat} {a b j : Nat} (h1 : j ≠ a) (h2 : j ≠ b) : jp h a b j = h j := by
 unfold jp; rw [if_neg h1, if_neg h2]
def trp (a b j : Nat) : Nat := if j = a then b else if j = b then a else j
theorem zbA {p : Int} (h : Nat -> Poly p × Nat) (a b j : Nat) : jp h a b j = h (trp a b j) := by
 unfold jp trp; split
 ·rfl
 ·split <;> rfl
theorem zgj (a b j : Nat) : trp a b (trp a b j) = j := by
 unfold trp
 by_cases h1 : j = a
 ·rw [if_pos h1]; by_cases h2 : b = a
  ·rw [if_pos h2, h2, h1]
  ·rw [if_neg h2, if_pos rfl, h1]
 ·rw [if_neg h1]; by_cases h2 : j = b
  ·rw [if_pos h2, if_pos rfl, h2]
  ·rw [if_neg h2, if_neg h1, if_neg h2]
theorem zgk {a b j n : Nat} (ha : a < n) (hb : b < n) (hj : j < n) : trp a b j < n := by
 unfold trp; split
 ·exact hb
 ·split <;> assumption
theorem Mix.swap {p : Int} {n : Nat} {h0 h : Nat -> Poly p × Nat} (m : Mix n h0 h) {a b : Nat} (ha : a < n) (hb : b < n) : Mix n h0 (jp h a b) := by
 refine ⟨λx => Iff.trans ⟨?_, ?_⟩ (m.mem x), λi j hi hj e => ?_⟩
 ·rintro ⟨i, hi, e⟩; rw [zbA] at e; exact ⟨_, zgk ha hb hi, e⟩
 ·rintro ⟨i, hi, e⟩; exact ⟨trp a b i, zgk ha hb hi, by rw [zbA, zgj]; exact e⟩
 ·rw [zbA, zbA] at e;have := m.dis _ _ (zgk ha hb hi) (zgk ha hb hj) e;have := congrArg (trp a b) this
  rwa [zgj, zgj] at this
def Ord (h : Nat -> Poly p × Nat) (i : Nat) : Prop := ∀ x y, x < y -> y < i -> ltP (h x).1 (h y).1
def zgl (h : Nat -> Poly p × Nat) (i j : Nat) : Prop := (∀ x y, x < y -> y <= i -> x ≠ j -> y ≠ j -> ltP (h x).1 (h y).1) ∧ ∀ y, j < y -> y <= i -> ltP (h j).1 (h y).1
theorem zgl.start {p : Int} {h : Nat -> Poly p × Nat} {i : Nat} (o : Ord h i) : zgl h i i := ⟨λx y h1 h2 h3 h4 => o x y h1 (by omega), λy h1 h2 => by omega⟩
theorem zgl.step {p : Int} {h : Nat -> Poly p × Nat} {i j : Nat} (o : zgl h i (j + 1)) (hj : j + 1 <= i) (hl : ltP (h (j + 1)).1 (h j).1) : zgl (jp h (j + 1) j) i j := by
 refine ⟨λx y h1 h2 h3 h4 => ?_, λy h1 h2 => ?_⟩
 ·by_cases hx : x = j + 1
  ·subst hx;rw [zgi, zbz (by omega) (by omega)];exact o.1 j y (by omega) h2 (by omega) (by omega)
  ·rw [zbz hx h3]
   by_cases hy : y = j + 1
   ·subst hy; rw [zgi]; exact o.1 x j (by omega) (by omega) (by omega) (by omega)
   ·rw [zbz hy h4]; exact o.1 x y h1 h2 hx hy
 ·rw [zjU]
  by_cases hy : y = j + 1
  ·subst hy; rw [zgi]; exact hl
  ·rw [zbz hy (by omega)]; exact o.2 y (by omega) h2
theorem zgl.fin {p : Int} {n : Nat} {h0 h : Nat -> Poly p × Nat} (m : Mix n h0 h) {i j : Nat} (hi : i < n) (hj : j <= i) (o : zgl h i j) (hs : j = 0 ∨ ∃ k, j = k + 1 ∧ ¬ ltP (h j).1 (h k).1) : Ord h (i + 1) := by
 intro x y h1 h2
 by_cases hx : x = j
 ·subst hx; exact o.2 y h1 (by omega)
 ·by_cases hy : y = j
  ·subst hy;obtain ⟨k, rfl, hk⟩ := hs.resolve_left (by omega);have hlt : ltP (h k).1 (h (k + 1)).1 := (zff λe => by have := m.dis _ _ (by omega) (by omega) e; omega).resolve_left hk
   by_cases hxk : x = k
   ·subst hxk; exact hlt
   ·exact zb1 (o.1 x k (by omega) (by omega) (by omega) (by omega)) hlt
  ·exact o.1 x y h1 (by omega) hx hy

theorem zkP {p : Int} (x y : Poly p × Nat) (hx : dg x.1 <= 1000000) (hy : dg y.1 <= 1000000) : FnV 210 [vF x, vF y] (.int .i64 (vH x.1.l y.1.l)) := by
 refine ze (za [0, 1, 2, 3, 4]) Tryz.func210 rfl (by decide) Tryz.ntmps210 (lb rfl) λbase => ?_;refine wrs λK hK => ?_;conv=>whnf
 refine ⟨rfl, ?_⟩;conv=>whnf
 intro b_1 hs_1 hh_1 hf_1;try dsimp only at hh_1 hf_1
 conv=>whnf
 refine ⟨rfl, ?_⟩;conv=>whnf
 intro b_2 hs_2 hh_2 hf_2;try dsimp only at hh_2 hf_2
 conv=>whnf
 refine hK _ (wrs λK hK => ?_);conv=>whnf
 refine zc rfl (kv none none x.1.l y.1.l hx hy) λhs' hhs => ?_;conv=>whnf
 refine hK _ (W.ret ?_);conv=>whnf
 exact ⟨.v (.int .i64 (vH x.1.l y.1.l)), ⟨rfl, rfl⟩, trivial, rfl⟩

theorem zca (bk n : Nat) (h0 : Nat -> Poly p × Nat) (hn : n <= 1000000) (hd : ∀ i, i < n -> dg (h0 i).1 <= 1000000) (hdis : ∀ i j, i < n -> j < n -> (h0 i).1 = (h0 j).1 -> i = j) :
  MFn Tryz.prog 237 [.nil, .int .i64 0, .int .i64 n, .func 210 []] 0 (.ownV 145 2 bk n λj => vF (h0 j)) .dead
   (λ_ av x' t' => av = .v (.tup []) ∧ t' = .dead ∧ ∃ h : Nat -> Poly p × Nat, Mix n h0 h ∧ Ord h n ∧ x' = .ownV 145 2 bk n λj => vF (h j)) := by
 refine zaR (cx := cx [0, 1, 2, 3, 8, 9, 14, 34, 1000000, 1000001]) Tryz.func237 rfl (by decide) Tryz.ntmps237 (lb rfl) (lb rfl) rfl rfl λbase hs0 O U hw v0 hb0 => ?_;refine wrs λK hK => ?_;conv=>whnf
 refine ⟨by decide, ?_⟩;conv=>whnf
 refine hK _ (W.block (W.invH hs0 hb0 (λm e => ∃ (i : Nat) (h : Nat -> Poly p × Nat), 1 <= i ∧ i <= n + 1 ∧ Mix n h0 h ∧ Ord h i ∧ m = n + 1 - i ∧ e = [(0, .ownV 145 2 bk n λj => vF (h j)), (1, .v (.int .i64 0)), (2, .v (.int .i64 n)), (3, .v (.func 210 [])), (8, .v (.int .i64 i)), (vt, .dead), (vk, .keep O U hw 0 v0)]) _ _ (⟨1, h0, by omega, by omega, ⟨λ_ => Iff.rfl, hdis⟩, λx y h1 h2 => by omega, rfl, rfl⟩) (by dsimp only; omega) (by repeat' first | refine And.intro ?_ ?_ | exact trivial | rfl | omega | exact .inl rfl | exact λ_ _ => rfl | exact λ_ _ h => h | assumption | exact λi hi => (by obtain rfl : i = 0 := (by omega); rfl)) ?_));clear hK;rintro m e ⟨i, h, hi1, hi2, hM, hO, hm, rfl⟩;refine W.seqK λK7 hK7 => wrs λK hK => ?_;conv=>whnf
 refine hK _ (W.cond ⟨λh3 => ?_, λh3 => ?_⟩) <;> clear hK <;> (first | replace h3 := of_decide_eq_true h3 | replace h3 := of_decide_eq_false h3)
 ·have h3 : i < n := by omega
  refine W.skip (hK7 _ ?_);clear hK7;refine W.seqK λK8 hK8 => W.block ?_;refine wrs λK hK => ?_;conv=>whnf
  refine hK _ (W.block (W.invH hs0 hb0 (λm e => ∃ (j : Nat) (h : Nat -> Poly p × Nat), j <= i ∧ Mix n h0 h ∧ zgl h i j ∧ m = j ∧ e = [(0, .ownV 145 2 bk n λj => vF (h j)), (1, .v (.int .i64 0)), (2, .v (.int .i64 n)), (3, .v (.func 210 [])), (8, .v (.int .i64 i)), (9, .v (.int .i64 j)), (vt, .dead), (vk, .keep O U hw 0 v0)]) _ _ (⟨i, h, by omega, hM, zgl.start hO, rfl, rfl⟩) (by dsimp only; omega) (by repeat' first | refine And.intro ?_ ?_ | exact trivial | rfl | omega | exact .inl rfl | exact λ_ _ => rfl | exact λ_ _ h => h | assumption | exact λi hi => (by obtain rfl : i = 0 := (by omega); rfl)) ?_));clear hK;clear hM hO h;rintro m' e ⟨j, h, hj, hM, hO, hm', rfl⟩
  -- the end of the inner loop
  have fin : (j = 0 ∨ ∃ k, j = k + 1 ∧ ¬ ltP (h j).1 (h k).1) -> ∀ s : S, hs0 <= s.hs -> zr s.env [(0, .ownV 145 2 bk n λj => vF (h j)), (1, .v (.int .i64 0)), (2, .v (.int .i64 n)), (3, .v (.func 210 [])), (8, .v (.int .i64 i)), (vt, .dead), (vk, .keep O U hw 0 v0)] -> K8 s := by
   intro h4 s h5 h6;refine hK8 _ (W.weak (t := ⟨[(0, .ownV 145 2 bk n λj => vF (h j)), (1, .v (.int .i64 0)), (2, .v (.int .i64 n)), (3, .v (.func 210 [])), (8, .v (.int .i64 i)), (vt, .dead), (vk, .keep O U hw 0 v0)], hs0⟩) ⟨h5, h6⟩ hb0 ?_);clear hK8;refine wrg ?_;conv=>whnf
   refine ⟨oo, ?_⟩;conv=>whnf
   exact zf ⟨i + 1, h, by omega, by omega, hM, hO.fin hM h3 hj h4, rfl, rfl⟩
  clear hK8;refine W.seqK λK7 hK7 => ?_;refine W.rd (za _) follows (by rfl) λK hK => ?_;conv=>whnf
  rcases Nat.eq_zero_or_pos j with rfl | hj0
  ·have e0 : decide (0 < ((0 : Nat) : Int)) = false := by decide
   rw [e0];conv=>whnf
   refine ⟨rfl, ?_⟩;conv=>whnf
   refine hK _ (W.cond ⟨λh => absurd h (by decide), λ_ => W.exit (fin (.inl rfl) _ (by dsimp only; omega) ?_)⟩);clear fin hK hK7;exact cvr
  ·obtain ⟨k, rfl⟩ : ∃ k, j = k + 1 := ⟨j - 1, by omega⟩
   have e0 : decide (0 < ((k + 1 : Nat) : Int)) = true := decide_eq_true (by omega);rw [e0];conv=>whnf
   refine ⟨oo, ?_⟩;conv=>whnf
   refine ⟨oo, ?_⟩;conv=>whnf
   refine ⟨oo, ?_⟩;conv=>whnf
   have ek : (((k + 1 : Nat) : Int) - 1) = (k : Int) := by omega
   rw [ek, Int.toNat_natCast, Int.toNat_natCast]
   have hb : ∀ i, i < n -> dg (h i).1 <= 1000000 := λi hi => by
    obtain ⟨i', h1, h2⟩ := (hM.mem (h i)).1 ⟨i, hi, rfl⟩;rw [<- h2]; exact hd i' h1
   refine ⟨_, cxF (zkP (h (k + 1)) (h k) (hb _ (by omega)) (hb _ (by omega))), ?_⟩;conv=>whnf
   refine hK _ (W.cond ⟨λh4 => ?_, λh4 => ?_⟩) <;> clear hK
   ·have h4 : vH (h (k + 1)).1.l (h k).1.l < 0 := of_decide_eq_true h4;have h4 := (zcU _ _).1 h4;clear fin;refine W.skip (hK7 _ ?_);clear hK7;refine W.seqK λK8 hK8 => W.block ?_;refine W.draw (za _) follows (by rfl) ?_;conv=>whnf
    refine ⟨oo, ?_⟩;conv=>whnf
    refine ⟨oo, ?_⟩;conv=>whnf
    refine ⟨oo, ?_⟩;conv=>whnf
    rw [ek, Int.toNat_natCast];refine ⟨oo, ?_⟩;conv=>whnf
    rw [Int.toNat_natCast];refine ⟨oo, ?_⟩;conv=>whnf
    refine ⟨⟨by show 0 + 2 <= 2; omega, rfl⟩, λj => vF (if j = k + 1 then h k else h j), by show vF (if k + 1 = k + 1 then h k else h (k + 1)) = _; rw [if_pos rfl]; rfl, λj _ hj => by show vF (if j = k + 1 then h k else h j) = _; rw [if_neg hj], ?_⟩;conv=>whnf
    refine ⟨oo, ?_⟩;conv=>whnf
    rw [Int.toNat_natCast];refine ⟨⟨by show 0 + 2 <= 2; omega, rfl⟩, λj => vF (jp h (k + 1) k j), by show vF (jp h (k + 1) k k) = _; rw [zjU]; rfl, λj _ hj => by show vF (jp h (k + 1) k j) = vF (if j = k + 1 then h k else h j); unfold jp; by_cases h5 : j = k + 1 <;> simp [h5, hj], ?_⟩;conv=>whnf
    refine hK8 _ ?_;clear hK8;refine wrg ?_;conv=>whnf
    refine ⟨oo, ?_⟩;conv=>whnf
    exact zf ⟨k, jp h (k + 1) k, by omega, hM.swap (by omega) (by omega), hO.step hj h4, rfl, rfl⟩
   ·have h4 : ¬ vH (h (k + 1)).1.l (h k).1.l < 0 := of_decide_eq_false h4;refine W.exit (fin (.inr ⟨k, rfl, λe => h4 ((zcU _ _).2 e)⟩) _ (by dsimp only; omega) ?_);clear fin hK7;exact cvr
 ·have hin : n <= i := by omega
  refine W.exit ?_;conv=>whnf
  refine ⟨by dsimp only; omega, ?_⟩;conv=>whnf
  refine ⟨.ownV 145 2 bk n λj => vF (h j), ⟨rfl, rfl, rfl, rfl, λ_ _ => rfl⟩, .inr ⟨rfl, rfl⟩, .dead, trivial, rfl, rfl, rfl, rfl, h, hM, λx y h1 h2 => hO x y h1 (by omega), rfl⟩

end Go.Proofs.YtffhmebkkbfaeaaGreat
