/- Plain mathematics of polynomials by a prime. No conditions. -/
import Derived.Test.YtfinplgomnfdpaaGreatPd
namespace Go.Proofs.YtfinplgomnfdpaaGreat
namespace Poly
section
variable {m : Int} [Pos m]

def cn (m : Int) [Pos m] (c : Int) : Poly m := of m [c]
theorem cf_cn (c : Int) (i : Nat) : cf (cn m c).l i = if i = 0 then c % m else 0 := by
 unfold cn
 rw [cf_of]
 cases i with
 | zero => rw [cf_cons_zero, if_pos rfl]
 | succ i => rw [cf_cons_succ, cf_nil, if_neg (by omega)]; simp
theorem cf_cn_mul (c : Int) (f : Poly m) (i : Nat) : cf (cn m c * f).l i = c * cf f.l i % m := by
 have h := cf_mono_mul c 0 f i
 rw [if_pos (Nat.zero_le _), Nat.sub_zero] at h
 exact h
theorem cn_mul (a b : Int) : cn m a * cn m b = cn m (a * b) := (of_mul [a] [b]).symm
theorem cn_add (a b : Int) : cn m a + cn m b = cn m (a + b) := (of_add [a] [b]).symm
theorem cn_mod (a : Int) : cn m (a % m) = cn m a := ext_cf fun i => by rw [cf_cn, cf_cn]; simp
theorem cn_zero : cn m 0 = 0 := ext_cf fun i => by rw [cf_cn, cf_zero]; simp
theorem cn_self : cn m m = 0 := ext_cf fun i => by rw [cf_cn, cf_zero]; simp
theorem cn_one : cn m 1 = 1 := rfl
theorem cn_dg (a : Int) : dg (cn m a) ≤ 1 := dg_of_le [a]

def Mn (f : Poly m) (n : Nat) : Prop := dg f = n + 1 ∧ cf f.l n = 1
theorem exists_divM {f : Poly m} {n : Nat} (hf : Mn f n) : ∀ (k : Nat) (a : Poly m), dg a ≤ k → ∃ q r : Poly m, a = q * f + r ∧ dg r ≤ n := by
 intro k
 induction k with
 | zero => intro a ha; exact ⟨0, a, ring [a, f] (by rfl), by omega⟩
 | succ k ih =>
  intro a ha
  by_cases hlt : dg a ≤ n
  ·exact ⟨0, a, ring [a, f] (by rfl), hlt⟩
  by_cases hle : dg a ≤ k
  ·exact ih a hle
  have h1 := hf.1
  obtain ⟨q, r, h2, h3⟩ := ih (a - mono m (cf a.l k) (k - n) * f) (by
   refine dg_le fun i hi => ?_
   rw [cf_sub, cf_mono_mul, if_pos (by omega)]
   rcases Nat.eq_or_lt_of_le hi with rfl | hlt'
   ·rw [show k - (k - n) = n by omega, hf.2, Int.mul_one, mod_cf]; simp
   ·rw [cf_dg (f := a) (by omega), cf_dg (f := f) (by omega)]; simp)
  exact ⟨q + mono m (cf a.l k) (k - n), r, comb 1 h2 (ring [a, q, mono m (cf a.l k) (k - n), f, r] (by rfl)), h3⟩
theorem mn_mul_ne {f d : Poly m} {n : Nat} (hf : Mn f n) (hd : d ≠ 0) : n < dg (d * f) := by
 have h0 : dg d ≠ 0 := fun e => hd (dg_eq_zero.1 e)
 obtain ⟨j, hj⟩ := Nat.exists_eq_succ_of_ne_zero h0
 have h1 := hf.1
 have h2 : cf (d * f).l (j + n) ≠ 0 := by
  rw [cf_mul, cv_top (fun i hi => cf_dg (by omega)) (fun i hi => cf_dg (by omega)), hf.2, Int.mul_one, mod_cf]
  exact dg_lead hj
 have := dg_lt h2
 omega
theorem mn_small {f a v : Poly m} {n : Nat} (hf : Mn f n) (h : a = v * f) (ha : dg a ≤ n) : a = 0 := by
 by_cases hv : v = 0
 ·rw [h, hv]; exact ring [f] (by rfl)
 ·have := mn_mul_ne hf hv
  rw [← h] at this; omega
noncomputable def rdM (a f : Poly m) : Poly m := @dite _ (∃ q r : Poly m, a = q * f + r ∧ dg r < dg f) (Classical.propDecidable _) (fun h => h.choose_spec.choose) fun _ => a
noncomputable def qtM (a f : Poly m) : Poly m := @dite _ (∃ q r : Poly m, a = q * f + r ∧ dg r < dg f) (Classical.propDecidable _) (fun h => h.choose) fun _ => 0
theorem rdM_spec {f : Poly m} {n : Nat} (hf : Mn f n) (a : Poly m) : a = qtM a f * f + rdM a f ∧ dg (rdM a f) ≤ n := by
 have h1 := hf.1
 have h : ∃ q r : Poly m, a = q * f + r ∧ dg r < dg f := by
  obtain ⟨q, r, h2, h3⟩ := exists_divM hf _ a (Nat.le_refl _)
  exact ⟨q, r, h2, by omega⟩
 have h4 := h.choose_spec.choose_spec
 unfold rdM qtM
 rw [dif_pos h, dif_pos h]
 exact ⟨h4.1, by omega⟩
theorem rdM_dg {f : Poly m} {n : Nat} (hf : Mn f n) (a : Poly m) : dg (rdM a f) ≤ n := (rdM_spec hf a).2

def Cg (f a b : Poly m) : Prop := ∃ v, a - b = v * f
theorem Cg.refl (f a : Poly m) : Cg f a a := ⟨0, ring [a, f] (by rfl)⟩
theorem Cg.symm {f a b : Poly m} (h : Cg f a b) : Cg f b a := by
 obtain ⟨v, h⟩ := h
 exact ⟨-v, comb (-1) h (ring [a, b, v, f] (by rfl))⟩
theorem Cg.trans {f a b c : Poly m} (h : Cg f a b) (k : Cg f b c) : Cg f a c := by
 obtain ⟨v, h⟩ := h
 obtain ⟨w, k⟩ := k
 exact ⟨v + w, comb 1 h (comb 1 k (ring [a, b, c, v, w, f] (by rfl)))⟩
theorem Cg.add {f a b c d : Poly m} (h : Cg f a b) (k : Cg f c d) : Cg f (a + c) (b + d) := by
 obtain ⟨v, h⟩ := h
 obtain ⟨w, k⟩ := k
 exact ⟨v + w, comb 1 h (comb 1 k (ring [a, b, c, d, v, w, f] (by rfl)))⟩
theorem Cg.sub {f a b c d : Poly m} (h : Cg f a b) (k : Cg f c d) : Cg f (a - c) (b - d) := by
 obtain ⟨v, h⟩ := h
 obtain ⟨w, k⟩ := k
 exact ⟨v - w, comb 1 h (comb (-1) k (ring [a, b, c, d, v, w, f] (by rfl)))⟩
theorem Cg.mul {f a b c d : Poly m} (h : Cg f a b) (k : Cg f c d) : Cg f (a * c) (b * d) := by
 obtain ⟨v, h⟩ := h
 obtain ⟨w, k⟩ := k
 exact ⟨v * c + b * w, comb c h (comb b k (ring [a, b, c, d, v, w, f] (by rfl)))⟩
theorem cg_rem {f : Poly m} {n : Nat} (hf : Mn f n) (a : Poly m) : Cg f (rdM a f) a :=
 ⟨-qtM a f, comb (-1) (rdM_spec hf a).1 (ring [a, f, qtM a f, rdM a f] (by rfl))⟩
theorem Cg.eq {f a b : Poly m} {n : Nat} (hf : Mn f n) (h : Cg f a b) (ha : dg a ≤ n) (hb : dg b ≤ n) : a = b := by
 obtain ⟨v, h⟩ := h
 have h1 := mn_small hf h (by have := dg_sub a b; omega)
 exact comb 1 h1 (ring [a, b] (by rfl))
theorem rdM_congr {f a b : Poly m} {n : Nat} (hf : Mn f n) (h : Cg f a b) : rdM a f = rdM b f :=
 Cg.eq hf ((cg_rem hf a).trans (h.trans (cg_rem hf b).symm)) (rdM_dg hf a) (rdM_dg hf b)
theorem rdM_small {f a : Poly m} {n : Nat} (hf : Mn f n) (ha : dg a ≤ n) : rdM a f = a := Cg.eq hf (cg_rem hf a) (rdM_dg hf a) ha
theorem rdM_is {f a q r : Poly m} {n : Nat} (hf : Mn f n) (h : a = q * f + r) (hr : dg r ≤ n) : rdM a f = r :=
 Cg.eq hf ((cg_rem hf a).trans ⟨q, comb 1 h (ring [a, q, f, r] (by rfl))⟩) (rdM_dg hf a) hr

/- what is divided by the power i of p, up to multiples of f -/
def Up (p : Int) (f : Poly m) (i : Nat) (a : Poly m) : Prop := ∃ u v, a = cn m (p ^ i) * u + v * f
variable {p : Int}
theorem Up.add {f a b : Poly m} {i : Nat} (h : Up p f i a) (k : Up p f i b) : Up p f i (a + b) := by
 obtain ⟨u, v, h⟩ := h
 obtain ⟨u', v', k⟩ := k
 exact ⟨u + u', v + v', comb 1 h (comb 1 k (ring [a, b, u, v, u', v', f, cn m (p ^ i)] (by rfl)))⟩
theorem Up.mulr {f a : Poly m} {i : Nat} (h : Up p f i a) (b : Poly m) : Up p f i (a * b) := by
 obtain ⟨u, v, h⟩ := h
 exact ⟨u * b, v * b, comb b h (ring [a, b, u, v, f, cn m (p ^ i)] (by rfl))⟩
theorem Up.neg {f a : Poly m} {i : Nat} (h : Up p f i a) : Up p f i (-a) := by
 obtain ⟨u, v, h⟩ := h
 exact ⟨-u, -v, comb (-1) h (ring [a, u, v, f, cn m (p ^ i)] (by rfl))⟩
theorem Up.mul {f a b : Poly m} {i j : Nat} (h : Up p f i a) (k : Up p f j b) : Up p f (i + j) (a * b) := by
 obtain ⟨u, v, h⟩ := h
 obtain ⟨u', v', k⟩ := k
 refine ⟨u * u', v * b + cn m (p ^ i) * u * v', ?_⟩
 rw [Int.pow_add, ← cn_mul]
 exact comb b h (comb (cn m (p ^ i) * u) k (ring [a, b, u, v, u', v', f, cn m (p ^ i), cn m (p ^ j)] (by rfl)))
theorem Up.low {f a : Poly m} {i j : Nat} (h : Up p f (i + j) a) : Up p f i a := by
 obtain ⟨u, v, h⟩ := h
 rw [Int.pow_add, ← cn_mul] at h
 exact ⟨cn m (p ^ j) * u, v, comb 1 h (ring [a, u, v, f, cn m (p ^ i), cn m (p ^ j)] (by rfl))⟩
theorem Up.le {f a : Poly m} {i j : Nat} (h : Up p f j a) (hij : i ≤ j) : Up p f i a := by
 obtain ⟨d, rfl⟩ := Nat.exists_eq_add_of_le hij
 exact h.low
theorem Up.cg {f a b : Poly m} {i : Nat} (h : Up p f i a) (k : Cg f a b) : Up p f i b := by
 obtain ⟨u, v, h⟩ := h
 obtain ⟨w, k⟩ := k
 exact ⟨u, v - w, comb 1 h (comb (-1) k (ring [a, b, u, v, w, f, cn m (p ^ i)] (by rfl)))⟩
theorem Up.zero (p : Int) (f a : Poly m) : Up p f 0 a := ⟨a, 0, by rw [Int.pow_zero, cn_one]; exact ring [a, f] (by rfl)⟩
theorem Up.top {f a : Poly m} {k : Nat} (hm : m = p ^ k) (h : Up p f k a) : Cg f a 0 := by
 obtain ⟨u, v, h⟩ := h
 rw [← hm, cn_self] at h
 exact ⟨v, comb 1 h (ring [a, u, v, f] (by rfl))⟩

/- inverses -/
theorem invM_unique {f x u v : Poly m} {n : Nat} (hf : Mn f n) (hu : dg u ≤ n) (hv : dg v ≤ n) (h1 : Cg f (x * u) 1) (h2 : Cg f (x * v) 1) : u = v := by
 refine Cg.eq hf ?_ hu hv
 obtain ⟨w, h1⟩ := h1
 obtain ⟨z, h2⟩ := h2
 exact ⟨v * w - u * z, comb v h1 (comb (-u) h2 (ring [x, u, v, w, z, f] (by rfl)))⟩
theorem inv_step {f x y : Poly m} {i : Nat} (h : Up p f i (x * y - 1)) : Up p f (i + i) (x * (y * (1 + 1 - x * y)) - 1) := by
 have h1 := (h.mul h).neg
 rwa [show -((x * y - 1) * (x * y - 1)) = x * (y * (1 + 1 - x * y)) - 1 from ring [x, y] (by rfl)] at h1
end
end Poly
namespace Poly
section
variable {m p : Int} [Pos m] [Pos p]

def im (p : Int) [Pos p] (X : Poly m) : Poly p := of p X.l
theorem im_cf {m : Int} (X : Poly m) (i : Nat) : cf (im p X).l i = cf X.l i % p := cf_of _ _
theorem mod_mod' {m p : Int} (hd : p ∣ m) (a : Int) : a % m % p = a % p := Int.emod_emod_of_dvd a hd
theorem im_add (hd : p ∣ m) (X Y : Poly m) : im p (X + Y) = im p X + im p Y := ext_cf fun i => by
 rw [im_cf, cf_add, cf_add, im_cf, im_cf, mod_mod' hd, ← Int.add_emod]
theorem im_sub (hd : p ∣ m) (X Y : Poly m) : im p (X - Y) = im p X - im p Y := ext_cf fun i => by
 rw [im_cf, cf_sub, cf_sub, im_cf, im_cf, mod_mod' hd, ← Int.sub_emod]
theorem im_fun {m : Int} (X : Poly m) : cf (im p X).l = fun i => cf X.l i % p := funext fun i => im_cf X i
theorem im_mul (hd : p ∣ m) (X Y : Poly m) : im p (X * Y) = im p X * im p Y := ext_cf fun i => by
 rw [im_cf, cf_mul, cf_mul, im_fun, im_fun, mod_mod' hd, cv_mod2]
theorem im_cn (hd : p ∣ m) (c : Int) : im p (cn m c) = of p [c] := ext_cf fun i => by
 rw [im_cf, cf_cn, cf_of]
 cases i with
 | zero => rw [if_pos rfl, cf_cons_zero, mod_mod' hd]
 | succ i => rw [if_neg (by omega), cf_cons_succ, cf_nil]
theorem im_one (hd : p ∣ m) : im p (1 : Poly m) = 1 := im_cn hd 1
theorem im_ker (_hd : p ∣ m) {X : Poly m} (h : im p X = 0) : ∃ Z, X = cn m p * Z := by
 refine ⟨of m (X.l.map (· / p)), ext_cf fun i => ?_⟩
 have h1 : cf X.l i % p = 0 := by rw [← im_cf (p := p), h, cf_zero]
 have h2 : cf (X.l.map (· / p)) i = cf X.l i / p := by
  by_cases hi : i < X.l.length
  ·exact cf_map (· / p) X.l hi
  ·rw [cf_ge (by simpa using hi), cf_ge (by omega)]; simp
 rw [cf_cn_mul, cf_of, h2]
 have h3 : p * (cf X.l i / p) = cf X.l i := by have := Int.mul_ediv_add_emod (cf X.l i) p; omega
 have h4 : p * (cf X.l i / p % m) % m = p * (cf X.l i / p) % m := by rw [Int.mul_emod, Int.emod_emod_of_dvd _ (Int.dvd_refl m), ← Int.mul_emod]
 rw [h4, h3, mod_cf]
def lft (m : Int) [Pos m] (Y : Poly p) : Poly m := of m Y.l
theorem im_up (hd : p ∣ m) (Y : Poly p) : im p (lft m Y) = Y := ext_cf fun i => by
 rw [im_cf]; unfold lft; rw [cf_of, mod_mod' hd, mod_cf]
theorem lft_l {p : Int} (hpm : p ≤ m) (Y : Poly p) : (lft m Y).l = Y.l := by
 refine nrm_id ⟨fun x hx => ?_, Y.ok.2⟩
 have := Y.ok.1 x hx
 omega
theorem lft_dg {p : Int} (Y : Poly p) : dg (lft m Y) ≤ dg Y := dg_le fun i hi => by
 unfold lft; rw [cf_of, cf_dg hi]; simp
theorem im_dg {m : Int} (X : Poly m) : dg (im p X) ≤ dg X := dg_le fun i hi => by rw [im_cf, cf_dg hi]; simp
theorem im_up1 {f a : Poly m} (hd : p ∣ m) {q : Poly p} (h : im p a = q * im p f) : Up p f 1 a := by
 have h1 : im p (a - lft m q * f) = 0 := by
  rw [im_sub hd, im_mul hd, im_up hd, h]; exact ring [q, im p f] (by rfl)
 obtain ⟨Z, hZ⟩ := im_ker hd h1
 refine ⟨Z, lft m q, ?_⟩
 rw [Int.pow_succ, Int.pow_zero, Int.one_mul]
 exact comb 1 hZ (ring [a, lft m q, f, Z, cn m p] (by rfl))
theorem up1_im {f a : Poly m} (hd : p ∣ m) (h : Up p f 1 a) : ∃ q, im p a = q * im p f := by
 obtain ⟨u, v, h⟩ := h
 refine ⟨im p v, ?_⟩
 rw [h, im_add hd, im_mul hd, im_mul hd, Int.pow_succ, Int.pow_zero, Int.one_mul, im_cn hd]
 have : of p [p] = 0 := cn_self (m := p)
 rw [this]
 exact ring [im p u, im p v, im p f] (by rfl)
theorem cg_im {f a b : Poly m} (hd : p ∣ m) (h : Cg f a b) : ∃ q, im p a - im p b = q * im p f := by
 obtain ⟨v, h⟩ := h
 exact ⟨im p v, by rw [← im_sub hd, h, im_mul hd]⟩
end

section
variable {m p : Int} [Pos m] [SP p]
theorem im_mn {m : Int} {f : Poly m} {n : Nat} (_hd : p ∣ m) (hf : Mn f n) : dg (im p f) = n + 1 ∧ cf (im p f).l n = 1 := by
 have h1 : cf (im p f).l n = 1 := by
  rw [im_cf, hf.2]; exact Int.emod_eq_of_lt (by omega) (by have := Pr.two (p := p); omega)
 have h2 := dg_lt (f := im p f) (n := n) (by rw [h1]; omega)
 have h3 := im_dg (p := p) f
 have := hf.1
 exact ⟨by omega, h1⟩
theorem exists_inv_pow {p : Int} {f x y : Poly m} {n : Nat} (hf : Mn f n) (h : Up p f 1 (x * y - 1)) : ∀ j : Nat, ∃ z, dg z ≤ n ∧ Up p f (2 ^ j) (x * z - 1) := by
 intro j
 induction j with
 | zero =>
  refine ⟨rdM y f, rdM_dg hf y, h.cg ?_⟩
  exact ((Cg.refl f x).mul (cg_rem hf y).symm).sub (Cg.refl f 1)
 | succ j ih =>
  obtain ⟨z, _, h2⟩ := ih
  have h3 := inv_step h2
  refine ⟨rdM (z * (1 + 1 - x * z)) f, rdM_dg hf _, ?_⟩
  rw [Nat.pow_succ, Nat.mul_two]
  exact h3.cg (((Cg.refl f x).mul (cg_rem hf _).symm).sub (Cg.refl f 1))
theorem lt_two_pow' (k : Nat) : k ≤ 2 ^ k := Nat.le_of_lt Nat.lt_two_pow_self
theorem cg_sub_zero {f a b : Poly m} (h : Cg f (a - b) 0) : Cg f a b := by
 obtain ⟨v, h⟩ := h
 exact ⟨v, comb 1 h (ring [a, b, v, f] (by rfl))⟩
theorem exists_invM {f x : Poly m} {n k : Nat} (hm : m = p ^ k) (hk : 1 ≤ k) (hf : Mn f n) (hi : Irr (im p f)) (hx : ¬ im p f ∣ im p x) : ∃ U, dg U ≤ n ∧ Cg f (x * U) 1 := by
 have hd : p ∣ m := by
  obtain ⟨j, rfl⟩ : ∃ j, k = j + 1 := ⟨k - 1, by omega⟩
  exact ⟨p ^ j, by rw [hm, Int.pow_succ, Int.mul_comm]⟩
 obtain ⟨a, b, hab⟩ := hi.cop hx
 have h1 : Up p f 1 (x * lft m b - 1) := by
  refine im_up1 hd (q := -a) ?_
  rw [im_sub hd, im_mul hd, im_up hd, im_one hd]
  exact comb 1 hab (ring [a, b, im p f, im p x] (by rfl))
 obtain ⟨z, hz, h2⟩ := exists_inv_pow hf h1 k
 exact ⟨z, hz, cg_sub_zero ((h2.le (lt_two_pow' k)).top hm)⟩

/- roots -/
def evL : List Int → Poly m → Poly m
 | [], _ => 0
 | c :: l, X => cn m c + X * evL l X
def deL : List Int → Poly m → Poly m
 | [], _ => 0
 | _ :: l, X => evL l X + X * deL l X
theorem evL_congr (X : Poly m) : ∀ {a b : List Int}, (∀ i, cf a i % m = cf b i % m) → evL a X = evL b X
 | [], [], _ => rfl
 | [], c :: l, h => by
  have h0 := h 0
  rw [cf_nil, cf_cons_zero] at h0
  have h1 := evL_congr X (a := []) (b := l) fun i => by have := h (i + 1); rwa [cf_nil, cf_cons_succ] at this
  have h2 : cn m c = 0 := by rw [← cn_mod, ← h0]; simp [cn_zero]
  rw [evL, evL, ← h1, h2, evL]; exact ring [X] (by rfl)
 | c :: l, [], h => by
  have h0 := h 0
  rw [cf_nil, cf_cons_zero] at h0
  have h1 := evL_congr X (a := l) (b := []) fun i => by have := h (i + 1); rwa [cf_nil, cf_cons_succ] at this
  have h2 : cn m c = 0 := by rw [← cn_mod, h0]; simp [cn_zero]
  rw [evL, evL, h1, h2, evL]; exact ring [X] (by rfl)
 | c :: l, d :: k, h => by
  have h0 := h 0
  rw [cf_cons_zero, cf_cons_zero] at h0
  have h1 := evL_congr X (a := l) (b := k) fun i => by have := h (i + 1); rwa [cf_cons_succ, cf_cons_succ] at this
  rw [evL, evL, h1, ← cn_mod c, h0, cn_mod]
theorem evL_cg {f X Y : Poly m} (h : Cg f X Y) : ∀ l : List Int, Cg f (evL l X) (evL l Y)
 | [] => Cg.refl f 0
 | _ :: l => (Cg.refl f _).add (h.mul (evL_cg h l))
theorem deL_cg {f X Y : Poly m} (h : Cg f X Y) : ∀ l : List Int, Cg f (deL l X) (deL l Y)
 | [] => Cg.refl f 0
 | _ :: l => (evL_cg h l).add (h.mul (deL_cg h l))
theorem taylor (X D : Poly m) : ∀ l : List Int, ∃ w, evL l (X + D) = evL l X + D * deL l X + D * D * w
 | [] => ⟨0, by simp only [evL, deL]; exact ring [D] (by rfl)⟩
 | c :: l => by
  obtain ⟨w, h⟩ := taylor X D l
  refine ⟨X * w + deL l X + D * w, ?_⟩
  simp only [evL, deL]
  exact comb (X + D) h (ring [X, D, w, cn m c, evL l X, deL l X, evL l (X + D)] (by rfl))
theorem root_unique {p : Int} {f y z s : Poly m} {l : List Int} {n k : Nat} (hm : m = p ^ k) (hf : Mn f n) (hy : Cg f (evL l y) 0) (hz : Cg f (evL l z) 0) (h1 : Up p f 1 (y - z)) (hs : Cg f (deL l z * s) 1) (dy : dg y ≤ n) (dz : dg z ≤ n) : y = z := by
 refine Cg.eq hf (cg_sub_zero ?_) dy dz
 obtain ⟨w, ht⟩ := taylor z (y - z) l
 rw [show z + (y - z) = y from ring [y, z] (by rfl)] at ht
 generalize y - z = D at h1 ht ⊢
 -- D (slope + D w) is 0, so D = - D D w s
 have hD : Cg f D (-(D * (D * w * s))) := by
  obtain ⟨a, hy⟩ := hy
  obtain ⟨b, hz⟩ := hz
  obtain ⟨c, hs⟩ := hs
  generalize evL l y = Y at hy ht
  generalize evL l z = Z at hz ht
  generalize deL l z = E at hs ht
  have hy' : Y = a * f := comb 1 hy (ring [Y, a, f] (by rfl))
  have hz' : Z = b * f := comb 1 hz (ring [Z, b, f] (by rfl))
  rw [hy', hz'] at ht
  exact ⟨s * (a - b) - D * c, comb (-D) hs (comb (-s) ht (ring [D, w, s, a, b, c, f, E] (by rfl)))⟩
 have hall : ∀ j, Up p f (j + 1) D := fun j => by
  induction j with
  | zero => exact h1
  | succ j ih =>
   have h2 := (ih.mul ((h1.mulr w).mulr s)).neg
   rw [show j + 1 + 1 = j + 1 + 1 from rfl] at h2
   exact h2.cg hD.symm
 exact ((hall k).le (by omega)).top hm
theorem root_step {p : Int} {f y s : Poly m} {l : List Int} {i : Nat} (h : Up p f i (evL l y)) (hs : Cg f (deL l y * s) 1) : Up p f (i + i) (evL l (y - evL l y * s)) := by
 obtain ⟨w, ht⟩ := taylor y (-(evL l y * s)) l
 rw [show y + -(evL l y * s) = y - evL l y * s from ring [y, evL l y, s] (by rfl)] at ht
 have h2 := ((h.mul h).mulr (s * s * w))
 refine h2.cg ?_
 obtain ⟨c, hs⟩ := hs
 exact ⟨evL l y * c, comb (-1) ht (comb (evL l y) hs (ring [s, w, c, f, evL l y, deL l y, evL l (y - evL l y * s)] (by rfl)))⟩
end
end Poly
namespace Poly
section
variable {p : Int} [SP p]

theorem X_mul_of (l : List Int) (c : Int) : of p (c :: l) = cn p c + X p * of p l := by
 have h : X p = mono p 1 1 := rfl
 refine ext_cf fun i => ?_
 rw [cf_of, cf_add, cf_cn, h, cf_mono_mul]
 cases i with
 | zero => rw [cf_cons_zero, if_pos rfl, if_neg (by omega)]; simp
 | succ i => rw [cf_cons_succ, if_neg (by omega), if_pos (by omega), Nat.add_sub_cancel, cf_of]; simp
theorem ev_X : ∀ l : List Int, evL l (X p) = of p l
 | [] => (ext_cf fun i => by rw [cf_of, cf_nil]; show cf (0 : Poly p).l i = _; rw [cf_zero]; rfl)
 | c :: l => by rw [evL, ev_X l, X_mul_of]
theorem ev_pow (Y : Poly p) : ∀ l : List Int, evL l (Y ^ p.toNat) = evL l Y ^ p.toNat
 | [] => by rw [evL, evL, zero_pow pos_nat]
 | c :: l => by
  rw [evL, evL, frob_add, mul_pow, ev_pow Y l]
  congr 1
  exact (frob_con c).symm
theorem de_pow (Y : Poly p) : ∀ l : List Int, deL l (Y ^ p.toNat) = deL l Y ^ p.toNat
 | [] => by rw [deL, deL, zero_pow pos_nat]
 | _ :: l => by rw [deL, deL, frob_add, mul_pow, ev_pow, de_pow Y l]
theorem der_cn (c : Int) : der (cn p c) = 0 := ext_cf fun i => by
 rw [cf_der]; unfold dv; rw [cf_cn, if_neg (by omega), cf_zero]; simp
theorem der_X : der (X p) = 1 := ext_cf fun i => by
 rw [cf_der, cf_one]; unfold dv
 have h1 := cf_Xpow (p := p) 1 (i + 1)
 rw [pow_succ', pow_zero', CR.one_mul] at h1
 rw [h1]
 cases i with
 | zero => rfl
 | succ i => rw [if_neg (by omega), cf_cons_succ, cf_nil]; simp
theorem de_X : ∀ l : List Int, deL l (X p) = der (of p l)
 | [] => by
  rw [deL, show of p [] = (0 : Poly p) from ext_cf fun i => by rw [cf_of, cf_nil, cf_zero]; rfl]
  refine ext_cf fun i => ?_
  rw [cf_der, cf_zero]; unfold dv; rw [cf_zero]; simp
 | c :: l => by rw [deL, ev_X, de_X l, X_mul_of, der_add, der_cn, der_mul, der_X]; exact ring [of p l, X p, der (of p l)] (by rfl)
theorem irr_der {f : Poly p} (hi : Irr f) : der f ≠ 0 := fun h => by
 have hp := Pr.two (p := p)
 obtain ⟨r, hr⟩ : ∃ r : Poly p, ∀ i, cf r.l i = cf f.l (i * p.toNat) := by
  refine ⟨of p (mkL (dg f) fun i => cf f.l (i * p.toNat)), fun i => ?_⟩
  rw [cf_of, cf_mkL]
  split
  ·exact mod_cf f _
  ·rw [cf_dg (Nat.le_trans (by omega) (Nat.le_mul_of_pos_right i pos_nat))]; rfl
 have h1 := der_zero h hr
 obtain ⟨k, hk⟩ : ∃ k, p.toNat = k + 1 := ⟨p.toNat - 1, by omega⟩
 have hdv : f ∣ r := hi.pow (n := p.toNat) (by rw [h1]; exact dvd_refl f)
 have hr0 : r ≠ 0 := fun e => hi.ne (by rw [← h1, e, zero_pow pos_nat])
 have h2 := dvd_dg hdv hr0
 have h3 : dg r < dg f := by
  obtain ⟨j, hj⟩ : ∃ j, p.toNat = j + 2 := ⟨p.toNat - 2, by omega⟩
  have h4 : f = r * (r * r ^ j) := by rw [← h1, hj, pow_succ', pow_succ']; exact ring [r, r ^ j] (by rfl)
  have hj0 : r ^ j ≠ 0 := fun e => hi.ne (by rw [h4, e]; exact ring [r] (by rfl))
  have h5 := dg_mul hr0 hj0
  have h6 := dg_mul hr0 (mul_ne hr0 hj0)
  rw [← h4] at h6
  have h7 : dg (r ^ j) ≠ 0 := fun e => hj0 (dg_eq_zero.1 e)
  have h8 := hi.1
  omega
 omega
end

section
variable {m p : Int} [Pos m] [SP p]
theorem im_ev (hd : p ∣ m) (Y : Poly m) : ∀ l : List Int, im p (evL l Y) = evL l (im p Y)
 | [] => (ext_cf fun i => by rw [im_cf]; show cf (0 : Poly m).l i % p = cf (0 : Poly p).l i; rw [cf_zero, cf_zero]; rfl)
 | c :: l => by rw [evL, evL, im_add hd, im_mul hd, im_cn hd, im_ev hd Y l]; rfl
theorem im_de (hd : p ∣ m) (Y : Poly m) : ∀ l : List Int, im p (deL l Y) = deL l (im p Y)
 | [] => (ext_cf fun i => by rw [im_cf]; show cf (0 : Poly m).l i % p = cf (0 : Poly p).l i; rw [cf_zero, cf_zero]; rfl)
 | _ :: l => by rw [deL, deL, im_add hd, im_mul hd, im_ev hd, im_de hd Y l]

structure RootI (p : Int) [SP p] (f : Poly m) (n i : Nat) (y : Poly m) : Prop where
 deg : dg y ≤ n
 val : Up p f i (evL f.l y)
 near : Cg (im p f) (im p y) (X p ^ p.toNat)
theorem RootI.start {f : Poly m} {n : Nat} (hd : p ∣ m) (_hpm : p ≤ m) (hi : Irr (im p f)) (hn : dg (im p f) = n + 1) : RootI p f n 1 (lft m (rem (X p ^ p.toNat) (im p f))) := by
 have h1 := rem_lt (X p ^ p.toNat) hi.ne
 have h2 := lft_dg (m := m) (rem (X p ^ p.toNat) (im p f))
 have h3 : Cg (im p f) (rem (X p ^ p.toNat) (im p f)) (X p ^ p.toNat) :=
  ⟨-quo (X p ^ p.toNat) (im p f), comb (-1) (div_eq (X p ^ p.toNat) (im p f)) (ring [X p ^ p.toNat, im p f, quo (X p ^ p.toNat) (im p f), rem (X p ^ p.toNat) (im p f)] (by rfl))⟩
 refine ⟨by omega, ?_, by rw [im_up hd]; exact h3⟩
 obtain ⟨v, h4⟩ := evL_cg h3 f.l
 rw [ev_pow, ev_X] at h4
 have h5 : of p f.l = im p f := rfl
 obtain ⟨k, hk⟩ : ∃ k, p.toNat = k + 1 := ⟨p.toNat - 1, by have := pos_nat (p := p); omega⟩
 refine im_up1 hd (q := v + im p f ^ k) ?_
 rw [im_ev hd, im_up hd]
 rw [h5] at h4
 have h6 : im p f ^ p.toNat = im p f ^ k * im p f := by rw [hk, pow_succ']
 generalize evL f.l (rem (X p ^ p.toNat) (im p f)) = E at h4 ⊢
 rw [h6] at h4
 exact comb 1 h4 (ring [E, v, im p f, im p f ^ k] (by rfl))
theorem RootI.slope {f y : Poly m} {n i : Nat} (hd : p ∣ m) (hi : Irr (im p f)) (h : RootI p f n i y) : ¬ im p f ∣ im p (deL f.l y) := fun hdv => by
 rw [im_de hd] at hdv
 obtain ⟨v, h1⟩ := deL_cg h.near f.l
 rw [de_pow, de_X, show of p f.l = im p f from rfl] at h1
 have h2 : im p f ∣ der (im p f) ^ p.toNat := by
  obtain ⟨q, hq⟩ := hdv
  refine ⟨q - v, ?_⟩
  generalize der (im p f) ^ p.toNat = E at h1 ⊢
  exact comb (-1) h1 (comb 1 hq (ring [E, q, v, im p f, deL f.l (im p y)] (by rfl)))
 have h3 := hi.pow h2
 exact small_ndvd (irr_der hi) (der_dg hi.ne) h3
theorem RootI.step {f y s : Poly m} {n i : Nat} (hd : p ∣ m) (_hf : Mn f n) (h : RootI p f n i y) (h1 : 1 ≤ i) (hs : Cg f (deL f.l y * s) 1) {y' : Poly m} (hy : Cg f y' (y - evL f.l y * s)) (hy2 : dg y' ≤ n) : RootI p f n (i + i) y' := by
 refine ⟨hy2, (root_step h.val hs).cg (evL_cg hy.symm f.l), ?_⟩
 have h2 : Up p f 1 (y' - y) := by
  have h3 := (((h.val.le h1).mulr s).neg)
  refine h3.cg ?_
  obtain ⟨v, hy⟩ := hy
  exact ⟨-v, comb (-1) hy (ring [y, y', s, v, f, evL f.l y] (by rfl))⟩
 obtain ⟨q, h3⟩ := up1_im hd h2
 rw [im_sub hd] at h3
 exact Cg.trans ⟨q, h3⟩ h.near
theorem RootI.unique {f y z : Poly m} {n k i j : Nat} (hm : m = p ^ k) (hk : 1 ≤ k) (hf : Mn f n) (hi : Irr (im p f)) (hy : RootI p f n i y) (hz : RootI p f n j z) (h1 : k ≤ i) (h2 : k ≤ j) : y = z := by
 have hd : p ∣ m := by
  obtain ⟨j, rfl⟩ : ∃ j, k = j + 1 := ⟨k - 1, by omega⟩
  exact ⟨p ^ j, by rw [hm, Int.pow_succ, Int.mul_comm]⟩
 obtain ⟨s, _, hs⟩ := exists_invM hm hk hf hi (hz.slope hd hi)
 refine root_unique hm hf ((hy.val.le h1).top hm) ((hz.val.le h2).top hm) ?_ hs hy.deg hz.deg
 obtain ⟨q, h3⟩ := hy.near.trans hz.near.symm
 rw [← im_sub hd] at h3
 exact im_up1 hd h3
theorem exists_root {f : Poly m} {n k : Nat} (hm : m = p ^ k) (hk : 1 ≤ k) (hpm : p ≤ m) (hf : Mn f n) (hi : Irr (im p f)) : ∃ R, RootI p f n k R := by
 have hd : p ∣ m := by
  obtain ⟨j, rfl⟩ : ∃ j, k = j + 1 := ⟨k - 1, by omega⟩
  exact ⟨p ^ j, by rw [hm, Int.pow_succ, Int.mul_comm]⟩
 have go : ∀ j : Nat, ∃ R, RootI p f n (2 ^ j) R := fun j => by
  induction j with
  | zero => exact ⟨_, RootI.start hd hpm hi (im_mn hd hf).1⟩
  | succ j ih =>
   obtain ⟨y, hy⟩ := ih
   obtain ⟨s, _, hs⟩ := exists_invM hm hk hf hi (hy.slope hd hi)
   refine ⟨rdM (y - evL f.l y * s) f, ?_⟩
   rw [Nat.pow_succ, Nat.mul_two]
   exact hy.step hd hf (Nat.pos_of_ne_zero (by have := Nat.pow_pos (a := 2) (n := j) (by omega); omega)) hs (cg_rem hf _) (rdM_dg hf _)
 obtain ⟨R, hR⟩ := go k
 exact ⟨R, hR.deg, hR.val.le (lt_two_pow' k), hR.near⟩
end
end Poly
namespace Poly
variable {m : Int} [Pos m]

theorem cf_rng (f : Poly m) (j : Nat) : 0 ≤ cf f.l j ∧ cf f.l j < m := by
 rw [← mod_cf f j]
 exact ⟨Int.emod_nonneg _ (by have := Pos.pos (p := m); omega), Int.emod_lt_of_pos _ Pos.pos⟩

structure DivN (m : Int) [Pos m] (F G : Poly m) (nq k : Nat) (r q : List Int) : Prop where
 rl : r.length = dg F
 ql : q.length = nq
 eq : F = of m q * G + of m r
 z : ∀ j, k + dg G ≤ j + 1 → cf r j = 0
 rr : ∀ j, 0 ≤ cf r j ∧ cf r j < m
 qr : ∀ j, 0 ≤ cf q j ∧ cf q j < m
 qz : ∀ j, j < k → cf q j = 0

theorem DivN.start (F G : Poly m) {nq : Nat} (h : dg F + 1 ≤ nq + dg G) : DivN m F G nq nq F.l (List.replicate nq 0) := by
 have hp := Pos.pos (p := m)
 refine ⟨rfl, by simp, ?_, fun j hj => cf_dg (by omega), fun j => cf_rng F j, fun j => by rw [cf_replicate]; omega, fun j _ => cf_replicate _ _⟩
 have h0 : of m (List.replicate nq 0) = (0 : Poly m) := ext_cf fun i => by rw [cf_of, cf_replicate, cf_zero]; simp
 rw [h0, of_l]
 exact ring [F, G] (by rfl)

theorem DivN.step {F G : Poly m} {n nq k : Nat} {r q r' : List Int} (h : DivN m F G nq (k + 1) r q) (hG : Mn G n) (hk : k < nq) (c : Int) (hc : c = cf r (k + dg G - 1))
  (hl : r'.length = r.length) (hr : ∀ j, cf r' j = if k ≤ j ∧ j < k + dg G then (cf r j - c * cf G.l (j - k)) % m else cf r j) : DivN m F G nq k r' (q.set k c) := by
 have hp := Pos.pos (p := m)
 have hm := hG.1
 have hcr : 0 ≤ c ∧ c < m := by rw [hc]; exact h.rr _
 have hql := h.ql
 have e1 : of m (q.set k c) = of m q + mono m c k := ext_cf fun i => by
  rw [cf_of, cf_add, cf_of, cf_mono, cf_set (by omega)]
  by_cases hi : i = k
  ·subst hi; rw [if_pos rfl, if_pos rfl, h.qz i (by omega)]; simp
  ·rw [if_neg hi, if_neg hi]; simp
 have e2 : of m r' = of m r - mono m c k * G := ext_cf fun i => by
  rw [cf_of, cf_sub, cf_of, cf_mono_mul, hr]
  by_cases hi : k ≤ i
  ·rw [if_pos hi]
   by_cases hi2 : i < k + dg G
   ·rw [if_pos ⟨hi, hi2⟩]
    rw [Int.emod_emod_of_dvd _ (Int.dvd_refl m), ← Int.sub_emod]
   ·rw [if_neg (by omega), cf_dg (f := G) (by omega)]; simp
  ·rw [if_neg (by omega), if_neg hi]; simp
 refine ⟨by rw [hl, h.rl], by simpa using hql, ?_, fun j hj => ?_, fun j => ?_, fun j => ?_, fun j hj => ?_⟩
 ·rw [e1, e2]
  exact comb 1 h.eq (ring [F, G, of m q, of m r, mono m c k] (by rfl))
 ·rw [hr]
  by_cases hj2 : j < k + dg G
  ·obtain rfl : j = k + dg G - 1 := by omega
   rw [if_pos (by omega), show k + dg G - 1 - k = n by omega, hG.2, hc]
   simp
  ·rw [if_neg (by omega)]; exact h.z j (by omega)
 ·rw [hr]
  split
  ·exact ⟨Int.emod_nonneg _ (by omega), Int.emod_lt_of_pos _ (by omega)⟩
  ·exact h.rr j
 ·rw [cf_set (by omega)]
  split
  ·exact hcr
  ·exact h.qr j
 ·rw [cf_set (by omega), if_neg (by omega)]
  exact h.qz j (by omega)

theorem qtM_is {f a q r : Poly m} {n : Nat} (hf : Mn f n) (h : a = q * f + r) (hr : dg r ≤ n) : qtM a f = q := by
 have h1 := rdM_is hf h hr
 have h2 := (rdM_spec hf a).1
 rw [h1] at h2
 have h3 : (q - qtM a f) * f = 0 := comb (-1) h (comb 1 h2 (ring [q, qtM a f, f, a, r] (by rfl)))
 have h4 : q - qtM a f = 0 := Classical.byContradiction fun h0 => by
  have := mn_mul_ne hf h0
  rw [h3, dg_eq_zero.2 rfl] at this; omega
 exact (comb 1 h4 (ring [q, qtM a f] (by rfl)) : q = qtM a f).symm

theorem DivN.fin {F G : Poly m} {n nq : Nat} {r q : List Int} (h : DivN m F G nq 0 r q) (hG : Mn G n) : trimZ q = (qtM F G).l ∧ trimZ r = (rdM F G).l := by
 have hm := hG.1
 have h0 : dg (of m r) ≤ n := dg_le fun j hj => by rw [cf_of, h.z j (by omega)]; simp
 rw [qtM_is hG h.eq h0, rdM_is hG h.eq h0]
 exact ⟨(nrm_rng h.qr).symm, (nrm_rng h.rr).symm⟩

/- lists by a modulus -/
theorem addM_l (X Y : Poly m) : nrm m (trimZ (addL X.l Y.l)) = (X + Y).l := nrm_trim _ _
theorem subM_l (X Y : Poly m) : nrm m (trimZ (addL X.l (smulL (-1) Y.l))) = (X - Y).l := nrm_trim _ _
theorem addM_cn (X : Poly m) (c : Int) : nrm m (trimZ (addL X.l [c])) = (X + cn m c).l := by
 rw [nrm_trim]
 refine eq_of_cf (nrm_last _ _) (X + cn m c).ok.2 fun i => ?_
 rw [cf_nrm, cf_addL, cf_add, cf_cn]
 cases i with
 | zero => rw [cf_cons_zero, if_pos rfl]; simp
 | succ i => rw [cf_cons_succ, cf_nil, if_neg (by omega)]
theorem subM_cn (X : Poly m) (c : Int) : nrm m (trimZ (addL [c] (smulL (-1) X.l))) = (cn m c - X).l := by
 rw [nrm_trim]
 refine eq_of_cf (nrm_last _ _) (cn m c - X).ok.2 fun i => ?_
 rw [cf_nrm, cf_addL, cf_smulL, cf_sub, cf_cn]
 cases i with
 | zero => rw [cf_cons_zero, if_pos rfl, Int.emod_sub_emod]; congr 1; omega
 | succ i => rw [cf_cons_succ, cf_nil, if_neg (by omega)]; congr 1; omega
end Poly
namespace Poly
section
variable {m : Int} [Pos m]

noncomputable def valM (f F X : Poly m) : Nat → Poly m
 | 0 => 0
 | k + 1 => rdM (valM f F X k * X) f + cn m (cf F.l (dg F - 1 - k))
theorem valM_dg {f F X : Poly m} {n : Nat} (hf : Mn f n) (h1 : 1 ≤ n) : ∀ k, dg (valM f F X k) ≤ n
 | 0 => by show dg (0 : Poly m) ≤ _; rw [dg_eq_zero.2 rfl]; omega
 | k + 1 => by
  have h2 := dg_add (rdM (valM f F X k * X) f) (cn m (cf F.l (dg F - 1 - k)))
  have h3 := rdM_dg hf (valM f F X k * X)
  have h4 := cn_dg (m := m) (cf F.l (dg F - 1 - k))
  show dg (rdM (valM f F X k * X) f + cn m (cf F.l (dg F - 1 - k))) ≤ _; omega
theorem valM_ev {f F X : Poly m} {n : Nat} (hf : Mn f n) : ∀ k, k ≤ dg F → Cg f (valM f F X k) (evL (F.l.drop (dg F - k)) X) := by
 have hl : F.l.length = dg F := rfl
 intro k
 induction k with
 | zero =>
  intro _
  rw [Nat.sub_zero, show F.l.drop (dg F) = [] from List.drop_of_length_le (Nat.le_refl _)]
  exact Cg.refl f 0
 | succ k ih =>
  intro hk
  have h1 := ih (by omega)
  obtain ⟨i, hi⟩ : ∃ i, dg F = i + (k + 1) := ⟨dg F - (k + 1), by omega⟩
  have e1 : dg F - (k + 1) = i := by omega
  have e2 : dg F - k = i + 1 := by omega
  have e3 : dg F - 1 - k = i := by omega
  have e : F.l.drop i = cf F.l i :: F.l.drop (i + 1) := by
   rw [List.drop_eq_getElem_cons (l := F.l) (i := i) (by omega), cf_lt (by omega)]
  rw [e2] at h1
  rw [e1, e, evL, valM, e3]
  generalize evL (F.l.drop (i + 1)) X = E at h1 ⊢
  have h2 := ((cg_rem hf (valM f F X k * X)).trans (h1.mul (Cg.refl f X))).add (Cg.refl f (cn m (cf F.l i)))
  rwa [show E * X + cn m (cf F.l i) = cn m (cf F.l i) + X * E from ring [E, X, cn m (cf F.l i)] (by rfl)] at h2
theorem val_ev {f F X : Poly m} {n : Nat} (hf : Mn f n) : Cg f (valM f F X (dg F)) (evL F.l X) := by
 have h := valM_ev (X := X) hf (dg F) (Nat.le_refl _)
 rwa [Nat.sub_self, List.drop_zero] at h

/- derivatives -/
theorem mkL_cons (n : Nat) (g : Nat → Int) : mkL (n + 1) g = g 0 :: mkL n fun i => g (i + 1) := by
 unfold mkL
 rw [List.range_succ_eq_map, List.map_cons, List.map_map]; rfl
theorem evF_add (X : Poly m) : ∀ (n : Nat) (g h : Nat → Int), evL (mkL n fun i => g i + h i) X = evL (mkL n g) X + evL (mkL n h) X
 | 0, g, h => by simp only [mkL, List.range_zero, List.map_nil, evL]; exact ring [X] (by rfl)
 | n + 1, g, h => by
  rw [mkL_cons, mkL_cons, mkL_cons, evL, evL, evL, evF_add X n (fun i => g (i + 1)) (fun i => h (i + 1)), ← cn_add]
  exact ring [X, cn m (g 0), cn m (h 0), evL (mkL n fun i => g (i + 1)) X, evL (mkL n fun i => h (i + 1)) X] (by rfl)
theorem ev_mkL (X : Poly m) {l : List Int} {n : Nat} (h : l.length ≤ n) : evL l X = evL (mkL n (cf l)) X :=
 evL_congr X fun i => by
  rw [cf_mkL]
  split
  ·rfl
  ·rw [cf_ge (by omega)]
theorem deL_mkL (X : Poly m) : ∀ (l : List Int) (n : Nat), l.length ≤ n → deL l X = evL (mkL n (dv (cf l))) X
 | [], n, _ => by
  rw [deL]
  have : evL [] X = evL (mkL n (dv (cf []))) X := evL_congr X fun i => by
   rw [cf_nil, cf_mkL]; unfold dv; rw [cf_nil]; split <;> simp
  exact this
 | c :: l, n + 1, h => by
  have h1 : l.length ≤ n := by simpa using h
  rw [deL, deL_mkL X l n h1, ev_mkL X (n := n + 1) (Nat.le_succ_of_le h1)]
  have e : mkL (n + 1) (dv (cf (c :: l))) = mkL (n + 1) fun i => cf l i + (fun i : Nat => (i : Int) * cf l i) i := by
   congr 1; funext i; unfold dv; rw [cf_cons_succ, Int.add_mul, Int.one_mul, Int.add_comm]
  rw [e, evF_add]
  congr 1
  rw [mkL_cons, evL]
  have e2 : (fun i : Nat => ((i + 1 : Nat) : Int) * cf l (i + 1)) = dv (cf l) := by funext i; unfold dv; congr 1
  rw [show ((0 : Nat) : Int) * cf l 0 = 0 by simp, cn_zero]
  have e3 : (mkL n fun i => (fun i : Nat => (i : Int) * cf l i) (i + 1)) = mkL n (dv (cf l)) := by rw [← e2]
  rw [e3]
  exact ring [X, evL (mkL n (dv (cf l))) X] (by rfl)
def derM (f : Poly m) : Poly m := of m (mkL (dg f - 1) (dv (cf f.l)))
theorem derM_ev (f Y : Poly m) : evL (derM f).l Y = deL f.l Y := by
 rw [deL_mkL Y f.l (dg f) (Nat.le_refl _)]
 refine evL_congr Y fun i => ?_
 unfold derM
 rw [cf_of, cf_mkL, cf_mkL, Int.emod_emod_of_dvd _ (Int.dvd_refl m)]
 by_cases h1 : i < dg f - 1
 ·rw [if_pos h1, if_pos (by omega)]
 ·rw [if_neg h1]
  split
  ·unfold dv; rw [cf_dg (by omega)]; simp
  ·rfl
theorem derM_dg (f : Poly m) : dg (derM f) ≤ dg f - 1 := by
 have h := dg_of_le (p := m) (mkL (dg f - 1) (dv (cf f.l)))
 rwa [mkL_length] at h

/- powers -/
end
end Poly
namespace Poly
section
variable {m p : Int} [Pos m] [SP p]

theorem cn_two : cn m 2 = (1 : Poly m) + 1 := by
 have h := cn_add (m := m) 1 1
 rw [cn_one] at h
 exact h.symm
structure InvI (p : Int) (f X : Poly m) (n i : Nat) (y : Poly m) : Prop where
 deg : dg y ≤ n
 val : Up p f i (X * y - 1)
theorem InvI.start {f X : Poly m} {n : Nat} (hd : p ∣ m) {u : Poly p} (hu : dg u ≤ n) (h : im p f ∣ im p X * u - 1) : InvI p f X n 1 (lft m u) := by
 refine ⟨Nat.le_trans (lft_dg u) hu, ?_⟩
 obtain ⟨q, hq⟩ := h
 refine im_up1 hd (q := q) ?_
 rw [im_sub hd, im_mul hd, im_up hd, im_one hd]
 exact comb 1 hq (ring [im p X, u, q, im p f] (by rfl))
theorem InvI.step {p : Int} {f X y : Poly m} {n i : Nat} (hf : Mn f n) (h : InvI p f X n i y) : InvI p f X n (i + i) (rdM (y * (cn m 2 - rdM (X * y) f)) f) := by
 refine ⟨rdM_dg hf _, (inv_step h.val).cg ?_⟩
 have h1 : Cg f (cn m 2 - rdM (X * y) f) (1 + 1 - X * y) := by
  rw [cn_two]
  exact (Cg.refl f (1 + 1)).sub (cg_rem hf (X * y))
 have h2 := (cg_rem hf (y * (cn m 2 - rdM (X * y) f))).trans ((Cg.refl f y).mul h1)
 exact (((Cg.refl f X).mul h2).sub (Cg.refl f 1)).symm
theorem InvI.one {p : Int} {f X y : Poly m} {n i k : Nat} (hm : m = p ^ k) (h : InvI p f X n i y) (hk : k ≤ i) : Cg f (X * y) 1 :=
 cg_sub_zero ((h.val.le hk).top hm)
theorem InvI.fin {p : Int} {f X y U : Poly m} {n i k : Nat} (hm : m = p ^ k) (hf : Mn f n) (h : InvI p f X n i y) (hk : k ≤ i) (hU : dg U ≤ n) (hU2 : Cg f (X * U) 1) : y = U :=
 invM_unique hf h.deg hU (h.one hm hk) hU2
theorem InvI.is {p : Int} {f X y U : Poly m} {n i : Nat} (hf : Mn f n) (h : InvI p f X n i y) (h1 : rdM (X * y) f = 1) (hU : dg U ≤ n) (hU2 : Cg f (X * U) 1) : y = U :=
 invM_unique hf h.deg hU (by have := cg_rem hf (X * y); rw [h1] at this; exact this.symm) hU2
theorem dg_one_le : dg (1 : Poly m) ≤ 1 := dg_of_le [(1 : Int)]
theorem InvI.rem {p : Int} {f X y : Poly m} {n i k : Nat} (hm : m = p ^ k) (hf : Mn f n) (hn : 1 ≤ n) (h : InvI p f X n i y) (hk : k ≤ i) : rdM (X * y) f = 1 := by
 have h1 := rdM_congr hf (h.one hm hk)
 rwa [rdM_small hf (Nat.le_trans dg_one_le hn)] at h1

noncomputable def slp (f y : Poly m) : Poly m := valM f (derM f) y (dg (derM f))
theorem slp_cg {f y : Poly m} {n : Nat} (hf : Mn f n) : Cg f (slp f y) (deL f.l y) := by
 have h := val_ev (F := derM f) (X := y) hf
 rwa [derM_ev] at h
theorem RootI.unit {f y : Poly m} {n i : Nat} (hd : p ∣ m) (hf : Mn f n) (hi : Irr (im p f)) (h : RootI p f n i y) : ¬ im p f ∣ im p (slp f y) := fun hdv => by
 refine h.slope hd hi ?_
 obtain ⟨q, hq⟩ := cg_im hd (slp_cg (y := y) hf)
 obtain ⟨r, hr⟩ := hdv
 exact ⟨r - q, comb 1 hr (comb (-1) hq (ring [im p (slp f y), im p (deL f.l y), q, r, im p f] (by rfl)))⟩
theorem RootI.next {f y s : Poly m} {n i : Nat} (hd : p ∣ m) (hf : Mn f n) (h : RootI p f n i y) (h1 : 1 ≤ i) (hs : Cg f (slp f y * s) 1) : RootI p f n (i + i) (y - rdM (valM f f y (dg f) * s) f) := by
 have h2 : Cg f (deL f.l y * s) 1 := (((slp_cg hf).symm).mul (Cg.refl f s)).trans hs
 refine h.step hd hf h1 h2 ?_ ?_
 ·exact (Cg.refl f y).sub ((cg_rem hf _).trans ((val_ev hf).mul (Cg.refl f s)))
 ·have h3 := dg_sub y (rdM (valM f f y (dg f) * s) f)
  have h4 := rdM_dg hf (valM f f y (dg f) * s)
  have := h.deg
  omega
theorem zero_dg : dg (0 : Poly m) = 0 := dg_eq_zero.2 rfl
theorem RootI.zero_of {f y : Poly m} {n i k : Nat} (hm : m = p ^ k) (hf : Mn f n) (hn : 1 ≤ n) (h : RootI p f n i y) (hk : k ≤ i) : valM f f y (dg f) = 0 :=
 Cg.eq hf ((val_ev hf).trans ((h.val.le hk).top hm)) (valM_dg hf hn _) (by rw [zero_dg]; omega)
theorem RootI.of_zero {f y : Poly m} {n i : Nat} (hf : Mn f n) (h : RootI p f n i y) (h0 : valM f f y (dg f) = 0) (k : Nat) : RootI p f n k y := by
 refine ⟨h.deg, ?_, h.near⟩
 have h1 : Up p f k (0 : Poly m) := ⟨0, 0, ring [f, cn m (p ^ k)] (by rfl)⟩
 have h2 := val_ev (F := f) (X := y) hf
 rw [h0] at h2
 exact h1.cg h2

noncomputable def frM (f R X : Poly m) : Nat → Poly m
 | 0 => X
 | k + 1 => valM f (frM f R X k) R (dg (frM f R X k))
theorem frM_dg {f R X : Poly m} {n : Nat} (hf : Mn f n) (hn : 1 ≤ n) (hX : dg X ≤ n) : ∀ k, dg (frM f R X k) ≤ n
 | 0 => hX
 | _ + 1 => valM_dg hf hn _
noncomputable def trM (f R X : Poly m) : Nat → Poly m
 | 0 => 0
 | k + 1 => trM f R X k + frM f R X k
theorem trM_dg {f R X : Poly m} {n : Nat} (hf : Mn f n) (hn : 1 ≤ n) (hX : dg X ≤ n) : ∀ k, dg (trM f R X k) ≤ n
 | 0 => by show dg (0 : Poly m) ≤ _; rw [zero_dg]; omega
 | k + 1 => by
  have h1 := trM_dg (R := R) hf hn hX k
  have h2 := frM_dg (R := R) hf hn hX k
  have h3 := dg_add (trM f R X k) (frM f R X k)
  show dg (trM f R X k + frM f R X k) ≤ _; omega
noncomputable def nrM (f R X : Poly m) : Nat → Poly m
 | 0 => 1
 | k + 1 => rdM (nrM f R X k * frM f R X k) f
theorem nrM_dg {f R X : Poly m} {n : Nat} (hf : Mn f n) (hn : 1 ≤ n) : ∀ k, dg (nrM f R X k) ≤ n
 | 0 => Nat.le_trans dg_one_le hn
 | _ + 1 => rdM_dg hf _
end
end Poly
end Go.Proofs.YtfinplgomnfdpaaGreat
