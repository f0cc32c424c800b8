/- Plain mathematics of polynomials by a prime. No conditions. -/
import Derived.Test.YtdebbdepmoecaaaGreatPd
namespace Go.Proofs.YtdebbdepmoecaaaGreat
namespace Poly
section
variable {m p : Int} [Pos m] [Pos p]

def im (p : Int) [Pos p] (X : Poly m) : Poly p := of p X.l
theorem im_cf {m : Int} (X : Poly m) (i : Nat) : cf (im p X).l i = cf X.l i % p := cf_of _ _
theorem mod_mod' {m p : Int} (hd : p ∣ m) (a : Int) : a % m % p = a % p := Int.emod_emod_of_dvd a hd
theorem im_add (hd : p ∣ m) (X Y : Poly m) : im p (X + Y) = im p X + im p Y := ext_cf fun i => by
 rw [im_cf, cf_add, cf_add, im_cf, im_cf, mod_mod' hd, ← Int.add_emod]
theorem im_sub (hd : p ∣ m) (X Y : Poly m) : im p (X - Y) = im p X - im p Y := ext_cf fun i => by
 rw [im_cf, cf_sub, cf_sub, im_cf, im_cf, mod_mod' hd, ← Int.sub_emod]
theorem im_fun {m : Int} (X : Poly m) : cf (im p X).l = fun i => cf X.l i % p := funext fun i => im_cf X i
theorem im_mul (hd : p ∣ m) (X Y : Poly m) : im p (X * Y) = im p X * im p Y := ext_cf fun i => by
 rw [im_cf, cf_mul, cf_mul, im_fun, im_fun, mod_mod' hd, cv_mod2]
theorem im_cn (hd : p ∣ m) (c : Int) : im p (cn m c) = of p [c] := ext_cf fun i => by
 rw [im_cf, cf_cn, cf_of]
 cases i with
 | zero => rw [if_pos rfl, cf_cons_zero, mod_mod' hd]
 | succ i => rw [if_neg (by omega), cf_cons_succ, cf_nil]
theorem im_one (hd : p ∣ m) : im p (1 : Poly m) = 1 := im_cn hd 1
theorem im_ker (_hd : p ∣ m) {X : Poly m} (h : im p X = 0) : ∃ Z, X = cn m p * Z := by
 refine ⟨of m (X.l.map (· / p)), ext_cf fun i => ?_⟩
 have h1 : cf X.l i % p = 0 := by rw [← im_cf (p := p), h, cf_zero]
 have h2 : cf (X.l.map (· / p)) i = cf X.l i / p := by
  by_cases hi : i < X.l.length
  ·exact cf_map (· / p) X.l hi
  ·rw [cf_ge (by simpa using hi), cf_ge (by omega)]; simp
 rw [cf_cn_mul, cf_of, h2]
 have h3 : p * (cf X.l i / p) = cf X.l i := by have := Int.mul_ediv_add_emod (cf X.l i) p; omega
 have h4 : p * (cf X.l i / p % m) % m = p * (cf X.l i / p) % m := by rw [Int.mul_emod, Int.emod_emod_of_dvd _ (Int.dvd_refl m), ← Int.mul_emod]
 rw [h4, h3, mod_cf]
def lft (m : Int) [Pos m] (Y : Poly p) : Poly m := of m Y.l
theorem im_up (hd : p ∣ m) (Y : Poly p) : im p (lft m Y) = Y := ext_cf fun i => by
 rw [im_cf]; unfold lft; rw [cf_of, mod_mod' hd, mod_cf]
theorem lft_l {p : Int} (hpm : p ≤ m) (Y : Poly p) : (lft m Y).l = Y.l := by
 refine nrm_id ⟨fun x hx => ?_, Y.ok.2⟩
 have := Y.ok.1 x hx
 omega
theorem lft_dg {p : Int} (Y : Poly p) : dg (lft m Y) ≤ dg Y := dg_le fun i hi => by
 unfold lft; rw [cf_of, cf_dg hi]; simp
theorem im_dg {m : Int} (X : Poly m) : dg (im p X) ≤ dg X := dg_le fun i hi => by rw [im_cf, cf_dg hi]; simp
theorem im_up1 {f a : Poly m} (hd : p ∣ m) {q : Poly p} (h : im p a = q * im p f) : Up p f 1 a := by
 have h1 : im p (a - lft m q * f) = 0 := by
  rw [im_sub hd, im_mul hd, im_up hd, h]; exact ring [q, im p f] (by rfl)
 obtain ⟨Z, hZ⟩ := im_ker hd h1
 refine ⟨Z, lft m q, ?_⟩
 rw [Int.pow_succ, Int.pow_zero, Int.one_mul]
 exact comb 1 hZ (ring [a, lft m q, f, Z, cn m p] (by rfl))
theorem up1_im {f a : Poly m} (hd : p ∣ m) (h : Up p f 1 a) : ∃ q, im p a = q * im p f := by
 obtain ⟨u, v, h⟩ := h
 refine ⟨im p v, ?_⟩
 rw [h, im_add hd, im_mul hd, im_mul hd, Int.pow_succ, Int.pow_zero, Int.one_mul, im_cn hd]
 have : of p [p] = 0 := cn_self (m := p)
 rw [this]
 exact ring [im p u, im p v, im p f] (by rfl)
theorem cg_im {f a b : Poly m} (hd : p ∣ m) (h : Cg f a b) : ∃ q, im p a - im p b = q * im p f := by
 obtain ⟨v, h⟩ := h
 exact ⟨im p v, by rw [← im_sub hd, h, im_mul hd]⟩
end

section
variable {m p : Int} [Pos m] [SP p]
theorem im_mn {m : Int} {f : Poly m} {n : Nat} (_hd : p ∣ m) (hf : Mn f n) : dg (im p f) = n + 1 ∧ cf (im p f).l n = 1 := by
 have h1 : cf (im p f).l n = 1 := by
  rw [im_cf, hf.2]; exact Int.emod_eq_of_lt (by omega) (by have := Pr.two (p := p); omega)
 have h2 := dg_lt (f := im p f) (n := n) (by rw [h1]; omega)
 have h3 := im_dg (p := p) f
 have := hf.1
 exact ⟨by omega, h1⟩
theorem exists_inv_pow {p : Int} {f x y : Poly m} {n : Nat} (hf : Mn f n) (h : Up p f 1 (x * y - 1)) : ∀ j : Nat, ∃ z, dg z ≤ n ∧ Up p f (2 ^ j) (x * z - 1) := by
 intro j
 induction j with
 | zero =>
  refine ⟨rdM y f, rdM_dg hf y, h.cg ?_⟩
  exact ((Cg.refl f x).mul (cg_rem hf y).symm).sub (Cg.refl f 1)
 | succ j ih =>
  obtain ⟨z, _, h2⟩ := ih
  have h3 := inv_step h2
  refine ⟨rdM (z * (1 + 1 - x * z)) f, rdM_dg hf _, ?_⟩
  rw [Nat.pow_succ, Nat.mul_two]
  exact h3.cg (((Cg.refl f x).mul (cg_rem hf _).symm).sub (Cg.refl f 1))
theorem lt_two_pow' (k : Nat) : k ≤ 2 ^ k := Nat.le_of_lt Nat.lt_two_pow_self
theorem cg_sub_zero {f a b : Poly m} (h : Cg f (a - b) 0) : Cg f a b := by
 obtain ⟨v, h⟩ := h
 exact ⟨v, comb 1 h (ring [a, b, v, f] (by rfl))⟩
theorem exists_invM {f x : Poly m} {n k : Nat} (hm : m = p ^ k) (hk : 1 ≤ k) (hf : Mn f n) (hi : Irr (im p f)) (hx : ¬ im p f ∣ im p x) : ∃ U, dg U ≤ n ∧ Cg f (x * U) 1 := by
 have hd : p ∣ m := by
  obtain ⟨j, rfl⟩ : ∃ j, k = j + 1 := ⟨k - 1, by omega⟩
  exact ⟨p ^ j, by rw [hm, Int.pow_succ, Int.mul_comm]⟩
 obtain ⟨a, b, hab⟩ := hi.cop hx
 have h1 : Up p f 1 (x * lft m b - 1) := by
  refine im_up1 hd (q := -a) ?_
  rw [im_sub hd, im_mul hd, im_up hd, im_one hd]
  exact comb 1 hab (ring [a, b, im p f, im p x] (by rfl))
 obtain ⟨z, hz, h2⟩ := exists_inv_pow hf h1 k
 exact ⟨z, hz, cg_sub_zero ((h2.le (lt_two_pow' k)).top hm)⟩

/- roots -/
def evL : List Int → Poly m → Poly m
 | [], _ => 0
 | c :: l, X => cn m c + X * evL l X
def deL : List Int → Poly m → Poly m
 | [], _ => 0
 | _ :: l, X => evL l X + X * deL l X
theorem evL_congr (X : Poly m) : ∀ {a b : List Int}, (∀ i, cf a i % m = cf b i % m) → evL a X = evL b X
 | [], [], _ => rfl
 | [], c :: l, h => by
  have h0 := h 0
  rw [cf_nil, cf_cons_zero] at h0
  have h1 := evL_congr X (a := []) (b := l) fun i => by have := h (i + 1); rwa [cf_nil, cf_cons_succ] at this
  have h2 : cn m c = 0 := by rw [← cn_mod, ← h0]; simp [cn_zero]
  rw [evL, evL, ← h1, h2, evL]; exact ring [X] (by rfl)
 | c :: l, [], h => by
  have h0 := h 0
  rw [cf_nil, cf_cons_zero] at h0
  have h1 := evL_congr X (a := l) (b := []) fun i => by have := h (i + 1); rwa [cf_nil, cf_cons_succ] at this
  have h2 : cn m c = 0 := by rw [← cn_mod, h0]; simp [cn_zero]
  rw [evL, evL, h1, h2, evL]; exact ring [X] (by rfl)
 | c :: l, d :: k, h => by
  have h0 := h 0
  rw [cf_cons_zero, cf_cons_zero] at h0
  have h1 := evL_congr X (a := l) (b := k) fun i => by have := h (i + 1); rwa [cf_cons_succ, cf_cons_succ] at this
  rw [evL, evL, h1, ← cn_mod c, h0, cn_mod]
theorem evL_cg {f X Y : Poly m} (h : Cg f X Y) : ∀ l : List Int, Cg f (evL l X) (evL l Y)
 | [] => Cg.refl f 0
 | _ :: l => (Cg.refl f _).add (h.mul (evL_cg h l))
theorem deL_cg {f X Y : Poly m} (h : Cg f X Y) : ∀ l : List Int, Cg f (deL l X) (deL l Y)
 | [] => Cg.refl f 0
 | _ :: l => (evL_cg h l).add (h.mul (deL_cg h l))
theorem taylor (X D : Poly m) : ∀ l : List Int, ∃ w, evL l (X + D) = evL l X + D * deL l X + D * D * w
 | [] => ⟨0, by simp only [evL, deL]; exact ring [D] (by rfl)⟩
 | c :: l => by
  obtain ⟨w, h⟩ := taylor X D l
  refine ⟨X * w + deL l X + D * w, ?_⟩
  simp only [evL, deL]
  exact comb (X + D) h (ring [X, D, w, cn m c, evL l X, deL l X, evL l (X + D)] (by rfl))
theorem root_unique {p : Int} {f y z s : Poly m} {l : List Int} {n k : Nat} (hm : m = p ^ k) (hf : Mn f n) (hy : Cg f (evL l y) 0) (hz : Cg f (evL l z) 0) (h1 : Up p f 1 (y - z)) (hs : Cg f (deL l z * s) 1) (dy : dg y ≤ n) (dz : dg z ≤ n) : y = z := by
 refine Cg.eq hf (cg_sub_zero ?_) dy dz
 obtain ⟨w, ht⟩ := taylor z (y - z) l
 rw [show z + (y - z) = y from ring [y, z] (by rfl)] at ht
 generalize y - z = D at h1 ht ⊢
 -- D (slope + D w) is 0, so D = - D D w s
 have hD : Cg f D (-(D * (D * w * s))) := by
  obtain ⟨a, hy⟩ := hy
  obtain ⟨b, hz⟩ := hz
  obtain ⟨c, hs⟩ := hs
  generalize evL l y = Y at hy ht
  generalize evL l z = Z at hz ht
  generalize deL l z = E at hs ht
  have hy' : Y = a * f := comb 1 hy (ring [Y, a, f] (by rfl))
  have hz' : Z = b * f := comb 1 hz (ring [Z, b, f] (by rfl))
  rw [hy', hz'] at ht
  exact ⟨s * (a - b) - D * c, comb (-D) hs (comb (-s) ht (ring [D, w, s, a, b, c, f, E] (by rfl)))⟩
 have hall : ∀ j, Up p f (j + 1) D := fun j => by
  induction j with
  | zero => exact h1
  | succ j ih =>
   have h2 := (ih.mul ((h1.mulr w).mulr s)).neg
   rw [show j + 1 + 1 = j + 1 + 1 from rfl] at h2
   exact h2.cg hD.symm
 exact ((hall k).le (by omega)).top hm
theorem root_step {p : Int} {f y s : Poly m} {l : List Int} {i : Nat} (h : Up p f i (evL l y)) (hs : Cg f (deL l y * s) 1) : Up p f (i + i) (evL l (y - evL l y * s)) := by
 obtain ⟨w, ht⟩ := taylor y (-(evL l y * s)) l
 rw [show y + -(evL l y * s) = y - evL l y * s from ring [y, evL l y, s] (by rfl)] at ht
 have h2 := ((h.mul h).mulr (s * s * w))
 refine h2.cg ?_
 obtain ⟨c, hs⟩ := hs
 exact ⟨evL l y * c, comb (-1) ht (comb (evL l y) hs (ring [s, w, c, f, evL l y, deL l y, evL l (y - evL l y * s)] (by rfl)))⟩
end
end Poly
namespace Poly
section
variable {p : Int} [SP p]

theorem X_mul_of (l : List Int) (c : Int) : of p (c :: l) = cn p c + X p * of p l := by
 have h : X p = mono p 1 1 := rfl
 refine ext_cf fun i => ?_
 rw [cf_of, cf_add, cf_cn, h, cf_mono_mul]
 cases i with
 | zero => rw [cf_cons_zero, if_pos rfl, if_neg (by omega)]; simp
 | succ i => rw [cf_cons_succ, if_neg (by omega), if_pos (by omega), Nat.add_sub_cancel, cf_of]; simp
theorem ev_X : ∀ l : List Int, evL l (X p) = of p l
 | [] => (ext_cf fun i => by rw [cf_of, cf_nil]; show cf (0 : Poly p).l i = _; rw [cf_zero]; rfl)
 | c :: l => by rw [evL, ev_X l, X_mul_of]
theorem ev_pow (Y : Poly p) : ∀ l : List Int, evL l (Y ^ p.toNat) = evL l Y ^ p.toNat
 | [] => by rw [evL, evL, zero_pow pos_nat]
 | c :: l => by
  rw [evL, evL, frob_add, mul_pow, ev_pow Y l]
  congr 1
  exact (frob_con c).symm
theorem de_pow (Y : Poly p) : ∀ l : List Int, deL l (Y ^ p.toNat) = deL l Y ^ p.toNat
 | [] => by rw [deL, deL, zero_pow pos_nat]
 | _ :: l => by rw [deL, deL, frob_add, mul_pow, ev_pow, de_pow Y l]
theorem der_cn (c : Int) : der (cn p c) = 0 := ext_cf fun i => by
 rw [cf_der]; unfold dv; rw [cf_cn, if_neg (by omega), cf_zero]; simp
theorem der_X : der (X p) = 1 := ext_cf fun i => by
 rw [cf_der, cf_one]; unfold dv
 have h1 := cf_Xpow (p := p) 1 (i + 1)
 rw [pow_succ', pow_zero', CR.one_mul] at h1
 rw [h1]
 cases i with
 | zero => rfl
 | succ i => rw [if_neg (by omega), cf_cons_succ, cf_nil]; simp
theorem de_X : ∀ l : List Int, deL l (X p) = der (of p l)
 | [] => by
  rw [deL, show of p [] = (0 : Poly p) from ext_cf fun i => by rw [cf_of, cf_nil, cf_zero]; rfl]
  refine ext_cf fun i => ?_
  rw [cf_der, cf_zero]; unfold dv; rw [cf_zero]; simp
 | c :: l => by rw [deL, ev_X, de_X l, X_mul_of, der_add, der_cn, der_mul, der_X]; exact ring [of p l, X p, der (of p l)] (by rfl)
theorem irr_der {f : Poly p} (hi : Irr f) : der f ≠ 0 := fun h => by
 have hp := Pr.two (p := p)
 obtain ⟨r, hr⟩ : ∃ r : Poly p, ∀ i, cf r.l i = cf f.l (i * p.toNat) := by
  refine ⟨of p (mkL (dg f) fun i => cf f.l (i * p.toNat)), fun i => ?_⟩
  rw [cf_of, cf_mkL]
  split
  ·exact mod_cf f _
  ·rw [cf_dg (Nat.le_trans (by omega) (Nat.le_mul_of_pos_right i pos_nat))]; rfl
 have h1 := der_zero h hr
 obtain ⟨k, hk⟩ : ∃ k, p.toNat = k + 1 := ⟨p.toNat - 1, by omega⟩
 have hdv : f ∣ r := hi.pow (n := p.toNat) (by rw [h1]; exact dvd_refl f)
 have hr0 : r ≠ 0 := fun e => hi.ne (by rw [← h1, e, zero_pow pos_nat])
 have h2 := dvd_dg hdv hr0
 have h3 : dg r < dg f := by
  obtain ⟨j, hj⟩ : ∃ j, p.toNat = j + 2 := ⟨p.toNat - 2, by omega⟩
  have h4 : f = r * (r * r ^ j) := by rw [← h1, hj, pow_succ', pow_succ']; exact ring [r, r ^ j] (by rfl)
  have hj0 : r ^ j ≠ 0 := fun e => hi.ne (by rw [h4, e]; exact ring [r] (by rfl))
  have h5 := dg_mul hr0 hj0
  have h6 := dg_mul hr0 (mul_ne hr0 hj0)
  rw [← h4] at h6
  have h7 : dg (r ^ j) ≠ 0 := fun e => hj0 (dg_eq_zero.1 e)
  have h8 := hi.1
  omega
 omega
end

section
variable {m p : Int} [Pos m] [SP p]
theorem im_ev (hd : p ∣ m) (Y : Poly m) : ∀ l : List Int, im p (evL l Y) = evL l (im p Y)
 | [] => (ext_cf fun i => by rw [im_cf]; show cf (0 : Poly m).l i % p = cf (0 : Poly p).l i; rw [cf_zero, cf_zero]; rfl)
 | c :: l => by rw [evL, evL, im_add hd, im_mul hd, im_cn hd, im_ev hd Y l]; rfl
theorem im_de (hd : p ∣ m) (Y : Poly m) : ∀ l : List Int, im p (deL l Y) = deL l (im p Y)
 | [] => (ext_cf fun i => by rw [im_cf]; show cf (0 : Poly m).l i % p = cf (0 : Poly p).l i; rw [cf_zero, cf_zero]; rfl)
 | _ :: l => by rw [deL, deL, im_add hd, im_mul hd, im_ev hd, im_de hd Y l]

structure RootI (p : Int) [SP p] (f : Poly m) (n i : Nat) (y : Poly m) : Prop where
 deg : dg y ≤ n
 val : Up p f i (evL f.l y)
 near : Cg (im p f) (im p y) (X p ^ p.toNat)
theorem RootI.start {f : Poly m} {n : Nat} (hd : p ∣ m) (_hpm : p ≤ m) (hi : Irr (im p f)) (hn : dg (im p f) = n + 1) : RootI p f n 1 (lft m (rem (X p ^ p.toNat) (im p f))) := by
 have h1 := rem_lt (X p ^ p.toNat) hi.ne
 have h2 := lft_dg (m := m) (rem (X p ^ p.toNat) (im p f))
 have h3 : Cg (im p f) (rem (X p ^ p.toNat) (im p f)) (X p ^ p.toNat) :=
  ⟨-quo (X p ^ p.toNat) (im p f), comb (-1) (div_eq (X p ^ p.toNat) (im p f)) (ring [X p ^ p.toNat, im p f, quo (X p ^ p.toNat) (im p f), rem (X p ^ p.toNat) (im p f)] (by rfl))⟩
 refine ⟨by omega, ?_, by rw [im_up hd]; exact h3⟩
 obtain ⟨v, h4⟩ := evL_cg h3 f.l
 rw [ev_pow, ev_X] at h4
 have h5 : of p f.l = im p f := rfl
 obtain ⟨k, hk⟩ : ∃ k, p.toNat = k + 1 := ⟨p.toNat - 1, by have := pos_nat (p := p); omega⟩
 refine im_up1 hd (q := v + im p f ^ k) ?_
 rw [im_ev hd, im_up hd]
 rw [h5] at h4
 have h6 : im p f ^ p.toNat = im p f ^ k * im p f := by rw [hk, pow_succ']
 generalize evL f.l (rem (X p ^ p.toNat) (im p f)) = E at h4 ⊢
 rw [h6] at h4
 exact comb 1 h4 (ring [E, v, im p f, im p f ^ k] (by rfl))
theorem RootI.slope {f y : Poly m} {n i : Nat} (hd : p ∣ m) (hi : Irr (im p f)) (h : RootI p f n i y) : ¬ im p f ∣ im p (deL f.l y) := fun hdv => by
 rw [im_de hd] at hdv
 obtain ⟨v, h1⟩ := deL_cg h.near f.l
 rw [de_pow, de_X, show of p f.l = im p f from rfl] at h1
 have h2 : im p f ∣ der (im p f) ^ p.toNat := by
  obtain ⟨q, hq⟩ := hdv
  refine ⟨q - v, ?_⟩
  generalize der (im p f) ^ p.toNat = E at h1 ⊢
  exact comb (-1) h1 (comb 1 hq (ring [E, q, v, im p f, deL f.l (im p y)] (by rfl)))
 have h3 := hi.pow h2
 exact small_ndvd (irr_der hi) (der_dg hi.ne) h3
theorem RootI.step {f y s : Poly m} {n i : Nat} (hd : p ∣ m) (_hf : Mn f n) (h : RootI p f n i y) (h1 : 1 ≤ i) (hs : Cg f (deL f.l y * s) 1) {y' : Poly m} (hy : Cg f y' (y - evL f.l y * s)) (hy2 : dg y' ≤ n) : RootI p f n (i + i) y' := by
 refine ⟨hy2, (root_step h.val hs).cg (evL_cg hy.symm f.l), ?_⟩
 have h2 : Up p f 1 (y' - y) := by
  have h3 := (((h.val.le h1).mulr s).neg)
  refine h3.cg ?_
  obtain ⟨v, hy⟩ := hy
  exact ⟨-v, comb (-1) hy (ring [y, y', s, v, f, evL f.l y] (by rfl))⟩
 obtain ⟨q, h3⟩ := up1_im hd h2
 rw [im_sub hd] at h3
 exact Cg.trans ⟨q, h3⟩ h.near
theorem RootI.unique {f y z : Poly m} {n k i j : Nat} (hm : m = p ^ k) (hk : 1 ≤ k) (hf : Mn f n) (hi : Irr (im p f)) (hy : RootI p f n i y) (hz : RootI p f n j z) (h1 : k ≤ i) (h2 : k ≤ j) : y = z := by
 have hd : p ∣ m := by
  obtain ⟨j, rfl⟩ : ∃ j, k = j + 1 := ⟨k - 1, by omega⟩
  exact ⟨p ^ j, by rw [hm, Int.pow_succ, Int.mul_comm]⟩
 obtain ⟨s, _, hs⟩ := exists_invM hm hk hf hi (hz.slope hd hi)
 refine root_unique hm hf ((hy.val.le h1).top hm) ((hz.val.le h2).top hm) ?_ hs hy.deg hz.deg
 obtain ⟨q, h3⟩ := hy.near.trans hz.near.symm
 rw [← im_sub hd] at h3
 exact im_up1 hd h3
end
end Poly
namespace Poly
variable {m : Int} [Pos m]

theorem cf_rng (f : Poly m) (j : Nat) : 0 ≤ cf f.l j ∧ cf f.l j < m := by
 rw [← mod_cf f j]
 exact ⟨Int.emod_nonneg _ (by have := Pos.pos (p := m); omega), Int.emod_lt_of_pos _ Pos.pos⟩

structure DivN (m : Int) [Pos m] (F G : Poly m) (nq k : Nat) (r q : List Int) : Prop where
 rl : r.length = dg F
 ql : q.length = nq
 eq : F = of m q * G + of m r
 z : ∀ j, k + dg G ≤ j + 1 → cf r j = 0
 rr : ∀ j, 0 ≤ cf r j ∧ cf r j < m
 qr : ∀ j, 0 ≤ cf q j ∧ cf q j < m
 qz : ∀ j, j < k → cf q j = 0

theorem DivN.start (F G : Poly m) {nq : Nat} (h : dg F + 1 ≤ nq + dg G) : DivN m F G nq nq F.l (List.replicate nq 0) := by
 have hp := Pos.pos (p := m)
 refine ⟨rfl, by simp, ?_, fun j hj => cf_dg (by omega), fun j => cf_rng F j, fun j => by rw [cf_replicate]; omega, fun j _ => cf_replicate _ _⟩
 have h0 : of m (List.replicate nq 0) = (0 : Poly m) := ext_cf fun i => by rw [cf_of, cf_replicate, cf_zero]; simp
 rw [h0, of_l]
 exact ring [F, G] (by rfl)

theorem DivN.step {F G : Poly m} {n nq k : Nat} {r q r' : List Int} (h : DivN m F G nq (k + 1) r q) (hG : Mn G n) (hk : k < nq) (c : Int) (hc : c = cf r (k + dg G - 1))
  (hl : r'.length = r.length) (hr : ∀ j, cf r' j = if k ≤ j ∧ j < k + dg G then (cf r j - c * cf G.l (j - k)) % m else cf r j) : DivN m F G nq k r' (q.set k c) := by
 have hp := Pos.pos (p := m)
 have hm := hG.1
 have hcr : 0 ≤ c ∧ c < m := by rw [hc]; exact h.rr _
 have hql := h.ql
 have e1 : of m (q.set k c) = of m q + mono m c k := ext_cf fun i => by
  rw [cf_of, cf_add, cf_of, cf_mono, cf_set (by omega)]
  by_cases hi : i = k
  ·subst hi; rw [if_pos rfl, if_pos rfl, h.qz i (by omega)]; simp
  ·rw [if_neg hi, if_neg hi]; simp
 have e2 : of m r' = of m r - mono m c k * G := ext_cf fun i => by
  rw [cf_of, cf_sub, cf_of, cf_mono_mul, hr]
  by_cases hi : k ≤ i
  ·rw [if_pos hi]
   by_cases hi2 : i < k + dg G
   ·rw [if_pos ⟨hi, hi2⟩]
    rw [Int.emod_emod_of_dvd _ (Int.dvd_refl m), ← Int.sub_emod]
   ·rw [if_neg (by omega), cf_dg (f := G) (by omega)]; simp
  ·rw [if_neg (by omega), if_neg hi]; simp
 refine ⟨by rw [hl, h.rl], by simpa using hql, ?_, fun j hj => ?_, fun j => ?_, fun j => ?_, fun j hj => ?_⟩
 ·rw [e1, e2]
  exact comb 1 h.eq (ring [F, G, of m q, of m r, mono m c k] (by rfl))
 ·rw [hr]
  by_cases hj2 : j < k + dg G
  ·obtain rfl : j = k + dg G - 1 := by omega
   rw [if_pos (by omega), show k + dg G - 1 - k = n by omega, hG.2, hc]
   simp
  ·rw [if_neg (by omega)]; exact h.z j (by omega)
 ·rw [hr]
  split
  ·exact ⟨Int.emod_nonneg _ (by omega), Int.emod_lt_of_pos _ (by omega)⟩
  ·exact h.rr j
 ·rw [cf_set (by omega)]
  split
  ·exact hcr
  ·exact h.qr j
 ·rw [cf_set (by omega), if_neg (by omega)]
  exact h.qz j (by omega)

theorem qtM_is {f a q r : Poly m} {n : Nat} (hf : Mn f n) (h : a = q * f + r) (hr : dg r ≤ n) : qtM a f = q := by
 have h1 := rdM_is hf h hr
 have h2 := (rdM_spec hf a).1
 rw [h1] at h2
 have h3 : (q - qtM a f) * f = 0 := comb (-1) h (comb 1 h2 (ring [q, qtM a f, f, a, r] (by rfl)))
 have h4 : q - qtM a f = 0 := Classical.byContradiction fun h0 => by
  have := mn_mul_ne hf h0
  rw [h3, dg_eq_zero.2 rfl] at this; omega
 exact (comb 1 h4 (ring [q, qtM a f] (by rfl)) : q = qtM a f).symm

theorem DivN.fin {F G : Poly m} {n nq : Nat} {r q : List Int} (h : DivN m F G nq 0 r q) (hG : Mn G n) : trimZ q = (qtM F G).l ∧ trimZ r = (rdM F G).l := by
 have hm := hG.1
 have h0 : dg (of m r) ≤ n := dg_le fun j hj => by rw [cf_of, h.z j (by omega)]; simp
 rw [qtM_is hG h.eq h0, rdM_is hG h.eq h0]
 exact ⟨(nrm_rng h.qr).symm, (nrm_rng h.rr).symm⟩

/- lists by a modulus -/
theorem subM_l (X Y : Poly m) : nrm m (trimZ (addL X.l (smulL (-1) Y.l))) = (X - Y).l := nrm_trim _ _
end Poly
namespace Poly
section
variable {m : Int} [Pos m]

noncomputable def valM (f F X : Poly m) : Nat → Poly m
 | 0 => 0
 | k + 1 => rdM (valM f F X k * X) f + cn m (cf F.l (dg F - 1 - k))
theorem valM_ev {f F X : Poly m} {n : Nat} (hf : Mn f n) : ∀ k, k ≤ dg F → Cg f (valM f F X k) (evL (F.l.drop (dg F - k)) X) := by
 have hl : F.l.length = dg F := rfl
 intro k
 induction k with
 | zero =>
  intro _
  rw [Nat.sub_zero, show F.l.drop (dg F) = [] from List.drop_of_length_le (Nat.le_refl _)]
  exact Cg.refl f 0
 | succ k ih =>
  intro hk
  have h1 := ih (by omega)
  obtain ⟨i, hi⟩ : ∃ i, dg F = i + (k + 1) := ⟨dg F - (k + 1), by omega⟩
  have e1 : dg F - (k + 1) = i := by omega
  have e2 : dg F - k = i + 1 := by omega
  have e3 : dg F - 1 - k = i := by omega
  have e : F.l.drop i = cf F.l i :: F.l.drop (i + 1) := by
   rw [List.drop_eq_getElem_cons (l := F.l) (i := i) (by omega), cf_lt (by omega)]
  rw [e2] at h1
  rw [e1, e, evL, valM, e3]
  generalize evL (F.l.drop (i + 1)) X = E at h1 ⊢
  have h2 := ((cg_rem hf (valM f F X k * X)).trans (h1.mul (Cg.refl f X))).add (Cg.refl f (cn m (cf F.l i)))
  rwa [show E * X + cn m (cf F.l i) = cn m (cf F.l i) + X * E from ring [E, X, cn m (cf F.l i)] (by rfl)] at h2
theorem val_ev {f F X : Poly m} {n : Nat} (hf : Mn f n) : Cg f (valM f F X (dg F)) (evL F.l X) := by
 have h := valM_ev (X := X) hf (dg F) (Nat.le_refl _)
 rwa [Nat.sub_self, List.drop_zero] at h

/- derivatives -/
theorem mkL_cons (n : Nat) (g : Nat → Int) : mkL (n + 1) g = g 0 :: mkL n fun i => g (i + 1) := by
 unfold mkL
 rw [List.range_succ_eq_map, List.map_cons, List.map_map]; rfl
theorem evF_add (X : Poly m) : ∀ (n : Nat) (g h : Nat → Int), evL (mkL n fun i => g i + h i) X = evL (mkL n g) X + evL (mkL n h) X
 | 0, g, h => by simp only [mkL, List.range_zero, List.map_nil, evL]; exact ring [X] (by rfl)
 | n + 1, g, h => by
  rw [mkL_cons, mkL_cons, mkL_cons, evL, evL, evL, evF_add X n (fun i => g (i + 1)) (fun i => h (i + 1)), ← cn_add]
  exact ring [X, cn m (g 0), cn m (h 0), evL (mkL n fun i => g (i + 1)) X, evL (mkL n fun i => h (i + 1)) X] (by rfl)
theorem ev_mkL (X : Poly m) {l : List Int} {n : Nat} (h : l.length ≤ n) : evL l X = evL (mkL n (cf l)) X :=
 evL_congr X fun i => by
  rw [cf_mkL]
  split
  ·rfl
  ·rw [cf_ge (by omega)]
theorem deL_mkL (X : Poly m) : ∀ (l : List Int) (n : Nat), l.length ≤ n → deL l X = evL (mkL n (dv (cf l))) X
 | [], n, _ => by
  rw [deL]
  have : evL [] X = evL (mkL n (dv (cf []))) X := evL_congr X fun i => by
   rw [cf_nil, cf_mkL]; unfold dv; rw [cf_nil]; split <;> simp
  exact this
 | c :: l, n + 1, h => by
  have h1 : l.length ≤ n := by simpa using h
  rw [deL, deL_mkL X l n h1, ev_mkL X (n := n + 1) (Nat.le_succ_of_le h1)]
  have e : mkL (n + 1) (dv (cf (c :: l))) = mkL (n + 1) fun i => cf l i + (fun i : Nat => (i : Int) * cf l i) i := by
   congr 1; funext i; unfold dv; rw [cf_cons_succ, Int.add_mul, Int.one_mul, Int.add_comm]
  rw [e, evF_add]
  congr 1
  rw [mkL_cons, evL]
  have e2 : (fun i : Nat => ((i + 1 : Nat) : Int) * cf l (i + 1)) = dv (cf l) := by funext i; unfold dv; congr 1
  rw [show ((0 : Nat) : Int) * cf l 0 = 0 by simp, cn_zero]
  have e3 : (mkL n fun i => (fun i : Nat => (i : Int) * cf l i) (i + 1)) = mkL n (dv (cf l)) := by rw [← e2]
  rw [e3]
  exact ring [X, evL (mkL n (dv (cf l))) X] (by rfl)
def derM (f : Poly m) : Poly m := of m (mkL (dg f - 1) (dv (cf f.l)))
theorem derM_ev (f Y : Poly m) : evL (derM f).l Y = deL f.l Y := by
 rw [deL_mkL Y f.l (dg f) (Nat.le_refl _)]
 refine evL_congr Y fun i => ?_
 unfold derM
 rw [cf_of, cf_mkL, cf_mkL, Int.emod_emod_of_dvd _ (Int.dvd_refl m)]
 by_cases h1 : i < dg f - 1
 ·rw [if_pos h1, if_pos (by omega)]
 ·rw [if_neg h1]
  split
  ·unfold dv; rw [cf_dg (by omega)]; simp
  ·rfl
/- powers -/
end
end Poly
namespace Poly
section
variable {m p : Int} [Pos m] [SP p]

theorem cn_two : cn m 2 = (1 : Poly m) + 1 := by
 have h := cn_add (m := m) 1 1
 rw [cn_one] at h
 exact h.symm
structure InvI (p : Int) (f X : Poly m) (n i : Nat) (y : Poly m) : Prop where
 deg : dg y ≤ n
 val : Up p f i (X * y - 1)
theorem InvI.start {f X : Poly m} {n : Nat} (hd : p ∣ m) {u : Poly p} (hu : dg u ≤ n) (h : im p f ∣ im p X * u - 1) : InvI p f X n 1 (lft m u) := by
 refine ⟨Nat.le_trans (lft_dg u) hu, ?_⟩
 obtain ⟨q, hq⟩ := h
 refine im_up1 hd (q := q) ?_
 rw [im_sub hd, im_mul hd, im_up hd, im_one hd]
 exact comb 1 hq (ring [im p X, u, q, im p f] (by rfl))
theorem InvI.step {p : Int} {f X y : Poly m} {n i : Nat} (hf : Mn f n) (h : InvI p f X n i y) : InvI p f X n (i + i) (rdM (y * (cn m 2 - rdM (X * y) f)) f) := by
 refine ⟨rdM_dg hf _, (inv_step h.val).cg ?_⟩
 have h1 : Cg f (cn m 2 - rdM (X * y) f) (1 + 1 - X * y) := by
  rw [cn_two]
  exact (Cg.refl f (1 + 1)).sub (cg_rem hf (X * y))
 have h2 := (cg_rem hf (y * (cn m 2 - rdM (X * y) f))).trans ((Cg.refl f y).mul h1)
 exact (((Cg.refl f X).mul h2).sub (Cg.refl f 1)).symm
theorem InvI.one {p : Int} {f X y : Poly m} {n i k : Nat} (hm : m = p ^ k) (h : InvI p f X n i y) (hk : k ≤ i) : Cg f (X * y) 1 :=
 cg_sub_zero ((h.val.le hk).top hm)
theorem InvI.fin {p : Int} {f X y U : Poly m} {n i k : Nat} (hm : m = p ^ k) (hf : Mn f n) (h : InvI p f X n i y) (hk : k ≤ i) (hU : dg U ≤ n) (hU2 : Cg f (X * U) 1) : y = U :=
 invM_unique hf h.deg hU (h.one hm hk) hU2
theorem InvI.is {p : Int} {f X y U : Poly m} {n i : Nat} (hf : Mn f n) (h : InvI p f X n i y) (h1 : rdM (X * y) f = 1) (hU : dg U ≤ n) (hU2 : Cg f (X * U) 1) : y = U :=
 invM_unique hf h.deg hU (by have := cg_rem hf (X * y); rw [h1] at this; exact this.symm) hU2
theorem dg_one_le : dg (1 : Poly m) ≤ 1 := dg_of_le [(1 : Int)]
theorem InvI.rem {p : Int} {f X y : Poly m} {n i k : Nat} (hm : m = p ^ k) (hf : Mn f n) (hn : 1 ≤ n) (h : InvI p f X n i y) (hk : k ≤ i) : rdM (X * y) f = 1 := by
 have h1 := rdM_congr hf (h.one hm hk)
 rwa [rdM_small hf (Nat.le_trans dg_one_le hn)] at h1

noncomputable def slp (f y : Poly m) : Poly m := valM f (derM f) y (dg (derM f))
theorem slp_cg {f y : Poly m} {n : Nat} (hf : Mn f n) : Cg f (slp f y) (deL f.l y) := by
 have h := val_ev (F := derM f) (X := y) hf
 rwa [derM_ev] at h
theorem RootI.unit {f y : Poly m} {n i : Nat} (hd : p ∣ m) (hf : Mn f n) (hi : Irr (im p f)) (h : RootI p f n i y) : ¬ im p f ∣ im p (slp f y) := fun hdv => by
 refine h.slope hd hi ?_
 obtain ⟨q, hq⟩ := cg_im hd (slp_cg (y := y) hf)
 obtain ⟨r, hr⟩ := hdv
 exact ⟨r - q, comb 1 hr (comb (-1) hq (ring [im p (slp f y), im p (deL f.l y), q, r, im p f] (by rfl)))⟩
theorem RootI.next {f y s : Poly m} {n i : Nat} (hd : p ∣ m) (hf : Mn f n) (h : RootI p f n i y) (h1 : 1 ≤ i) (hs : Cg f (slp f y * s) 1) : RootI p f n (i + i) (y - rdM (valM f f y (dg f) * s) f) := by
 have h2 : Cg f (deL f.l y * s) 1 := (((slp_cg hf).symm).mul (Cg.refl f s)).trans hs
 refine h.step hd hf h1 h2 ?_ ?_
 ·exact (Cg.refl f y).sub ((cg_rem hf _).trans ((val_ev hf).mul (Cg.refl f s)))
 ·have h3 := dg_sub y (rdM (valM f f y (dg f) * s) f)
  have h4 := rdM_dg hf (valM f f y (dg f) * s)
  have := h.deg
  omega
end
end Poly
namespace Poly
section
variable {m p : Int} [Pos m] [SP p]

def dgt (p : Int) [Pos p] (q : Int) (D : Poly m) : Poly p := of p (D.l.map (· / q))
theorem dgt_dg {m : Int} (q : Int) (D : Poly m) : dg (dgt p q D) ≤ dg D := by
 have := dg_of_le (p := p) (D.l.map (· / q))
 rwa [List.length_map] at this
theorem Mn.mul {f g : Poly m} {a b : Nat} (h1 : 1 < m) (hf : Mn f a) (hg : Mn g b) : Mn (f * g) (a + b) := by
 have h2 := hf.1
 have h3 := hg.1
 have h4 : cf (f * g).l (a + b) = 1 := by
  rw [cf_mul, cv_top (fun i hi => cf_dg (by omega)) (fun i hi => cf_dg (by omega)), hf.2, hg.2, Int.mul_one]
  exact Int.emod_eq_of_lt (by omega) h1
 have h5 := dg_mul_le f g
 have h6 := dg_lt (f := f * g) (n := a + b) (by rw [h4]; omega)
 exact ⟨by omega, h4⟩
theorem Mn.sub {f g : Poly m} {a : Nat} (hf : Mn f a) (hg : Mn g a) : dg (f - g) ≤ a := dg_le fun i hi => by
 rw [cf_sub]
 rcases Nat.eq_or_lt_of_le hi with rfl | h
 ·rw [hf.2, hg.2]; simp
 ·rw [cf_dg (f := f) (by have := hf.1; omega), cf_dg (f := g) (by have := hg.1; omega)]; simp

structure LifI (f : Poly m) (a b : Nat) (g0 h0 : Poly p) (g h : Poly m) : Prop where
 mg : Mn g a
 mh : Mn h b
 ig : im p g = g0
 ih : im p h = h0

theorem LifI.start {f : Poly m} {a b : Nat} {g0 h0 : Poly p} (hd : p ∣ m) (hpm : p ≤ m) (hg : Mn g0 a) (hh : Mn h0 b) : LifI f a b g0 h0 (lft m g0) (lft m h0) := by
 have e1 := lft_l (m := m) hpm g0
 have e2 := lft_l (m := m) hpm h0
 exact ⟨⟨by unfold dg; rw [e1]; exact hg.1, by rw [e1]; exact hg.2⟩, ⟨by unfold dg; rw [e2]; exact hh.1, by rw [e2]; exact hh.2⟩, im_up hd g0, im_up hd h0⟩

theorem mn_addq {p : Int} {g : Poly m} {a : Nat} (hg : Mn g a) (q : Int) {x : Poly p} (hx : dg x ≤ a) : Mn (g + cn m q * lft m x) a := by
 have hxl := lft_dg (m := m) x
 have h1 := hg.1
 have h2 : cf (g + cn m q * lft m x).l a = 1 := by
  rw [cf_add, cf_cn_mul, cf_dg (f := lft m x) (by omega), hg.2, ← hg.2]
  simp [mod_cf]
 have h3 := dg_lt (f := g + cn m q * lft m x) (n := a) (by rw [h2]; omega)
 have h4 := dg_add g (cn m q * lft m x)
 have h5 := dg_mul_le (cn m q) (lft m x)
 have h6 := cn_dg (m := m) q
 exact ⟨by omega, h2⟩
theorem im_addq (hd : p ∣ m) {q : Int} (hq : p ∣ q) (g : Poly m) (x : Poly p) : im p (g + cn m q * lft m x) = im p g := by
 rw [im_add hd, im_mul hd, im_cn hd, show of p [q] = 0 from ext_cf fun i => by
  rw [cf_of, cf_zero]
  cases i with
  | zero => rw [cf_cons_zero]; exact Int.emod_eq_zero_of_dvd hq
  | succ i => rw [cf_cons_succ, cf_nil]; simp]
 exact ring [im p g, im p (lft m x)] (by rfl)
theorem LifI.next {f : Poly m} {a b : Nat} {g0 h0 : Poly p} {g h : Poly m} (hd : p ∣ m) (k : LifI f a b g0 h0 g h) {q : Int} (hq : p ∣ q) {x y : Poly p} (hx : dg x ≤ a) (hy : dg y ≤ b) :
  LifI f a b g0 h0 (g + cn m q * lft m x) (h + cn m q * lft m y) :=
 ⟨mn_addq k.mg q hx, mn_addq k.mh q hy, (im_addq hd hq g x).trans k.ig, (im_addq hd hq h y).trans k.ih⟩

theorem lift_two {a b : Nat} {g0 h0 C S T : Poly p} (hg : Mn g0 a) (hh : Mn h0 b) (hS : g0 ∣ h0 * S - 1) (hT : h0 ∣ g0 * T - 1) (hC : dg C ≤ a + b) :
  quo (C - rem (C * S) g0 * h0) g0 = rem (C * T) h0 ∧ C = rem (C * S) g0 * h0 + rem (C * T) h0 * g0 := by
 have hg1 := hg.1
 have hh1 := hh.1
 have hg0 : g0 ≠ 0 := fun e => by rw [e, dg_zero] at hg1; omega
 have hh0 : h0 ≠ 0 := fun e => by rw [e, dg_zero] at hh1; omega
 have hx := rem_lt (C * S) hg0
 have hy := rem_lt (C * T) hh0
 generalize hX : rem (C * S) g0 = X at hx ⊢
 generalize hY : rem (C * T) h0 = Y at hy ⊢
 -- C - X h0 is divided by g0
 have h1 : g0 ∣ C * S - X := by
  have := sub_rem_dvd (C * S) g0
  rwa [hX] at this
 have h2 : g0 ∣ C - X * h0 := by
  obtain ⟨u, hu⟩ := h1
  obtain ⟨v, hv⟩ := hS
  exact ⟨u * h0 - C * v, comb h0 hu (comb (-C) hv (ring [C, S, X, h0, g0, u, v] (by rfl)))⟩
 obtain ⟨w, hw⟩ := h2
 have hq : quo (C - X * h0) g0 = w := (div_is (q := w) (r := 0) (by rw [hw]; exact ring [g0, w] (by rfl)) (by rw [dg_zero]; omega)).1
 have hdw : dg w ≤ b := by
  by_cases hw0 : w = 0
  ·rw [hw0, dg_zero]; omega
  have h3 := dg_mul hg0 hw0
  rw [← hw] at h3
  have h4 := dg_sub C (X * h0)
  have h5 := dg_mul_le X h0
  omega
 have h6 : h0 ∣ w - Y := by
  have h7 : h0 ∣ C * T - Y := by
   have := sub_rem_dvd (C * T) h0
   rwa [hY] at this
  obtain ⟨u, hu⟩ := h7
  obtain ⟨v, hv⟩ := hT
  exact ⟨u - X * T - w * v, comb (-T) hw (comb 1 hu (comb (-w) hv (ring [C, T, Y, h0, g0, X, w, u, v] (by rfl))))⟩
 have hwy : w = Y := eq_of_sub0 (Classical.byContradiction fun h0' => small_ndvd h0' (by have := dg_sub w Y; omega) h6)
 subst hwy
 exact ⟨hq, comb 1 hw (ring [C, X, h0, g0, w] (by rfl))⟩

end
end Poly
namespace Poly

section
variable {p : Int} [SP p]
theorem exists_inv {f h : Poly p} (hc : Cop f h) (h2 : 2 ≤ dg f) : ∃ U, dg U < dg f ∧ f ∣ h * U - 1 := by
 have hf0 : f ≠ 0 := fun e => by rw [e, dg_zero] at h2; omega
 obtain ⟨a, b, e⟩ := hc
 obtain ⟨w, hw⟩ := sub_rem_dvd b f
 exact ⟨rem b f, rem_lt b hf0, -a - h * w, comb 1 e (comb (-h) hw (ring [a, b, f, h, w, rem b f] (by rfl)))⟩
theorem CofI.fin2 {f h a b u v : Poly p} (k : CofI f h a b u v) (hb : dg b = 1) {c : Int} (hc : cf b.l 0 * c % p = 1) : f ∣ h * (v * con p c) - 1 := by
 have h2 := is_con (f := b) (by omega)
 have h4 := dvd_mul_right (con p c) k.vb
 have h5 : b * con p c = 1 := by
  rw [h2, con_mul, ← con_mod, hc]; rfl
 rwa [show (v * h - b) * con p c = h * (v * con p c) - 1 from comb (-1) h5 (ring [v, h, b, con p c] (by rfl))] at h4
theorem inv_is {f h U W : Poly p} (hc : Cop f h) (hf : f ≠ 0) (hU : dg U < dg f) (hU2 : f ∣ h * U - 1) (hW : f ∣ h * W - 1) : rem W f = U := by
 have h3 := dvd_sub hW hU2
 rw [show h * W - 1 - (h * U - 1) = h * (W - U) from ring [h, W, U] (by rfl)] at h3
 have h4 := hc.dvd h3
 have h5 := dvd_sub h4 (sub_rem_dvd W f)
 rw [show W - U - (W - rem W f) = rem W f - U from ring [W, U, rem W f] (by rfl)] at h5
 have h6 := rem_lt W hf
 exact eq_of_sub0 (Classical.byContradiction fun h0 => small_ndvd h0 (by have := dg_sub (rem W f) U; omega) h5)
theorem CofI.stay {f h a b u v : Poly p} (k : CofI f h a b u v) (h2 : 2 ≤ dg a) : b ≠ 0 := fun e => by
 have := k.cop
 rw [e] at this
 have := this.unit
 omega
theorem mon_mn {f : Poly p} (h : Mon f) : Mn f (dg f - 1) :=
  ⟨by have : dg f ≠ 0 := fun e => h.1 (dg_eq_zero.1 e)
      omega, h.2⟩
theorem mn_mon {f : Poly p} {n : Nat} (h : Mn f n) : Mon f :=
 ⟨fun e => by have := h.1; rw [e, dg_zero] at this; omega, by unfold lc; rw [h.1]; exact h.2⟩

structure Fst (f : Poly p) (F : List (Poly p × Nat)) (g h : Poly p) : Prop where
 eq : f = g * h
 mg : Mon g
 mh : Mon h
 g2 : 2 ≤ dg g
 cop : Cop g h
 fac : FacOf h F
theorem first_part {f : Poly p} {x : Poly p × Nat} {F : List (Poly p × Nat)} (hm : Mon f) (h : FacOf f (x :: F)) : ∃ u, Fst f F (x.1 ^ x.2) u := by
 obtain ⟨hx1, hx2, hx3, u, hu, hn⟩ := (h.2 x).1 (by simp)
 have hmg := mon_pow hx2 x.2
 have hmu : Mon u := Mon.right hmg (by rw [← hu]; exact hm)
 have hfx := fun (y : Poly p × Nat) (hy : y ∈ F) => (List.pairwise_cons.1 h.1).1 y hy
 have hd := dvd_dg (dvd_pow_pos (a := x.1) hx3) hmg.1
 refine ⟨u, hu, hmg, hmu, by have := hx1.1; omega, ?_, (List.pairwise_cons.1 h.1).2, fun y => ⟨fun hy => ?_, fun hy => ?_⟩⟩
 ·exact (hx1.cop hn).pow _
 ·obtain ⟨a, b, c, d⟩ := (h.2 y).1 (by simp [hy])
  have hne : ¬ y.1 ∣ x.1 := fun e => by
   have := irr_eq a hx1 b hx2 e
   have h2 := hfx y hy
   rw [this] at h2
   exact ltP_irrefl _ h2
  obtain ⟨e, he⟩ := exists_mult a.1 _ u hmu.1 (Nat.le_refl _)
  have h1 : IsMult y.1 0 (x.1 ^ x.2) := isMult_zero.2 fun e => hne (a.pow e)
  have h2 := h1.mul a he
  rw [← hu, Nat.zero_add] at h2
  have h3 := d.unique a.ne h2
  exact ⟨a, b, c, by rw [h3]; exact he⟩
 ·obtain ⟨a, b, c, d⟩ := hy
  have hyu := d.dvd c
  have hne : ¬ y.1 ∣ x.1 := fun e => by
   have := irr_eq a hx1 b hx2 e
   rw [this] at hyu
   exact hn hyu
  have h1 : IsMult y.1 0 (x.1 ^ x.2) := isMult_zero.2 fun e => hne (a.pow e)
  have h2 := h1.mul a d
  rw [← hu, Nat.zero_add] at h2
  rcases List.mem_cons.1 ((h.2 y).2 ⟨a, b, c, h2⟩) with h3 | h3
  ·subst h3; exact absurd hyu hn
  ·exact h3
theorem Fst.h2 {f g h : Poly p} {y : Poly p × Nat} {F : List (Poly p × Nat)} (k : Fst f (y :: F) g h) : 2 ≤ dg h := by
 obtain ⟨a, _, c, d⟩ := (k.fac.2 y).1 (by simp)
 have := dvd_dg (d.dvd c) k.mh.1
 have := a.1
 omega
theorem Fst.dg {f g h : Poly p} {F : List (Poly p × Nat)} (k : Fst f F g h) : dg f + 1 = dg g + dg h := by
 rw [k.eq]; exact dg_mul k.mg.1 k.mh.1
theorem Fst.quo {f g h : Poly p} {F : List (Poly p × Nat)} (k : Fst f F g h) : quo f g = h := (div_is (q := h) (r := 0) (by rw [k.eq]; exact ring [g, h] (by rfl)) (by rw [dg_zero]; have := k.g2; omega)).1
theorem pow_few {f : Poly p} {F : List (Poly p × Nat)} (hf : f ≠ 0) (h : FacOf f F) {x : Poly p × Nat} (hx : x ∈ F) {t : Nat} (ht : t ≤ x.2) : dg (x.1 ^ t) ≤ dg f := by
 obtain ⟨a, b, c, u, hu, _⟩ := (h.2 x).1 hx
 obtain ⟨r, hr⟩ : ∃ r, x.2 = t + r := ⟨x.2 - t, by omega⟩
 refine dvd_dg ⟨x.1 ^ r * u, ?_⟩ hf
 rw [hr, pow_add] at hu
 exact comb 1 hu (ring [f, x.1 ^ t, x.1 ^ r, u] (by rfl))
theorem fac_some {f : Poly p} {F : List (Poly p × Nat)} (hf : f ≠ 0) (h2 : 2 ≤ dg f) (h : FacOf f F) : F ≠ [] := fun e => by
 subst e
 obtain ⟨g, h3, h4, h5⟩ := exists_irr _ f (Nat.le_refl _) h2
 obtain ⟨e, he⟩ := exists_mult h3.1 _ f hf (Nat.le_refl _)
 have h6 : e ≠ 0 := fun e0 => by subst e0; exact isMult_zero.1 he h5
 have := (h.2 (g, e)).2 ⟨h3, h4, by show 1 ≤ e; omega, he⟩
 simp at this
end

section
variable {m p : Int} [Pos m] [SP p]
noncomputable def lstep (f : Poly m) (g0 h0 S T : Poly p) (q : Int) (x : Poly m × Poly m) : Poly m × Poly m :=
 (x.1 + cn m q * lft m (rem (dgt p q (f - x.1 * x.2) * S) g0), x.2 + cn m q * lft m (rem (dgt p q (f - x.1 * x.2) * T) h0))
noncomputable def lifts (f : Poly m) (g0 h0 S T : Poly p) : Nat → Poly m × Poly m
 | 0 => (lft m g0, lft m h0)
 | j + 1 => lstep f g0 h0 S T (p ^ (j + 1)) (lifts f g0 h0 S T j)

structure Pair (f : Poly m) (a b : Nat) (g0 h0 S T : Poly p) : Prop where
 pm : p ∣ m
 ple : p ≤ m
 mf : Mn f (a + b)
 mg : Mn g0 a
 mh : Mn h0 b
 a1 : 1 ≤ a
 b1 : 1 ≤ b
 s1 : dg S < dg g0
 s2 : g0 ∣ h0 * S - 1
 t1 : dg T < dg h0
 t2 : h0 ∣ g0 * T - 1
structure LAt (f : Poly m) (a b : Nat) (g0 h0 S T : Poly p) (j : Nat) (G H : Poly m) : Prop where
 eq : (G, H) = lifts f g0 h0 S T j
 inv : LifI f a b g0 h0 G H
theorem LAt.start {f : Poly m} {a b : Nat} {g0 h0 S T : Poly p} (k : Pair f a b g0 h0 S T) : LAt f a b g0 h0 S T 0 (lft m g0) (lft m h0) :=
 ⟨rfl, LifI.start k.pm k.ple k.mg k.mh⟩
theorem LAt.cdg {f : Poly m} {a b : Nat} {g0 h0 S T : Poly p} {j : Nat} {G H : Poly m} (k : Pair f a b g0 h0 S T) (m1 : 1 < m) (h : LAt f a b g0 h0 S T j G H) (q : Int) : dg (f - G * H) ≤ a + b ∧ dg (dgt p q (f - G * H)) ≤ a + b := by
 have h1 := Mn.sub k.mf (h.inv.mg.mul m1 h.inv.mh)
 exact ⟨h1, Nat.le_trans (dgt_dg q _) h1⟩
theorem LAt.two {f : Poly m} {a b : Nat} {g0 h0 S T : Poly p} {j : Nat} {G H : Poly m} (k : Pair f a b g0 h0 S T) (m1 : 1 < m) (h : LAt f a b g0 h0 S T j G H) (q : Int) :
  quo (dgt p q (f - G * H) - rem (dgt p q (f - G * H) * S) g0 * h0) g0 = rem (dgt p q (f - G * H) * T) h0 :=
 (lift_two k.mg k.mh k.s2 k.t2 (h.cdg k m1 q).2).1
theorem LAt.step {f : Poly m} {a b : Nat} {g0 h0 S T : Poly p} {j : Nat} {G H : Poly m} (k : Pair f a b g0 h0 S T) (h : LAt f a b g0 h0 S T j G H) {q : Int} (hq : q = p ^ (j + 1)) :
  LAt f a b g0 h0 S T (j + 1) (G + cn m q * lft m (rem (dgt p q (f - G * H) * S) g0)) (H + cn m q * lft m (rem (dgt p q (f - G * H) * T) h0)) := by
 subst hq
 have hg1 := k.mg.1
 have hh1 := k.mh.1
 have hg0 : g0 ≠ 0 := fun e => by rw [e, dg_zero] at hg1; omega
 have hh0 : h0 ≠ 0 := fun e => by rw [e, dg_zero] at hh1; omega
 have hx := rem_lt (dgt p (p ^ (j + 1)) (f - G * H) * S) hg0
 have hy := rem_lt (dgt p (p ^ (j + 1)) (f - G * H) * T) hh0
 refine ⟨?_, h.inv.next k.pm ⟨p ^ j, by rw [Int.pow_succ, Int.mul_comm]⟩ (by omega) (by omega)⟩
 show _ = lstep f g0 h0 S T (p ^ (j + 1)) (lifts f g0 h0 S T j)
 rw [← h.eq]; rfl
theorem LAt.uniq {f : Poly m} {a b a' b' : Nat} {g0 h0 S T : Poly p} {j : Nat} {G H G' H' : Poly m} (h : LAt f a b g0 h0 S T j G H) (h' : LAt f a' b' g0 h0 S T j G' H') : G = G' ∧ H = H' := by
 have := h.eq.trans h'.eq.symm
 exact ⟨congrArg Prod.fst this, congrArg Prod.snd this⟩
theorem exists_at {f : Poly m} {a b : Nat} {g0 h0 S T : Poly p} (k : Pair f a b g0 h0 S T) : ∀ j, ∃ G H, LAt f a b g0 h0 S T j G H
 | 0 => ⟨_, _, LAt.start k⟩
 | j + 1 => by
  obtain ⟨G, H, h⟩ := exists_at k j
  exact ⟨_, _, h.step k rfl⟩

/- what the program forms -/
theorem lift_add {p : Int} (q : Int) (G : Poly m) (X : Poly p) : nrm m (addL G.l (smulL q X.l)) = (G + cn m q * lft m X).l := by
 refine eq_of_cf (nrm_last _ _) (G + cn m q * lft m X).ok.2 fun i => ?_
 rw [cf_nrm, cf_addL, cf_smulL, cf_add, cf_cn_mul]
 unfold lft
 rw [cf_of, Int.add_emod_emod, Int.add_emod, Int.add_emod (cf G.l i) (q * (cf X.l i % m)), Int.mul_emod q (cf X.l i % m), Int.emod_emod, ← Int.mul_emod]
theorem cv_sc (a : Nat → Int) (q : Int) (i : Nat) : cv a (cf [q]) i = q * a i := by
 have e : cf [q] = fun j => if j = 0 then q else 0 := funext fun j => by
  cases j with
  | zero => rfl
  | succ j => rw [cf_cons_succ, cf_nil, if_neg (by omega)]
 rw [cv_comm, e, cv_mono, if_pos (Nat.zero_le _), Nat.sub_zero]
theorem cf_scaled (l : List Int) (q : Int) (i : Nat) : cf (trimZ (mulL l [q])) i = q * cf l i := by rw [cf_trimZ, cf_mulL, cv_sc]
theorem lift_add' {p : Int} (q : Int) (G : Poly m) (X : Poly p) : nrm m (trimZ (addL G.l (trimZ (mulL X.l [q])))) = (G + cn m q * lft m X).l := by
 rw [← lift_add, nrm_trim]
 refine eq_of_cf (nrm_last _ _) (nrm_last _ _) fun i => ?_
 rw [cf_nrm, cf_nrm, cf_addL, cf_addL, cf_smulL, cf_scaled]
theorem sub_mul_l (f G H : Poly m) : nrm m (trimZ (addL f.l (smulL (-1) (trimZ (mulL G.l H.l))))) = (f - G * H).l := by
 rw [nrm_trim]
 refine eq_of_cf (nrm_last _ _) (f - G * H).ok.2 fun i => ?_
 rw [cf_nrm, cf_addL, cf_smulL, cf_trimZ, cf_mulL, cf_sub, cf_mul, Int.sub_emod (cf f.l i) (cv _ _ _ % m), Int.emod_emod, ← Int.sub_emod]
 congr 1; omega
theorem dgt_l {m : Int} (q : Int) (D : Poly m) : nrm p (D.l.map (· / q)) = (dgt p q D).l := rfl
theorem dgt_l' {m : Int} (q : Int) (D : Poly m) : trimZ (D.l.map fun x => x / q % p) = (dgt p q D).l := by
 rw [← dgt_l]
 refine eq_of_cf (trimZ_last _) (nrm_last _ _) fun i => ?_
 rw [cf_nrm, cf_trimZ]
 by_cases hi : i < D.l.length
 ·rw [cf_map (fun x => x / q % p) _ hi, cf_map (· / q) _ hi]
 ·rw [cf_ge (by simpa using hi), cf_ge (by simpa using hi)]; simp
end
end Poly
end Go.Proofs.YtdebbdepmoecaaaGreat
