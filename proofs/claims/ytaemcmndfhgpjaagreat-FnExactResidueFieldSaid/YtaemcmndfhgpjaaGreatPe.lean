/- Plain mathematics of polynomials by a prime. No conditions. -/
import Derived.Test.YtaemcmndfhgpjaaGreatPd
namespace Go.Proofs.YtaemcmndfhgpjaaGreat
namespace Poly
section
variable {p : Int} [SP p]

theorem X_mul_of (l : List Int) (c : Int) : of p (c :: l) = cn p c + X p * of p l := by
 have h : X p = mono p 1 1 := rfl
 refine ext_cf fun i => ?_
 rw [cf_of, cf_add, cf_cn, h, cf_mono_mul]
 cases i with
 | zero => rw [cf_cons_zero, if_pos rfl, if_neg (by omega)]; simp
 | succ i => rw [cf_cons_succ, if_neg (by omega), if_pos (by omega), Nat.add_sub_cancel, cf_of]; simp
theorem ev_X : ∀ l : List Int, evL l (X p) = of p l
 | [] => (ext_cf fun i => by rw [cf_of, cf_nil]; show cf (0 : Poly p).l i = _; rw [cf_zero]; rfl)
 | c :: l => by rw [evL, ev_X l, X_mul_of]
theorem ev_pow (Y : Poly p) : ∀ l : List Int, evL l (Y ^ p.toNat) = evL l Y ^ p.toNat
 | [] => by rw [evL, evL, zero_pow pos_nat]
 | c :: l => by
  rw [evL, evL, frob_add, mul_pow, ev_pow Y l]
  congr 1
  exact (frob_con c).symm
theorem de_pow (Y : Poly p) : ∀ l : List Int, deL l (Y ^ p.toNat) = deL l Y ^ p.toNat
 | [] => by rw [deL, deL, zero_pow pos_nat]
 | _ :: l => by rw [deL, deL, frob_add, mul_pow, ev_pow, de_pow Y l]
theorem der_cn (c : Int) : der (cn p c) = 0 := ext_cf fun i => by
 rw [cf_der]; unfold dv; rw [cf_cn, if_neg (by omega), cf_zero]; simp
theorem der_X : der (X p) = 1 := ext_cf fun i => by
 rw [cf_der, cf_one]; unfold dv
 have h1 := cf_Xpow (p := p) 1 (i + 1)
 rw [pow_succ', pow_zero', CR.one_mul] at h1
 rw [h1]
 cases i with
 | zero => rfl
 | succ i => rw [if_neg (by omega), cf_cons_succ, cf_nil]; simp
theorem de_X : ∀ l : List Int, deL l (X p) = der (of p l)
 | [] => by
  rw [deL, show of p [] = (0 : Poly p) from ext_cf fun i => by rw [cf_of, cf_nil, cf_zero]; rfl]
  refine ext_cf fun i => ?_
  rw [cf_der, cf_zero]; unfold dv; rw [cf_zero]; simp
 | c :: l => by rw [deL, ev_X, de_X l, X_mul_of, der_add, der_cn, der_mul, der_X]; exact ring [of p l, X p, der (of p l)] (by rfl)
theorem irr_der {f : Poly p} (hi : Irr f) : der f ≠ 0 := fun h => by
 have hp := Pr.two (p := p)
 obtain ⟨r, hr⟩ : ∃ r : Poly p, ∀ i, cf r.l i = cf f.l (i * p.toNat) := by
  refine ⟨of p (mkL (dg f) fun i => cf f.l (i * p.toNat)), fun i => ?_⟩
  rw [cf_of, cf_mkL]
  split
  ·exact mod_cf f _
  ·rw [cf_dg (Nat.le_trans (by omega) (Nat.le_mul_of_pos_right i pos_nat))]; rfl
 have h1 := der_zero h hr
 obtain ⟨k, hk⟩ : ∃ k, p.toNat = k + 1 := ⟨p.toNat - 1, by omega⟩
 have hdv : f ∣ r := hi.pow (n := p.toNat) (by rw [h1]; exact dvd_refl f)
 have hr0 : r ≠ 0 := fun e => hi.ne (by rw [← h1, e, zero_pow pos_nat])
 have h2 := dvd_dg hdv hr0
 have h3 : dg r < dg f := by
  obtain ⟨j, hj⟩ : ∃ j, p.toNat = j + 2 := ⟨p.toNat - 2, by omega⟩
  have h4 : f = r * (r * r ^ j) := by rw [← h1, hj, pow_succ', pow_succ']; exact ring [r, r ^ j] (by rfl)
  have hj0 : r ^ j ≠ 0 := fun e => hi.ne (by rw [h4, e]; exact ring [r] (by rfl))
  have h5 := dg_mul hr0 hj0
  have h6 := dg_mul hr0 (mul_ne hr0 hj0)
  rw [← h4] at h6
  have h7 : dg (r ^ j) ≠ 0 := fun e => hj0 (dg_eq_zero.1 e)
  have h8 := hi.1
  omega
 omega
end

section
variable {m p : Int} [Pos m] [SP p]
theorem im_ev (hd : p ∣ m) (Y : Poly m) : ∀ l : List Int, im p (evL l Y) = evL l (im p Y)
 | [] => (ext_cf fun i => by rw [im_cf]; show cf (0 : Poly m).l i % p = cf (0 : Poly p).l i; rw [cf_zero, cf_zero]; rfl)
 | c :: l => by rw [evL, evL, im_add hd, im_mul hd, im_cn hd, im_ev hd Y l]; rfl
theorem im_de (hd : p ∣ m) (Y : Poly m) : ∀ l : List Int, im p (deL l Y) = deL l (im p Y)
 | [] => (ext_cf fun i => by rw [im_cf]; show cf (0 : Poly m).l i % p = cf (0 : Poly p).l i; rw [cf_zero, cf_zero]; rfl)
 | _ :: l => by rw [deL, deL, im_add hd, im_mul hd, im_ev hd, im_de hd Y l]

structure RootI (p : Int) [SP p] (f : Poly m) (n i : Nat) (y : Poly m) : Prop where
 deg : dg y ≤ n
 val : Up p f i (evL f.l y)
 near : Cg (im p f) (im p y) (X p ^ p.toNat)
theorem RootI.start {f : Poly m} {n : Nat} (hd : p ∣ m) (_hpm : p ≤ m) (hi : Irr (im p f)) (hn : dg (im p f) = n + 1) : RootI p f n 1 (lft m (rem (X p ^ p.toNat) (im p f))) := by
 have h1 := rem_lt (X p ^ p.toNat) hi.ne
 have h2 := lft_dg (m := m) (rem (X p ^ p.toNat) (im p f))
 have h3 : Cg (im p f) (rem (X p ^ p.toNat) (im p f)) (X p ^ p.toNat) :=
  ⟨-quo (X p ^ p.toNat) (im p f), comb (-1) (div_eq (X p ^ p.toNat) (im p f)) (ring [X p ^ p.toNat, im p f, quo (X p ^ p.toNat) (im p f), rem (X p ^ p.toNat) (im p f)] (by rfl))⟩
 refine ⟨by omega, ?_, by rw [im_up hd]; exact h3⟩
 obtain ⟨v, h4⟩ := evL_cg h3 f.l
 rw [ev_pow, ev_X] at h4
 have h5 : of p f.l = im p f := rfl
 obtain ⟨k, hk⟩ : ∃ k, p.toNat = k + 1 := ⟨p.toNat - 1, by have := pos_nat (p := p); omega⟩
 refine im_up1 hd (q := v + im p f ^ k) ?_
 rw [im_ev hd, im_up hd]
 rw [h5] at h4
 have h6 : im p f ^ p.toNat = im p f ^ k * im p f := by rw [hk, pow_succ']
 generalize evL f.l (rem (X p ^ p.toNat) (im p f)) = E at h4 ⊢
 rw [h6] at h4
 exact comb 1 h4 (ring [E, v, im p f, im p f ^ k] (by rfl))
theorem RootI.slope {f y : Poly m} {n i : Nat} (hd : p ∣ m) (hi : Irr (im p f)) (h : RootI p f n i y) : ¬ im p f ∣ im p (deL f.l y) := fun hdv => by
 rw [im_de hd] at hdv
 obtain ⟨v, h1⟩ := deL_cg h.near f.l
 rw [de_pow, de_X, show of p f.l = im p f from rfl] at h1
 have h2 : im p f ∣ der (im p f) ^ p.toNat := by
  obtain ⟨q, hq⟩ := hdv
  refine ⟨q - v, ?_⟩
  generalize der (im p f) ^ p.toNat = E at h1 ⊢
  exact comb (-1) h1 (comb 1 hq (ring [E, q, v, im p f, deL f.l (im p y)] (by rfl)))
 have h3 := hi.pow h2
 exact small_ndvd (irr_der hi) (der_dg hi.ne) h3
theorem RootI.step {f y s : Poly m} {n i : Nat} (hd : p ∣ m) (_hf : Mn f n) (h : RootI p f n i y) (h1 : 1 ≤ i) (hs : Cg f (deL f.l y * s) 1) {y' : Poly m} (hy : Cg f y' (y - evL f.l y * s)) (hy2 : dg y' ≤ n) : RootI p f n (i + i) y' := by
 refine ⟨hy2, (root_step h.val hs).cg (evL_cg hy.symm f.l), ?_⟩
 have h2 : Up p f 1 (y' - y) := by
  have h3 := (((h.val.le h1).mulr s).neg)
  refine h3.cg ?_
  obtain ⟨v, hy⟩ := hy
  exact ⟨-v, comb (-1) hy (ring [y, y', s, v, f, evL f.l y] (by rfl))⟩
 obtain ⟨q, h3⟩ := up1_im hd h2
 rw [im_sub hd] at h3
 exact Cg.trans ⟨q, h3⟩ h.near
theorem RootI.unique {f y z : Poly m} {n k i j : Nat} (hm : m = p ^ k) (hk : 1 ≤ k) (hf : Mn f n) (hi : Irr (im p f)) (hy : RootI p f n i y) (hz : RootI p f n j z) (h1 : k ≤ i) (h2 : k ≤ j) : y = z := by
 have hd : p ∣ m := by
  obtain ⟨j, rfl⟩ : ∃ j, k = j + 1 := ⟨k - 1, by omega⟩
  exact ⟨p ^ j, by rw [hm, Int.pow_succ, Int.mul_comm]⟩
 obtain ⟨s, _, hs⟩ := exists_invM hm hk hf hi (hz.slope hd hi)
 refine root_unique hm hf ((hy.val.le h1).top hm) ((hz.val.le h2).top hm) ?_ hs hy.deg hz.deg
 obtain ⟨q, h3⟩ := hy.near.trans hz.near.symm
 rw [← im_sub hd] at h3
 exact im_up1 hd h3
end
end Poly
namespace Poly
variable {m : Int} [Pos m]

theorem cf_rng (f : Poly m) (j : Nat) : 0 ≤ cf f.l j ∧ cf f.l j < m := by
 rw [← mod_cf f j]
 exact ⟨Int.emod_nonneg _ (by have := Pos.pos (p := m); omega), Int.emod_lt_of_pos _ Pos.pos⟩

structure DivN (m : Int) [Pos m] (F G : Poly m) (nq k : Nat) (r q : List Int) : Prop where
 rl : r.length = dg F
 ql : q.length = nq
 eq : F = of m q * G + of m r
 z : ∀ j, k + dg G ≤ j + 1 → cf r j = 0
 rr : ∀ j, 0 ≤ cf r j ∧ cf r j < m
 qr : ∀ j, 0 ≤ cf q j ∧ cf q j < m
 qz : ∀ j, j < k → cf q j = 0

theorem DivN.start (F G : Poly m) {nq : Nat} (h : dg F + 1 ≤ nq + dg G) : DivN m F G nq nq F.l (List.replicate nq 0) := by
 have hp := Pos.pos (p := m)
 refine ⟨rfl, by simp, ?_, fun j hj => cf_dg (by omega), fun j => cf_rng F j, fun j => by rw [cf_replicate]; omega, fun j _ => cf_replicate _ _⟩
 have h0 : of m (List.replicate nq 0) = (0 : Poly m) := ext_cf fun i => by rw [cf_of, cf_replicate, cf_zero]; simp
 rw [h0, of_l]
 exact ring [F, G] (by rfl)

theorem DivN.step {F G : Poly m} {n nq k : Nat} {r q r' : List Int} (h : DivN m F G nq (k + 1) r q) (hG : Mn G n) (hk : k < nq) (c : Int) (hc : c = cf r (k + dg G - 1))
  (hl : r'.length = r.length) (hr : ∀ j, cf r' j = if k ≤ j ∧ j < k + dg G then (cf r j - c * cf G.l (j - k)) % m else cf r j) : DivN m F G nq k r' (q.set k c) := by
 have hp := Pos.pos (p := m)
 have hm := hG.1
 have hcr : 0 ≤ c ∧ c < m := by rw [hc]; exact h.rr _
 have hql := h.ql
 have e1 : of m (q.set k c) = of m q + mono m c k := ext_cf fun i => by
  rw [cf_of, cf_add, cf_of, cf_mono, cf_set (by omega)]
  by_cases hi : i = k
  ·subst hi; rw [if_pos rfl, if_pos rfl, h.qz i (by omega)]; simp
  ·rw [if_neg hi, if_neg hi]; simp
 have e2 : of m r' = of m r - mono m c k * G := ext_cf fun i => by
  rw [cf_of, cf_sub, cf_of, cf_mono_mul, hr]
  by_cases hi : k ≤ i
  ·rw [if_pos hi]
   by_cases hi2 : i < k + dg G
   ·rw [if_pos ⟨hi, hi2⟩]
    rw [Int.emod_emod_of_dvd _ (Int.dvd_refl m), ← Int.sub_emod]
   ·rw [if_neg (by omega), cf_dg (f := G) (by omega)]; simp
  ·rw [if_neg (by omega), if_neg hi]; simp
 refine ⟨by rw [hl, h.rl], by simpa using hql, ?_, fun j hj => ?_, fun j => ?_, fun j => ?_, fun j hj => ?_⟩
 ·rw [e1, e2]
  exact comb 1 h.eq (ring [F, G, of m q, of m r, mono m c k] (by rfl))
 ·rw [hr]
  by_cases hj2 : j < k + dg G
  ·obtain rfl : j = k + dg G - 1 := by omega
   rw [if_pos (by omega), show k + dg G - 1 - k = n by omega, hG.2, hc]
   simp
  ·rw [if_neg (by omega)]; exact h.z j (by omega)
 ·rw [hr]
  split
  ·exact ⟨Int.emod_nonneg _ (by omega), Int.emod_lt_of_pos _ (by omega)⟩
  ·exact h.rr j
 ·rw [cf_set (by omega)]
  split
  ·exact hcr
  ·exact h.qr j
 ·rw [cf_set (by omega), if_neg (by omega)]
  exact h.qz j (by omega)

theorem qtM_is {f a q r : Poly m} {n : Nat} (hf : Mn f n) (h : a = q * f + r) (hr : dg r ≤ n) : qtM a f = q := by
 have h1 := rdM_is hf h hr
 have h2 := (rdM_spec hf a).1
 rw [h1] at h2
 have h3 : (q - qtM a f) * f = 0 := comb (-1) h (comb 1 h2 (ring [q, qtM a f, f, a, r] (by rfl)))
 have h4 : q - qtM a f = 0 := Classical.byContradiction fun h0 => by
  have := mn_mul_ne hf h0
  rw [h3, dg_eq_zero.2 rfl] at this; omega
 exact (comb 1 h4 (ring [q, qtM a f] (by rfl)) : q = qtM a f).symm

theorem DivN.fin {F G : Poly m} {n nq : Nat} {r q : List Int} (h : DivN m F G nq 0 r q) (hG : Mn G n) : trimZ q = (qtM F G).l ∧ trimZ r = (rdM F G).l := by
 have hm := hG.1
 have h0 : dg (of m r) ≤ n := dg_le fun j hj => by rw [cf_of, h.z j (by omega)]; simp
 rw [qtM_is hG h.eq h0, rdM_is hG h.eq h0]
 exact ⟨(nrm_rng h.qr).symm, (nrm_rng h.rr).symm⟩

/- lists by a modulus -/
end Poly
namespace Poly
section
variable {m : Int} [Pos m]

/- derivatives -/
/- powers -/
end
end Poly
end Go.Proofs.YtaemcmndfhgpjaaGreat
