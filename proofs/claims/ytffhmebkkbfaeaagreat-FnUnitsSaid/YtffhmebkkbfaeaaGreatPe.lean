/- Plain mathematics of polynomials by a prime. No conditions. -/
import Derived.Test.YtffhmebkkbfaeaaGreatPd
namespace Go.Proofs.YtffhmebkkbfaeaaGreat
namespace Poly
section
variable {p : Int} [SP p]

theorem zje (l : List Int) (c : Int) : of p (c :: l) = cn p c + X p * of p l := by
 have h : X p = mono p 1 1 := rfl;refine zx λi => ?_;rw [zM, yx, zcv, h, yW];cases i with
 | zero => rw [zA, if_pos rfl, if_neg (by omega)]; simp
 | succ i => rw [zm, if_neg (by omega), if_pos (by omega), Nat.add_sub_cancel, zM]; simp
theorem zpE : ∀ l : List Int, evL l (X p) = of p l
 | [] => (zx λi => by rw [zM, zS]; show cf (0 : Poly p).l i = _; rw [zN]; rfl)
 | c :: l => by rw [evL, zpE l, zje]
theorem zhz (Y : Poly p) : ∀ l : List Int, evL l (Y ^ p.toNat) = evL l Y ^ p.toNat
 | [] => by rw [evL, evL, kK xp]
 | c :: l => by
  rw [evL, evL, zaO, zdZ, zhz Y l]
  congr 1
  exact (ziP c).symm
theorem zon (Y : Poly p) : ∀ l : List Int, deL l (Y ^ p.toNat) = deL l Y ^ p.toNat
 | [] => by rw [deL, deL, kK xp]
 | _ :: l => by rw [deL, deL, zaO, zdZ, zhz, zon Y l]
theorem zqv (c : Int) : der (cn p c) = 0 := zx λi => by
 rw [ja]; unfold dv; rw [zcv, if_neg (by omega), zN]; simp
theorem zq1 : der (X p) = 1 := zx λi => by
 rw [ja, zhe]; unfold dv;have h1 := zln (p := p) 1 (i + 1);rw [zi, zv, CR.one_mul] at h1;rw [h1];cases i with
 | zero => rfl
 | succ i => rw [if_neg (by omega), zm, zS]; simp
theorem de_X : ∀ l : List Int, deL l (X p) = der (of p l)
 | [] => by
  rw [deL, show of p [] = (0 : Poly p) from zx λi => by rw [zM, zS, zN]; rfl];refine zx λi => ?_;rw [ja, zN]; unfold dv; rw [zN]; simp
 | c :: l => by rw [deL, zpE, de_X l, zje, zpu, zqv, zd0, zq1]; exact zh [of p l, X p, der (of p l)] (by rfl)
theorem zpF {f : Poly p} (hi : Irr f) : der f ≠ 0 := λh => by
 have hp := Pr.two (p := p)
 obtain ⟨r, hr⟩ : ∃ r : Poly p, ∀ i, cf r.l i = cf f.l (i * p.toNat) := by
  refine ⟨of p (mkL (dg f) λi => cf f.l (i * p.toNat)), λi => ?_⟩;rw [zM, y0]
  split
  ·exact xz f _
  ·rw [z5 (Nat.le_trans (by omega) (Nat.le_mul_of_pos_right i xp))]; rfl
 have h1 := ziT h hr;obtain ⟨k, hk⟩ : ∃ k, p.toNat = k + 1 := ⟨p.toNat - 1, by omega⟩
 have hdv : f ∣ r := hi.pow (n := p.toNat) (by rw [h1]; exact dvd_refl f);have hr0 : r ≠ 0 := λe => hi.ne (by rw [<- h1, e, kK xp]);have h2 := zP hdv hr0
 have h3 : dg r < dg f := by
  obtain ⟨j, hj⟩ : ∃ j, p.toNat = j + 2 := ⟨p.toNat - 2, by omega⟩
  have h4 : f = r * (r * r ^ j) := by rw [<- h1, hj, zi, zi]; exact zh [r, r ^ j] (by rfl)
  have hj0 : r ^ j ≠ 0 := λe => hi.ne (by rw [h4, e]; exact zh [r] (by rfl));have h5 := yS hr0 hj0;have h6 := yS hr0 (mul_ne hr0 hj0);rw [<- h4] at h6;have h7 : dg (r ^ j) ≠ 0 := λe => hj0 (zd.1 e);have h8 := hi.1;omega
 omega
end

section
variable {m p : Int} [Pos m] [SP p]
theorem zlt (hd : p ∣ m) (Y : Poly m) : ∀ l : List Int, im p (evL l Y) = evL l (im p Y)
 | [] => (zx λi => by rw [vV]; show cf (0 : Poly m).l i % p = cf (0 : Poly p).l i; rw [zN, zN]; rfl)
 | c :: l => by rw [evL, evL, zhx hd, jQ hd, zok hd, zlt hd Y l]; rfl
theorem zp5 (hd : p ∣ m) (Y : Poly m) : ∀ l : List Int, im p (deL l Y) = deL l (im p Y)
 | [] => (zx λi => by rw [vV]; show cf (0 : Poly m).l i % p = cf (0 : Poly p).l i; rw [zN, zN]; rfl)
 | _ :: l => by rw [deL, deL, zhx hd, jQ hd, zlt hd, zp5 hd Y l]

structure RootI (p : Int) [SP p] (f : Poly m) (n i : Nat) (y : Poly m) : Prop where
 deg : dg y <= n
 val : Up p f i (evL f.l y)
 near : Cg (im p f) (im p y) (X p ^ p.toNat)
theorem RootI.start {f : Poly m} {n : Nat} (hd : p ∣ m) (_hpm : p <= m) (hi : Irr (im p f)) (hn : dg (im p f) = n + 1) : RootI p f n 1 (lft m (rem (X p ^ p.toNat) (im p f))) := by
 have h1 := zO (X p ^ p.toNat) hi.ne;have h2 := zol (m := m) (rem (X p ^ p.toNat) (im p f))
 have h3 : Cg (im p f) (rem (X p ^ p.toNat) (im p f)) (X p ^ p.toNat) :=
  ⟨-quo (X p ^ p.toNat) (im p f), comb (-1) (ve (X p ^ p.toNat) (im p f)) (zh [X p ^ p.toNat, im p f, quo (X p ^ p.toNat) (im p f), rem (X p ^ p.toNat) (im p f)] (by rfl))⟩
 refine ⟨by omega, ?_, by rw [zjc hd]; exact h3⟩;obtain ⟨v, h4⟩ := zfl h3 f.l;rw [zhz, zpE] at h4;have h5 : of p f.l = im p f := rfl;obtain ⟨k, hk⟩ : ∃ k, p.toNat = k + 1 := ⟨p.toNat - 1, by have := xp (p := p); omega⟩
 refine zhy hd (q := v + im p f ^ k) ?_;rw [zlt hd, zjc hd];rw [h5] at h4;have h6 : im p f ^ p.toNat = im p f ^ k * im p f := by rw [hk, zi]
 generalize evL f.l (rem (X p ^ p.toNat) (im p f)) = E at h4 ⊢;rw [h6] at h4;exact comb 1 h4 (zh [E, v, im p f, im p f ^ k] (by rfl))
theorem RootI.slope {f y : Poly m} {n i : Nat} (hd : p ∣ m) (hi : Irr (im p f)) (h : RootI p f n i y) : ¬ im p f ∣ im p (deL f.l y) := λhdv => by
 rw [zp5 hd] at hdv;obtain ⟨v, h1⟩ := zom h.near f.l;rw [zon, de_X, show of p f.l = im p f from rfl] at h1
 have h2 : im p f ∣ der (im p f) ^ p.toNat := by
  obtain ⟨q, hq⟩ := hdv;refine ⟨q - v, ?_⟩;generalize der (im p f) ^ p.toNat = E at h1 ⊢;exact comb (-1) h1 (comb 1 hq (zh [E, q, v, im p f, deL f.l (im p y)] (by rfl)))
 have h3 := hi.pow h2;exact xP (zpF hi) (zbS hi.ne) h3
theorem RootI.step {f y s : Poly m} {n i : Nat} (hd : p ∣ m) (_hf : Mn f n) (h : RootI p f n i y) (h1 : 1 <= i) (hs : Cg f (deL f.l y * s) 1) {y' : Poly m} (hy : Cg f y' (y - evL f.l y * s)) (hy2 : dg y' <= n) : RootI p f n (i + i) y' := by
 refine ⟨hy2, (zmw h.val hs).cg (zfl hy.symm f.l), ?_⟩
 have h2 : Up p f 1 (y' - y) := by
  have h3 := (((h.val.le h1).mulr s).neg)
  refine h3.cg ?_;obtain ⟨v, hy⟩ := hy;exact ⟨-v, comb (-1) hy (zh [y, y', s, v, f, evL f.l y] (by rfl))⟩
 obtain ⟨q, h3⟩ := zqu hd h2;rw [zc9 hd] at h3;exact Cg.trans ⟨q, h3⟩ h.near
theorem RootI.unique {f y z : Poly m} {n k i j : Nat} (hm : m = p ^ k) (hk : 1 <= k) (hf : Mn f n) (hi : Irr (im p f)) (hy : RootI p f n i y) (hz : RootI p f n j z) (h1 : k <= i) (h2 : k <= j) : y = z := by
 have hd : p ∣ m := by
  obtain ⟨j, rfl⟩ : ∃ j, k = j + 1 := ⟨k - 1, by omega⟩
  exact ⟨p ^ j, by rw [hm, Int.pow_succ, Int.mul_comm]⟩
 obtain ⟨s, _, hs⟩ := ka hm hk hf hi (hz.slope hd hi);refine zjd hm hf ((hy.val.le h1).top hm) ((hz.val.le h2).top hm) ?_ hs hy.deg hz.deg;obtain ⟨q, h3⟩ := hy.near.trans hz.near.symm;rw [<- zc9 hd] at h3;exact zhy hd h3
theorem zjf {f : Poly m} {n k : Nat} (hm : m = p ^ k) (hk : 1 <= k) (hpm : p <= m) (hf : Mn f n) (hi : Irr (im p f)) : ∃ R, RootI p f n k R := by
 have hd : p ∣ m := by
  obtain ⟨j, rfl⟩ : ∃ j, k = j + 1 := ⟨k - 1, by omega⟩
  exact ⟨p ^ j, by rw [hm, Int.pow_succ, Int.mul_comm]⟩
 have go : ∀ j : Nat, ∃ R, RootI p f n (2 ^ j) R := λj => by
  induction j with
  | zero => exact ⟨_, RootI.start hd hpm hi (zaV hd hf).1⟩
  | succ j ih =>
   obtain ⟨y, hy⟩ := ih;obtain ⟨s, _, hs⟩ := ka hm hk hf hi (hy.slope hd hi);refine ⟨rdM (y - evL f.l y * s) f, ?_⟩;rw [Nat.pow_succ, Nat.mul_two];exact hy.step hd hf (Nat.pos_of_ne_zero (by have := Nat.pow_pos (a := 2) (n := j) (by omega); omega)) hs (xk hf _) (yi hf _)
 obtain ⟨R, hR⟩ := go k;exact ⟨R, hR.deg, hR.val.le (zdv k), hR.near⟩
end
end Poly
namespace Poly
variable {m : Int} [Pos m]

theorem jb (f : Poly m) (j : Nat) : 0 <= cf f.l j ∧ cf f.l j < m := by
 rw [<- xz f j];exact ⟨Int.emod_nonneg _ (by have := Pos.pos (p := m); omega), Int.emod_lt_of_pos _ Pos.pos⟩

structure DivN (m : Int) [Pos m] (F G : Poly m) (nq k : Nat) (r q : List Int) : Prop where
 rl : r.length = dg F
 ql : q.length = nq
 eq : F = of m q * G + of m r
 z : ∀ j, k + dg G <= j + 1 -> cf r j = 0
 rr : ∀ j, 0 <= cf r j ∧ cf r j < m
 qr : ∀ j, 0 <= cf q j ∧ cf q j < m
 qz : ∀ j, j < k -> cf q j = 0

theorem DivN.start (F G : Poly m) {nq : Nat} (h : dg F + 1 <= nq + dg G) : DivN m F G nq nq F.l (List.replicate nq 0) := by
 have hp := Pos.pos (p := m);refine ⟨rfl, by simp, ?_, λj hj => z5 (by omega), λj => jb F j, λj => by rw [zD]; omega, λj _ => zD _ _⟩;have h0 : of m (List.replicate nq 0) = (0 : Poly m) := zx λi => by rw [zM, zD, zN]; simp
 rw [h0, of_l];exact zh [F, G] (by rfl)

theorem DivN.step {F G : Poly m} {n nq k : Nat} {r q r' : List Int} (h : DivN m F G nq (k + 1) r q) (hG : Mn G n) (hk : k < nq) (c : Int) (hc : c = cf r (k + dg G - 1))
  (hl : r'.length = r.length) (hr : ∀ j, cf r' j = if k <= j ∧ j < k + dg G then (cf r j - c * cf G.l (j - k)) % m else cf r j) : DivN m F G nq k r' (q.set k c) := by
 have hp := Pos.pos (p := m);have hm := hG.1;have hcr : 0 <= c ∧ c < m := by rw [hc]; exact h.rr _
 have hql := h.ql
 have e1 : of m (q.set k c) = of m q + mono m c k := zx λi => by
  rw [zM, yx, zM, j4, z6 (by omega)]
  by_cases hi : i = k
  ·subst hi; rw [if_pos rfl, if_pos rfl, h.qz i (by omega)]; simp
  ·rw [if_neg hi, if_neg hi]; simp
 have e2 : of m r' = of m r - mono m c k * G := zx λi => by
  rw [zM, v8, zM, yW, hr]
  by_cases hi : k <= i
  ·rw [if_pos hi]
   by_cases hi2 : i < k + dg G
   ·rw [if_pos ⟨hi, hi2⟩];rw [Int.emod_emod_of_dvd _ (Int.dvd_refl m), <- Int.sub_emod]
   ·rw [if_neg (by omega), z5 (f := G) (by omega)]; simp
  ·rw [if_neg (by omega), if_neg hi]; simp
 refine ⟨by rw [hl, h.rl], by simpa using hql, ?_, λj hj => ?_, λj => ?_, λj => ?_, λj hj => ?_⟩
 ·rw [e1, e2];exact comb 1 h.eq (zh [F, G, of m q, of m r, mono m c k] (by rfl))
 ·rw [hr]
  by_cases hj2 : j < k + dg G
  ·obtain rfl : j = k + dg G - 1 := by omega
   rw [if_pos (by omega), show k + dg G - 1 - k = n by omega, hG.2, hc];simp
  ·rw [if_neg (by omega)]; exact h.z j (by omega)
 ·rw [hr]
  split
  ·exact ⟨Int.emod_nonneg _ (by omega), Int.emod_lt_of_pos _ (by omega)⟩
  ·exact h.rr j
 ·rw [z6 (by omega)]
  split
  ·exact hcr
  ·exact h.qr j
 ·rw [z6 (by omega), if_neg (by omega)];exact h.qz j (by omega)

theorem zqw {f a q r : Poly m} {n : Nat} (hf : Mn f n) (h : a = q * f + r) (hr : dg r <= n) : qtM a f = q := by
 have h1 := zoi hf h hr;have h2 := (zfi hf a).1;rw [h1] at h2;have h3 : (q - qtM a f) * f = 0 := comb (-1) h (comb 1 h2 (zh [q, qtM a f, f, a, r] (by rfl)))
 have h4 : q - qtM a f = 0 := Classical.byContradiction λh0 => by
  have := zgL hf h0;rw [h3, zd.2 rfl] at this; omega
 exact (comb 1 h4 (zh [q, qtM a f] (by rfl)) : q = qtM a f).symm

theorem DivN.fin {F G : Poly m} {n nq : Nat} {r q : List Int} (h : DivN m F G nq 0 r q) (hG : Mn G n) : zu q = (qtM F G).l ∧ zu r = (rdM F G).l := by
 have hm := hG.1;have h0 : dg (of m r) <= n := j3 λj hj => by rw [zM, h.z j (by omega)]; simp
 rw [zqw hG h.eq h0, zoi hG h.eq h0];exact ⟨(zcp h.qr).symm, (zcp h.rr).symm⟩

/- lists by a modulus -/
theorem zoo (X Y : Poly m) : nrm m (zu (yr X.l Y.l)) = (X + Y).l := yE _ _
theorem zop (X Y : Poly m) : nrm m (zu (yr X.l (zU (-1) Y.l))) = (X - Y).l := yE _ _
theorem zlu (X : Poly m) (c : Int) : nrm m (zu (yr X.l [c])) = (X + cn m c).l := by
 rw [yE];refine yw (vd _ _) (X + cn m c).ok.2 λi => ?_;rw [k8, y1, yx, zcv];cases i with
 | zero => rw [zA, if_pos rfl]; simp
 | succ i => rw [zm, zS, if_neg (by omega)]
theorem zlv (X : Poly m) (c : Int) : nrm m (zu (yr [c] (zU (-1) X.l))) = (cn m c - X).l := by
 rw [yE];refine yw (vd _ _) (cn m c - X).ok.2 λi => ?_;rw [k8, y1, va, v8, zcv];cases i with
 | zero => rw [zA, if_pos rfl, Int.emod_sub_emod]; congr 1; omega
 | succ i => rw [zm, zS, if_neg (by omega)]; congr 1; omega
end Poly
namespace Poly
section
variable {m : Int} [Pos m]

noncomputable def z4 (f F X : Poly m) : Nat -> Poly m
 | 0 => 0
 | k + 1 => rdM (z4 f F X k * X) f + cn m (cf F.l (dg F - 1 - k))
theorem kb {f F X : Poly m} {n : Nat} (hf : Mn f n) (h1 : 1 <= n) : ∀ k, dg (z4 f F X k) <= n
 | 0 => by show dg (0 : Poly m) <= _; rw [zd.2 rfl]; omega
 | k + 1 => by
  have h2 := zc0 (rdM (z4 f F X k * X) f) (cn m (cf F.l (dg F - 1 - k)));have h3 := yi hf (z4 f F X k * X);have h4 := zog (m := m) (cf F.l (dg F - 1 - k));show dg (rdM (z4 f F X k * X) f + cn m (cf F.l (dg F - 1 - k))) <= _; omega
theorem zpG {f F X : Poly m} {n : Nat} (hf : Mn f n) : ∀ k, k <= dg F -> Cg f (z4 f F X k) (evL (F.l.drop (dg F - k)) X) := by
 have hl : F.l.length = dg F := rfl;intro k
 induction k with
 | zero =>
  intro _;rw [Nat.sub_zero, show F.l.drop (dg F) = [] from List.drop_of_length_le (Nat.le_refl _)];exact Cg.refl f 0
 | succ k ih =>
  intro hk;have h1 := ih (by omega);obtain ⟨i, hi⟩ : ∃ i, dg F = i + (k + 1) := ⟨dg F - (k + 1), by omega⟩
  have e1 : dg F - (k + 1) = i := by omega
  have e2 : dg F - k = i + 1 := by omega
  have e3 : dg F - 1 - k = i := by omega
  have e : F.l.drop i = cf F.l i :: F.l.drop (i + 1) := by
   rw [List.drop_eq_getElem_cons (l := F.l) (i := i) (by omega), yK (by omega)]
  rw [e2] at h1;rw [e1, e, evL, z4, e3];generalize evL (F.l.drop (i + 1)) X = E at h1 ⊢;have h2 := ((xk hf (z4 f F X k * X)).trans (h1.mul (Cg.refl f X))).add (Cg.refl f (cn m (cf F.l i)))
  rwa [show E * X + cn m (cf F.l i) = cn m (cf F.l i) + X * E from zh [E, X, cn m (cf F.l i)] (by rfl)] at h2
theorem zfm {f F X : Poly m} {n : Nat} (hf : Mn f n) : Cg f (z4 f F X (dg F)) (evL F.l X) := by
 have h := zpG (X := X) hf (dg F) (Nat.le_refl _)
 rwa [Nat.sub_self, List.drop_zero] at h

/- derivatives -/
theorem zcw (n : Nat) (g : Nat -> Int) : mkL (n + 1) g = g 0 :: mkL n λi => g (i + 1) := by
 unfold mkL;rw [List.range_succ_eq_map, List.map_cons, List.map_map]; rfl
theorem zlw (X : Poly m) : ∀ (n : Nat) (g h : Nat -> Int), evL (mkL n λi => g i + h i) X = evL (mkL n g) X + evL (mkL n h) X
 | 0, g, h => by simp only [mkL, List.range_zero, List.map_nil, evL]; exact zh [X] (by rfl)
 | n + 1, g, h => by
  rw [zcw, zcw, zcw, evL, evL, evL, zlw X n (λi => g (i + 1)) (λi => h (i + 1)), <- zof];exact zh [X, cn m (g 0), cn m (h 0), evL (mkL n λi => g (i + 1)) X, evL (mkL n λi => h (i + 1)) X] (by rfl)
theorem zqx (X : Poly m) {l : List Int} {n : Nat} (h : l.length <= n) : evL l X = evL (mkL n (cf l)) X :=
 ju X λi => by
  rw [y0]
  split
  ·rfl
  ·rw [zT (by omega)]
theorem zlx (X : Poly m) : ∀ (l : List Int) (n : Nat), l.length <= n -> deL l X = evL (mkL n (dv (cf l))) X
 | [], n, _ => by
  rw [deL]
  have : evL [] X = evL (mkL n (dv (cf []))) X := ju X λi => by
   rw [zS, y0]; unfold dv; rw [zS]; split <;> simp
  exact this
 | c :: l, n + 1, h => by
  have h1 : l.length <= n := by simpa using h
  rw [deL, zlx X l n h1, zqx X (n := n + 1) (Nat.le_succ_of_le h1)]
  have e : mkL (n + 1) (dv (cf (c :: l))) = mkL (n + 1) λi => cf l i + (λi : Nat => (i : Int) * cf l i) i := by
   congr 1; funext i; unfold dv; rw [zm, Int.add_mul, Int.one_mul, Int.add_comm]
  rw [e, zlw]
  congr 1
  rw [zcw, evL];have e2 : (λi : Nat => ((i + 1 : Nat) : Int) * cf l (i + 1)) = dv (cf l) := by funext i; unfold dv; congr 1
  rw [show ((0 : Nat) : Int) * cf l 0 = 0 by simp, zhw];have e3 : (mkL n λi => (λi : Nat => (i : Int) * cf l i) (i + 1)) = mkL n (dv (cf l)) := by rw [<- e2]
  rw [e3];exact zh [X, evL (mkL n (dv (cf l))) X] (by rfl)
def zcx (f : Poly m) : Poly m := of m (mkL (dg f - 1) (dv (cf f.l)))
theorem zpH (f Y : Poly m) : evL (zcx f).l Y = deL f.l Y := by
 rw [zlx Y f.l (dg f) (Nat.le_refl _)];refine ju Y λi => ?_;unfold zcx;rw [zM, y0, y0, Int.emod_emod_of_dvd _ (Int.dvd_refl m)]
 by_cases h1 : i < dg f - 1
 ·rw [if_pos h1, if_pos (by omega)]
 ·rw [if_neg h1]
  split
  ·unfold dv; rw [z5 (by omega)]; simp
  ·rfl
theorem zly (f : Poly m) : dg (zcx f) <= dg f - 1 := by
 have h := jJ (p := m) (mkL (dg f - 1) (dv (cf f.l)))
 rwa [zH] at h

/- powers -/
theorem zlz {f a b : Poly m} (h : Cg f a b) : ∀ k : Nat, Cg f (a ^ k) (b ^ k)
 | 0 => Cg.refl f 1
 | k + 1 => by rw [zi, zi]; exact (zlz h k).mul h
theorem zjg (a : Poly m) : ∀ k : Nat, (a * a) ^ k = a ^ (2 * k)
 | 0 => rfl
 | k + 1 => by
  rw [zi, zjg a k, show 2 * (k + 1) = 2 * k + 1 + 1 by omega, zi, zi];exact zh [a ^ (2 * k), a] (by rfl)
theorem zmx {f o b : Poly m} {n : Nat} {t : Poly m} (h : Cg f (o * b ^ n) t) : Cg f ((if n % 2 = 1 then o * b else o) * (b * b) ^ (n / 2)) t := by
 rw [zjg]
 by_cases h1 : n % 2 = 1
 ·rw [if_pos h1];have e : n = 2 * (n / 2) + 1 := by omega
  rw [e, zi] at h;have e2 : (2 * (n / 2) + 1) / 2 = n / 2 := by omega
  rwa [show o * (b ^ (2 * (n / 2)) * b) = o * b * b ^ (2 * (n / 2)) from zh [o, b, b ^ (2 * (n / 2))] (by rfl)] at h
 ·rw [if_neg h1];have e : n = 2 * (n / 2) := by omega
  rwa [<- e]
end
end Poly
namespace Poly
section
variable {m p : Int} [Pos m] [SP p]

theorem zqy : cn m 2 = (1 : Poly m) + 1 := by
 have h := zof (m := m) 1 1;rw [zqs] at h;exact h.symm
structure InvI (p : Int) (f X : Poly m) (n i : Nat) (y : Poly m) : Prop where
 deg : dg y <= n
 val : Up p f i (X * y - 1)
theorem InvI.start {f X : Poly m} {n : Nat} (hd : p ∣ m) {u : Poly p} (hu : dg u <= n) (h : im p f ∣ im p X * u - 1) : InvI p f X n 1 (lft m u) := by
 refine ⟨Nat.le_trans (zol u) hu, ?_⟩;obtain ⟨q, hq⟩ := h;refine zhy hd (q := q) ?_;rw [zc9 hd, jQ hd, zjc hd, zfj hd];exact comb 1 hq (zh [im p X, u, q, im p f] (by rfl))
theorem InvI.step {p : Int} {f X y : Poly m} {n i : Nat} (hf : Mn f n) (h : InvI p f X n i y) : InvI p f X n (i + i) (rdM (y * (cn m 2 - rdM (X * y) f)) f) := by
 refine ⟨yi hf _, (zjb h.val).cg ?_⟩
 have h1 : Cg f (cn m 2 - rdM (X * y) f) (1 + 1 - X * y) := by
  rw [zqy];exact (Cg.refl f (1 + 1)).sub (xk hf (X * y))
 have h2 := (xk hf (y * (cn m 2 - rdM (X * y) f))).trans ((Cg.refl f y).mul h1);exact (((Cg.refl f X).mul h2).sub (Cg.refl f 1)).symm
theorem InvI.one {p : Int} {f X y : Poly m} {n i k : Nat} (hm : m = p ^ k) (h : InvI p f X n i y) (hk : k <= i) : Cg f (X * y) 1 :=
 zaW ((h.val.le hk).top hm)
theorem InvI.fin {p : Int} {f X y U : Poly m} {n i k : Nat} (hm : m = p ^ k) (hf : Mn f n) (h : InvI p f X n i y) (hk : k <= i) (hU : dg U <= n) (hU2 : Cg f (X * U) 1) : y = U :=
 zdu hf h.deg hU (h.one hm hk) hU2
theorem InvI.is {p : Int} {f X y U : Poly m} {n i : Nat} (hf : Mn f n) (h : InvI p f X n i y) (h1 : rdM (X * y) f = 1) (hU : dg U <= n) (hU2 : Cg f (X * U) 1) : y = U :=
 zdu hf h.deg hU (by have := xk hf (X * y); rw [h1] at this; exact this.symm) hU2
theorem kP : dg (1 : Poly m) <= 1 := jJ [(1 : Int)]
theorem InvI.rem {p : Int} {f X y : Poly m} {n i k : Nat} (hm : m = p ^ k) (hf : Mn f n) (hn : 1 <= n) (h : InvI p f X n i y) (hk : k <= i) : rdM (X * y) f = 1 := by
 have h1 := zmu hf (h.one hm hk)
 rwa [zmv hf (Nat.le_trans kP hn)] at h1

noncomputable def slp (f y : Poly m) : Poly m := z4 f (zcx f) y (dg (zcx f))
theorem zoq {f y : Poly m} {n : Nat} (hf : Mn f n) : Cg f (slp f y) (deL f.l y) := by
 have h := zfm (F := zcx f) (X := y) hf
 rwa [zpH] at h
theorem RootI.unit {f y : Poly m} {n i : Nat} (hd : p ∣ m) (hf : Mn f n) (hi : Irr (im p f)) (h : RootI p f n i y) : ¬ im p f ∣ im p (slp f y) := λhdv => by
 refine h.slope hd hi ?_;obtain ⟨q, hq⟩ := zls hd (zoq (y := y) hf);obtain ⟨r, hr⟩ := hdv;exact ⟨r - q, comb 1 hr (comb (-1) hq (zh [im p (slp f y), im p (deL f.l y), q, r, im p f] (by rfl)))⟩
theorem RootI.next {f y s : Poly m} {n i : Nat} (hd : p ∣ m) (hf : Mn f n) (h : RootI p f n i y) (h1 : 1 <= i) (hs : Cg f (slp f y * s) 1) : RootI p f n (i + i) (y - rdM (z4 f f y (dg f) * s) f) := by
 have h2 : Cg f (deL f.l y * s) 1 := (((zoq hf).symm).mul (Cg.refl f s)).trans hs;refine h.step hd hf h1 h2 ?_ ?_
 ·exact (Cg.refl f y).sub ((xk hf _).trans ((zfm hf).mul (Cg.refl f s)))
 ·have h3 := vG y (rdM (z4 f f y (dg f) * s) f);have h4 := yi hf (z4 f f y (dg f) * s);have := h.deg;omega
theorem zhA : dg (0 : Poly m) = 0 := zd.2 rfl
theorem RootI.zero_of {f y : Poly m} {n i k : Nat} (hm : m = p ^ k) (hf : Mn f n) (hn : 1 <= n) (h : RootI p f n i y) (hk : k <= i) : z4 f f y (dg f) = 0 :=
 Cg.eq hf ((zfm hf).trans ((h.val.le hk).top hm)) (kb hf hn _) (by rw [zhA]; omega)
theorem RootI.of_zero {f y : Poly m} {n i : Nat} (hf : Mn f n) (h : RootI p f n i y) (h0 : z4 f f y (dg f) = 0) (k : Nat) : RootI p f n k y := by
 refine ⟨h.deg, ?_, h.near⟩;have h1 : Up p f k (0 : Poly m) := ⟨0, 0, zh [f, cn m (p ^ k)] (by rfl)⟩
 have h2 := zfm (F := f) (X := y) hf;rw [h0] at h2;exact h1.cg h2

noncomputable def frM (f R X : Poly m) : Nat -> Poly m
 | 0 => X
 | k + 1 => z4 f (frM f R X k) R (dg (frM f R X k))
theorem zhB {f R X : Poly m} {n : Nat} (hf : Mn f n) (hn : 1 <= n) (hX : dg X <= n) : ∀ k, dg (frM f R X k) <= n
 | 0 => hX
 | _ + 1 => kb hf hn _
noncomputable def trM (f R X : Poly m) : Nat -> Poly m
 | 0 => 0
 | k + 1 => trM f R X k + frM f R X k
theorem zor {f R X : Poly m} {n : Nat} (hf : Mn f n) (hn : 1 <= n) (hX : dg X <= n) : ∀ k, dg (trM f R X k) <= n
 | 0 => by show dg (0 : Poly m) <= _; rw [zhA]; omega
 | k + 1 => by
  have h1 := zor (R := R) hf hn hX k;have h2 := zhB (R := R) hf hn hX k;have h3 := zc0 (trM f R X k) (frM f R X k);show dg (trM f R X k + frM f R X k) <= _; omega
noncomputable def nrM (f R X : Poly m) : Nat -> Poly m
 | 0 => 1
 | k + 1 => rdM (nrM f R X k * frM f R X k) f
theorem zqz {f R X : Poly m} {n : Nat} (hf : Mn f n) (hn : 1 <= n) : ∀ k, dg (nrM f R X k) <= n
 | 0 => Nat.le_trans kP hn
 | _ + 1 => yi hf _
end
end Poly
namespace Poly
section
variable {m p : Int} [Pos m] [SP p]

def dgt (p : Int) [Pos p] (q : Int) (D : Poly m) : Poly p := of p (D.l.map (· / q))
structure LifI (f : Poly m) (a b : Nat) (g0 h0 : Poly p) (g h : Poly m) : Prop where
 mg : Mn g a
 mh : Mn h b
 ig : im p g = g0
 ih : im p h = h0

end
end Poly
namespace Poly

section
variable {p : Int} [SP p]
structure Fst (f : Poly p) (F : List (Poly p × Nat)) (g h : Poly p) : Prop where
 eq : f = g * h
 mg : Mon g
 mh : Mon h
 g2 : 2 <= dg g
 cop : Cop g h
 fac : jO h F
end

section
variable {m p : Int} [Pos m] [SP p]
noncomputable def zq3 (f : Poly m) (g0 h0 S T : Poly p) (q : Int) (x : Poly m × Poly m) : Poly m × Poly m :=
 (x.1 + cn m q * lft m (rem (dgt p q (f - x.1 * x.2) * S) g0), x.2 + cn m q * lft m (rem (dgt p q (f - x.1 * x.2) * T) h0))
noncomputable def zp6 (f : Poly m) (g0 h0 S T : Poly p) : Nat -> Poly m × Poly m
 | 0 => (lft m g0, lft m h0)
 | j + 1 => zq3 f g0 h0 S T (p ^ (j + 1)) (zp6 f g0 h0 S T j)

structure Pair (f : Poly m) (a b : Nat) (g0 h0 S T : Poly p) : Prop where
 pm : p ∣ m
 ple : p <= m
 mf : Mn f (a + b)
 mg : Mn g0 a
 mh : Mn h0 b
 a1 : 1 <= a
 b1 : 1 <= b
 s1 : dg S < dg g0
 s2 : g0 ∣ h0 * S - 1
 t1 : dg T < dg h0
 t2 : h0 ∣ g0 * T - 1
structure LAt (f : Poly m) (a b : Nat) (g0 h0 S T : Poly p) (j : Nat) (G H : Poly m) : Prop where
 eq : (G, H) = zp6 f g0 h0 S T j
 inv : LifI f a b g0 h0 G H
/- what the program forms -/
end
end Poly
namespace Poly
variable {p : Int} [SP p]

end Poly
namespace Poly
section
variable {m p : Int} [Pos m] [SP p]

end
end Poly
namespace Poly
section
variable {m : Int} [Pos m]

noncomputable def phi (f R X : Poly m) : Poly m := z4 f X R (dg X)
end

section
variable {m p : Int} [Pos m] [SP p]
theorem zqA {f R : Poly m} {n k : Nat} (hd : p ∣ m) (hf : Mn f n) (h1 : 1 <= n) (hR : RootI p f n k R) (X : Poly m) : im p (phi f R X) = rem (im p X ^ p.toNat) (im p f) := by
 have h2 : Cg (im p f) (im p (phi f R X)) (im p X ^ p.toNat) := by
  refine Cg.trans (b := im p (evL X.l R)) (zls hd (zfm hf)) ?_;rw [zlt hd];have h3 := zfl hR.near X.l;rw [zhz, zpE] at h3;exact h3
 have h3 := zaV hd hf;have h4 : im p f ≠ 0 := λe => by have := h3.1; rw [e, zy] at this; omega
 refine Cg.eq (n := n) h3 (h2.trans ?_) ?_ ?_
 ·obtain ⟨u, hu⟩ := xi (im p X ^ p.toNat) (im p f);exact ⟨u, comb 1 hu (zh [im p X ^ p.toNat, rem (im p X ^ p.toNat) (im p f), im p f, u] (by rfl))⟩
 ·have := zbw (p := p) (phi f R X);have := kb (F := X) (X := R) hf h1 (dg X);unfold phi at *; omega
 ·have := zO (im p X ^ p.toNat) h4;have := h3.1;omega
end
end Poly
end Go.Proofs.YtffhmebkkbfaeaaGreat
