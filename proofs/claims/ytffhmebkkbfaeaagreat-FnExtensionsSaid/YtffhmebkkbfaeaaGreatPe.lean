/- Plain mathematics of polynomials by a prime. No conditions. -/
import Derived.Test.YtffhmebkkbfaeaaGreatPd
namespace Go.Proofs.YtffhmebkkbfaeaaGreat
namespace Poly
section
variable {p : Int} [SP p]

theorem ziZ (l : List Int) (c : Int) : of p (c :: l) = cn p c + X p * of p l := by
 have h : X p = mono p 1 1 := rfl;refine zw λi => ?_;rw [zG, yl, zbo, h, yq];cases i with
 | zero => rw [zx, if_pos rfl, if_neg (by omega)]; simp
 | succ i => rw [zk, if_neg (by omega), if_pos (by omega), Nat.add_sub_cancel, zG]; simp
theorem zpg : ∀ l : List Int, evL l (X p) = of p l
 | [] => (zw λi => by rw [zG, zO]; show cf (0 : Poly p).l i = _; rw [zR]; rfl)
 | c :: l => by rw [evL, zpg l, ziZ]
theorem zhn (Y : Poly p) : ∀ l : List Int, evL l (Y ^ p.toNat) = evL l Y ^ p.toNat
 | [] => by rw [evL, evL, zaJ vg]
 | c :: l => by
  rw [evL, evL, zaI, zdN, zhn Y l]
  congr 1
  exact (ziB c).symm
theorem zn4 (Y : Poly p) : ∀ l : List Int, deL l (Y ^ p.toNat) = deL l Y ^ p.toNat
 | [] => by rw [deL, deL, zaJ vg]
 | _ :: l => by rw [deL, deL, zaI, zdN, zhn, zn4 Y l]
theorem zp6 (c : Int) : der (cn p c) = 0 := zw λi => by
 rw [jc]; unfold dv; rw [zbo, if_neg (by omega), zR]; simp
theorem zqB : der (X p) = 1 := zw λi => by
 rw [jc, zg6]; unfold dv;have h1 := zk7 (p := p) 1 (i + 1);rw [zj, zv, CR.one_mul] at h1;rw [h1];cases i with
 | zero => rfl
 | succ i => rw [if_neg (by omega), zk, zO]; simp
theorem de_X : ∀ l : List Int, deL l (X p) = der (of p l)
 | [] => by
  rw [deL, show of p [] = (0 : Poly p) from zw λi => by rw [zG, zO, zR]; rfl];refine zw λi => ?_;rw [jc, zR]; unfold dv; rw [zR]; simp
 | c :: l => by rw [deL, zpg, de_X l, ziZ, zo7, zp6, zdO, zqB]; exact zf [of p l, X p, der (of p l)] (by rfl)
theorem zph {f : Poly p} (hi : Irr f) : der f ≠ 0 := λh => by
 have hp := Pr.two (p := p)
 obtain ⟨r, hr⟩ : ∃ r : Poly p, ∀ i, cf r.l i = cf f.l (i * p.toNat) := by
  refine ⟨of p (mkL (dg f) λi => cf f.l (i * p.toNat)), λi => ?_⟩;rw [zG, yC]
  split
  ·exact xd f _
  ·rw [z3 (Nat.le_trans (by omega) (Nat.le_mul_of_pos_right i vg))]; rfl
 have h1 := ziF h hr;obtain ⟨k, hk⟩ : ∃ k, p.toNat = k + 1 := ⟨p.toNat - 1, by omega⟩
 have hdv : f ∣ r := hi.pow (n := p.toNat) (by rw [h1]; exact dvd_refl f);have hr0 : r ≠ 0 := λe => hi.ne (by rw [<- h1, e, zaJ vg]);have h2 := zP hdv hr0
 have h3 : dg r < dg f := by
  obtain ⟨j, hj⟩ : ∃ j, p.toNat = j + 2 := ⟨p.toNat - 2, by omega⟩
  have h4 : f = r * (r * r ^ j) := by rw [<- h1, hj, zj, zj]; exact zf [r, r ^ j] (by rfl)
  have hj0 : r ^ j ≠ 0 := λe => hi.ne (by rw [h4, e]; exact zf [r] (by rfl));have h5 := yM hr0 hj0;have h6 := yM hr0 (mul_ne hr0 hj0);rw [<- h4] at h6;have h7 : dg (r ^ j) ≠ 0 := λe => hj0 (zd.1 e);have h8 := hi.1;omega
 omega
end

section
variable {m p : Int} [Pos m] [SP p]
theorem zlc (hd : p ∣ m) (Y : Poly m) : ∀ l : List Int, im p (evL l Y) = evL l (im p Y)
 | [] => (zw λi => by rw [jJ]; show cf (0 : Poly m).l i % p = cf (0 : Poly p).l i; rw [zR, zR]; rfl)
 | c :: l => by rw [evL, evL, zkb hd, k6 hd, zn0 hd, zlc hd Y l]; rfl
theorem zpK (hd : p ∣ m) (Y : Poly m) : ∀ l : List Int, im p (deL l Y) = deL l (im p Y)
 | [] => (zw λi => by rw [jJ]; show cf (0 : Poly m).l i % p = cf (0 : Poly p).l i; rw [zR, zR]; rfl)
 | _ :: l => by rw [deL, deL, zkb hd, k6 hd, zlc hd, zpK hd Y l]

structure RootI (p : Int) [SP p] (f : Poly m) (n i : Nat) (y : Poly m) : Prop where
 deg : dg y <= n
 val : Up p f i (evL f.l y)
 near : Cg (im p f) (im p y) (X p ^ p.toNat)
theorem RootI.start {f : Poly m} {n : Nat} (hd : p ∣ m) (_hpm : p <= m) (hi : Irr (im p f)) (hn : dg (im p f) = n + 1) : RootI p f n 1 (lft m (rem (X p ^ p.toNat) (im p f))) := by
 have h1 := zX (X p ^ p.toNat) hi.ne;have h2 := zn1 (m := m) (rem (X p ^ p.toNat) (im p f))
 have h3 : Cg (im p f) (rem (X p ^ p.toNat) (im p f)) (X p ^ p.toNat) :=
  ⟨-quo (X p ^ p.toNat) (im p f), comb (-1) (vd (X p ^ p.toNat) (im p f)) (zf [X p ^ p.toNat, im p f, quo (X p ^ p.toNat) (im p f), rem (X p ^ p.toNat) (im p f)] (by rfl))⟩
 refine ⟨by omega, ?_, by rw [ziX hd]; exact h3⟩;obtain ⟨v, h4⟩ := ze9 h3 f.l;rw [zhn, zpg] at h4;have h5 : of p f.l = im p f := rfl;obtain ⟨k, hk⟩ : ∃ k, p.toNat = k + 1 := ⟨p.toNat - 1, by have := vg (p := p); omega⟩
 refine zhm hd (q := v + im p f ^ k) ?_;rw [zlc hd, ziX hd];rw [h5] at h4;have h6 : im p f ^ p.toNat = im p f ^ k * im p f := by rw [hk, zj]
 generalize evL f.l (rem (X p ^ p.toNat) (im p f)) = E at h4 ⊢;rw [h6] at h4;exact comb 1 h4 (zf [E, v, im p f, im p f ^ k] (by rfl))
theorem RootI.slope {f y : Poly m} {n i : Nat} (hd : p ∣ m) (hi : Irr (im p f)) (h : RootI p f n i y) : ¬ im p f ∣ im p (deL f.l y) := λhdv => by
 rw [zpK hd] at hdv;obtain ⟨v, h1⟩ := zn3 h.near f.l;rw [zn4, de_X, show of p f.l = im p f from rfl] at h1
 have h2 : im p f ∣ der (im p f) ^ p.toNat := by
  obtain ⟨q, hq⟩ := hdv;refine ⟨q - v, ?_⟩;generalize der (im p f) ^ p.toNat = E at h1 ⊢;exact comb (-1) h1 (comb 1 hq (zf [E, q, v, im p f, deL f.l (im p y)] (by rfl)))
 have h3 := hi.pow h2;exact jI (zph hi) (zbJ hi.ne) h3
theorem RootI.step {f y s : Poly m} {n i : Nat} (hd : p ∣ m) (_hf : Mn f n) (h : RootI p f n i y) (h1 : 1 <= i) (hs : Cg f (deL f.l y * s) 1) {y' : Poly m} (hy : Cg f y' (y - evL f.l y * s)) (hy2 : dg y' <= n) : RootI p f n (i + i) y' := by
 refine ⟨hy2, (zmh h.val hs).cg (ze9 hy.symm f.l), ?_⟩
 have h2 : Up p f 1 (y' - y) := by
  have h3 := (((h.val.le h1).mulr s).neg)
  refine h3.cg ?_;obtain ⟨v, hy⟩ := hy;exact ⟨-v, comb (-1) hy (zf [y, y', s, v, f, evL f.l y] (by rfl))⟩
 obtain ⟨q, h3⟩ := zp5 hd h2;rw [zcX hd] at h3;exact Cg.trans ⟨q, h3⟩ h.near
theorem RootI.unique {f y z : Poly m} {n k i j : Nat} (hm : m = p ^ k) (hk : 1 <= k) (hf : Mn f n) (hi : Irr (im p f)) (hy : RootI p f n i y) (hz : RootI p f n j z) (h1 : k <= i) (h2 : k <= j) : y = z := by
 have hd : p ∣ m := by
  obtain ⟨j, rfl⟩ : ∃ j, k = j + 1 := ⟨k - 1, by omega⟩
  exact ⟨p ^ j, by rw [hm, Int.pow_succ, Int.mul_comm]⟩
 obtain ⟨s, _, hs⟩ := zaR hm hk hf hi (hz.slope hd hi);refine ziY hm hf ((hy.val.le h1).top hm) ((hz.val.le h2).top hm) ?_ hs hy.deg hz.deg;obtain ⟨q, h3⟩ := hy.near.trans hz.near.symm;rw [<- zcX hd] at h3;exact zhm hd h3
theorem zi0 {f : Poly m} {n k : Nat} (hm : m = p ^ k) (hk : 1 <= k) (hpm : p <= m) (hf : Mn f n) (hi : Irr (im p f)) : ∃ R, RootI p f n k R := by
 have hd : p ∣ m := by
  obtain ⟨j, rfl⟩ : ∃ j, k = j + 1 := ⟨k - 1, by omega⟩
  exact ⟨p ^ j, by rw [hm, Int.pow_succ, Int.mul_comm]⟩
 have go : ∀ j : Nat, ∃ R, RootI p f n (2 ^ j) R := λj => by
  induction j with
  | zero => exact ⟨_, RootI.start hd hpm hi (ze7 hd hf).1⟩
  | succ j ih =>
   obtain ⟨y, hy⟩ := ih;obtain ⟨s, _, hs⟩ := zaR hm hk hf hi (hy.slope hd hi);refine ⟨rdM (y - evL f.l y * s) f, ?_⟩;rw [Nat.pow_succ, Nat.mul_two];exact hy.step hd hf (Nat.pos_of_ne_zero (by have := Nat.pow_pos (a := 2) (n := j) (by omega); omega)) hs (vj hf _) (yW hf _)
 obtain ⟨R, hR⟩ := go k;exact ⟨R, hR.deg, hR.val.le (zdj k), hR.near⟩
end
end Poly
namespace Poly
variable {m : Int} [Pos m]

theorem jK (f : Poly m) (j : Nat) : 0 <= cf f.l j ∧ cf f.l j < m := by
 rw [<- xd f j];exact ⟨Int.emod_nonneg _ (by have := Pos.pos (p := m); omega), Int.emod_lt_of_pos _ Pos.pos⟩

structure DivN (m : Int) [Pos m] (F G : Poly m) (nq k : Nat) (r q : List Int) : Prop where
 rl : r.length = dg F
 ql : q.length = nq
 eq : F = of m q * G + of m r
 z : ∀ j, k + dg G <= j + 1 -> cf r j = 0
 rr : ∀ j, 0 <= cf r j ∧ cf r j < m
 qr : ∀ j, 0 <= cf q j ∧ cf q j < m
 qz : ∀ j, j < k -> cf q j = 0

theorem DivN.start (F G : Poly m) {nq : Nat} (h : dg F + 1 <= nq + dg G) : DivN m F G nq nq F.l (List.replicate nq 0) := by
 have hp := Pos.pos (p := m);refine ⟨rfl, by simp, ?_, λj hj => z3 (by omega), λj => jK F j, λj => by rw [zB]; omega, λj _ => zB _ _⟩;have h0 : of m (List.replicate nq 0) = (0 : Poly m) := zw λi => by rw [zG, zB, zR]; simp
 rw [h0, of_l];exact zf [F, G] (by rfl)

theorem DivN.step {F G : Poly m} {n nq k : Nat} {r q r' : List Int} (h : DivN m F G nq (k + 1) r q) (hG : Mn G n) (hk : k < nq) (c : Int) (hc : c = cf r (k + dg G - 1))
  (hl : r'.length = r.length) (hr : ∀ j, cf r' j = if k <= j ∧ j < k + dg G then (cf r j - c * cf G.l (j - k)) % m else cf r j) : DivN m F G nq k r' (q.set k c) := by
 have hp := Pos.pos (p := m);have hm := hG.1;have hcr : 0 <= c ∧ c < m := by rw [hc]; exact h.rr _
 have hql := h.ql
 have e1 : of m (q.set k c) = of m q + mono m c k := zw λi => by
  rw [zG, yl, zG, jY, z4 (by omega)]
  by_cases hi : i = k
  ·subst hi; rw [if_pos rfl, if_pos rfl, h.qz i (by omega)]; simp
  ·rw [if_neg hi, if_neg hi]; simp
 have e2 : of m r' = of m r - mono m c k * G := zw λi => by
  rw [zG, ja, zG, yq, hr]
  by_cases hi : k <= i
  ·rw [if_pos hi]
   by_cases hi2 : i < k + dg G
   ·rw [if_pos ⟨hi, hi2⟩];rw [Int.emod_emod_of_dvd _ (Int.dvd_refl m), <- Int.sub_emod]
   ·rw [if_neg (by omega), z3 (f := G) (by omega)]; simp
  ·rw [if_neg (by omega), if_neg hi]; simp
 refine ⟨by rw [hl, h.rl], by simpa using hql, ?_, λj hj => ?_, λj => ?_, λj => ?_, λj hj => ?_⟩
 ·rw [e1, e2];exact comb 1 h.eq (zf [F, G, of m q, of m r, mono m c k] (by rfl))
 ·rw [hr]
  by_cases hj2 : j < k + dg G
  ·obtain rfl : j = k + dg G - 1 := by omega
   rw [if_pos (by omega), show k + dg G - 1 - k = n by omega, hG.2, hc];simp
  ·rw [if_neg (by omega)]; exact h.z j (by omega)
 ·rw [hr]
  split
  ·exact ⟨Int.emod_nonneg _ (by omega), Int.emod_lt_of_pos _ (by omega)⟩
  ·exact h.rr j
 ·rw [z4 (by omega)]
  split
  ·exact hcr
  ·exact h.qr j
 ·rw [z4 (by omega), if_neg (by omega)];exact h.qz j (by omega)

theorem zp7 {f a q r : Poly m} {n : Nat} (hf : Mn f n) (h : a = q * f + r) (hr : dg r <= n) : qtM a f = q := by
 have h1 := znY hf h hr;have h2 := (ze6 hf a).1;rw [h1] at h2;have h3 : (q - qtM a f) * f = 0 := comb (-1) h (comb 1 h2 (zf [q, qtM a f, f, a, r] (by rfl)))
 have h4 : q - qtM a f = 0 := Classical.byContradiction λh0 => by
  have := zgz hf h0;rw [h3, zd.2 rfl] at this; omega
 exact (comb 1 h4 (zf [q, qtM a f] (by rfl)) : q = qtM a f).symm

theorem DivN.fin {F G : Poly m} {n nq : Nat} {r q : List Int} (h : DivN m F G nq 0 r q) (hG : Mn G n) : zu q = (qtM F G).l ∧ zu r = (rdM F G).l := by
 have hm := hG.1;have h0 : dg (of m r) <= n := jX λj hj => by rw [zG, h.z j (by omega)]; simp
 rw [zp7 hG h.eq h0, znY hG h.eq h0];exact ⟨(zcf h.qr).symm, (zcf h.rr).symm⟩

/- lists by a modulus -/
theorem zn5 (X Y : Poly m) : nrm m (zu (yK X.l (zV (-1) Y.l))) = (X - Y).l := xf _ _
theorem zld (X : Poly m) (c : Int) : nrm m (zu (yK X.l [c])) = (X + cn m c).l := by
 rw [xf];refine yt (va _ _) (X + cn m c).ok.2 λi => ?_;rw [kS, y3, yl, zbo];cases i with
 | zero => rw [zx, if_pos rfl]; simp
 | succ i => rw [zk, zO, if_neg (by omega)]
theorem zle (X : Poly m) (c : Int) : nrm m (zu (yK [c] (zV (-1) X.l))) = (cn m c - X).l := by
 rw [xf];refine yt (va _ _) (cn m c - X).ok.2 λi => ?_;rw [kS, y3, x9, ja, zbo];cases i with
 | zero => rw [zx, if_pos rfl, Int.emod_sub_emod]; congr 1; omega
 | succ i => rw [zk, zO, if_neg (by omega)]; congr 1; omega
end Poly
namespace Poly
section
variable {m : Int} [Pos m]

noncomputable def zY (f F X : Poly m) : Nat -> Poly m
 | 0 => 0
 | k + 1 => rdM (zY f F X k * X) f + cn m (cf F.l (dg F - 1 - k))
theorem vO {f F X : Poly m} {n : Nat} (hf : Mn f n) (h1 : 1 <= n) : ∀ k, dg (zY f F X k) <= n
 | 0 => by show dg (0 : Poly m) <= _; rw [zd.2 rfl]; omega
 | k + 1 => by
  have h2 := zeC (rdM (zY f F X k * X) f) (cn m (cf F.l (dg F - 1 - k)));have h3 := yW hf (zY f F X k * X);have h4 := znW (m := m) (cf F.l (dg F - 1 - k));show dg (rdM (zY f F X k * X) f + cn m (cf F.l (dg F - 1 - k))) <= _; omega
theorem zpi {f F X : Poly m} {n : Nat} (hf : Mn f n) : ∀ k, k <= dg F -> Cg f (zY f F X k) (evL (F.l.drop (dg F - k)) X) := by
 have hl : F.l.length = dg F := rfl;intro k
 induction k with
 | zero =>
  intro _;rw [Nat.sub_zero, show F.l.drop (dg F) = [] from List.drop_of_length_le (Nat.le_refl _)];exact Cg.refl f 0
 | succ k ih =>
  intro hk;have h1 := ih (by omega);obtain ⟨i, hi⟩ : ∃ i, dg F = i + (k + 1) := ⟨dg F - (k + 1), by omega⟩
  have e1 : dg F - (k + 1) = i := by omega
  have e2 : dg F - k = i + 1 := by omega
  have e3 : dg F - 1 - k = i := by omega
  have e : F.l.drop i = cf F.l i :: F.l.drop (i + 1) := by
   rw [List.drop_eq_getElem_cons (l := F.l) (i := i) (by omega), yE (by omega)]
  rw [e2] at h1;rw [e1, e, evL, zY, e3];generalize evL (F.l.drop (i + 1)) X = E at h1 ⊢;have h2 := ((vj hf (zY f F X k * X)).trans (h1.mul (Cg.refl f X))).add (Cg.refl f (cn m (cf F.l i)))
  rwa [show E * X + cn m (cf F.l i) = cn m (cf F.l i) + X * E from zf [E, X, cn m (cf F.l i)] (by rfl)] at h2
theorem zaS {f F X : Poly m} {n : Nat} (hf : Mn f n) : Cg f (zY f F X (dg F)) (evL F.l X) := by
 have h := zpi (X := X) hf (dg F) (Nat.le_refl _)
 rwa [Nat.sub_self, List.drop_zero] at h

/- derivatives -/
theorem zck (n : Nat) (g : Nat -> Int) : mkL (n + 1) g = g 0 :: mkL n λi => g (i + 1) := by
 unfold mkL;rw [List.range_succ_eq_map, List.map_cons, List.map_map]; rfl
theorem zho (X : Poly m) : ∀ (n : Nat) (g h : Nat -> Int), evL (mkL n λi => g i + h i) X = evL (mkL n g) X + evL (mkL n h) X
 | 0, g, h => by simp only [mkL, List.range_zero, List.map_nil, evL]; exact zf [X] (by rfl)
 | n + 1, g, h => by
  rw [zck, zck, zck, evL, evL, evL, zho X n (λi => g (i + 1)) (λi => h (i + 1)), <- znV];exact zf [X, cn m (g 0), cn m (h 0), evL (mkL n λi => g (i + 1)) X, evL (mkL n λi => h (i + 1)) X] (by rfl)
theorem zhp (X : Poly m) {l : List Int} {n : Nat} (h : l.length <= n) : evL l X = evL (mkL n (cf l)) X :=
 xo X λi => by
  rw [yC]
  split
  ·rfl
  ·rw [zN (by omega)]
theorem zlf (X : Poly m) : ∀ (l : List Int) (n : Nat), l.length <= n -> deL l X = evL (mkL n (dv (cf l))) X
 | [], n, _ => by
  rw [deL]
  have : evL [] X = evL (mkL n (dv (cf []))) X := xo X λi => by
   rw [zO, yC]; unfold dv; rw [zO]; split <;> simp
  exact this
 | c :: l, n + 1, h => by
  have h1 : l.length <= n := by simpa using h
  rw [deL, zlf X l n h1, zhp X (n := n + 1) (Nat.le_succ_of_le h1)]
  have e : mkL (n + 1) (dv (cf (c :: l))) = mkL (n + 1) λi => cf l i + (λi : Nat => (i : Int) * cf l i) i := by
   congr 1; funext i; unfold dv; rw [zk, Int.add_mul, Int.one_mul, Int.add_comm]
  rw [e, zho]
  congr 1
  rw [zck, evL];have e2 : (λi : Nat => ((i + 1 : Nat) : Int) * cf l (i + 1)) = dv (cf l) := by funext i; unfold dv; congr 1
  rw [show ((0 : Nat) : Int) * cf l 0 = 0 by simp, zdS];have e3 : (mkL n λi => (λi : Nat => (i : Int) * cf l i) (i + 1)) = mkL n (dv (cf l)) := by rw [<- e2]
  rw [e3];exact zf [X, evL (mkL n (dv (cf l))) X] (by rfl)
def zcl (f : Poly m) : Poly m := of m (mkL (dg f - 1) (dv (cf f.l)))
theorem zpj (f Y : Poly m) : evL (zcl f).l Y = deL f.l Y := by
 rw [zlf Y f.l (dg f) (Nat.le_refl _)];refine xo Y λi => ?_;unfold zcl;rw [zG, yC, yC, Int.emod_emod_of_dvd _ (Int.dvd_refl m)]
 by_cases h1 : i < dg f - 1
 ·rw [if_pos h1, if_pos (by omega)]
 ·rw [if_neg h1]
  split
  ·unfold dv; rw [z3 (by omega)]; simp
  ·rfl
theorem zlg (f : Poly m) : dg (zcl f) <= dg f - 1 := by
 have h := jC (p := m) (mkL (dg f - 1) (dv (cf f.l)))
 rwa [zK] at h

/- powers -/
end
end Poly
namespace Poly
section
variable {m p : Int} [Pos m] [SP p]

theorem zp8 : cn m 2 = (1 : Poly m) + 1 := by
 have h := znV (m := m) 1 1;rw [zp3] at h;exact h.symm
structure InvI (p : Int) (f X : Poly m) (n i : Nat) (y : Poly m) : Prop where
 deg : dg y <= n
 val : Up p f i (X * y - 1)
theorem InvI.start {f X : Poly m} {n : Nat} (hd : p ∣ m) {u : Poly p} (hu : dg u <= n) (h : im p f ∣ im p X * u - 1) : InvI p f X n 1 (lft m u) := by
 refine ⟨Nat.le_trans (zn1 u) hu, ?_⟩;obtain ⟨q, hq⟩ := h;refine zhm hd (q := q) ?_;rw [zcX hd, k6 hd, ziX hd, zkc hd];exact comb 1 hq (zf [im p X, u, q, im p f] (by rfl))
theorem InvI.step {p : Int} {f X y : Poly m} {n i : Nat} (hf : Mn f n) (h : InvI p f X n i y) : InvI p f X n (i + i) (rdM (y * (cn m 2 - rdM (X * y) f)) f) := by
 refine ⟨yW hf _, (ziW h.val).cg ?_⟩
 have h1 : Cg f (cn m 2 - rdM (X * y) f) (1 + 1 - X * y) := by
  rw [zp8];exact (Cg.refl f (1 + 1)).sub (vj hf (X * y))
 have h2 := (vj hf (y * (cn m 2 - rdM (X * y) f))).trans ((Cg.refl f y).mul h1);exact (((Cg.refl f X).mul h2).sub (Cg.refl f 1)).symm
theorem InvI.one {p : Int} {f X y : Poly m} {n i k : Nat} (hm : m = p ^ k) (h : InvI p f X n i y) (hk : k <= i) : Cg f (X * y) 1 :=
 zaQ ((h.val.le hk).top hm)
theorem InvI.fin {p : Int} {f X y U : Poly m} {n i k : Nat} (hm : m = p ^ k) (hf : Mn f n) (h : InvI p f X n i y) (hk : k <= i) (hU : dg U <= n) (hU2 : Cg f (X * U) 1) : y = U :=
 zdh hf h.deg hU (h.one hm hk) hU2
theorem InvI.is {p : Int} {f X y U : Poly m} {n i : Nat} (hf : Mn f n) (h : InvI p f X n i y) (h1 : rdM (X * y) f = 1) (hU : dg U <= n) (hU2 : Cg f (X * U) 1) : y = U :=
 zdh hf h.deg hU (by have := vj hf (X * y); rw [h1] at this; exact this.symm) hU2
theorem zmi : dg (1 : Poly m) <= 1 := jC [(1 : Int)]
theorem InvI.rem {p : Int} {f X y : Poly m} {n i k : Nat} (hm : m = p ^ k) (hf : Mn f n) (hn : 1 <= n) (h : InvI p f X n i y) (hk : k <= i) : rdM (X * y) f = 1 := by
 have h1 := zmf hf (h.one hm hk)
 rwa [zmg hf (Nat.le_trans zmi hn)] at h1

noncomputable def slp (f y : Poly m) : Poly m := zY f (zcl f) y (dg (zcl f))
theorem zn6 {f y : Poly m} {n : Nat} (hf : Mn f n) : Cg f (slp f y) (deL f.l y) := by
 have h := zaS (F := zcl f) (X := y) hf
 rwa [zpj] at h
theorem RootI.unit {f y : Poly m} {n i : Nat} (hd : p ∣ m) (hf : Mn f n) (hi : Irr (im p f)) (h : RootI p f n i y) : ¬ im p f ∣ im p (slp f y) := λhdv => by
 refine h.slope hd hi ?_;obtain ⟨q, hq⟩ := zn2 hd (zn6 (y := y) hf);obtain ⟨r, hr⟩ := hdv;exact ⟨r - q, comb 1 hr (comb (-1) hq (zf [im p (slp f y), im p (deL f.l y), q, r, im p f] (by rfl)))⟩
theorem RootI.next {f y s : Poly m} {n i : Nat} (hd : p ∣ m) (hf : Mn f n) (h : RootI p f n i y) (h1 : 1 <= i) (hs : Cg f (slp f y * s) 1) : RootI p f n (i + i) (y - rdM (zY f f y (dg f) * s) f) := by
 have h2 : Cg f (deL f.l y * s) 1 := (((zn6 hf).symm).mul (Cg.refl f s)).trans hs;refine h.step hd hf h1 h2 ?_ ?_
 ·exact (Cg.refl f y).sub ((vj hf _).trans ((zaS hf).mul (Cg.refl f s)))
 ·have h3 := vH y (rdM (zY f f y (dg f) * s) f);have h4 := yW hf (zY f f y (dg f) * s);have := h.deg;omega
theorem zlh : dg (0 : Poly m) = 0 := zd.2 rfl
theorem RootI.zero_of {f y : Poly m} {n i k : Nat} (hm : m = p ^ k) (hf : Mn f n) (hn : 1 <= n) (h : RootI p f n i y) (hk : k <= i) : zY f f y (dg f) = 0 :=
 Cg.eq hf ((zaS hf).trans ((h.val.le hk).top hm)) (vO hf hn _) (by rw [zlh]; omega)
theorem RootI.of_zero {f y : Poly m} {n i : Nat} (hf : Mn f n) (h : RootI p f n i y) (h0 : zY f f y (dg f) = 0) (k : Nat) : RootI p f n k y := by
 refine ⟨h.deg, ?_, h.near⟩;have h1 : Up p f k (0 : Poly m) := ⟨0, 0, zf [f, cn m (p ^ k)] (by rfl)⟩
 have h2 := zaS (F := f) (X := y) hf;rw [h0] at h2;exact h1.cg h2

end
end Poly
namespace Poly
section
variable {m p : Int} [Pos m] [SP p]

def dgt (p : Int) [Pos p] (q : Int) (D : Poly m) : Poly p := of p (D.l.map (· / q))
structure LifI (f : Poly m) (a b : Nat) (g0 h0 : Poly p) (g h : Poly m) : Prop where
 mg : Mn g a
 mh : Mn h b
 ig : im p g = g0
 ih : im p h = h0

end
end Poly
namespace Poly

section
variable {p : Int} [SP p]
structure Fst (f : Poly p) (F : List (Poly p × Nat)) (g h : Poly p) : Prop where
 eq : f = g * h
 mg : Mon g
 mh : Mon h
 g2 : 2 <= dg g
 cop : Cop g h
 fac : jH h F
end

section
variable {m p : Int} [Pos m] [SP p]
noncomputable def zqD (f : Poly m) (g0 h0 S T : Poly p) (q : Int) (x : Poly m × Poly m) : Poly m × Poly m :=
 (x.1 + cn m q * lft m (rem (dgt p q (f - x.1 * x.2) * S) g0), x.2 + cn m q * lft m (rem (dgt p q (f - x.1 * x.2) * T) h0))
noncomputable def zpL (f : Poly m) (g0 h0 S T : Poly p) : Nat -> Poly m × Poly m
 | 0 => (lft m g0, lft m h0)
 | j + 1 => zqD f g0 h0 S T (p ^ (j + 1)) (zpL f g0 h0 S T j)

structure Pair (f : Poly m) (a b : Nat) (g0 h0 S T : Poly p) : Prop where
 pm : p ∣ m
 ple : p <= m
 mf : Mn f (a + b)
 mg : Mn g0 a
 mh : Mn h0 b
 a1 : 1 <= a
 b1 : 1 <= b
 s1 : dg S < dg g0
 s2 : g0 ∣ h0 * S - 1
 t1 : dg T < dg h0
 t2 : h0 ∣ g0 * T - 1
structure LAt (f : Poly m) (a b : Nat) (g0 h0 S T : Poly p) (j : Nat) (G H : Poly m) : Prop where
 eq : (G, H) = zpL f g0 h0 S T j
 inv : LifI f a b g0 h0 G H
/- what the program forms -/
end
end Poly
namespace Poly
variable {p : Int} [SP p]

end Poly
namespace Poly
section
variable {m p : Int} [Pos m] [SP p]

end
end Poly
namespace Poly
section
variable {m : Int} [Pos m]

theorem zli (R A B : Poly m) : evL (A + B).l R = evL A.l R + evL B.l R := by
 have h1 := zeC A B;rw [zhp R (l := (A + B).l) (n := max (dg A) (dg B)) h1, zhp R (l := A.l) (n := max (dg A) (dg B)) (Nat.le_max_left ..), zhp R (l := B.l) (n := max (dg A) (dg B)) (Nat.le_max_right ..), <- zho];refine xo R λi => ?_;rw [yC, yC]
 split
 ·rw [yl, Int.emod_emod]
 ·rfl
theorem zgA (R : Poly m) (c : Int) : ∀ l : List Int, evL (l.map (c * ·)) R = cn m c * evL l R
 | [] => show (0 : Poly m) = cn m c * 0 from zf [cn m c] (by rfl)
 | a :: l => by
  show cn m (c * a) + R * evL (l.map (c * ·)) R = _
  rw [zgA R c l, <- zka];show _ = cn m c * (cn m a + R * evL l R)
  exact zf [cn m c, cn m a, R, evL l R] (by rfl)
theorem zke (R B : Poly m) (c : Int) : evL (cn m c * B).l R = cn m c * evL B.l R := by
 rw [<- zgA];refine xo R λi => ?_;rw [zgy, Int.emod_emod]
 by_cases hi : i < B.l.length
 ·rw [znD (c * ·) _ hi]
 ·have h1 : cf B.l i = 0 := zN (Nat.le_of_not_lt hi);have h2 : cf (B.l.map (c * ·)) i = 0 := zN (by simpa using Nat.le_of_not_lt hi);rw [h1, h2]; simp
theorem zmj (R B : Poly m) : evL (mono m 1 1 * B).l R = R * evL B.l R := by
 have h : evL (0 :: B.l) R = R * evL B.l R := by
  show cn m 0 + R * evL B.l R = _
  rw [zdS]; exact zf [R, evL B.l R] (by rfl)
 rw [<- h];refine xo R λi => ?_;rw [yq];cases i with
 | zero => rw [if_neg (by omega), zx]
 | succ i => rw [if_pos (by omega), zk, Nat.add_sub_cancel, Int.one_mul, Int.emod_emod]
theorem zpk (c : Int) (l : List Int) : of m (c :: l) = cn m c + mono m 1 1 * of m l := zw λi => by
 rw [zG, yl, zbo, yq];cases i with
 | zero => rw [if_pos rfl, if_neg (by omega), zx]; simp
 | succ i => rw [if_neg (by omega), if_pos (by omega), zk, Nat.add_sub_cancel, zG]; simp
theorem zlj (R A B : Poly m) : evL (A * B).l R = evL A.l R * evL B.l R := by
 have h : ∀ l : List Int, evL (of m l * B).l R = evL l R * evL B.l R := λl => by
  induction l with
  | nil =>
   rw [show of m [] = 0 from zw λi => by rw [zG, zO, zR]; rfl, show (0 : Poly m) * B = 0 from zf [B] (by rfl), show (0 : Poly m).l = [] from kd];show (0 : Poly m) = 0 * evL B.l R
   exact zf [evL B.l R] (by rfl)
  | cons c l ih =>
   rw [zpk, show (cn m c + mono m 1 1 * of m l) * B = cn m c * B + mono m 1 1 * (of m l * B) from zf [cn m c, mono m 1 1, of m l, B] (by rfl), zli, zke, zmj, ih];show _ = (cn m c + R * evL l R) * evL B.l R
   exact zf [cn m c, R, evL l R, evL B.l R] (by rfl)
 have := h A.l
 rwa [show of m A.l = A from zw λi => by rw [zG, xd]] at this
theorem zpl {f R : Poly m} {n : Nat} (hf : Mn f n) (h0 : Cg f (evL f.l R) 0) (X : Poly m) : Cg f (evL (rdM X f).l R) (evL X.l R) := by
 obtain ⟨v, hv⟩ := vj hf X;have h1 : rdM X f = X + v * f := comb 1 hv (zf [rdM X f, X, v, f] (by rfl));rw [h1, zli, zlj];obtain ⟨w, hw⟩ := h0;exact ⟨evL v.l R * w, comb (evL v.l R) hw (zf [evL X.l R, evL v.l R, evL f.l R, w, f] (by rfl))⟩
noncomputable def phi (f R X : Poly m) : Poly m := zY f X R (dg X)
theorem zpm {f R : Poly m} {n : Nat} (hf : Mn f n) (h1 : 1 <= n) (h0 : Cg f (evL f.l R) 0) (X Y : Poly m) : phi f R (rdM (X * Y) f) = rdM (phi f R X * phi f R Y) f := by
 refine Cg.eq hf ?_ (vO hf h1 _) (yW hf _);refine (zaS hf).trans ((zpl hf h0 _).trans ?_);rw [zlj];exact (((zaS hf).mul (zaS hf)).symm).trans (vj hf _).symm
end

section
variable {m p : Int} [Pos m] [SP p]
theorem zp9 {f R : Poly m} {n k : Nat} (hd : p ∣ m) (hf : Mn f n) (h1 : 1 <= n) (hR : RootI p f n k R) (X : Poly m) : im p (phi f R X) = rem (im p X ^ p.toNat) (im p f) := by
 have h2 : Cg (im p f) (im p (phi f R X)) (im p X ^ p.toNat) := by
  refine Cg.trans (b := im p (evL X.l R)) (zn2 hd (zaS hf)) ?_;rw [zlc hd];have h3 := ze9 hR.near X.l;rw [zhn, zpg] at h3;exact h3
 have h3 := ze7 hd hf;have h4 : im p f ≠ 0 := λe => by have := h3.1; rw [e, zC] at this; omega
 refine Cg.eq (n := n) h3 (h2.trans ?_) ?_ ?_
 ·obtain ⟨u, hu⟩ := xS (im p X ^ p.toNat) (im p f);exact ⟨u, comb 1 hu (zf [im p X ^ p.toNat, rem (im p X ^ p.toNat) (im p f), im p f, u] (by rfl))⟩
 ·have := zdi (p := p) (phi f R X);have := vO (F := X) (X := R) hf h1 (dg X);unfold phi at *; omega
 ·have := zX (im p X ^ p.toNat) h4;have := h3.1;omega
end
end Poly
end Go.Proofs.YtffhmebkkbfaeaaGreat
