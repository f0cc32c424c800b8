/- Plain mathematics of polynomials by a prime. No conditions. -/
import Derived.Test.YtlmckocbhcpmdaaGreatPd
namespace Go.Proofs.YtlmckocbhcpmdaaGreat
namespace Poly

structure FacS (n : Nat) (L : List (Nat × Nat)) : Prop where
 prod : zr L = n
 pr : ∀ x ∈ L, PrN x.1 ∧ 1 <= x.2
 sort : L.Pairwise fun x y => x.1 < y.1
theorem FacS.fac {n : Nat} {L : List (Nat × Nat)} (h : FacS n L) : FacN n L := ⟨h.prod, h.pr, h.sort.imp fun h => Nat.ne_of_lt h⟩

theorem kg : ∀ {L : List (Nat × Nat)}, (∀ x ∈ L, PrN x.1 ∧ 1 <= x.2) -> 0 < zr L
 | [], _ => by decide
 | x :: L, h => by
  rw [zr];exact Nat.mul_pos (Nat.pow_pos (by have := (h x (by simp)).1.1; omega)) (kg fun y hy => h y (by simp [hy]))
theorem zf0 : ∀ {L : List (Nat × Nat)}, (∀ x ∈ L, PrN x.1 ∧ 1 <= x.2) -> (L.Pairwise fun x y => x.1 ≠ y.1) -> ∀ x ∈ L, ∃ m, zr L = x.1 ^ x.2 * m ∧ ¬ x.1 ∣ m
 | [], _, _, x, hx => by simp at hx
 | y :: L, h1, h2, x, hx => by
  have h3 := List.pairwise_cons.1 h2;have hy := (h1 y (by simp)).1;have hL : ∀ z ∈ L, PrN z.1 ∧ 1 <= z.2 := fun z hz => h1 z (by simp [hz]);rcases List.mem_cons.1 hx with rfl | hx
  ·refine ⟨zr L, rfl, fun hd => ?_⟩;obtain ⟨z, hz, h4⟩ := yG hy (fun z hz => (hL z hz).1) hd;exact h3.1 z hz h4.symm
  ·obtain ⟨m, h4, h5⟩ := zf0 hL h3.2 x hx;refine ⟨y.1 ^ y.2 * m, by rw [zr, h4, Nat.mul_left_comm], fun hd => ?_⟩;have hxp := (hL x hx).1;rcases hxp.mul hd with h6 | h6
   ·exact h3.1 x hx (hxp.eq hy (hxp.pow h6)).symm
   ·exact h5 h6
theorem FacN.rest {n : Nat} {L : List (Nat × Nat)} (h : FacN n L) {x : Nat × Nat} (hx : x ∈ L) : ∃ m, n = x.1 ^ x.2 * m ∧ ¬ x.1 ∣ m := by
 obtain ⟨m, h1, h2⟩ := zf0 h.pr h.one x hx;exact ⟨m, by rw [<- h.prod, h1], h2⟩
theorem zmM {l a b m m' : Nat} (hl : 2 <= l) (h : l ^ a * m = l ^ b * m') (hm : ¬ l ∣ m) : b <= a := by
 apply Classical.byContradiction;intro hc;refine hm ⟨l ^ (b - a - 1) * m', ?_⟩
 have h1 : l ^ b = l ^ a * (l * l ^ (b - a - 1)) := by
  rw [<- Nat.pow_succ', <- Nat.pow_add]; congr 1; omega
 rw [h1, Nat.mul_assoc] at h;rw [Nat.eq_of_mul_eq_mul_left (Nat.pow_pos (by omega)) h, Nat.mul_assoc]
theorem FacS.mem {n : Nat} {L M : List (Nat × Nat)} (h : FacS n L) (k : FacS n M) {x : Nat × Nat} (hx : x ∈ L) : x ∈ M := by
 obtain ⟨hxp, hx1⟩ := h.pr x hx;obtain ⟨m, h1, h2⟩ := h.fac.rest hx
 have hd : x.1 ∣ zr M := by
  rw [k.prod, h1];obtain ⟨e, he⟩ : ∃ e, x.2 = e + 1 := ⟨x.2 - 1, by omega⟩
  rw [he, Nat.pow_succ, Nat.mul_right_comm]; exact Nat.dvd_mul_left _ _
 obtain ⟨y, hy, h3⟩ := yG hxp (fun y hy => (k.pr y hy).1) hd;obtain ⟨m', h4, h5⟩ := k.fac.rest hy;rw [h3] at h4 h5;have h6 := zmM hxp.1 (h1 ▸ h4) h2;have h7 := zmM hxp.1 (h4 ▸ h1) h5
 have : x = y := by
  cases x; cases y
  simp only [Prod.mk.injEq]
  exact ⟨h3.symm, by simp at h6 h7; omega⟩
 rw [this]; exact hy
theorem zcD {L : List (Nat × Nat)} (h : L.Pairwise fun x y => x.1 < y.1) : L.Nodup := h.imp fun h e => by rw [e] at h; omega
theorem FacS.unique {n : Nat} {L M : List (Nat × Nat)} (h : FacS n L) (k : FacS n M) : L = M := by
 have hp : L.Perm M := zgU (zcD h.sort) (zcD k.sort) (fun x hx => h.mem k hx) ((zcD k.sort).length_le_of_subset fun x hx => k.mem h hx);exact List.Perm.eq_of_pairwise (le := fun x y : Nat × Nat => x.1 < y.1) (fun a b _ _ h1 h2 => by omega) h.sort k.sort hp

theorem zgX {l : Nat} (hl : 2 <= l) : ∀ n : Nat, 1 <= n -> ∃ e m, n = l ^ e * m ∧ ¬ l ∣ m := by
 intro n
 induction n using Nat.strongRecOn with
 | ind n ih =>
  intro h
  by_cases hd : l ∣ n
  ·obtain ⟨k, rfl⟩ := hd;have hk : 1 <= k := Nat.pos_of_ne_zero fun e => by subst e; omega
   have h2 : k * 2 <= l * k := by rw [Nat.mul_comm]; exact Nat.mul_le_mul_right _ hl
   obtain ⟨e, m, h1, h3⟩ := ih k (by omega) hk;exact ⟨e + 1, m, by rw [Nat.pow_succ, Nat.mul_comm (l ^ e), Nat.mul_assoc, <- h1], h3⟩
  ·exact ⟨0, n, by simp, hd⟩
theorem zkj {q n : Nat} (hq : 2 <= q) (hd : q ∣ n) (h : ∀ r, PrN r -> r ∣ n -> q <= r) : PrN q := by
 refine ⟨hq, fun d hdq => ?_⟩
 by_cases h1 : d = 1
 ·exact .inl h1
 ·refine .inr ?_;have h0 : d ≠ 0 := fun e => by subst e; have := Nat.eq_zero_of_zero_dvd hdq; omega
  obtain ⟨r, hr, hrd⟩ := js d (by omega);have h2 := h r hr (Nat.dvd_trans hrd (Nat.dvd_trans hdq hd));have h3 := Nat.le_of_dvd (by omega) hrd;have h4 := Nat.le_of_dvd (by omega) hdq;omega
theorem zcE : ∀ (k q n : Nat), 2 <= q -> 1 <= n -> n < q + k -> (∀ r, PrN r -> r ∣ n -> q <= r) -> ∃ L, FacS n L ∧ ∀ x ∈ L, q <= x.1
 | 0, q, n, hq, hn, hk, h => by
  have : n = 1 := Classical.byContradiction fun h1 => by
   obtain ⟨r, hr, hd⟩ := js n (by omega);have h2 := h r hr hd;have h3 := Nat.le_of_dvd (by omega) hd;omega
  subst this;exact ⟨[], ⟨rfl, fun x hx => by simp at hx, List.Pairwise.nil⟩, fun x hx => by simp at hx⟩
 | k + 1, q, n, hq, hn, hk, h => by
  by_cases hd : q ∣ n
  ·have hp := zkj hq hd h;obtain ⟨e, m, h1, h2⟩ := zgX hq n hn;have he : 1 <= e := Nat.pos_of_ne_zero fun e0 => by subst e0; rw [Nat.pow_zero, Nat.one_mul] at h1; exact h2 (h1 ▸ hd)
   have hm : 1 <= m := Nat.pos_of_ne_zero fun e0 => h2 (e0 ▸ Nat.dvd_zero _);have hmn : m <= n := Nat.le_of_dvd hn ⟨q ^ e, by rw [Nat.mul_comm]; exact h1⟩
   obtain ⟨L, h3, h4⟩ := zcE k (q + 1) m (by omega) hm (by omega) (fun r hr hrd => by
    have h5 := h r hr (h1 ▸ Nat.dvd_trans hrd (Nat.dvd_mul_left _ _));rcases Nat.lt_or_eq_of_le h5 with h6 | h6
    ·omega
    ·exact absurd (h6 ▸ hrd) h2)
   refine ⟨(q, e) :: L, ⟨by rw [zr, h3.prod]; exact h1.symm, fun x hx => ?_, List.pairwise_cons.2 ⟨fun x hx => h4 x hx, h3.sort⟩⟩, fun x hx => ?_⟩
   ·rcases List.mem_cons.1 hx with rfl | hx
    ·exact ⟨hp, he⟩
    ·exact h3.pr x hx
   ·rcases List.mem_cons.1 hx with rfl | hx
    ·exact Nat.le_refl _
    ·exact Nat.le_of_succ_le (h4 x hx)
  ·obtain ⟨L, h3, h4⟩ := zcE k (q + 1) n (by omega) hn (by omega) (fun r hr hrd => by
    have h5 := h r hr hrd;rcases Nat.lt_or_eq_of_le h5 with h6 | h6
    ·omega
    ·exact absurd (h6 ▸ hrd) hd)
   exact ⟨L, h3, fun x hx => Nat.le_of_succ_le (h4 x hx)⟩
theorem zc2 {n : Nat} (h : 1 <= n) : ∃ L, FacS n L := by
 obtain ⟨L, h1, _⟩ := zcE n 2 n (by omega) h (by omega) fun r hr _ => hr.1;exact ⟨L, h1⟩
noncomputable def znJ (n : Nat) : List (Nat × Nat) := if h : 1 <= n then (zc2 h).choose else []
theorem zgY {n : Nat} (h : 1 <= n) : FacS n (znJ n) := by unfold znJ; rw [dif_pos h]; exact (zc2 h).choose_spec

/- a search for factors that goes up -/
theorem FacS.tail {n : Nat} {x : Nat × Nat} {L : List (Nat × Nat)} (h : FacS n (x :: L)) : FacS (zr L) L :=
 ⟨rfl, fun y hy => h.pr y (by simp [hy]), (List.pairwise_cons.1 h.sort).2⟩
theorem FacS.low {n q : Nat} {L : List (Nat × Nat)} (h : FacS n L) (hq : ∀ x ∈ L, q <= x.1) {r : Nat} (hr : PrN r) (hd : r ∣ n) : q <= r := by
 obtain ⟨x, hx, h1⟩ := yG hr (fun x hx => (h.pr x hx).1) (h.prod ▸ hd);exact h1 ▸ hq x hx
theorem FacS.next {n q : Nat} {L : List (Nat × Nat)} (h : FacS n L) (h2 : 2 <= q) (hq : ∀ x ∈ L, q <= x.1) :
  (∃ e M, L = (q, e) :: M ∧ 1 <= e ∧ FacS (zr M) M ∧ n = q ^ e * zr M ∧ ¬ q ∣ zr M ∧ ∀ x ∈ M, q + 1 <= x.1) ∨ (¬ q ∣ n ∧ ∀ x ∈ L, q + 1 <= x.1) := by
 by_cases hd : q ∣ n
 ·left
  have hp := zkj h2 hd fun r hr hrd => h.low hq hr hrd;obtain ⟨x, hx, h1⟩ := yG hp (fun x hx => (h.pr x hx).1) (h.prod ▸ hd);cases L with
  | nil => simp at hx
  | cons y M =>
   have h3 := List.pairwise_cons.1 h.sort
   have h4 : y.1 = q := by
    rcases List.mem_cons.1 hx with rfl | hx
    ·exact h1
    ·have := h3.1 x hx; have := hq y (by simp); omega
   refine ⟨y.2, M, by rw [<- h4], (h.pr y (by simp)).2, h.tail, by rw [<- h4, <- h.prod]; rfl, fun hd => ?_, fun x hx => by have := h3.1 x hx; omega⟩;obtain ⟨z, hz, h5⟩ := yG hp (fun x hx => (h.pr x (by simp [hx])).1) hd;have := h3.1 z hz; omega
 ·right
  refine ⟨hd, fun x hx => ?_⟩;rcases Nat.lt_or_eq_of_le (hq x hx) with h5 | h5
  ·exact h5
  ·exfalso
   refine hd ?_;rw [h5, <- h.prod];refine Nat.dvd_trans ?_ (xH hx);obtain ⟨e, he⟩ : ∃ e, x.2 = e + 1 := ⟨x.2 - 1, by have := (h.pr x hx).2; omega⟩
   rw [he, Nat.pow_succ]; exact Nat.dvd_mul_left _ _
theorem FacS.next' {n q : Nat} {L : List (Nat × Nat)} (h : FacS n L) (h2 : 2 <= q) (hq : ∀ x ∈ L, q <= x.1) :
  ∃ k M, n = q ^ k * zr M ∧ ¬ q ∣ zr M ∧ FacS (zr M) M ∧ (∀ x ∈ M, q + 1 <= x.1) ∧ L = if k = 0 then M else (q, k) :: M := by
 rcases h.next h2 hq with ⟨e, M, h1, h3, h4, h5, h6, h7⟩ | ⟨h1, h3⟩
 ·exact ⟨e, M, h5, h6, h4, h7, by rw [if_neg (by omega)]; exact h1⟩
 ·exact ⟨0, L, by rw [Nat.pow_zero, Nat.one_mul, h.prod], h.prod.symm ▸ h1, h.prod.symm ▸ h, h3, by rw [if_pos rfl]⟩
theorem kN : ∀ A M : List (Nat × Nat), zr (A ++ M) = zr A * zr M
 | [], M => by rw [List.nil_append, zr, Nat.one_mul]
 | x :: A, M => by rw [List.cons_append, zr, zr, kN A M, Nat.mul_assoc]
theorem vh : ∀ {L : List (Nat × Nat)}, (∀ x ∈ L, PrN x.1 ∧ 1 <= x.2) -> L.length + 1 <= zr L
 | [], _ => Nat.le_refl _
 | x :: L, h => by
  have h1 := vh (L := L) fun y hy => h y (by simp [hy]);obtain ⟨h2, h3⟩ := h x (by simp);have h4 : x.1 ^ 1 <= x.1 ^ x.2 := Nat.pow_le_pow_right (by have := h2.1; omega) h3;rw [Nat.pow_one] at h4;have h5 : 2 * zr L <= x.1 ^ x.2 * zr L := Nat.mul_le_mul_right _ (by have := h2.1; omega);rw [zr, List.length_cons]; omega
theorem zf1 {q a P : Nat} (_hq : 2 <= q) (hP : ¬ q ∣ P) : (q ^ a * P) % q = 0 ↔ 0 < a := by
 constructor
 ·intro h;refine Nat.pos_of_ne_zero fun e => ?_;subst e;rw [Nat.pow_zero, Nat.one_mul] at h;exact hP (Nat.dvd_of_mod_eq_zero h)
 ·intro h;obtain ⟨b, rfl⟩ : ∃ b, a = b + 1 := ⟨a - 1, by omega⟩
  rw [Nat.pow_succ, Nat.mul_right_comm]; exact Nat.mul_mod_left ..
theorem zf2 {q a P : Nat} (hq : 2 <= q) (ha : 0 < a) : q ^ a * P / q = q ^ (a - 1) * P := by
 obtain ⟨b, rfl⟩ : ∃ b, a = b + 1 := ⟨a - 1, by omega⟩
 rw [Nat.pow_succ, Nat.mul_right_comm, Nat.mul_div_cancel _ (by omega), Nat.add_sub_cancel]

theorem FacS.last {n q : Nat} {L : List (Nat × Nat)} (h : FacS n L) (hq : ∀ x ∈ L, q <= x.1) (hn : 1 < n) (hs : n < q * q) : L = [(n, 1)] := by
 have hpn : PrN n := by
  refine ⟨by omega, fun d hd => ?_⟩;apply Classical.byContradiction;intro hc;have h1 : d ≠ 1 := fun e => hc (.inl e);have h2 : d ≠ n := fun e => hc (.inr e);obtain ⟨c, hdc⟩ := hd;have hd0 : d ≠ 0 := fun e => by rw [e, Nat.zero_mul] at hdc; omega
  have hc1 : c ≠ 1 := fun e => h2 (by rw [hdc, e, Nat.mul_one]);have hc0 : c ≠ 0 := fun e => by rw [e, Nat.mul_zero] at hdc; omega
  obtain ⟨r, hr, hrd⟩ := js d (by omega);obtain ⟨s, hs', hsd⟩ := js c (by omega);have h3 := h.low hq hr (Nat.dvd_trans hrd ⟨c, hdc⟩);have h4 := h.low hq hs' (Nat.dvd_trans hsd ⟨d, by rw [Nat.mul_comm]; exact hdc⟩);have h5 := Nat.le_of_dvd (by omega) hrd;have h6 := Nat.le_of_dvd (by omega) hsd;have h7 : q * q <= d * c := Nat.mul_le_mul (by omega) (by omega);omega
 exact h.unique ⟨by simp [zr], fun x hx => by simp at hx; subst hx; exact ⟨hpn, Nat.le_refl _⟩, List.pairwise_singleton ..⟩

/- orders, by steps down -/
structure OrdI {p : Int} [SP p] (f x : Poly p) (n : Nat) (L : List (Nat × Nat)) (i e : Nat) : Prop where
 pos : 0 < e
 dvd : e ∣ n
 one : One f x e
 todo : ∀ y ∈ L.drop i, y.1 ^ y.2 ∣ e
 done : ∀ y ∈ L.take i, y.1 ∣ e -> ¬ One f x (e / y.1)
theorem OrdI.start {p : Int} [SP p] {f x : Poly p} {n : Nat} {L : List (Nat × Nat)} (hL : FacS n L) (hn : 1 <= n) (h : One f x n) : OrdI f x n L 0 n :=
 ⟨hn, Nat.dvd_refl n, h, fun y hy => by rw [<- hL.prod]; exact xH (by simpa using hy), fun y hy => by simp at hy⟩
theorem OrdI.fin {p : Int} [SP p] {f x : Poly p} {n e : Nat} {L : List (Nat × Nat)} (h : OrdI f x n L L.length e) (hL : FacS n L) : yF f x e :=
 zmL h.pos h.one fun l hl hd => by
  obtain ⟨y, hy, h1⟩ := yG hl (fun y hy => (hL.pr y hy).1) (hL.prod ▸ Nat.dvd_trans hd h.dvd);exact h1 ▸ h.done y (by simpa using hy) (h1 ▸ hd)
theorem zit {a b l : Nat} (hl : 0 < l) (h1 : l ∣ a) (h : a ∣ b) : a / l ∣ b / l := by
 obtain ⟨c, rfl⟩ := h1;obtain ⟨d, rfl⟩ := h;rw [Nat.mul_assoc, Nat.mul_div_cancel_left _ hl, Nat.mul_div_cancel_left _ hl];exact Nat.dvd_mul_right _ _
structure OrdJ {p : Int} [SP p] (f x : Poly p) (n : Nat) (L : List (Nat × Nat)) (i : Nat) (l k j e : Nat) : Prop where
 pos : 0 < e
 dvd : e ∣ n
 one : One f x e
 todo : ∀ y ∈ L.drop (i + 1), y.1 ^ y.2 ∣ e
 done : ∀ y ∈ L.take i, y.1 ∣ e -> ¬ One f x (e / y.1)
 at_ : (∃ m, e = l ^ (k - j) * m ∧ ¬ l ∣ m ∧ j <= k) ∨ ¬ One f x (e / l)
theorem zcF {L : List (Nat × Nat)} {i : Nat} (h : i < L.length) : L.drop i = L[i] :: L.drop (i + 1) := List.drop_eq_getElem_cons h
theorem OrdI.enter {p : Int} [SP p] {f x : Poly p} {n i e : Nat} {L : List (Nat × Nat)} (h : OrdI f x n L i e) (hL : FacS n L) (hi : i < L.length) : OrdJ f x n L i L[i].1 L[i].2 0 e := by
 refine ⟨h.pos, h.dvd, h.one, fun y hy => h.todo y (by rw [zcF hi]; exact List.mem_cons_of_mem _ hy), h.done, .inl ?_⟩;obtain ⟨c, hc⟩ := h.todo L[i] (by rw [zcF hi]; exact List.mem_cons_self);obtain ⟨m, h1, h2⟩ := hL.fac.rest (List.getElem_mem hi);refine ⟨c, hc, fun hd => h2 ?_, Nat.zero_le _⟩;have h3 := h.dvd;rw [hc, h1] at h3;exact Nat.dvd_trans hd (Nat.dvd_of_mul_dvd_mul_left (Nat.pow_pos (by have := (hL.pr _ (List.getElem_mem hi)).1.1; omega)) h3)
theorem OrdJ.leave {p : Int} [SP p] {f x : Poly p} {n i e : Nat} {L : List (Nat × Nat)} (hi : i < L.length) (h : OrdJ f x n L i L[i].1 L[i].2 L[i].2 e) : OrdI f x n L (i + 1) e := by
 refine ⟨h.pos, h.dvd, h.one, h.todo, fun y hy hd => ?_⟩;rw [List.take_succ_eq_append_getElem hi] at hy;rcases List.mem_append.1 hy with hy | hy
 ·exact h.done y hy hd
 ·have hy : y = L[i] := by simpa using hy
  subst hy;rcases h.at_ with ⟨m, h1, h2, _⟩ | h1
  ·rw [Nat.sub_self, Nat.pow_zero, Nat.one_mul] at h1;exact absurd (h1 ▸ hd) h2
  ·exact h1
theorem OrdJ.stop {p : Int} [SP p] {f x : Poly p} {n i e j j' k l : Nat} {L : List (Nat × Nat)} (h : OrdJ f x n L i l k j e) (hn : ¬ One f x (e / l)) : OrdJ f x n L i l k j' e :=
 ⟨h.pos, h.dvd, h.one, h.todo, h.done, .inr hn⟩
theorem OrdJ.over {p : Int} [SP p] {f x : Poly p} {n i e j k l : Nat} {L : List (Nat × Nat)} (h : OrdJ f x n L i l k j e) (hn : ¬ l ∣ e) : OrdJ f x n L i l k k e := by
 refine ⟨h.pos, h.dvd, h.one, h.todo, h.done, ?_⟩;rcases h.at_ with ⟨m, h1, h2, h3⟩ | h1
 ·have h4 : k - j = 0 := Nat.eq_zero_of_not_pos fun h5 => hn (by
   obtain ⟨c, hc⟩ : ∃ c, k - j = c + 1 := ⟨k - j - 1, by omega⟩
   rw [h1, hc, Nat.pow_succ, Nat.mul_right_comm]; exact Nat.dvd_mul_left _ _)
  rw [h4] at h1;exact .inl ⟨m, by rw [Nat.sub_self]; exact h1, h2, Nat.le_refl _⟩
 ·exact .inr h1
theorem OrdJ.step {p : Int} [SP p] {f x : Poly p} {n i e j : Nat} {L : List (Nat × Nat)} (hL : FacS n L) (hi : i < L.length) (h : OrdJ f x n L i L[i].1 L[i].2 j e) (hj : j < L[i].2) (ho : One f x (e / L[i].1)) :
  L[i].1 ∣ e ∧ OrdJ f x n L i L[i].1 L[i].2 (j + 1) (e / L[i].1) := by
 obtain ⟨hp, _⟩ := hL.pr _ (List.getElem_mem hi);have hp2 := hp.1;obtain ⟨m, h1, h2, h3⟩ := h.at_.resolve_right fun h1 => h1 ho;obtain ⟨c, hc⟩ : ∃ c, L[i].2 - j = c + 1 := ⟨L[i].2 - j - 1, by omega⟩
 have h4 : e = L[i].1 * (L[i].1 ^ c * m) := by rw [h1, hc, Nat.pow_succ, Nat.mul_comm (L[i].1 ^ c), Nat.mul_assoc]
 have h5 : e / L[i].1 = L[i].1 ^ c * m := by
  have h6 : L[i].1 * (L[i].1 ^ c * m) / L[i].1 = L[i].1 ^ c * m := Nat.mul_div_cancel_left _ (by omega);rw [<- h4] at h6; exact h6
 have hd : L[i].1 ∣ e := ⟨_, h4⟩
 have hde : e / L[i].1 ∣ e := Nat.div_dvd_of_dvd hd;refine ⟨hd, Nat.div_pos (Nat.le_of_dvd h.pos hd) (by omega), Nat.dvd_trans hde h.dvd, ho, fun y hy => ?_, fun y hy hyd => ?_, .inl ⟨m, by rw [h5, show L[i].2 - (j + 1) = c by omega], h2, by omega⟩⟩
 ·have h7 := h.todo y hy;rw [h4] at h7;rw [h5];have hyL : y ∈ L := List.mem_of_mem_drop hy
  have hlt : L[i].1 < y.1 := by
   have := hL.sort.drop (i := i);rw [zcF hi] at this;exact (List.pairwise_cons.1 this).1 y hy
  have hy1 := (hL.pr y hyL).1;exact (zki hy1 (fun hd => by have := hy1.eq hp hd; omega) _).dvd_of_dvd_mul_left h7
 ·refine fun h8 => h.done y hy (Nat.dvd_trans hyd hde) (h8.of_dvd ?_);exact zit (by have := (hL.pr y (List.mem_of_mem_take hy)).1.1; omega) hyd hde

end Poly
namespace Poly

end Poly
namespace Poly
variable {p : Int} [SP p]

structure CofI (f h a b u v : Poly p) : Prop where
 a0 : a ≠ 0
 lt : dg b < dg a
 cop : Cop a b
 ua : f ∣ u * h - a
 vb : f ∣ v * h - b
 dv : dg v + dg a <= dg f + 1
 du : dg u + dg a <= dg f
end Poly
namespace Poly
variable {p : Int} [SP p]

noncomputable def frN (f X : Poly p) : Nat -> Poly p
 | 0 => X
 | k + 1 => rem (frN f X k ^ p.toNat) f
structure Per (f X : Poly p) (m : Nat) : Prop where
 pos : 0 < m
 back : frN f X m = X
 first : ∀ k, 0 < k -> k < m -> frN f X k ≠ X
end Poly
end Go.Proofs.YtlmckocbhcpmdaaGreat
