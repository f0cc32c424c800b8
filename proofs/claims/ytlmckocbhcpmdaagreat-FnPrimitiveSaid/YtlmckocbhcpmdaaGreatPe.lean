/- Plain mathematics of polynomials by a prime. No conditions. -/
import Derived.Test.YtlmckocbhcpmdaaGreatPd
namespace Go.Proofs.YtlmckocbhcpmdaaGreat
namespace Poly

structure FacS (n : Nat) (L : List (Nat × Nat)) : Prop where
 prod : zq L = n
 pr : ∀ x ∈ L, PrN x.1 ∧ 1 <= x.2
 sort : L.Pairwise fun x y => x.1 < y.1
theorem FacS.fac {n : Nat} {L : List (Nat × Nat)} (h : FacS n L) : FacN n L := ⟨h.prod, h.pr, h.sort.imp fun h => Nat.ne_of_lt h⟩

theorem j7 : ∀ {L : List (Nat × Nat)}, (∀ x ∈ L, PrN x.1 ∧ 1 <= x.2) -> 0 < zq L
 | [], _ => by decide
 | x :: L, h => by
  rw [zq];exact Nat.mul_pos (Nat.pow_pos (by have := (h x (by simp)).1.1; omega)) (j7 fun y hy => h y (by simp [hy]))
theorem zf2 : ∀ {L : List (Nat × Nat)}, (∀ x ∈ L, PrN x.1 ∧ 1 <= x.2) -> (L.Pairwise fun x y => x.1 ≠ y.1) -> ∀ x ∈ L, ∃ m, zq L = x.1 ^ x.2 * m ∧ ¬ x.1 ∣ m
 | [], _, _, x, hx => by simp at hx
 | y :: L, h1, h2, x, hx => by
  have h3 := List.pairwise_cons.1 h2;have hy := (h1 y (by simp)).1;have hL : ∀ z ∈ L, PrN z.1 ∧ 1 <= z.2 := fun z hz => h1 z (by simp [hz]);rcases List.mem_cons.1 hx with rfl | hx
  ·refine ⟨zq L, rfl, fun hd => ?_⟩;obtain ⟨z, hz, h4⟩ := yG hy (fun z hz => (hL z hz).1) hd;exact h3.1 z hz h4.symm
  ·obtain ⟨m, h4, h5⟩ := zf2 hL h3.2 x hx;refine ⟨y.1 ^ y.2 * m, by rw [zq, h4, Nat.mul_left_comm], fun hd => ?_⟩;have hxp := (hL x hx).1;rcases hxp.mul hd with h6 | h6
   ·exact h3.1 x hx (hxp.eq hy (hxp.pow h6)).symm
   ·exact h5 h6
theorem FacN.rest {n : Nat} {L : List (Nat × Nat)} (h : FacN n L) {x : Nat × Nat} (hx : x ∈ L) : ∃ m, n = x.1 ^ x.2 * m ∧ ¬ x.1 ∣ m := by
 obtain ⟨m, h1, h2⟩ := zf2 h.pr h.one x hx;exact ⟨m, by rw [<- h.prod, h1], h2⟩
theorem zmY {l a b m m' : Nat} (hl : 2 <= l) (h : l ^ a * m = l ^ b * m') (hm : ¬ l ∣ m) : b <= a := by
 apply Classical.byContradiction;intro hc;refine hm ⟨l ^ (b - a - 1) * m', ?_⟩
 have h1 : l ^ b = l ^ a * (l * l ^ (b - a - 1)) := by
  rw [<- Nat.pow_succ', <- Nat.pow_add]; congr 1; omega
 rw [h1, Nat.mul_assoc] at h;rw [Nat.eq_of_mul_eq_mul_left (Nat.pow_pos (by omega)) h, Nat.mul_assoc]
theorem FacS.mem {n : Nat} {L M : List (Nat × Nat)} (h : FacS n L) (k : FacS n M) {x : Nat × Nat} (hx : x ∈ L) : x ∈ M := by
 obtain ⟨hxp, hx1⟩ := h.pr x hx;obtain ⟨m, h1, h2⟩ := h.fac.rest hx
 have hd : x.1 ∣ zq M := by
  rw [k.prod, h1];obtain ⟨e, he⟩ : ∃ e, x.2 = e + 1 := ⟨x.2 - 1, by omega⟩
  rw [he, Nat.pow_succ, Nat.mul_right_comm]; exact Nat.dvd_mul_left _ _
 obtain ⟨y, hy, h3⟩ := yG hxp (fun y hy => (k.pr y hy).1) hd;obtain ⟨m', h4, h5⟩ := k.fac.rest hy;rw [h3] at h4 h5;have h6 := zmY hxp.1 (h1 ▸ h4) h2;have h7 := zmY hxp.1 (h4 ▸ h1) h5
 have : x = y := by
  cases x; cases y
  simp only [Prod.mk.injEq]
  exact ⟨h3.symm, by simp at h6 h7; omega⟩
 rw [this]; exact hy
theorem zcy {L : List (Nat × Nat)} (h : L.Pairwise fun x y => x.1 < y.1) : L.Nodup := h.imp fun h e => by rw [e] at h; omega
theorem FacS.unique {n : Nat} {L M : List (Nat × Nat)} (h : FacS n L) (k : FacS n M) : L = M := by
 have hp : L.Perm M := zgS (zcy h.sort) (zcy k.sort) (fun x hx => h.mem k hx) ((zcy k.sort).length_le_of_subset fun x hx => k.mem h hx);exact List.Perm.eq_of_pairwise (le := fun x y : Nat × Nat => x.1 < y.1) (fun a b _ _ h1 h2 => by omega) h.sort k.sort hp

theorem zgV {l : Nat} (hl : 2 <= l) : ∀ n : Nat, 1 <= n -> ∃ e m, n = l ^ e * m ∧ ¬ l ∣ m := by
 intro n
 induction n using Nat.strongRecOn with
 | ind n ih =>
  intro h
  by_cases hd : l ∣ n
  ·obtain ⟨k, rfl⟩ := hd;have hk : 1 <= k := Nat.pos_of_ne_zero fun e => by subst e; omega
   have h2 : k * 2 <= l * k := by rw [Nat.mul_comm]; exact Nat.mul_le_mul_right _ hl
   obtain ⟨e, m, h1, h3⟩ := ih k (by omega) hk;exact ⟨e + 1, m, by rw [Nat.pow_succ, Nat.mul_comm (l ^ e), Nat.mul_assoc, <- h1], h3⟩
  ·exact ⟨0, n, by simp, hd⟩
theorem zkn {q n : Nat} (hq : 2 <= q) (hd : q ∣ n) (h : ∀ r, PrN r -> r ∣ n -> q <= r) : PrN q := by
 refine ⟨hq, fun d hdq => ?_⟩
 by_cases h1 : d = 1
 ·exact .inl h1
 ·refine .inr ?_;have h0 : d ≠ 0 := fun e => by subst e; have := Nat.eq_zero_of_zero_dvd hdq; omega
  obtain ⟨r, hr, hrd⟩ := jo d (by omega);have h2 := h r hr (Nat.dvd_trans hrd (Nat.dvd_trans hdq hd));have h3 := Nat.le_of_dvd (by omega) hrd;have h4 := Nat.le_of_dvd (by omega) hdq;omega
theorem zcz : ∀ (k q n : Nat), 2 <= q -> 1 <= n -> n < q + k -> (∀ r, PrN r -> r ∣ n -> q <= r) -> ∃ L, FacS n L ∧ ∀ x ∈ L, q <= x.1
 | 0, q, n, hq, hn, hk, h => by
  have : n = 1 := Classical.byContradiction fun h1 => by
   obtain ⟨r, hr, hd⟩ := jo n (by omega);have h2 := h r hr hd;have h3 := Nat.le_of_dvd (by omega) hd;omega
  subst this;exact ⟨[], ⟨rfl, fun x hx => by simp at hx, List.Pairwise.nil⟩, fun x hx => by simp at hx⟩
 | k + 1, q, n, hq, hn, hk, h => by
  by_cases hd : q ∣ n
  ·have hp := zkn hq hd h;obtain ⟨e, m, h1, h2⟩ := zgV hq n hn;have he : 1 <= e := Nat.pos_of_ne_zero fun e0 => by subst e0; rw [Nat.pow_zero, Nat.one_mul] at h1; exact h2 (h1 ▸ hd)
   have hm : 1 <= m := Nat.pos_of_ne_zero fun e0 => h2 (e0 ▸ Nat.dvd_zero _);have hmn : m <= n := Nat.le_of_dvd hn ⟨q ^ e, by rw [Nat.mul_comm]; exact h1⟩
   obtain ⟨L, h3, h4⟩ := zcz k (q + 1) m (by omega) hm (by omega) (fun r hr hrd => by
    have h5 := h r hr (h1 ▸ Nat.dvd_trans hrd (Nat.dvd_mul_left _ _));rcases Nat.lt_or_eq_of_le h5 with h6 | h6
    ·omega
    ·exact absurd (h6 ▸ hrd) h2)
   refine ⟨(q, e) :: L, ⟨by rw [zq, h3.prod]; exact h1.symm, fun x hx => ?_, List.pairwise_cons.2 ⟨fun x hx => h4 x hx, h3.sort⟩⟩, fun x hx => ?_⟩
   ·rcases List.mem_cons.1 hx with rfl | hx
    ·exact ⟨hp, he⟩
    ·exact h3.pr x hx
   ·rcases List.mem_cons.1 hx with rfl | hx
    ·exact Nat.le_refl _
    ·exact Nat.le_of_succ_le (h4 x hx)
  ·obtain ⟨L, h3, h4⟩ := zcz k (q + 1) n (by omega) hn (by omega) (fun r hr hrd => by
    have h5 := h r hr hrd;rcases Nat.lt_or_eq_of_le h5 with h6 | h6
    ·omega
    ·exact absurd (h6 ▸ hrd) hd)
   exact ⟨L, h3, fun x hx => Nat.le_of_succ_le (h4 x hx)⟩
theorem zc5 {n : Nat} (h : 1 <= n) : ∃ L, FacS n L := by
 obtain ⟨L, h1, _⟩ := zcz n 2 n (by omega) h (by omega) fun r hr _ => hr.1;exact ⟨L, h1⟩
noncomputable def zlj (n : Nat) : List (Nat × Nat) := if h : 1 <= n then (zc5 h).choose else []
theorem zbU {n : Nat} (h : 1 <= n) : FacS n (zlj n) := by unfold zlj; rw [dif_pos h]; exact (zc5 h).choose_spec

/- a search for factors that goes up -/
theorem FacS.tail {n : Nat} {x : Nat × Nat} {L : List (Nat × Nat)} (h : FacS n (x :: L)) : FacS (zq L) L :=
 ⟨rfl, fun y hy => h.pr y (by simp [hy]), (List.pairwise_cons.1 h.sort).2⟩
theorem FacS.low {n q : Nat} {L : List (Nat × Nat)} (h : FacS n L) (hq : ∀ x ∈ L, q <= x.1) {r : Nat} (hr : PrN r) (hd : r ∣ n) : q <= r := by
 obtain ⟨x, hx, h1⟩ := yG hr (fun x hx => (h.pr x hx).1) (h.prod ▸ hd);exact h1 ▸ hq x hx
theorem FacS.next {n q : Nat} {L : List (Nat × Nat)} (h : FacS n L) (h2 : 2 <= q) (hq : ∀ x ∈ L, q <= x.1) :
  (∃ e M, L = (q, e) :: M ∧ 1 <= e ∧ FacS (zq M) M ∧ n = q ^ e * zq M ∧ ¬ q ∣ zq M ∧ ∀ x ∈ M, q + 1 <= x.1) ∨ (¬ q ∣ n ∧ ∀ x ∈ L, q + 1 <= x.1) := by
 by_cases hd : q ∣ n
 ·left
  have hp := zkn h2 hd fun r hr hrd => h.low hq hr hrd;obtain ⟨x, hx, h1⟩ := yG hp (fun x hx => (h.pr x hx).1) (h.prod ▸ hd);cases L with
  | nil => simp at hx
  | cons y M =>
   have h3 := List.pairwise_cons.1 h.sort
   have h4 : y.1 = q := by
    rcases List.mem_cons.1 hx with rfl | hx
    ·exact h1
    ·have := h3.1 x hx; have := hq y (by simp); omega
   refine ⟨y.2, M, by rw [<- h4], (h.pr y (by simp)).2, h.tail, by rw [<- h4, <- h.prod]; rfl, fun hd => ?_, fun x hx => by have := h3.1 x hx; omega⟩;obtain ⟨z, hz, h5⟩ := yG hp (fun x hx => (h.pr x (by simp [hx])).1) hd;have := h3.1 z hz; omega
 ·right
  refine ⟨hd, fun x hx => ?_⟩;rcases Nat.lt_or_eq_of_le (hq x hx) with h5 | h5
  ·exact h5
  ·exfalso
   refine hd ?_;rw [h5, <- h.prod];refine Nat.dvd_trans ?_ (xb hx);obtain ⟨e, he⟩ : ∃ e, x.2 = e + 1 := ⟨x.2 - 1, by have := (h.pr x hx).2; omega⟩
   rw [he, Nat.pow_succ]; exact Nat.dvd_mul_left _ _
theorem FacS.next' {n q : Nat} {L : List (Nat × Nat)} (h : FacS n L) (h2 : 2 <= q) (hq : ∀ x ∈ L, q <= x.1) :
  ∃ k M, n = q ^ k * zq M ∧ ¬ q ∣ zq M ∧ FacS (zq M) M ∧ (∀ x ∈ M, q + 1 <= x.1) ∧ L = if k = 0 then M else (q, k) :: M := by
 rcases h.next h2 hq with ⟨e, M, h1, h3, h4, h5, h6, h7⟩ | ⟨h1, h3⟩
 ·exact ⟨e, M, h5, h6, h4, h7, by rw [if_neg (by omega)]; exact h1⟩
 ·exact ⟨0, L, by rw [Nat.pow_zero, Nat.one_mul, h.prod], h.prod.symm ▸ h1, h.prod.symm ▸ h, h3, by rw [if_pos rfl]⟩
theorem kE : ∀ A M : List (Nat × Nat), zq (A ++ M) = zq A * zq M
 | [], M => by rw [List.nil_append, zq, Nat.one_mul]
 | x :: A, M => by rw [List.cons_append, zq, zq, kE A M, Nat.mul_assoc]
theorem xF : ∀ {L : List (Nat × Nat)}, (∀ x ∈ L, PrN x.1 ∧ 1 <= x.2) -> L.length + 1 <= zq L
 | [], _ => Nat.le_refl _
 | x :: L, h => by
  have h1 := xF (L := L) fun y hy => h y (by simp [hy]);obtain ⟨h2, h3⟩ := h x (by simp);have h4 : x.1 ^ 1 <= x.1 ^ x.2 := Nat.pow_le_pow_right (by have := h2.1; omega) h3;rw [Nat.pow_one] at h4;have h5 : 2 * zq L <= x.1 ^ x.2 * zq L := Nat.mul_le_mul_right _ (by have := h2.1; omega);rw [zq, List.length_cons]; omega
theorem zf3 {q a P : Nat} (_hq : 2 <= q) (hP : ¬ q ∣ P) : (q ^ a * P) % q = 0 ↔ 0 < a := by
 constructor
 ·intro h;refine Nat.pos_of_ne_zero fun e => ?_;subst e;rw [Nat.pow_zero, Nat.one_mul] at h;exact hP (Nat.dvd_of_mod_eq_zero h)
 ·intro h;obtain ⟨b, rfl⟩ : ∃ b, a = b + 1 := ⟨a - 1, by omega⟩
  rw [Nat.pow_succ, Nat.mul_right_comm]; exact Nat.mul_mod_left ..
theorem zf4 {q a P : Nat} (hq : 2 <= q) (ha : 0 < a) : q ^ a * P / q = q ^ (a - 1) * P := by
 obtain ⟨b, rfl⟩ : ∃ b, a = b + 1 := ⟨a - 1, by omega⟩
 rw [Nat.pow_succ, Nat.mul_right_comm, Nat.mul_div_cancel _ (by omega), Nat.add_sub_cancel]

theorem FacS.last {n q : Nat} {L : List (Nat × Nat)} (h : FacS n L) (hq : ∀ x ∈ L, q <= x.1) (hn : 1 < n) (hs : n < q * q) : L = [(n, 1)] := by
 have hpn : PrN n := by
  refine ⟨by omega, fun d hd => ?_⟩;apply Classical.byContradiction;intro hc;have h1 : d ≠ 1 := fun e => hc (.inl e);have h2 : d ≠ n := fun e => hc (.inr e);obtain ⟨c, hdc⟩ := hd;have hd0 : d ≠ 0 := fun e => by rw [e, Nat.zero_mul] at hdc; omega
  have hc1 : c ≠ 1 := fun e => h2 (by rw [hdc, e, Nat.mul_one]);have hc0 : c ≠ 0 := fun e => by rw [e, Nat.mul_zero] at hdc; omega
  obtain ⟨r, hr, hrd⟩ := jo d (by omega);obtain ⟨s, hs', hsd⟩ := jo c (by omega);have h3 := h.low hq hr (Nat.dvd_trans hrd ⟨c, hdc⟩);have h4 := h.low hq hs' (Nat.dvd_trans hsd ⟨d, by rw [Nat.mul_comm]; exact hdc⟩);have h5 := Nat.le_of_dvd (by omega) hrd;have h6 := Nat.le_of_dvd (by omega) hsd;have h7 : q * q <= d * c := Nat.mul_le_mul (by omega) (by omega);omega
 exact h.unique ⟨by simp [zq], fun x hx => by simp at hx; subst hx; exact ⟨hpn, Nat.le_refl _⟩, List.pairwise_singleton ..⟩

/- orders, by steps down -/
structure OrdI {p : Int} [SP p] (f x : Poly p) (n : Nat) (L : List (Nat × Nat)) (i e : Nat) : Prop where
 pos : 0 < e
 dvd : e ∣ n
 one : One f x e
 todo : ∀ y ∈ L.drop i, y.1 ^ y.2 ∣ e
 done : ∀ y ∈ L.take i, y.1 ∣ e -> ¬ One f x (e / y.1)
theorem OrdI.start {p : Int} [SP p] {f x : Poly p} {n : Nat} {L : List (Nat × Nat)} (hL : FacS n L) (hn : 1 <= n) (h : One f x n) : OrdI f x n L 0 n :=
 ⟨hn, Nat.dvd_refl n, h, fun y hy => by rw [<- hL.prod]; exact xb (by simpa using hy), fun y hy => by simp at hy⟩
theorem OrdI.fin {p : Int} [SP p] {f x : Poly p} {n e : Nat} {L : List (Nat × Nat)} (h : OrdI f x n L L.length e) (hL : FacS n L) : yh f x e :=
 zmX h.pos h.one fun l hl hd => by
  obtain ⟨y, hy, h1⟩ := yG hl (fun y hy => (hL.pr y hy).1) (hL.prod ▸ Nat.dvd_trans hd h.dvd);exact h1 ▸ h.done y (by simpa using hy) (h1 ▸ hd)
theorem ziq {a b l : Nat} (hl : 0 < l) (h1 : l ∣ a) (h : a ∣ b) : a / l ∣ b / l := by
 obtain ⟨c, rfl⟩ := h1;obtain ⟨d, rfl⟩ := h;rw [Nat.mul_assoc, Nat.mul_div_cancel_left _ hl, Nat.mul_div_cancel_left _ hl];exact Nat.dvd_mul_right _ _
structure OrdJ {p : Int} [SP p] (f x : Poly p) (n : Nat) (L : List (Nat × Nat)) (i : Nat) (l k j e : Nat) : Prop where
 pos : 0 < e
 dvd : e ∣ n
 one : One f x e
 todo : ∀ y ∈ L.drop (i + 1), y.1 ^ y.2 ∣ e
 done : ∀ y ∈ L.take i, y.1 ∣ e -> ¬ One f x (e / y.1)
 at_ : (∃ m, e = l ^ (k - j) * m ∧ ¬ l ∣ m ∧ j <= k) ∨ ¬ One f x (e / l)
theorem zcA {L : List (Nat × Nat)} {i : Nat} (h : i < L.length) : L.drop i = L[i] :: L.drop (i + 1) := List.drop_eq_getElem_cons h
theorem OrdI.enter {p : Int} [SP p] {f x : Poly p} {n i e : Nat} {L : List (Nat × Nat)} (h : OrdI f x n L i e) (hL : FacS n L) (hi : i < L.length) : OrdJ f x n L i L[i].1 L[i].2 0 e := by
 refine ⟨h.pos, h.dvd, h.one, fun y hy => h.todo y (by rw [zcA hi]; exact List.mem_cons_of_mem _ hy), h.done, .inl ?_⟩;obtain ⟨c, hc⟩ := h.todo L[i] (by rw [zcA hi]; exact List.mem_cons_self);obtain ⟨m, h1, h2⟩ := hL.fac.rest (List.getElem_mem hi);refine ⟨c, hc, fun hd => h2 ?_, Nat.zero_le _⟩;have h3 := h.dvd;rw [hc, h1] at h3;exact Nat.dvd_trans hd (Nat.dvd_of_mul_dvd_mul_left (Nat.pow_pos (by have := (hL.pr _ (List.getElem_mem hi)).1.1; omega)) h3)
theorem OrdJ.leave {p : Int} [SP p] {f x : Poly p} {n i e : Nat} {L : List (Nat × Nat)} (hi : i < L.length) (h : OrdJ f x n L i L[i].1 L[i].2 L[i].2 e) : OrdI f x n L (i + 1) e := by
 refine ⟨h.pos, h.dvd, h.one, h.todo, fun y hy hd => ?_⟩;rw [List.take_succ_eq_append_getElem hi] at hy;rcases List.mem_append.1 hy with hy | hy
 ·exact h.done y hy hd
 ·have hy : y = L[i] := by simpa using hy
  subst hy;rcases h.at_ with ⟨m, h1, h2, _⟩ | h1
  ·rw [Nat.sub_self, Nat.pow_zero, Nat.one_mul] at h1;exact absurd (h1 ▸ hd) h2
  ·exact h1
theorem OrdJ.stop {p : Int} [SP p] {f x : Poly p} {n i e j j' k l : Nat} {L : List (Nat × Nat)} (h : OrdJ f x n L i l k j e) (hn : ¬ One f x (e / l)) : OrdJ f x n L i l k j' e :=
 ⟨h.pos, h.dvd, h.one, h.todo, h.done, .inr hn⟩
theorem OrdJ.over {p : Int} [SP p] {f x : Poly p} {n i e j k l : Nat} {L : List (Nat × Nat)} (h : OrdJ f x n L i l k j e) (hn : ¬ l ∣ e) : OrdJ f x n L i l k k e := by
 refine ⟨h.pos, h.dvd, h.one, h.todo, h.done, ?_⟩;rcases h.at_ with ⟨m, h1, h2, h3⟩ | h1
 ·have h4 : k - j = 0 := Nat.eq_zero_of_not_pos fun h5 => hn (by
   obtain ⟨c, hc⟩ : ∃ c, k - j = c + 1 := ⟨k - j - 1, by omega⟩
   rw [h1, hc, Nat.pow_succ, Nat.mul_right_comm]; exact Nat.dvd_mul_left _ _)
  rw [h4] at h1;exact .inl ⟨m, by rw [Nat.sub_self]; exact h1, h2, Nat.le_refl _⟩
 ·exact .inr h1
theorem OrdJ.step {p : Int} [SP p] {f x : Poly p} {n i e j : Nat} {L : List (Nat × Nat)} (hL : FacS n L) (hi : i < L.length) (h : OrdJ f x n L i L[i].1 L[i].2 j e) (hj : j < L[i].2) (ho : One f x (e / L[i].1)) :
  L[i].1 ∣ e ∧ OrdJ f x n L i L[i].1 L[i].2 (j + 1) (e / L[i].1) := by
 obtain ⟨hp, _⟩ := hL.pr _ (List.getElem_mem hi);have hp2 := hp.1;obtain ⟨m, h1, h2, h3⟩ := h.at_.resolve_right fun h1 => h1 ho;obtain ⟨c, hc⟩ : ∃ c, L[i].2 - j = c + 1 := ⟨L[i].2 - j - 1, by omega⟩
 have h4 : e = L[i].1 * (L[i].1 ^ c * m) := by rw [h1, hc, Nat.pow_succ, Nat.mul_comm (L[i].1 ^ c), Nat.mul_assoc]
 have h5 : e / L[i].1 = L[i].1 ^ c * m := by
  have h6 : L[i].1 * (L[i].1 ^ c * m) / L[i].1 = L[i].1 ^ c * m := Nat.mul_div_cancel_left _ (by omega);rw [<- h4] at h6; exact h6
 have hd : L[i].1 ∣ e := ⟨_, h4⟩
 have hde : e / L[i].1 ∣ e := Nat.div_dvd_of_dvd hd;refine ⟨hd, Nat.div_pos (Nat.le_of_dvd h.pos hd) (by omega), Nat.dvd_trans hde h.dvd, ho, fun y hy => ?_, fun y hy hyd => ?_, .inl ⟨m, by rw [h5, show L[i].2 - (j + 1) = c by omega], h2, by omega⟩⟩
 ·have h7 := h.todo y hy;rw [h4] at h7;rw [h5];have hyL : y ∈ L := List.mem_of_mem_drop hy
  have hlt : L[i].1 < y.1 := by
   have := hL.sort.drop (i := i);rw [zcA hi] at this;exact (List.pairwise_cons.1 this).1 y hy
  have hy1 := (hL.pr y hyL).1;exact (zkm hy1 (fun hd => by have := hy1.eq hp hd; omega) _).dvd_of_dvd_mul_left h7
 ·refine fun h8 => h.done y hy (Nat.dvd_trans hyd hde) (h8.of_dvd ?_);exact ziq (by have := (hL.pr y (List.mem_of_mem_take hy)).1.1; omega) hyd hde

end Poly
namespace Poly

def zlk (n a : Nat) : Nat -> Nat
 | 0 => bif Nat.ble a n && Nat.beq (Nat.gcd a n) 1 then 1 else 0
 | j + 1 => zlk n a j + zlk n (a + 2 ^ j) j
def kV (n : Nat) : Nat -> Nat
 | 0 => 0
 | k + 1 => kV n k + if Nat.gcd (k + 1) n = 1 then 1 else 0
theorem zko (n : Nat) : ∀ k, kV n k <= k
 | 0 => Nat.le_refl _
 | k + 1 => by have := zko n k; rw [kV]; split <;> omega
def zdk (n a : Nat) : Nat -> Nat
 | 0 => 0
 | k + 1 => zdk n a k + bif Nat.ble (a + k) n && Nat.beq (Nat.gcd (a + k) n) 1 then 1 else 0
theorem zir (n a k : Nat) : ∀ m, zdk n a (k + m) = zdk n a k + zdk n (a + k) m
 | 0 => rfl
 | m + 1 => by rw [<- Nat.add_assoc, zdk, zdk, zir n a k m, Nat.add_assoc a k m, Nat.add_assoc]
theorem zgW (n : Nat) : ∀ j a, zlk n a j = zdk n a (2 ^ j)
 | 0, a => by simp [zlk, zdk]
 | j + 1, a => by rw [zlk, zgW n j, zgW n j, Nat.pow_succ, Nat.mul_two, zir]
theorem zis (n : Nat) : ∀ k, k <= n -> zdk n 1 k = kV n k
 | 0, _ => rfl
 | k + 1, h => by
  rw [zdk, kV, zis n k (by omega), Nat.add_comm 1 k]
  congr 1
  have h1 : Nat.ble (k + 1) n = true := Nat.ble_eq_true_of_le h;rw [h1, Bool.true_and]
  by_cases h2 : Nat.gcd (k + 1) n = 1
  ·rw [if_pos h2, h2]; rfl
  ·rw [if_neg h2]
   have : Nat.beq (Nat.gcd (k + 1) n) 1 = false := by
    cases h3 : Nat.beq (Nat.gcd (k + 1) n) 1
    ·rfl
    ·exact absurd (Nat.eq_of_beq_eq_true h3) h2
   rw [this]; rfl
theorem zf5 (n : Nat) : ∀ k, zdk n 1 (n + k) = kV n n
 | 0 => zis n n (Nat.le_refl _)
 | k + 1 => by
  rw [<- Nat.add_assoc, zdk, zf5 n k]
  have : Nat.ble (1 + (n + k)) n = false := by
   cases h : Nat.ble (1 + (n + k)) n
   ·rfl
   ·have := Nat.le_of_ble_eq_true h; omega
  rw [this]; rfl

def zox (q : Nat) : Nat -> Nat -> Nat
 | 0, _ => 0
 | k + 1, n => bif Nat.beq (n % q) 0 then zox q k (n / q) + 1 else 0
def znW : Nat -> Nat -> Nat -> List (Nat × Nat)
  | 0, _, _ => []
  | k + 1, n, q => bif Nat.ble n 1 then [] else bif Nat.blt n (q * q) then [(n, 1)] else
      bif Nat.beq (n % q) 0 then (q, zox q 15 n) :: znW k (n / q ^ zox q 15 n) (q + 1) else znW k n (q + 1)
def prC (l : Nat) : Bool := Nat.ble 2 l && Nat.ble l 20000 && (List.range 142).all fun d => Nat.ble d 1 || Nat.blt l (d * d) || !(Nat.beq (l % d) 0)
def znX : List (Nat × Nat) -> Bool
 | [] => true
 | x :: L => L.all (fun y => Nat.blt x.1 y.1) && znX L
def zoy (n : Nat) (L : List (Nat × Nat)) : Bool := Nat.beq (zq L) n && L.all (fun x => Nat.ble 1 x.2 && prC x.1) && znX L
def zoz (n : Nat) (L : List (Nat × Nat)) : Nat := L.foldl (fun c x => c / x.1 * (x.1 - 1)) n
def zdB : List Nat := [2, 3, 5, 7, 11, 13, 17, 19, 23, 29, 31, 37, 41, 43, 47, 53, 59, 61, 67, 71, 73, 79, 83, 89, 97]
def zmZ : Nat -> Nat -> Nat -> Nat
 | 0, j, _ => j
 | k + 1, j, n => bif Nat.ble n (2 ^ j) then j else zmZ k (j + 1) n
def zoA (n : Nat) : Bool := zoy n (znW 200 n 2) && Nat.ble n (2 ^ zmZ 15 0 n) && Nat.beq (zlk n 1 (zmZ 15 0 n)) (zoz n (znW 200 n 2))

theorem zoB {l : Nat} (h : prC l = true) : PrN l := by
 unfold prC at h;rw [Bool.and_eq_true, Bool.and_eq_true] at h;obtain ⟨⟨h1, h2⟩, h3⟩ := h;have h1 := Nat.le_of_ble_eq_true h1;have h2 := Nat.le_of_ble_eq_true h2
 have hn : ∀ d, 2 <= d -> d * d <= l -> ¬ d ∣ l := fun d h4 h5 h6 => by
  have hd : d < 142 := Nat.lt_of_not_le fun h7 => by have : 142 * 142 <= d * d := Nat.mul_le_mul h7 h7; omega
  have h8 := List.all_eq_true.1 h3 d (List.mem_range.2 hd);rw [Bool.or_eq_true, Bool.or_eq_true] at h8;rcases h8 with (h8 | h8) | h8
  ·have := Nat.le_of_ble_eq_true h8; omega
  ·have := Nat.le_of_ble_eq_true h8; omega
  ·rw [Nat.mod_eq_zero_of_dvd h6] at h8; cases h8
 refine ⟨h1, fun d hd => ?_⟩;apply Classical.byContradiction;intro hc;have hd1 : d ≠ 1 := fun e => hc (.inl e);have hd2 : d ≠ l := fun e => hc (.inr e);obtain ⟨c, hdc⟩ := hd;have hd0 : d ≠ 0 := fun e => by rw [e, Nat.zero_mul] at hdc; omega
 have hc1 : c ≠ 1 := fun e => hd2 (by rw [hdc, e, Nat.mul_one]);have hc0 : c ≠ 0 := fun e => by rw [e, Nat.mul_zero] at hdc; omega
 rcases Nat.le_total d c with h9 | h9
 ·exact hn d (by omega) (by rw [hdc]; exact Nat.mul_le_mul_left _ h9) ⟨c, hdc⟩
 ·exact hn c (by omega) (by rw [hdc]; exact Nat.mul_le_mul_right _ h9) ⟨d, by rw [Nat.mul_comm]; exact hdc⟩
theorem zkp : ∀ {L : List (Nat × Nat)}, znX L = true -> L.Pairwise fun x y => x.1 < y.1
 | [], _ => List.Pairwise.nil
 | x :: L, h => by
  rw [znX, Bool.and_eq_true] at h;exact List.pairwise_cons.2 ⟨fun y hy => Nat.le_of_ble_eq_true (List.all_eq_true.1 h.1 y hy), zkp h.2⟩
theorem znY {n : Nat} {L : List (Nat × Nat)} (h : zoy n L = true) : FacS n L := by
 unfold zoy at h;rw [Bool.and_eq_true, Bool.and_eq_true] at h;refine ⟨Nat.eq_of_beq_eq_true h.1.1, fun x hx => ?_, zkp h.2⟩;have h1 := List.all_eq_true.1 h.1.2 x hx;rw [Bool.and_eq_true] at h1;exact ⟨zoB h1.2, Nat.le_of_ble_eq_true h1.1⟩
theorem znZ : (zdB.all fun q => (List.range 14).all fun k => !(Nat.ble (q ^ (k + 1)) 20000) || zoA (q ^ (k + 1) - 1)) = true := by decide +kernel
theorem zjC : zO.all (fun q => decide (q.toNat ∈ zdB)) = true := by decide +kernel
theorem zoC {p : Int} (hp : p ∈ zO) {k : Nat} (hk : 1 <= k) (h : p.toNat ^ k <= 20000) : zoz (p.toNat ^ k - 1) (zlj (p.toNat ^ k - 1)) = kV (p.toNat ^ k - 1) (p.toNat ^ k - 1) := by
 have h1 : p.toNat ∈ zdB := of_decide_eq_true (List.all_eq_true.1 zjC p hp)
 have h2 : 2 <= p.toNat := by
  have : ∀ q ∈ zdB, 2 <= q := by decide
  exact this _ h1
 have hk2 : k < 15 := Nat.lt_of_not_le fun h3 => by
  have h4 : 2 ^ 15 <= p.toNat ^ k := Nat.le_trans (Nat.pow_le_pow_left h2 15) (Nat.pow_le_pow_right (by omega) h3);omega
 obtain ⟨j, rfl⟩ : ∃ j, k = j + 1 := ⟨k - 1, by omega⟩
 have h3 := List.all_eq_true.1 (List.all_eq_true.1 znZ _ h1) j (List.mem_range.2 (by omega));rw [Nat.ble_eq_true_of_le h] at h3;have h3 : zoA (p.toNat ^ (j + 1) - 1) = true := h3
 have h5 : 1 <= p.toNat ^ (j + 1) - 1 := by
  have : p.toNat ^ 1 <= p.toNat ^ (j + 1) := Nat.pow_le_pow_right (by omega) (by omega);rw [Nat.pow_one] at this; omega
 generalize p.toNat ^ (j + 1) - 1 = n at h3 h5 ⊢;unfold zoA at h3;rw [Bool.and_eq_true, Bool.and_eq_true] at h3;obtain ⟨⟨h6, h7⟩, h8⟩ := h3;rw [(zbU h5).unique (znY h6), <- Nat.eq_of_beq_eq_true h8, zgW];have h7 := Nat.le_of_ble_eq_true h7;rw [show 2 ^ zmZ 15 0 n = n + (2 ^ zmZ 15 0 n - n) by omega, zf5]

end Poly
namespace Poly
variable {p : Int} [SP p]

structure CofI (f h a b u v : Poly p) : Prop where
 a0 : a ≠ 0
 lt : dg b < dg a
 cop : Cop a b
 ua : f ∣ u * h - a
 vb : f ∣ v * h - b
 dv : dg v + dg a <= dg f + 1
 du : dg u + dg a <= dg f
end Poly
namespace Poly
variable {p : Int} [SP p]

noncomputable def frN (f X : Poly p) : Nat -> Poly p
 | 0 => X
 | k + 1 => rem (frN f X k ^ p.toNat) f
structure Per (f X : Poly p) (m : Nat) : Prop where
 pos : 0 < m
 back : frN f X m = X
 first : ∀ k, 0 < k -> k < m -> frN f X k ≠ X
end Poly
namespace Poly
variable {p : Int} [SP p]

theorem zjD (m n : Nat) : ∃ x y : Int, (Nat.gcd m n : Int) = m * x + n * y := by
 induction m, n using Nat.gcd.induction with
 | H0 n => exact ⟨0, 1, by simp⟩
 | H1 m n h ih =>
  obtain ⟨x, y, he⟩ := ih;rw [Nat.gcd_rec];refine ⟨y - (n / m : Nat) * x, x, ?_⟩;rw [he]
  have h1 : ((n % m : Nat) : Int) = n - m * (n / m : Nat) := by
   have := Nat.div_add_mod n m
   have h2 : (n : Int) = m * ((n / m : Nat) : Int) + ((n % m : Nat) : Int) := by
    rw [<- Int.natCast_mul, <- Int.natCast_add, this]
   omega
  rw [h1, Int.sub_mul, Int.mul_sub, Int.mul_assoc];omega
theorem zjE {m n : Nat} (hn : 0 < n) : ∃ s, m * s % n = Nat.gcd m n % n := by
 obtain ⟨x, y, he⟩ := zjD m n;have h0 : (n : Int) ≠ 0 := by omega
 refine ⟨(x % n).toNat, ?_⟩;have h1 : (((x % n).toNat : Nat) : Int) = x % n := Int.toNat_of_nonneg (Int.emod_nonneg _ h0)
 have h2 : ((m * (x % n).toNat % n : Nat) : Int) = ((Nat.gcd m n % n : Nat) : Int) := by
  rw [Int.natCast_emod, Int.natCast_emod, Int.natCast_mul, h1, he, Int.mul_emod, Int.emod_emod_of_dvd _ (Int.dvd_refl _), <- Int.mul_emod, Int.add_mul_emod_self_left]
 exact Int.ofNat.inj h2
theorem zit {f g : Poly p} {n : Nat} (h : One f g n) (u : Nat) : f ∣ g ^ u - g ^ (u % n) := by
 have h1 := h.mul (u / n);unfold One at h1;have h2 : g ^ u = g ^ (n * (u / n)) * g ^ (u % n) := by rw [<- pow_add, Nat.div_add_mod]
 rw [h2];have := dvd_mul_right (g ^ (u % n)) h1;rw [show (g ^ (n * (u / n)) - 1) * g ^ (u % n) = g ^ (n * (u / n)) * g ^ (u % n) - g ^ (u % n) from zh [g ^ (n * (u / n)), g ^ (u % n)] (by rfl)] at this;exact this
theorem zll {f g : Poly p} (hf : f ≠ 0) {n u v : Nat} (h : One f g n) (huv : u % n = v % n) : rem (g ^ u) f = rem (g ^ v) f := by
 rw [vn hf (zit h u), vn hf (zit h v), huv]

theorem zn0 {f X g : Poly p} (hi : Irr f) {d : Nat} (hd : dg f = d + 1) (hg : yh f g (p.toNat ^ d - 1)) (hX0 : X ≠ 0) (hX : dg X < dg f) {m : Nat} (hq : 0 < p.toNat ^ d - 1) :
  One f X ((p.toNat ^ d - 1) / Nat.gcd m (p.toNat ^ d - 1)) ↔ ∃ i, 1 <= i ∧ i <= p.toNat ^ d - 1 ∧ rem (zr p i ^ m) f = X := by
 have hf := hi.ne;have h2 := hi.1;have hgcd : 0 < Nat.gcd m (p.toNat ^ d - 1) := Nat.gcd_pos_of_pos_right _ hq;obtain ⟨v, hv⟩ : ∃ v, v = (p.toNat ^ d - 1) / Nat.gcd m (p.toNat ^ d - 1) := ⟨_, rfl⟩
 have hqv : p.toNat ^ d - 1 = Nat.gcd m (p.toNat ^ d - 1) * v := by rw [hv, Nat.mul_div_cancel' (Nat.gcd_dvd_right _ _)]
 rw [<- hv]
 constructor
 ·intro h;obtain ⟨a, _, ha⟩ := zjB hi hd hg hX0 (by omega);rw [ha, zgU h2, One.pow] at h;have h3 := hg.2.2 _ h
  have hvp : 0 < v := by
   rcases Nat.eq_zero_or_pos v with h0 | h0
   ·rw [h0, Nat.mul_zero] at hqv; omega
   ·exact h0
  have h4 : Nat.gcd m (p.toNat ^ d - 1) ∣ a := by
   obtain ⟨w, hw⟩ := h3;refine ⟨w, Nat.eq_of_mul_eq_mul_right hvp ?_⟩;rw [hw];have : (p.toNat ^ d - 1) * w = Nat.gcd m (p.toNat ^ d - 1) * v * w := by rw [<- hqv]
   rw [this, Nat.mul_assoc, Nat.mul_assoc, Nat.mul_comm v w]
  obtain ⟨b, hb⟩ := h4;obtain ⟨s, hs⟩ := zjE (m := m) hq
  have hY0 : rem (g ^ (s * b)) f ≠ 0 := fun e => by
   have h5 : f ∣ g ^ (s * b) := (vr hf).2 e;exact hg.ndvd hi (hi.pow h5)
  have hYd := zN (g ^ (s * b)) hf;have hn1 := zjz hY0;have hn2 := zmT (rem (g ^ (s * b)) f) (n := d) (by omega);refine ⟨nm (rem (g ^ (s * b)) f), hn1, by omega, ?_⟩;rw [zeM, zaQ hf, <- zdy, ha];refine zll hf hg.2.1 ?_;rw [show s * b * m = m * s * b by rw [Nat.mul_comm m s, Nat.mul_assoc, Nat.mul_assoc, Nat.mul_comm b m], Nat.mul_mod, hs, <- Nat.mul_mod, <- hb]
 ·rintro ⟨i, hi1, hi2, hX2⟩;have hY0 := xV (p := p) (n := i) (by omega);have hYd := jn (p := p) (n := d) (k := i) (by omega);have h3 := zaw hi (z8 hY0 (by omega)) hd;rw [<- hX2, zgU h2, One.pow];refine h3.of_dvd ?_;obtain ⟨m', hm'⟩ := Nat.gcd_dvd_left m (p.toNat ^ d - 1);refine ⟨m', ?_⟩;have e1 : m * v = Nat.gcd m (p.toNat ^ d - 1) * m' * v := by rw [<- hm']
  rw [e1, Nat.mul_assoc, Nat.mul_comm m' v, <- Nat.mul_assoc, <- hqv]

end Poly
end Go.Proofs.YtlmckocbhcpmdaaGreat
