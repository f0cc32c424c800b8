/- Plain mathematics of polynomials by a prime. No conditions. -/
import Derived.Test.YtlhgbljojdbhgaaGreatPd
namespace Go.Proofs.YtlhgbljojdbhgaaGreat
namespace Poly

structure FacS (n : Nat) (L : List (Nat × Nat)) : Prop where
 prod : prodN L = n
 pr : ∀ x ∈ L, PrN x.1 ∧ 1 ≤ x.2
 sort : L.Pairwise fun x y => x.1 < y.1
theorem FacS.fac {n : Nat} {L : List (Nat × Nat)} (h : FacS n L) : FacN n L := ⟨h.prod, h.pr, h.sort.imp fun h => Nat.ne_of_lt h⟩

theorem prodN_pos : ∀ {L : List (Nat × Nat)}, (∀ x ∈ L, PrN x.1 ∧ 1 ≤ x.2) → 0 < prodN L
 | [], _ => by decide
 | x :: L, h => by
  rw [prodN]
  exact Nat.mul_pos (Nat.pow_pos (by have := (h x (by simp)).1.1; omega)) (prodN_pos fun y hy => h y (by simp [hy]))
theorem prod_rest : ∀ {L : List (Nat × Nat)}, (∀ x ∈ L, PrN x.1 ∧ 1 ≤ x.2) → (L.Pairwise fun x y => x.1 ≠ y.1) → ∀ x ∈ L, ∃ m, prodN L = x.1 ^ x.2 * m ∧ ¬ x.1 ∣ m
 | [], _, _, x, hx => by simp at hx
 | y :: L, h1, h2, x, hx => by
  have h3 := List.pairwise_cons.1 h2
  have hy := (h1 y (by simp)).1
  have hL : ∀ z ∈ L, PrN z.1 ∧ 1 ≤ z.2 := fun z hz => h1 z (by simp [hz])
  rcases List.mem_cons.1 hx with rfl | hx
  ·refine ⟨prodN L, rfl, fun hd => ?_⟩
   obtain ⟨z, hz, h4⟩ := prodN_prime hy (fun z hz => (hL z hz).1) hd
   exact h3.1 z hz h4.symm
  ·obtain ⟨m, h4, h5⟩ := prod_rest hL h3.2 x hx
   refine ⟨y.1 ^ y.2 * m, by rw [prodN, h4, Nat.mul_left_comm], fun hd => ?_⟩
   have hxp := (hL x hx).1
   rcases hxp.mul hd with h6 | h6
   ·exact h3.1 x hx (hxp.eq hy (hxp.pow h6)).symm
   ·exact h5 h6
theorem FacN.rest {n : Nat} {L : List (Nat × Nat)} (h : FacN n L) {x : Nat × Nat} (hx : x ∈ L) : ∃ m, n = x.1 ^ x.2 * m ∧ ¬ x.1 ∣ m := by
 obtain ⟨m, h1, h2⟩ := prod_rest h.pr h.one x hx
 exact ⟨m, by rw [← h.prod, h1], h2⟩
theorem val_le {l a b m m' : Nat} (hl : 2 ≤ l) (h : l ^ a * m = l ^ b * m') (hm : ¬ l ∣ m) : b ≤ a := by
 apply Classical.byContradiction
 intro hc
 refine hm ⟨l ^ (b - a - 1) * m', ?_⟩
 have h1 : l ^ b = l ^ a * (l * l ^ (b - a - 1)) := by
  rw [← Nat.pow_succ', ← Nat.pow_add]; congr 1; omega
 rw [h1, Nat.mul_assoc] at h
 rw [Nat.eq_of_mul_eq_mul_left (Nat.pow_pos (by omega)) h, Nat.mul_assoc]
theorem FacS.mem {n : Nat} {L M : List (Nat × Nat)} (h : FacS n L) (k : FacS n M) {x : Nat × Nat} (hx : x ∈ L) : x ∈ M := by
 obtain ⟨hxp, hx1⟩ := h.pr x hx
 obtain ⟨m, h1, h2⟩ := h.fac.rest hx
 have hd : x.1 ∣ prodN M := by
  rw [k.prod, h1]
  obtain ⟨e, he⟩ : ∃ e, x.2 = e + 1 := ⟨x.2 - 1, by omega⟩
  rw [he, Nat.pow_succ, Nat.mul_right_comm]; exact Nat.dvd_mul_left _ _
 obtain ⟨y, hy, h3⟩ := prodN_prime hxp (fun y hy => (k.pr y hy).1) hd
 obtain ⟨m', h4, h5⟩ := k.fac.rest hy
 rw [h3] at h4 h5
 have h6 := val_le hxp.1 (h1 ▸ h4) h2
 have h7 := val_le hxp.1 (h4 ▸ h1) h5
 have : x = y := by
  cases x; cases y
  simp only [Prod.mk.injEq]
  exact ⟨h3.symm, by simp at h6 h7; omega⟩
 rw [this]; exact hy
theorem srt_nodup {L : List (Nat × Nat)} (h : L.Pairwise fun x y => x.1 < y.1) : L.Nodup := h.imp fun h e => by rw [e] at h; omega
theorem FacS.unique {n : Nat} {L M : List (Nat × Nat)} (h : FacS n L) (k : FacS n M) : L = M := by
 have hp : L.Perm M := perm_of (srt_nodup h.sort) (srt_nodup k.sort) (fun x hx => h.mem k hx) ((srt_nodup k.sort).length_le_of_subset fun x hx => k.mem h hx)
 exact List.Perm.eq_of_pairwise (le := fun x y : Nat × Nat => x.1 < y.1) (fun a b _ _ h1 h2 => by omega) h.sort k.sort hp

theorem exists_strip {l : Nat} (hl : 2 ≤ l) : ∀ n : Nat, 1 ≤ n → ∃ e m, n = l ^ e * m ∧ ¬ l ∣ m := by
 intro n
 induction n using Nat.strongRecOn with
 | ind n ih =>
  intro h
  by_cases hd : l ∣ n
  ·obtain ⟨k, rfl⟩ := hd
   have hk : 1 ≤ k := Nat.pos_of_ne_zero fun e => by subst e; omega
   have h2 : k * 2 ≤ l * k := by rw [Nat.mul_comm]; exact Nat.mul_le_mul_right _ hl
   obtain ⟨e, m, h1, h3⟩ := ih k (by omega) hk
   exact ⟨e + 1, m, by rw [Nat.pow_succ, Nat.mul_comm (l ^ e), Nat.mul_assoc, ← h1], h3⟩
  ·exact ⟨0, n, by simp, hd⟩
theorem prn_low {q n : Nat} (hq : 2 ≤ q) (hd : q ∣ n) (h : ∀ r, PrN r → r ∣ n → q ≤ r) : PrN q := by
 refine ⟨hq, fun d hdq => ?_⟩
 by_cases h1 : d = 1
 ·exact .inl h1
 ·refine .inr ?_
  have h0 : d ≠ 0 := fun e => by subst e; have := Nat.eq_zero_of_zero_dvd hdq; omega
  obtain ⟨r, hr, hrd⟩ := exists_prn d (by omega)
  have h2 := h r hr (Nat.dvd_trans hrd (Nat.dvd_trans hdq hd))
  have h3 := Nat.le_of_dvd (by omega) hrd
  have h4 := Nat.le_of_dvd (by omega) hdq
  omega
theorem facs_from : ∀ (k q n : Nat), 2 ≤ q → 1 ≤ n → n < q + k → (∀ r, PrN r → r ∣ n → q ≤ r) → ∃ L, FacS n L ∧ ∀ x ∈ L, q ≤ x.1
 | 0, q, n, hq, hn, hk, h => by
  have : n = 1 := Classical.byContradiction fun h1 => by
   obtain ⟨r, hr, hd⟩ := exists_prn n (by omega)
   have h2 := h r hr hd
   have h3 := Nat.le_of_dvd (by omega) hd
   omega
  subst this
  exact ⟨[], ⟨rfl, fun x hx => by simp at hx, List.Pairwise.nil⟩, fun x hx => by simp at hx⟩
 | k + 1, q, n, hq, hn, hk, h => by
  by_cases hd : q ∣ n
  ·have hp := prn_low hq hd h
   obtain ⟨e, m, h1, h2⟩ := exists_strip hq n hn
   have he : 1 ≤ e := Nat.pos_of_ne_zero fun e0 => by subst e0; rw [Nat.pow_zero, Nat.one_mul] at h1; exact h2 (h1 ▸ hd)
   have hm : 1 ≤ m := Nat.pos_of_ne_zero fun e0 => h2 (e0 ▸ Nat.dvd_zero _)
   have hmn : m ≤ n := Nat.le_of_dvd hn ⟨q ^ e, by rw [Nat.mul_comm]; exact h1⟩
   obtain ⟨L, h3, h4⟩ := facs_from k (q + 1) m (by omega) hm (by omega) (fun r hr hrd => by
    have h5 := h r hr (h1 ▸ Nat.dvd_trans hrd (Nat.dvd_mul_left _ _))
    rcases Nat.lt_or_eq_of_le h5 with h6 | h6
    ·omega
    ·exact absurd (h6 ▸ hrd) h2)
   refine ⟨(q, e) :: L, ⟨by rw [prodN, h3.prod]; exact h1.symm, fun x hx => ?_, List.pairwise_cons.2 ⟨fun x hx => h4 x hx, h3.sort⟩⟩, fun x hx => ?_⟩
   ·rcases List.mem_cons.1 hx with rfl | hx
    ·exact ⟨hp, he⟩
    ·exact h3.pr x hx
   ·rcases List.mem_cons.1 hx with rfl | hx
    ·exact Nat.le_refl _
    ·exact Nat.le_of_succ_le (h4 x hx)
  ·obtain ⟨L, h3, h4⟩ := facs_from k (q + 1) n (by omega) hn (by omega) (fun r hr hrd => by
    have h5 := h r hr hrd
    rcases Nat.lt_or_eq_of_le h5 with h6 | h6
    ·omega
    ·exact absurd (h6 ▸ hrd) hd)
   exact ⟨L, h3, fun x hx => Nat.le_of_succ_le (h4 x hx)⟩
theorem exists_facS {n : Nat} (h : 1 ≤ n) : ∃ L, FacS n L := by
 obtain ⟨L, h1, _⟩ := facs_from n 2 n (by omega) h (by omega) fun r hr _ => hr.1
 exact ⟨L, h1⟩
noncomputable def facL (n : Nat) : List (Nat × Nat) := if h : 1 ≤ n then (exists_facS h).choose else []
theorem facL_ok {n : Nat} (h : 1 ≤ n) : FacS n (facL n) := by unfold facL; rw [dif_pos h]; exact (exists_facS h).choose_spec

/- a search for factors that goes up -/
theorem FacS.tail {n : Nat} {x : Nat × Nat} {L : List (Nat × Nat)} (h : FacS n (x :: L)) : FacS (prodN L) L :=
 ⟨rfl, fun y hy => h.pr y (by simp [hy]), (List.pairwise_cons.1 h.sort).2⟩
theorem FacS.low {n q : Nat} {L : List (Nat × Nat)} (h : FacS n L) (hq : ∀ x ∈ L, q ≤ x.1) {r : Nat} (hr : PrN r) (hd : r ∣ n) : q ≤ r := by
 obtain ⟨x, hx, h1⟩ := prodN_prime hr (fun x hx => (h.pr x hx).1) (h.prod ▸ hd)
 exact h1 ▸ hq x hx
theorem FacS.next {n q : Nat} {L : List (Nat × Nat)} (h : FacS n L) (h2 : 2 ≤ q) (hq : ∀ x ∈ L, q ≤ x.1) :
  (∃ e M, L = (q, e) :: M ∧ 1 ≤ e ∧ FacS (prodN M) M ∧ n = q ^ e * prodN M ∧ ¬ q ∣ prodN M ∧ ∀ x ∈ M, q + 1 ≤ x.1) ∨ (¬ q ∣ n ∧ ∀ x ∈ L, q + 1 ≤ x.1) := by
 by_cases hd : q ∣ n
 ·left
  have hp := prn_low h2 hd fun r hr hrd => h.low hq hr hrd
  obtain ⟨x, hx, h1⟩ := prodN_prime hp (fun x hx => (h.pr x hx).1) (h.prod ▸ hd)
  cases L with
  | nil => simp at hx
  | cons y M =>
   have h3 := List.pairwise_cons.1 h.sort
   have h4 : y.1 = q := by
    rcases List.mem_cons.1 hx with rfl | hx
    ·exact h1
    ·have := h3.1 x hx; have := hq y (by simp); omega
   refine ⟨y.2, M, by rw [← h4], (h.pr y (by simp)).2, h.tail, by rw [← h4, ← h.prod]; rfl, fun hd => ?_, fun x hx => by have := h3.1 x hx; omega⟩
   obtain ⟨z, hz, h5⟩ := prodN_prime hp (fun x hx => (h.pr x (by simp [hx])).1) hd
   have := h3.1 z hz; omega
 ·right
  refine ⟨hd, fun x hx => ?_⟩
  rcases Nat.lt_or_eq_of_le (hq x hx) with h5 | h5
  ·exact h5
  ·exfalso
   refine hd ?_
   rw [h5, ← h.prod]
   refine Nat.dvd_trans ?_ (prodN_dvd hx)
   obtain ⟨e, he⟩ : ∃ e, x.2 = e + 1 := ⟨x.2 - 1, by have := (h.pr x hx).2; omega⟩
   rw [he, Nat.pow_succ]; exact Nat.dvd_mul_left _ _
theorem FacS.next' {n q : Nat} {L : List (Nat × Nat)} (h : FacS n L) (h2 : 2 ≤ q) (hq : ∀ x ∈ L, q ≤ x.1) :
  ∃ k M, n = q ^ k * prodN M ∧ ¬ q ∣ prodN M ∧ FacS (prodN M) M ∧ (∀ x ∈ M, q + 1 ≤ x.1) ∧ L = if k = 0 then M else (q, k) :: M := by
 rcases h.next h2 hq with ⟨e, M, h1, h3, h4, h5, h6, h7⟩ | ⟨h1, h3⟩
 ·exact ⟨e, M, h5, h6, h4, h7, by rw [if_neg (by omega)]; exact h1⟩
 ·exact ⟨0, L, by rw [Nat.pow_zero, Nat.one_mul, h.prod], h.prod.symm ▸ h1, h.prod.symm ▸ h, h3, by rw [if_pos rfl]⟩
theorem prodN_append : ∀ A M : List (Nat × Nat), prodN (A ++ M) = prodN A * prodN M
 | [], M => by rw [List.nil_append, prodN, Nat.one_mul]
 | x :: A, M => by rw [List.cons_append, prodN, prodN, prodN_append A M, Nat.mul_assoc]
theorem prodN_len : ∀ {L : List (Nat × Nat)}, (∀ x ∈ L, PrN x.1 ∧ 1 ≤ x.2) → L.length + 1 ≤ prodN L
 | [], _ => Nat.le_refl _
 | x :: L, h => by
  have h1 := prodN_len (L := L) fun y hy => h y (by simp [hy])
  obtain ⟨h2, h3⟩ := h x (by simp)
  have h4 : x.1 ^ 1 ≤ x.1 ^ x.2 := Nat.pow_le_pow_right (by have := h2.1; omega) h3
  rw [Nat.pow_one] at h4
  have h5 : 2 * prodN L ≤ x.1 ^ x.2 * prodN L := Nat.mul_le_mul_right _ (by have := h2.1; omega)
  rw [prodN, List.length_cons]; omega
theorem strip_mod {q a P : Nat} (_hq : 2 ≤ q) (hP : ¬ q ∣ P) : (q ^ a * P) % q = 0 ↔ 0 < a := by
 constructor
 ·intro h
  refine Nat.pos_of_ne_zero fun e => ?_
  subst e
  rw [Nat.pow_zero, Nat.one_mul] at h
  exact hP (Nat.dvd_of_mod_eq_zero h)
 ·intro h
  obtain ⟨b, rfl⟩ : ∃ b, a = b + 1 := ⟨a - 1, by omega⟩
  rw [Nat.pow_succ, Nat.mul_right_comm]; exact Nat.mul_mod_left ..
theorem strip_div {q a P : Nat} (hq : 2 ≤ q) (ha : 0 < a) : q ^ a * P / q = q ^ (a - 1) * P := by
 obtain ⟨b, rfl⟩ : ∃ b, a = b + 1 := ⟨a - 1, by omega⟩
 rw [Nat.pow_succ, Nat.mul_right_comm, Nat.mul_div_cancel _ (by omega), Nat.add_sub_cancel]

theorem FacS.last {n q : Nat} {L : List (Nat × Nat)} (h : FacS n L) (hq : ∀ x ∈ L, q ≤ x.1) (hn : 1 < n) (hs : n < q * q) : L = [(n, 1)] := by
 have hpn : PrN n := by
  refine ⟨by omega, fun d hd => ?_⟩
  apply Classical.byContradiction
  intro hc
  have h1 : d ≠ 1 := fun e => hc (.inl e)
  have h2 : d ≠ n := fun e => hc (.inr e)
  obtain ⟨c, hdc⟩ := hd
  have hd0 : d ≠ 0 := fun e => by rw [e, Nat.zero_mul] at hdc; omega
  have hc1 : c ≠ 1 := fun e => h2 (by rw [hdc, e, Nat.mul_one])
  have hc0 : c ≠ 0 := fun e => by rw [e, Nat.mul_zero] at hdc; omega
  obtain ⟨r, hr, hrd⟩ := exists_prn d (by omega)
  obtain ⟨s, hs', hsd⟩ := exists_prn c (by omega)
  have h3 := h.low hq hr (Nat.dvd_trans hrd ⟨c, hdc⟩)
  have h4 := h.low hq hs' (Nat.dvd_trans hsd ⟨d, by rw [Nat.mul_comm]; exact hdc⟩)
  have h5 := Nat.le_of_dvd (by omega) hrd
  have h6 := Nat.le_of_dvd (by omega) hsd
  have h7 : q * q ≤ d * c := Nat.mul_le_mul (by omega) (by omega)
  omega
 exact h.unique ⟨by simp [prodN], fun x hx => by simp at hx; subst hx; exact ⟨hpn, Nat.le_refl _⟩, List.pairwise_singleton ..⟩

/- orders, by steps down -/
structure OrdI {p : Int} [SP p] (f x : Poly p) (n : Nat) (L : List (Nat × Nat)) (i e : Nat) : Prop where
 pos : 0 < e
 dvd : e ∣ n
 one : One f x e
 todo : ∀ y ∈ L.drop i, y.1 ^ y.2 ∣ e
 done : ∀ y ∈ L.take i, y.1 ∣ e → ¬ One f x (e / y.1)
theorem OrdI.start {p : Int} [SP p] {f x : Poly p} {n : Nat} {L : List (Nat × Nat)} (hL : FacS n L) (hn : 1 ≤ n) (h : One f x n) : OrdI f x n L 0 n :=
 ⟨hn, Nat.dvd_refl n, h, fun y hy => by rw [← hL.prod]; exact prodN_dvd (by simpa using hy), fun y hy => by simp at hy⟩
theorem OrdI.fin {p : Int} [SP p] {f x : Poly p} {n e : Nat} {L : List (Nat × Nat)} (h : OrdI f x n L L.length e) (hL : FacS n L) : IsOrd f x e :=
 ord_of h.pos h.one fun l hl hd => by
  obtain ⟨y, hy, h1⟩ := prodN_prime hl (fun y hy => (hL.pr y hy).1) (hL.prod ▸ Nat.dvd_trans hd h.dvd)
  exact h1 ▸ h.done y (by simpa using hy) (h1 ▸ hd)
theorem div_dvd_div {a b l : Nat} (hl : 0 < l) (h1 : l ∣ a) (h : a ∣ b) : a / l ∣ b / l := by
 obtain ⟨c, rfl⟩ := h1
 obtain ⟨d, rfl⟩ := h
 rw [Nat.mul_assoc, Nat.mul_div_cancel_left _ hl, Nat.mul_div_cancel_left _ hl]
 exact Nat.dvd_mul_right _ _
structure OrdJ {p : Int} [SP p] (f x : Poly p) (n : Nat) (L : List (Nat × Nat)) (i : Nat) (l k j e : Nat) : Prop where
 pos : 0 < e
 dvd : e ∣ n
 one : One f x e
 todo : ∀ y ∈ L.drop (i + 1), y.1 ^ y.2 ∣ e
 done : ∀ y ∈ L.take i, y.1 ∣ e → ¬ One f x (e / y.1)
 at_ : (∃ m, e = l ^ (k - j) * m ∧ ¬ l ∣ m ∧ j ≤ k) ∨ ¬ One f x (e / l)
theorem drop_cons {L : List (Nat × Nat)} {i : Nat} (h : i < L.length) : L.drop i = L[i] :: L.drop (i + 1) := List.drop_eq_getElem_cons h
theorem OrdI.enter {p : Int} [SP p] {f x : Poly p} {n i e : Nat} {L : List (Nat × Nat)} (h : OrdI f x n L i e) (hL : FacS n L) (hi : i < L.length) : OrdJ f x n L i L[i].1 L[i].2 0 e := by
 refine ⟨h.pos, h.dvd, h.one, fun y hy => h.todo y (by rw [drop_cons hi]; exact List.mem_cons_of_mem _ hy), h.done, .inl ?_⟩
 obtain ⟨c, hc⟩ := h.todo L[i] (by rw [drop_cons hi]; exact List.mem_cons_self)
 obtain ⟨m, h1, h2⟩ := hL.fac.rest (List.getElem_mem hi)
 refine ⟨c, hc, fun hd => h2 ?_, Nat.zero_le _⟩
 have h3 := h.dvd
 rw [hc, h1] at h3
 exact Nat.dvd_trans hd (Nat.dvd_of_mul_dvd_mul_left (Nat.pow_pos (by have := (hL.pr _ (List.getElem_mem hi)).1.1; omega)) h3)
theorem OrdJ.leave {p : Int} [SP p] {f x : Poly p} {n i e : Nat} {L : List (Nat × Nat)} (hi : i < L.length) (h : OrdJ f x n L i L[i].1 L[i].2 L[i].2 e) : OrdI f x n L (i + 1) e := by
 refine ⟨h.pos, h.dvd, h.one, h.todo, fun y hy hd => ?_⟩
 rw [List.take_succ_eq_append_getElem hi] at hy
 rcases List.mem_append.1 hy with hy | hy
 ·exact h.done y hy hd
 ·have hy : y = L[i] := by simpa using hy
  subst hy
  rcases h.at_ with ⟨m, h1, h2, _⟩ | h1
  ·rw [Nat.sub_self, Nat.pow_zero, Nat.one_mul] at h1
   exact absurd (h1 ▸ hd) h2
  ·exact h1
theorem OrdJ.stop {p : Int} [SP p] {f x : Poly p} {n i e j j' k l : Nat} {L : List (Nat × Nat)} (h : OrdJ f x n L i l k j e) (hn : ¬ One f x (e / l)) : OrdJ f x n L i l k j' e :=
 ⟨h.pos, h.dvd, h.one, h.todo, h.done, .inr hn⟩
theorem OrdJ.over {p : Int} [SP p] {f x : Poly p} {n i e j k l : Nat} {L : List (Nat × Nat)} (h : OrdJ f x n L i l k j e) (hn : ¬ l ∣ e) : OrdJ f x n L i l k k e := by
 refine ⟨h.pos, h.dvd, h.one, h.todo, h.done, ?_⟩
 rcases h.at_ with ⟨m, h1, h2, h3⟩ | h1
 ·have h4 : k - j = 0 := Nat.eq_zero_of_not_pos fun h5 => hn (by
   obtain ⟨c, hc⟩ : ∃ c, k - j = c + 1 := ⟨k - j - 1, by omega⟩
   rw [h1, hc, Nat.pow_succ, Nat.mul_right_comm]; exact Nat.dvd_mul_left _ _)
  rw [h4] at h1
  exact .inl ⟨m, by rw [Nat.sub_self]; exact h1, h2, Nat.le_refl _⟩
 ·exact .inr h1
theorem OrdJ.step {p : Int} [SP p] {f x : Poly p} {n i e j : Nat} {L : List (Nat × Nat)} (hL : FacS n L) (hi : i < L.length) (h : OrdJ f x n L i L[i].1 L[i].2 j e) (hj : j < L[i].2) (ho : One f x (e / L[i].1)) :
  L[i].1 ∣ e ∧ OrdJ f x n L i L[i].1 L[i].2 (j + 1) (e / L[i].1) := by
 obtain ⟨hp, _⟩ := hL.pr _ (List.getElem_mem hi)
 have hp2 := hp.1
 obtain ⟨m, h1, h2, h3⟩ := h.at_.resolve_right fun h1 => h1 ho
 obtain ⟨c, hc⟩ : ∃ c, L[i].2 - j = c + 1 := ⟨L[i].2 - j - 1, by omega⟩
 have h4 : e = L[i].1 * (L[i].1 ^ c * m) := by rw [h1, hc, Nat.pow_succ, Nat.mul_comm (L[i].1 ^ c), Nat.mul_assoc]
 have h5 : e / L[i].1 = L[i].1 ^ c * m := by
  have h6 : L[i].1 * (L[i].1 ^ c * m) / L[i].1 = L[i].1 ^ c * m := Nat.mul_div_cancel_left _ (by omega)
  rw [← h4] at h6; exact h6
 have hd : L[i].1 ∣ e := ⟨_, h4⟩
 have hde : e / L[i].1 ∣ e := Nat.div_dvd_of_dvd hd
 refine ⟨hd, Nat.div_pos (Nat.le_of_dvd h.pos hd) (by omega), Nat.dvd_trans hde h.dvd, ho, fun y hy => ?_, fun y hy hyd => ?_, .inl ⟨m, by rw [h5, show L[i].2 - (j + 1) = c by omega], h2, by omega⟩⟩
 ·have h7 := h.todo y hy
  rw [h4] at h7
  rw [h5]
  have hyL : y ∈ L := List.mem_of_mem_drop hy
  have hlt : L[i].1 < y.1 := by
   have := hL.sort.drop (i := i)
   rw [drop_cons hi] at this
   exact (List.pairwise_cons.1 this).1 y hy
  have hy1 := (hL.pr y hyL).1
  exact (pow_cop hy1 (fun hd => by have := hy1.eq hp hd; omega) _).dvd_of_dvd_mul_left h7
 ·refine fun h8 => h.done y hy (Nat.dvd_trans hyd hde) (h8.of_dvd ?_)
  exact div_dvd_div (by have := (hL.pr y (List.mem_of_mem_take hy)).1.1; omega) hyd hde

end Poly
namespace Poly

end Poly
namespace Poly
variable {p : Int} [SP p]

theorem Cop.rem {f h : Poly p} (hc : Cop f h) : Cop f (rem h f) := by
 obtain ⟨a, b, e⟩ := hc
 have h1 := div_eq h f
 exact ⟨a + b * quo h f, b, comb 1 e (comb (-b) h1 (ring [a, b, f, h, quo h f, Poly.rem h f] (by rfl)))⟩
theorem Cop.step {a b : Poly p} (h : Cop a b) : Cop b (Poly.rem a b) := by
 have h1 := h.symm.rem
 exact h1
theorem Cop.unit {a : Poly p} (h : Cop a 0) : dg a = 1 := by
 obtain ⟨u, v, e⟩ := h
 exact dvd_unit dg_one ⟨u, comb (-1) e (ring [u, v, a] (by rfl))⟩
theorem quo_dg {a b : Poly p} (_ha : a ≠ 0) (hb : b ≠ 0) (hl : dg b ≤ dg a) : dg (quo a b) + dg b = dg a + 1 := by
 have h1 := div_eq a b
 have h2 := rem_lt a hb
 have hq : quo a b ≠ 0 := fun e => by
  rw [e, show (0 : Poly p) * b + Poly.rem a b = Poly.rem a b from ring [b, Poly.rem a b] (by rfl)] at h1
  rw [← h1] at h2; omega
 have h3 := dg_mul hq hb
 have hd : dg (quo a b) ≠ 0 := fun e => hq (dg_eq_zero.1 e)
 have hb0 : dg b ≠ 0 := fun e => hb (dg_eq_zero.1 e)
 have h4 : dg a ≤ max (dg (quo a b * b)) (dg (Poly.rem a b)) := by
  have := dg_add (quo a b * b) (Poly.rem a b)
  rw [← h1] at this; exact this
 have h5 : dg (quo a b * b) ≤ max (dg a) (dg (Poly.rem a b)) := by
  have := dg_sub a (Poly.rem a b)
  rwa [show a - Poly.rem a b = quo a b * b from comb 1 h1 (ring [a, b, quo a b, Poly.rem a b] (by rfl))] at this
 omega

structure CofI (f h a b u v : Poly p) : Prop where
 a0 : a ≠ 0
 lt : dg b < dg a
 cop : Cop a b
 ua : f ∣ u * h - a
 vb : f ∣ v * h - b
 dv : dg v + dg a ≤ dg f + 1
 du : dg u + dg a ≤ dg f
theorem CofI.start {f h : Poly p} (hf : f ≠ 0) (hc : Cop f h) : CofI f h f (rem h f) 0 1 := by
 refine ⟨hf, rem_lt h hf, hc.rem, ⟨-1, ring [f, h] (by rfl)⟩, ?_, by rw [dg_one]; omega, by rw [dg_zero]; omega⟩
 rw [CR.one_mul]; exact sub_rem_dvd h f
theorem CofI.step {f h a b u v : Poly p} (k : CofI f h a b u v) (hb : b ≠ 0) : CofI f h b (rem a b) v (u - quo a b * v) := by
 have h1 := quo_dg k.a0 hb (Nat.le_of_lt k.lt)
 have h2 := rem_lt a hb
 have h3 := div_eq a b
 have hv := k.dv
 have hu := k.du
 have hlt := k.lt
 refine ⟨hb, h2, k.cop.step, k.vb, ?_, ?_, by omega⟩
 ·have h4 := dvd_sub k.ua (dvd_mul_left (quo a b) k.vb)
  rwa [show u * h - a - quo a b * (v * h - b) = (u - quo a b * v) * h - rem a b from comb (-1) h3 (ring [u, v, h, a, b, quo a b, rem a b] (by rfl))] at h4
 ·have h5 := dg_sub u (quo a b * v)
  have h6 := dg_mul_le (quo a b) v
  omega
theorem CofI.few {f h a b u v : Poly p} (k : CofI f h a b u v) : dg u ≤ dg f ∧ dg v ≤ dg f ∧ dg a ≤ dg f ∧ dg b ≤ dg f := by
 have h1 := k.dv
 have h2 := k.du
 have h3 := k.lt
 omega
theorem CofI.fin {f h a u v : Poly p} (k : CofI f h a 0 u v) {c : Int} (hc : cf a.l 0 * c % p = 1) : dg (u * con p c) < dg f ∧ f ∣ h * (u * con p c) - 1 := by
 have h1 := k.cop.unit
 have h2 := is_con (f := a) (by omega)
 have h3 := k.du
 refine ⟨by have := dg_mul_le u (con p c); have := con_dg (p := p) c; omega, ?_⟩
 have h4 := dvd_mul_right (con p c) k.ua
 have h5 : a * con p c = 1 := by
  rw [h2, con_mul, ← con_mod, hc]; rfl
 rwa [show (u * h - a) * con p c = h * (u * con p c) - 1 from comb (-1) h5 (ring [u, h, a, con p c] (by rfl))] at h4

end Poly
namespace Poly
variable {p : Int} [SP p]

noncomputable def frN (f X : Poly p) : Nat → Poly p
 | 0 => X
 | k + 1 => rem (frN f X k ^ p.toNat) f
theorem frN_add (f X : Poly p) (a : Nat) : ∀ b, frN f X (a + b) = frN f (frN f X a) b
 | 0 => rfl
 | b + 1 => by rw [← Nat.add_assoc, frN, frN, frN_add f X a b]
structure Per (f X : Poly p) (m : Nat) : Prop where
 pos : 0 < m
 back : frN f X m = X
 first : ∀ k, 0 < k → k < m → frN f X k ≠ X
theorem Per.mul {f X : Poly p} {m : Nat} (h : Per f X m) : ∀ k, frN f X (m * k) = X
 | 0 => rfl
 | k + 1 => by rw [Nat.mul_succ, frN_add, h.mul k, h.back]
end Poly
namespace Poly

def hl (P C : Nat) : List Nat → Nat
 | [] => 0
 | a :: l => (a + hl P C l * C) % P
def hq (P B C : Nat) : List Nat → Nat × Nat
 | [] => (0, 0)
 | a :: l => let s := hq P B C l; ((a + s.2 * C) % P, (s.1 + s.2 * B) % P)
def upto (n : Nat) (f : Nat → Bool) : Bool := match n with
 | 0 => true
 | n + 1 => f n && upto n f
theorem upto_spec {f : Nat → Bool} : ∀ {n : Nat}, upto n f = true → ∀ i, i < n → f i = true
 | 0, _, i, hi => by omega
 | n + 1, h, i, hi => by
  unfold upto at h
  rw [Bool.and_eq_true] at h
  rcases Nat.lt_or_ge i n with h1 | h1
  ·exact upto_spec h.2 i h1
  ·obtain rfl : i = n := by omega
   exact h.1
def exL (P : Nat) (l : List Nat) : Bool := upto P fun C => !(Nat.beq (hl P C l) 0)
def exQ (P : Nat) (l : List Nat) : Bool := upto P fun B => upto P fun C => !(Nat.beq (hq P B C l).1 0 && Nat.beq (hq P B C l).2 0)
def exT : List (Nat × List (List Nat)) := [(2, [[1, 1, 1], [1, 1, 0, 1], [1, 1, 0, 0, 1]]), (3, [[1, 0, 1], [1, 2, 0, 1], [2, 1, 0, 0, 1]]), (5, [[2, 0, 1], [1, 1, 0, 1], [2, 0, 0, 0, 1]]), (7, [[1, 0, 1], [2, 0, 0, 1], [1, 1, 0, 0, 1]]), (11, [[1, 0, 1], [4, 1, 0, 1], [2, 1, 0, 0, 1]]), (13, [[2, 0, 1], [2, 0, 0, 1], [2, 0, 0, 0, 1]]), (17, [[3, 0, 1], [3, 1, 0, 1], [3, 0, 0, 0, 1]]), (19, [[1, 0, 1], [2, 0, 0, 1], [8, 1, 0, 0, 1]]), (23, [[1, 0, 1], [3, 1, 0, 1], [2, 1, 0, 0, 1]]), (29, [[2, 0, 1], [4, 1, 0, 1], [2, 0, 0, 0, 1]]), (31, [[1, 0, 1], [3, 0, 0, 1], [1, 1, 0, 0, 1]]), (37, [[2, 0, 1], [2, 0, 0, 1], [2, 0, 0, 0, 1]]), (41, [[3, 0, 1], [1, 1, 0, 1], [3, 0, 0, 0, 1]]), (43, [[1, 0, 1], [3, 0, 0, 1], [3, 1, 0, 0, 1]]), (47, [[1, 0, 1], [4, 1, 0, 1], [5, 1, 0, 0, 1]]), (53, [[2, 0, 1], [5, 1, 0, 1], [2, 0, 0, 0, 1]]), (59, [[1, 0, 1], [1, 1, 0, 1], [1, 1, 0, 0, 1]]), (61, [[2, 0, 1], [2, 0, 0, 1], [2, 0, 0, 0, 1]]), (67, [[1, 0, 1], [2, 0, 0, 1], [1, 1, 0, 0, 1]]), (71, [[1, 0, 1], [1, 1, 0, 1], [2, 1, 0, 0, 1]]), (73, [[5, 0, 1], [2, 0, 0, 1], [5, 0, 0, 0, 1]]), (79, [[1, 0, 1], [2, 0, 0, 1], [3, 1, 0, 0, 1]]), (83, [[1, 0, 1], [5, 1, 0, 1], [3, 1, 0, 0, 1]]), (89, [[3, 0, 1], [4, 1, 0, 1], [3, 0, 0, 0, 1]]), (97, [[5, 0, 1], [2, 0, 0, 1], [5, 0, 0, 0, 1]])]
def exR (x : Nat × List (List Nat)) : Bool := match x.2 with
 | [a, b, c] => Nat.beq a.length 3 && Nat.beq b.length 4 && Nat.beq c.length 5 && Nat.beq (a.getD 2 0) 1 && Nat.beq (b.getD 3 0) 1 && Nat.beq (c.getD 4 0) 1 && exL x.1 a && exL x.1 b && exL x.1 c && exQ x.1 c
 | _ => false
set_option maxRecDepth 100000 in
theorem exT_ok : exT.all exR = true := by decide +kernel

section
variable {p : Int} [SP p]
def natL : List Nat → List Int
 | [] => []
 | a :: l => (a : Int) :: natL l
theorem natL_length : ∀ l, (natL l).length = l.length
 | [] => rfl
 | _ :: l => by rw [natL, List.length_cons, List.length_cons, natL_length l]
theorem cf_natL : ∀ (l : List Nat) (i : Nat), cf (natL l) i = (l.getD i 0 : Nat)
 | [], i => by simp [natL, cf]
 | a :: l, 0 => rfl
 | a :: l, i + 1 => by
  have := cf_natL l i
  simpa [natL, cf] using this
theorem of_nil : of p [] = 0 := ext_cf fun i => by rw [cf_of, cf_zero, cf_nil]; rfl
theorem of_cons (c : Int) (l : List Int) : of p (c :: l) = con p c + X p * of p l := by
 refine ext_cf fun i => ?_
 rw [cf_of, cf_add, cf_con, show X p = mono p 1 1 from rfl, cf_mono_mul]
 cases i with
 | zero => rw [cf_cons_zero, if_pos rfl, if_neg (by omega)]; simp
 | succ i => rw [cf_cons_succ, if_neg (by omega), if_pos (by omega), Nat.add_sub_cancel, cf_of]; simp
theorem con_nat {P : Nat} (hP : (P : Int) = p) (a : Nat) : con p ((a % P : Nat) : Int) = con p (a : Int) := by
 rw [Int.natCast_emod, hP, con_mod]
theorem hl_dvd {P : Nat} (hP : (P : Int) = p) (C : Nat) : ∀ l, X p - con p C ∣ of p (natL l) - con p (hl P C l : Nat)
 | [] => ⟨0, by rw [natL, hl, of_nil, show ((0 : Nat) : Int) = 0 from rfl, con_zero]; exact ring [X p, con p C] (by rfl)⟩
 | a :: l => by
  obtain ⟨k, hk⟩ := hl_dvd hP C l
  rw [natL, hl, con_nat hP, of_cons, Int.natCast_add, Int.natCast_mul, ← con_add, ← con_mul]
  refine ⟨X p * k + con p (hl P C l), ?_⟩
  have e : con p a + X p * of p (natL l) - (con p a + con p (hl P C l) * con p C) = X p * (of p (natL l) - con p (hl P C l)) + con p (hl P C l) * (X p - con p C) := ring [con p a, X p, of p (natL l), con p (hl P C l), con p C] (by rfl)
  rw [e, hk]; exact ring [X p, con p C, k, con p (hl P C l)] (by rfl)
theorem hq_dvd {P : Nat} (hP : (P : Int) = p) (B C : Nat) : ∀ l, X p * X p - con p B * X p - con p C ∣ of p (natL l) - (con p ((hq P B C l).1 : Nat) + X p * con p ((hq P B C l).2 : Nat))
 | [] => ⟨0, by rw [natL, hq, of_nil]; dsimp only; rw [show ((0 : Nat) : Int) = 0 from rfl, con_zero]; exact ring [X p, con p B, con p C] (by rfl)⟩
 | a :: l => by
  obtain ⟨k, hk⟩ := hq_dvd hP B C l
  rw [natL, hq]
  dsimp only
  generalize (hq P B C l).1 = v at hk ⊢
  generalize (hq P B C l).2 = u at hk ⊢
  rw [con_nat hP, con_nat hP, of_cons, Int.natCast_add, Int.natCast_add, Int.natCast_mul, Int.natCast_mul, ← con_add, ← con_add, ← con_mul, ← con_mul]
  refine ⟨X p * k + con p u, ?_⟩
  have e : con p a + X p * of p (natL l) - (con p a + con p u * con p C + X p * (con p v + con p u * con p B)) = X p * (of p (natL l) - (con p v + X p * con p u)) + con p u * (X p * X p - con p B * X p - con p C) := ring [con p a, X p, of p (natL l), con p u, con p C, con p v, con p B] (by rfl)
  rw [e, hk]; exact ring [X p, con p B, con p C, k, con p u] (by rfl)
theorem hl_lt {P : Nat} (hP : 0 < P) (C : Nat) : ∀ l, hl P C l < P
 | [] => hP
 | _ :: _ => Nat.mod_lt _ hP
theorem hq_lt {P : Nat} (hP : 0 < P) (B C : Nat) : ∀ l, (hq P B C l).1 < P ∧ (hq P B C l).2 < P
 | [] => ⟨hP, hP⟩
 | _ :: _ => ⟨Nat.mod_lt _ hP, Nat.mod_lt _ hP⟩

theorem irr_of {f : Poly p} (h2 : 2 ≤ dg f) (h5 : dg f ≤ 5) (h : ∀ g : Poly p, Mon g → g ∣ f → 2 ≤ dg g → 2 * dg g ≤ dg f + 1 → False) : Irr f := by
 refine ⟨h2, fun a b e => ?_⟩
 have hf : f ≠ 0 := fun e => by rw [e, dg_zero] at h2; omega
 have ha0 : a ≠ 0 := fun e' => hf (by rw [e, e']; exact ring [b] (by rfl))
 have hb0 : b ≠ 0 := fun e' => hf (by rw [e, e']; exact ring [a] (by rfl))
 have h3 := dg_mul ha0 hb0
 rw [← e] at h3
 have h4 : dg a ≠ 0 := fun e => ha0 (dg_eq_zero.1 e)
 have h5 : dg b ≠ 0 := fun e => hb0 (dg_eq_zero.1 e)
 have key : ∀ c : Poly p, c ≠ 0 → c ∣ f → 2 ≤ dg c → 2 * dg c ≤ dg f + 1 → False := fun c hc0 hc h6 h7 => by
  obtain ⟨g, hg1, hg2, hg3⟩ := exists_irr _ c (Nat.le_refl _) h6
  have := dvd_dg hg3 hc0
  exact h g hg2 (dvd_trans hg3 hc) hg1.1 (by omega)
 rcases Nat.lt_or_ge (dg f + 1) (2 * dg a) with h6 | h6
 ·refine .inr (Classical.byContradiction fun h7 => key b hb0 ⟨a, by rw [e]; exact ring [a, b] (by rfl)⟩ (by omega) (by omega))
 ·refine .inl (Classical.byContradiction fun h7 => key a ha0 ⟨b, e⟩ (by omega) h6)
theorem con_negN {P : Nat} (hP : (P : Int) = p) (a : Int) : ∃ C : Nat, C < P ∧ con p (C : Int) = 0 - con p a := by
 have hp := Pr.two (p := p)
 have h1 := Int.emod_nonneg (-a) (show p ≠ 0 by omega)
 have h2 := Int.emod_lt_of_pos (-a) (show 0 < p by omega)
 refine ⟨((-a) % p).toNat, by omega, ?_⟩
 rw [Int.toNat_of_nonneg h1, con_mod, ← con_zero, con_sub, Int.zero_sub]
theorem mon_two {g : Poly p} (hm : Mon g) (hd : dg g = 2) {P : Nat} (hP : (P : Int) = p) : ∃ C : Nat, C < P ∧ g = X p - con p C := by
 have h1 : cf g.l (dg g - 1) = 1 := hm.2
 rw [hd] at h1
 have hd : g.l.length = 2 := hd
 have hg := of_l g
 match hgl : g.l, hd with
 | [a, b], _ =>
  rw [hgl] at h1 hg
  have h1 : b = 1 := h1
  subst h1
  obtain ⟨C, hC, e⟩ := con_negN hP a
  refine ⟨C, hC, ?_⟩
  rw [← hg, of_cons, of_cons, of_nil, e, con_one]
  exact ring [con p a, X p] (by rfl)
theorem mon_three {g : Poly p} (hm : Mon g) (hd : dg g = 3) {P : Nat} (hP : (P : Int) = p) : ∃ B C : Nat, B < P ∧ C < P ∧ g = X p * X p - con p B * X p - con p C := by
 have h1 : cf g.l (dg g - 1) = 1 := hm.2
 rw [hd] at h1
 have hd : g.l.length = 3 := hd
 have hg := of_l g
 match hgl : g.l, hd with
 | [a, b, c], _ =>
  rw [hgl] at h1 hg
  have h1 : c = 1 := h1
  subst h1
  obtain ⟨C, hC, e⟩ := con_negN hP a
  obtain ⟨B, hB, e'⟩ := con_negN hP b
  refine ⟨B, C, hB, hC, ?_⟩
  rw [← hg, of_cons, of_cons, of_cons, of_nil, e, e', con_one]
  exact ring [con p a, con p b, X p] (by rfl)
theorem no_two {P : Nat} (hP : (P : Int) = p) {l : List Nat} (h : exL P l = true) {g : Poly p} (hm : Mon g) (hd : dg g = 2) : ¬ g ∣ of p (natL l) := fun hdv => by
 have hp := Pr.two (p := p)
 obtain ⟨C, hC, rfl⟩ := mon_two hm hd hP
 have h1 := upto_spec h C hC
 have h2 := hl_dvd hP C l
 have h3 := dvd_sub hdv h2
 have e : of p (natL l) - (of p (natL l) - con p (hl P C l : Nat)) = con p (hl P C l : Nat) := ring [of p (natL l), con p (hl P C l : Nat)] (by rfl)
 rw [e] at h3
 have h4 := hl_lt (P := P) (by omega) C l
 have h5 : con p (hl P C l : Nat) = 0 := Classical.byContradiction fun h6 => by
  have := dvd_dg h3 h6
  have := con_dg (p := p) (hl P C l : Nat)
  omega
 have h6 := con_eq_zero.1 h5
 rw [← hP, Int.emod_eq_of_lt (by omega) (by omega)] at h6
 rw [show hl P C l = 0 by omega] at h1
 cases h1
theorem no_three {P : Nat} (hP : (P : Int) = p) {l : List Nat} (h : exQ P l = true) {g : Poly p} (hm : Mon g) (hd : dg g = 3) : ¬ g ∣ of p (natL l) := fun hdv => by
 have hp := Pr.two (p := p)
 obtain ⟨B, C, hB, hC, rfl⟩ := mon_three hm hd hP
 have h1 := upto_spec (upto_spec h B hB) C hC
 have h2 := hq_dvd hP B C l
 have h3 := dvd_sub hdv h2
 have h4 := hq_lt (P := P) (by omega) B C l
 generalize (hq P B C l).1 = v at *
 generalize (hq P B C l).2 = u at *
 have e : of p (natL l) - (of p (natL l) - (con p (v : Nat) + X p * con p (u : Nat))) = of p [(v : Int), (u : Int)] := by
  rw [of_cons, of_cons, of_nil]
  exact ring [of p (natL l), con p (v : Nat), con p (u : Nat), X p] (by rfl)
 rw [e] at h3
 have h5 : of p [(v : Int), (u : Int)] = 0 := Classical.byContradiction fun h6 => by
  have := dvd_dg h3 h6
  have h7 : dg (of p [(v : Int), (u : Int)]) ≤ 2 := dg_of_le _
  omega
 have h6 : ∀ i, cf [(v : Int), (u : Int)] i % p = 0 := fun i => by rw [← cf_of, h5, cf_zero]
 have h7 : (v : Int) % p = 0 := h6 0
 have h8 : (u : Int) % p = 0 := h6 1
 rw [← hP, Int.emod_eq_of_lt (by omega) (by omega)] at h7 h8
 rw [show v = 0 by omega, show u = 0 by omega] at h1
 cases h1
theorem ex_one {P : Nat} (hP : (P : Int) = p) {l : List Nat} {d : Nat} (hd : 2 ≤ d ∧ d ≤ 4) (hl : l.length = d + 1) (h1 : l.getD d 0 = 1) (hL : exL P l = true) (hQ : d = 4 → exQ P l = true) : ∃ f : Poly p, dg f = d + 1 ∧ cf f.l d = 1 ∧ Irr f := by
 have hp := Pr.two (p := p)
 have hc : cf (of p (natL l)).l d = 1 := by
  rw [cf_of]
  rw [cf_natL, h1]; exact Int.emod_eq_of_lt (by omega) (by omega)
 have hle : dg (of p (natL l)) ≤ d + 1 := by have := dg_of_le (p := p) (natL l); rw [natL_length] at this; omega
 have hge : d + 1 ≤ dg (of p (natL l)) := Classical.byContradiction fun h => by rw [cf_dg (by omega)] at hc; omega
 refine ⟨of p (natL l), by omega, hc, irr_of (by omega) (by omega) fun g hm hg h3 h4 => ?_⟩
 rcases Nat.lt_or_ge (dg g) 3 with h5 | h5
 ·exact no_two hP hL hm (by omega) hg
 ·exact no_three hP (hQ (by omega)) hm (by omega) hg
end
theorem exT_all : primes.all (fun p => exT.any fun x => decide ((x.1 : Int) = p)) = true := by decide +kernel
theorem exists_deg {p : Int} (hp : p ∈ primes) : letI := sp_of hp; ∀ d : Nat, 1 ≤ d → d ≤ 4 → ∃ f : Poly p, dg f = d + 1 ∧ cf f.l d = 1 ∧ Irr f := by
 letI := sp_of hp
 intro d h1 h4
 rcases Nat.lt_or_ge 1 d with h2 | h2
 ·obtain ⟨x, hx, hxp⟩ := List.any_eq_true.1 (List.all_eq_true.1 exT_all p hp)
  have hP := of_decide_eq_true hxp
  have hr := List.all_eq_true.1 exT_ok x hx
  obtain ⟨P, L⟩ := x
  unfold exR at hr
  dsimp only at hP hr
  split at hr
  ·rename_i a b c
   simp only [Bool.and_eq_true, Nat.beq_eq] at hr
   obtain ⟨⟨⟨⟨⟨⟨⟨⟨⟨l1, l2⟩, l3⟩, m1⟩, m2⟩, m3⟩, k1⟩, k2⟩, k3⟩, k4⟩ := hr
   have : d = 2 ∨ d = 3 ∨ d = 4 := by omega
   rcases this with rfl | rfl | rfl
   ·exact ex_one hP (by omega) l1 m1 k1 fun h => by omega
   ·exact ex_one hP (by omega) l2 m2 k2 fun h => by omega
   ·exact ex_one hP (by omega) l3 m3 k3 fun _ => k4
  ·cases hr
 ·obtain rfl : d = 1 := by omega
  have hd : dg (X p) = 2 := by show (X p).l.length = 2; rw [X_l]; rfl
  exact ⟨X p, hd, by rw [X_l]; rfl, irr_of (by omega) (by omega) fun g _ _ h5 h6 => by omega⟩
end Poly
end Go.Proofs.YtlhgbljojdbhgaaGreat
