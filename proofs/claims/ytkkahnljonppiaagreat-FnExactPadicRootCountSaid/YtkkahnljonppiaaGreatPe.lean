/- Plain mathematics of polynomials by a prime. No conditions. -/
import Derived.Test.YtkkahnljonppiaaGreatPd
namespace Go.Proofs.YtkkahnljonppiaaGreat
namespace Hull

def IsVl (p c : Int) (v : Nat) : Prop := ∃ u, c = p ^ v * u ∧ ¬ p ∣ u
theorem IsVl.unique {p c : Int} (hp : 2 ≤ p) {v v' : Nat} (h : IsVl p c v) (h' : IsVl p c v') : v = v' := by
 have key : ∀ {a b : Nat} {u u' : Int}, p ^ a * u = p ^ b * u' → ¬ p ∣ u' → a ≤ b := by
  intro a b u u' he hn
  rcases Nat.lt_or_ge b a with h1 | h1
  ·exfalso
   obtain ⟨d, rfl⟩ : ∃ d, a = b + (d + 1) := ⟨a - b - 1, by omega⟩
   have hpos : 0 < p ^ b := Int.pow_pos (by omega)
   rw [Int.pow_add, Int.mul_assoc] at he
   have h2 := Int.eq_of_mul_eq_mul_left (by omega) he
   exact hn ⟨p ^ d * u, by rw [← h2, Int.pow_succ]; grind⟩
  ·exact h1
 obtain ⟨u, h1, h2⟩ := h
 obtain ⟨u', h3, h4⟩ := h'
 exact Nat.le_antisymm (key (h1.symm.trans h3) h4) (key (h3.symm.trans h1) h2)
theorem exists_vl {p : Int} (hp : 2 ≤ p) : ∀ (n : Nat) (c : Int), c ≠ 0 → c.natAbs ≤ n → ∃ v, IsVl p c v := by
 intro n
 induction n with
 | zero => intro c hc hn; omega
 | succ n ih =>
  intro c hc hn
  by_cases hd : p ∣ c
  ·obtain ⟨u, rfl⟩ := hd
   have hu : u ≠ 0 := fun e => hc (by rw [e, Int.mul_zero])
   have hlt : u.natAbs < (p * u).natAbs := by
    rw [Int.natAbs_mul]
    have h1 : 2 ≤ p.natAbs := by omega
    have h2 : 1 ≤ u.natAbs := by omega
    have := Nat.mul_le_mul_right u.natAbs h1
    omega
   obtain ⟨v, w, h1, h2⟩ := ih u hu (by omega)
   refine ⟨v + 1, w, ?_, h2⟩
   rw [Int.pow_succ, h1]; grind
  ·exact ⟨0, c, by simp, hd⟩
noncomputable def vl (p c : Int) : Nat := @dite _ (∃ v, IsVl p c v) (Classical.propDecidable _) (fun h => h.choose) fun _ => 0
theorem vl_spec {p c : Int} (hp : 2 ≤ p) (hc : c ≠ 0) : IsVl p c (vl p c) := by
 have h := exists_vl hp _ c hc (Nat.le_refl _)
 unfold vl
 rw [dif_pos h]
 exact h.choose_spec
theorem vl_eq {p c : Int} (hp : 2 ≤ p) (hc : c ≠ 0) {v : Nat} (h : IsVl p c v) : vl p c = v := (vl_spec hp hc).unique hp h
theorem vl_small {p c : Int} (hp : 2 ≤ p) (hc : c ≠ 0) {k : Nat} (hb : c.natAbs < 2 ^ k) : vl p c < k := by
 obtain ⟨u, h1, h2⟩ := vl_spec hp hc
 have hu : u ≠ 0 := fun e => h2 (by rw [e]; exact ⟨0, by simp⟩)
 refine Nat.lt_of_not_le fun hk => ?_
 have e1 : c.natAbs = p.natAbs ^ vl p c * u.natAbs := by
  have := congrArg Int.natAbs h1
  rw [Int.natAbs_mul, Int.natAbs_pow] at this; exact this
 have e2 : 2 ^ k ≤ p.natAbs ^ vl p c := Nat.le_trans (Nat.pow_le_pow_right (by omega) hk) (Nat.pow_le_pow_left (by omega) _)
 have e3 : p.natAbs ^ vl p c * 1 ≤ p.natAbs ^ vl p c * u.natAbs := Nat.mul_le_mul_left _ (by omega)
 omega

noncomputable def ptsT (p : Int) (l : List Int) : Nat → List (Int × Int)
 | 0 => []
 | k + 1 => ptsT p l k ++ if cf l k = 0 then [] else [(((k : Nat) : Int), ((vl p (cf l k) : Nat) : Int))]
theorem ptsT_len (p : Int) (l : List Int) : ∀ k, (ptsT p l k).length ≤ k
 | 0 => Nat.le_refl _
 | k + 1 => by
  have := ptsT_len p l k
  rw [ptsT, List.length_append]
  split <;> simp <;> omega
theorem ptsT_mem {p : Int} {l : List Int} : ∀ {k : Nat} {x : Int × Int}, x ∈ ptsT p l k → ∃ i : Nat, i < k ∧ cf l i ≠ 0 ∧ x = (((i : Nat) : Int), ((vl p (cf l i) : Nat) : Int))
 | 0, x, h => by cases h
 | k + 1, x, h => by
  rw [ptsT, List.mem_append] at h
  rcases h with h | h
  ·obtain ⟨i, h1, h2, h3⟩ := ptsT_mem h
   exact ⟨i, by omega, h2, h3⟩
  ·split at h
   ·cases h
   ·rename_i hc
    simp at h
    exact ⟨k, by omega, hc, h⟩
theorem ptsT_sorted (p : Int) (l : List Int) : ∀ k, (ptsT p l k).Pairwise fun x y => x.1 < y.1
 | 0 => List.Pairwise.nil
 | k + 1 => by
  rw [ptsT, List.pairwise_append]
  refine ⟨ptsT_sorted p l k, by split <;> simp, fun x hx y hy => ?_⟩
  obtain ⟨i, h1, _, rfl⟩ := ptsT_mem hx
  split at hy
  ·cases hy
  ·simp at hy
   subst hy
   show (i : Int) < k
   omega
section
variable {X Y : Nat → Int} {n : Nat}
theorem exists_best (hX : ∀ i j, i < j → j ≤ n → X i < X j) {a : Nat} : ∀ k, a + 1 ≤ k → k ≤ n → ∃ b, Best X Y a k b := by
 intro k
 induction k with
 | zero => intro h; omega
 | succ k ih =>
  intro h1 h2
  by_cases h3 : k = a
  ·subst h3; exact ⟨k + 1, Best.start k⟩
  ·obtain ⟨b, hb⟩ := ih (by omega) (by omega)
   by_cases hc : 0 < crs X Y a b (k + 1)
   ·exact ⟨b, hb.keep hc⟩
   ·exact ⟨k + 1, Best.turn hX h2 hb (by omega)⟩
theorem exists_hul (hX : ∀ i j, i < j → j ≤ n → X i < X j) : ∀ (d : Nat) (E : List Nat), Hul X Y n E → at' E (E.length - 1) ≤ n → n - at' E (E.length - 1) ≤ d → ∃ C, Hul X Y n C ∧ at' C (C.length - 1) = n := by
 intro d
 induction d with
 | zero => intro E h1 h2 h3; exact ⟨E, h1, by omega⟩
 | succ d ih =>
  intro E h1 h2 h3
  by_cases h4 : at' E (E.length - 1) = n
  ·exact ⟨E, h1, h4⟩
  ·obtain ⟨b, hb⟩ := exists_best (Y := Y) hX (a := at' E (E.length - 1)) n (by omega) (Nat.le_refl _)
   have hg := Best.good hb
   have e : at' (E ++ [b]) ((E ++ [b]).length - 1) = b := by rw [List.length_append, at_app]; simp
   have h5 := hg.lt
   have h6 := hg.le
   exact ih (E ++ [b]) (h1.snoc hg) (by rw [e]; exact hg.le) (by rw [e]; omega)
theorem exists_corners (hX : ∀ i j, i < j → j ≤ n → X i < X j) : ∃ C, Hul X Y n C ∧ at' C (C.length - 1) = n :=
 exists_hul hX n [0] Hul.one (Nat.zero_le _) (by show n - 0 ≤ n; omega)
end
theorem ptsT_lt (p : Int) (l : List Int) (k : Nat) {i j : Nat} (hij : i < j) (hj : j < (ptsT p l k).length) : ((ptsT p l k).getD i (0, 0)).1 < ((ptsT p l k).getD j (0, 0)).1 := by
 have h := List.pairwise_iff_getElem.1 (ptsT_sorted p l k) i j (by omega) hj hij
 rw [List.getD_eq_getElem?_getD, List.getD_eq_getElem?_getD, List.getElem?_eq_getElem hj, List.getElem?_eq_getElem (by omega)]
 exact h
theorem ptsT_bd {p : Int} (hp : 2 ≤ p) {l : List Int} (hb : ∀ j, -1000000 ≤ cf l j ∧ cf l j ≤ 1000000) {k : Nat} (hk : k ≤ 100) (i : Nat) : (0 ≤ ((ptsT p l k).getD i (0, 0)).1 ∧ ((ptsT p l k).getD i (0, 0)).1 ≤ 100) ∧ 0 ≤ ((ptsT p l k).getD i (0, 0)).2 ∧ ((ptsT p l k).getD i (0, 0)).2 ≤ 100 := by
 by_cases hi : i < (ptsT p l k).length
 ·rw [List.getD_eq_getElem?_getD, List.getElem?_eq_getElem hi]
  obtain ⟨q, h1, h2, h3⟩ := ptsT_mem (List.getElem_mem hi)
  have h4 := hb q
  have h5 := vl_small hp h2 (k := 20) (by have : (2 : Nat) ^ 20 = 1048576 := rfl; omega)
  show (0 ≤ ((ptsT p l k)[i]).1 ∧ ((ptsT p l k)[i]).1 ≤ 100) ∧ 0 ≤ ((ptsT p l k)[i]).2 ∧ ((ptsT p l k)[i]).2 ≤ 100
  rw [h3]
  dsimp only
  omega
 ·rw [List.getD_eq_getElem?_getD, List.getElem?_eq_none (by omega)]
  exact ⟨⟨by decide, by decide⟩, by decide, by decide⟩
end Hull
namespace Hull
open Poly

def Cor (p : Int) (l : List Int) (a : Int × Int) : Prop := ∃ i : Nat, i < l.length ∧ cf l i ≠ 0 ∧ a = (((i : Nat) : Int), ((vl p (cf l i) : Nat) : Int))

noncomputable def resE (p a : Int) (y : Nat) : Int := if a ≠ 0 ∧ vl p a = y then (a.tdiv (p ^ y)) % p else 0
theorem resE_no {p a : Int} (hp : 2 ≤ p) {y : Nat} (h : a.tmod (p ^ y) ≠ 0) : resE p a y = 0 := by
 unfold resE
 rw [if_neg]
 rintro ⟨h1, rfl⟩
 obtain ⟨u, h2, _⟩ := vl_spec hp h1
 exact h (Int.tmod_eq_zero_of_dvd ⟨u, h2⟩)
theorem resE_yes {p a : Int} (hp : 2 ≤ p) {y : Nat} (h : a.tmod (p ^ y) = 0) : resE p a y = a.tdiv (p ^ y) % p := by
 unfold resE
 split
 ·rfl
 ·rename_i hn
  obtain ⟨w, hw⟩ := Int.dvd_of_tmod_eq_zero h
  have hpos : 0 < p ^ y := Int.pow_pos (by omega)
  have e1 : a.tdiv (p ^ y) = w := by rw [hw]; exact Int.mul_tdiv_cancel_left w (by omega)
  rw [e1]
  by_cases hd : p ∣ w
  ·exact (Int.emod_eq_zero_of_dvd hd).symm
  ·exfalso
   refine hn ⟨fun e => ?_, ?_⟩
   ·rw [e] at hw
    rcases Int.mul_eq_zero.1 hw.symm with h1 | h1
    ·omega
    ·exact hd (by rw [h1]; exact Int.dvd_zero p)
   ·have hc : a ≠ 0 := fun e => by
     rw [e] at hw
     rcases Int.mul_eq_zero.1 hw.symm with h1 | h1
     ·omega
     ·exact hd (by rw [h1]; exact Int.dvd_zero p)
    exact vl_eq hp hc ⟨w, hw, hd⟩
theorem resE_bd {p : Int} (hp : 2 ≤ p) (a : Int) (y : Nat) : 0 ≤ resE p a y ∧ resE p a y < p := by
 unfold resE
 split
 ·exact ⟨Int.emod_nonneg _ (by omega), Int.emod_lt_of_pos _ (by omega)⟩
 ·omega
theorem resE_end {p a : Int} (hp : 2 ≤ p) (ha : a ≠ 0) : resE p a (vl p a) ≠ 0 := by
 unfold resE
 rw [if_pos ⟨ha, rfl⟩]
 obtain ⟨u, h2, h3⟩ := vl_spec hp ha
 have hpos : 0 < p ^ vl p a := Int.pow_pos (by omega)
 have e1 : a.tdiv (p ^ vl p a) = u := by
  have := Int.mul_tdiv_cancel_left u (a := p ^ vl p a) (by omega)
  rw [← h2] at this; exact this
 rw [e1]
 exact fun e => h3 (Int.dvd_of_emod_eq_zero e)
theorem div_down {p a : Int} (hp : 2 ≤ p) {y : Nat} (h : a ≠ 0 ∧ vl p a = y) {i : Nat} (hi : i < y) : (a.tdiv (p ^ i)).tdiv p = a.tdiv (p ^ (i + 1)) := by
 obtain ⟨u, h2, _⟩ := vl_spec hp h.1
 rw [h.2] at h2
 obtain ⟨d, rfl⟩ : ∃ d, y = i + 1 + d := ⟨y - i - 1, by omega⟩
 have e1 : a = p ^ i * (p * (p ^ d * u)) := by rw [h2, Int.pow_add, Int.pow_succ, Int.mul_assoc, Int.mul_assoc]
 have e2 : a = p ^ (i + 1) * (p ^ d * u) := by rw [h2, Int.pow_add, Int.mul_assoc]
 have p1 : 0 < p ^ i := Int.pow_pos (by omega)
 have p2 : 0 < p ^ (i + 1) := Int.pow_pos (by omega)
 have t1 := Int.mul_tdiv_cancel_left (p * (p ^ d * u)) (a := p ^ i) (by omega)
 have t2 := Int.mul_tdiv_cancel_left (p ^ d * u) (a := p ^ (i + 1)) (by omega)
 rw [← e1] at t1
 rw [← e2] at t2
 rw [t1, t2]
 exact Int.mul_tdiv_cancel_left _ (by omega)
theorem down_bd {p a : Int} (i : Nat) (hb : -1000000 ≤ a ∧ a ≤ 1000000) : -1000000 ≤ a.tdiv (p ^ i) ∧ a.tdiv (p ^ i) ≤ 1000000 := by
 have h : (a.tdiv (p ^ i)).natAbs ≤ a.natAbs := by rw [Int.natAbs_tdiv]; exact Nat.div_le_self _ _
 omega

structure Ln (a b : Int × Int) (g : Nat) (run rise : Int) : Prop where
 run1 : 1 ≤ run
 g1 : 1 ≤ g
 ex : run * g = b.1 - a.1
 ey : rise * g = b.2 - a.2
theorem Ln.mul {a b : Int × Int} {g : Nat} {run rise : Int} (h : Ln a b g run rise) {k : Nat} (hk : k ≤ g) : (k : Int) * run ≤ b.1 - a.1 := by
 have h1 := h.run1
 rw [← h.ex, Int.mul_comm run]
 exact Int.mul_le_mul_of_nonneg_right (by omega) (by omega)
theorem Ln.x {a b : Int × Int} {g : Nat} {run rise : Int} (h : Ln a b g run rise) {k : Nat} (hk : k ≤ g) : a.1 ≤ a.1 + (k : Int) * run ∧ a.1 + (k : Int) * run ≤ b.1 := by
 have h1 := h.run1
 have h2 := h.mul hk
 have h3 : 0 ≤ (k : Int) * run := Int.mul_nonneg (by omega) (by omega)
 omega
theorem Ln.y {a b : Int × Int} {g : Nat} {run rise : Int} (h : Ln a b g run rise) {k : Nat} (hk : k ≤ g) : (a.2 ≤ a.2 + (k : Int) * rise ∧ a.2 + (k : Int) * rise ≤ b.2) ∨ (b.2 ≤ a.2 + (k : Int) * rise ∧ a.2 + (k : Int) * rise ≤ a.2) := by
 have h1 := h.ey
 have hkg : (k : Int) ≤ g := by omega
 rcases Int.le_total 0 rise with h2 | h2
 ·have h3 := Int.mul_le_mul_of_nonneg_right hkg h2
  have h4 : 0 ≤ (k : Int) * rise := Int.mul_nonneg (by omega) h2
  rw [Int.mul_comm] at h1
  left; omega
 ·have h3 := Int.mul_le_mul_of_nonneg_right hkg (show 0 ≤ -rise by omega)
  have h4 : 0 ≤ (k : Int) * -rise := Int.mul_nonneg (by omega) (by omega)
  rw [Int.mul_neg] at h4 h3
  rw [Int.mul_neg] at h3
  rw [Int.mul_comm] at h1
  right; omega
theorem Ln.iff {a b : Int × Int} {g : Nat} {run rise : Int} (h : Ln a b g run rise) {k : Nat} : (k : Int) * run ≤ b.1 - a.1 ↔ k ≤ g := by
 refine ⟨fun h1 => ?_, h.mul⟩
 rw [← h.ex, Int.mul_comm run] at h1
 have := Int.le_of_mul_le_mul_right h1 (by have := h.run1; omega)
 omega
theorem Ln.quot {a b : Int × Int} {g : Nat} {run rise : Int} (h : Ln a b g run rise) : (b.1 - a.1).tdiv run = g := by
 rw [← h.ex]
 exact Int.mul_tdiv_cancel_left _ (by have := h.run1; omega)
theorem ln_of {a b : Int × Int} (h : a.1 < b.1) : Ln a b (Int.gcd (b.1 - a.1) (b.2 - a.2)) ((b.1 - a.1).tdiv (Int.gcd (b.1 - a.1) (b.2 - a.2) : Nat)) ((b.2 - a.2).tdiv (Int.gcd (b.1 - a.1) (b.2 - a.2) : Nat)) := by
 have hg : Int.gcd (b.1 - a.1) (b.2 - a.2) ≠ 0 := fun e => by rw [Int.gcd_eq_zero_iff] at e; omega
 have ex : (b.1 - a.1).tdiv (Int.gcd (b.1 - a.1) (b.2 - a.2) : Nat) * (Int.gcd (b.1 - a.1) (b.2 - a.2) : Nat) = b.1 - a.1 := Int.tdiv_mul_cancel (Int.gcd_dvd_left ..)
 have ey : (b.2 - a.2).tdiv (Int.gcd (b.1 - a.1) (b.2 - a.2) : Nat) * (Int.gcd (b.1 - a.1) (b.2 - a.2) : Nat) = b.2 - a.2 := Int.tdiv_mul_cancel (Int.gcd_dvd_right ..)
 refine ⟨?_, by omega, ex, ey⟩
 refine Classical.byContradiction fun hn => ?_
 have h0 := Int.mul_nonneg (show 0 ≤ -((b.1 - a.1).tdiv (Int.gcd (b.1 - a.1) (b.2 - a.2) : Nat)) by omega) (show (0 : Int) ≤ (Int.gcd (b.1 - a.1) (b.2 - a.2) : Nat) by omega)
 rw [Int.neg_mul] at h0
 omega

noncomputable def resT (p : Int) (l : List Int) (a : Int × Int) (run rise : Int) : Nat → List Int
 | 0 => []
 | k + 1 => resT p l a run rise k ++ [resE p (cf l (a.1 + (k : Int) * run).toNat) (a.2 + (k : Int) * rise).toNat]
theorem resT_len (p : Int) (l : List Int) (a : Int × Int) (run rise : Int) : ∀ k, (resT p l a run rise k).length = k
 | 0 => rfl
 | k + 1 => by rw [resT, List.length_append, resT_len]; rfl
theorem resT_bd {p : Int} (hp : 2 ≤ p) {l : List Int} {a : Int × Int} {run rise : Int} : ∀ (k : Nat) (x : Int), x ∈ resT p l a run rise k → 0 ≤ x ∧ x < p
 | 0, x, h => by cases h
 | k + 1, x, h => by
  rw [resT, List.mem_append] at h
  rcases h with h | h
  ·exact resT_bd hp k x h
  ·simp at h
   subst h
   exact resE_bd hp _ _
theorem resT_last {p : Int} (hp : 2 ≤ p) {l : List Int} {a b : Int × Int} {g : Nat} {run rise : Int} (h : Ln a b g run rise) (hb : Cor p l b) : cf (resT p l a run rise (g + 1)) g ≠ 0 := by
 obtain ⟨i, h1, h2, rfl⟩ := hb
 have ex := h.ex
 have ey := h.ey
 have e1 : (a.1 + (g : Int) * run).toNat = i := by rw [Int.mul_comm]; dsimp only at ex; omega
 have e2 : (a.2 + (g : Int) * rise).toNat = vl p (cf l i) := by rw [Int.mul_comm]; dsimp only at ey; omega
 rw [resT, e1, e2]
 unfold cf
 rw [List.getD_eq_getElem?_getD, List.getElem?_append_right (by rw [resT_len]; exact Nat.le_refl _), resT_len, Nat.sub_self]
 exact resE_end hp h2
theorem resT_nrm {p : Int} (hp : 2 ≤ p) {l : List Int} {a b : Int × Int} {g : Nat} {run rise : Int} (h : Ln a b g run rise) (hb : Cor p l b) : Nrm p (resT p l a run rise (g + 1)) :=
 ⟨resT_bd hp (g + 1), fun n hn => by
  rw [resT_len] at hn
  obtain rfl : n = g := by omega
  exact resT_last hp h hb⟩

theorem ptsT_cor {p : Int} {l : List Int} {j : Nat} (hj : j < (ptsT p l l.length).length) : Cor p l ((ptsT p l l.length).getD j (0, 0)) := by
 rw [List.getD_eq_getElem?_getD, List.getElem?_eq_getElem hj]
 obtain ⟨i, h1, h2, h3⟩ := ptsT_mem (List.getElem_mem hj)
 exact ⟨i, h1, h2, h3⟩

end Hull
namespace Spl

abbrev Sp := Int × Int × Int
abbrev z0 : Sp := (0, 0, 0)
def lt (a b : Sp) : Prop := a.1 < b.1 ∨ a.1 = b.1 ∧ a.2.1 < b.2.1
instance (a b : Sp) : Decidable (lt a b) := by unfold lt; infer_instance
def cmp (a b : Sp) : Int := if lt a b then -1 else if lt b a then 1 else 0
theorem cmp_lt {a b : Sp} : cmp a b < 0 ↔ lt a b := by
 unfold cmp; split
 ·rename_i h; exact ⟨fun _ => h, fun _ => by decide⟩
 ·rename_i h; split <;> exact ⟨fun h' => absurd h' (by decide), fun h' => absurd h' h⟩
theorem lt_trans {a b c : Sp} (h : lt a b) (h' : lt b c) : lt a c := by unfold lt at *; omega
theorem cmp_eq {a b : Sp} : cmp a b = 0 ↔ a.1 = b.1 ∧ a.2.1 = b.2.1 := by
 unfold cmp
 split
 ·rename_i h1; unfold lt at h1; constructor <;> intro h <;> omega
 ·rename_i h1
  split
  ·rename_i h2; unfold lt at h2; constructor <;> intro h <;> omega
  ·rename_i h2; unfold lt at h1 h2; constructor <;> intro h <;> omega
theorem cmp_not {a b : Sp} (h : ¬ lt a b) : cmp a b = 0 ↔ ¬ lt b a := by
 rw [cmp_eq]; unfold lt at *; omega

def Srt (L : List Sp) : Prop := ∀ i j, i < j → j < L.length → lt (L.getD i z0) (L.getD j z0)

structure At (L : List Sp) (x : Sp) (n : Nat) : Prop where
 le : n ≤ L.length
 lo : ∀ j, j < n → lt (L.getD j z0) x
 hi : n < L.length → ¬ lt (L.getD n z0) x
theorem At.unique {L : List Sp} {x : Sp} {n m : Nat} (h : At L x n) (h' : At L x m) : n = m := by
 rcases Nat.lt_trichotomy n m with h1 | h1 | h1
 ·exact absurd (h'.lo n h1) (h.hi (by have := h'.le; omega))
 ·exact h1
 ·exact absurd (h.lo m h1) (h'.hi (by have := h.le; omega))
theorem At.exists (x : Sp) : ∀ L : List Sp, ∃ n, At L x n
 | [] => ⟨0, Nat.le_refl _, fun j hj => absurd hj (Nat.not_lt_zero j), fun h => absurd h (Nat.lt_irrefl 0)⟩
 | y :: r => by
  by_cases h : lt y x
  ·obtain ⟨n, h1⟩ := At.exists x r
   refine ⟨n + 1, by have := h1.le; simp; omega, fun j hj => ?_, fun hn => ?_⟩
   ·cases j with
    | zero => exact h
    | succ j => exact h1.lo j (by omega)
   ·exact h1.hi (by simpa using hn)
  ·exact ⟨0, Nat.zero_le _, fun j hj => absurd hj (Nat.not_lt_zero j), fun _ => h⟩
noncomputable def pos (L : List Sp) (x : Sp) : Nat := (At.exists x L).choose
theorem pos_at (L : List Sp) (x : Sp) : At L x (pos L x) := (At.exists x L).choose_spec
theorem pos_eq {L : List Sp} {x : Sp} {n : Nat} (h : At L x n) : pos L x = n := (pos_at L x).unique h

def there (L : List Sp) (x : Sp) (n : Nat) : Prop := n < L.length ∧ ¬ lt x (L.getD n z0)
def more (y : Sp) (t : Int) : Sp := (y.1, y.2.1, y.2.2 + t)
noncomputable def put (L : List Sp) (x : Sp) : List Sp :=
 @ite _ (there L x (pos L x)) (Classical.propDecidable _) (L.set (pos L x) (more (L.getD (pos L x) z0) x.2.2)) (L.take (pos L x) ++ x :: L.drop (pos L x))
theorem put_there {L : List Sp} {x : Sp} (h : there L x (pos L x)) : put L x = L.set (pos L x) (more (L.getD (pos L x) z0) x.2.2) := by unfold put; rw [if_pos h]
theorem put_not {L : List Sp} {x : Sp} (h : ¬ there L x (pos L x)) : put L x = L.take (pos L x) ++ x :: L.drop (pos L x) := by unfold put; rw [if_neg h]

theorem set_getD {L : List Sp} {n j : Nat} {y : Sp} (h : n < L.length) : (L.set n y).getD j z0 = if j = n then y else L.getD j z0 := by
 rw [List.getD_eq_getElem?_getD, List.getD_eq_getElem?_getD, List.getElem?_set]
 by_cases hj : j = n
 ·subst hj; rw [if_pos rfl, if_pos rfl, if_pos h]; rfl
 ·rw [if_neg hj, if_neg fun e => hj e.symm]
theorem ins_getD {L : List Sp} {n j : Nat} {y : Sp} (h : n ≤ L.length) : (L.take n ++ y :: L.drop n).getD j z0 = if j < n then L.getD j z0 else if j = n then y else L.getD (j - 1) z0 := by
 have htl : (L.take n).length = n := by rw [List.length_take]; omega
 rw [List.getD_eq_getElem?_getD]
 split
 ·rename_i h1
  rw [List.getElem?_append_left (by omega), List.getElem?_take_of_lt h1, List.getD_eq_getElem?_getD]
 ·rw [List.getElem?_append_right (by omega), htl]
  split
  ·rename_i h1 h2; subst h2; rw [Nat.sub_self]; rfl
  ·rename_i h1 h2
   obtain ⟨k, rfl⟩ : ∃ k, j = n + 1 + k := ⟨j - n - 1, by omega⟩
   rw [show n + 1 + k - n = k + 1 by omega, List.getElem?_cons_succ, List.getElem?_drop, List.getD_eq_getElem?_getD, show n + 1 + k - 1 = n + k by omega]
theorem ins_len {L : List Sp} {n : Nat} {y : Sp} (h : n ≤ L.length) : (L.take n ++ y :: L.drop n).length = L.length + 1 := by
 simp; omega

structure Ok (c : Nat) (L : List Sp) : Prop where
 srt : Srt L
 few : L.length ≤ c
 bd : ∀ j, j < L.length → (1 ≤ (L.getD j z0).1 ∧ (L.getD j z0).1 ≤ 1000) ∧ (1 ≤ (L.getD j z0).2.1 ∧ (L.getD j z0).2.1 ≤ 1000) ∧ 1 ≤ (L.getD j z0).2.2 ∧ (L.getD j z0).2.2 ≤ c
theorem Ok.nil : Ok 0 [] := ⟨fun _ j _ h => absurd h (Nat.not_lt_zero j), Nat.le_refl _, fun j h => absurd h (Nat.not_lt_zero j)⟩
theorem Ok.put {c : Nat} {L : List Sp} (h : Ok c L) {x : Sp} (h1 : 1 ≤ x.1 ∧ x.1 ≤ 1000) (h2 : 1 ≤ x.2.1 ∧ x.2.1 ≤ 1000) (h3 : x.2.2 = 1) : Ok (c + 1) (put L x) := by
 have ha := pos_at L x
 generalize hn : pos L x = n at ha
 have hle := ha.le
 have hfew := h.few
 by_cases hc : there L x (pos L x)
 ·rw [put_there hc, hn]
  rw [hn] at hc
  obtain ⟨hlt, hnl⟩ := hc
  have hm : (more (L.getD n z0) x.2.2).1 = (L.getD n z0).1 ∧ (more (L.getD n z0) x.2.2).2.1 = (L.getD n z0).2.1 := ⟨rfl, rfl⟩
  refine ⟨fun i j hij hj => ?_, by rw [List.length_set]; omega, fun j hj => ?_⟩
  ·rw [List.length_set] at hj
   rw [set_getD hlt, set_getD hlt]
   have := h.srt i j hij hj
   unfold lt at *
   split <;> split <;> first | (subst_vars; rw [hm.1, hm.2]; assumption) | assumption | omega
  ·rw [List.length_set] at hj
   rw [set_getD hlt]
   have hb := h.bd j hj
   split
   ·rename_i hj'; subst hj'
    refine ⟨hb.1, hb.2.1, ?_⟩
    show 1 ≤ (L.getD j z0).2.2 + x.2.2 ∧ (L.getD j z0).2.2 + x.2.2 ≤ _
    omega
   ·exact ⟨hb.1, hb.2.1, by omega⟩
 ·rw [put_not hc, hn]
  rw [hn] at hc
  have hup : ∀ j, n ≤ j → j < L.length → lt x (L.getD j z0) := fun j hj1 hj2 => by
   have h5 : lt x (L.getD n z0) := Classical.byContradiction fun h' => hc ⟨by omega, h'⟩
   rcases Nat.lt_or_ge n j with h6 | h6
   ·exact lt_trans h5 (h.srt n j h6 hj2)
   ·obtain rfl : j = n := by omega
    exact h5
  refine ⟨fun i j hij hj => ?_, by rw [ins_len hle]; omega, fun j hj => ?_⟩
  ·rw [ins_len hle] at hj
   rw [ins_getD hle, ins_getD hle]
   by_cases h4 : j < n
   ·rw [if_pos h4, if_pos (by omega)]; exact h.srt i j hij (by omega)
   ·by_cases h5 : j = n
    ·rw [if_neg h4, if_pos h5, if_pos (by omega)]; exact ha.lo i (by omega)
    ·rw [if_neg h4, if_neg h5]
     by_cases h6 : i < n
     ·rw [if_pos h6]; exact h.srt i (j - 1) (by omega) (by omega)
     ·by_cases h7 : i = n
      ·rw [if_neg h6, if_pos h7]; exact hup (j - 1) (by omega) (by omega)
      ·rw [if_neg h6, if_neg h7]; exact h.srt (i - 1) (j - 1) (by omega) (by omega)
  ·rw [ins_len hle] at hj
   rw [ins_getD hle]
   split
   ·have hb := h.bd j (by omega)
    exact ⟨hb.1, hb.2.1, by omega⟩
   split
   ·exact ⟨h1, h2, by omega⟩
   ·have hb := h.bd (j - 1) (by omega)
    exact ⟨hb.1, hb.2.1, by omega⟩
theorem put_ne {L : List Sp} {x : Sp} : put L x ≠ [] := by
 by_cases hc : there L x (pos L x)
 ·rw [put_there hc]
  intro e
  have h1 := congrArg List.length e
  rw [List.length_set] at h1
  have h2 := hc.1
  rw [h1] at h2
  exact absurd h2 (Nat.not_lt_zero _)
 ·rw [put_not hc]; simp

noncomputable def putI (run : Int) (ds : List Int) (S : List Sp) : Nat → List Sp
 | 0 => S
 | q + 1 => put (putI run ds S q) (run, ds.getD q 0, 1)
noncomputable def putO (run : Nat → Int) (ds : Nat → List Int) : Nat → List Sp
 | 0 => []
 | k + 1 => putI (run k) (ds k) (putO run ds k) (ds k).length
theorem putI_ok {c : Nat} {run : Int} {ds : List Int} {S : List Sp} (h : Ok c S) (h1 : 1 ≤ run ∧ run ≤ 1000) (h2 : ∀ q, q < ds.length → 1 ≤ ds.getD q 0 ∧ ds.getD q 0 ≤ 1000) : ∀ q, q ≤ ds.length → Ok (c + q) (putI run ds S q)
 | 0, _ => h
 | q + 1, hq => (putI_ok h h1 h2 q (by omega)).put h1 (h2 q (by omega)) rfl
theorem Ok.le {c c' : Nat} {L : List Sp} (h : Ok c L) (hc : c ≤ c') : Ok c' L := ⟨h.srt, by have := h.few; omega, fun j hj => by have := h.bd j hj; omega⟩
theorem putO_ok {run : Nat → Int} {ds : Nat → List Int} {n m : Nat} (h1 : ∀ k, k < n → 1 ≤ run k ∧ run k ≤ 1000) (h2 : ∀ k, k < n → (ds k).length ≤ m ∧ ∀ q, q < (ds k).length → 1 ≤ (ds k).getD q 0 ∧ (ds k).getD q 0 ≤ 1000) : ∀ k, k ≤ n → Ok (k * m) (putO run ds k)
 | 0, _ => by rw [Nat.zero_mul]; exact Ok.nil
 | k + 1, hk => by
  have h3 := putI_ok (putO_ok h1 h2 k (by omega)) (h1 k (by omega)) (h2 k (by omega)).2 (ds k).length (Nat.le_refl _)
  refine h3.le ?_
  rw [Nat.add_mul, Nat.one_mul]
  have := (h2 k (by omega)).1
  omega
theorem putI_ne {run : Int} {ds : List Int} {S : List Sp} : ∀ q, 1 ≤ q → putI run ds S q ≠ []
 | _ + 1, _ => put_ne

def cnt (P : Sp → Bool) (L : List Sp) : Nat → Int
 | 0 => 0
 | k + 1 => cnt P L k + bif P (L.getD k z0) then (L.getD k z0).2.2 else 0
theorem cnt_bd {P : Sp → Bool} {c : Nat} {L : List Sp} (h : Ok c L) : ∀ k, k ≤ L.length → 0 ≤ cnt P L k ∧ cnt P L k ≤ (k : Int) * c
 | 0, _ => by simp [cnt]
 | k + 1, hk => by
  have h1 := cnt_bd (P := P) h k (by omega)
  have h2 := (h.bd k (by omega)).2.2
  have e : ((k + 1 : Nat) : Int) * c = (k : Int) * c + c := by rw [Int.natCast_add, Int.add_mul]; simp
  rw [cnt, e]
  cases P (L.getD k z0)
  ·rw [cond_false]; omega
  ·rw [cond_true]; omega
def one (x : Sp) : Bool := decide (x.1 * x.2.1 = 1)
theorem one_iff {x : Sp} (h1 : 1 ≤ x.1) (h2 : 1 ≤ x.2.1) : one x = true ↔ x.1 = 1 ∧ x.2.1 = 1 := by
 unfold one
 rw [decide_eq_true_iff]
 constructor
 ·intro h
  have h3 : x.1 * 1 ≤ x.1 * x.2.1 := Int.mul_le_mul_of_nonneg_left h2 (by omega)
  have h4 : 1 * x.2.1 ≤ x.1 * x.2.1 := Int.mul_le_mul_of_nonneg_right h1 (by omega)
  omega
 ·rintro ⟨h3, h4⟩; rw [h3, h4]; rfl
theorem cnt_one {c : Nat} {L : List Sp} (h : Ok c L) : ∀ k, 1 ≤ k → k ≤ L.length → cnt one L k = if (L.getD 0 z0).1 = 1 ∧ (L.getD 0 z0).2.1 = 1 then (L.getD 0 z0).2.2 else 0
 | 0, h0, _ => absurd h0 (by decide)
 | 1, _, hk => by
  have hb := h.bd 0 (by omega)
  have hi := one_iff hb.1.1 hb.2.1.1
  rw [cnt, cnt]
  split
  ·rename_i h1; rw [hi.2 h1]; simp
  ·rename_i h1
   cases ho : one (L.getD 0 z0)
   ·simp
   ·exact absurd (hi.1 ho) h1
 | k + 2, _, hk => by
  have hb := h.bd (k + 1) (by omega)
  have hb0 := h.bd 0 (by omega)
  have hs := h.srt 0 (k + 1) (by omega) (by omega)
  have hi := one_iff hb.1.1 hb.2.1.1
  rw [cnt, cnt_one h (k + 1) (by omega) (by omega)]
  cases ho : one (L.getD (k + 1) z0)
  ·simp
  ·exfalso
   have := hi.1 ho
   unfold lt at hs
   omega
end Spl
end Go.Proofs.YtkkahnljonppiaaGreat
