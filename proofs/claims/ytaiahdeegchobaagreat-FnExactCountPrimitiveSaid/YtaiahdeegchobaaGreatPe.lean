/- Plain mathematics of polynomials by a prime. No conditions. -/
import Derived.Test.YtaiahdeegchobaaGreatPd
namespace Go.Proofs.YtaiahdeegchobaaGreat
namespace Poly

/-- of the 2 ^ j numbers from a on those up to n that have no divisor in common with n -/
def cntB (n a : Nat) : Nat → Nat
  | 0 => bif Nat.ble a n && Nat.beq (Nat.gcd a n) 1 then 1 else 0
  | j + 1 => cntB n a j + cntB n (a + 2 ^ j) j
/-- of 1 to k -/
def cntN (n : Nat) : Nat → Nat
  | 0 => 0
  | k + 1 => cntN n k + if Nat.gcd (k + 1) n = 1 then 1 else 0
theorem cntN_le (n : Nat) : ∀ k, cntN n k ≤ k
  | 0 => Nat.le_refl _
  | k + 1 => by have := cntN_le n k; rw [cntN]; split <;> omega
/-- of k from a on -/
def cntR (n a : Nat) : Nat → Nat
  | 0 => 0
  | k + 1 => cntR n a k + bif Nat.ble (a + k) n && Nat.beq (Nat.gcd (a + k) n) 1 then 1 else 0
theorem cntR_add (n a k : Nat) : ∀ m, cntR n a (k + m) = cntR n a k + cntR n (a + k) m
  | 0 => rfl
  | m + 1 => by rw [← Nat.add_assoc, cntR, cntR, cntR_add n a k m, Nat.add_assoc a k m, Nat.add_assoc]
theorem cntB_eq (n : Nat) : ∀ j a, cntB n a j = cntR n a (2 ^ j)
  | 0, a => by simp [cntB, cntR]
  | j + 1, a => by rw [cntB, cntB_eq n j, cntB_eq n j, Nat.pow_succ, Nat.mul_two, cntR_add]
theorem cntR_one (n : Nat) : ∀ k, k ≤ n → cntR n 1 k = cntN n k
  | 0, _ => rfl
  | k + 1, h => by
    rw [cntR, cntN, cntR_one n k (by omega), Nat.add_comm 1 k]
    congr 1
    have h1 : Nat.ble (k + 1) n = true := Nat.ble_eq_true_of_le h
    rw [h1, Bool.true_and]
    by_cases h2 : Nat.gcd (k + 1) n = 1
    · rw [if_pos h2, h2]; rfl
    · rw [if_neg h2]
      have : Nat.beq (Nat.gcd (k + 1) n) 1 = false := by
        cases h3 : Nat.beq (Nat.gcd (k + 1) n) 1
        · rfl
        · exact absurd (Nat.eq_of_beq_eq_true h3) h2
      rw [this]; rfl
theorem cntR_more (n : Nat) : ∀ k, cntR n 1 (n + k) = cntN n n
  | 0 => cntR_one n n (Nat.le_refl _)
  | k + 1 => by
    rw [← Nat.add_assoc, cntR, cntR_more n k]
    have : Nat.ble (1 + (n + k)) n = false := by
      cases h : Nat.ble (1 + (n + k)) n
      · rfl
      · have := Nat.le_of_ble_eq_true h; omega
    rw [this]; rfl

def valC (q : Nat) : Nat → Nat → Nat
  | 0, _ => 0
  | k + 1, n => bif Nat.beq (n % q) 0 then valC q k (n / q) + 1 else 0
def facC : Nat → Nat → Nat → List (Nat × Nat)
  | 0, _, _ => []
  | k + 1, n, q => bif Nat.ble n 1 then [] else bif Nat.blt n (q * q) then [(n, 1)] else
      bif Nat.beq (n % q) 0 then (q, valC q 15 n) :: facC k (n / q ^ valC q 15 n) (q + 1) else facC k n (q + 1)
def prC (l : Nat) : Bool := Nat.ble 2 l && Nat.ble l 20000 && (List.range 142).all fun d => Nat.ble d 1 || Nat.blt l (d * d) || !(Nat.beq (l % d) 0)
def srtC : List (Nat × Nat) → Bool
  | [] => true
  | x :: L => L.all (fun y => Nat.blt x.1 y.1) && srtC L
def chkF (n : Nat) (L : List (Nat × Nat)) : Bool := Nat.beq (prodN L) n && L.all (fun x => Nat.ble 1 x.2 && prC x.1) && srtC L
def phiL (n : Nat) (L : List (Nat × Nat)) : Nat := L.foldl (fun c x => c / x.1 * (x.1 - 1)) n
def primesN : List Nat := [2, 3, 5, 7, 11, 13, 17, 19, 23, 29, 31, 37, 41, 43, 47, 53, 59, 61, 67, 71, 73, 79, 83, 89, 97]
def logC : Nat → Nat → Nat → Nat
  | 0, j, _ => j
  | k + 1, j, n => bif Nat.ble n (2 ^ j) then j else logC k (j + 1) n
def totC (n : Nat) : Bool := chkF n (facC 200 n 2) && Nat.ble n (2 ^ logC 15 0 n) && Nat.beq (cntB n 1 (logC 15 0 n)) (phiL n (facC 200 n 2))

theorem prC_ok {l : Nat} (h : prC l = true) : PrN l := by
  unfold prC at h
  rw [Bool.and_eq_true, Bool.and_eq_true] at h
  obtain ⟨⟨h1, h2⟩, h3⟩ := h
  have h1 := Nat.le_of_ble_eq_true h1
  have h2 := Nat.le_of_ble_eq_true h2
  have hn : ∀ d, 2 ≤ d → d * d ≤ l → ¬ d ∣ l := fun d h4 h5 h6 => by
    have hd : d < 142 := Nat.lt_of_not_le fun h7 => by have : 142 * 142 ≤ d * d := Nat.mul_le_mul h7 h7; omega
    have h8 := List.all_eq_true.1 h3 d (List.mem_range.2 hd)
    rw [Bool.or_eq_true, Bool.or_eq_true] at h8
    rcases h8 with (h8 | h8) | h8
    · have := Nat.le_of_ble_eq_true h8; omega
    · have := Nat.le_of_ble_eq_true h8; omega
    · rw [Nat.mod_eq_zero_of_dvd h6] at h8; cases h8
  refine ⟨h1, fun d hd => ?_⟩
  apply Classical.byContradiction
  intro hc
  have hd1 : d ≠ 1 := fun e => hc (.inl e)
  have hd2 : d ≠ l := fun e => hc (.inr e)
  obtain ⟨c, hdc⟩ := hd
  have hd0 : d ≠ 0 := fun e => by rw [e, Nat.zero_mul] at hdc; omega
  have hc1 : c ≠ 1 := fun e => hd2 (by rw [hdc, e, Nat.mul_one])
  have hc0 : c ≠ 0 := fun e => by rw [e, Nat.mul_zero] at hdc; omega
  rcases Nat.le_total d c with h9 | h9
  · exact hn d (by omega) (by rw [hdc]; exact Nat.mul_le_mul_left _ h9) ⟨c, hdc⟩
  · exact hn c (by omega) (by rw [hdc]; exact Nat.mul_le_mul_right _ h9) ⟨d, by rw [Nat.mul_comm]; exact hdc⟩
theorem srtC_ok : ∀ {L : List (Nat × Nat)}, srtC L = true → L.Pairwise fun x y => x.1 < y.1
  | [], _ => List.Pairwise.nil
  | x :: L, h => by
    rw [srtC, Bool.and_eq_true] at h
    exact List.pairwise_cons.2 ⟨fun y hy => Nat.le_of_ble_eq_true (List.all_eq_true.1 h.1 y hy), srtC_ok h.2⟩
theorem chkF_ok {n : Nat} {L : List (Nat × Nat)} (h : chkF n L = true) : FacS n L := by
  unfold chkF at h
  rw [Bool.and_eq_true, Bool.and_eq_true] at h
  refine ⟨Nat.eq_of_beq_eq_true h.1.1, fun x hx => ?_, srtC_ok h.2⟩
  have h1 := List.all_eq_true.1 h.1.2 x hx
  rw [Bool.and_eq_true] at h1
  exact ⟨prC_ok h1.2, Nat.le_of_ble_eq_true h1.1⟩
theorem tot_chk : (primesN.all fun q => (List.range 14).all fun k => !(Nat.ble (q ^ (k + 1)) 20000) || totC (q ^ (k + 1) - 1)) = true := by decide +kernel
theorem primes_nat : primes.all (fun q => decide (q.toNat ∈ primesN)) = true := by decide +kernel
theorem tot_ok {p : Int} (hp : p ∈ primes) {k : Nat} (hk : 1 ≤ k) (h : p.toNat ^ k ≤ 20000) : phiL (p.toNat ^ k - 1) (facL (p.toNat ^ k - 1)) = cntN (p.toNat ^ k - 1) (p.toNat ^ k - 1) := by
  have h1 : p.toNat ∈ primesN := of_decide_eq_true (List.all_eq_true.1 primes_nat p hp)
  have h2 : 2 ≤ p.toNat := by
    have : ∀ q ∈ primesN, 2 ≤ q := by decide
    exact this _ h1
  have hk2 : k < 15 := Nat.lt_of_not_le fun h3 => by
    have h4 : 2 ^ 15 ≤ p.toNat ^ k := Nat.le_trans (Nat.pow_le_pow_left h2 15) (Nat.pow_le_pow_right (by omega) h3)
    omega
  obtain ⟨j, rfl⟩ : ∃ j, k = j + 1 := ⟨k - 1, by omega⟩
  have h3 := List.all_eq_true.1 (List.all_eq_true.1 tot_chk _ h1) j (List.mem_range.2 (by omega))
  rw [Nat.ble_eq_true_of_le h] at h3
  have h3 : totC (p.toNat ^ (j + 1) - 1) = true := h3
  have h5 : 1 ≤ p.toNat ^ (j + 1) - 1 := by
    have : p.toNat ^ 1 ≤ p.toNat ^ (j + 1) := Nat.pow_le_pow_right (by omega) (by omega)
    rw [Nat.pow_one] at this; omega
  generalize p.toNat ^ (j + 1) - 1 = n at h3 h5 ⊢
  unfold totC at h3
  rw [Bool.and_eq_true, Bool.and_eq_true] at h3
  obtain ⟨⟨h6, h7⟩, h8⟩ := h3
  rw [(facL_ok h5).unique (chkF_ok h6), ← Nat.eq_of_beq_eq_true h8, cntB_eq]
  have h7 := Nat.le_of_ble_eq_true h7
  rw [show 2 ^ logC 15 0 n = n + (2 ^ logC 15 0 n - n) by omega, cntR_more]

end Poly
end Go.Proofs.YtaiahdeegchobaaGreat

namespace Go.Proofs.YtaiahdeegchobaaGreat
namespace Poly
variable {p : Int} [SP p]

theorem Cop.rem {f h : Poly p} (hc : Cop f h) : Cop f (rem h f) := by
  obtain ⟨a, b, e⟩ := hc
  have h1 := div_eq h f
  exact ⟨a + b * quo h f, b, comb 1 e (comb (-b) h1 (ring [a, b, f, h, quo h f, Poly.rem h f] (by rfl)))⟩
theorem Cop.step {a b : Poly p} (h : Cop a b) : Cop b (Poly.rem a b) := by
  have h1 := h.symm.rem
  exact h1
theorem Cop.unit {a : Poly p} (h : Cop a 0) : dg a = 1 := by
  obtain ⟨u, v, e⟩ := h
  exact dvd_unit dg_one ⟨u, comb (-1) e (ring [u, v, a] (by rfl))⟩
theorem quo_dg {a b : Poly p} (ha : a ≠ 0) (hb : b ≠ 0) (hl : dg b ≤ dg a) : dg (quo a b) + dg b = dg a + 1 := by
  have h1 := div_eq a b
  have h2 := rem_lt a hb
  have hq : quo a b ≠ 0 := fun e => by
    rw [e, show (0 : Poly p) * b + Poly.rem a b = Poly.rem a b from ring [b, Poly.rem a b] (by rfl)] at h1
    rw [← h1] at h2; omega
  have h3 := dg_mul hq hb
  have hd : dg (quo a b) ≠ 0 := fun e => hq (dg_eq_zero.1 e)
  have hb0 : dg b ≠ 0 := fun e => hb (dg_eq_zero.1 e)
  have h4 : dg a ≤ max (dg (quo a b * b)) (dg (Poly.rem a b)) := by
    have := dg_add (quo a b * b) (Poly.rem a b)
    rw [← h1] at this; exact this
  have h5 : dg (quo a b * b) ≤ max (dg a) (dg (Poly.rem a b)) := by
    have := dg_sub a (Poly.rem a b)
    rwa [show a - Poly.rem a b = quo a b * b from comb 1 h1 (ring [a, b, quo a b, Poly.rem a b] (by rfl))] at this
  omega

/-- u and v are, times h, the remainders a and b by f -/
structure CofI (f h a b u v : Poly p) : Prop where
  a0 : a ≠ 0
  lt : dg b < dg a
  cop : Cop a b
  ua : f ∣ u * h - a
  vb : f ∣ v * h - b
  dv : dg v + dg a ≤ dg f + 1
  du : dg u + dg a ≤ dg f
theorem CofI.start {f h : Poly p} (hf : f ≠ 0) (hc : Cop f h) : CofI f h f (rem h f) 0 1 := by
  refine ⟨hf, rem_lt h hf, hc.rem, ⟨-1, ring [f, h] (by rfl)⟩, ?_, by rw [dg_one]; omega, by rw [dg_zero]; omega⟩
  rw [CR.one_mul]; exact sub_rem_dvd h f
theorem CofI.step {f h a b u v : Poly p} (k : CofI f h a b u v) (hb : b ≠ 0) : CofI f h b (rem a b) v (u - quo a b * v) := by
  have h1 := quo_dg k.a0 hb (Nat.le_of_lt k.lt)
  have h2 := rem_lt a hb
  have h3 := div_eq a b
  have hv := k.dv
  have hu := k.du
  have hlt := k.lt
  refine ⟨hb, h2, k.cop.step, k.vb, ?_, ?_, by omega⟩
  · have h4 := dvd_sub k.ua (dvd_mul_left (quo a b) k.vb)
    rwa [show u * h - a - quo a b * (v * h - b) = (u - quo a b * v) * h - rem a b from comb (-1) h3 (ring [u, v, h, a, b, quo a b, rem a b] (by rfl))] at h4
  · have h5 := dg_sub u (quo a b * v)
    have h6 := dg_mul_le (quo a b) v
    omega
theorem CofI.few {f h a b u v : Poly p} (k : CofI f h a b u v) : dg u ≤ dg f ∧ dg v ≤ dg f ∧ dg a ≤ dg f ∧ dg b ≤ dg f := by
  have h1 := k.dv
  have h2 := k.du
  have h3 := k.lt
  omega
theorem CofI.fin {f h a u v : Poly p} (k : CofI f h a 0 u v) {c : Int} (hc : cf a.l 0 * c % p = 1) : dg (u * con p c) < dg f ∧ f ∣ h * (u * con p c) - 1 := by
  have h1 := k.cop.unit
  have h2 := is_con (f := a) (by omega)
  have h3 := k.du
  refine ⟨by have := dg_mul_le u (con p c); have := con_dg (p := p) c; omega, ?_⟩
  have h4 := dvd_mul_right (con p c) k.ua
  have h5 : a * con p c = 1 := by
    rw [h2, con_mul, ← con_mod, hc]; rfl
  rwa [show (u * h - a) * con p c = h * (u * con p c) - 1 from comb (-1) h5 (ring [u, h, a, con p c] (by rfl))] at h4

end Poly
end Go.Proofs.YtaiahdeegchobaaGreat

namespace Go.Proofs.YtaiahdeegchobaaGreat
namespace Poly
variable {p : Int} [SP p]

/-- the Frobenius, formed again and again -/
noncomputable def frN (f X : Poly p) : Nat → Poly p
  | 0 => X
  | k + 1 => rem (frN f X k ^ p.toNat) f
theorem frN_lt {f X : Poly p} (hf : f ≠ 0) (hX : dg X < dg f) : ∀ k, dg (frN f X k) < dg f
  | 0 => hX
  | _ + 1 => rem_lt _ hf
theorem frN_add (f X : Poly p) (a : Nat) : ∀ b, frN f X (a + b) = frN f (frN f X a) b
  | 0 => rfl
  | b + 1 => by rw [← Nat.add_assoc, frN, frN, frN_add f X a b]
theorem frN_pow {f X : Poly p} (hf : f ≠ 0) (hX : dg X < dg f) : ∀ k, frN f X k = rem (X ^ (p.toNat ^ k)) f
  | 0 => by rw [frN, Nat.pow_zero, pow_succ', pow_zero', CR.one_mul, rem_small hX]
  | k + 1 => by rw [frN, frN_pow hf hX k, rem_pow hf, Nat.pow_succ, pow_mul]
/-- as often as the degree: the element itself -/
theorem frN_end {f X : Poly p} (hi : Irr f) (hX : dg X < dg f) {n : Nat} (hn : dg f = n + 1) : frN f X n = X := by
  have hf := hi.ne
  by_cases h0 : X = 0
  · have hz : ∀ k, frN f X k = 0 := fun k => by
      induction k with
      | zero => exact h0
      | succ k ih =>
        rw [frN, ih, zero_pow pos_nat]
        exact rem_small (by rw [dg_zero]; have := hi.1; omega)
    rw [hz, h0]
  · rw [frN_pow hf hX]
    have hq : 1 ≤ p.toNat ^ n := Nat.pow_pos pos_nat
    have h1 := fermat hi (small_ndvd h0 hX) hn
    unfold One at h1
    have h2 := dvd_mul_right X h1
    have e : X ^ (p.toNat ^ n) = X ^ (p.toNat ^ n - 1) * X := by rw [← pow_succ']; congr 1; omega
    rw [e]
    generalize X ^ (p.toNat ^ n - 1) = u at h2
    rw [show (u - 1) * X = u * X - X from ring [u, X] (by rfl)] at h2
    rw [rem_eq_of_dvd hf h2, rem_small hX]
/-- after how many times the element itself comes back -/
structure Per (f X : Poly p) (m : Nat) : Prop where
  pos : 0 < m
  back : frN f X m = X
  first : ∀ k, 0 < k → k < m → frN f X k ≠ X
theorem exists_per {f X : Poly p} (hi : Irr f) (hX : dg X < dg f) {n : Nat} (hn : dg f = n + 1) : ∃ m, Per f X m ∧ m ≤ n := by
  have go : ∀ j, j ≤ n → (∃ m, Per f X m ∧ m ≤ n) ∨ ∀ k, 0 < k → k ≤ j → frN f X k ≠ X := by
    intro j
    induction j with
    | zero => exact fun _ => .inr fun k h1 h2 => by omega
    | succ j ih =>
      intro hj
      rcases ih (by omega) with h | h
      · exact .inl h
      · by_cases h1 : frN f X (j + 1) = X
        · exact .inl ⟨j + 1, ⟨by omega, h1, fun k h2 h3 => h k h2 (by omega)⟩, hj⟩
        · exact .inr fun k h2 h3 => by
            by_cases h4 : k = j + 1
            · exact h4 ▸ h1
            · exact h k h2 (by omega)
  rcases go n (Nat.le_refl _) with h | h
  · exact h
  · exact absurd (frN_end hi hX hn) (h n (by have := hi.1; omega) (Nat.le_refl _))
theorem Per.mul {f X : Poly p} {m : Nat} (h : Per f X m) : ∀ k, frN f X (m * k) = X
  | 0 => rfl
  | k + 1 => by rw [Nat.mul_succ, frN_add, h.mul k, h.back]
theorem Per.iff {f X : Poly p} {m : Nat} (h : Per f X m) (d : Nat) : frN f X d = X ↔ d % m = 0 := by
  have e := Nat.div_add_mod d m
  have h1 : frN f X d = frN f X (d % m) := by
    have h2 : frN f X (m * (d / m) + d % m) = frN f X (d % m) := by rw [frN_add, h.mul]
    rwa [e] at h2
  rw [h1]
  constructor
  · intro h2
    exact Nat.eq_zero_of_not_pos fun h3 => h.first _ h3 (Nat.mod_lt _ h.pos) h2
  · intro h2; rw [h2]; rfl
end Poly
end Go.Proofs.YtaiahdeegchobaaGreat
