/- Plain mathematics of polynomials by a prime. No conditions. -/
import Derived.Test.YtaemcmndfhgpjaaGreatPd
namespace Go.Proofs.YtaemcmndfhgpjaaGreat
namespace Poly
variable {p : Int} [SP p]

noncomputable def frN (f X : Poly p) : Nat → Poly p
 | 0 => X
 | k + 1 => rem (frN f X k ^ p.toNat) f
theorem frN_add (f X : Poly p) (a : Nat) : ∀ b, frN f X (a + b) = frN f (frN f X a) b
 | 0 => rfl
 | b + 1 => by rw [← Nat.add_assoc, frN, frN, frN_add f X a b]
structure Per (f X : Poly p) (m : Nat) : Prop where
 pos : 0 < m
 back : frN f X m = X
 first : ∀ k, 0 < k → k < m → frN f X k ≠ X
theorem Per.mul {f X : Poly p} {m : Nat} (h : Per f X m) : ∀ k, frN f X (m * k) = X
 | 0 => rfl
 | k + 1 => by rw [Nat.mul_succ, frN_add, h.mul k, h.back]
end Poly
end Go.Proofs.YtaemcmndfhgpjaaGreat
