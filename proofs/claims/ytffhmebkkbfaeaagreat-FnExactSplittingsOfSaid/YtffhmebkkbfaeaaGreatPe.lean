/- Plain mathematics of polynomials by a prime. No conditions. -/
import Derived.Test.YtffhmebkkbfaeaaGreatPd
namespace Go.Proofs.YtffhmebkkbfaeaaGreat
namespace Poly
variable {p : Int} [SP p]

def zbN (F : List (Poly p × Nat)) : Nat -> Poly p
 | 0 => 1
 | k + 1 => zbN F k * (F.getD k (0, 0)).1 ^ (F.getD k (0, 0)).2

theorem FacOf.at {f : Poly p} {F : List (Poly p × Nat)} (h : FacOf f F) {j : Nat} (hj : j < F.length) : kJ f (F.getD j (0, 0)) := by
 refine (h.2 _).1 ?_;rw [yR hj]; exact List.getElem_mem hj
theorem FacOf.ne_at {f : Poly p} {F : List (Poly p × Nat)} (h : FacOf f F) {i j : Nat} (hij : i < j) (hj : j < F.length) : (F.getD i (0, 0)).1 ≠ (F.getD j (0, 0)).1 := by
 have := List.pairwise_iff_getElem.1 h.1 i j (by omega) hj hij;rw [yR (show i < F.length by omega), yR hj];intro e;rw [e] at this;exact zaC _ this
theorem FacOf.cop_at {f : Poly p} {F : List (Poly p × Nat)} (h : FacOf f F) {i j : Nat} (hij : i < j) (hj : j < F.length) : Cop (F.getD i (0, 0)).1 (F.getD j (0, 0)).1 :=
 (h.at (by omega)).1.cop λhd => h.ne_at hij hj (kF (h.at (by omega)).1 (h.at hj).1 (h.at (by omega)).2.1 (h.at hj).2.1 hd)

theorem zhi {f : Poly p} {F : List (Poly p × Nat)} (h : FacOf f F) : ∀ k j, k <= j -> j < F.length -> Cop (zbN F k) (F.getD j (0, 0)).1
 | 0, _, _, _ => zfy _
 | k + 1, j, hk, hj => (zhi h k j (by omega) hj).mul ((h.cop_at (by omega) hj).pow _)
theorem zhj {f : Poly p} {F : List (Poly p × Nat)} (h : FacOf f F) : ∀ k, k <= F.length -> zbN F k ∣ f
 | 0, _ => zgN xh f
 | k + 1, hk => by
  refine Cop.mul_dvd ((zhi h k k (Nat.le_refl _) (by omega)).symm.pow _).symm (zhj h k (by omega)) ?_;obtain ⟨u, hu, _⟩ := (h.at (j := k) (by omega)).2.2.2;exact ⟨u, hu⟩
theorem zhk {F : List (Poly p × Nat)} : ∀ {k j}, j < k -> (F.getD j (0, 0)).1 ^ (F.getD j (0, 0)).2 ∣ zbN F k
 | 0, _, h => absurd h (by omega)
 | k + 1, j, h => by
  by_cases hj : j = k
  ·subst hj; exact z4 _ (dvd_refl _)
  ·exact xS _ (zhk (by omega))
theorem zbd {f : Poly p} {F : List (Poly p × Nat)} (h : FacOf f F) : ∀ k, k <= F.length -> Mon (zbN F k)
 | 0, _ => zfx
 | k + 1, hk => (zbd h k (by omega)).mul (zjg (h.at (by omega)).2.1 _)
theorem zfJ {g : Poly p} (h : g ≠ 0) : ∀ n : Nat, g ^ n ≠ 0
 | 0 => zfr
 | n + 1 => mul_ne (zfJ h n) h

theorem zlT {f : Poly p} {F : List (Poly p × Nat)} (h : FacOf f F) (hf : f ≠ 0) : f = con p (lc f) * zbN F F.length := by
 obtain ⟨r, hr⟩ := zhj h F.length (Nat.le_refl _);have hm := zbd h F.length (Nat.le_refl _);have hr0 : r ≠ 0 := λe => hf (by rw [hr, e]; exact zj [zbN F F.length] (by rfl))
 have hr1 : dg r <= 1 := by
  refine Nat.le_of_not_lt λh2 => ?_;obtain ⟨g, hg, hgm, hgr⟩ := vM _ r (Nat.le_refl _) h2;have hgf : g ∣ f := by rw [hr]; exact z4 _ hgr
  obtain ⟨e, he⟩ := yK hg.1 _ f hf (Nat.le_refl _)
  have he1 : 1 <= e := by
   rcases Nat.eq_zero_or_pos e with h0 | h0
   ·subst h0; exact absurd hgf (zY.1 he)
   ·exact h0
  obtain ⟨j, hj, hjF⟩ := List.mem_iff_getElem.1 ((h.2 (g, e)).2 ⟨hg, hgm, he1, he⟩);have hd := zhk (F := F) hj;rw [yR hj, hjF] at hd;obtain ⟨w, hw⟩ := hd;obtain ⟨u, hu, hun⟩ := he;have hw : zbN F F.length = g ^ e * w := hw;refine hun ?_
  have : g ^ e * u = g ^ e * (w * r) := by
   rw [<- hu, hr, hw]; exact zj [g ^ e, w, r] (by rfl)
  rw [zaz (zfJ hg.ne e) this];exact z4 _ hgr
 have hc := zfw hr1
 have hl : lc f = lc r := by
  have h1 := zdo hm.1 hr0;rw [<- hr, hm.2] at h1;have h2 := kL r (dg r - 1);rw [h1, Int.one_mul];exact Int.emod_eq_of_lt h2.1 h2.2
 have hd1 : dg r = 1 := by
  have : dg r ≠ 0 := λe => hr0 (zd.1 e);omega
 have hlr : lc r = cf r.l 0 := by unfold lc; rw [hd1]
 rw [hl, hlr, <- hc];rw [hr];exact zj [zbN F F.length, r] (by rfl)

theorem zjl {g : Poly p} (h : g ≠ 0) : ∀ n : Nat, dg (g ^ n) = n * (dg g - 1) + 1
 | 0 => by rw [zq, xh]; omega
 | n + 1 => by
  have h1 := zjl h n;have h2 := yA (zfJ h n) h;have h3 : dg g ≠ 0 := λe => h (zd.1 e);rw [zh, Nat.succ_mul];omega

end Poly
end Go.Proofs.YtffhmebkkbfaeaaGreat
