/- Plain mathematics of polynomials by a prime. No conditions. -/
import Derived.Test.YtlmckocbhcpmdaaGreatPd
namespace Go.Proofs.YtlmckocbhcpmdaaGreat
namespace Poly
variable {p : Int} [SP p]

noncomputable def mpN (f X : Poly p) : Nat -> Nat -> Poly p
 | 0, 0 => 1
 | 0, _ + 1 => 0
 | k + 1, 0 => 0 - rem (mpN f X k 0 * frN f X k) f
 | k + 1, j + 1 => mpN f X k j - rem (mpN f X k (j + 1) * frN f X k) f
noncomputable def mpS (f X : Poly p) (k : Nat) : Nat -> Poly p
 | 0 => 0
 | j + 1 => mpN f X k j
theorem ziz (f X : Poly p) (k j : Nat) : mpN f X (k + 1) j = mpS f X k j - rem (mpN f X k j * frN f X k) f := by cases j <;> rfl
theorem zeS {f : Poly p} (hf0 : f ≠ 0) (Y : Poly p) : rem (0 * Y) f = 0 := by
 rw [show (0 : Poly p) * Y = 0 from zf [Y] (by rfl)];refine vr ?_;rw [zv];have : dg f ≠ 0 := fun e => hf0 (zd.1 e);omega
theorem zb4 {f : Poly p} (hf0 : f ≠ 0) (X : Poly p) : ∀ k j, k < j -> mpN f X k j = 0
 | 0, _ + 1, _ => rfl
 | k + 1, j + 1, h => by
  show mpN f X k j - rem (mpN f X k (j + 1) * frN f X k) f = 0
  rw [zb4 hf0 X k j (by omega), zb4 hf0 X k (j + 1) (by omega), zeS hf0];exact zf [] (by rfl)
theorem zg8 {f : Poly p} (hf0 : f ≠ 0) (X : Poly p) (k : Nat) : mpN f X (k + 1) (k + 1) = mpN f X k k := by
 show mpN f X k k - rem (mpN f X k (k + 1) * frN f X k) f = _
 rw [zb4 hf0 X k (k + 1) (by omega), zeS hf0];exact zf [mpN f X k k] (by rfl)
theorem zeT {f : Poly p} (hf0 : f ≠ 0) (h2 : 2 <= dg f) (X : Poly p) : ∀ k j, dg (mpN f X k j) < dg f
 | 0, 0 => by show dg (1 : Poly p) < _; rw [yW]; omega
 | 0, _ + 1 => by show dg (0 : Poly p) < _; rw [zv]; omega
 | k + 1, 0 => by
  have h1 := jT 0 (rem (mpN f X k 0 * frN f X k) f);have h3 := zM (mpN f X k 0 * frN f X k) hf0;rw [zv] at h1;show dg (0 - rem (mpN f X k 0 * frN f X k) f) < _; omega
 | k + 1, j + 1 => by
  have h1 := jT (mpN f X k j) (rem (mpN f X k (j + 1) * frN f X k) f);have h3 := zM (mpN f X k (j + 1) * frN f X k) hf0;have h4 := zeT hf0 h2 X k j;show dg (mpN f X k j - rem (mpN f X k (j + 1) * frN f X k) f) < _; omega
theorem znd {f : Poly p} (hf0 : f ≠ 0) (h2 : 2 <= dg f) (X : Poly p) (k : Nat) : ∀ j, dg (mpS f X k j) < dg f
 | 0 => by show dg (0 : Poly p) < _; rw [zv]; omega
 | j + 1 => zeT hf0 h2 X k j

noncomputable def mpL (f X : Poly p) (n k : Nat) : List Int := mkL k fun j => cf (mpN f X n j).l 0

def zeU (c : Poly p) (a : Nat -> Poly p) : Nat -> Poly p
 | 0 => 0 - c * a 0
 | j + 1 => a j - c * a (j + 1)
def v7 : List (Poly p) -> Nat -> Poly p
 | [] => fun j => match j with | 0 => 1 | _ + 1 => 0
 | c :: r => zeU c (v7 r)
theorem zly (c d : Poly p) (a : Nat -> Poly p) : zeU c (zeU d a) = zeU d (zeU c a) := by
 funext j
 match j with
 | 0 => show 0 - c * (0 - d * a 0) = 0 - d * (0 - c * a 0); exact zf [c, d, a 0] (by rfl)
 | 1 => show (0 - d * a 0) - c * (a 0 - d * a 1) = (0 - c * a 0) - d * (a 0 - c * a 1); exact zf [c, d, a 0, a 1] (by rfl)
 | j + 2 => show (a j - d * a (j + 1)) - c * (a (j + 1) - d * a (j + 2)) = (a j - c * a (j + 1)) - d * (a (j + 1) - c * a (j + 2)); exact zf [c, d, a j, a (j + 1), a (j + 2)] (by rfl)
theorem zgg (c : Poly p) : ∀ l, v7 (l ++ [c]) = v7 (c :: l)
 | [] => rfl
 | d :: l => by
  rw [List.cons_append, v7, zgg c l];exact zly d c (v7 l)
theorem zcL : ∀ (l : List (Poly p)) (j : Nat), l.length < j -> v7 l j = 0
 | [], _ + 1, _ => rfl
 | c :: l, j + 1, h => by
  show v7 l j - c * v7 l (j + 1) = 0
  rw [zcL l j (by simpa using h), zcL l (j + 1) (by simp at h; omega)];exact zf [c] (by rfl)
theorem zaT : ∀ (l : List (Poly p)) (j : Nat), v7 l j ^ p.toNat = v7 (l.map (· ^ p.toNat)) j
 | [], 0 => zbU _
 | [], _ + 1 => zau vI
 | c :: l, 0 => by
  show (0 - c * v7 l 0) ^ p.toNat = 0 - c ^ p.toNat * v7 (l.map (· ^ p.toNat)) 0
  rw [zav, zdD, zau vI, zaT l 0]
 | c :: l, j + 1 => by
  show (v7 l j - c * v7 l (j + 1)) ^ p.toNat = v7 (l.map (· ^ p.toNat)) j - c ^ p.toNat * v7 (l.map (· ^ p.toNat)) (j + 1)
  rw [zav, zdD, zaT l j, zaT l (j + 1)]
theorem zaB {f a b c d : Poly p} (h1 : f ∣ a - b) (h2 : f ∣ c - d) : f ∣ a * c - b * d := by
 obtain ⟨u, hu⟩ := h1;obtain ⟨v, hv⟩ := h2
 exact ⟨u * c + b * v, by
  have e : a * c - b * d = (a - b) * c + b * (c - d) := zf [a, b, c, d] (by rfl);rw [e, hu, hv]; exact zf [f, u, c, b, v] (by rfl)⟩
theorem ziA {f a b c d : Poly p} (h1 : f ∣ a - b) (h2 : f ∣ c - d) : f ∣ (a - c) - (b - d) := by
 obtain ⟨u, hu⟩ := h1;obtain ⟨v, hv⟩ := h2
 exact ⟨u - v, by
  have e : (a - c) - (b - d) = (a - b) - (c - d) := zf [a, b, c, d] (by rfl);rw [e, hu, hv]; exact zf [f, u, v] (by rfl)⟩
theorem zeV {f a b c d : Poly p} (h1 : f ∣ a - b) (h2 : f ∣ c - d) : f ∣ (a + c) - (b + d) := by
 obtain ⟨u, hu⟩ := h1;obtain ⟨v, hv⟩ := h2
 exact ⟨u + v, by
  have e : (a + c) - (b + d) = (a - b) + (c - d) := zf [a, b, c, d] (by rfl);rw [e, hu, hv]; exact zf [f, u, v] (by rfl)⟩
theorem yp (f a : Poly p) : f ∣ a - a := ⟨0, zf [f, a] (by rfl)⟩
theorem zcM {f a b : Poly p} (h : f ∣ a - b) : f ∣ b - a := by
 obtain ⟨u, hu⟩ := h
 exact ⟨0 - u, by
  have e : b - a = 0 - (a - b) := zf [a, b] (by rfl);rw [e, hu]; exact zf [f, u] (by rfl)⟩
theorem jx {f a b c : Poly p} (h1 : f ∣ a - b) (h2 : f ∣ b - c) : f ∣ a - c := by
 obtain ⟨u, hu⟩ := h1;obtain ⟨v, hv⟩ := h2
 exact ⟨u + v, by
  have e : a - c = (a - b) + (b - c) := zf [a, b, c] (by rfl);rw [e, hu, hv]; exact zf [f, u, v] (by rfl)⟩
theorem zgh {f c d : Poly p} {a b : Nat -> Poly p} (h1 : f ∣ c - d) (h2 : ∀ j, f ∣ a j - b j) : ∀ j, f ∣ zeU c a j - zeU d b j
 | 0 => ziA (yp f 0) (zaB h1 (h2 0))
 | j + 1 => ziA (h2 j) (zaB h1 (h2 (j + 1)))

noncomputable def sg (f X : Poly p) : Nat -> List (Poly p)
 | 0 => []
 | k + 1 => frN f X k :: sg f X k
noncomputable def sg1 (f X : Poly p) : Nat -> List (Poly p)
 | 0 => []
 | k + 1 => frN f X (k + 1) :: sg1 f X k
theorem zne (f X : Poly p) : ∀ k, (sg f X k).length = k
 | 0 => rfl
 | k + 1 => by rw [sg, List.length_cons, zne f X k]
theorem znf (f X : Poly p) : ∀ k, sg f X (k + 1) = sg1 f X k ++ [X]
 | 0 => rfl
 | k + 1 => by rw [sg, znf f X k, sg1]; rfl

theorem zg9 (f X : Poly p) : ∀ k j, f ∣ mpN f X k j - v7 (sg f X k) j
 | 0, 0 => yp f 1
 | 0, _ + 1 => yp f 0
 | k + 1, j => by
  have h1 : f ∣ mpN f X (k + 1) j - zeU (frN f X k) (mpN f X k) j := by
   have key : ∀ u, f ∣ (u - rem (mpN f X k j * frN f X k) f) - (u - frN f X k * mpN f X k j) := fun u => by
    obtain ⟨q, hq⟩ := xc (mpN f X k j * frN f X k) f;refine ⟨q, ?_⟩;rw [<- hq];exact zf [u, rem (mpN f X k j * frN f X k) f, frN f X k, mpN f X k j] (by rfl)
   cases j with
   | zero => exact key 0
   | succ j => exact key (mpN f X k j)
  exact jx h1 (zgh (yp f _) (zg9 f X k) j)
theorem zng (f X : Poly p) : ∀ k j, f ∣ v7 ((sg f X k).map (· ^ p.toNat)) j - v7 (sg1 f X k) j
 | 0, _ => yp f _
 | k + 1, j => zgh (xc _ f) (zng f X k) j
theorem ziB {f a : Poly p} (h : f ∣ a) : f ∣ a ^ p.toNat := by
 obtain ⟨q, hq⟩ : ∃ q, p.toNat = q + 1 := ⟨p.toNat - 1, by have := vI (p := p); omega⟩
 rw [hq, zg];exact yv _ h
theorem zoj {f X : Poly p} {n : Nat} (hn : Per f X n) (j : Nat) : Ber f (mpN f X n j) := by
 obtain ⟨m, rfl⟩ : ∃ m, n = m + 1 := ⟨n - 1, by have := hn.pos; omega⟩
 have h1 := zg9 f X (m + 1) j;have h2 := ziB h1;rw [zav, zaT] at h2;have h3 := zng f X (m + 1) j
 have h4 : v7 (sg1 f X (m + 1)) = v7 (sg f X (m + 1)) := by
  rw [znf, zgg, sg1, hn.back]
 rw [h4] at h3;exact jx (jx h2 h3) (zcM h1)
theorem ziC {f a b : Poly p} (h : f ∣ a - b) (ha : dg a < dg f) (hb : dg b < dg f) : a = b := by
 by_cases h0 : a - b = 0
 ·have : a = a - b + b := zf [a, b] (by rfl);rw [this, h0]; exact zf [b] (by rfl)
 ·exact absurd h (vu h0 (by have := jT a b; omega))
theorem zok {f X : Poly p} (hi : Irr f) {n : Nat} (hn : Per f X n) (j : Nat) : mpN f X n j = con p (cf (mpN f X n j).l 0) := by
 obtain ⟨s, _, _, h⟩ := zks hi (zoj hn j);have h2 := hi.1;have h3 : mpN f X n j = con p s := ziC h (zeT hi.ne h2 X n j) (by have := x5 (p := p) s; omega);exact zgR (by rw [h3]; exact x5 s)
theorem ziD {f : Poly p} (hf0 : f ≠ 0) (X : Poly p) : ∀ k, mpN f X k k = 1
 | 0 => rfl
 | k + 1 => by rw [zg8 hf0, ziD hf0 X k]

/- values -/
def zc9 (T : Poly p) : List (Poly p) -> Poly p
 | [] => 1
 | c :: r => (T - c) * zc9 T r
theorem zky (c T : Poly p) (a : Nat -> Poly p) : ∀ m, zH (fun j => zeU c a j * T ^ j) (m + 1) = (T - c) * zH (fun j => a j * T ^ j) m - c * a m * T ^ m
 | 0 => by
  show (0 : Poly p) + (0 - c * a 0) * T ^ 0 = (T - c) * 0 - c * a 0 * T ^ 0
  exact zf [c, a 0, T, T ^ 0] (by rfl)
 | m + 1 => by
  show zH (fun j => zeU c a j * T ^ j) (m + 1) + (a m - c * a (m + 1)) * T ^ (m + 1) = (T - c) * (zH (fun j => a j * T ^ j) m + a m * T ^ m) - c * a (m + 1) * T ^ (m + 1)
  rw [zky c T a m, zg];exact zf [c, T, a m, a (m + 1), T ^ m, zH (fun j => a j * T ^ j) m] (by rfl)
theorem ziE (T : Poly p) : ∀ l : List (Poly p), zH (fun j => v7 l j * T ^ j) (l.length + 1) = zc9 T l
 | [] => by
  show (0 : Poly p) + 1 * T ^ 0 = 1
  rw [zt]; exact zf [] (by rfl)
 | c :: l => by
  rw [List.length_cons];show zH (fun j => zeU c (v7 l) j * T ^ j) (l.length + 1 + 1) = (T - c) * zc9 T l
  rw [zky, ziE T l, zcL l _ (Nat.lt_succ_self _)];exact zf [c, T, zc9 T l, T ^ (l.length + 1)] (by rfl)
theorem zgi {f T : Poly p} : ∀ {l : List (Poly p)}, T ∈ l -> zc9 T l = 0
 | c :: l, h => by
  rcases List.mem_cons.1 h with rfl | h
  ·show (T - T) * zc9 T l = 0
   exact zf [T, zc9 T l] (by rfl)
  ·show (T - c) * zc9 T l = 0
   rw [zgi (f := f) h]; exact zf [T, c] (by rfl)
theorem zgj {f : Poly p} {g h : Nat -> Poly p} : ∀ {n : Nat}, (∀ i, i < n -> f ∣ g i - h i) -> f ∣ zH g n - zH h n
 | 0, _ => yp f 0
 | n + 1, hh => zeV (zgj fun i hi => hh i (by omega)) (hh n (by omega))

theorem zkz {f a b : Poly p} (h : f ∣ a - b) : ∀ l : List Int, f ∣ ev a l - ev b l
 | [] => yp f 0
 | _ :: l => zeV (yp f _) (zaB h (zkz h l))
theorem zgk (f g : Nat -> Poly p) : ∀ n, zH (fun i => f i + g i) n = zH f n + zH g n
 | 0 => by show (0 : Poly p) = 0 + 0; exact zf [] (by rfl)
 | n + 1 => by
  show zH (fun i => f i + g i) n + (f n + g n) = (zH f n + f n) + (zH g n + g n)
  rw [zgk f g n]; exact zf [zH f n, zH g n, f n, g n] (by rfl)
theorem zoS (T f g : Poly p) : ev T (f + g).l = ev T f.l + ev T g.l := by
 rw [vZ T (f + g).l (n := max f.l.length g.l.length) (zgO f g), vZ T f.l (n := max f.l.length g.l.length) (Nat.le_max_left ..), vZ T g.l (n := max f.l.length g.l.length) (Nat.le_max_right ..), <- zgk];refine xa fun j _ => ?_;rw [yU, kI, <- zdC];exact zf [con p (cf f.l j), con p (cf g.l j), T ^ j] (by rfl)
theorem zjN (T : Poly p) (c : Int) (g : Poly p) : ev T (con p c * g).l = con p c * ev T g.l := by
 have hl : (con p c * g).l.length <= g.l.length := by
  have h1 := xk (con p c) g;have h2 := x5 (p := p) c;show dg (con p c * g) <= dg g
  by_cases hg : dg g = 0
  ·have : con p c * g = 0 := by rw [zd.1 hg]; exact zf [con p c] (by rfl)
   rw [this, zv]; omega
  ·omega
 rw [vZ T _ hl, vZ T g.l (Nat.le_refl _), <- zaw];refine xa fun j _ => ?_;rw [zbn, kI, <- zdB];exact zf [con p c, con p (cf g.l j), T ^ j] (by rfl)

theorem znh (T h : Poly p) : ev T (mono p 1 1 * h).l = T * ev T h.l := by
 have hl : (mono p 1 1 * h).l.length <= h.l.length + 1 := zat (f := mono p 1 1 * h) fun i hi => by
  rw [y9]
  split
  ·rw [yb (by omega)]; simp
  ·rfl
 rw [vZ T _ hl, vZ T h.l (Nat.le_refl _), zez, <- zaw]
 have e0 : con p (cf (mono p 1 1 * h).l 0) * T ^ 0 = 0 := by
  rw [y9, if_neg (by omega), yN];exact zf [T ^ 0] (by rfl)
 rw [e0];have e1 : ∀ u : Poly p, 0 + u = u := fun u => zf [u] (by rfl);rw [e1];refine xa fun j _ => ?_;rw [y9, if_pos (by omega), Int.one_mul, kI, zg, show j + 1 - 1 = j by omega];exact zf [con p (cf h.l j), T, T ^ j] (by rfl)
theorem zgl (T h : Poly p) : ∀ k : Nat, ev T (mono p 1 1 ^ k * h).l = T ^ k * ev T h.l
 | 0 => by
  rw [zt, zt];have e1 : ∀ u : Poly p, 1 * u = u := fun u => zf [u] (by rfl);rw [e1, e1]
 | k + 1 => by
  have e1 : mono p 1 1 ^ (k + 1) * h = mono p 1 1 * (mono p 1 1 ^ k * h) := by rw [zg]; exact zf [mono p 1 1 ^ k, mono p 1 1, h] (by rfl)
  rw [e1, znh, zgl T h k, zg];exact zf [T, T ^ k, ev T h.l] (by rfl)
theorem zkA (T : Poly p) (g : Nat -> Poly p) : ∀ n, ev T (zH g n).l = zH (fun i => ev T (g i).l) n
 | 0 => by show ev T (0 : Poly p).l = 0; rw [xZ]; rfl
 | n + 1 => by
  show ev T (zH g n + g n).l = zH (fun i => ev T (g i).l) n + ev T (g n).l
  rw [zoS, zkA T g n]
theorem zni (T f g : Poly p) : ev T (f * g).l = ev T f.l * ev T g.l := by
 have hf := zn9 f;rw [vZ _ f.l (Nat.le_refl _)] at hf
 have e : f * g = zH (fun j => con p (cf f.l j) * (mono p 1 1 ^ j * g)) f.l.length := by
  have : ∀ j, con p (cf f.l j) * (mono p 1 1 ^ j * g) = g * (con p (cf f.l j) * mono p 1 1 ^ j) := fun j => zf [con p (cf f.l j), mono p 1 1 ^ j, g] (by rfl);rw [xa fun j _ => this j, zaw, hf];exact zf [f, g] (by rfl)
 rw [e, zkA, vZ T f.l (Nat.le_refl _)]
 have : ∀ j, ev T (con p (cf f.l j) * (mono p 1 1 ^ j * g)).l = ev T g.l * (con p (cf f.l j) * T ^ j) := fun j => by
  rw [zjN, zgl];exact zf [con p (cf f.l j), T ^ j, ev T g.l] (by rfl)
 rw [xa fun j _ => this j, zaw];exact zf [ev T g.l, zH (fun j => con p (cf f.l j) * T ^ j) f.l.length] (by rfl)

theorem znj {f X : Poly p} {l : List Int} (h : f ∣ ev X l) : ∀ k, f ∣ ev (frN f X k) l
 | 0 => h
 | k + 1 => by
  have h1 := ziB (znj h k);rw [zgW] at h1;have h2 := zkz (zcM (xc (frN f X k ^ p.toNat) f)) l;obtain ⟨u, hu⟩ := h1;obtain ⟨v, hv⟩ := h2;refine ⟨u + v, ?_⟩;show ev (rem (frN f X k ^ p.toNat) f) l = f * (u + v)
  generalize ev (rem (frN f X k ^ p.toNat) f) l = a at hv ⊢;generalize ev (frN f X k ^ p.toNat) l = b at hu hv;have e : a = a - b + b := zf [a, b] (by rfl);rw [e, hv, hu]; exact zf [f, u, v] (by rfl)
theorem Per.inj {f X : Poly p} {n : Nat} (h : Per f X n) {i j : Nat} (hij : i < j) (hj : j < n) : frN f X i ≠ frN f X j := fun e => by
 have h1 : frN f X (i + (n - j)) = frN f X (j + (n - j)) := by rw [zb3, zb3, e]
 rw [show j + (n - j) = n by omega, h.back] at h1;exact h.first (i + (n - j)) (by omega) (by omega) h1
theorem zoy (T : Poly p) : ∀ l : List Int, ev T (l ++ [1]) = me (l.map (con p)) T
 | [] => by
  rw [List.nil_append, ev, ev, List.map_nil, me, jI];generalize (1 : Poly p) = u;exact zf [T, u] (by rfl)
 | c :: l => by
  rw [List.cons_append, ev, List.map_cons, me, zoy T l]
theorem zlz {A : Poly p} (h : Mon A) : A.l = A.l.take (dg A - 1) ++ [1] := by
 have h0 : dg A ≠ 0 := fun e => h.1 (zd.1 e);have h1 : cf A.l (dg A - 1) = 1 := h.2;have hl : A.l.length = dg A := rfl
 have h3 : A.l.drop (dg A - 1) = [1] := by
  rw [List.drop_eq_getElem_cons (by omega), List.drop_eq_nil_of_le (by omega)];rw [yt (by omega)] at h1;rw [h1]
 have h2 := List.take_append_drop (dg A - 1) A.l;rw [h3] at h2;exact h2.symm
theorem zkB {f X A : Poly p} (hi : Irr f) (hX : dg X < dg f) {n : Nat} (hn : Per f X n) (hA : A ≠ 0) (h : f ∣ ev X A.l) : n + 1 <= dg A := by
 have hm := vH hA;have hd := zoP A;have h0 : dg A ≠ 0 := fun e => hA (zd.1 e)
 have hv : f ∣ ev X (mnc A).l := by
  obtain ⟨w, hw⟩ := (zL A).2;rw [hw, zni]; exact xy _ h
 have hs := zlz hm
 have hb := zeR hi (dg A - 1) (((mnc A).l.take (dg (mnc A) - 1)).map (con p)) ((List.range n).map (frN f X))
  (by rw [List.length_map, List.length_take, hd]; show min _ (dg (mnc A)) = _; omega)
  (by
   refine List.pairwise_map.2 (List.Pairwise.imp_of_mem ?_ List.pairwise_lt_range);intro i j _ hj hij;exact hn.inj hij (List.mem_range.1 hj))
  (fun r hr => by
   obtain ⟨i, _, rfl⟩ := List.mem_map.1 hr;refine ⟨zbv hi.ne hX i, ?_⟩;rw [<- zoy, <- hs];exact znj hv i)
 rw [List.length_map, List.length_range] at hb;omega

theorem zlA {f X : Poly p} (hi : Irr f) (hX : dg X < dg f) {n : Nat} (hn : Per f X n) : ∃ M : Poly p, M.l = mpL f X n (n + 1) ∧ dg M = n + 1 ∧ f ∣ ev X M.l ∧ Irr M := by
 have hc := zok hi hn
 have h1 : cf (mpL f X n (n + 1)) n = 1 := by
  unfold mpL;rw [xq, if_pos (by omega), ziD hi.ne, zgb]; rfl
 have hl : (mpL f X n (n + 1)).length = n + 1 := zE _ _
 have hnr : Nrm p (mpL f X n (n + 1)) := ⟨fun x hx => by
  obtain ⟨i, hi', rfl⟩ := List.mem_iff_getElem.1 hx;rw [<- yt hi'];unfold mpL;rw [xq];have hp := Pr.two (p := p)
  split
  ·exact vO _ _
  ·omega, fun k hk => by
  rw [hl] at hk;obtain rfl : k = n := by omega
  rw [h1]; decide⟩
 obtain ⟨M, hM⟩ : ∃ M : Poly p, M.l = mpL f X n (n + 1) := ⟨⟨_, hnr⟩, rfl⟩
 have hd : dg M = n + 1 := by show M.l.length = _; rw [hM, hl]
 have hv : f ∣ ev X M.l := by
  rw [vZ X M.l (n := n + 1) (by rw [hM, hl]; omega)]
  have h2 : zH (fun j => con p (cf M.l j) * X ^ j) (n + 1) = zH (fun j => mpN f X n j * X ^ j) (n + 1) := xa fun j hj => by
   rw [hM];unfold mpL;rw [xq, if_pos hj, <- hc j]
  rw [h2];have h3 : f ∣ zH (fun j => mpN f X n j * X ^ j) (n + 1) - zH (fun j => v7 (sg f X n) j * X ^ j) (n + 1) := zgj fun j _ => zaB (zg9 f X n j) (yp f _);have h4 := ziE X (sg f X n);rw [zne] at h4;obtain ⟨m, rfl⟩ : ∃ m, n = m + 1 := ⟨n - 1, by have := hn.pos; omega⟩
  rw [h4, zgi (f := f) (by rw [znf]; simp)] at h3;obtain ⟨u, hu⟩ := h3;exact ⟨u, by rw [<- hu]; exact zf [zH (fun j => mpN f X (m + 1) j * X ^ j) (m + 1 + 1)] (by rfl)⟩
 refine ⟨M, hM, hd, hv, by have := hn.pos; omega, fun a b he => ?_⟩;have hM0 : M ≠ 0 := fun e => by rw [e, zv] at hd; omega
 have ha0 : a ≠ 0 := fun e => hM0 (by rw [he, e]; exact zf [b] (by rfl));have hb0 : b ≠ 0 := fun e => hM0 (by rw [he, e]; exact zf [a] (by rfl));have hdm := yV ha0 hb0;rw [<- he] at hdm;have ha1 : dg a ≠ 0 := fun e => ha0 (zd.1 e);have hb1 : dg b ≠ 0 := fun e => hb0 (zd.1 e);rw [he, zni] at hv;rcases hi.prime hv with h | h
 ·have := zkB hi hX hn ha0 h; omega
 ·have := zkB hi hX hn hb0 h; omega

end Poly
end Go.Proofs.YtlmckocbhcpmdaaGreat
