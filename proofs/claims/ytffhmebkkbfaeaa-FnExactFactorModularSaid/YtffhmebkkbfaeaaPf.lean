/- What the program's functions and the reference's return. No conditions. -/
import Derived.Test.YtffhmebkkbfaeaaPe
namespace Go.Proofs.Ytffhmebkkbfaeaa
open Go Go.RowKit Go.Proofs Poly
set_option maxRecDepth 100000
set_option maxHeartbeats 8000000

variable {p : Int} [SP p]
def vF (x : Poly p × Nat) : V := .agg [.ints none x.1.l, .int .i64 (x.2 : Int)]

structure Mix (n : Nat) (h0 h : Nat -> Poly p × Nat) : Prop where
 mem : ∀ x, (∃ i, i < n ∧ h i = x) ↔ (∃ i, i < n ∧ h0 i = x)
 dis : ∀ i j, i < n -> j < n -> (h i).1 = (h j).1 -> i = j
def vq (h : Nat -> Poly p × Nat) (a b : Nat) : Nat -> Poly p × Nat := λj => if j = a then h b else if j = b then h a else h j
theorem zem {p : Int} (h : Nat -> Poly p × Nat) (a b : Nat) : vq h a b a = h b := if_pos rfl
theorem zhq {p : Int} (h : Nat -> Poly p × Nat) (a b : Nat) : vq h a b b = h a := by
 unfold vq
 by_cases e : b = a
 ·rw [if_pos e, e]
 ·rw [if_neg e, if_pos rfl]
theorem zaj {p : Int} {h : Nat -> Poly p × Nat} {a b j : Nat} (h1 : j ≠ a) (h2 : j ≠ b) : vq h a b j = h j := by
 unfold vq; rw [if_neg h1, if_neg h2]
def trp (a b j : Nat) : Nat := if j = a then b else if j = b then a else j
theorem zak {p : Int} (h : Nat -> Poly p × Nat) (a b j : Nat) : vq h a b j = h (trp a b j) := by
 unfold vq trp; split
 ·rfl
 ·split <;> rfl
theorem zen (a b j : Nat) : trp a b (trp a b j) = j := by
 unfold trp
 by_cases h1 : j = a
 ·rw [if_pos h1]; by_cases h2 : b = a
  ·rw [if_pos h2, h2, h1]
  ·rw [if_neg h2, if_pos rfl, h1]
 ·rw [if_neg h1]; by_cases h2 : j = b
  ·rw [if_pos h2, if_pos rfl, h2]
  ·rw [if_neg h2, if_neg h1, if_neg h2]
theorem zeo {a b j n : Nat} (ha : a < n) (hb : b < n) (hj : j < n) : trp a b j < n := by
 unfold trp; split
 ·exact hb
 ·split <;> assumption
theorem Mix.swap {p : Int} {n : Nat} {h0 h : Nat -> Poly p × Nat} (m : Mix n h0 h) {a b : Nat} (ha : a < n) (hb : b < n) : Mix n h0 (vq h a b) := by
 refine ⟨λx => Iff.trans ⟨?_, ?_⟩ (m.mem x), λi j hi hj e => ?_⟩
 ·rintro ⟨i, hi, e⟩; rw [zak] at e; exact ⟨_, zeo ha hb hi, e⟩
 ·rintro ⟨i, hi, e⟩; exact ⟨trp a b i, zeo ha hb hi, by rw [zak, zen]; exact e⟩
 ·rw [zak, zak] at e;have := m.dis _ _ (zeo ha hb hi) (zeo ha hb hj) e;have := congrArg (trp a b) this
  rwa [zen, zen] at this
def Ord (h : Nat -> Poly p × Nat) (i : Nat) : Prop := ∀ x y, x < y -> y < i -> ltP (h x).1 (h y).1
def zep (h : Nat -> Poly p × Nat) (i j : Nat) : Prop := (∀ x y, x < y -> y <= i -> x ≠ j -> y ≠ j -> ltP (h x).1 (h y).1) ∧ ∀ y, j < y -> y <= i -> ltP (h j).1 (h y).1
theorem zep.start {p : Int} {h : Nat -> Poly p × Nat} {i : Nat} (o : Ord h i) : zep h i i := ⟨λx y h1 h2 h3 h4 => o x y h1 (by omega), λy h1 h2 => by omega⟩
theorem zep.step {p : Int} {h : Nat -> Poly p × Nat} {i j : Nat} (o : zep h i (j + 1)) (hj : j + 1 <= i) (hl : ltP (h (j + 1)).1 (h j).1) : zep (vq h (j + 1) j) i j := by
 refine ⟨λx y h1 h2 h3 h4 => ?_, λy h1 h2 => ?_⟩
 ·by_cases hx : x = j + 1
  ·subst hx;rw [zem, zaj (by omega) (by omega)];exact o.1 j y (by omega) h2 (by omega) (by omega)
  ·rw [zaj hx h3]
   by_cases hy : y = j + 1
   ·subst hy; rw [zem]; exact o.1 x j (by omega) (by omega) (by omega) (by omega)
   ·rw [zaj hy h4]; exact o.1 x y h1 h2 hx hy
 ·rw [zhq]
  by_cases hy : y = j + 1
  ·subst hy; rw [zem]; exact hl
  ·rw [zaj hy (by omega)]; exact o.2 y (by omega) h2
theorem zep.fin {p : Int} {n : Nat} {h0 h : Nat -> Poly p × Nat} (m : Mix n h0 h) {i j : Nat} (hi : i < n) (hj : j <= i) (o : zep h i j) (hs : j = 0 ∨ ∃ k, j = k + 1 ∧ ¬ ltP (h j).1 (h k).1) : Ord h (i + 1) := by
 intro x y h1 h2
 by_cases hx : x = j
 ·subst hx; exact o.2 y h1 (by omega)
 ·by_cases hy : y = j
  ·subst hy;obtain ⟨k, rfl, hk⟩ := hs.resolve_left (by omega);have hlt : ltP (h k).1 (h (k + 1)).1 := (zdx λe => by have := m.dis _ _ (by omega) (by omega) e; omega).resolve_left hk
   by_cases hxk : x = k
   ·subst hxk; exact hlt
   ·exact zaI (o.1 x k (by omega) (by omega) (by omega) (by omega)) hlt
  ·exact o.1 x y h1 (by omega) hx hy

def vFw (c : Nat) (x : Poly p × Nat) : V := .agg [.wh 2 c x.1.l, .int .i64 (x.2 : Int)]
def vFb (B : Poly p -> Nat) (x : Poly p × Nat) : V := vFw (B x.1) x

theorem zin {p : Int} (B : Poly p -> Nat) (x y : Poly p × Nat) (hx : dg x.1 <= 1000000) (hy : dg y.1 <= 1000000) : FnV 31 [vFb B x, vFb B y] (.int .i64 (xI x.1.l y.1.l)) := by
 refine zm (za [0, 1, 2, 3, 4]) Try.func31 rfl (by decide) Try.ntmps31 (Nat.le_of_ble_eq_true rfl) λbase => ?_;refine W.rs (za _) (by rfl) λK hK => ?_;conv=>whnf
 refine ⟨rfl, ?_⟩;conv=>whnf
 intro b_1 hs_1 hh_1 hf_1;try dsimp only at hh_1 hf_1
 conv=>whnf
 refine ⟨rfl, ?_⟩;conv=>whnf
 intro b_2 hs_2 hh_2 hf_2;try dsimp only at hh_2 hf_2
 conv=>whnf
 refine hK _ ?_;clear hK;refine W.rs (za _) (by rfl) λK hK => ?_;conv=>whnf
 refine zl rfl (jq _ _ x.1.l y.1.l hx hy) λhs' hhs => ?_;conv=>whnf
 refine hK _ (W.ret ?_);conv=>whnf
 exact ⟨.v (.int .i64 (xI x.1.l y.1.l)), ⟨rfl, rfl⟩, trivial, rfl⟩

theorem zaS (B : Poly p -> Nat) (bk n : Nat) (h0 : Nat -> Poly p × Nat) (hn : n <= 1000000) (hd : ∀ i, i < n -> dg (h0 i).1 <= 1000000) (hdis : ∀ i j, i < n -> j < n -> (h0 i).1 = (h0 j).1 -> i = j) :
  MFn Try.prog 74 [.nil, .int .i64 0, .int .i64 n, .func 31 []] 0 (.ownV 36 2 bk n λj => vFb B (h0 j)) .dead
   (λ_ av x' t' => av = .v (.tup []) ∧ t' = .dead ∧ ∃ h : Nat -> Poly p × Nat, Mix n h0 h ∧ Ord h n ∧ x' = .ownV 36 2 bk n λj => vFb B (h j)) := by
 refine kv (cx := cx [0, 1, 2, 3, 8, 9, 14, 34, 1000000, 1000001]) Try.func74 rfl (by decide) Try.ntmps74 (Nat.le_of_ble_eq_true rfl) (Nat.le_of_ble_eq_true rfl) rfl rfl λbase hs0 O U hw v0 hb0 => ?_;refine W.rs (za _) (by rfl) λK hK => ?_;conv=>whnf
 refine ⟨by decide, ?_⟩;conv=>whnf
 refine hK _ (W.block (W.invH hs0 hb0 (λm e => ∃ (i : Nat) (h : Nat -> Poly p × Nat), 1 <= i ∧ i <= n + 1 ∧ Mix n h0 h ∧ Ord h i ∧ m = n + 1 - i ∧ e = [(0, .ownV 36 2 bk n λj => vFb B (h j)), (1, .v (.int .i64 0)), (2, .v (.int .i64 n)), (3, .v (.func 31 [])), (8, .v (.int .i64 i)), (vt, .dead), (vk, .keep O U hw 0 v0)]) _ _ (⟨1, h0, by omega, by omega, ⟨λ_ => Iff.rfl, hdis⟩, λx y h1 h2 => by omega, rfl, rfl⟩) (by dsimp only; omega) (by repeat' first | refine And.intro ?_ ?_ | exact trivial | rfl | omega | exact .inl rfl | exact λ_ _ => rfl | exact λ_ _ h => h | assumption | exact λi hi => (by obtain rfl : i = 0 := (by omega); rfl)) ?_));clear hK;rintro m e ⟨i, h, hi1, hi2, hM, hO, hm, rfl⟩;refine W.seqK λK7 hK7 => W.rs (za _) (by rfl) λK hK => ?_;conv=>whnf
 refine hK _ (W.cond ⟨λh3 => ?_, λh3 => ?_⟩) <;> clear hK <;> (first | replace h3 := of_decide_eq_true h3 | replace h3 := of_decide_eq_false h3)
 ·have h3 : i < n := by omega
  refine W.skip (hK7 _ ?_);clear hK7;refine W.seqK λK8 hK8 => W.block ?_;refine W.rs (za _) (by rfl) λK hK => ?_;conv=>whnf
  refine hK _ (W.block (W.invH hs0 hb0 (λm e => ∃ (j : Nat) (h : Nat -> Poly p × Nat), j <= i ∧ Mix n h0 h ∧ zep h i j ∧ m = j ∧ e = [(0, .ownV 36 2 bk n λj => vFb B (h j)), (1, .v (.int .i64 0)), (2, .v (.int .i64 n)), (3, .v (.func 31 [])), (8, .v (.int .i64 i)), (9, .v (.int .i64 j)), (vt, .dead), (vk, .keep O U hw 0 v0)]) _ _ (⟨i, h, by omega, hM, zep.start hO, rfl, rfl⟩) (by dsimp only; omega) (by repeat' first | refine And.intro ?_ ?_ | exact trivial | rfl | omega | exact .inl rfl | exact λ_ _ => rfl | exact λ_ _ h => h | assumption | exact λi hi => (by obtain rfl : i = 0 := (by omega); rfl)) ?_));clear hK;clear hM hO h;rintro m' e ⟨j, h, hj, hM, hO, hm', rfl⟩
  -- the end of the inner loop
  have fin : (j = 0 ∨ ∃ k, j = k + 1 ∧ ¬ ltP (h j).1 (h k).1) -> ∀ s : S, hs0 <= s.hs -> zD s.env [(0, .ownV 36 2 bk n λj => vFb B (h j)), (1, .v (.int .i64 0)), (2, .v (.int .i64 n)), (3, .v (.func 31 [])), (8, .v (.int .i64 i)), (vt, .dead), (vk, .keep O U hw 0 v0)] -> K8 s := by
   intro h4 s h5 h6;refine hK8 _ (W.weak (t := ⟨[(0, .ownV 36 2 bk n λj => vFb B (h j)), (1, .v (.int .i64 0)), (2, .v (.int .i64 n)), (3, .v (.func 31 [])), (8, .v (.int .i64 i)), (vt, .dead), (vk, .keep O U hw 0 v0)], hs0⟩) ⟨h5, h6⟩ hb0 ?_);clear hK8;refine W.region (za _) (by rfl) ?_;conv=>whnf
   refine ⟨by constructor <;> omega, ?_⟩;conv=>whnf
   exact zp ⟨i + 1, h, by omega, by omega, hM, hO.fin hM h3 hj h4, rfl, rfl⟩
  clear hK8;refine W.seqK λK7 hK7 => ?_;refine W.rd (za _) follows (by rfl) λK hK => ?_;conv=>whnf
  rcases Nat.eq_zero_or_pos j with rfl | hj0
  ·have e0 : decide (0 < ((0 : Nat) : Int)) = false := by decide
   rw [e0];conv=>whnf
   refine ⟨rfl, ?_⟩;conv=>whnf
   refine hK _ (W.cond ⟨λh => absurd h (by decide), λ_ => W.exit (fin (.inl rfl) _ (by dsimp only; omega) ?_)⟩);clear fin hK hK7
   repeat' first | refine And.intro ?_ ?_ | exact trivial | rfl | omega | exact .inl rfl | exact λ_ _ => rfl | exact λ_ _ h => h | assumption | exact λi hi => (by obtain rfl : i = 0 := (by omega); rfl)
  ·obtain ⟨k, rfl⟩ : ∃ k, j = k + 1 := ⟨j - 1, by omega⟩
   have e0 : decide (0 < ((k + 1 : Nat) : Int)) = true := decide_eq_true (by omega);rw [e0];conv=>whnf
   refine ⟨⟨by omega, by omega⟩, ?_⟩;conv=>whnf
   refine ⟨by constructor <;> omega, ?_⟩;conv=>whnf
   refine ⟨⟨by omega, by omega⟩, ?_⟩;conv=>whnf
   have ek : (((k + 1 : Nat) : Int) - 1) = (k : Int) := by omega
   rw [ek, Int.toNat_natCast, Int.toNat_natCast]
   have hb : ∀ i, i < n -> dg (h i).1 <= 1000000 := λi hi => by
    obtain ⟨i', h1, h2⟩ := (hM.mem (h i)).1 ⟨i, hi, rfl⟩;rw [<- h2]; exact hd i' h1
   refine ⟨_, cxF (zin B (h (k + 1)) (h k) (hb _ (by omega)) (hb _ (by omega))), ?_⟩;conv=>whnf
   refine hK _ (W.cond ⟨λh4 => ?_, λh4 => ?_⟩) <;> clear hK
   ·have h4 : xI (h (k + 1)).1.l (h k).1.l < 0 := of_decide_eq_true h4;have h4 := (zbB _ _).1 h4;clear fin;refine W.skip (hK7 _ ?_);clear hK7;refine W.seqK λK8 hK8 => W.block ?_;refine W.draw (za _) follows (by rfl) ?_;conv=>whnf
    refine ⟨by constructor <;> omega, ?_⟩;conv=>whnf
    refine ⟨by constructor <;> omega, ?_⟩;conv=>whnf
    refine ⟨⟨by omega, by omega⟩, ?_⟩;conv=>whnf
    rw [ek, Int.toNat_natCast];refine ⟨⟨by omega, by omega⟩, ?_⟩;conv=>whnf
    rw [Int.toNat_natCast];refine ⟨⟨by omega, by omega⟩, ?_⟩;conv=>whnf
    refine ⟨⟨by show 0 + 2 <= 2; omega, rfl⟩, λj => vFb B (if j = k + 1 then h k else h j), by show vFb B (if k + 1 = k + 1 then h k else h (k + 1)) = _; rw [if_pos rfl]; rfl, λj _ hj => by show vFb B (if j = k + 1 then h k else h j) = _; rw [if_neg hj], ?_⟩;conv=>whnf
    refine ⟨⟨by omega, by omega⟩, ?_⟩;conv=>whnf
    rw [Int.toNat_natCast];refine ⟨⟨by show 0 + 2 <= 2; omega, rfl⟩, λj => vFb B (vq h (k + 1) k j), by show vFb B (vq h (k + 1) k k) = _; rw [zhq]; rfl, λj _ hj => by show vFb B (vq h (k + 1) k j) = vFb B (if j = k + 1 then h k else h j); unfold vq; by_cases h5 : j = k + 1 <;> simp [h5, hj], ?_⟩;conv=>whnf
    refine hK8 _ ?_;clear hK8;refine W.region (za _) (by rfl) ?_;conv=>whnf
    refine ⟨by constructor <;> omega, ?_⟩;conv=>whnf
    exact zp ⟨k, vq h (k + 1) k, by omega, hM.swap (by omega) (by omega), hO.step hj h4, rfl, rfl⟩
   ·have h4 : ¬ xI (h (k + 1)).1.l (h k).1.l < 0 := of_decide_eq_false h4;refine W.exit (fin (.inr ⟨k, rfl, λe => h4 ((zbB _ _).2 e)⟩) _ (by dsimp only; omega) ?_);clear fin hK7
    repeat' first | refine And.intro ?_ ?_ | exact trivial | rfl | omega | exact .inl rfl | exact λ_ _ => rfl | exact λ_ _ h => h | assumption | exact λi hi => (by obtain rfl : i = 0 := (by omega); rfl)
 ·have hin : n <= i := by omega
  refine W.exit ?_;conv=>whnf
  refine ⟨by dsimp only; omega, ?_⟩;conv=>whnf
  refine ⟨.ownV 36 2 bk n λj => vFb B (h j), ⟨rfl, rfl, rfl, rfl, λ_ _ => rfl⟩, .inr ⟨rfl, rfl⟩, .dead, trivial, rfl, rfl, rfl, rfl, h, hM, λx y h1 h2 => hO x y h1 (by omega), rfl⟩

end Go.Proofs.Ytffhmebkkbfaeaa
