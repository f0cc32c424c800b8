/- What the program's functions and the reference's return. No conditions. -/
import Derived.Test.YtffhmebkkbfaeaaGreatPh
import Derived.Test.YtffhmebkkbfaeaaGreatProg
import Derived.Shelf.Spec.SlicesInsertGrow
import Derived.Test.YtffhmebkkbfaeaaGreatRows
namespace Go.Proofs.YtffhmebkkbfaeaaGreat
open Go Go.RowKit Go.Proofs Poly Hull
set_option maxRecDepth 100000
set_option maxHeartbeats 8000000

noncomputable def zu (p : Int) (xs : List Int) : Int := bif isP p then (bif bP (yv xs) then (if xs.length < 2 ∨ cf xs 0 = 0 then 5 else 0) else 1) else 1


theorem kS (g : Option Nat) (p : Int) (xs : List Int) : FnV 96 [.int .i64 p, .ints g xs] (.int .i64 (zu p xs)) := by
 refine zf (za [0, 1, 4, 5, 14]) Tryz.func96 rfl (by decide) Tryz.ntmps96 (lb rfl) λbase => ?_;refine wrs λK hK => ?_;conv=>whnf
 refine hK _ ?_;clear hK;refine W.seqK λK1 hK1 => W.block ?_;refine wrs λK hK => ?_;conv=>whnf
 refine zc rfl (zco p) λhs' hhs => ?_;try dsimp only at hhs
 conv=>whnf
 refine ⟨λh1 => ?_, λh1 => ?_⟩ <;> conv=>whnf
 ·have h1 : isP p = false := by simpa using h1
  refine hK _ (W.condT rfl ?_);clear hK;refine wrs λK hK => ?_;conv=>whnf
  refine hK _ (W.ret ?_);conv=>whnf
  exact ⟨.v (.int .i64 (zu p xs)), ⟨rfl, by unfold zu; rw [h1]; rfl⟩, trivial, rfl⟩
 have h1 : isP p = true := by simpa using h1
 refine zc rfl (zcr g xs) λhs' hhs => ?_;try dsimp only at hhs
 conv=>whnf
 refine hK _ (W.cond ⟨λh2 => ?_, λh2 => ?_⟩) <;> clear hK
 ·have h2 : bP (yv xs) = false := by simpa using h2
  refine wrs λK hK => ?_;conv=>whnf
  refine hK _ (W.ret ?_);conv=>whnf
  exact ⟨.v (.int .i64 (zu p xs)), ⟨rfl, by unfold zu; rw [h1, h2]; rfl⟩, trivial, rfl⟩
 have h2 : bP (yv xs) = true := by simpa using h2
 have h9 : xs.length <= 9 := (zaG.1 h2).1


 refine wrs λK hK => ?_;conv=>whnf
 refine ⟨λh3 => ?_, λh3 => ?_⟩ <;> conv=>whnf
 ·have h3 := of_decide_eq_true h3;refine hK _ (W.condT rfl ?_);clear hK;refine wrs λK hK => ?_;conv=>whnf
  refine hK _ (W.ret ?_);conv=>whnf
  exact ⟨.v (.int .i64 (zu p xs)), ⟨rfl, by unfold zu; rw [h1, h2, cond_true, cond_true, if_pos (.inl (by omega))]⟩, trivial, rfl⟩
 have h3 := of_decide_eq_false h3;refine ⟨oo, ?_⟩;conv=>whnf
 refine hK _ (W.cond ⟨λh4 => ?_, λh4 => ?_⟩) <;> clear hK
 ·have h4 : cf xs 0 = 0 := of_decide_eq_true h4;refine wrs λK hK => ?_;conv=>whnf
  refine hK _ (W.ret ?_);conv=>whnf
  exact ⟨.v (.int .i64 (zu p xs)), ⟨rfl, by unfold zu; rw [h1, h2, cond_true, cond_true, if_pos (.inr h4)]⟩, trivial, rfl⟩
 have h4 : ¬ cf xs 0 = 0 := of_decide_eq_false h4;refine W.skip (hK1 _ ?_);clear hK1;refine wrs λK hK => ?_;conv=>whnf
 refine hK _ (W.ret ?_);conv=>whnf
 exact ⟨.v (.int .i64 (zu p xs)), ⟨rfl, by unfold zu; rw [h1, h2, cond_true, cond_true, if_neg (λhh => hh.elim (λh' => by omega) h4)]⟩, trivial, rfl⟩
theorem zaH (g : Option Nat) (p : Int) (xs : List Int) (hl : xs.length <= 1000000000) : FnV 98 [.int .i64 p, .ints g xs] (.int .i64 (zu p xs)) := by
 refine zf (za [0, 1, 4, 12, 21]) Tryz.func98 rfl (by decide) Tryz.ntmps98 (lb rfl) λbase => ?_;refine wrs λK hK => ?_;conv=>whnf
 refine hK _ (W.seqK λK1 hK1 => wrs λK hK => ?_);conv=>whnf
 refine zc rfl (zce p) λhs' hhs => ?_;try dsimp only at hhs
 conv=>whnf
 refine ⟨λh1 => ?_, λh1 => ?_⟩ <;> conv=>whnf
 ·have h1 : isP p = false := by simpa using h1
  refine hK _ (W.condT rfl ?_);clear hK;refine wrs λK hK => ?_;conv=>whnf
  refine hK _ (W.ret ?_);conv=>whnf
  exact ⟨.v (.int .i64 (zu p xs)), ⟨rfl, by unfold zu; rw [h1]; rfl⟩, trivial, rfl⟩
 have h1 : isP p = true := by simpa using h1
 refine zc rfl (ziE g xs hl) λhs' hhs => ?_;try dsimp only at hhs
 conv=>whnf
 refine hK _ (W.cond ⟨λh2 => ?_, λh2 => ?_⟩) <;> clear hK
 ·have h2 : bP (yv xs) = false := by simpa using h2
  refine wrs λK hK => ?_;conv=>whnf
  refine hK _ (W.ret ?_);conv=>whnf
  exact ⟨.v (.int .i64 (zu p xs)), ⟨rfl, by unfold zu; rw [h1, h2]; rfl⟩, trivial, rfl⟩
 have h2 : bP (yv xs) = true := by simpa using h2
 have h9 : xs.length <= 9 := (zaG.1 h2).1;refine W.skip (hK1 _ ?_)
 (clear hK1; refine W.seqK λK1 hK1 => ?_)
 refine wrs λK hK => ?_;conv=>whnf
 refine ⟨λh3 => ?_, λh3 => ?_⟩ <;> conv=>whnf
 ·have h3 := of_decide_eq_true h3;refine hK _ (W.condT rfl ?_);clear hK;refine wrs λK hK => ?_;conv=>whnf
  refine hK _ (W.ret ?_);conv=>whnf
  exact ⟨.v (.int .i64 (zu p xs)), ⟨rfl, by unfold zu; rw [h1, h2, cond_true, cond_true, if_pos (.inl (by omega))]⟩, trivial, rfl⟩
 have h3 := of_decide_eq_false h3;refine ⟨oo, ?_⟩;conv=>whnf
 refine hK _ (W.cond ⟨λh4 => ?_, λh4 => ?_⟩) <;> clear hK
 ·have h4 : cf xs 0 = 0 := of_decide_eq_true h4;refine wrs λK hK => ?_;conv=>whnf
  refine hK _ (W.ret ?_);conv=>whnf
  exact ⟨.v (.int .i64 (zu p xs)), ⟨rfl, by unfold zu; rw [h1, h2, cond_true, cond_true, if_pos (.inr h4)]⟩, trivial, rfl⟩
 have h4 : ¬ cf xs 0 = 0 := of_decide_eq_false h4;refine W.skip (hK1 _ ?_);clear hK1;refine wrs λK hK => ?_;conv=>whnf
 refine hK _ (W.ret ?_);conv=>whnf
 exact ⟨.v (.int .i64 (zu p xs)), ⟨rfl, by unfold zu; rw [h1, h2, cond_true, cond_true, if_neg (λhh => hh.elim (λh' => by omega) h4)]⟩, trivial, rfl⟩

theorem zma {l : List Int} (h : kw l) : zx l = l := yx (xf l) h λi => xz l i
theorem zf0 (L : List (Int × Int)) : ∀ (k j : Nat), j < k -> (slT L k).getD j (0, 0, 0) = sl (L.getD j (0, 0)) (L.getD (j + 1) (0, 0))
 | 0, j, h => absurd h (Nat.not_lt_zero j)
 | k + 1, j, h => by
  rw [slT]
  by_cases hj : j < k
  ·rw [kP (by rw [jc]; exact hj)]; exact zf0 L k j hj
  ·obtain rfl : j = k := by omega
   have e := kQ (d := ((0, 0, 0) : Int × Int × Int)) (x := sl (L.getD j (0, 0)) (L.getD (j + 1) (0, 0))) (L := slT L j);rw [jc] at e;exact e
theorem zjp {p : Int} (hp : 2 <= p ∧ p <= 97) {y : Nat} {c : Int} (hc : c ≠ 0) (hb : -1000000 <= c ∧ c <= 1000000) (hy : y <= vl p c) : 0 < p ^ y ∧ p ^ y <= 1000000 := by
 obtain ⟨u, h1, h2⟩ := k9 hp.1 hc;have hu : u ≠ 0 := λe => h2 (by rw [e]; exact Int.dvd_zero p);obtain ⟨d, hd⟩ : ∃ d, vl p c = y + d := ⟨vl p c - y, by omega⟩
 have p1 : 0 < p ^ y := Int.pow_pos (by omega);have p2 : 0 < p ^ d := Int.pow_pos (by omega);rw [hd, Int.pow_add, Int.mul_assoc] at h1;refine ⟨p1, ?_⟩;have hw : p ^ d * u ≠ 0 := λe => hc (by rw [h1, e, Int.mul_zero]);have h3 : c.natAbs = (p ^ y).natAbs * (p ^ d * u).natAbs := by rw [h1, Int.natAbs_mul]
 have h4 : (p ^ y).natAbs * 1 <= (p ^ y).natAbs * (p ^ d * u).natAbs := Nat.mul_le_mul_left _ (by omega);omega
theorem znf {p : Int} (hp : 2 <= p ∧ p <= 97) {l : List Int} (hb : ∀ j, -1000000 <= cf l j ∧ cf l j <= 1000000) {a b : Int × Int} {g : Nat} {run rise : Int} (h : Ln a b g run rise) (ha : Cor p l a) (hb' : Cor p l b) {k : Nat} (hk : k <= g) :
  (∃ x : Nat, x < l.length ∧ a.1 + (k : Int) * run = x) ∧ ∃ y : Nat, y <= 20 ∧ a.2 + (k : Int) * rise = y ∧ ∀ j, j <= y -> 0 < p ^ j ∧ p ^ j <= 1000000 := by
 have hx := h.x hk;have hy := h.y hk;obtain ⟨ia, a1, a2, a3⟩ := ha;obtain ⟨ib, b1, b2, b3⟩ := hb';have va := zdJ hp.1 a2 (k := 20) (by have := hb ia; have : (2 : Nat) ^ 20 = 1048576 := rfl; omega);have vb := zdJ hp.1 b2 (k := 20) (by have := hb ib; have : (2 : Nat) ^ 20 = 1048576 := rfl; omega);rw [a3, b3] at hx hy;rw [a3];dsimp only at hx hy ⊢
 refine ⟨⟨((ia : Int) + (k : Int) * run).toNat, by omega, by omega⟩, ((vl p (cf l ia) : Nat) + (k : Int) * rise).toNat, by omega, by omega, λj hj => ?_⟩;rcases hy with hy | hy
 ·exact zjp hp b2 (hb ib) (by omega)
 ·exact zjp hp a2 (hb ia) (by omega)

structure Pc (p : Int) (l : List Int) (L : List (Int × Int)) (i : Nat) (a b : Int × Int) (g : Nat) (run rise : Int) : Prop where
 ha : L.getD i (0, 0) = a
 hi : i + 1 < L.length
 hs : (slT L (L.length - 1)).getD i (0, 0, 0) = (rise, run, b.1 - a.1)
 ln : Ln a b g run rise
 ca : Cor p l a
 cb : Cor p l b
 g8 : (g : Int) <= 100
 r8 : run <= 100
 b8 : b.1 - a.1 <= 100
 s8 : -100 <= rise ∧ rise <= 100
 p8 : (0 <= a.1 ∧ a.1 <= 100) ∧ 0 <= a.2 ∧ a.2 <= 100

open Go Go.RowKit Go.Proofs Poly Hull

theorem zel (p : Int) (hp : 2 <= p ∧ p <= 97) (g0 : Option Nat) (l : List Int) (hl : l.length <= 100) (hb : ∀ j, -1000000 <= cf l j ∧ cf l j <= 1000000) (L : List (Int × Int)) (hpol : FnV 161 [.int .i64 p, .ints g0 l] (vCs L)) (hslo : FnV 104 [.int .i64 p, .ints g0 l] (vSs (slT L (L.length - 1))))
  (i : Nat) (x0 y0 : Int) (b : Int × Int) (g : Nat) (run rise : Int) (hP : Pc p l L i (x0, y0) b g run rise) : FnI 105 [.int .i64 p, .ints g0 l, .int .i64 i] (xp p l (x0, y0) run rise (g + 1)) := by
 have hi := hP.hi;have hln := hP.ln;have g8 := hP.g8;have r8 := hP.r8;have s8 := hP.s8;have r1 := hln.run1;have p8 := hP.p8;have b8 := hP.b8;dsimp only at p8 b8
 have e7 : vC (L.getD i (0, 0)) = .agg [.int .i64 x0, .int .i64 y0] := by rw [hP.ha]
 have e8 : vS ((slT L (L.length - 1)).getD i (0, 0, 0)) = .agg [.int .i64 rise, .int .i64 run, .int .i64 (b.1 - x0)] := by rw [hP.hs]
 have hsl := jc L (L.length - 1);refine zf (za [0, 1, 2, 6, 7, 8, 9, 10, 11, 12, 31, 56]) Tryz.func105 rfl (by decide) Tryz.ntmps105 (lb rfl) λbase => ?_;refine wrs λK hK => ?_;conv=>whnf
 refine hK _ ?_;clear hK;refine W.seqK λK9 hK9 => ?_
 have mid : ∀ (bx bz : Nat) (t : S), base <= t.hs -> zB t.env [(0, .v (.int .i64 p)), (1, .v (.ints g0 l)), (7, .ownB bx (vC (L.getD i (0, 0)))), (8, .ownB bz (vS ((slT L (L.length - 1)).getD i (0, 0, 0))))] -> K9 t := by
  intro bx bz t h7 h8;rw [e7, e8] at h8;refine hK9 _ (W.weak (t := ⟨[(0, .v (.int .i64 p)), (1, .v (.ints g0 l)), (7, .ownB bx (.agg [.int .i64 x0, .int .i64 y0])), (8, .ownB bz (.agg [.int .i64 rise, .int .i64 run, .int .i64 (b.1 - x0)]))], base⟩) ⟨h7, h8⟩ (Nat.le_refl _) ?_);clear hK9;refine wrs λK hK => ?_;conv=>whnf
  refine hK _ (W.seqK λK1 hK1 => wrs λK hK => ?_);conv=>whnf
  refine hK _ (W.block (W.invA (λm e => ∃ (k bo : Nat), k <= g + 1 ∧ m = g + 1 - k ∧ e = [(0, .v (.int .i64 p)), (1, .v (.ints g0 l)), (7, .ownB bx (.agg [.int .i64 x0, .int .i64 y0])), (8, .ownB bz (.agg [.int .i64 rise, .int .i64 run, .int .i64 (b.1 - x0)])), (9, .ownI 2 bo (xp p l (x0, y0) run rise k)), (10, .v (.int .i64 k))]) ⟨0, 0, Nat.zero_le _, rfl, rfl⟩ ?_));clear hK;rintro m e ⟨k, bo, hk, hm, rfl⟩;have hlen := y5 p l (x0, y0) run rise k;have m0 : 0 <= (k : Int) * run ∧ (k : Int) * run <= 101 * 100 := ⟨Int.mul_nonneg (by omega) (by omega), Int.mul_le_mul (by omega) r8 (by omega) (by decide)⟩
  refine W.seqK λK7 hK7 => wrs λK hK => ?_;conv=>whnf
  refine ⟨by show _ <= (k : Int) * run ∧ (k : Int) * run <= _; omega, ?_⟩;conv=>whnf
  refine hK _ (W.cond ⟨λh3 => ?_, λh3 => ?_⟩) <;> clear hK <;> (first | replace h3 := of_decide_eq_true h3 | replace h3 := of_decide_eq_false h3)
  ·have hkg : k <= g := (hln.iff (k := k)).1 h3;obtain ⟨⟨x, hx, ex⟩, y, hy, ey, hpw⟩ := znf hp hb hln hP.ca hP.cb hkg;dsimp only at ex ey
   have m1 := zbS (a := k) (b := rise) (by omega) (by omega);have hbx := hb x;have hpy := hpw y (Nat.le_refl _);have hnx : xp p l (x0, y0) run rise (k + 1) = xp p l (x0, y0) run rise k ++ [jY p (cf l x) y] := by rw [xp]; dsimp only; rw [ex, ey, Int.toNat_natCast, Int.toNat_natCast]
   refine W.skip (hK7 _ ?_);clear hK7;refine W.seqK λK8 hK8 => W.block ?_;refine W.rd (za _) follows (by rfl) λK hK => ?_;conv=>whnf
   refine ⟨by show _ <= (k : Int) * run ∧ (k : Int) * run <= _; omega, ?_⟩;conv=>whnf
   refine ⟨by show _ <= x0 + (k : Int) * run ∧ x0 + (k : Int) * run <= _; omega, ?_⟩;conv=>whnf
   rw [ex];refine ⟨oo, ?_⟩;conv=>whnf
   rw [Int.toNat_natCast];refine ⟨by show _ <= (k : Int) * rise ∧ (k : Int) * rise <= _; omega, ?_⟩;conv=>whnf
   refine ⟨by show _ <= y0 + (k : Int) * rise ∧ y0 + (k : Int) * rise <= _; omega, ?_⟩;conv=>whnf
   rw [ey];refine ⟨_, cxF (zhn p y (λj hj => by have := hpw j hj; constructor <;> omega) (by omega)), ?_⟩;conv=>whnf
   refine hK _ ?_;clear hK;refine W.seqK λK4 hK4 => ?_
   have fin : ∀ (c : Int) (t : S), c.tdiv (p ^ y) % p = jY p (cf l x) y -> -1000000 <= c ∧ c <= 1000000 -> base <= t.hs -> zB t.env [(0, .v (.int .i64 p)), (1, .v (.ints g0 l)), (7, .ownB bx (.agg [.int .i64 x0, .int .i64 y0])), (8, .ownB bz (.agg [.int .i64 rise, .int .i64 run, .int .i64 (b.1 - x0)])), (9, .ownI 2 bo (xp p l (x0, y0) run rise k)), (10, .v (.int .i64 k)), (11, .v (.int .i64 c)), (12, .v (.int .i64 (p ^ y)))] -> K4 t := by
    intro c t hc hcb h7 h8;refine hK4 _ (W.weak (t := ⟨[(0, .v (.int .i64 p)), (1, .v (.ints g0 l)), (7, .ownB bx (.agg [.int .i64 x0, .int .i64 y0])), (8, .ownB bz (.agg [.int .i64 rise, .int .i64 run, .int .i64 (b.1 - x0)])), (9, .ownI 2 bo (xp p l (x0, y0) run rise k)), (10, .v (.int .i64 k)), (11, .v (.int .i64 c)), (12, .v (.int .i64 (p ^ y)))], base⟩) ⟨h7, h8⟩ (Nat.le_refl _) ?_);clear hK4;have hq := zfI (p := p) y hcb;refine wrg ?_;conv=>whnf
    refine ⟨by show p ^ y ≠ 0; omega, ?_⟩;conv=>whnf
    refine ⟨by show _ <= c.tdiv (p ^ y) ∧ c.tdiv (p ^ y) <= _; omega, ?_⟩;conv=>whnf
    refine zc rfl (kN (c.tdiv (p ^ y)) p (by omega) (by omega) (by omega)) λhs' hhs => ?_;try dsimp only at hhs
    conv=>whnf
    rw [hc];refine ⟨⟨rfl, by decide⟩, ?_⟩;conv=>whnf
    intro b_1 hs_1 hh_1 hf_1;try dsimp only at hh_1 hf_1
    conv=>whnf
    refine ⟨by rw [hlen]; simp; omega, ?_⟩;conv=>whnf
    intro b_2 hs_2 hh_2 hf_2;try dsimp only at hh_2 hf_2
    conv=>whnf
    refine hK8 _ ?_;clear hK8;refine wrg ?_;conv=>whnf
    refine ⟨oo, ?_⟩;conv=>whnf
    exact ze ⟨k + 1, b_2, by omega, rfl, by rw [hnx]⟩
   refine wrs λK hK => ?_;conv=>whnf
   refine ⟨by show p ^ y ≠ 0; omega, ?_⟩;conv=>whnf
   refine hK _ (W.cond ⟨λh4 => ?_, λh4 => ?_⟩) <;> clear hK
   ·have h4 : (cf l x).tmod (p ^ y) ≠ 0 := of_decide_eq_true h4;refine wrg ?_;conv=>whnf
    refine fin 0 _ (by rw [zmU hp.1 h4]; simp) (by omega) (by dsimp only; omega) ?_;exact cvr
   ·have h4 : ¬ (cf l x).tmod (p ^ y) ≠ 0 := of_decide_eq_false h4;refine W.skip (fin (cf l x) _ (zlQ hp.1 (Classical.byContradiction λhh => h4 hh)).symm hbx (by dsimp only; omega) ?_);exact cvr
  ·obtain rfl : k = g + 1 := by
    have : ¬ k <= g := λhk => h3 ((hln.iff (k := k)).2 hk);omega
   have hz := zma (zhf hp.1 hln hP.cb).2;refine W.exit (hK1 _ ?_);clear hK7 hK1;refine wrs λK hK => ?_;conv=>whnf
   refine zv rfl (j1 _ _ (by rw [hlen]; omega)) λhs_1 b_1 hh_1 hf_1 => ?_;try dsimp only at hh_1 hf_1
   conv=>whnf
   rw [hz];refine hK _ (W.ret ?_);conv=>whnf
   exact ⟨.ownI 2 _ (xp p l (x0, y0) run rise (g + 1)), ⟨rfl, rfl, rfl⟩, trivial, _, rfl⟩
 refine W.gh follows ?_;refine Wgh.tk (za []) 0 ?_;conv=>whnf
 refine Wgh.tk (za []) 1 ?_;conv=>whnf
 refine Wgh.tk (za []) 3 ?_;conv=>whnf
 refine Wgh.tk (za []) 6 ?_;conv=>whnf
 refine Wgh.tk (za []) 7 ?_;conv=>whnf
 refine Wgh.tk (za []) 9 ?_;conv=>whnf
 refine Wgh.all (za []) (rs := [2, 12, 13]) (by rfl) (by kernel_rfl) (by kernel_rfl) (by kernel_rfl) (by simp) (by refine ⟨?_, ?_, ?_, ?_, ?_, ?_, trivial⟩ <;> (conv=>whnf) <;> exact ⟨Nat.le_refl _, rfl⟩) λi hi => ?_;simp only [List.mem_cons, List.not_mem_nil, or_false] at hi
 rcases hi with rfl | rfl | rfl
 ·refine ⟨_, [9, 7, 6, 3], by rfl, by kernel_rfl, ?_⟩;conv=>whnf
  refine zc rfl (hpol) λhs' hhs => ?_;try dsimp only at hhs
  conv=>whnf
  refine Wgh.tk (za []) 4 ?_;conv=>whnf
  refine ⟨oo, ?_⟩;conv=>whnf
  refine Wgh.tk (za []) 5 ?_;conv=>whnf
  refine Wgh.all (za []) (rs := [8, 12, 13]) (by rfl) (by kernel_rfl) (by kernel_rfl) (by kernel_rfl) (by simp) ⟨rx, ry, rx, rx, rx, rx, trivial⟩ λi hi => ?_;simp only [List.mem_cons, List.not_mem_nil, or_false] at hi
  rcases hi with rfl | rfl | rfl
  ·refine ⟨_, [5, 4, 9, 3], by rfl, by kernel_rfl, ?_⟩;conv=>whnf
   refine zc rfl (hslo) λhs' hhs => ?_;try dsimp only at hhs
   conv=>whnf
   refine Wgh.tk (za []) 10 ?_;conv=>whnf
   refine ⟨oo, ?_⟩;conv=>whnf
   refine Wgh.tk (za []) 11 ?_;conv=>whnf
   refine Wgh.all (za []) (rs := [12, 13]) (by rfl) (by kernel_rfl) (by kernel_rfl) (by kernel_rfl) (by simp) ⟨rx, ry, rx, ry, rx, rx, trivial⟩ λi hi => ?_;simp only [List.mem_cons, List.not_mem_nil, or_false] at hi
   rcases hi with rfl | rfl
   ·refine ⟨_, [11, 10, 5, 4, 9, 3], by rfl, by kernel_rfl, ?_⟩;conv=>whnf
    intro b_x hs_x hh_x hf_x;try dsimp only at hh_x hf_x
    conv=>whnf
    refine Wgh.on (za []) 13 [11, 10, 5, 4, 9, 3] ⟨rx, ry, rx, ry, rx, rx, trivial⟩ ?_;conv=>whnf
    intro b_z hs_z hh_z hf_z;try dsimp only at hh_z hf_z
    conv=>whnf
    refine Wgh.on (za []) 14 [11, 10, 9] ⟨rx, ry, rx, ry, rx, rx, trivial⟩ ?_;conv=>whnf
    refine ⟨s23, ?_⟩;conv=>whnf
    refine Wgh.on (za []) 15 [] ⟨rx, ry, rx, trivial⟩ ?_;conv=>whnf
    refine ⟨s23, ?_⟩;conv=>whnf
    refine Wgh.dn (za []) trivial ?_;conv=>whnf
    refine mid b_x b_z _ (by dsimp only; omega) ?_;exact cvr
   ·refine ⟨_, [11, 10, 5, 4, 9, 3], by rfl, by kernel_rfl, ?_⟩;conv=>whnf
    intro b_z hs_z hh_z hf_z;try dsimp only at hh_z hf_z
    conv=>whnf
    refine Wgh.on (za []) 12 [11, 10, 5, 4, 9, 3] ⟨rx, ry, rx, ry, rx, rx, trivial⟩ ?_;conv=>whnf
    intro b_x hs_x hh_x hf_x;try dsimp only at hh_x hf_x
    conv=>whnf
    refine Wgh.on (za []) 14 [11, 10, 9] ⟨rx, ry, rx, ry, rx, rx, trivial⟩ ?_;conv=>whnf
    refine ⟨s23, ?_⟩;conv=>whnf
    refine Wgh.on (za []) 15 [] ⟨rx, ry, rx, trivial⟩ ?_;conv=>whnf
    refine ⟨s23, ?_⟩;conv=>whnf
    refine Wgh.dn (za []) trivial ?_;conv=>whnf
    refine mid b_x b_z _ (by dsimp only; omega) ?_;exact cvr
  ·refine ⟨_, [5, 4, 9, 7, 6, 3], by rfl, by kernel_rfl, ?_⟩;conv=>whnf
   intro b_x hs_x hh_x hf_x;try dsimp only at hh_x hf_x
   conv=>whnf
   refine Wgh.all (za []) (rs := [8, 13]) (by rfl) (by kernel_rfl) (by kernel_rfl) (by kernel_rfl) (by simp) ⟨rx, ry, rx, rx, rx, rx, trivial⟩ λi hi => ?_;simp only [List.mem_cons, List.not_mem_nil, or_false] at hi
   rcases hi with rfl | rfl
   ·refine ⟨_, [5, 4, 9, 3], by rfl, by kernel_rfl, ?_⟩;conv=>whnf
    refine zc rfl (hslo) λhs' hhs => ?_;try dsimp only at hhs
    conv=>whnf
    refine Wgh.tk (za []) 10 ?_;conv=>whnf
    refine ⟨oo, ?_⟩;conv=>whnf
    refine Wgh.tk (za []) 11 ?_;conv=>whnf
    refine Wgh.on (za []) 13 [11, 10, 5, 4, 9, 3] ⟨rx, ry, rx, ry, rx, rx, trivial⟩ ?_;conv=>whnf
    intro b_z hs_z hh_z hf_z;try dsimp only at hh_z hf_z
    conv=>whnf
    refine Wgh.on (za []) 14 [11, 10, 9] ⟨rx, ry, rx, ry, rx, rx, trivial⟩ ?_;conv=>whnf
    refine ⟨s23, ?_⟩;conv=>whnf
    refine Wgh.on (za []) 15 [] ⟨rx, ry, rx, trivial⟩ ?_;conv=>whnf
    refine ⟨s23, ?_⟩;conv=>whnf
    refine Wgh.dn (za []) trivial ?_;conv=>whnf
    refine mid b_x b_z _ (by dsimp only; omega) ?_;exact cvr
   ·refine ⟨_, [5, 4, 9, 7, 6, 3], by rfl, by kernel_rfl, ?_⟩;conv=>whnf
    intro b_z hs_z hh_z hf_z;try dsimp only at hh_z hf_z
    conv=>whnf
    refine Wgh.on (za []) 8 [5, 4, 9, 3] ⟨rx, ry, rx, rx, rx, rx, trivial⟩ ?_;conv=>whnf
    refine zc rfl (hslo) λhs' hhs => ?_;try dsimp only at hhs
    conv=>whnf
    refine Wgh.tk (za []) 10 ?_;conv=>whnf
    refine ⟨oo, ?_⟩;conv=>whnf
    refine Wgh.tk (za []) 11 ?_;conv=>whnf
    refine Wgh.on (za []) 14 [11, 10, 9] ⟨rx, ry, rx, ry, rx, rx, trivial⟩ ?_;conv=>whnf
    refine ⟨s23, ?_⟩;conv=>whnf
    refine Wgh.on (za []) 15 [] ⟨rx, ry, rx, trivial⟩ ?_;conv=>whnf
    refine ⟨s23, ?_⟩;conv=>whnf
    refine Wgh.dn (za []) trivial ?_;conv=>whnf
    refine mid b_x b_z _ (by dsimp only; omega) ?_;exact cvr
  ·refine ⟨_, [5, 4, 9, 7, 6, 3], by rfl, by kernel_rfl, ?_⟩;conv=>whnf
   intro b_z hs_z hh_z hf_z;try dsimp only at hh_z hf_z
   conv=>whnf
   refine Wgh.all (za []) (rs := [8, 12]) (by rfl) (by kernel_rfl) (by kernel_rfl) (by kernel_rfl) (by simp) ⟨rx, ry, rx, rx, rx, rx, trivial⟩ λi hi => ?_;simp only [List.mem_cons, List.not_mem_nil, or_false] at hi
   rcases hi with rfl | rfl
   ·refine ⟨_, [5, 4, 9, 3], by rfl, by kernel_rfl, ?_⟩;conv=>whnf
    refine zc rfl (hslo) λhs' hhs => ?_;try dsimp only at hhs
    conv=>whnf
    refine Wgh.tk (za []) 10 ?_;conv=>whnf
    refine ⟨oo, ?_⟩;conv=>whnf
    refine Wgh.tk (za []) 11 ?_;conv=>whnf
    refine Wgh.on (za []) 12 [11, 10, 5, 4, 9, 3] ⟨rx, ry, rx, ry, rx, rx, trivial⟩ ?_;conv=>whnf
    intro b_x hs_x hh_x hf_x;try dsimp only at hh_x hf_x
    conv=>whnf
    refine Wgh.on (za []) 14 [11, 10, 9] ⟨rx, ry, rx, ry, rx, rx, trivial⟩ ?_;conv=>whnf
    refine ⟨s23, ?_⟩;conv=>whnf
    refine Wgh.on (za []) 15 [] ⟨rx, ry, rx, trivial⟩ ?_;conv=>whnf
    refine ⟨s23, ?_⟩;conv=>whnf
    refine Wgh.dn (za []) trivial ?_;conv=>whnf
    refine mid b_x b_z _ (by dsimp only; omega) ?_;exact cvr
   ·refine ⟨_, [5, 4, 9, 7, 6, 3], by rfl, by kernel_rfl, ?_⟩;conv=>whnf
    intro b_x hs_x hh_x hf_x;try dsimp only at hh_x hf_x
    conv=>whnf
    refine Wgh.on (za []) 8 [5, 4, 9, 3] ⟨rx, ry, rx, rx, rx, rx, trivial⟩ ?_;conv=>whnf
    refine zc rfl (hslo) λhs' hhs => ?_;try dsimp only at hhs
    conv=>whnf
    refine Wgh.tk (za []) 10 ?_;conv=>whnf
    refine ⟨oo, ?_⟩;conv=>whnf
    refine Wgh.tk (za []) 11 ?_;conv=>whnf
    refine Wgh.on (za []) 14 [11, 10, 9] ⟨rx, ry, rx, ry, rx, rx, trivial⟩ ?_;conv=>whnf
    refine ⟨s23, ?_⟩;conv=>whnf
    refine Wgh.on (za []) 15 [] ⟨rx, ry, rx, trivial⟩ ?_;conv=>whnf
    refine ⟨s23, ?_⟩;conv=>whnf
    refine Wgh.dn (za []) trivial ?_;conv=>whnf
    refine mid b_x b_z _ (by dsimp only; omega) ?_;exact cvr
 ·refine ⟨_, [9, 7, 6, 3, 1, 0], by rfl, by kernel_rfl, ?_⟩;conv=>whnf
  intro b_x hs_x hh_x hf_x;try dsimp only at hh_x hf_x
  conv=>whnf
  refine Wgh.all (za []) (rs := [2, 13]) (by rfl) (by kernel_rfl) (by kernel_rfl) (by kernel_rfl) (by simp) (by refine ⟨?_, ?_, ?_, ?_, ?_, ?_, trivial⟩ <;> (conv=>whnf) <;> exact ⟨Nat.le_refl _, rfl⟩) λi hi => ?_;simp only [List.mem_cons, List.not_mem_nil, or_false] at hi
  rcases hi with rfl | rfl
  ·refine ⟨_, [9, 7, 6, 3], by rfl, by kernel_rfl, ?_⟩;conv=>whnf
   refine zc rfl (hpol) λhs' hhs => ?_;try dsimp only at hhs
   conv=>whnf
   refine Wgh.tk (za []) 4 ?_;conv=>whnf
   refine ⟨oo, ?_⟩;conv=>whnf
   refine Wgh.tk (za []) 5 ?_;conv=>whnf
   refine Wgh.all (za []) (rs := [8, 13]) (by rfl) (by kernel_rfl) (by kernel_rfl) (by kernel_rfl) (by simp) ⟨rx, ry, rx, rx, rx, rx, trivial⟩ λi hi => ?_;simp only [List.mem_cons, List.not_mem_nil, or_false] at hi
   rcases hi with rfl | rfl
   ·refine ⟨_, [5, 4, 9, 3], by rfl, by kernel_rfl, ?_⟩;conv=>whnf
    refine zc rfl (hslo) λhs' hhs => ?_;try dsimp only at hhs
    conv=>whnf
    refine Wgh.tk (za []) 10 ?_;conv=>whnf
    refine ⟨oo, ?_⟩;conv=>whnf
    refine Wgh.tk (za []) 11 ?_;conv=>whnf
    refine Wgh.on (za []) 13 [11, 10, 5, 4, 9, 3] ⟨rx, ry, rx, ry, rx, rx, trivial⟩ ?_;conv=>whnf
    intro b_z hs_z hh_z hf_z;try dsimp only at hh_z hf_z
    conv=>whnf
    refine Wgh.on (za []) 14 [11, 10, 9] ⟨rx, ry, rx, ry, rx, rx, trivial⟩ ?_;conv=>whnf
    refine ⟨s23, ?_⟩;conv=>whnf
    refine Wgh.on (za []) 15 [] ⟨rx, ry, rx, trivial⟩ ?_;conv=>whnf
    refine ⟨s23, ?_⟩;conv=>whnf
    refine Wgh.dn (za []) trivial ?_;conv=>whnf
    refine mid b_x b_z _ (by dsimp only; omega) ?_;exact cvr
   ·refine ⟨_, [5, 4, 9, 7, 6, 3], by rfl, by kernel_rfl, ?_⟩;conv=>whnf
    intro b_z hs_z hh_z hf_z;try dsimp only at hh_z hf_z
    conv=>whnf
    refine Wgh.on (za []) 8 [5, 4, 9, 3] ⟨rx, ry, rx, rx, rx, rx, trivial⟩ ?_;conv=>whnf
    refine zc rfl (hslo) λhs' hhs => ?_;try dsimp only at hhs
    conv=>whnf
    refine Wgh.tk (za []) 10 ?_;conv=>whnf
    refine ⟨oo, ?_⟩;conv=>whnf
    refine Wgh.tk (za []) 11 ?_;conv=>whnf
    refine Wgh.on (za []) 14 [11, 10, 9] ⟨rx, ry, rx, ry, rx, rx, trivial⟩ ?_;conv=>whnf
    refine ⟨s23, ?_⟩;conv=>whnf
    refine Wgh.on (za []) 15 [] ⟨rx, ry, rx, trivial⟩ ?_;conv=>whnf
    refine ⟨s23, ?_⟩;conv=>whnf
    refine Wgh.dn (za []) trivial ?_;conv=>whnf
    refine mid b_x b_z _ (by dsimp only; omega) ?_;exact cvr
  ·refine ⟨_, [9, 7, 6, 3, 1, 0], by rfl, by kernel_rfl, ?_⟩;conv=>whnf
   intro b_z hs_z hh_z hf_z;try dsimp only at hh_z hf_z
   conv=>whnf
   refine Wgh.on (za []) 2 [9, 7, 6, 3] (by refine ⟨?_, ?_, ?_, ?_, ?_, ?_, trivial⟩ <;> (conv=>whnf) <;> exact ⟨Nat.le_refl _, rfl⟩) ?_;conv=>whnf
   refine zc rfl (hpol) λhs' hhs => ?_;try dsimp only at hhs
   conv=>whnf
   refine Wgh.tk (za []) 4 ?_;conv=>whnf
   refine ⟨oo, ?_⟩;conv=>whnf
   refine Wgh.tk (za []) 5 ?_;conv=>whnf
   refine Wgh.on (za []) 8 [5, 4, 9, 3] ⟨rx, ry, rx, rx, rx, rx, trivial⟩ ?_;conv=>whnf
   refine zc rfl (hslo) λhs' hhs => ?_;try dsimp only at hhs
   conv=>whnf
   refine Wgh.tk (za []) 10 ?_;conv=>whnf
   refine ⟨oo, ?_⟩;conv=>whnf
   refine Wgh.tk (za []) 11 ?_;conv=>whnf
   refine Wgh.on (za []) 14 [11, 10, 9] ⟨rx, ry, rx, ry, rx, rx, trivial⟩ ?_;conv=>whnf
   refine ⟨s23, ?_⟩;conv=>whnf
   refine Wgh.on (za []) 15 [] ⟨rx, ry, rx, trivial⟩ ?_;conv=>whnf
   refine ⟨s23, ?_⟩;conv=>whnf
   refine Wgh.dn (za []) trivial ?_;conv=>whnf
   refine mid b_x b_z _ (by dsimp only; omega) ?_;exact cvr
 ·refine ⟨_, [9, 7, 6, 3, 1, 0], by rfl, by kernel_rfl, ?_⟩;conv=>whnf
  intro b_z hs_z hh_z hf_z;try dsimp only at hh_z hf_z
  conv=>whnf
  refine Wgh.all (za []) (rs := [2, 12]) (by rfl) (by kernel_rfl) (by kernel_rfl) (by kernel_rfl) (by simp) (by refine ⟨?_, ?_, ?_, ?_, ?_, ?_, trivial⟩ <;> (conv=>whnf) <;> exact ⟨Nat.le_refl _, rfl⟩) λi hi => ?_;simp only [List.mem_cons, List.not_mem_nil, or_false] at hi
  rcases hi with rfl | rfl
  ·refine ⟨_, [9, 7, 6, 3], by rfl, by kernel_rfl, ?_⟩;conv=>whnf
   refine zc rfl (hpol) λhs' hhs => ?_;try dsimp only at hhs
   conv=>whnf
   refine Wgh.tk (za []) 4 ?_;conv=>whnf
   refine ⟨oo, ?_⟩;conv=>whnf
   refine Wgh.tk (za []) 5 ?_;conv=>whnf
   refine Wgh.all (za []) (rs := [8, 12]) (by rfl) (by kernel_rfl) (by kernel_rfl) (by kernel_rfl) (by simp) ⟨rx, ry, rx, rx, rx, rx, trivial⟩ λi hi => ?_;simp only [List.mem_cons, List.not_mem_nil, or_false] at hi
   rcases hi with rfl | rfl
   ·refine ⟨_, [5, 4, 9, 3], by rfl, by kernel_rfl, ?_⟩;conv=>whnf
    refine zc rfl (hslo) λhs' hhs => ?_;try dsimp only at hhs
    conv=>whnf
    refine Wgh.tk (za []) 10 ?_;conv=>whnf
    refine ⟨oo, ?_⟩;conv=>whnf
    refine Wgh.tk (za []) 11 ?_;conv=>whnf
    refine Wgh.on (za []) 12 [11, 10, 5, 4, 9, 3] ⟨rx, ry, rx, ry, rx, rx, trivial⟩ ?_;conv=>whnf
    intro b_x hs_x hh_x hf_x;try dsimp only at hh_x hf_x
    conv=>whnf
    refine Wgh.on (za []) 14 [11, 10, 9] ⟨rx, ry, rx, ry, rx, rx, trivial⟩ ?_;conv=>whnf
    refine ⟨s23, ?_⟩;conv=>whnf
    refine Wgh.on (za []) 15 [] ⟨rx, ry, rx, trivial⟩ ?_;conv=>whnf
    refine ⟨s23, ?_⟩;conv=>whnf
    refine Wgh.dn (za []) trivial ?_;conv=>whnf
    refine mid b_x b_z _ (by dsimp only; omega) ?_;exact cvr
   ·refine ⟨_, [5, 4, 9, 7, 6, 3], by rfl, by kernel_rfl, ?_⟩;conv=>whnf
    intro b_x hs_x hh_x hf_x;try dsimp only at hh_x hf_x
    conv=>whnf
    refine Wgh.on (za []) 8 [5, 4, 9, 3] ⟨rx, ry, rx, rx, rx, rx, trivial⟩ ?_;conv=>whnf
    refine zc rfl (hslo) λhs' hhs => ?_;try dsimp only at hhs
    conv=>whnf
    refine Wgh.tk (za []) 10 ?_;conv=>whnf
    refine ⟨oo, ?_⟩;conv=>whnf
    refine Wgh.tk (za []) 11 ?_;conv=>whnf
    refine Wgh.on (za []) 14 [11, 10, 9] ⟨rx, ry, rx, ry, rx, rx, trivial⟩ ?_;conv=>whnf
    refine ⟨s23, ?_⟩;conv=>whnf
    refine Wgh.on (za []) 15 [] ⟨rx, ry, rx, trivial⟩ ?_;conv=>whnf
    refine ⟨s23, ?_⟩;conv=>whnf
    refine Wgh.dn (za []) trivial ?_;conv=>whnf
    refine mid b_x b_z _ (by dsimp only; omega) ?_;exact cvr
  ·refine ⟨_, [9, 7, 6, 3, 1, 0], by rfl, by kernel_rfl, ?_⟩;conv=>whnf
   intro b_x hs_x hh_x hf_x;try dsimp only at hh_x hf_x
   conv=>whnf
   refine Wgh.on (za []) 2 [9, 7, 6, 3] (by refine ⟨?_, ?_, ?_, ?_, ?_, ?_, trivial⟩ <;> (conv=>whnf) <;> exact ⟨Nat.le_refl _, rfl⟩) ?_;conv=>whnf
   refine zc rfl (hpol) λhs' hhs => ?_;try dsimp only at hhs
   conv=>whnf
   refine Wgh.tk (za []) 4 ?_;conv=>whnf
   refine ⟨oo, ?_⟩;conv=>whnf
   refine Wgh.tk (za []) 5 ?_;conv=>whnf
   refine Wgh.on (za []) 8 [5, 4, 9, 3] ⟨rx, ry, rx, rx, rx, rx, trivial⟩ ?_;conv=>whnf
   refine zc rfl (hslo) λhs' hhs => ?_;try dsimp only at hhs
   conv=>whnf
   refine Wgh.tk (za []) 10 ?_;conv=>whnf
   refine ⟨oo, ?_⟩;conv=>whnf
   refine Wgh.tk (za []) 11 ?_;conv=>whnf
   refine Wgh.on (za []) 14 [11, 10, 9] ⟨rx, ry, rx, ry, rx, rx, trivial⟩ ?_;conv=>whnf
   refine ⟨s23, ?_⟩;conv=>whnf
   refine Wgh.on (za []) 15 [] ⟨rx, ry, rx, trivial⟩ ?_;conv=>whnf
   refine ⟨s23, ?_⟩;conv=>whnf
   refine Wgh.dn (za []) trivial ?_;conv=>whnf
   refine mid b_x b_z _ (by dsimp only; omega) ?_;exact cvr

open Go Go.RowKit Go.Proofs Poly Hull

theorem zdZ (p : Int) (hp : 2 <= p ∧ p <= 97) (g0 : Option Nat) (l : List Int) (hl : l.length <= 100) (hb : ∀ j, -1000000 <= cf l j ∧ cf l j <= 1000000) (L : List (Int × Int)) (hpol : FnV 163 [.int .i64 p, .ints g0 l] (vCs L)) (hslo : FnV 107 [.int .i64 p, .ints g0 l] (vSs (slT L (L.length - 1))))
  (i : Nat) (x0 y0 : Int) (b : Int × Int) (g : Nat) (run rise : Int) (hP : Pc p l L i (x0, y0) b g run rise) : FnI 108 [.int .i64 p, .ints g0 l, .int .i64 i] (xp p l (x0, y0) run rise (g + 1)) := by
 have hi := hP.hi;have hln := hP.ln;have g8 := hP.g8;have r8 := hP.r8;have s8 := hP.s8;have r1 := hln.run1;have p8 := hP.p8;have b8 := hP.b8;have hq0 := hln.quot;dsimp only at p8 b8 hq0
 have e7 : vC (L.getD i (0, 0)) = .agg [.int .i64 x0, .int .i64 y0] := by rw [hP.ha]
 have e8 : vS ((slT L (L.length - 1)).getD i (0, 0, 0)) = .agg [.int .i64 rise, .int .i64 run, .int .i64 (b.1 - x0)] := by rw [hP.hs]
 have hsl := jc L (L.length - 1);refine zf (za [0, 1, 2, 6, 7, 8, 9, 10, 11, 12, 13, 14, 34, 62, 65]) Tryz.func108 rfl (by decide) Tryz.ntmps108 (lb rfl) λbase => ?_;refine wrs λK hK => ?_;conv=>whnf
 refine hK _ ?_;clear hK;refine W.seqK λK9 hK9 => ?_
 have mid : ∀ (bx bz : Nat) (t : S), base <= t.hs -> zB t.env [(0, .v (.int .i64 p)), (1, .v (.ints g0 l)), (7, .ownB bx (vC (L.getD i (0, 0)))), (8, .ownB bz (vS ((slT L (L.length - 1)).getD i (0, 0, 0))))] -> K9 t := by
  intro bx bz t h7 h8;rw [e7, e8] at h8;refine hK9 _ (W.weak (t := ⟨[(0, .v (.int .i64 p)), (1, .v (.ints g0 l)), (7, .ownB bx (.agg [.int .i64 x0, .int .i64 y0])), (8, .ownB bz (.agg [.int .i64 rise, .int .i64 run, .int .i64 (b.1 - x0)]))], base⟩) ⟨h7, h8⟩ (Nat.le_refl _) ?_);clear hK9;refine wrs λK hK => ?_;conv=>whnf
  refine ⟨⟨rfl, by decide⟩, ?_⟩;conv=>whnf
  intro b_0 hs_0 hh_0 hf_0;try dsimp only at hh_0 hf_0
  conv=>whnf
  refine hK _ (W.seqK λK1 hK1 => wrs λK hK => ?_);conv=>whnf
  refine hK _ (W.block (W.invA (λm e => ∃ (k bo : Nat), k <= g + 1 ∧ m = g + 1 - k ∧ e = [(0, .v (.int .i64 p)), (1, .v (.ints g0 l)), (7, .ownB bx (.agg [.int .i64 x0, .int .i64 y0])), (8, .ownB bz (.agg [.int .i64 rise, .int .i64 run, .int .i64 (b.1 - x0)])), (9, .ownI 2 bo (xp p l (x0, y0) run rise k)), (10, .v (.int .i64 k))]) ⟨0, b_0, Nat.zero_le _, rfl, rfl⟩ ?_));clear hK;rintro m e ⟨k, bo, hk, hm, rfl⟩;have hlen := y5 p l (x0, y0) run rise k;refine W.seqK λK7 hK7 => wrs λK hK => ?_;conv=>whnf
  refine ⟨by show run ≠ 0; omega, ?_⟩;conv=>whnf
  rw [hq0];refine ⟨oo, ?_⟩;conv=>whnf
  refine hK _ (W.cond ⟨λh3 => ?_, λh3 => ?_⟩) <;> clear hK <;> (first | replace h3 := of_decide_eq_true h3 | replace h3 := of_decide_eq_false h3)
  ·have hkg : k <= g := by omega
   have m0 : 0 <= (k : Int) * run ∧ (k : Int) * run <= 101 * 100 := ⟨Int.mul_nonneg (by omega) (by omega), Int.mul_le_mul (by omega) r8 (by omega) (by decide)⟩
   obtain ⟨⟨x, hx, ex⟩, y, hy, ey, hpw⟩ := znf hp hb hln hP.ca hP.cb hkg;dsimp only at ex ey
   have m1 := zbS (a := k) (b := rise) (by omega) (by omega);have hbx := hb x;have hnx : xp p l (x0, y0) run rise (k + 1) = xp p l (x0, y0) run rise k ++ [jY p (cf l x) y] := by rw [xp]; dsimp only; rw [ex, ey, Int.toNat_natCast, Int.toNat_natCast]
   refine W.skip (hK7 _ ?_);clear hK7;refine W.seqK λK8 hK8 => W.block ?_;refine wrs λK hK => ?_;conv=>whnf
   refine ⟨by show _ <= (k : Int) * run ∧ (k : Int) * run <= _; omega, ?_⟩;conv=>whnf
   refine ⟨by show _ <= x0 + (k : Int) * run ∧ x0 + (k : Int) * run <= _; omega, ?_⟩;conv=>whnf
   rw [ex];refine ⟨oo, ?_⟩;conv=>whnf
   rw [Int.toNat_natCast];refine hK _ (wrs λK hK => ?_);conv=>whnf
   refine ⟨by show _ <= (k : Int) * rise ∧ (k : Int) * rise <= _; omega, ?_⟩;conv=>whnf
   refine ⟨by show _ <= y0 + (k : Int) * rise ∧ y0 + (k : Int) * rise <= _; omega, ?_⟩;conv=>whnf
   rw [ey];refine hK _ (wrs λK hK => ?_);conv=>whnf
   refine hK _ ?_;clear hK;refine W.seqK λK4 hK4 => ?_
   have fin : ∀ (c : Int) (t : S), c = jY p (cf l x) y -> base <= t.hs -> zB t.env [(0, .v (.int .i64 p)), (1, .v (.ints g0 l)), (7, .ownB bx (.agg [.int .i64 x0, .int .i64 y0])), (8, .ownB bz (.agg [.int .i64 rise, .int .i64 run, .int .i64 (b.1 - x0)])), (9, .ownI 2 bo (xp p l (x0, y0) run rise k)), (10, .v (.int .i64 k)), (13, .v (.int .i64 c))] -> K4 t := by
    intro c t hc h7 h8;subst hc;refine hK4 _ (W.weak (t := ⟨[(0, .v (.int .i64 p)), (1, .v (.ints g0 l)), (7, .ownB bx (.agg [.int .i64 x0, .int .i64 y0])), (8, .ownB bz (.agg [.int .i64 rise, .int .i64 run, .int .i64 (b.1 - x0)])), (9, .ownI 2 bo (xp p l (x0, y0) run rise k)), (10, .v (.int .i64 k)), (13, .v (.int .i64 (jY p (cf l x) y)))], base⟩) ⟨h7, h8⟩ (Nat.le_refl _) ?_);clear hK4;refine wrg ?_;conv=>whnf
    refine ⟨⟨rfl, by decide⟩, ?_⟩;conv=>whnf
    intro b_1 hs_1 hh_1 hf_1;try dsimp only at hh_1 hf_1
    conv=>whnf
    refine ⟨by rw [hlen]; simp; omega, ?_⟩;conv=>whnf
    intro b_2 hs_2 hh_2 hf_2;try dsimp only at hh_2 hf_2
    conv=>whnf
    refine hK8 _ ?_;clear hK8;refine wrg ?_;conv=>whnf
    refine ⟨oo, ?_⟩;conv=>whnf
    exact ze ⟨k + 1, b_2, by omega, rfl, by rw [hnx]⟩
   refine wrs λK hK => ?_;conv=>whnf
   refine ⟨λh4 => ?_, λh4 => ?_⟩ <;> conv=>whnf
   ·have h4 : cf l x ≠ 0 := of_decide_eq_true h4;refine zc rfl (kb p (cf l x) hp h4 hbx) λhs' hhs => ?_;try dsimp only at hhs
    conv=>whnf
    refine hK _ (W.cond ⟨λh5 => ?_, λh5 => ?_⟩) <;> clear hK
    ·have h5 : ((vl p (cf l x) : Nat) : Int) = (y : Int) := of_decide_eq_true h5;have h6 : cf l x ≠ 0 ∧ vl p (cf l x) = y := ⟨h4, by omega⟩
     refine W.seqK λK5 hK5 => wrs λK hK => ?_;conv=>whnf
     refine hK _ (W.block (W.invA (λm e => ∃ i : Nat, i <= y ∧ m = y - i ∧ e = [(0, .v (.int .i64 p)), (1, .v (.ints g0 l)), (7, .ownB bx (.agg [.int .i64 x0, .int .i64 y0])), (8, .ownB bz (.agg [.int .i64 rise, .int .i64 run, .int .i64 (b.1 - x0)])), (9, .ownI 2 bo (xp p l (x0, y0) run rise k)), (10, .v (.int .i64 k)), (11, .v (.int .i64 ((cf l x).tdiv (p ^ i)))), (12, .v (.int .i64 y)), (14, .v (.int .i64 i))]) ⟨0, Nat.zero_le _, rfl, by rw [Int.pow_zero, Int.tdiv_one]⟩ ?_));clear hK;rintro m' e ⟨i, h7, hm', rfl⟩;have hd := zfI (p := p) i hbx;refine W.seqK λK7 hK7 => wrs λK hK => ?_;conv=>whnf
     refine hK _ (W.cond ⟨λh8 => ?_, λh8 => ?_⟩) <;> clear hK <;> (first | replace h8 := of_decide_eq_true h8 | replace h8 := of_decide_eq_false h8)
     ·have e9 := zlR hp.1 h6 (show i < y by omega);have hd2 := zfI (p := p) (i + 1) hbx;refine W.skip (hK7 _ (W.seqK λK6 hK6 => W.block ?_));clear hK7;refine wrg ?_;conv=>whnf
      refine ⟨by show p ≠ 0; omega, ?_⟩;conv=>whnf
      rw [e9];refine ⟨oo, ?_⟩;conv=>whnf
      refine hK6 _ ?_;clear hK6;refine wrg ?_;conv=>whnf
      refine ⟨oo, ?_⟩;conv=>whnf
      exact ze ⟨i + 1, by omega, rfl, rfl⟩
     ·obtain rfl : i = y := by omega
      have e9 : (cf l x).tdiv (p ^ i) % p = jY p (cf l x) i := by unfold jY; rw [if_pos h6]
      refine W.exit (hK5 _ ?_);clear hK7 hK5;refine wrg ?_;conv=>whnf
      refine zc rfl (vu ((cf l x).tdiv (p ^ i)) p (by omega) (by omega) (by omega)) λhs' hhs => ?_;try dsimp only at hhs
      conv=>whnf
      rw [e9];refine fin _ _ rfl (by dsimp only; omega) ?_;exact cvr
    ·have h5 : ¬ ((vl p (cf l x) : Nat) : Int) = (y : Int) := of_decide_eq_false h5;refine W.skip (fin 0 _ (by unfold jY; rw [if_neg λhh => h5 (by rw [hh.2])]) (by dsimp only; omega) ?_);exact cvr
   ·have h4 : cf l x = 0 := by have := of_decide_eq_false h4; exact Classical.byContradiction λh' => this h'
    refine hK _ (W.condF rfl (W.skip (fin 0 _ (by unfold jY; rw [if_neg λhh => hh.1 h4]) (by dsimp only; omega) ?_)));clear hK;exact cvr
  ·obtain rfl : k = g + 1 := by omega
   refine W.exit (hK1 _ ?_);clear hK7 hK1;refine W.sw (c' := cxr [0, 1, 2, 6, 7, 8, 9, 10, 11, 12, 13, 14, 34, 62, 65]) (W.rs (zfK _) (by rfl) λK hK => ?_);conv=>whnf
   refine hK _ (W.ret ?_);conv=>whnf
   exact ⟨.ownI 2 _ (xp p l (x0, y0) run rise (g + 1)), ⟨rfl, rfl, rfl⟩, trivial, _, rfl⟩
 refine W.gh follows ?_;refine Wgh.tk (za []) 0 ?_;conv=>whnf
 refine Wgh.tk (za []) 1 ?_;conv=>whnf
 refine Wgh.tk (za []) 3 ?_;conv=>whnf
 refine Wgh.tk (za []) 6 ?_;conv=>whnf
 refine Wgh.tk (za []) 7 ?_;conv=>whnf
 refine Wgh.tk (za []) 9 ?_;conv=>whnf
 refine Wgh.all (za []) (rs := [2, 12, 13]) (by rfl) (by kernel_rfl) (by kernel_rfl) (by kernel_rfl) (by simp) (by refine ⟨?_, ?_, ?_, ?_, ?_, ?_, trivial⟩ <;> (conv=>whnf) <;> exact ⟨Nat.le_refl _, rfl⟩) λi hi => ?_;simp only [List.mem_cons, List.not_mem_nil, or_false] at hi
 rcases hi with rfl | rfl | rfl
 ·refine ⟨_, [9, 7, 6, 3], by rfl, by kernel_rfl, ?_⟩;conv=>whnf
  refine zc rfl (hpol) λhs' hhs => ?_;try dsimp only at hhs
  conv=>whnf
  refine Wgh.tk (za []) 4 ?_;conv=>whnf
  refine ⟨oo, ?_⟩;conv=>whnf
  refine Wgh.tk (za []) 5 ?_;conv=>whnf
  refine Wgh.all (za []) (rs := [8, 12, 13]) (by rfl) (by kernel_rfl) (by kernel_rfl) (by kernel_rfl) (by simp) ⟨rx, ry, rx, rx, rx, rx, trivial⟩ λi hi => ?_;simp only [List.mem_cons, List.not_mem_nil, or_false] at hi
  rcases hi with rfl | rfl | rfl
  ·refine ⟨_, [5, 4, 9, 3], by rfl, by kernel_rfl, ?_⟩;conv=>whnf
   refine zc rfl (hslo) λhs' hhs => ?_;try dsimp only at hhs
   conv=>whnf
   refine Wgh.tk (za []) 10 ?_;conv=>whnf
   refine ⟨oo, ?_⟩;conv=>whnf
   refine Wgh.tk (za []) 11 ?_;conv=>whnf
   refine Wgh.all (za []) (rs := [12, 13]) (by rfl) (by kernel_rfl) (by kernel_rfl) (by kernel_rfl) (by simp) ⟨rx, ry, rx, ry, rx, rx, trivial⟩ λi hi => ?_;simp only [List.mem_cons, List.not_mem_nil, or_false] at hi
   rcases hi with rfl | rfl
   ·refine ⟨_, [11, 10, 5, 4, 9, 3], by rfl, by kernel_rfl, ?_⟩;conv=>whnf
    intro b_x hs_x hh_x hf_x;try dsimp only at hh_x hf_x
    conv=>whnf
    refine Wgh.on (za []) 13 [11, 10, 5, 4, 9, 3] ⟨rx, ry, rx, ry, rx, rx, trivial⟩ ?_;conv=>whnf
    intro b_z hs_z hh_z hf_z;try dsimp only at hh_z hf_z
    conv=>whnf
    refine Wgh.on (za []) 14 [11, 10, 9] ⟨rx, ry, rx, ry, rx, rx, trivial⟩ ?_;conv=>whnf
    refine ⟨s23, ?_⟩;conv=>whnf
    refine Wgh.on (za []) 15 [] ⟨rx, ry, rx, trivial⟩ ?_;conv=>whnf
    refine ⟨s23, ?_⟩;conv=>whnf
    refine Wgh.dn (za []) trivial ?_;conv=>whnf
    refine mid b_x b_z _ (by dsimp only; omega) ?_;exact cvr
   ·refine ⟨_, [11, 10, 5, 4, 9, 3], by rfl, by kernel_rfl, ?_⟩;conv=>whnf
    intro b_z hs_z hh_z hf_z;try dsimp only at hh_z hf_z
    conv=>whnf
    refine Wgh.on (za []) 12 [11, 10, 5, 4, 9, 3] ⟨rx, ry, rx, ry, rx, rx, trivial⟩ ?_;conv=>whnf
    intro b_x hs_x hh_x hf_x;try dsimp only at hh_x hf_x
    conv=>whnf
    refine Wgh.on (za []) 14 [11, 10, 9] ⟨rx, ry, rx, ry, rx, rx, trivial⟩ ?_;conv=>whnf
    refine ⟨s23, ?_⟩;conv=>whnf
    refine Wgh.on (za []) 15 [] ⟨rx, ry, rx, trivial⟩ ?_;conv=>whnf
    refine ⟨s23, ?_⟩;conv=>whnf
    refine Wgh.dn (za []) trivial ?_;conv=>whnf
    refine mid b_x b_z _ (by dsimp only; omega) ?_;exact cvr
  ·refine ⟨_, [5, 4, 9, 7, 6, 3], by rfl, by kernel_rfl, ?_⟩;conv=>whnf
   intro b_x hs_x hh_x hf_x;try dsimp only at hh_x hf_x
   conv=>whnf
   refine Wgh.all (za []) (rs := [8, 13]) (by rfl) (by kernel_rfl) (by kernel_rfl) (by kernel_rfl) (by simp) ⟨rx, ry, rx, rx, rx, rx, trivial⟩ λi hi => ?_;simp only [List.mem_cons, List.not_mem_nil, or_false] at hi
   rcases hi with rfl | rfl
   ·refine ⟨_, [5, 4, 9, 3], by rfl, by kernel_rfl, ?_⟩;conv=>whnf
    refine zc rfl (hslo) λhs' hhs => ?_;try dsimp only at hhs
    conv=>whnf
    refine Wgh.tk (za []) 10 ?_;conv=>whnf
    refine ⟨oo, ?_⟩;conv=>whnf
    refine Wgh.tk (za []) 11 ?_;conv=>whnf
    refine Wgh.on (za []) 13 [11, 10, 5, 4, 9, 3] ⟨rx, ry, rx, ry, rx, rx, trivial⟩ ?_;conv=>whnf
    intro b_z hs_z hh_z hf_z;try dsimp only at hh_z hf_z
    conv=>whnf
    refine Wgh.on (za []) 14 [11, 10, 9] ⟨rx, ry, rx, ry, rx, rx, trivial⟩ ?_;conv=>whnf
    refine ⟨s23, ?_⟩;conv=>whnf
    refine Wgh.on (za []) 15 [] ⟨rx, ry, rx, trivial⟩ ?_;conv=>whnf
    refine ⟨s23, ?_⟩;conv=>whnf
    refine Wgh.dn (za []) trivial ?_;conv=>whnf
    refine mid b_x b_z _ (by dsimp only; omega) ?_;exact cvr
   ·refine ⟨_, [5, 4, 9, 7, 6, 3], by rfl, by kernel_rfl, ?_⟩;conv=>whnf
    intro b_z hs_z hh_z hf_z;try dsimp only at hh_z hf_z
    conv=>whnf
    refine Wgh.on (za []) 8 [5, 4, 9, 3] ⟨rx, ry, rx, rx, rx, rx, trivial⟩ ?_;conv=>whnf
    refine zc rfl (hslo) λhs' hhs => ?_;try dsimp only at hhs
    conv=>whnf
    refine Wgh.tk (za []) 10 ?_;conv=>whnf
    refine ⟨oo, ?_⟩;conv=>whnf
    refine Wgh.tk (za []) 11 ?_;conv=>whnf
    refine Wgh.on (za []) 14 [11, 10, 9] ⟨rx, ry, rx, ry, rx, rx, trivial⟩ ?_;conv=>whnf
    refine ⟨s23, ?_⟩;conv=>whnf
    refine Wgh.on (za []) 15 [] ⟨rx, ry, rx, trivial⟩ ?_;conv=>whnf
    refine ⟨s23, ?_⟩;conv=>whnf
    refine Wgh.dn (za []) trivial ?_;conv=>whnf
    refine mid b_x b_z _ (by dsimp only; omega) ?_;exact cvr
  ·refine ⟨_, [5, 4, 9, 7, 6, 3], by rfl, by kernel_rfl, ?_⟩;conv=>whnf
   intro b_z hs_z hh_z hf_z;try dsimp only at hh_z hf_z
   conv=>whnf
   refine Wgh.all (za []) (rs := [8, 12]) (by rfl) (by kernel_rfl) (by kernel_rfl) (by kernel_rfl) (by simp) ⟨rx, ry, rx, rx, rx, rx, trivial⟩ λi hi => ?_;simp only [List.mem_cons, List.not_mem_nil, or_false] at hi
   rcases hi with rfl | rfl
   ·refine ⟨_, [5, 4, 9, 3], by rfl, by kernel_rfl, ?_⟩;conv=>whnf
    refine zc rfl (hslo) λhs' hhs => ?_;try dsimp only at hhs
    conv=>whnf
    refine Wgh.tk (za []) 10 ?_;conv=>whnf
    refine ⟨oo, ?_⟩;conv=>whnf
    refine Wgh.tk (za []) 11 ?_;conv=>whnf
    refine Wgh.on (za []) 12 [11, 10, 5, 4, 9, 3] ⟨rx, ry, rx, ry, rx, rx, trivial⟩ ?_;conv=>whnf
    intro b_x hs_x hh_x hf_x;try dsimp only at hh_x hf_x
    conv=>whnf
    refine Wgh.on (za []) 14 [11, 10, 9] ⟨rx, ry, rx, ry, rx, rx, trivial⟩ ?_;conv=>whnf
    refine ⟨s23, ?_⟩;conv=>whnf
    refine Wgh.on (za []) 15 [] ⟨rx, ry, rx, trivial⟩ ?_;conv=>whnf
    refine ⟨s23, ?_⟩;conv=>whnf
    refine Wgh.dn (za []) trivial ?_;conv=>whnf
    refine mid b_x b_z _ (by dsimp only; omega) ?_;exact cvr
   ·refine ⟨_, [5, 4, 9, 7, 6, 3], by rfl, by kernel_rfl, ?_⟩;conv=>whnf
    intro b_x hs_x hh_x hf_x;try dsimp only at hh_x hf_x
    conv=>whnf
    refine Wgh.on (za []) 8 [5, 4, 9, 3] ⟨rx, ry, rx, rx, rx, rx, trivial⟩ ?_;conv=>whnf
    refine zc rfl (hslo) λhs' hhs => ?_;try dsimp only at hhs
    conv=>whnf
    refine Wgh.tk (za []) 10 ?_;conv=>whnf
    refine ⟨oo, ?_⟩;conv=>whnf
    refine Wgh.tk (za []) 11 ?_;conv=>whnf
    refine Wgh.on (za []) 14 [11, 10, 9] ⟨rx, ry, rx, ry, rx, rx, trivial⟩ ?_;conv=>whnf
    refine ⟨s23, ?_⟩;conv=>whnf
    refine Wgh.on (za []) 15 [] ⟨rx, ry, rx, trivial⟩ ?_;conv=>whnf
    refine ⟨s23, ?_⟩;conv=>whnf
    refine Wgh.dn (za []) trivial ?_;conv=>whnf
    refine mid b_x b_z _ (by dsimp only; omega) ?_;exact cvr
 ·refine ⟨_, [9, 7, 6, 3, 1, 0], by rfl, by kernel_rfl, ?_⟩;conv=>whnf
  intro b_x hs_x hh_x hf_x;try dsimp only at hh_x hf_x
  conv=>whnf
  refine Wgh.all (za []) (rs := [2, 13]) (by rfl) (by kernel_rfl) (by kernel_rfl) (by kernel_rfl) (by simp) (by refine ⟨?_, ?_, ?_, ?_, ?_, ?_, trivial⟩ <;> (conv=>whnf) <;> exact ⟨Nat.le_refl _, rfl⟩) λi hi => ?_;simp only [List.mem_cons, List.not_mem_nil, or_false] at hi
  rcases hi with rfl | rfl
  ·refine ⟨_, [9, 7, 6, 3], by rfl, by kernel_rfl, ?_⟩;conv=>whnf
   refine zc rfl (hpol) λhs' hhs => ?_;try dsimp only at hhs
   conv=>whnf
   refine Wgh.tk (za []) 4 ?_;conv=>whnf
   refine ⟨oo, ?_⟩;conv=>whnf
   refine Wgh.tk (za []) 5 ?_;conv=>whnf
   refine Wgh.all (za []) (rs := [8, 13]) (by rfl) (by kernel_rfl) (by kernel_rfl) (by kernel_rfl) (by simp) ⟨rx, ry, rx, rx, rx, rx, trivial⟩ λi hi => ?_;simp only [List.mem_cons, List.not_mem_nil, or_false] at hi
   rcases hi with rfl | rfl
   ·refine ⟨_, [5, 4, 9, 3], by rfl, by kernel_rfl, ?_⟩;conv=>whnf
    refine zc rfl (hslo) λhs' hhs => ?_;try dsimp only at hhs
    conv=>whnf
    refine Wgh.tk (za []) 10 ?_;conv=>whnf
    refine ⟨oo, ?_⟩;conv=>whnf
    refine Wgh.tk (za []) 11 ?_;conv=>whnf
    refine Wgh.on (za []) 13 [11, 10, 5, 4, 9, 3] ⟨rx, ry, rx, ry, rx, rx, trivial⟩ ?_;conv=>whnf
    intro b_z hs_z hh_z hf_z;try dsimp only at hh_z hf_z
    conv=>whnf
    refine Wgh.on (za []) 14 [11, 10, 9] ⟨rx, ry, rx, ry, rx, rx, trivial⟩ ?_;conv=>whnf
    refine ⟨s23, ?_⟩;conv=>whnf
    refine Wgh.on (za []) 15 [] ⟨rx, ry, rx, trivial⟩ ?_;conv=>whnf
    refine ⟨s23, ?_⟩;conv=>whnf
    refine Wgh.dn (za []) trivial ?_;conv=>whnf
    refine mid b_x b_z _ (by dsimp only; omega) ?_;exact cvr
   ·refine ⟨_, [5, 4, 9, 7, 6, 3], by rfl, by kernel_rfl, ?_⟩;conv=>whnf
    intro b_z hs_z hh_z hf_z;try dsimp only at hh_z hf_z
    conv=>whnf
    refine Wgh.on (za []) 8 [5, 4, 9, 3] ⟨rx, ry, rx, rx, rx, rx, trivial⟩ ?_;conv=>whnf
    refine zc rfl (hslo) λhs' hhs => ?_;try dsimp only at hhs
    conv=>whnf
    refine Wgh.tk (za []) 10 ?_;conv=>whnf
    refine ⟨oo, ?_⟩;conv=>whnf
    refine Wgh.tk (za []) 11 ?_;conv=>whnf
    refine Wgh.on (za []) 14 [11, 10, 9] ⟨rx, ry, rx, ry, rx, rx, trivial⟩ ?_;conv=>whnf
    refine ⟨s23, ?_⟩;conv=>whnf
    refine Wgh.on (za []) 15 [] ⟨rx, ry, rx, trivial⟩ ?_;conv=>whnf
    refine ⟨s23, ?_⟩;conv=>whnf
    refine Wgh.dn (za []) trivial ?_;conv=>whnf
    refine mid b_x b_z _ (by dsimp only; omega) ?_;exact cvr
  ·refine ⟨_, [9, 7, 6, 3, 1, 0], by rfl, by kernel_rfl, ?_⟩;conv=>whnf
   intro b_z hs_z hh_z hf_z;try dsimp only at hh_z hf_z
   conv=>whnf
   refine Wgh.on (za []) 2 [9, 7, 6, 3] (by refine ⟨?_, ?_, ?_, ?_, ?_, ?_, trivial⟩ <;> (conv=>whnf) <;> exact ⟨Nat.le_refl _, rfl⟩) ?_;conv=>whnf
   refine zc rfl (hpol) λhs' hhs => ?_;try dsimp only at hhs
   conv=>whnf
   refine Wgh.tk (za []) 4 ?_;conv=>whnf
   refine ⟨oo, ?_⟩;conv=>whnf
   refine Wgh.tk (za []) 5 ?_;conv=>whnf
   refine Wgh.on (za []) 8 [5, 4, 9, 3] ⟨rx, ry, rx, rx, rx, rx, trivial⟩ ?_;conv=>whnf
   refine zc rfl (hslo) λhs' hhs => ?_;try dsimp only at hhs
   conv=>whnf
   refine Wgh.tk (za []) 10 ?_;conv=>whnf
   refine ⟨oo, ?_⟩;conv=>whnf
   refine Wgh.tk (za []) 11 ?_;conv=>whnf
   refine Wgh.on (za []) 14 [11, 10, 9] ⟨rx, ry, rx, ry, rx, rx, trivial⟩ ?_;conv=>whnf
   refine ⟨s23, ?_⟩;conv=>whnf
   refine Wgh.on (za []) 15 [] ⟨rx, ry, rx, trivial⟩ ?_;conv=>whnf
   refine ⟨s23, ?_⟩;conv=>whnf
   refine Wgh.dn (za []) trivial ?_;conv=>whnf
   refine mid b_x b_z _ (by dsimp only; omega) ?_;exact cvr
 ·refine ⟨_, [9, 7, 6, 3, 1, 0], by rfl, by kernel_rfl, ?_⟩;conv=>whnf
  intro b_z hs_z hh_z hf_z;try dsimp only at hh_z hf_z
  conv=>whnf
  refine Wgh.all (za []) (rs := [2, 12]) (by rfl) (by kernel_rfl) (by kernel_rfl) (by kernel_rfl) (by simp) (by refine ⟨?_, ?_, ?_, ?_, ?_, ?_, trivial⟩ <;> (conv=>whnf) <;> exact ⟨Nat.le_refl _, rfl⟩) λi hi => ?_;simp only [List.mem_cons, List.not_mem_nil, or_false] at hi
  rcases hi with rfl | rfl
  ·refine ⟨_, [9, 7, 6, 3], by rfl, by kernel_rfl, ?_⟩;conv=>whnf
   refine zc rfl (hpol) λhs' hhs => ?_;try dsimp only at hhs
   conv=>whnf
   refine Wgh.tk (za []) 4 ?_;conv=>whnf
   refine ⟨oo, ?_⟩;conv=>whnf
   refine Wgh.tk (za []) 5 ?_;conv=>whnf
   refine Wgh.all (za []) (rs := [8, 12]) (by rfl) (by kernel_rfl) (by kernel_rfl) (by kernel_rfl) (by simp) ⟨rx, ry, rx, rx, rx, rx, trivial⟩ λi hi => ?_;simp only [List.mem_cons, List.not_mem_nil, or_false] at hi
   rcases hi with rfl | rfl
   ·refine ⟨_, [5, 4, 9, 3], by rfl, by kernel_rfl, ?_⟩;conv=>whnf
    refine zc rfl (hslo) λhs' hhs => ?_;try dsimp only at hhs
    conv=>whnf
    refine Wgh.tk (za []) 10 ?_;conv=>whnf
    refine ⟨oo, ?_⟩;conv=>whnf
    refine Wgh.tk (za []) 11 ?_;conv=>whnf
    refine Wgh.on (za []) 12 [11, 10, 5, 4, 9, 3] ⟨rx, ry, rx, ry, rx, rx, trivial⟩ ?_;conv=>whnf
    intro b_x hs_x hh_x hf_x;try dsimp only at hh_x hf_x
    conv=>whnf
    refine Wgh.on (za []) 14 [11, 10, 9] ⟨rx, ry, rx, ry, rx, rx, trivial⟩ ?_;conv=>whnf
    refine ⟨s23, ?_⟩;conv=>whnf
    refine Wgh.on (za []) 15 [] ⟨rx, ry, rx, trivial⟩ ?_;conv=>whnf
    refine ⟨s23, ?_⟩;conv=>whnf
    refine Wgh.dn (za []) trivial ?_;conv=>whnf
    refine mid b_x b_z _ (by dsimp only; omega) ?_;exact cvr
   ·refine ⟨_, [5, 4, 9, 7, 6, 3], by rfl, by kernel_rfl, ?_⟩;conv=>whnf
    intro b_x hs_x hh_x hf_x;try dsimp only at hh_x hf_x
    conv=>whnf
    refine Wgh.on (za []) 8 [5, 4, 9, 3] ⟨rx, ry, rx, rx, rx, rx, trivial⟩ ?_;conv=>whnf
    refine zc rfl (hslo) λhs' hhs => ?_;try dsimp only at hhs
    conv=>whnf
    refine Wgh.tk (za []) 10 ?_;conv=>whnf
    refine ⟨oo, ?_⟩;conv=>whnf
    refine Wgh.tk (za []) 11 ?_;conv=>whnf
    refine Wgh.on (za []) 14 [11, 10, 9] ⟨rx, ry, rx, ry, rx, rx, trivial⟩ ?_;conv=>whnf
    refine ⟨s23, ?_⟩;conv=>whnf
    refine Wgh.on (za []) 15 [] ⟨rx, ry, rx, trivial⟩ ?_;conv=>whnf
    refine ⟨s23, ?_⟩;conv=>whnf
    refine Wgh.dn (za []) trivial ?_;conv=>whnf
    refine mid b_x b_z _ (by dsimp only; omega) ?_;exact cvr
  ·refine ⟨_, [9, 7, 6, 3, 1, 0], by rfl, by kernel_rfl, ?_⟩;conv=>whnf
   intro b_x hs_x hh_x hf_x;try dsimp only at hh_x hf_x
   conv=>whnf
   refine Wgh.on (za []) 2 [9, 7, 6, 3] (by refine ⟨?_, ?_, ?_, ?_, ?_, ?_, trivial⟩ <;> (conv=>whnf) <;> exact ⟨Nat.le_refl _, rfl⟩) ?_;conv=>whnf
   refine zc rfl (hpol) λhs' hhs => ?_;try dsimp only at hhs
   conv=>whnf
   refine Wgh.tk (za []) 4 ?_;conv=>whnf
   refine ⟨oo, ?_⟩;conv=>whnf
   refine Wgh.tk (za []) 5 ?_;conv=>whnf
   refine Wgh.on (za []) 8 [5, 4, 9, 3] ⟨rx, ry, rx, rx, rx, rx, trivial⟩ ?_;conv=>whnf
   refine zc rfl (hslo) λhs' hhs => ?_;try dsimp only at hhs
   conv=>whnf
   refine Wgh.tk (za []) 10 ?_;conv=>whnf
   refine ⟨oo, ?_⟩;conv=>whnf
   refine Wgh.tk (za []) 11 ?_;conv=>whnf
   refine Wgh.on (za []) 14 [11, 10, 9] ⟨rx, ry, rx, ry, rx, rx, trivial⟩ ?_;conv=>whnf
   refine ⟨s23, ?_⟩;conv=>whnf
   refine Wgh.on (za []) 15 [] ⟨rx, ry, rx, trivial⟩ ?_;conv=>whnf
   refine ⟨s23, ?_⟩;conv=>whnf
   refine Wgh.dn (za []) trivial ?_;conv=>whnf
   refine mid b_x b_z _ (by dsimp only; omega) ?_;exact cvr

open Go Go.RowKit Go.Proofs Poly Hull

theorem ziI (p : Int) [SP p] (g : Option Nat) (F : Poly p) (hm : kO p F.l) (h1 : 1 <= dg F) : FnV 160 [.int .i64 p, .ints g F.l] (.tup [.bool (decide (dg (gcd F (der F)) = 1)), .int .i64 0]) := by
 have h9 : dg F <= 9 := hm.2.1
 have hd : dg (der F) <= 9 := by
  have := kG (f := F) (λe => by rw [e, zt] at h1; omega);omega
 have h1' : 1 <= F.l.length := h1;refine zf (za [0, 1, 4, 5, 9]) Tryz.func160 rfl (by decide) Tryz.ntmps160 (lb rfl) λbase => ?_;refine wrs λK hK => ?_;conv=>whnf
 refine hK _ (W.seqK λK1 hK1 => wrs λK hK => ?_);conv=>whnf
 refine zc rfl (zko g p F.l (by have : F.l.length <= 9 := h9; omega)) λhs' hhs => ?_;try dsimp only at hhs
 conv=>whnf
 refine hK _ (W.cond ⟨λh => ?_, λh => ?_⟩) <;> clear hK
 ·rw [yl hm] at h; cases h
 refine W.skip (hK1 _ ?_);clear hK1;refine wrs λK hK => ?_;conv=>whnf
 refine ⟨λh2 => ?_, λh2 => ?_⟩ <;> conv=>whnf
 ·refine zv rfl (jJ p g F (by omega)) λhs_1 b_1 hh_1 hf_1 => ?_;try dsimp only at hh_1 hf_1
  conv=>whnf
  refine zv rfl (j4 p g _ F (der F) (by omega) (by omega)) λhs_2 b_2 hh_2 hf_2 => ?_;try dsimp only at hh_2 hf_2
  conv=>whnf
  refine hK _ (W.ret ?_);conv=>whnf
  exact ⟨.v (.bool (decide (dg (gcd F (der F)) = 1))), (by show decide _ = decide _; exact decide_eq_decide.2 (by show ((gcd F (der F)).l.length : Int) = 1 ↔ (gcd F (der F)).l.length = 1; omega)), trivial, .v (.int .i64 0), ⟨rfl, rfl⟩, trivial, rfl⟩
 ·exact absurd (of_decide_eq_false h2) (by omega)

def zbT (p : Int) [SP p] (R : Nat -> Poly p) (n : Nat) : Prop := ∀ i, i < n -> dg (gcd (R i) (der (R i))) = 1

theorem zf1 (p : Int) [SP p] (hp : 2 <= p ∧ p <= 97) (g : Option Nat) (l : List Int) (T : List (Int × Int × Int)) (hT : T.length <= 100) (hslo : FnV 104 [.int .i64 p, .ints g l] (vSs T)) (R : Nat -> Poly p) (hR : ∀ i, i < T.length -> dg (R i) <= 9 ∧ R i ≠ 0)
  (hres : ∀ i : Nat, i < T.length -> FnI 105 [.int .i64 p, .ints g l, .int .i64 i] (R i).l) : FnV 97 [.int .i64 p, .ints g l] (.bool (bP (zbT p R T.length))) := by
 refine zf (za [0, 1, 4, 5, 6, 10, 11, 12, 26]) Tryz.func97 rfl (by decide) Tryz.ntmps97 (lb rfl) λbase => ?_;refine wrs λK hK => ?_;conv=>whnf
 refine hK _ (W.seqK λK1 hK1 => wrs λK hK => ?_);conv=>whnf
 refine zc rfl (hslo) λhs' hhs => ?_;try dsimp only at hhs
 conv=>whnf
 refine hK _ (W.block (W.invA (λm e => ∃ i : Nat, i <= T.length ∧ zbT p R i ∧ m = T.length - i ∧ e = [(0, .v (.int .i64 p)), (1, .v (.ints g l)), (10, .v (.int .i64 T.length)), (11, .v (.int .i64 i))]) ⟨0, Nat.zero_le _, λj hj => absurd hj (Nat.not_lt_zero j), rfl, rfl⟩ ?_));clear hK;rintro m e ⟨i, h1, h2, hm, rfl⟩;refine wrs λK hK => ?_;conv=>whnf
 refine hK _ ?_;clear hK;refine W.seqK λK7 hK7 => W.cond ⟨λh3 => ?_, λh3 => ?_⟩ <;> (first | replace h3 := of_decide_eq_true h3 | replace h3 := of_decide_eq_false h3)
 ·have hi : i < T.length := by omega
  obtain ⟨h9, h0⟩ := hR i hi;have hd := kG h0;have hl9 : (R i).l.length <= 9 := h9;have e1 : ((R i).l.length : Int) = (dg (R i) : Nat) := rfl;refine W.skip (hK7 _ ?_);clear hK7;refine W.seqK λK8 hK8 => W.block ?_;refine wrs λK hK => ?_;conv=>whnf
  refine hK _ (wrs λK hK => ?_);conv=>whnf
  refine zv rfl (hres i hi) λhs_1 b_1 hh_1 hf_1 => ?_;try dsimp only at hh_1 hf_1
  conv=>whnf
  refine hK _ (wrs λK hK => ?_);conv=>whnf
  refine zc rfl (zaf _ (R i).l ((kM (R i)).le (by omega)) (by omega)) λhs' hhs => ?_;try dsimp only at hhs
  conv=>whnf
  refine zv rfl (zaa p (by omega) (by omega) _ (mkL ((R i).l.length - 1) (dv (cf (R i).l))) (znd (R i) (by omega)) (by rw [zT]; omega)) λhs_2 b_2 hh_2 hf_2 => ?_;try dsimp only at hh_2 hf_2
  conv=>whnf
  rw [zlJ];refine zv rfl (zbQ p _ _ (R i) (der (R i)) (by omega) (by omega)) λhs_3 b_3 hh_3 hf_3 => ?_;try dsimp only at hh_3 hf_3
  conv=>whnf
  refine hK _ (W.cond ⟨λh4 => ?_, λh4 => ?_⟩) <;> clear hK
  ·have h4 := of_decide_eq_true h4;have h5 : ¬ dg (gcd (R i) (der (R i))) = 1 := λh5 => h4 (by show ((gcd (R i) (der (R i))).l.length : Int) = 1; have h6 : (gcd (R i) (der (R i))).l.length = 1 := h5; omega);refine wrs λK hK => ?_;conv=>whnf
   refine hK _ (W.ret ?_);conv=>whnf
   exact ⟨.v (.bool (bP (zbT p R T.length))), zJ λhh => h5 (hh i hi), trivial, rfl⟩
  ·have h4 := of_decide_eq_false h4
   have h5 : dg (gcd (R i) (der (R i))) = 1 := by
    have h6 : ((gcd (R i) (der (R i))).l.length : Int) = 1 := Classical.byContradiction λh' => h4 h';show (gcd (R i) (der (R i))).l.length = 1
    omega
   refine W.skip (hK8 _ ?_);clear hK8;refine wrg ?_;conv=>whnf
   refine ⟨oo, ?_⟩;conv=>whnf
   exact ze ⟨i + 1, by omega, λj hj => by by_cases hji : j = i; (subst hji; exact h5); exact h2 j (by omega), rfl, rfl⟩
 ·obtain rfl : i = T.length := by omega
  refine W.exit (hK1 _ ?_);clear hK7 hK1;refine wrs λK hK => ?_;conv=>whnf
  refine hK _ (W.ret ?_);conv=>whnf
  exact ⟨.v (.bool (bP (zbT p R T.length))), yl h2, trivial, rfl⟩

theorem zem (p : Int) [SP p] (g : Option Nat) (l : List Int) (T : List (Int × Int × Int)) (hT : T.length <= 100) (hslo : FnV 107 [.int .i64 p, .ints g l] (vSs T)) (R : Nat -> Poly p) (hR : ∀ i, i < T.length -> kO p (R i).l ∧ R i ≠ 0)
  (hres : ∀ i : Nat, i < T.length -> FnI 108 [.int .i64 p, .ints g l, .int .i64 i] (R i).l) : FnV 99 [.int .i64 p, .ints g l] (.bool (bP (zbT p R T.length))) := by
 refine zf (za [0, 1, 4, 5, 6, 7, 15, 28]) Tryz.func99 rfl (by decide) Tryz.ntmps99 (lb rfl) λbase => ?_;refine wrs λK hK => ?_;conv=>whnf
 refine hK _ (wrs λK hK => ?_);conv=>whnf
 refine zc rfl (hslo) λhs' hhs => ?_;try dsimp only at hhs
 conv=>whnf
 refine hK _ (W.seqK λK1 hK1 => wrs λK hK => ?_);conv=>whnf
 refine hK _ (W.block (W.invA (λm e => ∃ i : Nat, i <= T.length ∧ zbT p R i ∧ m = T.length - i ∧ e = [(0, .v (.int .i64 p)), (1, .v (.ints g l)), (5, .v (.int .i64 T.length)), (6, .v (.int .i64 i))]) ⟨0, Nat.zero_le _, λj hj => absurd hj (Nat.not_lt_zero j), rfl, rfl⟩ ?_));clear hK;rintro m e ⟨i, h1, h2, hm, rfl⟩;refine W.seqK λK7 hK7 => wrs λK hK => ?_;conv=>whnf
 refine hK _ (W.cond ⟨λh3 => ?_, λh3 => ?_⟩) <;> clear hK <;> (first | replace h3 := of_decide_eq_true h3 | replace h3 := of_decide_eq_false h3)
 ·have hi : i < T.length := by omega
  obtain ⟨hmd, h0⟩ := hR i hi
  have hd : 1 <= dg (R i) := by
   rcases Nat.eq_zero_or_pos (dg (R i)) with h | h
   ·exact absurd (zd.1 h) h0
   ·exact h
  refine W.skip (hK7 _ ?_);clear hK7;refine W.seqK λK8 hK8 => W.block ?_;refine wrs λK hK => ?_;conv=>whnf
  refine zv rfl (hres i hi) λhs_1 b_1 hh_1 hf_1 => ?_;try dsimp only at hh_1 hf_1
  conv=>whnf
  refine zc rfl (ziI p _ (R i) hmd hd) λhs' hhs => ?_;try dsimp only at hhs
  conv=>whnf
  refine hK _ (wrs λK hK => ?_);conv=>whnf
  refine hK _ (W.cond ⟨λh4 => ?_, λh4 => ?_⟩) <;> clear hK
  ·have h4 : ¬ dg (gcd (R i) (der (R i))) = 1 := zcF h4;refine wrs λK hK => ?_;conv=>whnf
   refine hK _ (W.ret ?_);conv=>whnf
   exact ⟨.v (.bool (bP (zbT p R T.length))), zJ λhh => h4 (hh i hi), trivial, rfl⟩
  ·have h4 : dg (gcd (R i) (der (R i))) = 1 := zbi h4;refine W.skip (hK8 _ ?_);clear hK8;refine wrg ?_;conv=>whnf
   refine ⟨oo, ?_⟩;conv=>whnf
   exact ze ⟨i + 1, by omega, λj hj => by by_cases hji : j = i; (subst hji; exact h4); exact h2 j (by omega), rfl, rfl⟩
 ·obtain rfl : i = T.length := by omega
  refine W.exit (hK1 _ ?_);clear hK7 hK1;refine wrs λK hK => ?_;conv=>whnf
  refine hK _ (W.ret ?_);conv=>whnf
  exact ⟨.v (.bool (bP (zbT p R T.length))), yl h2, trivial, rfl⟩

open Go Go.RowKit Go.Proofs Poly

theorem zmb (a b : Nat) (ha : a <= 1000) (hb : b <= 1000000) : FnV 229 [.int .u64 a, .int .u64 b] (.tup [.int .u64 0, .int .u64 (a * b : Nat)]) := by
 have hab : a * b <= 1000 * 1000000 := Nat.mul_le_mul ha hb;have p32 : (2 : Int) ^ Int.toNat 32 = 4294967296 := rfl;have ea : (a : Int) % (4294967295 + 1) = a := by omega
 have eb : (b : Int) % (4294967295 + 1) = b := by omega
 have da : (a : Int) / 2 ^ Int.toNat 32 = 0 := by rw [p32]; omega
 have db : (b : Int) / 2 ^ Int.toNat 32 = 0 := by rw [p32]; omega
 have em : (a : Int) * b % 18446744073709551616 = ((a * b : Nat) : Int) := by rw [<- Int.natCast_mul]; omega
 have dm : ((a * b : Nat) : Int) / 2 ^ Int.toNat 32 = 0 := by rw [p32]; omega
 refine zf (za [0, 1, 4, 5, 6, 7, 8, 9, 10, 11, 12, 13]) Tryz.func229 rfl (by decide) Tryz.ntmps229 (lb rfl) λbase => ?_;refine wrs λK hK => ?_;conv=>whnf
 refine hK _ (wrs λK hK => ?_);conv=>whnf
 refine ⟨⟨⟨by omega, by omega⟩, .inl rfl⟩, ?_⟩;conv=>whnf
 rw [ea];refine hK _ (wrs λK hK => ?_);conv=>whnf
 refine ⟨⟨by omega, by decide, by decide⟩, ?_⟩;conv=>whnf
 rw [da];refine hK _ (wrs λK hK => ?_);conv=>whnf
 refine ⟨⟨⟨by omega, by omega⟩, .inl rfl⟩, ?_⟩;conv=>whnf
 rw [eb];refine hK _ (wrs λK hK => ?_);conv=>whnf
 refine ⟨⟨by omega, by decide, by decide⟩, ?_⟩;conv=>whnf
 rw [db];refine hK _ (wrs λK hK => ?_);conv=>whnf
 rw [em];refine hK _ (wrs λK hK => ?_);conv=>whnf
 refine ⟨⟨by omega, by decide, by decide⟩, ?_⟩;conv=>whnf
 rw [dm, show ((0 : Int) * b % 18446744073709551616 + 0) % 18446744073709551616 = 0 by omega];refine hK _ (wrs λK hK => ?_);conv=>whnf
 refine ⟨⟨⟨by decide, by decide⟩, .inl rfl⟩, ?_⟩;conv=>whnf
 rw [show (0 : Int) % (4294967295 + 1) = 0 by decide];refine hK _ (wrs λK hK => ?_);conv=>whnf
 refine ⟨⟨by decide, by decide, by decide⟩, ?_⟩;conv=>whnf
 rw [show (0 : Int) / 2 ^ Int.toNat 32 = 0 from rfl];refine hK _ (wrs λK hK => ?_);conv=>whnf
 rw [show ((0 : Int) + (a : Int) * 0 % 18446744073709551616) % 18446744073709551616 = 0 by omega];refine hK _ (wrs λK hK => ?_);conv=>whnf
 refine ⟨⟨by decide, by decide, by decide⟩, ?_⟩;conv=>whnf
 rw [show (0 : Int) / 2 ^ Int.toNat 32 = 0 from rfl, show (((0 : Int) * 0 % 18446744073709551616 + 0) % 18446744073709551616 + 0) % 18446744073709551616 = 0 by decide];refine hK _ (wrs λK hK => ?_);conv=>whnf
 rw [em];refine hK _ (W.ret ?_);conv=>whnf
 exact ⟨.v (.int .u64 0), ⟨rfl, rfl⟩, trivial, .v (.int .u64 (a * b : Nat)), ⟨rfl, rfl⟩, trivial, rfl⟩

theorem znz (a b : Nat) (ha : a <= 1000) (hb : b <= 1000000) : FnV 212 [.int .u64 a, .int .u64 b] (.tup [.int .u64 0, .int .u64 (a * b : Nat)]) := by
 refine zf (za [0, 1, 4, 5, 6, 7, 8, 9]) Tryz.func212 rfl (by decide) Tryz.ntmps212 (lb rfl) λbase => ?_;refine wrs λK hK => ?_;conv=>whnf
 refine hK _ ?_;clear hK;refine W.seqK λK1 hK1 => ?_;refine W.cond (W.skip (cx := cx []) (hK1 _ ?_));clear hK1;refine wrs λK hK => ?_;conv=>whnf
 refine zc rfl (zmb a b ha hb) λhs' hhs => ?_;try dsimp only at hhs
 conv=>whnf
 refine hK _ (wrs λK hK => ?_);conv=>whnf
 refine hK _ (W.ret ?_);conv=>whnf
 exact ⟨.v (.int .u64 0), ⟨rfl, rfl⟩, trivial, .v (.int .u64 (a * b : Nat)), ⟨rfl, rfl⟩, trivial, rfl⟩

def xY (c : Int) (n k : Nat) : List Int := List.replicate k c ++ List.replicate (n - k) 0
theorem zbl {c : Int} {n k : Nat} (h : k <= n) : (xY c n k).length = n := by simp [xY]; omega
theorem zkq (c : Int) (n : Nat) : xY c n n = List.replicate n c := by simp [xY]
theorem ziJ (c : Int) (n : Nat) : List.replicate n 0 = xY c n 0 := by simp [xY]

theorem zhA (c : Int) {n : Nat} (h : 1 <= n) : zd6 (xY c n 0) 0 n [c] = xY c n 1 := by
 unfold zd6 xY;have h1 : min n ([c] : List Int).length = 1 := by simp; omega
 have h2 : ([c] : List Int).take n = [c] := List.take_of_length_le (by simpa using h);rw [h1, h2];simp
theorem zkr {c : Int} {n k : Nat} (_ : k <= n) : ((xY c n k).drop 0).take k = List.replicate k c := by simp [xY]
theorem ziK {c : Int} {n k : Nat} (h : k <= n) : zd6 (xY c n k) k (n - k) (List.replicate k c) = xY c n (min n (k + k)) := by
 unfold zd6 xY;rw [List.length_replicate, List.take_replicate];have e1 : (List.replicate k c ++ List.replicate (n - k) 0).take k = List.replicate k c := by simp
 have e2 : (List.replicate k c ++ List.replicate (n - k) (0 : Int)).drop (k + min (n - k) k) = List.replicate (n - min n (k + k)) 0 := by
  rw [List.drop_append]; simp; omega
 rw [e1, e2, List.replicate_append_replicate]
 congr 2
 omega

def R1r (l : List Int) : zbY := λ_ _ x tb => ∃ b : Nat, x = .rf b l.length ∧ (l ≠ [] -> tb b = some l)

theorem zmc (g : Option Nat) (c : Int) (n : Nat) (hn : 1 <= n) (hn2 : n <= 1000000) : FnT Tryz.prog 176 [.ints g [c], .int .i64 n] (R1r (List.replicate n c)) := by
 have e1 : ([c] : List Int).length = 1 := rfl;refine zk5 (zfL [] [0, 1, 4, 5, 6, 7, 8, 10, 26, 37, 1000000]) Tryz.func176 rfl (by decide) Tryz.ntmps176 (lb rfl) (λbase => ?_) (lb rfl);refine W.sw (c' := cx [0, 1, 4, 5, 6, 7, 8, 10, 26, 37, 1000000]) ?_;refine wrs λK hK => ?_;conv=>whnf
 refine hK _ (W.seqK λK1 hK1 => wrs λK hK => ?_);conv=>whnf
 refine hK _ (W.cond ⟨λh => absurd (of_decide_eq_true h) (by omega), λ_ => W.skip (hK1 _ ?_)⟩);clear hK hK1;refine wrs λK hK => ?_;conv=>whnf
 rw [e1];refine ⟨⟨by decide, by decide, by decide⟩, ?_⟩;conv=>whnf
 refine ⟨⟨by omega, by omega, by omega⟩, ?_⟩;conv=>whnf
 refine zc rfl (znz 1 n (by omega) hn2) λhs' hhs => ?_;try dsimp only at hhs
 conv=>whnf
 rw [Nat.one_mul];refine hK _ (W.seqK λK1 hK1 => wrs λK hK => ?_);conv=>whnf
 refine ⟨λh => ?_, λh => ?_⟩ <;> conv=>whnf
 ·exact absurd (of_decide_eq_true h) (by decide)
 refine hK _ (W.cond ⟨λh => absurd (of_decide_eq_true h) (by omega), λ_ => W.skip (hK1 _ ?_)⟩);clear hK hK1;refine wrs λK hK => ?_;conv=>whnf
 refine ⟨⟨by omega, by omega, by omega⟩, ?_⟩;conv=>whnf
 refine ⟨rfl, ?_⟩;conv=>whnf
 refine ⟨oo, ?_⟩;conv=>whnf
 rw [Int.toNat_natCast];intro b_2 hs_2 hh_2 hf_2;try dsimp only at hh_2 hf_2
 conv=>whnf
 refine hK _ ?_;clear hK;refine W.give 7 λK hK => ?_;conv=>whnf
 refine hK _ ?_;clear hK;rw [List.length_replicate];have hne : List.replicate n (0 : Int) ≠ [] := λe => by have := congrArg List.length e; simp at this; omega
 have htb0 := zdX (λ_ => none) b_2 (xs := List.replicate n (0 : Int)) hne;rw [ziJ c n] at htb0;refine wrs λK hK => ?_;conv=>whnf
 refine ⟨by omega, ?_⟩;conv=>whnf
 refine ⟨by simp, ?_⟩;conv=>whnf
 refine ⟨_, htb0, by rw [zbl (by omega)]; omega, ?_⟩;conv=>whnf
 rw [e1, zhA c hn, show min n 1 = 1 by omega];refine hK _ ?_;clear hK;refine W.seqK λK1 hK1 => W.block (W.invA (λm e => ∃ (k : Nat) (tb : Tab), 1 <= k ∧ k <= n ∧ tb b_2 = some (xY c n k) ∧ m = n - k ∧ e = [(vt, .tab tb), (7, .v (.rf b_2 n)), (8, .v (.int .i64 k))]) ⟨1, _, Nat.le_refl _, hn, yf _ _ _, rfl, rfl⟩ ?_);rintro m e ⟨k, tb, hk1, hk2, htb, hm, rfl⟩;have hfl : (xY c n k).length = n := zbl hk2;refine W.seqK λK7 hK7 => wrs λK hK => ?_;conv=>whnf
 refine hK _ (W.cond ⟨λh => ?_, λh => ?_⟩) <;> clear hK <;> (first | replace h := of_decide_eq_true h | replace h := of_decide_eq_false h)
 ·refine W.skip (hK7 _ (W.block ?_));clear hK7;refine W.sch follows ?_;refine wt 0 ?_;conv=>whnf
  refine wt 1 ?_;conv=>whnf
  refine wt 2 ?_;conv=>whnf
  refine wt 3 ?_;conv=>whnf
  refine ⟨⟨by omega, by omega, by omega⟩, ?_⟩;conv=>whnf
  rw [Int.toNat_natCast, Int.toNat_natCast];refine wt 4 ?_;conv=>whnf
  refine wt 5 ?_;conv=>whnf
  refine wt 6 ?_;conv=>whnf
  refine ⟨⟨by decide, by omega, by omega⟩, ?_⟩;conv=>whnf
  rw [Int.toNat_natCast, show Int.toNat 0 = 0 from rfl, Nat.sub_zero];refine w1 7 ?_;conv=>whnf
  refine ⟨_, htb, by rw [hfl]; omega, ?_⟩;conv=>whnf
  refine ⟨_, htb, by rw [hfl]; omega, ?_⟩;rw [zkr hk2, ziK hk2, List.length_replicate];conv=>whnf
  refine w1 8 ?_;conv=>whnf
  refine ⟨oo, ?_⟩;conv=>whnf
  refine w1 9 ?_;conv=>whnf
  refine Wany.done (by kernel_rfl) ?_;conv=>whnf
  refine ⟨_, _, ⟨min n (k + k), yb tb b_2 (xY c n (min n (k + k))), by omega, by omega, yf _ _ _, rfl, rfl⟩, by omega, by dsimp only; omega, ?_⟩
  repeat' first | refine And.intro ?_ ?_ | exact trivial | rfl | omega | exact λ_ _ h => h
-- 1 ways
 ·obtain rfl : k = n := by omega
  refine W.exit (hK1 _ ?_);clear hK7 hK1;rw [zkq] at htb;refine wrs λK hK => ?_;conv=>whnf
  refine hK _ (W.ret ?_);conv=>whnf
  refine ⟨.v (.rf b_2 k), rfl, trivial, b_2, by rw [List.length_replicate], λ_ => htb⟩

theorem zks (g : Option Nat) (c : Int) (n : Nat) (hn : 1 <= n) (hn2 : n <= 1000000) : FnV 176 [.ints g [c], .int .i64 n] (.ints none (List.replicate n c)) :=
 (zmc g c n hn hn2).toV λ_ _ _ _ ⟨_, hx, hb⟩ => by subst hx; exact ⟨List.replicate n c, rfl, hb, rfl⟩

/- degrees -/
theorem zkt {α : Type} (n : Nat) (a : α) : List.replicate n a ++ [a] = List.replicate (n + 1) a := by
 rw [List.replicate_succ']
def zN {p : Int} [SP p] (F : List (Poly p × Nat)) : Nat -> List Int
 | 0 => []
 | k + 1 => zN F k ++ List.replicate (F.getD k (0, 0)).2 (((F.getD k (0, 0)).1.l.length : Int) - 1)
theorem zd0 {p : Int} [SP p] {F : List (Poly p × Nat)} (h : ∀ j, j < F.length -> (F.getD j (0, 0)).2 <= 13) : ∀ k, k <= F.length -> (zN F k).length <= 13 * k
 | 0, _ => Nat.le_refl _
 | k + 1, hk => by
  have h1 := zd0 h k (by omega);have h2 := h k (by omega);rw [zN, List.length_append, List.length_replicate]; omega
theorem _root_.Go.Proofs.YtffhmebkkbfaeaaGreat.Poly.FacOf.fac {p : Int} [SP p] {f : Poly p} {F : List (Poly p × Nat)} (h : FacOf f F) (hf0 : f ≠ 0) (hf : dg f <= 13) : ∀ j, j < F.length -> dg (F.getD j (0, 0)).1 <= 13 ∧ 2 <= dg (F.getD j (0, 0)).1 ∧ 1 <= (F.getD j (0, 0)).2 ∧ (F.getD j (0, 0)).2 <= 13 := λj hj => by
 obtain ⟨h3, _, h1, h2⟩ := (h.2 (F.getD j (0, 0))).1 (by rw [yR hj]; exact List.getElem_mem hj);have h4 := zD (h2.dvd h1) hf0;have h5 := kH h3.1 (F.getD j (0, 0)).2;obtain ⟨u, hu, _⟩ := h2;have h6 := zD (⟨u, hu⟩ : (F.getD j (0, 0)).1 ^ (F.getD j (0, 0)).2 ∣ f) hf0;exact ⟨by omega, h3.1, h1, by omega⟩

theorem zhB (p : Int) [SP p] (g : Option Nat) (f : Poly p) (F : List (Poly p × Nat)) (hF : FacOf f F) (hf0 : f ≠ 0) (h9 : dg f <= 13) : FnT Tryz.prog 119 [.int .i64 p, .ints g f.l] (R1r (zN F F.length)) := by
 have hfl : f.l.length = dg f := rfl;have hFs := hF.fac hf0 h9;have hFl := hF.facs.few hf0;have hdl := zd0 (λj hj => (hFs j hj).2.2.2);refine zk5 (zfL [] [0, 1, 4, 5, 7, 10, 11, 12, 13, 1000000]) Tryz.func119 rfl (by decide) Tryz.ntmps119 (lb rfl) (λbase => ?_) (lb rfl);refine W.sw (c' := cx [0, 1, 4, 5, 7, 10, 11, 12, 13, 1000000]) ?_;refine wrs λK hK => ?_;conv=>whnf
 refine hK _ (wrs λK hK => ?_);conv=>whnf
 refine hK _ (W.seqK λK1 hK1 => wrs λK hK => ?_);conv=>whnf
 refine yT rfl (zbg p _ g f (Nat.le_refl _) (by omega) hf0) ?_;rintro lo hi hi' z hl1 hl2 hl3 ⟨F', hF', rfl⟩ _;obtain rfl := hF.unique hF';try dsimp only at hl1 hl2
 conv=>whnf
 refine hK _ (W.block (W.invA (λm e => ∃ (k b : Nat) (o : List Int), k <= F.length ∧ o = zN F k ∧ m = F.length - k ∧ e = [(vt, .tab λ_ => none), (5, .ownI 2 b o), (10, .v (vFs F)), (11, .v (.int .i64 F.length)), (12, .v (.int .i64 k))]) ⟨0, 0, [], Nat.zero_le _, rfl, rfl, rfl⟩ ?_));clear hK;rintro m e ⟨k, b, o, hk, rfl, hm, rfl⟩;refine wrs λK hK => ?_;conv=>whnf
 refine hK _ ?_;clear hK;refine W.seqK λK7 hK7 => W.cond ⟨λh3 => ?_, λh3 => ?_⟩ <;> (first | replace h3 := of_decide_eq_true h3 | replace h3 := of_decide_eq_false h3)
 ·obtain ⟨hx1, hx2, hx3, hx4⟩ := hFs k (by omega);have hol := hdl k (by omega);have hxl : (F.getD k (0, 0)).1.l.length = dg (F.getD k (0, 0)).1 := rfl;refine W.skip (hK7 _ ?_);clear hK7;refine W.seqK λK8 hK8 => W.block ?_;refine wrs λK hK => ?_;conv=>whnf
  refine ⟨oo, ?_⟩;conv=>whnf
  rw [Int.toNat_natCast];intro b_2 hs_2 hh_2 hf_2;try dsimp only at hh_2 hf_2
  conv=>whnf
  refine ⟨s23, ?_⟩;conv=>whnf
  refine hK _ ?_;clear hK;refine W.drawS 8 (za _) follows (by rfl) ?_;conv=>whnf
  refine ⟨_, cxF (zkn none _ (by omega)), ?_⟩;conv=>whnf
  refine ⟨⟨rfl, by decide⟩, ?_⟩;conv=>whnf
  refine ⟨_, cxF (zks none _ _ hx3 (by omega)), ?_⟩;conv=>whnf
  refine ⟨by rw [List.length_replicate]; omega, ?_⟩;conv=>whnf
  intro b_6 hs_6 hh_6 hf_6;try dsimp only at hh_6 hf_6
  conv=>whnf
  refine hK8 _ ?_;clear hK8;refine wrg ?_;conv=>whnf
  refine ⟨oo, ?_⟩;conv=>whnf
  exact ze ⟨k + 1, b_6, _, by omega, rfl, rfl, rfl⟩
 ·obtain rfl : k = F.length := by omega
  refine W.exit (hK1 _ ?_);clear hK7 hK1;refine W.sw (c' := cxt [] [0, 1, 4, 5, 7, 10, 11, 12, 13, 1000000]) ?_;refine W.rs (zfL _ _) (by rfl) λK hK => ?_;conv=>whnf
  refine hK _ (W.ret ?_);conv=>whnf
  exact ⟨.v (.rf b (zN F F.length).length), rfl, trivial, b, rfl, λh => zdX _ _ h⟩
theorem zf2 (p : Int) [SP p] (g : Option Nat) (f : Poly p) (F : List (Poly p × Nat)) (hF : FacOf f F) (hf0 : f ≠ 0) (h9 : dg f <= 13) : FnV 119 [.int .i64 p, .ints g f.l] (.ints none (zN F F.length)) :=
 (zhB p g f F hF hf0 h9).toV λ_ _ _ _ ⟨_, hx, hb⟩ => by subst hx; exact ⟨zN F F.length, rfl, hb, rfl⟩

theorem zai (p : Int) [SP p] (g : Option Nat) (f : Poly p) (F : List (Poly p × Nat)) (hF : FacOf f F) (hf0 : f ≠ 0) (h9 : dg f <= 13) : FnV 173 [.int .i64 p, .ints g f.l] (.ints none (zN F F.length)) := by
 have hfl : f.l.length = dg f := rfl;have hFs := hF.fac hf0 h9;have hFl := hF.facs.few hf0;have hdl := zd0 (λj hj => (hFs j hj).2.2.2);refine zf (za [0, 1, 4, 5, 6, 7, 8, 16, 25]) Tryz.func173 rfl (by decide) Tryz.ntmps173 (lb rfl) λbase => ?_;refine wrs λK hK => ?_;conv=>whnf
 refine hK _ (wrs λK hK => ?_);conv=>whnf
 refine ⟨⟨rfl, by decide⟩, ?_⟩;conv=>whnf
 intro b_1 hs_1 hh_1 hf_1;try dsimp only at hh_1 hf_1
 conv=>whnf
 refine hK _ (wrs λK hK => ?_);conv=>whnf
 refine yT rfl (zkl p g f (by omega) hf0) ?_;rintro lo hi hi' z hl1 hl2 hl3 ⟨F', hF', rfl⟩ _;obtain rfl := hF.unique hF';try dsimp only at hl1 hl2
 conv=>whnf
 refine hK _ (W.seqK λK1 hK1 => wrs λK hK => ?_);conv=>whnf
 refine hK _ (W.block (W.invA (λm e => ∃ (k b : Nat) (o : List Int), k <= F.length ∧ o = zN F k ∧ m = F.length - k ∧ e = [(5, .ownI 2 b o), (6, .v (vFs F)), (7, .v (.int .i64 k))]) ⟨0, b_1, [], Nat.zero_le _, rfl, rfl, rfl⟩ ?_));clear hK;rintro m e ⟨k, b, o, hk, rfl, hm, rfl⟩;refine W.seqK λK7 hK7 => wrs λK hK => ?_;conv=>whnf
 refine hK _ (W.cond ⟨λh3 => ?_, λh3 => ?_⟩) <;> clear hK <;> (first | replace h3 := of_decide_eq_true h3 | replace h3 := of_decide_eq_false h3)
 ·obtain ⟨hx1, hx2, hx3, hx4⟩ := hFs k (by omega);have hol := hdl k (by omega);have hxl : (F.getD k (0, 0)).1.l.length = dg (F.getD k (0, 0)).1 := rfl;refine W.skip (hK7 _ ?_);clear hK7;refine W.seqK λK8 hK8 => W.block ?_;refine wrs λK hK => ?_;conv=>whnf
  refine hK _ (W.block (W.invE (λm e => ∃ (j b : Nat) (o : List Int), j <= (F.getD k (0, 0)).2 ∧ o = zN F k ++ List.replicate j (((F.getD k (0, 0)).1.l.length : Int) - 1) ∧ m = (F.getD k (0, 0)).2 - j ∧ e = [(5, .ownI 2 b o), (6, .v (vFs F)), (7, .v (.int .i64 k)), (8, .v (.int .i64 j))]) _ _ ⟨0, b, zN F k, Nat.zero_le _, by simp, rfl, rfl⟩ (by dsimp only; omega) (by repeat' first | refine And.intro ?_ ?_ | exact trivial | rfl | omega | exact λ_ _ => rfl) ?_));clear hK b;rintro m' e ⟨j, b, o, hj, rfl, hm', rfl⟩;refine W.seqK λK7 hK7 => wrs λK hK => ?_;conv=>whnf
  refine ⟨oo, ?_⟩;conv=>whnf
  rw [Int.toNat_natCast];refine hK _ (W.cond ⟨λh => ?_, λh => ?_⟩) <;> clear hK
  ·have h : (j : Int) < ((F.getD k (0, 0)).2 : Nat) := of_decide_eq_true h;refine W.skip (hK7 _ ?_);clear hK7;refine W.seqK λK6 hK6 => W.block ?_;refine wrg ?_;conv=>whnf
   refine ⟨oo, ?_⟩;conv=>whnf
   rw [Int.toNat_natCast];refine ⟨oo, ?_⟩;conv=>whnf
   refine ⟨⟨rfl, by decide⟩, ?_⟩;conv=>whnf
   intro b_2 hs_2 hh_2 hf_2;try dsimp only at hh_2 hf_2
   conv=>whnf
   refine ⟨by simp; omega, ?_⟩;conv=>whnf
   intro b_3 hs_3 hh_3 hf_3;try dsimp only at hh_3 hf_3
   conv=>whnf
   refine hK6 _ ?_;clear hK6;refine wrg ?_;conv=>whnf
   refine ⟨oo, ?_⟩;conv=>whnf
   exact ze ⟨j + 1, b_3, _, by omega, by rw [<- zkt, <- List.append_assoc], rfl, rfl⟩
  ·have h : ¬ (j : Int) < ((F.getD k (0, 0)).2 : Nat) := of_decide_eq_false h;obtain rfl : j = (F.getD k (0, 0)).2 := by omega
   refine W.exit (hK8 _ ?_);clear hK7 hK8;refine wrg ?_;conv=>whnf
   refine ⟨oo, ?_⟩;conv=>whnf
   exact ze ⟨k + 1, b, _, by omega, rfl, rfl, rfl⟩
 ·obtain rfl : k = F.length := by omega
  refine W.exit (hK1 _ ?_);clear hK7 hK1;refine wrs λK hK => ?_;conv=>whnf
  refine hK _ (W.ret ?_);conv=>whnf
  exact ⟨.v (.ints none (zN F F.length)), ⟨rfl, rfl⟩, trivial, rfl⟩


theorem zmd (n : Nat) (a : Int) : (List.replicate n a).sum = n * a := by
 induction n with
 | zero => simp
 | succ n ih => rw [List.replicate_succ, List.sum_cons, ih, Int.natCast_add, Int.add_mul]; omega
theorem zhC {p : Int} [SP p] {f : Poly p} {F : List (Poly p × Nat)} (h : FacOf f F) : ∀ k, k <= F.length -> (zN F k).sum = (dg (zbN F k) : Int) - 1
 | 0, _ => by rw [zN, zbN, xh]; rfl
 | k + 1, hk => by
  have h1 := zhC h k (by omega);have h2 := (h.at (j := k) (by omega)).1;have h3 := yA (zbd h k (by omega)).1 (zfJ h2.ne (F.getD k (0, 0)).2);have h4 := zjl h2.ne (F.getD k (0, 0)).2;have h5 : (F.getD k (0, 0)).1.l.length = dg (F.getD k (0, 0)).1 := rfl;have h6 := h2.1;rw [zN, List.sum_append, h1, zmd, zbN, h5];obtain ⟨d, hd⟩ : ∃ d, dg (F.getD k (0, 0)).1 = d + 1 := ⟨dg (F.getD k (0, 0)).1 - 1, by omega⟩
  rw [hd] at h4 ⊢;rw [show d + 1 - 1 = d by omega] at h4;rw [h4] at h3;have h7 : (((F.getD k (0, 0)).2 * d : Nat) : Int) = ((F.getD k (0, 0)).2 : Int) * (d : Int) := Int.natCast_mul ..;rw [show (((d + 1 : Nat) : Int) - 1) = d by omega, <- h7];omega
theorem znA {p : Int} [SP p] {f : Poly p} {F : List (Poly p × Nat)} (h : FacOf f F) (hf : f ≠ 0) : dg f = dg (zbN F F.length) := by
 have h1 := zlT h hf;have h2 := (zbd h F.length (Nat.le_refl _)).1
 have hl : lc f % p ≠ 0 := by
  have := kL f (dg f - 1);have h3 : lc f % p = lc f := Int.emod_eq_of_lt this.1 this.2;rw [h3]; exact zna hf
 have h3 := yA (zdp hl) h2;rw [<- h1, zfv hl] at h3;omega


open Go Go.RowKit Go.Proofs Go.Lib

section
variable {P : Program}
theorem y9 (w : World) (dT sT ty elem : TypeId) (sz b o dLen dCap : Nat) (a : Addr) (sLen sCap : Nat) (cs : List Value)
  (hu : P.underlying dT = some (.slice elem)) (hs : (P.info? elem).map (·.size) = some sz) (hn : cs.length = Nat.min sLen dLen * sz)
  (hsrc : ∀ j v, cs[j]? = some v -> w.cell? (a.add j) = some v) (hc : ∀ j, j < cs.length -> (w.cell? ⟨b, o + j, none⟩).isSome = true) (hf : ∀ j, j < cs.length -> w.frozen? ⟨b, o + j, none⟩ = false) (h1 : ∀ v ∈ cs, v.oneCell' = true) :
  (Builtin.copy_ #[dT, sT] ty #[.slice (some ⟨b, o, none⟩) dLen dCap, .slice (some a) sLen sCap]).run P w = .ok (goInt (Nat.min sLen dLen)) (w.setCells b o cs) := by
 have hl := run_loadCells_list (P := P) w a cs hsrc;have hst := run_storeCells_cells (P := P) b o cs 0 w (by simpa using hc) (by simpa using hf) h1;cases hq : P.info? elem with
 | none => simp [hq] at hs
 | some i =>
  have hi : i.size = sz := by simpa [hq] using hs
  simp [Builtin.copy_, run_underlying hu, Builtin.lenOf, Builtin.firstCells, sizeOf, typeInfo, hq, hi, <- hn, hl, hst]

theorem zbU (w : World) (tS tR e : TypeId) (ht : P.underlying tS = some (.slice e)) (size : Nat) (hz : ∀ w, (Go.sizeOf e).run P w = .ok size w)
  (a b : Addr) (la ca lb cb : Nat) (hne : a.block ≠ b.block) (tA tB : TypeId) (kA kB : Nat)
  (hsa : w.shape? a.block = some (tA, kA)) (hsb : w.shape? b.block = some (tB, kB)) (hkA : kA ≠ 0)
  (hfb : w.frozen? b = false) (hfe : w.frozen? { block := b.block, off := kB } = false) :
  (Extern.SlicesOverlaps.overlaps #[tS, tS] #[tR] #[.slice (some a) la ca, .slice (some b) lb cb]).run P w = .ok (.bool false) w := by
 have hnb : (a.block != b.block) = true := by simpa using hne
 have hnb' : (a.block == b.block) = false := by simpa using hne
 change Sem.run P (α := Value) (do
  let some t := (#[tS, tS] : Array TypeId)[0]? | stuck "slices.overlaps: no parameter types"
  let .slice elem <- underlying t | stuck "slices.overlaps: slice type expected"
  let size <- sizeOf elem
  match (some a : Option Addr), (some b : Option Addr) with
  | some a, some b =>
   if la = 0 ∨ lb = 0 ∨ size = 0 then pure (Value.bool false)
   else if a.block != b.block && (<- frozen a) && (<- frozen b) then unsupported .addressObserved
   else do
    if a.block != b.block then do
     noView a; noView b
     if <- mayBeOne a b then return Value.bool ((<- choose (.extern "sameAddr.stringBytes" 2)) == 1)
    pure (Value.bool (a.block == b.block && a.off < b.off + lb * size && b.off < a.off + la * size))
  | _, _ => pure (Value.bool false)) w = _
 by_cases h0 : la = 0 ∨ lb = 0 ∨ size = 0
 ·simp [run_underlying ht, hz, h0]
 ·cases kA with
  | zero => exact absurd rfl hkA
  | succ kA =>
   cases hfa : w.frozen? a <;> simp [run_underlying ht, hz, h0, hnb, hnb', frozen, noView, viewAt, mayBeOne, stringish, shape, Sem.run, hsa, hsb, hfa, hfb, hfe]
   all_goals (cases hfk : w.frozen? { block := a.block, off := kA + 1 } <;> simp [hfk])
end

set_option maxHeartbeats 4000000 in
set_option maxRecDepth 100000 in
theorem zku (b n c i vb voff vc : Nat) (cs vs : List Value) (w : World) (hi : i < n) (hroom : n + 1 <= c) (hc63 : c <= 9223372036854775807) (hvb : vb ≠ b)
  (hcl : cs.length = n * 3) (hvl : vs.length = 3)
  (hcs : ∀ j v, cs[j]? = some v -> w.cell? ⟨b, j, none⟩ = some v) (hsp : ∀ j, j < (n + 1) * 3 -> (w.cell? ⟨b, j, none⟩).isSome = true) (hfz : ∀ j, w.frozen? ⟨b, j, none⟩ = false)
  (hvs : ∀ j v, vs[j]? = some v -> w.cell? ⟨vb, voff + j, none⟩ = some v) (h1c : ∀ v ∈ cs, v.oneCell' = true) (h1v : ∀ v ∈ vs, v.oneCell' = true)
  (tA tB : TypeId) (kA kB : Nat) (hsa : w.shape? vb = some (tA, kA)) (hsb : w.shape? b = some (tB, kB)) (hkA : kA ≠ 0) :
  Calls Tryz.prog 122 #[.slice (some ⟨b, 0, none⟩) n c, .int .i64 i, .slice (some ⟨vb, voff, none⟩) 1 vc] w λe w' =>
   e = .returned (.slice (some ⟨b, 0, none⟩) (n + 1) c) ∧ w' = (w.drew.setCells b ((i + 1) * 3) (cs.drop (i * 3))).setCells b (i * 3) vs := by
 have hT : Tryz.prog.underlying 23 = some (.slice 61) := Tryz.underlying23;have hsz : (Tryz.prog.info? 61).map (·.size) = some 3 := by kernel_rfl
 have hz1 : ¬ ((1 : Int) = 0) := by omega
 have hz2 : ¬ ((i : Int) = (n : Int)) := by omega
 have hszr : ∀ w, (Go.sizeOf 61).run Tryz.prog w = .ok 3 w := λw => by
  cases hq : Tryz.prog.info? 61 with
  | none => simp [hq] at hsz
  | some i0 =>
   have hi0 : i0.size = 3 := by simpa [hq] using hsz
   simp [Go.sizeOf, typeInfo, hq, hi0]
 have hov : ∀ lb cb, (callFunc 179 #[.slice (some ⟨vb, voff, none⟩) 1 vc, .slice (some ⟨b, (i + 1) * 3, none⟩) lb cb]).run Tryz.prog w = .ok (.value (.bool false)) w := λlb cb => by
  rw [run_callFunc_extern (e := Extern.SlicesOverlaps.overlaps #[23, 23] #[4]) Tryz.func179 (by kernel_rfl) (by kernel_rfl) (by kernel_rfl) (by kernel_rfl),
   zbU w _ _ _ hT 3 hszr ⟨vb, voff, none⟩ ⟨b, (i + 1) * 3, none⟩ 1 vc lb cb hvb tA tB kA kB hsa hsb hkA (hfz _) (hfz _)]
  rfl
 have hdl : (cs.drop (i * 3)).length = (n - i) * 3 := by rw [List.length_drop, hcl]; omega
 have mixed : Tryz.prog.follows .mixedOrders = true := by kernel_rfl
 have hw1 : IntKind.i64.wrap ((i : Int) + 1) = (i : Int) + 1 := by rw [IntKind.wrap_i64]; omega
 have hb1 : (0 : Int) <= (i : Int) + 1 := by omega
 have hin : i <= n := by omega
 have htn : ((i : Int) + 1).toNat = i + 1 := by omega
 have hb2 : ¬ (c = i + 1) := by omega
 have hb3 : (i : Int) <= (n : Int) + 1 := by omega
 have hb4 : ¬ (c = i) := by omega
 have hcp1 : ∀ ty dc sc, (Builtin.copy_ #[23, 23] ty #[.slice (some ⟨b, (i + 1) * 3, none⟩) (n + 1 - (i + 1)) dc, .slice (some ⟨b, i * 3, none⟩) (n + 1 - i) sc]).run Tryz.prog w.drew = .ok (goInt (Nat.min (n + 1 - i) (n + 1 - (i + 1)))) (w.drew.setCells b ((i + 1) * 3) (cs.drop (i * 3))) := λty dc sc =>
  y9 w.drew _ _ ty 61 3 b ((i + 1) * 3) (n + 1 - (i + 1)) dc ⟨b, i * 3, none⟩ (n + 1 - i) sc (cs.drop (i * 3)) hT hsz (by rw [hdl]; simp only [Nat.min_def]; split <;> omega)
   (λj v hj => by rw [Addr.add_lit]; exact hcs (i * 3 + j) v (by rwa [List.getElem?_drop] at hj))
   (λj hj => hsp _ (by omega)) (λj hj => hfz _) (λv hv => h1c v (List.mem_of_mem_drop hv))
 obtain ⟨W1, hW1⟩ : ∃ W1, W1 = w.drew.setCells b ((i + 1) * 3) (cs.drop (i * 3)) := ⟨_, rfl⟩
 have hsp1 : ∀ k, k < (n + 1) * 3 -> (W1.cell? ⟨b, k, none⟩).isSome = true := λk hk => by
  rw [hW1];exact isSome_setCells b (cs.drop (i * 3)) ((i + 1) * 3) w.drew (λj hj => hsp _ (by omega)) _ (hsp k hk)
 have hcp2 : ∀ (W : World), (∀ x, W.cell? x = W1.cell? x) -> (∀ x, W.frozen? x = W1.frozen? x) -> ∀ ty dc, (Builtin.copy_ #[23, 23] ty #[.slice (some ⟨b, i * 3, none⟩) (n + 1 - i) dc, .slice (some ⟨vb, voff, none⟩) 1 vc]).run Tryz.prog W = .ok (goInt (Nat.min 1 (n + 1 - i))) (W.setCells b (i * 3) vs) := λW hWc hWf ty dc =>
  y9 W _ _ ty 61 3 b (i * 3) (n + 1 - i) dc ⟨vb, voff, none⟩ 1 vc vs hT hsz (by rw [hvl]; simp only [Nat.min_def]; split <;> omega)
   (λj v hj => by
    rw [Addr.add_lit, hWc, hW1, World.cell?_setCells_out b _ _ _ _ (λh _ => absurd h hvb)];exact hvs j v hj)
   (λj hj => by rw [hWc]; exact hsp1 _ (by omega)) (λj hj => by rw [hWf, hW1, World.frozen?_setCells]; exact hfz _) h1v
 rw [<- hW1] at hcp1
 go_enter Tryz.func122, Tryz.ntmps122
 go_wp2_with (simp only [hov])
 go_region_law_o (refine step_copy_runI rfl _ _ 23 23 rfl (.slice (some ⟨b, (i + 1) * 3, none⟩) (n + 1 - (i + 1)) (c - (i + 1))) (.slice (some ⟨b, i * 3, none⟩) (n + 1 - i) (c - i)) (by simp [Act.eval, Act.put]) (by simp [Act.eval, Act.put]) (hcp1 3 (c - (i + 1)) (c - i)) ?_)
 go_wp2_with (at_builtin; refine wpList_copy_runI _ rfl _ _ 23 23 rfl _ _ rfl rfl (hcp2 _ (λ_ => rfl) (λ_ => rfl) _ _) ?_)
 go_ret
 first | exact ⟨rfl, rfl⟩ | exact ⟨rfl, by rw [hW1]⟩

abbrev zSp : Value := .agg #[.int .i64 0, .int .i64 0, .int .i64 0]

set_option maxHeartbeats 4000000 in
set_option maxRecDepth 100000 in
theorem zme (b n c i vb voff vc : Nat) (cs vs : List Value) (w : World) (hi : i < n) (hnc : n <= c) (hroom : c < n + 1) (hbig : n <= 1000000000)
  (hcl : cs.length = n * 3) (hvl : vs.length = 3)
  (hcs : ∀ j v, cs[j]? = some v -> w.cell? ⟨b, j, none⟩ = some v)
  (hvs : ∀ j v, vs[j]? = some v -> w.cell? ⟨vb, voff + j, none⟩ = some v) (h1c : ∀ v ∈ cs, v.oneCell' = true) (h1v : ∀ v ∈ vs, v.oneCell' = true) :
  Calls Tryz.prog 122 #[.slice (some ⟨b, 0, none⟩) n c, .int .i64 i, .slice (some ⟨vb, voff, none⟩) 1 vc] w λe w' =>
   e = .returned (.slice (some ⟨w.heap.size, 0, none⟩) (n + 1) (grownCap w (n + 1) c 61)) ∧
   w' = (((w.alloc (.cells ((cs.take (i * 3)).toArray ++ Builtin.zeroCells zSp.cells (n + 1 - i) ++ Builtin.zeroCells zSp.cells (grownCap w (n + 1) c 61 - (n + 1))) 61)).drew.setCells w.heap.size (i * 3) vs).drew).setCells w.heap.size ((i + 1) * 3) (cs.drop (i * 3)) := by
 have hT : Tryz.prog.underlying 23 = some (.slice 61) := Tryz.underlying23;have hTi : Tryz.prog.underlying 3 = some (.int .i64) := Tryz.underlying3;have i9 : (Tryz.prog.info? 61).map (λi => (i.zero, i.size, i.bytes)) = some (some zSp, 3, 24) := by kernel_rfl
 have mixed : Tryz.prog.follows .mixedOrders = true := by kernel_rfl
 obtain ⟨i0, hi0, hz0, hzs, hzb⟩ := info_parts i9;have hz1 : ¬ ((1 : Int) = 0) := by omega
 have hz2 : ¬ ((i : Int) = (n : Int)) := by omega
 have hz3 : (c : Int) < (n : Int) + 1 := by omega
 have hsz : (Tryz.prog.info? 61).map (·.size) = some 3 := by rw [hi0]; simp [hzs]
 have hbw : b < w.heap.size := block_lt_of_cell (hcs 0 _ (List.getElem?_eq_getElem (by omega)));have hvw : vb < w.heap.size := block_lt_of_cell (hvs 0 _ (List.getElem?_eq_getElem (by omega)));have hkk : (n : Int) + 1 - (i : Int) = ((n + 1 - i : Nat) : Int) := by omega
 have hik : i + (n + 1 - i) = n + 1 := by omega
 have htl : (cs.take (i * 3)).length = i * 3 := by rw [List.length_take, hcl]; omega
 have hold : (Builtin.firstCells i0.size i (.slice (some ⟨b, 0, none⟩) i c)).run Tryz.prog w.drew = .ok (cs.take (i * 3)).toArray w.drew := by
  rw [hzs]
  exact run_firstCells_some w.drew 3 i ⟨b, 0, none⟩ i c (cs.take (i * 3)) htl (λj v hj => by
   rw [Addr.add_lit, Nat.zero_add];rw [List.getElem?_take] at hj
   split at hj
   ·exact hcs j v hj
   ·cases hj)
 have hrz : ∀ ty, (Builtin.append_ #[23, 3] ty #[.slice (some ⟨b, 0, none⟩) i c, .int .i64 ((n : Int) + 1 - (i : Int))]).run Tryz.prog w =
   .ok (.slice (some ⟨w.heap.size, 0, none⟩) (n + 1) (grownCap w (n + 1) c 61)) (w.drew.alloc (.cells ((cs.take (i * 3)).toArray ++ Builtin.zeroCells zSp.cells (n + 1 - i) ++ Builtin.zeroCells zSp.cells (grownCap w (n + 1) c 61 - (n + 1))) 61)) := λty => by
  have h := Lib.run_append_grow_zeros w 23 3 ty 61 i0 _ .i64 .i64 hT hTi hi0 hz0 (some ⟨b, 0, none⟩) i c (cs.take (i * 3)) hold (n + 1 - i) (by omega) (by omega) (by omega) (by omega) (by rw [hzb]; omega) (by rw [hzb, hik]; exact growslice_fits hroom (by omega));rw [hik] at h;rw [hkk];exact h
 obtain ⟨G, hG⟩ : ∃ G, G = grownCap w (n + 1) c 61 := ⟨_, rfl⟩
 obtain ⟨ROW, hROW⟩ : ∃ ROW : Array Value, ROW = (cs.take (i * 3)).toArray ++ Builtin.zeroCells zSp.cells (n + 1 - i) ++ Builtin.zeroCells zSp.cells (G - (n + 1)) := ⟨_, rfl⟩
 rw [<- hG] at hrz ⊢;rw [<- hROW] at hrz ⊢
 have hRl : (n + 1) * 3 <= ROW.size := by
  rw [hROW];simp [Builtin.zeroCells, Value.cells, htl]
  omega
 obtain ⟨W1, hW1⟩ : ∃ W1, W1 = w.drew.alloc (.cells ROW 61) := ⟨_, rfl⟩
 rw [<- hW1] at hrz
 have hN : ∀ j, j < (n + 1) * 3 -> (W1.cell? ⟨w.heap.size, j, none⟩).isSome = true := λj hj => by
  rw [hW1, World.cell?_alloc_at (w := w.drew) ROW _ w.heap.size j rfl, Array.getElem?_eq_getElem (by omega)]; rfl
 have hNf : ∀ j, W1.frozen? ⟨w.heap.size, j, none⟩ = false := λj => by rw [hW1]; exact World.frozen?_alloc_at (w := w.drew) ROW _ w.heap.size j rfl
 have hOb : ∀ j v, w.cell? ⟨b, j, none⟩ = some v -> W1.cell? ⟨b, j, none⟩ = some v := λj v h => by rw [hW1, World.cell?_alloc_past (w := w.drew) _ b j hbw]; exact h
 have hOv : ∀ j v, w.cell? ⟨vb, j, none⟩ = some v -> W1.cell? ⟨vb, j, none⟩ = some v := λj v h => by rw [hW1, World.cell?_alloc_past (w := w.drew) _ vb j hvw]; exact h
 have hcpA : ∀ (W : World), (∀ x, W.cell? x = W1.cell? x) -> (∀ x, W.frozen? x = W1.frozen? x) -> ∀ ty dc, (Builtin.copy_ #[23, 23] ty #[.slice (some ⟨w.heap.size, i * 3, none⟩) (n + 1 - i) dc, .slice (some ⟨vb, voff, none⟩) 1 vc]).run Tryz.prog W = .ok (goInt (Nat.min 1 (n + 1 - i))) (W.setCells w.heap.size (i * 3) vs) := λW hWc hWf ty dc =>
  y9 W _ _ ty 61 3 w.heap.size (i * 3) (n + 1 - i) dc ⟨vb, voff, none⟩ 1 vc vs hT hsz (by rw [hvl]; simp only [Nat.min_def]; split <;> omega)
   (λj v hj => by rw [Addr.add_lit, hWc]; exact hOv _ v (hvs j v hj))
   (λj hj => by rw [hWc]; exact hN _ (by omega)) (λj hj => by rw [hWf]; exact hNf _) h1v
 have hGn : n + 1 <= G := by rw [hG]; exact grownCap_ge w _ _ _
 have hG63 : G <= 9223372036854775807 := by
  have := grownCap_le_maxLen w (n + 1) c 61 (by unfold maxLen; omega);rw [<- hG] at this;unfold maxLen at this;omega
 have hGi : ¬ (G = i) := by omega
 have hGim : ¬ (G = i + 1) := by omega
 have hci : ¬ (c = i) := by omega
 have hbN : b ≠ w.heap.size := by omega
 have hdl : (cs.drop (i * 3)).length = (n - i) * 3 := by rw [List.length_drop, hcl]; omega
 have hcpB : ∀ (W : World), (∀ x, W.cell? x = (W1.setCells w.heap.size (i * 3) vs).cell? x) -> (∀ x, W.frozen? x = (W1.setCells w.heap.size (i * 3) vs).frozen? x) -> ∀ ty dc sc, (Builtin.copy_ #[23, 23] ty #[.slice (some ⟨w.heap.size, (i + 1) * 3, none⟩) (n + 1 - (i + 1)) dc, .slice (some ⟨b, i * 3, none⟩) (n - i) sc]).run Tryz.prog W = .ok (goInt (Nat.min (n - i) (n + 1 - (i + 1)))) (W.setCells w.heap.size ((i + 1) * 3) (cs.drop (i * 3))) := λW hWc hWf ty dc sc =>
  y9 W _ _ ty 61 3 w.heap.size ((i + 1) * 3) (n + 1 - (i + 1)) dc ⟨b, i * 3, none⟩ (n - i) sc (cs.drop (i * 3)) hT hsz (by rw [hdl]; simp only [Nat.min_def]; split <;> omega)
   (λj v hj => by
    rw [Addr.add_lit, hWc, World.cell?_setCells_out _ _ _ _ _ (λh _ => absurd h hbN)];exact hOb _ v (hcs (i * 3 + j) v (by rwa [List.getElem?_drop] at hj)))
   (λj hj => by rw [hWc]; exact isSome_setCells _ vs (i * 3) _ (λt ht => hN _ (by omega)) _ (hN _ (by omega)))
   (λj hj => by rw [hWf, World.frozen?_setCells]; exact hNf _) (λv hv => h1c v (List.mem_of_mem_drop hv))
 subst hW1;have hE1 : ∀ x, ((w.alloc (.cells ROW 61)).drew).cell? x = (w.drew.alloc (.cells ROW 61)).cell? x := λx => rfl;have hE2 : ∀ x, ((w.alloc (.cells ROW 61)).drew).frozen? x = (w.drew.alloc (.cells ROW 61)).frozen? x := λx => rfl;have hF1 : ∀ x, (((w.alloc (.cells ROW 61)).drew.setCells w.heap.size (i * 3) vs).drew).cell? x = ((w.drew.alloc (.cells ROW 61)).setCells w.heap.size (i * 3) vs).cell? x := λx => rfl;have hF2 : ∀ x, (((w.alloc (.cells ROW 61)).drew.setCells w.heap.size (i * 3) vs).drew).frozen? x = ((w.drew.alloc (.cells ROW 61)).setCells w.heap.size (i * 3) vs).frozen? x := λx => rfl;have hw1 : IntKind.i64.wrap ((i : Int) + 1) = (i : Int) + 1 := by rw [IntKind.wrap_i64]; omega
 have hb1 : (0 : Int) <= (i : Int) + 1 := by omega
 have hin : i <= n := by omega
 have htn : ((i : Int) + 1).toNat = i + 1 := by omega
 have hb3 : (i : Int) <= (n : Int) := by omega
 clear hkk hik hold hROW hG hRl
 go_enter Tryz.func122, Tryz.ntmps122
 go_wp2_with (first
  | (at_builtin; refine Lib.wpList_append_run _ rfl _ _ _ _ rfl _ _ rfl rfl _ _ (hrz _) ?_)
  | (at_builtin; refine wpList_copy_runI _ rfl _ _ 23 23 rfl _ _ rfl rfl (hcpA _ hE1 hE2 _ _) ?_)
  | (at_builtin; refine wpList_copy_runI _ rfl _ _ 23 23 rfl _ _ rfl rfl (hcpB _ (λ_ => rfl) (λ_ => rfl) _ _ _) ?_))
 go_region_law_o (refine step_copy_runI rfl _ _ 23 23 rfl (.slice (some ⟨w.heap.size, (i + 1) * 3, none⟩) (n + 1 - (i + 1)) (G - (i + 1))) (.slice (some ⟨b, i * 3, none⟩) (n - i) (c - i)) (by simp [Act.eval, Act.put]) (by simp [Act.eval, Act.put]) (hcpB _ hF1 hF2 3 (G - (i + 1)) (c - i)) ?_)
 go_wp2
 go_ret
 exact ⟨rfl, rfl⟩

open Go Go.RowKit Go.Proofs Go.Lib

theorem zd1 {w : World} {b : Nat} {cur : Array Value} {el : TypeId} (h : w.heap[b]? = some (.cells cur el (0, 0))) (j : Nat) : w.frozen? ⟨b, j, none⟩ = false := by
 simp [World.frozen?, h]

theorem vp {w : World} {b o : Nat} {cur : Array Value} {el : TypeId} {vs : List Value} (P : Program) (h : w.heap[b]? = some (.cells cur el (0, 0))) (hl : o + vs.length <= cur.size) (h1 : ∀ v ∈ vs, v.oneCell' = true) :
  w.setCells b o vs = w.setRow b (cur.toList.take o ++ vs ++ cur.toList.drop (o + vs.length)).toArray := by
 have hc : ∀ j, j < vs.length -> (w.cell? ⟨b, o + j, none⟩).isSome = true := λj hj => by
  rw [yk h (c := cur[o + j]'(by omega)) (Array.getElem?_eq_getElem (by omega))]; rfl
 have h2 := run_storeCells_cells (P := P) b o vs 0 w (by simpa using hc) (λj _ => zd1 h _) h1;have h3 := run_storeCells_at P b o el vs 0 cur w h (by omega) h1;rw [h2] at h3;simp only [Nat.add_zero] at h3
 injection h3

theorem zkv {w : World} {v sv : Value} {b n i : Nat} {olds news : List Value} (hi : i <= n) (hn : n <= 1000000) (hO : zO w.heap 61 3 b n v olds) (h1o : ∀ u ∈ olds, u.oneCell' = true)
  {vb voff vc : Nat} (hsv : sv = .slice (some ⟨vb, voff, none⟩) 1 vc) (hvl : news.length = 3) (hvs : ∀ j u, news[j]? = some u -> w.cell? ⟨vb, voff + j, none⟩ = some u) (h1v : ∀ u ∈ news, u.oneCell' = true) (hvb : ∀ c, v = .slice (some ⟨b, 0, none⟩) n (c + 1) -> vb ≠ b)
  {tA : TypeId} {kA : Nat} (hsa : w.shape? vb = some (tA, kA)) (hkA : kA ≠ 0) :
  Calls Tryz.prog 122 #[v, .int .i64 i, sv] w λe w' => ∃ v', e = .returned v' ∧ w.heap.size <= w'.heap.size ∧
   zfc w w' 61 3 b n 1 v v' (olds.take (i * 3) ++ news ++ olds.drop (i * 3)) := by
 subst hsv;have hol : olds.length = n * 3 := hO.1
 by_cases hin : i = n
 ·subst hin;have ht1 : olds.take (i * 3) = olds := List.take_of_length_le (by omega);have ht2 : olds.drop (i * 3) = [] := List.drop_of_length_le (by omega);rw [ht1, ht2, List.append_nil]
  obtain ⟨v', w', hrun, hge, hres⟩ := xv (P := Tryz.prog) (w := w) (t := 23) (ty := 23) (tj := y3 [(0, 2), (1, 2), (2, 2)] 24 [.int .i64 0, .int .i64 0, .int .i64 0])
   (yh (by kernel_rfl) Tryz.underlying23) rfl (yd (by kernel_rfl) Tryz.underlying61 rfl (by kernel_rfl) (by decide) (by decide) rfl) (b := b) (n := i) (m := 1) (v := v) (sv := .slice (some ⟨vb, voff, none⟩) 1 vc) (olds := olds) (news := news) hO
   ⟨by rw [hvl]; rfl, _, _, rfl, λ_ => ⟨vb, voff, rfl, hvs⟩⟩ h1v (by omega)
  have mixed : Tryz.prog.follows .mixedOrders = true := by kernel_rfl
  have hz1 : ¬ ((1 : Int) = 0) := by omega
  have endR : ∀ Z : Value -> World -> Prop, Z v' w' -> Calls Tryz.prog 122 #[v, .int .i64 i, .slice (some ⟨vb, voff, none⟩) 1 vc] w λe w2 => ∃ v2, e = .returned v2 ∧ Z v2 w2 := by
   clear hres;intro Z hZ;rcases hO.2 with ⟨ad, rfl, hn0⟩ | ⟨cap, cur, rfl, hh, hle, hmx, hcs, htk⟩
   ·subst hn0;cases ad with
    | none =>
     go_enter Tryz.func122, Tryz.ntmps122
     go_wp2_with (at_builtin; refine Lib.wpList_append_run _ rfl _ _ _ _ rfl _ _ rfl rfl _ _ hrun ?_)
     go_ret
     exact ⟨_, rfl, hZ⟩
    | some ad =>
     obtain ⟨ab, ao, asp⟩ := ad
     go_enter Tryz.func122, Tryz.ntmps122
     go_wp2_with (at_builtin; refine Lib.wpList_append_run _ rfl _ _ _ _ rfl _ _ rfl rfl _ _ hrun ?_)
     all_goals (go_ret; exact ⟨_, rfl, hZ⟩)
   ·have hm63 : cap + 1 <= 9223372036854775807 := by unfold maxLen at hmx; omega
    go_enter Tryz.func122, Tryz.ntmps122
    go_wp2_with (at_builtin; refine Lib.wpList_append_run _ rfl _ _ _ _ rfl _ _ rfl rfl _ _ hrun ?_)
    all_goals (go_ret; exact ⟨_, rfl, hZ⟩)
  exact endR (λv2 w2 => w.heap.size <= w2.heap.size ∧ zfc w w2 61 3 b i 1 v v2 (olds ++ news)) ⟨hge, hres⟩
 ·have hlt : i < n := by omega
  rcases hO.2 with ⟨ad, rfl, hn0⟩ | ⟨cap, cur, rfl, hh, hle, hmx, hcs, htk⟩
  ·omega
  have hm63 : cap + 1 <= 9223372036854775807 := by unfold maxLen at hmx; omega
  have hcells : ∀ j u, olds[j]? = some u -> w.cell? ⟨b, j, none⟩ = some u := λj u hj => by
   have hjl : j < n * 3 := by
    rw [<- hol];rcases Nat.lt_or_ge j olds.length with h | h
    ·exact h
    ·rw [List.getElem?_eq_none h] at hj; cases hj
   exact yk hh (by rw [<- Array.getElem?_toList, xT htk hjl]; exact hj)
  have hdl : (olds.drop (i * 3)).length = (n - i) * 3 := by rw [List.length_drop, hol]; omega
  have htl : (olds.take (i * 3)).length = i * 3 := by rw [List.length_take, hol]; omega
  have h1d : ∀ u ∈ olds.drop (i * 3), u.oneCell' = true := λu hu => h1o u (List.mem_of_mem_drop hu);have hall : (olds.take (i * 3) ++ news ++ olds.drop (i * 3)).length = (n + 1) * 3 := by rw [List.length_append, List.length_append, htl, hvl, hdl]; omega
  by_cases hroom : n + 1 <= cap + 1
  ·refine (zku b n (cap + 1) i vb voff vc olds news w hlt hroom hm63 (hvb cap rfl) hol hvl hcells (λj hj => ?_) (λj => zd1 hh j) hvs h1o h1v tA _ kA _ hsa (by unfold World.shape?; rw [hh]) hkA).mono ?_
   ·rw [yk hh (c := cur[j]'(by omega)) (Array.getElem?_eq_getElem (by omega))]; rfl
   ·rintro e w' ⟨rfl, rfl⟩;have hhd : w.drew.heap[b]? = some (.cells cur 61 (0, 0)) := hh;have hsz1 : (i + 1) * 3 + (olds.drop (i * 3)).length <= cur.size := by rw [hdl, hcs]; omega
    rw [vp Tryz.prog hhd hsz1 h1d];generalize hr1 : (cur.toList.take ((i + 1) * 3) ++ olds.drop (i * 3) ++ cur.toList.drop ((i + 1) * 3 + (olds.drop (i * 3)).length)).toArray = r1;have hr1s : r1.size = cur.size := by rw [<- hr1]; simp; omega
    have hh1 := setRow_heap w.drew b cur r1 _ _ hhd;have hsz2 : i * 3 + news.length <= r1.size := by rw [hvl, hr1s, hcs]; omega
    rw [vp Tryz.prog hh1 hsz2 h1v, setRow_setRow];generalize hr2 : (r1.toList.take (i * 3) ++ news ++ r1.toList.drop (i * 3 + news.length)).toArray = r2;have hr2s : r2.size = cur.size := by rw [<- hr2, <- hr1s]; simp; omega
    refine ⟨_, rfl, by simp, .inl ⟨⟨rfl, rfl, rfl, by simp, λk _ hk => setRow_other w.drew b k _ (λe => hk (by rw [e]))⟩, by simp, ⟨hall, .inr ⟨cap, r2, rfl, setRow_heap w.drew b cur r2 _ _ hhd, hroom, hmx, by rw [hr2s, hcs], ?_⟩⟩, .inl ⟨cap, rfl, rfl⟩⟩⟩;refine List.ext_getElem? λk => ?_;rw [List.getElem?_take]
    split
    ·rename_i hk
     rw [<- hr2, List.toList_toArray, yo (by rw [Array.length_toList]; exact hsz2), hvl];rcases Nat.lt_or_ge k (i * 3) with h3 | h3
     ·rw [if_neg (by omega), <- hr1, List.toList_toArray, yo (by rw [Array.length_toList]; exact hsz1), if_neg (by omega), xT htk (by omega), List.append_assoc, List.getElem?_append_left (by omega), List.getElem?_take_of_lt h3]
     ·rcases Nat.lt_or_ge k (i * 3 + 3) with h4 | h4
      ·rw [if_pos ⟨h3, h4⟩, List.append_assoc, List.getElem?_append_right (by omega), htl, List.getElem?_append_left (by omega)]
      ·rw [if_neg (by omega), <- hr1, List.toList_toArray, yo (by rw [Array.length_toList]; exact hsz1), if_pos ⟨by omega, by rw [hdl]; omega⟩, List.getElem?_append_right (by rw [List.length_append]; omega), List.length_append, htl, hvl, show (i + 1) * 3 = i * 3 + 3 by omega]
    ·rename_i hk
     rw [List.getElem?_eq_none (by omega)]
  ·refine (zme b n (cap + 1) i vb voff vc olds news w hlt hle (by omega) (by omega) hol hvl hcells hvs h1o h1v).mono ?_;rintro e w' ⟨rfl, rfl⟩;have hge := grownCap_ge w (n + 1) (cap + 1) 61;have hcm : grownCap w (n + 1) (cap + 1) 61 <= maxLen := grownCap_le_maxLen w (n + 1) (cap + 1) 61 (by simp [maxLen]; omega);generalize grownCap w (n + 1) (cap + 1) 61 = G at hge hcm ⊢;obtain ⟨c, rfl⟩ : ∃ c, G = c + 1 := ⟨G - 1, by omega⟩
   generalize hrow : (olds.take (i * 3)).toArray ++ Builtin.zeroCells zSp.cells (n + 1 - i) ++ Builtin.zeroCells zSp.cells (c + 1 - (n + 1)) = row;have hrs : row.size = (c + 1) * 3 := by rw [<- hrow]; simp [Builtin.zeroCells, Value.cells, htl]; omega
   have hrt : ∀ k, k < i * 3 -> row.toList[k]? = olds[k]? := λk hk => by
    rw [<- hrow, Array.toList_append, Array.toList_append, List.append_assoc, List.getElem?_append_left (by simpa [htl] using hk)];simp [List.getElem?_take_of_lt hk]
   have hhd : ((w.alloc (.cells row 61)).drew).heap[w.heap.size]? = some (.cells row 61 (0, 0)) := heap_alloc_new w _;have hsz1 : i * 3 + news.length <= row.size := by rw [hvl, hrs]; omega
   rw [vp Tryz.prog hhd hsz1 h1v];generalize hr1 : (row.toList.take (i * 3) ++ news ++ row.toList.drop (i * 3 + news.length)).toArray = r1;have hr1s : r1.size = row.size := by rw [<- hr1]; simp; omega
   have hh1 : (((w.alloc (.cells row 61)).drew.setRow w.heap.size r1).drew).heap[w.heap.size]? = some (.cells r1 61 (0, 0)) := setRow_heap ((w.alloc (.cells row 61)).drew) w.heap.size row r1 _ _ hhd;have hsz2 : (i + 1) * 3 + (olds.drop (i * 3)).length <= r1.size := by rw [hdl, hr1s, hrs]; omega
   rw [vp Tryz.prog hh1 hsz2 h1d];generalize hr2 : (r1.toList.take ((i + 1) * 3) ++ olds.drop (i * 3) ++ r1.toList.drop ((i + 1) * 3 + (olds.drop (i * 3)).length)).toArray = r2;have hr2s : r2.size = row.size := by rw [<- hr2, <- hr1s]; simp; omega
   refine ⟨_, rfl, by simp, .inr ⟨⟨rfl, rfl, rfl, by simp, λk hk _ => ?_⟩, by simp, ⟨hall, .inr ⟨c, r2, rfl, setRow_heap _ w.heap.size r1 r2 _ _ hh1, hge, hcm, by rw [hr2s, hrs], ?_⟩⟩, by omega⟩⟩
   ·have hkn : k ≠ w.heap.size := by omega
    rw [setRow_other _ _ _ _ hkn];show ((w.alloc _).drew.setRow w.heap.size r1).heap[k]? = _
    rw [setRow_other _ _ _ _ hkn];exact Below.heap_alloc w _ k hk
   ·refine List.ext_getElem? λk => ?_;rw [List.getElem?_take]
    split
    ·rename_i hk
     rw [<- hr2, List.toList_toArray, yo (by rw [Array.length_toList]; exact hsz2), hdl];rcases Nat.lt_or_ge k (i * 3 + 3) with h3 | h3
     ·rw [if_neg (by omega), <- hr1, List.toList_toArray, yo (by rw [Array.length_toList]; exact hsz1), hvl];rcases Nat.lt_or_ge k (i * 3) with h4 | h4
      ·rw [if_neg (by omega), hrt k h4, List.append_assoc, List.getElem?_append_left (by omega), List.getElem?_take_of_lt h4]
      ·rw [if_pos ⟨h4, h3⟩, List.append_assoc, List.getElem?_append_right (by omega), htl, List.getElem?_append_left (by omega)]
     ·rw [if_pos ⟨by omega, by omega⟩, List.getElem?_append_right (by rw [List.length_append]; omega), List.length_append, htl, hvl, show (i + 1) * 3 = i * 3 + 3 by omega]
    ·rename_i hk
     rw [List.getElem?_eq_none (by omega)]

open Go Go.RowKit Go.Proofs

def zcs (f : Nat -> V) (i : Nat) (x : V) (j : Nat) : V := if j < i then f j else if j = i then x else f (j - 1)

theorem xI.ins {ok : OkB} {h : Array Obj} {n i : Nat} {f g : Nat -> V} {olds news : List Value} (hol : olds.length = n * 3) (hnl : news.length = 3) (hi : i <= n) (hf : xI ok h 3 n f olds) (hg : xI ok h 3 1 g news) :
  xI ok h 3 (n + 1) (zcs f i (g 0)) (olds.take (i * 3) ++ news ++ olds.drop (i * 3)) := by
 have htl : (olds.take (i * 3)).length = i * 3 := by rw [List.length_take, hol]; omega
 refine ⟨λj hj => ?_, λj jj hj hjj => ?_⟩
 ·unfold zcs
  split
  ·exact hf.1 j (by omega)
  split
  ·exact hg.1 0 (by omega)
  ·exact hf.1 (j - 1) (by omega)
 ·unfold zcs
  split
  ·rename_i h1
   obtain ⟨c, h2, h3⟩ := hf.2 j jj (by omega) hjj;exact ⟨c, by rw [List.append_assoc, List.getElem?_append_left (by omega), List.getElem?_take_of_lt (by omega)]; exact h2, h3⟩
  split
  ·rename_i h0 h1
   subst h1;obtain ⟨c, h2, h3⟩ := hg.2 0 jj (by omega) hjj;refine ⟨c, ?_, h3⟩;rw [List.append_assoc, List.getElem?_append_right (by omega), htl, List.getElem?_append_left (by omega), show j * 3 + jj - j * 3 = 0 * 3 + jj by omega];exact h2
  ·rename_i h0 h1
   obtain ⟨c, h2, h3⟩ := hf.2 (j - 1) jj (by omega) hjj;refine ⟨c, ?_, h3⟩;rw [List.getElem?_append_right (by rw [List.length_append]; omega), List.length_append, htl, hnl, List.getElem?_drop, show i * 3 + (j * 3 + jj - (i * 3 + 3)) = (j - 1) * 3 + jj by omega];exact h2

theorem zbV {x : AV} : leK x .dead := by cases x <;> trivial
theorem zkw {ok : OkB} {h : Array Obj} {g : Option Nat} {sz n : Nat} {f : Nat -> V} {v : Value} (r : Rep ok h (.vals g sz n f) v) (hn : 0 < n) (hs : 0 < sz) :
  ∃ b o cap cur e fr, v = .slice (some ⟨b, o, none⟩) n cap ∧ ok g b ∧ h[b]? = some (.cells cur e fr) ∧ cur.size ≠ 0 := by
 cases r with
 | vals g sz n f a cap hc hm hl hf c hx hr =>
  obtain ⟨b, o, cur, e, fr, rfl, h1, h2, h3⟩ := hx 0 0 hn hs;refine ⟨b, o, cap, cur, e, fr, rfl, h1, h2, λh0 => ?_⟩;have := (Array.getElem?_eq_some_iff.1 h3).1;omega

theorem xI.one {ok : OkB} {h : Array Obj} {n : Nat} {f : Nat -> V} {cells : List Value} (hl : cells.length = n * 3) (r : xI ok h 3 n f cells) : ∀ u ∈ cells, u.oneCell' = true := λu hu => by
 obtain ⟨k, hk, rfl⟩ := List.mem_iff_getElem.1 hu;obtain ⟨c, h1, h2⟩ := r.2 (k / 3) (k % 3) (by omega) (by omega);rw [show k / 3 * 3 + k % 3 = k by omega, List.getElem?_eq_getElem hk] at h1;cases h1
 obtain ⟨h3, h4⟩ := r.1 (k / 3) (by omega);exact h2.oneCell (jf h4 (by rw [h3]; omega))

theorem zmf (b n i : Nat) (f : Nat -> V) (g : Option Nat) (h : Nat -> V) (hi : i <= n) (hn : n <= 1000000) :
  MFn Tryz.prog 122 [.nil, .int .i64 i, .vals g 3 1 h] 0 (.ownV 61 3 b n f) .dead (λ_ av x' t' => t' = .dead ∧ x' = .dead ∧ ∃ b', av = .ownV 61 3 b' (n + 1) (zcs f i (h 0))) := by
 refine ⟨⟨_, Tryz.func122, rfl, by decide⟩, λD w0 hs w vs O U hsz hk r => ?_⟩
 obtain ⟨v, vi, sv, rfl⟩ : ∃ v vi sv, vs = #[v, vi, sv] := by
  refine ⟨vs.getD 0 undef, vs.getD 1 undef, vs.getD 2 undef, Array.ext (by simpa using hsz) λk h1 h2 => ?_⟩;have h3 : vs.size = 3 := hsz;have h4 : k = 0 ∨ k = 1 ∨ k = 2 := by omega
  rcases h4 with rfl | rfl | rfl <;> simp [Array.getD_eq_getD_getElem?, Array.getElem?_eq_getElem h1]
 have hvk : (#[v, vi, sv] : Array Value).getD 0 undef = v := rfl;rw [hvk] at r ⊢;generalize hσ : jr [.nil, .int .i64 i, .vals g 3 1 h] 0 (.ownV 61 3 b n f) .dead O U w.heap v = σ at r;have σ0 : σ 0 = .ownV 61 3 b n f := by rw [<- hσ]; rfl
 have σ1 : σ 1 = .v (.int .i64 i) := by rw [<- hσ]; rfl
 have σ2 : σ 2 = .v (.vals g 3 1 h) := by rw [<- hσ]; rfl
 have σ3 : σ 3 = .dead := by rw [<- hσ]; rfl
 have σk : σ vk = .keep O U w.heap 0 v := by rw [<- hσ]; rfl
 have s0 := r.slots 0;have s1 := r.slots 1;have s2 := r.slots 2;rw [σ0] at s0;rw [σ1] at s1;rw [σ2] at s2;have s1 : Rep _ w.heap (.int .i64 i) vi := s1;have s2 : Rep _ w.heap (.vals g 3 1 h) sv := s2;obtain ⟨_, olds, hO, hE⟩ := s0;have hO : zO w.heap 61 3 b n v olds := hO;have hvi : vi = .int .i64 i := by cases s1; rfl
 subst hvi;obtain ⟨vb, vo, vc, cur, ve, fr, rfl, hok, hhb, hcs⟩ := zkw s2 (by decide) (by decide);obtain ⟨news, ⟨hnl, ad, cap, hsv, hsrc⟩, hN, h1n⟩ := zc2 (w := w) (by decide) s2;obtain ⟨vb', vo', hadd, hcells⟩ := hsrc (by decide);rw [hadd] at hsv;simp only [Value.slice.injEq, Option.some.injEq, Addr.mk.injEq, and_true, true_and] at hsv
 obtain ⟨⟨rfl, rfl⟩, rfl⟩ := hsv;have hrb0 : ∀ c, v = .slice (some ⟨b, 0, none⟩) n (c + 1) -> rb (σ 0) v b := λc hc => by rw [σ0, hc]; exact (jv (n := n) (sz := 3) rfl _ _ _ _).2 rfl
 refine (zkv hi hn hO (hE.one hO.1) rfl (by simpa using hnl) hcells h1n (λc hc he => ?_) (tA := ve) (kA := cur.size) (by unfold World.shape?; rw [hhb]) hcs).mono ?_
 ·subst he;exact hok.2.1 ⟨0, hrb0 c hc⟩
 rintro e w' ⟨v', rfl, hge, hres⟩
 have r3 : R D w0 4 σ hs { tmps := (#[v, .int .i64 i, .slice (some ⟨vb, vo, none⟩) 1 vc] : Array Value).push undef, defers := [] } w := by
  have hT : (λk => ((#[v, .int .i64 i, .slice (some ⟨vb, vo, none⟩) 1 vc] : Array Value).push undef).getD k undef) = λk => (#[v, .int .i64 i, .slice (some ⟨vb, vo, none⟩) 1 vc] : Array Value).getD k undef := by
   funext k
   rw [vq]
   split
   ·rename_i hk; subst hk; rfl
   ·rfl
  have hTk := λk => congrFun hT k;refine ⟨rfl, rfl, r.hs1, r.hs2, r.below, λk hk => ?_, λk => ?_, λk c hc => ?_, λk k' c hc hc' => ?_, r.old⟩
  ·rcases r.dom k hk with h | h
   ·have : (#[v, .int .i64 i, .slice (some ⟨vb, vo, none⟩) 1 vc] : Array Value).size = 3 := rfl;omega
   ·exact .inr h
  ·show AVR (okF D (zm σ (λk => ((#[v, .int .i64 i, .slice (some ⟨vb, vo, none⟩) 1 vc] : Array Value).push undef).getD k undef)) w.heap.size) w.heap σ (λk => ((#[v, .int .i64 i, .slice (some ⟨vb, vo, none⟩) 1 vc] : Array Value).push undef).getD k undef) (σ k) (((#[v, .int .i64 i, .slice (some ⟨vb, vo, none⟩) 1 vc] : Array Value).push undef).getD k undef)
   rw [hT, hTk k];exact r.slots k
  ·exact r.real k c (by rw [<- hTk k]; exact hc)
  ·exact r.dist k k' c (by rw [<- hTk k]; exact hc) (by rw [<- hTk k']; exact hc')
 have hm : ∀ {mod : Option Nat}, w.grownBy w' mod -> (∀ bb, mod = some bb -> rb (σ 0) v bb) -> ∀ g bb, okF D (zm σ (tv { tmps := (#[v, .int .i64 i, .slice (some ⟨vb, vo, none⟩) 1 vc] : Array Value).push undef, defers := [] })) w.heap.size g bb ->
   okF D (zm σ (tv { tmps := (#[v, .int .i64 i, .slice (some ⟨vb, vo, none⟩) 1 vc] : Array Value).push undef, defers := [] })) w.heap.size g bb ∧ w'.heap[bb]? = w.heap[bb]? :=
  λhg hmod => kW hg λbb hbb => ⟨0, hmod bb hbb⟩
 have hE3 := r3.slots 0;rw [σ0] at hE3;obtain ⟨_, olds', hO', hE3⟩ := hE3;have hN3 := r3.slots 2;rw [σ2] at hN3
 have fin : ∀ (b' : Nat) (mod : Option Nat), w.grownBy w' mod -> (∀ bb, mod = some bb -> rb (σ 0) v bb) -> zO w'.heap 61 3 b' (n + 1) v' (olds.take (i * 3) ++ news ++ olds.drop (i * 3)) ->
   (∀ bb, rb (.ownV 61 3 b' (n + 1) (zcs f i (h 0))) v' bb -> rb (σ 0) v bb ∨ (w.heap.size <= bb ∧ bb < w'.heap.size)) ->
   ∃ v_1 av x' t' hs', Ending.returned v' = .returned v_1 ∧ hs <= hs' ∧ (t' = .dead ∧ x' = .dead ∧ ∃ b', av = .ownV 61 3 b' (n + 1) (zcs f i (h 0))) ∧ jL (.ownV 61 3 b n f) x' ∧ t'.tabOk = true ∧ av.isRes = true ∧ (x' ≠ .dead -> av.fresh hs hs') ∧
    R D w0 ((#[v, .int .i64 i, .slice (some ⟨vb, vo, none⟩) 1 vc] : Array Value).size + 1) (x5 (#[v, .int .i64 i, .slice (some ⟨vb, vo, none⟩) 1 vc] : Array Value).size 0 av x' t' O U w.heap v) hs' { tmps := (#[v, .int .i64 i, .slice (some ⟨vb, vo, none⟩) 1 vc] : Array Value).push v_1, defers := [] } w' := by
  intro b' mod hg hmod hOS hown;refine ⟨v', _, .dead, .dead, hs, rfl, Nat.le_refl _, ⟨rfl, rfl, b', rfl⟩, .inl rfl, rfl, rfl, λhh => absurd rfl hh, ?_⟩
  have r4 := r3.setOwn (hs' := hs) mod hg (Nat.le_trans r.hs2 hge) r.hs1 (d := 3) (s := 0) (by decide) (x := .ownV 61 3 b' (n + 1) (zcs f i (h 0))) (v := v') hmod hown (λ_ => rfl)
   ⟨by decide, _, hOS, xI.mono (xI.ins hO.1 (by simpa using hnl) hi hE hN) λg bb hbb => ⟨yD (λc ⟨k, hk⟩ => ⟨k, by
    have hT : ((#[v, .int .i64 i, .slice (some ⟨vb, vo, none⟩) 1 vc] : Array Value).push undef).getD k undef = (#[v, .int .i64 i, .slice (some ⟨vb, vo, none⟩) 1 vc] : Array Value).getD k undef := by
     rw [vq]
     split
     ·rename_i hk; subst hk; rfl
     ·rfl
    show rb (σ k) ((#[v, .int .i64 i, .slice (some ⟨vb, vo, none⟩) 1 vc] : Array Value).getD k undef) c
    rw [<- hT]; exact hk⟩) hbb, hg.block bb hbb.1 (λe => hbb.2.1 ⟨0, hmod bb e.symm⟩)⟩⟩
  have e1 : ({ tmps := (#[v, .int .i64 i, .slice (some ⟨vb, vo, none⟩) 1 vc] : Array Value).push undef, defers := [] } : Act).put (some 3) v' = { tmps := (#[v, .int .i64 i, .slice (some ⟨vb, vo, none⟩) 1 vc] : Array Value).push v', defers := [] } := rfl;rw [e1] at r4;refine r4.leAll λj => ?_;unfold x5
  split
  ·rename_i hj
   subst hj
   have e2 : upd (zo (upd σ 0 .dead) 3) 3 (.ownV 61 3 b' (n + 1) (zcs f i (h 0))) vk = .keep O U w.heap 0 v := by
    simp [upd, zo, σk, AV.touches, vk]
    rfl
   rw [e2];exact ⟨rfl, rfl, rfl, rfl, rfl⟩
  split
  ·exact zbV
  split
  ·exact zbV
  split
  ·rename_i hj
   have hj : j = 3 := hj;subst hj;have e2 : upd (zo (upd σ 0 .dead) 3) 3 (.ownV 61 3 b' (n + 1) (zcs f i (h 0))) 3 = .ownV 61 3 b' (n + 1) (zcs f i (h 0)) := by simp [upd]
   rw [e2];exact ⟨rfl, rfl, rfl, rfl, λ_ _ => rfl⟩
  ·exact zbV
 rcases hres with ⟨hg, hsz', hOS, ⟨c, hv, hv'⟩ | ⟨rfl, rfl⟩⟩ | ⟨hg, hsz', hOS, hpos⟩
 ·exact fin b (some b) hg (λbb hbb => by cases hbb; exact hrb0 c hv) hOS (λbb hbb => .inl (by
   rw [hv'] at hbb;have := (jv (n := n + 1) (sz := 3) rfl bb _ _ _).1 hbb;subst this; exact hrb0 c hv))
 ·exfalso
  rcases hOS.2 with ⟨a1, h1, h2⟩ | ⟨c1, cur1, h1, _⟩ <;> rcases hO.2 with ⟨a2, h3, h4⟩ | ⟨c2, cur2, h3, _⟩
  ·omega
  ·omega
  ·have h3 : v' = .slice a2 0 0 := h3;rw [h3] at h1; simp at h1
  ·have h3 : v' = .slice (some ⟨b, 0, none⟩) n (c2 + 1) := h3;rw [h3] at h1; simp at h1
 ·exact fin w.heap.size none hg (by simp) hOS (λbb hbb => .inr (by
   obtain ⟨rfl, _⟩ := hOS.rbs (n' := n + 1) (sz' := 3) rfl bb hbb; omega))

open Go Go.RowKit Go.Proofs Poly Hull

theorem zmg (g : Option Nat) (x y : Int) : FnV 177 [.ints g [x, y]] (.int .i64 (if x ≠ 0 then x else y)) := by
 refine zf (za [0, 2, 3, 5, 6, 7, 8, 9, 14]) Tryz.func177 rfl (by decide) Tryz.ntmps177 (lb rfl) λbase => ?_;refine wrs λK hK => ?_;conv=>whnf
 refine hK _ (wrs λK hK => ?_);conv=>whnf
 refine hK _ (W.seqK λK1 hK1 => wrs λK hK => ?_);conv=>whnf
 refine hK _ (W.block (W.invA (λm e => ∃ k : Nat, k <= 2 ∧ (1 <= k -> x = 0) ∧ (2 <= k -> y = 0) ∧ m = 2 - k ∧ e = [(3, .v (.int .i64 0)), (6, .v (.ints g [x, y])), (7, .v (.int .i64 (2 : Nat))), (8, .v (.int .i64 k))]) ⟨0, by decide, λh => absurd h (by decide), λh => absurd h (by decide), rfl, rfl⟩ ?_));clear hK;rintro m e ⟨k, h1, h2, h3, hm, rfl⟩;refine wrs λK hK => ?_;conv=>whnf
 refine hK _ ?_;clear hK;refine W.seqK λK7 hK7 => W.cond ⟨λh4 => ?_, λh4 => ?_⟩ <;> (first | replace h4 := of_decide_eq_true h4 | replace h4 := of_decide_eq_false h4)
 ·have hk : k < 2 := by omega
  have hxy : [x, y].getD k 0 = if k = 0 then x else y := by
   have : k = 0 ∨ k = 1 := by omega
   rcases this with rfl | rfl <;> rfl
  refine W.skip (hK7 _ ?_);clear hK7;refine W.seqK λK8 hK8 => W.block ?_;refine wrs λK hK => ?_;conv=>whnf
  refine ⟨⟨by omega, by show (k : Int) < 2; omega⟩, ?_⟩;conv=>whnf
  rw [Int.toNat_natCast];refine hK _ (wrs λK hK => ?_);conv=>whnf
  refine hK _ (W.cond ⟨λh5 => ?_, λh5 => ?_⟩) <;> clear hK
  ·have h5 : [x, y].getD k 0 ≠ 0 := of_decide_eq_true h5;rw [hxy] at h5;refine wrs λK hK => ?_;conv=>whnf
   refine hK _ ?_;clear hK
   have e9 : [x, y].getD k 0 = if x ≠ 0 then x else y := by
    rw [hxy]
    by_cases hk0 : k = 0
    ·rw [if_pos hk0] at h5 ⊢; rw [if_pos h5]
    ·rw [if_neg hk0, if_neg λhx => hx (h2 (by omega))]
   refine W.ret ?_;conv=>whnf
   exact ⟨.v (.int .i64 (if x ≠ 0 then x else y)), ⟨rfl, e9⟩, trivial, rfl⟩
  ·have h5 : [x, y].getD k 0 = 0 := Classical.byContradiction λh' => of_decide_eq_false h5 h';rw [hxy] at h5;refine W.skip (hK8 _ ?_);clear hK8;refine wrg ?_;conv=>whnf
   refine ⟨oo, ?_⟩;conv=>whnf
   exact ze ⟨k + 1, by omega, λ_ => by by_cases hk0 : k = 0; (rw [if_pos hk0] at h5; exact h5); exact h2 (by omega), λhh => by rw [if_neg (by omega)] at h5; exact h5, rfl, rfl⟩
 ·obtain rfl : k = 2 := by omega
  refine W.exit (hK1 _ ?_);clear hK7 hK1;refine wrs λK hK => ?_;conv=>whnf
  refine hK _ (W.ret ?_);conv=>whnf
  exact ⟨.v (.int .i64 (if x ≠ 0 then x else y)), ⟨rfl, by rw [h2 (by omega), h3 (by omega)]; rfl⟩, trivial, rfl⟩

theorem znB (a b : Spl.Sp) : (if vR a.1 b.1 ≠ 0 then vR a.1 b.1 else vR a.2.1 b.2.1) = Spl.cmp a b := by
 unfold vR Spl.cmp Spl.lt
 by_cases h1 : a.1 < b.1
 ·simp [h1]
 ·by_cases h2 : b.1 < a.1
  ·have : ¬ a.1 = b.1 := by omega
   simp [h1, h2, this]
  ·have : a.1 = b.1 := by omega
   simp [this]

theorem zbm (a b : Spl.Sp) : FnV 121 [vS a, vS b] (.int .i64 (Spl.cmp a b)) := by
 refine zf (za [0, 1, 2, 3, 4]) Tryz.func121 rfl (by decide) Tryz.ntmps121 (lb rfl) λbase => ?_;refine wrs λK hK => ?_;conv=>whnf
 refine ⟨rfl, ?_⟩;conv=>whnf
 intro b_1 hs_1 hh_1 hf_1;try dsimp only at hh_1 hf_1
 conv=>whnf
 refine ⟨rfl, ?_⟩;conv=>whnf
 intro b_2 hs_2 hh_2 hf_2;try dsimp only at hh_2 hf_2
 conv=>whnf
 refine hK _ ?_;clear hK;refine W.rd (za _) follows (by rfl) λK hK => ?_;conv=>whnf
 refine ⟨_, cxF (x9 a.1 b.1), ?_⟩;conv=>whnf
 refine ⟨_, cxF (x9 a.2.1 b.2.1), ?_⟩;conv=>whnf
 refine ⟨⟨rfl, by decide⟩, ?_⟩;conv=>whnf
 refine ⟨_, cxF (zmg _ (vR a.1 b.1) (vR a.2.1 b.2.1)), ?_⟩;conv=>whnf
 rw [znB];refine hK _ (W.ret ?_);conv=>whnf
 exact ⟨.v (.int .i64 (Spl.cmp a b)), ⟨rfl, rfl⟩, trivial, rfl⟩

theorem ze1 (a b : Spl.Sp) : FnV 207 [vS a, vS b] (.bool (decide (Spl.lt a b))) := by
 refine zf (za [0, 1, 2, 3, 4]) Tryz.func207 rfl (by decide) Tryz.ntmps207 (lb rfl) λbase => ?_;refine wrs λK hK => ?_;conv=>whnf
 refine ⟨rfl, ?_⟩;conv=>whnf
 intro b_1 hs_1 hh_1 hf_1;try dsimp only at hh_1 hf_1
 conv=>whnf
 refine ⟨rfl, ?_⟩;conv=>whnf
 intro b_2 hs_2 hh_2 hf_2;try dsimp only at hh_2 hf_2
 conv=>whnf
 refine hK _ (wrs λK hK => ?_);conv=>whnf
 refine ⟨λh1 => ?_, λh1 => ?_⟩ <;> conv=>whnf
 ·have h1 : a.1 < b.1 := of_decide_eq_true h1;refine hK _ (W.ret ?_);conv=>whnf
  exact ⟨.v (.bool (decide (Spl.lt a b))), decide_eq_true (.inl h1), trivial, rfl⟩
 ·have h1 : ¬ a.1 < b.1 := of_decide_eq_false h1;refine ⟨λh2 => ?_, λh2 => ?_⟩ <;> conv=>whnf
  ·have h2 : a.1 = b.1 := of_decide_eq_true h2;refine hK _ (W.ret ?_);conv=>whnf
   exact ⟨.v (.bool (decide (Spl.lt a b))), decide_eq_decide.2 ⟨λh3 => .inr ⟨h2, h3⟩, λh3 => h3.elim (λh4 => absurd h4 h1) λh4 => h4.2⟩, trivial, rfl⟩
  ·have h2 : ¬ a.1 = b.1 := of_decide_eq_false h2;refine hK _ (W.ret ?_);conv=>whnf
   exact ⟨.v (.bool (decide (Spl.lt a b))), decide_eq_false λh3 => h3.elim h1 λh4 => h2 h4.1, trivial, rfl⟩

theorem ziL (g : Option Nat) (S : List Spl.Sp) (x : Spl.Sp) (hS : Spl.Srt S) (hl : S.length <= 1000000) :
  FnV 120 [.vals g 3 S.length λj => vS (S.getD j (0, 0, 0)), vS x, .func 121 []] (.tup [.int .i64 (Spl.pos S x : Nat), .bool (bP (Spl.there S x (Spl.pos S x)))]) := by
 refine zf (za [0, 1, 2, 4, 6, 7, 8, 9, 10, 11, 17, 31]) Tryz.func120 rfl (by decide) Tryz.ntmps120 (lb rfl) λbase => ?_;refine wrs λK hK => ?_;conv=>whnf
 refine ⟨rfl, ?_⟩;conv=>whnf
 intro b_4 hs_4 hh_4 hf_4;try dsimp only at hh_4 hf_4
 conv=>whnf
 refine hK _ (wrs λK hK => ?_);conv=>whnf
 refine hK _ (wrs λK hK => ?_);conv=>whnf
 refine hK _ ?_;clear hK;refine W.seqK λK1 hK1 => W.block (W.invA (λm e => ∃ i j : Nat, i <= j ∧ j <= S.length ∧ (∀ k, k < i -> Spl.lt (S.getD k Spl.z0) x) ∧ (∀ k, j <= k -> k < S.length -> ¬ Spl.lt (S.getD k Spl.z0) x) ∧ m = j - i ∧ e = [(0, .v (.vals g 3 S.length λj => vS (S.getD j (0, 0, 0)))), (2, .v (.func 121 [])), (4, .ownB b_4 (vS x)), (8, .v (.int .i64 S.length)), (9, .v (.int .i64 i)), (10, .v (.int .i64 j))]) ⟨0, S.length, Nat.zero_le _, Nat.le_refl _, λk hk => absurd hk (Nat.not_lt_zero k), λk h1 h2 => absurd h1 (by omega), rfl, rfl⟩ ?_);rintro m e ⟨i, j, h1, h2, h3, h4, hm, rfl⟩;refine W.seqK λK7 hK7 => wrs λK hK => ?_;conv=>whnf
 refine hK _ (W.cond ⟨λh5 => ?_, λh5 => ?_⟩) <;> clear hK <;> (first | replace h5 := of_decide_eq_true h5 | replace h5 := of_decide_eq_false h5)
 ·have hij : i < j := by omega
  have e1 : ((i : Int) + (j : Int)) / 2 ^ Int.toNat 1 = (((i + j) / 2 : Nat) : Int) := by
   rw [show (2 : Int) ^ Int.toNat 1 = 2 from rfl]; omega
  refine W.skip (hK7 _ (W.block ?_));clear hK7;refine wrs λK hK => ?_;conv=>whnf
  refine ⟨oo, ?_⟩;conv=>whnf
  refine ⟨⟨by omega, by constructor <;> omega⟩, ?_⟩;conv=>whnf
  refine ⟨⟨by omega, by decide, by decide⟩, ?_⟩;conv=>whnf
  rw [e1];refine ⟨⟨by omega, by constructor <;> omega⟩, ?_⟩;conv=>whnf
  refine hK _ ?_;clear hK;generalize hh : (i + j) / 2 = h;have hih : i <= h := by omega
  have hhj : h < j := by omega
  refine W.rd (za _) follows (by rfl) λK hK => ?_;conv=>whnf
  refine ⟨oo, ?_⟩;conv=>whnf
  rw [Int.toNat_natCast];refine ⟨_, cxF (zbm (S.getD h (0, 0, 0)) x), ?_⟩;conv=>whnf
  refine hK _ (W.cond ⟨λh6 => ?_, λh6 => ?_⟩) <;> clear hK
  ·have h6 := Spl.cmp_lt.1 (of_decide_eq_true h6);refine wrg ?_;conv=>whnf
   refine ⟨oo, ?_⟩;conv=>whnf
   exact ze ⟨h + 1, j, by omega, h2, λk hk => by by_cases hkh : k = h; (subst hkh; exact h6); exact Spl.lt_trans (hS k h (by omega) (by omega)) h6, h4, rfl, rfl⟩
  ·have h6 : ¬ Spl.lt (S.getD h (0, 0, 0)) x := λh' => of_decide_eq_false h6 (Spl.cmp_lt.2 h');refine wrg ?_;conv=>whnf
   exact ze ⟨i, h, hih, by omega, h3, λk h7 h8 h9 => by by_cases hkh : k = h; (subst hkh; exact h6 h9); exact h6 (Spl.lt_trans (hS h k (by omega) h8) h9), rfl, rfl⟩
 ·obtain rfl : i = j := by omega
  have hp : Spl.pos S x = i := Spl.pos_eq ⟨h2, h3, λhi => h4 i (Nat.le_refl _) hi⟩;refine W.exit (hK1 _ ?_);clear hK7 hK1;rcases Nat.lt_or_ge i S.length with hi | hi
  ·have hn := h4 i (Nat.le_refl _) hi;refine W.rd (za _) follows (by rfl) λK hK => ?_;conv=>whnf
   have e0 : decide ((i : Int) < (S.length : Int)) = true := decide_eq_true (by omega);rw [e0];conv=>whnf
   refine ⟨oo, ?_⟩;conv=>whnf
   rw [Int.toNat_natCast];refine ⟨_, cxF (zbm (S.getD i (0, 0, 0)) x), ?_⟩;conv=>whnf
   refine hK _ ?_;clear hK
   have e9 : decide (Spl.cmp (S.getD i (0, 0, 0)) x = 0) = bP (Spl.there S x (Spl.pos S x)) := by
    rw [hp]
    by_cases hc : Spl.cmp (S.getD i (0, 0, 0)) x = 0
    ·rw [yl ⟨hi, (Spl.cmp_not hn).1 hc⟩]; exact decide_eq_true hc
    ·rw [zJ λh' => hc ((Spl.cmp_not hn).2 h'.2)]; exact decide_eq_false hc
   refine W.ret ?_;conv=>whnf
   exact ⟨.v (.int .i64 (Spl.pos S x : Nat)), ⟨rfl, by rw [hp]⟩, trivial, .v (.bool (bP (Spl.there S x (Spl.pos S x)))), e9, trivial, rfl⟩
  ·refine W.rd (za _) follows (by rfl) λK hK => ?_;conv=>whnf
   have e0 : decide ((i : Int) < (S.length : Int)) = false := decide_eq_false (by omega);rw [e0];conv=>whnf
   refine ⟨rfl, ?_⟩;conv=>whnf
   refine hK _ ?_;clear hK
   have e9 : bP (Spl.there S x (Spl.pos S x)) = false := by
    rw [hp];exact zJ λh' => absurd h'.1 (by omega)
   refine W.ret ?_;conv=>whnf
   exact ⟨.v (.int .i64 (Spl.pos S x : Nat)), ⟨rfl, by rw [hp]⟩, trivial, .v (.bool (bP (Spl.there S x (Spl.pos S x)))), e9.symm, trivial, rfl⟩

open Go Go.RowKit Go.Proofs Poly Hull

theorem ze2 (g : Option Nat) (L : List Spl.Sp) (x : Spl.Sp) (c : Nat) (hS : Spl.Ok c L) (hc : c <= 100000) (hx : x.2.2 = 1) :
  FnV 174 [.vals g 3 L.length λj => vS (L.getD j (0, 0, 0)), vS x] (vSs (Spl.put L x)) := by
 have hl := hS.few;refine zf (za [0, 1, 3, 4, 5, 6, 18, 36]) Tryz.func174 rfl (by decide) Tryz.ntmps174 (lb rfl) λbase => ?_;refine wrs λK hK => ?_;conv=>whnf
 refine ⟨rfl, ?_⟩;conv=>whnf
 intro b_3 hs_3 hh_3 hf_3;try dsimp only at hh_3 hf_3
 conv=>whnf
 refine hK _ (wrs λK hK => ?_);conv=>whnf
 refine hK _ ?_;clear hK;refine W.seqK λK1 hK1 => W.block (W.invA (λm e => ∃ k : Nat, k <= L.length ∧ (∀ j, j < k -> Spl.lt (L.getD j Spl.z0) x) ∧ m = L.length - k ∧ e = [(0, .v (.vals g 3 L.length λj => vS (L.getD j (0, 0, 0)))), (3, .ownB b_3 (vS x)), (5, .v (.int .i64 k))]) ⟨0, Nat.zero_le _, λj hj => absurd hj (Nat.not_lt_zero j), rfl, rfl⟩ ?_);rintro m e ⟨k, h1, h2, hm, rfl⟩
 have fin : ∀ s : S, base <= s.hs -> (k < L.length -> ¬ Spl.lt (L.getD k Spl.z0) x) -> zB s.env [(0, .v (.vals g 3 L.length λj => vS (L.getD j (0, 0, 0)))), (3, .ownB b_3 (vS x)), (5, .v (.int .i64 k))] -> K1 s := by
  intro s h5 h6 h7;refine hK1 _ (W.weak (t := ⟨[(0, .v (.vals g 3 L.length λj => vS (L.getD j (0, 0, 0)))), (3, .ownB b_3 (vS x)), (5, .v (.int .i64 k))], base⟩) ⟨h5, h7⟩ (Nat.le_refl _) ?_);clear hK1 h5 h7;have hp : Spl.pos L x = k := Spl.pos_eq ⟨h1, h2, h6⟩;refine wrs λK hK => ?_;conv=>whnf
  refine ⟨⟨rfl, by decide, λx hx => by simp at hx⟩, ?_⟩;conv=>whnf
  intro b_6 hs_6 hh_6 hf_6;try dsimp only at hh_6 hf_6
  conv=>whnf
  refine ⟨by omega, ?_⟩;conv=>whnf
  refine ⟨λj => vS (L.getD j (0, 0, 0)), λi hi => absurd hi (by omega), λj hj => by show vS _ = vS _; rw [Nat.zero_add], ?_⟩;intro b_7 hs_7 hh_7 hf_7;try dsimp only at hh_7 hf_7
  conv=>whnf
  refine hK _ ?_;clear hK;refine W.seqK λK2 hK2 => ?_
  have tl : ¬ Spl.there L x k -> ∀ s : S, base <= s.hs -> zB s.env [(0, .v (.vals g 3 L.length λj => vS (L.getD j (0, 0, 0)))), (3, .ownB b_3 (vS x)), (5, .v (.int .i64 k))] -> K2 s := by
   intro hn s h5 h7;refine hK2 _ (W.weak (t := ⟨[(0, .v (.vals g 3 L.length λj => vS (L.getD j (0, 0, 0)))), (3, .ownB b_3 (vS x)), (5, .v (.int .i64 k))], base⟩) ⟨h5, h7⟩ (Nat.le_refl _) ?_);clear hK2 h5 h7;have hput : Spl.put L x = L.take k ++ x :: L.drop k := by rw [Spl.put_not (by rw [hp]; exact hn), hp]
   have hpl : (Spl.put L x).length = L.length + 1 := by rw [hput]; exact Spl.ins_len h1
   have hg : ∀ j, (Spl.put L x).getD j Spl.z0 = if j < k then L.getD j Spl.z0 else if j = k then x else L.getD (j - 1) Spl.z0 := λj => by rw [hput]; exact Spl.ins_getD h1
   refine W.seqK λK9 hK9 => W.sch follows ?_;refine wt 1 ?_;conv=>whnf
   refine wt 2 ?_;conv=>whnf
   refine wt 3 ?_;conv=>whnf
   refine ⟨⟨by omega, by omega, by omega⟩, ?_⟩;conv=>whnf
   refine wt 8 ?_;conv=>whnf
   refine wt 9 ?_;conv=>whnf
   refine wt 10 ?_;conv=>whnf
   refine ⟨⟨by omega, by omega, by omega⟩, ?_⟩;conv=>whnf
   refine w2 0 5 ?_ ?_ <;> conv=>whnf
   ·refine ⟨⟨rfl, by decide, λx hx => by simp at hx⟩, ?_⟩;conv=>whnf
    intro b_a hs_a hh_a hf_a;try dsimp only at hh_a hf_a
    conv=>whnf
    refine w2 4 5 ?_ ?_ <;> conv=>whnf
    ·refine ⟨by omega, ?_⟩;conv=>whnf
     refine ⟨λj => vS ((Spl.put L x).getD j Spl.z0), λi hi => absurd hi (by omega), λj hj => by show vS ((Spl.put L x).getD _ Spl.z0) = vS (L.getD _ Spl.z0); rw [hg, if_pos (by omega)]; congr 2 <;> omega, ?_⟩;intro b_b hs_b hh_b hf_b;try dsimp only at hh_b hf_b
     conv=>whnf
     refine w1 5 ?_;conv=>whnf
     refine w1 6 ?_;conv=>whnf
     refine ⟨⟨rfl, by decide, λy hy => by simp at hy; subst hy; exact ⟨rfl, rfl⟩⟩, ?_⟩;conv=>whnf
     intro b_c hs_c hh_c hf_c;try dsimp only at hh_c hf_c
     conv=>whnf
     refine w1 7 ?_;conv=>whnf
     refine ⟨by omega, ?_⟩;conv=>whnf
     refine ⟨λj => vS ((Spl.put L x).getD j Spl.z0), λi hi => rfl, λj hj => by (obtain rfl : j = 0 := (by omega)); show vS ((Spl.put L x).getD _ Spl.z0) = vS x; rw [hg, if_neg (by omega), if_pos (by omega)], ?_⟩;intro b_d hs_d hh_d hf_d;try dsimp only at hh_d hf_d
     conv=>whnf
     refine w1 11 ?_;conv=>whnf
     refine ⟨by omega, ?_⟩;conv=>whnf
     refine ⟨λj => vS ((Spl.put L x).getD j Spl.z0), λi hi => rfl, λj hj => by show vS ((Spl.put L x).getD _ Spl.z0) = vS (L.getD _ Spl.z0); rw [hg, if_neg (by omega), if_neg (by omega)]; congr 2 <;> omega, ?_⟩;intro b_e hs_e hh_e hf_e;try dsimp only at hh_e hf_e
     conv=>whnf
     refine w1 12 ?_;conv=>whnf
     refine wd1 (hK9 _ ?_);clear hK9;refine W.ret ?_;conv=>whnf
     exact ⟨.v (vSs (Spl.put L x)), ⟨.inl rfl, rfl, by rw [hpl]; omega, λ_ _ => rfl⟩, ⟨trivial, λ_ _ => ⟨trivial, trivial, trivial, trivial⟩⟩, rfl⟩
    ·refine w2 4 6 ?_ ?_ <;> conv=>whnf
     ·refine ⟨by omega, ?_⟩;conv=>whnf
      refine ⟨λj => vS ((Spl.put L x).getD j Spl.z0), λi hi => absurd hi (by omega), λj hj => by show vS ((Spl.put L x).getD _ Spl.z0) = vS (L.getD _ Spl.z0); rw [hg, if_pos (by omega)]; congr 2 <;> omega, ?_⟩;intro b_b hs_b hh_b hf_b;try dsimp only at hh_b hf_b
      conv=>whnf
      refine w1 6 ?_;conv=>whnf
      refine ⟨⟨rfl, by decide, λy hy => by simp at hy; subst hy; exact ⟨rfl, rfl⟩⟩, ?_⟩;conv=>whnf
      intro b_c hs_c hh_c hf_c;try dsimp only at hh_c hf_c
      conv=>whnf
      refine w1 7 ?_;conv=>whnf
      refine ⟨by omega, ?_⟩;conv=>whnf
      refine ⟨λj => vS ((Spl.put L x).getD j Spl.z0), λi hi => rfl, λj hj => by (obtain rfl : j = 0 := (by omega)); show vS ((Spl.put L x).getD _ Spl.z0) = vS x; rw [hg, if_neg (by omega), if_pos (by omega)], ?_⟩;intro b_d hs_d hh_d hf_d;try dsimp only at hh_d hf_d
      conv=>whnf
      refine w1 11 ?_;conv=>whnf
      refine ⟨by omega, ?_⟩;conv=>whnf
      refine ⟨λj => vS ((Spl.put L x).getD j Spl.z0), λi hi => rfl, λj hj => by show vS ((Spl.put L x).getD _ Spl.z0) = vS (L.getD _ Spl.z0); rw [hg, if_neg (by omega), if_neg (by omega)]; congr 2 <;> omega, ?_⟩;intro b_e hs_e hh_e hf_e;try dsimp only at hh_e hf_e
      conv=>whnf
      refine w1 12 ?_;conv=>whnf
      refine wd1 (hK9 _ ?_);clear hK9;refine W.ret ?_;conv=>whnf
      exact ⟨.v (vSs (Spl.put L x)), ⟨.inl rfl, rfl, by rw [hpl]; omega, λ_ _ => rfl⟩, ⟨trivial, λ_ _ => ⟨trivial, trivial, trivial, trivial⟩⟩, rfl⟩
     ·refine ⟨⟨rfl, by decide, λy hy => by simp at hy; subst hy; exact ⟨rfl, rfl⟩⟩, ?_⟩;conv=>whnf
      intro b_c hs_c hh_c hf_c;try dsimp only at hh_c hf_c
      conv=>whnf
      refine w1 4 ?_;conv=>whnf
      refine ⟨by omega, ?_⟩;conv=>whnf
      refine ⟨λj => vS ((Spl.put L x).getD j Spl.z0), λi hi => absurd hi (by omega), λj hj => by show vS ((Spl.put L x).getD _ Spl.z0) = vS (L.getD _ Spl.z0); rw [hg, if_pos (by omega)]; congr 2 <;> omega, ?_⟩;intro b_b hs_b hh_b hf_b;try dsimp only at hh_b hf_b
      conv=>whnf
      refine w1 7 ?_;conv=>whnf
      refine ⟨by omega, ?_⟩;conv=>whnf
      refine ⟨λj => vS ((Spl.put L x).getD j Spl.z0), λi hi => rfl, λj hj => by (obtain rfl : j = 0 := (by omega)); show vS ((Spl.put L x).getD _ Spl.z0) = vS x; rw [hg, if_neg (by omega), if_pos (by omega)], ?_⟩;intro b_d hs_d hh_d hf_d;try dsimp only at hh_d hf_d
      conv=>whnf
      refine w1 11 ?_;conv=>whnf
      refine ⟨by omega, ?_⟩;conv=>whnf
      refine ⟨λj => vS ((Spl.put L x).getD j Spl.z0), λi hi => rfl, λj hj => by show vS ((Spl.put L x).getD _ Spl.z0) = vS (L.getD _ Spl.z0); rw [hg, if_neg (by omega), if_neg (by omega)]; congr 2 <;> omega, ?_⟩;intro b_e hs_e hh_e hf_e;try dsimp only at hh_e hf_e
      conv=>whnf
      refine w1 12 ?_;conv=>whnf
      refine wd1 (hK9 _ ?_);clear hK9;refine W.ret ?_;conv=>whnf
      exact ⟨.v (vSs (Spl.put L x)), ⟨.inl rfl, rfl, by rw [hpl]; omega, λ_ _ => rfl⟩, ⟨trivial, λ_ _ => ⟨trivial, trivial, trivial, trivial⟩⟩, rfl⟩
   ·refine w2 0 6 ?_ ?_ <;> conv=>whnf
    ·refine ⟨⟨rfl, by decide, λx hx => by simp at hx⟩, ?_⟩;conv=>whnf
     intro b_a hs_a hh_a hf_a;try dsimp only at hh_a hf_a
     conv=>whnf
     refine w2 4 6 ?_ ?_ <;> conv=>whnf
     ·refine ⟨by omega, ?_⟩;conv=>whnf
      refine ⟨λj => vS ((Spl.put L x).getD j Spl.z0), λi hi => absurd hi (by omega), λj hj => by show vS ((Spl.put L x).getD _ Spl.z0) = vS (L.getD _ Spl.z0); rw [hg, if_pos (by omega)]; congr 2 <;> omega, ?_⟩;intro b_b hs_b hh_b hf_b;try dsimp only at hh_b hf_b
      conv=>whnf
      refine w1 6 ?_;conv=>whnf
      refine ⟨⟨rfl, by decide, λy hy => by simp at hy; subst hy; exact ⟨rfl, rfl⟩⟩, ?_⟩;conv=>whnf
      intro b_c hs_c hh_c hf_c;try dsimp only at hh_c hf_c
      conv=>whnf
      refine w1 7 ?_;conv=>whnf
      refine ⟨by omega, ?_⟩;conv=>whnf
      refine ⟨λj => vS ((Spl.put L x).getD j Spl.z0), λi hi => rfl, λj hj => by (obtain rfl : j = 0 := (by omega)); show vS ((Spl.put L x).getD _ Spl.z0) = vS x; rw [hg, if_neg (by omega), if_pos (by omega)], ?_⟩;intro b_d hs_d hh_d hf_d;try dsimp only at hh_d hf_d
      conv=>whnf
      refine w1 11 ?_;conv=>whnf
      refine ⟨by omega, ?_⟩;conv=>whnf
      refine ⟨λj => vS ((Spl.put L x).getD j Spl.z0), λi hi => rfl, λj hj => by show vS ((Spl.put L x).getD _ Spl.z0) = vS (L.getD _ Spl.z0); rw [hg, if_neg (by omega), if_neg (by omega)]; congr 2 <;> omega, ?_⟩;intro b_e hs_e hh_e hf_e;try dsimp only at hh_e hf_e
      conv=>whnf
      refine w1 12 ?_;conv=>whnf
      refine wd1 (hK9 _ ?_);clear hK9;refine W.ret ?_;conv=>whnf
      exact ⟨.v (vSs (Spl.put L x)), ⟨.inl rfl, rfl, by rw [hpl]; omega, λ_ _ => rfl⟩, ⟨trivial, λ_ _ => ⟨trivial, trivial, trivial, trivial⟩⟩, rfl⟩
     ·refine ⟨⟨rfl, by decide, λy hy => by simp at hy; subst hy; exact ⟨rfl, rfl⟩⟩, ?_⟩;conv=>whnf
      intro b_c hs_c hh_c hf_c;try dsimp only at hh_c hf_c
      conv=>whnf
      refine w1 4 ?_;conv=>whnf
      refine ⟨by omega, ?_⟩;conv=>whnf
      refine ⟨λj => vS ((Spl.put L x).getD j Spl.z0), λi hi => absurd hi (by omega), λj hj => by show vS ((Spl.put L x).getD _ Spl.z0) = vS (L.getD _ Spl.z0); rw [hg, if_pos (by omega)]; congr 2 <;> omega, ?_⟩;intro b_b hs_b hh_b hf_b;try dsimp only at hh_b hf_b
      conv=>whnf
      refine w1 7 ?_;conv=>whnf
      refine ⟨by omega, ?_⟩;conv=>whnf
      refine ⟨λj => vS ((Spl.put L x).getD j Spl.z0), λi hi => rfl, λj hj => by (obtain rfl : j = 0 := (by omega)); show vS ((Spl.put L x).getD _ Spl.z0) = vS x; rw [hg, if_neg (by omega), if_pos (by omega)], ?_⟩;intro b_d hs_d hh_d hf_d;try dsimp only at hh_d hf_d
      conv=>whnf
      refine w1 11 ?_;conv=>whnf
      refine ⟨by omega, ?_⟩;conv=>whnf
      refine ⟨λj => vS ((Spl.put L x).getD j Spl.z0), λi hi => rfl, λj hj => by show vS ((Spl.put L x).getD _ Spl.z0) = vS (L.getD _ Spl.z0); rw [hg, if_neg (by omega), if_neg (by omega)]; congr 2 <;> omega, ?_⟩;intro b_e hs_e hh_e hf_e;try dsimp only at hh_e hf_e
      conv=>whnf
      refine w1 12 ?_;conv=>whnf
      refine wd1 (hK9 _ ?_);clear hK9;refine W.ret ?_;conv=>whnf
      exact ⟨.v (vSs (Spl.put L x)), ⟨.inl rfl, rfl, by rw [hpl]; omega, λ_ _ => rfl⟩, ⟨trivial, λ_ _ => ⟨trivial, trivial, trivial, trivial⟩⟩, rfl⟩
    ·refine ⟨⟨rfl, by decide, λy hy => by simp at hy; subst hy; exact ⟨rfl, rfl⟩⟩, ?_⟩;conv=>whnf
     intro b_c hs_c hh_c hf_c;try dsimp only at hh_c hf_c
     conv=>whnf
     refine w1 0 ?_;conv=>whnf
     refine ⟨⟨rfl, by decide, λx hx => by simp at hx⟩, ?_⟩;conv=>whnf
     intro b_a hs_a hh_a hf_a;try dsimp only at hh_a hf_a
     conv=>whnf
     refine w1 4 ?_;conv=>whnf
     refine ⟨by omega, ?_⟩;conv=>whnf
     refine ⟨λj => vS ((Spl.put L x).getD j Spl.z0), λi hi => absurd hi (by omega), λj hj => by show vS ((Spl.put L x).getD _ Spl.z0) = vS (L.getD _ Spl.z0); rw [hg, if_pos (by omega)]; congr 2 <;> omega, ?_⟩;intro b_b hs_b hh_b hf_b;try dsimp only at hh_b hf_b
     conv=>whnf
     refine w1 7 ?_;conv=>whnf
     refine ⟨by omega, ?_⟩;conv=>whnf
     refine ⟨λj => vS ((Spl.put L x).getD j Spl.z0), λi hi => rfl, λj hj => by (obtain rfl : j = 0 := (by omega)); show vS ((Spl.put L x).getD _ Spl.z0) = vS x; rw [hg, if_neg (by omega), if_pos (by omega)], ?_⟩;intro b_d hs_d hh_d hf_d;try dsimp only at hh_d hf_d
     conv=>whnf
     refine w1 11 ?_;conv=>whnf
     refine ⟨by omega, ?_⟩;conv=>whnf
     refine ⟨λj => vS ((Spl.put L x).getD j Spl.z0), λi hi => rfl, λj hj => by show vS ((Spl.put L x).getD _ Spl.z0) = vS (L.getD _ Spl.z0); rw [hg, if_neg (by omega), if_neg (by omega)]; congr 2 <;> omega, ?_⟩;intro b_e hs_e hh_e hf_e;try dsimp only at hh_e hf_e
     conv=>whnf
     refine w1 12 ?_;conv=>whnf
     refine wd1 (hK9 _ ?_);clear hK9;refine W.ret ?_;conv=>whnf
     exact ⟨.v (vSs (Spl.put L x)), ⟨.inl rfl, rfl, by rw [hpl]; omega, λ_ _ => rfl⟩, ⟨trivial, λ_ _ => ⟨trivial, trivial, trivial, trivial⟩⟩, rfl⟩
-- 6 ways
  rcases Nat.lt_or_ge k L.length with hk | hk
  ·have hbk := hS.bd k hk;refine W.rd (za _) follows (by rfl) λK hK => ?_;conv=>whnf
   have e0 : decide ((k : Int) < (L.length : Int)) = true := decide_eq_true (by omega);rw [e0];conv=>whnf
   refine ⟨oo, ?_⟩;conv=>whnf
   rw [Int.toNat_natCast];refine ⟨_, cxF (ze1 x (L.getD k (0, 0, 0))), ?_⟩;conv=>whnf
   refine hK _ (W.cond ⟨λh => ?_, λh => ?_⟩) <;> clear hK
   ·have h : ¬ Spl.lt x (L.getD k (0, 0, 0)) := zcF h;have ht : Spl.there L x (Spl.pos L x) := by rw [hp]; exact ⟨hk, h⟩
    have hput : Spl.put L x = L.set k (Spl.more (L.getD k Spl.z0) x.2.2) := by rw [Spl.put_there ht, hp]
    have hpl : (Spl.put L x).length = L.length := by rw [hput, List.length_set]
    have hg : ∀ j, (Spl.put L x).getD j Spl.z0 = if j = k then Spl.more (L.getD k Spl.z0) x.2.2 else L.getD j Spl.z0 := λj => by rw [hput]; exact Spl.set_getD hk
    clear tl;refine W.rd (za _) follows (by rfl) λK hK => ?_;conv=>whnf
    refine ⟨oo, ?_⟩;conv=>whnf
    rw [Int.toNat_natCast];refine ⟨by show _ <= (L.getD k Spl.z0).2.2 + x.2.2 ∧ (L.getD k Spl.z0).2.2 + x.2.2 <= _; have := hbk.2.2; omega, ?_⟩;conv=>whnf
    refine ⟨oo, ?_⟩;conv=>whnf
    rw [Int.toNat_natCast];refine ⟨⟨by show 2 + 1 <= 3; omega, rfl⟩, ?_⟩;conv=>whnf
    refine ⟨λj => vS ((Spl.put L x).getD j Spl.z0), by show vS _ = _; rw [hg, if_pos rfl]; rfl, λj hj hjk => by show vS _ = vS _; rw [hg, if_neg hjk], ?_⟩;conv=>whnf
    refine hK _ (wrs λK hK => ?_);conv=>whnf
    refine hK _ (W.ret ?_);conv=>whnf
    exact ⟨.v (vSs (Spl.put L x)), ⟨rfl, rfl, by rw [hpl]; omega, λ_ _ => rfl⟩, ⟨trivial, λ_ _ => ⟨trivial, trivial, trivial, trivial⟩⟩, rfl⟩
   ·have h : Spl.lt x (L.getD k (0, 0, 0)) := zbi h;refine W.skip (tl (λht => ht.2 h) _ (by dsimp only; omega) ?_);clear tl hK2;exact cvr
  ·refine W.rd (za _) follows (by rfl) λK hK => ?_;conv=>whnf
   have e0 : decide ((k : Int) < (L.length : Int)) = false := decide_eq_false (by omega);rw [e0];conv=>whnf
   refine ⟨rfl, ?_⟩;conv=>whnf
   refine hK _ (W.cond ⟨λh => absurd h (by decide), λ_ => W.skip (tl (λht => absurd ht.1 (by omega)) _ (by dsimp only; omega) ?_)⟩);clear tl hK2 hK;exact cvr
 refine W.seqK λK7 hK7 => ?_;rcases Nat.lt_or_ge k L.length with hk | hk
 ·refine W.rd (za _) follows (by rfl) λK hK => ?_;conv=>whnf
  have e0 : decide ((k : Int) < (L.length : Int)) = true := decide_eq_true (by omega);rw [e0];conv=>whnf
  refine ⟨oo, ?_⟩;conv=>whnf
  rw [Int.toNat_natCast];refine ⟨_, cxF (ze1 (L.getD k (0, 0, 0)) x), ?_⟩;conv=>whnf
  refine hK _ (W.cond ⟨λh => ?_, λh => ?_⟩) <;> clear hK
  ·have h := of_decide_eq_true h;refine W.skip (hK7 _ (W.block ?_));clear hK7 fin;refine wrg ?_;conv=>whnf
   refine ⟨oo, ?_⟩;conv=>whnf
   exact ze ⟨k + 1, by omega, λj hj => by by_cases h9 : j = k; (subst h9; exact h); exact h2 j (by omega), rfl, rfl⟩
  ·have h := of_decide_eq_false h;refine W.exit (fin _ (by dsimp only; omega) (λ_ => h) ?_);clear fin hK7;exact cvr
 ·refine W.rd (za _) follows (by rfl) λK hK => ?_;conv=>whnf
  have e0 : decide ((k : Int) < (L.length : Int)) = false := decide_eq_false (by omega);rw [e0];conv=>whnf
  refine ⟨rfl, ?_⟩;conv=>whnf
  refine hK _ (W.cond ⟨λh => absurd h (by decide), λ_ => W.exit (fin _ (by dsimp only; omega) (λhh => absurd hh (by omega)) ?_)⟩);clear fin hK7 hK;exact cvr

abbrev yC (T : List (Int × Int × Int)) (k : Nat) : Int := (T.getD k (0, 0, 0)).2.1

theorem zbW (p : Int) [SP p] (g : Option Nat) (l : List Int) (T : List (Int × Int × Int)) (hT : T.length <= 100) (hrun : ∀ k, k < T.length -> 1 <= yC T k ∧ yC T k <= 1000) (hslo : FnV 107 [.int .i64 p, .ints g l] (vSs T)) (R : Nat -> Poly p) (F : Nat -> List (Poly p × Nat))
  (hR : ∀ i, i < T.length -> dg (R i) <= 9 ∧ R i ≠ 0 ∧ FacOf (R i) (F i)) (hD : ∀ i, i < T.length -> (zN (F i) (F i).length).length <= 100 ∧ ∀ q, q < (zN (F i) (F i).length).length -> 1 <= (zN (F i) (F i).length).getD q 0 ∧ (zN (F i) (F i).length).getD q 0 <= 1000)
  (hres : ∀ i : Nat, i < T.length -> FnI 108 [.int .i64 p, .ints g l, .int .i64 i] (R i).l) : FnV 118 [.int .i64 p, .ints g l] (vSs (Spl.putO (yC T) (λi => zN (F i) (F i).length) T.length)) := by
 refine zf (za [0, 1, 4, 5, 6, 7, 8, 9, 17, 29]) Tryz.func118 rfl (by decide) Tryz.ntmps118 (lb rfl) λbase => ?_;refine wrs λK hK => ?_;conv=>whnf
 refine hK _ (wrs λK hK => ?_);conv=>whnf
 refine zc rfl (hslo) λhs' hhs => ?_;try dsimp only at hhs
 conv=>whnf
 refine hK _ (wrs λK hK => ?_);conv=>whnf
 refine ⟨⟨rfl, by decide, λx hx => by simp at hx⟩, ?_⟩;conv=>whnf
 intro b_6 hs_6 hh_6 hf_6;try dsimp only at hh_6 hf_6
 conv=>whnf
 refine hK _ (W.seqK λK1 hK1 => wrs λK hK => ?_);conv=>whnf
 refine hK _ (W.block (W.invA (λm e => ∃ (i n : Nat) (S : List Spl.Sp), i <= T.length ∧ S = Spl.putO (yC T) (λi => zN (F i) (F i).length) i ∧ n = S.length ∧ m = T.length - i ∧ e = [(0, .v (.int .i64 p)), (1, .v (.ints g l)), (5, .v (vSs T)), (6, .v (.vals none 3 n λj => vS (S.getD j (0, 0, 0)))), (7, .v (.int .i64 i))]) ⟨0, 0, [], Nat.zero_le _, rfl, rfl, rfl, rfl⟩ ?_));clear hK;rintro m e ⟨i, n, S, h1, hS, hn, hm, rfl⟩;refine W.seqK λK7 hK7 => wrs λK hK => ?_;conv=>whnf
 refine hK _ (W.cond ⟨λh3 => ?_, λh3 => ?_⟩) <;> clear hK <;> (first | replace h3 := of_decide_eq_true h3 | replace h3 := of_decide_eq_false h3)
 ·have hi : i < T.length := by omega
  obtain ⟨h9, h0, hF⟩ := hR i hi;obtain ⟨hd1, hd2⟩ := hD i hi;have hok := Spl.putO_ok (run := yC T) (ds := λi => zN (F i) (F i).length) (n := T.length) (m := 100) hrun hD i (by omega);rw [<- hS] at hok;generalize hds : zN (F i) (F i).length = ds at hd1 hd2;have hnx : Spl.putO (yC T) (λi => zN (F i) (F i).length) (i + 1) = Spl.putI (yC T i) ds S ds.length := by rw [Spl.putO, <- hS, hds]
  have hdeg := zai p;refine W.skip (hK7 _ ?_);clear hK7;refine W.seqK λK8 hK8 => W.block ?_;refine wrs λK hK => ?_;conv=>whnf
  refine zv rfl (hres i hi) λhs_1 b_1 hh_1 hf_1 => ?_;try dsimp only at hh_1 hf_1
  conv=>whnf
  refine zc rfl (zai p _ (R i) (F i) hF h0 (by omega)) λhs' hhs => ?_;try dsimp only at hhs
  conv=>whnf
  rw [hds];refine hK _ (wrs λK hK => ?_);conv=>whnf
  refine hK _ (W.block (W.invA (λm e => ∃ (q n : Nat) (Q : List Spl.Sp), q <= ds.length ∧ Q = Spl.putI (yC T i) ds S q ∧ n = Q.length ∧ m = ds.length - q ∧ e = [(0, .v (.int .i64 p)), (1, .v (.ints g l)), (5, .v (vSs T)), (6, .v (.vals none 3 n λj => vS (Q.getD j (0, 0, 0)))), (7, .v (.int .i64 i)), (8, .v (.ints none ds)), (9, .v (.int .i64 q))]) ⟨0, n, S, Nat.zero_le _, rfl, hn, rfl, rfl⟩ ?_));clear hK;rintro m' e ⟨q, n', Q, h4, hQ, hn', hm', rfl⟩;refine W.seqK λK7 hK7 => wrs λK hK => ?_;conv=>whnf
  refine hK _ (W.cond ⟨λh5 => ?_, λh5 => ?_⟩) <;> clear hK <;> (first | replace h5 := of_decide_eq_true h5 | replace h5 := of_decide_eq_false h5)
  ·have hq : q < ds.length := by omega
   have hokq := Spl.putI_ok hok (hrun i hi) hd2 q (by omega);rw [<- hQ] at hokq;have hnq : Spl.putI (yC T i) ds S (q + 1) = Spl.put Q (yC T i, ds.getD q 0, 1) := by rw [Spl.putI, <- hQ]
   subst hn';have hi100 : i * 100 <= 100 * 100 := Nat.mul_le_mul_right _ (by omega);refine W.skip (hK7 _ (W.seqK λK6 hK6 => W.block ?_));clear hK7;refine W.sch follows ?_;refine wt 0 ?_;conv=>whnf
   refine wt 1 ?_;conv=>whnf
   refine wt 2 ?_;conv=>whnf
   refine wi 3 ?_;conv=>whnf
   refine ⟨oo, ?_⟩;conv=>whnf
   rw [Int.toNat_natCast];refine wf 4 ?_;conv=>whnf
   refine wt 6 ?_;conv=>whnf
   refine wt 7 ?_;conv=>whnf
   refine wi 8 ?_;conv=>whnf
   refine ⟨oo, ?_⟩;conv=>whnf
   rw [Int.toNat_natCast];refine w2 5 9 ?_ ?_ <;> conv=>whnf
   ·refine w1 9 ?_;conv=>whnf
    refine wt 10 ?_;conv=>whnf
    refine w1 11 ?_;conv=>whnf
    refine zc rfl (ze2 none Q (yC T i, ds.getD q 0, 1) _ hokq (by omega) rfl) λhs' hhs => ?_;try dsimp only at hhs
    conv=>whnf
    refine w1 12 ?_;conv=>whnf
    refine wd1 (hK6 _ ?_);clear hK6;refine wrg ?_;conv=>whnf
    refine ⟨oo, ?_⟩;conv=>whnf
    exact ze ⟨q + 1, _, _, by omega, hnq.symm, rfl, rfl, rfl⟩
   ·refine w1 5 ?_;conv=>whnf
    refine wt 10 ?_;conv=>whnf
    refine w1 11 ?_;conv=>whnf
    refine zc rfl (ze2 none Q (yC T i, ds.getD q 0, 1) _ hokq (by omega) rfl) λhs' hhs => ?_;try dsimp only at hhs
    conv=>whnf
    refine w1 12 ?_;conv=>whnf
    refine wd1 (hK6 _ ?_);clear hK6;refine wrg ?_;conv=>whnf
    refine ⟨oo, ?_⟩;conv=>whnf
    exact ze ⟨q + 1, _, _, by omega, hnq.symm, rfl, rfl, rfl⟩
-- 2 ways
  ·obtain rfl : q = ds.length := by omega
   subst hQ;refine W.exit (hK8 _ ?_);clear hK7 hK8;refine wrg ?_;conv=>whnf
   refine ⟨oo, ?_⟩;conv=>whnf
   exact ze ⟨i + 1, n', _, by omega, hnx.symm, hn', rfl, rfl⟩
 ·obtain rfl : i = T.length := by omega
  subst hS hn;refine W.exit (hK1 _ ?_);clear hK7 hK1;refine wrs λK hK => ?_;conv=>whnf
  refine hK _ (W.ret ?_);conv=>whnf
  exact ⟨.v (vSs (Spl.putO (yC T) (λi => zN (F i) (F i).length) T.length)), ⟨rfl, rfl, rfl, λ_ _ => rfl⟩, ⟨trivial, λ_ _ => ⟨trivial, trivial, trivial, trivial⟩⟩, rfl⟩

open Go Go.RowKit Go.Proofs Poly Hull

def cxi (ks : List Nat) : Cx := { F := Fn Tryz.prog, M := MFn Tryz.prog, T := FnT Tryz.prog, ms := [(122, 0)], ts := [], tt := tt, eqs := eqs, gh := .no, ks := ks }
theorem znC (ks : List Nat) : OkCx Tryz.prog (cxi ks) := ⟨λ_ _ _ h => h, λ_ _ _ _ _ _ h => h, λ_ _ _ h => h, zhl, zdN⟩

abbrev zmh (f : Nat) (xs : List V) (S : List Spl.Sp) (code : Int) : Prop := Fn Tryz.prog f xs (λ_ _ z => ∃ b, z = .tupO 0 (.ownV 61 3 b S.length λj => vS (S.getD j (0, 0, 0))) [.nil, .int .i64 code])


theorem zaj (p : Int) [SP p] (g : Option Nat) (l : List Int) (hcode : zu p l = 0) (T : List (Int × Int × Int)) (hT : T.length <= 100) (hrun : ∀ k, k < T.length -> 1 <= yC T k ∧ yC T k <= 1000) (hslo : FnV 104 [.int .i64 p, .ints g l] (vSs T)) (R : Nat -> Poly p) (F : Nat -> List (Poly p × Nat))
  (hR : ∀ i, i < T.length -> dg (R i) <= 9 ∧ R i ≠ 0 ∧ FacOf (R i) (F i)) (hD : ∀ i, i < T.length -> (zN (F i) (F i).length).length <= 100 ∧ ∀ q, q < (zN (F i) (F i).length).length -> 1 <= (zN (F i) (F i).length).getD q 0 ∧ (zN (F i) (F i).length).getD q 0 <= 1000)
  (hres : ∀ i : Nat, i < T.length -> FnI 105 [.int .i64 p, .ints g l, .int .i64 i] (R i).l) (hreg : FnV 97 [.int .i64 p, .ints g l] (.bool (bP (zbT p R T.length)))) (hr : zbT p R T.length) :
  zmh 58 [.int .i64 p, .ints g l] (Spl.putO (yC T) (λi => zN (F i) (F i).length) T.length) 0 := by
 refine zfo (cx := cx [0, 1, 4, 5, 6, 7, 8, 9, 11, 12, 13, 14, 19, 24, 27, 28, 29, 30, 39, 40, 41, 42, 55]) 0 4 5 Tryz.func58 rfl (by decide) Tryz.ntmps58 (lb rfl) rfl (by decide) rfl λbase => ?_;refine wrs λK hK => ?_;conv=>whnf
 refine hK _ (W.seqK λK1 hK1 => wrs λK hK => ?_);conv=>whnf
 refine zc rfl (kS g p l) λhs' hhs => ?_;try dsimp only at hhs
 conv=>whnf
 rw [hcode];refine hK _ (wrs λK hK => ?_);conv=>whnf
 refine hK _ (W.cond ⟨λhcc => absurd rfl (of_decide_eq_true hcc), λ_ => W.skip (hK1 _ ?_)⟩);clear hK hK1;refine W.seqK λK1 hK1 => wrs λK hK => ?_;conv=>whnf
 refine zc rfl (hreg) λhs' hhs => ?_;try dsimp only at hhs
 conv=>whnf
 rw [yl hr];conv=>whnf
 refine hK _ (W.cond ⟨λh => absurd h (by decide), λ_ => W.skip (hK1 _ ?_)⟩);clear hK hK1;refine wrs λK hK => ?_;conv=>whnf
 refine hK _ (W.seqK λK1 hK1 => wrs λK hK => ?_);conv=>whnf
 refine zc rfl (hslo) λhs' hhs => ?_;try dsimp only at hhs
 conv=>whnf
 refine hK _ (W.block (W.invA (λm e => ∃ (i b n : Nat) (L : List Spl.Sp), i <= T.length ∧ L = Spl.putO (yC T) (λi => zN (F i) (F i).length) i ∧ n = L.length ∧ m = T.length - i ∧ e = [(0, .v (.int .i64 p)), (1, .v (.ints g l)), (7, .ownV 61 3 b n λj => vS (L.getD j (0, 0, 0))), (27, .v (vSs T)), (28, .v (.int .i64 T.length)), (29, .v (.int .i64 i))]) ⟨0, 0, 0, [], Nat.zero_le _, rfl, rfl, rfl, rfl⟩ ?_));clear hK;rintro m e ⟨i, b, n, L, h1, hL, hn, hm, rfl⟩;refine wrs λK hK => ?_;conv=>whnf
 refine hK _ ?_;clear hK;refine W.seqK λK7 hK7 => W.cond ⟨λh3 => ?_, λh3 => ?_⟩ <;> (first | replace h3 := of_decide_eq_true h3 | replace h3 := of_decide_eq_false h3)
 ·have hi : i < T.length := by omega
  obtain ⟨h9, h0, hF⟩ := hR i hi;obtain ⟨hd1, hd2⟩ := hD i hi;have hok := Spl.putO_ok (run := yC T) (ds := λi => zN (F i) (F i).length) (n := T.length) (m := 100) hrun hD i (by omega);rw [<- hL] at hok;generalize hds : zN (F i) (F i).length = ds at hd1 hd2;have hnx : Spl.putO (yC T) (λi => zN (F i) (F i).length) (i + 1) = Spl.putI (yC T i) ds L ds.length := by rw [Spl.putO, <- hL, hds]
  refine W.skip (hK7 _ ?_);clear hK7;refine W.seqK λK8 hK8 => W.block ?_;refine wrs λK hK => ?_;conv=>whnf
  refine ⟨oo, ?_⟩;conv=>whnf
  rw [Int.toNat_natCast];intro b_9 hs_9 hh_9 hf_9;try dsimp only at hh_9 hf_9
  conv=>whnf
  refine ⟨s23, ?_⟩;conv=>whnf
  refine hK _ (wrs λK hK => ?_);conv=>whnf
  refine zv rfl (hres i hi) λhs_1 b_1 hh_1 hf_1 => ?_;try dsimp only at hh_1 hf_1
  conv=>whnf
  refine zc rfl (zf2 p _ (R i) (F i) hF h0 (by omega)) λhs' hhs => ?_;try dsimp only at hhs
  conv=>whnf
  rw [hds];refine hK _ (W.block (W.invA (λm e => ∃ (q b n : Nat) (Q : List Spl.Sp), q <= ds.length ∧ Q = Spl.putI (yC T i) ds L q ∧ n = Q.length ∧ m = ds.length - q ∧ e = [(0, .v (.int .i64 p)), (1, .v (.ints g l)), (7, .ownV 61 3 b n λj => vS (Q.getD j (0, 0, 0))), (9, .ownB b_9 (vS (T.getD i (0, 0, 0)))), (27, .v (vSs T)), (28, .v (.int .i64 T.length)), (29, .v (.int .i64 i)), (39, .v (.ints none ds)), (40, .v (.int .i64 ds.length)), (41, .v (.int .i64 q))]) ⟨0, b, n, L, Nat.zero_le _, rfl, hn, rfl, rfl⟩ ?_));clear hK;rintro m' e ⟨q, b', n', Q, h4, hQ, hn', hm', rfl⟩;refine wrs λK hK => ?_;conv=>whnf
  refine hK _ ?_;clear hK;refine W.seqK λK7 hK7 => W.cond ⟨λh5 => ?_, λh5 => ?_⟩ <;> (first | replace h5 := of_decide_eq_true h5 | replace h5 := of_decide_eq_false h5)
  ·have hq : q < ds.length := by omega
   have hokq := Spl.putI_ok hok (hrun i hi) hd2 q (by omega);rw [<- hQ] at hokq;have hfew := hokq.few;have hi100 : i * 100 <= 100 * 100 := Nat.mul_le_mul_right _ (by omega);obtain ⟨x, hx⟩ : ∃ x : Spl.Sp, x = (yC T i, ds.getD q 0, 1) := ⟨_, rfl⟩
   have hnq : Spl.putI (yC T i) ds L (q + 1) = Spl.put Q x := by rw [Spl.putI, <- hQ, hx]
   have e12 : V.agg [.int .i64 (T.getD i (0, 0, 0)).2.1, .int .i64 (ds.getD q 0), .int .i64 1] = vS x := by rw [hx]
   have hple := (Spl.pos_at Q x).le;subst hn';refine W.skip (hK7 _ (W.seqK λK6 hK6 => W.block ?_));clear hK7;refine wrs λK hK => ?_;conv=>whnf
   refine ⟨oo, ?_⟩;conv=>whnf
   rw [Int.toNat_natCast];refine hK _ (wrs λK hK => ?_);conv=>whnf
   intro b_12 hs_12 hh_12 hf_12;try dsimp only at hh_12 hf_12
   conv=>whnf
   refine ⟨s23, ?_⟩;conv=>whnf
   refine hK _ (W.weak (t := ⟨[(0, .v (.int .i64 p)), (1, .v (.ints g l)), (7, .ownV 61 3 b' Q.length λj => vS (Q.getD j (0, 0, 0))), (9, .ownB b_9 (vS (T.getD i (0, 0, 0)))), (12, .ownB b_12 (vS x)), (27, .v (vSs T)), (28, .v (.int .i64 T.length)), (29, .v (.int .i64 i)), (39, .v (.ints none ds)), (40, .v (.int .i64 ds.length)), (41, .v (.int .i64 q))], base⟩) ⟨by dsimp only; omega, ?_⟩ (Nat.le_refl _) ?_)
   ·rw [<- e12];clear hK hK6;exact cvr
   clear hK;refine wrs λK hK => ?_;conv=>whnf
   refine zc rfl (ziL _ Q x hokq.srt (by omega)) λhs' hhs => ?_;try dsimp only at hhs
   conv=>whnf
   refine hK _ (wrs λK hK => ?_);conv=>whnf
   refine hK _ (W.cond ⟨λh => ?_, λh => ?_⟩) <;> clear hK
   ·have ht := zaG.1 h;have hbk := hokq.bd _ ht.1;have hlt := ht.1;have hput := Spl.put_there ht;have hpl : (Spl.put Q x).length = Q.length := by rw [hput, List.length_set]
    have hg : ∀ j, (Spl.put Q x).getD j Spl.z0 = if j = Spl.pos Q x then Spl.more (Q.getD (Spl.pos Q x) Spl.z0) x.2.2 else Q.getD j Spl.z0 := λj => by rw [hput]; exact Spl.set_getD hlt
    have hx1 : x.2.2 = 1 := by rw [hx]
    refine wrg ?_;conv=>whnf
    refine ⟨oo, ?_⟩;conv=>whnf
    rw [Int.toNat_natCast];refine ⟨by show _ <= (Q.getD (Spl.pos Q x) Spl.z0).2.2 + 1 ∧ (Q.getD (Spl.pos Q x) Spl.z0).2.2 + 1 <= _; have := hbk.2.2; omega, ?_⟩;conv=>whnf
    refine ⟨oo, ?_⟩;conv=>whnf
    rw [Int.toNat_natCast];refine ⟨⟨by show 2 + 1 <= 3; omega, rfl⟩, ?_⟩;conv=>whnf
    refine ⟨λj => vS ((Spl.put Q x).getD j Spl.z0), by show vS _ = _; rw [hg, if_pos rfl]; show vS ((Q.getD (Spl.pos Q x) Spl.z0).1, (Q.getD (Spl.pos Q x) Spl.z0).2.1, (Q.getD (Spl.pos Q x) Spl.z0).2.2 + x.2.2) = _; rw [hx1]; rfl, λj hj hjk => by show vS _ = vS _; rw [hg, if_neg hjk], ?_⟩;conv=>whnf
    refine hK6 _ ?_;clear hK6;refine wrg ?_;conv=>whnf
    refine ⟨oo, ?_⟩;conv=>whnf
    exact ze ⟨q + 1, b', Q.length, Spl.put Q x, by omega, hnq.symm, hpl.symm, rfl, rfl⟩
   ·have ht := zl4 h;have hput := Spl.put_not ht;have hpl : (Spl.put Q x).length = Q.length + 1 := by rw [hput]; exact Spl.ins_len hple
    have hg : ∀ j, (Spl.put Q x).getD j Spl.z0 = if j < Spl.pos Q x then Q.getD j Spl.z0 else if j = Spl.pos Q x then x else Q.getD (j - 1) Spl.z0 := λj => by rw [hput]; exact Spl.ins_getD hple
    refine W.sw (c' := cxi [0, 1, 4, 5, 6, 7, 8, 9, 11, 12, 13, 14, 19, 24, 27, 28, 29, 30, 39, 40, 41, 42, 55]) (W.region (znC _) (by rfl) ?_);conv=>whnf
    refine ⟨⟨rfl, by decide, λy hy => by simp at hy; subst hy; exact ⟨rfl, rfl⟩⟩, ?_⟩;conv=>whnf
    intro b_1 hs_1 hh_1 hf_1;try dsimp only at hh_1 hf_1
    conv=>whnf
    refine ⟨⟨rfl, rfl⟩, ?_⟩;conv=>whnf
    refine ⟨rfl, _, zmf _ _ _ _ _ _ hple (by omega), ?_⟩;rintro hs' av x' t' hh ⟨rfl, rfl, b2, rfl⟩ _ _ _;try dsimp only at hh
    conv=>whnf
    refine hK6 _ ?_;clear hK6;refine wrg ?_;conv=>whnf
    refine ⟨oo, ?_⟩;conv=>whnf
    refine ⟨_, _, ⟨q + 1, b2, Q.length + 1, Spl.put Q x, by omega, hnq.symm, hpl.symm, rfl, rfl⟩, by omega, by dsimp only; omega, ?_⟩
    have hfin : ∀ j, j < Q.length + 1 -> zcs (λj => vS (Q.getD j (0, 0, 0))) (Spl.pos Q x) (vS x) j = vS ((Spl.put Q x).getD j (0, 0, 0)) := λj _ => by
     show _ = vS ((Spl.put Q x).getD j Spl.z0)
     rw [hg];unfold zcs
     split
     ·rfl
     split <;> rfl
    repeat' first | refine And.intro ?_ ?_ | exact trivial | rfl | omega | exact .inl rfl | exact hfin | exact λ_ _ => rfl | exact λ_ _ h => h | assumption
  ·obtain rfl : q = ds.length := by omega
   subst hQ;refine W.exit (hK8 _ ?_);clear hK7 hK8;refine wrg ?_;conv=>whnf
   refine ⟨oo, ?_⟩;conv=>whnf
   exact ze ⟨i + 1, b', n', _, by omega, hnx.symm, hn', rfl, rfl⟩
 ·obtain rfl : i = T.length := by omega
  subst hL hn;refine W.exit (hK1 _ ?_);clear hK7 hK1;refine W.sw (c' := cxr [0, 1, 4, 5, 6, 7, 8, 9, 11, 12, 13, 14, 19, 24, 27, 28, 29, 30, 39, 40, 41, 42, 55]) (W.rs (zfK _) (by rfl) λK hK => ?_);conv=>whnf
  refine hK _ (W.ret ?_);conv=>whnf
  refine ⟨.ownV 61 3 b (Spl.putO (yC T) (λi => zN (F i) (F i).length) T.length : List Spl.Sp).length (λj => vS ((Spl.putO (yC T) (λi => zN (F i) (F i).length) T.length : List Spl.Sp).getD j (0, 0, 0))), ⟨rfl, rfl, rfl, rfl, λ_ _ => rfl⟩, rfl, λ_ _ => ⟨trivial, trivial, trivial, trivial⟩, ?_⟩;conv=>whnf
  exact ⟨.int .i64 0, ⟨rfl, rfl⟩, trivial, b, rfl⟩

open Go Go.RowKit Go.Proofs Poly Hull

structure Newt (p : Int) [SP p] (l : List Int) (T : List (Int × Int × Int)) (R : Nat -> Poly p) (F : Nat -> List (Poly p × Nat)) : Prop where
 one : 1 <= T.length
 few : T.length <= 100
 run : ∀ k, k < T.length -> 1 <= yC T k ∧ yC T k <= 1000
 res : ∀ i, i < T.length -> dg (R i) <= 9 ∧ R i ≠ 0 ∧ FacOf (R i) (F i)
 mod : ∀ i, i < T.length -> kO p (R i).l
 deg : ∀ i, i < T.length -> (zN (F i) (F i).length).length <= 100 ∧ ∀ q, q < (zN (F i) (F i).length).length -> 1 <= (zN (F i) (F i).length).getD q 0 ∧ (zN (F i) (F i).length).getD q 0 <= 1000
 deg1 : ∀ i, i < T.length -> 1 <= (zN (F i) (F i).length).length
 slI : ∀ g : Option Nat, FnV 104 [.int .i64 p, .ints g l] (vSs T)
 slS : ∀ g : Option Nat, FnV 107 [.int .i64 p, .ints g l] (vSs T)
 reI : ∀ (g : Option Nat) (i : Nat), i < T.length -> FnI 105 [.int .i64 p, .ints g l, .int .i64 i] (R i).l
 reS : ∀ (g : Option Nat) (i : Nat), i < T.length -> FnI 108 [.int .i64 p, .ints g l, .int .i64 i] (R i).l
 two : ∀ i, i < T.length -> 2 <= (R i).l.length ∧ cf (R i).l 0 ≠ 0
 sum : Spl.sumO (yC T) (λi => zN (F i) (F i).length) T.length = (l.length : Int) - 1

theorem zhD {p : Int} [SP p] {F : List (Poly p × Nat)} (h : ∀ j, j < F.length -> dg (F.getD j (0, 0)).1 <= 13 ∧ 2 <= dg (F.getD j (0, 0)).1) : ∀ k, k <= F.length -> ∀ x ∈ zN F k, 1 <= x ∧ x <= 1000
 | 0, _, x, hx => by cases hx
 | k + 1, hk, x, hx => by
  rw [zN, List.mem_append] at hx;rcases hx with hx | hx
  ·exact zhD h k (by omega) x hx
  ·have h1 := h k (by omega);obtain rfl := (List.mem_replicate.1 hx).2;show 1 <= ((dg (F.getD k (0, 0)).1 : Nat) : Int) - 1 ∧ ((dg (F.getD k (0, 0)).1 : Nat) : Int) - 1 <= 1000
   omega

theorem ze3 {p : Int} [SP p] {F : List (Poly p × Nat)} (h : ∀ j, j < F.length -> (F.getD j (0, 0)).2 <= 9) : ∀ k, k <= F.length -> (zN F k).length <= 9 * k
 | 0, _ => Nat.le_refl _
 | k + 1, hk => by
  have h1 := ze3 h k (by omega);have h2 := h k (by omega);rw [zN, List.length_append, List.length_replicate]; omega
theorem zd2 {p : Int} [SP p] {f : Poly p} {F : List (Poly p × Nat)} (hF : FacOf f F) (h2 : 2 <= dg f) (h9 : dg f <= 9) : (zN F F.length).length <= 100 ∧ 1 <= (zN F F.length).length ∧ ∀ x ∈ zN F F.length, 1 <= x ∧ x <= 1000 := by
 have hf0 : f ≠ 0 := λe => by rw [e, zt] at h2; omega
 have hfs := hF.fac hf0 (by omega);have hfew := hF.facs.few hf0
 have hm : ∀ j, j < F.length -> 1 <= (F.getD j (0, 0)).2 ∧ (F.getD j (0, 0)).2 <= 9 := λj hj => by
  obtain ⟨h3, _, h4, h5⟩ := (hF.2 (F.getD j (0, 0))).1 (by rw [yR hj]; exact List.getElem_mem hj);obtain ⟨u, hu, _⟩ := h5;have h6 := zD (⟨u, hu⟩ : (F.getD j (0, 0)).1 ^ (F.getD j (0, 0)).2 ∣ f) hf0;have h7 := kH h3.1 (F.getD j (0, 0)).2;exact ⟨h4, by omega⟩
 have h1 := ze3 (λj hj => (hm j hj).2) _ (Nat.le_refl _);obtain ⟨h, hi, hmo, hd⟩ := vM _ f (Nat.le_refl _) h2;obtain ⟨e, he⟩ := yK hi.1 _ f hf0 (Nat.le_refl _)
 have he1 : 1 <= e := by
  rcases Nat.eq_zero_or_pos e with h0 | h0
  ·subst h0; exact absurd hd (zY.1 he)
  ·exact h0
 have hmem : (h, e) ∈ F := (hF.2 (h, e)).2 ⟨hi, hmo, he1, he⟩;have hpos : 0 < F.length := List.length_pos_of_mem hmem;obtain ⟨k, hk⟩ : ∃ k, F.length = k + 1 := ⟨F.length - 1, by omega⟩
 refine ⟨by omega, ?_, λx hx => zhD (λj hj => ⟨(hfs j hj).1, (hfs j hj).2.1⟩) _ (Nat.le_refl _) x hx⟩;rw [hk, zN, List.length_append, List.length_replicate];have := (hm k (by omega)).1;omega

theorem zd3 {p : Int} {l : List Int} (h : cf l 0 ≠ 0) : ∀ k, ((yi p l (k + 1)).getD 0 (0, 0)).1 = 0 ∧ 0 < (yi p l (k + 1)).length
 | 0 => by rw [vT h, yi]; exact ⟨rfl, Nat.zero_lt_one⟩
 | k + 1 => by
  obtain ⟨h1, h2⟩ := zd3 h k;rw [yi, List.length_append, List.getD_eq_getElem?_getD, List.getElem?_append_left h2, <- List.getD_eq_getElem?_getD];exact ⟨h1, by omega⟩
theorem znD (p : Int) (l : List Int) (hcode : zu p l = 0) : ∃ hp : p ∈ yX, letI := zgR hp; isP p = true ∧ ∃ T R F, Newt p l T R F := by
 have hq : isP p = true ∧ yv l ∧ ¬ (l.length < 2 ∨ cf l 0 = 0) := by
  unfold zu at hcode;cases h1 : isP p
  ·rw [h1, cond_false] at hcode; exact absurd hcode (by decide)
  cases h2 : bP (yv l)
  ·rw [h1, h2, cond_true, cond_false] at hcode; exact absurd hcode (by decide)
  rw [h1, h2, cond_true, cond_true] at hcode
  by_cases h3 : l.length < 2 ∨ cf l 0 = 0
  ·rw [if_pos h3] at hcode; exact absurd hcode (by decide)
  ·exact ⟨rfl, zaG.1 h2, h3⟩
 obtain ⟨hP, ⟨hl9, hall, hlast⟩, hne⟩ := hq;have hp : p ∈ yX := of_decide_eq_true hP;refine ⟨hp, ?_⟩;letI := zgR hp;refine ⟨hP, ?_⟩;have hp2 := ziD hP
 have hb : ∀ j, -1000000 <= cf l j ∧ cf l j <= 1000000 := λj => by
  rcases Nat.lt_or_ge j l.length with h | h
  ·exact hall j h
  ·rw [z1 h]; decide
 have h2 : 2 <= l.length := by omega
 have h0 : cf l 0 ≠ 0 := λh => hne (.inr h)
 have hlst : cf l (l.length - 1) ≠ 0 := by
  rcases hlast with h | h
  ·omega
  ·exact h
 obtain ⟨P, hPe⟩ : ∃ P, P = yi p l l.length := ⟨_, rfl⟩
 have hPlen := jH p l l.length
 have hsz : 2 <= P.length := by
  obtain ⟨k, hk⟩ : ∃ k, l.length = k + 2 := ⟨l.length - 2, by omega⟩
  have e1 : ∀ j, 1 <= (yi p l (j + 1)).length := by
   intro j
   induction j with
   | zero => rw [vT h0]; simp
   | succ j ih => rw [yi, List.length_append]; omega
  rw [hPe, hk, show k + 2 = (k + 1) + 1 by omega, vT (by rw [show k + 1 = l.length - 1 by omega]; exact hlst), List.length_append];have := e1 k;simp; omega
 obtain ⟨n, hn⟩ : ∃ n, P.length = n + 1 := ⟨P.length - 1, by omega⟩
 have hPb : PtB P := λi => by rw [hPe]; exact zmT hp2.1 hb (by omega) i
 have hX : ∀ i j, i < j -> j <= n -> pX P i < pX P j := λi j hij hj => by rw [hPe]; exact zmS p l _ hij (by rw [<- hPe]; omega)
 obtain ⟨C, hC, hCl⟩ := zdK (Y := pY P) hX;have hcr : Crn (cnL P C) := zny hPb hX hC hCl (by rw [hPe] at hn; omega);obtain ⟨L, hL⟩ : ∃ L, L = cnL P C := ⟨_, rfl⟩
 have hLl : L.length = C.length := by rw [hL]; unfold cnL; rw [List.length_map]
 have hcor : ∀ j, j < L.length -> Cor p l (L.getD j (0, 0)) := λj hj => by
  rw [hL, kR (by omega), hPe];exact zlS (by rw [<- hPe]; have := znx hC j (by omega); omega)
 have hL2 : 2 <= L.length := by
  rw [hLl];refine Classical.byContradiction λh => ?_;have h1 := hC.pos;have h3 : C.length - 1 = 0 := by omega
  rw [h3, hC.first] at hCl;omega
 rw [<- hL] at hcr;have hpI : ∀ g : Option Nat, FnV 161 [.int .i64 p, .ints g l] (vCs L) := λg => by rw [hL]; exact ziG p g l hp2 (by omega) hb P hPe n hn hPb hX C hC hCl
 have hpS : ∀ g : Option Nat, FnV 163 [.int .i64 p, .ints g l] (vCs L) := λg => by rw [hL]; exact zek p g l hp2 (by omega) hb P hPe n hn hPb hX C hC hCl
 have hTl := jc L (L.length - 1)
 -- the pieces
 have hln : ∀ i, i + 1 < L.length -> Ln (L.getD i (0, 0)) (L.getD (i + 1) (0, 0)) (Int.gcd ((L.getD (i + 1) (0, 0)).1 - (L.getD i (0, 0)).1) ((L.getD (i + 1) (0, 0)).2 - (L.getD i (0, 0)).2)) (sl (L.getD i (0, 0)) (L.getD (i + 1) (0, 0))).2.1 (sl (L.getD i (0, 0)) (L.getD (i + 1) (0, 0))).1 :=
  λi hi => znS (hcr.lt i hi)
 let gg : Nat -> Nat := λi => Int.gcd ((L.getD (i + 1) (0, 0)).1 - (L.getD i (0, 0)).1) ((L.getD (i + 1) (0, 0)).2 - (L.getD i (0, 0)).2)
 let rn : Nat -> Int := λi => (sl (L.getD i (0, 0)) (L.getD (i + 1) (0, 0))).2.1
 let rs : Nat -> Int := λi => (sl (L.getD i (0, 0)) (L.getD (i + 1) (0, 0))).1
 have hln : ∀ i, i + 1 < L.length -> Ln (L.getD i (0, 0)) (L.getD (i + 1) (0, 0)) (gg i) (rn i) (rs i) := hln
 have hx8 : ∀ i, i + 1 < L.length -> (L.getD (i + 1) (0, 0)).1 - (L.getD i (0, 0)).1 <= 8 := λi hi => by
  obtain ⟨a, a1, _, a3⟩ := hcor i (by omega);obtain ⟨b, b1, _, b3⟩ := hcor (i + 1) hi;rw [a3, b3]; dsimp only; omega
 have hbd : ∀ i, i + 1 < L.length -> (gg i : Int) <= 8 ∧ 1 <= rn i ∧ rn i <= 8 := λi hi => by
  have h3 := hln i hi;have h4 := h3.ex;have h5 := h3.run1;have h6 := h3.g1;have h7 := hx8 i hi;have h8 : 1 * (gg i : Int) <= rn i * gg i := Int.mul_le_mul_of_nonneg_right h5 (by omega);have h9 : rn i * 1 <= rn i * gg i := Int.mul_le_mul_of_nonneg_left (by omega) (by omega);omega
 have hrs : ∀ i, i + 1 < L.length -> -100 <= rs i ∧ rs i <= 100 := λi hi => by
  have b1 := hcr.bd i;have b2 := hcr.bd (i + 1);unfold pX pY at b1 b2;exact vV (by omega)
 have hpc : ∀ i, i + 1 < L.length -> Pc p l L i ((L.getD i (0, 0)).1, (L.getD i (0, 0)).2) (L.getD (i + 1) (0, 0)) (gg i) (rn i) (rs i) := λi hi => by
  have h3 := hbd i hi;have b1 := hcr.bd i;exact { ha := rfl, hi := hi, hs := zf0 L _ i (by omega), ln := hln i hi, ca := hcor i (by omega), cb := hcor (i + 1) hi, g8 := by omega, r8 := by omega, b8 := by have := hx8 i hi; dsimp only; omega, s8 := hrs i hi, p8 := b1 }
 -- the residual polynomials
 let RL : Nat -> List Int := λi => xp p l (L.getD i (0, 0)) (rn i) (rs i) (gg i + 1)
 have hRn : ∀ i, i + 1 < L.length -> Nrm p (RL i) := λi hi => zhf hp2.1 (hln i hi) (hcor (i + 1) hi);have hRl : ∀ i, i + 1 < L.length -> (of p (RL i)).l = RL i := λi hi => zle (hRn i hi);have hRd : ∀ i, i + 1 < L.length -> dg (of p (RL i)) = gg i + 1 := λi hi => by show (of p (RL i)).l.length = _; rw [hRl i hi]; exact y5 ..
 have hR0 : ∀ i, i + 1 < L.length -> of p (RL i) ≠ 0 := λi hi h => by have := hRd i hi; rw [h, zt] at this; omega
 have hF : ∀ i, ∃ F, i + 1 < L.length -> FacOf (of p (RL i)) F := λi => by
  by_cases hi : i + 1 < L.length
  ·obtain ⟨F, hF⟩ := ziq (hR0 i hi); exact ⟨F, λ_ => hF⟩
  ·exact ⟨[], λh => absurd h hi⟩
 have hidx : ∀ {i}, i < (slT L (L.length - 1)).length -> i + 1 < L.length := λ{i} h => by rw [hTl] at h; omega
 have hdeg : ∀ i, i + 1 < L.length -> (zN (hF i).choose (hF i).choose.length).sum = gg i := λi hi => by
  have h1 := (hF i).choose_spec hi;have h2 := zhC h1 _ (Nat.le_refl _);rw [h2, <- znA h1 (hR0 i hi), hRd i hi]; omega
 have hrun : ∀ k, k + 1 < L.length -> yC (slT L (L.length - 1)) k = rn k := λk hk => by unfold yC; rw [zf0 L _ k (by omega)]
 have hsum : ∀ k, k + 1 <= L.length -> Spl.sumO (yC (slT L (L.length - 1))) (λi => zN (hF i).choose (hF i).choose.length) k = (L.getD k (0, 0)).1 - (L.getD 0 (0, 0)).1 := by
  intro k
  induction k with
  | zero => intro _; rw [Spl.sumO]; omega
  | succ k ih =>
   intro hk;rw [Spl.sumO, ih (by omega), hrun k (by omega), hdeg k (by omega)];have := (hln k (by omega)).ex;omega
 have hfirst : (L.getD 0 (0, 0)).1 = 0 := by
  rw [hL, kR (by omega), hC.first, hPe];obtain ⟨k, hk⟩ : ∃ k, l.length = k + 1 := ⟨l.length - 1, by omega⟩
  rw [hk]; exact (zd3 h0 k).1
 have hlastx : (L.getD (L.length - 1) (0, 0)).1 = (l.length : Int) - 1 := by
  rw [hLl, hL, kR (by omega), hCl];obtain ⟨k, hk⟩ : ∃ k, l.length = k + 1 := ⟨l.length - 1, by omega⟩
  have h5 : cf l k ≠ 0 := by rw [show k = l.length - 1 by omega]; exact hlst
  have h6 : n = (yi p l k).length := by rw [hPe, hk, vT h5, List.length_append] at hn; simp at hn; omega
  rw [hPe, hk, vT h5, h6, List.getD_eq_getElem?_getD, List.getElem?_append_right (Nat.le_refl _), Nat.sub_self];show ((k : Nat) : Int) = ((k + 1 : Nat) : Int) - 1
  omega
 refine ⟨slT L (L.length - 1), λi => of p (RL i), λi => (hF i).choose, by rw [hTl]; omega, by rw [hTl]; have := hcr.few; omega, λk hk => ?_, λi hi => ?_, λi hi => ?_, λi hi => ?_, λi hi => ?_, λg => ze0 p g l L hcr (hpI g), λg => zbk p g l L hcr (hpS g), λg i hi => ?_, λg i hi => ?_, λi hi => ?_, ?_⟩
 ·have h3 := hbd k (hidx hk);have e : yC (slT L (L.length - 1)) k = rn k := by unfold yC; rw [zf0 L _ k (by rw [hTl] at hk; exact hk)]
  rw [e]; omega
 ·have h3 := hbd i (hidx hi);exact ⟨by rw [hRd i (hidx hi)]; omega, hR0 i (hidx hi), (hF i).choose_spec (hidx hi)⟩
 ·have h3 := hbd i (hidx hi);have h4 := hRn i (hidx hi);show kO p (of p (RL i)).l
  rw [hRl i (hidx hi)];have hlen : (RL i).length = gg i + 1 := y5 ..;refine ⟨hP, by rw [hlen]; omega, λj hj => ?_, .inr ?_⟩
  ·rw [v6 hj];have := h4.1 _ (List.getElem_mem hj);omega
  ·rw [hlen]; exact h4.2 (gg i) hlen
 ·have h3 := hbd i (hidx hi);obtain ⟨h4, _, h5⟩ := zd2 ((hF i).choose_spec (hidx hi)) (by rw [hRd i (hidx hi)]; have := (hln i (hidx hi)).g1; omega) (by rw [hRd i (hidx hi)]; omega);exact ⟨h4, λq hq => by rw [yR hq]; exact h5 _ (List.getElem_mem hq)⟩
 ·have h3 := hbd i (hidx hi);exact (zd2 ((hF i).choose_spec (hidx hi)) (by rw [hRd i (hidx hi)]; have := (hln i (hidx hi)).g1; omega) (by rw [hRd i (hidx hi)]; omega)).2.1
 ·rw [show ((of p (RL i)).l) = RL i from hRl i (hidx hi)];exact zel p hp2 g l (by omega) hb L (hpI g) (ze0 p g l L hcr (hpI g)) i _ _ _ _ _ _ (hpc i (hidx hi))
 ·rw [show ((of p (RL i)).l) = RL i from hRl i (hidx hi)];exact zdZ p hp2 g l (by omega) hb L (hpS g) (zbk p g l L hcr (hpS g)) i _ _ _ _ _ _ (hpc i (hidx hi))
 ·show 2 <= (of p (RL i)).l.length ∧ cf (of p (RL i)).l 0 ≠ 0
  have h3 := (hln i (hidx hi)).g1;rw [hRl i (hidx hi)];exact ⟨by rw [show (RL i).length = gg i + 1 from y5 ..]; omega, zdL hp2.1 (hcor i (by have := hidx hi; omega)) _⟩
 ·rw [hTl, hsum _ (by omega), hfirst, hlastx, Int.sub_zero]

open Go Go.RowKit Go.Proofs Poly Hull


structure SplB (p : Int) (l : List Int) (S : List Spl.Sp) (code : Int) : Prop where
 ok : Spl.Ok 10000 S
 pos : code = 0 -> 1 <= S.length
 neg : code ≠ 0 -> S = []
 imp : ∀ g : Option Nat, FnV 58 [.int .i64 p, .ints g l] (.tup [vSs S, .int .i64 code])
 spe : ∀ g : Option Nat, FnV 57 [.int .i64 p, .ints g l] (.tup [vSs S, .int .i64 code])
 imq : ∀ g : Option Nat, zmh 58 [.int .i64 p, .ints g l] S code
 cde : zu p l ≠ 0 -> code = zu p l
 reg : zu p l = 0 -> (∀ g : Option Nat, FnV 97 [.int .i64 p, .ints g l] (.bool (decide (code = 0)))) ∧ (∀ g : Option Nat, FnV 99 [.int .i64 p, .ints g l] (.bool (decide (code = 0))))
 tot : code = 0 -> Spl.tot S S.length = (l.length : Int) - 1

theorem zmi (p : Int) (l : List Int) (hl : l.length <= 1048576) : ∃ S code, SplB p l S code := by
 by_cases hcode : zu p l = 0
 case neg =>
  have hq : ∀ g : Option Nat, zmh 58 [.int .i64 p, .ints g l] [] (zu p l) := λg => by
   refine zfo (cx := cx [0, 1, 4, 5, 6, 7, 8, 9, 11, 12, 13, 14, 19, 24, 27, 28, 29, 30, 39, 40, 41, 42, 55]) 0 4 5 Tryz.func58 rfl (by decide) Tryz.ntmps58 (lb rfl) rfl (by decide) rfl λbase => ?_;refine wrs λK hK => ?_;conv=>whnf
   refine hK _ (W.seqK λK1 hK1 => wrs λK hK => ?_);conv=>whnf
   refine zc rfl (kS g p l) λhs' hhs => ?_;try dsimp only at hhs
   conv=>whnf
   refine hK _ (wrs λK hK => ?_);conv=>whnf
   refine hK _ (W.cond ⟨λ_ => ?_, λhcc => absurd hcode (of_decide_eq_false hcc)⟩);clear hK;refine wrs λK hK => ?_;conv=>whnf
   refine hK _ (W.ret ?_);conv=>whnf
   refine ⟨.ownV 61 3 0 ([] : List Spl.Sp).length (λj => vS (([] : List Spl.Sp).getD j (0, 0, 0))), ⟨rfl, by decide⟩, rfl, λ_ _ => ⟨trivial, trivial, trivial, trivial⟩, ?_⟩;conv=>whnf
   exact ⟨.int .i64 (zu p l), ⟨rfl, rfl⟩, trivial, 0, rfl⟩
  refine ⟨[], zu p l, Spl.Ok.nil.le (by decide), λh => absurd h hcode, λ_ => rfl, λg => (hq g).unP, λg => ?_, hq, λ_ => rfl, λh => absurd h hcode, λh => absurd h hcode⟩
  ·refine zf (za [0, 1, 4, 5, 6, 17, 19]) Tryz.func57 rfl (by decide) Tryz.ntmps57 (lb rfl) λbase => ?_;refine wrs λK hK => ?_;conv=>whnf
   refine hK _ (wrs λK hK => ?_);conv=>whnf
   refine zc rfl (zaH g p l (by omega)) λhs' hhs => ?_;try dsimp only at hhs
   conv=>whnf
   refine hK _ (W.seqK λK1 hK1 => wrs λK hK => ?_);conv=>whnf
   refine ⟨λh1 => ?_, λh1 => ?_⟩ <;> conv=>whnf
   ·exact absurd (of_decide_eq_true h1) hcode
   refine hK _ (W.condF rfl (W.skip (hK1 _ ?_)));clear hK hK1;refine W.seqK λK1 hK1 => wrs λK hK => ?_;conv=>whnf
   refine hK _ (W.cond ⟨λ_ => ?_, λhcc => absurd hcode (of_decide_eq_false hcc)⟩);clear hK;refine wrs λK hK => ?_;conv=>whnf
   refine hK _ (W.ret ?_);conv=>whnf
   exact ⟨.v (vSs []), rfl, ⟨trivial, λ_ h => absurd h (Nat.not_lt_zero _)⟩, .v (.int .i64 (zu p l)), ⟨rfl, rfl⟩, trivial, rfl⟩
 case pos =>
  obtain ⟨hp, hP, T, R, F, hN⟩ := znD p l hcode;letI := zgR hp;have hp2 := ziD hP;have hrI : ∀ g : Option Nat, FnV 97 [.int .i64 p, .ints g l] (.bool (bP (zbT p R T.length))) := λg => zf1 p hp2 g l T hN.few (hN.slI g) R (λi hi => ⟨(hN.res i hi).1, (hN.res i hi).2.1⟩) (λi hi => hN.reI g i hi);have hrS : ∀ g : Option Nat, FnV 99 [.int .i64 p, .ints g l] (.bool (bP (zbT p R T.length))) := λg => zem p g l T hN.few (hN.slS g) R (λi hi => ⟨hN.mod i hi, (hN.res i hi).2.1⟩) (λi hi => hN.reS g i hi)
  by_cases hr : zbT p R T.length
  case neg =>
   have hq : ∀ g : Option Nat, zmh 58 [.int .i64 p, .ints g l] [] 4 := λg => by
    refine zfo (cx := cx [0, 1, 4, 5, 6, 7, 8, 9, 11, 12, 13, 14, 19, 24, 27, 28, 29, 30, 39, 40, 41, 42, 55]) 0 4 5 Tryz.func58 rfl (by decide) Tryz.ntmps58 (lb rfl) rfl (by decide) rfl λbase => ?_;refine wrs λK hK => ?_;conv=>whnf
    refine hK _ (W.seqK λK1 hK1 => wrs λK hK => ?_);conv=>whnf
    refine zc rfl (kS g p l) λhs' hhs => ?_;try dsimp only at hhs
    conv=>whnf
    rw [hcode];refine hK _ (wrs λK hK => ?_);conv=>whnf
    refine hK _ (W.cond ⟨λhcc => absurd rfl (of_decide_eq_true hcc), λ_ => W.skip (hK1 _ ?_)⟩);clear hK hK1;refine W.seqK λK1 hK1 => wrs λK hK => ?_;conv=>whnf
    refine zc rfl (hrI g) λhs' hhs => ?_;try dsimp only at hhs
    conv=>whnf
    rw [zJ hr];conv=>whnf
    refine hK _ (W.cond ⟨λ_ => ?_, λh => absurd h (by decide)⟩);clear hK;refine wrs λK hK => ?_;conv=>whnf
    refine hK _ (W.ret ?_);conv=>whnf
    refine ⟨.ownV 61 3 0 ([] : List Spl.Sp).length (λj => vS (([] : List Spl.Sp).getD j (0, 0, 0))), ⟨rfl, by decide⟩, rfl, λ_ _ => ⟨trivial, trivial, trivial, trivial⟩, ?_⟩;conv=>whnf
    exact ⟨.int .i64 4, ⟨rfl, rfl⟩, trivial, 0, rfl⟩
   refine ⟨[], 4, Spl.Ok.nil.le (by decide), λh => absurd h (by decide), λ_ => rfl, λg => (hq g).unP, λg => ?_, hq, λh => absurd hcode h, λ_ => ⟨λg => by have h := hrI g; rw [zJ hr] at h; exact h, λg => by have h := hrS g; rw [zJ hr] at h; exact h⟩, λh => absurd h (by decide)⟩
   ·refine zf (za [0, 1, 4, 5, 6, 17, 19]) Tryz.func57 rfl (by decide) Tryz.ntmps57 (lb rfl) λbase => ?_;refine wrs λK hK => ?_;conv=>whnf
    refine hK _ (wrs λK hK => ?_);conv=>whnf
    refine zc rfl (zaH g p l (by omega)) λhs' hhs => ?_;try dsimp only at hhs
    conv=>whnf
    rw [hcode];refine hK _ (W.seqK λK1 hK1 => wrs λK hK => ?_);conv=>whnf
    refine ⟨λh1 => ?_, λh1 => ?_⟩ <;> conv=>whnf
    ·refine zc rfl (hrS g) λhs' hhs => ?_;try dsimp only at hhs
     conv=>whnf
     rw [zJ hr];conv=>whnf
     refine hK _ (W.cond ⟨λ_ => ?_, λh => absurd h (by decide)⟩);clear hK;refine wrg ?_;conv=>whnf
     refine hK1 _ ?_;clear hK1;refine W.seqK λK1 hK1 => wrs λK hK => ?_;conv=>whnf
     refine hK _ (W.cond ⟨λ_ => ?_, λh => absurd h (by decide)⟩);clear hK;refine wrs λK hK => ?_;conv=>whnf
     refine hK _ (W.ret ?_);conv=>whnf
     exact ⟨.v (vSs []), rfl, ⟨trivial, λ_ h => absurd h (Nat.not_lt_zero _)⟩, .v (.int .i64 4), ⟨rfl, rfl⟩, trivial, rfl⟩
    ·exact absurd rfl (of_decide_eq_false h1)
  case pos =>
   have hok := Spl.putO_ok (run := yC T) (ds := λi => zN (F i) (F i).length) (n := T.length) (m := 100) hN.run hN.deg T.length (Nat.le_refl _);have h1 := hN.one;have h100 : T.length * 100 <= 100 * 100 := Nat.mul_le_mul_right _ hN.few
   have hne : Spl.putO (yC T) (λi => zN (F i) (F i).length) T.length ≠ [] := by
    obtain ⟨k, hk⟩ : ∃ k, T.length = k + 1 := ⟨T.length - 1, by omega⟩
    rw [hk, Spl.putO];exact Spl.putI_ne _ (hN.deg1 k (by omega))
   refine ⟨Spl.putO (yC T) (λi => zN (F i) (F i).length) T.length, 0, hok.le (by omega), λ_ => List.length_pos_iff.2 hne, λh => absurd rfl h, λg => (zaj p g l hcode T hN.few hN.run (hN.slI g) R F hN.res hN.deg (hN.reI g) (hrI g) hr).unP, λg => ?_, λg => zaj p g l hcode T hN.few hN.run (hN.slI g) R F hN.res hN.deg (hN.reI g) (hrI g) hr, λh => absurd hcode h, λ_ => ⟨λg => by have h := hrI g; rw [yl hr] at h; exact h, λg => by have h := hrS g; rw [yl hr] at h; exact h⟩, λ_ => by rw [Spl.tot_eq, Spl.tot_putO]; exact hN.sum⟩;refine zf (za [0, 1, 4, 5, 6, 17, 19]) Tryz.func57 rfl (by decide) Tryz.ntmps57 (lb rfl) λbase => ?_;refine wrs λK hK => ?_;conv=>whnf
   refine hK _ (wrs λK hK => ?_);conv=>whnf
   refine zc rfl (zaH g p l (by omega)) λhs' hhs => ?_;try dsimp only at hhs
   conv=>whnf
   rw [hcode];refine hK _ (W.seqK λK1 hK1 => wrs λK hK => ?_);conv=>whnf
   refine ⟨λh2 => ?_, λh2 => ?_⟩ <;> conv=>whnf
   ·refine zc rfl (hrS g) λhs' hhs => ?_;try dsimp only at hhs
    conv=>whnf
    rw [yl hr];conv=>whnf
    refine hK _ (W.cond ⟨λh => absurd h (by decide), λ_ => W.skip (hK1 _ ?_)⟩);clear hK hK1;refine W.seqK λK1 hK1 => wrs λK hK => ?_;conv=>whnf
    refine hK _ (W.cond ⟨λhcc => absurd rfl (of_decide_eq_true hcc), λ_ => W.skip (hK1 _ ?_)⟩);clear hK hK1;refine wrs λK hK => ?_;conv=>whnf
    refine zc rfl (zbW p g l T hN.few hN.run (hN.slS g) R F hN.res hN.deg (hN.reS g)) λhs' hhs => ?_;try dsimp only at hhs
    conv=>whnf
    refine hK _ (W.ret ?_);conv=>whnf
    exact ⟨.v (vSs (Spl.putO (yC T) (λi => zN (F i) (F i).length) T.length)), ⟨rfl, rfl, rfl, λ_ _ => rfl⟩, ⟨trivial, λ_ _ => ⟨trivial, trivial, trivial, trivial⟩⟩, .v (.int .i64 0), ⟨rfl, rfl⟩, trivial, rfl⟩
   ·exact absurd rfl (of_decide_eq_false h2)

open Go Go.RowKit Go.ChangeShapes Go.WideShapes Go.ChangeAt Go.Proofs Go.Proofs.YtffhmebkkbfaeaaGreat

theorem zmj {P : Program} {f : Nat} {xs : List V} {r : V} {w : World} {vs : Array Value} (h : Fn P f xs (λ_ _ a => a = .v r)) (hl : vs.size = xs.length)
  (hr : ∀ j, j < xs.length -> Rep (zgG w) w.heap (xs.getD j .nil) (vs.getD j undef)) :
  Calls P f vs w λe w' => ∃ v, e = .returned v ∧ Below w.heap.size w w' ∧ Rep (okR (λ_ => False) w'.heap.size) w'.heap r v := by
 refine (h.2 (λ_ => False) w vs (λ_ h => h.elim) hl hr).mono λe w' ⟨v, av, hi, h1, h2, h3, h4, h5⟩ => ?_;subst h3;obtain ⟨_, h6, _⟩ := h5;refine ⟨v, h1, h4, ?_⟩;exact Rep.mono h6 λg b hb => ⟨⟨hb.1, λh => h.elim, hb.2.2⟩, rfl⟩

theorem zm0 {P : Program} {f : Nat} {xs : List V} {w : World} {vs : Array Value} (h : Fn P f xs (λ_ _ a => a = .v .tr)) (hl : vs.size = xs.length)
  (hr : ∀ j, j < xs.length -> Rep (zgG w) w.heap (xs.getD j .nil) (vs.getD j undef)) :
  Calls P f vs w λe w' => e = .returned (.bool true) ∧ Below w.heap.size w w' :=
 (zmj h hl hr).mono λe w' ⟨v, h1, h2, h3⟩ => by
  cases h3
  exact ⟨h1, h2⟩

theorem ownP : ownKnob Tryz.prog.godebug = none := by kernel_rfl
theorem zmk : laidOutB Tryz.prog = true := by kernel_rfl
theorem zml : Tryz.prog.cellsOf 2 = 1 := by kernel_rfl

theorem zmm {H : Type} {enc : TypeId × Value -> H} {W : World} : zgH enc Tryz.prog W 2 1 zm6 := zjY Tryz.underlying2
theorem zkx {H : Type} {enc : TypeId × Value -> H} {W : World} : zgH enc Tryz.prog W 22 1 zk7 := zh7 Tryz.underlying22 Tryz.underlying2 zml
open Go Go.RowKit Go.ChangeShapes Go.WideShapes Go.ChangeAt Go.Proofs Go.Proofs.YtffhmebkkbfaeaaGreat

def znV : List Char := [104, 97, 114, 110, 101, 115, 115, 32, 54, 53, 102, 56, 102, 97, 101, 99, 98, 50, 51, 54, 53, 50, 51, 49, 100, 56, 48, 51, 99, 57, 101, 55, 98, 99, 57, 50, 53, 51, 101, 56, 54, 54, 53, 51, 49, 49, 56, 100, 97, 101, 53, 100, 55, 98, 54, 99, 101, 102, 102, 99, 53, 98, 54, 48, 97, 49, 48, 57, 57, 98, 48, 56, 32, 99, 117, 116, 32, 97, 116, 32, 108, 111, 111, 112, 46, 101, 120, 97, 109, 112, 108, 101, 47, 103, 48, 49, 48, 48, 48, 47, 108, 97, 119, 115, 46, 70, 110, 69, 120, 97, 99, 116, 83, 112, 108, 105, 116, 116, 105, 110, 103, 115, 79, 102, 32, 108, 111, 111, 112, 46, 101, 120, 97, 109, 112, 108, 101, 47, 103, 48, 49, 48, 48, 48, 47, 108, 97, 119, 115, 46, 70, 110, 85, 110, 105, 116, 115, 32, 108, 111, 111, 112, 46, 101, 120, 97, 109, 112, 108, 101, 47, 103, 48, 49, 48, 48, 48, 47, 108, 97, 119, 115, 46, 70, 110, 82, 101, 115, 105, 100, 117, 97, 108, 70, 97, 99, 116, 111, 114, 115, 32, 108, 111, 111, 112, 46, 101, 120, 97, 109, 112, 108, 101, 47, 103, 48, 49, 48, 48, 48, 47, 108, 97, 119, 115, 46, 70, 110, 69, 120, 116, 101, 110, 115, 105, 111, 110, 115].map Char.ofNat
def zmn : List Char := [99, 117, 116].map Char.ofNat
def zmo : List (List Char) := [[97, 116], [108, 111, 111, 112, 46, 101, 120, 97, 109, 112, 108, 101, 47, 103, 48, 49, 48, 48, 48, 47, 108, 97, 119, 115, 46, 70, 110, 69, 120, 97, 99, 116, 83, 112, 108, 105, 116, 116, 105, 110, 103, 115, 79, 102], [108, 111, 111, 112, 46, 101, 120, 97, 109, 112, 108, 101, 47, 103, 48, 49, 48, 48, 48, 47, 108, 97, 119, 115, 46, 70, 110, 85, 110, 105, 116, 115], [108, 111, 111, 112, 46, 101, 120, 97, 109, 112, 108, 101, 47, 103, 48, 49, 48, 48, 48, 47, 108, 97, 119, 115, 46, 70, 110, 82, 101, 115, 105, 100, 117, 97, 108, 70, 97, 99, 116, 111, 114, 115], [108, 111, 111, 112, 46, 101, 120, 97, 109, 112, 108, 101, 47, 103, 48, 49, 48, 48, 48, 47, 108, 97, 119, 115, 46, 70, 110, 69, 120, 116, 101, 110, 115, 105, 111, 110, 115]].map λw => w.map Char.ofNat
theorem znW : Tryz.checked.prog.initOrder = String.ofList znV := by kernel_rfl
theorem zjq : behindMainWord (wordsSigns Tryz.checked.prog.initOrder.toList) = zmn :: zmo := by rw [znW, String.toList_ofList]; kernel_rfl
theorem zhE {P : Program} {c : List Char} {rest : List (List Char)} (h0 : behindMainWord (wordsSigns P.initOrder.toList) = c :: rest) (h1 : (stripLifts liftWords (c :: rest)) = ([], c :: rest)) (h2 : (c == "cut".toList) = true)
  (h3 : P.laysLater = false) (h4 : P.bearsReflect = false) (h5 : P.doorFits [] = true) : P.mayEnter = true := by
 unfold Program.mayEnter;rw [h0];have e : (some c == some "cut".toList) = true := h2
 refine (Bool.or_eq_true _ _).mpr (.inr ?_);rw [h1, h3, h4, h5];show ((some c == some "cut".toList) && _ && _ && _ && _) = true
 rw [e]
 rfl
theorem zmp : stripLifts liftWords (zmn :: zmo) = ([], zmn :: zmo) := by kernel_rfl
theorem znE : Tryz.checked.prog.mayEnter = true := zhE zjq zmp (by kernel_rfl) (by kernel_rfl) (by kernel_rfl) (by kernel_rfl)
theorem zf3 {P : Program} {c : List Char} {rest : List (List Char)} (h0 : behindMainWord (wordsSigns P.initOrder.toList) = c :: rest) (h1 : stripLifts liftWords (c :: rest) = ([], c :: rest)) : P.headLifts = [] := by
 unfold Program.headLifts;rw [h0, h1];dsimp only
 split <;> rfl
theorem zen {P : Program} {c : List Char} {rest : List (List Char)} (h0 : behindMainWord (wordsSigns P.initOrder.toList) = c :: rest) (hh : P.headLifts = []) (h2 : (c == "carried".toList) = false) : P.liftsFinal = false := by
 have e : (some c == some "carried".toList) = false := h2
 unfold Program.liftsFinal;rw [h0, hh];show (((some c == some "carried".toList) && _) || _) = false
 rw [e]
 rfl
theorem zm1 {P : Program} {c : List Char} {rest : List (List Char)} (h0 : behindMainWord (wordsSigns P.initOrder.toList) = c :: rest) (h1 : (c == "gc".toList) = false) (h2 : (c == "spec".toList) = false) (h3 : (c == "cut".toList) = true) : P.make = some .cut := by
 unfold Program.make;rw [h0];dsimp only
 rw [h1, h2, h3]
 rfl
theorem znX : Tryz.checked.prog.headLifts = [] := zf3 zjq zmp
theorem znY : Tryz.checked.prog.liftsFinal = false := zen zjq znX (by kernel_rfl)
theorem znZ : Tryz.checked.prog.make = some .cut := zm1 zjq (by kernel_rfl) (by kernel_rfl) (by kernel_rfl)

end Go.Proofs.YtffhmebkkbfaeaaGreat
