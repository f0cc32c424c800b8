/- What the program's functions and the reference's return. No conditions. -/
import Derived.Test.YtffhmebkkbfaeaaGreatPf
namespace Go.Proofs.YtffhmebkkbfaeaaGreat
open Go Go.RowKit Go.Proofs Poly
set_option maxRecDepth 100000
set_option maxHeartbeats 8000000

set_option maxHeartbeats 8000000 in
theorem zoz (p : Int) [SP p] (f : Poly p) (hm : Mon f) (hs : Sqf f) (hd : 2 <= dg f) (hd2 : dg f <= 400) : Fn Tryz.prog 208 [.int .i64 p, .ints none f.l] (λ_ _ z => ∃ P : List (Poly p), zbT f P ∧ z = .v (vPs P)) := by
 have hp := Pr.two (p := p);have hp2 := SP.le (p := p);have hf0 : f ≠ 0 := hm.1;refine ze (za [0, 1, 4, 5, 6, 8, 9, 11, 12, 13, 19, 20, 21, 22, 25, 26, 27, 28, 31, 32, 33, 47]) Tryz.func208 rfl (by decide) Tryz.ntmps208 (lb rfl) λbase => ?_;refine wrs λK hK => ?_;conv=>whnf
 refine hK _ (wrs λK hK => ?_);conv=>whnf
 refine ⟨⟨rfl, by decide, λx hx => by simp at hx; subst hx; exact ⟨rfl, rfl⟩⟩, ?_⟩;conv=>whnf
 intro b_0 hs_0 hh_0 hf_0;try dsimp only at hh_0 hf_0
 conv=>whnf
 refine hK _ (wrs λK hK => ?_);conv=>whnf
 refine y7 rfl (zmC p none f (dg f - 1) (by omega) (by omega) (by omega)) ?_;rintro lo hi hi' z hl1 hl2 hl3 ⟨L, hL, rfl⟩ _;have hLf := hL.few;try dsimp only at hl1 hl2
 conv=>whnf
 refine hK _ (W.seqK λK1 hK1 => wrs λK hK => ?_);conv=>whnf
 refine hK _ (W.block (W.invA (λm e => ∃ (k : Nat) (P : List (Poly p)), k <= L.length ∧ Cut f (L.take k) P ∧ m = L.length - k ∧ e = [(0, .v (.int .i64 p)), (5, .v (vPs P)), (19, .v (vPs L)), (20, .v (.int .i64 L.length)), (21, .v (.int .i64 k))]) ⟨0, [f], Nat.zero_le _, Cut.start hm hd, rfl, rfl⟩ ?_));clear hK;clear hh_0 hf_0 hl1 hl2 hl3;rintro m e ⟨k, P, hk, hC, hm', rfl⟩;refine wrs λK hK => ?_;conv=>whnf
 refine hK _ ?_;clear hK;refine W.seqK λK7 hK7 => W.cond ⟨λh2 => ?_, λh2 => ?_⟩ <;> (first | replace h2 := of_decide_eq_true h2 | replace h2 := of_decide_eq_false h2)
 ·have h2 : k < L.length := by omega
  have hber := hL.ber _ (zi1 h2);have hPl := hC.parts.few hf0;have hC' : Cut f (L.take (k + 1)) (zV (L.getD k 0) P) := by rw [zmq h2]; exact hC.next hber.1
  have hPl' := hC'.parts.few hf0;generalize hv : L.getD k 0 = v at *;refine W.skip (hK7 _ ?_);clear hK7;refine W.seqK λK8 hK8 => W.block ?_;refine wrs λK hK => ?_;conv=>whnf
  refine ⟨oo, ?_⟩;conv=>whnf
  have e1 : (λj => V.ints none (L.getD j 0).l) (k : Int).toNat = .ints none v.l := by rw [Int.toNat_natCast]; show V.ints none (L.getD k 0).l = _; rw [hv]
  rw [e1];conv=>whnf
  refine hK _ (wrs λK hK => ?_);conv=>whnf
  refine hK _ (W.seqK λK3 hK3 => wrs λK hK => ?_);conv=>whnf
  refine hK _ (W.block (W.invA (λm e => ∃ (j bf : Nat), j <= P.length ∧ m = P.length - j ∧ e = [(0, .v (.int .i64 p)), (8, .v (.ints none v.l)), (9, .ownV 22 1 bf (zV v (P.take j)).length λi => .ints none ((zV v (P.take j)).getD i 0).l), (19, .v (vPs L)), (20, .v (.int .i64 L.length)), (21, .v (.int .i64 k)), (25, .v (vPs P)), (26, .v (.int .i64 P.length)), (27, .v (.int .i64 j))]) ⟨0, 0, Nat.zero_le _, rfl, rfl⟩ ?_));clear hK;rintro m2 e ⟨j, bf, hj, hm2, rfl⟩;refine wrs λK hK => ?_;conv=>whnf
  refine hK _ ?_;clear hK;refine W.seqK λK7 hK7 => W.cond ⟨λh3 => ?_, λh3 => ?_⟩ <;> (first | replace h3 := of_decide_eq_true h3 | replace h3 := of_decide_eq_false h3)
  ·have h3 : j < P.length := by omega
   have hpart := hC.parts.each _ (zi1 h3);have hpd := zP hpart.2.2 hf0;generalize hpq : P.getD j 0 = part at hpart hpd;refine W.skip (hK7 _ ?_);clear hK7;refine W.seqK λK4 hK4 => W.block ?_;refine wrs λK hK => ?_;conv=>whnf
   refine ⟨oo, ?_⟩;conv=>whnf
   have e2 : (λj => V.ints none (P.getD j 0).l) (j : Int).toNat = .ints none part.l := by rw [Int.toNat_natCast]; show V.ints none (P.getD j 0).l = _; rw [hpq]
   rw [e2];conv=>whnf
   refine hK _ (wrs λK hK => ?_);conv=>whnf
   refine hK _ (W.block (W.invE (λm e => ∃ (a bf : Nat), a <= p.toNat ∧ m = p.toNat - a ∧ e = [(0, .v (.int .i64 p)), (8, .v (.ints none v.l)), (9, .ownV 22 1 bf (zV v (P.take j) ++ xq v part a).length λi => .ints none ((zV v (P.take j) ++ xq v part a).getD i 0).l), (11, .v (.ints none part.l)), (19, .v (vPs L)), (20, .v (.int .i64 L.length)), (21, .v (.int .i64 k)), (25, .v (vPs P)), (26, .v (.int .i64 P.length)), (27, .v (.int .i64 j)), (31, .v (.int .i64 p)), (32, .v (.int .i64 a))]) _ _ ⟨0, bf, Nat.zero_le _, rfl, rfl⟩ (by dsimp only; omega) (by
    have e3 : zV v (P.take j) ++ xq v part 0 = zV v (P.take j) := List.append_nil _;rw [e3]
    repeat' first | refine And.intro ?_ ?_ | exact trivial | rfl | omega | assumption | exact .inl rfl | exact λ_ _ => rfl) ?_))
   clear hK bf;rintro m3 e ⟨a, bf, ha, hm3, rfl⟩;refine wrs λK hK => ?_;conv=>whnf
   refine hK _ ?_;clear hK;refine W.seqK λK7 hK7 => W.cond ⟨λh4 => ?_, λh4 => ?_⟩ <;> (first | replace h4 := of_decide_eq_true h4 | replace h4 := of_decide_eq_false h4)
   ·have h4 : a < p.toNat := by omega
    have hlen := zpz v (P := P) (a := a) h3 (by omega);rw [hpq] at hlen;have hgd := zmo part (v - con p (a : Int)) hpart.1.1
    have hsub : dg (v - con p (a : Int)) <= 1000 := by
     have := vG v (con p (a : Int));have := v9 (p := p) (a : Int);have := hber.2;omega
    have hvl : v.l.length = dg v := rfl;have hgl : (gcd part (v - con p (a : Int))).l.length = dg (gcd part (v - con p (a : Int))) := rfl
    have hb1 : Bd 97 [-(a : Int)] := λi => by
     cases i with
     | zero => rw [zA]; omega
     | succ i => rw [zm, zS]; omega
    refine W.skip (hK7 _ ?_);clear hK7;refine W.seqK λK5 hK5 => W.block ?_
    -- the end of the round
    have fin : ∀ (b' : Nat) (s : S), base <= s.hs -> zB s.env [(0, .v (.int .i64 p)), (8, .v (.ints none v.l)), (9, .ownV 22 1 b' (zV v (P.take j) ++ xq v part (a + 1)).length λi => .ints none ((zV v (P.take j) ++ xq v part (a + 1)).getD i 0).l), (11, .v (.ints none part.l)), (19, .v (vPs L)), (20, .v (.int .i64 L.length)), (21, .v (.int .i64 k)), (25, .v (vPs P)), (26, .v (.int .i64 P.length)), (27, .v (.int .i64 j)), (31, .v (.int .i64 p)), (32, .v (.int .i64 a))] -> K5 s := by
     intro b' s h5 h6;refine hK5 _ (W.weak (t := ⟨_, base⟩) ⟨h5, h6⟩ (Nat.le_refl _) ?_);refine wrg ?_;conv=>whnf
     refine ⟨oo, ?_⟩;conv=>whnf
     refine ⟨_, _, ⟨a + 1, b', by omega, rfl, rfl⟩, by omega, by dsimp only; omega, ?_⟩;exact cvr
    clear hK5;refine wrs λK hK => ?_;conv=>whnf
    refine hK _ (wrs λK hK => ?_);conv=>whnf
    refine ⟨oo, ?_⟩;conv=>whnf
    refine ⟨⟨rfl, by decide⟩, ?_⟩;conv=>whnf
    intro b_1 hs_1 hh_1 hf_1;try dsimp only at hh_1 hf_1
    conv=>whnf
    refine zr rfl (zcy none _ v.l [-(a : Int)] ((jT v).le (by omega)) (hb1.le (by omega)) (by have := hber.2; omega) (by simp)) λhs_2 b_2 hh_2 hf_2 => ?_;try dsimp only at hh_2 hf_2
    conv=>whnf
    refine zr rfl (zG p (by omega) (by omega) _ (zu (yr v.l [-(a : Int)])) (Bd.trim λi => by rw [y1]; have := jT v i; have := hb1 i; omega) (Nat.le_trans (zW _) (by rw [yr, zH]; have := hber.2; simp; omega))) λhs_3 b_3 hh_3 hf_3 => ?_;try dsimp only at hh_3 hf_3
    conv=>whnf
    rw [zgG];refine zr rfl (zgN p none _ part (v - con p (a : Int)) (by omega) hsub) λhs_4 b_4 hh_4 hf_4 => ?_;try dsimp only at hh_4 hf_4
    conv=>whnf
    refine hK _ (wrs λK hK => ?_);conv=>whnf
    rw [hgl];refine hK _ ?_;clear hK;refine W.cond ⟨λh5 => ?_, λh5 => ?_⟩
    ·have h5 := of_decide_eq_true h5;refine wrg ?_;conv=>whnf
     refine ⟨⟨rfl, by decide, λx hx => by simp at hx; subst hx; exact ⟨rfl, rfl⟩⟩, ?_⟩;conv=>whnf
     intro b_5 hs_5 hh_5 hf_5;try dsimp only at hh_5 hf_5
     conv=>whnf
     refine ⟨by omega, ?_⟩;conv=>whnf
     refine ⟨λi => .ints none ((zV v (P.take j) ++ xq v part a ++ [gcd part (v - con p (a : Int))]).getD i 0).l, λi hi => congrArg (λq : Poly p => V.ints none q.l) (zft hi), λi hi => ?_, ?_⟩
     ·obtain rfl : i = 0 := by omega
      exact congrArg (λq : Poly p => V.ints none q.l) zfu
     intro b_6 hs_6 hh_6 hf_6;try dsimp only at hh_6 hf_6
     conv=>whnf
     refine fin b_6 _ (by dsimp only; omega) ?_
     have e4 : zV v (P.take j) ++ xq v part (a + 1) = zV v (P.take j) ++ xq v part a ++ [gcd part (v - con p (a : Int))] := by
      rw [kN, zf0, if_pos (by omega), List.append_assoc]
     rw [e4, List.length_append (bs := [_])];exact cvr
    ·have h5 := of_decide_eq_false h5;refine W.skip (fin bf _ (by dsimp only; omega) ?_)
     have e4 : zV v (P.take j) ++ xq v part (a + 1) = zV v (P.take j) ++ xq v part a := by
      rw [kN, zf0, if_neg (by omega), List.append_nil]
     rw [e4];exact cvr
   ·obtain rfl : a = p.toNat := by omega
    refine W.exit (hK4 _ ?_);clear hK7 hK4;refine wrg ?_;conv=>whnf
    refine ⟨oo, ?_⟩;conv=>whnf
    refine ⟨_, _, ⟨j + 1, bf, by omega, rfl, rfl⟩, by omega, by dsimp only; omega, ?_⟩;have e4 : zV v (P.take (j + 1)) = zV v (P.take j) ++ xq v part p.toNat := by rw [zdt v h3, hpq]
    rw [e4];exact cvr
  ·obtain rfl : j = P.length := by omega
   refine W.exit (hK3 _ ?_);clear hK7 hK3;rw [List.take_length];refine wrg ?_;conv=>whnf
   refine hK8 _ ?_;clear hK8;refine wrg ?_;conv=>whnf
   refine ⟨oo, ?_⟩;conv=>whnf
   refine ⟨_, _, ⟨k + 1, zV v P, by omega, hC', rfl, rfl⟩, by omega, by dsimp only; omega, ?_⟩;exact cvr
 ·obtain rfl : k = L.length := by omega
  rw [List.take_length] at hC;refine W.exit (hK1 _ ?_);clear hK7 hK1;refine wrs λK hK => ?_;conv=>whnf
  refine hK _ (W.ret ?_);conv=>whnf
  exact ⟨.v (vPs P), ⟨rfl, rfl, rfl, λ_ _ => rfl⟩, ⟨trivial, λ_ _ => trivial⟩, P, hC.done hf0 hs hL, rfl⟩


def za0 (x y : Int) : Int := if x < y then -1 else if y < x then 1 else 0
def zby (f g : List Int) : Nat -> Int
 | 0 => 0
 | n + 1 => if cf f n < cf g n then -1 else if cf g n < cf f n then 1 else zby f g n
def jn (f g : List Int) : Int := if f.length < g.length then -1 else if g.length < f.length then 1 else zby f g f.length

theorem zpJ {xs ys : List Int} (h : xs.length ≠ ys.length) : jn xs ys = za0 xs.length ys.length := by
 unfold jn za0
 by_cases h1 : xs.length < ys.length
 ·rw [if_pos h1, if_pos (by omega)]
 ·rw [if_neg h1, if_pos (by omega), if_neg (by omega), if_pos (by omega)]

theorem zdA (x : Int) : FnV 247 [.int .i64 x] (.bool false) := by
 refine ze (za [0, 2]) Tryz.func247 rfl (by decide) Tryz.ntmps247 (lb rfl) λbase => ?_;refine wrs λK hK => ?_;conv=>whnf
 refine hK _ (wrs λK hK => ?_);conv=>whnf
 refine hK _ (W.ret ?_);conv=>whnf
 exact ⟨.v (.bool false), (decide_eq_false λh : x ≠ x => h rfl), trivial, rfl⟩
theorem zbz (x : Int) : FnV 213 [.int .i64 x] (.bool false) := by
 refine ze (za [0, 2]) Tryz.func213 rfl (by decide) Tryz.ntmps213 (lb rfl) λbase => ?_;refine wrs λK hK => ?_;conv=>whnf
 refine hK _ (wrs λK hK => ?_);conv=>whnf
 refine hK _ (W.ret ?_);conv=>whnf
 exact ⟨.v (.bool false), (decide_eq_false λh : x ≠ x => h rfl), trivial, rfl⟩
theorem zf3 (x y : Int) : FnV 227 [.int .i64 x, .int .i64 y] (.int .i64 (za0 x y)) := by
 refine ze (za [0, 1, 4, 5, 6, 11, 12, 13, 16, 19]) Tryz.func227 rfl (by decide) Tryz.ntmps227 (lb rfl) λbase => ?_;refine wrs λK hK => ?_;conv=>whnf
 refine hK _ (wrs λK hK => ?_);conv=>whnf
 refine zb rfl (zdA x) λhs' hhs => ?_;try dsimp only at hhs
 conv=>whnf
 refine hK _ (wrs λK hK => ?_);conv=>whnf
 refine zb rfl (zdA y) λhs' hhs => ?_;try dsimp only at hhs
 conv=>whnf
 refine hK _ (W.seqK λK1 hK1 => wrs λK hK => ?_);conv=>whnf
 refine hK _ (W.cond ⟨λh => absurd h (by decide), λ_ => W.skip (hK1 _ ?_)⟩);clear hK hK1;refine W.seqK λK1 hK1 => wrs λK hK => ?_;conv=>whnf
 refine hK _ (W.cond ⟨λh => absurd h (by decide), λ_ => W.skip (hK1 _ ?_)⟩);clear hK hK1;refine W.seqK λK1 hK1 => wrs λK hK => ?_;conv=>whnf
 refine hK _ (W.cond ⟨λh => ?_, λh => ?_⟩) <;> clear hK
 ·have h := of_decide_eq_true h;refine wrs λK hK => ?_;conv=>whnf
  refine hK _ (W.ret ?_);conv=>whnf
  exact ⟨.v (.int .i64 (za0 x y)), ⟨rfl, by rw [za0, if_pos h]⟩, trivial, rfl⟩
 ·have h := of_decide_eq_false h;refine W.skip (hK1 _ ?_);clear hK1;refine W.seqK λK1 hK1 => wrs λK hK => ?_;conv=>whnf
  refine hK _ (W.cond ⟨λh2 => ?_, λh2 => ?_⟩) <;> clear hK
  ·have h2 := of_decide_eq_true h2;refine wrs λK hK => ?_;conv=>whnf
   refine hK _ (W.ret ?_);conv=>whnf
   exact ⟨.v (.int .i64 (za0 x y)), ⟨rfl, by rw [za0, if_neg h, if_pos h2]⟩, trivial, rfl⟩
  ·have h2 := of_decide_eq_false h2;refine W.skip (hK1 _ ?_);clear hK1;refine wrs λK hK => ?_;conv=>whnf
   refine hK _ (W.ret ?_);conv=>whnf
   exact ⟨.v (.int .i64 (za0 x y)), ⟨rfl, by rw [za0, if_neg h, if_neg h2]⟩, trivial, rfl⟩
theorem zdN (x y : Int) : FnV 178 [.int .i64 x, .int .i64 y] (.int .i64 (za0 x y)) := by
 refine ze (za [0, 1, 4, 5, 6, 11, 12, 13, 16, 19]) Tryz.func178 rfl (by decide) Tryz.ntmps178 (lb rfl) λbase => ?_;refine wrs λK hK => ?_;conv=>whnf
 refine hK _ (wrs λK hK => ?_);conv=>whnf
 refine zb rfl (zbz x) λhs' hhs => ?_;try dsimp only at hhs
 conv=>whnf
 refine hK _ (wrs λK hK => ?_);conv=>whnf
 refine zb rfl (zbz y) λhs' hhs => ?_;try dsimp only at hhs
 conv=>whnf
 refine hK _ (W.seqK λK1 hK1 => wrs λK hK => ?_);conv=>whnf
 refine hK _ (W.cond ⟨λh => absurd h (by decide), λ_ => W.skip (hK1 _ ?_)⟩);clear hK hK1;refine W.seqK λK1 hK1 => wrs λK hK => ?_;conv=>whnf
 refine hK _ (W.cond ⟨λh => absurd h (by decide), λ_ => W.skip (hK1 _ ?_)⟩);clear hK hK1;refine W.seqK λK1 hK1 => wrs λK hK => ?_;conv=>whnf
 refine hK _ (W.cond ⟨λh => ?_, λh => ?_⟩) <;> clear hK
 ·have h := of_decide_eq_true h;refine wrs λK hK => ?_;conv=>whnf
  refine hK _ (W.ret ?_);conv=>whnf
  exact ⟨.v (.int .i64 (za0 x y)), ⟨rfl, by rw [za0, if_pos h]⟩, trivial, rfl⟩
 ·have h := of_decide_eq_false h;refine W.skip (hK1 _ ?_);clear hK1;refine W.seqK λK1 hK1 => wrs λK hK => ?_;conv=>whnf
  refine hK _ (W.cond ⟨λh2 => ?_, λh2 => ?_⟩) <;> clear hK
  ·have h2 := of_decide_eq_true h2;refine wrs λK hK => ?_;conv=>whnf
   refine hK _ (W.ret ?_);conv=>whnf
   exact ⟨.v (.int .i64 (za0 x y)), ⟨rfl, by rw [za0, if_neg h, if_pos h2]⟩, trivial, rfl⟩
  ·have h2 := of_decide_eq_false h2;refine W.skip (hK1 _ ?_);clear hK1;refine wrs λK hK => ?_;conv=>whnf
   refine hK _ (W.ret ?_);conv=>whnf
   exact ⟨.v (.int .i64 (za0 x y)), ⟨rfl, by rw [za0, if_neg h, if_neg h2]⟩, trivial, rfl⟩
theorem zaw (g g' : Option Nat) (xs ys : List Int) (hx : xs.length <= 1000000) (_ : ys.length <= 1000000) : FnV 211 [.ints g xs, .ints g' ys] (.int .i64 (jn xs ys)) := by
 refine ze (za [0, 1, 4, 5, 10, 20, 31]) Tryz.func211 rfl (by decide) Tryz.ntmps211 (lb rfl) λbase => ?_;refine wrs λK hK => ?_;conv=>whnf
 refine hK _ (W.seqK λK1 hK1 => wrs λK hK => ?_);conv=>whnf
 refine hK _ (W.cond ⟨λh => ?_, λh => ?_⟩) <;> clear hK
 ·have h := of_decide_eq_true h;refine wrs λK hK => ?_;conv=>whnf
  refine zb rfl (zf3 xs.length ys.length) λhs' hhs => ?_;try dsimp only at hhs
  conv=>whnf
  refine hK _ ?_;clear hK;have h' : xs.length ≠ ys.length := λe => h (by rw [e]);refine W.ret ?_;conv=>whnf
  exact ⟨.v (.int .i64 (jn xs ys)), ⟨rfl, (zpJ h').symm⟩, trivial, rfl⟩
 ·have h := of_decide_eq_false h;have h' : xs.length = ys.length := by omega
  refine W.skip (hK1 _ ?_);clear hK1;refine W.seqK λK1 hK1 => wrs λK hK => ?_;conv=>whnf
  refine ⟨oo, ?_⟩;conv=>whnf
  refine hK _ (W.block (W.invA (λm e => ∃ n : Nat, n <= xs.length ∧ jn xs ys = zby xs ys n ∧ m = n ∧ e = [(0, .v (.ints g xs)), (1, .v (.ints g' ys)), (5, .v (.int .i64 ((n : Int) - 1)))]) ⟨xs.length, Nat.le_refl _, by unfold jn; rw [if_neg (by omega), if_neg (by omega)], rfl, rfl⟩ ?_));clear hK;rintro m e ⟨n, h1, h2, hm, rfl⟩;refine W.seqK λK7 hK7 => wrs λK hK => ?_;conv=>whnf
  refine hK _ (W.cond ⟨λh3 => ?_, λh3 => ?_⟩) <;> clear hK <;> (first | replace h3 := of_decide_eq_true h3 | replace h3 := of_decide_eq_false h3)
  ·obtain ⟨k, rfl⟩ : ∃ k, n = k + 1 := ⟨n - 1, by omega⟩
   have ek : (((k + 1 : Nat) : Int) - 1) = (k : Int) := by omega
   rw [ek];refine W.skip (hK7 _ ?_);clear hK7;refine W.seqK λK8 hK8 => W.block ?_;refine W.rd (za _) follows (by rfl) λK hK => ?_;conv=>whnf
   refine ⟨oo, ?_⟩;conv=>whnf
   refine ⟨oo, ?_⟩;conv=>whnf
   rw [Int.toNat_natCast];refine hK _ (W.cond ⟨λh4 => ?_, λh4 => ?_⟩) <;> clear hK
   ·have h4 : cf xs k ≠ cf ys k := of_decide_eq_true h4;refine W.rd (za _) follows (by rfl) λK hK => ?_;conv=>whnf
    refine ⟨oo, ?_⟩;conv=>whnf
    refine ⟨oo, ?_⟩;conv=>whnf
    rw [Int.toNat_natCast];refine ⟨_, cxF (zdN (cf xs k) (cf ys k)), ?_⟩;conv=>whnf
    refine hK _ (W.ret ?_);conv=>whnf
    exact ⟨.v (.int .i64 (jn xs ys)), ⟨rfl, by rw [h2]; unfold zby za0; by_cases h5 : cf xs k < cf ys k <;> by_cases h6 : cf ys k < cf xs k <;> first | omega | simp [h5, h6]⟩, trivial, rfl⟩
   ·have h4 : ¬ cf xs k ≠ cf ys k := of_decide_eq_false h4;refine W.skip (hK8 _ ?_);clear hK8;refine wrg ?_;conv=>whnf
    refine ⟨oo, ?_⟩;conv=>whnf
    exact zk ⟨k, by omega, by rw [h2]; exact (if_neg (by omega)).trans (if_neg (by omega)), rfl, rfl⟩
  ·obtain rfl : n = 0 := by omega
   refine W.exit (hK1 _ ?_);clear hK7 hK1;refine wrs λK hK => ?_;conv=>whnf
   refine hK _ (W.ret ?_);conv=>whnf
   exact ⟨.v (.int .i64 (jn xs ys)), ⟨rfl, h2.symm⟩, trivial, rfl⟩

theorem zf4 (g g' : Option Nat) (xs ys : List Int) (hx : xs.length <= 1000000) (_ : ys.length <= 1000000) : FnV 252 [.ints g xs, .ints g' ys] (.int .i64 (jn xs ys)) := by
 refine ze (za [0, 1, 4, 5, 6, 12, 22, 25, 35]) Tryz.func252 rfl (by decide) Tryz.ntmps252 (lb rfl) λbase => ?_;refine wrs λK hK => ?_;conv=>whnf
 refine hK _ ?_;clear hK;refine W.seqK λK1 hK1 => W.block (wrs λK hK => ?_);conv=>whnf
 refine hK _ (W.cond ⟨λh => ?_, λh => ?_⟩) <;> clear hK
 ·have h := of_decide_eq_true h;refine wrs λK hK => ?_;conv=>whnf
  refine hK _ (W.ret ?_);conv=>whnf
  exact ⟨.v (.int .i64 (jn xs ys)), ⟨rfl, by unfold jn; rw [if_pos (by omega)]⟩, trivial, rfl⟩
 have h := of_decide_eq_false h;refine wrs λK hK => ?_;conv=>whnf
 refine hK _ (W.cond ⟨λh' => ?_, λh' => ?_⟩) <;> clear hK
 ·have h' := of_decide_eq_true h';refine wrs λK hK => ?_;conv=>whnf
  refine hK _ (W.ret ?_);conv=>whnf
  exact ⟨.v (.int .i64 (jn xs ys)), ⟨rfl, by unfold jn; rw [if_neg (by omega), if_pos (by omega)]⟩, trivial, rfl⟩
 have h' := of_decide_eq_false h';refine W.skip (hK1 _ ?_);clear hK1;refine W.seqK λK1 hK1 => wrs λK hK => ?_;conv=>whnf
 refine ⟨oo, ?_⟩;conv=>whnf
 refine hK _ (W.block (W.invA (λm e => ∃ n : Nat, n <= xs.length ∧ jn xs ys = zby xs ys n ∧ m = n ∧ e = [(0, .v (.ints g xs)), (1, .v (.ints g' ys)), (5, .v (.int .i64 ((n : Int) - 1)))]) ⟨xs.length, Nat.le_refl _, by unfold jn; rw [if_neg (by omega), if_neg (by omega)], rfl, rfl⟩ ?_));clear hK;rintro m e ⟨n, h1, h2, hm, rfl⟩;refine W.seqK λK7 hK7 => wrs λK hK => ?_;conv=>whnf
 refine hK _ (W.cond ⟨λh3 => ?_, λh3 => ?_⟩) <;> clear hK <;> (first | replace h3 := of_decide_eq_true h3 | replace h3 := of_decide_eq_false h3)
 ·obtain ⟨k, rfl⟩ : ∃ k, n = k + 1 := ⟨n - 1, by omega⟩
  have ek : (((k + 1 : Nat) : Int) - 1) = (k : Int) := by omega
  rw [ek];refine W.skip (hK7 _ ?_);clear hK7;refine W.seqK λK8 hK8 => W.block ?_;refine W.block ?_;refine W.rd (za _) follows (by rfl) λK hK => ?_;conv=>whnf
  refine ⟨oo, ?_⟩;conv=>whnf
  refine ⟨oo, ?_⟩;conv=>whnf
  rw [Int.toNat_natCast];refine hK _ (W.cond ⟨λh4 => ?_, λh4 => ?_⟩) <;> clear hK
  ·have h4 : cf xs k < cf ys k := of_decide_eq_true h4;refine wrs λK hK => ?_;conv=>whnf
   refine hK _ (W.ret ?_);conv=>whnf
   exact ⟨.v (.int .i64 (jn xs ys)), ⟨rfl, by rw [h2]; unfold zby; rw [if_pos h4]⟩, trivial, rfl⟩
  have h4 : ¬ cf xs k < cf ys k := of_decide_eq_false h4;refine W.rd (za _) follows (by rfl) λK hK => ?_;conv=>whnf
  refine ⟨oo, ?_⟩;conv=>whnf
  refine ⟨oo, ?_⟩;conv=>whnf
  rw [Int.toNat_natCast];refine hK _ (W.cond ⟨λh5 => ?_, λh5 => ?_⟩) <;> clear hK
  ·have h5 : cf ys k < cf xs k := of_decide_eq_true h5;refine wrs λK hK => ?_;conv=>whnf
   refine hK _ (W.ret ?_);conv=>whnf
   exact ⟨.v (.int .i64 (jn xs ys)), ⟨rfl, by rw [h2]; unfold zby; rw [if_neg h4, if_pos h5]⟩, trivial, rfl⟩
  have h5 : ¬ cf ys k < cf xs k := of_decide_eq_false h5;refine W.skip (hK8 _ ?_);clear hK8;refine wrg ?_;conv=>whnf
  refine ⟨oo, ?_⟩;conv=>whnf
  exact zk ⟨k, by omega, by rw [h2]; exact (if_neg (by omega)).trans (if_neg (by omega)), rfl, rfl⟩
 ·obtain rfl : n = 0 := by omega
  refine W.exit (hK1 _ ?_);clear hK7 hK1;refine wrs λK hK => ?_;conv=>whnf
  refine hK _ (W.ret ?_);conv=>whnf
  exact ⟨.v (.int .i64 (jn xs ys)), ⟨rfl, h2.symm⟩, trivial, rfl⟩

theorem zjm {f g : List Int} : ∀ n, zby f g n < 0 ↔ ∃ i, i < n ∧ cf f i < cf g i ∧ ∀ j, i < j -> j < n -> cf f j = cf g j
 | 0 => ⟨λh => by simp [zby] at h, λ⟨i, h, _⟩ => by omega⟩
 | n + 1 => by
  unfold zby
  by_cases h1 : cf f n < cf g n
  ·rw [if_pos h1];exact ⟨λ_ => ⟨n, by omega, h1, λj h2 h3 => by omega⟩, λ_ => by omega⟩
  ·rw [if_neg h1]
   by_cases h2 : cf g n < cf f n
   ·rw [if_pos h2];refine ⟨λh => by omega, λ⟨i, h3, h4, h5⟩ => ?_⟩
    by_cases hi : i = n
    ·subst hi; omega
    ·have := h5 n (by omega) (by omega); omega
   ·rw [if_neg h2, zjm n]
    constructor
    ·rintro ⟨i, h3, h4, h5⟩;refine ⟨i, by omega, h4, λj h6 h7 => ?_⟩
     by_cases hj : j = n
     ·subst hj; omega
     ·exact h5 j h6 (by omega)
    ·rintro ⟨i, h3, h4, h5⟩
     by_cases hi : i = n
     ·subst hi; omega
     ·exact ⟨i, by omega, h4, λj h6 h7 => h5 j h6 (by omega)⟩
theorem zd4 {p : Int} [SP p] (f g : Poly p) : jn f.l g.l < 0 ↔ ltP f g := by
 have hf : f.l.length = dg f := rfl;have hg : g.l.length = dg g := rfl;unfold jn ltP
 by_cases h1 : f.l.length < g.l.length
 ·rw [if_pos h1]; exact ⟨λ_ => .inl h1, λ_ => by omega⟩
 ·rw [if_neg h1]
  by_cases h2 : g.l.length < f.l.length
  ·rw [if_pos h2]; exact ⟨λh => by omega, λh => by omega⟩
  ·rw [if_neg h2, zjm];have he : ∀ j, f.l.length <= j -> cf f.l j = cf g.l j := λj hj => by rw [zT hj, zT (by omega)]
   constructor
   ·rintro ⟨i, h3, h4, h5⟩
    exact .inr ⟨by omega, i, h4, λj hj => by
     by_cases h6 : j < f.l.length
     ·exact h5 j hj h6
     ·exact he j (by omega)⟩
   ·rintro (h | ⟨_, i, h4, h5⟩)
    ·omega
    ·refine ⟨i, ?_, h4, λj hj _ => h5 j hj⟩
     by_cases h6 : i < f.l.length
     ·exact h6
     ·have := he i (by omega); omega


variable {p : Int} [SP p]
def vF (x : Poly p × Nat) : V := .agg [.ints none x.1.l, .int .i64 (x.2 : Int)]

structure Mix (n : Nat) (h0 h : Nat -> Poly p × Nat) : Prop where
 mem : ∀ x, (∃ i, i < n ∧ h i = x) ↔ (∃ i, i < n ∧ h0 i = x)
 dis : ∀ i j, i < n -> j < n -> (h i).1 = (h j).1 -> i = j
def kd (h : Nat -> Poly p × Nat) (a b : Nat) : Nat -> Poly p × Nat := λj => if j = a then h b else if j = b then h a else h j
theorem zhH {p : Int} (h : Nat -> Poly p × Nat) (a b : Nat) : kd h a b a = h b := if_pos rfl
theorem zlB {p : Int} (h : Nat -> Poly p × Nat) (a b : Nat) : kd h a b b = h a := by
 unfold kd
 by_cases e : b = a
 ·rw [if_pos e, e]
 ·rw [if_neg e, if_pos rfl]
theorem zcA {p : Int} {h : Nat -> Poly p × Nat} {a b j : Nat} (h1 : j ≠ a) (h2 : j ≠ b) : kd h a b j = h j := by
 unfold kd; rw [if_neg h1, if_neg h2]
def trp (a b j : Nat) : Nat := if j = a then b else if j = b then a else j
theorem zcB {p : Int} (h : Nat -> Poly p × Nat) (a b j : Nat) : kd h a b j = h (trp a b j) := by
 unfold kd trp; split
 ·rfl
 ·split <;> rfl
theorem zhI (a b j : Nat) : trp a b (trp a b j) = j := by
 unfold trp
 by_cases h1 : j = a
 ·rw [if_pos h1]; by_cases h2 : b = a
  ·rw [if_pos h2, h2, h1]
  ·rw [if_neg h2, if_pos rfl, h1]
 ·rw [if_neg h1]; by_cases h2 : j = b
  ·rw [if_pos h2, if_pos rfl, h2]
  ·rw [if_neg h2, if_neg h1, if_neg h2]
theorem zhJ {a b j n : Nat} (ha : a < n) (hb : b < n) (hj : j < n) : trp a b j < n := by
 unfold trp; split
 ·exact hb
 ·split <;> assumption
theorem Mix.swap {p : Int} {n : Nat} {h0 h : Nat -> Poly p × Nat} (m : Mix n h0 h) {a b : Nat} (ha : a < n) (hb : b < n) : Mix n h0 (kd h a b) := by
 refine ⟨λx => Iff.trans ⟨?_, ?_⟩ (m.mem x), λi j hi hj e => ?_⟩
 ·rintro ⟨i, hi, e⟩; rw [zcB] at e; exact ⟨_, zhJ ha hb hi, e⟩
 ·rintro ⟨i, hi, e⟩; exact ⟨trp a b i, zhJ ha hb hi, by rw [zcB, zhI]; exact e⟩
 ·rw [zcB, zcB] at e;have := m.dis _ _ (zhJ ha hb hi) (zhJ ha hb hj) e;have := congrArg (trp a b) this
  rwa [zhI, zhI] at this
def Ord (h : Nat -> Poly p × Nat) (i : Nat) : Prop := ∀ x y, x < y -> y < i -> ltP (h x).1 (h y).1
def zhK (h : Nat -> Poly p × Nat) (i j : Nat) : Prop := (∀ x y, x < y -> y <= i -> x ≠ j -> y ≠ j -> ltP (h x).1 (h y).1) ∧ ∀ y, j < y -> y <= i -> ltP (h j).1 (h y).1
theorem zhK.start {p : Int} {h : Nat -> Poly p × Nat} {i : Nat} (o : Ord h i) : zhK h i i := ⟨λx y h1 h2 h3 h4 => o x y h1 (by omega), λy h1 h2 => by omega⟩
theorem zhK.step {p : Int} {h : Nat -> Poly p × Nat} {i j : Nat} (o : zhK h i (j + 1)) (hj : j + 1 <= i) (hl : ltP (h (j + 1)).1 (h j).1) : zhK (kd h (j + 1) j) i j := by
 refine ⟨λx y h1 h2 h3 h4 => ?_, λy h1 h2 => ?_⟩
 ·by_cases hx : x = j + 1
  ·subst hx;rw [zhH, zcA (by omega) (by omega)];exact o.1 j y (by omega) h2 (by omega) (by omega)
  ·rw [zcA hx h3]
   by_cases hy : y = j + 1
   ·subst hy; rw [zhH]; exact o.1 x j (by omega) (by omega) (by omega) (by omega)
   ·rw [zcA hy h4]; exact o.1 x y h1 h2 hx hy
 ·rw [zlB]
  by_cases hy : y = j + 1
  ·subst hy; rw [zhH]; exact hl
  ·rw [zcA hy (by omega)]; exact o.2 y (by omega) h2
theorem zhK.fin {p : Int} {n : Nat} {h0 h : Nat -> Poly p × Nat} (m : Mix n h0 h) {i j : Nat} (hi : i < n) (hj : j <= i) (o : zhK h i j) (hs : j = 0 ∨ ∃ k, j = k + 1 ∧ ¬ ltP (h j).1 (h k).1) : Ord h (i + 1) := by
 intro x y h1 h2
 by_cases hx : x = j
 ·subst hx; exact o.2 y h1 (by omega)
 ·by_cases hy : y = j
  ·subst hy;obtain ⟨k, rfl, hk⟩ := hs.resolve_left (by omega);have hlt : ltP (h k).1 (h (k + 1)).1 := (zgD λe => by have := m.dis _ _ (by omega) (by omega) e; omega).resolve_left hk
   by_cases hxk : x = k
   ·subst hxk; exact hlt
   ·exact zc1 (o.1 x k (by omega) (by omega) (by omega) (by omega)) hlt
  ·exact o.1 x y h1 (by omega) hx hy

theorem zmD {p : Int} (x y : Poly p × Nat) (hx : dg x.1 <= 1000000) (hy : dg y.1 <= 1000000) : FnV 210 [vF x, vF y] (.int .i64 (jn x.1.l y.1.l)) := by
 refine ze (za [0, 1, 2, 3, 4]) Tryz.func210 rfl (by decide) Tryz.ntmps210 (lb rfl) λbase => ?_;refine wrs λK hK => ?_;conv=>whnf
 refine ⟨rfl, ?_⟩;conv=>whnf
 intro b_1 hs_1 hh_1 hf_1;try dsimp only at hh_1 hf_1
 conv=>whnf
 refine ⟨rfl, ?_⟩;conv=>whnf
 intro b_2 hs_2 hh_2 hf_2;try dsimp only at hh_2 hf_2
 conv=>whnf
 refine hK _ (wrs λK hK => ?_);conv=>whnf
 refine zb rfl (zaw none none x.1.l y.1.l hx hy) λhs' hhs => ?_;conv=>whnf
 refine hK _ (W.ret ?_);conv=>whnf
 exact ⟨.v (.int .i64 (jn x.1.l y.1.l)), ⟨rfl, rfl⟩, trivial, rfl⟩

theorem zdc (bk n : Nat) (h0 : Nat -> Poly p × Nat) (hn : n <= 1000000) (hd : ∀ i, i < n -> dg (h0 i).1 <= 1000000) (hdis : ∀ i j, i < n -> j < n -> (h0 i).1 = (h0 j).1 -> i = j) :
  MFn Tryz.prog 237 [.nil, .int .i64 0, .int .i64 n, .func 210 []] 0 (.ownV 145 2 bk n λj => vF (h0 j)) .dead
   (λ_ av x' t' => av = .v (.tup []) ∧ t' = .dead ∧ ∃ h : Nat -> Poly p × Nat, Mix n h0 h ∧ Ord h n ∧ x' = .ownV 145 2 bk n λj => vF (h j)) := by
 refine zeI (cx := cx [0, 1, 2, 3, 8, 9, 14, 34, 1000000, 1000001]) Tryz.func237 rfl (by decide) Tryz.ntmps237 (lb rfl) (lb rfl) rfl rfl λbase hs0 O U hw v0 hb0 => ?_;refine wrs λK hK => ?_;conv=>whnf
 refine ⟨by decide, ?_⟩;conv=>whnf
 refine hK _ (W.block (W.invH hs0 hb0 (λm e => ∃ (i : Nat) (h : Nat -> Poly p × Nat), 1 <= i ∧ i <= n + 1 ∧ Mix n h0 h ∧ Ord h i ∧ m = n + 1 - i ∧ e = [(0, .ownV 145 2 bk n λj => vF (h j)), (1, .v (.int .i64 0)), (2, .v (.int .i64 n)), (3, .v (.func 210 [])), (8, .v (.int .i64 i)), (vt, .dead), (vk, .keep O U hw 0 v0)]) _ _ (⟨1, h0, by omega, by omega, ⟨λ_ => Iff.rfl, hdis⟩, λx y h1 h2 => by omega, rfl, rfl⟩) (by dsimp only; omega) (by repeat' first | refine And.intro ?_ ?_ | exact trivial | rfl | omega | exact .inl rfl | exact λ_ _ => rfl | exact λ_ _ h => h | assumption | exact λi hi => (by obtain rfl : i = 0 := (by omega); rfl)) ?_));clear hK;rintro m e ⟨i, h, hi1, hi2, hM, hO, hm, rfl⟩;refine W.seqK λK7 hK7 => wrs λK hK => ?_;conv=>whnf
 refine hK _ (W.cond ⟨λh3 => ?_, λh3 => ?_⟩) <;> clear hK <;> (first | replace h3 := of_decide_eq_true h3 | replace h3 := of_decide_eq_false h3)
 ·have h3 : i < n := by omega
  refine W.skip (hK7 _ ?_);clear hK7;refine W.seqK λK8 hK8 => W.block ?_;refine wrs λK hK => ?_;conv=>whnf
  refine hK _ (W.block (W.invH hs0 hb0 (λm e => ∃ (j : Nat) (h : Nat -> Poly p × Nat), j <= i ∧ Mix n h0 h ∧ zhK h i j ∧ m = j ∧ e = [(0, .ownV 145 2 bk n λj => vF (h j)), (1, .v (.int .i64 0)), (2, .v (.int .i64 n)), (3, .v (.func 210 [])), (8, .v (.int .i64 i)), (9, .v (.int .i64 j)), (vt, .dead), (vk, .keep O U hw 0 v0)]) _ _ (⟨i, h, by omega, hM, zhK.start hO, rfl, rfl⟩) (by dsimp only; omega) (by repeat' first | refine And.intro ?_ ?_ | exact trivial | rfl | omega | exact .inl rfl | exact λ_ _ => rfl | exact λ_ _ h => h | assumption | exact λi hi => (by obtain rfl : i = 0 := (by omega); rfl)) ?_));clear hK;clear hM hO h;rintro m' e ⟨j, h, hj, hM, hO, hm', rfl⟩
  -- the end of the inner loop
  have fin : (j = 0 ∨ ∃ k, j = k + 1 ∧ ¬ ltP (h j).1 (h k).1) -> ∀ s : S, hs0 <= s.hs -> zB s.env [(0, .ownV 145 2 bk n λj => vF (h j)), (1, .v (.int .i64 0)), (2, .v (.int .i64 n)), (3, .v (.func 210 [])), (8, .v (.int .i64 i)), (vt, .dead), (vk, .keep O U hw 0 v0)] -> K8 s := by
   intro h4 s h5 h6;refine hK8 _ (W.weak (t := ⟨[(0, .ownV 145 2 bk n λj => vF (h j)), (1, .v (.int .i64 0)), (2, .v (.int .i64 n)), (3, .v (.func 210 [])), (8, .v (.int .i64 i)), (vt, .dead), (vk, .keep O U hw 0 v0)], hs0⟩) ⟨h5, h6⟩ hb0 ?_);clear hK8;refine wrg ?_;conv=>whnf
   refine ⟨oo, ?_⟩;conv=>whnf
   exact zk ⟨i + 1, h, by omega, by omega, hM, hO.fin hM h3 hj h4, rfl, rfl⟩
  clear hK8;refine W.seqK λK7 hK7 => ?_;refine W.rd (za _) follows (by rfl) λK hK => ?_;conv=>whnf
  rcases Nat.eq_zero_or_pos j with rfl | hj0
  ·have e0 : decide (0 < ((0 : Nat) : Int)) = false := by decide
   rw [e0];conv=>whnf
   refine ⟨rfl, ?_⟩;conv=>whnf
   refine hK _ (W.cond ⟨λh => absurd h (by decide), λ_ => W.exit (fin (.inl rfl) _ (by dsimp only; omega) ?_)⟩);clear fin hK hK7;exact cvr
  ·obtain ⟨k, rfl⟩ : ∃ k, j = k + 1 := ⟨j - 1, by omega⟩
   have e0 : decide (0 < ((k + 1 : Nat) : Int)) = true := decide_eq_true (by omega);rw [e0];conv=>whnf
   refine ⟨oo, ?_⟩;conv=>whnf
   refine ⟨oo, ?_⟩;conv=>whnf
   refine ⟨oo, ?_⟩;conv=>whnf
   have ek : (((k + 1 : Nat) : Int) - 1) = (k : Int) := by omega
   rw [ek, Int.toNat_natCast, Int.toNat_natCast]
   have hb : ∀ i, i < n -> dg (h i).1 <= 1000000 := λi hi => by
    obtain ⟨i', h1, h2⟩ := (hM.mem (h i)).1 ⟨i, hi, rfl⟩;rw [<- h2]; exact hd i' h1
   refine ⟨_, cxF (zmD (h (k + 1)) (h k) (hb _ (by omega)) (hb _ (by omega))), ?_⟩;conv=>whnf
   refine hK _ (W.cond ⟨λh4 => ?_, λh4 => ?_⟩) <;> clear hK
   ·have h4 : jn (h (k + 1)).1.l (h k).1.l < 0 := of_decide_eq_true h4;have h4 := (zd4 _ _).1 h4;clear fin;refine W.skip (hK7 _ ?_);clear hK7;refine W.seqK λK8 hK8 => W.block ?_;refine W.draw (za _) follows (by rfl) ?_;conv=>whnf
    refine ⟨oo, ?_⟩;conv=>whnf
    refine ⟨oo, ?_⟩;conv=>whnf
    refine ⟨oo, ?_⟩;conv=>whnf
    rw [ek, Int.toNat_natCast];refine ⟨oo, ?_⟩;conv=>whnf
    rw [Int.toNat_natCast];refine ⟨oo, ?_⟩;conv=>whnf
    refine ⟨⟨by show 0 + 2 <= 2; omega, rfl⟩, λj => vF (if j = k + 1 then h k else h j), by show vF (if k + 1 = k + 1 then h k else h (k + 1)) = _; rw [if_pos rfl]; rfl, λj _ hj => by show vF (if j = k + 1 then h k else h j) = _; rw [if_neg hj], ?_⟩;conv=>whnf
    refine ⟨oo, ?_⟩;conv=>whnf
    rw [Int.toNat_natCast];refine ⟨⟨by show 0 + 2 <= 2; omega, rfl⟩, λj => vF (kd h (k + 1) k j), by show vF (kd h (k + 1) k k) = _; rw [zlB]; rfl, λj _ hj => by show vF (kd h (k + 1) k j) = vF (if j = k + 1 then h k else h j); unfold kd; by_cases h5 : j = k + 1 <;> simp [h5, hj], ?_⟩;conv=>whnf
    refine hK8 _ ?_;clear hK8;refine wrg ?_;conv=>whnf
    refine ⟨oo, ?_⟩;conv=>whnf
    exact zk ⟨k, kd h (k + 1) k, by omega, hM.swap (by omega) (by omega), hO.step hj h4, rfl, rfl⟩
   ·have h4 : ¬ jn (h (k + 1)).1.l (h k).1.l < 0 := of_decide_eq_false h4;refine W.exit (fin (.inr ⟨k, rfl, λe => h4 ((zd4 _ _).2 e)⟩) _ (by dsimp only; omega) ?_);clear fin hK7;exact cvr
 ·have hin : n <= i := by omega
  refine W.exit ?_;conv=>whnf
  refine ⟨by dsimp only; omega, ?_⟩;conv=>whnf
  refine ⟨.ownV 145 2 bk n λj => vF (h j), ⟨rfl, rfl, rfl, rfl, λ_ _ => rfl⟩, .inr ⟨rfl, rfl⟩, .dead, trivial, rfl, rfl, rfl, rfl, h, hM, λx y h1 h2 => hO x y h1 (by omega), rfl⟩

end Go.Proofs.YtffhmebkkbfaeaaGreat
