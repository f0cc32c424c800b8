/- What the program's functions and the reference's return. No conditions. -/
import Derived.Test.YtffhmebkkbfaeaaGreatPj
namespace Go.Proofs.YtffhmebkkbfaeaaGreat
open Go Go.RowKit Go.Proofs Poly
set_option maxRecDepth 100000
set_option maxHeartbeats 8000000

theorem kL {n : Nat} {c : Nat -> Int} (hc : Byt n c) (p k : Int) (l : List Int) (hl : l.length <= 100) : zi4 113 [vE p k none l] n c (λr => ∃ L, r = .ints none L ∧ L.length <= 100000) := by
 rintro b x hx;refine jV (cx := cxt [] [0, 1, 3, 4, 5, 6, 9, 13, 21, 1000000, 1000001]) (zh [] [0, 1, 3, 4, 5, 6, 9, 13, 21, 1000000, 1000001]) Tryz.func113 rfl (by decide) Tryz.ntmps113 (Nat.le_of_ble_eq_true rfl) (Nat.le_of_ble_eq_true rfl) rfl rfl λbase hs0 O U hw v0 hb0 => ?_;refine W.sw (c' := cx [0, 1, 3, 4, 5, 6, 9, 13, 21, 1000000, 1000001]) ?_;refine wrs λK hK => ?_;conv => whnf
 refine ⟨rfl, ?_⟩;conv => whnf
 intro b_3 hs_3 hh_3 hf_3;try dsimp only at hh_3 hf_3
 conv => whnf
 refine hK _ ?_;clear hK K;refine W.seqK λK1 hK1 => ?_;refine wrs λK hK => ?_;conv => whnf
 refine zb rfl (zU p k none l (by omega)) λhs' hhs => ?_;try dsimp only at hhs
 conv => whnf
 refine hK _ (W.cond ⟨λh => ?_, λh => ?_⟩) <;> clear hK K
 ·refine wrs λK hK => ?_;conv => whnf
  refine ⟨⟨rfl, by decide⟩, ?_⟩;conv => whnf
  intro b_8 hs_8 hh_8 hf_8;try dsimp only at hh_8 hf_8
  conv => whnf
  refine hK _ ?_;clear hK K;refine W.ret ?_;conv => whnf
  refine ⟨by dsimp only; omega, ?_⟩;conv => whnf
  refine ⟨rfl, ?_⟩;conv => whnf
  refine ⟨.ints none [1], ⟨.inl rfl, rfl⟩, ?_⟩;conv => whnf
  exact ⟨.ownB b (x), ⟨rfl, rfl⟩, .inr ⟨rfl, rfl⟩, .dead, trivial, rfl, rfl, rfl, ⟨x, hx, rfl⟩, _, rfl, ⟨_, rfl, by decide⟩⟩
 have hk : jn p k l := zc1.1 (by simpa using h);refine W.skip (hK1 _ ?_);clear hK1 K1 h;obtain ⟨hpp, hx2⟩ := zcv hk;letI := xt hpp;obtain ⟨M, _, f, nn, rfl, he⟩ := hx2;have hfl : f.l.length = dg f := rfl;have hf1 := he.mn.1;have hn8 := he.n8;have hm2 := he.m2;have hm9 := he.m9;have hp2 := yN hpp;refine W.seqK λK1 hK1 => ?_;refine wrs λK hK => ?_;conv => whnf
 refine ⟨⟨rfl, rfl⟩, ?_⟩;conv => whnf
 refine ⟨rfl, _, (zS hc 24 (by constructor <;> decide) b x hx), ?_⟩;rintro hs_ms1 av x' t' hh_ms1 ⟨rfl, ⟨x1, hx1, rfl⟩, _, rfl, ⟨q, rfl, q0, q1, _⟩⟩ _ _ _;try dsimp only at hh_ms1
 conv => whnf
 refine hK _ (W.cond ⟨λh1 => ?_, λh1 => ?_⟩) <;> clear hK K
 ·refine wrs λK hK => ?_;conv => whnf
  refine hK _ ?_;clear hK K;refine W.ret ?_;conv => whnf
  refine ⟨by dsimp only; omega, ?_⟩;conv => whnf
  refine ⟨rfl, ?_⟩;conv => whnf
  refine ⟨.ints none f.l, ⟨rfl, rfl⟩, ?_⟩;conv => whnf
  exact ⟨.ownB b (x1), ⟨rfl, rfl⟩, .inr ⟨rfl, rfl⟩, .dead, trivial, rfl, rfl, rfl, ⟨x1, hx1, rfl⟩, _, rfl, ⟨_, rfl, by omega⟩⟩
 refine W.skip (hK1 _ ?_);clear hK1 K1;refine wrs λK hK => ?_;conv => whnf
 refine ⟨⟨rfl, by decide⟩, ?_⟩;conv => whnf
 intro b_5 hs_5 hh_5 hf_5;try dsimp only at hh_5 hf_5
 conv => whnf
 refine hK _ ?_;clear hK K;refine W.seqK λK1 hK1 => ?_;refine wrs λK hK => ?_;conv => whnf
 refine hK _ (W.block (W.invH hs0 hb0 (λm e' => ∃ (i bo : Nat) (y : V) (X : List Int), zaT n c y ∧ 1 <= i ∧ X.length < i ∧ i <= 9 ∧ m = f.l.length - i ∧ e' = [(vt, .dead), (vk, .keep O U hw 0 v0), (0, .ownB b y), (3, .ownB b_3 (vE p k none f.l)), (5, .ownI 2 bo X), (6, .v (.int .i64 i))]) _ _ ⟨1, b_5, x1, [], hx1, Nat.le_refl _, by decide, by omega, rfl, rfl⟩ (by dsimp only; omega) (by repeat' first | refine And.intro ?_ ?_ | exact trivial | rfl | omega | assumption) ?_));clear hK K;rintro m e' ⟨i, bo, y, X, hy, hi1, hXl, hi9, hm, rfl⟩;refine W.seqK λK7 hK7 => wrs λK hK => ?_;conv => whnf
 refine hK _ (W.cond ⟨λh5 => ?_, λh5 => ?_⟩) <;> clear hK K <;> (first | replace h5 := of_decide_eq_true h5 | replace h5 := of_decide_eq_false h5)
 ·refine W.skip (hK7 _ (W.seqK λK8 hK8 => W.block ?_));clear hK7 K7;refine W.gh follows ?_;refine Wgh.tk (za []) 0 ?_;conv => whnf
  refine Wgh.tk (za []) 1 ?_;conv => whnf
  refine Wgh.tk (za []) 2 ?_;conv => whnf
  refine Wgh.tk (za []) 3 ?_;conv => whnf
  refine Wgh.tk (za []) 6 ?_;conv => whnf
  refine Wgh.tk (za []) 7 ?_;conv => whnf
  refine Wgh.tk (za []) 8 ?_;conv => whnf
  refine Wgh.tk (za []) 9 ?_;conv => whnf
  refine Wgh.on (za []) 4 [9, 8, 7, 6, 2, 1, 0] (by refine ⟨?_, ?_, ?_, ?_, ?_, ?_, ?_, ?_, trivial⟩ <;> (conv => whnf) <;> exact ⟨Nat.le_refl _, rfl⟩) ?_;conv => whnf
  refine zb rfl (j7 he none) λhs' hhs => ?_;try dsimp only at hhs
  conv => whnf
  refine Wgh.on (za []) 5 [9, 8, 7, 6, 1, 0] (by refine ⟨?_, ?_, ?_, ?_, ?_, ?_, ?_, trivial⟩ <;> (conv => whnf) <;> exact ⟨Nat.le_refl _, rfl⟩) ?_;conv => whnf
  refine ⟨⟨rfl, rfl⟩, ?_⟩;conv => whnf
  refine ⟨rfl, _, (zS hc M (by constructor <;> omega) b y hy), ?_⟩;rintro hs_ms2 av x' t' hh_ms2 ⟨rfl, ⟨x2, hx2, rfl⟩, _, rfl, ⟨r1, rfl, _⟩⟩ _ _ _;try dsimp only at hh_ms2
  conv => whnf
  refine Wgh.on (za []) 10 [1, 0] (by refine ⟨?_, ?_, ?_, ?_, ?_, ?_, trivial⟩ <;> (conv => whnf) <;> exact ⟨Nat.le_refl _, rfl⟩) ?_;conv => whnf
  refine ⟨⟨rfl, rfl⟩, ?_⟩;conv => whnf
  refine ⟨rfl, _, (zS hc p (by constructor <;> omega) b x2 hx2), ?_⟩;rintro hs_ms3 av x' t' hh_ms3 ⟨rfl, ⟨x3, hx3, rfl⟩, _, rfl, ⟨r2, rfl, _⟩⟩ _ _ _;try dsimp only at hh_ms3
  conv => whnf
  refine Wgh.on (za []) 11 [1, 0] (by refine ⟨?_, ?_, trivial⟩ <;> (conv => whnf) <;> exact ⟨Nat.le_refl _, rfl⟩) ?_;conv => whnf
  refine ⟨⟨rfl, by decide⟩, ?_⟩;conv => whnf
  intro b_1 hs_1 hh_1 hf_1;try dsimp only at hh_1 hf_1
  conv => whnf
  refine Wgh.on (za []) 12 [0] (by refine ⟨?_, ?_, trivial⟩ <;> (conv => whnf) <;> exact ⟨Nat.le_refl _, rfl⟩) ?_;conv => whnf
  refine ⟨⟨rfl, rfl⟩, ?_⟩;conv => whnf
  refine ⟨rfl, _, (vJ hc none [r1, r2, 0] ⟨(by show 1 <= 3; omega), (by show 3 <= 1000; omega)⟩ b x3 hx3), ?_⟩;rintro hs_ms4 av x' t' hh_ms4 ⟨rfl, ⟨x4, hx4, rfl⟩, _, rfl, ⟨r, rfl, _⟩⟩ _ _ _;try dsimp only at hh_ms4
  conv => whnf
  refine Wgh.on (za []) 13 [0] ⟨(by (conv => whnf); exact ⟨Nat.le_refl _, rfl⟩), trivial⟩ ?_;conv => whnf
  refine ⟨⟨rfl, by decide⟩, ?_⟩;conv => whnf
  intro b_2 hs_2 hh_2 hf_2;try dsimp only at hh_2 hf_2
  conv => whnf
  refine Wgh.on (za []) 14 [] ⟨(by (conv => whnf); exact ⟨Nat.le_refl _, rfl⟩), trivial⟩ ?_;conv => whnf
  refine ⟨by simp; omega, ?_⟩;conv => whnf
  intro b_4 hs_4 hh_4 hf_4;try dsimp only at hh_4 hf_4
  conv => whnf
  refine Wgh.on (za []) 15 [] trivial ?_;conv => whnf
  refine Wgh.dn (za []) trivial ?_;conv => whnf
  refine hK8 _ ?_;clear hK8 K8;refine wrg ?_;conv => whnf
  refine ⟨oo, ?_⟩;conv => whnf
  exact zm ⟨i + 1, b_4, x4, X ++ [r], hx4, by omega, by simp; omega, by omega, rfl, rfl⟩
 ·refine W.exit (hK1 _ ?_);clear hK7 K7 hK1 K1;refine wrs λK hK => ?_;conv => whnf
  refine zr rfl (yu _ X (by omega)) λhs_6 b_6 hh_6 hf_6 => ?_;try dsimp only at hh_6 hf_6
  conv => whnf
  refine hK _ ?_;clear hK K;refine W.ret ?_;conv => whnf
  refine ⟨by dsimp only; omega, ?_⟩;conv => whnf
  refine ⟨rfl, ?_⟩;conv => whnf
  refine ⟨.ints none (zu X), ⟨.inl rfl, rfl⟩, ?_⟩;conv => whnf
  exact ⟨.ownB b (y), ⟨rfl, rfl⟩, .inr ⟨rfl, rfl⟩, .dead, trivial, rfl, rfl, rfl, ⟨y, hy, rfl⟩, _, rfl, ⟨_, rfl, by have := z0 X; omega⟩⟩

theorem vZ {n : Nat} {c : Nat -> Int} (hc : Byt n c) : Fn Tryz.prog 47 [vBy n c] (λ_ _ z => ∃ p k L X Y, z = .v (.tup [vE p k none L, .ints none X, .ints none Y]) ∧ (-1000 <= p ∧ p <= 1000) ∧ (-1000 <= k ∧ k <= 1000) ∧ L.length <= 30 ∧ X.length <= 100000 ∧ Y.length <= 100000) := by
 refine zg (za [0, 2, 3, 4, 5, 6, 7]) Tryz.func47 rfl (by decide) Tryz.ntmps47 (Nat.le_of_ble_eq_true rfl) λbase => ?_;refine wrs λK hK => ?_;conv => whnf
 intro b_2 hs_2 hh_2 hf_2;try dsimp only at hh_2 hf_2
 conv => whnf
 refine hK _ ?_;clear hK K;refine wrs λK hK => ?_;conv => whnf
 refine yO rfl (zfc hc) ?_;rintro lo hi hi' z hl1 hl2 hl3 ⟨b, x, hx, rfl⟩ _;try dsimp only at hl1 hl2
 conv => whnf
 refine hK _ ?_;clear hK K;refine wrs λK hK => ?_;conv => whnf
 refine ⟨⟨rfl, rfl⟩, ?_⟩;conv => whnf
 refine ⟨rfl, _, (zgI hc b x hx), ?_⟩;rintro hs_ms1 av x' t' hh_ms1 ⟨rfl, ⟨x1, hx1, rfl⟩, _, rfl, ⟨p, k, L, rfl, hp, hk, hL⟩⟩ _ _ _;try dsimp only at hh_ms1
 conv => whnf
 intro b_6 hs_6 hh_6 hf_6;try dsimp only at hh_6 hf_6
 conv => whnf
 refine ⟨s23, ?_⟩;conv => whnf
 refine hK _ ?_;clear hK K;refine wrs λK hK => ?_;conv => whnf
 refine ⟨⟨rfl, rfl⟩, ?_⟩;conv => whnf
 refine ⟨rfl, _, (kL hc p k L (by omega) b x1 hx1), ?_⟩;rintro hs_ms2 av x' t' hh_ms2 ⟨rfl, ⟨x2, hx2, rfl⟩, _, rfl, ⟨X, rfl, hX⟩⟩ _ _ _;try dsimp only at hh_ms2
 conv => whnf
 refine hK _ ?_;clear hK K;refine W.rgh follows λK hK => ?_;refine Wgh.tk (za []) 0 ?_;conv => whnf
 refine Wgh.tk (za []) 1 ?_;conv => whnf
 refine Wgh.tk (za []) 2 ?_;conv => whnf
 refine Wgh.tk (za []) 3 ?_;conv => whnf
 refine Wgh.on (za []) 4 [1, 0] (by refine ⟨?_, ?_, ?_, ?_, trivial⟩ <;> (conv => whnf) <;> exact ⟨Nat.le_refl _, rfl⟩) ?_;conv => whnf
 refine ⟨⟨rfl, rfl⟩, ?_⟩;conv => whnf
 refine ⟨rfl, _, (kL hc p k L (by omega) b x2 hx2), ?_⟩;rintro hs_ms3 av x' t' hh_ms3 ⟨rfl, ⟨x3, hx3, rfl⟩, _, rfl, ⟨Y, rfl, hY⟩⟩ _ _ _;try dsimp only at hh_ms3
 conv => whnf
 refine Wgh.on (za []) 5 [1] (by refine ⟨?_, ?_, trivial⟩ <;> (conv => whnf) <;> exact ⟨Nat.le_refl _, rfl⟩) ?_;conv => whnf
 refine ⟨s23, ?_⟩;conv => whnf
 refine Wgh.on (za []) 6 [] ⟨(by (conv => whnf); exact ⟨Nat.le_refl _, rfl⟩), trivial⟩ ?_;conv => whnf
 refine Wgh.on (za []) 7 [] trivial ?_;conv => whnf
 refine Wgh.dn (za []) trivial (hK _ ?_);clear hK K;refine W.ret ?_;conv => whnf
 exact ⟨⟨trivial, trivial, trivial, trivial⟩, .v (.ints none X), ⟨rfl, rfl⟩, trivial, .v (.ints none Y), ⟨rfl, rfl⟩, trivial, p, k, L, X, Y, rfl, hp, hk, hL, hX, hY⟩

theorem zfT {n : Nat} {c : Nat -> Int} (hc : Byt n c) : Fn Tryz.prog 60 [vBy n c] (λ_ _ z => ∃ p k L X, z = .v (.tup [vE p k none L, .ints none X]) ∧ (-1000 <= p ∧ p <= 1000) ∧ (-1000 <= k ∧ k <= 1000) ∧ L.length <= 30 ∧ X.length <= 100000) := by
 refine zg (za [0, 2, 3, 4, 5]) Tryz.func60 rfl (by decide) Tryz.ntmps60 (Nat.le_of_ble_eq_true rfl) λbase => ?_;refine wrs λK hK => ?_;conv => whnf
 intro b_2 hs_2 hh_2 hf_2;try dsimp only at hh_2 hf_2
 conv => whnf
 refine hK _ ?_;clear hK K;refine wrs λK hK => ?_;conv => whnf
 refine yO rfl (vZ hc) ?_;rintro lo hi hi' z hl1 hl2 hl3 ⟨p, k, L, X, Y, rfl, hp, hk, hL, hX, hY⟩ _;try dsimp only at hl1 hl2
 conv => whnf
 intro b_4 hs_4 hh_4 hf_4;try dsimp only at hh_4 hf_4
 conv => whnf
 refine ⟨s23, ?_⟩;conv => whnf
 refine hK _ ?_;clear hK K;refine wrs λK hK => ?_;conv => whnf
 refine ⟨s23, ?_⟩;conv => whnf
 refine hK _ ?_;clear hK K;refine W.ret ?_;conv => whnf
 exact ⟨⟨trivial, trivial, trivial, trivial⟩, .v (.ints none X), ⟨rfl, rfl⟩, trivial, p, k, L, X, rfl, hp, hk, hL, hX⟩

theorem zaq {n : Nat} {c : Nat -> Int} (hc : Byt n c) : Fn Tryz.prog 49 [vBy n c] (λ_ _ z => ∃ p k L X, z = .v (.tup [vE p k none L, .ints none X]) ∧ (-1000 <= p ∧ p <= 1000) ∧ (-1000 <= k ∧ k <= 1000) ∧ L.length <= 30 ∧ X.length <= 100000) := by
 refine zg (za [0, 2, 3]) Tryz.func49 rfl (by decide) Tryz.ntmps49 (Nat.le_of_ble_eq_true rfl) λbase => ?_;refine wrs λK hK => ?_;conv => whnf
 intro b_2 hs_2 hh_2 hf_2;try dsimp only at hh_2 hf_2
 conv => whnf
 refine hK _ ?_;clear hK K;refine wrs λK hK => ?_;conv => whnf
 refine yO rfl (zfT hc) ?_;rintro lo hi hi' z hl1 hl2 hl3 ⟨p, k, L, X, rfl, hp, hk, hL, hX⟩ _;try dsimp only at hl1 hl2
 conv => whnf
 refine ⟨s23, ?_⟩;conv => whnf
 refine hK _ ?_;clear hK K;refine W.ret ?_;conv => whnf
 exact ⟨⟨trivial, trivial, trivial, trivial⟩, .v (.ints none X), ⟨rfl, rfl⟩, trivial, p, k, L, X, rfl, hp, hk, hL, hX⟩
theorem zar {n : Nat} {c : Nat -> Int} (hc : Byt n c) : Fn Tryz.prog 52 [vBy n c] (λ_ _ z => ∃ p k L, z = .v (vE p k none L) ∧ (-1000 <= p ∧ p <= 1000) ∧ (-1000 <= k ∧ k <= 1000) ∧ L.length <= 30) := by
 refine zg (za [0, 2]) Tryz.func52 rfl (by decide) Tryz.ntmps52 (Nat.le_of_ble_eq_true rfl) λbase => ?_;refine wrs λK hK => ?_;conv => whnf
 intro b_2 hs_2 hh_2 hf_2;try dsimp only at hh_2 hf_2
 conv => whnf
 refine hK _ ?_;clear hK K;refine wrs λK hK => ?_;conv => whnf
 refine yO rfl (zfc hc) ?_;rintro lo hi hi' z hl1 hl2 hl3 ⟨b, x, hx, rfl⟩ _;try dsimp only at hl1 hl2
 conv => whnf
 refine ⟨⟨rfl, rfl⟩, ?_⟩;conv => whnf
 refine ⟨rfl, _, (zgI hc b x hx), ?_⟩;rintro hs_ms1 av x' t' hh_ms1 ⟨rfl, ⟨x1, hx1, rfl⟩, _, rfl, ⟨p, k, L, rfl, hp, hk, hL⟩⟩ _ _ _;try dsimp only at hh_ms1
 conv => whnf
 refine ⟨s23, ?_⟩;conv => whnf
 refine hK _ ?_;clear hK K;refine W.ret ?_;conv => whnf
 exact ⟨⟨trivial, trivial, trivial, trivial⟩, p, k, L, rfl, hp, hk, hL⟩


theorem zfU (kp : Int) [SP kp] (f X : Poly kp) (hk : IsFld kp f.l) (hxl : dg X < dg f) (hc : zon kp f.l X.l = 0) (n : Nat) (hn : n <= 100) (g0 g1 : Option Nat) : FnT Tryz.prog 56 [vK kp g0 f.l, .ints g1 X.l, .int .i64 n] (RT (frN f X n).l 0) := by
 have hf9 := hk.mod.2.1;have hfl : f.l.length = dg f := rfl;have hXl : X.l.length = dg X := rfl;have hf0 : f ≠ 0 := λe => by rw [e, zC] at hxl; omega
 have hp1 := zaX hk.mod.1;have he : (0 : Int) <= n ∧ (n : Int) <= 100 := by omega
 have hF := zp2 hf0 hxl;refine yU (zh [] [0, 1, 2, 3, 6, 7, 8, 9, 17, 21, 22, 23, 1000000]) Tryz.func56 rfl (by decide) Tryz.ntmps56 (Nat.le_of_ble_eq_true rfl) (λbase => ?_) (Nat.le_of_ble_eq_true rfl);refine W.sw (c' := cx [0, 1, 2, 3, 6, 7, 8, 9, 17, 21, 22, 23, 1000000]) ?_;refine wrs λK hK => ?_;conv => whnf
 refine ⟨rfl, ?_⟩;conv => whnf
 intro b_1 hs_1 hh_1 hf_1;try dsimp only at hh_1 hf_1
 conv => whnf
 refine hK _ ?_;clear hK K;refine W.seqK λK1 hK1 => ?_;refine W.rd (za _) follows (by rfl) λK hK => ?_;conv => whnf
 refine ⟨_, cxF (kG n 0 100), ?_⟩;conv => whnf
 refine ⟨⟨rfl, by decide, λx hx => (by simp at hx; subst hx; exact ⟨rfl, rfl⟩)⟩, ?_⟩;conv => whnf
 refine ⟨_, cxF (zfR kp g0 none f.l _ 1 _ (λ_ => X.l) (by omega) (by omega) (zqc g1 X.l)), ?_⟩;conv => whnf
 rw [zoq hc (decide_eq_true he)];refine hK _ ?_;clear hK K;refine wrs λK hK => ?_;conv => whnf
 refine hK _ (W.cond ⟨λhcc => absurd rfl (of_decide_eq_true hcc), λ_ => W.skip (hK1 _ ?_)⟩);clear hK K hK1 K1;refine wrs λK hK => ?_;conv => whnf
 refine zr rfl (zaU g1 X.l (by omega)) λhs_2 b_2 hh_2 hf_2 => ?_;try dsimp only at hh_2 hf_2
 conv => whnf
 refine hK _ ?_;clear hK K;refine W.sw (c' := cxt [89] [0, 1, 2, 3, 6, 7, 8, 9, 17, 21, 22, 23, 1000000]) ?_;refine W.give 9 λK hK => ?_;conv => whnf
 refine hK _ ?_;clear hK K;refine W.seqK λK1 hK1 => ?_;refine W.rs (zh _ _) (by rfl) λK hK => ?_;conv => whnf
 refine hK _ (W.block (W.invA (λm e => ∃ (j b : Nat) (tb : Tab), j <= n ∧ ((frN f X j).l ≠ [] -> tb b = some (frN f X j).l) ∧ m = n - j ∧ e = [(vt, .tab tb), (3, .ownB b_1 (vK kp g0 f.l)), (9, .v (.rf b (frN f X j).l.length)), (21, .v (.int .i64 n)), (22, .v (.int .i64 j))]) ⟨0, b_2, _, Nat.zero_le _, λh => zI _ _ h, rfl, rfl⟩ ?_));clear hK K;rintro m e ⟨j, b, tb, hj, htb, hm, rfl⟩;have hFj := hF j;refine W.rs (zh _ _) (by rfl) λK hK => ?_;conv => whnf
 refine hK _ ?_;clear hK K;refine W.seqK λK7 hK7 => W.cond ⟨λh => ?_, λh => ?_⟩ <;> (first | replace h := of_decide_eq_true h | replace h := of_decide_eq_false h)
 ·refine W.skip (hK7 _ ?_);clear hK7 K7;refine W.seqK λK8 hK8 => W.block ?_;refine W.region (zh _ _) (by rfl) ?_;conv => whnf
  refine ⟨_, ⟨rfl, htb⟩, ?_⟩;conv => whnf
  refine ⟨_, cxT (zpt kp g0 (some b) f (frN f X j) (by omega) (by omega) hf0), λlo_r hi_r hs_r x_r tn_r tb_r hl1_r hl2_r _ hp_r hf_r hn_r ho_r => ?_⟩;try dsimp only at hl1_r hl2_r
  obtain ⟨br, rfl, hr⟩ := hp_r;conv => whnf
  refine hK8 _ ?_;clear hK8 K8;refine W.region (zh _ _) (by rfl) ?_;conv => whnf
  refine ⟨oo, ?_⟩;conv => whnf
  exact zm ⟨j + 1, br, tb_r, by omega, λh => hn_r _ _ (hr h), rfl, rfl⟩
 ·obtain rfl : j = n := by omega
  refine W.exit (hK1 _ ?_);clear hK7 K7 hK1 K1;refine W.rs (zh _ _) (by rfl) λK hK => ?_;conv => whnf
  refine hK _ ?_;clear hK K;refine W.ret ?_;conv => whnf
  exact ⟨.v (.rf b (frN f X j).l.length), rfl, trivial, .v (.int .i64 0), ⟨rfl, rfl⟩, trivial, b, rfl, htb⟩

theorem zac {p k : Int} {l : List Int} {n : Nat} {X : Nat -> List Int} (h : jn p k l) (h2 : ∀ i, i < n -> vY p k l (X i)) : z8 p k l n X = 0 := by
 unfold z8; rw [zi h, zi h2]; rfl
theorem zcw {p k M : Int} [SP p] [Pos M] {f : Poly M} {n : Nat} (he : ExtP p k M f n) (X : Poly M) (h : dg X <= n) : vY p k f.l X.l := by
 have h1 := he.mn.1;have h8 := he.n8;refine ⟨zpN he.rn.1 he.hm X (by omega), ?_⟩;show dg X < dg f; omega
open Go Go.RowKit Go.ChangeShapes Go.WideShapes Go.ChangeAt Go.Proofs Go.Proofs.YtffhmebkkbfaeaaGreat

def zqN : List Char := [104, 97, 114, 110, 101, 115, 115, 32, 54, 53, 102, 56, 102, 97, 101, 99, 98, 50, 51, 54, 53, 50, 51, 49, 100, 56, 48, 51, 99, 57, 101, 55, 98, 99, 57, 50, 53, 51, 101, 56, 54, 54, 53, 51, 49, 49, 56, 100, 97, 101, 53, 100, 55, 98, 54, 99, 101, 102, 102, 99, 53, 98, 54, 48, 97, 49, 48, 57, 57, 98, 48, 56, 32, 99, 117, 116, 32, 97, 116, 32, 108, 111, 111, 112, 46, 101, 120, 97, 109, 112, 108, 101, 47, 103, 48, 49, 48, 48, 48, 47, 108, 97, 119, 115, 46, 70, 110, 69, 120, 97, 99, 116, 83, 112, 108, 105, 116, 116, 105, 110, 103, 115, 79, 102, 32, 108, 111, 111, 112, 46, 101, 120, 97, 109, 112, 108, 101, 47, 103, 48, 49, 48, 48, 48, 47, 108, 97, 119, 115, 46, 70, 110, 85, 110, 105, 116, 115, 32, 108, 111, 111, 112, 46, 101, 120, 97, 109, 112, 108, 101, 47, 103, 48, 49, 48, 48, 48, 47, 108, 97, 119, 115, 46, 70, 110, 82, 101, 115, 105, 100, 117, 97, 108, 70, 97, 99, 116, 111, 114, 115, 32, 108, 111, 111, 112, 46, 101, 120, 97, 109, 112, 108, 101, 47, 103, 48, 49, 48, 48, 48, 47, 108, 97, 119, 115, 46, 70, 110, 69, 120, 116, 101, 110, 115, 105, 111, 110, 115].map Char.ofNat
def zoG : List Char := [99, 117, 116].map Char.ofNat
def zoH : List (List Char) := [[97, 116], [108, 111, 111, 112, 46, 101, 120, 97, 109, 112, 108, 101, 47, 103, 48, 49, 48, 48, 48, 47, 108, 97, 119, 115, 46, 70, 110, 69, 120, 97, 99, 116, 83, 112, 108, 105, 116, 116, 105, 110, 103, 115, 79, 102], [108, 111, 111, 112, 46, 101, 120, 97, 109, 112, 108, 101, 47, 103, 48, 49, 48, 48, 48, 47, 108, 97, 119, 115, 46, 70, 110, 85, 110, 105, 116, 115], [108, 111, 111, 112, 46, 101, 120, 97, 109, 112, 108, 101, 47, 103, 48, 49, 48, 48, 48, 47, 108, 97, 119, 115, 46, 70, 110, 82, 101, 115, 105, 100, 117, 97, 108, 70, 97, 99, 116, 111, 114, 115], [108, 111, 111, 112, 46, 101, 120, 97, 109, 112, 108, 101, 47, 103, 48, 49, 48, 48, 48, 47, 108, 97, 119, 115, 46, 70, 110, 69, 120, 116, 101, 110, 115, 105, 111, 110, 115]].map λw => w.map Char.ofNat
theorem zqO : Tryz.checked.prog.initOrder = String.ofList zqN := by kernel_rfl
theorem zlu : behindMainWord (wordsSigns Tryz.checked.prog.initOrder.toList) = zoG :: zoH := by rw [zqO, String.toList_ofList]; kernel_rfl
theorem zjn {P : Program} {c : List Char} {rest : List (List Char)} (h0 : behindMainWord (wordsSigns P.initOrder.toList) = c :: rest) (h1 : (stripLifts liftWords (c :: rest)) = ([], c :: rest)) (h2 : (c == "cut".toList) = true)
  (h3 : P.laysLater = false) (h4 : P.bearsReflect = false) (h5 : P.doorFits [] = true) : P.mayEnter = true := by
 unfold Program.mayEnter;rw [h0];have e : (some c == some "cut".toList) = true := h2
 refine (Bool.or_eq_true _ _).mpr (.inr ?_);rw [h1, h3, h4, h5];show ((some c == some "cut".toList) && _ && _ && _ && _) = true
 rw [e]
 rfl
theorem zoI : stripLifts liftWords (zoG :: zoH) = ([], zoG :: zoH) := by kernel_rfl
theorem zql : Tryz.checked.prog.mayEnter = true := zjn zlu zoI (by kernel_rfl) (by kernel_rfl) (by kernel_rfl) (by kernel_rfl)
theorem zhI {P : Program} {c : List Char} {rest : List (List Char)} (h0 : behindMainWord (wordsSigns P.initOrder.toList) = c :: rest) (h1 : stripLifts liftWords (c :: rest) = ([], c :: rest)) : P.headLifts = [] := by
 unfold Program.headLifts;rw [h0, h1];dsimp only
 split <;> rfl
theorem zfV {P : Program} {c : List Char} {rest : List (List Char)} (h0 : behindMainWord (wordsSigns P.initOrder.toList) = c :: rest) (hh : P.headLifts = []) (h2 : (c == "carried".toList) = false) : P.liftsFinal = false := by
 have e : (some c == some "carried".toList) = false := h2
 unfold Program.liftsFinal;rw [h0, hh];show (((some c == some "carried".toList) && _) || _) = false
 rw [e]
 rfl
theorem zpE {P : Program} {c : List Char} {rest : List (List Char)} (h0 : behindMainWord (wordsSigns P.initOrder.toList) = c :: rest) (h1 : (c == "gc".toList) = false) (h2 : (c == "spec".toList) = false) (h3 : (c == "cut".toList) = true) : P.make = some .cut := by
 unfold Program.make;rw [h0];dsimp only
 rw [h1, h2, h3]
 rfl
theorem zqP : Tryz.checked.prog.headLifts = [] := zhI zlu zoI
theorem zqQ : Tryz.checked.prog.liftsFinal = false := zfV zlu zqP (by kernel_rfl)
theorem zqR : Tryz.checked.prog.make = some .cut := zpE zlu (by kernel_rfl) (by kernel_rfl) (by kernel_rfl)

end Go.Proofs.YtffhmebkkbfaeaaGreat
