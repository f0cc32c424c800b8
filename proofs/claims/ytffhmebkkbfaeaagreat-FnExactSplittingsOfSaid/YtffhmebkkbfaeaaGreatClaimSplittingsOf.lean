/- The program's SplittingsOf returns what the reference's returns, for all arguments. No conditions. -/
import Derived.Test.YtffhmebkkbfaeaaGreatPi
namespace Go.Proofs.YtffhmebkkbfaeaaGreat
open Go Go.RowKit Go.Proofs Poly
set_option maxRecDepth 100000
set_option maxHeartbeats 8000000

theorem zbX (x : Spl.Sp) : FnV 59 [vS x, vS x] .tr := by
 refine zf (za [0, 1, 2, 3, 4, 9, 14, 19]) Tryz.func59 rfl (by decide) Tryz.ntmps59 (lb rfl) λbase => ?_;refine wrs λK hK => ?_;conv=>whnf
 refine ⟨rfl, ?_⟩;conv=>whnf
 intro b_2 hs_2 hh_2 hf_2;try dsimp only at hh_2 hf_2
 conv=>whnf
 refine ⟨rfl, ?_⟩;conv=>whnf
 intro b_3 hs_3 hh_3 hf_3;try dsimp only at hh_3 hf_3
 conv=>whnf
 refine hK _ (W.seqK λK1 hK1 => wrs λK hK => ?_);conv=>whnf
 refine hK _ (W.cond ⟨λhcc => absurd rfl (of_decide_eq_true hcc), λ_ => W.skip (hK1 _ ?_)⟩);clear hK hK1;refine W.seqK λK1 hK1 => wrs λK hK => ?_;conv=>whnf
 refine hK _ (W.cond ⟨λhcc => absurd rfl (of_decide_eq_true hcc), λ_ => W.skip (hK1 _ ?_)⟩);clear hK hK1;refine W.seqK λK1 hK1 => wrs λK hK => ?_;conv=>whnf
 refine hK _ (W.cond ⟨λhcc => absurd rfl (of_decide_eq_true hcc), λ_ => W.skip (hK1 _ ?_)⟩);clear hK hK1;refine wrs λK hK => ?_;conv=>whnf
 refine hK _ (W.ret ?_);conv=>whnf
 exact ⟨.v (.tr), rfl, trivial, rfl⟩

theorem xD (g g' : Option Nat) (S : List Spl.Sp) (hS : S.length <= 100000000) : FnV 10 [.vals g 3 S.length λj => vS (S.getD j (0, 0, 0)), .vals g' 3 S.length λj => vS (S.getD j (0, 0, 0))] .tr := by
 refine zf (za [0, 1, 4, 5, 10, 14, 26]) Tryz.func10 rfl (by decide) Tryz.ntmps10 (lb rfl) λbase => ?_;refine wrs λK hK => ?_;conv=>whnf
 refine hK _ (W.seqK λK1 hK1 => wrs λK hK => ?_);conv=>whnf
 refine hK _ (W.cond ⟨λhcc => absurd rfl (of_decide_eq_true hcc), λ_ => W.skip (hK1 _ ?_)⟩);clear hK hK1;refine W.seqK λK1 hK1 => wrs λK hK => ?_;conv=>whnf
 refine hK _ (W.block (W.invA (λm e => ∃ i : Nat, i <= S.length ∧ m = S.length - i ∧ e = [(0, .v (.vals g 3 S.length λj => vS (S.getD j (0, 0, 0)))), (1, .v (.vals g' 3 S.length λj => vS (S.getD j (0, 0, 0)))), (5, .v (.int .i64 i))]) ⟨0, Nat.zero_le _, rfl, rfl⟩ ?_));clear hK;rintro m e ⟨i, h1, hm, rfl⟩;refine W.seqK λK7 hK7 => wrs λK hK => ?_;conv=>whnf
 refine hK _ (W.cond ⟨λh3 => ?_, λh3 => ?_⟩) <;> clear hK <;> (first | replace h3 := of_decide_eq_true h3 | replace h3 := of_decide_eq_false h3)
 ·have hk : i < S.length := by omega
  refine W.skip (hK7 _ (W.seqK λK8 hK8 => W.block ?_));clear hK7;refine W.rgh follows λK hK => ?_;refine Wgh.tk (za []) 0 ?_;conv=>whnf
  refine Wgh.tk (za []) 1 ?_;conv=>whnf
  refine Wgh.tk (za []) 2 ?_;conv=>whnf
  refine ⟨oo, ?_⟩;conv=>whnf
  refine Wgh.tk (za []) 3 ?_;conv=>whnf
  refine Wgh.tk (za []) 4 ?_;conv=>whnf
  refine Wgh.tk (za []) 5 ?_;conv=>whnf
  refine Wgh.tk (za []) 6 ?_;conv=>whnf
  refine ⟨oo, ?_⟩;conv=>whnf
  refine Wgh.tk (za []) 7 ?_;conv=>whnf
  refine Wgh.on (za []) 8 [] ⟨rx, ry, rx, rx, rx, ry, rx, rx, trivial⟩ ?_;conv=>whnf
  refine zc rfl (zbX (S.getD (i : Int).toNat (0, 0, 0))) λhs' hhs => ?_;try dsimp only at hhs
  conv=>whnf
  refine Wgh.tk (za []) 9 ?_;conv=>whnf
  refine Wgh.dn (za []) ⟨rx, trivial⟩ (hK _ ?_);clear hK;refine W.condF rfl (W.skip (hK8 _ ?_));clear hK8;refine wrg ?_;conv=>whnf
  refine ⟨oo, ?_⟩;conv=>whnf
  exact ze ⟨i + 1, by omega, rfl, rfl⟩
 ·refine W.exit (hK1 _ ?_);clear hK7 hK1;refine wrs λK hK => ?_;conv=>whnf
  refine hK _ (W.ret ?_);conv=>whnf
  exact ⟨.v (.tr), rfl, trivial, rfl⟩

def mkS (k j : Nat) : Spl.Sp := (((k + 3 * j : Nat) : Int), ((k + 3 * j : Nat) : Int) + 1, ((k + 3 * j : Nat) : Int) + 1 + 1)

theorem zbn (el b n : Nat) (f : Nat -> Spl.Sp) (k : Nat) (hk : k <= 1000000000000) (hn : n <= 1000000000) (tb : Tab) :
  MFn Tryz.prog 13 [.nil, .int .i64 k] 0 (.ownV el 3 b n λj => vS (f j)) (.tab tb) (λ_ av x' t' => av = .v (.int .i64 ((k + 3 * n : Nat) : Int)) ∧ x' = .ownV el 3 b n (λj => vS (mkS k j)) ∧ t' = .tab tb) := by
 refine zbE (cx := cx [0, 1, 4, 5, 9, 1000000, 1000001]) Tryz.func13 rfl (by decide) Tryz.ntmps13 (lb rfl) (lb rfl) rfl rfl λbase hs0 O U hw v0 hb0 => ?_;refine wrs λK hK => ?_;conv=>whnf
 refine hK _ (W.seqK λK1 hK1 => wrs λK hK => ?_);conv=>whnf
 refine hK _ ?_;clear hK;refine W.block (W.invH hs0 hb0 (λm e => ∃ (i : Nat) (o : Nat -> Spl.Sp), i <= n ∧ (∀ j, j < i -> o j = mkS k j) ∧ m = n - i ∧ e = [(0, .ownV el 3 b n λj => vS (o j)), (1, .v (.int .i64 ((k + 3 * i : Nat) : Int))), (5, .v (.int .i64 i)), (vt, .tab tb), (vk, .keep O U hw 0 v0)]) _ _ ⟨0, f, Nat.zero_le _, λj hj => by omega, rfl, rfl⟩ (by dsimp only; omega) (by repeat' first | refine And.intro ?_ ?_ | exact trivial | rfl | omega | exact λ_ _ => rfl | exact λ_ _ h => h) ?_);rintro m e ⟨i, o, h1, h3, hm, rfl⟩;refine W.seqK λK7 hK7 => wrs λK hK => ?_;conv=>whnf
 refine hK _ (W.cond ⟨λh4 => ?_, λh4 => ?_⟩) <;> clear hK <;> (first | replace h4 := of_decide_eq_true h4 | replace h4 := of_decide_eq_false h4)
 ·refine W.skip (hK7 _ ?_);clear hK7;refine W.seqK λK8 hK8 => W.block ?_;refine wrs λK hK => ?_;conv=>whnf
  refine ⟨oo, ?_⟩;conv=>whnf
  rw [Int.toNat_natCast];refine ⟨⟨by show 0 + 0 + 1 <= 3; omega, rfl⟩, ?_⟩;conv=>whnf
  refine ⟨λj => vS (if j = i then (((k + 3 * i : Nat) : Int), (o i).2.1, (o i).2.2) else o j), by show vS _ = _; rw [if_pos rfl]; rfl, λj hj hji => by show vS _ = vS _; rw [if_neg hji], ?_⟩;conv=>whnf
  refine hK _ (wrs λK hK => ?_);conv=>whnf
  refine ⟨oo, ?_⟩;conv=>whnf
  refine hK _ (wrs λK hK => ?_);conv=>whnf
  refine ⟨oo, ?_⟩;conv=>whnf
  rw [Int.toNat_natCast];refine ⟨⟨by show 0 + 1 + 1 <= 3; omega, rfl⟩, ?_⟩;conv=>whnf
  refine ⟨λj => vS (if j = i then (((k + 3 * i : Nat) : Int), ((k + 3 * i : Nat) : Int) + 1, (o i).2.2) else o j), by show vS _ = setCells (vS _) _ _; rw [if_pos rfl, if_pos rfl]; rfl, λj hj hji => by show vS _ = vS _; rw [if_neg hji, if_neg hji], ?_⟩;conv=>whnf
  refine hK _ (wrs λK hK => ?_);conv=>whnf
  refine ⟨oo, ?_⟩;conv=>whnf
  refine hK _ (wrs λK hK => ?_);conv=>whnf
  refine ⟨oo, ?_⟩;conv=>whnf
  rw [Int.toNat_natCast];refine ⟨⟨by show 0 + 2 + 1 <= 3; omega, rfl⟩, ?_⟩;conv=>whnf
  refine ⟨λj => vS (if j = i then mkS k i else o j), by show vS _ = setCells (vS _) _ _; rw [if_pos rfl, if_pos rfl]; rfl, λj hj hji => by show vS _ = vS _; rw [if_neg hji, if_neg hji], ?_⟩;conv=>whnf
  refine hK _ ?_;clear hK;refine wrg ?_;conv=>whnf
  refine ⟨oo, ?_⟩;conv=>whnf
  refine hK8 _ ?_;clear hK8;refine wrg ?_;conv=>whnf
  refine ⟨oo, ?_⟩;conv=>whnf
  rw [show ((k + 3 * i : Nat) : Int) + 1 + 1 + 1 = ((k + 3 * (i + 1) : Nat) : Int) by omega];refine ⟨_, _, ⟨i + 1, λj => if j = i then mkS k i else o j, by omega, λj hj => ?_, rfl, rfl⟩, by omega, by dsimp only; omega, ?_⟩
  ·by_cases h9 : j = i
   ·subst h9; exact if_pos rfl
   ·show (if j = i then _ else _) = _; rw [if_neg h9]; exact h3 j (by omega)
  ·repeat' first | refine And.intro ?_ ?_ | exact trivial | rfl | omega | exact λ_ _ => rfl | exact λ_ _ h => h
 ·obtain rfl : i = n := by omega
  refine W.exit (hK1 _ ?_);clear hK7 hK1;refine wrs λK hK => ?_;conv=>whnf
  refine hK _ (W.ret ?_);conv=>whnf
  refine ⟨by dsimp only; omega, ?_⟩;conv=>whnf
  exact ⟨rfl, .v (.int .i64 ((k + 3 * i : Nat) : Int)), ⟨rfl, rfl⟩, rfl, trivial, .ownV el 3 b i (λj => vS (mkS k j)), ⟨rfl, rfl, rfl, rfl, λj hj => by show vS _ = vS _; rw [h3 j hj]⟩, .inr ⟨rfl, rfl⟩, .tab tb, λ_ _ h => h, rfl, rfl, rfl, rfl, rfl⟩

theorem jd (g : Option Nat) (k n : Nat) (hk : k <= 1000000000000) (hn : n <= 1000000000) : FnV 14 [.vals g 3 n λj => vS (mkS k j), .int .i64 k] (.int .i64 ((k + 3 * n : Nat) : Int)) := by
 refine zf (za [0, 1, 4, 5, 9, 18, 27, 36]) Tryz.func14 rfl (by decide) Tryz.ntmps14 (lb rfl) λbase => ?_;refine wrs λK hK => ?_;conv=>whnf
 refine hK _ (W.seqK λK1 hK1 => wrs λK hK => ?_);conv=>whnf
 refine hK _ (W.block (W.invA (λm e => ∃ i : Nat, i <= n ∧ m = n - i ∧ e = [(0, .v (.vals g 3 n λj => vS (mkS k j))), (1, .v (.int .i64 ((k + 3 * i : Nat) : Int))), (5, .v (.int .i64 i))]) ⟨0, Nat.zero_le _, rfl, rfl⟩ ?_));clear hK;rintro m e ⟨i, h1, hm, rfl⟩;refine W.seqK λK7 hK7 => wrs λK hK => ?_;conv=>whnf
 refine hK _ (W.cond ⟨λh4 => ?_, λh4 => ?_⟩) <;> clear hK <;> (first | replace h4 := of_decide_eq_true h4 | replace h4 := of_decide_eq_false h4)
 ·refine W.skip (hK7 _ ?_);clear hK7;refine W.seqK λK8 hK8 => W.block ?_;refine W.seqK λK9 hK9 => wrs λK hK => ?_;conv=>whnf
  refine ⟨oo, ?_⟩;conv=>whnf
  rw [Int.toNat_natCast];refine hK _ (W.cond ⟨λhcc => absurd rfl (of_decide_eq_true hcc), λ_ => W.skip (hK9 _ ?_)⟩);clear hK hK9;refine wrs λK hK => ?_;conv=>whnf
  refine ⟨oo, ?_⟩;conv=>whnf
  refine hK _ (W.seqK λK9 hK9 => wrs λK hK => ?_);conv=>whnf
  refine ⟨oo, ?_⟩;conv=>whnf
  rw [Int.toNat_natCast];refine hK _ (W.cond ⟨λhcc => absurd rfl (of_decide_eq_true hcc), λ_ => W.skip (hK9 _ ?_)⟩);clear hK hK9;refine wrs λK hK => ?_;conv=>whnf
  refine ⟨oo, ?_⟩;conv=>whnf
  refine hK _ (W.seqK λK9 hK9 => wrs λK hK => ?_);conv=>whnf
  refine ⟨oo, ?_⟩;conv=>whnf
  rw [Int.toNat_natCast];refine hK _ (W.cond ⟨λhcc => absurd rfl (of_decide_eq_true hcc), λ_ => W.skip (hK9 _ ?_)⟩);clear hK hK9;refine wrg ?_;conv=>whnf
  refine ⟨oo, ?_⟩;conv=>whnf
  refine hK8 _ ?_;clear hK8;refine wrg ?_;conv=>whnf
  refine ⟨oo, ?_⟩;conv=>whnf
  rw [show ((k + 3 * i : Nat) : Int) + 1 + 1 + 1 = ((k + 3 * (i + 1) : Nat) : Int) by omega];exact ze ⟨i + 1, by omega, rfl, rfl⟩
 ·obtain rfl : i = n := by omega
  refine W.exit (hK1 _ ?_);clear hK7 hK1;refine wrs λK hK => ?_;conv=>whnf
  refine hK _ (W.ret ?_);conv=>whnf
  exact ⟨.v (.int .i64 ((k + 3 * i : Nat) : Int)), ⟨rfl, rfl⟩, trivial, rfl⟩

theorem kT {p : Int} {f : List Int} {S : List Spl.Sp} {code : Int} (hS : SplB p f S code) (g : Option Nat) : zmh 9 [.int .i64 p, .ints g f] S code := by
 refine zfo (cx := cx [0, 1, 4, 5]) 0 4 5 Tryz.func9 rfl (by decide) Tryz.ntmps9 (lb rfl) rfl (by decide) rfl λbase => ?_;refine wrs λK hK => ?_;conv=>whnf
 refine hK _ (wrs λK hK => ?_);conv=>whnf
 refine yT rfl (hS.imq g) ?_;rintro lo hi hi' z hl1 hl2 hl3 ⟨b, rfl⟩ _;try dsimp only at hl1 hl2
 conv=>whnf
 refine ⟨rfl, ?_⟩;conv=>whnf
 refine hK _ (W.ret ?_);conv=>whnf
 refine ⟨.ownV 61 3 b (S : List Spl.Sp).length (λj => vS ((S : List Spl.Sp).getD j (0, 0, 0))), ⟨rfl, rfl, rfl, rfl, λ_ _ => rfl⟩, rfl, λ_ _ => ⟨trivial, trivial, trivial, trivial⟩, ?_⟩;conv=>whnf
 exact ⟨.int .i64 code, ⟨rfl, rfl⟩, trivial, b, rfl⟩
theorem zd4 {p : Int} {f : List Int} {S : List Spl.Sp} {code : Int} (hS : SplB p f S code) (g : Option Nat) : FnV 7 [.int .i64 p, .ints g f] (.tup [vSs S, .int .i64 code]) := by
 refine zf (za [0, 1, 4, 5]) Tryz.func7 rfl (by decide) Tryz.ntmps7 (lb rfl) λbase => ?_;refine wrs λK hK => ?_;conv=>whnf
 refine hK _ (wrs λK hK => ?_);conv=>whnf
 refine zc rfl (hS.spe g) λhs' hhs => ?_;try dsimp only at hhs
 conv=>whnf
 refine hK _ (W.ret ?_);conv=>whnf
 exact ⟨.v (vSs S), ⟨rfl, rfl, rfl, λ_ _ => rfl⟩, ⟨trivial, λ_ _ => ⟨trivial, trivial, trivial, trivial⟩⟩, .v (.int .i64 code), ⟨rfl, rfl⟩, trivial, rfl⟩

theorem lawSplittingsOf (p : Int) (f : List Int) (_ : inR p) : FnV 3 [.int .i64 p, .ints none f] .tr := by
 refine zf (zfL [] [0, 1, 4, 5, 6, 7, 8, 9, 10, 11, 12, 13, 14, 17, 41, 46, 62, 70, 73, 89, 94, 97, 1000000]) Tryz.func3 rfl (by decide) Tryz.ntmps3 (lb rfl) λbase => ?_;refine W.tab0 rfl ?_;refine W.sw (c' := cx [0, 1, 4, 5, 6, 7, 8, 9, 10, 11, 12, 13, 14, 17, 41, 46, 62, 70, 73, 89, 94, 97, 1000000]) ?_;refine wrs λK hK => ?_;conv=>whnf
 refine hK _ (W.seqK λK1 hK1 => wrs λK hK => ?_);conv=>whnf
 refine hK _ (W.cond ⟨λhl_f => ?_, λhl_f => ?_⟩) <;> clear hK
 ·refine wrs λK hK => ?_;conv=>whnf
  refine hK _ (W.ret ?_);conv=>whnf
  exact ⟨.v (.tr), rfl, trivial, rfl⟩
 have hl_f : f.length <= 1048576 := by have := of_decide_eq_false hl_f; omega
 refine W.skip (hK1 _ ?_);clear hK1;obtain ⟨S, code, hS⟩ := zmi p f hl_f;have hfew := hS.ok.few;refine wrs λK hK => ?_;conv=>whnf
 refine zv rfl (zab none f (by omega)) λhs_s1 b_s1 hh_s1 hf_s1 => ?_;try dsimp only at hh_s1 hf_s1
 conv=>whnf
 refine zc rfl (zd4 hS _) λhs' hhs => ?_;try dsimp only at hhs
 conv=>whnf
 refine hK _ (wrs λK hK => ?_);conv=>whnf
 refine zv rfl (zab none f (by omega)) λhs_x1 b_x1 hh_x1 hf_x1 => ?_;try dsimp only at hh_x1 hf_x1
 conv=>whnf
 refine hK _ (wrs λK hK => ?_);conv=>whnf
 refine yT rfl (kT hS _) ?_;rintro lo hi hi' z hl1 hl2 hl3 ⟨b, rfl⟩ _;try dsimp only at hl1 hl2
 conv=>whnf
 refine ⟨rfl, ?_⟩;conv=>whnf
 refine hK _ (W.seqK λK1 hK1 => wrs λK hK => ?_);conv=>whnf
 refine zc rfl (xD _ _ S (by omega)) λhs' hhs => ?_;try dsimp only at hhs
 conv=>whnf
 refine hK _ (W.cond ⟨λhcc => absurd hcc (by simp), λ_ => W.skip (hK1 _ ?_)⟩);clear hK hK1;refine W.seqK λK1 hK1 => wrs λK hK => ?_;conv=>whnf
 refine zv rfl (zab none f (by omega)) λhs_z1 b_z1 hh_z1 hf_z1 => ?_;try dsimp only at hh_z1 hf_z1
 conv=>whnf
 refine zc rfl (zhv _ _ f (by omega)) λhs' hhs => ?_;try dsimp only at hhs
 conv=>whnf
 refine hK _ (W.condF rfl (W.skip (hK1 _ ?_)));clear hK hK1;refine wrs λK hK => ?_;conv=>whnf
 refine hK _ (wrs λK hK => ?_);conv=>whnf
 refine ⟨⟨rfl, rfl⟩, ?_⟩;conv=>whnf
 refine ⟨rfl, _, zhx _ b_x1 f 1 (by omega) (by omega) _, ?_⟩;rintro hsk1 av x' t' hhk1 ⟨rfl, rfl, rfl⟩ _ _ _;try dsimp only at hhk1
 conv=>whnf
 refine hK _ (W.seqK λK1 hK1 => wrs λK hK => ?_);conv=>whnf
 refine ⟨λhkk => ?_, λhkk => ?_⟩ <;> conv=>whnf
 ·have hkk := of_decide_eq_true hkk; omega
 refine zc rfl (xD _ _ S (by omega)) λhs' hhs => ?_;try dsimp only at hhs
 conv=>whnf
 refine hK _ (W.cond ⟨λhcc => absurd hcc (by simp), λ_ => W.skip (hK1 _ ?_)⟩);clear hK hK1;refine wrs λK hK => ?_;conv=>whnf
 refine hK _ (wrs λK hK => ?_);conv=>whnf
 refine ⟨⟨rfl, rfl⟩, ?_⟩;conv=>whnf
 refine ⟨rfl, _, zbn _ b S.length (λj => S.getD j (0, 0, 0)) 1 (by omega) (by omega) _, ?_⟩;rintro hsm av x' t' hhm ⟨rfl, rfl, rfl⟩ _ _ _;try dsimp only at hhm
 conv=>whnf
 refine hK _ (wrs λK hK => ?_);conv=>whnf
 refine hK _ (wrs λK hK => ?_);conv=>whnf
 refine zc rfl (jd _ 1 S.length (by omega) (by omega)) λhs' hhs => ?_;try dsimp only at hhs
 conv=>whnf
 refine hK _ (W.seqK λK1 hK1 => wrs λK hK => ?_);conv=>whnf
 refine hK _ (W.cond ⟨λh7 => (by have := of_decide_eq_true h7; omega), λ_ => W.skip (hK1 _ ?_)⟩);clear hK hK1;refine W.seqK λK1 hK1 => wrs λK hK => ?_;conv=>whnf
 refine hK _ (W.cond ⟨λhcc => absurd rfl (of_decide_eq_true hcc), λ_ => W.skip (hK1 _ ?_)⟩);clear hK hK1;refine wrs λK hK => ?_;conv=>whnf
 refine zv rfl (zab none f (by omega)) λhs_t1 b_t1 hh_t1 hf_t1 => ?_;try dsimp only at hh_t1 hf_t1
 conv=>whnf
 refine yT rfl (kT hS _) ?_;rintro lo2 hi2 hi2' z hm1 hm2 hm3 ⟨b2, rfl⟩ _;try dsimp only at hm1 hm2
 conv=>whnf
 refine ⟨rfl, ?_⟩;conv=>whnf
 refine hK _ (W.seqK λK1 hK1 => wrs λK hK => ?_);conv=>whnf
 refine zc rfl (xD _ _ S (by omega)) λhs' hhs => ?_;try dsimp only at hhs
 conv=>whnf
 refine hK _ (W.cond ⟨λhcc => absurd hcc (by simp), λ_ => W.skip (hK1 _ ?_)⟩);clear hK hK1;refine wrs λK hK => ?_;conv=>whnf
 refine hK _ (wrs λK hK => ?_);conv=>whnf
 refine zc rfl (jd _ 1 S.length (by omega) (by omega)) λhs' hhs => ?_;try dsimp only at hhs
 conv=>whnf
 refine hK _ (W.seqK λK1 hK1 => wrs λK hK => ?_);conv=>whnf
 refine hK _ (W.cond ⟨λh7 => (by have := of_decide_eq_true h7; omega), λ_ => W.skip (hK1 _ ?_)⟩);clear hK hK1;refine W.seqK λK1 hK1 => wrs λK hK => ?_;conv=>whnf
 refine hK _ (W.cond ⟨λhcc => absurd rfl (of_decide_eq_true hcc), λ_ => W.skip (hK1 _ ?_)⟩);clear hK hK1;refine wrs λK hK => ?_;conv=>whnf
 refine hK _ (W.ret ?_);conv=>whnf
 exact ⟨.v (.tr), rfl, trivial, rfl⟩

open Go Go.RowKit Go.ChangeShapes Go.WideShapes Go.ChangeAt Go.Proofs Go.Proofs.YtffhmebkkbfaeaaGreat

set_option maxRecDepth 100000 in
theorem liftedSplittingsOf (H : Type) (enc : TypeId × Value -> H) (os : Os) (started : os.Started) :
  ReturnsInHanded {} Tryz.checked os 3 .any (Rows.fnExactSplittingsOfSpec.pre6 enc Tryz.prog Tryz.f3 Rows.fnExactSplittingsOfRow.domain false) (Rows.fnExactSplittingsOfSpec.post enc Tryz.prog Tryz.f3 false true false false) := by
 refine zh6 (C := Tryz.checked) (tb := 4) ownP started (by kernel_rfl) Tryz.func3 zmk ?_ rfl (by kernel_rfl) Tryz.underlying4 ?_
  (ChangeSpec.witness6 (enc := enc) (C := Tryz.checked) false ⟨#[], #[.int .i64 0, .slice none 0 0], []⟩ 8 (by kernel_rfl) (by kernel_rfl) (by kernel_rfl) (by kernel_rfl)) ?_
 ·rw [Tryz.params3];intro t ht;simp only [List.mem_cons, List.not_mem_nil, or_false] at ht
  rcases ht with rfl | rfl <;> exact ⟨by kernel_rfl, of_decide_eq_true (by kernel_rfl)⟩
 ·intro ds hds
  match ds, hds with
  | [d0, d1], _ => exact ⟨rfl, rfl, rfl⟩
 ·intro W args ds ps hval hA;have hval' : ∀ (j : Nat) t v, Tryz.f3.params[j]? = some t -> args[j]? = some v -> ∃ base, Value.okWide Tryz.prog W .any base t v := hval;rw [Tryz.params3] at hA hval';obtain ⟨v0, v1, d0, d1, q0, q1, hv, rfl, rfl, h0, h1⟩ := trodAll_two hA;subst hv;obtain ⟨_, hv0⟩ := hval' 0 2 v0 rfl rfl;obtain ⟨n0, rfl⟩ := okWide_int Tryz.underlying2 hv0;obtain ⟨x0, ⟨z0, hz0, hb0⟩, hr0⟩ := zgJ zmm h0 (by simp);cases hz0
  obtain ⟨_, hv1⟩ := hval' 1 22 v1 rfl rfl;obtain ⟨a1, len1, cap1, rfl⟩ := okWide_slice Tryz.underlying22 hv1;obtain ⟨x1, ⟨l1, hl1, hi1, hm1⟩, hr1⟩ := zgJ zkx h1 (by simp);cases hl1
  refine zm0 (lawSplittingsOf z0 l1 hb0) rfl λj hj => ?_;simp only [List.length_cons, List.length_nil] at hj
  match j, hj with
  | 0, _ => exact hr0
  | 1, _ => exact hr1
  | j + 2, hj => omega

theorem joinedSplittingsOfa : (Rows.fnExactSplittingsOfRow.inPlace == Tryz.checked.prog.inPlace 3) = true := by kernel_rfl
theorem joinedSplittingsOfb : (Rows.fnExactSplittingsOfRow.unfollowed == Tryz.checked.prog.unfollowed 3) = true := by kernel_rfl
theorem joinedSplittingsOfc : (Rows.fnExactSplittingsOfRow.recurses == Tryz.checked.prog.recurses 3) = true := by kernel_rfl
theorem joinedSplittingsOfd : (Rows.fnExactSplittingsOfRow.named == Tryz.checked.prog.varsNamed 3) = true := by kernel_rfl
theorem joinedSplittingsOf : joinedFacts Tryz.checked.prog 3 Tryz.f3 Rows.fnExactSplittingsOfSpec Rows.fnExactSplittingsOfRow = true := by
 unfold joinedFacts;rw [znE, znY, znZ, joinedSplittingsOfa, joinedSplittingsOfb, joinedSplittingsOfc, joinedSplittingsOfd]
 kernel_rfl
theorem instSplittingsOf : Tryz.f3.isInstance Tryz.checked.prog Rows.fnExactSplittingsOfRow.origin Rows.fnExactSplittingsOfRow.targs := of_decide_eq_true (by kernel_rfl)

theorem claimSplittingsOf : Rows.FnExactSplittingsOfSaid :=
 OpenClaim.holds_of_wide (p := Tryz.pinned) (s := Rows.fnExactSplittingsOfSpec) (c := Rows.fnExactSplittingsOfRow) 3 Tryz.f3 rfl rfl rfl rfl rfl rfl rfl ⟨rfl, rfl, rfl, rfl, rfl⟩ rfl rfl rfl rfl rfl (by kernel_rfl) Tryz.func3 joinedSplittingsOf
  instSplittingsOf (by unfold Func.isWrapper; first | (rw [if_pos (by decide +kernel)]; kernel_rfl) | (rw [if_neg (by decide +kernel)]; exact ⟨rfl, rfl⟩))
  (λos started H enc _ => liftedSplittingsOf H enc os started)

end Go.Proofs.YtffhmebkkbfaeaaGreat
