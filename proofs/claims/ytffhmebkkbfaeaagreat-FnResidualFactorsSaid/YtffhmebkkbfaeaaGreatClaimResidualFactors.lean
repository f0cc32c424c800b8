/- The law FnResidualFactors answers true, for all arguments. No conditions. -/
import Derived.Test.YtffhmebkkbfaeaaGreatPk
namespace Go.Proofs.YtffhmebkkbfaeaaGreat
open Go Go.RowKit Go.Proofs Poly
set_option maxRecDepth 100000
set_option maxHeartbeats 8000000

theorem zax (S : List Spl.Sp) (hS : S.length <= 100000000) : FnV 45 [vSs S, vSs S] .tr := by
 refine ze (za [0, 1, 4, 5, 10, 14, 25]) Tryz.func45 rfl (by decide) Tryz.ntmps45 (lb rfl) λbase => ?_;refine wrs λK hK => ?_;conv=>whnf
 refine hK _ (W.seqK λK1 hK1 => wrs λK hK => ?_);conv=>whnf
 refine hK _ (W.cond ⟨λhcc => absurd rfl (of_decide_eq_true hcc), λ_ => W.skip (hK1 _ ?_)⟩);clear hK hK1;refine W.seqK λK1 hK1 => wrs λK hK => ?_;conv=>whnf
 refine hK _ (W.block (W.invA (λm e => ∃ i : Nat, i <= S.length ∧ m = S.length - i ∧ e = [(0, .v (vSs S)), (1, .v (vSs S)), (5, .v (.int .i64 i))]) ⟨0, Nat.zero_le _, rfl, rfl⟩ ?_));clear hK;rintro m e ⟨i, h1, hm, rfl⟩;refine W.seqK λK7 hK7 => wrs λK hK => ?_;conv=>whnf
 refine hK _ (W.cond ⟨λh3 => ?_, λh3 => ?_⟩) <;> clear hK <;> (first | replace h3 := of_decide_eq_true h3 | replace h3 := of_decide_eq_false h3)
 ·have hk : i < S.length := by omega
  refine W.skip (hK7 _ (W.seqK λK8 hK8 => W.block ?_));clear hK7;refine W.rgh follows λK hK => ?_;refine Wgh.tk (za []) 0 ?_;conv=>whnf
  refine Wgh.tk (za []) 1 ?_;conv=>whnf
  refine Wgh.tk (za []) 2 ?_;conv=>whnf
  refine ⟨oo, ?_⟩;conv=>whnf
  refine Wgh.tk (za []) 3 ?_;conv=>whnf
  refine Wgh.tk (za []) 4 ?_;conv=>whnf
  refine Wgh.tk (za []) 5 ?_;conv=>whnf
  refine Wgh.tk (za []) 6 ?_;conv=>whnf
  refine ⟨oo, ?_⟩;conv=>whnf
  refine Wgh.tk (za []) 7 ?_;conv=>whnf
  refine Wgh.on (za []) 8 [] ⟨rx, ry, rx, rx, rx, ry, rx, rx, trivial⟩ ?_;conv=>whnf
  refine ⟨⟨rfl, rfl⟩, ?_⟩;conv=>whnf
  refine Wgh.dn (za []) trivial (hK _ ?_);clear hK;refine W.cond ⟨λhcc => absurd rfl (of_decide_eq_true hcc), λ_ => W.skip (hK8 _ ?_)⟩;clear hK8;refine wrg ?_;conv=>whnf
  refine ⟨oo, ?_⟩;conv=>whnf
  exact zf ⟨i + 1, by omega, rfl, rfl⟩
 ·refine W.exit (hK1 _ ?_);clear hK7 hK1;refine wrs λK hK => ?_;conv=>whnf
  refine hK _ (W.ret ?_);conv=>whnf
  exact ⟨.v (.tr), rfl, trivial, rfl⟩

theorem lawResidualFactors {n : Nat} {c : Nat -> Int} (hb : ∀ i, 0 <= c i ∧ c i <= 255) : FnV 5 [vBy n c] (.bool true) := by
 refine ze (za [0, 2, 3, 4, 5, 6, 7, 8, 9, 10, 11, 12, 13, 14, 15, 16, 17, 18, 19, 20, 21, 22, 23, 24, 25, 26, 27, 28, 29, 30, 31, 32, 33, 34, 36, 196, 215, 223, 225, 229]) Tryz.func5 rfl (by decide) Tryz.ntmps5 (lb rfl) λbase => ?_;refine wrs λK hK => ?_;conv=>whnf
 refine hK _ (W.seqK λK1 hK1 => wrs λK hK => ?_);conv=>whnf
 refine zc rfl (zn8) λhs' hhs => ?_;try dsimp only at hhs
 conv=>whnf
 refine hK _ (W.cond ⟨λh => ?_, λh => ?_⟩) <;> clear hK
 ·refine wrs λK hK => ?_;conv=>whnf
  refine hK _ (W.ret ?_);conv=>whnf
  exact ⟨.v (.bool true), rfl, trivial, rfl⟩
 have h := of_decide_eq_false h;have hc : Byt n c := ⟨by omega, hb⟩
 refine W.skip (hK1 _ ?_);clear hK1;refine wrs λK hK => ?_;conv=>whnf
 refine yR rfl (zaw hc) ?_;rintro lo hi hi' z hl1 hl2 hl3 ⟨p, L, rfl, hp, hL⟩ _;try dsimp only at hl1 hl2
 conv=>whnf
 refine hK _ ?_;clear hK;obtain ⟨S, code, hS⟩ := zmN p L (by omega);have hok := hS.ok;have hfew := hok.few;refine wrs λK hK => ?_;conv=>whnf
 refine zc rfl ((zai hS).2 _) λhs' hhs => ?_;try dsimp only at hhs
 conv=>whnf
 refine hK _ (wrs λK hK => ?_);conv=>whnf
 refine zc rfl ((zai hS).1 _) λhs' hhs => ?_;try dsimp only at hhs
 conv=>whnf
 refine hK _ (wrs λK hK => ?_);conv=>whnf
 refine zc rfl ((zah hS).2 _) λhs' hhs => ?_;try dsimp only at hhs
 conv=>whnf
 refine hK _ (wrs λK hK => ?_);conv=>whnf
 refine zc rfl ((zah hS).1 _) λhs' hhs => ?_;try dsimp only at hhs
 conv=>whnf
 refine hK _ (wrs λK hK => ?_);conv=>whnf
 refine zc rfl ((zcB hS (by omega)).2 _) λhs' hhs => ?_;try dsimp only at hhs
 conv=>whnf
 refine hK _ (wrs λK hK => ?_);conv=>whnf
 refine zc rfl ((zcB hS (by omega)).1 _) λhs' hhs => ?_;try dsimp only at hhs
 conv=>whnf
 refine hK _ (wrs λK hK => ?_);conv=>whnf
 refine zc rfl ((jr hS).2 _) λhs' hhs => ?_;try dsimp only at hhs
 conv=>whnf
 refine hK _ (wrs λK hK => ?_);conv=>whnf
 refine zc rfl ((jr hS).1 _) λhs' hhs => ?_;try dsimp only at hhs
 conv=>whnf
 refine hK _ (wrs λK hK => ?_);conv=>whnf
 refine zc rfl ((jV hS).2 _) λhs' hhs => ?_;try dsimp only at hhs
 conv=>whnf
 refine hK _ (wrs λK hK => ?_);conv=>whnf
 refine zc rfl ((jV hS).1 _) λhs' hhs => ?_;try dsimp only at hhs
 conv=>whnf
 refine hK _ (wrs λK hK => ?_);conv=>whnf
 refine yR rfl (zbI hc) ?_;rintro lo2 hi2 hi2' z hm1 hm2 hm3 ⟨q, G, ix, rfl, hq, hG, hix⟩ _;try dsimp only at hm1 hm2
 conv=>whnf
 refine hK _ ?_;clear hK;obtain ⟨X, e, hX1, hX2, hXl, hX⟩ := zgv q G ix (by omega);refine wrs λK hK => ?_;conv=>whnf
 refine zc rfl (hX2 _) λhs' hhs => ?_;try dsimp only at hhs
 conv=>whnf
 refine hK _ (wrs λK hK => ?_);conv=>whnf
 refine zc rfl (hX1 _) λhs' hhs => ?_;try dsimp only at hhs
 conv=>whnf
 refine hK _ (W.seqK λK1 hK1 => wrs λK hK => ?_);conv=>whnf
 refine ⟨λhc0 => absurd hc0 (by simp), λ_ => ?_⟩;conv=>whnf
 refine zc rfl (zax S (by omega)) λhs' hhs => ?_;try dsimp only at hhs
 conv=>whnf
 refine ⟨λhc0 => absurd hc0 (by simp), λ_ => ?_⟩;conv=>whnf
 refine ⟨λhc0 => absurd hc0 (by simp), λ_ => ?_⟩;conv=>whnf
 refine ⟨λhc0 => absurd hc0 (by simp), λ_ => ?_⟩;conv=>whnf
 refine ⟨λhc0 => absurd hc0 (by simp), λ_ => ?_⟩;conv=>whnf
 refine ⟨λhc0 => absurd hc0 (by simp), λ_ => ?_⟩;conv=>whnf
 refine ⟨λhc0 => absurd hc0 (by simp), λ_ => ?_⟩;conv=>whnf
 refine ⟨λhc0 => absurd hc0 (by simp), λ_ => ?_⟩;conv=>whnf
 refine ⟨λhc0 => absurd hc0 (by simp), λ_ => ?_⟩;conv=>whnf
 refine ⟨λhc0 => absurd hc0 (by simp), λ_ => ?_⟩;conv=>whnf
 refine zc rfl (zeD _ _ X (by omega)) λhs' hhs => ?_;try dsimp only at hhs
 conv=>whnf
 refine ⟨λhc0 => absurd hc0 (by simp), λ_ => ?_⟩;conv=>whnf
 refine ⟨λhc0 => absurd hc0 (by simp), λ_ => ?_⟩;conv=>whnf
 refine hK _ (W.cond ⟨λhcc => absurd hcc (by simp), λ_ => W.skip (hK1 _ ?_)⟩);clear hK hK1;have hcnt := Spl.cnt_bd (P := λ_ => true) hok;have htot := Spl.tot_bd hok;refine W.seqK λK1 hK1 => ?_
 have fin : ∀ t : _root_.Go.Proofs.YtffhmebkkbfaeaaGreat.S, base <= t.hs -> zr t.env [(4, .v (.ints none L)), (5, .v (vSs S)), (6, .v (.int .i64 code)), (9, .v (.int .i64 (Spl.cnt (λ_ => true) S S.length))), (13, .v (.bool (decide (code = 0)))), (14, .v (.int .i64 (zo p L))), (17, .v (.bool (decide (code = 0 ∧ Spl.cnt (λ_ => true) S S.length = 1)))), (21, .v (.int .i64 (Spl.cnt Spl.one S S.length)))] -> K1 t := by
  intro t h7 h8;refine hK1 _ (W.weak (t := ⟨_, base⟩) ⟨h7, h8⟩ (Nat.le_refl _) ?_);clear hK1;refine W.seqK λK1 hK1 => ?_
  have fin2 : ∀ t : _root_.Go.Proofs.YtffhmebkkbfaeaaGreat.S, base <= t.hs -> zr t.env [(4, .v (.ints none L)), (5, .v (vSs S)), (6, .v (.int .i64 code)), (9, .v (.int .i64 (Spl.cnt (λ_ => true) S S.length))), (17, .v (.bool (decide (code = 0 ∧ Spl.cnt (λ_ => true) S S.length = 1)))), (21, .v (.int .i64 (Spl.cnt Spl.one S S.length)))] -> K1 t := by
   intro t h7 h8;refine hK1 _ (W.weak (t := ⟨_, base⟩) ⟨h7, h8⟩ (Nat.le_refl _) ?_);clear hK1;refine W.seqK λK1 hK1 => wrs λK hK => ?_;conv=>whnf
   refine hK _ (W.cond ⟨λhz => ?_, λhz => ?_⟩) <;> clear hK
   ·refine wrs λK hK => ?_;conv=>whnf
    refine hK _ (W.ret ?_);conv=>whnf
    exact ⟨.v (.bool true), rfl, trivial, rfl⟩
   have hz : code = 0 := Decidable.of_not_not (of_decide_eq_false hz);refine W.skip (hK1 _ ?_);clear hK1;have hsum := hS.tot hz;have hle := Spl.cnt_le (P := Spl.one) hok S.length (Nat.le_refl _);refine wrs λK hK => ?_;conv=>whnf
   refine hK _ (W.seqK λK1 hK1 => wrs λK hK => ?_);conv=>whnf
   refine hK _ (W.block (W.invA (λm e => ∃ j : Nat, j <= S.length ∧ m = S.length - j ∧ e = [(4, .v (.ints none L)), (5, .v (vSs S)), (9, .v (.int .i64 (Spl.cnt (λ_ => true) S S.length))), (17, .v (.bool (decide (code = 0 ∧ Spl.cnt (λ_ => true) S S.length = 1)))), (21, .v (.int .i64 (Spl.cnt Spl.one S S.length))), (32, .v (.int .i64 (Spl.tot S j))), (33, .v (.int .i64 (Spl.cnt (λ_ => true) S j))), (34, .v (.int .i64 j))]) ⟨0, Nat.zero_le _, rfl, rfl⟩ ?_));clear hK;rintro m e ⟨j, h1, hm, rfl⟩;refine W.seqK λK7 hK7 => wrs λK hK => ?_;conv=>whnf
   refine hK _ (W.cond ⟨λh3 => ?_, λh3 => ?_⟩) <;> clear hK <;> (first | replace h3 := of_decide_eq_true h3 | replace h3 := of_decide_eq_false h3)
   ·have hk : j < S.length := by omega
    have b1 := hok.bd j hk;have t1 := htot (j + 1) (by omega);have c1 := hcnt (j + 1) (by omega);refine W.skip (hK7 _ (W.seqK λK8 hK8 => W.block ?_));clear hK7;have m3 : 0 <= (S.getD j Spl.z0).1 * (S.getD j Spl.z0).2.1 ∧ (S.getD j Spl.z0).1 * (S.getD j Spl.z0).2.1 <= 1000 * 1000 := ⟨Int.mul_nonneg (by omega) (by omega), Int.mul_le_mul b1.1.2 b1.2.1.2 (by omega) (by decide)⟩
    have m4 : 0 <= (S.getD j Spl.z0).1 * (S.getD j Spl.z0).2.1 * (S.getD j Spl.z0).2.2 ∧ (S.getD j Spl.z0).1 * (S.getD j Spl.z0).2.1 * (S.getD j Spl.z0).2.2 <= 1000 * 1000 * (10000 : Nat) := ⟨Int.mul_nonneg m3.1 (by omega), Int.mul_le_mul m3.2 b1.2.2.2 (by omega) (by decide)⟩
    rw [Spl.tot] at t1;rw [Spl.cnt, cond_true] at c1;have n3 : -9223372036854775808 <= (S.getD j Spl.z0).1 * (S.getD j Spl.z0).2.1 ∧ (S.getD j Spl.z0).1 * (S.getD j Spl.z0).2.1 <= 9223372036854775807 := by omega
    have n4 : -9223372036854775808 <= (S.getD j Spl.z0).1 * (S.getD j Spl.z0).2.1 * (S.getD j Spl.z0).2.2 ∧ (S.getD j Spl.z0).1 * (S.getD j Spl.z0).2.1 * (S.getD j Spl.z0).2.2 <= 9223372036854775807 := by omega
    have n5 : -9223372036854775808 <= Spl.tot S j + (S.getD j Spl.z0).1 * (S.getD j Spl.z0).2.1 * (S.getD j Spl.z0).2.2 ∧ Spl.tot S j + (S.getD j Spl.z0).1 * (S.getD j Spl.z0).2.1 * (S.getD j Spl.z0).2.2 <= 9223372036854775807 := by omega
    refine W.rgh follows λK hK => ?_;refine Wgh.tk (za []) 0 ?_;conv=>whnf
    refine Wgh.tk (za []) 1 ?_;conv=>whnf
    refine Wgh.tk (za []) 2 ?_;conv=>whnf
    refine Wgh.tk (za []) 3 ?_;conv=>whnf
    refine ⟨oo, ?_⟩;conv=>whnf
    refine Wgh.tk (za []) 4 ?_;conv=>whnf
    refine Wgh.tk (za []) 5 ?_;conv=>whnf
    refine Wgh.tk (za []) 6 ?_;conv=>whnf
    refine Wgh.tk (za []) 7 ?_;conv=>whnf
    refine Wgh.tk (za []) 8 ?_;conv=>whnf
    refine ⟨oo, ?_⟩;conv=>whnf
    refine Wgh.tk (za []) 9 ?_;conv=>whnf
    refine Wgh.tk (za []) 10 ?_;conv=>whnf
    refine Wgh.tk (za []) 11 ?_;conv=>whnf
    refine ⟨n3, ?_⟩;conv=>whnf
    refine Wgh.tk (za []) 12 ?_;conv=>whnf
    refine Wgh.tk (za []) 13 ?_;conv=>whnf
    refine Wgh.tk (za []) 14 ?_;conv=>whnf
    refine ⟨oo, ?_⟩;conv=>whnf
    refine Wgh.tk (za []) 15 ?_;conv=>whnf
    refine Wgh.tk (za []) 16 ?_;conv=>whnf
    refine Wgh.tk (za []) 17 ?_;conv=>whnf
    refine ⟨n4, ?_⟩;conv=>whnf
    refine Wgh.tk (za []) 18 ?_;conv=>whnf
    refine ⟨n5, ?_⟩;conv=>whnf
    refine Wgh.on (za []) 19 [] ⟨ry, ry, rx, rx, ry, rx, rx, ry, rx, rx, ry, rx, rx, rx, rx, ry, rx, rx, rx, trivial⟩ ?_;conv=>whnf
    refine Wgh.dn (za []) trivial (hK _ ?_);clear hK;refine wrg ?_;conv=>whnf
    refine ⟨oo, ?_⟩;conv=>whnf
    refine ⟨by show _ <= Spl.cnt (λ_ => true) S j + (S.getD j Spl.z0).2.2 ∧ Spl.cnt (λ_ => true) S j + (S.getD j Spl.z0).2.2 <= _; omega, ?_⟩;conv=>whnf
    refine hK8 _ ?_;clear hK8;refine wrg ?_;conv=>whnf
    refine ⟨oo, ?_⟩;conv=>whnf
    exact zf ⟨j + 1, by omega, rfl, rfl⟩
   ·obtain rfl : j = S.length := by omega
    refine W.exit (hK1 _ ?_);clear hK7 hK1;refine wrs λK hK => ?_;conv=>whnf
    refine ⟨oo, ?_⟩;conv=>whnf
    refine ⟨λ_ => ?_, λhc0 => absurd hsum (of_decide_eq_false hc0)⟩;conv=>whnf
    refine ⟨λ_ => ?_, λhc0 => absurd rfl (of_decide_eq_false hc0)⟩;conv=>whnf
    refine ⟨λ_ => ?_, λhc0 => absurd hc0 (by simp [hz])⟩;conv=>whnf
    refine hK _ (W.ret ?_);conv=>whnf
    exact ⟨.v (.bool true), decide_eq_true hle, trivial, rfl⟩
  refine wrs λK hK => ?_;conv=>whnf
  refine ⟨λh1 => ?_, λh1 => ?_⟩ <;> conv=>whnf
  ·refine hK _ (W.cond ⟨λhcc => absurd hcc (by simp), λ_ => W.skip (fin2 _ (by dsimp only; omega) ?_)⟩);exact cvr
  ·refine hK _ (W.condF rfl (W.skip (fin2 _ (by dsimp only; omega) ?_)));exact cvr
 refine wrs λK hK => ?_;conv=>whnf
 refine ⟨λh1 => ?_, λh1 => ?_⟩ <;> conv=>whnf
 ·have h1 := of_decide_eq_true h1;obtain ⟨hm, h2, h0⟩ := hX h1;refine zc rfl (zgo _ q X) λhs' hhs => ?_;try dsimp only at hhs
  conv=>whnf
  rw [yc hm];conv=>whnf
  refine ⟨λhc0 => absurd hc0 (by simp), λ_ => ?_⟩;conv=>whnf
  refine ⟨λhc0 => absurd (of_decide_eq_true hc0) (by omega), λ_ => ?_⟩;conv=>whnf
  refine ⟨oo, ?_⟩;conv=>whnf
  refine hK _ (W.cond ⟨λhcc => absurd (of_decide_eq_true hcc) h0, λ_ => W.skip (fin _ (by dsimp only; omega) ?_)⟩);exact cvr
 ·refine hK _ (W.condF rfl (W.skip (fin _ (by dsimp only; omega) ?_)));exact cvr

open Go Go.RowKit Go.ChangeShapes Go.WideShapes Go.ChangeAt Go.Proofs Go.Proofs.YtffhmebkkbfaeaaGreat

set_option maxRecDepth 100000 in
theorem liftedResidualFactors (H : Type) (enc : TypeId × Value -> H) (os : Os) (started : os.Started) :
  ReturnsInHanded {} Tryz.checked os 5 .any (Rows.fnResidualFactorsSpec.pre6 enc Tryz.prog Tryz.f5 Rows.fnResidualFactorsRow.domain false) (Rows.fnResidualFactorsSpec.post enc Tryz.prog Tryz.f5 false true false false) := by
 refine ziB (C := Tryz.checked) (tb := 4) ownP started (by kernel_rfl) Tryz.func5 zmR ?_ rfl (by kernel_rfl) Tryz.underlying4 ?_
  (ChangeSpec.witness6 (enc := enc) (C := Tryz.checked) false ⟨#[], #[.slice none 0 0], []⟩ 8 (by kernel_rfl) (by kernel_rfl) (by kernel_rfl) (by kernel_rfl)) ?_
 ·rw [Tryz.params5];intro t ht;simp only [List.mem_singleton] at ht
  subst ht;exact ⟨by kernel_rfl, of_decide_eq_true (by kernel_rfl)⟩
 ·intro ds hds
  match ds, hds with
  | [d0], _ => exact ⟨rfl, rfl, rfl⟩
 ·intro W args ds ps hval hA;have hval' : ∀ (j : Nat) t v, Tryz.f5.params[j]? = some t -> args[j]? = some v -> ∃ base, Value.okWide Tryz.prog W .any base t v := hval;rw [Tryz.params5] at hA hval';obtain ⟨v0, d0, hv, rfl, h0⟩ := trodAll_one hA;subst hv;obtain ⟨_, hv0⟩ := hval' 0 32 v0 rfl rfl;obtain ⟨a0, len0, cap0, rfl⟩ := okWide_slice Tryz.underlying32 hv0;obtain ⟨x0, hx0, hr0⟩ := zlD zjh h0 (by simp);obtain ⟨n, c, hb, _, hr⟩ := zmT hx0;refine zmU (lawResidualFactors (n := n) (c := c) hb) rfl λj hj => ?_;obtain rfl : j = 0 := by simpa using hj
  exact hr _ _ _ hr0

theorem joinedResidualFactorsa : (Rows.fnResidualFactorsRow.inPlace == Tryz.checked.prog.inPlace 5) = true := by kernel_rfl
theorem joinedResidualFactorsb : (Rows.fnResidualFactorsRow.unfollowed == Tryz.checked.prog.unfollowed 5) = true := by kernel_rfl
theorem joinedResidualFactorsc : (Rows.fnResidualFactorsRow.recurses == Tryz.checked.prog.recurses 5) = true := by kernel_rfl
theorem joinedResidualFactorsd : (Rows.fnResidualFactorsRow.named == Tryz.checked.prog.varsNamed 5) = true := by kernel_rfl
theorem joinedResidualFactors : joinedFacts Tryz.checked.prog 5 Tryz.f5 Rows.fnResidualFactorsSpec Rows.fnResidualFactorsRow = true := by
 unfold joinedFacts;rw [zog, zoC, zoD, joinedResidualFactorsa, joinedResidualFactorsb, joinedResidualFactorsc, joinedResidualFactorsd]
 kernel_rfl
theorem instResidualFactors : Tryz.f5.isInstance Tryz.checked.prog Rows.fnResidualFactorsRow.origin Rows.fnResidualFactorsRow.targs := of_decide_eq_true (by kernel_rfl)

theorem claimResidualFactors : Rows.FnResidualFactorsSaid :=
 OpenClaim.holds_of_wide (p := Tryz.pinned) (s := Rows.fnResidualFactorsSpec) (c := Rows.fnResidualFactorsRow) 5 Tryz.f5 rfl rfl rfl rfl rfl rfl rfl ⟨rfl, rfl, rfl, rfl, rfl⟩ rfl rfl rfl rfl rfl (by kernel_rfl) Tryz.func5 joinedResidualFactors
  instResidualFactors (by unfold Func.isWrapper; first | (rw [if_pos (by decide +kernel)]; kernel_rfl) | (rw [if_neg (by decide +kernel)]; exact ⟨rfl, rfl⟩))
  (λos started H enc _ => liftedResidualFactors H enc os started)

end Go.Proofs.YtffhmebkkbfaeaaGreat
