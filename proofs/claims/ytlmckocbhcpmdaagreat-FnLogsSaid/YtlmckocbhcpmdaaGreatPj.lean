/- What the program's functions and the reference's return. No conditions. -/
import Derived.Test.YtlmckocbhcpmdaaGreatPi
import Derived.Test.YtlmckocbhcpmdaaGreatRows
namespace Go.Proofs.YtlmckocbhcpmdaaGreat
open Go Go.RowKit Go.Proofs Poly
set_option maxRecDepth 100000
set_option maxHeartbeats 8000000

def vP (x : Nat × Nat) : V := .agg [.int .i64 x.1, .int .i64 x.2]
def vPw (L : List (Nat × Nat)) : V := .vals none 2 L.length fun j => vP (L.getD j (0, 0))


theorem zjK (n : Nat) (L : List (Nat × Nat)) (hL : FacS n L) (hn : n <= 1000000) : FnV 238 [.int .i64 n] (vPw L) := by
 have hpr := hL.prod;have hlen := vh hL.pr;refine ze (za [0, 2, 3, 4, 5, 7, 14, 19, 26]) Tryz.func238 rfl (by decide) Tryz.ntmps238 (Nat.le_of_ble_eq_true rfl) fun base => ?_;refine wrs fun K hK => ?_;conv => whnf
 refine hK _ ?_;clear hK K;refine wrs fun K hK => ?_;conv => whnf
 refine hK _ ?_;clear hK K;refine W.seqK fun K1 hK1 => ?_;refine wrs fun K hK => ?_;conv => whnf
 refine hK _ (W.block (W.invA (fun m e => ∃ (A M : List (Nat × Nat)) (q b : Nat), A ++ M = L ∧ FacS (zr M) M ∧ 2 <= q ∧ (∀ x ∈ M, q <= x.1) ∧ q <= n + 1 ∧ m = n + 1 - q ∧ e = [(0, .v (.int .i64 (zr M : Nat))), (3, .ownV 162 2 b A.length fun i => vP (A.getD i (0, 0))), (4, .v (.int .i64 q))]) ⟨[], L, 2, 0, rfl, hpr.symm ▸ hL, Nat.le_refl _, fun x hx => (hL.pr x hx).1.1, by omega, rfl, rfl⟩ ?_));clear hK K;rintro m e ⟨A, M, q, b, hA, hM, hq2, hql, hqn, hm, rfl⟩
 have hMn : zr M <= n := by
  rw [<- hpr, <- hA, kN];have : 0 < zr A := kg fun x hx => hL.pr x (by rw [<- hA]; simp [hx]);exact Nat.le_mul_of_pos_left _ this
 have hAl : A.length <= L.length := by rw [<- hA, List.length_append]; omega
 refine W.seqK fun K7 hK7 => wrs fun K hK => ?_;conv => whnf
 refine hK _ (W.cond ⟨fun h1 => ?_, fun h1 => ?_⟩) <;> clear hK K <;> (first | replace h1 := of_decide_eq_true h1 | replace h1 := of_decide_eq_false h1)
 ·have h1' : 1 < zr M := by omega
  obtain ⟨x, hx⟩ : ∃ x, x ∈ M := by
   cases M with
   | nil => rw [zr] at h1'; omega
   | cons y M => exact ⟨y, by simp⟩
  have hqM : ∀ q', (∀ x ∈ M, q' <= x.1) -> q' <= zr M := fun q' hq' => by
   obtain ⟨r, hr⟩ : ∃ r, x.2 = r + 1 := ⟨x.2 - 1, by have := (hM.pr x hx).2; omega⟩
   have h3 := xH hx;rw [hr, Nat.pow_succ] at h3;exact Nat.le_trans (hq' x hx) (Nat.le_of_dvd (by omega) (Nat.dvd_trans (Nat.dvd_mul_left _ _) h3))
  refine W.skip (hK7 _ ?_);clear hK7 K7;refine W.seqK fun K8 hK8 => W.block ?_;refine W.seqK fun K9 hK9 => ?_
  have fin : ∀ (q' : Nat) (s : S), 2 <= q' -> (∀ x ∈ M, q' <= x.1) -> q <= q' -> base <= s.hs ->
    zA s.env [(0, .v (.int .i64 (zr M : Nat))), (3, .ownV 162 2 b A.length fun i => vP (A.getD i (0, 0))), (4, .v (.int .i64 q'))] -> K9 s := by
   intro q' s b1 b2 b3 h5 h6;have hq'M := hqM q' b2;obtain ⟨k, M', b5, b4, b6, b7, b8⟩ := hM.next' b1 b2;refine hK9 _ (W.weak (t := ⟨[(0, .v (.int .i64 (zr M : Nat))), (3, .ownV 162 2 b A.length fun i => vP (A.getD i (0, 0))), (4, .v (.int .i64 q'))], base⟩) ⟨h5, h6⟩ (Nat.le_refl _) ?_);clear hK9 K9;refine wrs fun K hK => ?_;conv => whnf
   refine hK _ ?_;clear hK K;have e8 : zr M = q' ^ (k - 0) * zr M' := b5;rw [e8];refine W.seqK fun K1 hK1 => W.block (W.invA (fun m e => ∃ i : Nat, i <= k ∧ m = k - i ∧ e = [(0, .v (.int .i64 ((q' ^ (k - i) * zr M' : Nat) : Int))), (3, .ownV 162 2 b A.length fun i => vP (A.getD i (0, 0))), (4, .v (.int .i64 q')), (5, .v (.int .i64 i))]) ⟨0, Nat.zero_le _, rfl, rfl⟩ ?_);rintro m2 e ⟨i, hi, hm2, rfl⟩;have hmod := zf1 (a := k - i) b1 b4
   have hkb : k <= 1000000 := by
    have h1 : k < q' ^ k := Nat.lt_pow_self (by omega);have h2 : q' ^ k * 1 <= q' ^ k * zr M' := Nat.mul_le_mul_left _ (kg b6.pr);omega
   have hle : q' ^ (k - i) * zr M' <= 1000000 := by
    have : q' ^ (k - i) * zr M' <= q' ^ k * zr M' := Nat.mul_le_mul_right _ (Nat.pow_le_pow_right (by omega) (by omega));omega
   refine W.seqK fun K7 hK7 => ?_;refine wrs fun K hK => ?_;conv => whnf
   refine ⟨by omega, ?_⟩;conv => whnf
   rw [zat];refine hK _ (W.cond ⟨fun h2 => ?_, fun h2 => ?_⟩) <;> clear hK K
   ·have h2 := of_decide_eq_true h2;have hik : 0 < k - i := hmod.1 (by omega);have hdiv := zf2 (P := zr M') b1 hik;have hle2 : q' ^ (k - i - 1) * zr M' <= 1000000 := by rw [<- hdiv]; exact Nat.le_trans (Nat.div_le_self _ _) hle
    refine W.skip (hK7 _ (W.block ?_));clear hK7 K7;refine wrs fun K hK => ?_;conv => whnf
    refine ⟨by omega, ?_⟩;conv => whnf
    rw [ju, hdiv];refine ⟨oo, ?_⟩;conv => whnf
    refine hK _ ?_;clear hK K;refine wrg ?_;conv => whnf
    refine ⟨oo, ?_⟩;conv => whnf
    exact zj ⟨i + 1, by omega, rfl, rfl⟩
   have h2 := of_decide_eq_false h2;have hik : ¬ 0 < k - i := fun h => h2 (by have := hmod.2 h; omega);obtain rfl : i = k := by omega
   have e9 : q' ^ (i - i) * zr M' = zr M' := by rw [Nat.sub_self, Nat.pow_zero, Nat.one_mul]
   rw [e9];refine W.exit (hK1 _ ?_);clear hK7 K7 hK1 K1;refine wrs fun K hK => ?_;conv => whnf
   refine hK _ (W.cond ⟨fun h3 => ?_, fun h3 => ?_⟩) <;> clear hK K
   ·have h3 := of_decide_eq_true h3;have hb8 : M = (q', i) :: M' := by rw [if_neg (by omega)] at b8; exact b8
    refine wrg ?_;conv => whnf
    refine ⟨⟨rfl, by decide, fun x hx => by simp at hx; subst hx; exact ⟨rfl, rfl⟩⟩, ?_⟩;conv => whnf
    intro b_8 hs_8 hh_8 hf_8;try dsimp only at hh_8 hf_8
    conv => whnf
    refine ⟨by omega, ?_⟩;conv => whnf
    refine ⟨fun j => vP ((A ++ [(q', i)]).getD j (0, 0)), fun j hj => congrArg vP (vC hj), fun j hj => ?_, ?_⟩
    ·obtain rfl : j = 0 := by omega
     exact congrArg vP vD
    intro b_9 hs_9 hh_9 hf_9;try dsimp only at hh_9 hf_9
    conv => whnf
    refine hK8 _ ?_;clear hK8 K8;refine wrg ?_;conv => whnf
    refine ⟨oo, ?_⟩;conv => whnf
    refine ⟨_, _, ⟨A ++ [(q', i)], M', q' + 1, b_9, by rw [List.append_assoc, <- hA, hb8]; rfl, b6, by omega, b7, by omega, rfl, rfl⟩, by omega, by dsimp only; omega, ?_⟩;rw [List.length_append (bs := [_])];exact cvr
   ·have h3 := of_decide_eq_false h3;have hb8 : M = M' := by rw [if_pos (by omega)] at b8; exact b8
    refine W.skip (hK8 _ ?_);clear hK8 K8;refine wrg ?_;conv => whnf
    refine ⟨oo, ?_⟩;conv => whnf
    exact zj ⟨A, M', q' + 1, b, by rw [<- hA, hb8], b6, by omega, b7, by omega, rfl, rfl⟩
  have hqq := hqM q hql;have hq3 : (q : Int) * q <= 1000001 * 1000001 := Int.mul_le_mul (by omega) (by omega) (by omega) (by omega);have hq4 : 0 <= (q : Int) * q := Int.mul_nonneg (by omega) (by omega);refine wrs fun K hK => ?_;conv => whnf
  refine ⟨oo, ?_⟩;conv => whnf
  refine hK _ (W.cond ⟨fun h2 => ?_, fun h2 => ?_⟩) <;> clear hK K
  ·have h2 := of_decide_eq_true h2;have hlast := hM.last hql h1' (by rw [<- Int.natCast_mul] at h2; omega);refine wrg ?_;conv => whnf
   refine fin (zr M) _ (by omega) (fun y hy => ?_) hqq (by dsimp only; omega) ?_
   ·rw [hlast] at hy;have hy : y = (zr M, 1) := by simpa using hy
    rw [hy]; exact Nat.le_refl _
   ·clear fin hK9 K9;exact cvr
  ·refine W.skip (fin q _ hq2 hql (Nat.le_refl _) (by dsimp only; omega) ?_);clear fin hK9 K9;exact cvr
 ·have hMe : M = [] := by
   cases M with
   | nil => rfl
   | cons y M' => have := vh hM.pr; rw [List.length_cons] at this; omega
  rw [hMe, List.append_nil] at hA;subst hA;refine W.exit (hK1 _ ?_);clear hK7 K7 hK1 K1;refine W.sw (c' := cxr [0, 2, 3, 4, 5, 7, 14, 19, 26]) (W.rs (zjA _) (by rfl) fun K hK => ?_);conv => whnf
  refine hK _ ?_;clear hK K;refine W.ret ?_;conv => whnf
  exact ⟨.v (vPw A), ⟨.inl rfl, rfl, rfl, fun _ _ => rfl⟩, ⟨trivial, fun _ _ => ⟨trivial, trivial, trivial⟩⟩, rfl⟩

theorem zhe (n : Nat) (L : List (Nat × Nat)) (hL : FacS n L) (hn : n <= 1000000) : FnV 335 [.int .i64 n] (vPw L) := by
 have hpr := hL.prod;have hlen := vh hL.pr;refine ze (za [0, 2, 3, 4, 5, 11, 17, 24, 32]) Tryz.func335 rfl (by decide) Tryz.ntmps335 (Nat.le_of_ble_eq_true rfl) fun base => ?_;refine wrs fun K hK => ?_;conv => whnf
 refine hK _ ?_;clear hK K;refine wrs fun K hK => ?_;conv => whnf
 refine ⟨⟨rfl, by decide, fun x hx => by simp at hx⟩, ?_⟩;conv => whnf
 intro b_1 hs_1 hh_1 hf_1;try dsimp only at hh_1 hf_1
 conv => whnf
 refine hK _ ?_;clear hK K;refine W.seqK fun K1 hK1 => ?_;refine wrs fun K hK => ?_;conv => whnf
 refine hK _ (W.block (W.invA (fun m e => ∃ (A M : List (Nat × Nat)) (q b : Nat), A ++ M = L ∧ FacS (zr M) M ∧ 2 <= q ∧ (∀ x ∈ M, q <= x.1) ∧ q <= n + 2 ∧ m = n + 2 - q ∧ e = [(0, .v (.int .i64 (zr M : Nat))), (3, .ownV 162 2 b A.length fun i => vP (A.getD i (0, 0))), (4, .v (.int .i64 q))]) ⟨[], L, 2, b_1, rfl, hpr.symm ▸ hL, Nat.le_refl _, fun x hx => (hL.pr x hx).1.1, by omega, rfl, rfl⟩ ?_));clear hK K;rintro m e ⟨A, M, q', b, hA, hM, b1, b2, hqn, hm, rfl⟩
 have hMn : zr M <= n := by
  rw [<- hpr, <- hA, kN];have : 0 < zr A := kg fun x hx => hL.pr x (by rw [<- hA]; simp [hx]);exact Nat.le_mul_of_pos_left _ this
 have hAl : A.length <= L.length := by rw [<- hA, List.length_append]; omega
 have hq3 : (q' : Int) * q' <= 1000002 * 1000002 := Int.mul_le_mul (by omega) (by omega) (by omega) (by omega);have hq4 : 0 <= (q' : Int) * q' := Int.mul_nonneg (by omega) (by omega);refine W.seqK fun K7 hK7 => ?_;refine wrs fun K hK => ?_;conv => whnf
 refine ⟨oo, ?_⟩;conv => whnf
 refine hK _ (W.cond ⟨fun h1 => ?_, fun h1 => ?_⟩) <;> clear hK K
 ·have h1 := of_decide_eq_true h1;have hqq : q' * 2 <= q' * q' := Nat.mul_le_mul_left _ b1;have hqq2 : q' * q' <= zr M := by rw [<- Int.natCast_mul] at h1; omega
  obtain ⟨k, M', b5, b4, b6, b7, b8⟩ := hM.next' b1 b2;refine W.skip (hK7 _ ?_);clear hK7 K7;refine W.seqK fun K8 hK8 => W.block ?_;refine wrs fun K hK => ?_;conv => whnf
  refine hK _ ?_;clear hK K;have e8 : zr M = q' ^ (k - 0) * zr M' := b5;rw [e8];refine W.seqK fun K1 hK1 => W.block (W.invA (fun m e => ∃ i : Nat, i <= k ∧ m = k - i ∧ e = [(0, .v (.int .i64 ((q' ^ (k - i) * zr M' : Nat) : Int))), (3, .ownV 162 2 b A.length fun i => vP (A.getD i (0, 0))), (4, .v (.int .i64 q')), (5, .v (.int .i64 i))]) ⟨0, Nat.zero_le _, rfl, rfl⟩ ?_);rintro m2 e ⟨i, hi, hm2, rfl⟩;have hmod := zf1 (a := k - i) b1 b4
  have hkb : k <= 1000000 := by
   have h1 : k < q' ^ k := Nat.lt_pow_self (by omega);have h2 : q' ^ k * 1 <= q' ^ k * zr M' := Nat.mul_le_mul_left _ (kg b6.pr);omega
  have hle : q' ^ (k - i) * zr M' <= 1000000 := by
   have : q' ^ (k - i) * zr M' <= q' ^ k * zr M' := Nat.mul_le_mul_right _ (Nat.pow_le_pow_right (by omega) (by omega));omega
  refine W.seqK fun K7 hK7 => ?_;refine wrs fun K hK => ?_;conv => whnf
  refine ⟨by omega, ?_⟩;conv => whnf
  rw [zat];refine hK _ (W.cond ⟨fun h2 => ?_, fun h2 => ?_⟩) <;> clear hK K
  ·have h2 := of_decide_eq_true h2;have hik : 0 < k - i := hmod.1 (by omega);have hdiv := zf2 (P := zr M') b1 hik;have hle2 : q' ^ (k - i - 1) * zr M' <= 1000000 := by rw [<- hdiv]; exact Nat.le_trans (Nat.div_le_self _ _) hle
   refine W.skip (hK7 _ (W.block ?_));clear hK7 K7;refine wrs fun K hK => ?_;conv => whnf
   refine ⟨by omega, ?_⟩;conv => whnf
   rw [ju, hdiv];refine ⟨oo, ?_⟩;conv => whnf
   refine hK _ ?_;clear hK K;refine wrg ?_;conv => whnf
   refine ⟨oo, ?_⟩;conv => whnf
   exact zj ⟨i + 1, by omega, rfl, rfl⟩
  have h2 := of_decide_eq_false h2;have hik : ¬ 0 < k - i := fun h => h2 (by have := hmod.2 h; omega);obtain rfl : i = k := by omega
  have e9 : q' ^ (i - i) * zr M' = zr M' := by rw [Nat.sub_self, Nat.pow_zero, Nat.one_mul]
  rw [e9];refine W.exit (hK1 _ ?_);clear hK7 K7 hK1 K1;refine wrs fun K hK => ?_;conv => whnf
  refine hK _ (W.cond ⟨fun h3 => ?_, fun h3 => ?_⟩) <;> clear hK K
  ·have h3 := of_decide_eq_true h3;have hb8 : M = (q', i) :: M' := by rw [if_neg (by omega)] at b8; exact b8
   refine wrg ?_;conv => whnf
   refine ⟨⟨rfl, by decide, fun x hx => by simp at hx; subst hx; exact ⟨rfl, rfl⟩⟩, ?_⟩;conv => whnf
   intro b_8 hs_8 hh_8 hf_8;try dsimp only at hh_8 hf_8
   conv => whnf
   refine ⟨by omega, ?_⟩;conv => whnf
   refine ⟨fun j => vP ((A ++ [(q', i)]).getD j (0, 0)), fun j hj => congrArg vP (vC hj), fun j hj => ?_, ?_⟩
   ·obtain rfl : j = 0 := by omega
    exact congrArg vP vD
   intro b_9 hs_9 hh_9 hf_9;try dsimp only at hh_9 hf_9
   conv => whnf
   refine hK8 _ ?_;clear hK8 K8;refine wrg ?_;conv => whnf
   refine ⟨oo, ?_⟩;conv => whnf
   refine ⟨_, _, ⟨A ++ [(q', i)], M', q' + 1, b_9, by rw [List.append_assoc, <- hA, hb8]; rfl, b6, by omega, b7, by omega, rfl, rfl⟩, by omega, by dsimp only; omega, ?_⟩;rw [List.length_append (bs := [_])];exact cvr
  ·have h3 := of_decide_eq_false h3;have hb8 : M = M' := by rw [if_pos (by omega)] at b8; exact b8
   refine W.skip (hK8 _ ?_);clear hK8 K8;refine wrg ?_;conv => whnf
   refine ⟨oo, ?_⟩;conv => whnf
   exact zj ⟨A, M', q' + 1, b, by rw [<- hA, hb8], b6, by omega, b7, by omega, rfl, rfl⟩
 ·have h1 := of_decide_eq_false h1;refine W.exit (hK1 _ ?_);clear hK7 K7 hK1 K1;refine W.seqK fun K1 hK1 => ?_
  have fin : ∀ (b' : Nat) (s : S), base <= s.hs -> zA s.env [(3, .ownV 162 2 b' L.length fun i => vP (L.getD i (0, 0)))] -> K1 s := by
   intro b' s h5 h6;refine hK1 _ (W.weak (t := ⟨[(3, .ownV 162 2 b' L.length fun i => vP (L.getD i (0, 0)))], base⟩) ⟨h5, h6⟩ (Nat.le_refl _) ?_);clear hK1 K1;refine W.sw (c' := cxr [0, 2, 3, 4, 5, 11, 17, 24, 32]) (W.rs (zjA _) (by rfl) fun K hK => ?_);conv => whnf
   refine hK _ ?_;clear hK K;refine W.ret ?_;conv => whnf
   exact ⟨.v (vPw L), ⟨.inl rfl, rfl, rfl, fun _ _ => rfl⟩, ⟨trivial, fun _ _ => ⟨trivial, trivial, trivial⟩⟩, rfl⟩
  clear hK1;refine wrs fun K hK => ?_;conv => whnf
  refine hK _ (W.cond ⟨fun h2 => ?_, fun h2 => ?_⟩) <;> clear hK K
  ·have h2 := of_decide_eq_true h2;have hlast := hM.last b2 (by omega) (by rw [<- Int.natCast_mul] at h1; omega);have hA2 : A ++ [(zr M, 1)] = L := by rw [<- hlast]; exact hA
   refine wrg ?_;conv => whnf
   refine ⟨⟨rfl, by decide, fun x hx => by simp at hx; subst hx; exact ⟨rfl, rfl⟩⟩, ?_⟩;conv => whnf
   intro b_8 hs_8 hh_8 hf_8;try dsimp only at hh_8 hf_8
   conv => whnf
   refine ⟨by omega, ?_⟩;conv => whnf
   refine ⟨fun j => vP ((A ++ [(zr M, 1)]).getD j (0, 0)), fun j hj => congrArg vP (vC hj), fun j hj => ?_, ?_⟩
   ·obtain rfl : j = 0 := by omega
    exact congrArg vP vD
   intro b_9 hs_9 hh_9 hf_9;try dsimp only at hh_9 hf_9
   conv => whnf
   refine fin b_9 _ (by dsimp only; omega) ?_;clear fin;rw [<- hA2, List.length_append (bs := [_])];exact cvr
  ·have h2 := of_decide_eq_false h2
   have hMe : M = [] := by
    cases M with
    | nil => rfl
    | cons y M' => have := vh hM.pr; rw [List.length_cons] at this; omega
   rw [hMe, List.append_nil] at hA;subst hA;refine W.skip (fin b _ (by dsimp only; omega) ?_);clear fin;exact cvr


theorem zaX {p : Int} [SP p] {f : Poly p} (hk : IsFld p f.l) {d : Nat} (hd : dg f = d + 1) : (p ^ (f.l.length - 1) : Int) = ((p.toNat ^ d : Nat) : Int) ∧ p.toNat ^ d <= 20000 ∧ 2 <= p.toNat ^ d := by
 have h2 := Pr.two (p := p);have h1 : f.l.length - 1 = d := by have : f.l.length = dg f := rfl; omega
 have h3 : (p ^ (f.l.length - 1) : Int) = ((p.toNat ^ d : Nat) : Int) := by rw [h1, Int.natCast_pow, Int.toNat_of_nonneg (by omega)]
 have h4 := hk.ord;have h5 := hk.two;have h6 : p.toNat ^ 1 <= p.toNat ^ d := Nat.pow_le_pow_right (by omega) (by omega);rw [Nat.pow_one] at h6;exact ⟨h3, by omega, by omega⟩
theorem zaI {p : Int} [SP p] {f X : Poly p} {e : Nat} (h2 : 2 <= dg f) : (rem (X ^ e) f).l = [1] ↔ One f X e := by
 rw [zgW h2];exact ⟨fun h => vR (by rw [h, zaT]), fun h => by rw [h, zaT]⟩

theorem zjL (p : Int) [SP p] (g g1 : Option Nat) (f X : Poly p) (hk : IsFld p f.l) (hi : Irr f) (hX0 : X ≠ 0) (hX : dg X < dg f) (e0 : Nat) (ho : yF f X e0) : FnV 242 [vK p g f.l, .ints g1 X.l] (.int .i64 e0) := by
 have hp := Pr.two (p := p);have hp2 := SP.le (p := p);have h9 := hk.mod.2.1;have hl2 := hk.two;have hfl : f.l.length = dg f := rfl;have hf0 := hi.ne;obtain ⟨d, hd⟩ : ∃ d, dg f = d + 1 := ⟨dg f - 1, by omega⟩
 obtain ⟨hq1, hq2, hq3⟩ := zaX hk hd;have hfer := zbm hi (ym hX0 hX) hd;generalize p.toNat ^ d = q at hq1 hq2 hq3 hfer;have hL := zgY (n := q - 1) (by omega);have hLl := vh hL.pr;rw [hL.prod] at hLl;generalize znJ (q - 1) = L at hL hLl;have hqi : ((q : Nat) : Int) - 1 = ((q - 1 : Nat) : Int) := by omega
 refine ze (za [0, 1, 2, 4, 5, 7, 12, 13, 14, 15, 19, 20, 21, 29]) Tryz.func242 rfl (by decide) Tryz.ntmps242 (Nat.le_of_ble_eq_true rfl) fun base => ?_;refine wrs fun K hK => ?_;conv => whnf
 refine ⟨rfl, ?_⟩;conv => whnf
 intro b_1 hs_1 hh_1 hf_1;try dsimp only at hh_1 hf_1
 conv => whnf
 refine hK _ ?_;clear hK K;refine wrs fun K hK => ?_;conv => whnf
 refine zc rfl (zas p g f.l (by omega) (by omega) (by omega) (by omega)) fun hs' hhs => ?_;try dsimp only at hhs
 conv => whnf
 rw [hq1];refine ⟨oo, ?_⟩;conv => whnf
 rw [hqi];refine hK _ ?_;clear hK K;refine W.seqK fun K1 hK1 => ?_;refine wrs fun K hK => ?_;conv => whnf
 refine zc rfl (zjK (q - 1) L hL (by omega)) fun hs' hhs => ?_;try dsimp only at hhs
 conv => whnf
 refine hK _ (W.block (W.invA (fun m e => ∃ i e' : Nat, i <= L.length ∧ OrdI f X (q - 1) L i e' ∧ m = L.length - i ∧ e = [(1, .v (.ints g1 X.l)), (2, .ownB b_1 (vK p g f.l)), (5, .v (.int .i64 e')), (12, .v (vPw L)), (13, .v (.int .i64 L.length)), (14, .v (.int .i64 i))]) ⟨0, q - 1, Nat.zero_le _, OrdI.start hL (by omega) hfer, rfl, rfl⟩ ?_));clear hK K;rintro m e ⟨i, e, hi1, hO, hm, rfl⟩;refine wrs fun K hK => ?_;conv => whnf
 refine hK _ ?_;clear hK K;refine W.seqK fun K7 hK7 => W.cond ⟨fun h1 => ?_, fun h1 => ?_⟩ <;> (first | replace h1 := of_decide_eq_true h1 | replace h1 := of_decide_eq_false h1)
 ·have hi2 : i < L.length := by omega
  have hJ := hO.enter hL hi2;have hpr := hL.pr _ (List.getElem_mem hi2);have hstep := fun j e (h : OrdJ f X (q - 1) L i L[i].1 L[i].2 j e) => OrdJ.step (f := f) (x := X) (n := q - 1) (j := j) (e := e) hL hi2 h;have hleave := fun e h => OrdJ.leave (f := f) (x := X) (n := q - 1) (e := e) hi2 h;have hxe : L.getD i (0, 0) = L[i] := by rw [List.getD_eq_getElem?_getD, List.getElem?_eq_getElem hi2]; rfl
  have hx2 : L[i].2 <= 1000000 := by
   have h3 := Nat.le_of_dvd (by omega) (hL.prod ▸ xH (List.getElem_mem hi2));have h4 : L[i].2 < L[i].1 ^ L[i].2 := Nat.lt_pow_self (by have := hpr.1.1; omega);omega
  have hx1 : L[i].1 <= 1000000 := by
   have h3 := Nat.le_of_dvd (by omega) (hL.prod ▸ xH (List.getElem_mem hi2));have h4 : L[i].1 ^ 1 <= L[i].1 ^ L[i].2 := Nat.pow_le_pow_right (by have := hpr.1.1; omega) hpr.2;rw [Nat.pow_one] at h4; omega
  generalize L[i] = x at hJ hpr hstep hleave hxe hx2 hx1;obtain ⟨hxp, hxk⟩ := hpr;have hxp2 := hxp.1;refine W.skip (hK7 _ ?_);clear hK7 K7;refine W.seqK fun K8 hK8 => W.block ?_;refine wrs fun K hK => ?_;conv => whnf
  refine ⟨oo, ?_⟩;conv => whnf
  rw [Int.toNat_natCast, hxe];intro b_7 hs_7 hh_7 hf_7;try dsimp only at hh_7 hf_7
  conv => whnf
  refine ⟨s23, ?_⟩;conv => whnf
  refine hK _ ?_;clear hK K;refine wrs fun K hK => ?_;conv => whnf
  refine hK _ (W.block (W.invA (fun m e => ∃ j e' : Nat, j <= x.2 ∧ OrdJ f X (q - 1) L i x.1 x.2 j e' ∧ m = x.2 - j ∧ e = [(1, .v (.ints g1 X.l)), (2, .ownB b_1 (vK p g f.l)), (5, .v (.int .i64 e')), (7, .ownB b_7 (vP x)), (12, .v (vPw L)), (13, .v (.int .i64 L.length)), (14, .v (.int .i64 i)), (19, .v (.int .i64 x.2)), (20, .v (.int .i64 j))]) ⟨0, e, Nat.zero_le _, hJ, rfl, rfl⟩ ?_));clear hK K;clear hJ hO e;rintro m2 e ⟨j, e, hj, hJ, hm2, rfl⟩;have he1 := hJ.pos;have he2 := Nat.le_of_dvd (by omega) hJ.dvd;have he3 := Nat.div_le_self e x.1;have hst := hstep j e hJ;have hno : ¬ One f X (e / x.1) -> _ := fun h => hJ.stop (j' := j + 1) h;obtain ⟨v, hv⟩ : ∃ v, e / x.1 = v := ⟨_, rfl⟩
  rw [hv] at he3 hst hno;refine wrs fun K hK => ?_;conv => whnf
  refine hK _ ?_;clear hK K;refine W.seqK fun K7 hK7 => W.cond ⟨fun h2 => ?_, fun h2 => ?_⟩ <;> (first | replace h2 := of_decide_eq_true h2 | replace h2 := of_decide_eq_false h2)
  ·have hj2 : j < x.2 := by omega
   refine W.skip (hK7 _ ?_);clear hK7 K7;refine W.seqK fun K9 hK9 => W.block ?_;refine W.rd (za _) follows (by rfl) fun K hK => ?_;conv => whnf
   refine ⟨by omega, ?_⟩;conv => whnf
   rw [ju, hv];refine ⟨oo, ?_⟩;conv => whnf
   refine ⟨_, cxF (zcL p g g1 f X v (by omega) (by omega) (by omega) hf0), ?_⟩;conv => whnf
   refine ⟨_, cxF (zm4 none (rem (X ^ v) f).l), ?_⟩;conv => whnf
   refine hK _ (W.cond ⟨fun h3 => ?_, fun h3 => ?_⟩) <;> clear hK K
   ·have h3 := (zaI (by omega)).1 (of_decide_eq_true h3);refine wrg ?_;conv => whnf
    refine ⟨by omega, ?_⟩;conv => whnf
    rw [ju, hv];refine ⟨oo, ?_⟩;conv => whnf
    refine hK9 _ ?_;clear hK9 K9;refine wrg ?_;conv => whnf
    refine ⟨oo, ?_⟩;conv => whnf
    exact zj ⟨j + 1, v, by omega, (hst hj2 h3).2, rfl, rfl⟩
   ·have h3 := fun h => of_decide_eq_false h3 ((zaI (by omega)).2 h);refine W.skip (hK9 _ ?_);clear hK9 K9;refine wrg ?_;conv => whnf
    refine ⟨oo, ?_⟩;conv => whnf
    exact zj ⟨j + 1, e, by omega, hno h3, rfl, rfl⟩
  ·obtain rfl : j = x.2 := by omega
   refine W.exit (hK8 _ ?_);clear hK7 K7 hK8 K8;refine wrg ?_;conv => whnf
   refine ⟨oo, ?_⟩;conv => whnf
   exact zj ⟨i + 1, e, by omega, hleave e hJ, rfl, rfl⟩
 ·obtain rfl : i = L.length := by omega
  obtain rfl := ho.unique (hO.fin hL);refine W.exit (hK1 _ ?_);clear hK7 K7 hK1 K1;refine wrs fun K hK => ?_;conv => whnf
  refine hK _ ?_;clear hK K;refine W.ret ?_;conv => whnf
  exact ⟨.v (.int .i64 e0), ⟨rfl, rfl⟩, trivial, rfl⟩

theorem xC (p : Int) [SP p] (g g1 : Option Nat) (f X : Poly p) (hk : IsFld p f.l) (hi : Irr f) (hX0 : X ≠ 0) (hX : dg X < dg f) (e0 : Nat) (ho : yF f X e0) : FnV 236 [vK p g f.l, .ints g1 X.l] (.int .i64 e0) := by
 have hp := Pr.two (p := p);have hp2 := SP.le (p := p);have h9 := hk.mod.2.1;have hl2 := hk.two;have hfl : f.l.length = dg f := rfl;have hf0 := hi.ne;obtain ⟨d, hd⟩ : ∃ d, dg f = d + 1 := ⟨dg f - 1, by omega⟩
 obtain ⟨hq1, hq2, hq3⟩ := zaX hk hd;have hfer := zbm hi (ym hX0 hX) hd;generalize p.toNat ^ d = q at hq1 hq2 hq3 hfer;have hL := zgY (n := q - 1) (by omega);have hLl := vh hL.pr;rw [hL.prod] at hLl;generalize znJ (q - 1) = L at hL hLl;have hqi : ((q : Nat) : Int) - 1 = ((q - 1 : Nat) : Int) := by omega
 refine ze (za [0, 1, 2, 4, 5, 6, 7, 16, 39]) Tryz.func236 rfl (by decide) Tryz.ntmps236 (Nat.le_of_ble_eq_true rfl) fun base => ?_;refine wrs fun K hK => ?_;conv => whnf
 refine ⟨rfl, ?_⟩;conv => whnf
 intro b_1 hs_1 hh_1 hf_1;try dsimp only at hh_1 hf_1
 conv => whnf
 refine hK _ ?_;clear hK K;refine wrs fun K hK => ?_;conv => whnf
 refine zc rfl (yb p g f.l hk) fun hs' hhs => ?_;try dsimp only at hhs
 conv => whnf
 rw [hq1];refine ⟨oo, ?_⟩;conv => whnf
 rw [hqi];refine hK _ ?_;clear hK K;refine wrs fun K hK => ?_;conv => whnf
 refine zc rfl (zhe (q - 1) L hL (by omega)) fun hs' hhs => ?_;try dsimp only at hhs
 conv => whnf
 refine hK _ ?_;clear hK K;refine W.seqK fun K1 hK1 => ?_;refine wrs fun K hK => ?_;conv => whnf
 refine hK _ (W.block (W.invA (fun m e => ∃ i e' : Nat, i <= L.length ∧ OrdI f X (q - 1) L i e' ∧ m = L.length - i ∧ e = [(1, .v (.ints g1 X.l)), (2, .ownB b_1 (vK p g f.l)), (5, .v (.int .i64 e')), (6, .v (vPw L)), (7, .v (.int .i64 i))]) ⟨0, q - 1, Nat.zero_le _, OrdI.start hL (by omega) hfer, rfl, rfl⟩ ?_));clear hK K;rintro m e ⟨i, e, hi1, hO, hm, rfl⟩;refine W.seqK fun K7 hK7 => wrs fun K hK => ?_;conv => whnf
 refine hK _ (W.cond ⟨fun h1 => ?_, fun h1 => ?_⟩) <;> clear hK K <;> (first | replace h1 := of_decide_eq_true h1 | replace h1 := of_decide_eq_false h1)
 ·have hi2 : i < L.length := by omega
  have hJ := hO.enter hL hi2;have hpr := hL.pr _ (List.getElem_mem hi2);have hstep := fun j e (h : OrdJ f X (q - 1) L i L[i].1 L[i].2 j e) => OrdJ.step (f := f) (x := X) (n := q - 1) (j := j) (e := e) hL hi2 h;have hleave := fun e h => OrdJ.leave (f := f) (x := X) (n := q - 1) (e := e) hi2 h;have hxe : L.getD i (0, 0) = L[i] := by rw [List.getD_eq_getElem?_getD, List.getElem?_eq_getElem hi2]; rfl
  have hx1 : L[i].1 <= 1000000 := by
   have h3 := Nat.le_of_dvd (by omega) (hL.prod ▸ xH (List.getElem_mem hi2));have h4 : L[i].1 ^ 1 <= L[i].1 ^ L[i].2 := Nat.pow_le_pow_right (by have := hpr.1.1; omega) hpr.2;rw [Nat.pow_one] at h4; omega
  generalize L[i] = x at hJ hpr hstep hleave hxe hx1;obtain ⟨hxp, hxk⟩ := hpr;have hxp2 := hxp.1;refine W.skip (hK7 _ ?_);clear hK7 K7;refine W.seqK fun K8 hK8 => W.block ?_;refine W.block (W.invE (fun m e => ∃ j e' : Nat, j <= x.2 ∧ OrdJ f X (q - 1) L i x.1 x.2 j e' ∧ m = x.2 - j ∧ e = [(1, .v (.ints g1 X.l)), (2, .ownB b_1 (vK p g f.l)), (5, .v (.int .i64 e')), (6, .v (vPw L)), (7, .v (.int .i64 i))]) _ _ ⟨0, e, Nat.zero_le _, hJ, rfl, rfl⟩ (by dsimp only; omega) (by repeat' first | refine And.intro ?_ ?_ | exact trivial | rfl | omega | exact fun _ _ => rfl) ?_);clear hJ hO e;rintro m2 e ⟨j, e, hj, hJ, hm2, rfl⟩;have he1 := hJ.pos;have he2 := Nat.le_of_dvd (by omega) hJ.dvd;have he3 := Nat.div_le_self e x.1;have hst := hstep j e hJ;have hno : ¬ One f X (e / x.1) -> _ := fun h => hJ.stop (j' := x.2) h;have hov : ¬ x.1 ∣ e -> _ := fun h => hJ.over h
  have hdj : x.1 ∣ e -> One f X (e / x.1) -> j < x.2 := fun h1 h2 => by
   rcases hJ.at_ with ⟨m, h3, h4, h5⟩ | h3
   ·rcases Nat.lt_or_eq_of_le hj with h6 | h6
    ·exact h6
    ·rw [h6, Nat.sub_self, Nat.pow_zero, Nat.one_mul] at h3;exact absurd (h3 ▸ h1) h4
   ·exact absurd h2 h3
  obtain ⟨v, hv⟩ : ∃ v, e / x.1 = v := ⟨_, rfl⟩
  rw [hv] at he3 hst hno hdj
  -- the end of this prime
  have fin : OrdJ f X (q - 1) L i x.1 x.2 x.2 e -> ∀ s : S, base <= s.hs -> zA s.env [(1, .v (.ints g1 X.l)), (2, .ownB b_1 (vK p g f.l)), (5, .v (.int .i64 e)), (6, .v (vPw L)), (7, .v (.int .i64 i))] -> K8 s := by
   intro h4 s h5 h6;refine hK8 _ (W.weak (t := ⟨[(1, .v (.ints g1 X.l)), (2, .ownB b_1 (vK p g f.l)), (5, .v (.int .i64 e)), (6, .v (vPw L)), (7, .v (.int .i64 i))], base⟩) ⟨h5, h6⟩ (Nat.le_refl _) ?_);clear hK8 K8;refine wrg ?_;conv => whnf
   refine ⟨oo, ?_⟩;conv => whnf
   exact zj ⟨i + 1, e, by omega, hleave e h4, rfl, rfl⟩
  clear hK8;refine W.seqK fun K7 hK7 => ?_;refine W.rd (za _) follows (by rfl) fun K hK => ?_;conv => whnf
  refine ⟨oo, ?_⟩;conv => whnf
  rw [Int.toNat_natCast, hxe];refine ⟨by omega, ?_⟩;conv => whnf
  rw [zat]
  by_cases hdv : x.1 ∣ e
  ·have e1 : decide (((e % x.1 : Nat) : Int) = 0) = true := decide_eq_true (by rw [Nat.mod_eq_zero_of_dvd hdv]; rfl);rw [e1];conv => whnf
   refine ⟨oo, ?_⟩;conv => whnf
   rw [Int.toNat_natCast, hxe];refine ⟨by omega, ?_⟩;conv => whnf
   rw [ju, hv];refine ⟨oo, ?_⟩;conv => whnf
   refine ⟨_, cxF (jP p g g1 f X v (by omega) (by omega) (by omega) hf0), ?_⟩;conv => whnf
   refine ⟨_, cxF (zlo none (rem (X ^ v) f).l), ?_⟩;conv => whnf
   refine hK _ (W.cond ⟨fun h3 => ?_, fun h3 => ?_⟩) <;> clear hK K
   ·have h3 := (zaI (by omega)).1 (of_decide_eq_true h3);have hj2 := hdj hdv h3;clear fin;refine W.skip (hK7 _ (W.block ?_));clear hK7 K7;refine wrg ?_;conv => whnf
    refine ⟨oo, ?_⟩;conv => whnf
    rw [Int.toNat_natCast, hxe];refine ⟨by omega, ?_⟩;conv => whnf
    rw [ju, hv];refine ⟨oo, ?_⟩;conv => whnf
    exact zj ⟨j + 1, v, by omega, (hst hj2 h3).2, rfl, rfl⟩
   ·have h3 := fun h => of_decide_eq_false h3 ((zaI (by omega)).2 h);refine W.exit (fin (hno h3) _ (by dsimp only; omega) ?_);clear fin hK7 K7;exact cvr
  ·have e1 : decide (((e % x.1 : Nat) : Int) = 0) = false := decide_eq_false fun h => hdv (Nat.dvd_of_mod_eq_zero (by omega));rw [e1];conv => whnf
   refine ⟨rfl, ?_⟩;conv => whnf
   refine hK _ (W.cond ⟨fun h => absurd h (by decide), fun _ => W.exit (fin (hov hdv) _ (by dsimp only; omega) ?_)⟩);clear fin hK K hK7 K7;exact cvr
 ·obtain rfl : i = L.length := by omega
  obtain rfl := ho.unique (hO.fin hL);refine W.exit (hK1 _ ?_);clear hK7 K7 hK1 K1;refine wrs fun K hK => ?_;conv => whnf
  refine hK _ ?_;clear hK K;refine W.ret ?_;conv => whnf
  exact ⟨.v (.int .i64 e0), ⟨rfl, rfl⟩, trivial, rfl⟩


theorem zkr (g g' : Option Nat) (xs ys : List Int) (hl : xs.length <= 1000000000) : FnV 246 [.ints g xs, .ints g' ys] (.bool (decide (xs = ys))) := by
 refine ze (za [0, 1, 4, 5, 10, 14, 25]) Tryz.func246 rfl (by decide) Tryz.ntmps246 (Nat.le_of_ble_eq_true rfl) fun base => ?_;refine wrs fun K hK => ?_;conv => whnf
 refine hK _ ?_;clear hK K;refine W.seqK fun K1 hK1 => ?_;refine wrs fun K hK => ?_;conv => whnf
 refine hK _ (W.cond ⟨fun h => ?_, fun h => ?_⟩) <;> clear hK K
 ·have h := of_decide_eq_true h;refine wrs fun K hK => ?_;conv => whnf
  refine hK _ ?_;clear hK K;refine W.ret ?_;conv => whnf
  exact ⟨.v (.bool (decide (xs = ys))), (by show decide _ = false; exact decide_eq_false fun e => h (by rw [e])), trivial, rfl⟩
 have h := of_decide_eq_false h;have hlen : xs.length = ys.length := by omega
 refine W.skip (hK1 _ ?_);clear hK1 K1;refine W.seqK fun K1 hK1 => ?_;refine wrs fun K hK => ?_;conv => whnf
 refine hK _ (W.block (W.invA (fun m e => ∃ k : Nat, k <= xs.length ∧ (∀ j, j < k -> cf xs j = cf ys j) ∧ m = xs.length - k ∧ e = [(0, .v (.ints g xs)), (1, .v (.ints g' ys)), (5, .v (.int .i64 k))]) ⟨0, Nat.zero_le _, fun j hj => by omega, rfl, rfl⟩ ?_));clear hK K;rintro m e ⟨k, h1, h2, hm, rfl⟩;refine W.seqK fun K7 hK7 => wrs fun K hK => ?_;conv => whnf
 refine hK _ (W.cond ⟨fun h3 => ?_, fun h3 => ?_⟩) <;> clear hK K <;> (first | replace h3 := of_decide_eq_true h3 | replace h3 := of_decide_eq_false h3)
 ·refine W.skip (hK7 _ ?_);clear hK7 K7;refine W.seqK fun K8 hK8 => W.block ?_;refine W.rd (za _) follows (by rfl) fun K hK => ?_;conv => whnf
  refine ⟨oo, ?_⟩;conv => whnf
  refine ⟨oo, ?_⟩;conv => whnf
  rw [Int.toNat_natCast];refine hK _ (W.cond ⟨fun h4 => ?_, fun h4 => ?_⟩) <;> clear hK K
  ·have h4 : cf xs k ≠ cf ys k := of_decide_eq_true h4;refine wrs fun K hK => ?_;conv => whnf
   refine hK _ ?_;clear hK K;refine W.ret ?_;conv => whnf
   exact ⟨.v (.bool (decide (xs = ys))), (by show decide _ = false; exact decide_eq_false fun e => h4 (by rw [e])), trivial, rfl⟩
  ·have h4 : ¬ cf xs k ≠ cf ys k := of_decide_eq_false h4;refine W.skip (hK8 _ ?_);clear hK8 K8;refine wrg ?_;conv => whnf
   refine ⟨oo, ?_⟩;conv => whnf
   exact zj ⟨k + 1, by omega, fun j hj => by by_cases h9 : j = k; (subst h9; exact Classical.byContradiction h4); exact h2 j (by omega), rfl, rfl⟩
 ·obtain rfl : k = xs.length := by omega
  refine W.exit (hK1 _ ?_);clear hK7 K7 hK1 K1;obtain rfl : xs = ys := jq hlen fun j hj => h2 j hj;refine wrs fun K hK => ?_;conv => whnf
  refine hK _ ?_;clear hK K;refine W.ret ?_;conv => whnf
  exact ⟨.v (.bool (decide (xs = xs))), (by show decide _ = true; exact decide_eq_true rfl), trivial, rfl⟩

theorem ziH (g g' : Option Nat) (xs ys : List Int) (hl : xs.length <= 1000000000) : FnV 219 [.ints g xs, .ints g' ys] (.bool (decide (xs = ys))) := by
 refine ze (za [0, 1, 4, 5, 10, 12, 13, 14, 24]) Tryz.func219 rfl (by decide) Tryz.ntmps219 (Nat.le_of_ble_eq_true rfl) fun base => ?_;refine wrs fun K hK => ?_;conv => whnf
 refine hK _ ?_;clear hK K;refine W.seqK fun K1 hK1 => ?_;refine wrs fun K hK => ?_;conv => whnf
 refine hK _ (W.cond ⟨fun h => ?_, fun h => ?_⟩) <;> clear hK K
 ·have h := of_decide_eq_true h;refine wrs fun K hK => ?_;conv => whnf
  refine hK _ ?_;clear hK K;refine W.ret ?_;conv => whnf
  exact ⟨.v (.bool (decide (xs = ys))), (by show decide _ = false; exact decide_eq_false fun e => h (by rw [e])), trivial, rfl⟩
 have h := of_decide_eq_false h;have hlen : xs.length = ys.length := by omega
 refine W.skip (hK1 _ ?_);clear hK1 K1;refine W.seqK fun K1 hK1 => ?_;refine wrs fun K hK => ?_;conv => whnf
 refine hK _ (W.block (W.invA (fun m e => ∃ k : Nat, k <= xs.length ∧ (∀ j, j < k -> cf xs j = cf ys j) ∧ m = xs.length - k ∧ e = [(0, .v (.ints g xs)), (1, .v (.ints g' ys)), (12, .v (.int .i64 xs.length)), (13, .v (.int .i64 k))]) ⟨0, Nat.zero_le _, fun j hj => by omega, rfl, rfl⟩ ?_));clear hK K;rintro m e ⟨k, h1, h2, hm, rfl⟩;refine wrs fun K hK => ?_;conv => whnf
 refine hK _ ?_;clear hK K;refine W.seqK fun K7 hK7 => W.cond ⟨fun h3 => ?_, fun h3 => ?_⟩ <;> (first | replace h3 := of_decide_eq_true h3 | replace h3 := of_decide_eq_false h3)
 ·refine W.skip (hK7 _ ?_);clear hK7 K7;refine W.seqK fun K8 hK8 => W.block ?_;refine wrs fun K hK => ?_;conv => whnf
  refine hK _ ?_;clear hK K;refine W.rd (za _) follows (by rfl) fun K hK => ?_;conv => whnf
  refine ⟨oo, ?_⟩;conv => whnf
  refine ⟨oo, ?_⟩;conv => whnf
  rw [Int.toNat_natCast];refine hK _ (W.cond ⟨fun h4 => ?_, fun h4 => ?_⟩) <;> clear hK K
  ·have h4 : cf xs k ≠ cf ys k := of_decide_eq_true h4;refine wrs fun K hK => ?_;conv => whnf
   refine hK _ ?_;clear hK K;refine W.ret ?_;conv => whnf
   exact ⟨.v (.bool (decide (xs = ys))), (by show decide _ = false; exact decide_eq_false fun e => h4 (by rw [e])), trivial, rfl⟩
  ·have h4 : ¬ cf xs k ≠ cf ys k := of_decide_eq_false h4;refine W.skip (hK8 _ ?_);clear hK8 K8;refine wrg ?_;conv => whnf
   refine ⟨oo, ?_⟩;conv => whnf
   exact zj ⟨k + 1, by omega, fun j hj => by by_cases h9 : j = k; (subst h9; exact Classical.byContradiction h4); exact h2 j (by omega), rfl, rfl⟩
 ·obtain rfl : k = xs.length := by omega
  refine W.exit (hK1 _ ?_);clear hK7 K7 hK1 K1;obtain rfl : xs = ys := jq hlen fun j hj => h2 j hj;refine wrs fun K hK => ?_;conv => whnf
  refine hK _ ?_;clear hK K;refine W.ret ?_;conv => whnf
  exact ⟨.v (.bool (decide (xs = xs))), (by show decide _ = true; exact decide_eq_true rfl), trivial, rfl⟩

def xI {p : Int} [SP p] (f X : Poly p) : Prop := yF f X (p.toNat ^ (dg f - 1) - 1)
theorem xI.ne {p : Int} [SP p] {f X : Poly p} (hi : Irr f) (h : xI f X) : X ≠ 0 := zgV (h.ndvd hi)
theorem ze0 {p : Int} [SP p] {f X : Poly p} {d e0 : Nat} (hd : dg f = d + 1) (h : yF f X e0) : bP (xI f X) = decide (e0 = p.toNat ^ d - 1) := by
 have e1 : dg f - 1 = d := by omega
 unfold xI;rw [e1]
 by_cases h1 : e0 = p.toNat ^ d - 1
 ·rw [zh (h1 ▸ h), decide_eq_true h1]
 ·rw [zf fun h2 => h1 (h.unique h2), decide_eq_false h1]

theorem yD (p : Int) [SP p] (g g1 : Option Nat) (f X : Poly p) (hk : IsFld p f.l) (hi : Irr f) (hX : dg X < dg f) : FnV 230 [vK p g f.l, .ints g1 X.l] (.bool (bP (xI f X))) := by
 have hp := Pr.two (p := p);have hp2 := SP.le (p := p);have h9 := hk.mod.2.1;have hl2 := hk.two;have hfl : f.l.length = dg f := rfl;have hXl : X.l.length = dg X := rfl
 by_cases hX0 : X = 0
 ·have hX1 : dg X = 0 := zd.2 hX0;have e1 : decide (0 < (X.l.length : Int)) = false := decide_eq_false (by omega);refine ze (za [0, 1, 2, 4]) Tryz.func230 rfl (by decide) Tryz.ntmps230 (Nat.le_of_ble_eq_true rfl) fun base => ?_;refine wrs fun K hK => ?_;conv => whnf
  refine ⟨rfl, ?_⟩;conv => whnf
  intro b_1 hs_1 hh_1 hf_1;try dsimp only at hh_1 hf_1
  conv => whnf
  refine hK _ ?_;clear hK K;refine W.rd (za _) follows (by rfl) fun K hK => ?_;conv => whnf
  rw [e1];conv => whnf
  refine ⟨rfl, ?_⟩;conv => whnf
  refine hK _ ?_;clear hK K;refine W.ret ?_;conv => whnf
  exact ⟨.v (.bool (bP (xI f X))), (zf fun h => h.ne hi hX0).symm, trivial, rfl⟩
 have hX1 : dg X ≠ 0 := fun e => hX0 (zd.1 e);have e1 : decide (0 < (X.l.length : Int)) = true := decide_eq_true (by omega);obtain ⟨d, hd⟩ : ∃ d, dg f = d + 1 := ⟨dg f - 1, by omega⟩
 obtain ⟨hq1, hq2, hq3⟩ := zaX hk hd;obtain ⟨e0, he0⟩ := vW _ (by omega) (zbm hi (ym hX0 hX) hd);have hpi := ze0 hd he0;refine ze (za [0, 1, 2, 4]) Tryz.func230 rfl (by decide) Tryz.ntmps230 (Nat.le_of_ble_eq_true rfl) fun base => ?_;refine wrs fun K hK => ?_;conv => whnf
 refine ⟨rfl, ?_⟩;conv => whnf
 intro b_1 hs_1 hh_1 hf_1;try dsimp only at hh_1 hf_1
 conv => whnf
 refine hK _ ?_;clear hK K;refine W.rd (za _) follows (by rfl) fun K hK => ?_;conv => whnf
 rw [e1];conv => whnf
 refine ⟨_, cxF (zjL p g g1 f X hk hi hX0 hX e0 he0), ?_⟩;conv => whnf
 refine ⟨_, cxF (zas p g f.l (by omega) (by omega) (by omega) (by omega)), ?_⟩;conv => whnf
 rw [hq1];refine ⟨oo, ?_⟩;conv => whnf
 refine hK _ ?_;clear hK K;refine W.ret ?_;conv => whnf
 exact ⟨.v (.bool (bP (xI f X))), (by show decide _ = bP _; rw [hpi]; exact decide_eq_decide.2 ⟨fun h => by omega, fun h => by omega⟩), trivial, rfl⟩

theorem zfj (kp : Int) (kl x : List Int) (_ : inR kp) (hkl : kl.length <= 1048576) (hx : x.length <= 1048576) : ∃ (r0 : Bool) (r1 : Int),
  (∀ g0 g1 : Option Nat, FnV 87 [vK kp g0 kl, .ints g1 x] (.tup [.bool r0, .int .i64 r1])) ∧ (∀ g0 g1 : Option Nat, FnV 86 [vK kp g0 kl, .ints g1 x] (.tup [.bool r0, .int .i64 r1])) ∧ (∀ hp : kp ∈ zS, letI := yv hp; ∀ f X : Poly kp, f.l = kl -> X.l = x -> jw kp kl x = 0 -> r1 = 0 ∧ r0 = bP (xI f X)) := by
 generalize hc : jw kp kl x = c
 by_cases h0 : c = 0
 case neg =>
  refine ⟨false, c, fun g0 g1 => ?_, fun g0 g1 => ?_, fun _ _ _ _ _ h => absurd h h0⟩
  ·refine ze (za [0, 1, 2, 4, 5, 6, 12]) Tryz.func87 rfl (by decide) Tryz.ntmps87 (Nat.le_of_ble_eq_true rfl) fun base => ?_;refine wrs fun K hK => ?_;conv => whnf
   refine ⟨rfl, ?_⟩;conv => whnf
   intro b_1 hs_1 hh_1 hf_1;try dsimp only at hh_1 hf_1
   conv => whnf
   refine hK _ ?_;clear hK K;refine wrs fun K hK => ?_;conv => whnf
   refine zc rfl (z7 kp g0 g1 g1 kl x (by omega) (by omega)) fun hs' hhs => ?_;try dsimp only at hhs
   conv => whnf
   rw [hc];refine hK _ ?_;clear hK K;refine W.seqK fun K1 hK1 => ?_;refine wrs fun K hK => ?_;conv => whnf
   refine hK _ (W.cond ⟨fun _ => ?_, fun hcc => absurd h0 (of_decide_eq_false hcc)⟩);clear hK K;refine wrs fun K hK => ?_;conv => whnf
   refine hK _ ?_;clear hK K;refine W.ret ?_;conv => whnf
   exact ⟨.v (.bool false), rfl, trivial, .v (.int .i64 c), ⟨rfl, rfl⟩, trivial, rfl⟩
  ·refine ze (za [0, 1, 2, 4, 5, 6, 12]) Tryz.func86 rfl (by decide) Tryz.ntmps86 (Nat.le_of_ble_eq_true rfl) fun base => ?_;refine wrs fun K hK => ?_;conv => whnf
   refine ⟨rfl, ?_⟩;conv => whnf
   intro b_1 hs_1 hh_1 hf_1;try dsimp only at hh_1 hf_1
   conv => whnf
   refine hK _ ?_;clear hK K;refine W.seqK fun K1 hK1 => ?_;refine wrs fun K hK => ?_;conv => whnf
   refine ⟨⟨rfl, by decide, fun x hx => (by simp at hx; subst hx; exact ⟨rfl, rfl⟩)⟩, ?_⟩;conv => whnf
   intro b_2 hs_2 hh_2 hf_2;try dsimp only at hh_2 hf_2
   conv => whnf
   refine zc rfl (yH kp g0 (some b_2) kl 1 _ (fun _ => x) (by omega) (by omega) (zfi g1 x)) fun hs' hhs => ?_;try dsimp only at hhs
   conv => whnf
   rw [show zq kp kl true 1 (fun _ => x) = c from hc];refine hK _ ?_;clear hK K;refine wrs fun K hK => ?_;conv => whnf
   refine hK _ (W.cond ⟨fun _ => ?_, fun hcc => absurd h0 (of_decide_eq_false hcc)⟩);clear hK K;refine wrs fun K hK => ?_;conv => whnf
   refine hK _ ?_;clear hK K;refine W.ret ?_;conv => whnf
   exact ⟨.v (.bool false), rfl, trivial, .v (.int .i64 c), ⟨rfl, rfl⟩, trivial, rfl⟩
 subst h0;obtain ⟨hk, hh⟩ := zeY hc;obtain ⟨hp, f, rfl, hfi, _, _, hf9⟩ := vE hk;letI := yv hp;obtain ⟨X, rfl⟩ := jv hh.1;have hxl : X.l.length < f.l.length := hh.2;have hfl : f.l.length = dg f := rfl;have hXl : X.l.length = dg X := rfl;have hf0 := hfi.ne;have hp1 := yq hp;refine ⟨bP (xI f X), 0, fun g0 g1 => ?_, fun g0 g1 => ?_, fun _ φ Y e1 e2 _ => (by obtain rfl := vR e1; obtain rfl := vR e2; exact ⟨rfl, rfl⟩)⟩
 ·by_cases hX0 : X = 0
  ·have hX1 : dg X = 0 := zd.2 hX0;have e1 : decide (0 < (X.l.length : Int)) = false := decide_eq_false (by omega);refine ze (za [0, 1, 2, 4, 5, 6, 12]) Tryz.func87 rfl (by decide) Tryz.ntmps87 (Nat.le_of_ble_eq_true rfl) fun base => ?_;refine wrs fun K hK => ?_;conv => whnf
   refine ⟨rfl, ?_⟩;conv => whnf
   intro b_1 hs_1 hh_1 hf_1;try dsimp only at hh_1 hf_1
   conv => whnf
   refine hK _ ?_;clear hK K;refine wrs fun K hK => ?_;conv => whnf
   refine zc rfl (z7 kp g0 g1 g1 f.l X.l (by omega) (by omega)) fun hs' hhs => ?_;try dsimp only at hhs
   conv => whnf
   rw [hc];refine hK _ ?_;clear hK K;refine W.seqK fun K1 hK1 => ?_;refine wrs fun K hK => ?_;conv => whnf
   refine hK _ (W.cond ⟨fun hcc => absurd rfl (of_decide_eq_true hcc), fun _ => W.skip (hK1 _ ?_)⟩);clear hK K hK1 K1;refine W.rd (za _) follows (by rfl) fun K hK => ?_;conv => whnf
   rw [e1];conv => whnf
   refine ⟨rfl, ?_⟩;conv => whnf
   refine hK _ ?_;clear hK K;refine W.ret ?_;conv => whnf
   exact ⟨.v (.bool (bP (xI f X))), (zf fun h => h.ne hfi hX0).symm, trivial, .v (.int .i64 0), ⟨rfl, rfl⟩, trivial, rfl⟩
  have hX1 : dg X ≠ 0 := fun e => hX0 (zd.1 e);have e1 : decide (0 < (X.l.length : Int)) = true := decide_eq_true (by omega);obtain ⟨d, hd⟩ : ∃ d, dg f = d + 1 := ⟨dg f - 1, by omega⟩
  obtain ⟨hq1, hq2, hq3⟩ := zaX hk hd;obtain ⟨e0, he0⟩ := vW _ (by omega) (zbm hfi (ym hX0 hxl) hd);have hpi := ze0 hd he0;refine ze (za [0, 1, 2, 4, 5, 6, 12]) Tryz.func87 rfl (by decide) Tryz.ntmps87 (Nat.le_of_ble_eq_true rfl) fun base => ?_;refine wrs fun K hK => ?_;conv => whnf
  refine ⟨rfl, ?_⟩;conv => whnf
  intro b_1 hs_1 hh_1 hf_1;try dsimp only at hh_1 hf_1
  conv => whnf
  refine hK _ ?_;clear hK K;refine wrs fun K hK => ?_;conv => whnf
  refine zc rfl (z7 kp g0 g1 g1 f.l X.l (by omega) (by omega)) fun hs' hhs => ?_;try dsimp only at hhs
  conv => whnf
  rw [hc];refine hK _ ?_;clear hK K;refine W.seqK fun K1 hK1 => ?_;refine wrs fun K hK => ?_;conv => whnf
  refine hK _ (W.cond ⟨fun hcc => absurd rfl (of_decide_eq_true hcc), fun _ => W.skip (hK1 _ ?_)⟩);clear hK K hK1 K1;refine W.rd (za _) follows (by rfl) fun K hK => ?_;conv => whnf
  rw [e1];conv => whnf
  refine ⟨_, cxF (xC kp g0 g1 f X hk hfi hX0 hxl e0 he0), ?_⟩;conv => whnf
  refine ⟨_, cxF (yb kp g0 f.l hk), ?_⟩;conv => whnf
  rw [hq1];refine ⟨oo, ?_⟩;conv => whnf
  refine hK _ ?_;clear hK K;refine W.ret ?_;conv => whnf
  exact ⟨.v (.bool (bP (xI f X))), (by show decide _ = bP _; rw [hpi]; exact decide_eq_decide.2 ⟨fun h => by omega, fun h => by omega⟩), trivial, .v (.int .i64 0), ⟨rfl, rfl⟩, trivial, rfl⟩
 ·refine ze (za [0, 1, 2, 4, 5, 6, 12]) Tryz.func86 rfl (by decide) Tryz.ntmps86 (Nat.le_of_ble_eq_true rfl) fun base => ?_;refine wrs fun K hK => ?_;conv => whnf
  refine ⟨rfl, ?_⟩;conv => whnf
  intro b_1 hs_1 hh_1 hf_1;try dsimp only at hh_1 hf_1
  conv => whnf
  refine hK _ ?_;clear hK K;refine W.seqK fun K1 hK1 => ?_;refine wrs fun K hK => ?_;conv => whnf
  refine ⟨⟨rfl, by decide, fun x hx => (by simp at hx; subst hx; exact ⟨rfl, rfl⟩)⟩, ?_⟩;conv => whnf
  intro b_2 hs_2 hh_2 hf_2;try dsimp only at hh_2 hf_2
  conv => whnf
  refine zc rfl (yH kp g0 (some b_2) f.l 1 _ (fun _ => X.l) (by omega) (by omega) (zfi g1 X.l)) fun hs' hhs => ?_;try dsimp only at hhs
  conv => whnf
  rw [show zq kp f.l true 1 (fun _ => X.l) = 0 from hc];refine hK _ ?_;clear hK K;refine wrs fun K hK => ?_;conv => whnf
  refine hK _ (W.cond ⟨fun hcc => absurd rfl (of_decide_eq_true hcc), fun _ => W.skip (hK1 _ ?_)⟩);clear hK K hK1 K1;refine wrs fun K hK => ?_;conv => whnf
  refine zc rfl (yD kp g0 g1 f X hk hfi hxl) fun hs' hhs => ?_;try dsimp only at hhs
  conv => whnf
  refine hK _ ?_;clear hK K;refine W.ret ?_;conv => whnf
  exact ⟨.v (.bool (bP (xI f X))), rfl, trivial, .v (.int .i64 0), ⟨rfl, rfl⟩, trivial, rfl⟩

theorem zcM (kp : Int) (kl x : List Int) (a1 : inR kp) (a2 : kl.length <= 1048576) (a3 : x.length <= 1048576) : ∃ (r0 : Bool) (r1 : Int),
  (∀ g0 g1 : Option Nat, FnV 87 [vK kp g0 kl, .ints g1 x] (.tup [.bool r0, .int .i64 r1])) ∧ (∀ g0 g1 : Option Nat, FnV 86 [vK kp g0 kl, .ints g1 x] (.tup [.bool r0, .int .i64 r1])) := by
 obtain ⟨r0, r1, h1, h2, _⟩ := zfj kp kl x a1 a2 a3;exact ⟨r0, r1, h1, h2⟩



theorem zhf {p : Int} [SP p] {f : Poly p} (hk : IsFld p f.l) (hi : Irr f) : ∃ n, 1 <= n ∧ n < p.toNat ^ (dg f - 1) ∧ xI f (zN p n) ∧ ∀ k, 1 <= k -> k < n -> ¬ xI f (zN p k) := by
 obtain ⟨d, hd⟩ : ∃ d, dg f = d + 1 := ⟨dg f - 1, by have := hi.1; omega⟩
 obtain ⟨hq1, hq2, hq3⟩ := zaX hk hd;obtain ⟨z, hz⟩ := zis hi hd (zgY (n := p.toNat ^ d - 1) (by omega)).fac (by omega);have hz2 := (zld hi.1).2 hz;have h0 := zgV (hz2.ndvd hi);have h1 := zM z hi.ne;have e1 : dg f - 1 = d := by omega
 obtain ⟨r, hr⟩ := v3 (fun n => xI f (zN p n)) 1 (p.toNat ^ (dg f - 1));cases r with
 | none =>
  refine absurd ?_ (hr (nm (rem z f)) (zmH h0) (znZ _ (by omega)));show xI f (zN p (nm (rem z f)))
  rw [zio]; unfold xI; rw [e1]; exact hz2
 | some m => exact ⟨m, hr⟩

theorem ze1 {p : Int} [SP p] {f G X : Poly p} (hi : Irr f) (hG : xI f G) (hX0 : X ≠ 0) (hX : dg X < dg f) : ∃ n, n < p.toNat ^ (dg f - 1) - 1 ∧ rem (G ^ n) f = X ∧ ∀ k, k < n -> rem (G ^ k) f ≠ X := by
 obtain ⟨d, hd⟩ : ∃ d, dg f = d + 1 := ⟨dg f - 1, by have := hi.1; omega⟩
 have e1 : dg f - 1 = d := by omega
 unfold xI at hG;rw [e1] at hG ⊢;obtain ⟨e, he1, he2⟩ := zjz hi hd hG hX0 (by omega);obtain ⟨r, hr⟩ := v3 (fun n => rem (G ^ n) f = X) 0 (p.toNat ^ d - 1);cases r with
 | none => exact absurd he2.symm (hr e (Nat.zero_le _) he1)
 | some m => exact ⟨m, hr.2.1, hr.2.2.1, fun k hk => hr.2.2.2 k (Nat.zero_le _) hk⟩

theorem zga (p : Int) [SP p] (g g1 g2 : Option Nat) (f G X : Poly p) (h9 : dg f <= 9) (hi : Irr f) (hG : dg G < dg f) (hX : dg X < dg f) (n : Nat) (hn : n <= 1000000) (h1 : rem (G ^ n) f = X) (h2 : ∀ k, k < n -> rem (G ^ k) f ≠ X) : FnV 233 [vK p g f.l, .ints g1 G.l, .ints g2 X.l] (.int .i64 n) := by
 have hf0 := hi.ne;have hXl : X.l.length = dg X := rfl;have hR := fun k : Nat => zM (G ^ k) hf0;have e0 : rem (G ^ 0) f = 1 := v6 (by rw [zt, yl]; have := hi.1; omega);refine ze (za [0, 1, 2, 3, 6, 7, 8, 13]) Tryz.func233 rfl (by decide) Tryz.ntmps233 (Nat.le_of_ble_eq_true rfl) fun base => ?_;refine wrs fun K hK => ?_;conv => whnf
 refine ⟨rfl, ?_⟩;conv => whnf
 intro b_1 hs_1 hh_1 hf_1;try dsimp only at hh_1 hf_1
 conv => whnf
 refine hK _ ?_;clear hK K;refine wrs fun K hK => ?_;conv => whnf
 refine hK _ ?_;clear hK K;refine W.seqK fun K1 hK1 => ?_;refine wrs fun K hK => ?_;conv => whnf
 refine ⟨⟨rfl, by decide⟩, ?_⟩;conv => whnf
 intro b_2 hs_2 hh_2 hf_2;try dsimp only at hh_2 hf_2
 conv => whnf
 refine hK _ (W.block (W.invA (fun m e => ∃ (k : Nat) (s : List Int), k <= n ∧ s = (rem (G ^ k) f).l ∧ m = n - k ∧ e = [(1, .v (.ints g1 G.l)), (2, .v (.ints g2 X.l)), (3, .ownB b_1 (vK p g f.l)), (7, .v (.int .i64 k)), (8, .v (.ints none s))]) ⟨0, [1], Nat.zero_le _, by rw [e0, zaT], rfl, rfl⟩ ?_));clear hK K;rintro m e ⟨k, s, hk, rfl, hm, rfl⟩;have hRk := hR k;have hRl : (rem (G ^ k) f).l.length = dg (rem (G ^ k) f) := rfl;refine W.seqK fun K7 hK7 => ?_;refine wrs fun K hK => ?_;conv => whnf
 by_cases he : rem (G ^ k) f = X
 ·obtain rfl : k = n := Classical.byContradiction fun h3 => h2 k (by omega) he;refine zc rfl ((zkr none g2 (rem (G ^ k) f).l X.l (by omega)).tr (decide_eq_true (by rw [he]))) fun hs' hhs => ?_;try dsimp only at hhs
  conv => whnf
  refine hK _ (W.condF rfl (W.exit (hK1 _ ?_)));clear hK K hK7 K7 hK1 K1;refine wrs fun K hK => ?_;conv => whnf
  refine hK _ ?_;clear hK K;refine W.ret ?_;conv => whnf
  exact ⟨.v (.int .i64 k), ⟨rfl, rfl⟩, trivial, rfl⟩
 ·have hne : k ≠ n := fun h3 => he (h3 ▸ h1);have e2 : rem (rem (G ^ k) f * G) f = rem (G ^ (k + 1)) f := by rw [z3 hf0, pow_succ']
  refine zc rfl ((zkr none g2 (rem (G ^ k) f).l X.l (by omega)).fa (decide_eq_false fun h3 => he (vR h3))) fun hs' hhs => ?_;try dsimp only at hhs
  conv => whnf
  refine hK _ (W.condT rfl (W.skip (hK7 _ ?_)));clear hK K hK7 K7;refine W.seqK fun K8 hK8 => W.block ?_;refine wrg ?_;conv => whnf
  refine ⟨oo, ?_⟩;conv => whnf
  refine hK8 _ ?_;clear hK8 K8;refine wrg ?_;conv => whnf
  refine zc rfl (zeW p g none g1 f (rem (G ^ k) f) G (by omega) (by omega) (by omega) hf0) fun hs' hhs => ?_;try dsimp only at hhs
  conv => whnf
  rw [e2];exact zj ⟨k + 1, _, by omega, rfl, rfl, rfl⟩

theorem zb8 (p : Int) [SP p] (g g1 g2 : Option Nat) (f G X : Poly p) (h9 : dg f <= 9) (hi : Irr f) (hG : dg G < dg f) (hX : dg X < dg f) (n : Nat) (hn : n <= 1000000) (h1 : rem (G ^ n) f = X) (h2 : ∀ k, k < n -> rem (G ^ k) f ≠ X) : FnV 231 [vK p g f.l, .ints g1 G.l, .ints g2 X.l] (.int .i64 n) := by
 have hf0 := hi.ne;have hXl : X.l.length = dg X := rfl;have hR := fun k : Nat => zM (G ^ k) hf0;have e0 : rem (G ^ 0) f = 1 := v6 (by rw [zt, yl]; have := hi.1; omega);refine ze (za [0, 1, 2, 3, 6, 7, 8, 13]) Tryz.func231 rfl (by decide) Tryz.ntmps231 (Nat.le_of_ble_eq_true rfl) fun base => ?_;refine wrs fun K hK => ?_;conv => whnf
 refine ⟨rfl, ?_⟩;conv => whnf
 intro b_1 hs_1 hh_1 hf_1;try dsimp only at hh_1 hf_1
 conv => whnf
 refine hK _ ?_;clear hK K;refine wrs fun K hK => ?_;conv => whnf
 refine hK _ ?_;clear hK K;refine W.seqK fun K1 hK1 => ?_;refine wrs fun K hK => ?_;conv => whnf
 refine ⟨⟨rfl, by decide⟩, ?_⟩;conv => whnf
 intro b_2 hs_2 hh_2 hf_2;try dsimp only at hh_2 hf_2
 conv => whnf
 refine hK _ (W.block (W.invA (fun m e => ∃ (k : Nat) (s : List Int), k <= n ∧ s = (rem (G ^ k) f).l ∧ m = n - k ∧ e = [(1, .v (.ints g1 G.l)), (2, .v (.ints g2 X.l)), (3, .ownB b_1 (vK p g f.l)), (7, .v (.int .i64 k)), (8, .v (.ints none s))]) ⟨0, [1], Nat.zero_le _, by rw [e0, zaT], rfl, rfl⟩ ?_));clear hK K;rintro m e ⟨k, s, hk, rfl, hm, rfl⟩;have hRk := hR k;have hRl : (rem (G ^ k) f).l.length = dg (rem (G ^ k) f) := rfl;refine W.seqK fun K7 hK7 => ?_;refine wrs fun K hK => ?_;conv => whnf
 by_cases he : rem (G ^ k) f = X
 ·obtain rfl : k = n := Classical.byContradiction fun h3 => h2 k (by omega) he;refine zc rfl ((ziH none g2 (rem (G ^ k) f).l X.l (by omega)).tr (decide_eq_true (by rw [he]))) fun hs' hhs => ?_;try dsimp only at hhs
  conv => whnf
  refine hK _ (W.condF rfl (W.exit (hK1 _ ?_)));clear hK K hK7 K7 hK1 K1;refine wrs fun K hK => ?_;conv => whnf
  refine hK _ ?_;clear hK K;refine W.ret ?_;conv => whnf
  exact ⟨.v (.int .i64 k), ⟨rfl, rfl⟩, trivial, rfl⟩
 ·have hne : k ≠ n := fun h3 => he (h3 ▸ h1);have e2 : rem (rem (G ^ k) f * G) f = rem (G ^ (k + 1)) f := by rw [z3 hf0, pow_succ']
  refine zc rfl ((ziH none g2 (rem (G ^ k) f).l X.l (by omega)).fa (decide_eq_false fun h3 => he (vR h3))) fun hs' hhs => ?_;try dsimp only at hhs
  conv => whnf
  refine hK _ (W.condT rfl (W.skip (hK7 _ ?_)));clear hK K hK7 K7;refine W.seqK fun K8 hK8 => W.block ?_;refine wrg ?_;conv => whnf
  refine ⟨oo, ?_⟩;conv => whnf
  refine hK8 _ ?_;clear hK8 K8;refine wrg ?_;conv => whnf
  refine zc rfl (zln p g none g1 f (rem (G ^ k) f) G (by omega) (by omega) (by omega) hf0) fun hs' hhs => ?_;try dsimp only at hhs
  conv => whnf
  rw [e2];exact zj ⟨k + 1, _, by omega, rfl, rfl, rfl⟩

noncomputable def z8 {p : Int} [SP p] (f G X : Poly p) : Int := bif bP (G ≠ 0 ∧ X ≠ 0 ∧ xI f G) then 0 else 5

theorem ziI (p : Int) (g g1 g2 : Option Nat) (l x y : List Int) (hl : l.length <= 1000000000) (hx : x.length <= 1000000000) (hy : y.length <= 1000000000) (h0 : zq p l true 2 (two x y) ≠ 0) : FnV 232 [vK p g l, .ints g1 x, .ints g2 y] (.int .i64 (zq p l true 2 (two x y))) := by
 generalize hc : zq p l true 2 (two x y) = c at h0;have e1 : decide (c = 0) = false := decide_eq_false h0;refine ze (za [0, 1, 2, 3, 6, 7, 32]) Tryz.func232 rfl (by decide) Tryz.ntmps232 (Nat.le_of_ble_eq_true rfl) fun base => ?_;refine wrs fun K hK => ?_;conv => whnf
 refine ⟨rfl, ?_⟩;conv => whnf
 intro b_1 hs_1 hh_1 hf_1;try dsimp only at hh_1 hf_1
 conv => whnf
 refine hK _ ?_;clear hK K;refine wrs fun K hK => ?_;conv => whnf
 refine zc rfl (xB p g g1 g2 l x y hl hx hy) fun hs' hhs => ?_;try dsimp only at hhs
 conv => whnf
 rw [hc];refine hK _ ?_;clear hK K;refine W.seqK fun K1 hK1 => ?_;refine W.rd (za _) follows (by rfl) fun K hK => ?_;conv => whnf
 rw [e1];conv => whnf
 refine ⟨rfl, ?_⟩;conv => whnf
 refine hK _ (W.cond ⟨fun h => absurd h (by decide), fun _ => W.skip (hK1 _ ?_)⟩);clear hK K hK1 K1;refine wrs fun K hK => ?_;conv => whnf
 refine hK _ ?_;clear hK K;refine W.ret ?_;conv => whnf
 exact ⟨.v (.int .i64 c), ⟨rfl, rfl⟩, trivial, rfl⟩

theorem jz (p : Int) [SP p] (g g1 g2 : Option Nat) (f G X : Poly p) (hk : IsFld p f.l) (hi : Irr f) (hG : dg G < dg f) (hX : dg X < dg f) (hc : zq p f.l true 2 (two G.l X.l) = 0) : FnV 232 [vK p g f.l, .ints g1 G.l, .ints g2 X.l] (.int .i64 (z8 f G X)) := by
 have hGl : G.l.length = dg G := rfl;have hXl : X.l.length = dg X := rfl;have e0 : decide ((0 : Int) = 0) = true := by decide
 have hp := Pr.two (p := p);have hp2 := SP.le (p := p);have h9 := hk.mod.2.1;have hl2 := hk.two;have hfl : f.l.length = dg f := rfl;have hf0 := hi.ne;obtain ⟨d, hd⟩ : ∃ d, dg f = d + 1 := ⟨dg f - 1, by omega⟩
 obtain ⟨hq1, hq2, hq3⟩ := zaX hk hd;have hpd : ∀ {k : Nat}, k < p.toNat ^ d -> dg (zN p k) < dg f := fun {k} h => by have := zeD (p := p) h; omega
 have hnl : ∀ k : Nat, dig p.toNat k = (zN p k).l := fun k => (kK k).symm;have hfm : ∀ {X : Poly p}, X ≠ 0 -> dg X < dg f -> One f X (p.toNat ^ d - 1) := fun h h' => zbm hi (ym h h') hd;have hpi : ∀ {X : Poly p} {e0 : Nat}, yF f X e0 -> bP (xI f X) = decide (e0 = p.toNat ^ d - 1) := fun h => ze0 hd h
 by_cases hG0 : G = 0
 ·have hG1 : dg G = 0 := zd.2 hG0;have e1 : decide ((G.l.length : Int) = 0) = true := decide_eq_true (by omega);refine ze (za [0, 1, 2, 3, 6, 7, 32]) Tryz.func232 rfl (by decide) Tryz.ntmps232 (Nat.le_of_ble_eq_true rfl) fun base => ?_;refine wrs fun K hK => ?_;conv => whnf
  refine ⟨rfl, ?_⟩;conv => whnf
  intro b_1 hs_1 hh_1 hf_1;try dsimp only at hh_1 hf_1
  conv => whnf
  refine hK _ ?_;clear hK K;refine wrs fun K hK => ?_;conv => whnf
  refine zc rfl (xB p g g1 g2 f.l G.l X.l (by omega) (by omega) (by omega)) fun hs' hhs => ?_;try dsimp only at hhs
  conv => whnf
  rw [hc];refine hK _ ?_;clear hK K;refine W.seqK fun K1 hK1 => ?_;refine W.rd (za _) follows (by rfl) fun K hK => ?_;conv => whnf
  rw [e0];conv => whnf
  rw [e1];conv => whnf
  refine ⟨rfl, ?_⟩;conv => whnf
  refine ⟨rfl, ?_⟩;conv => whnf
  refine hK _ (W.cond ⟨fun _ => ?_, fun h => absurd h (by decide)⟩);clear hK K;refine wrg ?_;conv => whnf
  refine hK1 _ ?_;clear hK1 K1;refine wrs fun K hK => ?_;conv => whnf
  refine hK _ ?_;clear hK K;refine W.ret ?_;conv => whnf
  exact ⟨.v (.int .i64 (z8 f G X)), ⟨rfl, by unfold z8; rw [zf fun h => h.1 hG0]; rfl⟩, trivial, rfl⟩
 have hG1 : dg G ≠ 0 := fun e => hG0 (zd.1 e);have e1 : decide ((G.l.length : Int) = 0) = false := decide_eq_false (by omega)
 by_cases hX0 : X = 0
 ·have hX1 : dg X = 0 := zd.2 hX0;have e2 : decide ((X.l.length : Int) = 0) = true := decide_eq_true (by omega);refine ze (za [0, 1, 2, 3, 6, 7, 32]) Tryz.func232 rfl (by decide) Tryz.ntmps232 (Nat.le_of_ble_eq_true rfl) fun base => ?_;refine wrs fun K hK => ?_;conv => whnf
  refine ⟨rfl, ?_⟩;conv => whnf
  intro b_1 hs_1 hh_1 hf_1;try dsimp only at hh_1 hf_1
  conv => whnf
  refine hK _ ?_;clear hK K;refine wrs fun K hK => ?_;conv => whnf
  refine zc rfl (xB p g g1 g2 f.l G.l X.l (by omega) (by omega) (by omega)) fun hs' hhs => ?_;try dsimp only at hhs
  conv => whnf
  rw [hc];refine hK _ ?_;clear hK K;refine W.seqK fun K1 hK1 => ?_;refine W.rd (za _) follows (by rfl) fun K hK => ?_;conv => whnf
  rw [e0];conv => whnf
  rw [e1];conv => whnf
  rw [e2];conv => whnf
  refine ⟨rfl, ?_⟩;conv => whnf
  refine hK _ (W.cond ⟨fun _ => ?_, fun h => absurd h (by decide)⟩);clear hK K;refine wrg ?_;conv => whnf
  refine hK1 _ ?_;clear hK1 K1;refine wrs fun K hK => ?_;conv => whnf
  refine hK _ ?_;clear hK K;refine W.ret ?_;conv => whnf
  exact ⟨.v (.int .i64 (z8 f G X)), ⟨rfl, by unfold z8; rw [zf fun h => h.2.1 hX0]; rfl⟩, trivial, rfl⟩
 have hX1 : dg X ≠ 0 := fun e => hX0 (zd.1 e);have e2 : decide ((X.l.length : Int) = 0) = false := decide_eq_false (by omega);obtain ⟨e3, he3⟩ := vW _ (by omega) (hfm hG0 hG);have hpg := hpi he3;refine ze (za [0, 1, 2, 3, 6, 7, 32]) Tryz.func232 rfl (by decide) Tryz.ntmps232 (Nat.le_of_ble_eq_true rfl) fun base => ?_;refine wrs fun K hK => ?_;conv => whnf
 refine ⟨rfl, ?_⟩;conv => whnf
 intro b_1 hs_1 hh_1 hf_1;try dsimp only at hh_1 hf_1
 conv => whnf
 refine hK _ ?_;clear hK K;refine wrs fun K hK => ?_;conv => whnf
 refine zc rfl (xB p g g1 g2 f.l G.l X.l (by omega) (by omega) (by omega)) fun hs' hhs => ?_;try dsimp only at hhs
 conv => whnf
 rw [hc];refine hK _ ?_;clear hK K;refine W.seqK fun K1 hK1 => ?_;refine W.rd (za _) follows (by rfl) fun K hK => ?_;conv => whnf
 rw [e0];conv => whnf
 rw [e1];conv => whnf
 rw [e2];conv => whnf
 refine ⟨_, cxF (xC p g g1 f G hk hi hG0 hG e3 he3), ?_⟩;conv => whnf
 refine ⟨_, cxF (yb p g f.l hk), ?_⟩;conv => whnf
 rw [hq1];refine ⟨oo, ?_⟩;conv => whnf
 refine hK _ (W.cond ⟨fun h => ?_, fun h => ?_⟩) <;> clear hK K
 ·have h : (e3 : Int) ≠ ((p.toNat ^ d : Nat) : Int) - 1 := of_decide_eq_true h
  have hnp : ¬ xI f G := fun hp => by
   rw [zh hp] at hpg;have := of_decide_eq_true hpg.symm;omega
  refine wrg ?_;conv => whnf
  refine hK1 _ ?_;clear hK1 K1;refine wrs fun K hK => ?_;conv => whnf
  refine hK _ ?_;clear hK K;refine W.ret ?_;conv => whnf
  exact ⟨.v (.int .i64 (z8 f G X)), ⟨rfl, by unfold z8; rw [zf fun h => hnp h.2.2]; rfl⟩, trivial, rfl⟩
 ·have h : ¬ (e3 : Int) ≠ ((p.toNat ^ d : Nat) : Int) - 1 := of_decide_eq_false h
  have hnp : xI f G := Classical.byContradiction fun hp => by
   rw [zf hp] at hpg;have := of_decide_eq_false hpg.symm;omega
  refine W.skip (hK1 _ ?_);clear hK1 K1;refine wrs fun K hK => ?_;conv => whnf
  refine hK _ ?_;clear hK K;refine W.ret ?_;conv => whnf
  exact ⟨.v (.int .i64 (z8 f G X)), ⟨rfl, by unfold z8; rw [zh ⟨hG0, hX0, hnp⟩]; rfl⟩, trivial, rfl⟩

theorem zfk (kp : Int) (kl y x : List Int) (_ : inR kp) (hkl : kl.length <= 1048576) (hy : y.length <= 1048576) (hx : x.length <= 1048576) : ∃ r0 r1 : Int,
  (∀ g0 g1 g2 : Option Nat, FnV 81 [vK kp g0 kl, .ints g1 y, .ints g2 x] (.tup [.int .i64 r0, .int .i64 r1])) ∧ (∀ g0 g1 g2 : Option Nat, FnV 80 [vK kp g0 kl, .ints g1 y, .ints g2 x] (.tup [.int .i64 r0, .int .i64 r1])) ∧ (r1 = 0 -> ∃ hp : kp ∈ zS, letI := yv hp; ∃ f Y X : Poly kp, f.l = kl ∧ Y.l = y ∧ X.l = x ∧ IsFld kp kl ∧ dg Y < dg f ∧ dg X < dg f ∧ ∃ n : Nat, r0 = n ∧ (n : Int) < kp ^ (kl.length - 1) - 1 ∧ rem (Y ^ n) f = X) := by
 generalize hc : zq kp kl true 2 (two y x) = c
 by_cases h0 : c = 0
 case neg =>
  refine ⟨0, c, fun g0 g1 g2 => ?_, fun g0 g1 g2 => ?_, fun h => absurd h h0⟩
  ·refine ze (za [0, 1, 2, 3, 6, 7, 8, 14]) Tryz.func81 rfl (by decide) Tryz.ntmps81 (Nat.le_of_ble_eq_true rfl) fun base => ?_;refine wrs fun K hK => ?_;conv => whnf
   refine ⟨rfl, ?_⟩;conv => whnf
   intro b_1 hs_1 hh_1 hf_1;try dsimp only at hh_1 hf_1
   conv => whnf
   refine hK _ ?_;clear hK K;refine wrs fun K hK => ?_;conv => whnf
   refine zc rfl (ziI kp g0 g1 g2 kl y x (by omega) (by omega) (by omega) (by rw [hc]; exact h0)) fun hs' hhs => ?_;try dsimp only at hhs
   conv => whnf
   rw [hc];refine hK _ ?_;clear hK K;refine W.seqK fun K1 hK1 => ?_;refine wrs fun K hK => ?_;conv => whnf
   refine hK _ (W.cond ⟨fun _ => ?_, fun hcc => absurd h0 (of_decide_eq_false hcc)⟩);clear hK K;refine wrs fun K hK => ?_;conv => whnf
   refine hK _ ?_;clear hK K;refine W.ret ?_;conv => whnf
   exact ⟨.v (.int .i64 0), ⟨rfl, rfl⟩, trivial, .v (.int .i64 c), ⟨rfl, rfl⟩, trivial, rfl⟩
  ·refine ze (za [0, 1, 2, 3, 6, 7, 8, 15, 25]) Tryz.func80 rfl (by decide) Tryz.ntmps80 (Nat.le_of_ble_eq_true rfl) fun base => ?_;refine wrs fun K hK => ?_;conv => whnf
   refine ⟨rfl, ?_⟩;conv => whnf
   intro b_1 hs_1 hh_1 hf_1;try dsimp only at hh_1 hf_1
   conv => whnf
   refine hK _ ?_;clear hK K;refine W.seqK fun K1 hK1 => ?_;refine wrs fun K hK => ?_;conv => whnf
   refine ⟨⟨rfl, by decide, fun x hx => (by simp at hx; rcases hx with rfl | rfl <;> exact ⟨rfl, rfl⟩)⟩, ?_⟩;conv => whnf
   intro b_2 hs_2 hh_2 hf_2;try dsimp only at hh_2 hf_2
   conv => whnf
   refine zc rfl (yH kp g0 (some b_2) kl 2 _ (two y x) (by omega) (by omega) (zm1 g1 g2 y x)) fun hs' hhs => ?_;try dsimp only at hhs
   conv => whnf
   rw [hc];refine hK _ ?_;clear hK K;refine wrs fun K hK => ?_;conv => whnf
   refine hK _ (W.cond ⟨fun _ => ?_, fun hcc => absurd h0 (of_decide_eq_false hcc)⟩);clear hK K;refine wrs fun K hK => ?_;conv => whnf
   refine hK _ ?_;clear hK K;refine W.ret ?_;conv => whnf
   exact ⟨.v (.int .i64 0), ⟨rfl, rfl⟩, trivial, .v (.int .i64 c), ⟨rfl, rfl⟩, trivial, rfl⟩
 subst h0;obtain ⟨hk, _, hh⟩ := zcK hc;obtain ⟨hp, f, rfl, hfi, _, _, hf9⟩ := vE hk;letI := yv hp;obtain ⟨Y, rfl⟩ := jv (hh 0 (by omega)).1;obtain ⟨X, rfl⟩ := jv (hh 1 (by omega)).1;have hyl : Y.l.length < f.l.length := (hh 0 (by omega)).2;have hxl : X.l.length < f.l.length := (hh 1 (by omega)).2;have hfl : f.l.length = dg f := rfl;have hXl : X.l.length = dg X := rfl
 by_cases hb : Y ≠ 0 ∧ X ≠ 0 ∧ xI f Y
 case neg =>
  have hcb : z8 f Y X = 5 := by unfold z8; rw [zf hb]; rfl
  refine ⟨0, 5, fun g0 g1 g2 => ?_, fun g0 g1 g2 => ?_, fun h => absurd h (by decide)⟩
  ·refine ze (za [0, 1, 2, 3, 6, 7, 8, 14]) Tryz.func81 rfl (by decide) Tryz.ntmps81 (Nat.le_of_ble_eq_true rfl) fun base => ?_;refine wrs fun K hK => ?_;conv => whnf
   refine ⟨rfl, ?_⟩;conv => whnf
   intro b_1 hs_1 hh_1 hf_1;try dsimp only at hh_1 hf_1
   conv => whnf
   refine hK _ ?_;clear hK K;refine wrs fun K hK => ?_;conv => whnf
   refine zc rfl (jz kp g0 g1 g2 f Y X hk hfi hyl hxl hc) fun hs' hhs => ?_;try dsimp only at hhs
   conv => whnf
   rw [hcb];refine hK _ ?_;clear hK K;refine W.seqK fun K1 hK1 => ?_;refine wrs fun K hK => ?_;conv => whnf
   refine hK _ (W.cond ⟨fun _ => ?_, fun hcc => absurd (by decide : (5 : Int) ≠ 0) (of_decide_eq_false hcc)⟩);clear hK K;refine wrs fun K hK => ?_;conv => whnf
   refine hK _ ?_;clear hK K;refine W.ret ?_;conv => whnf
   exact ⟨.v (.int .i64 0), ⟨rfl, rfl⟩, trivial, .v (.int .i64 5), ⟨rfl, rfl⟩, trivial, rfl⟩
  ·refine ze (za [0, 1, 2, 3, 6, 7, 8, 15, 25]) Tryz.func80 rfl (by decide) Tryz.ntmps80 (Nat.le_of_ble_eq_true rfl) fun base => ?_;refine wrs fun K hK => ?_;conv => whnf
   refine ⟨rfl, ?_⟩;conv => whnf
   intro b_1 hs_1 hh_1 hf_1;try dsimp only at hh_1 hf_1
   conv => whnf
   refine hK _ ?_;clear hK K;refine W.seqK fun K1 hK1 => ?_;refine wrs fun K hK => ?_;conv => whnf
   refine ⟨⟨rfl, by decide, fun x hx => (by simp at hx; rcases hx with rfl | rfl <;> exact ⟨rfl, rfl⟩)⟩, ?_⟩;conv => whnf
   intro b_2 hs_2 hh_2 hf_2;try dsimp only at hh_2 hf_2
   conv => whnf
   refine zc rfl (yH kp g0 (some b_2) f.l 2 _ (two Y.l X.l) (by omega) (by omega) (zm1 g1 g2 Y.l X.l)) fun hs' hhs => ?_;try dsimp only at hhs
   conv => whnf
   rw [hc];refine hK _ ?_;clear hK K;refine wrs fun K hK => ?_;conv => whnf
   refine hK _ (W.cond ⟨fun hcc => absurd rfl (of_decide_eq_true hcc), fun _ => W.skip (hK1 _ ?_)⟩);clear hK K hK1 K1;refine W.seqK fun K1 hK1 => ?_;refine wrs fun K hK => ?_;conv => whnf
   refine ⟨fun h4 => ?_, fun h4 => ?_⟩ <;> conv => whnf
   ·refine hK _ (W.condT rfl ?_);clear hK K;refine wrs fun K hK => ?_;conv => whnf
    refine hK _ ?_;clear hK K;refine W.ret ?_;conv => whnf
    exact ⟨.v (.int .i64 0), ⟨rfl, rfl⟩, trivial, .v (.int .i64 5), ⟨rfl, rfl⟩, trivial, rfl⟩
   ·have h4 := of_decide_eq_false h4;have hX0 : X ≠ 0 := fun e => h4 (by have := zd.2 e; omega);have hnp : ¬ xI f Y := fun h => hb ⟨h.ne hfi, hX0, h⟩;refine zc rfl ((yD kp g0 g1 f Y hk hfi hyl).fa (zf hnp)) fun hs' hhs => ?_;try dsimp only at hhs
    conv => whnf
    refine hK _ (W.condT rfl ?_);clear hK K;refine wrs fun K hK => ?_;conv => whnf
    refine hK _ ?_;clear hK K;refine W.ret ?_;conv => whnf
    exact ⟨.v (.int .i64 0), ⟨rfl, rfl⟩, trivial, .v (.int .i64 5), ⟨rfl, rfl⟩, trivial, rfl⟩
 obtain ⟨hY0, hX0, hPY⟩ := hb;have hX1 : dg X ≠ 0 := fun e => hX0 (zd.1 e);have hcb : z8 f Y X = 0 := by unfold z8; rw [zh ⟨hY0, hX0, hPY⟩]; rfl
 obtain ⟨n, hn1, hn2, hn3⟩ := ze1 hfi hPY hX0 hxl;obtain ⟨d, hd⟩ : ∃ d, dg f = d + 1 := ⟨dg f - 1, by have := hfi.1; omega⟩
 obtain ⟨hq1, hq2, hq3⟩ := zaX hk hd;rw [show dg f - 1 = d by omega] at hn1;refine ⟨n, 0, fun g0 g1 g2 => ?_, fun g0 g1 g2 => ?_, fun _ => ⟨hp, f, Y, X, rfl, rfl, rfl, hk, hyl, hxl, n, rfl, by rw [hq1]; omega, hn2⟩⟩
 ·refine ze (za [0, 1, 2, 3, 6, 7, 8, 14]) Tryz.func81 rfl (by decide) Tryz.ntmps81 (Nat.le_of_ble_eq_true rfl) fun base => ?_;refine wrs fun K hK => ?_;conv => whnf
  refine ⟨rfl, ?_⟩;conv => whnf
  intro b_1 hs_1 hh_1 hf_1;try dsimp only at hh_1 hf_1
  conv => whnf
  refine hK _ ?_;clear hK K;refine wrs fun K hK => ?_;conv => whnf
  refine zc rfl (jz kp g0 g1 g2 f Y X hk hfi hyl hxl hc) fun hs' hhs => ?_;try dsimp only at hhs
  conv => whnf
  rw [hcb];refine hK _ ?_;clear hK K;refine W.seqK fun K1 hK1 => ?_;refine wrs fun K hK => ?_;conv => whnf
  refine hK _ (W.cond ⟨fun hcc => absurd rfl (of_decide_eq_true hcc), fun _ => W.skip (hK1 _ ?_)⟩);clear hK K hK1 K1;refine wrs fun K hK => ?_;conv => whnf
  refine zc rfl (zga kp g0 g1 g2 f Y X hf9 hfi hyl hxl n (by omega) hn2 hn3) fun hs' hhs => ?_;try dsimp only at hhs
  conv => whnf
  refine hK _ ?_;clear hK K;refine W.ret ?_;conv => whnf
  exact ⟨.v (.int .i64 n), ⟨rfl, rfl⟩, trivial, .v (.int .i64 0), ⟨rfl, rfl⟩, trivial, rfl⟩
 ·refine ze (za [0, 1, 2, 3, 6, 7, 8, 15, 25]) Tryz.func80 rfl (by decide) Tryz.ntmps80 (Nat.le_of_ble_eq_true rfl) fun base => ?_;refine wrs fun K hK => ?_;conv => whnf
  refine ⟨rfl, ?_⟩;conv => whnf
  intro b_1 hs_1 hh_1 hf_1;try dsimp only at hh_1 hf_1
  conv => whnf
  refine hK _ ?_;clear hK K;refine W.seqK fun K1 hK1 => ?_;refine wrs fun K hK => ?_;conv => whnf
  refine ⟨⟨rfl, by decide, fun x hx => (by simp at hx; rcases hx with rfl | rfl <;> exact ⟨rfl, rfl⟩)⟩, ?_⟩;conv => whnf
  intro b_2 hs_2 hh_2 hf_2;try dsimp only at hh_2 hf_2
  conv => whnf
  refine zc rfl (yH kp g0 (some b_2) f.l 2 _ (two Y.l X.l) (by omega) (by omega) (zm1 g1 g2 Y.l X.l)) fun hs' hhs => ?_;try dsimp only at hhs
  conv => whnf
  rw [hc];refine hK _ ?_;clear hK K;refine wrs fun K hK => ?_;conv => whnf
  refine hK _ (W.cond ⟨fun hcc => absurd rfl (of_decide_eq_true hcc), fun _ => W.skip (hK1 _ ?_)⟩);clear hK K hK1 K1;refine W.seqK fun K1 hK1 => ?_;refine wrs fun K hK => ?_;conv => whnf
  refine ⟨fun h4 => ?_, fun h4 => ?_⟩ <;> conv => whnf
  ·exact absurd (of_decide_eq_true h4) (by omega)
  ·refine zc rfl ((yD kp g0 g1 f Y hk hfi hyl).tr (zh hPY)) fun hs' hhs => ?_;try dsimp only at hhs
   conv => whnf
   refine hK _ (W.condF rfl (W.skip (hK1 _ ?_)));clear hK K hK1 K1;refine wrs fun K hK => ?_;conv => whnf
   refine zc rfl (zb8 kp g0 g1 g2 f Y X hf9 hfi hyl hxl n (by omega) hn2 hn3) fun hs' hhs => ?_;try dsimp only at hhs
   conv => whnf
   refine hK _ ?_;clear hK K;refine W.ret ?_;conv => whnf
   exact ⟨.v (.int .i64 n), ⟨rfl, rfl⟩, trivial, .v (.int .i64 0), ⟨rfl, rfl⟩, trivial, rfl⟩




theorem vG (p n : Int) (g : Option Nat) (l : List Int) (hl : l.length <= 1000000000) : FnV 235 [vK p g l, .int .i64 n] (.bool (bP (IsFld p l ∧ 1 <= n ∧ n <= p ^ (l.length - 1) - 1))) := by
 by_cases hk : IsFld p l
 case neg =>
  refine ze (za [0, 1, 2, 4]) Tryz.func235 rfl (by decide) Tryz.ntmps235 (Nat.le_of_ble_eq_true rfl) fun base => ?_;refine wrs fun K hK => ?_;conv => whnf
  refine ⟨rfl, ?_⟩;conv => whnf
  intro b_1 hs_1 hh_1 hf_1;try dsimp only at hh_1 hf_1
  conv => whnf
  refine hK _ ?_;clear hK K;refine wrs fun K hK => ?_;conv => whnf
  refine zc rfl ((vn p g l hl).fa (zf hk)) fun hs' hhs => ?_;try dsimp only at hhs
  conv => whnf
  refine hK _ ?_;clear hK K;refine W.ret ?_;conv => whnf
  exact ⟨.v (.bool (bP (IsFld p l ∧ 1 <= n ∧ n <= p ^ (l.length - 1) - 1))), zf fun h => hk h.1, trivial, rfl⟩
 have hp1 := zbq hk.mod.1;have h9 := hk.mod.2.1;have hl2 := hk.two;have hb := zbr (p := p) (by omega) (by omega) (k := l.length - 1) (by omega)
 have e1 : decide (1 <= n ∧ n <= p ^ (l.length - 1) - 1) = bP (IsFld p l ∧ 1 <= n ∧ n <= p ^ (l.length - 1) - 1) := by
  by_cases h : 1 <= n ∧ n <= p ^ (l.length - 1) - 1
  ·rw [decide_eq_true h, zh ⟨hk, h⟩]
  ·rw [decide_eq_false h, zf fun h' => h h'.2]
 refine ze (za [0, 1, 2, 4]) Tryz.func235 rfl (by decide) Tryz.ntmps235 (Nat.le_of_ble_eq_true rfl) fun base => ?_;refine wrs fun K hK => ?_;conv => whnf
 refine ⟨rfl, ?_⟩;conv => whnf
 intro b_1 hs_1 hh_1 hf_1;try dsimp only at hh_1 hf_1
 conv => whnf
 refine hK _ ?_;clear hK K;refine wrs fun K hK => ?_;conv => whnf
 refine zc rfl ((vn p g l hl).tr (zh hk)) fun hs' hhs => ?_;try dsimp only at hhs
 conv => whnf
 refine zc rfl (zas p g l (by omega) (by omega) (by omega) (by omega)) fun hs' hhs => ?_;try dsimp only at hhs
 conv => whnf
 refine ⟨oo, ?_⟩;conv => whnf
 refine zc rfl (vj n 1 (p ^ (l.length - 1) - 1)) fun hs' hhs => ?_;try dsimp only at hhs
 conv => whnf
 refine hK _ ?_;clear hK K;refine W.ret ?_;conv => whnf
 exact ⟨.v (.bool (bP (IsFld p l ∧ 1 <= n ∧ n <= p ^ (l.length - 1) - 1))), e1, trivial, rfl⟩

/- how many are primitive -/

theorem zaY {p : Int} [SP p] {f G : Poly p} (hi : Irr f) (b : Prop) (hb : b ↔ xI f G) : z8 f G G = bif bP b then 0 else 5 := by
 unfold z8
 by_cases h : xI f G
 ·rw [zh ⟨h.ne hi, h.ne hi, h⟩, zh (hb.2 h)]
 ·rw [zf fun h' => h h'.2.2, zf fun h' => h (hb.1 h')]
theorem zm5 (p : Int) (l x : List Int) (h : jw p l x = 0) : zq p l true 2 (two x x) = 0 := (ziF p l x).trans h

theorem zaJ {p : Int} [SP p] (X : Poly p) : nrm p (zx (ve [1] X.l)) = (1 + X).l := by
 have h := zm0 (1 : Poly p) X
 rwa [zaT] at h

/- the program's begin: $1 modulus $2 base $3 exponent, one more $4 code -/
theorem zdn (kp : Int) (kl y : List Int) (e : Int) (_ : inR kp) (he : inR e) (hkl : kl.length <= 1048576) (hy : y.length <= 1048576) : ∃ r0 r1 : Int,
  (∀ g0 g1 : Option Nat, FnV 84 [vK kp g0 kl, .ints g1 y, .int .i64 e] (.tup [.int .i64 r0, .int .i64 r1])) ∧ (∀ g0 g1 : Option Nat, FnV 83 [vK kp g0 kl, .ints g1 y, .int .i64 e] (.tup [.int .i64 r0, .int .i64 r1])) ∧ (r1 = 0 -> ∃ hp : kp ∈ zS, letI := yv hp; ∃ f X : Poly kp, f.l = kl ∧ X.l = y ∧ IsFld kp kl ∧ dg X < dg f ∧ ∃ n m : Nat, e = n ∧ r0 = m ∧ n <= 100000 ∧ m <= 100000 ∧ 1 + rem (X ^ n) f = rem (X ^ m) f) := by
 generalize hc : jw kp kl y = c
 -- the sum that wraps around
 obtain ⟨we, hwe, hw1⟩ : ∃ we : Int, IntKind.i64.wrap (e + 1) = we ∧ (we = e + 1 ∨ we < 0 ∧ e = 9223372036854775807) := by
  refine ⟨_, rfl, ?_⟩;rw [IntKind.wrap_i64];obtain ⟨h1, h2⟩ := he;omega
 by_cases h0 : c = 0
 case neg =>
  refine ⟨0, c, fun g0 g1 => ?_, fun g0 g1 => ?_, fun h => absurd h h0⟩
  ·refine ze (za [0, 1, 2, 3, 6, 7, 8, 9, 23, 25, 31, 44]) Tryz.func84 rfl (by decide) Tryz.ntmps84 (Nat.le_of_ble_eq_true rfl) fun base => ?_;refine wrs fun K hK => ?_;conv => whnf
   refine ⟨rfl, ?_⟩;conv => whnf
   intro b_1 hs_1 hh_1 hf_1;try dsimp only at hh_1 hf_1
   conv => whnf
   refine hK _ ?_;clear hK K;refine wrs fun K hK => ?_;conv => whnf
   refine zc rfl (z7 kp g0 g1 g1 kl y (by omega) (by omega)) fun hs' hhs => ?_;try dsimp only at hhs
   conv => whnf
   rw [hc];refine hK _ ?_;clear hK K;refine W.seqK fun K1 hK1 => ?_;refine wrs fun K hK => ?_;conv => whnf
   refine ⟨fun h => ?_, fun h => ?_⟩ <;> conv => whnf
   ·exact absurd (of_decide_eq_true h) h0
   refine hK _ (W.condF rfl (W.skip (hK1 _ ?_)));clear hK K hK1 K1;refine W.seqK fun K1 hK1 => ?_;refine wrs fun K hK => ?_;conv => whnf
   refine hK _ (W.cond ⟨fun h => absurd (of_decide_eq_true h) h0, fun _ => W.skip (hK1 _ ?_)⟩);clear hK K hK1 K1;refine W.seqK fun K1 hK1 => ?_;refine wrs fun K hK => ?_;conv => whnf
   refine hK _ (W.cond ⟨fun _ => ?_, fun hcc => absurd h0 (of_decide_eq_false hcc)⟩);clear hK K;refine wrs fun K hK => ?_;conv => whnf
   refine hK _ ?_;clear hK K;refine W.ret ?_;conv => whnf
   exact ⟨.v (.int .i64 0), ⟨rfl, rfl⟩, trivial, .v (.int .i64 c), ⟨rfl, rfl⟩, trivial, rfl⟩
  ·refine ze (za [0, 1, 2, 3, 6, 7, 8, 9, 19, 24, 36]) Tryz.func83 rfl (by decide) Tryz.ntmps83 (Nat.le_of_ble_eq_true rfl) fun base => ?_;refine wrs fun K hK => ?_;conv => whnf
   refine ⟨rfl, ?_⟩;conv => whnf
   intro b_1 hs_1 hh_1 hf_1;try dsimp only at hh_1 hf_1
   conv => whnf
   refine hK _ ?_;clear hK K;refine W.seqK fun K1 hK1 => ?_;refine W.sw (c' := cxw [0, 1, 2, 3, 6, 7, 8, 9, 19, 24, 36]) (W.rd (zeI _) follows (by rfl) fun K hK => ?_);conv => whnf
   rw [hwe];refine ⟨_, zfc (vG kp we g0 kl (by omega)), ?_⟩;conv => whnf
   refine ⟨⟨rfl, by decide, fun x hx => (by simp at hx; subst hx; exact ⟨rfl, rfl⟩)⟩, ?_⟩;conv => whnf
   refine ⟨_, zfc (yh kp g0 none kl _ 1 _ (fun _ => y) (by omega) (by omega) (zfi g1 y)), ?_⟩;conv => whnf
   rw [zf8 hc h0 _];refine hK _ ?_;clear hK K;refine W.sw (c' := cx [0, 1, 2, 3, 6, 7, 8, 9, 19, 24, 36]) ?_;refine wrs fun K hK => ?_;conv => whnf
   refine hK _ (W.cond ⟨fun _ => ?_, fun hcc => absurd h0 (of_decide_eq_false hcc)⟩);clear hK K;refine wrs fun K hK => ?_;conv => whnf
   refine hK _ ?_;clear hK K;refine W.ret ?_;conv => whnf
   exact ⟨.v (.int .i64 0), ⟨rfl, rfl⟩, trivial, .v (.int .i64 c), ⟨rfl, rfl⟩, trivial, rfl⟩
 subst h0;have hc1 := hc;obtain ⟨hk, hh⟩ := zeY hc;obtain ⟨hp, f, rfl, hfi, _, _, hf9⟩ := vE hk;letI := yv hp;obtain ⟨X, rfl⟩ := jv hh.1;have hxl : X.l.length < f.l.length := hh.2;have hfl : f.l.length = dg f := rfl;have hXl : X.l.length = dg X := rfl;have hf0 := hfi.ne;have hp1 := yq hp;obtain ⟨d, hd⟩ : ∃ d, dg f = d + 1 := ⟨dg f - 1, by have := hfi.1; omega⟩
 obtain ⟨hq1, hq2, hq3⟩ := zaX hk hd
 have hex : ∀ b : Prop, (b ↔ (0 <= e ∧ e <= (kp.toNat ^ d : Nat) - 2)) -> bP (IsFld kp f.l ∧ 1 <= we ∧ we <= kp ^ (f.l.length - 1) - 1) = bP b := fun b hb => by
  rw [hq1]
  by_cases h : 0 <= e ∧ e <= ((kp.toNat ^ d : Nat) : Int) - 2
  ·rw [zh (hb.2 h), zh ⟨hk, by omega, by omega⟩]
  ·rw [zf fun h' => h (hb.1 h'), zf fun h' => h (by omega)]
 by_cases hr : 0 <= e ∧ e <= ((kp.toNat ^ d : Nat) : Int) - 2
 case neg =>
  refine ⟨0, 2, fun g0 g1 => ?_, fun g0 g1 => ?_, fun h => absurd h (by decide)⟩
  ·refine ze (za [0, 1, 2, 3, 6, 7, 8, 9, 23, 25, 31, 44]) Tryz.func84 rfl (by decide) Tryz.ntmps84 (Nat.le_of_ble_eq_true rfl) fun base => ?_;refine wrs fun K hK => ?_;conv => whnf
   refine ⟨rfl, ?_⟩;conv => whnf
   intro b_1 hs_1 hh_1 hf_1;try dsimp only at hh_1 hf_1
   conv => whnf
   refine hK _ ?_;clear hK K;refine wrs fun K hK => ?_;conv => whnf
   refine zc rfl (z7 kp g0 g1 g1 f.l X.l (by omega) (by omega)) fun hs' hhs => ?_;try dsimp only at hhs
   conv => whnf
   rw [hc];refine hK _ ?_;clear hK K;refine W.seqK fun K1 hK1 => ?_;refine wrs fun K hK => ?_;conv => whnf
   refine ⟨fun h => ?_, fun h => ?_⟩ <;> conv => whnf
   ·refine zc rfl (yb kp g0 f.l hk) fun hs' hhs => ?_;try dsimp only at hhs
    conv => whnf
    rw [hq1];refine ⟨oo, ?_⟩;conv => whnf
    refine zc rfl ((xT e 0 (((kp.toNat ^ d : Nat) : Int) - 2)).fa (decide_eq_false hr)) fun hs' hhs => ?_;try dsimp only at hhs
    conv => whnf
    refine hK _ (W.condT rfl ?_);clear hK K;refine wrg ?_;conv => whnf
    refine hK1 _ ?_;clear hK1 K1;refine W.seqK fun K1 hK1 => ?_;refine wrs fun K hK => ?_;conv => whnf
    refine hK _ (W.cond ⟨fun h => absurd (of_decide_eq_true h) (by decide), fun _ => W.skip (hK1 _ ?_)⟩);clear hK K hK1 K1;refine W.seqK fun K1 hK1 => ?_;refine wrs fun K hK => ?_;conv => whnf
    refine hK _ (W.cond ⟨fun _ => ?_, fun hcc => absurd (by decide : (2 : Int) ≠ 0) (of_decide_eq_false hcc)⟩);clear hK K;refine wrs fun K hK => ?_;conv => whnf
    refine hK _ ?_;clear hK K;refine W.ret ?_;conv => whnf
    exact ⟨.v (.int .i64 0), ⟨rfl, rfl⟩, trivial, .v (.int .i64 2), ⟨rfl, rfl⟩, trivial, rfl⟩
   ·exact absurd rfl (of_decide_eq_false h)
  ·refine ze (za [0, 1, 2, 3, 6, 7, 8, 9, 19, 24, 36]) Tryz.func83 rfl (by decide) Tryz.ntmps83 (Nat.le_of_ble_eq_true rfl) fun base => ?_;refine wrs fun K hK => ?_;conv => whnf
   refine ⟨rfl, ?_⟩;conv => whnf
   intro b_1 hs_1 hh_1 hf_1;try dsimp only at hh_1 hf_1
   conv => whnf
   refine hK _ ?_;clear hK K;refine W.seqK fun K1 hK1 => ?_;refine W.sw (c' := cxw [0, 1, 2, 3, 6, 7, 8, 9, 19, 24, 36]) (W.rd (zeI _) follows (by rfl) fun K hK => ?_);conv => whnf
   rw [hwe];refine ⟨_, zfc (vG kp we g0 f.l (by omega)), ?_⟩;conv => whnf
   refine ⟨⟨rfl, by decide, fun x hx => (by simp at hx; subst hx; exact ⟨rfl, rfl⟩)⟩, ?_⟩;conv => whnf
   refine ⟨_, zfc (yh kp g0 none f.l _ 1 _ (fun _ => X.l) (by omega) (by omega) (zfi g1 X.l)), ?_⟩;conv => whnf
   rw [zf9 hc1 ((hex _ Iff.rfl).trans (zf hr))];refine hK _ ?_;clear hK K;refine W.sw (c' := cx [0, 1, 2, 3, 6, 7, 8, 9, 19, 24, 36]) ?_;refine wrs fun K hK => ?_;conv => whnf
   refine hK _ (W.cond ⟨fun _ => ?_, fun hcc => absurd (by decide : (2 : Int) ≠ 0) (of_decide_eq_false hcc)⟩);clear hK K;refine wrs fun K hK => ?_;conv => whnf
   refine hK _ ?_;clear hK K;refine W.ret ?_;conv => whnf
   exact ⟨.v (.int .i64 0), ⟨rfl, rfl⟩, trivial, .v (.int .i64 2), ⟨rfl, rfl⟩, trivial, rfl⟩
 have hcc := ziG hc1 ((hex _ Iff.rfl).trans (zh hr));obtain ⟨n, rfl⟩ : ∃ n : Nat, e = n := ⟨e.toNat, by omega⟩
 have hcs := zm5 kp f.l X.l hc1
 by_cases hP : xI f X
 case neg =>
  have hcb : z8 f X X = 5 := by rw [zaY hfi _ Iff.rfl, zf hP]; rfl
  refine ⟨0, 5, fun g0 g1 => ?_, fun g0 g1 => ?_, fun h => absurd h (by decide)⟩
  ·refine ze (za [0, 1, 2, 3, 6, 7, 8, 9, 23, 25, 31, 44]) Tryz.func84 rfl (by decide) Tryz.ntmps84 (Nat.le_of_ble_eq_true rfl) fun base => ?_;refine wrs fun K hK => ?_;conv => whnf
   refine ⟨rfl, ?_⟩;conv => whnf
   intro b_1 hs_1 hh_1 hf_1;try dsimp only at hh_1 hf_1
   conv => whnf
   refine hK _ ?_;clear hK K;refine wrs fun K hK => ?_;conv => whnf
   refine zc rfl (z7 kp g0 g1 g1 f.l X.l (by omega) (by omega)) fun hs' hhs => ?_;try dsimp only at hhs
   conv => whnf
   rw [hc];refine hK _ ?_;clear hK K;refine W.seqK fun K1 hK1 => ?_;refine wrs fun K hK => ?_;conv => whnf
   refine ⟨fun h => ?_, fun h => ?_⟩ <;> conv => whnf
   ·refine zc rfl (yb kp g0 f.l hk) fun hs' hhs => ?_;try dsimp only at hhs
    conv => whnf
    rw [hq1];refine ⟨oo, ?_⟩;conv => whnf
    refine zc rfl ((xT (n : Nat) 0 (((kp.toNat ^ d : Nat) : Int) - 2)).tr (decide_eq_true hr)) fun hs' hhs => ?_;try dsimp only at hhs
    conv => whnf
    refine hK _ (W.condF rfl (W.skip (hK1 _ ?_)));clear hK K hK1 K1;refine W.seqK fun K1 hK1 => ?_;refine wrs fun K hK => ?_;conv => whnf
    refine hK _ (W.cond ⟨fun _ => ?_, fun h => absurd rfl (of_decide_eq_false h)⟩);clear hK K;refine wrg ?_;conv => whnf
    refine zc rfl (jz kp g0 g1 g1 f X X hk hfi hxl hxl hcs) fun hs' hhs => ?_;try dsimp only at hhs
    conv => whnf
    rw [hcb];refine hK1 _ ?_;clear hK1 K1;refine W.seqK fun K1 hK1 => ?_;refine wrs fun K hK => ?_;conv => whnf
    refine hK _ (W.cond ⟨fun _ => ?_, fun hcc => absurd (by decide : (5 : Int) ≠ 0) (of_decide_eq_false hcc)⟩);clear hK K;refine wrs fun K hK => ?_;conv => whnf
    refine hK _ ?_;clear hK K;refine W.ret ?_;conv => whnf
    exact ⟨.v (.int .i64 0), ⟨rfl, rfl⟩, trivial, .v (.int .i64 5), ⟨rfl, rfl⟩, trivial, rfl⟩
   ·exact absurd rfl (of_decide_eq_false h)
  ·refine ze (za [0, 1, 2, 3, 6, 7, 8, 9, 19, 24, 36]) Tryz.func83 rfl (by decide) Tryz.ntmps83 (Nat.le_of_ble_eq_true rfl) fun base => ?_;refine wrs fun K hK => ?_;conv => whnf
   refine ⟨rfl, ?_⟩;conv => whnf
   intro b_1 hs_1 hh_1 hf_1;try dsimp only at hh_1 hf_1
   conv => whnf
   refine hK _ ?_;clear hK K;refine W.seqK fun K1 hK1 => ?_;refine W.sw (c' := cxw [0, 1, 2, 3, 6, 7, 8, 9, 19, 24, 36]) (W.rd (zeI _) follows (by rfl) fun K hK => ?_);conv => whnf
   rw [hwe];refine ⟨_, zfc (vG kp we g0 f.l (by omega)), ?_⟩;conv => whnf
   refine ⟨⟨rfl, by decide, fun x hx => (by simp at hx; subst hx; exact ⟨rfl, rfl⟩)⟩, ?_⟩;conv => whnf
   refine ⟨_, zfc (yh kp g0 none f.l _ 1 _ (fun _ => X.l) (by omega) (by omega) (zfi g1 X.l)), ?_⟩;conv => whnf
   rw [hcc];refine hK _ ?_;clear hK K;refine W.sw (c' := cx [0, 1, 2, 3, 6, 7, 8, 9, 19, 24, 36]) ?_;refine wrs fun K hK => ?_;conv => whnf
   refine hK _ (W.cond ⟨fun hcc => absurd rfl (of_decide_eq_true hcc), fun _ => W.skip (hK1 _ ?_)⟩);clear hK K hK1 K1;refine W.seqK fun K1 hK1 => ?_;refine wrs fun K hK => ?_;conv => whnf
   refine zc rfl ((yD kp g0 g1 f X hk hfi hxl).fa (zf hP)) fun hs' hhs => ?_;try dsimp only at hhs
   conv => whnf
   refine hK _ (W.condT rfl ?_);clear hK K;refine wrs fun K hK => ?_;conv => whnf
   refine hK _ ?_;clear hK K;refine W.ret ?_;conv => whnf
   exact ⟨.v (.int .i64 0), ⟨rfl, rfl⟩, trivial, .v (.int .i64 5), ⟨rfl, rfl⟩, trivial, rfl⟩
 have hcb : z8 f X X = 0 := by rw [zaY hfi _ Iff.rfl, zh hP]; rfl
 have hPd := zM (X ^ n) hf0;have hQl : (rem (X ^ n) f).l.length = dg (rem (X ^ n) f) := rfl
 have hSd : dg (1 + rem (X ^ n) f) < dg f := by
  have h1 := zgA (1 : Poly kp) (rem (X ^ n) f);rw [yl] at h1;have := hfi.1;omega
 have hSl : (1 + rem (X ^ n) f).l.length = dg (1 + rem (X ^ n) f) := rfl
 have hSb : Bd 4611686018427387904 (zx (ve [1] (rem (X ^ n) f).l)) := fun j => by
  rw [xl, vq];have := ke (rem (X ^ n) f) j;cases j with
  | zero => rw [zO]; omega
  | succ j => rw [zu, yK]; omega
 have hSn : (zx (ve [1] (rem (X ^ n) f).l)).length <= 100 := by
  have := xa (ve [1] (rem (X ^ n) f).l);unfold ve at *;rw [zU] at *;simp at this ⊢
  omega
 have h1b : Bd 2305843009213693951 [1] := fun j => by
  cases j with
  | zero => rw [zO]; omega
  | succ j => rw [zu, yK]; omega
 by_cases hS0 : 1 + rem (X ^ n) f = 0
 ·have hS1 : dg (1 + rem (X ^ n) f) = 0 := zd.2 hS0;refine ⟨0, 4, fun g0 g1 => ?_, fun g0 g1 => ?_, fun h => absurd h (by decide)⟩
  ·refine ze (za [0, 1, 2, 3, 6, 7, 8, 9, 23, 25, 31, 44]) Tryz.func84 rfl (by decide) Tryz.ntmps84 (Nat.le_of_ble_eq_true rfl) fun base => ?_;refine wrs fun K hK => ?_;conv => whnf
   refine ⟨rfl, ?_⟩;conv => whnf
   intro b_1 hs_1 hh_1 hf_1;try dsimp only at hh_1 hf_1
   conv => whnf
   refine hK _ ?_;clear hK K;refine wrs fun K hK => ?_;conv => whnf
   refine zc rfl (z7 kp g0 g1 g1 f.l X.l (by omega) (by omega)) fun hs' hhs => ?_;try dsimp only at hhs
   conv => whnf
   rw [hc];refine hK _ ?_;clear hK K;refine W.seqK fun K1 hK1 => ?_;refine wrs fun K hK => ?_;conv => whnf
   refine ⟨fun h => ?_, fun h => ?_⟩ <;> conv => whnf
   ·refine zc rfl (yb kp g0 f.l hk) fun hs' hhs => ?_;try dsimp only at hhs
    conv => whnf
    rw [hq1];refine ⟨oo, ?_⟩;conv => whnf
    refine zc rfl ((xT (n : Nat) 0 (((kp.toNat ^ d : Nat) : Int) - 2)).tr (decide_eq_true hr)) fun hs' hhs => ?_;try dsimp only at hhs
    conv => whnf
    refine hK _ (W.condF rfl (W.skip (hK1 _ ?_)));clear hK K hK1 K1;refine W.seqK fun K1 hK1 => ?_;refine wrs fun K hK => ?_;conv => whnf
    refine hK _ (W.cond ⟨fun _ => ?_, fun h => absurd rfl (of_decide_eq_false h)⟩);clear hK K;refine wrg ?_;conv => whnf
    refine zc rfl (jz kp g0 g1 g1 f X X hk hfi hxl hxl hcs) fun hs' hhs => ?_;try dsimp only at hhs
    conv => whnf
    rw [hcb];refine hK1 _ ?_;clear hK1 K1;refine W.seqK fun K1 hK1 => ?_;refine wrs fun K hK => ?_;conv => whnf
    refine hK _ (W.cond ⟨fun hcc => absurd rfl (of_decide_eq_true hcc), fun _ => W.skip (hK1 _ ?_)⟩);clear hK K hK1 K1;refine W.rd (za _) follows (by rfl) fun K hK => ?_;conv => whnf
    refine ⟨⟨rfl, by decide⟩, ?_⟩;conv => whnf
    refine ⟨_, cxF (jP kp g0 g1 f X n (by omega) (by omega) (by omega) hf0), ?_⟩;conv => whnf
    refine ⟨_, cxF ((zaH none none [1] (rem (X ^ n) f).l 1 (by omega) h1b (zdc _) (by simp) (by omega)).toV), ?_⟩;conv => whnf
    rw [zeX];refine ⟨_, cxF ((xc kp (by omega) (by omega) none _ hSb (by omega)).toV), ?_⟩;conv => whnf
    rw [zaJ];refine hK _ ?_;clear hK K;refine W.seqK fun K1 hK1 => ?_;refine wrs fun K hK => ?_;conv => whnf
    refine hK _ (W.cond ⟨fun _ => ?_, fun h4 => absurd (of_decide_eq_false h4) (by omega)⟩);clear hK K;refine wrs fun K hK => ?_;conv => whnf
    refine hK _ ?_;clear hK K;refine W.ret ?_;conv => whnf
    exact ⟨.v (.int .i64 0), ⟨rfl, rfl⟩, trivial, .v (.int .i64 4), ⟨rfl, rfl⟩, trivial, rfl⟩
   ·exact absurd rfl (of_decide_eq_false h)
  ·refine ze (za [0, 1, 2, 3, 6, 7, 8, 9, 19, 24, 36]) Tryz.func83 rfl (by decide) Tryz.ntmps83 (Nat.le_of_ble_eq_true rfl) fun base => ?_;refine wrs fun K hK => ?_;conv => whnf
   refine ⟨rfl, ?_⟩;conv => whnf
   intro b_1 hs_1 hh_1 hf_1;try dsimp only at hh_1 hf_1
   conv => whnf
   refine hK _ ?_;clear hK K;refine W.seqK fun K1 hK1 => ?_;refine W.sw (c' := cxw [0, 1, 2, 3, 6, 7, 8, 9, 19, 24, 36]) (W.rd (zeI _) follows (by rfl) fun K hK => ?_);conv => whnf
   rw [hwe];refine ⟨_, zfc (vG kp we g0 f.l (by omega)), ?_⟩;conv => whnf
   refine ⟨⟨rfl, by decide, fun x hx => (by simp at hx; subst hx; exact ⟨rfl, rfl⟩)⟩, ?_⟩;conv => whnf
   refine ⟨_, zfc (yh kp g0 none f.l _ 1 _ (fun _ => X.l) (by omega) (by omega) (zfi g1 X.l)), ?_⟩;conv => whnf
   rw [hcc];refine hK _ ?_;clear hK K;refine W.sw (c' := cx [0, 1, 2, 3, 6, 7, 8, 9, 19, 24, 36]) ?_;refine wrs fun K hK => ?_;conv => whnf
   refine hK _ (W.cond ⟨fun hcc => absurd rfl (of_decide_eq_true hcc), fun _ => W.skip (hK1 _ ?_)⟩);clear hK K hK1 K1;refine W.seqK fun K1 hK1 => ?_;refine wrs fun K hK => ?_;conv => whnf
   refine zc rfl ((yD kp g0 g1 f X hk hfi hxl).tr (zh hP)) fun hs' hhs => ?_;try dsimp only at hhs
   conv => whnf
   refine hK _ (W.condF rfl (W.skip (hK1 _ ?_)));clear hK K hK1 K1;refine W.rd (za _) follows (by rfl) fun K hK => ?_;conv => whnf
   refine ⟨⟨rfl, by decide⟩, ?_⟩;conv => whnf
   refine ⟨_, cxF (zcL kp g0 g1 f X n (by omega) (by omega) (by omega) hf0), ?_⟩;conv => whnf
   refine ⟨_, cxF ((zb1 none none [1] (rem (X ^ n) f).l h1b (zdc _) (by simp) (by omega)).toV), ?_⟩;conv => whnf
   refine ⟨_, cxF ((v7 kp (by omega) (by omega) none _ hSb (by omega)).toV), ?_⟩;conv => whnf
   rw [zaJ];refine hK _ ?_;clear hK K;refine W.seqK fun K1 hK1 => ?_;refine wrs fun K hK => ?_;conv => whnf
   refine hK _ (W.cond ⟨fun _ => ?_, fun h4 => absurd (of_decide_eq_false h4) (by omega)⟩);clear hK K;refine wrs fun K hK => ?_;conv => whnf
   refine hK _ ?_;clear hK K;refine W.ret ?_;conv => whnf
   exact ⟨.v (.int .i64 0), ⟨rfl, rfl⟩, trivial, .v (.int .i64 4), ⟨rfl, rfl⟩, trivial, rfl⟩
 have hS1 : dg (1 + rem (X ^ n) f) ≠ 0 := fun e => hS0 (zd.1 e);obtain ⟨r, hr1, hr2, hr3⟩ := ze1 hfi hP hS0 hSd;rw [show dg f - 1 = d by omega] at hr1;refine ⟨r, 0, fun g0 g1 => ?_, fun g0 g1 => ?_, fun _ => ⟨hp, f, X, rfl, rfl, hk, hxl, n, r, rfl, rfl, by omega, by omega, hr2.symm⟩⟩
 ·refine ze (za [0, 1, 2, 3, 6, 7, 8, 9, 23, 25, 31, 44]) Tryz.func84 rfl (by decide) Tryz.ntmps84 (Nat.le_of_ble_eq_true rfl) fun base => ?_;refine wrs fun K hK => ?_;conv => whnf
  refine ⟨rfl, ?_⟩;conv => whnf
  intro b_1 hs_1 hh_1 hf_1;try dsimp only at hh_1 hf_1
  conv => whnf
  refine hK _ ?_;clear hK K;refine wrs fun K hK => ?_;conv => whnf
  refine zc rfl (z7 kp g0 g1 g1 f.l X.l (by omega) (by omega)) fun hs' hhs => ?_;try dsimp only at hhs
  conv => whnf
  rw [hc];refine hK _ ?_;clear hK K;refine W.seqK fun K1 hK1 => ?_;refine wrs fun K hK => ?_;conv => whnf
  refine ⟨fun h => ?_, fun h => ?_⟩ <;> conv => whnf
  ·refine zc rfl (yb kp g0 f.l hk) fun hs' hhs => ?_;try dsimp only at hhs
   conv => whnf
   rw [hq1];refine ⟨oo, ?_⟩;conv => whnf
   refine zc rfl ((xT (n : Nat) 0 (((kp.toNat ^ d : Nat) : Int) - 2)).tr (decide_eq_true hr)) fun hs' hhs => ?_;try dsimp only at hhs
   conv => whnf
   refine hK _ (W.condF rfl (W.skip (hK1 _ ?_)));clear hK K hK1 K1;refine W.seqK fun K1 hK1 => ?_;refine wrs fun K hK => ?_;conv => whnf
   refine hK _ (W.cond ⟨fun _ => ?_, fun h => absurd rfl (of_decide_eq_false h)⟩);clear hK K;refine wrg ?_;conv => whnf
   refine zc rfl (jz kp g0 g1 g1 f X X hk hfi hxl hxl hcs) fun hs' hhs => ?_;try dsimp only at hhs
   conv => whnf
   rw [hcb];refine hK1 _ ?_;clear hK1 K1;refine W.seqK fun K1 hK1 => ?_;refine wrs fun K hK => ?_;conv => whnf
   refine hK _ (W.cond ⟨fun hcc => absurd rfl (of_decide_eq_true hcc), fun _ => W.skip (hK1 _ ?_)⟩);clear hK K hK1 K1;refine W.rd (za _) follows (by rfl) fun K hK => ?_;conv => whnf
   refine ⟨⟨rfl, by decide⟩, ?_⟩;conv => whnf
   refine ⟨_, cxF (jP kp g0 g1 f X n (by omega) (by omega) (by omega) hf0), ?_⟩;conv => whnf
   refine ⟨_, cxF ((zaH none none [1] (rem (X ^ n) f).l 1 (by omega) h1b (zdc _) (by simp) (by omega)).toV), ?_⟩;conv => whnf
   rw [zeX];refine ⟨_, cxF ((xc kp (by omega) (by omega) none _ hSb (by omega)).toV), ?_⟩;conv => whnf
   rw [zaJ];refine hK _ ?_;clear hK K;refine W.seqK fun K1 hK1 => ?_;refine wrs fun K hK => ?_;conv => whnf
   refine hK _ (W.cond ⟨fun h4 => absurd (of_decide_eq_true h4) (by omega), fun _ => W.skip (hK1 _ ?_)⟩);clear hK K hK1 K1;refine wrs fun K hK => ?_;conv => whnf
   refine zc rfl (zga kp g0 g1 none f X (1 + rem (X ^ n) f) hf9 hfi hxl hSd r (by omega) hr2 hr3) fun hs' hhs => ?_;try dsimp only at hhs
   conv => whnf
   refine hK _ ?_;clear hK K;refine W.ret ?_;conv => whnf
   exact ⟨.v (.int .i64 r), ⟨rfl, rfl⟩, trivial, .v (.int .i64 0), ⟨rfl, rfl⟩, trivial, rfl⟩
  ·exact absurd rfl (of_decide_eq_false h)
 ·refine ze (za [0, 1, 2, 3, 6, 7, 8, 9, 19, 24, 36]) Tryz.func83 rfl (by decide) Tryz.ntmps83 (Nat.le_of_ble_eq_true rfl) fun base => ?_;refine wrs fun K hK => ?_;conv => whnf
  refine ⟨rfl, ?_⟩;conv => whnf
  intro b_1 hs_1 hh_1 hf_1;try dsimp only at hh_1 hf_1
  conv => whnf
  refine hK _ ?_;clear hK K;refine W.seqK fun K1 hK1 => ?_;refine W.sw (c' := cxw [0, 1, 2, 3, 6, 7, 8, 9, 19, 24, 36]) (W.rd (zeI _) follows (by rfl) fun K hK => ?_);conv => whnf
  rw [hwe];refine ⟨_, zfc (vG kp we g0 f.l (by omega)), ?_⟩;conv => whnf
  refine ⟨⟨rfl, by decide, fun x hx => (by simp at hx; subst hx; exact ⟨rfl, rfl⟩)⟩, ?_⟩;conv => whnf
  refine ⟨_, zfc (yh kp g0 none f.l _ 1 _ (fun _ => X.l) (by omega) (by omega) (zfi g1 X.l)), ?_⟩;conv => whnf
  rw [hcc];refine hK _ ?_;clear hK K;refine W.sw (c' := cx [0, 1, 2, 3, 6, 7, 8, 9, 19, 24, 36]) ?_;refine wrs fun K hK => ?_;conv => whnf
  refine hK _ (W.cond ⟨fun hcc => absurd rfl (of_decide_eq_true hcc), fun _ => W.skip (hK1 _ ?_)⟩);clear hK K hK1 K1;refine W.seqK fun K1 hK1 => ?_;refine wrs fun K hK => ?_;conv => whnf
  refine zc rfl ((yD kp g0 g1 f X hk hfi hxl).tr (zh hP)) fun hs' hhs => ?_;try dsimp only at hhs
  conv => whnf
  refine hK _ (W.condF rfl (W.skip (hK1 _ ?_)));clear hK K hK1 K1;refine W.rd (za _) follows (by rfl) fun K hK => ?_;conv => whnf
  refine ⟨⟨rfl, by decide⟩, ?_⟩;conv => whnf
  refine ⟨_, cxF (zcL kp g0 g1 f X n (by omega) (by omega) (by omega) hf0), ?_⟩;conv => whnf
  refine ⟨_, cxF ((zb1 none none [1] (rem (X ^ n) f).l h1b (zdc _) (by simp) (by omega)).toV), ?_⟩;conv => whnf
  refine ⟨_, cxF ((v7 kp (by omega) (by omega) none _ hSb (by omega)).toV), ?_⟩;conv => whnf
  rw [zaJ];refine hK _ ?_;clear hK K;refine W.seqK fun K1 hK1 => ?_;refine wrs fun K hK => ?_;conv => whnf
  refine hK _ (W.cond ⟨fun h4 => absurd (of_decide_eq_true h4) (by omega), fun _ => W.skip (hK1 _ ?_)⟩);clear hK K hK1 K1;refine wrs fun K hK => ?_;conv => whnf
  refine zc rfl (zb8 kp g0 g1 none f X (1 + rem (X ^ n) f) hf9 hfi hxl hSd r (by omega) hr2 hr3) fun hs' hhs => ?_;try dsimp only at hhs
  conv => whnf
  refine hK _ ?_;clear hK K;refine W.ret ?_;conv => whnf
  exact ⟨.v (.int .i64 r), ⟨rfl, rfl⟩, trivial, .v (.int .i64 0), ⟨rfl, rfl⟩, trivial, rfl⟩


def kQ (p n : Int) : Int := if isP p = true then (if 1 <= n ∧ n <= 4 then 0 else 2) else 1
theorem zlp {p n : Int} (h : kQ p n = 0) : isP p = true ∧ 1 <= n ∧ n <= 4 := by
 unfold kQ at h
 by_cases h1 : isP p = true
 ·rw [if_pos h1] at h
  by_cases h2 : 1 <= n ∧ n <= 4
  ·exact ⟨h1, h2⟩
  ·rw [if_neg h2] at h; cases h
 ·rw [if_neg h1] at h; cases h

theorem zjM {p : Int} (hp : 2 <= p) (d : Nat) : (List.replicate (d + 1) (0 : Int)).set d 1 = dig p.toNat (p.toNat ^ d) := by
 have hT : Top p.toNat d ((List.replicate (d + 1) (0 : Int)).set d 1) := by
  refine ⟨by simp, by rw [yp (by simp), if_pos rfl], fun x hx => ?_⟩;obtain ⟨i, hi, rfl⟩ := List.getElem_of_mem hx;rw [List.getElem_set]
  split
  ·omega
  ·simp; omega
 have hn : num p.toNat ((List.replicate (d + 1) (0 : Int)).set d 1) = p.toNat ^ d := by
  have h1 : (List.replicate (d + 1) (0 : Int)).set d 1 = List.replicate d 0 ++ [1] := by
   refine jq (by simp) fun j hj => ?_;have hj : j < d + 1 := by simpa using hj
   rw [yp (by simp)]
   by_cases h2 : j = d
   ·subst h2; rw [if_pos rfl, zcC]
   ·rw [if_neg h2, zI, yE (by simp; omega), List.getElem_append_left (by simp; omega)]; simp
  rw [h1, zcA]; simp [num]
 rw [<- hn, hT.dig (by omega)]

theorem zaL (p n : Int) (r : Option Nat) (hr : ∀ h : p ∈ zS, 1 <= n ∧ n <= 4 -> letI := yv h; kP (fun k => Irr (zN p k)) (p.toNat ^ n.toNat) (2 * p.toNat ^ n.toNat) r) :
  FnV 39 [.int .i64 p, .int .i64 n] (if kQ p n = 0 then RV (zmY p.toNat r) 0 else RV [] (kQ p n)) := by
 by_cases hc : kQ p n = 0
 ·obtain ⟨hp0, hn1, hn4⟩ := zlp hc;have hp := zbq hp0;have hpr : p ∈ zS := of_decide_eq_true hp0;have hr := hr hpr ⟨hn1, hn4⟩;letI := yv hpr;rw [if_pos hc];obtain ⟨d, rfl⟩ : ∃ d : Nat, n = d := ⟨n.toNat, by omega⟩
  rw [Int.toNat_natCast] at hr;have hB : 0 < p.toNat ^ d := Nat.pow_pos (by omega);have hfl := zjM (p := p) (by omega) d;refine ze (za [0, 1, 4, 5, 6, 7, 12]) Tryz.func39 rfl (by decide) Tryz.ntmps39 (Nat.le_of_ble_eq_true rfl) fun base => ?_;refine wrs fun K hK => ?_;conv => whnf
  refine hK _ ?_;clear hK K;refine wrs fun K hK => ?_;conv => whnf
  refine zc rfl (zeU p d 1 4) fun hs' hhs => ?_;try dsimp only at hhs
  conv => whnf
  rw [show (if isP p = true then (if 1 <= (d : Int) ∧ (d : Int) <= 4 then (0 : Int) else 2) else 1) = 0 from hc];refine hK _ ?_;clear hK K;refine W.seqK fun K1 hK1 => ?_;refine wrs fun K hK => ?_;conv => whnf
  refine hK _ (W.cond ⟨fun hcc => absurd rfl (of_decide_eq_true hcc), fun _ => W.skip (hK1 _ ?_)⟩);clear hK K hK1 K1;refine wrs fun K hK => ?_;conv => whnf
  refine ⟨oo, ?_⟩;conv => whnf
  refine ⟨rfl, ?_⟩;conv => whnf
  refine ⟨oo, ?_⟩;conv => whnf
  have e1 : ((d : Int) + 1).toNat = d + 1 := by omega
  rw [e1];intro b_2 hs_2 hh_2 hf_2;try dsimp only at hh_2 hf_2
  conv => whnf
  refine hK _ ?_;clear hK K;refine wrs fun K hK => ?_;conv => whnf
  refine ⟨⟨by omega, by simp; omega⟩, ?_⟩;conv => whnf
  rw [Int.toNat_natCast, hfl];refine hK _ ?_;clear hK K;refine wrs fun K hK => ?_;conv => whnf
  refine zc rfl (zeV p (some b_2) d (p.toNat ^ d) (by omega) (by omega) (Nat.le_refl _) (by omega) r hr) fun hs' hhs => ?_;try dsimp only at hhs
  conv => whnf
  refine hK _ ?_;clear hK K;refine W.ret ?_;conv => whnf
  exact ⟨.v (.ints none (zmY p.toNat r)), ⟨rfl, rfl⟩, trivial, .v (.int .i64 0), ⟨rfl, rfl⟩, trivial, rfl⟩
 ·rw [if_neg hc];refine ze (za [0, 1, 4, 5, 6, 7, 12]) Tryz.func39 rfl (by decide) Tryz.ntmps39 (Nat.le_of_ble_eq_true rfl) fun base => ?_;refine wrs fun K hK => ?_;conv => whnf
  refine hK _ ?_;clear hK K;refine wrs fun K hK => ?_;conv => whnf
  refine zc rfl (zeU p n 1 4) fun hs' hhs => ?_;try dsimp only at hhs
  conv => whnf
  rw [show (if isP p = true then (if 1 <= n ∧ n <= 4 then (0 : Int) else 2) else 1) = kQ p n from rfl];refine hK _ ?_;clear hK K;refine W.seqK fun K1 hK1 => ?_;refine wrs fun K hK => ?_;conv => whnf
  refine hK _ (W.cond ⟨fun _ => ?_, fun hcc => absurd hc (of_decide_eq_false hcc)⟩);clear hK K;refine wrs fun K hK => ?_;conv => whnf
  refine hK _ ?_;clear hK K;refine W.ret ?_;conv => whnf
  exact ⟨.v (.ints none []), rfl, trivial, .v (.int .i64 (kQ p n)), ⟨rfl, rfl⟩, trivial, rfl⟩



theorem zav {n : Nat} {c : Nat -> Int} (hc : Byt n c) : zg0 186 [] n c (fun r => ∃ q : Int, r = .int .i64 q ∧ q ∈ ([1, 4, 0, 97, 101, -3, 9, 2, 3, 5, 7, 11, 13, 17, 31] : List Int)) := by
 rintro b x hx;refine vV (cx := cxt [] [0, 2, 5, 1000000, 1000001]) (zF [] [0, 2, 5, 1000000, 1000001]) Tryz.func186 rfl (by decide) Tryz.ntmps186 (Nat.le_of_ble_eq_true rfl) (Nat.le_of_ble_eq_true rfl) rfl rfl fun base hs0 O U hw v0 hb0 => ?_;refine W.sw (c' := cx [0, 2, 5, 1000000, 1000001]) ?_;refine wrs fun K hK => ?_;conv => whnf
 refine hK _ ?_;clear hK K;refine W.seqK fun K1 hK1 => ?_;refine wrs fun K hK => ?_;conv => whnf
 refine ⟨⟨rfl, rfl⟩, ?_⟩;conv => whnf
 refine ⟨rfl, _, (zG hc 24 (by constructor <;> decide) b x hx), ?_⟩;rintro hs_ms1 av x' t' hh_ms1 ⟨rfl, ⟨x1, hx1, rfl⟩, _, rfl, ⟨q, rfl, q0, q1, q2⟩⟩ _ _ _;try dsimp only at hh_ms1
 conv => whnf
 refine hK _ (W.cond ⟨fun h => ?_, fun h => ?_⟩) <;> clear hK K
 ·refine wrs fun K hK => ?_;conv => whnf
  refine ⟨⟨rfl, by decide⟩, ?_⟩;conv => whnf
  intro b_7 hs_7 hh_7 hf_7;try dsimp only at hh_7 hf_7
  conv => whnf
  refine ⟨⟨rfl, rfl⟩, ?_⟩;conv => whnf
  refine ⟨rfl, _, (ki hc none [1, 4, 0, 97, 101, -3, 9] ⟨by decide, by decide⟩ b x1 hx1), ?_⟩;rintro hs_ms2 av x' t' hh_ms2 ⟨rfl, ⟨x2, hx2, rfl⟩, _, rfl, ⟨r, rfl, hr⟩⟩ _ _ _;try dsimp only at hh_ms2
  conv => whnf
  refine hK _ ?_;clear hK K
  have hr2 : r ∈ ([1, 4, 0, 97, 101, -3, 9, 2, 3, 5, 7, 11, 13, 17, 31] : List Int) := by
   simp only [List.mem_cons, List.not_mem_nil, or_false] at hr ⊢
   omega
  refine W.ret ?_;conv => whnf
  refine ⟨by dsimp only; omega, ?_⟩;conv => whnf
  refine ⟨rfl, ?_⟩;conv => whnf
  refine ⟨.int .i64 r, ⟨rfl, rfl⟩, ?_⟩;conv => whnf
  exact ⟨.ownB b (x2), ⟨rfl, rfl⟩, .inr ⟨rfl, rfl⟩, .dead, trivial, rfl, rfl, rfl, ⟨x2, hx2, rfl⟩, _, rfl, ⟨r, rfl, hr2⟩⟩
 refine W.skip (hK1 _ ?_);clear hK1 K1;refine wrs fun K hK => ?_;conv => whnf
 refine ⟨⟨rfl, by decide⟩, ?_⟩;conv => whnf
 intro b_7 hs_7 hh_7 hf_7;try dsimp only at hh_7 hf_7
 conv => whnf
 refine ⟨⟨rfl, rfl⟩, ?_⟩;conv => whnf
 refine ⟨rfl, _, (ki hc none [2, 3, 5, 7, 2, 3, 5, 11, 13, 17, 31] ⟨by decide, by decide⟩ b x1 hx1), ?_⟩;rintro hs_ms2 av x' t' hh_ms2 ⟨rfl, ⟨x2, hx2, rfl⟩, _, rfl, ⟨r, rfl, hr⟩⟩ _ _ _;try dsimp only at hh_ms2
 conv => whnf
 refine hK _ ?_;clear hK K
 have hr2 : r ∈ ([1, 4, 0, 97, 101, -3, 9, 2, 3, 5, 7, 11, 13, 17, 31] : List Int) := by
  simp only [List.mem_cons, List.not_mem_nil, or_false] at hr ⊢
  omega
 refine W.ret ?_;conv => whnf
 refine ⟨by dsimp only; omega, ?_⟩;conv => whnf
 refine ⟨rfl, ?_⟩;conv => whnf
 refine ⟨.int .i64 r, ⟨rfl, rfl⟩, ?_⟩;conv => whnf
 exact ⟨.ownB b (x2), ⟨rfl, rfl⟩, .inr ⟨rfl, rfl⟩, .dead, trivial, rfl, rfl, rfl, ⟨x2, hx2, rfl⟩, _, rfl, ⟨r, rfl, hr2⟩⟩

def PolL (p : Int) (d : Nat) (L : List Int) : Prop := 1 <= L.length ∧ L.length <= d + 1 ∧ (∀ j, 0 <= cf L j ∧ cf L j < p) ∧ cf L (L.length - 1) ≠ 0

theorem zbs {n : Nat} {c : Nat -> Int} (hc : Byt n c) (p : Int) (hp : 2 <= p ∧ p <= 1000) (d : Nat) (hd : d <= 100) : zg0 190 [.int .i64 p, .int .i64 d] n c (fun r => ∃ L, r = .ints none L ∧ PolL p d L) := by
 rintro b x hx;refine vV (cx := cxt [] [0, 1, 2, 6, 7, 8, 15, 1000000, 1000001]) (zF [] [0, 1, 2, 6, 7, 8, 15, 1000000, 1000001]) Tryz.func190 rfl (by decide) Tryz.ntmps190 (Nat.le_of_ble_eq_true rfl) (Nat.le_of_ble_eq_true rfl) rfl rfl fun base hs0 O U hw v0 hb0 => ?_;refine W.sw (c' := cx [0, 1, 2, 6, 7, 8, 15, 1000000, 1000001]) ?_;refine wrs fun K hK => ?_;conv => whnf
 refine hK _ ?_;clear hK K;refine wrs fun K hK => ?_;conv => whnf
 refine ⟨⟨rfl, by decide⟩, ?_⟩;conv => whnf
 intro b_7 hs_7 hh_7 hf_7;try dsimp only at hh_7 hf_7
 conv => whnf
 refine hK _ ?_;clear hK K;refine W.seqK fun K1 hK1 => wrs fun K hK => ?_;conv => whnf
 refine ⟨oo, ?_⟩;conv => whnf
 refine ⟨⟨rfl, rfl⟩, ?_⟩;conv => whnf
 refine ⟨rfl, _, (zG hc ((d : Int) + 1) (by constructor <;> omega) b x hx), ?_⟩;rintro hs_ms1 av x' t' hh_ms1 ⟨rfl, ⟨x1, hx1, rfl⟩, _, rfl, ⟨q, rfl, q0, q1, q2⟩⟩ _ _ _;try dsimp only at hh_ms1
 conv => whnf
 have hq : q <= d := by
  by_cases h : d = 0
  ·have := q2 (by omega); omega
  ·have := q1 (by omega); omega
 refine hK _ (W.block (W.invH hs0 hb0 (fun m e => ∃ (k bo : Nat) (y : V) (L : List Int), k <= d ∧ zf3 n c y ∧ L.length + k <= d ∧ (∀ j, 0 <= cf L j ∧ cf L j < p) ∧ m = k ∧ e = [(vt, .dead), (vk, .keep O U hw 0 v0), (0, .ownB b y), (1, .v (.int .i64 p)), (2, .v (.int .i64 d)), (7, .ownI 2 bo L), (8, .v (.int .i64 k))]) _ _ (⟨q.toNat, b_7, x1, [], by omega, hx1, by simp; omega, fun j => by rw [yK]; omega, rfl, by rw [Int.toNat_of_nonneg q0]⟩) (by dsimp only; omega) (by repeat' first | refine And.intro ?_ ?_ | exact trivial | rfl | omega | exact .inl rfl | exact fun _ _ => rfl | exact fun _ _ h => h | assumption | exact fun i hi => (by obtain rfl : i = 0 := (by omega); rfl)) ?_));clear hK K;rintro m e ⟨k, bo, y, L, h1, hy, h2, h3, hm, rfl⟩;refine W.seqK fun K7 hK7 => wrs fun K hK => ?_;conv => whnf
 refine hK _ (W.cond ⟨fun h5 => ?_, fun h5 => ?_⟩) <;> clear hK K <;> (first | replace h5 := of_decide_eq_true h5 | replace h5 := of_decide_eq_false h5)
 ·have hk : 1 <= k := by omega
  refine W.skip (hK7 _ (W.seqK fun K8 hK8 => W.block ?_));clear hK7 K7;refine wrg ?_;conv => whnf
  refine ⟨⟨rfl, rfl⟩, ?_⟩;conv => whnf
  refine ⟨rfl, _, (zG hc p (by constructor <;> omega) b y hy), ?_⟩;rintro hs_ms2 av x' t' hh_ms2 ⟨rfl, ⟨x2, hx2, rfl⟩, _, rfl, ⟨r1, rfl, r10, r11, _⟩⟩ _ _ _;try dsimp only at hh_ms2
  conv => whnf
  refine ⟨⟨rfl, rfl⟩, ?_⟩;conv => whnf
  refine ⟨rfl, _, (zG hc p (by constructor <;> omega) b x2 hx2), ?_⟩;rintro hs_ms3 av x' t' hh_ms3 ⟨rfl, ⟨x3, hx3, rfl⟩, _, rfl, ⟨r2, rfl, r20, r21, _⟩⟩ _ _ _;try dsimp only at hh_ms3
  conv => whnf
  have h11 := r11 (by omega);have h21 := r21 (by omega);refine ⟨⟨rfl, by decide⟩, ?_⟩;conv => whnf
  intro b_1 hs_1 hh_1 hf_1;try dsimp only at hh_1 hf_1
  conv => whnf
  refine ⟨⟨rfl, rfl⟩, ?_⟩;conv => whnf
  refine ⟨rfl, _, (ki hc none [r1, 0, r2] ⟨(by show 1 <= 3; omega), (by show 3 <= 1000; omega)⟩ b x3 hx3), ?_⟩;rintro hs_ms4 av x' t' hh_ms4 ⟨rfl, ⟨x4, hx4, rfl⟩, _, rfl, ⟨r, rfl, hr⟩⟩ _ _ _;try dsimp only at hh_ms4
  conv => whnf
  have hr : 0 <= r ∧ r < p := by
   simp only [List.mem_cons, List.not_mem_nil, or_false] at hr
   omega
  refine ⟨⟨rfl, by decide⟩, ?_⟩;conv => whnf
  intro b_2 hs_2 hh_2 hf_2;try dsimp only at hh_2 hf_2
  conv => whnf
  refine ⟨by simp; omega, ?_⟩;conv => whnf
  intro b_3 hs_3 hh_3 hf_3;try dsimp only at hh_3 hf_3
  conv => whnf
  refine hK8 _ ?_;clear hK8 K8;refine wrg ?_;conv => whnf
  refine ⟨oo, ?_⟩;conv => whnf
  have hL : ∀ j, 0 <= cf (L ++ [r]) j ∧ cf (L ++ [r]) j < p := fun j => by
   unfold cf;rw [List.getD_eq_getElem?_getD];rcases Nat.lt_trichotomy j L.length with hj | hj | hj
   ·rw [List.getElem?_append_left hj, <- List.getD_eq_getElem?_getD]; exact h3 j
   ·rw [List.getElem?_append_right (by omega), hj, Nat.sub_self]; exact hr
   ·rw [List.getElem?_eq_none (by simp; omega)]; show (0 : Int) <= 0 ∧ (0 : Int) < p; omega
  rw [show ((k : Int) - 1) = ((k - 1 : Nat) : Int) by omega];exact zj ⟨k - 1, b_3, x4, L ++ [r], by omega, hx4, by simp; omega, hL, rfl, rfl⟩
 ·obtain rfl : k = 0 := by omega
  refine W.exit (hK1 _ ?_);clear hK7 K7 hK1 K1;refine wrs fun K hK => ?_;conv => whnf
  refine ⟨oo, ?_⟩;conv => whnf
  refine ⟨⟨rfl, rfl⟩, ?_⟩;conv => whnf
  refine ⟨rfl, _, (zG hc (p - 1) (by constructor <;> omega) b y hy), ?_⟩;rintro hs_ms2 av x' t' hh_ms2 ⟨rfl, ⟨x2, hx2, rfl⟩, _, rfl, ⟨r1, rfl, r10, r11, r12⟩⟩ _ _ _;try dsimp only at hh_ms2
  conv => whnf
  refine ⟨⟨rfl, rfl⟩, ?_⟩;conv => whnf
  refine ⟨rfl, _, (zG hc 2 (by constructor <;> decide) b x2 hx2), ?_⟩;rintro hs_ms3 av x' t' hh_ms3 ⟨rfl, ⟨x3, hx3, rfl⟩, _, rfl, ⟨r2, rfl, r20, r21, _⟩⟩ _ _ _;try dsimp only at hh_ms3
  conv => whnf
  have h11 : r1 <= p - 2 := by
   by_cases h : 1 < p - 1
   ·have := r11 h; omega
   ·have := r12 (by omega); omega
  have h21 := r21 (by omega)
  have hmul : 0 <= r1 * r2 ∧ r1 * r2 <= p - 2 := by
   have : r2 = 0 ∨ r2 = 1 := by omega
   rcases this with rfl | rfl <;> simp <;> omega
  refine ⟨by show _ <= r1 * r2 ∧ r1 * r2 <= _; omega, ?_⟩;conv => whnf
  refine ⟨by show _ <= 1 + r1 * r2 ∧ 1 + r1 * r2 <= _; omega, ?_⟩;conv => whnf
  refine ⟨⟨rfl, by decide⟩, ?_⟩;conv => whnf
  intro b_1 hs_1 hh_1 hf_1;try dsimp only at hh_1 hf_1
  conv => whnf
  refine ⟨by simp; omega, ?_⟩;conv => whnf
  intro b_2 hs_2 hh_2 hf_2;try dsimp only at hh_2 hf_2
  conv => whnf
  refine hK _ ?_;clear hK K
  have hL : PolL p d (L ++ [1 + r1 * r2]) := by
   have hlen : (L ++ [1 + r1 * r2]).length = L.length + 1 := by simp
   refine ⟨by omega, by omega, fun j => ?_, ?_⟩
   ·unfold cf;rw [List.getD_eq_getElem?_getD];rcases Nat.lt_trichotomy j L.length with hj | hj | hj
    ·rw [List.getElem?_append_left hj, <- List.getD_eq_getElem?_getD]; exact h3 j
    ·rw [List.getElem?_append_right (by omega), hj, Nat.sub_self]; show (0 : Int) <= 1 + r1 * r2 ∧ 1 + r1 * r2 < p; omega
    ·rw [List.getElem?_eq_none (by omega)]; show (0 : Int) <= 0 ∧ (0 : Int) < p; omega
   ·rw [hlen];unfold cf;rw [List.getD_eq_getElem?_getD, List.getElem?_append_right (by omega), show L.length + 1 - 1 - L.length = 0 by omega];show (1 + r1 * r2 : Int) ≠ 0
    omega
  refine W.ret ?_;conv => whnf
  refine ⟨by dsimp only; omega, ?_⟩;conv => whnf
  refine ⟨rfl, ?_⟩;conv => whnf
  refine ⟨.ints none (L ++ [1 + r1 * r2]), ⟨.inl rfl, rfl⟩, ?_⟩;conv => whnf
  exact ⟨.ownB b (x3), ⟨rfl, rfl⟩, .inr ⟨rfl, rfl⟩, .dead, trivial, rfl, rfl, rfl, ⟨x3, hx3, rfl⟩, _, rfl, ⟨_, rfl, hL⟩⟩

theorem zjN {n : Nat} {c : Nat -> Int} (hc : Byt n c) : zg0 315 [] n c (fun r => ∃ (p : Int) (L : List Int), r = vK p none L ∧ (2 <= p ∧ p <= 7) ∧ L.length <= 9) := by
 rintro b x hx;refine vV (cx := cxt [] [0, 2, 3, 4, 5, 6, 7, 19, 36, 1000000, 1000001]) (zF [] [0, 2, 3, 4, 5, 6, 7, 19, 36, 1000000, 1000001]) Tryz.func315 rfl (by decide) Tryz.ntmps315 (Nat.le_of_ble_eq_true rfl) (Nat.le_of_ble_eq_true rfl) rfl rfl fun base hs0 O U hw v0 hb0 => ?_;refine W.sw (c' := cx [0, 2, 3, 4, 5, 6, 7, 19, 36, 1000000, 1000001]) ?_;refine wrs fun K hK => ?_;conv => whnf
 intro b_2 hs_2 hh_2 hf_2;try dsimp only at hh_2 hf_2
 conv => whnf
 refine hK _ ?_;clear hK K;refine wrs fun K hK => ?_;conv => whnf
 refine ⟨⟨rfl, by decide⟩, ?_⟩;conv => whnf
 intro b_7 hs_7 hh_7 hf_7;try dsimp only at hh_7 hf_7
 conv => whnf
 refine ⟨⟨rfl, rfl⟩, ?_⟩;conv => whnf
 refine ⟨rfl, _, (ki hc none [2, 3, 5, 2, 3, 7] ⟨by decide, by decide⟩ b x hx), ?_⟩;rintro hs_ms1 av x' t' hh_ms1 ⟨rfl, ⟨x1, hx1, rfl⟩, _, rfl, ⟨p, rfl, hp⟩⟩ _ _ _;try dsimp only at hh_ms1
 conv => whnf
 refine hK _ ?_;clear hK K
 have hpp : p ∈ zS := by
  simp only [List.mem_cons, List.not_mem_nil, or_false] at hp
  unfold zS;simp only [List.mem_cons, List.not_mem_nil, or_false]
  omega
 have hp27 : 2 <= p ∧ p <= 7 := by
  simp only [List.mem_cons, List.not_mem_nil, or_false] at hp
  omega
 letI := yv hpp;refine wrs fun K hK => ?_;conv => whnf
 refine ⟨⟨rfl, rfl⟩, ?_⟩;conv => whnf
 refine ⟨rfl, _, (zG hc 4 (by constructor <;> decide) b x1 hx1), ?_⟩;rintro hs_ms2 av x' t' hh_ms2 ⟨rfl, ⟨x2, hx2, rfl⟩, _, rfl, ⟨q, rfl, q0, q1, _⟩⟩ _ _ _;try dsimp only at hh_ms2
 conv => whnf
 have hq4 := q1 (by decide);refine ⟨oo, ?_⟩;conv => whnf
 refine hK _ ?_;clear hK K;obtain ⟨d, hd⟩ : ∃ d : Nat, 1 + q = d := ⟨(1 + q).toNat, by omega⟩
 rw [hd];have hd14 : 1 <= d ∧ d <= 4 := by omega
 refine wrs fun K hK => ?_;conv => whnf
 refine ⟨oo, ?_⟩;conv => whnf
 refine ⟨rfl, ?_⟩;conv => whnf
 refine ⟨oo, ?_⟩;conv => whnf
 intro b_5 hs_5 hh_5 hf_5;try dsimp only at hh_5 hf_5
 conv => whnf
 refine hK _ ?_;clear hK K;refine W.seqK fun K1 hK1 => wrs fun K hK => ?_;conv => whnf
 refine hK _ (W.block (W.invH hs0 hb0 (fun m e => ∃ (i bo : Nat) (y : V) (X : List Int), i <= d ∧ zf3 n c y ∧ X.length = d + 1 ∧ (∀ j, 0 <= cf X j ∧ cf X j < p) ∧ m = d - i ∧ e = [(vt, .dead), (vk, .keep O U hw 0 v0), (0, .ownB b y), (2, .ownB b_2 (.agg [.int .i64 0, .nil])), (3, .v (.int .i64 p)), (4, .v (.int .i64 d)), (5, .ownI 2 bo X), (6, .v (.int .i64 i))]) _ _ (⟨0, b_5, x2, List.replicate (d + 1) 0, Nat.zero_le _, hx2, by simp, fun j => by rw [zI]; omega, rfl, rfl⟩) (by dsimp only; omega) (by repeat' first | refine And.intro ?_ ?_ | exact trivial | rfl | omega | exact .inl rfl | exact fun _ _ => rfl | exact fun _ _ h => h | assumption | exact fun i hi => (by obtain rfl : i = 0 := (by omega); rfl)) ?_));clear hK K;rintro m e ⟨i, bo, y, X, h1, hy, h2, h3, hm, rfl⟩;refine W.seqK fun K7 hK7 => wrs fun K hK => ?_;conv => whnf
 refine hK _ (W.cond ⟨fun h5 => ?_, fun h5 => ?_⟩) <;> clear hK K <;> (first | replace h5 := of_decide_eq_true h5 | replace h5 := of_decide_eq_false h5)
 ·have hi : i < d := by omega
  refine W.skip (hK7 _ (W.seqK fun K8 hK8 => W.block ?_));clear hK7 K7;refine wrg ?_;conv => whnf
  refine ⟨⟨rfl, rfl⟩, ?_⟩;conv => whnf
  refine ⟨rfl, _, (zG hc p (by constructor <;> omega) b y hy), ?_⟩;rintro hs_ms3 av x' t' hh_ms3 ⟨rfl, ⟨x3, hx3, rfl⟩, _, rfl, ⟨r1, rfl, r10, r11, _⟩⟩ _ _ _;try dsimp only at hh_ms3
  conv => whnf
  have h11 := r11 (by omega);refine ⟨oo, ?_⟩;conv => whnf
  rw [Int.toNat_natCast];refine hK8 _ ?_;clear hK8 K8;refine wrg ?_;conv => whnf
  refine ⟨oo, ?_⟩;conv => whnf
  have hX : ∀ j, 0 <= cf (X.set i r1) j ∧ cf (X.set i r1) j < p := fun j => by
   unfold cf;rw [List.getD_eq_getElem?_getD, List.getElem?_set]
   by_cases hj : i = j
   ·rw [if_pos hj, if_pos (by omega)]; exact ⟨r10, h11⟩
   ·rw [if_neg hj, <- List.getD_eq_getElem?_getD]; exact h3 j
  exact zj ⟨i + 1, bo, x3, X.set i r1, by omega, hx3, by simp; omega, hX, rfl, rfl⟩
 ·obtain rfl : i = d := by omega
  have hp1 := yq hpp
  have hT : Top p.toNat i (X.set i 1) := by
   refine ⟨by simp; omega, ?_, fun z hz => ?_⟩
   ·unfold cf; rw [List.getD_eq_getElem?_getD, List.getElem?_set_self (by omega)]; rfl
   ·obtain ⟨j, hj, rfl⟩ := List.mem_iff_getElem.1 hz;rw [List.getElem_set]
    split
    ·omega
    ·have := h3 j;rw [yE (by simpa using hj)] at this;omega
  have hdig := hT.dig (by omega);have hrng := hT.range (by omega);obtain ⟨r, hr⟩ := v3 (fun n => Irr (zN p n)) (num p.toNat (X.set i 1)) (2 * p.toNat ^ i);obtain ⟨r2, hr2⟩ := v3 (fun n => Irr (zN p n)) (p.toNat ^ i) (2 * p.toNat ^ i)
  have ho : ∀ {a : Nat} {q : Option Nat}, p.toNat ^ i <= a -> kP (fun n => Irr (zN p n)) a (2 * p.toNat ^ i) q -> (zmY p.toNat q).length <= 9 := fun {a q} ha hq => by
   cases q with
   | none => show 0 <= 9; omega
   | some v =>
    have := (zmE (p := p.toNat) (d := i) (k := v) (by omega) (by have := hq.1; omega) hq.2.1).len;show (dig p.toNat v).length <= 9
    omega
  refine W.exit (hK1 _ ?_);clear hK7 K7 hK1 K1;refine wrs fun K hK => ?_;conv => whnf
  refine ⟨oo, ?_⟩;conv => whnf
  rw [Int.toNat_natCast];refine hK _ ?_;clear hK K;refine wrs fun K hK => ?_;conv => whnf
  refine zc rfl ((by have := zeV p (some bo) i (num p.toNat (X.set i 1)) hd14.1 hd14.2 hrng.1 hrng.2 r hr; rw [hdig] at this; exact this)) fun hs' hhs => ?_;try dsimp only at hhs
  conv => whnf
  refine hK _ ?_;clear hK K;refine W.seqK fun K1 hK1 => ?_
  have fin : ∀ (L : List Int) (t : S), L.length <= 9 -> hs0 <= t.hs -> zA t.env [(vt, .dead), (vk, .keep O U hw 0 v0), (0, .ownB b y), (2, .ownB b_2 (.agg [.int .i64 0, .nil])), (3, .v (.int .i64 p)), (7, .v (.ints none L))] -> K1 t := by
   intro L t hL h9 h10;refine hK1 _ (W.weak (t := ⟨[(vt, .dead), (vk, .keep O U hw 0 v0), (0, .ownB b y), (2, .ownB b_2 (.agg [.int .i64 0, .nil])), (3, .v (.int .i64 p)), (7, .v (.ints none L))], hs0⟩) ⟨h9, h10⟩ hb0 ?_);clear hK1 K1;refine wrs fun K hK => ?_;conv => whnf
   refine ⟨s23, ?_⟩;conv => whnf
   refine hK _ ?_;clear hK K;refine W.ret ?_;conv => whnf
   refine ⟨by dsimp only; omega, ?_⟩;conv => whnf
   exact ⟨.ownB b (y), ⟨rfl, rfl⟩, .inr ⟨rfl, rfl⟩, .dead, trivial, rfl, rfl, rfl, ⟨y, hy, rfl⟩, _, rfl, ⟨p, L, rfl, hp27, hL⟩⟩
  refine wrs fun K hK => ?_;conv => whnf
  refine hK _ (W.cond ⟨fun h => ?_, fun h => ?_⟩) <;> clear hK K
  ·have hcn : kQ p i = 0 := by
    unfold kQ;rw [if_pos (show isP p = true from decide_eq_true hpp), if_pos (by omega)]
   refine wrg ?_;conv => whnf
   refine zc rfl ((by have := zaL p i r2 (fun _ _ => by rw [Int.toNat_natCast]; exact hr2); rw [if_pos hcn] at this; exact this)) fun hs' hhs => ?_;try dsimp only at hhs
   conv => whnf
   refine fin _ _ (ho (Nat.le_refl _) hr2) (by dsimp only; omega) ?_;exact cvr
  ·refine W.skip (fin _ _ (ho hrng.1 hr) (by dsimp only; omega) ?_);exact cvr


def QK (r : V) : Prop := ∃ (p : Int) (L : List Int), r = vK p none L ∧ (-1000 <= p ∧ p <= 1000) ∧ L.length <= 100


theorem zgb {n : Nat} {c : Nat -> Int} (hc : Byt n c) : zg0 168 [] n c QK := by
 rintro b x hx;refine vV (cx := cxt [] [0, 2, 3, 7, 8, 17, 24, 1000000, 1000001]) (zF [] [0, 2, 3, 7, 8, 17, 24, 1000000, 1000001]) Tryz.func168 rfl (by decide) Tryz.ntmps168 (Nat.le_of_ble_eq_true rfl) (Nat.le_of_ble_eq_true rfl) rfl rfl fun base hs0 O U hw v0 hb0 => ?_;refine W.sw (c' := cx [0, 2, 3, 7, 8, 17, 24, 1000000, 1000001]) ?_;refine wrs fun K hK => ?_;conv => whnf
 intro b_2 hs_2 hh_2 hf_2;try dsimp only at hh_2 hf_2
 conv => whnf
 refine hK _ ?_;clear hK K;refine wrs fun K hK => ?_;conv => whnf
 refine ⟨⟨rfl, rfl⟩, ?_⟩;conv => whnf
 refine ⟨rfl, _, (zjN hc b x hx), ?_⟩;rintro hs_ms1 av x' t' hh_ms1 ⟨rfl, ⟨x1, hx1, rfl⟩, _, rfl, ⟨p, L, rfl, hp, hL⟩⟩ _ _ _;try dsimp only at hh_ms1
 conv => whnf
 intro b_3 hs_3 hh_3 hf_3;try dsimp only at hh_3 hf_3
 conv => whnf
 refine ⟨s23, ?_⟩;conv => whnf
 refine hK _ ?_;clear hK K;refine W.seqK fun K1 hK1 => ?_;refine wrs fun K hK => ?_;conv => whnf
 refine ⟨⟨rfl, rfl⟩, ?_⟩;conv => whnf
 refine ⟨rfl, _, (zG hc 24 (by constructor <;> decide) b x1 hx1), ?_⟩;rintro hs_ms2 av x' t' hh_ms2 ⟨rfl, ⟨x2, hx2, rfl⟩, _, rfl, ⟨q, rfl, q0, q1, _⟩⟩ _ _ _;try dsimp only at hh_ms2
 conv => whnf
 refine hK _ (W.block ?_);clear hK K;refine wrs fun K hK => ?_;conv => whnf
 refine hK _ (W.cond ⟨fun h => ?_, fun h => ?_⟩) <;> clear hK K
 ·refine W.seqK fun K2 hK2 => W.sch follows ?_;refine Wany.takeF (za []) 0 (by rfl) (by rfl) (by rfl) (by rfl) (by decide) (by kernel_rfl) (by kernel_rfl) (by kernel_rfl) ?_;conv => whnf
  refine wt 2 ?_;conv => whnf
  refine Wany.takeF (za []) 3 (by rfl) (by rfl) (by rfl) (by rfl) (by decide) (by kernel_rfl) (by kernel_rfl) (by kernel_rfl) ?_;conv => whnf
  refine w2 1 4 ?_ ?_ <;> conv => whnf
  ·refine w1 4 ?_;conv => whnf
   refine w1 5 ?_;conv => whnf
   refine ⟨⟨rfl, rfl⟩, ?_⟩;conv => whnf
   refine ⟨rfl, _, (zbs hc p (by omega) 4 (by omega) b x2 hx2), ?_⟩;rintro hs_ms3 av x' t' hh_ms3 ⟨rfl, ⟨x3, hx3, rfl⟩, _, rfl, ⟨L2, rfl, hL2⟩⟩ _ _ _;try dsimp only at hh_ms3
   conv => whnf
   refine wt 6 ?_;conv => whnf
   refine w1 7 ?_;conv => whnf
   refine ⟨s23, ?_⟩;conv => whnf
   refine wd1 (hK2 _ ?_);clear hK2 K2;refine W.ret ?_;conv => whnf
   refine ⟨by dsimp only; omega, ?_⟩;conv => whnf
   exact ⟨.ownB b (x3), ⟨rfl, rfl⟩, .inr ⟨rfl, rfl⟩, .dead, trivial, rfl, rfl, rfl, ⟨x3, hx3, rfl⟩, _, rfl, ⟨p, L2, rfl, by omega, by have := hL2.2.1; omega⟩⟩
  ·refine w2 1 5 ?_ ?_ <;> conv => whnf
   ·refine w1 5 ?_;conv => whnf
    refine ⟨⟨rfl, rfl⟩, ?_⟩;conv => whnf
    refine ⟨rfl, _, (zbs hc p (by omega) 4 (by omega) b x2 hx2), ?_⟩;rintro hs_ms3 av x' t' hh_ms3 ⟨rfl, ⟨x3, hx3, rfl⟩, _, rfl, ⟨L2, rfl, hL2⟩⟩ _ _ _;try dsimp only at hh_ms3
    conv => whnf
    refine wt 6 ?_;conv => whnf
    refine w1 7 ?_;conv => whnf
    refine ⟨s23, ?_⟩;conv => whnf
    refine wd1 (hK2 _ ?_);clear hK2 K2;refine W.ret ?_;conv => whnf
    refine ⟨by dsimp only; omega, ?_⟩;conv => whnf
    exact ⟨.ownB b (x3), ⟨rfl, rfl⟩, .inr ⟨rfl, rfl⟩, .dead, trivial, rfl, rfl, rfl, ⟨x3, hx3, rfl⟩, _, rfl, ⟨p, L2, rfl, by omega, by have := hL2.2.1; omega⟩⟩
   ·refine ⟨⟨rfl, rfl⟩, ?_⟩;conv => whnf
    refine ⟨rfl, _, (zbs hc p (by omega) 4 (by omega) b x2 hx2), ?_⟩;rintro hs_ms3 av x' t' hh_ms3 ⟨rfl, ⟨x3, hx3, rfl⟩, _, rfl, ⟨L2, rfl, hL2⟩⟩ _ _ _;try dsimp only at hh_ms3
    conv => whnf
    refine w1 1 ?_;conv => whnf
    refine wt 6 ?_;conv => whnf
    refine w1 7 ?_;conv => whnf
    refine ⟨s23, ?_⟩;conv => whnf
    refine wd1 (hK2 _ ?_);clear hK2 K2;refine W.ret ?_;conv => whnf
    refine ⟨by dsimp only; omega, ?_⟩;conv => whnf
    exact ⟨.ownB b (x3), ⟨rfl, rfl⟩, .inr ⟨rfl, rfl⟩, .dead, trivial, rfl, rfl, rfl, ⟨x3, hx3, rfl⟩, _, rfl, ⟨p, L2, rfl, by omega, by have := hL2.2.1; omega⟩⟩
-- 3 ways
 refine wrs fun K hK => ?_;conv => whnf
 refine hK _ (W.cond ⟨fun h1 => ?_, fun h1 => ?_⟩) <;> clear hK K
 ·refine W.seqK fun K2 hK2 => W.sch follows ?_;refine wt 0 ?_;conv => whnf
  refine Wany.takeF (za []) 2 (by rfl) (by rfl) (by rfl) (by rfl) (by decide) (by kernel_rfl) (by kernel_rfl) (by kernel_rfl) ?_;conv => whnf
  refine w2 1 3 ?_ ?_ <;> conv => whnf
  ·refine ⟨⟨rfl, rfl⟩, ?_⟩;conv => whnf
   refine ⟨rfl, _, (zav hc b x2 hx2), ?_⟩;rintro hs_ms3 av x' t' hh_ms3 ⟨rfl, ⟨x3, hx3, rfl⟩, _, rfl, ⟨p2, rfl, hp2⟩⟩ _ _ _;try dsimp only at hh_ms3
   conv => whnf
   refine w1 3 ?_;conv => whnf
   refine wt 4 ?_;conv => whnf
   refine w1 5 ?_;conv => whnf
   refine ⟨s23, ?_⟩;conv => whnf
   refine wd1 (hK2 _ ?_);clear hK2 K2;have hp3 : -1000 <= p2 ∧ p2 <= 1000 := by (simp only [List.mem_cons, List.not_mem_nil, or_false] at hp2; omega)
   refine W.ret ?_;conv => whnf
   refine ⟨by dsimp only; omega, ?_⟩;conv => whnf
   exact ⟨.ownB b (x3), ⟨rfl, rfl⟩, .inr ⟨rfl, rfl⟩, .dead, trivial, rfl, rfl, rfl, ⟨x3, hx3, rfl⟩, _, rfl, ⟨p2, L, rfl, hp3, by omega⟩⟩
  ·refine w1 1 ?_;conv => whnf
   refine ⟨⟨rfl, rfl⟩, ?_⟩;conv => whnf
   refine ⟨rfl, _, (zav hc b x2 hx2), ?_⟩;rintro hs_ms3 av x' t' hh_ms3 ⟨rfl, ⟨x3, hx3, rfl⟩, _, rfl, ⟨p2, rfl, hp2⟩⟩ _ _ _;try dsimp only at hh_ms3
   conv => whnf
   refine wt 4 ?_;conv => whnf
   refine w1 5 ?_;conv => whnf
   refine ⟨s23, ?_⟩;conv => whnf
   refine wd1 (hK2 _ ?_);clear hK2 K2;have hp3 : -1000 <= p2 ∧ p2 <= 1000 := by (simp only [List.mem_cons, List.not_mem_nil, or_false] at hp2; omega)
   refine W.ret ?_;conv => whnf
   refine ⟨by dsimp only; omega, ?_⟩;conv => whnf
   exact ⟨.ownB b (x3), ⟨rfl, rfl⟩, .inr ⟨rfl, rfl⟩, .dead, trivial, rfl, rfl, rfl, ⟨x3, hx3, rfl⟩, _, rfl, ⟨p2, L, rfl, hp3, by omega⟩⟩
-- 2 ways
 refine wrs fun K hK => ?_;conv => whnf
 refine hK _ (W.cond ⟨fun h2 => ?_, fun h2 => ?_⟩) <;> clear hK K
 ·refine wrs fun K hK => ?_;conv => whnf
  refine ⟨⟨rfl, by decide⟩, ?_⟩;conv => whnf
  intro b_26 hs_26 hh_26 hf_26;try dsimp only at hh_26 hf_26
  conv => whnf
  refine ⟨⟨rfl, by decide⟩, ?_⟩;conv => whnf
  intro b_27 hs_27 hh_27 hf_27;try dsimp only at hh_27 hf_27
  conv => whnf
  refine ⟨⟨rfl, by decide⟩, ?_⟩;conv => whnf
  intro b_28 hs_28 hh_28 hf_28;try dsimp only at hh_28 hf_28
  conv => whnf
  refine ⟨⟨rfl, by decide⟩, ?_⟩;conv => whnf
  intro b_29 hs_29 hh_29 hf_29;try dsimp only at hh_29 hf_29
  conv => whnf
  refine ⟨⟨rfl, by decide, fun y hy => by simp at hy; rcases hy with rfl | rfl | rfl | rfl <;> exact ⟨rfl, rfl⟩⟩, ?_⟩;conv => whnf
  intro b_30 hs_30 hh_30 hf_30;try dsimp only at hh_30 hf_30
  conv => whnf
  refine ⟨⟨rfl, rfl⟩, ?_⟩;conv => whnf
  refine ⟨rfl, _, (zG hc 4 (by constructor <;> decide) b x2 hx2), ?_⟩;rintro hs_ms3 av x' t' hh_ms3 ⟨rfl, ⟨x3, hx3, rfl⟩, _, rfl, ⟨u, rfl, u0, u1, _⟩⟩ _ _ _;try dsimp only at hh_ms3
  conv => whnf
  have hu := u1 (by decide);have hu4 : u = 0 ∨ u = 1 ∨ u = 2 ∨ u = 3 := by omega
  rcases hu4 with rfl | rfl | rfl | rfl
  ·refine ⟨⟨by decide, by decide⟩, ?_⟩;conv => whnf
   refine ⟨s23, ?_⟩;conv => whnf
   refine hK _ ?_;clear hK K;refine W.ret ?_;conv => whnf
   refine ⟨by dsimp only; omega, ?_⟩;conv => whnf
   exact ⟨.ownB b (x3), ⟨rfl, rfl⟩, .inr ⟨rfl, rfl⟩, .dead, trivial, rfl, rfl, rfl, ⟨x3, hx3, rfl⟩, _, rfl, ⟨2, _, rfl, ⟨by decide, by decide⟩, (by decide)⟩⟩
  ·refine ⟨⟨by decide, by decide⟩, ?_⟩;conv => whnf
   refine ⟨s23, ?_⟩;conv => whnf
   refine hK _ ?_;clear hK K;refine W.ret ?_;conv => whnf
   refine ⟨by dsimp only; omega, ?_⟩;conv => whnf
   exact ⟨.ownB b (x3), ⟨rfl, rfl⟩, .inr ⟨rfl, rfl⟩, .dead, trivial, rfl, rfl, rfl, ⟨x3, hx3, rfl⟩, _, rfl, ⟨2, _, rfl, ⟨by decide, by decide⟩, (by decide)⟩⟩
  ·refine ⟨⟨by decide, by decide⟩, ?_⟩;conv => whnf
   refine ⟨s23, ?_⟩;conv => whnf
   refine hK _ ?_;clear hK K;refine W.ret ?_;conv => whnf
   refine ⟨by dsimp only; omega, ?_⟩;conv => whnf
   exact ⟨.ownB b (x3), ⟨rfl, rfl⟩, .inr ⟨rfl, rfl⟩, .dead, trivial, rfl, rfl, rfl, ⟨x3, hx3, rfl⟩, _, rfl, ⟨2, _, rfl, ⟨by decide, by decide⟩, (by decide)⟩⟩
  ·refine ⟨⟨by decide, by decide⟩, ?_⟩;conv => whnf
   refine ⟨s23, ?_⟩;conv => whnf
   refine hK _ ?_;clear hK K;refine W.ret ?_;conv => whnf
   refine ⟨by dsimp only; omega, ?_⟩;conv => whnf
   exact ⟨.ownB b (x3), ⟨rfl, rfl⟩, .inr ⟨rfl, rfl⟩, .dead, trivial, rfl, rfl, rfl, ⟨x3, hx3, rfl⟩, _, rfl, ⟨2, _, rfl, ⟨by decide, by decide⟩, (by decide)⟩⟩
 refine W.skip (hK1 _ ?_);clear hK1 K1;refine wrs fun K hK => ?_;conv => whnf
 refine ⟨s23, ?_⟩;conv => whnf
 refine hK _ ?_;clear hK K;refine W.ret ?_;conv => whnf
 refine ⟨by dsimp only; omega, ?_⟩;conv => whnf
 exact ⟨.ownB b (x2), ⟨rfl, rfl⟩, .inr ⟨rfl, rfl⟩, .dead, trivial, rfl, rfl, rfl, ⟨x2, hx2, rfl⟩, _, rfl, ⟨p, L, rfl, by omega, by omega⟩⟩

theorem yk {n : Nat} {c : Nat -> Int} (hc : Byt n c) (p : Int) (l : List Int) (hl : l.length <= 100) : zg0 229 [vK p none l] n c (fun r => ∃ L, r = .ints none L ∧ L.length <= 100000) := by
 rintro b x hx;refine vV (cx := cxt [] [0, 1, 3, 4, 7, 11, 1000000, 1000001]) (zF [] [0, 1, 3, 4, 7, 11, 1000000, 1000001]) Tryz.func229 rfl (by decide) Tryz.ntmps229 (Nat.le_of_ble_eq_true rfl) (Nat.le_of_ble_eq_true rfl) rfl rfl fun base hs0 O U hw v0 hb0 => ?_;refine W.sw (c' := cx [0, 1, 3, 4, 7, 11, 1000000, 1000001]) ?_;refine wrs fun K hK => ?_;conv => whnf
 refine ⟨rfl, ?_⟩;conv => whnf
 intro b_3 hs_3 hh_3 hf_3;try dsimp only at hh_3 hf_3
 conv => whnf
 refine hK _ ?_;clear hK K;refine W.seqK fun K1 hK1 => ?_;refine wrs fun K hK => ?_;conv => whnf
 refine zc rfl (y5 p none l (by omega)) fun hs' hhs => ?_;try dsimp only at hhs
 conv => whnf
 refine hK _ (W.cond ⟨fun h => ?_, fun h => ?_⟩) <;> clear hK K
 ·refine wrs fun K hK => ?_;conv => whnf
  refine ⟨⟨rfl, by decide⟩, ?_⟩;conv => whnf
  intro b_8 hs_8 hh_8 hf_8;try dsimp only at hh_8 hf_8
  conv => whnf
  refine hK _ ?_;clear hK K;refine W.ret ?_;conv => whnf
  refine ⟨by dsimp only; omega, ?_⟩;conv => whnf
  refine ⟨rfl, ?_⟩;conv => whnf
  refine ⟨.ints none [1], ⟨.inl rfl, rfl⟩, ?_⟩;conv => whnf
  exact ⟨.ownB b (x), ⟨rfl, rfl⟩, .inr ⟨rfl, rfl⟩, .dead, trivial, rfl, rfl, rfl, ⟨x, hx, rfl⟩, _, rfl, ⟨_, rfl, by decide⟩⟩
 have hk : IsFld p l := zbp.1 (by simpa using h);refine W.skip (hK1 _ ?_);clear hK1 K1;refine W.seqK fun K1 hK1 => ?_;refine wrs fun K hK => ?_;conv => whnf
 refine ⟨⟨rfl, rfl⟩, ?_⟩;conv => whnf
 refine ⟨rfl, _, (zG hc 24 (by constructor <;> decide) b x hx), ?_⟩;rintro hs_ms1 av x' t' hh_ms1 ⟨rfl, ⟨x1, hx1, rfl⟩, _, rfl, ⟨q, rfl, q0, q1, _⟩⟩ _ _ _;try dsimp only at hh_ms1
 conv => whnf
 refine hK _ (W.cond ⟨fun h1 => ?_, fun h1 => ?_⟩) <;> clear hK K
 ·refine wrs fun K hK => ?_;conv => whnf
  refine hK _ ?_;clear hK K;refine W.ret ?_;conv => whnf
  refine ⟨by dsimp only; omega, ?_⟩;conv => whnf
  refine ⟨rfl, ?_⟩;conv => whnf
  refine ⟨.ints none l, ⟨rfl, rfl⟩, ?_⟩;conv => whnf
  exact ⟨.ownB b (x1), ⟨rfl, rfl⟩, .inr ⟨rfl, rfl⟩, .dead, trivial, rfl, rfl, rfl, ⟨x1, hx1, rfl⟩, _, rfl, ⟨_, rfl, by omega⟩⟩
 refine W.skip (hK1 _ ?_);clear hK1 K1;have hp2 := zbq hk.mod.1;have ho := hk.ord;have hpos : 0 < p ^ (l.length - 1) := Int.pow_pos (by omega);refine W.seqK fun K2 hK2 => W.sch follows ?_;refine wt 1 ?_;conv => whnf
 refine w2 0 2 ?_ ?_ <;> conv => whnf
 ·refine w1 2 ?_;conv => whnf
  refine w1 3 ?_;conv => whnf
  refine zc rfl (yb p none l hk) fun hs' hhs => ?_;try dsimp only at hhs
  conv => whnf
  refine w1 4 ?_;conv => whnf
  refine ⟨⟨rfl, rfl⟩, ?_⟩;conv => whnf
  refine ⟨rfl, _, (zG hc (p ^ (l.length - 1)) (by constructor <;> omega) b x1 hx1), ?_⟩;rintro hs_ms2 av x' t' hh_ms2 ⟨rfl, ⟨x2, hx2, rfl⟩, _, rfl, ⟨u, rfl, u0, u1, u2⟩⟩ _ _ _;try dsimp only at hh_ms2
  obtain ⟨k, rfl⟩ : ∃ k : Nat, u = k := ⟨u.toNat, by omega⟩
  have hk2 : k <= 20000 := by (by_cases hh : 1 < p ^ (l.length - 1); (have := u1 hh; omega); (have := u2 (by omega); omega))
  conv => whnf
  refine w1 5 ?_;conv => whnf
  refine zc rfl (jy p none l k hp2.1 (by omega)) fun hs' hhs => ?_;try dsimp only at hhs
  conv => whnf
  refine w1 6 ?_;conv => whnf
  refine wd1 (hK2 _ ?_);clear hK2 K2;have hdl : (dig p.toNat k).length <= 100000 := by (have := yQ (p := p.toNat) (by omega) k k (Nat.lt_pow_self (by omega)); omega)
  refine W.ret ?_;conv => whnf
  refine ⟨by dsimp only; omega, ?_⟩;conv => whnf
  refine ⟨rfl, ?_⟩;conv => whnf
  refine ⟨.ints none (dig p.toNat k), ⟨rfl, rfl⟩, ?_⟩;conv => whnf
  exact ⟨.ownB b (x2), ⟨rfl, rfl⟩, .inr ⟨rfl, rfl⟩, .dead, trivial, rfl, rfl, rfl, ⟨x2, hx2, rfl⟩, _, rfl, ⟨_, rfl, hdl⟩⟩
 ·refine w2 0 3 ?_ ?_ <;> conv => whnf
  ·refine w1 3 ?_;conv => whnf
   refine zc rfl (yb p none l hk) fun hs' hhs => ?_;try dsimp only at hhs
   conv => whnf
   refine w1 4 ?_;conv => whnf
   refine ⟨⟨rfl, rfl⟩, ?_⟩;conv => whnf
   refine ⟨rfl, _, (zG hc (p ^ (l.length - 1)) (by constructor <;> omega) b x1 hx1), ?_⟩;rintro hs_ms2 av x' t' hh_ms2 ⟨rfl, ⟨x2, hx2, rfl⟩, _, rfl, ⟨u, rfl, u0, u1, u2⟩⟩ _ _ _;try dsimp only at hh_ms2
   obtain ⟨k, rfl⟩ : ∃ k : Nat, u = k := ⟨u.toNat, by omega⟩
   have hk2 : k <= 20000 := by (by_cases hh : 1 < p ^ (l.length - 1); (have := u1 hh; omega); (have := u2 (by omega); omega))
   conv => whnf
   refine w1 5 ?_;conv => whnf
   refine zc rfl (jy p none l k hp2.1 (by omega)) fun hs' hhs => ?_;try dsimp only at hhs
   conv => whnf
   refine w1 6 ?_;conv => whnf
   refine wd1 (hK2 _ ?_);clear hK2 K2;have hdl : (dig p.toNat k).length <= 100000 := by (have := yQ (p := p.toNat) (by omega) k k (Nat.lt_pow_self (by omega)); omega)
   refine W.ret ?_;conv => whnf
   refine ⟨by dsimp only; omega, ?_⟩;conv => whnf
   refine ⟨rfl, ?_⟩;conv => whnf
   refine ⟨.ints none (dig p.toNat k), ⟨rfl, rfl⟩, ?_⟩;conv => whnf
   exact ⟨.ownB b (x2), ⟨rfl, rfl⟩, .inr ⟨rfl, rfl⟩, .dead, trivial, rfl, rfl, rfl, ⟨x2, hx2, rfl⟩, _, rfl, ⟨_, rfl, hdl⟩⟩
  ·refine zc rfl (yb p none l hk) fun hs' hhs => ?_;try dsimp only at hhs
   conv => whnf
   refine w2 0 4 ?_ ?_ <;> conv => whnf
   ·refine w1 4 ?_;conv => whnf
    refine ⟨⟨rfl, rfl⟩, ?_⟩;conv => whnf
    refine ⟨rfl, _, (zG hc (p ^ (l.length - 1)) (by constructor <;> omega) b x1 hx1), ?_⟩;rintro hs_ms2 av x' t' hh_ms2 ⟨rfl, ⟨x2, hx2, rfl⟩, _, rfl, ⟨u, rfl, u0, u1, u2⟩⟩ _ _ _;try dsimp only at hh_ms2
    obtain ⟨k, rfl⟩ : ∃ k : Nat, u = k := ⟨u.toNat, by omega⟩
    have hk2 : k <= 20000 := by (by_cases hh : 1 < p ^ (l.length - 1); (have := u1 hh; omega); (have := u2 (by omega); omega))
    conv => whnf
    refine w1 5 ?_;conv => whnf
    refine zc rfl (jy p none l k hp2.1 (by omega)) fun hs' hhs => ?_;try dsimp only at hhs
    conv => whnf
    refine w1 6 ?_;conv => whnf
    refine wd1 (hK2 _ ?_);clear hK2 K2;have hdl : (dig p.toNat k).length <= 100000 := by (have := yQ (p := p.toNat) (by omega) k k (Nat.lt_pow_self (by omega)); omega)
    refine W.ret ?_;conv => whnf
    refine ⟨by dsimp only; omega, ?_⟩;conv => whnf
    refine ⟨rfl, ?_⟩;conv => whnf
    refine ⟨.ints none (dig p.toNat k), ⟨rfl, rfl⟩, ?_⟩;conv => whnf
    exact ⟨.ownB b (x2), ⟨rfl, rfl⟩, .inr ⟨rfl, rfl⟩, .dead, trivial, rfl, rfl, rfl, ⟨x2, hx2, rfl⟩, _, rfl, ⟨_, rfl, hdl⟩⟩
   ·refine ⟨⟨rfl, rfl⟩, ?_⟩;conv => whnf
    refine ⟨rfl, _, (zG hc (p ^ (l.length - 1)) (by constructor <;> omega) b x1 hx1), ?_⟩;rintro hs_ms2 av x' t' hh_ms2 ⟨rfl, ⟨x2, hx2, rfl⟩, _, rfl, ⟨u, rfl, u0, u1, u2⟩⟩ _ _ _;try dsimp only at hh_ms2
    obtain ⟨k, rfl⟩ : ∃ k : Nat, u = k := ⟨u.toNat, by omega⟩
    have hk2 : k <= 20000 := by (by_cases hh : 1 < p ^ (l.length - 1); (have := u1 hh; omega); (have := u2 (by omega); omega))
    conv => whnf
    refine w1 0 ?_;conv => whnf
    refine w1 5 ?_;conv => whnf
    refine zc rfl (jy p none l k hp2.1 (by omega)) fun hs' hhs => ?_;try dsimp only at hhs
    conv => whnf
    refine w1 6 ?_;conv => whnf
    refine wd1 (hK2 _ ?_);clear hK2 K2;have hdl : (dig p.toNat k).length <= 100000 := by (have := yQ (p := p.toNat) (by omega) k k (Nat.lt_pow_self (by omega)); omega)
    refine W.ret ?_;conv => whnf
    refine ⟨by dsimp only; omega, ?_⟩;conv => whnf
    refine ⟨rfl, ?_⟩;conv => whnf
    refine ⟨.ints none (dig p.toNat k), ⟨rfl, rfl⟩, ?_⟩;conv => whnf
    exact ⟨.ownB b (x2), ⟨rfl, rfl⟩, .inr ⟨rfl, rfl⟩, .dead, trivial, rfl, rfl, rfl, ⟨x2, hx2, rfl⟩, _, rfl, ⟨_, rfl, hdl⟩⟩
-- 4 ways

theorem zfl {n : Nat} {c : Nat -> Int} (hc : Byt n c) : Fn Tryz.prog 158 [vBy n c] (fun _ _ z => ∃ p L X Y, z = .v (.tup [vK p none L, .ints none X, .ints none Y]) ∧ (-1000 <= p ∧ p <= 1000) ∧ L.length <= 100 ∧ X.length <= 100000 ∧ Y.length <= 100000) := by
 refine ze (za [0, 2, 3, 4, 5, 6, 7]) Tryz.func158 rfl (by decide) Tryz.ntmps158 (Nat.le_of_ble_eq_true rfl) fun base => ?_;refine wrs fun K hK => ?_;conv => whnf
 intro b_2 hs_2 hh_2 hf_2;try dsimp only at hh_2 hf_2
 conv => whnf
 refine hK _ ?_;clear hK K;refine wrs fun K hK => ?_;conv => whnf
 refine yz rfl (zbo hc) ?_;rintro lo hi hi' z hl1 hl2 hl3 ⟨b, x, hx, rfl⟩ _;try dsimp only at hl1 hl2
 conv => whnf
 refine hK _ ?_;clear hK K;refine wrs fun K hK => ?_;conv => whnf
 refine ⟨⟨rfl, rfl⟩, ?_⟩;conv => whnf
 refine ⟨rfl, _, (zgb hc b x hx), ?_⟩;rintro hs_ms1 av x' t' hh_ms1 ⟨rfl, ⟨x1, hx1, rfl⟩, _, rfl, ⟨p, L, rfl, hp, hL⟩⟩ _ _ _;try dsimp only at hh_ms1
 conv => whnf
 intro b_6 hs_6 hh_6 hf_6;try dsimp only at hh_6 hf_6
 conv => whnf
 refine ⟨s23, ?_⟩;conv => whnf
 refine hK _ ?_;clear hK K;refine wrs fun K hK => ?_;conv => whnf
 refine ⟨⟨rfl, rfl⟩, ?_⟩;conv => whnf
 refine ⟨rfl, _, (yk hc p L hL b x1 hx1), ?_⟩;rintro hs_ms2 av x' t' hh_ms2 ⟨rfl, ⟨x2, hx2, rfl⟩, _, rfl, ⟨X, rfl, hX⟩⟩ _ _ _;try dsimp only at hh_ms2
 conv => whnf
 refine hK _ ?_;clear hK K;refine W.seqK fun K2 hK2 => W.sch follows ?_;refine wt 1 ?_;conv => whnf
 refine wt 2 ?_;conv => whnf
 refine w2 0 3 ?_ ?_ <;> conv => whnf
 ·refine w1 3 ?_;conv => whnf
  refine w1 4 ?_;conv => whnf
  refine ⟨⟨rfl, rfl⟩, ?_⟩;conv => whnf
  refine ⟨rfl, _, (yk hc p L hL b x2 hx2), ?_⟩;rintro hs_ms3 av x' t' hh_ms3 ⟨rfl, ⟨x3, hx3, rfl⟩, _, rfl, ⟨Y, rfl, hY⟩⟩ _ _ _;try dsimp only at hh_ms3
  conv => whnf
  refine w1 5 ?_;conv => whnf
  refine ⟨s23, ?_⟩;conv => whnf
  refine w1 6 ?_;conv => whnf
  refine w1 7 ?_;conv => whnf
  refine wd1 (hK2 _ ?_);clear hK2 K2;refine W.ret ?_;conv => whnf
  exact ⟨⟨trivial, trivial, trivial⟩, .v (.ints none X), ⟨rfl, rfl⟩, trivial, .v (.ints none Y), ⟨rfl, rfl⟩, trivial, p, L, X, Y, rfl, hp, hL, hX, hY⟩
 ·refine w2 0 4 ?_ ?_ <;> conv => whnf
  ·refine w1 4 ?_;conv => whnf
   refine ⟨⟨rfl, rfl⟩, ?_⟩;conv => whnf
   refine ⟨rfl, _, (yk hc p L hL b x2 hx2), ?_⟩;rintro hs_ms3 av x' t' hh_ms3 ⟨rfl, ⟨x3, hx3, rfl⟩, _, rfl, ⟨Y, rfl, hY⟩⟩ _ _ _;try dsimp only at hh_ms3
   conv => whnf
   refine w1 5 ?_;conv => whnf
   refine ⟨s23, ?_⟩;conv => whnf
   refine w1 6 ?_;conv => whnf
   refine w1 7 ?_;conv => whnf
   refine wd1 (hK2 _ ?_);clear hK2 K2;refine W.ret ?_;conv => whnf
   exact ⟨⟨trivial, trivial, trivial⟩, .v (.ints none X), ⟨rfl, rfl⟩, trivial, .v (.ints none Y), ⟨rfl, rfl⟩, trivial, p, L, X, Y, rfl, hp, hL, hX, hY⟩
  ·refine ⟨⟨rfl, rfl⟩, ?_⟩;conv => whnf
   refine ⟨rfl, _, (yk hc p L hL b x2 hx2), ?_⟩;rintro hs_ms3 av x' t' hh_ms3 ⟨rfl, ⟨x3, hx3, rfl⟩, _, rfl, ⟨Y, rfl, hY⟩⟩ _ _ _;try dsimp only at hh_ms3
   conv => whnf
   refine w1 0 ?_;conv => whnf
   refine w1 5 ?_;conv => whnf
   refine ⟨s23, ?_⟩;conv => whnf
   refine w1 6 ?_;conv => whnf
   refine w1 7 ?_;conv => whnf
   refine wd1 (hK2 _ ?_);clear hK2 K2;refine W.ret ?_;conv => whnf
   exact ⟨⟨trivial, trivial, trivial⟩, .v (.ints none X), ⟨rfl, rfl⟩, trivial, .v (.ints none Y), ⟨rfl, rfl⟩, trivial, p, L, X, Y, rfl, hp, hL, hX, hY⟩
-- 3 ways

theorem zfm {n : Nat} {c : Nat -> Int} (hc : Byt n c) : Fn Tryz.prog 178 [vBy n c] (fun _ _ z => ∃ p L X, z = .v (.tup [vK p none L, .ints none X]) ∧ (-1000 <= p ∧ p <= 1000) ∧ L.length <= 100 ∧ X.length <= 100000) := by
 refine ze (za [0, 2, 3, 4, 5]) Tryz.func178 rfl (by decide) Tryz.ntmps178 (Nat.le_of_ble_eq_true rfl) fun base => ?_;refine wrs fun K hK => ?_;conv => whnf
 intro b_2 hs_2 hh_2 hf_2;try dsimp only at hh_2 hf_2
 conv => whnf
 refine hK _ ?_;clear hK K;refine wrs fun K hK => ?_;conv => whnf
 refine yz rfl (zfl hc) ?_;rintro lo hi hi' z hl1 hl2 hl3 ⟨p, L, X, Y, rfl, hp, hL, hX, hY⟩ _;try dsimp only at hl1 hl2
 conv => whnf
 intro b_4 hs_4 hh_4 hf_4;try dsimp only at hh_4 hf_4
 conv => whnf
 refine ⟨s23, ?_⟩;conv => whnf
 refine hK _ ?_;clear hK K;refine wrs fun K hK => ?_;conv => whnf
 refine ⟨s23, ?_⟩;conv => whnf
 refine hK _ ?_;clear hK K;refine W.ret ?_;conv => whnf
 exact ⟨⟨trivial, trivial, trivial⟩, .v (.ints none X), ⟨rfl, rfl⟩, trivial, p, L, X, rfl, hp, hL, hX⟩

abbrev QOne : zgc := fun _ _ z => ∃ p L X, z = .v (.tup [vK p none L, .ints none X]) ∧ (-1000 <= p ∧ p <= 1000) ∧ L.length <= 100 ∧ X.length <= 100000
theorem zbt {n : Nat} {c : Nat -> Int} (hc : Byt n c) : Fn Tryz.prog 85 [vBy n c] QOne := by
 refine ze (za [0, 2, 3]) Tryz.func85 rfl (by decide) Tryz.ntmps85 (Nat.le_of_ble_eq_true rfl) fun base => ?_;refine wrs fun K hK => ?_;conv => whnf
 intro b_2 hs_2 hh_2 hf_2;try dsimp only at hh_2 hf_2
 conv => whnf
 refine hK _ ?_;clear hK K;refine wrs fun K hK => ?_;conv => whnf
 refine yz rfl (zfm hc) ?_;rintro lo hi hi' z hl1 hl2 hl3 ⟨p, L, X, rfl, hp, hL, hX⟩ _;try dsimp only at hl1 hl2
 conv => whnf
 refine ⟨s23, ?_⟩;conv => whnf
 refine hK _ ?_;clear hK K;refine W.ret ?_;conv => whnf
 exact ⟨⟨trivial, trivial, trivial⟩, .v (.ints none X), ⟨rfl, rfl⟩, trivial, p, L, X, rfl, hp, hL, hX⟩





theorem RT.toV {f : Nat} {xs : List V} {l : List Int} {c : Int} (h : FnT Tryz.prog f xs (RT l c)) : FnV f xs (.tup [.ints none l, .int .i64 c]) :=
 FnT.toV h fun _ _ x tb hx => by
  obtain ⟨b, rfl, hb⟩ := hx;refine ⟨_, rfl, rfl, fun j hj => ?_⟩
  match j, hj with
  | 0, _ => exact ⟨l, rfl, hb, rfl⟩
  | 1, _ => rfl
theorem zks {p : Int} (hp : p ∈ zS) : letI := yv hp; ∀ f X : Poly p, dg X < dg f -> dg f <= 10 -> Has p f.l X.l := by
 letI := yv hp;intro f X h1 h2;have h3 : X.l.length < f.l.length := h1;have h4 : f.l.length <= 10 := h2;refine ⟨⟨decide_eq_true hp, by omega, fun j _ => by have := ke X j; omega, ?_⟩, h1⟩
 by_cases h : X.l.length = 0
 ·exact .inl (by omega)
 ·exact .inr (X.ok.2 _ (by omega))
theorem zcN {p : Int} {l : List Int} {n : Nat} {X : Nat -> List Int} (hk : IsFld p l) (h : ∀ i, i < n -> Has p l (X i)) : zq p l true n X = 0 := by
 unfold zq; rw [zh hk, zh h]; rfl


open Go Go.RowKit Go.ChangeShapes Go.WideShapes Go.ChangeAt Go.Proofs Go.Proofs.YtlmckocbhcpmdaaGreat

theorem zm6 {P : Program} {f : Nat} {xs : List V} {r : V} {w : World} {vs : Array Value} (h : Fn P f xs (fun _ _ a => a = .v r)) (hl : vs.size = xs.length)
  (hr : ∀ j, j < xs.length -> Rep (zfO w) w.heap (xs.getD j .nil) (vs.getD j undef)) :
  Calls P f vs w fun e w' => ∃ v, e = .returned v ∧ Below w.heap.size w w' ∧ Rep (okR (fun _ => False) w'.heap.size) w'.heap r v := by
 refine (h.2 (fun _ => False) w vs (fun _ h => h.elim) hl hr).mono fun e w' ⟨v, av, hi, h1, h2, h3, h4, h5⟩ => ?_;subst h3;obtain ⟨_, h6, _⟩ := h5;refine ⟨v, h1, h4, ?_⟩;exact Rep.mono h6 fun g b hb => ⟨⟨hb.1, fun h => h.elim, hb.2.2⟩, rfl⟩

theorem ownP : ownKnob Tryz.prog.godebug = none := by kernel_rfl
theorem zm7 : laidOutB Tryz.prog = true := by kernel_rfl
open Go Go.RowKit Go.ChangeShapes Go.WideShapes Go.ChangeAt Go.Proofs Go.Proofs.YtlmckocbhcpmdaaGreat

section
variable {H : Type} {enc : TypeId × Value -> H} {P : Program} {w : World}
def zoh (xs : List V) : Prop := ∃ n : Int, xs = [.int .u8 n] ∧ 0 <= n ∧ n <= 255
theorem zoz {n : Int} (h : (Lit.int .u8 n).wf = true) : 0 <= n ∧ n <= 255 := by
 simp only [Lit.wf, Bool.and_eq_true, decide_eq_true_eq] at h
 have h1 : IntKind.u8.min = 0 := rfl;have h2 : IntKind.u8.max = 255 := rfl;omega
theorem zm8 {t : TypeId} (ht : P.underlying t = some (.int .u8)) : zhU enc P w t 1 zoh := by
 intro fuel cs d ps h;obtain ⟨n, hc, hx, hw⟩ := DataW.trod_int ht h;subst hc;refine ⟨rfl, _, ⟨n, rfl, zoz hw⟩, rfl, by simp [V.isCell], fun j hj => ?_⟩;obtain rfl : j = 0 := by omega
 exact .int _ _
theorem zm9 {xs : List V} (h : zjb 1 zea zoh xs) : ∃ (n : Nat) (c : Nat -> Int), (∀ i, 0 <= c i ∧ c i <= 255) ∧ xs.length = 1 ∧ ∀ ok h' v, Rep ok h' (xs.getD 0 .nil) v -> Rep ok h' (vBy n c) v := by
 obtain ⟨n, f, rfl, _, hf⟩ := h
 have hf2 : ∀ i, ∃ z : Int, (0 <= z ∧ z <= 255) ∧ (i < n -> f i = .int .u8 z) := by
  intro i
  by_cases hi : i < n
  ·obtain ⟨ys, ⟨z, rfl, hz⟩, e⟩ := hf i hi;exact ⟨z, hz, fun _ => e⟩
  ·exact ⟨0, by omega, fun h => absurd h hi⟩
 refine ⟨n, fun i => Classical.choose (hf2 i), fun i => (Classical.choose_spec (hf2 i)).1, rfl, fun ok h' v r => zfA (x := .vals none 1 n f) ⟨rfl, rfl, rfl, fun i hi => (Classical.choose_spec (hf2 i)).2 hi⟩ r⟩
end
theorem zna {P : Program} {f : Nat} {xs : List V} {w : World} {vs : Array Value} (h : Fn P f xs (fun _ _ a => a = .v (.bool true))) (hl : vs.size = xs.length)
  (hr : ∀ j, j < xs.length -> Rep (zfO w) w.heap (xs.getD j .nil) (vs.getD j undef)) :
  Calls P f vs w fun e w' => e = .returned (.bool true) ∧ Below w.heap.size w w' :=
 (zm6 h hl hr).mono fun e w' ⟨v, h1, h2, h3⟩ => by
  cases h3
  exact ⟨h1, h2⟩
theorem znO : Tryz.prog.cellsOf 5 = 1 := by kernel_rfl
theorem zjO {H : Type} {enc : TypeId × Value -> H} {W : World} : zhU enc Tryz.prog W 22 1 (zjb 1 zea zoh) :=
 zhW Tryz.underlying22 znO (fun xs h1 h2 => zns xs h1 h2) (zm8 Tryz.underlying5)


def QKX (r : V) : Prop := ∃ (p : Int) (L X : List Int), r = .tup [vK p none L, .ints none X] ∧ (-1000 <= p ∧ p <= 1000) ∧ L.length <= 100 ∧ X.length <= 100000


theorem zaZ {n : Nat} {c : Nat -> Int} (hc : Byt n c) : zg0 228 [] n c QKX := by
 rintro b x hx;refine vV (cx := cxt [] [0, 2, 3, 4, 5, 6, 7, 19, 42, 1000000, 1000001]) (zF [] [0, 2, 3, 4, 5, 6, 7, 19, 42, 1000000, 1000001]) Tryz.func228 rfl (by decide) Tryz.ntmps228 (Nat.le_of_ble_eq_true rfl) (Nat.le_of_ble_eq_true rfl) rfl rfl fun base hs0 O U hw v0 hb0 => ?_;refine W.sw (c' := cx [0, 2, 3, 4, 5, 6, 7, 19, 42, 1000000, 1000001]) ?_;refine wrs fun K hK => ?_;conv => whnf
 intro b_2 hs_2 hh_2 hf_2;try dsimp only at hh_2 hf_2
 conv => whnf
 refine hK _ ?_;clear hK K;refine wrs fun K hK => ?_;conv => whnf
 refine ⟨⟨rfl, rfl⟩, ?_⟩;conv => whnf
 refine ⟨rfl, _, (zgb hc b x hx), ?_⟩;rintro hs_ms1 av x' t' hh_ms1 ⟨rfl, ⟨x1, hx1, rfl⟩, _, rfl, ⟨p, L, rfl, hp, hL⟩⟩ _ _ _;try dsimp only at hh_ms1
 conv => whnf
 intro b_4 hs_4 hh_4 hf_4;try dsimp only at hh_4 hf_4
 conv => whnf
 refine ⟨s23, ?_⟩;conv => whnf
 refine hK _ ?_;clear hK K;refine wrs fun K hK => ?_;conv => whnf
 refine ⟨⟨rfl, rfl⟩, ?_⟩;conv => whnf
 refine ⟨rfl, _, (yk hc p L hL b x1 hx1), ?_⟩;rintro hs_ms2 av x' t' hh_ms2 ⟨rfl, ⟨x2, hx2, rfl⟩, _, rfl, ⟨X, rfl, hX⟩⟩ _ _ _;try dsimp only at hh_ms2
 conv => whnf
 refine hK _ ?_;clear hK K;refine W.seqK fun K1 hK1 => ?_
 have fin : ∀ (y : V) (t : S), zf3 n c y -> hs0 <= t.hs -> zA t.env [(vt, .dead), (vk, .keep O U hw 0 v0), (0, .ownB b y), (2, .ownB b_2 (.agg [.int .i64 0, .nil])), (4, .ownB b_4 (vK p none L)), (5, .v (.ints none X))] -> K1 t := by
  intro y t hy h9 h10;refine hK1 _ (W.weak (t := ⟨[(vt, .dead), (vk, .keep O U hw 0 v0), (0, .ownB b y), (2, .ownB b_2 (.agg [.int .i64 0, .nil])), (4, .ownB b_4 (vK p none L)), (5, .v (.ints none X))], hs0⟩) ⟨h9, h10⟩ hb0 ?_);clear hK1 K1;refine wrs fun K hK => ?_;conv => whnf
  refine ⟨s23, ?_⟩;conv => whnf
  refine hK _ ?_;clear hK K;refine W.ret ?_;conv => whnf
  refine ⟨by dsimp only; omega, ?_⟩;conv => whnf
  refine ⟨rfl, ?_⟩;conv => whnf
  refine ⟨.ints none (X), ⟨rfl, rfl⟩, ?_⟩;conv => whnf
  exact ⟨.ownB b (y), ⟨rfl, rfl⟩, .inr ⟨rfl, rfl⟩, .dead, trivial, rfl, rfl, rfl, ⟨y, hy, rfl⟩, _, rfl, ⟨p, L, X, rfl, hp, hL, hX⟩⟩
 refine wrs fun K hK => ?_;conv => whnf
 refine zc rfl (y5 p none L (by omega)) fun hs' hhs => ?_;try dsimp only at hhs
 conv => whnf
 refine ⟨fun hk => ?_, fun hk => ?_⟩
 ·conv => whnf
  refine ⟨⟨rfl, rfl⟩, ?_⟩;conv => whnf
  refine ⟨rfl, _, (zG hc 8 (by constructor <;> decide) b x2 hx2), ?_⟩;rintro hs_ms3 av x' t' hh_ms3 ⟨rfl, ⟨x3, hx3, rfl⟩, _, rfl, ⟨q, rfl, q0, q1, _⟩⟩ _ _ _;try dsimp only at hh_ms3
  conv => whnf
  refine hK _ (W.cond ⟨fun h => ?_, fun h => ?_⟩) <;> clear hK K
  ·clear fin;have hk : IsFld p L := zbp.1 hk;have ho := hk.ord;obtain ⟨hpp, f, rfl, hfi, _, _, hf9⟩ := vE hk;letI := yv hpp;have hp2 := yq hpp;have h2 := hfi.1;have hf0 := hfi.ne;obtain ⟨d, hd⟩ : ∃ d, dg f = d + 1 := ⟨dg f - 1, by omega⟩
   obtain ⟨hq1, hq2, hq3⟩ := zaX hk hd;obtain ⟨z0, hz1, hz2, hz3, _⟩ := zhf hk hfi;rw [show dg f - 1 = d by omega] at hz2;refine wrs fun K hK => ?_;conv => whnf
   refine zc rfl (yb p none f.l hk) fun hs' hhs => ?_;try dsimp only at hhs
   conv => whnf
   rw [hq1];refine hK _ ?_;clear hK K;refine wrs fun K hK => ?_;conv => whnf
   refine ⟨⟨rfl, rfl⟩, ?_⟩;conv => whnf
   refine ⟨rfl, _, (zG hc ((p.toNat ^ d : Nat) : Int) (by constructor <;> omega) b x3 hx3), ?_⟩;rintro hs_ms4 av x' t' hh_ms4 ⟨rfl, ⟨x4, hx4, rfl⟩, _, rfl, ⟨u, rfl, u0, u1, u2⟩⟩ _ _ _;try dsimp only at hh_ms4
   conv => whnf
   have u3 := u1 (by omega);have hpd : ∀ {k : Nat}, k < p.toNat ^ d -> dg (zN p k) < dg f := fun {k} h => by have := zeD (p := p) h; omega
   have hfm := fun {X : Poly p} (h0 : X ≠ 0) (hX : dg X < dg f) => zbm hfi (ym h0 hX) hd;have hpr : xI f (zN p z0) = yF f (zN p z0) (p.toNat ^ d - 1) := by unfold xI; rw [show dg f - 1 = d by omega]
   rw [hpr] at hz3;generalize p.toNat ^ d = qq at *;refine hK _ (W.block (W.invH hs0 hb0 (fun m e => ∃ (i : Nat) (X : List Int), i <= z0 + qq ∧ X.length <= 100000 ∧ m = z0 + qq - i ∧ e = [(vt, .dead), (vk, .keep O U hw 0 v0), (0, .ownB b x4), (2, .ownB b_2 (.agg [.int .i64 0, .nil])), (4, .ownB b_4 (vK p none f.l)), (5, .v (.ints none X)), (6, .v (.int .i64 qq)), (7, .v (.int .i64 i))]) _ _ (⟨u.toNat, X, by omega, hX, rfl, by rw [Int.toNat_of_nonneg u0]⟩) (by dsimp only; omega) (by repeat' first | refine And.intro ?_ ?_ | exact trivial | rfl | omega | assumption) ?_));clear hK K;rintro m e ⟨i, X, hi, hX, hm, rfl⟩;obtain ⟨v, hv⟩ : ∃ v, v = i % qq := ⟨_, rfl⟩
   have hvq : v < qq := by rw [hv]; exact Nat.mod_lt _ (by omega)
   have hvr : ((i : Int)).tmod qq = v := by rw [hv]; exact zat i qq
   have hvd := hpd hvq;have hvl : (zN p v).l.length = dg (zN p v) := rfl;refine W.seqK fun K7 hK7 => W.block ?_;refine W.rgh follows fun K hK => ?_;refine Wgh.take (za []) 0 (by rfl) (fun d hd => by injection hd with hd; subst hd; decide) (by kernel_rfl) (by kernel_rfl) (by rfl) ?_;conv => whnf
   refine Wgh.take (za []) 1 (by rfl) (fun d hd => by injection hd with hd; subst hd; decide) (by kernel_rfl) (by kernel_rfl) (by rfl) ?_;conv => whnf
   refine Wgh.take (za []) 2 (by rfl) (fun d hd => by injection hd with hd; subst hd; decide) (by kernel_rfl) (by kernel_rfl) (by rfl) ?_;conv => whnf
   refine Wgh.take (za []) 3 (by rfl) (fun d hd => by injection hd with hd; subst hd; decide) (by kernel_rfl) (by kernel_rfl) (by rfl) ?_;conv => whnf
   refine ⟨by show (qq : Int) ≠ 0; omega, ?_⟩;conv => whnf
   rw [hvr];refine Wgh.one (za []) 4 [] (by rfl) (by kernel_rfl) (by kernel_rfl) (by kernel_rfl) (by rfl) (by kernel_rfl) ⟨(by (conv => whnf); refine ⟨by show (qq : Int) ≠ 0; omega, ?_⟩; (conv => whnf); rw [hvr]; exact ⟨Nat.le_refl _, rfl⟩), (by (conv => whnf); exact ⟨Nat.le_refl _, rfl⟩), (by (conv => whnf); exact ⟨Nat.le_refl _, rfl⟩), (by (conv => whnf); exact ⟨Nat.le_refl _, rfl⟩), trivial⟩ ?_;conv => whnf
   refine zc rfl (jy p none f.l v hp2.1 (by omega)) fun hs' hhs => ?_;try dsimp only at hhs
   conv => whnf
   rw [<- kK];refine Wgh.one (za []) 5 [] (by rfl) (by kernel_rfl) (by kernel_rfl) (by kernel_rfl) (by rfl) (by kernel_rfl) trivial ?_;conv => whnf
   refine Wgh.done (za []) (by rfl) (by kernel_rfl) (by kernel_rfl) (by kernel_rfl) trivial (hK _ ?_);clear hK K
   have next : ∀ (t : S), i + 1 <= z0 + qq -> hs0 <= t.hs -> zA t.env [(vt, .dead), (vk, .keep O U hw 0 v0), (0, .ownB b x4), (2, .ownB b_2 (.agg [.int .i64 0, .nil])), (4, .ownB b_4 (vK p none f.l)), (5, .v (.ints none (zN p v).l)), (6, .v (.int .i64 qq)), (7, .v (.int .i64 i))] -> K7 t := by
    intro t h8 h9 h10;refine hK7 _ (W.weak (t := ⟨[(vt, .dead), (vk, .keep O U hw 0 v0), (0, .ownB b x4), (2, .ownB b_2 (.agg [.int .i64 0, .nil])), (4, .ownB b_4 (vK p none f.l)), (5, .v (.ints none (zN p v).l)), (6, .v (.int .i64 qq)), (7, .v (.int .i64 i))], hs0⟩) ⟨h9, h10⟩ hb0 ?_);clear hK7 K7;refine wrg ?_;conv => whnf
    refine ⟨oo, ?_⟩;conv => whnf
    exact zj ⟨i + 1, (zN p v).l, h8, by omega, rfl, rfl⟩
   have hne : ¬ yF f (zN p v) (qq - 1) -> i + 1 <= z0 + qq := fun h => by
    refine Nat.lt_of_le_of_ne hi fun e => h ?_;have : v = z0 := by rw [hv, e, Nat.add_mod_right, Nat.mod_eq_of_lt hz2]
    rw [this]; exact hz3
   refine wrs fun K hK => ?_;conv => whnf
   refine ⟨fun h4 => ?_, fun h4 => ?_⟩
   ·conv => whnf
    have h4 := of_decide_eq_true h4;have hv0 : zN p v ≠ 0 := fun e => by rw [e, zbc] at h4; simp at h4
    obtain ⟨e0, he0⟩ := vW _ (by omega) (hfm hv0 hvd);refine zc rfl (xC p none none f (zN p v) hk hfi hv0 hvd e0 he0) fun hs' hhs => ?_;try dsimp only at hhs
    conv => whnf
    refine ⟨oo, ?_⟩;conv => whnf
    refine hK _ (W.cond ⟨fun h5 => ?_, fun h5 => ?_⟩) <;> clear hK K
    ·refine wrs fun K hK => ?_;conv => whnf
     refine ⟨s23, ?_⟩;conv => whnf
     refine hK _ ?_;clear hK K;refine W.ret ?_;conv => whnf
     refine ⟨by dsimp only; omega, ?_⟩;conv => whnf
     refine ⟨rfl, ?_⟩;conv => whnf
     refine ⟨.ints none ((zN p v).l), ⟨rfl, rfl⟩, ?_⟩;conv => whnf
     exact ⟨.ownB b (x4), ⟨rfl, rfl⟩, .inr ⟨rfl, rfl⟩, .dead, trivial, rfl, rfl, rfl, ⟨x4, hx4, rfl⟩, _, rfl, ⟨p, f.l, _, rfl, hp, hL, by omega⟩⟩
    ·have h5 := of_decide_eq_false h5;refine W.skip (next _ (hne fun h => h5 ?_) (by dsimp only; omega) ?_)
     ·rw [he0.unique h]; omega
     ·exact cvr
   ·conv => whnf
    have h4 := of_decide_eq_false h4;refine hK _ (W.condF rfl (W.skip (next _ (hne fun h => ?_) (by dsimp only; omega) ?_)))
    ·have := zgV (h.ndvd hfi);have : dg (zN p v) ≠ 0 := fun e => this (zd.1 e);omega
    ·exact cvr
  ·refine W.skip (fin x3 _ hx3 (by dsimp only; omega) ?_);exact cvr
 ·conv => whnf
  refine hK _ (W.condF rfl (W.skip (fin x2 _ hx2 (by dsimp only; omega) ?_)));exact cvr

theorem zb9 {n : Nat} {c : Nat -> Int} (hc : Byt n c) (p : Int) (L : List Int) (hL : L.length <= 100) : zg0 234 [vK p none L] n c (fun r => ∃ e : Int, r = .int .i64 e ∧ 0 <= e ∧ e <= 100000) := by
 rintro b x hx;refine vV (cx := cxt [] [0, 1, 3, 4, 5, 8, 1000000, 1000001]) (zF [] [0, 1, 3, 4, 5, 8, 1000000, 1000001]) Tryz.func234 rfl (by decide) Tryz.ntmps234 (Nat.le_of_ble_eq_true rfl) (Nat.le_of_ble_eq_true rfl) rfl rfl fun base hs0 O U hw v0 hb0 => ?_;refine W.sw (c' := cx [0, 1, 3, 4, 5, 8, 1000000, 1000001]) ?_;refine wrs fun K hK => ?_;conv => whnf
 refine ⟨rfl, ?_⟩;conv => whnf
 intro b_3 hs_3 hh_3 hf_3;try dsimp only at hh_3 hf_3
 conv => whnf
 refine hK _ ?_;clear hK K;refine W.seqK fun K1 hK1 => ?_;refine wrs fun K hK => ?_;conv => whnf
 refine zc rfl (y5 p none L (by omega)) fun hs' hhs => ?_;try dsimp only at hhs
 conv => whnf
 refine hK _ (W.cond ⟨fun h => ?_, fun h => ?_⟩) <;> clear hK K
 ·refine wrs fun K hK => ?_;conv => whnf
  refine hK _ ?_;clear hK K;refine W.ret ?_;conv => whnf
  refine ⟨by dsimp only; omega, ?_⟩;conv => whnf
  refine ⟨rfl, ?_⟩;conv => whnf
  refine ⟨.int .i64 1, ⟨rfl, rfl⟩, ?_⟩;conv => whnf
  exact ⟨.ownB b (x), ⟨rfl, rfl⟩, .inr ⟨rfl, rfl⟩, .dead, trivial, rfl, rfl, rfl, ⟨x, hx, rfl⟩, _, rfl, ⟨1, rfl, by decide, by decide⟩⟩
 have hk : IsFld p L := zbp.1 (by simpa using h);have ho := hk.ord;obtain ⟨hpp, f, rfl, hfi, _, _, hf9⟩ := vE hk;letI := yv hpp;have h2 := hfi.1;obtain ⟨d, hd⟩ : ∃ d, dg f = d + 1 := ⟨dg f - 1, by omega⟩
 obtain ⟨hq1, hq2, hq3⟩ := zaX hk hd;refine W.skip (hK1 _ ?_);clear hK1 K1;refine wrs fun K hK => ?_;conv => whnf
 refine zc rfl (yb p none f.l hk) fun hs' hhs => ?_;try dsimp only at hhs
 conv => whnf
 rw [hq1];refine hK _ ?_;clear hK K;refine wrs fun K hK => ?_;conv => whnf
 refine ⟨oo, ?_⟩;conv => whnf
 refine ⟨oo, ?_⟩;conv => whnf
 refine ⟨⟨rfl, rfl⟩, ?_⟩;conv => whnf
 refine ⟨rfl, _, (zG hc (((p.toNat ^ d : Nat) : Int) - 1) (by constructor <;> omega) b x hx), ?_⟩;rintro hs_ms1 av x' t' hh_ms1 ⟨rfl, ⟨x1, hx1, rfl⟩, _, rfl, ⟨u, rfl, u0, u1, u2⟩⟩ _ _ _;try dsimp only at hh_ms1
 conv => whnf
 have u3 : u <= 20000 := by by_cases hh : 1 < ((p.toNat ^ d : Nat) : Int) - 1; (have := u1 hh; omega); (have := u2 (by omega); omega)
 refine ⟨oo, ?_⟩;conv => whnf
 refine ⟨⟨rfl, by decide⟩, ?_⟩;conv => whnf
 intro b_7 hs_7 hh_7 hf_7;try dsimp only at hh_7 hf_7
 conv => whnf
 refine ⟨⟨rfl, rfl⟩, ?_⟩;conv => whnf
 refine ⟨rfl, _, (ki hc none [1, 2, 3, 4, 5, ((p.toNat ^ d : Nat) : Int) - 1, ((p.toNat ^ d : Nat) : Int), 0, 1 + u] ⟨(by show 1 <= 9; omega), (by show 9 <= 1000; omega)⟩ b x1 hx1), ?_⟩;rintro hs_ms2 av x' t' hh_ms2 ⟨rfl, ⟨x2, hx2, rfl⟩, _, rfl, ⟨q, rfl, hq⟩⟩ _ _ _;try dsimp only at hh_ms2
 conv => whnf
 refine hK _ ?_;clear hK K;have hq : 0 <= q ∧ q <= 100000 := by (simp only [List.mem_cons, List.not_mem_nil, or_false] at hq; omega)
 refine W.ret ?_;conv => whnf
 refine ⟨by dsimp only; omega, ?_⟩;conv => whnf
 refine ⟨rfl, ?_⟩;conv => whnf
 refine ⟨.int .i64 q, ⟨rfl, rfl⟩, ?_⟩;conv => whnf
 exact ⟨.ownB b (x2), ⟨rfl, rfl⟩, .inr ⟨rfl, rfl⟩, .dead, trivial, rfl, rfl, rfl, ⟨x2, hx2, rfl⟩, _, rfl, ⟨q, rfl, hq⟩⟩

theorem zbu {n : Nat} {c : Nat -> Int} (hc : Byt n c) : Fn Tryz.prog 79 [vBy n c] (fun _ _ z => ∃ p L X Y, z = .v (.tup [vK p none L, .ints none X, .ints none Y]) ∧ (-1000 <= p ∧ p <= 1000) ∧ L.length <= 100 ∧ X.length <= 100000 ∧ Y.length <= 100000) := by
 refine ze (za [0, 2, 3, 4, 5, 6, 7]) Tryz.func79 rfl (by decide) Tryz.ntmps79 (Nat.le_of_ble_eq_true rfl) fun base => ?_;refine wrs fun K hK => ?_;conv => whnf
 intro b_2 hs_2 hh_2 hf_2;try dsimp only at hh_2 hf_2
 conv => whnf
 refine hK _ ?_;clear hK K;refine wrs fun K hK => ?_;conv => whnf
 refine yz rfl (zbo hc) ?_;rintro lo hi hi' z hl1 hl2 hl3 ⟨b, x, hx, rfl⟩ _;try dsimp only at hl1 hl2
 conv => whnf
 refine hK _ ?_;clear hK K;refine wrs fun K hK => ?_;conv => whnf
 refine ⟨⟨rfl, rfl⟩, ?_⟩;conv => whnf
 refine ⟨rfl, _, (zaZ hc b x hx), ?_⟩;rintro hs_ms1 av x' t' hh_ms1 ⟨rfl, ⟨x1, hx1, rfl⟩, _, rfl, ⟨p, L, X, rfl, hp, hL, hX⟩⟩ _ _ _;try dsimp only at hh_ms1
 conv => whnf
 intro b_6 hs_6 hh_6 hf_6;try dsimp only at hh_6 hf_6
 conv => whnf
 refine ⟨s23, ?_⟩;conv => whnf
 refine hK _ ?_;clear hK K;refine W.rgh follows fun K hK => ?_;refine Wgh.take (za []) 0 (by rfl) (fun d hd => by injection hd with hd; subst hd; decide) (by kernel_rfl) (by kernel_rfl) (by rfl) ?_;conv => whnf
 refine Wgh.take (za []) 1 (by rfl) (fun d hd => by injection hd with hd; subst hd; decide) (by kernel_rfl) (by kernel_rfl) (by rfl) ?_;conv => whnf
 refine Wgh.take (za []) 2 (by rfl) (fun d hd => by injection hd with hd; subst hd; decide) (by kernel_rfl) (by kernel_rfl) (by rfl) ?_;conv => whnf
 refine Wgh.take (za []) 3 (by rfl) (fun d hd => by injection hd with hd; subst hd; decide) (by kernel_rfl) (by kernel_rfl) (by rfl) ?_;conv => whnf
 refine Wgh.one (za []) 4 [1, 0] (by rfl) (by kernel_rfl) (by kernel_rfl) (by kernel_rfl) (by rfl) (by kernel_rfl) ⟨(by (conv => whnf); exact ⟨Nat.le_refl _, rfl⟩), (by (conv => whnf); exact ⟨Nat.le_refl _, rfl⟩), (by (conv => whnf); exact ⟨Nat.le_refl _, rfl⟩), (by (conv => whnf); exact ⟨Nat.le_refl _, rfl⟩), trivial⟩ ?_;conv => whnf
 refine ⟨⟨rfl, rfl⟩, ?_⟩;conv => whnf
 refine ⟨rfl, _, (yk hc p L hL b x1 hx1), ?_⟩;rintro hs_ms2 av x' t' hh_ms2 ⟨rfl, ⟨x2, hx2, rfl⟩, _, rfl, ⟨Y, rfl, hY⟩⟩ _ _ _;try dsimp only at hh_ms2
 conv => whnf
 refine Wgh.one (za []) 5 [1] (by rfl) (by kernel_rfl) (by kernel_rfl) (by kernel_rfl) (by rfl) (by kernel_rfl) ⟨(by (conv => whnf); exact ⟨Nat.le_refl _, rfl⟩), (by (conv => whnf); exact ⟨Nat.le_refl _, rfl⟩), trivial⟩ ?_;conv => whnf
 refine ⟨s23, ?_⟩;conv => whnf
 refine Wgh.one (za []) 6 [] (by rfl) (by kernel_rfl) (by kernel_rfl) (by kernel_rfl) (by rfl) (by kernel_rfl) ⟨(by (conv => whnf); exact ⟨Nat.le_refl _, rfl⟩), trivial⟩ ?_;conv => whnf
 refine Wgh.one (za []) 7 [] (by rfl) (by kernel_rfl) (by kernel_rfl) (by kernel_rfl) (by rfl) (by kernel_rfl) trivial ?_;conv => whnf
 refine Wgh.done (za []) (by rfl) (by kernel_rfl) (by kernel_rfl) (by kernel_rfl) trivial (hK _ ?_);clear hK K;refine W.ret ?_;conv => whnf
 exact ⟨⟨trivial, trivial, trivial⟩, .v (.ints none X), ⟨rfl, rfl⟩, trivial, .v (.ints none Y), ⟨rfl, rfl⟩, trivial, p, L, X, Y, rfl, hp, hL, hX, hY⟩

theorem zaw {n : Nat} {c : Nat -> Int} (hc : Byt n c) : Fn Tryz.prog 82 [vBy n c] (fun _ _ z => ∃ p L X e, z = .v (.tup [vK p none L, .ints none X, .int .i64 e]) ∧ (-1000 <= p ∧ p <= 1000) ∧ L.length <= 100 ∧ X.length <= 100000 ∧ (-1 <= e ∧ e <= 100000)) := by
 refine ze (za [0, 2, 3, 4, 5, 6, 7]) Tryz.func82 rfl (by decide) Tryz.ntmps82 (Nat.le_of_ble_eq_true rfl) fun base => ?_;refine wrs fun K hK => ?_;conv => whnf
 intro b_2 hs_2 hh_2 hf_2;try dsimp only at hh_2 hf_2
 conv => whnf
 refine hK _ ?_;clear hK K;refine wrs fun K hK => ?_;conv => whnf
 refine yz rfl (zbo hc) ?_;rintro lo hi hi' z hl1 hl2 hl3 ⟨b, x, hx, rfl⟩ _;try dsimp only at hl1 hl2
 conv => whnf
 refine hK _ ?_;clear hK K;refine wrs fun K hK => ?_;conv => whnf
 refine ⟨⟨rfl, rfl⟩, ?_⟩;conv => whnf
 refine ⟨rfl, _, (zaZ hc b x hx), ?_⟩;rintro hs_ms1 av x' t' hh_ms1 ⟨rfl, ⟨x1, hx1, rfl⟩, _, rfl, ⟨p, L, X, rfl, hp, hL, hX⟩⟩ _ _ _;try dsimp only at hh_ms1
 conv => whnf
 intro b_6 hs_6 hh_6 hf_6;try dsimp only at hh_6 hf_6
 conv => whnf
 refine ⟨s23, ?_⟩;conv => whnf
 refine hK _ ?_;clear hK K;refine W.rgh follows fun K hK => ?_;refine Wgh.take (za []) 0 (by rfl) (fun d hd => by injection hd with hd; subst hd; decide) (by kernel_rfl) (by kernel_rfl) (by rfl) ?_;conv => whnf
 refine Wgh.take (za []) 1 (by rfl) (fun d hd => by injection hd with hd; subst hd; decide) (by kernel_rfl) (by kernel_rfl) (by rfl) ?_;conv => whnf
 refine Wgh.take (za []) 2 (by rfl) (fun d hd => by injection hd with hd; subst hd; decide) (by kernel_rfl) (by kernel_rfl) (by rfl) ?_;conv => whnf
 refine Wgh.take (za []) 3 (by rfl) (fun d hd => by injection hd with hd; subst hd; decide) (by kernel_rfl) (by kernel_rfl) (by rfl) ?_;conv => whnf
 refine Wgh.one (za []) 4 [1, 0] (by rfl) (by kernel_rfl) (by kernel_rfl) (by kernel_rfl) (by rfl) (by kernel_rfl) ⟨(by (conv => whnf); exact ⟨Nat.le_refl _, rfl⟩), (by (conv => whnf); exact ⟨Nat.le_refl _, rfl⟩), (by (conv => whnf); exact ⟨Nat.le_refl _, rfl⟩), (by (conv => whnf); exact ⟨Nat.le_refl _, rfl⟩), trivial⟩ ?_;conv => whnf
 refine ⟨⟨rfl, rfl⟩, ?_⟩;conv => whnf
 refine ⟨rfl, _, (zb9 hc p L hL b x1 hx1), ?_⟩;rintro hs_ms2 av x' t' hh_ms2 ⟨rfl, ⟨x2, hx2, rfl⟩, _, rfl, ⟨e, rfl, he0, he1⟩⟩ _ _ _;try dsimp only at hh_ms2
 conv => whnf
 refine Wgh.take (za []) 5 (by rfl) (fun d hd => by injection hd with hd; subst hd; decide) (by kernel_rfl) (by kernel_rfl) (by rfl) ?_;conv => whnf
 refine ⟨oo, ?_⟩;conv => whnf
 refine Wgh.one (za []) 6 [5, 1] (by rfl) (by kernel_rfl) (by kernel_rfl) (by kernel_rfl) (by rfl) (by kernel_rfl) ⟨(by (conv => whnf); refine ⟨by first | assumption | omega | exact ⟨by omega, by omega⟩, ?_⟩; (conv => whnf); exact ⟨Nat.le_refl _, rfl⟩), (by (conv => whnf); exact ⟨Nat.le_refl _, rfl⟩), (by (conv => whnf); exact ⟨Nat.le_refl _, rfl⟩), trivial⟩ ?_;conv => whnf
 refine ⟨s23, ?_⟩;conv => whnf
 refine Wgh.one (za []) 7 [5] (by rfl) (by kernel_rfl) (by kernel_rfl) (by kernel_rfl) (by rfl) (by kernel_rfl) ⟨(by (conv => whnf); refine ⟨by first | assumption | omega | exact ⟨by omega, by omega⟩, ?_⟩; (conv => whnf); exact ⟨Nat.le_refl _, rfl⟩), (by (conv => whnf); exact ⟨Nat.le_refl _, rfl⟩), trivial⟩ ?_;conv => whnf
 refine Wgh.one (za []) 8 [] (by rfl) (by kernel_rfl) (by kernel_rfl) (by kernel_rfl) (by rfl) (by kernel_rfl) ⟨(by (conv => whnf); refine ⟨by first | assumption | omega | exact ⟨by omega, by omega⟩, ?_⟩; (conv => whnf); exact ⟨Nat.le_refl _, rfl⟩), trivial⟩ ?_;conv => whnf
 refine Wgh.done (za []) (by rfl) (by kernel_rfl) (by kernel_rfl) (by kernel_rfl) trivial (hK _ ?_);clear hK K;refine W.ret ?_;conv => whnf
 exact ⟨⟨trivial, trivial, trivial⟩, .v (.ints none X), ⟨rfl, rfl⟩, trivial, .v (.int .i64 (e - 1)), ⟨rfl, rfl⟩, trivial, p, L, X, _, rfl, hp, hL, hX, by omega, by omega⟩

open Go Go.RowKit Go.ChangeShapes Go.WideShapes Go.ChangeAt Go.Proofs Go.Proofs.YtlmckocbhcpmdaaGreat

def zoA : List Char := [104, 97, 114, 110, 101, 115, 115, 32, 48, 57, 56, 100, 53, 97, 99, 53, 56, 52, 54, 50, 51, 98, 100, 54, 52, 56, 97, 51, 53, 53, 49, 100, 101, 98, 98, 54, 102, 54, 101, 101, 55, 55, 53, 52, 97, 52, 102, 97, 55, 50, 97, 54, 56, 54, 52, 48, 101, 56, 97, 48, 50, 50, 48, 55, 51, 54, 97, 56, 50, 51, 53, 49, 32, 99, 117, 116, 32, 97, 116, 32, 108, 111, 111, 112, 46, 101, 120, 97, 109, 112, 108, 101, 47, 103, 48, 49, 48, 48, 48, 47, 108, 97, 119, 115, 46, 70, 110, 69, 108, 101, 109, 101, 110, 116, 115, 32, 108, 111, 111, 112, 46, 101, 120, 97, 109, 112, 108, 101, 47, 103, 48, 49, 48, 48, 48, 47, 108, 97, 119, 115, 46, 70, 110, 78, 117, 109, 98, 101, 114, 101, 100, 32, 108, 111, 111, 112, 46, 101, 120, 97, 109, 112, 108, 101, 47, 103, 48, 49, 48, 48, 48, 47, 108, 97, 119, 115, 46, 70, 110, 68, 101, 103, 114, 101, 101, 115, 32, 108, 111, 111, 112, 46, 101, 120, 97, 109, 112, 108, 101, 47, 103, 48, 49, 48, 48, 48, 47, 108, 97, 119, 115, 46, 70, 110, 77, 105, 110, 105, 109, 97, 108, 32, 108, 111, 111, 112, 46, 101, 120, 97, 109, 112, 108, 101, 47, 103, 48, 49, 48, 48, 48, 47, 108, 97, 119, 115, 46, 70, 110, 77, 111, 100, 117, 108, 97, 114, 70, 97, 99, 116, 111, 114, 115, 32, 108, 111, 111, 112, 46, 101, 120, 97, 109, 112, 108, 101, 47, 103, 48, 49, 48, 48, 48, 47, 108, 97, 119, 115, 46, 70, 110, 76, 111, 103, 115, 32, 108, 111, 111, 112, 46, 101, 120, 97, 109, 112, 108, 101, 47, 103, 48, 49, 48, 48, 48, 47, 108, 97, 119, 115, 46, 70, 110, 80, 114, 105, 109, 105, 116, 105, 118, 101, 32, 108, 111, 111, 112, 46, 101, 120, 97, 109, 112, 108, 101, 47, 103, 48, 49, 48, 48, 48, 47, 108, 97, 119, 115, 46, 70, 110, 76, 105, 102, 116, 101, 100, 70, 97, 99, 116, 111, 114, 115, 32, 108, 111, 111, 112, 46, 101, 120, 97, 109, 112, 108, 101, 47, 103, 48, 49, 48, 48, 48, 47, 108, 97, 119, 115, 46, 70, 110, 69, 120, 116, 101, 110, 115, 105, 111, 110, 115, 32, 108, 111, 111, 112, 46, 101, 120, 97, 109, 112, 108, 101, 47, 103, 48, 49, 48, 48, 48, 47, 108, 97, 119, 115, 46, 70, 110, 85, 110, 105, 116, 115, 32, 108, 111, 111, 112, 46, 101, 120, 97, 109, 112, 108, 101, 47, 103, 48, 49, 48, 48, 48, 47, 108, 97, 119, 115, 46, 70, 110, 82, 101, 115, 105, 100, 117, 97, 108, 70, 97, 99, 116, 111, 114, 115, 32, 108, 111, 111, 112, 46, 101, 120, 97, 109, 112, 108, 101, 47, 103, 48, 49, 48, 48, 48, 47, 108, 97, 119, 115, 46, 70, 110, 69, 120, 97, 99, 116, 83, 112, 108, 105, 116, 116, 105, 110, 103, 115, 79, 102].map Char.ofNat
def znb : List Char := [99, 117, 116].map Char.ofNat
def znc : List (List Char) := [[97, 116], [108, 111, 111, 112, 46, 101, 120, 97, 109, 112, 108, 101, 47, 103, 48, 49, 48, 48, 48, 47, 108, 97, 119, 115, 46, 70, 110, 69, 108, 101, 109, 101, 110, 116, 115], [108, 111, 111, 112, 46, 101, 120, 97, 109, 112, 108, 101, 47, 103, 48, 49, 48, 48, 48, 47, 108, 97, 119, 115, 46, 70, 110, 78, 117, 109, 98, 101, 114, 101, 100], [108, 111, 111, 112, 46, 101, 120, 97, 109, 112, 108, 101, 47, 103, 48, 49, 48, 48, 48, 47, 108, 97, 119, 115, 46, 70, 110, 68, 101, 103, 114, 101, 101, 115], [108, 111, 111, 112, 46, 101, 120, 97, 109, 112, 108, 101, 47, 103, 48, 49, 48, 48, 48, 47, 108, 97, 119, 115, 46, 70, 110, 77, 105, 110, 105, 109, 97, 108], [108, 111, 111, 112, 46, 101, 120, 97, 109, 112, 108, 101, 47, 103, 48, 49, 48, 48, 48, 47, 108, 97, 119, 115, 46, 70, 110, 77, 111, 100, 117, 108, 97, 114, 70, 97, 99, 116, 111, 114, 115], [108, 111, 111, 112, 46, 101, 120, 97, 109, 112, 108, 101, 47, 103, 48, 49, 48, 48, 48, 47, 108, 97, 119, 115, 46, 70, 110, 76, 111, 103, 115], [108, 111, 111, 112, 46, 101, 120, 97, 109, 112, 108, 101, 47, 103, 48, 49, 48, 48, 48, 47, 108, 97, 119, 115, 46, 70, 110, 80, 114, 105, 109, 105, 116, 105, 118, 101], [108, 111, 111, 112, 46, 101, 120, 97, 109, 112, 108, 101, 47, 103, 48, 49, 48, 48, 48, 47, 108, 97, 119, 115, 46, 70, 110, 76, 105, 102, 116, 101, 100, 70, 97, 99, 116, 111, 114, 115], [108, 111, 111, 112, 46, 101, 120, 97, 109, 112, 108, 101, 47, 103, 48, 49, 48, 48, 48, 47, 108, 97, 119, 115, 46, 70, 110, 69, 120, 116, 101, 110, 115, 105, 111, 110, 115], [108, 111, 111, 112, 46, 101, 120, 97, 109, 112, 108, 101, 47, 103, 48, 49, 48, 48, 48, 47, 108, 97, 119, 115, 46, 70, 110, 85, 110, 105, 116, 115], [108, 111, 111, 112, 46, 101, 120, 97, 109, 112, 108, 101, 47, 103, 48, 49, 48, 48, 48, 47, 108, 97, 119, 115, 46, 70, 110, 82, 101, 115, 105, 100, 117, 97, 108, 70, 97, 99, 116, 111, 114, 115], [108, 111, 111, 112, 46, 101, 120, 97, 109, 112, 108, 101, 47, 103, 48, 49, 48, 48, 48, 47, 108, 97, 119, 115, 46, 70, 110, 69, 120, 97, 99, 116, 83, 112, 108, 105, 116, 116, 105, 110, 103, 115, 79, 102]].map fun w => w.map Char.ofNat
theorem zoB : Tryz.checked.prog.initOrder = String.ofList zoA := by kernel_rfl
theorem zkt : behindMainWord (wordsSigns Tryz.checked.prog.initOrder.toList) = znb :: znc := by rw [zoB, String.toList_ofList]; kernel_rfl
theorem ziJ {P : Program} {c : List Char} {rest : List (List Char)} (h0 : behindMainWord (wordsSigns P.initOrder.toList) = c :: rest) (h1 : (stripLifts liftWords (c :: rest)) = ([], c :: rest)) (h2 : (c == "cut".toList) = true)
  (h3 : P.laysLater = false) (h4 : P.bearsReflect = false) (h5 : P.doorFits [] = true) : P.mayEnter = true := by
 unfold Program.mayEnter;rw [h0];have e : (some c == some "cut".toList) = true := h2
 refine (Bool.or_eq_true _ _).mpr (.inr ?_);rw [h1, h3, h4, h5];show ((some c == some "cut".toList) && _ && _ && _ && _) = true
 rw [e]
 rfl
theorem znd : stripLifts liftWords (znb :: znc) = ([], znb :: znc) := by kernel_rfl
theorem zoi : Tryz.checked.prog.mayEnter = true := ziJ zkt znd (by kernel_rfl) (by kernel_rfl) (by kernel_rfl) (by kernel_rfl)
theorem zhg {P : Program} {c : List Char} {rest : List (List Char)} (h0 : behindMainWord (wordsSigns P.initOrder.toList) = c :: rest) (h1 : stripLifts liftWords (c :: rest) = ([], c :: rest)) : P.headLifts = [] := by
 unfold Program.headLifts;rw [h0, h1];dsimp only
 split <;> rfl
theorem zfn {P : Program} {c : List Char} {rest : List (List Char)} (h0 : behindMainWord (wordsSigns P.initOrder.toList) = c :: rest) (hh : P.headLifts = []) (h2 : (c == "carried".toList) = false) : P.liftsFinal = false := by
 have e : (some c == some "carried".toList) = false := h2
 unfold Program.liftsFinal;rw [h0, hh];show (((some c == some "carried".toList) && _) || _) = false
 rw [e]
 rfl
theorem znP {P : Program} {c : List Char} {rest : List (List Char)} (h0 : behindMainWord (wordsSigns P.initOrder.toList) = c :: rest) (h1 : (c == "gc".toList) = false) (h2 : (c == "spec".toList) = false) (h3 : (c == "cut".toList) = true) : P.make = some .cut := by
 unfold Program.make;rw [h0];dsimp only
 rw [h1, h2, h3]
 rfl
theorem zoC : Tryz.checked.prog.headLifts = [] := zhg zkt znd
theorem zoD : Tryz.checked.prog.liftsFinal = false := zfn zkt zoC (by kernel_rfl)
theorem zoE : Tryz.checked.prog.make = some .cut := znP zkt (by kernel_rfl) (by kernel_rfl) (by kernel_rfl)

end Go.Proofs.YtlmckocbhcpmdaaGreat
