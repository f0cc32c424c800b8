/- What the program's functions and the reference's return. No conditions. -/
import Derived.Test.YtlmckocbhcpmdaaGreatPi
import Derived.Test.YtlmckocbhcpmdaaGreatRows
namespace Go.Proofs.YtlmckocbhcpmdaaGreat
open Go Go.RowKit Go.Proofs Poly
set_option maxRecDepth 100000
set_option maxHeartbeats 8000000

theorem yK (p : Int) (g : Option Nat) (l : List Int) (n : Nat) (hp : 2 <= p) (hn : n <= 1000000000) : FnV 177 [vK p g l, .int .i64 n] (.ints none (dig p.toNat n)) := by
 obtain ⟨q, rfl⟩ : ∃ q : Nat, p = q := ⟨p.toNat, by omega⟩
 rw [Int.toNat_natCast];have hp : 2 <= q := by omega
 refine zd (za [0, 1, 2, 4, 5, 8]) Tryz.func177 rfl (by decide) Tryz.ntmps177 (Nat.le_of_ble_eq_true rfl) fun base => ?_;refine wrs fun K hK => ?_;conv => whnf
 refine ⟨rfl, ?_⟩;conv => whnf
 intro b_1 hs_1 hh_1 hf_1;try dsimp only at hh_1 hf_1
 conv => whnf
 refine hK _ ?_;clear hK K;refine wrs fun K hK => ?_;conv => whnf
 refine ⟨⟨rfl, by decide⟩, ?_⟩;conv => whnf
 intro b_2 hs_2 hh_2 hf_2;try dsimp only at hh_2 hf_2
 conv => whnf
 refine hK _ ?_;clear hK K;refine W.seqK fun K1 hK1 => W.block (W.invA (fun m e => ∃ (k b : Nat) (o : List Int), k <= n ∧ o ++ dig q k = dig q n ∧ o.length + k <= n ∧ m = k ∧ e = [(1, .v (.int .i64 k)), (2, .ownB b_1 (vK q g l)), (5, .ownI 2 b o)]) ⟨n, b_2, [], Nat.le_refl _, rfl, by simp, rfl, rfl⟩ ?_);rintro m e ⟨k, b, o, hk, ho, hol, hm, rfl⟩;refine W.seqK fun K7 hK7 => wrs fun K hK => ?_;conv => whnf
 refine hK _ (W.cond ⟨fun h => ?_, fun h => ?_⟩) <;> clear hK K <;> (first | replace h := of_decide_eq_true h | replace h := of_decide_eq_false h)
 ·have h1 := xT hp (n := k) (by omega);have h2 : k / q < k := Nat.div_lt_self (by omega) hp;have h3 : ((k : Int)).tmod q = ((k % q : Nat) : Int) := vE k q;have h4 : ((k : Int)).tdiv q = ((k / q : Nat) : Int) := y4 k q;generalize k / q = v at h1 h2 h4;generalize k % q = u at h1 h3;refine W.skip (hK7 _ ?_);clear hK7 K7;refine W.seqK fun K8 hK8 => W.block ?_;refine wrg ?_;conv => whnf
  refine ⟨by omega, ?_⟩;conv => whnf
  rw [h3];refine ⟨⟨rfl, by decide⟩, ?_⟩;conv => whnf
  intro b_1 hs_1 hh_1 hf_1;try dsimp only at hh_1 hf_1
  conv => whnf
  refine ⟨by dsimp only [List.length]; omega, ?_⟩;conv => whnf
  intro b_2 hs_2 hh_2 hf_2;try dsimp only at hh_2 hf_2
  conv => whnf
  refine hK8 _ ?_;clear hK8 K8;refine wrg ?_;conv => whnf
  rw [h4];refine ⟨by omega, ?_⟩;conv => whnf
  refine ⟨oo, ?_⟩;conv => whnf
  exact zi ⟨v, b_2, o ++ [(u : Int)], by omega, by rw [<- ho, h1, List.append_assoc]; rfl, by rw [List.length_append]; dsimp only [List.length]; omega, rfl, rfl⟩
 ·obtain rfl : k = 0 := by omega
  rw [vA, List.append_nil] at ho;subst ho;refine W.exit (hK1 _ ?_);clear hK7 K7 hK1 K1;refine wrs fun K hK => ?_;conv => whnf
  refine hK _ ?_;clear hK K;refine W.ret ?_;conv => whnf
  exact ⟨.v (.ints none (dig q n)), ⟨rfl, rfl⟩, trivial, rfl⟩

theorem zfp (kp : Int) (kl : List Int) (n : Int) (_ : inR kp) (_ : inR n) (hkl : kl.length <= 1048576) : ∃ (r0 : List Int) (r1 : Int),
  (∀ g0 : Option Nat, FnV 23 [vK kp g0 kl, .int .i64 n] (.tup [.ints none r0, .int .i64 r1])) ∧ (∀ g0 : Option Nat, FnT Tryz.prog 22 [vK kp g0 kl, .int .i64 n] (RT r0 r1)) ∧ r0.length <= 1000000 ∧ (IsFld kp kl -> 0 <= n -> n < kp ^ (kl.length - 1) -> r1 = 0 ∧ r0 = dig kp.toNat n.toNat) := by
 by_cases hk : IsFld kp kl
 case neg =>
  have hc : zo kp kl true 0 (fun _ => []) = 1 := by unfold zo; rw [zf hk]; rfl
  refine ⟨[], 1, fun g0 => ?_, fun g0 => ?_, by simp, fun h => absurd h hk⟩
  ·refine zd (za [0, 1, 2, 4, 5, 8, 14]) Tryz.func23 rfl (by decide) Tryz.ntmps23 (Nat.le_of_ble_eq_true rfl) fun base => ?_;refine wrs fun K hK => ?_;conv => whnf
   refine ⟨rfl, ?_⟩;conv => whnf
   intro b_1 hs_1 hh_1 hf_1;try dsimp only at hh_1 hf_1
   conv => whnf
   refine hK _ ?_;clear hK K;refine W.seqK fun K1 hK1 => ?_;refine wrs fun K hK => ?_;conv => whnf
   refine zb rfl ((zC kp g0 kl (by omega)).fa (zf hk)) fun hs' hhs => ?_;try dsimp only at hhs
   conv => whnf
   refine hK _ (W.condT rfl ?_);clear hK K;refine wrs fun K hK => ?_;conv => whnf
   refine hK _ ?_;clear hK K;refine W.ret ?_;conv => whnf
   exact ⟨.v (.ints none []), rfl, trivial, .v (.int .i64 1), ⟨rfl, rfl⟩, trivial, rfl⟩
  ·refine yD (zu [] [0, 1, 2, 4, 5, 6, 10, 17, 1000000]) Tryz.func22 rfl (by decide) Tryz.ntmps22 (Nat.le_of_ble_eq_true rfl) (fun base => ?_) (Nat.le_of_ble_eq_true rfl);refine W.sw (c' := cx [0, 1, 2, 4, 5, 6, 10, 17, 1000000]) ?_;refine wrs fun K hK => ?_;conv => whnf
   refine ⟨rfl, ?_⟩;conv => whnf
   intro b_1 hs_1 hh_1 hf_1;try dsimp only at hh_1 hf_1
   conv => whnf
   refine hK _ ?_;clear hK K;refine W.seqK fun K1 hK1 => ?_;refine wrs fun K hK => ?_;conv => whnf
   refine zb rfl (yt kp g0 none kl 0 _ (fun _ => []) (by omega) (by omega) (fun i hi => by omega)) fun hs' hhs => ?_;try dsimp only at hhs
   conv => whnf
   rw [hc];refine hK _ ?_;clear hK K;refine wrs fun K hK => ?_;conv => whnf
   refine hK _ (W.cond ⟨fun _ => ?_, fun hcc => absurd (by decide : (1 : Int) ≠ 0) (of_decide_eq_false hcc)⟩);clear hK K;refine wrs fun K hK => ?_;conv => whnf
   refine hK _ ?_;clear hK K;refine W.ret ?_;conv => whnf
   exact ⟨.v (.rf 0 0), rfl, trivial, .v (.int .i64 (1)), ⟨rfl, rfl⟩, trivial, 0, rfl, fun hne => absurd rfl hne⟩
 have hc : zo kp kl true 0 (fun _ => []) = 0 := by unfold zo; rw [zg hk, zg (fun i hi => by omega)]; rfl
 have hp1 := zaB hk.mod.1;have h9 := hk.mod.2.1;have hl2 := hk.two;have ho := hk.ord;have hb := jq (p := kp) (by omega) (by omega) (k := kl.length - 1) (by omega)
 by_cases hn : 0 <= n ∧ n <= kp ^ (kl.length - 1) - 1
 case neg =>
  refine ⟨[], 2, fun g0 => ?_, fun g0 => ?_, by simp, fun _ h1 h2 => absurd ⟨h1, by omega⟩ hn⟩
  ·refine zd (za [0, 1, 2, 4, 5, 8, 14]) Tryz.func23 rfl (by decide) Tryz.ntmps23 (Nat.le_of_ble_eq_true rfl) fun base => ?_;refine wrs fun K hK => ?_;conv => whnf
   refine ⟨rfl, ?_⟩;conv => whnf
   intro b_1 hs_1 hh_1 hf_1;try dsimp only at hh_1 hf_1
   conv => whnf
   refine hK _ ?_;clear hK K;refine W.seqK fun K1 hK1 => ?_;refine wrs fun K hK => ?_;conv => whnf
   refine zb rfl ((zC kp g0 kl (by omega)).tr (zg hk)) fun hs' hhs => ?_;try dsimp only at hhs
   conv => whnf
   refine hK _ (W.condF rfl (W.skip (hK1 _ ?_)));clear hK K hK1 K1;refine W.seqK fun K1 hK1 => ?_;refine wrs fun K hK => ?_;conv => whnf
   refine zb rfl (zG kp g0 kl hk) fun hs' hhs => ?_;try dsimp only at hhs
   conv => whnf
   refine ⟨oo, ?_⟩;conv => whnf
   refine zb rfl ((y2 _ _ _).fa (decide_eq_false hn)) fun hs' hhs => ?_;try dsimp only at hhs
   conv => whnf
   refine hK _ (W.condT rfl ?_);clear hK K;refine wrs fun K hK => ?_;conv => whnf
   refine hK _ ?_;clear hK K;refine W.ret ?_;conv => whnf
   exact ⟨.v (.ints none []), rfl, trivial, .v (.int .i64 2), ⟨rfl, rfl⟩, trivial, rfl⟩
  ·refine yD (zu [] [0, 1, 2, 4, 5, 6, 10, 17, 1000000]) Tryz.func22 rfl (by decide) Tryz.ntmps22 (Nat.le_of_ble_eq_true rfl) (fun base => ?_) (Nat.le_of_ble_eq_true rfl);refine W.sw (c' := cx [0, 1, 2, 4, 5, 6, 10, 17, 1000000]) ?_;refine wrs fun K hK => ?_;conv => whnf
   refine ⟨rfl, ?_⟩;conv => whnf
   intro b_1 hs_1 hh_1 hf_1;try dsimp only at hh_1 hf_1
   conv => whnf
   refine hK _ ?_;clear hK K;refine W.seqK fun K1 hK1 => ?_;refine wrs fun K hK => ?_;conv => whnf
   refine zb rfl (yt kp g0 none kl 0 _ (fun _ => []) (by omega) (by omega) (fun i hi => by omega)) fun hs' hhs => ?_;try dsimp only at hhs
   conv => whnf
   rw [hc];refine hK _ ?_;clear hK K;refine wrs fun K hK => ?_;conv => whnf
   refine hK _ (W.cond ⟨fun hcc => absurd rfl (of_decide_eq_true hcc), fun _ => W.skip (hK1 _ ?_)⟩);clear hK K hK1 K1;refine W.seqK fun K1 hK1 => ?_;refine wrs fun K hK => ?_;conv => whnf
   refine zb rfl (y3 kp g0 kl (by omega) (by omega) (by omega) (by omega)) fun hs' hhs => ?_;try dsimp only at hhs
   conv => whnf
   refine ⟨oo, ?_⟩;conv => whnf
   refine zb rfl ((xc _ _ _).fa (decide_eq_false hn)) fun hs' hhs => ?_;try dsimp only at hhs
   conv => whnf
   refine hK _ (W.condT rfl ?_);clear hK K;refine wrs fun K hK => ?_;conv => whnf
   refine hK _ ?_;clear hK K;refine W.ret ?_;conv => whnf
   exact ⟨.v (.rf 0 0), rfl, trivial, .v (.int .i64 (2)), ⟨rfl, rfl⟩, trivial, 0, rfl, fun hne => absurd rfl hne⟩
 obtain ⟨k, rfl⟩ : ∃ k : Nat, n = k := ⟨n.toNat, by omega⟩
 have hkd := yx (p := kp.toNat) (by omega) (kl.length - 1) k (by
  have h1 : ((kp.toNat ^ (kl.length - 1) : Nat) : Int) = kp ^ (kl.length - 1) := by rw [Int.natCast_pow, Int.toNat_of_nonneg (by omega)]
  omega)
 refine ⟨dig kp.toNat k, 0, fun g0 => ?_, fun g0 => ?_, by omega, fun _ _ _ => ⟨rfl, by rw [Int.toNat_natCast]⟩⟩
 ·refine zd (za [0, 1, 2, 4, 5, 8, 14]) Tryz.func23 rfl (by decide) Tryz.ntmps23 (Nat.le_of_ble_eq_true rfl) fun base => ?_;refine wrs fun K hK => ?_;conv => whnf
  refine ⟨rfl, ?_⟩;conv => whnf
  intro b_1 hs_1 hh_1 hf_1;try dsimp only at hh_1 hf_1
  conv => whnf
  refine hK _ ?_;clear hK K;refine W.seqK fun K1 hK1 => ?_;refine wrs fun K hK => ?_;conv => whnf
  refine zb rfl ((zC kp g0 kl (by omega)).tr (zg hk)) fun hs' hhs => ?_;try dsimp only at hhs
  conv => whnf
  refine hK _ (W.condF rfl (W.skip (hK1 _ ?_)));clear hK K hK1 K1;refine W.seqK fun K1 hK1 => ?_;refine wrs fun K hK => ?_;conv => whnf
  refine zb rfl (zG kp g0 kl hk) fun hs' hhs => ?_;try dsimp only at hhs
  conv => whnf
  refine ⟨oo, ?_⟩;conv => whnf
  refine zb rfl ((y2 _ _ _).tr (decide_eq_true hn)) fun hs' hhs => ?_;try dsimp only at hhs
  conv => whnf
  refine hK _ (W.condF rfl (W.skip (hK1 _ ?_)));clear hK K hK1 K1;refine wrs fun K hK => ?_;conv => whnf
  refine zb rfl (yK kp g0 kl k (by omega) (by omega)) fun hs' hhs => ?_;try dsimp only at hhs
  conv => whnf
  refine hK _ ?_;clear hK K;refine W.ret ?_;conv => whnf
  exact ⟨.v (.ints none (dig kp.toNat k)), ⟨rfl, rfl⟩, trivial, .v (.int .i64 0), ⟨rfl, rfl⟩, trivial, rfl⟩
 ·refine yD (zu [] [0, 1, 2, 4, 5, 6, 10, 17, 1000000]) Tryz.func22 rfl (by decide) Tryz.ntmps22 (Nat.le_of_ble_eq_true rfl) (fun base => ?_) (Nat.le_of_ble_eq_true rfl);refine W.sw (c' := cx [0, 1, 2, 4, 5, 6, 10, 17, 1000000]) ?_;refine wrs fun K hK => ?_;conv => whnf
  refine ⟨rfl, ?_⟩;conv => whnf
  intro b_1 hs_1 hh_1 hf_1;try dsimp only at hh_1 hf_1
  conv => whnf
  refine hK _ ?_;clear hK K;refine W.seqK fun K1 hK1 => ?_;refine wrs fun K hK => ?_;conv => whnf
  refine zb rfl (yt kp g0 none kl 0 _ (fun _ => []) (by omega) (by omega) (fun i hi => by omega)) fun hs' hhs => ?_;try dsimp only at hhs
  conv => whnf
  rw [hc];refine hK _ ?_;clear hK K;refine wrs fun K hK => ?_;conv => whnf
  refine hK _ (W.cond ⟨fun hcc => absurd rfl (of_decide_eq_true hcc), fun _ => W.skip (hK1 _ ?_)⟩);clear hK K hK1 K1;refine W.seqK fun K1 hK1 => ?_;refine wrs fun K hK => ?_;conv => whnf
  refine zb rfl (y3 kp g0 kl (by omega) (by omega) (by omega) (by omega)) fun hs' hhs => ?_;try dsimp only at hhs
  conv => whnf
  refine ⟨oo, ?_⟩;conv => whnf
  refine zb rfl ((xc _ _ _).tr (decide_eq_true hn)) fun hs' hhs => ?_;try dsimp only at hhs
  conv => whnf
  refine hK _ (W.condF rfl (W.skip (hK1 _ ?_)));clear hK K hK1 K1;refine W.sw (c' := cxt [] [0, 1, 2, 4, 5, 6, 10, 17, 1000000]) ?_;refine W.rs (zu _ _) (by rfl) fun K hK => ?_;conv => whnf
  refine zH rfl (vY kp k (by omega) (by omega)) fun hs_3 b_3 hh_3 hf_3 => ?_;try dsimp only at hh_3 hf_3
  conv => whnf
  refine hK _ ?_;clear hK K;refine W.give 4 fun K hK => ?_;conv => whnf
  refine hK _ ?_;clear hK K;refine W.ret ?_;conv => whnf
  exact ⟨.v (.rf b_3 _), rfl, trivial, .v (.int .i64 (0)), ⟨rfl, rfl⟩, trivial, b_3, rfl, fun hne => vg _ _ hne⟩

def vP (x : Nat × Nat) : V := .agg [.int .i64 x.1, .int .i64 x.2]
def vPw (L : List (Nat × Nat)) : V := .vals none 2 L.length fun j => vP (L.getD j (0, 0))


theorem ze6 (n : Nat) (L : List (Nat × Nat)) (hL : FacS n L) (hn : n <= 1000000) : FnV 238 [.int .i64 n] (vPw L) := by
 have hpr := hL.prod;have hlen := xF hL.pr;refine zd (za [0, 2, 3, 4, 5, 7, 14, 19, 26]) Tryz.func238 rfl (by decide) Tryz.ntmps238 (Nat.le_of_ble_eq_true rfl) fun base => ?_;refine wrs fun K hK => ?_;conv => whnf
 refine hK _ ?_;clear hK K;refine wrs fun K hK => ?_;conv => whnf
 refine hK _ ?_;clear hK K;refine W.seqK fun K1 hK1 => ?_;refine wrs fun K hK => ?_;conv => whnf
 refine hK _ (W.block (W.invA (fun m e => ∃ (A M : List (Nat × Nat)) (q b : Nat), A ++ M = L ∧ FacS (zq M) M ∧ 2 <= q ∧ (∀ x ∈ M, q <= x.1) ∧ q <= n + 1 ∧ m = n + 1 - q ∧ e = [(0, .v (.int .i64 (zq M : Nat))), (3, .ownV 162 2 b A.length fun i => vP (A.getD i (0, 0))), (4, .v (.int .i64 q))]) ⟨[], L, 2, 0, rfl, hpr.symm ▸ hL, Nat.le_refl _, fun x hx => (hL.pr x hx).1.1, by omega, rfl, rfl⟩ ?_));clear hK K;rintro m e ⟨A, M, q, b, hA, hM, hq2, hql, hqn, hm, rfl⟩
 have hMn : zq M <= n := by
  rw [<- hpr, <- hA, kE];have : 0 < zq A := j7 fun x hx => hL.pr x (by rw [<- hA]; simp [hx]);exact Nat.le_mul_of_pos_left _ this
 have hAl : A.length <= L.length := by rw [<- hA, List.length_append]; omega
 refine W.seqK fun K7 hK7 => wrs fun K hK => ?_;conv => whnf
 refine hK _ (W.cond ⟨fun h1 => ?_, fun h1 => ?_⟩) <;> clear hK K <;> (first | replace h1 := of_decide_eq_true h1 | replace h1 := of_decide_eq_false h1)
 ·have h1' : 1 < zq M := by omega
  obtain ⟨x, hx⟩ : ∃ x, x ∈ M := by
   cases M with
   | nil => rw [zq] at h1'; omega
   | cons y M => exact ⟨y, by simp⟩
  have hqM : ∀ q', (∀ x ∈ M, q' <= x.1) -> q' <= zq M := fun q' hq' => by
   obtain ⟨r, hr⟩ : ∃ r, x.2 = r + 1 := ⟨x.2 - 1, by have := (hM.pr x hx).2; omega⟩
   have h3 := xb hx;rw [hr, Nat.pow_succ] at h3;exact Nat.le_trans (hq' x hx) (Nat.le_of_dvd (by omega) (Nat.dvd_trans (Nat.dvd_mul_left _ _) h3))
  refine W.skip (hK7 _ ?_);clear hK7 K7;refine W.seqK fun K8 hK8 => W.block ?_;refine W.seqK fun K9 hK9 => ?_
  have fin : ∀ (q' : Nat) (s : S), 2 <= q' -> (∀ x ∈ M, q' <= x.1) -> q <= q' -> base <= s.hs ->
    zy s.env [(0, .v (.int .i64 (zq M : Nat))), (3, .ownV 162 2 b A.length fun i => vP (A.getD i (0, 0))), (4, .v (.int .i64 q'))] -> K9 s := by
   intro q' s b1 b2 b3 h5 h6;have hq'M := hqM q' b2;obtain ⟨k, M', b5, b4, b6, b7, b8⟩ := hM.next' b1 b2;refine hK9 _ (W.weak (t := ⟨[(0, .v (.int .i64 (zq M : Nat))), (3, .ownV 162 2 b A.length fun i => vP (A.getD i (0, 0))), (4, .v (.int .i64 q'))], base⟩) ⟨h5, h6⟩ (Nat.le_refl _) ?_);clear hK9 K9;refine wrs fun K hK => ?_;conv => whnf
   refine hK _ ?_;clear hK K;have e8 : zq M = q' ^ (k - 0) * zq M' := b5;rw [e8];refine W.seqK fun K1 hK1 => W.block (W.invA (fun m e => ∃ i : Nat, i <= k ∧ m = k - i ∧ e = [(0, .v (.int .i64 ((q' ^ (k - i) * zq M' : Nat) : Int))), (3, .ownV 162 2 b A.length fun i => vP (A.getD i (0, 0))), (4, .v (.int .i64 q')), (5, .v (.int .i64 i))]) ⟨0, Nat.zero_le _, rfl, rfl⟩ ?_);rintro m2 e ⟨i, hi, hm2, rfl⟩;have hmod := zf3 (a := k - i) b1 b4
   have hkb : k <= 1000000 := by
    have h1 : k < q' ^ k := Nat.lt_pow_self (by omega);have h2 : q' ^ k * 1 <= q' ^ k * zq M' := Nat.mul_le_mul_left _ (j7 b6.pr);omega
   have hle : q' ^ (k - i) * zq M' <= 1000000 := by
    have : q' ^ (k - i) * zq M' <= q' ^ k * zq M' := Nat.mul_le_mul_right _ (Nat.pow_le_pow_right (by omega) (by omega));omega
   refine W.seqK fun K7 hK7 => ?_;refine wrs fun K hK => ?_;conv => whnf
   refine ⟨by omega, ?_⟩;conv => whnf
   rw [vE];refine hK _ (W.cond ⟨fun h2 => ?_, fun h2 => ?_⟩) <;> clear hK K
   ·have h2 := of_decide_eq_true h2;have hik : 0 < k - i := hmod.1 (by omega);have hdiv := zf4 (P := zq M') b1 hik;have hle2 : q' ^ (k - i - 1) * zq M' <= 1000000 := by rw [<- hdiv]; exact Nat.le_trans (Nat.div_le_self _ _) hle
    refine W.skip (hK7 _ (W.block ?_));clear hK7 K7;refine wrs fun K hK => ?_;conv => whnf
    refine ⟨by omega, ?_⟩;conv => whnf
    rw [y4, hdiv];refine ⟨oo, ?_⟩;conv => whnf
    refine hK _ ?_;clear hK K;refine wrg ?_;conv => whnf
    refine ⟨oo, ?_⟩;conv => whnf
    exact zi ⟨i + 1, by omega, rfl, rfl⟩
   have h2 := of_decide_eq_false h2;have hik : ¬ 0 < k - i := fun h => h2 (by have := hmod.2 h; omega);obtain rfl : i = k := by omega
   have e9 : q' ^ (i - i) * zq M' = zq M' := by rw [Nat.sub_self, Nat.pow_zero, Nat.one_mul]
   rw [e9];refine W.exit (hK1 _ ?_);clear hK7 K7 hK1 K1;refine wrs fun K hK => ?_;conv => whnf
   refine hK _ (W.cond ⟨fun h3 => ?_, fun h3 => ?_⟩) <;> clear hK K
   ·have h3 := of_decide_eq_true h3;have hb8 : M = (q', i) :: M' := by rw [if_neg (by omega)] at b8; exact b8
    refine wrg ?_;conv => whnf
    refine ⟨⟨rfl, by decide, fun x hx => by simp at hx; subst hx; exact ⟨rfl, rfl⟩⟩, ?_⟩;conv => whnf
    intro b_8 hs_8 hh_8 hf_8;try dsimp only at hh_8 hf_8
    conv => whnf
    refine ⟨by omega, ?_⟩;conv => whnf
    refine ⟨fun j => vP ((A ++ [(q', i)]).getD j (0, 0)), fun j hj => congrArg vP (vC hj), fun j hj => ?_, ?_⟩
    ·obtain rfl : j = 0 := by omega
     exact congrArg vP vD
    intro b_9 hs_9 hh_9 hf_9;try dsimp only at hh_9 hf_9
    conv => whnf
    refine hK8 _ ?_;clear hK8 K8;refine wrg ?_;conv => whnf
    refine ⟨oo, ?_⟩;conv => whnf
    refine ⟨_, _, ⟨A ++ [(q', i)], M', q' + 1, b_9, by rw [List.append_assoc, <- hA, hb8]; rfl, b6, by omega, b7, by omega, rfl, rfl⟩, by omega, by dsimp only; omega, ?_⟩;rw [List.length_append (bs := [_])];exact cvr
   ·have h3 := of_decide_eq_false h3;have hb8 : M = M' := by rw [if_pos (by omega)] at b8; exact b8
    refine W.skip (hK8 _ ?_);clear hK8 K8;refine wrg ?_;conv => whnf
    refine ⟨oo, ?_⟩;conv => whnf
    exact zi ⟨A, M', q' + 1, b, by rw [<- hA, hb8], b6, by omega, b7, by omega, rfl, rfl⟩
  have hqq := hqM q hql;have hq3 : (q : Int) * q <= 1000001 * 1000001 := Int.mul_le_mul (by omega) (by omega) (by omega) (by omega);have hq4 : 0 <= (q : Int) * q := Int.mul_nonneg (by omega) (by omega);refine wrs fun K hK => ?_;conv => whnf
  refine ⟨oo, ?_⟩;conv => whnf
  refine hK _ (W.cond ⟨fun h2 => ?_, fun h2 => ?_⟩) <;> clear hK K
  ·have h2 := of_decide_eq_true h2;have hlast := hM.last hql h1' (by rw [<- Int.natCast_mul] at h2; omega);refine wrg ?_;conv => whnf
   refine fin (zq M) _ (by omega) (fun y hy => ?_) hqq (by dsimp only; omega) ?_
   ·rw [hlast] at hy;have hy : y = (zq M, 1) := by simpa using hy
    rw [hy]; exact Nat.le_refl _
   ·clear fin hK9 K9;exact cvr
  ·refine W.skip (fin q _ hq2 hql (Nat.le_refl _) (by dsimp only; omega) ?_);clear fin hK9 K9;exact cvr
 ·have hMe : M = [] := by
   cases M with
   | nil => rfl
   | cons y M' => have := xF hM.pr; rw [List.length_cons] at this; omega
  rw [hMe, List.append_nil] at hA;subst hA;refine W.exit (hK1 _ ?_);clear hK7 K7 hK1 K1;refine W.sw (c' := cxr [0, 2, 3, 4, 5, 7, 14, 19, 26]) (W.rs (zgX _) (by rfl) fun K hK => ?_);conv => whnf
  refine hK _ ?_;clear hK K;refine W.ret ?_;conv => whnf
  exact ⟨.v (vPw A), ⟨.inl rfl, rfl, rfl, fun _ _ => rfl⟩, ⟨trivial, fun _ _ => ⟨trivial, trivial, trivial⟩⟩, rfl⟩

theorem zhc (n : Nat) (L : List (Nat × Nat)) (hL : FacS n L) (hn : n <= 1000000) : FnV 335 [.int .i64 n] (vPw L) := by
 have hpr := hL.prod;have hlen := xF hL.pr;refine zd (za [0, 2, 3, 4, 5, 11, 17, 24, 32]) Tryz.func335 rfl (by decide) Tryz.ntmps335 (Nat.le_of_ble_eq_true rfl) fun base => ?_;refine wrs fun K hK => ?_;conv => whnf
 refine hK _ ?_;clear hK K;refine wrs fun K hK => ?_;conv => whnf
 refine ⟨⟨rfl, by decide, fun x hx => by simp at hx⟩, ?_⟩;conv => whnf
 intro b_1 hs_1 hh_1 hf_1;try dsimp only at hh_1 hf_1
 conv => whnf
 refine hK _ ?_;clear hK K;refine W.seqK fun K1 hK1 => ?_;refine wrs fun K hK => ?_;conv => whnf
 refine hK _ (W.block (W.invA (fun m e => ∃ (A M : List (Nat × Nat)) (q b : Nat), A ++ M = L ∧ FacS (zq M) M ∧ 2 <= q ∧ (∀ x ∈ M, q <= x.1) ∧ q <= n + 2 ∧ m = n + 2 - q ∧ e = [(0, .v (.int .i64 (zq M : Nat))), (3, .ownV 162 2 b A.length fun i => vP (A.getD i (0, 0))), (4, .v (.int .i64 q))]) ⟨[], L, 2, b_1, rfl, hpr.symm ▸ hL, Nat.le_refl _, fun x hx => (hL.pr x hx).1.1, by omega, rfl, rfl⟩ ?_));clear hK K;rintro m e ⟨A, M, q', b, hA, hM, b1, b2, hqn, hm, rfl⟩
 have hMn : zq M <= n := by
  rw [<- hpr, <- hA, kE];have : 0 < zq A := j7 fun x hx => hL.pr x (by rw [<- hA]; simp [hx]);exact Nat.le_mul_of_pos_left _ this
 have hAl : A.length <= L.length := by rw [<- hA, List.length_append]; omega
 have hq3 : (q' : Int) * q' <= 1000002 * 1000002 := Int.mul_le_mul (by omega) (by omega) (by omega) (by omega);have hq4 : 0 <= (q' : Int) * q' := Int.mul_nonneg (by omega) (by omega);refine W.seqK fun K7 hK7 => ?_;refine wrs fun K hK => ?_;conv => whnf
 refine ⟨oo, ?_⟩;conv => whnf
 refine hK _ (W.cond ⟨fun h1 => ?_, fun h1 => ?_⟩) <;> clear hK K
 ·have h1 := of_decide_eq_true h1;have hqq : q' * 2 <= q' * q' := Nat.mul_le_mul_left _ b1;have hqq2 : q' * q' <= zq M := by rw [<- Int.natCast_mul] at h1; omega
  obtain ⟨k, M', b5, b4, b6, b7, b8⟩ := hM.next' b1 b2;refine W.skip (hK7 _ ?_);clear hK7 K7;refine W.seqK fun K8 hK8 => W.block ?_;refine wrs fun K hK => ?_;conv => whnf
  refine hK _ ?_;clear hK K;have e8 : zq M = q' ^ (k - 0) * zq M' := b5;rw [e8];refine W.seqK fun K1 hK1 => W.block (W.invA (fun m e => ∃ i : Nat, i <= k ∧ m = k - i ∧ e = [(0, .v (.int .i64 ((q' ^ (k - i) * zq M' : Nat) : Int))), (3, .ownV 162 2 b A.length fun i => vP (A.getD i (0, 0))), (4, .v (.int .i64 q')), (5, .v (.int .i64 i))]) ⟨0, Nat.zero_le _, rfl, rfl⟩ ?_);rintro m2 e ⟨i, hi, hm2, rfl⟩;have hmod := zf3 (a := k - i) b1 b4
  have hkb : k <= 1000000 := by
   have h1 : k < q' ^ k := Nat.lt_pow_self (by omega);have h2 : q' ^ k * 1 <= q' ^ k * zq M' := Nat.mul_le_mul_left _ (j7 b6.pr);omega
  have hle : q' ^ (k - i) * zq M' <= 1000000 := by
   have : q' ^ (k - i) * zq M' <= q' ^ k * zq M' := Nat.mul_le_mul_right _ (Nat.pow_le_pow_right (by omega) (by omega));omega
  refine W.seqK fun K7 hK7 => ?_;refine wrs fun K hK => ?_;conv => whnf
  refine ⟨by omega, ?_⟩;conv => whnf
  rw [vE];refine hK _ (W.cond ⟨fun h2 => ?_, fun h2 => ?_⟩) <;> clear hK K
  ·have h2 := of_decide_eq_true h2;have hik : 0 < k - i := hmod.1 (by omega);have hdiv := zf4 (P := zq M') b1 hik;have hle2 : q' ^ (k - i - 1) * zq M' <= 1000000 := by rw [<- hdiv]; exact Nat.le_trans (Nat.div_le_self _ _) hle
   refine W.skip (hK7 _ (W.block ?_));clear hK7 K7;refine wrs fun K hK => ?_;conv => whnf
   refine ⟨by omega, ?_⟩;conv => whnf
   rw [y4, hdiv];refine ⟨oo, ?_⟩;conv => whnf
   refine hK _ ?_;clear hK K;refine wrg ?_;conv => whnf
   refine ⟨oo, ?_⟩;conv => whnf
   exact zi ⟨i + 1, by omega, rfl, rfl⟩
  have h2 := of_decide_eq_false h2;have hik : ¬ 0 < k - i := fun h => h2 (by have := hmod.2 h; omega);obtain rfl : i = k := by omega
  have e9 : q' ^ (i - i) * zq M' = zq M' := by rw [Nat.sub_self, Nat.pow_zero, Nat.one_mul]
  rw [e9];refine W.exit (hK1 _ ?_);clear hK7 K7 hK1 K1;refine wrs fun K hK => ?_;conv => whnf
  refine hK _ (W.cond ⟨fun h3 => ?_, fun h3 => ?_⟩) <;> clear hK K
  ·have h3 := of_decide_eq_true h3;have hb8 : M = (q', i) :: M' := by rw [if_neg (by omega)] at b8; exact b8
   refine wrg ?_;conv => whnf
   refine ⟨⟨rfl, by decide, fun x hx => by simp at hx; subst hx; exact ⟨rfl, rfl⟩⟩, ?_⟩;conv => whnf
   intro b_8 hs_8 hh_8 hf_8;try dsimp only at hh_8 hf_8
   conv => whnf
   refine ⟨by omega, ?_⟩;conv => whnf
   refine ⟨fun j => vP ((A ++ [(q', i)]).getD j (0, 0)), fun j hj => congrArg vP (vC hj), fun j hj => ?_, ?_⟩
   ·obtain rfl : j = 0 := by omega
    exact congrArg vP vD
   intro b_9 hs_9 hh_9 hf_9;try dsimp only at hh_9 hf_9
   conv => whnf
   refine hK8 _ ?_;clear hK8 K8;refine wrg ?_;conv => whnf
   refine ⟨oo, ?_⟩;conv => whnf
   refine ⟨_, _, ⟨A ++ [(q', i)], M', q' + 1, b_9, by rw [List.append_assoc, <- hA, hb8]; rfl, b6, by omega, b7, by omega, rfl, rfl⟩, by omega, by dsimp only; omega, ?_⟩;rw [List.length_append (bs := [_])];exact cvr
  ·have h3 := of_decide_eq_false h3;have hb8 : M = M' := by rw [if_pos (by omega)] at b8; exact b8
   refine W.skip (hK8 _ ?_);clear hK8 K8;refine wrg ?_;conv => whnf
   refine ⟨oo, ?_⟩;conv => whnf
   exact zi ⟨A, M', q' + 1, b, by rw [<- hA, hb8], b6, by omega, b7, by omega, rfl, rfl⟩
 ·have h1 := of_decide_eq_false h1;refine W.exit (hK1 _ ?_);clear hK7 K7 hK1 K1;refine W.seqK fun K1 hK1 => ?_
  have fin : ∀ (b' : Nat) (s : S), base <= s.hs -> zy s.env [(3, .ownV 162 2 b' L.length fun i => vP (L.getD i (0, 0)))] -> K1 s := by
   intro b' s h5 h6;refine hK1 _ (W.weak (t := ⟨[(3, .ownV 162 2 b' L.length fun i => vP (L.getD i (0, 0)))], base⟩) ⟨h5, h6⟩ (Nat.le_refl _) ?_);clear hK1 K1;refine W.sw (c' := cxr [0, 2, 3, 4, 5, 11, 17, 24, 32]) (W.rs (zgX _) (by rfl) fun K hK => ?_);conv => whnf
   refine hK _ ?_;clear hK K;refine W.ret ?_;conv => whnf
   exact ⟨.v (vPw L), ⟨.inl rfl, rfl, rfl, fun _ _ => rfl⟩, ⟨trivial, fun _ _ => ⟨trivial, trivial, trivial⟩⟩, rfl⟩
  clear hK1;refine wrs fun K hK => ?_;conv => whnf
  refine hK _ (W.cond ⟨fun h2 => ?_, fun h2 => ?_⟩) <;> clear hK K
  ·have h2 := of_decide_eq_true h2;have hlast := hM.last b2 (by omega) (by rw [<- Int.natCast_mul] at h1; omega);have hA2 : A ++ [(zq M, 1)] = L := by rw [<- hlast]; exact hA
   refine wrg ?_;conv => whnf
   refine ⟨⟨rfl, by decide, fun x hx => by simp at hx; subst hx; exact ⟨rfl, rfl⟩⟩, ?_⟩;conv => whnf
   intro b_8 hs_8 hh_8 hf_8;try dsimp only at hh_8 hf_8
   conv => whnf
   refine ⟨by omega, ?_⟩;conv => whnf
   refine ⟨fun j => vP ((A ++ [(zq M, 1)]).getD j (0, 0)), fun j hj => congrArg vP (vC hj), fun j hj => ?_, ?_⟩
   ·obtain rfl : j = 0 := by omega
    exact congrArg vP vD
   intro b_9 hs_9 hh_9 hf_9;try dsimp only at hh_9 hf_9
   conv => whnf
   refine fin b_9 _ (by dsimp only; omega) ?_;clear fin;rw [<- hA2, List.length_append (bs := [_])];exact cvr
  ·have h2 := of_decide_eq_false h2
   have hMe : M = [] := by
    cases M with
    | nil => rfl
    | cons y M' => have := xF hM.pr; rw [List.length_cons] at this; omega
   rw [hMe, List.append_nil] at hA;subst hA;refine W.skip (fin b _ (by dsimp only; omega) ?_);clear fin;exact cvr


theorem jr {p : Int} [SP p] {f : Poly p} (hk : IsFld p f.l) {d : Nat} (hd : dg f = d + 1) : (p ^ (f.l.length - 1) : Int) = ((p.toNat ^ d : Nat) : Int) ∧ p.toNat ^ d <= 20000 ∧ 2 <= p.toNat ^ d := by
 have h2 := Pr.two (p := p);have h1 : f.l.length - 1 = d := by have : f.l.length = dg f := rfl; omega
 have h3 : (p ^ (f.l.length - 1) : Int) = ((p.toNat ^ d : Nat) : Int) := by rw [h1, Int.natCast_pow, Int.toNat_of_nonneg (by omega)]
 have h4 := hk.ord;have h5 := hk.two;have h6 : p.toNat ^ 1 <= p.toNat ^ d := Nat.pow_le_pow_right (by omega) (by omega);rw [Nat.pow_one] at h6;exact ⟨h3, by omega, by omega⟩
theorem kg {p : Int} [SP p] {f X : Poly p} {e : Nat} (h2 : 2 <= dg f) : (rem (X ^ e) f).l = [1] ↔ One f X e := by
 rw [zgT h2];exact ⟨fun h => vO (by rw [h, zig]), fun h => by rw [h, zig]⟩

theorem ze7 (p : Int) [SP p] (g g1 : Option Nat) (f X : Poly p) (hk : IsFld p f.l) (hi : Irr f) (hX0 : X ≠ 0) (hX : dg X < dg f) (e0 : Nat) (ho : yh f X e0) : FnV 242 [vK p g f.l, .ints g1 X.l] (.int .i64 e0) := by
 have hp := Pr.two (p := p);have hp2 := SP.le (p := p);have h9 := hk.mod.2.1;have hl2 := hk.two;have hfl : f.l.length = dg f := rfl;have hf0 := hi.ne;obtain ⟨d, hd⟩ : ∃ d, dg f = d + 1 := ⟨dg f - 1, by omega⟩
 obtain ⟨hq1, hq2, hq3⟩ := jr hk hd;have hfer := zaw hi (z8 hX0 hX) hd;generalize p.toNat ^ d = q at hq1 hq2 hq3 hfer;have hL := zbU (n := q - 1) (by omega);have hLl := xF hL.pr;rw [hL.prod] at hLl;generalize zlj (q - 1) = L at hL hLl;have hqi : ((q : Nat) : Int) - 1 = ((q - 1 : Nat) : Int) := by omega
 refine zd (za [0, 1, 2, 4, 5, 7, 12, 13, 14, 15, 19, 20, 21, 29]) Tryz.func242 rfl (by decide) Tryz.ntmps242 (Nat.le_of_ble_eq_true rfl) fun base => ?_;refine wrs fun K hK => ?_;conv => whnf
 refine ⟨rfl, ?_⟩;conv => whnf
 intro b_1 hs_1 hh_1 hf_1;try dsimp only at hh_1 hf_1
 conv => whnf
 refine hK _ ?_;clear hK K;refine wrs fun K hK => ?_;conv => whnf
 refine zb rfl (y3 p g f.l (by omega) (by omega) (by omega) (by omega)) fun hs' hhs => ?_;try dsimp only at hhs
 conv => whnf
 rw [hq1];refine ⟨oo, ?_⟩;conv => whnf
 rw [hqi];refine hK _ ?_;clear hK K;refine W.seqK fun K1 hK1 => ?_;refine wrs fun K hK => ?_;conv => whnf
 refine zb rfl (ze6 (q - 1) L hL (by omega)) fun hs' hhs => ?_;try dsimp only at hhs
 conv => whnf
 refine hK _ (W.block (W.invA (fun m e => ∃ i e' : Nat, i <= L.length ∧ OrdI f X (q - 1) L i e' ∧ m = L.length - i ∧ e = [(1, .v (.ints g1 X.l)), (2, .ownB b_1 (vK p g f.l)), (5, .v (.int .i64 e')), (12, .v (vPw L)), (13, .v (.int .i64 L.length)), (14, .v (.int .i64 i))]) ⟨0, q - 1, Nat.zero_le _, OrdI.start hL (by omega) hfer, rfl, rfl⟩ ?_));clear hK K;rintro m e ⟨i, e, hi1, hO, hm, rfl⟩;refine wrs fun K hK => ?_;conv => whnf
 refine hK _ ?_;clear hK K;refine W.seqK fun K7 hK7 => W.cond ⟨fun h1 => ?_, fun h1 => ?_⟩ <;> (first | replace h1 := of_decide_eq_true h1 | replace h1 := of_decide_eq_false h1)
 ·have hi2 : i < L.length := by omega
  have hJ := hO.enter hL hi2;have hpr := hL.pr _ (List.getElem_mem hi2);have hstep := fun j e (h : OrdJ f X (q - 1) L i L[i].1 L[i].2 j e) => OrdJ.step (f := f) (x := X) (n := q - 1) (j := j) (e := e) hL hi2 h;have hleave := fun e h => OrdJ.leave (f := f) (x := X) (n := q - 1) (e := e) hi2 h;have hxe : L.getD i (0, 0) = L[i] := by rw [List.getD_eq_getElem?_getD, List.getElem?_eq_getElem hi2]; rfl
  have hx2 : L[i].2 <= 1000000 := by
   have h3 := Nat.le_of_dvd (by omega) (hL.prod ▸ xb (List.getElem_mem hi2));have h4 : L[i].2 < L[i].1 ^ L[i].2 := Nat.lt_pow_self (by have := hpr.1.1; omega);omega
  have hx1 : L[i].1 <= 1000000 := by
   have h3 := Nat.le_of_dvd (by omega) (hL.prod ▸ xb (List.getElem_mem hi2));have h4 : L[i].1 ^ 1 <= L[i].1 ^ L[i].2 := Nat.pow_le_pow_right (by have := hpr.1.1; omega) hpr.2;rw [Nat.pow_one] at h4; omega
  generalize L[i] = x at hJ hpr hstep hleave hxe hx2 hx1;obtain ⟨hxp, hxk⟩ := hpr;have hxp2 := hxp.1;refine W.skip (hK7 _ ?_);clear hK7 K7;refine W.seqK fun K8 hK8 => W.block ?_;refine wrs fun K hK => ?_;conv => whnf
  refine ⟨oo, ?_⟩;conv => whnf
  rw [Int.toNat_natCast, hxe];intro b_7 hs_7 hh_7 hf_7;try dsimp only at hh_7 hf_7
  conv => whnf
  refine ⟨s23, ?_⟩;conv => whnf
  refine hK _ ?_;clear hK K;refine wrs fun K hK => ?_;conv => whnf
  refine hK _ (W.block (W.invA (fun m e => ∃ j e' : Nat, j <= x.2 ∧ OrdJ f X (q - 1) L i x.1 x.2 j e' ∧ m = x.2 - j ∧ e = [(1, .v (.ints g1 X.l)), (2, .ownB b_1 (vK p g f.l)), (5, .v (.int .i64 e')), (7, .ownB b_7 (vP x)), (12, .v (vPw L)), (13, .v (.int .i64 L.length)), (14, .v (.int .i64 i)), (19, .v (.int .i64 x.2)), (20, .v (.int .i64 j))]) ⟨0, e, Nat.zero_le _, hJ, rfl, rfl⟩ ?_));clear hK K;clear hJ hO e;rintro m2 e ⟨j, e, hj, hJ, hm2, rfl⟩;have he1 := hJ.pos;have he2 := Nat.le_of_dvd (by omega) hJ.dvd;have he3 := Nat.div_le_self e x.1;have hst := hstep j e hJ;have hno : ¬ One f X (e / x.1) -> _ := fun h => hJ.stop (j' := j + 1) h;obtain ⟨v, hv⟩ : ∃ v, e / x.1 = v := ⟨_, rfl⟩
  rw [hv] at he3 hst hno;refine wrs fun K hK => ?_;conv => whnf
  refine hK _ ?_;clear hK K;refine W.seqK fun K7 hK7 => W.cond ⟨fun h2 => ?_, fun h2 => ?_⟩ <;> (first | replace h2 := of_decide_eq_true h2 | replace h2 := of_decide_eq_false h2)
  ·have hj2 : j < x.2 := by omega
   refine W.skip (hK7 _ ?_);clear hK7 K7;refine W.seqK fun K9 hK9 => W.block ?_;refine W.rd (za _) follows (by rfl) fun K hK => ?_;conv => whnf
   refine ⟨by omega, ?_⟩;conv => whnf
   rw [y4, hv];refine ⟨oo, ?_⟩;conv => whnf
   refine ⟨_, cxF (zcH p g g1 f X v (by omega) (by omega) (by omega) hf0), ?_⟩;conv => whnf
   refine ⟨_, cxF (ziG none (rem (X ^ v) f).l), ?_⟩;conv => whnf
   refine hK _ (W.cond ⟨fun h3 => ?_, fun h3 => ?_⟩) <;> clear hK K
   ·have h3 := (kg (by omega)).1 (of_decide_eq_true h3);refine wrg ?_;conv => whnf
    refine ⟨by omega, ?_⟩;conv => whnf
    rw [y4, hv];refine ⟨oo, ?_⟩;conv => whnf
    refine hK9 _ ?_;clear hK9 K9;refine wrg ?_;conv => whnf
    refine ⟨oo, ?_⟩;conv => whnf
    exact zi ⟨j + 1, v, by omega, (hst hj2 h3).2, rfl, rfl⟩
   ·have h3 := fun h => of_decide_eq_false h3 ((kg (by omega)).2 h);refine W.skip (hK9 _ ?_);clear hK9 K9;refine wrg ?_;conv => whnf
    refine ⟨oo, ?_⟩;conv => whnf
    exact zi ⟨j + 1, e, by omega, hno h3, rfl, rfl⟩
  ·obtain rfl : j = x.2 := by omega
   refine W.exit (hK8 _ ?_);clear hK7 K7 hK8 K8;refine wrg ?_;conv => whnf
   refine ⟨oo, ?_⟩;conv => whnf
   exact zi ⟨i + 1, e, by omega, hleave e hJ, rfl, rfl⟩
 ·obtain rfl : i = L.length := by omega
  obtain rfl := ho.unique (hO.fin hL);refine W.exit (hK1 _ ?_);clear hK7 K7 hK1 K1;refine wrs fun K hK => ?_;conv => whnf
  refine hK _ ?_;clear hK K;refine W.ret ?_;conv => whnf
  exact ⟨.v (.int .i64 e0), ⟨rfl, rfl⟩, trivial, rfl⟩

theorem xB (p : Int) [SP p] (g g1 : Option Nat) (f X : Poly p) (hk : IsFld p f.l) (hi : Irr f) (hX0 : X ≠ 0) (hX : dg X < dg f) (e0 : Nat) (ho : yh f X e0) : FnV 236 [vK p g f.l, .ints g1 X.l] (.int .i64 e0) := by
 have hp := Pr.two (p := p);have hp2 := SP.le (p := p);have h9 := hk.mod.2.1;have hl2 := hk.two;have hfl : f.l.length = dg f := rfl;have hf0 := hi.ne;obtain ⟨d, hd⟩ : ∃ d, dg f = d + 1 := ⟨dg f - 1, by omega⟩
 obtain ⟨hq1, hq2, hq3⟩ := jr hk hd;have hfer := zaw hi (z8 hX0 hX) hd;generalize p.toNat ^ d = q at hq1 hq2 hq3 hfer;have hL := zbU (n := q - 1) (by omega);have hLl := xF hL.pr;rw [hL.prod] at hLl;generalize zlj (q - 1) = L at hL hLl;have hqi : ((q : Nat) : Int) - 1 = ((q - 1 : Nat) : Int) := by omega
 refine zd (za [0, 1, 2, 4, 5, 6, 7, 16, 39]) Tryz.func236 rfl (by decide) Tryz.ntmps236 (Nat.le_of_ble_eq_true rfl) fun base => ?_;refine wrs fun K hK => ?_;conv => whnf
 refine ⟨rfl, ?_⟩;conv => whnf
 intro b_1 hs_1 hh_1 hf_1;try dsimp only at hh_1 hf_1
 conv => whnf
 refine hK _ ?_;clear hK K;refine wrs fun K hK => ?_;conv => whnf
 refine zb rfl (zG p g f.l hk) fun hs' hhs => ?_;try dsimp only at hhs
 conv => whnf
 rw [hq1];refine ⟨oo, ?_⟩;conv => whnf
 rw [hqi];refine hK _ ?_;clear hK K;refine wrs fun K hK => ?_;conv => whnf
 refine zb rfl (zhc (q - 1) L hL (by omega)) fun hs' hhs => ?_;try dsimp only at hhs
 conv => whnf
 refine hK _ ?_;clear hK K;refine W.seqK fun K1 hK1 => ?_;refine wrs fun K hK => ?_;conv => whnf
 refine hK _ (W.block (W.invA (fun m e => ∃ i e' : Nat, i <= L.length ∧ OrdI f X (q - 1) L i e' ∧ m = L.length - i ∧ e = [(1, .v (.ints g1 X.l)), (2, .ownB b_1 (vK p g f.l)), (5, .v (.int .i64 e')), (6, .v (vPw L)), (7, .v (.int .i64 i))]) ⟨0, q - 1, Nat.zero_le _, OrdI.start hL (by omega) hfer, rfl, rfl⟩ ?_));clear hK K;rintro m e ⟨i, e, hi1, hO, hm, rfl⟩;refine W.seqK fun K7 hK7 => wrs fun K hK => ?_;conv => whnf
 refine hK _ (W.cond ⟨fun h1 => ?_, fun h1 => ?_⟩) <;> clear hK K <;> (first | replace h1 := of_decide_eq_true h1 | replace h1 := of_decide_eq_false h1)
 ·have hi2 : i < L.length := by omega
  have hJ := hO.enter hL hi2;have hpr := hL.pr _ (List.getElem_mem hi2);have hstep := fun j e (h : OrdJ f X (q - 1) L i L[i].1 L[i].2 j e) => OrdJ.step (f := f) (x := X) (n := q - 1) (j := j) (e := e) hL hi2 h;have hleave := fun e h => OrdJ.leave (f := f) (x := X) (n := q - 1) (e := e) hi2 h;have hxe : L.getD i (0, 0) = L[i] := by rw [List.getD_eq_getElem?_getD, List.getElem?_eq_getElem hi2]; rfl
  have hx1 : L[i].1 <= 1000000 := by
   have h3 := Nat.le_of_dvd (by omega) (hL.prod ▸ xb (List.getElem_mem hi2));have h4 : L[i].1 ^ 1 <= L[i].1 ^ L[i].2 := Nat.pow_le_pow_right (by have := hpr.1.1; omega) hpr.2;rw [Nat.pow_one] at h4; omega
  generalize L[i] = x at hJ hpr hstep hleave hxe hx1;obtain ⟨hxp, hxk⟩ := hpr;have hxp2 := hxp.1;refine W.skip (hK7 _ ?_);clear hK7 K7;refine W.seqK fun K8 hK8 => W.block ?_;refine W.block (W.invE (fun m e => ∃ j e' : Nat, j <= x.2 ∧ OrdJ f X (q - 1) L i x.1 x.2 j e' ∧ m = x.2 - j ∧ e = [(1, .v (.ints g1 X.l)), (2, .ownB b_1 (vK p g f.l)), (5, .v (.int .i64 e')), (6, .v (vPw L)), (7, .v (.int .i64 i))]) _ _ ⟨0, e, Nat.zero_le _, hJ, rfl, rfl⟩ (by dsimp only; omega) (by repeat' first | refine And.intro ?_ ?_ | exact trivial | rfl | omega | exact fun _ _ => rfl) ?_);clear hJ hO e;rintro m2 e ⟨j, e, hj, hJ, hm2, rfl⟩;have he1 := hJ.pos;have he2 := Nat.le_of_dvd (by omega) hJ.dvd;have he3 := Nat.div_le_self e x.1;have hst := hstep j e hJ;have hno : ¬ One f X (e / x.1) -> _ := fun h => hJ.stop (j' := x.2) h;have hov : ¬ x.1 ∣ e -> _ := fun h => hJ.over h
  have hdj : x.1 ∣ e -> One f X (e / x.1) -> j < x.2 := fun h1 h2 => by
   rcases hJ.at_ with ⟨m, h3, h4, h5⟩ | h3
   ·rcases Nat.lt_or_eq_of_le hj with h6 | h6
    ·exact h6
    ·rw [h6, Nat.sub_self, Nat.pow_zero, Nat.one_mul] at h3;exact absurd (h3 ▸ h1) h4
   ·exact absurd h2 h3
  obtain ⟨v, hv⟩ : ∃ v, e / x.1 = v := ⟨_, rfl⟩
  rw [hv] at he3 hst hno hdj
  -- the end of this prime
  have fin : OrdJ f X (q - 1) L i x.1 x.2 x.2 e -> ∀ s : S, base <= s.hs -> zy s.env [(1, .v (.ints g1 X.l)), (2, .ownB b_1 (vK p g f.l)), (5, .v (.int .i64 e)), (6, .v (vPw L)), (7, .v (.int .i64 i))] -> K8 s := by
   intro h4 s h5 h6;refine hK8 _ (W.weak (t := ⟨[(1, .v (.ints g1 X.l)), (2, .ownB b_1 (vK p g f.l)), (5, .v (.int .i64 e)), (6, .v (vPw L)), (7, .v (.int .i64 i))], base⟩) ⟨h5, h6⟩ (Nat.le_refl _) ?_);clear hK8 K8;refine wrg ?_;conv => whnf
   refine ⟨oo, ?_⟩;conv => whnf
   exact zi ⟨i + 1, e, by omega, hleave e h4, rfl, rfl⟩
  clear hK8;refine W.seqK fun K7 hK7 => ?_;refine W.rd (za _) follows (by rfl) fun K hK => ?_;conv => whnf
  refine ⟨oo, ?_⟩;conv => whnf
  rw [Int.toNat_natCast, hxe];refine ⟨by omega, ?_⟩;conv => whnf
  rw [vE]
  by_cases hdv : x.1 ∣ e
  ·have e1 : decide (((e % x.1 : Nat) : Int) = 0) = true := decide_eq_true (by rw [Nat.mod_eq_zero_of_dvd hdv]; rfl);rw [e1];conv => whnf
   refine ⟨oo, ?_⟩;conv => whnf
   rw [Int.toNat_natCast, hxe];refine ⟨by omega, ?_⟩;conv => whnf
   rw [y4, hv];refine ⟨oo, ?_⟩;conv => whnf
   refine ⟨_, cxF (vG p g g1 f X v (by omega) (by omega) (by omega) hf0), ?_⟩;conv => whnf
   refine ⟨_, cxF (zga none (rem (X ^ v) f).l), ?_⟩;conv => whnf
   refine hK _ (W.cond ⟨fun h3 => ?_, fun h3 => ?_⟩) <;> clear hK K
   ·have h3 := (kg (by omega)).1 (of_decide_eq_true h3);have hj2 := hdj hdv h3;clear fin;refine W.skip (hK7 _ (W.block ?_));clear hK7 K7;refine wrg ?_;conv => whnf
    refine ⟨oo, ?_⟩;conv => whnf
    rw [Int.toNat_natCast, hxe];refine ⟨by omega, ?_⟩;conv => whnf
    rw [y4, hv];refine ⟨oo, ?_⟩;conv => whnf
    exact zi ⟨j + 1, v, by omega, (hst hj2 h3).2, rfl, rfl⟩
   ·have h3 := fun h => of_decide_eq_false h3 ((kg (by omega)).2 h);refine W.exit (fin (hno h3) _ (by dsimp only; omega) ?_);clear fin hK7 K7;exact cvr
  ·have e1 : decide (((e % x.1 : Nat) : Int) = 0) = false := decide_eq_false fun h => hdv (Nat.dvd_of_mod_eq_zero (by omega));rw [e1];conv => whnf
   refine ⟨rfl, ?_⟩;conv => whnf
   refine hK _ (W.cond ⟨fun h => absurd h (by decide), fun _ => W.exit (fin (hov hdv) _ (by dsimp only; omega) ?_)⟩);clear fin hK K hK7 K7;exact cvr
 ·obtain rfl : i = L.length := by omega
  obtain rfl := ho.unique (hO.fin hL);refine W.exit (hK1 _ ?_);clear hK7 K7 hK1 K1;refine wrs fun K hK => ?_;conv => whnf
  refine hK _ ?_;clear hK K;refine W.ret ?_;conv => whnf
  exact ⟨.v (.int .i64 e0), ⟨rfl, rfl⟩, trivial, rfl⟩


theorem zn5 (g g' : Option Nat) (xs ys : List Int) (hl : xs.length <= 1000000000) : FnV 246 [.ints g xs, .ints g' ys] (.bool (decide (xs = ys))) := by
 refine zd (za [0, 1, 4, 5, 10, 14, 25]) Tryz.func246 rfl (by decide) Tryz.ntmps246 (Nat.le_of_ble_eq_true rfl) fun base => ?_;refine wrs fun K hK => ?_;conv => whnf
 refine hK _ ?_;clear hK K;refine W.seqK fun K1 hK1 => ?_;refine wrs fun K hK => ?_;conv => whnf
 refine hK _ (W.cond ⟨fun h => ?_, fun h => ?_⟩) <;> clear hK K
 ·have h := of_decide_eq_true h;refine wrs fun K hK => ?_;conv => whnf
  refine hK _ ?_;clear hK K;refine W.ret ?_;conv => whnf
  exact ⟨.v (.bool (decide (xs = ys))), (by show decide _ = false; exact decide_eq_false fun e => h (by rw [e])), trivial, rfl⟩
 have h := of_decide_eq_false h;have hlen : xs.length = ys.length := by omega
 refine W.skip (hK1 _ ?_);clear hK1 K1;refine W.seqK fun K1 hK1 => ?_;refine wrs fun K hK => ?_;conv => whnf
 refine hK _ (W.block (W.invA (fun m e => ∃ k : Nat, k <= xs.length ∧ (∀ j, j < k -> cf xs j = cf ys j) ∧ m = xs.length - k ∧ e = [(0, .v (.ints g xs)), (1, .v (.ints g' ys)), (5, .v (.int .i64 k))]) ⟨0, Nat.zero_le _, fun j hj => by omega, rfl, rfl⟩ ?_));clear hK K;rintro m e ⟨k, h1, h2, hm, rfl⟩;refine W.seqK fun K7 hK7 => wrs fun K hK => ?_;conv => whnf
 refine hK _ (W.cond ⟨fun h3 => ?_, fun h3 => ?_⟩) <;> clear hK K <;> (first | replace h3 := of_decide_eq_true h3 | replace h3 := of_decide_eq_false h3)
 ·refine W.skip (hK7 _ ?_);clear hK7 K7;refine W.seqK fun K8 hK8 => W.block ?_;refine W.rd (za _) follows (by rfl) fun K hK => ?_;conv => whnf
  refine ⟨oo, ?_⟩;conv => whnf
  refine ⟨oo, ?_⟩;conv => whnf
  rw [Int.toNat_natCast];refine hK _ (W.cond ⟨fun h4 => ?_, fun h4 => ?_⟩) <;> clear hK K
  ·have h4 : cf xs k ≠ cf ys k := of_decide_eq_true h4;refine wrs fun K hK => ?_;conv => whnf
   refine hK _ ?_;clear hK K;refine W.ret ?_;conv => whnf
   exact ⟨.v (.bool (decide (xs = ys))), (by show decide _ = false; exact decide_eq_false fun e => h4 (by rw [e])), trivial, rfl⟩
  ·have h4 : ¬ cf xs k ≠ cf ys k := of_decide_eq_false h4;refine W.skip (hK8 _ ?_);clear hK8 K8;refine wrg ?_;conv => whnf
   refine ⟨oo, ?_⟩;conv => whnf
   exact zi ⟨k + 1, by omega, fun j hj => by by_cases h9 : j = k; (subst h9; exact Classical.byContradiction h4); exact h2 j (by omega), rfl, rfl⟩
 ·obtain rfl : k = xs.length := by omega
  refine W.exit (hK1 _ ?_);clear hK7 K7 hK1 K1;obtain rfl : xs = ys := j5 hlen fun j hj => h2 j hj;refine wrs fun K hK => ?_;conv => whnf
  refine hK _ ?_;clear hK K;refine W.ret ?_;conv => whnf
  exact ⟨.v (.bool (decide (xs = xs))), (by show decide _ = true; exact decide_eq_true rfl), trivial, rfl⟩

theorem znh (g g' : Option Nat) (xs ys : List Int) (hl : xs.length <= 1000000000) : FnV 219 [.ints g xs, .ints g' ys] (.bool (decide (xs = ys))) := by
 refine zd (za [0, 1, 4, 5, 10, 12, 13, 14, 24]) Tryz.func219 rfl (by decide) Tryz.ntmps219 (Nat.le_of_ble_eq_true rfl) fun base => ?_;refine wrs fun K hK => ?_;conv => whnf
 refine hK _ ?_;clear hK K;refine W.seqK fun K1 hK1 => ?_;refine wrs fun K hK => ?_;conv => whnf
 refine hK _ (W.cond ⟨fun h => ?_, fun h => ?_⟩) <;> clear hK K
 ·have h := of_decide_eq_true h;refine wrs fun K hK => ?_;conv => whnf
  refine hK _ ?_;clear hK K;refine W.ret ?_;conv => whnf
  exact ⟨.v (.bool (decide (xs = ys))), (by show decide _ = false; exact decide_eq_false fun e => h (by rw [e])), trivial, rfl⟩
 have h := of_decide_eq_false h;have hlen : xs.length = ys.length := by omega
 refine W.skip (hK1 _ ?_);clear hK1 K1;refine W.seqK fun K1 hK1 => ?_;refine wrs fun K hK => ?_;conv => whnf
 refine hK _ (W.block (W.invA (fun m e => ∃ k : Nat, k <= xs.length ∧ (∀ j, j < k -> cf xs j = cf ys j) ∧ m = xs.length - k ∧ e = [(0, .v (.ints g xs)), (1, .v (.ints g' ys)), (12, .v (.int .i64 xs.length)), (13, .v (.int .i64 k))]) ⟨0, Nat.zero_le _, fun j hj => by omega, rfl, rfl⟩ ?_));clear hK K;rintro m e ⟨k, h1, h2, hm, rfl⟩;refine wrs fun K hK => ?_;conv => whnf
 refine hK _ ?_;clear hK K;refine W.seqK fun K7 hK7 => W.cond ⟨fun h3 => ?_, fun h3 => ?_⟩ <;> (first | replace h3 := of_decide_eq_true h3 | replace h3 := of_decide_eq_false h3)
 ·refine W.skip (hK7 _ ?_);clear hK7 K7;refine W.seqK fun K8 hK8 => W.block ?_;refine wrs fun K hK => ?_;conv => whnf
  refine hK _ ?_;clear hK K;refine W.rd (za _) follows (by rfl) fun K hK => ?_;conv => whnf
  refine ⟨oo, ?_⟩;conv => whnf
  refine ⟨oo, ?_⟩;conv => whnf
  rw [Int.toNat_natCast];refine hK _ (W.cond ⟨fun h4 => ?_, fun h4 => ?_⟩) <;> clear hK K
  ·have h4 : cf xs k ≠ cf ys k := of_decide_eq_true h4;refine wrs fun K hK => ?_;conv => whnf
   refine hK _ ?_;clear hK K;refine W.ret ?_;conv => whnf
   exact ⟨.v (.bool (decide (xs = ys))), (by show decide _ = false; exact decide_eq_false fun e => h4 (by rw [e])), trivial, rfl⟩
  ·have h4 : ¬ cf xs k ≠ cf ys k := of_decide_eq_false h4;refine W.skip (hK8 _ ?_);clear hK8 K8;refine wrg ?_;conv => whnf
   refine ⟨oo, ?_⟩;conv => whnf
   exact zi ⟨k + 1, by omega, fun j hj => by by_cases h9 : j = k; (subst h9; exact Classical.byContradiction h4); exact h2 j (by omega), rfl, rfl⟩
 ·obtain rfl : k = xs.length := by omega
  refine W.exit (hK1 _ ?_);clear hK7 K7 hK1 K1;obtain rfl : xs = ys := j5 hlen fun j hj => h2 j hj;refine wrs fun K hK => ?_;conv => whnf
  refine hK _ ?_;clear hK K;refine W.ret ?_;conv => whnf
  exact ⟨.v (.bool (decide (xs = xs))), (by show decide _ = true; exact decide_eq_true rfl), trivial, rfl⟩

def vZ {p : Int} [SP p] (f X : Poly p) : Prop := yh f X (p.toNat ^ (dg f - 1) - 1)
theorem vZ.ne {p : Int} [SP p] {f X : Poly p} (hi : Irr f) (h : vZ f X) : X ≠ 0 := zkl (h.ndvd hi)
theorem ze8 {p : Int} [SP p] {f X : Poly p} {d e0 : Nat} (hd : dg f = d + 1) (h : yh f X e0) : bP (vZ f X) = decide (e0 = p.toNat ^ d - 1) := by
 have e1 : dg f - 1 = d := by omega
 unfold vZ;rw [e1]
 by_cases h1 : e0 = p.toNat ^ d - 1
 ·rw [zg (h1 ▸ h), decide_eq_true h1]
 ·rw [zf fun h2 => h1 (h.unique h2), decide_eq_false h1]

theorem js (p : Int) [SP p] (g g1 : Option Nat) (f X : Poly p) (hk : IsFld p f.l) (hi : Irr f) (hX : dg X < dg f) : FnV 230 [vK p g f.l, .ints g1 X.l] (.bool (bP (vZ f X))) := by
 have hp := Pr.two (p := p);have hp2 := SP.le (p := p);have h9 := hk.mod.2.1;have hl2 := hk.two;have hfl : f.l.length = dg f := rfl;have hXl : X.l.length = dg X := rfl
 by_cases hX0 : X = 0
 ·have hX1 : dg X = 0 := ze.2 hX0;have e1 : decide (0 < (X.l.length : Int)) = false := decide_eq_false (by omega);refine zd (za [0, 1, 2, 4]) Tryz.func230 rfl (by decide) Tryz.ntmps230 (Nat.le_of_ble_eq_true rfl) fun base => ?_;refine wrs fun K hK => ?_;conv => whnf
  refine ⟨rfl, ?_⟩;conv => whnf
  intro b_1 hs_1 hh_1 hf_1;try dsimp only at hh_1 hf_1
  conv => whnf
  refine hK _ ?_;clear hK K;refine W.rd (za _) follows (by rfl) fun K hK => ?_;conv => whnf
  rw [e1];conv => whnf
  refine ⟨rfl, ?_⟩;conv => whnf
  refine hK _ ?_;clear hK K;refine W.ret ?_;conv => whnf
  exact ⟨.v (.bool (bP (vZ f X))), (zf fun h => h.ne hi hX0).symm, trivial, rfl⟩
 have hX1 : dg X ≠ 0 := fun e => hX0 (ze.1 e);have e1 : decide (0 < (X.l.length : Int)) = true := decide_eq_true (by omega);obtain ⟨d, hd⟩ : ∃ d, dg f = d + 1 := ⟨dg f - 1, by omega⟩
 obtain ⟨hq1, hq2, hq3⟩ := jr hk hd;obtain ⟨e0, he0⟩ := vT _ (by omega) (zaw hi (z8 hX0 hX) hd);have hpi := ze8 hd he0;refine zd (za [0, 1, 2, 4]) Tryz.func230 rfl (by decide) Tryz.ntmps230 (Nat.le_of_ble_eq_true rfl) fun base => ?_;refine wrs fun K hK => ?_;conv => whnf
 refine ⟨rfl, ?_⟩;conv => whnf
 intro b_1 hs_1 hh_1 hf_1;try dsimp only at hh_1 hf_1
 conv => whnf
 refine hK _ ?_;clear hK K;refine W.rd (za _) follows (by rfl) fun K hK => ?_;conv => whnf
 rw [e1];conv => whnf
 refine ⟨_, cxF (ze7 p g g1 f X hk hi hX0 hX e0 he0), ?_⟩;conv => whnf
 refine ⟨_, cxF (y3 p g f.l (by omega) (by omega) (by omega) (by omega)), ?_⟩;conv => whnf
 rw [hq1];refine ⟨oo, ?_⟩;conv => whnf
 refine hK _ ?_;clear hK K;refine W.ret ?_;conv => whnf
 exact ⟨.v (.bool (bP (vZ f X))), (by show decide _ = bP _; rw [hpi]; exact decide_eq_decide.2 ⟨fun h => by omega, fun h => by omega⟩), trivial, rfl⟩

theorem zfq (kp : Int) (kl x : List Int) (_ : inR kp) (hkl : kl.length <= 1048576) (hx : x.length <= 1048576) : ∃ (r0 : Bool) (r1 : Int),
  (∀ g0 g1 : Option Nat, FnV 87 [vK kp g0 kl, .ints g1 x] (.tup [.bool r0, .int .i64 r1])) ∧ (∀ g0 g1 : Option Nat, FnV 86 [vK kp g0 kl, .ints g1 x] (.tup [.bool r0, .int .i64 r1])) ∧ (∀ hp : kp ∈ zO, letI := yk hp; ∀ f X : Poly kp, f.l = kl -> X.l = x -> xG kp kl x = 0 -> r1 = 0 ∧ r0 = bP (vZ f X)) := by
 generalize hc : xG kp kl x = c
 by_cases h0 : c = 0
 case neg =>
  refine ⟨false, c, fun g0 g1 => ?_, fun g0 g1 => ?_, fun _ _ _ _ _ h => absurd h h0⟩
  ·refine zd (za [0, 1, 2, 4, 5, 6, 12]) Tryz.func87 rfl (by decide) Tryz.ntmps87 (Nat.le_of_ble_eq_true rfl) fun base => ?_;refine wrs fun K hK => ?_;conv => whnf
   refine ⟨rfl, ?_⟩;conv => whnf
   intro b_1 hs_1 hh_1 hf_1;try dsimp only at hh_1 hf_1
   conv => whnf
   refine hK _ ?_;clear hK K;refine wrs fun K hK => ?_;conv => whnf
   refine zb rfl (yu kp g0 g1 g1 kl x (by omega) (by omega)) fun hs' hhs => ?_;try dsimp only at hhs
   conv => whnf
   rw [hc];refine hK _ ?_;clear hK K;refine W.seqK fun K1 hK1 => ?_;refine wrs fun K hK => ?_;conv => whnf
   refine hK _ (W.cond ⟨fun _ => ?_, fun hcc => absurd h0 (of_decide_eq_false hcc)⟩);clear hK K;refine wrs fun K hK => ?_;conv => whnf
   refine hK _ ?_;clear hK K;refine W.ret ?_;conv => whnf
   exact ⟨.v (.bool false), rfl, trivial, .v (.int .i64 c), ⟨rfl, rfl⟩, trivial, rfl⟩
  ·refine zd (za [0, 1, 2, 4, 5, 6, 12]) Tryz.func86 rfl (by decide) Tryz.ntmps86 (Nat.le_of_ble_eq_true rfl) fun base => ?_;refine wrs fun K hK => ?_;conv => whnf
   refine ⟨rfl, ?_⟩;conv => whnf
   intro b_1 hs_1 hh_1 hf_1;try dsimp only at hh_1 hf_1
   conv => whnf
   refine hK _ ?_;clear hK K;refine W.seqK fun K1 hK1 => ?_;refine wrs fun K hK => ?_;conv => whnf
   refine ⟨⟨rfl, by decide, fun x hx => (by simp at hx; subst hx; exact ⟨rfl, rfl⟩)⟩, ?_⟩;conv => whnf
   intro b_2 hs_2 hh_2 hf_2;try dsimp only at hh_2 hf_2
   conv => whnf
   refine zb rfl (yt kp g0 (some b_2) kl 1 _ (fun _ => x) (by omega) (by omega) (zcG g1 x)) fun hs' hhs => ?_;try dsimp only at hhs
   conv => whnf
   rw [show zo kp kl true 1 (fun _ => x) = c from hc];refine hK _ ?_;clear hK K;refine wrs fun K hK => ?_;conv => whnf
   refine hK _ (W.cond ⟨fun _ => ?_, fun hcc => absurd h0 (of_decide_eq_false hcc)⟩);clear hK K;refine wrs fun K hK => ?_;conv => whnf
   refine hK _ ?_;clear hK K;refine W.ret ?_;conv => whnf
   exact ⟨.v (.bool false), rfl, trivial, .v (.int .i64 c), ⟨rfl, rfl⟩, trivial, rfl⟩
 subst h0;obtain ⟨hk, hh⟩ := kf hc;obtain ⟨hp, f, rfl, hfi, _, _, hf9⟩ := xp hk;letI := yk hp;obtain ⟨X, rfl⟩ := zaC hh.1;have hxl : X.l.length < f.l.length := hh.2;have hfl : f.l.length = dg f := rfl;have hXl : X.l.length = dg X := rfl;have hf0 := hfi.ne;have hp1 := z7 hp;refine ⟨bP (vZ f X), 0, fun g0 g1 => ?_, fun g0 g1 => ?_, fun _ φ Y e1 e2 _ => (by obtain rfl := vO e1; obtain rfl := vO e2; exact ⟨rfl, rfl⟩)⟩
 ·by_cases hX0 : X = 0
  ·have hX1 : dg X = 0 := ze.2 hX0;have e1 : decide (0 < (X.l.length : Int)) = false := decide_eq_false (by omega);refine zd (za [0, 1, 2, 4, 5, 6, 12]) Tryz.func87 rfl (by decide) Tryz.ntmps87 (Nat.le_of_ble_eq_true rfl) fun base => ?_;refine wrs fun K hK => ?_;conv => whnf
   refine ⟨rfl, ?_⟩;conv => whnf
   intro b_1 hs_1 hh_1 hf_1;try dsimp only at hh_1 hf_1
   conv => whnf
   refine hK _ ?_;clear hK K;refine wrs fun K hK => ?_;conv => whnf
   refine zb rfl (yu kp g0 g1 g1 f.l X.l (by omega) (by omega)) fun hs' hhs => ?_;try dsimp only at hhs
   conv => whnf
   rw [hc];refine hK _ ?_;clear hK K;refine W.seqK fun K1 hK1 => ?_;refine wrs fun K hK => ?_;conv => whnf
   refine hK _ (W.cond ⟨fun hcc => absurd rfl (of_decide_eq_true hcc), fun _ => W.skip (hK1 _ ?_)⟩);clear hK K hK1 K1;refine W.rd (za _) follows (by rfl) fun K hK => ?_;conv => whnf
   rw [e1];conv => whnf
   refine ⟨rfl, ?_⟩;conv => whnf
   refine hK _ ?_;clear hK K;refine W.ret ?_;conv => whnf
   exact ⟨.v (.bool (bP (vZ f X))), (zf fun h => h.ne hfi hX0).symm, trivial, .v (.int .i64 0), ⟨rfl, rfl⟩, trivial, rfl⟩
  have hX1 : dg X ≠ 0 := fun e => hX0 (ze.1 e);have e1 : decide (0 < (X.l.length : Int)) = true := decide_eq_true (by omega);obtain ⟨d, hd⟩ : ∃ d, dg f = d + 1 := ⟨dg f - 1, by omega⟩
  obtain ⟨hq1, hq2, hq3⟩ := jr hk hd;obtain ⟨e0, he0⟩ := vT _ (by omega) (zaw hfi (z8 hX0 hxl) hd);have hpi := ze8 hd he0;refine zd (za [0, 1, 2, 4, 5, 6, 12]) Tryz.func87 rfl (by decide) Tryz.ntmps87 (Nat.le_of_ble_eq_true rfl) fun base => ?_;refine wrs fun K hK => ?_;conv => whnf
  refine ⟨rfl, ?_⟩;conv => whnf
  intro b_1 hs_1 hh_1 hf_1;try dsimp only at hh_1 hf_1
  conv => whnf
  refine hK _ ?_;clear hK K;refine wrs fun K hK => ?_;conv => whnf
  refine zb rfl (yu kp g0 g1 g1 f.l X.l (by omega) (by omega)) fun hs' hhs => ?_;try dsimp only at hhs
  conv => whnf
  rw [hc];refine hK _ ?_;clear hK K;refine W.seqK fun K1 hK1 => ?_;refine wrs fun K hK => ?_;conv => whnf
  refine hK _ (W.cond ⟨fun hcc => absurd rfl (of_decide_eq_true hcc), fun _ => W.skip (hK1 _ ?_)⟩);clear hK K hK1 K1;refine W.rd (za _) follows (by rfl) fun K hK => ?_;conv => whnf
  rw [e1];conv => whnf
  refine ⟨_, cxF (xB kp g0 g1 f X hk hfi hX0 hxl e0 he0), ?_⟩;conv => whnf
  refine ⟨_, cxF (zG kp g0 f.l hk), ?_⟩;conv => whnf
  rw [hq1];refine ⟨oo, ?_⟩;conv => whnf
  refine hK _ ?_;clear hK K;refine W.ret ?_;conv => whnf
  exact ⟨.v (.bool (bP (vZ f X))), (by show decide _ = bP _; rw [hpi]; exact decide_eq_decide.2 ⟨fun h => by omega, fun h => by omega⟩), trivial, .v (.int .i64 0), ⟨rfl, rfl⟩, trivial, rfl⟩
 ·refine zd (za [0, 1, 2, 4, 5, 6, 12]) Tryz.func86 rfl (by decide) Tryz.ntmps86 (Nat.le_of_ble_eq_true rfl) fun base => ?_;refine wrs fun K hK => ?_;conv => whnf
  refine ⟨rfl, ?_⟩;conv => whnf
  intro b_1 hs_1 hh_1 hf_1;try dsimp only at hh_1 hf_1
  conv => whnf
  refine hK _ ?_;clear hK K;refine W.seqK fun K1 hK1 => ?_;refine wrs fun K hK => ?_;conv => whnf
  refine ⟨⟨rfl, by decide, fun x hx => (by simp at hx; subst hx; exact ⟨rfl, rfl⟩)⟩, ?_⟩;conv => whnf
  intro b_2 hs_2 hh_2 hf_2;try dsimp only at hh_2 hf_2
  conv => whnf
  refine zb rfl (yt kp g0 (some b_2) f.l 1 _ (fun _ => X.l) (by omega) (by omega) (zcG g1 X.l)) fun hs' hhs => ?_;try dsimp only at hhs
  conv => whnf
  rw [show zo kp f.l true 1 (fun _ => X.l) = 0 from hc];refine hK _ ?_;clear hK K;refine wrs fun K hK => ?_;conv => whnf
  refine hK _ (W.cond ⟨fun hcc => absurd rfl (of_decide_eq_true hcc), fun _ => W.skip (hK1 _ ?_)⟩);clear hK K hK1 K1;refine wrs fun K hK => ?_;conv => whnf
  refine zb rfl (js kp g0 g1 f X hk hfi hxl) fun hs' hhs => ?_;try dsimp only at hhs
  conv => whnf
  refine hK _ ?_;clear hK K;refine W.ret ?_;conv => whnf
  exact ⟨.v (.bool (bP (vZ f X))), rfl, trivial, .v (.int .i64 0), ⟨rfl, rfl⟩, trivial, rfl⟩



theorem zb1 {p : Int} [SP p] {f : Poly p} (hk : IsFld p f.l) (hi : Irr f) : ∃ n, 1 <= n ∧ n < p.toNat ^ (dg f - 1) ∧ vZ f (zr p n) ∧ ∀ k, 1 <= k -> k < n -> ¬ vZ f (zr p k) := by
 obtain ⟨d, hd⟩ : ∃ d, dg f = d + 1 := ⟨dg f - 1, by have := hi.1; omega⟩
 obtain ⟨hq1, hq2, hq3⟩ := jr hk hd;obtain ⟨z, hz⟩ := zio hi hd (zbU (n := p.toNat ^ d - 1) (by omega)).fac (by omega);have hz2 := (zli hi.1).2 hz;have h0 := zkl (hz2.ndvd hi);have h1 := zN z hi.ne;have e1 : dg f - 1 = d := by omega
 obtain ⟨r, hr⟩ := kJ (fun n => vZ f (zr p n)) 1 (p.toNat ^ (dg f - 1));cases r with
 | none =>
  refine absurd ?_ (hr (nm (rem z f)) (zjz h0) (zmT _ (by omega)));show vZ f (zr p (nm (rem z f)))
  rw [zeM]; unfold vZ; rw [e1]; exact hz2
 | some m => exact ⟨m, hr⟩

theorem ziH (p : Int) [SP p] (g : Option Nat) (f : Poly p) (hk : IsFld p f.l) (hi : Irr f) (n : Nat) (hn1 : 1 <= n) (hn2 : n < p.toNat ^ (dg f - 1)) (hn3 : vZ f (zr p n)) (hn4 : ∀ k, 1 <= k -> k < n -> ¬ vZ f (zr p k)) : FnV 237 [vK p g f.l] (.ints none (zr p n).l) := by
 have hp := Pr.two (p := p);have hp2 := SP.le (p := p);have h9 := hk.mod.2.1;have hl2 := hk.two;have hfl : f.l.length = dg f := rfl;have hf0 := hi.ne;obtain ⟨d, hd⟩ : ∃ d, dg f = d + 1 := ⟨dg f - 1, by omega⟩
 obtain ⟨hq1, hq2, hq3⟩ := jr hk hd;have hpd : ∀ {k : Nat}, k < p.toNat ^ d -> dg (zr p k) < dg f := fun {k} h => by have := jn (p := p) h; omega
 have hnl : ∀ k : Nat, dig p.toNat k = (zr p k).l := fun k => (xU k).symm;have hfm : ∀ {X : Poly p}, X ≠ 0 -> dg X < dg f -> One f X (p.toNat ^ d - 1) := fun h h' => zaw hi (z8 h h') hd;have hpi : ∀ {X : Poly p} {e0 : Nat}, yh f X e0 -> bP (vZ f X) = decide (e0 = p.toNat ^ d - 1) := fun h => ze8 hd h;rw [show dg f - 1 = d by omega] at hn2;refine zd (za [0, 1, 2, 3, 12]) Tryz.func237 rfl (by decide) Tryz.ntmps237 (Nat.le_of_ble_eq_true rfl) fun base => ?_;refine wrs fun K hK => ?_;conv => whnf
 refine ⟨rfl, ?_⟩;conv => whnf
 intro b_1 hs_1 hh_1 hf_1;try dsimp only at hh_1 hf_1
 conv => whnf
 refine hK _ ?_;clear hK K;refine wrs fun K hK => ?_;conv => whnf
 refine hK _ ?_;clear hK K;refine W.seqK fun K1 hK1 => W.block (W.invA (fun m e => ∃ k : Nat, 1 <= k ∧ k <= n ∧ m = n - k ∧ e = [(1, .ownB b_1 (vK p g f.l)), (3, .v (.int .i64 k))]) ⟨1, Nat.le_refl _, hn1, rfl, rfl⟩ ?_);rintro m e ⟨k, hk1, hk2, hm, rfl⟩;obtain ⟨e0, he0⟩ := vT _ (by omega) (hfm (xV (p := p) (n := k) (by omega)) (hpd (by omega)));have hpk := hpi he0;refine W.seqK fun K7 hK7 => ?_;refine W.rd (za _) follows (by rfl) fun K hK => ?_;conv => whnf
 refine ⟨_, cxF (yK p g f.l k (by omega) (by omega)), ?_⟩;conv => whnf
 rw [hnl k];refine ⟨_, cxF (xB p g none f (zr p k) hk hi (xV (by omega)) (hpd (by omega)) e0 he0), ?_⟩;conv => whnf
 refine ⟨_, cxF (zG p g f.l hk), ?_⟩;conv => whnf
 rw [hq1];refine ⟨oo, ?_⟩;conv => whnf
 refine hK _ (W.cond ⟨fun h => ?_, fun h => ?_⟩) <;> clear hK K
 ·have h := of_decide_eq_true h
  have hne : k ≠ n := fun h2 => by
   subst h2;rw [zg hn3] at hpk;have := of_decide_eq_true hpk.symm;omega
  refine W.skip (hK7 _ (W.block ?_));clear hK7 K7;refine wrg ?_;conv => whnf
  refine ⟨oo, ?_⟩;conv => whnf
  exact zi ⟨k + 1, by omega, by omega, rfl, rfl⟩
 ·have h := of_decide_eq_false h
  obtain rfl : k = n := Classical.byContradiction fun h2 => by
   rw [zf (hn4 k hk1 (by omega))] at hpk;have := of_decide_eq_false hpk.symm;omega
  refine W.exit (hK1 _ ?_);clear hK7 K7 hK1 K1;refine wrs fun K hK => ?_;conv => whnf
  refine zb rfl (yK p g f.l k (by omega) (by omega)) fun hs' hhs => ?_;try dsimp only at hhs
  conv => whnf
  rw [hnl k];refine hK _ ?_;clear hK K;refine W.ret ?_;conv => whnf
  exact ⟨.v (.ints none (zr p k).l), ⟨rfl, rfl⟩, trivial, rfl⟩

theorem zcK (kp : Int) (kl : List Int) (_ : inR kp) (hkl : kl.length <= 1048576) : ∃ (r0 : List Int) (r1 : Int),
  (∀ g0 : Option Nat, FnV 91 [vK kp g0 kl] (.tup [.ints none r0, .int .i64 r1])) ∧ (∀ g0 : Option Nat, FnT Tryz.prog 90 [vK kp g0 kl] (RT r0 r1)) ∧ r0.length <= 1000000 ∧ (r1 = 0 -> ∃ hp : kp ∈ zO, letI := yk hp; ∃ f X : Poly kp, f.l = kl ∧ r0 = X.l ∧ IsFld kp kl ∧ dg X < dg f ∧ vZ f X) := by
 by_cases hk : IsFld kp kl
 case neg =>
  have hc : zo kp kl true 0 (fun _ => []) = 1 := by unfold zo; rw [zf hk]; rfl
  refine ⟨[], 1, fun g0 => ?_, fun g0 => ?_, by simp, fun h => absurd h (by decide)⟩
  ·refine zd (za [0, 1, 2, 3, 6]) Tryz.func91 rfl (by decide) Tryz.ntmps91 (Nat.le_of_ble_eq_true rfl) fun base => ?_;refine wrs fun K hK => ?_;conv => whnf
   refine ⟨rfl, ?_⟩;conv => whnf
   intro b_1 hs_1 hh_1 hf_1;try dsimp only at hh_1 hf_1
   conv => whnf
   refine hK _ ?_;clear hK K;refine W.seqK fun K1 hK1 => ?_;refine wrs fun K hK => ?_;conv => whnf
   refine zb rfl ((zC kp g0 kl (by omega)).fa (zf hk)) fun hs' hhs => ?_;try dsimp only at hhs
   conv => whnf
   refine hK _ (W.condT rfl ?_);clear hK K;refine wrs fun K hK => ?_;conv => whnf
   refine hK _ ?_;clear hK K;refine W.ret ?_;conv => whnf
   exact ⟨.v (.ints none []), rfl, trivial, .v (.int .i64 1), ⟨rfl, rfl⟩, trivial, rfl⟩
  ·refine yD (zu [] [0, 1, 2, 3, 4, 5, 9, 17, 1000000]) Tryz.func90 rfl (by decide) Tryz.ntmps90 (Nat.le_of_ble_eq_true rfl) (fun base => ?_) (Nat.le_of_ble_eq_true rfl);refine W.sw (c' := cx [0, 1, 2, 3, 4, 5, 9, 17, 1000000]) ?_;refine wrs fun K hK => ?_;conv => whnf
   refine ⟨rfl, ?_⟩;conv => whnf
   intro b_1 hs_1 hh_1 hf_1;try dsimp only at hh_1 hf_1
   conv => whnf
   refine hK _ ?_;clear hK K;refine W.seqK fun K1 hK1 => ?_;refine wrs fun K hK => ?_;conv => whnf
   refine zb rfl (yt kp g0 none kl 0 _ (fun _ => []) (by omega) (by omega) (fun i hi => by omega)) fun hs' hhs => ?_;try dsimp only at hhs
   conv => whnf
   rw [hc];refine hK _ ?_;clear hK K;refine wrs fun K hK => ?_;conv => whnf
   refine hK _ (W.cond ⟨fun _ => ?_, fun hcc => absurd (by decide : (1 : Int) ≠ 0) (of_decide_eq_false hcc)⟩);clear hK K;refine wrs fun K hK => ?_;conv => whnf
   refine hK _ ?_;clear hK K;refine W.ret ?_;conv => whnf
   exact ⟨.v (.rf 0 0), rfl, trivial, .v (.int .i64 (1)), ⟨rfl, rfl⟩, trivial, 0, rfl, fun hne => absurd rfl hne⟩
 have hc : zo kp kl true 0 (fun _ => []) = 0 := by unfold zo; rw [zg hk, zg (fun i hi => by omega)]; rfl
 have hkk := hk;obtain ⟨hp, f, rfl, hi, _, _, hf9⟩ := xp hk;letI := yk hp;obtain ⟨n, hn1, hn2, hn3, hn4⟩ := zb1 hk hi;have hp1 := z7 hp;have hfl : f.l.length = dg f := rfl;obtain ⟨d, hd⟩ : ∃ d, dg f = d + 1 := ⟨dg f - 1, by have := hi.1; omega⟩
 obtain ⟨hq1, hq2, hq3⟩ := jr hk hd;have e1 : dg f - 1 = d := by omega
 have hpd : ∀ {k : Nat}, k < kp.toNat ^ d -> dg (zr kp k) < dg f := fun {k} h => by have := jn (p := kp) h; omega
 have hnl : ∀ k : Nat, dig kp.toNat k = (zr kp k).l := fun k => (xU k).symm;rw [e1] at hn2;have hnd := hpd hn2;have hNl : (zr kp n).l.length = dg (zr kp n) := rfl;refine ⟨(zr kp n).l, 0, fun g0 => ?_, fun g0 => ?_, by omega, fun _ => ⟨hp, f, zr kp n, rfl, rfl, hkk, hnd, hn3⟩⟩
 ·refine zd (za [0, 1, 2, 3, 6]) Tryz.func91 rfl (by decide) Tryz.ntmps91 (Nat.le_of_ble_eq_true rfl) fun base => ?_;refine wrs fun K hK => ?_;conv => whnf
  refine ⟨rfl, ?_⟩;conv => whnf
  intro b_1 hs_1 hh_1 hf_1;try dsimp only at hh_1 hf_1
  conv => whnf
  refine hK _ ?_;clear hK K;refine W.seqK fun K1 hK1 => ?_;refine wrs fun K hK => ?_;conv => whnf
  refine zb rfl ((zC kp g0 f.l (by omega)).tr (zg hk)) fun hs' hhs => ?_;try dsimp only at hhs
  conv => whnf
  refine hK _ (W.condF rfl (W.skip (hK1 _ ?_)));clear hK K hK1 K1;refine wrs fun K hK => ?_;conv => whnf
  refine zb rfl (ziH kp g0 f hk hi n hn1 (by rw [e1]; exact hn2) hn3 hn4) fun hs' hhs => ?_;try dsimp only at hhs
  conv => whnf
  refine hK _ ?_;clear hK K;refine W.ret ?_;conv => whnf
  exact ⟨.v (.ints none (zr kp n).l), ⟨rfl, rfl⟩, trivial, .v (.int .i64 0), ⟨rfl, rfl⟩, trivial, rfl⟩
 ·refine yD (zu [] [0, 1, 2, 3, 4, 5, 9, 17, 1000000]) Tryz.func90 rfl (by decide) Tryz.ntmps90 (Nat.le_of_ble_eq_true rfl) (fun base => ?_) (Nat.le_of_ble_eq_true rfl);refine W.sw (c' := cx [0, 1, 2, 3, 4, 5, 9, 17, 1000000]) ?_;refine wrs fun K hK => ?_;conv => whnf
  refine ⟨rfl, ?_⟩;conv => whnf
  intro b_1 hs_1 hh_1 hf_1;try dsimp only at hh_1 hf_1
  conv => whnf
  refine hK _ ?_;clear hK K;refine W.seqK fun K1 hK1 => ?_;refine wrs fun K hK => ?_;conv => whnf
  refine zb rfl (yt kp g0 none f.l 0 _ (fun _ => []) (by omega) (by omega) (fun i hi => by omega)) fun hs' hhs => ?_;try dsimp only at hhs
  conv => whnf
  rw [hc];refine hK _ ?_;clear hK K;refine wrs fun K hK => ?_;conv => whnf
  refine hK _ (W.cond ⟨fun hcc => absurd rfl (of_decide_eq_true hcc), fun _ => W.skip (hK1 _ ?_)⟩);clear hK K hK1 K1;refine wrs fun K hK => ?_;conv => whnf
  refine hK _ ?_;clear hK K;refine W.seqK fun K1 hK1 => W.block (W.invA (fun m e => ∃ k : Nat, 1 <= k ∧ k <= n ∧ m = n - k ∧ e = [(vt, .tab fun _ => none), (1, .ownB b_1 (vK kp g0 f.l)), (5, .v (.int .i64 k))]) ⟨1, Nat.le_refl _, hn1, rfl, rfl⟩ ?_);rintro m e ⟨k, hk1, hk2, hm, rfl⟩;refine W.seqK fun K7 hK7 => ?_;refine W.rd (za _) follows (by rfl) fun K hK => ?_;conv => whnf
  refine ⟨_, cxF ((vY kp k (by omega) (by omega)).toV), ?_⟩;conv => whnf
  rw [hnl k]
  by_cases hpk : vZ f (zr kp k)
  ·obtain rfl : k = n := Classical.byContradiction fun h2 => hn4 k hk1 (by omega) hpk;refine ⟨_, cxF ((js kp g0 none f (zr kp k) hk hi (hpd (by omega))).tr (zg hpk)), ?_⟩;conv => whnf
   refine hK _ (W.condF rfl (W.exit (hK1 _ ?_)));clear hK K hK7 K7 hK1 K1;refine W.sw (c' := cxt [] [0, 1, 2, 3, 4, 5, 9, 17, 1000000]) ?_;refine W.rs (zu _ _) (by rfl) fun K hK => ?_;conv => whnf
   refine zH rfl (vY kp k (by omega) (by omega)) fun hs_3 b_3 hh_3 hf_3 => ?_;try dsimp only at hh_3 hf_3
   conv => whnf
   rw [hnl k];refine hK _ ?_;clear hK K;refine W.give 2 fun K hK => ?_;conv => whnf
   refine hK _ ?_;clear hK K;refine W.ret ?_;conv => whnf
   exact ⟨.v (.rf b_3 _), rfl, trivial, .v (.int .i64 (0)), ⟨rfl, rfl⟩, trivial, b_3, rfl, fun hne => vg _ _ hne⟩
  ·have hne : k ≠ n := fun h2 => hpk (h2 ▸ hn3);refine ⟨_, cxF ((js kp g0 none f (zr kp k) hk hi (hpd (by omega))).fa (zf hpk)), ?_⟩;conv => whnf
   refine hK _ (W.condT rfl (W.skip (hK7 _ (W.block ?_))));clear hK K hK7 K7;refine wrg ?_;conv => whnf
   refine ⟨oo, ?_⟩;conv => whnf
   exact zi ⟨k + 1, by omega, by omega, rfl, rfl⟩



theorem zoF (n : Nat) (hn : n <= 1000000000) : FnV 337 [.int .i64 n] (.int .i64 n) := by
 refine zd (za [0, 2]) Tryz.func337 rfl (by decide) Tryz.ntmps337 (Nat.le_of_ble_eq_true rfl) fun base => ?_;refine wrs fun K hK => ?_;conv => whnf
 refine hK _ ?_;clear hK K;refine wrs fun K hK => ?_;conv => whnf
 refine ⟨oo, ?_⟩;conv => whnf
 rw [show max (n : Int) (-(n : Int)) = n by omega];refine hK _ ?_;clear hK K;refine W.ret ?_;conv => whnf
 exact ⟨.v (.int .i64 n), ⟨rfl, rfl⟩, trivial, rfl⟩
theorem zgb (n : Nat) (hn : n <= 1000000000) : FnV 336 [.int .i64 n] (.int .i64 n) := by
 refine zd (za [0, 2]) Tryz.func336 rfl (by decide) Tryz.ntmps336 (Nat.le_of_ble_eq_true rfl) fun base => ?_;refine wrs fun K hK => ?_;conv => whnf
 refine hK _ ?_;clear hK K;refine wrs fun K hK => ?_;conv => whnf
 refine ⟨oo, ?_⟩;conv => whnf
 rw [show max (n : Int) (-(n : Int)) = n by omega];refine hK _ ?_;clear hK K;refine W.ret ?_;conv => whnf
 exact ⟨.v (.int .i64 n), ⟨rfl, rfl⟩, trivial, rfl⟩
theorem zoG (a b : Nat) (ha : a <= 1000000000) (hb : b <= 1000000000) : FnV 248 [.int .i64 a, .int .i64 b] (.int .i64 (Nat.gcd a b)) := by
 refine zd (za [0, 1, 4, 6]) Tryz.func248 rfl (by decide) Tryz.ntmps248 (Nat.le_of_ble_eq_true rfl) fun base => ?_;refine wrs fun K hK => ?_;conv => whnf
 refine hK _ ?_;clear hK K;refine W.seqK fun K1 hK1 => W.block (W.invA (fun m e => ∃ a' b' : Nat, a' <= 1000000000 ∧ b' <= 1000000000 ∧ Nat.gcd a' b' = Nat.gcd a b ∧ m = b' ∧ e = [(0, .v (.int .i64 a')), (1, .v (.int .i64 b'))]) ⟨a, b, ha, hb, rfl, rfl, rfl⟩ ?_);rintro m e ⟨a', b', h1, h2, h3, hm, rfl⟩;refine W.seqK fun K7 hK7 => wrs fun K hK => ?_;conv => whnf
 refine hK _ (W.cond ⟨fun h => ?_, fun h => ?_⟩) <;> clear hK K <;> (first | replace h := of_decide_eq_true h | replace h := of_decide_eq_false h)
 ·have hb0 : 0 < b' := by omega
  have hmod := Nat.mod_lt a' hb0;refine W.skip (hK7 _ (W.block ?_));clear hK7 K7;refine W.draw (za _) follows (by rfl) ?_;conv => whnf
  refine ⟨by omega, ?_⟩;conv => whnf
  rw [vE];exact zi ⟨b', a' % b', by omega, by omega, by rw [<- h3, Nat.gcd_comm a' b', Nat.gcd_rec b' a', Nat.gcd_comm], rfl, rfl⟩
 ·obtain rfl : b' = 0 := by omega
  rw [Nat.gcd_zero_right] at h3;subst h3;refine W.exit (hK1 _ ?_);clear hK7 K7 hK1 K1;refine wrs fun K hK => ?_;conv => whnf
  refine zb rfl (zoF (Nat.gcd a b) h1) fun hs' hhs => ?_;try dsimp only at hhs
  conv => whnf
  refine hK _ ?_;clear hK K;refine W.ret ?_;conv => whnf
  exact ⟨.v (.int .i64 (Nat.gcd a b)), ⟨rfl, rfl⟩, trivial, rfl⟩
theorem zgc (a b : Nat) (ha : a <= 1000000000) (hb : b <= 1000000000) : FnV 239 [.int .i64 a, .int .i64 b] (.int .i64 (Nat.gcd a b)) := by
 refine zd (za [0, 1, 4, 10]) Tryz.func239 rfl (by decide) Tryz.ntmps239 (Nat.le_of_ble_eq_true rfl) fun base => ?_;refine wrs fun K hK => ?_;conv => whnf
 refine hK _ ?_;clear hK K;refine wrs fun K hK => ?_;conv => whnf
 refine zb rfl (zgb a ha) fun hs' hhs => ?_;try dsimp only at hhs
 conv => whnf
 refine zb rfl (zgb b hb) fun hs' hhs => ?_;try dsimp only at hhs
 conv => whnf
 refine hK _ ?_;clear hK K;refine W.seqK fun K1 hK1 => W.block (W.invA (fun m e => ∃ a' b' : Nat, a' <= 1000000000 ∧ b' <= 1000000000 ∧ Nat.gcd a' b' = Nat.gcd a b ∧ m = b' ∧ e = [(0, .v (.int .i64 a')), (1, .v (.int .i64 b'))]) ⟨a, b, ha, hb, rfl, rfl, rfl⟩ ?_);rintro m e ⟨a', b', h1, h2, h3, hm, rfl⟩;refine W.seqK fun K7 hK7 => wrs fun K hK => ?_;conv => whnf
 refine hK _ (W.cond ⟨fun h => ?_, fun h => ?_⟩) <;> clear hK K <;> (first | replace h := of_decide_eq_true h | replace h := of_decide_eq_false h)
 ·have hb0 : 0 < b' := by omega
  have hmod := Nat.mod_lt a' hb0;refine W.skip (hK7 _ (W.block ?_));clear hK7 K7;refine W.draw (za _) follows (by rfl) ?_;conv => whnf
  refine ⟨by omega, ?_⟩;conv => whnf
  rw [vE];exact zi ⟨b', a' % b', by omega, by omega, by rw [<- h3, Nat.gcd_comm a' b', Nat.gcd_rec b' a', Nat.gcd_comm], rfl, rfl⟩
 ·obtain rfl : b' = 0 := by omega
  rw [Nat.gcd_zero_right] at h3;subst h3;refine W.exit (hK1 _ ?_);clear hK7 K7 hK1 K1;refine wrs fun K hK => ?_;conv => whnf
  refine hK _ ?_;clear hK K;refine W.ret ?_;conv => whnf
  exact ⟨.v (.int .i64 (Nat.gcd a b)), ⟨rfl, rfl⟩, trivial, rfl⟩


theorem z4 (p n : Int) (g : Option Nat) (l : List Int) (hl : l.length <= 1000000000) : FnV 235 [vK p g l, .int .i64 n] (.bool (bP (IsFld p l ∧ 1 <= n ∧ n <= p ^ (l.length - 1) - 1))) := by
 by_cases hk : IsFld p l
 case neg =>
  refine zd (za [0, 1, 2, 4]) Tryz.func235 rfl (by decide) Tryz.ntmps235 (Nat.le_of_ble_eq_true rfl) fun base => ?_;refine wrs fun K hK => ?_;conv => whnf
  refine ⟨rfl, ?_⟩;conv => whnf
  intro b_1 hs_1 hh_1 hf_1;try dsimp only at hh_1 hf_1
  conv => whnf
  refine hK _ ?_;clear hK K;refine wrs fun K hK => ?_;conv => whnf
  refine zb rfl ((vh p g l hl).fa (zf hk)) fun hs' hhs => ?_;try dsimp only at hhs
  conv => whnf
  refine hK _ ?_;clear hK K;refine W.ret ?_;conv => whnf
  exact ⟨.v (.bool (bP (IsFld p l ∧ 1 <= n ∧ n <= p ^ (l.length - 1) - 1))), zf fun h => hk h.1, trivial, rfl⟩
 have hp1 := zaB hk.mod.1;have h9 := hk.mod.2.1;have hl2 := hk.two;have hb := jq (p := p) (by omega) (by omega) (k := l.length - 1) (by omega)
 have e1 : decide (1 <= n ∧ n <= p ^ (l.length - 1) - 1) = bP (IsFld p l ∧ 1 <= n ∧ n <= p ^ (l.length - 1) - 1) := by
  by_cases h : 1 <= n ∧ n <= p ^ (l.length - 1) - 1
  ·rw [decide_eq_true h, zg ⟨hk, h⟩]
  ·rw [decide_eq_false h, zf fun h' => h h'.2]
 refine zd (za [0, 1, 2, 4]) Tryz.func235 rfl (by decide) Tryz.ntmps235 (Nat.le_of_ble_eq_true rfl) fun base => ?_;refine wrs fun K hK => ?_;conv => whnf
 refine ⟨rfl, ?_⟩;conv => whnf
 intro b_1 hs_1 hh_1 hf_1;try dsimp only at hh_1 hf_1
 conv => whnf
 refine hK _ ?_;clear hK K;refine wrs fun K hK => ?_;conv => whnf
 refine zb rfl ((vh p g l hl).tr (zg hk)) fun hs' hhs => ?_;try dsimp only at hhs
 conv => whnf
 refine zb rfl (y3 p g l (by omega) (by omega) (by omega) (by omega)) fun hs' hhs => ?_;try dsimp only at hhs
 conv => whnf
 refine ⟨oo, ?_⟩;conv => whnf
 refine zb rfl (xc n 1 (p ^ (l.length - 1) - 1)) fun hs' hhs => ?_;try dsimp only at hhs
 conv => whnf
 refine hK _ ?_;clear hK K;refine W.ret ?_;conv => whnf
 exact ⟨.v (.bool (bP (IsFld p l ∧ 1 <= n ∧ n <= p ^ (l.length - 1) - 1))), e1, trivial, rfl⟩

noncomputable def zV (p : Int) (l x : List Int) (n : Int) : Int :=
 if xG p l x = 0 then (if 1 <= n ∧ n <= p ^ (l.length - 1) - 1 then (if x = [] then 5 else 0) else 2) else xG p l x

theorem y5 (p n : Int) (g g1 : Option Nat) (l x : List Int) (hl : l.length <= 1000000000) (hx : x.length <= 1000000000) : FnV 245 [vK p g l, .ints g1 x, .int .i64 n] (.int .i64 (zV p l x n)) := by
 generalize hc : xG p l x = c
 by_cases h0 : c = 0
 case neg =>
  have e9 : zV p l x n = c := by unfold zV; rw [hc, if_neg h0]
  refine zd (za [0, 1, 2, 3, 6, 7, 21, 28]) Tryz.func245 rfl (by decide) Tryz.ntmps245 (Nat.le_of_ble_eq_true rfl) fun base => ?_;refine wrs fun K hK => ?_;conv => whnf
  refine ⟨rfl, ?_⟩;conv => whnf
  intro b_1 hs_1 hh_1 hf_1;try dsimp only at hh_1 hf_1
  conv => whnf
  refine hK _ ?_;clear hK K;refine wrs fun K hK => ?_;conv => whnf
  refine zb rfl (yu p g g1 g1 l x hl hx) fun hs' hhs => ?_;try dsimp only at hhs
  conv => whnf
  rw [hc];refine hK _ ?_;clear hK K;refine W.seqK fun K1 hK1 => ?_;refine wrs fun K hK => ?_;conv => whnf
  refine ⟨fun h => ?_, fun h => ?_⟩ <;> conv => whnf
  ·exact absurd (of_decide_eq_true h) h0
  refine hK _ (W.condF rfl (W.skip (hK1 _ ?_)));clear hK K hK1 K1;refine W.seqK fun K1 hK1 => ?_;refine wrs fun K hK => ?_;conv => whnf
  refine ⟨fun h2 => ?_, fun h2 => ?_⟩ <;> conv => whnf
  ·exact absurd (of_decide_eq_true h2) h0
  refine hK _ (W.condF rfl (W.skip (hK1 _ ?_)));clear hK K hK1 K1;refine wrs fun K hK => ?_;conv => whnf
  refine hK _ ?_;clear hK K;refine W.ret ?_;conv => whnf
  exact ⟨.v (.int .i64 (zV p l x n)), ⟨rfl, e9.symm⟩, trivial, rfl⟩
 subst h0;obtain ⟨hk, hh⟩ := kf hc;have hp1 := zaB hk.mod.1;have h9 := hk.mod.2.1;have hl2 := hk.two;have hb := jq (p := p) (by omega) (by omega) (k := l.length - 1) (by omega)
 by_cases hr : 1 <= n ∧ n <= p ^ (l.length - 1) - 1
 case neg =>
  have e9 : zV p l x n = 2 := by unfold zV; rw [hc, if_pos rfl, if_neg hr]
  refine zd (za [0, 1, 2, 3, 6, 7, 21, 28]) Tryz.func245 rfl (by decide) Tryz.ntmps245 (Nat.le_of_ble_eq_true rfl) fun base => ?_;refine wrs fun K hK => ?_;conv => whnf
  refine ⟨rfl, ?_⟩;conv => whnf
  intro b_1 hs_1 hh_1 hf_1;try dsimp only at hh_1 hf_1
  conv => whnf
  refine hK _ ?_;clear hK K;refine wrs fun K hK => ?_;conv => whnf
  refine zb rfl (yu p g g1 g1 l x hl hx) fun hs' hhs => ?_;try dsimp only at hhs
  conv => whnf
  rw [hc];refine hK _ ?_;clear hK K;refine W.seqK fun K1 hK1 => ?_;refine wrs fun K hK => ?_;conv => whnf
  refine ⟨fun h => ?_, fun h => ?_⟩ <;> conv => whnf
  ·refine zb rfl (zG p g l hk) fun hs' hhs => ?_;try dsimp only at hhs
   conv => whnf
   refine ⟨oo, ?_⟩;conv => whnf
   refine zb rfl ((y2 n 1 (p ^ (l.length - 1) - 1)).fa (decide_eq_false hr)) fun hs' hhs => ?_;try dsimp only at hhs
   conv => whnf
   refine hK _ (W.condT rfl ?_);clear hK K;refine wrg ?_;conv => whnf
   refine hK1 _ ?_;clear hK1 K1;refine W.seqK fun K1 hK1 => ?_;refine wrs fun K hK => ?_;conv => whnf
   refine ⟨fun h2 => ?_, fun h2 => ?_⟩ <;> conv => whnf
   ·exact absurd (of_decide_eq_true h2) (by decide)
   refine hK _ (W.condF rfl (W.skip (hK1 _ ?_)));clear hK K hK1 K1;refine wrs fun K hK => ?_;conv => whnf
   refine hK _ ?_;clear hK K;refine W.ret ?_;conv => whnf
   exact ⟨.v (.int .i64 (zV p l x n)), ⟨rfl, e9.symm⟩, trivial, rfl⟩
  ·exact absurd rfl (of_decide_eq_false h)
 have e9 : zV p l x n = if x = [] then 5 else 0 := by unfold zV; rw [hc, if_pos rfl, if_pos hr]
 refine zd (za [0, 1, 2, 3, 6, 7, 21, 28]) Tryz.func245 rfl (by decide) Tryz.ntmps245 (Nat.le_of_ble_eq_true rfl) fun base => ?_;refine wrs fun K hK => ?_;conv => whnf
 refine ⟨rfl, ?_⟩;conv => whnf
 intro b_1 hs_1 hh_1 hf_1;try dsimp only at hh_1 hf_1
 conv => whnf
 refine hK _ ?_;clear hK K;refine wrs fun K hK => ?_;conv => whnf
 refine zb rfl (yu p g g1 g1 l x hl hx) fun hs' hhs => ?_;try dsimp only at hhs
 conv => whnf
 rw [hc];refine hK _ ?_;clear hK K;refine W.seqK fun K1 hK1 => ?_;refine wrs fun K hK => ?_;conv => whnf
 refine ⟨fun h => ?_, fun h => ?_⟩ <;> conv => whnf
 ·refine zb rfl (zG p g l hk) fun hs' hhs => ?_;try dsimp only at hhs
  conv => whnf
  refine ⟨oo, ?_⟩;conv => whnf
  refine zb rfl ((y2 n 1 (p ^ (l.length - 1) - 1)).tr (decide_eq_true hr)) fun hs' hhs => ?_;try dsimp only at hhs
  conv => whnf
  refine hK _ (W.condF rfl (W.skip (hK1 _ ?_)));clear hK K hK1 K1;refine W.seqK fun K1 hK1 => ?_;refine wrs fun K hK => ?_;conv => whnf
  refine ⟨fun h2 => ?_, fun h2 => ?_⟩ <;> conv => whnf
  ·refine hK _ (W.cond ⟨fun h3 => ?_, fun h3 => ?_⟩) <;> clear hK K
   ·have h3 := of_decide_eq_true h3;have hx0 : x = [] := List.eq_nil_of_length_eq_zero (by omega);refine wrg ?_;conv => whnf
    refine hK1 _ ?_;clear hK1 K1;refine wrs fun K hK => ?_;conv => whnf
    refine hK _ ?_;clear hK K;refine W.ret ?_;conv => whnf
    exact ⟨.v (.int .i64 (zV p l x n)), ⟨rfl, by rw [e9, if_pos hx0]⟩, trivial, rfl⟩
   ·have h3 := of_decide_eq_false h3;have hx0 : x ≠ [] := fun e => h3 (by rw [e]; rfl);refine W.skip (hK1 _ ?_);clear hK1 K1;refine wrs fun K hK => ?_;conv => whnf
    refine hK _ ?_;clear hK K;refine W.ret ?_;conv => whnf
    exact ⟨.v (.int .i64 (zV p l x n)), ⟨rfl, by rw [e9, if_neg hx0]⟩, trivial, rfl⟩
  ·exact absurd rfl (of_decide_eq_false h2)
 ·exact absurd rfl (of_decide_eq_false h)


theorem ziI (kp : Int) (kl x : List Int) (n : Int) (_ : inR kp) (_ : inR n) (hkl : kl.length <= 1048576) (hx : x.length <= 1048576) : ∃ (r0 : Bool) (r1 : Int),
  (∀ g0 g1 : Option Nat, FnV 102 [vK kp g0 kl, .ints g1 x, .int .i64 n] (.tup [.bool r0, .int .i64 r1])) ∧ (∀ g0 g1 : Option Nat, FnV 101 [vK kp g0 kl, .ints g1 x, .int .i64 n] (.tup [.bool r0, .int .i64 r1])) ∧ (∀ hp : kp ∈ zO, letI := yk hp; ∀ (f X : Poly kp) (d m : Nat), f.l = kl -> X.l = x -> xG kp kl x = 0 -> X ≠ 0 -> dg f = d + 1 -> n = m -> 1 <= m -> m <= kp.toNat ^ d - 1 -> r1 = 0 ∧ r0 = decide ((rem (X ^ ((kp.toNat ^ d - 1) / Nat.gcd m (kp.toNat ^ d - 1))) f).l = [1])) := by
 generalize hc : xG kp kl x = c
 by_cases h0 : c = 0
 case neg =>
  have e9 : zV kp kl x n = c := by unfold zV; rw [hc, if_neg h0]
  refine ⟨false, c, fun g0 g1 => ?_, fun g0 g1 => ?_, fun _ _ _ _ _ _ _ h => absurd h h0⟩
  ·refine zd (za [0, 1, 2, 3, 6, 7, 8, 9, 15]) Tryz.func102 rfl (by decide) Tryz.ntmps102 (Nat.le_of_ble_eq_true rfl) fun base => ?_;refine wrs fun K hK => ?_;conv => whnf
   refine ⟨rfl, ?_⟩;conv => whnf
   intro b_1 hs_1 hh_1 hf_1;try dsimp only at hh_1 hf_1
   conv => whnf
   refine hK _ ?_;clear hK K;refine wrs fun K hK => ?_;conv => whnf
   refine zb rfl (y5 kp n g0 g1 kl x (by omega) (by omega)) fun hs' hhs => ?_;try dsimp only at hhs
   conv => whnf
   rw [e9];refine hK _ ?_;clear hK K;refine W.seqK fun K1 hK1 => ?_;refine wrs fun K hK => ?_;conv => whnf
   refine hK _ (W.cond ⟨fun _ => ?_, fun hcc => absurd h0 (of_decide_eq_false hcc)⟩);clear hK K;refine wrs fun K hK => ?_;conv => whnf
   refine hK _ ?_;clear hK K;refine W.ret ?_;conv => whnf
   exact ⟨.v (.bool false), rfl, trivial, .v (.int .i64 c), ⟨rfl, rfl⟩, trivial, rfl⟩
  ·refine zd (za [0, 1, 2, 3, 6, 7, 8, 17, 21]) Tryz.func101 rfl (by decide) Tryz.ntmps101 (Nat.le_of_ble_eq_true rfl) fun base => ?_;refine wrs fun K hK => ?_;conv => whnf
   refine ⟨rfl, ?_⟩;conv => whnf
   intro b_1 hs_1 hh_1 hf_1;try dsimp only at hh_1 hf_1
   conv => whnf
   refine hK _ ?_;clear hK K;refine W.seqK fun K1 hK1 => ?_;refine W.rd (za _) follows (by rfl) fun K hK => ?_;conv => whnf
   refine ⟨_, cxF (z4 kp n g0 kl (by omega)), ?_⟩;conv => whnf
   refine ⟨⟨rfl, by decide, fun x hx => (by simp at hx; subst hx; exact ⟨rfl, rfl⟩)⟩, ?_⟩;conv => whnf
   refine ⟨_, cxF (zB kp g0 none kl _ 1 _ (fun _ => x) (by omega) (by omega) (zcG g1 x)), ?_⟩;conv => whnf
   rw [zcI hc h0];refine hK _ ?_;clear hK K;refine wrs fun K hK => ?_;conv => whnf
   refine hK _ (W.cond ⟨fun _ => ?_, fun hcc => absurd h0 (of_decide_eq_false hcc)⟩);clear hK K;refine wrs fun K hK => ?_;conv => whnf
   refine hK _ ?_;clear hK K;refine W.ret ?_;conv => whnf
   exact ⟨.v (.bool false), rfl, trivial, .v (.int .i64 c), ⟨rfl, rfl⟩, trivial, rfl⟩
 subst h0
 by_cases hr : 1 <= n ∧ n <= kp ^ (kl.length - 1) - 1
 case neg =>
  have e9 : zV kp kl x n = 2 := by unfold zV; rw [hc, if_pos rfl, if_neg hr]
  refine ⟨false, 2, fun g0 g1 => ?_, fun g0 g1 => ?_, fun hp φ Y d m e1 _ _ _ hd hn h1 h2 => absurd (by
   letI := yk hp;have hk' := (kf hc).1;rw [<- e1] at hk' ⊢;have := (jr hk' hd).1;rw [this]; omega) hr⟩
  ·refine zd (za [0, 1, 2, 3, 6, 7, 8, 9, 15]) Tryz.func102 rfl (by decide) Tryz.ntmps102 (Nat.le_of_ble_eq_true rfl) fun base => ?_;refine wrs fun K hK => ?_;conv => whnf
   refine ⟨rfl, ?_⟩;conv => whnf
   intro b_1 hs_1 hh_1 hf_1;try dsimp only at hh_1 hf_1
   conv => whnf
   refine hK _ ?_;clear hK K;refine wrs fun K hK => ?_;conv => whnf
   refine zb rfl (y5 kp n g0 g1 kl x (by omega) (by omega)) fun hs' hhs => ?_;try dsimp only at hhs
   conv => whnf
   rw [e9];refine hK _ ?_;clear hK K;refine W.seqK fun K1 hK1 => ?_;refine wrs fun K hK => ?_;conv => whnf
   refine hK _ (W.cond ⟨fun _ => ?_, fun hcc => absurd (by decide : (2 : Int) ≠ 0) (of_decide_eq_false hcc)⟩);clear hK K;refine wrs fun K hK => ?_;conv => whnf
   refine hK _ ?_;clear hK K;refine W.ret ?_;conv => whnf
   exact ⟨.v (.bool false), rfl, trivial, .v (.int .i64 2), ⟨rfl, rfl⟩, trivial, rfl⟩
  ·refine zd (za [0, 1, 2, 3, 6, 7, 8, 17, 21]) Tryz.func101 rfl (by decide) Tryz.ntmps101 (Nat.le_of_ble_eq_true rfl) fun base => ?_;refine wrs fun K hK => ?_;conv => whnf
   refine ⟨rfl, ?_⟩;conv => whnf
   intro b_1 hs_1 hh_1 hf_1;try dsimp only at hh_1 hf_1
   conv => whnf
   refine hK _ ?_;clear hK K;refine W.seqK fun K1 hK1 => ?_;refine W.rd (za _) follows (by rfl) fun K hK => ?_;conv => whnf
   refine ⟨_, cxF (z4 kp n g0 kl (by omega)), ?_⟩;conv => whnf
   refine ⟨⟨rfl, by decide, fun x hx => (by simp at hx; subst hx; exact ⟨rfl, rfl⟩)⟩, ?_⟩;conv => whnf
   refine ⟨_, cxF (zB kp g0 none kl _ 1 _ (fun _ => x) (by omega) (by omega) (zcG g1 x)), ?_⟩;conv => whnf
   rw [zcJ hc (zf fun h => hr h.2)];refine hK _ ?_;clear hK K;refine wrs fun K hK => ?_;conv => whnf
   refine hK _ (W.cond ⟨fun _ => ?_, fun hcc => absurd (by decide : (2 : Int) ≠ 0) (of_decide_eq_false hcc)⟩);clear hK K;refine wrs fun K hK => ?_;conv => whnf
   refine hK _ ?_;clear hK K;refine W.ret ?_;conv => whnf
   exact ⟨.v (.bool false), rfl, trivial, .v (.int .i64 2), ⟨rfl, rfl⟩, trivial, rfl⟩
 have e8 : zV kp kl x n = if x = [] then 5 else 0 := by unfold zV; rw [hc, if_pos rfl, if_pos hr]
 obtain ⟨hk, hh⟩ := kf hc;obtain ⟨hp, f, rfl, hfi, _, _, hf9⟩ := xp hk;letI := yk hp;obtain ⟨X, rfl⟩ := zaC hh.1;have hxl : X.l.length < f.l.length := hh.2;have hfl : f.l.length = dg f := rfl;have hXl : X.l.length = dg X := rfl;have hf0 := hfi.ne;have hp1 := z7 hp
 by_cases hX0 : X = 0
 case pos =>
  have hX1 : dg X = 0 := ze.2 hX0;have e9 : zV kp f.l X.l n = 5 := by rw [e8, if_pos (List.eq_nil_of_length_eq_zero (by omega))]
  refine ⟨false, 5, fun g0 g1 => ?_, fun g0 g1 => ?_, fun _ φ Y _ _ e1 e2 _ h => (by obtain rfl := vO e2; exact absurd hX0 h)⟩
  ·refine zd (za [0, 1, 2, 3, 6, 7, 8, 9, 15]) Tryz.func102 rfl (by decide) Tryz.ntmps102 (Nat.le_of_ble_eq_true rfl) fun base => ?_;refine wrs fun K hK => ?_;conv => whnf
   refine ⟨rfl, ?_⟩;conv => whnf
   intro b_1 hs_1 hh_1 hf_1;try dsimp only at hh_1 hf_1
   conv => whnf
   refine hK _ ?_;clear hK K;refine wrs fun K hK => ?_;conv => whnf
   refine zb rfl (y5 kp n g0 g1 f.l X.l (by omega) (by omega)) fun hs' hhs => ?_;try dsimp only at hhs
   conv => whnf
   rw [e9];refine hK _ ?_;clear hK K;refine W.seqK fun K1 hK1 => ?_;refine wrs fun K hK => ?_;conv => whnf
   refine hK _ (W.cond ⟨fun _ => ?_, fun hcc => absurd (by decide : (5 : Int) ≠ 0) (of_decide_eq_false hcc)⟩);clear hK K;refine wrs fun K hK => ?_;conv => whnf
   refine hK _ ?_;clear hK K;refine W.ret ?_;conv => whnf
   exact ⟨.v (.bool false), rfl, trivial, .v (.int .i64 5), ⟨rfl, rfl⟩, trivial, rfl⟩
  ·refine zd (za [0, 1, 2, 3, 6, 7, 8, 17, 21]) Tryz.func101 rfl (by decide) Tryz.ntmps101 (Nat.le_of_ble_eq_true rfl) fun base => ?_;refine wrs fun K hK => ?_;conv => whnf
   refine ⟨rfl, ?_⟩;conv => whnf
   intro b_1 hs_1 hh_1 hf_1;try dsimp only at hh_1 hf_1
   conv => whnf
   refine hK _ ?_;clear hK K;refine W.seqK fun K1 hK1 => ?_;refine W.rd (za _) follows (by rfl) fun K hK => ?_;conv => whnf
   refine ⟨_, cxF (z4 kp n g0 f.l (by omega)), ?_⟩;conv => whnf
   refine ⟨⟨rfl, by decide, fun x hx => (by simp at hx; subst hx; exact ⟨rfl, rfl⟩)⟩, ?_⟩;conv => whnf
   refine ⟨_, cxF (zB kp g0 none f.l _ 1 _ (fun _ => X.l) (by omega) (by omega) (zcG g1 X.l)), ?_⟩;conv => whnf
   rw [zaD hc (zg ⟨hk, hr⟩)];refine hK _ ?_;clear hK K;refine wrs fun K hK => ?_;conv => whnf
   refine hK _ (W.cond ⟨fun hcc => absurd rfl (of_decide_eq_true hcc), fun _ => W.skip (hK1 _ ?_)⟩);clear hK K hK1 K1;refine W.seqK fun K1 hK1 => ?_;refine wrs fun K hK => ?_;conv => whnf
   refine hK _ (W.cond ⟨fun _ => ?_, fun h4 => absurd (of_decide_eq_false h4) (by omega)⟩);clear hK K;refine wrs fun K hK => ?_;conv => whnf
   refine hK _ ?_;clear hK K;refine W.ret ?_;conv => whnf
   exact ⟨.v (.bool false), rfl, trivial, .v (.int .i64 5), ⟨rfl, rfl⟩, trivial, rfl⟩
 have hX1 : dg X ≠ 0 := fun e => hX0 (ze.1 e);have e9 : zV kp f.l X.l n = 0 := by rw [e8, if_neg fun e => hX1 (by rw [<- hXl, e]; rfl)]
 obtain ⟨d, hd⟩ : ∃ d, dg f = d + 1 := ⟨dg f - 1, by have := hfi.1; omega⟩
 obtain ⟨hq1, hq2, hq3⟩ := jr hk hd;rw [hq1] at hr;generalize hqe : kp.toNat ^ d = q at hq1 hq2 hq3 hr;obtain ⟨n, rfl⟩ : ∃ k : Nat, n = k := ⟨n.toNat, by omega⟩
 have hqi : ((q : Nat) : Int) - 1 = ((q - 1 : Nat) : Int) := by omega
 have hg0 : 0 < Nat.gcd n (q - 1) := Nat.gcd_pos_of_pos_left _ (by omega);have hgc : Nat.gcd (q - 1) n = Nat.gcd n (q - 1) := Nat.gcd_comm _ _;have hdiv := Nat.div_le_self (q - 1) (Nat.gcd n (q - 1));obtain ⟨v, hv⟩ : ∃ v, (q - 1) / Nat.gcd n (q - 1) = v := ⟨_, rfl⟩
 rw [hv] at hdiv
 refine ⟨decide ((rem (X ^ v) f).l = [1]), 0, fun g0 g1 => ?_, fun g0 g1 => ?_, fun _ φ Y d' m e1 e2 _ _ hd' hn _ _ => (by
  obtain rfl := vO e1;obtain rfl := vO e2;obtain rfl : d = d' := by omega
  obtain rfl : n = m := by omega
  exact ⟨rfl, by rw [hqe, hv]⟩)⟩
 ·refine zd (za [0, 1, 2, 3, 6, 7, 8, 9, 15]) Tryz.func102 rfl (by decide) Tryz.ntmps102 (Nat.le_of_ble_eq_true rfl) fun base => ?_;refine wrs fun K hK => ?_;conv => whnf
  refine ⟨rfl, ?_⟩;conv => whnf
  intro b_1 hs_1 hh_1 hf_1;try dsimp only at hh_1 hf_1
  conv => whnf
  refine hK _ ?_;clear hK K;refine wrs fun K hK => ?_;conv => whnf
  refine zb rfl (y5 kp n g0 g1 f.l X.l (by omega) (by omega)) fun hs' hhs => ?_;try dsimp only at hhs
  conv => whnf
  rw [e9];refine hK _ ?_;clear hK K;refine W.seqK fun K1 hK1 => ?_;refine wrs fun K hK => ?_;conv => whnf
  refine hK _ (W.cond ⟨fun hcc => absurd rfl (of_decide_eq_true hcc), fun _ => W.skip (hK1 _ ?_)⟩);clear hK K hK1 K1;refine wrs fun K hK => ?_;conv => whnf
  refine zb rfl (zG kp g0 f.l hk) fun hs' hhs => ?_;try dsimp only at hhs
  conv => whnf
  rw [hq1];refine ⟨oo, ?_⟩;conv => whnf
  rw [hqi];refine hK _ ?_;clear hK K;refine W.rd (za _) follows (by rfl) fun K hK => ?_;conv => whnf
  refine ⟨_, cxF (zgc (q - 1) n (by omega) (by omega)), ?_⟩;conv => whnf
  rw [hgc];refine ⟨by omega, ?_⟩;conv => whnf
  rw [y4, hv];refine ⟨oo, ?_⟩;conv => whnf
  refine ⟨_, cxF (vG kp g0 g1 f X v (by omega) (by omega) (by omega) hf0), ?_⟩;conv => whnf
  refine ⟨_, cxF (zga none (rem (X ^ v) f).l), ?_⟩;conv => whnf
  refine hK _ ?_;clear hK K;refine W.ret ?_;conv => whnf
  exact ⟨.v (.bool (decide ((rem (X ^ v) f).l = [1]))), rfl, trivial, .v (.int .i64 0), ⟨rfl, rfl⟩, trivial, rfl⟩
 ·refine zd (za [0, 1, 2, 3, 6, 7, 8, 17, 21]) Tryz.func101 rfl (by decide) Tryz.ntmps101 (Nat.le_of_ble_eq_true rfl) fun base => ?_;refine wrs fun K hK => ?_;conv => whnf
  refine ⟨rfl, ?_⟩;conv => whnf
  intro b_1 hs_1 hh_1 hf_1;try dsimp only at hh_1 hf_1
  conv => whnf
  refine hK _ ?_;clear hK K;refine W.seqK fun K1 hK1 => ?_;refine W.rd (za _) follows (by rfl) fun K hK => ?_;conv => whnf
  refine ⟨_, cxF (z4 kp n g0 f.l (by omega)), ?_⟩;conv => whnf
  refine ⟨⟨rfl, by decide, fun x hx => (by simp at hx; subst hx; exact ⟨rfl, rfl⟩)⟩, ?_⟩;conv => whnf
  refine ⟨_, cxF (zB kp g0 none f.l _ 1 _ (fun _ => X.l) (by omega) (by omega) (zcG g1 X.l)), ?_⟩;conv => whnf
  rw [zaD hc (zg ⟨hk, by rw [hq1]; exact hr⟩)];refine hK _ ?_;clear hK K;refine wrs fun K hK => ?_;conv => whnf
  refine hK _ (W.cond ⟨fun hcc => absurd rfl (of_decide_eq_true hcc), fun _ => W.skip (hK1 _ ?_)⟩);clear hK K hK1 K1;refine W.seqK fun K1 hK1 => ?_;refine wrs fun K hK => ?_;conv => whnf
  refine hK _ (W.cond ⟨fun h4 => absurd (of_decide_eq_true h4) (by omega), fun _ => W.skip (hK1 _ ?_)⟩);clear hK K hK1 K1;refine W.rd (za _) follows (by rfl) fun K hK => ?_;conv => whnf
  refine ⟨_, cxF (y3 kp g0 f.l (by omega) (by omega) (by omega) (by omega)), ?_⟩;conv => whnf
  rw [hq1];refine ⟨oo, ?_⟩;conv => whnf
  rw [hqi];refine ⟨_, cxF (y3 kp g0 f.l (by omega) (by omega) (by omega) (by omega)), ?_⟩;conv => whnf
  rw [hq1];refine ⟨oo, ?_⟩;conv => whnf
  rw [hqi];refine ⟨_, cxF (zoG n (q - 1) (by omega) (by omega)), ?_⟩;conv => whnf
  refine ⟨by omega, ?_⟩;conv => whnf
  rw [y4, hv];refine ⟨oo, ?_⟩;conv => whnf
  refine ⟨_, cxF (zcH kp g0 g1 f X v (by omega) (by omega) (by omega) hf0), ?_⟩;conv => whnf
  refine ⟨_, cxF (ziG none (rem (X ^ v) f).l), ?_⟩;conv => whnf
  refine hK _ ?_;clear hK K;refine W.ret ?_;conv => whnf
  exact ⟨.v (.bool (decide ((rem (X ^ v) f).l = [1]))), rfl, trivial, .v (.int .i64 0), ⟨rfl, rfl⟩, trivial, rfl⟩

/- how many are primitive -/
def zcL (n : Nat) (L : List (Nat × Nat)) (i : Nat) : Nat := (L.take i).foldl (fun c x => c / x.1 * (x.1 - 1)) n
theorem zgd (n : Nat) {L : List (Nat × Nat)} {i : Nat} (h : i < L.length) : zcL n L (i + 1) = zcL n L i / L[i].1 * (L[i].1 - 1) := by
 unfold zcL;rw [List.take_succ_eq_append_getElem h, List.foldl_append]; rfl
theorem zhd (n : Nat) (L : List (Nat × Nat)) : ∀ i, i <= L.length -> zcL n L i <= n
 | 0, _ => Nat.le_refl _
 | i + 1, h => by
  rw [zgd n (by omega)];have h1 := zhd n L i (by omega);have h2 : zcL n L i / L[i].1 * (L[i].1 - 1) <= zcL n L i / L[i].1 * L[i].1 := Nat.mul_le_mul_left _ (by omega);have h3 := Nat.div_mul_le_self (zcL n L i) L[i].1;omega

theorem zaU (kp : Int) (kl : List Int) (_ : inR kp) (hkl : kl.length <= 1048576) : ∃ r0 r1 : Int, (∀ g0 : Option Nat, FnV 94 [vK kp g0 kl] (.tup [.int .i64 r0, .int .i64 r1])) ∧ (∀ g0 : Option Nat, FnV 93 [vK kp g0 kl] (.tup [.int .i64 r0, .int .i64 r1])) := by
 by_cases hk : IsFld kp kl
 case neg =>
  have hc : zo kp kl true 0 (fun _ => []) = 1 := by unfold zo; rw [zf hk]; rfl
  refine ⟨0, 1, fun g0 => ?_, fun g0 => ?_⟩
  ·refine zd (za [0, 1, 2, 3, 4, 5, 6, 9, 15, 21]) Tryz.func94 rfl (by decide) Tryz.ntmps94 (Nat.le_of_ble_eq_true rfl) fun base => ?_;refine wrs fun K hK => ?_;conv => whnf
   refine ⟨rfl, ?_⟩;conv => whnf
   intro b_1 hs_1 hh_1 hf_1;try dsimp only at hh_1 hf_1
   conv => whnf
   refine hK _ ?_;clear hK K;refine W.seqK fun K1 hK1 => ?_;refine wrs fun K hK => ?_;conv => whnf
   refine zb rfl ((zC kp g0 kl (by omega)).fa (zf hk)) fun hs' hhs => ?_;try dsimp only at hhs
   conv => whnf
   refine hK _ (W.condT rfl ?_);clear hK K;refine wrs fun K hK => ?_;conv => whnf
   refine hK _ ?_;clear hK K;refine W.ret ?_;conv => whnf
   exact ⟨.v (.int .i64 0), ⟨rfl, rfl⟩, trivial, .v (.int .i64 1), ⟨rfl, rfl⟩, trivial, rfl⟩
  ·refine zd (za [0, 1, 2, 3, 4, 5, 7, 11, 19, 20, 21, 22]) Tryz.func93 rfl (by decide) Tryz.ntmps93 (Nat.le_of_ble_eq_true rfl) fun base => ?_;refine wrs fun K hK => ?_;conv => whnf
   refine ⟨rfl, ?_⟩;conv => whnf
   intro b_1 hs_1 hh_1 hf_1;try dsimp only at hh_1 hf_1
   conv => whnf
   refine hK _ ?_;clear hK K;refine W.seqK fun K1 hK1 => ?_;refine wrs fun K hK => ?_;conv => whnf
   refine zb rfl (yt kp g0 none kl 0 _ (fun _ => []) (by omega) (by omega) (fun i hi => by omega)) fun hs' hhs => ?_;try dsimp only at hhs
   conv => whnf
   rw [hc];refine hK _ ?_;clear hK K;refine wrs fun K hK => ?_;conv => whnf
   refine hK _ (W.cond ⟨fun _ => ?_, fun hcc => absurd (by decide : (1 : Int) ≠ 0) (of_decide_eq_false hcc)⟩);clear hK K;refine wrs fun K hK => ?_;conv => whnf
   refine hK _ ?_;clear hK K;refine W.ret ?_;conv => whnf
   exact ⟨.v (.int .i64 0), ⟨rfl, rfl⟩, trivial, .v (.int .i64 1), ⟨rfl, rfl⟩, trivial, rfl⟩
 have hc : zo kp kl true 0 (fun _ => []) = 0 := by unfold zo; rw [zg hk, zg (fun i hi => by omega)]; rfl
 obtain ⟨hp, f, rfl, hi, _, _, hf9⟩ := xp hk;letI := yk hp;have hp1 := z7 hp;have hfl : f.l.length = dg f := rfl;obtain ⟨d, hd⟩ : ∃ d, dg f = d + 1 := ⟨dg f - 1, by have := hi.1; omega⟩
 obtain ⟨hq1, hq2, hq3⟩ := jr hk hd;have htot := zoC hp (k := d) (by have := hi.1; omega) hq2;generalize kp.toNat ^ d = q at hq1 hq2 hq3 htot;have hL := zbU (n := q - 1) (by omega);have hLl := xF hL.pr;rw [hL.prod] at hLl;generalize zlj (q - 1) = L at hL hLl htot;have hqi : ((q : Nat) : Int) - 1 = ((q - 1 : Nat) : Int) := by omega
 refine ⟨(kV (q - 1) (q - 1) : Nat), 0, fun g0 => ?_, fun g0 => ?_⟩
 ·refine zd (za [0, 1, 2, 3, 4, 5, 6, 9, 15, 21]) Tryz.func94 rfl (by decide) Tryz.ntmps94 (Nat.le_of_ble_eq_true rfl) fun base => ?_;refine wrs fun K hK => ?_;conv => whnf
  refine ⟨rfl, ?_⟩;conv => whnf
  intro b_1 hs_1 hh_1 hf_1;try dsimp only at hh_1 hf_1
  conv => whnf
  refine hK _ ?_;clear hK K;refine W.seqK fun K1 hK1 => ?_;refine wrs fun K hK => ?_;conv => whnf
  refine zb rfl ((zC kp g0 f.l (by omega)).tr (zg hk)) fun hs' hhs => ?_;try dsimp only at hhs
  conv => whnf
  refine hK _ (W.condF rfl (W.skip (hK1 _ ?_)));clear hK K hK1 K1;refine wrs fun K hK => ?_;conv => whnf
  refine zb rfl (zG kp g0 f.l hk) fun hs' hhs => ?_;try dsimp only at hhs
  conv => whnf
  rw [hq1];refine ⟨oo, ?_⟩;conv => whnf
  rw [hqi];refine hK _ ?_;clear hK K;refine wrs fun K hK => ?_;conv => whnf
  refine hK _ ?_;clear hK K;refine W.seqK fun K1 hK1 => ?_;refine wrs fun K hK => ?_;conv => whnf
  refine hK _ (W.block (W.invA (fun m e => ∃ k : Nat, k <= q - 1 ∧ m = q - 1 - k ∧ e = [(4, .v (.int .i64 (q - 1 : Nat))), (5, .v (.int .i64 (kV (q - 1) k : Nat))), (6, .v (.int .i64 ((k + 1 : Nat) : Int)))]) ⟨0, Nat.zero_le _, rfl, rfl⟩ ?_));clear hK K;rintro m e ⟨k, hk1, hm, rfl⟩;have hcl := zko (q - 1) k;refine W.seqK fun K7 hK7 => wrs fun K hK => ?_;conv => whnf
  refine hK _ (W.cond ⟨fun h => ?_, fun h => ?_⟩) <;> clear hK K <;> (first | replace h := of_decide_eq_true h | replace h := of_decide_eq_false h)
  ·refine W.skip (hK7 _ ?_);clear hK7 K7;refine W.seqK fun K8 hK8 => W.block ?_;refine wrs fun K hK => ?_;conv => whnf
   refine zb rfl (zgc (k + 1) (q - 1) (by omega) (by omega)) fun hs' hhs => ?_;try dsimp only at hhs
   conv => whnf
   refine hK _ (W.cond ⟨fun h2 => ?_, fun h2 => ?_⟩) <;> clear hK K
   ·have h2 := of_decide_eq_true h2;have e5 : kV (q - 1) (k + 1) = kV (q - 1) k + 1 := by rw [kV, if_pos (by omega)]
    refine wrg ?_;conv => whnf
    refine ⟨oo, ?_⟩;conv => whnf
    refine hK8 _ ?_;clear hK8 K8;refine wrg ?_;conv => whnf
    refine ⟨oo, ?_⟩;conv => whnf
    refine ⟨_, _, ⟨k + 1, by omega, rfl, rfl⟩, by omega, by dsimp only; omega, ?_⟩;rw [e5];exact cvr
   ·have h2 := of_decide_eq_false h2;have e5 : kV (q - 1) (k + 1) = kV (q - 1) k := by rw [kV, if_neg (by omega)]; rfl
    refine W.skip (hK8 _ ?_);clear hK8 K8;refine wrg ?_;conv => whnf
    refine ⟨oo, ?_⟩;conv => whnf
    refine ⟨_, _, ⟨k + 1, by omega, rfl, rfl⟩, by omega, by dsimp only; omega, ?_⟩;rw [e5];exact cvr
  ·obtain rfl : k = q - 1 := by omega
   refine W.exit (hK1 _ ?_);clear hK7 K7 hK1 K1;refine wrs fun K hK => ?_;conv => whnf
   refine hK _ ?_;clear hK K;refine W.ret ?_;conv => whnf
   exact ⟨.v (.int .i64 (kV (q - 1) (q - 1) : Nat)), ⟨rfl, rfl⟩, trivial, .v (.int .i64 0), ⟨rfl, rfl⟩, trivial, rfl⟩
 ·refine zd (za [0, 1, 2, 3, 4, 5, 7, 11, 19, 20, 21, 22]) Tryz.func93 rfl (by decide) Tryz.ntmps93 (Nat.le_of_ble_eq_true rfl) fun base => ?_;refine wrs fun K hK => ?_;conv => whnf
  refine ⟨rfl, ?_⟩;conv => whnf
  intro b_1 hs_1 hh_1 hf_1;try dsimp only at hh_1 hf_1
  conv => whnf
  refine hK _ ?_;clear hK K;refine W.seqK fun K1 hK1 => ?_;refine wrs fun K hK => ?_;conv => whnf
  refine zb rfl (yt kp g0 none f.l 0 _ (fun _ => []) (by omega) (by omega) (fun i hi => by omega)) fun hs' hhs => ?_;try dsimp only at hhs
  conv => whnf
  rw [hc];refine hK _ ?_;clear hK K;refine wrs fun K hK => ?_;conv => whnf
  refine hK _ (W.cond ⟨fun hcc => absurd rfl (of_decide_eq_true hcc), fun _ => W.skip (hK1 _ ?_)⟩);clear hK K hK1 K1;refine wrs fun K hK => ?_;conv => whnf
  refine zb rfl (y3 kp g0 f.l (by omega) (by omega) (by omega) (by omega)) fun hs' hhs => ?_;try dsimp only at hhs
  conv => whnf
  rw [hq1];refine ⟨oo, ?_⟩;conv => whnf
  rw [hqi];refine hK _ ?_;clear hK K;refine W.seqK fun K1 hK1 => ?_;refine wrs fun K hK => ?_;conv => whnf
  refine zb rfl (y3 kp g0 f.l (by omega) (by omega) (by omega) (by omega)) fun hs' hhs => ?_;try dsimp only at hhs
  conv => whnf
  rw [hq1];refine ⟨oo, ?_⟩;conv => whnf
  rw [hqi];refine zb rfl (ze6 (q - 1) L hL (by omega)) fun hs' hhs => ?_;try dsimp only at hhs
  conv => whnf
  refine hK _ (W.block (W.invA (fun m e => ∃ i : Nat, i <= L.length ∧ m = L.length - i ∧ e = [(5, .v (.int .i64 (zcL (q - 1) L i : Nat))), (19, .v (vPw L)), (20, .v (.int .i64 L.length)), (21, .v (.int .i64 i))]) ⟨0, Nat.zero_le _, rfl, rfl⟩ ?_));clear hK K;rintro m e ⟨i, hi1, hm, rfl⟩;have hle := zhd (q - 1) L i hi1;refine wrs fun K hK => ?_;conv => whnf
  refine hK _ ?_;clear hK K;refine W.seqK fun K7 hK7 => W.cond ⟨fun h => ?_, fun h => ?_⟩ <;> (first | replace h := of_decide_eq_true h | replace h := of_decide_eq_false h)
  ·have hi2 : i < L.length := by omega
   have hpr := hL.pr _ (List.getElem_mem hi2);have hxe : L.getD i (0, 0) = L[i] := by rw [List.getD_eq_getElem?_getD, List.getElem?_eq_getElem hi2]; rfl
   have hx1 : L[i].1 <= 1000000 := by
    have h3 := Nat.le_of_dvd (by omega) (hL.prod ▸ xb (List.getElem_mem hi2));have h4 : L[i].1 ^ 1 <= L[i].1 ^ L[i].2 := Nat.pow_le_pow_right (by have := hpr.1.1; omega) hpr.2;rw [Nat.pow_one] at h4; omega
   have hst := zgd (q - 1) hi2;have hle2 := zhd (q - 1) L (i + 1) hi2;generalize L[i] = x at hpr hxe hx1 hst;have hx2 := hpr.1.1;have hd1 := Nat.div_le_self (zcL (q - 1) L i) x.1;obtain ⟨v, hv⟩ : ∃ v, zcL (q - 1) L i / x.1 = v := ⟨_, rfl⟩
   rw [hv] at hd1 hst
   have e7 : ((v : Nat) : Int) * ((x.1 : Int) - 1) = ((zcL (q - 1) L (i + 1) : Nat) : Int) := by
    rw [hst, Int.natCast_mul]; congr 1; omega
   refine W.skip (hK7 _ ?_);clear hK7 K7;refine W.seqK fun K8 hK8 => W.block ?_;refine wrs fun K hK => ?_;conv => whnf
   refine ⟨oo, ?_⟩;conv => whnf
   rw [Int.toNat_natCast, hxe];intro b_7 hs_7 hh_7 hf_7;try dsimp only at hh_7 hf_7
   conv => whnf
   refine ⟨s23, ?_⟩;conv => whnf
   refine hK _ ?_;clear hK K;refine W.draw (za _) follows (by rfl) ?_;conv => whnf
   refine ⟨by omega, ?_⟩;conv => whnf
   rw [y4, hv];refine ⟨oo, ?_⟩;conv => whnf
   refine ⟨oo, ?_⟩;conv => whnf
   rw [e7];refine ⟨oo, ?_⟩;conv => whnf
   refine hK8 _ ?_;clear hK8 K8;refine wrg ?_;conv => whnf
   refine ⟨oo, ?_⟩;conv => whnf
   exact zi ⟨i + 1, by omega, rfl, rfl⟩
  ·obtain rfl : i = L.length := by omega
   have e7 : zcL (q - 1) L L.length = kV (q - 1) (q - 1) := by rw [<- htot]; unfold zcL zoz; rw [List.take_length]
   rw [e7];refine W.exit (hK1 _ ?_);clear hK7 K7 hK1 K1;refine wrs fun K hK => ?_;conv => whnf
   refine hK _ ?_;clear hK K;refine W.ret ?_;conv => whnf
   exact ⟨.v (.int .i64 (kV (q - 1) (q - 1) : Nat)), ⟨rfl, rfl⟩, trivial, .v (.int .i64 0), ⟨rfl, rfl⟩, trivial, rfl⟩


def sel (Q : Nat -> Bool) : Nat -> List Int
 | 0 => []
 | k + 1 => if Q (k + 1) = true then sel Q k ++ [((k + 1 : Nat) : Int)] else sel Q k
theorem zoH (Q : Nat -> Bool) (k : Nat) : (sel Q k).length <= (sel Q (k + 1)).length := by
 rw [sel]; split
 ·simp
 ·exact Nat.le_refl _
theorem zni (Q : Nat -> Bool) {a b : Nat} (h : a <= b) : (sel Q a).length <= (sel Q b).length := by
 induction h with
 | refl => exact Nat.le_refl _
 | step _ ih => exact Nat.le_trans ih (zoH Q _)
theorem zb2 (Q : Nat -> Bool) : ∀ k, (sel Q k).length <= k
 | 0 => Nat.le_refl _
 | k + 1 => by
  have := zb2 Q k;rw [sel]; split
  ·simp; omega
  ·omega
theorem ze9 {Q : Nat -> Bool} : ∀ k, (∀ i, 1 <= i -> i <= k -> Q i = false) -> sel Q k = []
 | 0, _ => rfl
 | k + 1, h => by rw [sel, h (k + 1) (by omega) (by omega), ze9 k fun i h1 h2 => h i h1 (by omega)]; rfl
def kY (l : List Int) : List Int := if 60 < l.length then [] else l
def zaV (l : List Int) : Int := if 60 < l.length then 3 else 0
theorem zn6 {l : List Int} (h : zaV l = 0) : kY l = l := by
 unfold zaV at h;unfold kY
 split at h
 ·exact absurd h (by decide)
 ·rename_i h1; exact if_neg h1
theorem ziJ (l : List Int) : (kY l).length <= 60 := by
 unfold kY
 split
 ·simp
 ·omega

theorem zfa (l : List Int) (_ : l.length <= 1000000000) : FnV 243 [.ints none l] (.tup [.ints none (kY l), .int .i64 (zaV l)]) := by
 refine zd (za [0, 2, 3, 6]) Tryz.func243 rfl (by decide) Tryz.ntmps243 (Nat.le_of_ble_eq_true rfl) fun base => ?_;refine wrs fun K hK => ?_;conv => whnf
 refine hK _ ?_;clear hK K;refine W.seqK fun K1 hK1 => ?_;refine wrs fun K hK => ?_;conv => whnf
 refine hK _ (W.cond ⟨fun h => ?_, fun h => ?_⟩) <;> clear hK K
 ·have h := of_decide_eq_true h;have e1 : kY l = [] := if_pos (by omega);have e2 : zaV l = 3 := if_pos (by omega);refine wrs fun K hK => ?_;conv => whnf
  refine hK _ ?_;clear hK K;refine W.ret ?_;conv => whnf
  exact ⟨.v (.ints none []), rfl, trivial, .v (.int .i64 3), ⟨rfl, rfl⟩, trivial, (by show AV.v (V.tup [V.ints none [], V.int .i64 3]) = AV.v (V.tup [V.ints none (kY l), V.int .i64 (zaV l)]); rw [e1, e2])⟩
 ·have h := of_decide_eq_false h;have e1 : kY l = l := if_neg (by omega);have e2 : zaV l = 0 := if_neg (by omega);refine W.skip (hK1 _ ?_);clear hK1 K1;refine wrs fun K hK => ?_;conv => whnf
  refine hK _ ?_;clear hK K;refine W.ret ?_;conv => whnf
  exact ⟨.v (.ints none l), ⟨rfl, rfl⟩, trivial, .v (.int .i64 0), ⟨rfl, rfl⟩, trivial, (by show AV.v (V.tup [V.ints none l, V.int .i64 0]) = AV.v (V.tup [V.ints none (kY l), V.int .i64 (zaV l)]); rw [e1, e2])⟩

theorem zb3 (p : Int) [SP p] (g : Option Nat) (f : Poly p) (hk : IsFld p f.l) (hi : Irr f) (d : Nat) (hd : dg f = d + 1) (cf' : Nat) (caps : List V) (Q : Nat -> Bool)
  (hQ : ∀ i, 1 <= i -> i < p.toNat ^ d -> FnV cf' ([.ints none (zr p i).l] ++ caps) (.bool (Q i))) :
  FnT Tryz.prog 240 [vK p g f.l, .func cf' caps] (RT (kY (sel Q (p.toNat ^ d - 1))) (zaV (sel Q (p.toNat ^ d - 1)))) := by
 have hp := Pr.two (p := p);have hp2 := SP.le (p := p);have h9 := hk.mod.2.1;have hl2 := hk.two;have hfl : f.l.length = dg f := rfl;obtain ⟨hq1, hq2, hq3⟩ := jr hk hd;have hnl : ∀ k : Nat, dig p.toNat k = (zr p k).l := fun k => (xU k).symm;generalize p.toNat ^ d = q at hq1 hq2 hq3 hQ;refine yD (zu [] [0, 1, 2, 4, 5, 6, 7, 11, 19, 26, 1000000]) Tryz.func240 rfl (by decide) Tryz.ntmps240 (Nat.le_of_ble_eq_true rfl) (fun base => ?_) (Nat.le_of_ble_eq_true rfl);refine W.sw (c' := cx [0, 1, 2, 4, 5, 6, 7, 11, 19, 26, 1000000]) ?_;refine wrs fun K hK => ?_;conv => whnf
 refine ⟨rfl, ?_⟩;conv => whnf
 intro b_2 hs_2 hh_2 hf_2;try dsimp only at hh_2 hf_2
 conv => whnf
 refine hK _ ?_;clear hK K;refine wrs fun K hK => ?_;conv => whnf
 refine hK _ ?_;clear hK K;refine W.seqK fun K1 hK1 => wrs fun K hK => ?_;conv => whnf
 refine hK _ (W.block (W.invA (fun m e => ∃ (k b : Nat) (o : List Int), k <= q - 1 ∧ o = sel Q k ∧ o.length <= 60 ∧ m = q - 1 - k ∧ e = [(vt, .tab fun _ => none), (1, .v (.func cf' caps)), (2, .ownB b_2 (vK p g f.l)), (6, .ownI 2 b o), (7, .v (.int .i64 ((k + 1 : Nat) : Int)))]) ⟨0, 0, [], Nat.zero_le _, rfl, by simp, rfl, rfl⟩ ?_));clear hK K;rintro m e ⟨k, b, o, hkq, rfl, hol, hm, rfl⟩;refine W.seqK fun K7 hK7 => ?_;refine wrs fun K hK => ?_;conv => whnf
 refine zb rfl (y3 p g f.l (by omega) (by omega) (by omega) (by omega)) fun hs' hhs => ?_;try dsimp only at hhs
 conv => whnf
 rw [hq1];refine hK _ (W.cond ⟨fun h => ?_, fun h => ?_⟩) <;> clear hK K
 ·have h := of_decide_eq_true h;have hQk := hQ (k + 1) (by omega) (by omega);refine W.skip (hK7 _ ?_);clear hK7 K7;refine W.seqK fun K8 hK8 => W.block ?_;refine W.seqK fun K9 hK9 => ?_
  have mid : ∀ (b' : Nat) (t : S), base <= t.hs -> zy t.env [(vt, .tab fun _ => none), (1, .v (.func cf' caps)), (2, .ownB b_2 (vK p g f.l)), (6, .ownI 2 b' (sel Q (k + 1))), (7, .v (.int .i64 ((k + 1 : Nat) : Int)))] -> K9 t := by
   intro b' t h7 h8;refine hK9 _ (W.weak (t := ⟨[(vt, .tab fun _ => none), (1, .v (.func cf' caps)), (2, .ownB b_2 (vK p g f.l)), (6, .ownI 2 b' (sel Q (k + 1))), (7, .v (.int .i64 ((k + 1 : Nat) : Int)))], base⟩) ⟨h7, h8⟩ (Nat.le_refl _) ?_);clear hK9 K9;refine wrs fun K hK => ?_;conv => whnf
   refine hK _ (W.cond ⟨fun h5 => ?_, fun h5 => ?_⟩) <;> clear hK K
   ·have h5 := of_decide_eq_true h5;have h6 := zni Q (a := k + 1) (b := q - 1) (by omega);have e8 : kY (sel Q (q - 1)) = [] := if_pos (by omega);have e9 : zaV (sel Q (q - 1)) = 3 := if_pos (by omega);refine wrs fun K hK => ?_;conv => whnf
    refine hK _ ?_;clear hK K;refine W.ret ?_;conv => whnf
    exact ⟨.v (.rf 0 0), rfl, trivial, .v (.int .i64 3), ⟨rfl, rfl⟩, trivial, by rw [e8, e9]; exact ⟨0, rfl, fun h => absurd rfl h⟩⟩
   ·have h5 := of_decide_eq_false h5;refine W.skip (hK8 _ ?_);clear hK8 K8;refine wrg ?_;conv => whnf
    refine ⟨oo, ?_⟩;conv => whnf
    exact zi ⟨k + 1, b', _, by omega, rfl, by omega, rfl, rfl⟩
  clear hK9;refine wrs fun K hK => ?_;conv => whnf
  refine zb rfl ((vY p (k + 1) (by omega) (by omega)).toV) fun hs' hhs => ?_;try dsimp only at hhs
  conv => whnf
  rw [hnl (k + 1)];refine zb rfl (hQk) fun hs' hhs => ?_;try dsimp only at hhs
  conv => whnf
  refine hK _ (W.cond ⟨fun h5 => ?_, fun h5 => ?_⟩) <;> clear hK K
  ·have e1 : sel Q (k + 1) = sel Q k ++ [((k + 1 : Nat) : Int)] := by rw [sel, if_pos h5]
   refine wrg ?_;conv => whnf
   refine ⟨⟨rfl, by decide⟩, ?_⟩;conv => whnf
   intro b_3 hs_3 hh_3 hf_3;try dsimp only at hh_3 hf_3
   conv => whnf
   refine ⟨by dsimp only [List.length]; omega, ?_⟩;conv => whnf
   intro b_4 hs_4 hh_4 hf_4;try dsimp only at hh_4 hf_4
   conv => whnf
   refine mid b_4 _ (by dsimp only; omega) ?_;rw [e1];exact cvr
  ·have e1 : sel Q (k + 1) = sel Q k := by rw [sel, if_neg (by rw [h5]; decide)]
   refine W.skip (mid b _ (by dsimp only; omega) ?_);rw [e1];exact cvr
 ·have h := of_decide_eq_false h;obtain rfl : k = q - 1 := by omega
  have e8 : kY (sel Q (q - 1)) = sel Q (q - 1) := if_neg (by omega);have e9 : zaV (sel Q (q - 1)) = 0 := if_neg (by omega);refine W.exit (hK1 _ ?_);clear hK7 K7 hK1 K1;refine W.sw (c' := cxt [] [0, 1, 2, 4, 5, 6, 7, 11, 19, 26, 1000000]) ?_;refine W.rs (zu _ _) (by rfl) fun K hK => ?_;conv => whnf
  refine hK _ ?_;clear hK K;refine W.ret ?_;conv => whnf
  exact ⟨.v (.rf b (sel Q (q - 1)).length), rfl, trivial, .v (.int .i64 0), ⟨rfl, rfl⟩, trivial, by rw [e8, e9]; exact ⟨b, rfl, fun h => vg _ _ h⟩⟩

noncomputable def zhe {p : Int} [SP p] (f : Poly p) (k : Nat) : Nat := @dite _ (∃ e, yh f (zr p k) e) (Classical.propDecidable _) (fun h => h.choose) fun _ => 0
theorem zn7 {p : Int} [SP p] {f : Poly p} {k : Nat} (h : ∃ e, yh f (zr p k) e) : yh f (zr p k) (zhe f k) := by
 unfold zhe;rw [dif_pos h];exact h.choose_spec

theorem zoI (p : Int) [SP p] (g g1 g2 : Option Nat) (f : Poly p) (hk : IsFld p f.l) (hi : Irr f) (X : Poly p) (hX0 : X ≠ 0) (hX : dg X < dg f) (n : Int) (e0 : Nat) (he : yh f X e0) : FnV 241 [.ints none X.l, .box g1 (vK p g f.l), .box g2 (.int .i64 n)] (.bool (decide ((e0 : Int) = n))) := by
 refine zd (za [0, 1, 2, 4]) Tryz.func241 rfl (by decide) Tryz.ntmps241 (Nat.le_of_ble_eq_true rfl) fun base => ?_;refine wrs fun K hK => ?_;conv => whnf
 refine hK _ ?_;clear hK K;refine W.rd (za _) follows (by rfl) fun K hK => ?_;conv => whnf
 refine ⟨_, cxF (ze7 p g none f X hk hi hX0 hX e0 he), ?_⟩;conv => whnf
 refine hK _ ?_;clear hK K;refine W.ret ?_;conv => whnf
 exact ⟨.v (.bool (decide ((e0 : Int) = n))), rfl, trivial, rfl⟩
theorem zoJ (p : Int) [SP p] (g g1 g2 g3 g4 : Option Nat) (f X Y : Poly p) (n : Nat) (hn : n <= 1000000000000) (hX : dg X <= 1000000) (hf : dg f <= 500) (hf0 : f ≠ 0) : FnV 244 [.ints none X.l, .box g1 (vK p g f.l), .box g2 (.int .i64 n), .box g3 (.ints g4 Y.l)] (.bool (decide ((rem (X ^ n) f).l = Y.l))) := by
 have := zN (X ^ n) hf0;refine zd (za [0, 1, 2, 3, 5]) Tryz.func244 rfl (by decide) Tryz.ntmps244 (Nat.le_of_ble_eq_true rfl) fun base => ?_;refine wrs fun K hK => ?_;conv => whnf
 refine hK _ ?_;clear hK K;refine W.rd (za _) follows (by rfl) fun K hK => ?_;conv => whnf
 refine ⟨_, cxF (zcH p g none f X n hn hX hf hf0), ?_⟩;conv => whnf
 refine ⟨_, cxF (znh none g4 (rem (X ^ n) f).l Y.l (by show dg _ <= _; omega)), ?_⟩;conv => whnf
 refine hK _ ?_;clear hK K;refine W.ret ?_;conv => whnf
 exact ⟨.v (.bool (decide ((rem (X ^ n) f).l = Y.l))), rfl, trivial, rfl⟩

theorem zaE (kp : Int) (kl : List Int) (n : Int) (_ : inR kp) (_ : inR n) (hkl : kl.length <= 1048576) : ∃ (r0 : List Int) (r1 : Int),
  (∀ g0 : Option Nat, FnV 97 [vK kp g0 kl, .int .i64 n] (.tup [.ints none r0, .int .i64 r1])) ∧ (∀ g0 : Option Nat, FnT Tryz.prog 96 [vK kp g0 kl, .int .i64 n] (RT r0 r1)) ∧ r0.length <= 1000000 := by
 by_cases hk : IsFld kp kl
 case neg =>
  have hc : zo kp kl (bP (IsFld kp kl ∧ 1 <= n ∧ n <= kp ^ (kl.length - 1) - 1)) 0 (fun _ => []) = 1 := by unfold zo; rw [zf hk]; rfl
  refine ⟨[], 1, fun g0 => ?_, fun g0 => ?_, by simp⟩
  ·refine zd (za [0, 1, 2, 4, 5, 6, 7, 10, 16, 29, 38]) Tryz.func97 rfl (by decide) Tryz.ntmps97 (Nat.le_of_ble_eq_true rfl) fun base => ?_;refine wrs fun K hK => ?_;conv => whnf
   refine ⟨rfl, ?_⟩;conv => whnf
   intro b_1 hs_1 hh_1 hf_1;try dsimp only at hh_1 hf_1
   conv => whnf
   refine hK _ ?_;clear hK K;refine W.seqK fun K1 hK1 => ?_;refine wrs fun K hK => ?_;conv => whnf
   refine zb rfl ((zC kp g0 kl (by omega)).fa (zf hk)) fun hs' hhs => ?_;try dsimp only at hhs
   conv => whnf
   refine hK _ (W.condT rfl ?_);clear hK K;refine wrs fun K hK => ?_;conv => whnf
   refine hK _ ?_;clear hK K;refine W.ret ?_;conv => whnf
   exact ⟨.v (.ints none []), rfl, trivial, .v (.int .i64 1), ⟨rfl, rfl⟩, trivial, rfl⟩
  ·refine yD (zu [] [0, 1, 2, 3, 4, 5, 6, 13, 1000000]) Tryz.func96 rfl (by decide) Tryz.ntmps96 (Nat.le_of_ble_eq_true rfl) (fun base => ?_) (Nat.le_of_ble_eq_true rfl);refine W.sw (c' := cx [0, 1, 2, 3, 4, 5, 6, 13, 1000000]) ?_;refine wrs fun K hK => ?_;conv => whnf
   refine ⟨rfl, ?_⟩;conv => whnf
   intro b_1 hs_1 hh_1 hf_1;try dsimp only at hh_1 hf_1
   conv => whnf
   refine ⟨rfl, ?_⟩;conv => whnf
   intro b_2 hs_2 hh_2 hf_2;try dsimp only at hh_2 hf_2
   conv => whnf
   refine hK _ ?_;clear hK K;refine W.seqK fun K1 hK1 => ?_;refine W.rd (za _) follows (by rfl) fun K hK => ?_;conv => whnf
   refine ⟨_, cxF (z4 kp n g0 kl (by omega)), ?_⟩;conv => whnf
   refine ⟨_, cxF (zB kp g0 none kl _ 0 _ (fun _ => []) (by omega) (by omega) (fun i hi => by omega)), ?_⟩;conv => whnf
   rw [hc];refine hK _ ?_;clear hK K;refine wrs fun K hK => ?_;conv => whnf
   refine hK _ (W.cond ⟨fun _ => ?_, fun hcc => absurd (by decide : (1 : Int) ≠ 0) (of_decide_eq_false hcc)⟩);clear hK K;refine wrs fun K hK => ?_;conv => whnf
   refine hK _ ?_;clear hK K;refine W.ret ?_;conv => whnf
   exact ⟨.v (.rf 0 0), rfl, trivial, .v (.int .i64 (1)), ⟨rfl, rfl⟩, trivial, 0, rfl, fun hne => absurd rfl hne⟩
 have hkk := hk;obtain ⟨hp, f, rfl, hi, _, _, hf9⟩ := xp hk;letI := yk hp;have hp1 := z7 hp;have hfl : f.l.length = dg f := rfl;obtain ⟨d, hd⟩ : ∃ d, dg f = d + 1 := ⟨dg f - 1, by have := hi.1; omega⟩
 obtain ⟨hq1, hq2, hq3⟩ := jr hk hd
 by_cases hr : 1 <= n ∧ n <= kp ^ (f.l.length - 1) - 1
 case neg =>
  have hc : zo kp f.l (bP (IsFld kp f.l ∧ 1 <= n ∧ n <= kp ^ (f.l.length - 1) - 1)) 0 (fun _ => []) = 2 := by unfold zo; rw [zg hk, zf fun h => hr h.2]; rfl
  refine ⟨[], 2, fun g0 => ?_, fun g0 => ?_, by simp⟩
  ·refine zd (za [0, 1, 2, 4, 5, 6, 7, 10, 16, 29, 38]) Tryz.func97 rfl (by decide) Tryz.ntmps97 (Nat.le_of_ble_eq_true rfl) fun base => ?_;refine wrs fun K hK => ?_;conv => whnf
   refine ⟨rfl, ?_⟩;conv => whnf
   intro b_1 hs_1 hh_1 hf_1;try dsimp only at hh_1 hf_1
   conv => whnf
   refine hK _ ?_;clear hK K;refine W.seqK fun K1 hK1 => ?_;refine wrs fun K hK => ?_;conv => whnf
   refine zb rfl ((zC kp g0 f.l (by omega)).tr (zg hkk)) fun hs' hhs => ?_;try dsimp only at hhs
   conv => whnf
   refine hK _ (W.condF rfl (W.skip (hK1 _ ?_)));clear hK K hK1 K1;refine W.seqK fun K1 hK1 => ?_;refine wrs fun K hK => ?_;conv => whnf
   refine zb rfl (zG kp g0 f.l hk) fun hs' hhs => ?_;try dsimp only at hhs
   conv => whnf
   refine ⟨oo, ?_⟩;conv => whnf
   refine zb rfl ((y2 n 1 (kp ^ (f.l.length - 1) - 1)).fa (decide_eq_false hr)) fun hs' hhs => ?_;try dsimp only at hhs
   conv => whnf
   refine hK _ (W.condT rfl ?_);clear hK K;refine wrs fun K hK => ?_;conv => whnf
   refine hK _ ?_;clear hK K;refine W.ret ?_;conv => whnf
   exact ⟨.v (.ints none []), rfl, trivial, .v (.int .i64 2), ⟨rfl, rfl⟩, trivial, rfl⟩
  ·refine yD (zu [] [0, 1, 2, 3, 4, 5, 6, 13, 1000000]) Tryz.func96 rfl (by decide) Tryz.ntmps96 (Nat.le_of_ble_eq_true rfl) (fun base => ?_) (Nat.le_of_ble_eq_true rfl);refine W.sw (c' := cx [0, 1, 2, 3, 4, 5, 6, 13, 1000000]) ?_;refine wrs fun K hK => ?_;conv => whnf
   refine ⟨rfl, ?_⟩;conv => whnf
   intro b_1 hs_1 hh_1 hf_1;try dsimp only at hh_1 hf_1
   conv => whnf
   refine ⟨rfl, ?_⟩;conv => whnf
   intro b_2 hs_2 hh_2 hf_2;try dsimp only at hh_2 hf_2
   conv => whnf
   refine hK _ ?_;clear hK K;refine W.seqK fun K1 hK1 => ?_;refine W.rd (za _) follows (by rfl) fun K hK => ?_;conv => whnf
   refine ⟨_, cxF (z4 kp n g0 f.l (by omega)), ?_⟩;conv => whnf
   refine ⟨_, cxF (zB kp g0 none f.l _ 0 _ (fun _ => []) (by omega) (by omega) (fun i hi => by omega)), ?_⟩;conv => whnf
   rw [hc];refine hK _ ?_;clear hK K;refine wrs fun K hK => ?_;conv => whnf
   refine hK _ (W.cond ⟨fun _ => ?_, fun hcc => absurd (by decide : (2 : Int) ≠ 0) (of_decide_eq_false hcc)⟩);clear hK K;refine wrs fun K hK => ?_;conv => whnf
   refine hK _ ?_;clear hK K;refine W.ret ?_;conv => whnf
   exact ⟨.v (.rf 0 0), rfl, trivial, .v (.int .i64 (2)), ⟨rfl, rfl⟩, trivial, 0, rfl, fun hne => absurd rfl hne⟩
 have hc : zo kp f.l (bP (IsFld kp f.l ∧ 1 <= n ∧ n <= kp ^ (f.l.length - 1) - 1)) 0 (fun _ => []) = 0 := by unfold zo; rw [zg hk, zg ⟨hk, hr⟩, zg (fun i hi => by omega)]; rfl
 have hrr := hr;rw [hq1] at hr;have hpd : ∀ {k : Nat}, k < kp.toNat ^ d -> dg (zr kp k) < dg f := fun {k} h => by have := jn (p := kp) h; omega
 have hnl : ∀ k : Nat, dig kp.toNat k = (zr kp k).l := fun k => (xU k).symm;have hfm : ∀ {X : Poly kp}, X ≠ 0 -> dg X < dg f -> One f X (kp.toNat ^ d - 1) := fun h h' => zaw hi (z8 h h') hd;have hord : ∀ i, 1 <= i -> i < kp.toNat ^ d -> yh f (zr kp i) (zhe f i) := fun i h1 h2 => zn7 (vT _ (by omega) (hfm (xV (by omega)) (hpd h2)));have hdiv : ∀ i, 1 <= i -> i < kp.toNat ^ d -> zhe f i ∣ kp.toNat ^ d - 1 := fun i h1 h2 => (hord i h1 h2).2.2 _ (hfm (xV (by omega)) (hpd h2));generalize hqe : kp.toNat ^ d = q at hq1 hq2 hq3 hr hpd hfm hord hdiv;obtain ⟨n, rfl⟩ : ∃ k : Nat, n = k := ⟨n.toNat, by omega⟩
 obtain ⟨Q, hQ⟩ : ∃ Q : Nat -> Bool, Q = fun i => decide (((zhe f i : Nat) : Int) = ((n : Nat) : Int)) := ⟨_, rfl⟩
 have hsl := ziJ (sel Q (q - 1));have hsl2 := zb2 Q (q - 1);have hqi : ((q : Nat) : Int) - 1 = ((q - 1 : Nat) : Int) := by omega
 have hmod : (((q : Nat) : Int) - 1).tmod n = (((q - 1) % n : Nat) : Int) := by rw [hqi]; exact vE (q - 1) n
 refine ⟨kY (sel Q (q - 1)), zaV (sel Q (q - 1)), fun g0 => ?_, fun g0 => ?_, by omega⟩
 ·refine zd (za [0, 1, 2, 4, 5, 6, 7, 10, 16, 29, 38]) Tryz.func97 rfl (by decide) Tryz.ntmps97 (Nat.le_of_ble_eq_true rfl) fun base => ?_;refine wrs fun K hK => ?_;conv => whnf
  refine ⟨rfl, ?_⟩;conv => whnf
  intro b_1 hs_1 hh_1 hf_1;try dsimp only at hh_1 hf_1
  conv => whnf
  refine hK _ ?_;clear hK K;refine W.seqK fun K1 hK1 => ?_;refine wrs fun K hK => ?_;conv => whnf
  refine zb rfl ((zC kp g0 f.l (by omega)).tr (zg hkk)) fun hs' hhs => ?_;try dsimp only at hhs
  conv => whnf
  refine hK _ (W.condF rfl (W.skip (hK1 _ ?_)));clear hK K hK1 K1;refine W.seqK fun K1 hK1 => ?_;refine wrs fun K hK => ?_;conv => whnf
  refine zb rfl (zG kp g0 f.l hk) fun hs' hhs => ?_;try dsimp only at hhs
  conv => whnf
  refine ⟨oo, ?_⟩;conv => whnf
  refine zb rfl ((y2 n 1 (kp ^ (f.l.length - 1) - 1)).tr (decide_eq_true hrr)) fun hs' hhs => ?_;try dsimp only at hhs
  conv => whnf
  refine hK _ (W.condF rfl (W.skip (hK1 _ ?_)));clear hK K hK1 K1;refine wrs fun K hK => ?_;conv => whnf
  refine ⟨⟨rfl, by decide⟩, ?_⟩;conv => whnf
  intro b_3 hs_3 hh_3 hf_3;try dsimp only at hh_3 hf_3
  conv => whnf
  refine hK _ ?_;clear hK K;refine W.seqK fun K1 hK1 => wrs fun K hK => ?_;conv => whnf
  refine hK _ (W.block (W.invA (fun m e => ∃ (k b : Nat) (o : List Int), k <= q - 1 ∧ o = sel Q k ∧ m = q - 1 - k ∧ e = [(1, .v (.int .i64 n)), (2, .ownB b_1 (vK kp g0 f.l)), (6, .ownI 2 b o), (7, .v (.int .i64 ((k + 1 : Nat) : Int)))]) ⟨0, b_3, [], Nat.zero_le _, rfl, rfl, rfl⟩ ?_));clear hK K;rintro m e ⟨k, b, o, hkq, rfl, hm, rfl⟩;have hskl := zb2 Q k
  have hdone : (k = q - 1 ∨ (q - 1) % n ≠ 0) -> sel Q k = sel Q (q - 1) := fun h => by
   rcases h with h | h
   ·rw [h]
   ·have hno : ∀ i, 1 <= i -> i <= q - 1 -> Q i = false := fun i h1 h2 => by
     rw [hQ];refine decide_eq_false fun e => h ?_;have h3 := hdiv i h1 (by omega);rw [show zhe f i = n by omega] at h3;exact Nat.mod_eq_zero_of_dvd h3
    rw [ze9 k fun i h1 h2 => hno i h1 (by omega), ze9 (q - 1) hno]
  have fin : (sel Q k = sel Q (q - 1)) -> ∀ t : S, base <= t.hs -> zy t.env [(6, .ownI 2 b (sel Q k))] -> K1 t := by
   intro h3 t h7 h8;refine hK1 _ (W.weak (t := ⟨[(6, .ownI 2 b (sel Q k))], base⟩) ⟨h7, h8⟩ (Nat.le_refl _) ?_);refine W.weak (t := ⟨[(6, .v (.ints none (sel Q k)))], base⟩) ⟨by dsimp only; omega, by repeat' first | refine And.intro ?_ ?_ | exact trivial | rfl | exact .inl rfl⟩ (Nat.le_refl _) ?_;clear hK1 K1;rw [h3];refine wrs fun K hK => ?_;conv => whnf
   refine zb rfl (zfa (sel Q (q - 1)) (by omega)) fun hs' hhs => ?_;try dsimp only at hhs
   conv => whnf
   refine hK _ ?_;clear hK K;refine W.ret ?_;conv => whnf
   exact ⟨.v (.ints none (kY (sel Q (q - 1)))), ⟨rfl, rfl⟩, trivial, .v (.int .i64 (zaV (sel Q (q - 1)))), ⟨rfl, rfl⟩, trivial, rfl⟩
  refine W.seqK fun K7 hK7 => ?_;refine wrs fun K hK => ?_;conv => whnf
  refine zb rfl (zG kp g0 f.l hk) fun hs' hhs => ?_;try dsimp only at hhs
  conv => whnf
  rw [hq1];refine ⟨fun h => ?_, fun h => ?_⟩ <;> conv => whnf
  ·have h := of_decide_eq_true h;have hok := hord (k + 1) (by omega) (by omega);refine zb rfl (zG kp g0 f.l hk) fun hs' hhs => ?_;try dsimp only at hhs
   conv => whnf
   rw [hq1];refine ⟨oo, ?_⟩;conv => whnf
   refine ⟨by omega, ?_⟩;conv => whnf
   rw [hmod];refine hK _ (W.cond ⟨fun h4 => ?_, fun h4 => ?_⟩) <;> clear hK K
   ·have eQ : Q (k + 1) = decide (((zhe f (k + 1) : Nat) : Int) = ((n : Nat) : Int)) := by rw [hQ]
    clear fin;refine W.skip (hK7 _ ?_);clear hK7 K7;refine W.seqK fun K8 hK8 => W.block ?_;refine W.rd (za _) follows (by rfl) fun K hK => ?_;conv => whnf
    refine ⟨_, cxF (yK kp g0 f.l (k + 1) (by omega) (by omega)), ?_⟩;conv => whnf
    rw [hnl (k + 1)];refine ⟨_, cxF (xB kp g0 none f (zr kp (k + 1)) hk hi (xV (by omega)) (hpd (by omega)) (zhe f (k + 1)) hok), ?_⟩;conv => whnf
    rw [<- eQ];refine hK _ (W.cond ⟨fun h5 => ?_, fun h5 => ?_⟩) <;> clear hK K
    ·have e1 : sel Q (k + 1) = sel Q k ++ [((k + 1 : Nat) : Int)] := by rw [sel, if_pos h5]
     refine wrg ?_;conv => whnf
     refine ⟨⟨rfl, by decide⟩, ?_⟩;conv => whnf
     intro b_4 hs_4 hh_4 hf_4;try dsimp only at hh_4 hf_4
     conv => whnf
     refine ⟨by dsimp only [List.length]; omega, ?_⟩;conv => whnf
     intro b_5 hs_5 hh_5 hf_5;try dsimp only at hh_5 hf_5
     conv => whnf
     refine hK8 _ ?_;clear hK8 K8;refine wrg ?_;conv => whnf
     refine ⟨oo, ?_⟩;conv => whnf
     exact zi ⟨k + 1, b_5, _, by omega, e1.symm, rfl, rfl⟩
    ·have e1 : sel Q (k + 1) = sel Q k := by rw [sel, if_neg (by rw [h5]; decide)]
     refine W.skip (hK8 _ ?_);clear hK8 K8;refine wrg ?_;conv => whnf
     refine ⟨oo, ?_⟩;conv => whnf
     exact zi ⟨k + 1, b, _, by omega, e1.symm, rfl, rfl⟩
   ·have h4 := of_decide_eq_false h4;refine W.exit (fin (hdone (.inr fun e => h4 (by rw [e]; rfl))) _ (by dsimp only; omega) ?_);exact cvr
  ·have h := of_decide_eq_false h;refine hK _ (W.condF rfl (W.exit (fin (hdone (.inl (by omega))) _ (by dsimp only; omega) ?_)));exact cvr
 ·have hT := zb3 kp g0 f hk hi d hd 241 [.box none (vK kp g0 f.l), .box none (.int .i64 (n : Nat))] Q (fun i h1 h2 => by
   rw [hqe] at h2;rw [hQ];exact zoI kp g0 none none f hk hi (zr kp i) (xV (by omega)) (hpd h2) n (zhe f i) (hord i h1 h2))
  rw [hqe] at hT;refine yD (zu [] [0, 1, 2, 3, 4, 5, 6, 13, 1000000]) Tryz.func96 rfl (by decide) Tryz.ntmps96 (Nat.le_of_ble_eq_true rfl) (fun base => ?_) (Nat.le_of_ble_eq_true rfl);refine W.sw (c' := cx [0, 1, 2, 3, 4, 5, 6, 13, 1000000]) ?_;refine wrs fun K hK => ?_;conv => whnf
  refine ⟨rfl, ?_⟩;conv => whnf
  intro b_1 hs_1 hh_1 hf_1;try dsimp only at hh_1 hf_1
  conv => whnf
  refine ⟨rfl, ?_⟩;conv => whnf
  intro b_2 hs_2 hh_2 hf_2;try dsimp only at hh_2 hf_2
  conv => whnf
  refine hK _ ?_;clear hK K;refine W.seqK fun K1 hK1 => ?_;refine W.rd (za _) follows (by rfl) fun K hK => ?_;conv => whnf
  refine ⟨_, cxF (z4 kp n g0 f.l (by omega)), ?_⟩;conv => whnf
  refine ⟨_, cxF (zB kp g0 none f.l _ 0 _ (fun _ => []) (by omega) (by omega) (fun i hi => by omega)), ?_⟩;conv => whnf
  rw [hc];refine hK _ ?_;clear hK K;refine wrs fun K hK => ?_;conv => whnf
  refine hK _ (W.cond ⟨fun hcc => absurd rfl (of_decide_eq_true hcc), fun _ => W.skip (hK1 _ ?_)⟩);clear hK K hK1 K1;refine W.sw (c' := cxt [240] [0, 1, 2, 3, 4, 5, 6, 13, 1000000]) ?_;refine W.rs (zu _ _) (by rfl) fun K hK => ?_;conv => whnf
  refine ⟨_, cxT (hT), fun lo_t hi_t hs_t x_t tn_t tb_t hl1_t hl2_t _ hp_t hf_t hn_t ho_t => ?_⟩;try dsimp only at hl1_t hl2_t
  obtain ⟨bt, rfl, ht⟩ := hp_t;conv => whnf
  refine hK _ ?_;clear hK K;refine W.ret ?_;conv => whnf
  exact ⟨.v (.rf bt (kY (sel Q (q - 1))).length), rfl, trivial, .v (.int .i64 (zaV (sel Q (q - 1)))), ⟨rfl, rfl⟩, trivial, bt, rfl, fun h => hn_t _ _ (ht h)⟩

theorem zcM (kp : Int) (kl x : List Int) (n : Int) (_ : inR kp) (_ : inR n) (hkl : kl.length <= 1048576) (hx : x.length <= 1048576) : ∃ (r0 : List Int) (r1 : Int),
  (∀ g0 g1 : Option Nat, FnV 100 [vK kp g0 kl, .ints g1 x, .int .i64 n] (.tup [.ints none r0, .int .i64 r1])) ∧ (∀ g0 g1 : Option Nat, FnT Tryz.prog 99 [vK kp g0 kl, .ints g1 x, .int .i64 n] (RT r0 r1)) ∧ r0.length <= 1000000 ∧ (r1 = 0 -> ∃ hp : kp ∈ zO, letI := yk hp; ∃ (f X : Poly kp) (d m : Nat), f.l = kl ∧ X.l = x ∧ IsFld kp kl ∧ dg X < dg f ∧ X ≠ 0 ∧ dg f = d + 1 ∧ n = m ∧ 1 <= m ∧ m <= kp.toNat ^ d - 1 ∧ r0 = sel (fun i => decide ((rem (zr kp i ^ m) f).l = X.l)) (kp.toNat ^ d - 1)) := by
 generalize hc : xG kp kl x = c
 by_cases h0 : c = 0
 case neg =>
  have e9 : zV kp kl x n = c := by unfold zV; rw [hc, if_neg h0]
  refine ⟨[], c, fun g0 g1 => ?_, fun g0 g1 => ?_, by simp, fun h => absurd h h0⟩
  ·refine zd (za [0, 1, 2, 3, 6, 7, 8, 9, 10, 16, 22, 32]) Tryz.func100 rfl (by decide) Tryz.ntmps100 (Nat.le_of_ble_eq_true rfl) fun base => ?_;refine wrs fun K hK => ?_;conv => whnf
   refine ⟨rfl, ?_⟩;conv => whnf
   intro b_1 hs_1 hh_1 hf_1;try dsimp only at hh_1 hf_1
   conv => whnf
   refine hK _ ?_;clear hK K;refine wrs fun K hK => ?_;conv => whnf
   refine zb rfl (y5 kp n g0 g1 kl x (by omega) (by omega)) fun hs' hhs => ?_;try dsimp only at hhs
   conv => whnf
   rw [e9];refine hK _ ?_;clear hK K;refine W.seqK fun K1 hK1 => ?_;refine wrs fun K hK => ?_;conv => whnf
   refine hK _ (W.cond ⟨fun _ => ?_, fun hcc => absurd h0 (of_decide_eq_false hcc)⟩);clear hK K;refine wrs fun K hK => ?_;conv => whnf
   refine hK _ ?_;clear hK K;refine W.ret ?_;conv => whnf
   exact ⟨.v (.ints none []), rfl, trivial, .v (.int .i64 c), ⟨rfl, rfl⟩, trivial, rfl⟩
  ·refine yD (zu [] [0, 1, 2, 3, 4, 5, 6, 7, 8, 17, 21, 1000000]) Tryz.func99 rfl (by decide) Tryz.ntmps99 (Nat.le_of_ble_eq_true rfl) (fun base => ?_) (Nat.le_of_ble_eq_true rfl);refine W.sw (c' := cx [0, 1, 2, 3, 4, 5, 6, 7, 8, 17, 21, 1000000]) ?_;refine wrs fun K hK => ?_;conv => whnf
   refine ⟨rfl, ?_⟩;conv => whnf
   intro b_1 hs_1 hh_1 hf_1;try dsimp only at hh_1 hf_1
   conv => whnf
   refine ⟨rfl, ?_⟩;conv => whnf
   intro b_2 hs_2 hh_2 hf_2;try dsimp only at hh_2 hf_2
   conv => whnf
   refine ⟨rfl, ?_⟩;conv => whnf
   intro b_3 hs_3 hh_3 hf_3;try dsimp only at hh_3 hf_3
   conv => whnf
   refine hK _ ?_;clear hK K;refine W.seqK fun K1 hK1 => ?_;refine W.rd (za _) follows (by rfl) fun K hK => ?_;conv => whnf
   refine ⟨_, cxF (z4 kp n g0 kl (by omega)), ?_⟩;conv => whnf
   refine ⟨⟨rfl, by decide, fun x hx => (by simp at hx; subst hx; exact ⟨rfl, rfl⟩)⟩, ?_⟩;conv => whnf
   refine ⟨_, cxF (zB kp g0 none kl _ 1 _ (fun _ => x) (by omega) (by omega) (zcG g1 x)), ?_⟩;conv => whnf
   rw [zcI hc h0];refine hK _ ?_;clear hK K;refine wrs fun K hK => ?_;conv => whnf
   refine hK _ (W.cond ⟨fun _ => ?_, fun hcc => absurd h0 (of_decide_eq_false hcc)⟩);clear hK K;refine wrs fun K hK => ?_;conv => whnf
   refine hK _ ?_;clear hK K;refine W.ret ?_;conv => whnf
   exact ⟨.v (.rf 0 0), rfl, trivial, .v (.int .i64 (c)), ⟨rfl, rfl⟩, trivial, 0, rfl, fun hne => absurd rfl hne⟩
 subst h0
 by_cases hr : 1 <= n ∧ n <= kp ^ (kl.length - 1) - 1
 case neg =>
  have e9 : zV kp kl x n = 2 := by unfold zV; rw [hc, if_pos rfl, if_neg hr]
  refine ⟨[], 2, fun g0 g1 => ?_, fun g0 g1 => ?_, by simp, fun h => absurd h (by decide)⟩
  ·refine zd (za [0, 1, 2, 3, 6, 7, 8, 9, 10, 16, 22, 32]) Tryz.func100 rfl (by decide) Tryz.ntmps100 (Nat.le_of_ble_eq_true rfl) fun base => ?_;refine wrs fun K hK => ?_;conv => whnf
   refine ⟨rfl, ?_⟩;conv => whnf
   intro b_1 hs_1 hh_1 hf_1;try dsimp only at hh_1 hf_1
   conv => whnf
   refine hK _ ?_;clear hK K;refine wrs fun K hK => ?_;conv => whnf
   refine zb rfl (y5 kp n g0 g1 kl x (by omega) (by omega)) fun hs' hhs => ?_;try dsimp only at hhs
   conv => whnf
   rw [e9];refine hK _ ?_;clear hK K;refine W.seqK fun K1 hK1 => ?_;refine wrs fun K hK => ?_;conv => whnf
   refine hK _ (W.cond ⟨fun _ => ?_, fun hcc => absurd (by decide : (2 : Int) ≠ 0) (of_decide_eq_false hcc)⟩);clear hK K;refine wrs fun K hK => ?_;conv => whnf
   refine hK _ ?_;clear hK K;refine W.ret ?_;conv => whnf
   exact ⟨.v (.ints none []), rfl, trivial, .v (.int .i64 2), ⟨rfl, rfl⟩, trivial, rfl⟩
  ·refine yD (zu [] [0, 1, 2, 3, 4, 5, 6, 7, 8, 17, 21, 1000000]) Tryz.func99 rfl (by decide) Tryz.ntmps99 (Nat.le_of_ble_eq_true rfl) (fun base => ?_) (Nat.le_of_ble_eq_true rfl);refine W.sw (c' := cx [0, 1, 2, 3, 4, 5, 6, 7, 8, 17, 21, 1000000]) ?_;refine wrs fun K hK => ?_;conv => whnf
   refine ⟨rfl, ?_⟩;conv => whnf
   intro b_1 hs_1 hh_1 hf_1;try dsimp only at hh_1 hf_1
   conv => whnf
   refine ⟨rfl, ?_⟩;conv => whnf
   intro b_2 hs_2 hh_2 hf_2;try dsimp only at hh_2 hf_2
   conv => whnf
   refine ⟨rfl, ?_⟩;conv => whnf
   intro b_3 hs_3 hh_3 hf_3;try dsimp only at hh_3 hf_3
   conv => whnf
   refine hK _ ?_;clear hK K;refine W.seqK fun K1 hK1 => ?_;refine W.rd (za _) follows (by rfl) fun K hK => ?_;conv => whnf
   refine ⟨_, cxF (z4 kp n g0 kl (by omega)), ?_⟩;conv => whnf
   refine ⟨⟨rfl, by decide, fun x hx => (by simp at hx; subst hx; exact ⟨rfl, rfl⟩)⟩, ?_⟩;conv => whnf
   refine ⟨_, cxF (zB kp g0 none kl _ 1 _ (fun _ => x) (by omega) (by omega) (zcG g1 x)), ?_⟩;conv => whnf
   rw [zcJ hc (zf fun h => hr h.2)];refine hK _ ?_;clear hK K;refine wrs fun K hK => ?_;conv => whnf
   refine hK _ (W.cond ⟨fun _ => ?_, fun hcc => absurd (by decide : (2 : Int) ≠ 0) (of_decide_eq_false hcc)⟩);clear hK K;refine wrs fun K hK => ?_;conv => whnf
   refine hK _ ?_;clear hK K;refine W.ret ?_;conv => whnf
   exact ⟨.v (.rf 0 0), rfl, trivial, .v (.int .i64 (2)), ⟨rfl, rfl⟩, trivial, 0, rfl, fun hne => absurd rfl hne⟩
 have e8 : zV kp kl x n = if x = [] then 5 else 0 := by unfold zV; rw [hc, if_pos rfl, if_pos hr]
 obtain ⟨hk, hh⟩ := kf hc;obtain ⟨hp, f, rfl, hfi, _, _, hf9⟩ := xp hk;letI := yk hp;obtain ⟨X, rfl⟩ := zaC hh.1;have hxl : X.l.length < f.l.length := hh.2;have hfl : f.l.length = dg f := rfl;have hXl : X.l.length = dg X := rfl;have hf0 := hfi.ne;have hp1 := z7 hp
 by_cases hX0 : X = 0
 case pos =>
  have hX1 : dg X = 0 := ze.2 hX0;have e9 : zV kp f.l X.l n = 5 := by rw [e8, if_pos (List.eq_nil_of_length_eq_zero (by omega))]
  refine ⟨[], 5, fun g0 g1 => ?_, fun g0 g1 => ?_, by simp, fun h => absurd h (by decide)⟩
  ·refine zd (za [0, 1, 2, 3, 6, 7, 8, 9, 10, 16, 22, 32]) Tryz.func100 rfl (by decide) Tryz.ntmps100 (Nat.le_of_ble_eq_true rfl) fun base => ?_;refine wrs fun K hK => ?_;conv => whnf
   refine ⟨rfl, ?_⟩;conv => whnf
   intro b_1 hs_1 hh_1 hf_1;try dsimp only at hh_1 hf_1
   conv => whnf
   refine hK _ ?_;clear hK K;refine wrs fun K hK => ?_;conv => whnf
   refine zb rfl (y5 kp n g0 g1 f.l X.l (by omega) (by omega)) fun hs' hhs => ?_;try dsimp only at hhs
   conv => whnf
   rw [e9];refine hK _ ?_;clear hK K;refine W.seqK fun K1 hK1 => ?_;refine wrs fun K hK => ?_;conv => whnf
   refine hK _ (W.cond ⟨fun _ => ?_, fun hcc => absurd (by decide : (5 : Int) ≠ 0) (of_decide_eq_false hcc)⟩);clear hK K;refine wrs fun K hK => ?_;conv => whnf
   refine hK _ ?_;clear hK K;refine W.ret ?_;conv => whnf
   exact ⟨.v (.ints none []), rfl, trivial, .v (.int .i64 5), ⟨rfl, rfl⟩, trivial, rfl⟩
  ·refine yD (zu [] [0, 1, 2, 3, 4, 5, 6, 7, 8, 17, 21, 1000000]) Tryz.func99 rfl (by decide) Tryz.ntmps99 (Nat.le_of_ble_eq_true rfl) (fun base => ?_) (Nat.le_of_ble_eq_true rfl);refine W.sw (c' := cx [0, 1, 2, 3, 4, 5, 6, 7, 8, 17, 21, 1000000]) ?_;refine wrs fun K hK => ?_;conv => whnf
   refine ⟨rfl, ?_⟩;conv => whnf
   intro b_1 hs_1 hh_1 hf_1;try dsimp only at hh_1 hf_1
   conv => whnf
   refine ⟨rfl, ?_⟩;conv => whnf
   intro b_2 hs_2 hh_2 hf_2;try dsimp only at hh_2 hf_2
   conv => whnf
   refine ⟨rfl, ?_⟩;conv => whnf
   intro b_3 hs_3 hh_3 hf_3;try dsimp only at hh_3 hf_3
   conv => whnf
   refine hK _ ?_;clear hK K;refine W.seqK fun K1 hK1 => ?_;refine W.rd (za _) follows (by rfl) fun K hK => ?_;conv => whnf
   refine ⟨_, cxF (z4 kp n g0 f.l (by omega)), ?_⟩;conv => whnf
   refine ⟨⟨rfl, by decide, fun x hx => (by simp at hx; subst hx; exact ⟨rfl, rfl⟩)⟩, ?_⟩;conv => whnf
   refine ⟨_, cxF (zB kp g0 none f.l _ 1 _ (fun _ => X.l) (by omega) (by omega) (zcG g1 X.l)), ?_⟩;conv => whnf
   rw [zaD hc (zg ⟨hk, hr⟩)];refine hK _ ?_;clear hK K;refine wrs fun K hK => ?_;conv => whnf
   refine hK _ (W.cond ⟨fun hcc => absurd rfl (of_decide_eq_true hcc), fun _ => W.skip (hK1 _ ?_)⟩);clear hK K hK1 K1;refine W.seqK fun K1 hK1 => ?_;refine wrs fun K hK => ?_;conv => whnf
   refine hK _ (W.cond ⟨fun _ => ?_, fun h4 => absurd (of_decide_eq_false h4) (by omega)⟩);clear hK K;refine wrs fun K hK => ?_;conv => whnf
   refine hK _ ?_;clear hK K;refine W.ret ?_;conv => whnf
   exact ⟨.v (.rf 0 0), rfl, trivial, .v (.int .i64 (5)), ⟨rfl, rfl⟩, trivial, 0, rfl, fun hne => absurd rfl hne⟩
 have hX1 : dg X ≠ 0 := fun e => hX0 (ze.1 e);have e9 : zV kp f.l X.l n = 0 := by rw [e8, if_neg fun e => hX1 (by rw [<- hXl, e]; rfl)]
 obtain ⟨d, hd⟩ : ∃ d, dg f = d + 1 := ⟨dg f - 1, by have := hfi.1; omega⟩
 obtain ⟨hq1, hq2, hq3⟩ := jr hk hd;have hrr := hr;rw [hq1] at hr;have hpd : ∀ {k : Nat}, k < kp.toNat ^ d -> dg (zr kp k) < dg f := fun {k} h => by have := jn (p := kp) h; omega
 have hnl : ∀ k : Nat, dig kp.toNat k = (zr kp k).l := fun k => (xU k).symm;generalize hqe : kp.toNat ^ d = q at hq1 hq2 hq3 hr hpd;obtain ⟨n, rfl⟩ : ∃ k : Nat, n = k := ⟨n.toNat, by omega⟩
 obtain ⟨Q, hQ⟩ : ∃ Q : Nat -> Bool, Q = fun i => decide ((rem (zr kp i ^ n) f).l = X.l) := ⟨_, rfl⟩
 have hsl := ziJ (sel Q (q - 1));have hsl2 := zb2 Q (q - 1);refine ⟨kY (sel Q (q - 1)), zaV (sel Q (q - 1)), fun g0 g1 => ?_, fun g0 g1 => ?_, by omega, fun hfc => ⟨hp, f, X, d, n, rfl, rfl, hk, hxl, hX0, hd, rfl, by omega, by rw [hqe]; omega, by rw [hqe, zn6 hfc, hQ]⟩⟩
 ·refine zd (za [0, 1, 2, 3, 6, 7, 8, 9, 10, 16, 22, 32]) Tryz.func100 rfl (by decide) Tryz.ntmps100 (Nat.le_of_ble_eq_true rfl) fun base => ?_;refine wrs fun K hK => ?_;conv => whnf
  refine ⟨rfl, ?_⟩;conv => whnf
  intro b_1 hs_1 hh_1 hf_1;try dsimp only at hh_1 hf_1
  conv => whnf
  refine hK _ ?_;clear hK K;refine wrs fun K hK => ?_;conv => whnf
  refine zb rfl (y5 kp n g0 g1 f.l X.l (by omega) (by omega)) fun hs' hhs => ?_;try dsimp only at hhs
  conv => whnf
  rw [e9];refine hK _ ?_;clear hK K;refine W.seqK fun K1 hK1 => ?_;refine wrs fun K hK => ?_;conv => whnf
  refine hK _ (W.cond ⟨fun hcc => absurd rfl (of_decide_eq_true hcc), fun _ => W.skip (hK1 _ ?_)⟩);clear hK K hK1 K1;refine wrs fun K hK => ?_;conv => whnf
  refine ⟨⟨rfl, by decide⟩, ?_⟩;conv => whnf
  intro b_3 hs_3 hh_3 hf_3;try dsimp only at hh_3 hf_3
  conv => whnf
  refine hK _ ?_;clear hK K;refine W.seqK fun K1 hK1 => wrs fun K hK => ?_;conv => whnf
  refine hK _ (W.block (W.invA (fun m e => ∃ (k b : Nat) (o : List Int), k <= q - 1 ∧ o = sel Q k ∧ m = q - 1 - k ∧ e = [(1, .v (.ints g1 X.l)), (2, .v (.int .i64 n)), (3, .ownB b_1 (vK kp g0 f.l)), (9, .ownI 2 b o), (10, .v (.int .i64 ((k + 1 : Nat) : Int)))]) ⟨0, b_3, [], Nat.zero_le _, rfl, rfl, rfl⟩ ?_));clear hK K;rintro m e ⟨k, b, o, hkq, rfl, hm, rfl⟩;have hskl := zb2 Q k;refine W.seqK fun K7 hK7 => ?_;refine wrs fun K hK => ?_;conv => whnf
  refine zb rfl (zG kp g0 f.l hk) fun hs' hhs => ?_;try dsimp only at hhs
  conv => whnf
  rw [hq1];refine hK _ (W.cond ⟨fun h => ?_, fun h => ?_⟩) <;> clear hK K
  ·have h := of_decide_eq_true h;have eQ : Q (k + 1) = decide ((rem (zr kp (k + 1) ^ n) f).l = X.l) := by rw [hQ]
   have hP := hpd (k := k + 1) (by omega);have hRr := zN (zr kp (k + 1) ^ n) hf0;refine W.skip (hK7 _ ?_);clear hK7 K7;refine W.seqK fun K8 hK8 => W.block ?_;refine W.rd (za _) follows (by rfl) fun K hK => ?_;conv => whnf
   refine ⟨_, cxF (yK kp g0 f.l (k + 1) (by omega) (by omega)), ?_⟩;conv => whnf
   rw [hnl (k + 1)];refine ⟨_, cxF (vG kp g0 none f (zr kp (k + 1)) n (by omega) (by omega) (by omega) hf0), ?_⟩;conv => whnf
   refine ⟨_, cxF (zn5 none g1 (rem (zr kp (k + 1) ^ n) f).l X.l (by show dg _ <= _; omega)), ?_⟩;conv => whnf
   rw [<- eQ];refine hK _ (W.cond ⟨fun h5 => ?_, fun h5 => ?_⟩) <;> clear hK K
   ·have e1 : sel Q (k + 1) = sel Q k ++ [((k + 1 : Nat) : Int)] := by rw [sel, if_pos h5]
    refine wrg ?_;conv => whnf
    refine ⟨⟨rfl, by decide⟩, ?_⟩;conv => whnf
    intro b_4 hs_4 hh_4 hf_4;try dsimp only at hh_4 hf_4
    conv => whnf
    refine ⟨by dsimp only [List.length]; omega, ?_⟩;conv => whnf
    intro b_5 hs_5 hh_5 hf_5;try dsimp only at hh_5 hf_5
    conv => whnf
    refine hK8 _ ?_;clear hK8 K8;refine wrg ?_;conv => whnf
    refine ⟨oo, ?_⟩;conv => whnf
    exact zi ⟨k + 1, b_5, _, by omega, e1.symm, rfl, rfl⟩
   ·have e1 : sel Q (k + 1) = sel Q k := by rw [sel, if_neg (by rw [h5]; decide)]
    refine W.skip (hK8 _ ?_);clear hK8 K8;refine wrg ?_;conv => whnf
    refine ⟨oo, ?_⟩;conv => whnf
    exact zi ⟨k + 1, b, _, by omega, e1.symm, rfl, rfl⟩
  ·have h := of_decide_eq_false h;obtain rfl : k = q - 1 := by omega
   refine W.exit (hK1 _ ?_);clear hK7 K7 hK1 K1;refine W.weak (t := ⟨[(9, .v (.ints none (sel Q (q - 1))))], base⟩) ⟨by dsimp only; omega, by repeat' first | refine And.intro ?_ ?_ | exact trivial | rfl | exact .inl rfl⟩ (Nat.le_refl _) ?_;refine wrs fun K hK => ?_;conv => whnf
   refine zb rfl (zfa (sel Q (q - 1)) (by omega)) fun hs' hhs => ?_;try dsimp only at hhs
   conv => whnf
   refine hK _ ?_;clear hK K;refine W.ret ?_;conv => whnf
   exact ⟨.v (.ints none (kY (sel Q (q - 1)))), ⟨rfl, rfl⟩, trivial, .v (.int .i64 (zaV (sel Q (q - 1)))), ⟨rfl, rfl⟩, trivial, rfl⟩
 ·have hT := zb3 kp g0 f hk hfi d hd 244 [.box none (vK kp g0 f.l), .box none (.int .i64 (n : Nat)), .box none (.ints g1 X.l)] Q (fun i h1 h2 => by
   rw [hqe] at h2;have hP := hpd h2;rw [hQ];exact zoJ kp g0 none none none g1 f (zr kp i) X n (by omega) (by omega) (by omega) hf0)
  rw [hqe] at hT;refine yD (zu [] [0, 1, 2, 3, 4, 5, 6, 7, 8, 17, 21, 1000000]) Tryz.func99 rfl (by decide) Tryz.ntmps99 (Nat.le_of_ble_eq_true rfl) (fun base => ?_) (Nat.le_of_ble_eq_true rfl);refine W.sw (c' := cx [0, 1, 2, 3, 4, 5, 6, 7, 8, 17, 21, 1000000]) ?_;refine wrs fun K hK => ?_;conv => whnf
  refine ⟨rfl, ?_⟩;conv => whnf
  intro b_1 hs_1 hh_1 hf_1;try dsimp only at hh_1 hf_1
  conv => whnf
  refine ⟨rfl, ?_⟩;conv => whnf
  intro b_2 hs_2 hh_2 hf_2;try dsimp only at hh_2 hf_2
  conv => whnf
  refine ⟨rfl, ?_⟩;conv => whnf
  intro b_3 hs_3 hh_3 hf_3;try dsimp only at hh_3 hf_3
  conv => whnf
  refine hK _ ?_;clear hK K;refine W.seqK fun K1 hK1 => ?_;refine W.rd (za _) follows (by rfl) fun K hK => ?_;conv => whnf
  refine ⟨_, cxF (z4 kp n g0 f.l (by omega)), ?_⟩;conv => whnf
  refine ⟨⟨rfl, by decide, fun x hx => (by simp at hx; subst hx; exact ⟨rfl, rfl⟩)⟩, ?_⟩;conv => whnf
  refine ⟨_, cxF (zB kp g0 none f.l _ 1 _ (fun _ => X.l) (by omega) (by omega) (zcG g1 X.l)), ?_⟩;conv => whnf
  rw [zaD hc (zg ⟨hk, hrr⟩)];refine hK _ ?_;clear hK K;refine wrs fun K hK => ?_;conv => whnf
  refine hK _ (W.cond ⟨fun hcc => absurd rfl (of_decide_eq_true hcc), fun _ => W.skip (hK1 _ ?_)⟩);clear hK K hK1 K1;refine W.seqK fun K1 hK1 => ?_;refine wrs fun K hK => ?_;conv => whnf
  refine hK _ (W.cond ⟨fun h4 => absurd (of_decide_eq_true h4) (by omega), fun _ => W.skip (hK1 _ ?_)⟩);clear hK K hK1 K1;refine W.sw (c' := cxt [240] [0, 1, 2, 3, 4, 5, 6, 7, 8, 17, 21, 1000000]) ?_;refine W.rs (zu _ _) (by rfl) fun K hK => ?_;conv => whnf
  refine ⟨_, cxT (hT), fun lo_t hi_t hs_t x_t tn_t tb_t hl1_t hl2_t _ hp_t hf_t hn_t ho_t => ?_⟩;try dsimp only at hl1_t hl2_t
  obtain ⟨bt, rfl, ht⟩ := hp_t;conv => whnf
  refine hK _ ?_;clear hK K;refine W.ret ?_;conv => whnf
  exact ⟨.v (.rf bt (kY (sel Q (q - 1))).length), rfl, trivial, .v (.int .i64 (zaV (sel Q (q - 1)))), ⟨rfl, rfl⟩, trivial, bt, rfl, fun h => hn_t _ _ (ht h)⟩


def kK (p n : Int) : Int := if isP p = true then (if 1 <= n ∧ n <= 4 then 0 else 2) else 1
theorem zlx {p n : Int} (h : kK p n = 0) : isP p = true ∧ 1 <= n ∧ n <= 4 := by
 unfold kK at h
 by_cases h1 : isP p = true
 ·rw [if_pos h1] at h
  by_cases h2 : 1 <= n ∧ n <= 4
  ·exact ⟨h1, h2⟩
  ·rw [if_neg h2] at h; cases h
 ·rw [if_neg h1] at h; cases h

theorem zjP {p : Int} (hp : 2 <= p) (d : Nat) : (List.replicate (d + 1) (0 : Int)).set d 1 = dig p.toNat (p.toNat ^ d) := by
 have hT : Top p.toNat d ((List.replicate (d + 1) (0 : Int)).set d 1) := by
  refine ⟨by simp, by rw [yl (by simp), if_pos rfl], fun x hx => ?_⟩;obtain ⟨i, hi, rfl⟩ := List.getElem_of_mem hx;rw [List.getElem_set]
  split
  ·omega
  ·simp; omega
 have hn : num p.toNat ((List.replicate (d + 1) (0 : Int)).set d 1) = p.toNat ^ d := by
  have h1 : (List.replicate (d + 1) (0 : Int)).set d 1 = List.replicate d 0 ++ [1] := by
   refine j5 (by simp) fun j hj => ?_;have hj : j < d + 1 := by simpa using hj
   rw [yl (by simp)]
   by_cases h2 : j = d
   ·subst h2; rw [if_pos rfl, zcx]
   ·rw [if_neg h2, zL, yF (by simp; omega), List.getElem_append_left (by simp; omega)]; simp
  rw [h1, zcv]; simp [num]
 rw [<- hn, hT.dig (by omega)]

theorem zaW (p n : Int) (r : Option Nat) (hr : ∀ h : p ∈ zO, 1 <= n ∧ n <= 4 -> letI := yk h; kI (fun k => Irr (zr p k)) (p.toNat ^ n.toNat) (2 * p.toNat ^ n.toNat) r) :
  FnV 39 [.int .i64 p, .int .i64 n] (if kK p n = 0 then RV (znc p.toNat r) 0 else RV [] (kK p n)) := by
 by_cases hc : kK p n = 0
 ·obtain ⟨hp0, hn1, hn4⟩ := zlx hc;have hp := zaB hp0;have hpr : p ∈ zO := of_decide_eq_true hp0;have hr := hr hpr ⟨hn1, hn4⟩;letI := yk hpr;rw [if_pos hc];obtain ⟨d, rfl⟩ : ∃ d : Nat, n = d := ⟨n.toNat, by omega⟩
  rw [Int.toNat_natCast] at hr;have hB : 0 < p.toNat ^ d := Nat.pow_pos (by omega);have hfl := zjP (p := p) (by omega) d;refine zd (za [0, 1, 4, 5, 6, 7, 12]) Tryz.func39 rfl (by decide) Tryz.ntmps39 (Nat.le_of_ble_eq_true rfl) fun base => ?_;refine wrs fun K hK => ?_;conv => whnf
  refine hK _ ?_;clear hK K;refine wrs fun K hK => ?_;conv => whnf
  refine zb rfl (ze2 p d 1 4) fun hs' hhs => ?_;try dsimp only at hhs
  conv => whnf
  rw [show (if isP p = true then (if 1 <= (d : Int) ∧ (d : Int) <= 4 then (0 : Int) else 2) else 1) = 0 from hc];refine hK _ ?_;clear hK K;refine W.seqK fun K1 hK1 => ?_;refine wrs fun K hK => ?_;conv => whnf
  refine hK _ (W.cond ⟨fun hcc => absurd rfl (of_decide_eq_true hcc), fun _ => W.skip (hK1 _ ?_)⟩);clear hK K hK1 K1;refine wrs fun K hK => ?_;conv => whnf
  refine ⟨oo, ?_⟩;conv => whnf
  refine ⟨rfl, ?_⟩;conv => whnf
  refine ⟨oo, ?_⟩;conv => whnf
  have e1 : ((d : Int) + 1).toNat = d + 1 := by omega
  rw [e1];intro b_2 hs_2 hh_2 hf_2;try dsimp only at hh_2 hf_2
  conv => whnf
  refine hK _ ?_;clear hK K;refine wrs fun K hK => ?_;conv => whnf
  refine ⟨⟨by omega, by simp; omega⟩, ?_⟩;conv => whnf
  rw [Int.toNat_natCast, hfl];refine hK _ ?_;clear hK K;refine wrs fun K hK => ?_;conv => whnf
  refine zb rfl (ze3 p (some b_2) d (p.toNat ^ d) (by omega) (by omega) (Nat.le_refl _) (by omega) r hr) fun hs' hhs => ?_;try dsimp only at hhs
  conv => whnf
  refine hK _ ?_;clear hK K;refine W.ret ?_;conv => whnf
  exact ⟨.v (.ints none (znc p.toNat r)), ⟨rfl, rfl⟩, trivial, .v (.int .i64 0), ⟨rfl, rfl⟩, trivial, rfl⟩
 ·rw [if_neg hc];refine zd (za [0, 1, 4, 5, 6, 7, 12]) Tryz.func39 rfl (by decide) Tryz.ntmps39 (Nat.le_of_ble_eq_true rfl) fun base => ?_;refine wrs fun K hK => ?_;conv => whnf
  refine hK _ ?_;clear hK K;refine wrs fun K hK => ?_;conv => whnf
  refine zb rfl (ze2 p n 1 4) fun hs' hhs => ?_;try dsimp only at hhs
  conv => whnf
  rw [show (if isP p = true then (if 1 <= n ∧ n <= 4 then (0 : Int) else 2) else 1) = kK p n from rfl];refine hK _ ?_;clear hK K;refine W.seqK fun K1 hK1 => ?_;refine wrs fun K hK => ?_;conv => whnf
  refine hK _ (W.cond ⟨fun _ => ?_, fun hcc => absurd hc (of_decide_eq_false hcc)⟩);clear hK K;refine wrs fun K hK => ?_;conv => whnf
  refine hK _ ?_;clear hK K;refine W.ret ?_;conv => whnf
  exact ⟨.v (.ints none []), rfl, trivial, .v (.int .i64 (kK p n)), ⟨rfl, rfl⟩, trivial, rfl⟩



theorem zaF {n : Nat} {c : Nat -> Int} (hc : Byt n c) : zix 186 [] n c (fun r => ∃ q : Int, r = .int .i64 q ∧ q ∈ ([1, 4, 0, 97, 101, -3, 9, 2, 3, 5, 7, 11, 13, 17, 31] : List Int)) := by
 rintro b x hx;refine jz (cx := cxt [] [0, 2, 5, 1000000, 1000001]) (zu [] [0, 2, 5, 1000000, 1000001]) Tryz.func186 rfl (by decide) Tryz.ntmps186 (Nat.le_of_ble_eq_true rfl) (Nat.le_of_ble_eq_true rfl) rfl rfl fun base hs0 O U hw v0 hb0 => ?_;refine W.sw (c' := cx [0, 2, 5, 1000000, 1000001]) ?_;refine wrs fun K hK => ?_;conv => whnf
 refine hK _ ?_;clear hK K;refine W.seqK fun K1 hK1 => ?_;refine wrs fun K hK => ?_;conv => whnf
 refine ⟨⟨rfl, rfl⟩, ?_⟩;conv => whnf
 refine ⟨rfl, _, (zJ hc 24 (by constructor <;> decide) b x hx), ?_⟩;rintro hs_ms1 av x' t' hh_ms1 ⟨rfl, ⟨x1, hx1, rfl⟩, _, rfl, ⟨q, rfl, q0, q1, q2⟩⟩ _ _ _;try dsimp only at hh_ms1
 conv => whnf
 refine hK _ (W.cond ⟨fun h => ?_, fun h => ?_⟩) <;> clear hK K
 ·refine wrs fun K hK => ?_;conv => whnf
  refine ⟨⟨rfl, by decide⟩, ?_⟩;conv => whnf
  intro b_7 hs_7 hh_7 hf_7;try dsimp only at hh_7 hf_7
  conv => whnf
  refine ⟨⟨rfl, rfl⟩, ?_⟩;conv => whnf
  refine ⟨rfl, _, (j9 hc none [1, 4, 0, 97, 101, -3, 9] ⟨by decide, by decide⟩ b x1 hx1), ?_⟩;rintro hs_ms2 av x' t' hh_ms2 ⟨rfl, ⟨x2, hx2, rfl⟩, _, rfl, ⟨r, rfl, hr⟩⟩ _ _ _;try dsimp only at hh_ms2
  conv => whnf
  refine hK _ ?_;clear hK K
  have hr2 : r ∈ ([1, 4, 0, 97, 101, -3, 9, 2, 3, 5, 7, 11, 13, 17, 31] : List Int) := by
   simp only [List.mem_cons, List.not_mem_nil, or_false] at hr ⊢
   omega
  refine W.ret ?_;conv => whnf
  refine ⟨by dsimp only; omega, ?_⟩;conv => whnf
  refine ⟨rfl, ?_⟩;conv => whnf
  refine ⟨.int .i64 r, ⟨rfl, rfl⟩, ?_⟩;conv => whnf
  exact ⟨.ownB b (x2), ⟨rfl, rfl⟩, .inr ⟨rfl, rfl⟩, .dead, trivial, rfl, rfl, rfl, ⟨x2, hx2, rfl⟩, _, rfl, ⟨r, rfl, hr2⟩⟩
 refine W.skip (hK1 _ ?_);clear hK1 K1;refine wrs fun K hK => ?_;conv => whnf
 refine ⟨⟨rfl, by decide⟩, ?_⟩;conv => whnf
 intro b_7 hs_7 hh_7 hf_7;try dsimp only at hh_7 hf_7
 conv => whnf
 refine ⟨⟨rfl, rfl⟩, ?_⟩;conv => whnf
 refine ⟨rfl, _, (j9 hc none [2, 3, 5, 7, 2, 3, 5, 11, 13, 17, 31] ⟨by decide, by decide⟩ b x1 hx1), ?_⟩;rintro hs_ms2 av x' t' hh_ms2 ⟨rfl, ⟨x2, hx2, rfl⟩, _, rfl, ⟨r, rfl, hr⟩⟩ _ _ _;try dsimp only at hh_ms2
 conv => whnf
 refine hK _ ?_;clear hK K
 have hr2 : r ∈ ([1, 4, 0, 97, 101, -3, 9, 2, 3, 5, 7, 11, 13, 17, 31] : List Int) := by
  simp only [List.mem_cons, List.not_mem_nil, or_false] at hr ⊢
  omega
 refine W.ret ?_;conv => whnf
 refine ⟨by dsimp only; omega, ?_⟩;conv => whnf
 refine ⟨rfl, ?_⟩;conv => whnf
 refine ⟨.int .i64 r, ⟨rfl, rfl⟩, ?_⟩;conv => whnf
 exact ⟨.ownB b (x2), ⟨rfl, rfl⟩, .inr ⟨rfl, rfl⟩, .dead, trivial, rfl, rfl, rfl, ⟨x2, hx2, rfl⟩, _, rfl, ⟨r, rfl, hr2⟩⟩

def PolL (p : Int) (d : Nat) (L : List Int) : Prop := 1 <= L.length ∧ L.length <= d + 1 ∧ (∀ j, 0 <= cf L j ∧ cf L j < p) ∧ cf L (L.length - 1) ≠ 0

theorem zbr {n : Nat} {c : Nat -> Int} (hc : Byt n c) (p : Int) (hp : 2 <= p ∧ p <= 1000) (d : Nat) (hd : d <= 100) : zix 190 [.int .i64 p, .int .i64 d] n c (fun r => ∃ L, r = .ints none L ∧ PolL p d L) := by
 rintro b x hx;refine jz (cx := cxt [] [0, 1, 2, 6, 7, 8, 15, 1000000, 1000001]) (zu [] [0, 1, 2, 6, 7, 8, 15, 1000000, 1000001]) Tryz.func190 rfl (by decide) Tryz.ntmps190 (Nat.le_of_ble_eq_true rfl) (Nat.le_of_ble_eq_true rfl) rfl rfl fun base hs0 O U hw v0 hb0 => ?_;refine W.sw (c' := cx [0, 1, 2, 6, 7, 8, 15, 1000000, 1000001]) ?_;refine wrs fun K hK => ?_;conv => whnf
 refine hK _ ?_;clear hK K;refine wrs fun K hK => ?_;conv => whnf
 refine ⟨⟨rfl, by decide⟩, ?_⟩;conv => whnf
 intro b_7 hs_7 hh_7 hf_7;try dsimp only at hh_7 hf_7
 conv => whnf
 refine hK _ ?_;clear hK K;refine W.seqK fun K1 hK1 => wrs fun K hK => ?_;conv => whnf
 refine ⟨oo, ?_⟩;conv => whnf
 refine ⟨⟨rfl, rfl⟩, ?_⟩;conv => whnf
 refine ⟨rfl, _, (zJ hc ((d : Int) + 1) (by constructor <;> omega) b x hx), ?_⟩;rintro hs_ms1 av x' t' hh_ms1 ⟨rfl, ⟨x1, hx1, rfl⟩, _, rfl, ⟨q, rfl, q0, q1, q2⟩⟩ _ _ _;try dsimp only at hh_ms1
 conv => whnf
 have hq : q <= d := by
  by_cases h : d = 0
  ·have := q2 (by omega); omega
  ·have := q1 (by omega); omega
 refine hK _ (W.block (W.invH hs0 hb0 (fun m e => ∃ (k bo : Nat) (y : V) (L : List Int), k <= d ∧ ziw n c y ∧ L.length + k <= d ∧ (∀ j, 0 <= cf L j ∧ cf L j < p) ∧ m = k ∧ e = [(vt, .dead), (vk, .keep O U hw 0 v0), (0, .ownB b y), (1, .v (.int .i64 p)), (2, .v (.int .i64 d)), (7, .ownI 2 bo L), (8, .v (.int .i64 k))]) _ _ (⟨q.toNat, b_7, x1, [], by omega, hx1, by simp; omega, fun j => by rw [yW]; omega, rfl, by rw [Int.toNat_of_nonneg q0]⟩) (by dsimp only; omega) (by repeat' first | refine And.intro ?_ ?_ | exact trivial | rfl | omega | exact .inl rfl | exact fun _ _ => rfl | exact fun _ _ h => h | assumption | exact fun i hi => (by obtain rfl : i = 0 := (by omega); rfl)) ?_));clear hK K;rintro m e ⟨k, bo, y, L, h1, hy, h2, h3, hm, rfl⟩;refine W.seqK fun K7 hK7 => wrs fun K hK => ?_;conv => whnf
 refine hK _ (W.cond ⟨fun h5 => ?_, fun h5 => ?_⟩) <;> clear hK K <;> (first | replace h5 := of_decide_eq_true h5 | replace h5 := of_decide_eq_false h5)
 ·have hk : 1 <= k := by omega
  refine W.skip (hK7 _ (W.seqK fun K8 hK8 => W.block ?_));clear hK7 K7;refine wrg ?_;conv => whnf
  refine ⟨⟨rfl, rfl⟩, ?_⟩;conv => whnf
  refine ⟨rfl, _, (zJ hc p (by constructor <;> omega) b y hy), ?_⟩;rintro hs_ms2 av x' t' hh_ms2 ⟨rfl, ⟨x2, hx2, rfl⟩, _, rfl, ⟨r1, rfl, r10, r11, _⟩⟩ _ _ _;try dsimp only at hh_ms2
  conv => whnf
  refine ⟨⟨rfl, rfl⟩, ?_⟩;conv => whnf
  refine ⟨rfl, _, (zJ hc p (by constructor <;> omega) b x2 hx2), ?_⟩;rintro hs_ms3 av x' t' hh_ms3 ⟨rfl, ⟨x3, hx3, rfl⟩, _, rfl, ⟨r2, rfl, r20, r21, _⟩⟩ _ _ _;try dsimp only at hh_ms3
  conv => whnf
  have h11 := r11 (by omega);have h21 := r21 (by omega);refine ⟨⟨rfl, by decide⟩, ?_⟩;conv => whnf
  intro b_1 hs_1 hh_1 hf_1;try dsimp only at hh_1 hf_1
  conv => whnf
  refine ⟨⟨rfl, rfl⟩, ?_⟩;conv => whnf
  refine ⟨rfl, _, (j9 hc none [r1, 0, r2] ⟨(by show 1 <= 3; omega), (by show 3 <= 1000; omega)⟩ b x3 hx3), ?_⟩;rintro hs_ms4 av x' t' hh_ms4 ⟨rfl, ⟨x4, hx4, rfl⟩, _, rfl, ⟨r, rfl, hr⟩⟩ _ _ _;try dsimp only at hh_ms4
  conv => whnf
  have hr : 0 <= r ∧ r < p := by
   simp only [List.mem_cons, List.not_mem_nil, or_false] at hr
   omega
  refine ⟨⟨rfl, by decide⟩, ?_⟩;conv => whnf
  intro b_2 hs_2 hh_2 hf_2;try dsimp only at hh_2 hf_2
  conv => whnf
  refine ⟨by simp; omega, ?_⟩;conv => whnf
  intro b_3 hs_3 hh_3 hf_3;try dsimp only at hh_3 hf_3
  conv => whnf
  refine hK8 _ ?_;clear hK8 K8;refine wrg ?_;conv => whnf
  refine ⟨oo, ?_⟩;conv => whnf
  have hL : ∀ j, 0 <= cf (L ++ [r]) j ∧ cf (L ++ [r]) j < p := fun j => by
   unfold cf;rw [List.getD_eq_getElem?_getD];rcases Nat.lt_trichotomy j L.length with hj | hj | hj
   ·rw [List.getElem?_append_left hj, <- List.getD_eq_getElem?_getD]; exact h3 j
   ·rw [List.getElem?_append_right (by omega), hj, Nat.sub_self]; exact hr
   ·rw [List.getElem?_eq_none (by simp; omega)]; show (0 : Int) <= 0 ∧ (0 : Int) < p; omega
  rw [show ((k : Int) - 1) = ((k - 1 : Nat) : Int) by omega];exact zi ⟨k - 1, b_3, x4, L ++ [r], by omega, hx4, by simp; omega, hL, rfl, rfl⟩
 ·obtain rfl : k = 0 := by omega
  refine W.exit (hK1 _ ?_);clear hK7 K7 hK1 K1;refine wrs fun K hK => ?_;conv => whnf
  refine ⟨oo, ?_⟩;conv => whnf
  refine ⟨⟨rfl, rfl⟩, ?_⟩;conv => whnf
  refine ⟨rfl, _, (zJ hc (p - 1) (by constructor <;> omega) b y hy), ?_⟩;rintro hs_ms2 av x' t' hh_ms2 ⟨rfl, ⟨x2, hx2, rfl⟩, _, rfl, ⟨r1, rfl, r10, r11, r12⟩⟩ _ _ _;try dsimp only at hh_ms2
  conv => whnf
  refine ⟨⟨rfl, rfl⟩, ?_⟩;conv => whnf
  refine ⟨rfl, _, (zJ hc 2 (by constructor <;> decide) b x2 hx2), ?_⟩;rintro hs_ms3 av x' t' hh_ms3 ⟨rfl, ⟨x3, hx3, rfl⟩, _, rfl, ⟨r2, rfl, r20, r21, _⟩⟩ _ _ _;try dsimp only at hh_ms3
  conv => whnf
  have h11 : r1 <= p - 2 := by
   by_cases h : 1 < p - 1
   ·have := r11 h; omega
   ·have := r12 (by omega); omega
  have h21 := r21 (by omega)
  have hmul : 0 <= r1 * r2 ∧ r1 * r2 <= p - 2 := by
   have : r2 = 0 ∨ r2 = 1 := by omega
   rcases this with rfl | rfl <;> simp <;> omega
  refine ⟨by show _ <= r1 * r2 ∧ r1 * r2 <= _; omega, ?_⟩;conv => whnf
  refine ⟨by show _ <= 1 + r1 * r2 ∧ 1 + r1 * r2 <= _; omega, ?_⟩;conv => whnf
  refine ⟨⟨rfl, by decide⟩, ?_⟩;conv => whnf
  intro b_1 hs_1 hh_1 hf_1;try dsimp only at hh_1 hf_1
  conv => whnf
  refine ⟨by simp; omega, ?_⟩;conv => whnf
  intro b_2 hs_2 hh_2 hf_2;try dsimp only at hh_2 hf_2
  conv => whnf
  refine hK _ ?_;clear hK K
  have hL : PolL p d (L ++ [1 + r1 * r2]) := by
   have hlen : (L ++ [1 + r1 * r2]).length = L.length + 1 := by simp
   refine ⟨by omega, by omega, fun j => ?_, ?_⟩
   ·unfold cf;rw [List.getD_eq_getElem?_getD];rcases Nat.lt_trichotomy j L.length with hj | hj | hj
    ·rw [List.getElem?_append_left hj, <- List.getD_eq_getElem?_getD]; exact h3 j
    ·rw [List.getElem?_append_right (by omega), hj, Nat.sub_self]; show (0 : Int) <= 1 + r1 * r2 ∧ 1 + r1 * r2 < p; omega
    ·rw [List.getElem?_eq_none (by omega)]; show (0 : Int) <= 0 ∧ (0 : Int) < p; omega
   ·rw [hlen];unfold cf;rw [List.getD_eq_getElem?_getD, List.getElem?_append_right (by omega), show L.length + 1 - 1 - L.length = 0 by omega];show (1 + r1 * r2 : Int) ≠ 0
    omega
  refine W.ret ?_;conv => whnf
  refine ⟨by dsimp only; omega, ?_⟩;conv => whnf
  refine ⟨rfl, ?_⟩;conv => whnf
  refine ⟨.ints none (L ++ [1 + r1 * r2]), ⟨.inl rfl, rfl⟩, ?_⟩;conv => whnf
  exact ⟨.ownB b (x3), ⟨rfl, rfl⟩, .inr ⟨rfl, rfl⟩, .dead, trivial, rfl, rfl, rfl, ⟨x3, hx3, rfl⟩, _, rfl, ⟨_, rfl, hL⟩⟩

theorem zjQ {n : Nat} {c : Nat -> Int} (hc : Byt n c) : zix 315 [] n c (fun r => ∃ (p : Int) (L : List Int), r = vK p none L ∧ (2 <= p ∧ p <= 7) ∧ L.length <= 9) := by
 rintro b x hx;refine jz (cx := cxt [] [0, 2, 3, 4, 5, 6, 7, 19, 36, 1000000, 1000001]) (zu [] [0, 2, 3, 4, 5, 6, 7, 19, 36, 1000000, 1000001]) Tryz.func315 rfl (by decide) Tryz.ntmps315 (Nat.le_of_ble_eq_true rfl) (Nat.le_of_ble_eq_true rfl) rfl rfl fun base hs0 O U hw v0 hb0 => ?_;refine W.sw (c' := cx [0, 2, 3, 4, 5, 6, 7, 19, 36, 1000000, 1000001]) ?_;refine wrs fun K hK => ?_;conv => whnf
 intro b_2 hs_2 hh_2 hf_2;try dsimp only at hh_2 hf_2
 conv => whnf
 refine hK _ ?_;clear hK K;refine wrs fun K hK => ?_;conv => whnf
 refine ⟨⟨rfl, by decide⟩, ?_⟩;conv => whnf
 intro b_7 hs_7 hh_7 hf_7;try dsimp only at hh_7 hf_7
 conv => whnf
 refine ⟨⟨rfl, rfl⟩, ?_⟩;conv => whnf
 refine ⟨rfl, _, (j9 hc none [2, 3, 5, 2, 3, 7] ⟨by decide, by decide⟩ b x hx), ?_⟩;rintro hs_ms1 av x' t' hh_ms1 ⟨rfl, ⟨x1, hx1, rfl⟩, _, rfl, ⟨p, rfl, hp⟩⟩ _ _ _;try dsimp only at hh_ms1
 conv => whnf
 refine hK _ ?_;clear hK K
 have hpp : p ∈ zO := by
  simp only [List.mem_cons, List.not_mem_nil, or_false] at hp
  unfold zO;simp only [List.mem_cons, List.not_mem_nil, or_false]
  omega
 have hp27 : 2 <= p ∧ p <= 7 := by
  simp only [List.mem_cons, List.not_mem_nil, or_false] at hp
  omega
 letI := yk hpp;refine wrs fun K hK => ?_;conv => whnf
 refine ⟨⟨rfl, rfl⟩, ?_⟩;conv => whnf
 refine ⟨rfl, _, (zJ hc 4 (by constructor <;> decide) b x1 hx1), ?_⟩;rintro hs_ms2 av x' t' hh_ms2 ⟨rfl, ⟨x2, hx2, rfl⟩, _, rfl, ⟨q, rfl, q0, q1, _⟩⟩ _ _ _;try dsimp only at hh_ms2
 conv => whnf
 have hq4 := q1 (by decide);refine ⟨oo, ?_⟩;conv => whnf
 refine hK _ ?_;clear hK K;obtain ⟨d, hd⟩ : ∃ d : Nat, 1 + q = d := ⟨(1 + q).toNat, by omega⟩
 rw [hd];have hd14 : 1 <= d ∧ d <= 4 := by omega
 refine wrs fun K hK => ?_;conv => whnf
 refine ⟨oo, ?_⟩;conv => whnf
 refine ⟨rfl, ?_⟩;conv => whnf
 refine ⟨oo, ?_⟩;conv => whnf
 intro b_5 hs_5 hh_5 hf_5;try dsimp only at hh_5 hf_5
 conv => whnf
 refine hK _ ?_;clear hK K;refine W.seqK fun K1 hK1 => wrs fun K hK => ?_;conv => whnf
 refine hK _ (W.block (W.invH hs0 hb0 (fun m e => ∃ (i bo : Nat) (y : V) (X : List Int), i <= d ∧ ziw n c y ∧ X.length = d + 1 ∧ (∀ j, 0 <= cf X j ∧ cf X j < p) ∧ m = d - i ∧ e = [(vt, .dead), (vk, .keep O U hw 0 v0), (0, .ownB b y), (2, .ownB b_2 (.agg [.int .i64 0, .nil])), (3, .v (.int .i64 p)), (4, .v (.int .i64 d)), (5, .ownI 2 bo X), (6, .v (.int .i64 i))]) _ _ (⟨0, b_5, x2, List.replicate (d + 1) 0, Nat.zero_le _, hx2, by simp, fun j => by rw [zL]; omega, rfl, rfl⟩) (by dsimp only; omega) (by repeat' first | refine And.intro ?_ ?_ | exact trivial | rfl | omega | exact .inl rfl | exact fun _ _ => rfl | exact fun _ _ h => h | assumption | exact fun i hi => (by obtain rfl : i = 0 := (by omega); rfl)) ?_));clear hK K;rintro m e ⟨i, bo, y, X, h1, hy, h2, h3, hm, rfl⟩;refine W.seqK fun K7 hK7 => wrs fun K hK => ?_;conv => whnf
 refine hK _ (W.cond ⟨fun h5 => ?_, fun h5 => ?_⟩) <;> clear hK K <;> (first | replace h5 := of_decide_eq_true h5 | replace h5 := of_decide_eq_false h5)
 ·have hi : i < d := by omega
  refine W.skip (hK7 _ (W.seqK fun K8 hK8 => W.block ?_));clear hK7 K7;refine wrg ?_;conv => whnf
  refine ⟨⟨rfl, rfl⟩, ?_⟩;conv => whnf
  refine ⟨rfl, _, (zJ hc p (by constructor <;> omega) b y hy), ?_⟩;rintro hs_ms3 av x' t' hh_ms3 ⟨rfl, ⟨x3, hx3, rfl⟩, _, rfl, ⟨r1, rfl, r10, r11, _⟩⟩ _ _ _;try dsimp only at hh_ms3
  conv => whnf
  have h11 := r11 (by omega);refine ⟨oo, ?_⟩;conv => whnf
  rw [Int.toNat_natCast];refine hK8 _ ?_;clear hK8 K8;refine wrg ?_;conv => whnf
  refine ⟨oo, ?_⟩;conv => whnf
  have hX : ∀ j, 0 <= cf (X.set i r1) j ∧ cf (X.set i r1) j < p := fun j => by
   unfold cf;rw [List.getD_eq_getElem?_getD, List.getElem?_set]
   by_cases hj : i = j
   ·rw [if_pos hj, if_pos (by omega)]; exact ⟨r10, h11⟩
   ·rw [if_neg hj, <- List.getD_eq_getElem?_getD]; exact h3 j
  exact zi ⟨i + 1, bo, x3, X.set i r1, by omega, hx3, by simp; omega, hX, rfl, rfl⟩
 ·obtain rfl : i = d := by omega
  have hp1 := z7 hpp
  have hT : Top p.toNat i (X.set i 1) := by
   refine ⟨by simp; omega, ?_, fun z hz => ?_⟩
   ·unfold cf; rw [List.getD_eq_getElem?_getD, List.getElem?_set_self (by omega)]; rfl
   ·obtain ⟨j, hj, rfl⟩ := List.mem_iff_getElem.1 hz;rw [List.getElem_set]
    split
    ·omega
    ·have := h3 j;rw [yF (by simpa using hj)] at this;omega
  have hdig := hT.dig (by omega);have hrng := hT.range (by omega);obtain ⟨r, hr⟩ := kJ (fun n => Irr (zr p n)) (num p.toNat (X.set i 1)) (2 * p.toNat ^ i);obtain ⟨r2, hr2⟩ := kJ (fun n => Irr (zr p n)) (p.toNat ^ i) (2 * p.toNat ^ i)
  have ho : ∀ {a : Nat} {q : Option Nat}, p.toNat ^ i <= a -> kI (fun n => Irr (zr p n)) a (2 * p.toNat ^ i) q -> (znc p.toNat q).length <= 9 := fun {a q} ha hq => by
   cases q with
   | none => show 0 <= 9; omega
   | some v =>
    have := (zmQ (p := p.toNat) (d := i) (k := v) (by omega) (by have := hq.1; omega) hq.2.1).len;show (dig p.toNat v).length <= 9
    omega
  refine W.exit (hK1 _ ?_);clear hK7 K7 hK1 K1;refine wrs fun K hK => ?_;conv => whnf
  refine ⟨oo, ?_⟩;conv => whnf
  rw [Int.toNat_natCast];refine hK _ ?_;clear hK K;refine wrs fun K hK => ?_;conv => whnf
  refine zb rfl ((by have := ze3 p (some bo) i (num p.toNat (X.set i 1)) hd14.1 hd14.2 hrng.1 hrng.2 r hr; rw [hdig] at this; exact this)) fun hs' hhs => ?_;try dsimp only at hhs
  conv => whnf
  refine hK _ ?_;clear hK K;refine W.seqK fun K1 hK1 => ?_
  have fin : ∀ (L : List Int) (t : S), L.length <= 9 -> hs0 <= t.hs -> zy t.env [(vt, .dead), (vk, .keep O U hw 0 v0), (0, .ownB b y), (2, .ownB b_2 (.agg [.int .i64 0, .nil])), (3, .v (.int .i64 p)), (7, .v (.ints none L))] -> K1 t := by
   intro L t hL h9 h10;refine hK1 _ (W.weak (t := ⟨[(vt, .dead), (vk, .keep O U hw 0 v0), (0, .ownB b y), (2, .ownB b_2 (.agg [.int .i64 0, .nil])), (3, .v (.int .i64 p)), (7, .v (.ints none L))], hs0⟩) ⟨h9, h10⟩ hb0 ?_);clear hK1 K1;refine wrs fun K hK => ?_;conv => whnf
   refine ⟨s23, ?_⟩;conv => whnf
   refine hK _ ?_;clear hK K;refine W.ret ?_;conv => whnf
   refine ⟨by dsimp only; omega, ?_⟩;conv => whnf
   exact ⟨.ownB b (y), ⟨rfl, rfl⟩, .inr ⟨rfl, rfl⟩, .dead, trivial, rfl, rfl, rfl, ⟨y, hy, rfl⟩, _, rfl, ⟨p, L, rfl, hp27, hL⟩⟩
  refine wrs fun K hK => ?_;conv => whnf
  refine hK _ (W.cond ⟨fun h => ?_, fun h => ?_⟩) <;> clear hK K
  ·have hcn : kK p i = 0 := by
    unfold kK;rw [if_pos (show isP p = true from decide_eq_true hpp), if_pos (by omega)]
   refine wrg ?_;conv => whnf
   refine zb rfl ((by have := zaW p i r2 (fun _ _ => by rw [Int.toNat_natCast]; exact hr2); rw [if_pos hcn] at this; exact this)) fun hs' hhs => ?_;try dsimp only at hhs
   conv => whnf
   refine fin _ _ (ho (Nat.le_refl _) hr2) (by dsimp only; omega) ?_;exact cvr
  ·refine W.skip (fin _ _ (ho hrng.1 hr) (by dsimp only; omega) ?_);exact cvr


def QK (r : V) : Prop := ∃ (p : Int) (L : List Int), r = vK p none L ∧ (-1000 <= p ∧ p <= 1000) ∧ L.length <= 100


theorem zaS {n : Nat} {c : Nat -> Int} (hc : Byt n c) : zix 168 [] n c QK := by
 rintro b x hx;refine jz (cx := cxt [] [0, 2, 3, 7, 8, 17, 24, 1000000, 1000001]) (zu [] [0, 2, 3, 7, 8, 17, 24, 1000000, 1000001]) Tryz.func168 rfl (by decide) Tryz.ntmps168 (Nat.le_of_ble_eq_true rfl) (Nat.le_of_ble_eq_true rfl) rfl rfl fun base hs0 O U hw v0 hb0 => ?_;refine W.sw (c' := cx [0, 2, 3, 7, 8, 17, 24, 1000000, 1000001]) ?_;refine wrs fun K hK => ?_;conv => whnf
 intro b_2 hs_2 hh_2 hf_2;try dsimp only at hh_2 hf_2
 conv => whnf
 refine hK _ ?_;clear hK K;refine wrs fun K hK => ?_;conv => whnf
 refine ⟨⟨rfl, rfl⟩, ?_⟩;conv => whnf
 refine ⟨rfl, _, (zjQ hc b x hx), ?_⟩;rintro hs_ms1 av x' t' hh_ms1 ⟨rfl, ⟨x1, hx1, rfl⟩, _, rfl, ⟨p, L, rfl, hp, hL⟩⟩ _ _ _;try dsimp only at hh_ms1
 conv => whnf
 intro b_3 hs_3 hh_3 hf_3;try dsimp only at hh_3 hf_3
 conv => whnf
 refine ⟨s23, ?_⟩;conv => whnf
 refine hK _ ?_;clear hK K;refine W.seqK fun K1 hK1 => ?_;refine wrs fun K hK => ?_;conv => whnf
 refine ⟨⟨rfl, rfl⟩, ?_⟩;conv => whnf
 refine ⟨rfl, _, (zJ hc 24 (by constructor <;> decide) b x1 hx1), ?_⟩;rintro hs_ms2 av x' t' hh_ms2 ⟨rfl, ⟨x2, hx2, rfl⟩, _, rfl, ⟨q, rfl, q0, q1, _⟩⟩ _ _ _;try dsimp only at hh_ms2
 conv => whnf
 refine hK _ (W.block ?_);clear hK K;refine wrs fun K hK => ?_;conv => whnf
 refine hK _ (W.cond ⟨fun h => ?_, fun h => ?_⟩) <;> clear hK K
 ·refine W.seqK fun K2 hK2 => W.sch follows ?_;refine Wany.takeF (za []) 0 (by rfl) (by rfl) (by rfl) (by rfl) (by decide) (by kernel_rfl) (by kernel_rfl) (by kernel_rfl) ?_;conv => whnf
  refine wt 2 ?_;conv => whnf
  refine Wany.takeF (za []) 3 (by rfl) (by rfl) (by rfl) (by rfl) (by decide) (by kernel_rfl) (by kernel_rfl) (by kernel_rfl) ?_;conv => whnf
  refine w2 1 4 ?_ ?_ <;> conv => whnf
  ·refine w1 4 ?_;conv => whnf
   refine w1 5 ?_;conv => whnf
   refine ⟨⟨rfl, rfl⟩, ?_⟩;conv => whnf
   refine ⟨rfl, _, (zbr hc p (by omega) 4 (by omega) b x2 hx2), ?_⟩;rintro hs_ms3 av x' t' hh_ms3 ⟨rfl, ⟨x3, hx3, rfl⟩, _, rfl, ⟨L2, rfl, hL2⟩⟩ _ _ _;try dsimp only at hh_ms3
   conv => whnf
   refine wt 6 ?_;conv => whnf
   refine w1 7 ?_;conv => whnf
   refine ⟨s23, ?_⟩;conv => whnf
   refine wd1 (hK2 _ ?_);clear hK2 K2;refine W.ret ?_;conv => whnf
   refine ⟨by dsimp only; omega, ?_⟩;conv => whnf
   exact ⟨.ownB b (x3), ⟨rfl, rfl⟩, .inr ⟨rfl, rfl⟩, .dead, trivial, rfl, rfl, rfl, ⟨x3, hx3, rfl⟩, _, rfl, ⟨p, L2, rfl, by omega, by have := hL2.2.1; omega⟩⟩
  ·refine w2 1 5 ?_ ?_ <;> conv => whnf
   ·refine w1 5 ?_;conv => whnf
    refine ⟨⟨rfl, rfl⟩, ?_⟩;conv => whnf
    refine ⟨rfl, _, (zbr hc p (by omega) 4 (by omega) b x2 hx2), ?_⟩;rintro hs_ms3 av x' t' hh_ms3 ⟨rfl, ⟨x3, hx3, rfl⟩, _, rfl, ⟨L2, rfl, hL2⟩⟩ _ _ _;try dsimp only at hh_ms3
    conv => whnf
    refine wt 6 ?_;conv => whnf
    refine w1 7 ?_;conv => whnf
    refine ⟨s23, ?_⟩;conv => whnf
    refine wd1 (hK2 _ ?_);clear hK2 K2;refine W.ret ?_;conv => whnf
    refine ⟨by dsimp only; omega, ?_⟩;conv => whnf
    exact ⟨.ownB b (x3), ⟨rfl, rfl⟩, .inr ⟨rfl, rfl⟩, .dead, trivial, rfl, rfl, rfl, ⟨x3, hx3, rfl⟩, _, rfl, ⟨p, L2, rfl, by omega, by have := hL2.2.1; omega⟩⟩
   ·refine ⟨⟨rfl, rfl⟩, ?_⟩;conv => whnf
    refine ⟨rfl, _, (zbr hc p (by omega) 4 (by omega) b x2 hx2), ?_⟩;rintro hs_ms3 av x' t' hh_ms3 ⟨rfl, ⟨x3, hx3, rfl⟩, _, rfl, ⟨L2, rfl, hL2⟩⟩ _ _ _;try dsimp only at hh_ms3
    conv => whnf
    refine w1 1 ?_;conv => whnf
    refine wt 6 ?_;conv => whnf
    refine w1 7 ?_;conv => whnf
    refine ⟨s23, ?_⟩;conv => whnf
    refine wd1 (hK2 _ ?_);clear hK2 K2;refine W.ret ?_;conv => whnf
    refine ⟨by dsimp only; omega, ?_⟩;conv => whnf
    exact ⟨.ownB b (x3), ⟨rfl, rfl⟩, .inr ⟨rfl, rfl⟩, .dead, trivial, rfl, rfl, rfl, ⟨x3, hx3, rfl⟩, _, rfl, ⟨p, L2, rfl, by omega, by have := hL2.2.1; omega⟩⟩
-- 3 ways
 refine wrs fun K hK => ?_;conv => whnf
 refine hK _ (W.cond ⟨fun h1 => ?_, fun h1 => ?_⟩) <;> clear hK K
 ·refine W.seqK fun K2 hK2 => W.sch follows ?_;refine wt 0 ?_;conv => whnf
  refine Wany.takeF (za []) 2 (by rfl) (by rfl) (by rfl) (by rfl) (by decide) (by kernel_rfl) (by kernel_rfl) (by kernel_rfl) ?_;conv => whnf
  refine w2 1 3 ?_ ?_ <;> conv => whnf
  ·refine ⟨⟨rfl, rfl⟩, ?_⟩;conv => whnf
   refine ⟨rfl, _, (zaF hc b x2 hx2), ?_⟩;rintro hs_ms3 av x' t' hh_ms3 ⟨rfl, ⟨x3, hx3, rfl⟩, _, rfl, ⟨p2, rfl, hp2⟩⟩ _ _ _;try dsimp only at hh_ms3
   conv => whnf
   refine w1 3 ?_;conv => whnf
   refine wt 4 ?_;conv => whnf
   refine w1 5 ?_;conv => whnf
   refine ⟨s23, ?_⟩;conv => whnf
   refine wd1 (hK2 _ ?_);clear hK2 K2;have hp3 : -1000 <= p2 ∧ p2 <= 1000 := by (simp only [List.mem_cons, List.not_mem_nil, or_false] at hp2; omega)
   refine W.ret ?_;conv => whnf
   refine ⟨by dsimp only; omega, ?_⟩;conv => whnf
   exact ⟨.ownB b (x3), ⟨rfl, rfl⟩, .inr ⟨rfl, rfl⟩, .dead, trivial, rfl, rfl, rfl, ⟨x3, hx3, rfl⟩, _, rfl, ⟨p2, L, rfl, hp3, by omega⟩⟩
  ·refine w1 1 ?_;conv => whnf
   refine ⟨⟨rfl, rfl⟩, ?_⟩;conv => whnf
   refine ⟨rfl, _, (zaF hc b x2 hx2), ?_⟩;rintro hs_ms3 av x' t' hh_ms3 ⟨rfl, ⟨x3, hx3, rfl⟩, _, rfl, ⟨p2, rfl, hp2⟩⟩ _ _ _;try dsimp only at hh_ms3
   conv => whnf
   refine wt 4 ?_;conv => whnf
   refine w1 5 ?_;conv => whnf
   refine ⟨s23, ?_⟩;conv => whnf
   refine wd1 (hK2 _ ?_);clear hK2 K2;have hp3 : -1000 <= p2 ∧ p2 <= 1000 := by (simp only [List.mem_cons, List.not_mem_nil, or_false] at hp2; omega)
   refine W.ret ?_;conv => whnf
   refine ⟨by dsimp only; omega, ?_⟩;conv => whnf
   exact ⟨.ownB b (x3), ⟨rfl, rfl⟩, .inr ⟨rfl, rfl⟩, .dead, trivial, rfl, rfl, rfl, ⟨x3, hx3, rfl⟩, _, rfl, ⟨p2, L, rfl, hp3, by omega⟩⟩
-- 2 ways
 refine wrs fun K hK => ?_;conv => whnf
 refine hK _ (W.cond ⟨fun h2 => ?_, fun h2 => ?_⟩) <;> clear hK K
 ·refine wrs fun K hK => ?_;conv => whnf
  refine ⟨⟨rfl, by decide⟩, ?_⟩;conv => whnf
  intro b_26 hs_26 hh_26 hf_26;try dsimp only at hh_26 hf_26
  conv => whnf
  refine ⟨⟨rfl, by decide⟩, ?_⟩;conv => whnf
  intro b_27 hs_27 hh_27 hf_27;try dsimp only at hh_27 hf_27
  conv => whnf
  refine ⟨⟨rfl, by decide⟩, ?_⟩;conv => whnf
  intro b_28 hs_28 hh_28 hf_28;try dsimp only at hh_28 hf_28
  conv => whnf
  refine ⟨⟨rfl, by decide⟩, ?_⟩;conv => whnf
  intro b_29 hs_29 hh_29 hf_29;try dsimp only at hh_29 hf_29
  conv => whnf
  refine ⟨⟨rfl, by decide, fun y hy => by simp at hy; rcases hy with rfl | rfl | rfl | rfl <;> exact ⟨rfl, rfl⟩⟩, ?_⟩;conv => whnf
  intro b_30 hs_30 hh_30 hf_30;try dsimp only at hh_30 hf_30
  conv => whnf
  refine ⟨⟨rfl, rfl⟩, ?_⟩;conv => whnf
  refine ⟨rfl, _, (zJ hc 4 (by constructor <;> decide) b x2 hx2), ?_⟩;rintro hs_ms3 av x' t' hh_ms3 ⟨rfl, ⟨x3, hx3, rfl⟩, _, rfl, ⟨u, rfl, u0, u1, _⟩⟩ _ _ _;try dsimp only at hh_ms3
  conv => whnf
  have hu := u1 (by decide);have hu4 : u = 0 ∨ u = 1 ∨ u = 2 ∨ u = 3 := by omega
  rcases hu4 with rfl | rfl | rfl | rfl
  ·refine ⟨⟨by decide, by decide⟩, ?_⟩;conv => whnf
   refine ⟨s23, ?_⟩;conv => whnf
   refine hK _ ?_;clear hK K;refine W.ret ?_;conv => whnf
   refine ⟨by dsimp only; omega, ?_⟩;conv => whnf
   exact ⟨.ownB b (x3), ⟨rfl, rfl⟩, .inr ⟨rfl, rfl⟩, .dead, trivial, rfl, rfl, rfl, ⟨x3, hx3, rfl⟩, _, rfl, ⟨2, _, rfl, ⟨by decide, by decide⟩, (by decide)⟩⟩
  ·refine ⟨⟨by decide, by decide⟩, ?_⟩;conv => whnf
   refine ⟨s23, ?_⟩;conv => whnf
   refine hK _ ?_;clear hK K;refine W.ret ?_;conv => whnf
   refine ⟨by dsimp only; omega, ?_⟩;conv => whnf
   exact ⟨.ownB b (x3), ⟨rfl, rfl⟩, .inr ⟨rfl, rfl⟩, .dead, trivial, rfl, rfl, rfl, ⟨x3, hx3, rfl⟩, _, rfl, ⟨2, _, rfl, ⟨by decide, by decide⟩, (by decide)⟩⟩
  ·refine ⟨⟨by decide, by decide⟩, ?_⟩;conv => whnf
   refine ⟨s23, ?_⟩;conv => whnf
   refine hK _ ?_;clear hK K;refine W.ret ?_;conv => whnf
   refine ⟨by dsimp only; omega, ?_⟩;conv => whnf
   exact ⟨.ownB b (x3), ⟨rfl, rfl⟩, .inr ⟨rfl, rfl⟩, .dead, trivial, rfl, rfl, rfl, ⟨x3, hx3, rfl⟩, _, rfl, ⟨2, _, rfl, ⟨by decide, by decide⟩, (by decide)⟩⟩
  ·refine ⟨⟨by decide, by decide⟩, ?_⟩;conv => whnf
   refine ⟨s23, ?_⟩;conv => whnf
   refine hK _ ?_;clear hK K;refine W.ret ?_;conv => whnf
   refine ⟨by dsimp only; omega, ?_⟩;conv => whnf
   exact ⟨.ownB b (x3), ⟨rfl, rfl⟩, .inr ⟨rfl, rfl⟩, .dead, trivial, rfl, rfl, rfl, ⟨x3, hx3, rfl⟩, _, rfl, ⟨2, _, rfl, ⟨by decide, by decide⟩, (by decide)⟩⟩
 refine W.skip (hK1 _ ?_);clear hK1 K1;refine wrs fun K hK => ?_;conv => whnf
 refine ⟨s23, ?_⟩;conv => whnf
 refine hK _ ?_;clear hK K;refine W.ret ?_;conv => whnf
 refine ⟨by dsimp only; omega, ?_⟩;conv => whnf
 exact ⟨.ownB b (x2), ⟨rfl, rfl⟩, .inr ⟨rfl, rfl⟩, .dead, trivial, rfl, rfl, rfl, ⟨x2, hx2, rfl⟩, _, rfl, ⟨p, L, rfl, by omega, by omega⟩⟩

theorem zcN {n : Nat} {c : Nat -> Int} (hc : Byt n c) (p : Int) (l : List Int) (hl : l.length <= 100) : zix 229 [vK p none l] n c (fun r => ∃ L, r = .ints none L ∧ L.length <= 100000) := by
 rintro b x hx;refine jz (cx := cxt [] [0, 1, 3, 4, 7, 11, 1000000, 1000001]) (zu [] [0, 1, 3, 4, 7, 11, 1000000, 1000001]) Tryz.func229 rfl (by decide) Tryz.ntmps229 (Nat.le_of_ble_eq_true rfl) (Nat.le_of_ble_eq_true rfl) rfl rfl fun base hs0 O U hw v0 hb0 => ?_;refine W.sw (c' := cx [0, 1, 3, 4, 7, 11, 1000000, 1000001]) ?_;refine wrs fun K hK => ?_;conv => whnf
 refine ⟨rfl, ?_⟩;conv => whnf
 intro b_3 hs_3 hh_3 hf_3;try dsimp only at hh_3 hf_3
 conv => whnf
 refine hK _ ?_;clear hK K;refine W.seqK fun K1 hK1 => ?_;refine wrs fun K hK => ?_;conv => whnf
 refine zb rfl (zC p none l (by omega)) fun hs' hhs => ?_;try dsimp only at hhs
 conv => whnf
 refine hK _ (W.cond ⟨fun h => ?_, fun h => ?_⟩) <;> clear hK K
 ·refine wrs fun K hK => ?_;conv => whnf
  refine ⟨⟨rfl, by decide⟩, ?_⟩;conv => whnf
  intro b_8 hs_8 hh_8 hf_8;try dsimp only at hh_8 hf_8
  conv => whnf
  refine hK _ ?_;clear hK K;refine W.ret ?_;conv => whnf
  refine ⟨by dsimp only; omega, ?_⟩;conv => whnf
  refine ⟨rfl, ?_⟩;conv => whnf
  refine ⟨.ints none [1], ⟨.inl rfl, rfl⟩, ?_⟩;conv => whnf
  exact ⟨.ownB b (x), ⟨rfl, rfl⟩, .inr ⟨rfl, rfl⟩, .dead, trivial, rfl, rfl, rfl, ⟨x, hx, rfl⟩, _, rfl, ⟨_, rfl, by decide⟩⟩
 have hk : IsFld p l := zaA.1 (by simpa using h);refine W.skip (hK1 _ ?_);clear hK1 K1;refine W.seqK fun K1 hK1 => ?_;refine wrs fun K hK => ?_;conv => whnf
 refine ⟨⟨rfl, rfl⟩, ?_⟩;conv => whnf
 refine ⟨rfl, _, (zJ hc 24 (by constructor <;> decide) b x hx), ?_⟩;rintro hs_ms1 av x' t' hh_ms1 ⟨rfl, ⟨x1, hx1, rfl⟩, _, rfl, ⟨q, rfl, q0, q1, _⟩⟩ _ _ _;try dsimp only at hh_ms1
 conv => whnf
 refine hK _ (W.cond ⟨fun h1 => ?_, fun h1 => ?_⟩) <;> clear hK K
 ·refine wrs fun K hK => ?_;conv => whnf
  refine hK _ ?_;clear hK K;refine W.ret ?_;conv => whnf
  refine ⟨by dsimp only; omega, ?_⟩;conv => whnf
  refine ⟨rfl, ?_⟩;conv => whnf
  refine ⟨.ints none l, ⟨rfl, rfl⟩, ?_⟩;conv => whnf
  exact ⟨.ownB b (x1), ⟨rfl, rfl⟩, .inr ⟨rfl, rfl⟩, .dead, trivial, rfl, rfl, rfl, ⟨x1, hx1, rfl⟩, _, rfl, ⟨_, rfl, by omega⟩⟩
 refine W.skip (hK1 _ ?_);clear hK1 K1;have hp2 := zaB hk.mod.1;have ho := hk.ord;have hpos : 0 < p ^ (l.length - 1) := Int.pow_pos (by omega);refine W.seqK fun K2 hK2 => W.sch follows ?_;refine wt 1 ?_;conv => whnf
 refine w2 0 2 ?_ ?_ <;> conv => whnf
 ·refine w1 2 ?_;conv => whnf
  refine w1 3 ?_;conv => whnf
  refine zb rfl (zG p none l hk) fun hs' hhs => ?_;try dsimp only at hhs
  conv => whnf
  refine w1 4 ?_;conv => whnf
  refine ⟨⟨rfl, rfl⟩, ?_⟩;conv => whnf
  refine ⟨rfl, _, (zJ hc (p ^ (l.length - 1)) (by constructor <;> omega) b x1 hx1), ?_⟩;rintro hs_ms2 av x' t' hh_ms2 ⟨rfl, ⟨x2, hx2, rfl⟩, _, rfl, ⟨u, rfl, u0, u1, u2⟩⟩ _ _ _;try dsimp only at hh_ms2
  obtain ⟨k, rfl⟩ : ∃ k : Nat, u = k := ⟨u.toNat, by omega⟩
  have hk2 : k <= 20000 := by (by_cases hh : 1 < p ^ (l.length - 1); (have := u1 hh; omega); (have := u2 (by omega); omega))
  conv => whnf
  refine w1 5 ?_;conv => whnf
  refine zb rfl (yK p none l k hp2.1 (by omega)) fun hs' hhs => ?_;try dsimp only at hhs
  conv => whnf
  refine w1 6 ?_;conv => whnf
  refine wd1 (hK2 _ ?_);clear hK2 K2;have hdl : (dig p.toNat k).length <= 100000 := by (have := yx (p := p.toNat) (by omega) k k (Nat.lt_pow_self (by omega)); omega)
  refine W.ret ?_;conv => whnf
  refine ⟨by dsimp only; omega, ?_⟩;conv => whnf
  refine ⟨rfl, ?_⟩;conv => whnf
  refine ⟨.ints none (dig p.toNat k), ⟨rfl, rfl⟩, ?_⟩;conv => whnf
  exact ⟨.ownB b (x2), ⟨rfl, rfl⟩, .inr ⟨rfl, rfl⟩, .dead, trivial, rfl, rfl, rfl, ⟨x2, hx2, rfl⟩, _, rfl, ⟨_, rfl, hdl⟩⟩
 ·refine w2 0 3 ?_ ?_ <;> conv => whnf
  ·refine w1 3 ?_;conv => whnf
   refine zb rfl (zG p none l hk) fun hs' hhs => ?_;try dsimp only at hhs
   conv => whnf
   refine w1 4 ?_;conv => whnf
   refine ⟨⟨rfl, rfl⟩, ?_⟩;conv => whnf
   refine ⟨rfl, _, (zJ hc (p ^ (l.length - 1)) (by constructor <;> omega) b x1 hx1), ?_⟩;rintro hs_ms2 av x' t' hh_ms2 ⟨rfl, ⟨x2, hx2, rfl⟩, _, rfl, ⟨u, rfl, u0, u1, u2⟩⟩ _ _ _;try dsimp only at hh_ms2
   obtain ⟨k, rfl⟩ : ∃ k : Nat, u = k := ⟨u.toNat, by omega⟩
   have hk2 : k <= 20000 := by (by_cases hh : 1 < p ^ (l.length - 1); (have := u1 hh; omega); (have := u2 (by omega); omega))
   conv => whnf
   refine w1 5 ?_;conv => whnf
   refine zb rfl (yK p none l k hp2.1 (by omega)) fun hs' hhs => ?_;try dsimp only at hhs
   conv => whnf
   refine w1 6 ?_;conv => whnf
   refine wd1 (hK2 _ ?_);clear hK2 K2;have hdl : (dig p.toNat k).length <= 100000 := by (have := yx (p := p.toNat) (by omega) k k (Nat.lt_pow_self (by omega)); omega)
   refine W.ret ?_;conv => whnf
   refine ⟨by dsimp only; omega, ?_⟩;conv => whnf
   refine ⟨rfl, ?_⟩;conv => whnf
   refine ⟨.ints none (dig p.toNat k), ⟨rfl, rfl⟩, ?_⟩;conv => whnf
   exact ⟨.ownB b (x2), ⟨rfl, rfl⟩, .inr ⟨rfl, rfl⟩, .dead, trivial, rfl, rfl, rfl, ⟨x2, hx2, rfl⟩, _, rfl, ⟨_, rfl, hdl⟩⟩
  ·refine zb rfl (zG p none l hk) fun hs' hhs => ?_;try dsimp only at hhs
   conv => whnf
   refine w2 0 4 ?_ ?_ <;> conv => whnf
   ·refine w1 4 ?_;conv => whnf
    refine ⟨⟨rfl, rfl⟩, ?_⟩;conv => whnf
    refine ⟨rfl, _, (zJ hc (p ^ (l.length - 1)) (by constructor <;> omega) b x1 hx1), ?_⟩;rintro hs_ms2 av x' t' hh_ms2 ⟨rfl, ⟨x2, hx2, rfl⟩, _, rfl, ⟨u, rfl, u0, u1, u2⟩⟩ _ _ _;try dsimp only at hh_ms2
    obtain ⟨k, rfl⟩ : ∃ k : Nat, u = k := ⟨u.toNat, by omega⟩
    have hk2 : k <= 20000 := by (by_cases hh : 1 < p ^ (l.length - 1); (have := u1 hh; omega); (have := u2 (by omega); omega))
    conv => whnf
    refine w1 5 ?_;conv => whnf
    refine zb rfl (yK p none l k hp2.1 (by omega)) fun hs' hhs => ?_;try dsimp only at hhs
    conv => whnf
    refine w1 6 ?_;conv => whnf
    refine wd1 (hK2 _ ?_);clear hK2 K2;have hdl : (dig p.toNat k).length <= 100000 := by (have := yx (p := p.toNat) (by omega) k k (Nat.lt_pow_self (by omega)); omega)
    refine W.ret ?_;conv => whnf
    refine ⟨by dsimp only; omega, ?_⟩;conv => whnf
    refine ⟨rfl, ?_⟩;conv => whnf
    refine ⟨.ints none (dig p.toNat k), ⟨rfl, rfl⟩, ?_⟩;conv => whnf
    exact ⟨.ownB b (x2), ⟨rfl, rfl⟩, .inr ⟨rfl, rfl⟩, .dead, trivial, rfl, rfl, rfl, ⟨x2, hx2, rfl⟩, _, rfl, ⟨_, rfl, hdl⟩⟩
   ·refine ⟨⟨rfl, rfl⟩, ?_⟩;conv => whnf
    refine ⟨rfl, _, (zJ hc (p ^ (l.length - 1)) (by constructor <;> omega) b x1 hx1), ?_⟩;rintro hs_ms2 av x' t' hh_ms2 ⟨rfl, ⟨x2, hx2, rfl⟩, _, rfl, ⟨u, rfl, u0, u1, u2⟩⟩ _ _ _;try dsimp only at hh_ms2
    obtain ⟨k, rfl⟩ : ∃ k : Nat, u = k := ⟨u.toNat, by omega⟩
    have hk2 : k <= 20000 := by (by_cases hh : 1 < p ^ (l.length - 1); (have := u1 hh; omega); (have := u2 (by omega); omega))
    conv => whnf
    refine w1 0 ?_;conv => whnf
    refine w1 5 ?_;conv => whnf
    refine zb rfl (yK p none l k hp2.1 (by omega)) fun hs' hhs => ?_;try dsimp only at hhs
    conv => whnf
    refine w1 6 ?_;conv => whnf
    refine wd1 (hK2 _ ?_);clear hK2 K2;have hdl : (dig p.toNat k).length <= 100000 := by (have := yx (p := p.toNat) (by omega) k k (Nat.lt_pow_self (by omega)); omega)
    refine W.ret ?_;conv => whnf
    refine ⟨by dsimp only; omega, ?_⟩;conv => whnf
    refine ⟨rfl, ?_⟩;conv => whnf
    refine ⟨.ints none (dig p.toNat k), ⟨rfl, rfl⟩, ?_⟩;conv => whnf
    exact ⟨.ownB b (x2), ⟨rfl, rfl⟩, .inr ⟨rfl, rfl⟩, .dead, trivial, rfl, rfl, rfl, ⟨x2, hx2, rfl⟩, _, rfl, ⟨_, rfl, hdl⟩⟩
-- 4 ways






theorem RT.toV {f : Nat} {xs : List V} {l : List Int} {c : Int} (h : FnT Tryz.prog f xs (RT l c)) : FnV f xs (.tup [.ints none l, .int .i64 c]) :=
 FnT.toV h fun _ _ x tb hx => by
  obtain ⟨b, rfl, hb⟩ := hx;refine ⟨_, rfl, rfl, fun j hj => ?_⟩
  match j, hj with
  | 0, _ => exact ⟨l, rfl, hb, rfl⟩
  | 1, _ => rfl
theorem znj {p : Int} (hp : p ∈ zO) : letI := yk hp; ∀ f X : Poly p, dg X < dg f -> dg f <= 10 -> Has p f.l X.l := by
 letI := yk hp;intro f X h1 h2;have h3 : X.l.length < f.l.length := h1;have h4 : f.l.length <= 10 := h2;refine ⟨⟨decide_eq_true hp, by omega, fun j _ => by have := za2 X j; omega, ?_⟩, h1⟩
 by_cases h : X.l.length = 0
 ·exact .inl (by omega)
 ·exact .inr (X.ok.2 _ (by omega))
theorem zcO {p : Int} {l : List Int} {n : Nat} {X : Nat -> List Int} (hk : IsFld p l) (h : ∀ i, i < n -> Has p l (X i)) : zo p l true n X = 0 := by
 unfold zo; rw [zg hk, zg h]; rfl


open Go Go.RowKit Go.ChangeShapes Go.WideShapes Go.ChangeAt Go.Proofs Go.Proofs.YtlmckocbhcpmdaaGreat

theorem znk {P : Program} {f : Nat} {xs : List V} {r : V} {w : World} {vs : Array Value} (h : Fn P f xs (fun _ _ a => a = .v r)) (hl : vs.size = xs.length)
  (hr : ∀ j, j < xs.length -> Rep (zfQ w) w.heap (xs.getD j .nil) (vs.getD j undef)) :
  Calls P f vs w fun e w' => ∃ v, e = .returned v ∧ Below w.heap.size w w' ∧ Rep (okR (fun _ => False) w'.heap.size) w'.heap r v := by
 refine (h.2 (fun _ => False) w vs (fun _ h => h.elim) hl hr).mono fun e w' ⟨v, av, hi, h1, h2, h3, h4, h5⟩ => ?_;subst h3;obtain ⟨_, h6, _⟩ := h5;refine ⟨v, h1, h4, ?_⟩;exact Rep.mono h6 fun g b hb => ⟨⟨hb.1, fun h => h.elim, hb.2.2⟩, rfl⟩

theorem ownP : ownKnob Tryz.prog.godebug = none := by kernel_rfl
theorem znl : laidOutB Tryz.prog = true := by kernel_rfl
open Go Go.RowKit Go.ChangeShapes Go.WideShapes Go.ChangeAt Go.Proofs Go.Proofs.YtlmckocbhcpmdaaGreat

section
variable {H : Type} {enc : TypeId × Value -> H} {P : Program} {w : World}
def zoK (xs : List V) : Prop := ∃ n : Int, xs = [.int .u8 n] ∧ 0 <= n ∧ n <= 255
theorem zo2 {n : Int} (h : (Lit.int .u8 n).wf = true) : 0 <= n ∧ n <= 255 := by
 simp only [Lit.wf, Bool.and_eq_true, decide_eq_true_eq] at h
 have h1 : IntKind.u8.min = 0 := rfl;have h2 : IntKind.u8.max = 255 := rfl;omega
theorem znm {t : TypeId} (ht : P.underlying t = some (.int .u8)) : zhS enc P w t 1 zoK := by
 intro fuel cs d ps h;obtain ⟨n, hc, hx, hw⟩ := DataW.trod_int ht h;subst hc;refine ⟨rfl, _, ⟨n, rfl, zo2 hw⟩, rfl, by simp [V.isCell], fun j hj => ?_⟩;obtain rfl : j = 0 := by omega
 exact .int _ _
theorem znn {xs : List V} (h : zjc 1 zeh zoK xs) : ∃ (n : Nat) (c : Nat -> Int), (∀ i, 0 <= c i ∧ c i <= 255) ∧ xs.length = 1 ∧ ∀ ok h' v, Rep ok h' (xs.getD 0 .nil) v -> Rep ok h' (vBy n c) v := by
 obtain ⟨n, f, rfl, _, hf⟩ := h
 have hf2 : ∀ i, ∃ z : Int, (0 <= z ∧ z <= 255) ∧ (i < n -> f i = .int .u8 z) := by
  intro i
  by_cases hi : i < n
  ·obtain ⟨ys, ⟨z, rfl, hz⟩, e⟩ := hf i hi;exact ⟨z, hz, fun _ => e⟩
  ·exact ⟨0, by omega, fun h => absurd h hi⟩
 refine ⟨n, fun i => Classical.choose (hf2 i), fun i => (Classical.choose_spec (hf2 i)).1, rfl, fun ok h' v r => zfE (x := .vals none 1 n f) ⟨rfl, rfl, rfl, fun i hi => (Classical.choose_spec (hf2 i)).2 hi⟩ r⟩
end
theorem zno {P : Program} {f : Nat} {xs : List V} {w : World} {vs : Array Value} (h : Fn P f xs (fun _ _ a => a = .v (.bool true))) (hl : vs.size = xs.length)
  (hr : ∀ j, j < xs.length -> Rep (zfQ w) w.heap (xs.getD j .nil) (vs.getD j undef)) :
  Calls P f vs w fun e w' => e = .returned (.bool true) ∧ Below w.heap.size w w' :=
 (znk h hl hr).mono fun e w' ⟨v, h1, h2, h3⟩ => by
  cases h3
  exact ⟨h1, h2⟩
theorem zn8 : Tryz.prog.cellsOf 5 = 1 := by kernel_rfl
theorem zjR {H : Type} {enc : TypeId × Value -> H} {W : World} : zhS enc Tryz.prog W 22 1 (zjc 1 zeh zoK) :=
 zhU Tryz.underlying22 zn8 (fun xs h1 h2 => znG xs h1 h2) (znm Tryz.underlying5)


theorem jJ {n : Nat} {c : Nat -> Int} (hc : Byt n c) (p : Int) (L : List Int) (hL : L.length <= 100) : zix 234 [vK p none L] n c (fun r => ∃ e : Int, r = .int .i64 e ∧ 0 <= e ∧ e <= 100000) := by
 rintro b x hx;refine jz (cx := cxt [] [0, 1, 3, 4, 5, 8, 1000000, 1000001]) (zu [] [0, 1, 3, 4, 5, 8, 1000000, 1000001]) Tryz.func234 rfl (by decide) Tryz.ntmps234 (Nat.le_of_ble_eq_true rfl) (Nat.le_of_ble_eq_true rfl) rfl rfl fun base hs0 O U hw v0 hb0 => ?_;refine W.sw (c' := cx [0, 1, 3, 4, 5, 8, 1000000, 1000001]) ?_;refine wrs fun K hK => ?_;conv => whnf
 refine ⟨rfl, ?_⟩;conv => whnf
 intro b_3 hs_3 hh_3 hf_3;try dsimp only at hh_3 hf_3
 conv => whnf
 refine hK _ ?_;clear hK K;refine W.seqK fun K1 hK1 => ?_;refine wrs fun K hK => ?_;conv => whnf
 refine zb rfl (zC p none L (by omega)) fun hs' hhs => ?_;try dsimp only at hhs
 conv => whnf
 refine hK _ (W.cond ⟨fun h => ?_, fun h => ?_⟩) <;> clear hK K
 ·refine wrs fun K hK => ?_;conv => whnf
  refine hK _ ?_;clear hK K;refine W.ret ?_;conv => whnf
  refine ⟨by dsimp only; omega, ?_⟩;conv => whnf
  refine ⟨rfl, ?_⟩;conv => whnf
  refine ⟨.int .i64 1, ⟨rfl, rfl⟩, ?_⟩;conv => whnf
  exact ⟨.ownB b (x), ⟨rfl, rfl⟩, .inr ⟨rfl, rfl⟩, .dead, trivial, rfl, rfl, rfl, ⟨x, hx, rfl⟩, _, rfl, ⟨1, rfl, by decide, by decide⟩⟩
 have hk : IsFld p L := zaA.1 (by simpa using h);have ho := hk.ord;obtain ⟨hpp, f, rfl, hfi, _, _, hf9⟩ := xp hk;letI := yk hpp;have h2 := hfi.1;obtain ⟨d, hd⟩ : ∃ d, dg f = d + 1 := ⟨dg f - 1, by omega⟩
 obtain ⟨hq1, hq2, hq3⟩ := jr hk hd;refine W.skip (hK1 _ ?_);clear hK1 K1;refine wrs fun K hK => ?_;conv => whnf
 refine zb rfl (zG p none f.l hk) fun hs' hhs => ?_;try dsimp only at hhs
 conv => whnf
 rw [hq1];refine hK _ ?_;clear hK K;refine wrs fun K hK => ?_;conv => whnf
 refine ⟨oo, ?_⟩;conv => whnf
 refine ⟨oo, ?_⟩;conv => whnf
 refine ⟨⟨rfl, rfl⟩, ?_⟩;conv => whnf
 refine ⟨rfl, _, (zJ hc (((p.toNat ^ d : Nat) : Int) - 1) (by constructor <;> omega) b x hx), ?_⟩;rintro hs_ms1 av x' t' hh_ms1 ⟨rfl, ⟨x1, hx1, rfl⟩, _, rfl, ⟨u, rfl, u0, u1, u2⟩⟩ _ _ _;try dsimp only at hh_ms1
 conv => whnf
 have u3 : u <= 20000 := by by_cases hh : 1 < ((p.toNat ^ d : Nat) : Int) - 1; (have := u1 hh; omega); (have := u2 (by omega); omega)
 refine ⟨oo, ?_⟩;conv => whnf
 refine ⟨⟨rfl, by decide⟩, ?_⟩;conv => whnf
 intro b_7 hs_7 hh_7 hf_7;try dsimp only at hh_7 hf_7
 conv => whnf
 refine ⟨⟨rfl, rfl⟩, ?_⟩;conv => whnf
 refine ⟨rfl, _, (j9 hc none [1, 2, 3, 4, 5, ((p.toNat ^ d : Nat) : Int) - 1, ((p.toNat ^ d : Nat) : Int), 0, 1 + u] ⟨(by show 1 <= 9; omega), (by show 9 <= 1000; omega)⟩ b x1 hx1), ?_⟩;rintro hs_ms2 av x' t' hh_ms2 ⟨rfl, ⟨x2, hx2, rfl⟩, _, rfl, ⟨q, rfl, hq⟩⟩ _ _ _;try dsimp only at hh_ms2
 conv => whnf
 refine hK _ ?_;clear hK K;have hq : 0 <= q ∧ q <= 100000 := by (simp only [List.mem_cons, List.not_mem_nil, or_false] at hq; omega)
 refine W.ret ?_;conv => whnf
 refine ⟨by dsimp only; omega, ?_⟩;conv => whnf
 refine ⟨rfl, ?_⟩;conv => whnf
 refine ⟨.int .i64 q, ⟨rfl, rfl⟩, ?_⟩;conv => whnf
 exact ⟨.ownB b (x2), ⟨rfl, rfl⟩, .inr ⟨rfl, rfl⟩, .dead, trivial, rfl, rfl, rfl, ⟨x2, hx2, rfl⟩, _, rfl, ⟨q, rfl, hq⟩⟩

theorem kL {n : Nat} {c : Nat -> Int} (hc : Byt n c) : Fn Tryz.prog 95 [vBy n c] (fun _ _ z => ∃ p L e, z = .v (.tup [vK p none L, .int .i64 e]) ∧ (-1000 <= p ∧ p <= 1000) ∧ L.length <= 100 ∧ (0 <= e ∧ e <= 100000)) := by
 refine zd (za [0, 2, 3, 4, 5]) Tryz.func95 rfl (by decide) Tryz.ntmps95 (Nat.le_of_ble_eq_true rfl) fun base => ?_;refine wrs fun K hK => ?_;conv => whnf
 intro b_2 hs_2 hh_2 hf_2;try dsimp only at hh_2 hf_2
 conv => whnf
 refine hK _ ?_;clear hK K;refine wrs fun K hK => ?_;conv => whnf
 refine yA rfl (kF hc) ?_;rintro lo hi hi' z hl1 hl2 hl3 ⟨b, x, hx, rfl⟩ _;try dsimp only at hl1 hl2
 conv => whnf
 refine hK _ ?_;clear hK K;refine wrs fun K hK => ?_;conv => whnf
 refine ⟨⟨rfl, rfl⟩, ?_⟩;conv => whnf
 refine ⟨rfl, _, (zaS hc b x hx), ?_⟩;rintro hs_ms1 av x' t' hh_ms1 ⟨rfl, ⟨x1, hx1, rfl⟩, _, rfl, ⟨p, L, rfl, hp, hL⟩⟩ _ _ _;try dsimp only at hh_ms1
 conv => whnf
 intro b_5 hs_5 hh_5 hf_5;try dsimp only at hh_5 hf_5
 conv => whnf
 refine ⟨s23, ?_⟩;conv => whnf
 refine hK _ ?_;clear hK K;refine W.rgh follows fun K hK => ?_;refine Wgh.take (za []) 0 (by rfl) (fun d hd => by injection hd with hd; subst hd; decide) (by kernel_rfl) (by kernel_rfl) (by rfl) ?_;conv => whnf
 refine Wgh.take (za []) 1 (by rfl) (fun d hd => by injection hd with hd; subst hd; decide) (by kernel_rfl) (by kernel_rfl) (by rfl) ?_;conv => whnf
 refine Wgh.take (za []) 2 (by rfl) (fun d hd => by injection hd with hd; subst hd; decide) (by kernel_rfl) (by kernel_rfl) (by rfl) ?_;conv => whnf
 refine Wgh.one (za []) 3 [0] (by rfl) (by kernel_rfl) (by kernel_rfl) (by kernel_rfl) (by rfl) (by kernel_rfl) ⟨(by (conv => whnf); exact ⟨Nat.le_refl _, rfl⟩), (by (conv => whnf); exact ⟨Nat.le_refl _, rfl⟩), (by (conv => whnf); exact ⟨Nat.le_refl _, rfl⟩), trivial⟩ ?_;conv => whnf
 refine ⟨⟨rfl, rfl⟩, ?_⟩;conv => whnf
 refine ⟨rfl, _, (jJ hc p L hL b x1 hx1), ?_⟩;rintro hs_ms2 av x' t' hh_ms2 ⟨rfl, ⟨x2, hx2, rfl⟩, _, rfl, ⟨e, rfl, he0, he1⟩⟩ _ _ _;try dsimp only at hh_ms2
 conv => whnf
 refine Wgh.one (za []) 4 [] (by rfl) (by kernel_rfl) (by kernel_rfl) (by kernel_rfl) (by rfl) (by kernel_rfl) ⟨(by (conv => whnf); exact ⟨Nat.le_refl _, rfl⟩), trivial⟩ ?_;conv => whnf
 refine ⟨s23, ?_⟩;conv => whnf
 refine Wgh.one (za []) 5 [] (by rfl) (by kernel_rfl) (by kernel_rfl) (by kernel_rfl) (by rfl) (by kernel_rfl) trivial ?_;conv => whnf
 refine Wgh.done (za []) (by rfl) (by kernel_rfl) (by kernel_rfl) (by kernel_rfl) trivial (hK _ ?_);clear hK K;refine W.ret ?_;conv => whnf
 exact ⟨⟨trivial, trivial, trivial⟩, .v (.int .i64 e), ⟨rfl, rfl⟩, trivial, p, L, e, rfl, hp, hL, he0, he1⟩

theorem kZ {n : Nat} {c : Nat -> Int} (hc : Byt n c) : Fn Tryz.prog 89 [vBy n c] (fun _ _ z => ∃ p L, z = .v (vK p none L) ∧ (-1000 <= p ∧ p <= 1000) ∧ L.length <= 100) := by
 refine zd (za [0, 2]) Tryz.func89 rfl (by decide) Tryz.ntmps89 (Nat.le_of_ble_eq_true rfl) fun base => ?_;refine wrs fun K hK => ?_;conv => whnf
 intro b_2 hs_2 hh_2 hf_2;try dsimp only at hh_2 hf_2
 conv => whnf
 refine hK _ ?_;clear hK K;refine wrs fun K hK => ?_;conv => whnf
 refine yA rfl (kF hc) ?_;rintro lo hi hi' z hl1 hl2 hl3 ⟨b, x, hx, rfl⟩ _;try dsimp only at hl1 hl2
 conv => whnf
 refine ⟨⟨rfl, rfl⟩, ?_⟩;conv => whnf
 refine ⟨rfl, _, (zaS hc b x hx), ?_⟩;rintro hs_ms1 av x' t' hh_ms1 ⟨rfl, ⟨x1, hx1, rfl⟩, _, rfl, ⟨p, L, rfl, hp, hL⟩⟩ _ _ _;try dsimp only at hh_ms1
 conv => whnf
 refine ⟨s23, ?_⟩;conv => whnf
 refine hK _ ?_;clear hK K;refine W.ret ?_;conv => whnf
 exact ⟨⟨trivial, trivial, trivial⟩, p, L, rfl, hp, hL⟩
theorem k0 {n : Nat} {c : Nat -> Int} (hc : Byt n c) : Fn Tryz.prog 92 [vBy n c] (fun _ _ z => ∃ p L, z = .v (vK p none L) ∧ (-1000 <= p ∧ p <= 1000) ∧ L.length <= 100) := by
 refine zd (za [0, 2]) Tryz.func92 rfl (by decide) Tryz.ntmps92 (Nat.le_of_ble_eq_true rfl) fun base => ?_;refine wrs fun K hK => ?_;conv => whnf
 intro b_2 hs_2 hh_2 hf_2;try dsimp only at hh_2 hf_2
 conv => whnf
 refine hK _ ?_;clear hK K;refine wrs fun K hK => ?_;conv => whnf
 refine yA rfl (kF hc) ?_;rintro lo hi hi' z hl1 hl2 hl3 ⟨b, x, hx, rfl⟩ _;try dsimp only at hl1 hl2
 conv => whnf
 refine ⟨⟨rfl, rfl⟩, ?_⟩;conv => whnf
 refine ⟨rfl, _, (zaS hc b x hx), ?_⟩;rintro hs_ms1 av x' t' hh_ms1 ⟨rfl, ⟨x1, hx1, rfl⟩, _, rfl, ⟨p, L, rfl, hp, hL⟩⟩ _ _ _;try dsimp only at hh_ms1
 conv => whnf
 refine ⟨s23, ?_⟩;conv => whnf
 refine hK _ ?_;clear hK K;refine W.ret ?_;conv => whnf
 exact ⟨⟨trivial, trivial, trivial⟩, p, L, rfl, hp, hL⟩

theorem k6 {n : Nat} {c : Nat -> Int} (hc : Byt n c) : Fn Tryz.prog 98 [vBy n c] (fun _ _ z => ∃ p L X e, z = .v (.tup [vK p none L, .ints none X, .int .i64 e]) ∧ (-1000 <= p ∧ p <= 1000) ∧ L.length <= 100 ∧ X.length <= 100000 ∧ (0 <= e ∧ e <= 100000)) := by
 refine zd (za [0, 2, 3, 4, 5, 6, 7, 8, 39]) Tryz.func98 rfl (by decide) Tryz.ntmps98 (Nat.le_of_ble_eq_true rfl) fun base => ?_;refine wrs fun K hK => ?_;conv => whnf
 intro b_2 hs_2 hh_2 hf_2;try dsimp only at hh_2 hf_2
 conv => whnf
 refine hK _ ?_;clear hK K;refine wrs fun K hK => ?_;conv => whnf
 refine yA rfl (kF hc) ?_;rintro lo hi hi' z hl1 hl2 hl3 ⟨b, x, hx, rfl⟩ _;try dsimp only at hl1 hl2
 conv => whnf
 refine hK _ ?_;clear hK K;refine wrs fun K hK => ?_;conv => whnf
 refine ⟨⟨rfl, rfl⟩, ?_⟩;conv => whnf
 refine ⟨rfl, _, (zaS hc b x hx), ?_⟩;rintro hs_ms1 av x' t' hh_ms1 ⟨rfl, ⟨x1, hx1, rfl⟩, _, rfl, ⟨p, L, rfl, hp, hL⟩⟩ _ _ _;try dsimp only at hh_ms1
 conv => whnf
 intro b_6 hs_6 hh_6 hf_6;try dsimp only at hh_6 hf_6
 conv => whnf
 refine ⟨s23, ?_⟩;conv => whnf
 refine hK _ ?_;clear hK K;refine wrs fun K hK => ?_;conv => whnf
 refine ⟨⟨rfl, rfl⟩, ?_⟩;conv => whnf
 refine ⟨rfl, _, (zcN hc p L hL b x1 hx1), ?_⟩;rintro hs_ms2 av x' t' hh_ms2 ⟨rfl, ⟨x2, hx2, rfl⟩, _, rfl, ⟨X, rfl, hX⟩⟩ _ _ _;try dsimp only at hh_ms2
 conv => whnf
 refine hK _ ?_;clear hK K;refine wrs fun K hK => ?_;conv => whnf
 refine ⟨⟨rfl, rfl⟩, ?_⟩;conv => whnf
 refine ⟨rfl, _, (jJ hc p L hL b x2 hx2), ?_⟩;rintro hs_ms3 av x' t' hh_ms3 ⟨rfl, ⟨x3, hx3, rfl⟩, _, rfl, ⟨e, rfl, he0, he1⟩⟩ _ _ _;try dsimp only at hh_ms3
 conv => whnf
 refine hK _ ?_;clear hK K;refine W.seqK fun K1 hK1 => ?_
 have fin : ∀ (t : S), base <= t.hs -> zy t.env [(2, .ownB b_2 (.agg [.int .i64 0, .nil])), (6, .ownB b_6 (vK p none L)), (7, .v (.ints none X)), (8, .v (.int .i64 e))] -> K1 t := by
  intro t h9 h10;refine hK1 _ (W.weak (t := ⟨[(2, .ownB b_2 (.agg [.int .i64 0, .nil])), (6, .ownB b_6 (vK p none L)), (7, .v (.ints none X)), (8, .v (.int .i64 e))], base⟩) ⟨h9, h10⟩ (Nat.le_refl _) ?_);clear hK1 K1;refine wrs fun K hK => ?_;conv => whnf
  refine ⟨s23, ?_⟩;conv => whnf
  refine hK _ ?_;clear hK K;refine W.ret ?_;conv => whnf
  exact ⟨⟨trivial, trivial, trivial⟩, .v (.ints none X), ⟨rfl, rfl⟩, trivial, .v (.int .i64 e), ⟨rfl, rfl⟩, trivial, p, L, X, e, rfl, hp, hL, hX, he0, he1⟩
 refine wrs fun K hK => ?_;conv => whnf
 refine zb rfl (zC p none L (by omega)) fun hs' hhs => ?_;try dsimp only at hhs
 conv => whnf
 refine ⟨fun hk => ?_, fun hk => ?_⟩
 ·conv => whnf
  refine zb rfl (ke p none none L X (by omega)) fun hs' hhs => ?_;try dsimp only at hhs
  conv => whnf
  refine ⟨fun hxk => ?_, fun hxk => ?_⟩
  ·conv => whnf
   refine ⟨fun h1 => ?_, fun h1 => ?_⟩
   ·conv => whnf
    refine ⟨fun h2 => ?_, fun h2 => ?_⟩
    ·conv => whnf
     refine ⟨⟨rfl, rfl⟩, ?_⟩;conv => whnf
     refine ⟨rfl, _, (zJ hc 2 (by constructor <;> decide) b x3 hx3), ?_⟩;rintro hs_ms4 av x' t' hh_ms4 ⟨rfl, ⟨x4, hx4, rfl⟩, _, rfl, ⟨q, rfl, q0, q1, _⟩⟩ _ _ _;try dsimp only at hh_ms4
     conv => whnf
     refine hK _ (W.cond ⟨fun h => ?_, fun h => ?_⟩) <;> clear hK K
     ·clear fin hK1;have hk : IsFld p L := zaA.1 hk;have hxk : Has p L X := zaA.1 hxk;obtain ⟨hpp, f, rfl, hfi, _, _, hf9⟩ := xp hk;letI := yk hpp;have hf0 := hfi.ne;obtain ⟨X, rfl⟩ := zaC hxk.1;have hxl : dg X < dg f := hxk.2;have hR (k : Nat) : dg (rem (X ^ k) f) < dg f := zN _ hf0;obtain ⟨k, rfl⟩ : ∃ k : Nat, e = k := ⟨e.toNat, by omega⟩
      have hRk := hR k;have hRl : (rem (X ^ k) f).l.length = dg (rem (X ^ k) f) := rfl;refine W.rgh follows fun K hK => ?_;refine Wgh.take (za []) 0 (by rfl) (fun d hd => by injection hd with hd; subst hd; decide) (by kernel_rfl) (by kernel_rfl) (by rfl) ?_;conv => whnf
      refine Wgh.take (za []) 1 (by rfl) (fun d hd => by injection hd with hd; subst hd; decide) (by kernel_rfl) (by kernel_rfl) (by rfl) ?_;conv => whnf
      refine Wgh.take (za []) 2 (by rfl) (fun d hd => by injection hd with hd; subst hd; decide) (by kernel_rfl) (by kernel_rfl) (by rfl) ?_;conv => whnf
      refine Wgh.take (za []) 3 (by rfl) (fun d hd => by injection hd with hd; subst hd; decide) (by kernel_rfl) (by kernel_rfl) (by rfl) ?_;conv => whnf
      refine Wgh.take (za []) 5 (by rfl) (fun d hd => by injection hd with hd; subst hd; decide) (by kernel_rfl) (by kernel_rfl) (by rfl) ?_;conv => whnf
      refine Wgh.one (za []) 4 [5, 0] (by rfl) (by kernel_rfl) (by kernel_rfl) (by kernel_rfl) (by rfl) (by kernel_rfl) ⟨(by (conv => whnf); exact ⟨Nat.le_refl _, rfl⟩), (by (conv => whnf); exact ⟨Nat.le_refl _, rfl⟩), (by (conv => whnf); exact ⟨Nat.le_refl _, rfl⟩), (by (conv => whnf); exact ⟨Nat.le_refl _, rfl⟩), (by (conv => whnf); exact ⟨Nat.le_refl _, rfl⟩), trivial⟩ ?_;conv => whnf
      refine zb rfl (vG p none none f X k (by omega) (by omega) (by omega) hf0) fun hs' hhs => ?_;try dsimp only at hhs
      conv => whnf
      refine Wgh.one (za []) 6 [5] (by rfl) (by kernel_rfl) (by kernel_rfl) (by kernel_rfl) (by rfl) (by kernel_rfl) ⟨(by (conv => whnf); exact ⟨Nat.le_refl _, rfl⟩), (by (conv => whnf); exact ⟨Nat.le_refl _, rfl⟩), trivial⟩ ?_;conv => whnf
      refine ⟨s23, ?_⟩;conv => whnf
      refine Wgh.one (za []) 7 [5] (by rfl) (by kernel_rfl) (by kernel_rfl) (by kernel_rfl) (by rfl) (by kernel_rfl) ⟨(by (conv => whnf); exact ⟨Nat.le_refl _, rfl⟩), trivial⟩ ?_;conv => whnf
      refine Wgh.one (za []) 8 [] (by rfl) (by kernel_rfl) (by kernel_rfl) (by kernel_rfl) (by rfl) (by kernel_rfl) ⟨(by (conv => whnf); exact ⟨Nat.le_refl _, rfl⟩), trivial⟩ ?_;conv => whnf
      refine Wgh.done (za []) (by rfl) (by kernel_rfl) (by kernel_rfl) (by kernel_rfl) trivial (hK _ ?_);clear hK K;refine W.ret ?_;conv => whnf
      exact ⟨⟨trivial, trivial, trivial⟩, .v (.ints none (rem (X ^ k) f).l), ⟨rfl, rfl⟩, trivial, .v (.int .i64 k), ⟨rfl, rfl⟩, trivial, p, f.l, _, k, rfl, hp, hL, by omega, he0, he1⟩
     ·refine W.skip (fin _ (by dsimp only; omega) ?_);exact cvr
    ·conv => whnf
     refine hK _ (W.condF rfl (W.skip (fin _ (by dsimp only; omega) ?_)));exact cvr
   ·conv => whnf
    refine hK _ (W.condF rfl (W.skip (fin _ (by dsimp only; omega) ?_)));exact cvr
  ·conv => whnf
   refine hK _ (W.condF rfl (W.skip (fin _ (by dsimp only; omega) ?_)));exact cvr
 ·conv => whnf
  refine hK _ (W.condF rfl (W.skip (fin _ (by dsimp only; omega) ?_)));exact cvr

open Go Go.RowKit Go.ChangeShapes Go.WideShapes Go.ChangeAt Go.Proofs Go.Proofs.YtlmckocbhcpmdaaGreat

def zo3 : List Char := [104, 97, 114, 110, 101, 115, 115, 32, 48, 57, 56, 100, 53, 97, 99, 53, 56, 52, 54, 50, 51, 98, 100, 54, 52, 56, 97, 51, 53, 53, 49, 100, 101, 98, 98, 54, 102, 54, 101, 101, 55, 55, 53, 52, 97, 52, 102, 97, 55, 50, 97, 54, 56, 54, 52, 48, 101, 56, 97, 48, 50, 50, 48, 55, 51, 54, 97, 56, 50, 51, 53, 49, 32, 99, 117, 116, 32, 97, 116, 32, 108, 111, 111, 112, 46, 101, 120, 97, 109, 112, 108, 101, 47, 103, 48, 49, 48, 48, 48, 47, 108, 97, 119, 115, 46, 70, 110, 69, 108, 101, 109, 101, 110, 116, 115, 32, 108, 111, 111, 112, 46, 101, 120, 97, 109, 112, 108, 101, 47, 103, 48, 49, 48, 48, 48, 47, 108, 97, 119, 115, 46, 70, 110, 78, 117, 109, 98, 101, 114, 101, 100, 32, 108, 111, 111, 112, 46, 101, 120, 97, 109, 112, 108, 101, 47, 103, 48, 49, 48, 48, 48, 47, 108, 97, 119, 115, 46, 70, 110, 68, 101, 103, 114, 101, 101, 115, 32, 108, 111, 111, 112, 46, 101, 120, 97, 109, 112, 108, 101, 47, 103, 48, 49, 48, 48, 48, 47, 108, 97, 119, 115, 46, 70, 110, 77, 105, 110, 105, 109, 97, 108, 32, 108, 111, 111, 112, 46, 101, 120, 97, 109, 112, 108, 101, 47, 103, 48, 49, 48, 48, 48, 47, 108, 97, 119, 115, 46, 70, 110, 77, 111, 100, 117, 108, 97, 114, 70, 97, 99, 116, 111, 114, 115, 32, 108, 111, 111, 112, 46, 101, 120, 97, 109, 112, 108, 101, 47, 103, 48, 49, 48, 48, 48, 47, 108, 97, 119, 115, 46, 70, 110, 76, 111, 103, 115, 32, 108, 111, 111, 112, 46, 101, 120, 97, 109, 112, 108, 101, 47, 103, 48, 49, 48, 48, 48, 47, 108, 97, 119, 115, 46, 70, 110, 80, 114, 105, 109, 105, 116, 105, 118, 101, 32, 108, 111, 111, 112, 46, 101, 120, 97, 109, 112, 108, 101, 47, 103, 48, 49, 48, 48, 48, 47, 108, 97, 119, 115, 46, 70, 110, 76, 105, 102, 116, 101, 100, 70, 97, 99, 116, 111, 114, 115, 32, 108, 111, 111, 112, 46, 101, 120, 97, 109, 112, 108, 101, 47, 103, 48, 49, 48, 48, 48, 47, 108, 97, 119, 115, 46, 70, 110, 69, 120, 116, 101, 110, 115, 105, 111, 110, 115, 32, 108, 111, 111, 112, 46, 101, 120, 97, 109, 112, 108, 101, 47, 103, 48, 49, 48, 48, 48, 47, 108, 97, 119, 115, 46, 70, 110, 85, 110, 105, 116, 115, 32, 108, 111, 111, 112, 46, 101, 120, 97, 109, 112, 108, 101, 47, 103, 48, 49, 48, 48, 48, 47, 108, 97, 119, 115, 46, 70, 110, 82, 101, 115, 105, 100, 117, 97, 108, 70, 97, 99, 116, 111, 114, 115, 32, 108, 111, 111, 112, 46, 101, 120, 97, 109, 112, 108, 101, 47, 103, 48, 49, 48, 48, 48, 47, 108, 97, 119, 115, 46, 70, 110, 69, 120, 97, 99, 116, 83, 112, 108, 105, 116, 116, 105, 110, 103, 115, 79, 102].map Char.ofNat
def znp : List Char := [99, 117, 116].map Char.ofNat
def znq : List (List Char) := [[97, 116], [108, 111, 111, 112, 46, 101, 120, 97, 109, 112, 108, 101, 47, 103, 48, 49, 48, 48, 48, 47, 108, 97, 119, 115, 46, 70, 110, 69, 108, 101, 109, 101, 110, 116, 115], [108, 111, 111, 112, 46, 101, 120, 97, 109, 112, 108, 101, 47, 103, 48, 49, 48, 48, 48, 47, 108, 97, 119, 115, 46, 70, 110, 78, 117, 109, 98, 101, 114, 101, 100], [108, 111, 111, 112, 46, 101, 120, 97, 109, 112, 108, 101, 47, 103, 48, 49, 48, 48, 48, 47, 108, 97, 119, 115, 46, 70, 110, 68, 101, 103, 114, 101, 101, 115], [108, 111, 111, 112, 46, 101, 120, 97, 109, 112, 108, 101, 47, 103, 48, 49, 48, 48, 48, 47, 108, 97, 119, 115, 46, 70, 110, 77, 105, 110, 105, 109, 97, 108], [108, 111, 111, 112, 46, 101, 120, 97, 109, 112, 108, 101, 47, 103, 48, 49, 48, 48, 48, 47, 108, 97, 119, 115, 46, 70, 110, 77, 111, 100, 117, 108, 97, 114, 70, 97, 99, 116, 111, 114, 115], [108, 111, 111, 112, 46, 101, 120, 97, 109, 112, 108, 101, 47, 103, 48, 49, 48, 48, 48, 47, 108, 97, 119, 115, 46, 70, 110, 76, 111, 103, 115], [108, 111, 111, 112, 46, 101, 120, 97, 109, 112, 108, 101, 47, 103, 48, 49, 48, 48, 48, 47, 108, 97, 119, 115, 46, 70, 110, 80, 114, 105, 109, 105, 116, 105, 118, 101], [108, 111, 111, 112, 46, 101, 120, 97, 109, 112, 108, 101, 47, 103, 48, 49, 48, 48, 48, 47, 108, 97, 119, 115, 46, 70, 110, 76, 105, 102, 116, 101, 100, 70, 97, 99, 116, 111, 114, 115], [108, 111, 111, 112, 46, 101, 120, 97, 109, 112, 108, 101, 47, 103, 48, 49, 48, 48, 48, 47, 108, 97, 119, 115, 46, 70, 110, 69, 120, 116, 101, 110, 115, 105, 111, 110, 115], [108, 111, 111, 112, 46, 101, 120, 97, 109, 112, 108, 101, 47, 103, 48, 49, 48, 48, 48, 47, 108, 97, 119, 115, 46, 70, 110, 85, 110, 105, 116, 115], [108, 111, 111, 112, 46, 101, 120, 97, 109, 112, 108, 101, 47, 103, 48, 49, 48, 48, 48, 47, 108, 97, 119, 115, 46, 70, 110, 82, 101, 115, 105, 100, 117, 97, 108, 70, 97, 99, 116, 111, 114, 115], [108, 111, 111, 112, 46, 101, 120, 97, 109, 112, 108, 101, 47, 103, 48, 49, 48, 48, 48, 47, 108, 97, 119, 115, 46, 70, 110, 69, 120, 97, 99, 116, 83, 112, 108, 105, 116, 116, 105, 110, 103, 115, 79, 102]].map fun w => w.map Char.ofNat
theorem zo4 : Tryz.checked.prog.initOrder = String.ofList zo3 := by kernel_rfl
theorem zky : behindMainWord (wordsSigns Tryz.checked.prog.initOrder.toList) = znp :: znq := by rw [zo4, String.toList_ofList]; kernel_rfl
theorem ziK {P : Program} {c : List Char} {rest : List (List Char)} (h0 : behindMainWord (wordsSigns P.initOrder.toList) = c :: rest) (h1 : (stripLifts liftWords (c :: rest)) = ([], c :: rest)) (h2 : (c == "cut".toList) = true)
  (h3 : P.laysLater = false) (h4 : P.bearsReflect = false) (h5 : P.doorFits [] = true) : P.mayEnter = true := by
 unfold Program.mayEnter;rw [h0];have e : (some c == some "cut".toList) = true := h2
 refine (Bool.or_eq_true _ _).mpr (.inr ?_);rw [h1, h3, h4, h5];show ((some c == some "cut".toList) && _ && _ && _ && _) = true
 rw [e]
 rfl
theorem znr : stripLifts liftWords (znp :: znq) = ([], znp :: znq) := by kernel_rfl
theorem zoL : Tryz.checked.prog.mayEnter = true := ziK zky znr (by kernel_rfl) (by kernel_rfl) (by kernel_rfl) (by kernel_rfl)
theorem zhf {P : Program} {c : List Char} {rest : List (List Char)} (h0 : behindMainWord (wordsSigns P.initOrder.toList) = c :: rest) (h1 : stripLifts liftWords (c :: rest) = ([], c :: rest)) : P.headLifts = [] := by
 unfold Program.headLifts;rw [h0, h1];dsimp only
 split <;> rfl
theorem zfr {P : Program} {c : List Char} {rest : List (List Char)} (h0 : behindMainWord (wordsSigns P.initOrder.toList) = c :: rest) (hh : P.headLifts = []) (h2 : (c == "carried".toList) = false) : P.liftsFinal = false := by
 have e : (some c == some "carried".toList) = false := h2
 unfold Program.liftsFinal;rw [h0, hh];show (((some c == some "carried".toList) && _) || _) = false
 rw [e]
 rfl
theorem zn9 {P : Program} {c : List Char} {rest : List (List Char)} (h0 : behindMainWord (wordsSigns P.initOrder.toList) = c :: rest) (h1 : (c == "gc".toList) = false) (h2 : (c == "spec".toList) = false) (h3 : (c == "cut".toList) = true) : P.make = some .cut := by
 unfold Program.make;rw [h0];dsimp only
 rw [h1, h2, h3]
 rfl
theorem zo5 : Tryz.checked.prog.headLifts = [] := zhf zky znr
theorem zo6 : Tryz.checked.prog.liftsFinal = false := zfr zky zo5 (by kernel_rfl)
theorem zo7 : Tryz.checked.prog.make = some .cut := zn9 zky (by kernel_rfl) (by kernel_rfl) (by kernel_rfl)

end Go.Proofs.YtlmckocbhcpmdaaGreat
