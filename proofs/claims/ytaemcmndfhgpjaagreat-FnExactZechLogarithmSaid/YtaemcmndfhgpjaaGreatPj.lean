/- What the program's functions and the reference's return. No conditions. -/
import Derived.Test.YtaemcmndfhgpjaaGreatPi
import Derived.Test.YtaemcmndfhgpjaaGreatRows
namespace Go.Proofs.YtaemcmndfhgpjaaGreat
open Go Go.RowKit Go.Proofs Poly
set_option maxRecDepth 100000
set_option maxHeartbeats 8000000

def vP (x : Nat × Nat) : V := .agg [.int .i64 x.1, .int .i64 x.2]
def vPw (L : List (Nat × Nat)) : V := .vals none 2 L.length fun j => vP (L.getD j (0, 0))


theorem factors_fn (n : Nat) (L : List (Nat × Nat)) (hL : FacS n L) (hn : n ≤ 1000000) : FnV 170 [.int .i64 n] (vPw L) := by
 have hpr := hL.prod
 have hlen := prodN_len hL.pr
 refine fn_of (cx_ok [0, 2, 3, 4, 5, 7, 14, 19, 26]) Tryz.func170 rfl (by decide) Tryz.ntmps170 (Nat.le_of_ble_eq_true rfl) fun base => ?_
 refine W.rs (cx_ok _) (by rfl) fun K hK => ?_
 conv => whnf
 refine hK _ ?_
 clear hK K
 refine W.rs (cx_ok _) (by rfl) fun K hK => ?_
 conv => whnf
 refine hK _ ?_
 clear hK K
 refine W.seqK fun K1 hK1 => ?_
 refine W.rs (cx_ok _) (by rfl) fun K hK => ?_
 conv => whnf
 refine hK _ (W.block (W.invA (fun m e => ∃ (A M : List (Nat × Nat)) (q b : Nat), A ++ M = L ∧ FacS (prodN M) M ∧ 2 ≤ q ∧ (∀ x ∈ M, q ≤ x.1) ∧ q ≤ n + 1 ∧ m = n + 1 - q ∧ e = [(0, .v (.int .i64 (prodN M : Nat))), (3, .ownV 139 2 b A.length fun i => vP (A.getD i (0, 0))), (4, .v (.int .i64 q))]) ⟨[], L, 2, 0, rfl, hpr.symm ▸ hL, Nat.le_refl _, fun x hx => (hL.pr x hx).1.1, by omega, rfl, rfl⟩ ?_))
 clear hK K
 rintro m e ⟨A, M, q, b, hA, hM, hq2, hql, hqn, hm, rfl⟩
 have hMn : prodN M ≤ n := by
  rw [← hpr, ← hA, prodN_append]
  have : 0 < prodN A := prodN_pos fun x hx => hL.pr x (by rw [← hA]; simp [hx])
  exact Nat.le_mul_of_pos_left _ this
 have hAl : A.length ≤ L.length := by rw [← hA, List.length_append]; omega
 refine W.seqK fun K7 hK7 => W.rs (cx_ok _) (by rfl) fun K hK => ?_
 conv => whnf
 refine hK _ (W.cond ⟨fun h1 => ?_, fun h1 => ?_⟩) <;> clear hK K <;> (first | replace h1 := of_decide_eq_true h1 | replace h1 := of_decide_eq_false h1)
 ·have h1' : 1 < prodN M := by omega
  obtain ⟨x, hx⟩ : ∃ x, x ∈ M := by
   cases M with
   | nil => rw [prodN] at h1'; omega
   | cons y M => exact ⟨y, by simp⟩
  have hqM : ∀ q', (∀ x ∈ M, q' ≤ x.1) → q' ≤ prodN M := fun q' hq' => by
   obtain ⟨r, hr⟩ : ∃ r, x.2 = r + 1 := ⟨x.2 - 1, by have := (hM.pr x hx).2; omega⟩
   have h3 := prodN_dvd hx
   rw [hr, Nat.pow_succ] at h3
   exact Nat.le_trans (hq' x hx) (Nat.le_of_dvd (by omega) (Nat.dvd_trans (Nat.dvd_mul_left _ _) h3))
  refine W.skip (hK7 _ ?_)
  clear hK7 K7
  refine W.seqK fun K8 hK8 => W.block ?_
  refine W.seqK fun K9 hK9 => ?_
  have fin : ∀ (q' : Nat) (s : S), 2 ≤ q' → (∀ x ∈ M, q' ≤ x.1) → q ≤ q' → base ≤ s.hs →
    coverK s.env [(0, .v (.int .i64 (prodN M : Nat))), (3, .ownV 139 2 b A.length fun i => vP (A.getD i (0, 0))), (4, .v (.int .i64 q'))] → K9 s := by
   intro q' s b1 b2 b3 h5 h6
   have hq'M := hqM q' b2
   obtain ⟨k, M', b5, b4, b6, b7, b8⟩ := hM.next' b1 b2
   refine hK9 _ (W.weak (t := ⟨[(0, .v (.int .i64 (prodN M : Nat))), (3, .ownV 139 2 b A.length fun i => vP (A.getD i (0, 0))), (4, .v (.int .i64 q'))], base⟩) ⟨h5, h6⟩ (Nat.le_refl _) ?_)
   clear hK9 K9
   refine W.rs (cx_ok _) (by rfl) fun K hK => ?_
   conv => whnf
   refine hK _ ?_
   clear hK K
   have e8 : prodN M = q' ^ (k - 0) * prodN M' := b5
   rw [e8]
   refine W.seqK fun K1 hK1 => W.block (W.invA (fun m e => ∃ i : Nat, i ≤ k ∧ m = k - i ∧ e = [(0, .v (.int .i64 ((q' ^ (k - i) * prodN M' : Nat) : Int))), (3, .ownV 139 2 b A.length fun i => vP (A.getD i (0, 0))), (4, .v (.int .i64 q')), (5, .v (.int .i64 i))]) ⟨0, Nat.zero_le _, rfl, rfl⟩ ?_)
   rintro m2 e ⟨i, hi, hm2, rfl⟩
   have hmod := strip_mod (a := k - i) b1 b4
   have hkb : k ≤ 1000000 := by
    have h1 : k < q' ^ k := Nat.lt_pow_self (by omega)
    have h2 : q' ^ k * 1 ≤ q' ^ k * prodN M' := Nat.mul_le_mul_left _ (prodN_pos b6.pr)
    omega
   have hle : q' ^ (k - i) * prodN M' ≤ 1000000 := by
    have : q' ^ (k - i) * prodN M' ≤ q' ^ k * prodN M' := Nat.mul_le_mul_right _ (Nat.pow_le_pow_right (by omega) (by omega))
    omega
   refine W.seqK fun K7 hK7 => ?_
   refine W.rs (cx_ok _) (by rfl) fun K hK => ?_
   conv => whnf
   refine ⟨by omega, ?_⟩
   conv => whnf
   rw [tmod_nat]
   refine hK _ (W.cond ⟨fun h2 => ?_, fun h2 => ?_⟩) <;> clear hK K
   ·have h2 := of_decide_eq_true h2
    have hik : 0 < k - i := hmod.1 (by omega)
    have hdiv := strip_div (P := prodN M') b1 hik
    have hle2 : q' ^ (k - i - 1) * prodN M' ≤ 1000000 := by rw [← hdiv]; exact Nat.le_trans (Nat.div_le_self _ _) hle
    refine W.skip (hK7 _ (W.block ?_))
    clear hK7 K7
    refine W.rs (cx_ok _) (by rfl) fun K hK => ?_
    conv => whnf
    refine ⟨by omega, ?_⟩
    conv => whnf
    rw [tdiv_nat, hdiv]
    refine ⟨by constructor <;> omega, ?_⟩
    conv => whnf
    refine hK _ ?_
    clear hK K
    refine W.region (cx_ok _) (by rfl) ?_
    conv => whnf
    refine ⟨by constructor <;> omega, ?_⟩
    conv => whnf
    exact againA ⟨i + 1, by omega, rfl, rfl⟩
   have h2 := of_decide_eq_false h2
   have hik : ¬ 0 < k - i := fun h => h2 (by have := hmod.2 h; omega)
   obtain rfl : i = k := by omega
   have e9 : q' ^ (i - i) * prodN M' = prodN M' := by rw [Nat.sub_self, Nat.pow_zero, Nat.one_mul]
   rw [e9]
   refine W.exit (hK1 _ ?_)
   clear hK7 K7 hK1 K1
   refine W.rs (cx_ok _) (by rfl) fun K hK => ?_
   conv => whnf
   refine hK _ (W.cond ⟨fun h3 => ?_, fun h3 => ?_⟩) <;> clear hK K
   ·have h3 := of_decide_eq_true h3
    have hb8 : M = (q', i) :: M' := by rw [if_neg (by omega)] at b8; exact b8
    refine W.region (cx_ok _) (by rfl) ?_
    conv => whnf
    refine ⟨⟨rfl, by decide, fun x hx => by simp at hx; subst hx; exact ⟨rfl, rfl⟩⟩, ?_⟩
    conv => whnf
    intro b_8 hs_8 hh_8 hf_8
    try dsimp only at hh_8 hf_8
    conv => whnf
    refine ⟨by omega, ?_⟩
    conv => whnf
    refine ⟨fun j => vP ((A ++ [(q', i)]).getD j (0, 0)), fun j hj => congrArg vP (getD_snoc_l hj), fun j hj => ?_, ?_⟩
    ·obtain rfl : j = 0 := by omega
     exact congrArg vP getD_snoc_r
    intro b_9 hs_9 hh_9 hf_9
    try dsimp only at hh_9 hf_9
    conv => whnf
    refine hK8 _ ?_
    clear hK8 K8
    refine W.region (cx_ok _) (by rfl) ?_
    conv => whnf
    refine ⟨by constructor <;> omega, ?_⟩
    conv => whnf
    refine ⟨_, _, ⟨A ++ [(q', i)], M', q' + 1, b_9, by rw [List.append_assoc, ← hA, hb8]; rfl, b6, by omega, b7, by omega, rfl, rfl⟩, by omega, by dsimp only; omega, ?_⟩
    rw [List.length_append (bs := [_])]
    repeat' first | refine And.intro ?_ ?_ | exact trivial | rfl | omega | exact .inl rfl | exact fun _ _ => rfl | exact fun _ _ h => h | assumption | exact fun i hi => (by obtain rfl : i = 0 := (by omega); rfl)
   ·have h3 := of_decide_eq_false h3
    have hb8 : M = M' := by rw [if_pos (by omega)] at b8; exact b8
    refine W.skip (hK8 _ ?_)
    clear hK8 K8
    refine W.region (cx_ok _) (by rfl) ?_
    conv => whnf
    refine ⟨by constructor <;> omega, ?_⟩
    conv => whnf
    exact againA ⟨A, M', q' + 1, b, by rw [← hA, hb8], b6, by omega, b7, by omega, rfl, rfl⟩
  have hqq := hqM q hql
  have hq3 : (q : Int) * q ≤ 1000001 * 1000001 := Int.mul_le_mul (by omega) (by omega) (by omega) (by omega)
  have hq4 : 0 ≤ (q : Int) * q := Int.mul_nonneg (by omega) (by omega)
  refine W.rs (cx_ok _) (by rfl) fun K hK => ?_
  conv => whnf
  refine ⟨by constructor <;> omega, ?_⟩
  conv => whnf
  refine hK _ (W.cond ⟨fun h2 => ?_, fun h2 => ?_⟩) <;> clear hK K
  ·have h2 := of_decide_eq_true h2
   have hlast := hM.last hql h1' (by rw [← Int.natCast_mul] at h2; omega)
   refine W.region (cx_ok _) (by rfl) ?_
   conv => whnf
   refine fin (prodN M) _ (by omega) (fun y hy => ?_) hqq (by dsimp only; omega) ?_
   ·rw [hlast] at hy
    have hy : y = (prodN M, 1) := by simpa using hy
    rw [hy]; exact Nat.le_refl _
   ·clear fin hK9 K9
    repeat' first | refine And.intro ?_ ?_ | exact trivial | rfl | omega | exact .inl rfl | exact fun _ _ => rfl | exact fun _ _ h => h | assumption | exact fun i hi => (by obtain rfl : i = 0 := (by omega); rfl)
  ·refine W.skip (fin q _ hq2 hql (Nat.le_refl _) (by dsimp only; omega) ?_)
   clear fin hK9 K9
   repeat' first | refine And.intro ?_ ?_ | exact trivial | rfl | omega | exact .inl rfl | exact fun _ _ => rfl | exact fun _ _ h => h | assumption | exact fun i hi => (by obtain rfl : i = 0 := (by omega); rfl)
 ·have hMe : M = [] := by
   cases M with
   | nil => rfl
   | cons y M' => have := prodN_len hM.pr; rw [List.length_cons] at this; omega
  rw [hMe, List.append_nil] at hA
  subst hA
  refine W.exit (hK1 _ ?_)
  clear hK7 K7 hK1 K1
  refine W.sw (c' := cxr [0, 2, 3, 4, 5, 7, 14, 19, 26]) (W.rs (cxr_ok _) (by rfl) fun K hK => ?_)
  conv => whnf
  refine hK _ ?_
  clear hK K
  refine W.ret ?_
  conv => whnf
  exact ⟨.v (vPw A), ⟨.inl rfl, rfl, rfl, fun _ _ => rfl⟩, ⟨trivial, fun _ _ => ⟨trivial, trivial, trivial⟩⟩, rfl⟩

theorem l01Factor_fn (n : Nat) (L : List (Nat × Nat)) (hL : FacS n L) (hn : n ≤ 1000000) : FnV 176 [.int .i64 n] (vPw L) := by
 have hpr := hL.prod
 have hlen := prodN_len hL.pr
 refine fn_of (cx_ok [0, 2, 3, 4, 5, 11, 17, 24, 32]) Tryz.func176 rfl (by decide) Tryz.ntmps176 (Nat.le_of_ble_eq_true rfl) fun base => ?_
 refine W.rs (cx_ok _) (by rfl) fun K hK => ?_
 conv => whnf
 refine hK _ ?_
 clear hK K
 refine W.rs (cx_ok _) (by rfl) fun K hK => ?_
 conv => whnf
 refine ⟨⟨rfl, by decide, fun x hx => by simp at hx⟩, ?_⟩
 conv => whnf
 intro b_1 hs_1 hh_1 hf_1
 try dsimp only at hh_1 hf_1
 conv => whnf
 refine hK _ ?_
 clear hK K
 refine W.seqK fun K1 hK1 => ?_
 refine W.rs (cx_ok _) (by rfl) fun K hK => ?_
 conv => whnf
 refine hK _ (W.block (W.invA (fun m e => ∃ (A M : List (Nat × Nat)) (q b : Nat), A ++ M = L ∧ FacS (prodN M) M ∧ 2 ≤ q ∧ (∀ x ∈ M, q ≤ x.1) ∧ q ≤ n + 2 ∧ m = n + 2 - q ∧ e = [(0, .v (.int .i64 (prodN M : Nat))), (3, .ownV 139 2 b A.length fun i => vP (A.getD i (0, 0))), (4, .v (.int .i64 q))]) ⟨[], L, 2, b_1, rfl, hpr.symm ▸ hL, Nat.le_refl _, fun x hx => (hL.pr x hx).1.1, by omega, rfl, rfl⟩ ?_))
 clear hK K
 rintro m e ⟨A, M, q', b, hA, hM, b1, b2, hqn, hm, rfl⟩
 have hMn : prodN M ≤ n := by
  rw [← hpr, ← hA, prodN_append]
  have : 0 < prodN A := prodN_pos fun x hx => hL.pr x (by rw [← hA]; simp [hx])
  exact Nat.le_mul_of_pos_left _ this
 have hAl : A.length ≤ L.length := by rw [← hA, List.length_append]; omega
 have hq3 : (q' : Int) * q' ≤ 1000002 * 1000002 := Int.mul_le_mul (by omega) (by omega) (by omega) (by omega)
 have hq4 : 0 ≤ (q' : Int) * q' := Int.mul_nonneg (by omega) (by omega)
 refine W.seqK fun K7 hK7 => ?_
 refine W.rs (cx_ok _) (by rfl) fun K hK => ?_
 conv => whnf
 refine ⟨by constructor <;> omega, ?_⟩
 conv => whnf
 refine hK _ (W.cond ⟨fun h1 => ?_, fun h1 => ?_⟩) <;> clear hK K
 ·have h1 := of_decide_eq_true h1
  have hqq : q' * 2 ≤ q' * q' := Nat.mul_le_mul_left _ b1
  have hqq2 : q' * q' ≤ prodN M := by rw [← Int.natCast_mul] at h1; omega
  obtain ⟨k, M', b5, b4, b6, b7, b8⟩ := hM.next' b1 b2
  refine W.skip (hK7 _ ?_)
  clear hK7 K7
  refine W.seqK fun K8 hK8 => W.block ?_
  refine W.rs (cx_ok _) (by rfl) fun K hK => ?_
  conv => whnf
  refine hK _ ?_
  clear hK K
  have e8 : prodN M = q' ^ (k - 0) * prodN M' := b5
  rw [e8]
  refine W.seqK fun K1 hK1 => W.block (W.invA (fun m e => ∃ i : Nat, i ≤ k ∧ m = k - i ∧ e = [(0, .v (.int .i64 ((q' ^ (k - i) * prodN M' : Nat) : Int))), (3, .ownV 139 2 b A.length fun i => vP (A.getD i (0, 0))), (4, .v (.int .i64 q')), (5, .v (.int .i64 i))]) ⟨0, Nat.zero_le _, rfl, rfl⟩ ?_)
  rintro m2 e ⟨i, hi, hm2, rfl⟩
  have hmod := strip_mod (a := k - i) b1 b4
  have hkb : k ≤ 1000000 := by
   have h1 : k < q' ^ k := Nat.lt_pow_self (by omega)
   have h2 : q' ^ k * 1 ≤ q' ^ k * prodN M' := Nat.mul_le_mul_left _ (prodN_pos b6.pr)
   omega
  have hle : q' ^ (k - i) * prodN M' ≤ 1000000 := by
   have : q' ^ (k - i) * prodN M' ≤ q' ^ k * prodN M' := Nat.mul_le_mul_right _ (Nat.pow_le_pow_right (by omega) (by omega))
   omega
  refine W.seqK fun K7 hK7 => ?_
  refine W.rs (cx_ok _) (by rfl) fun K hK => ?_
  conv => whnf
  refine ⟨by omega, ?_⟩
  conv => whnf
  rw [tmod_nat]
  refine hK _ (W.cond ⟨fun h2 => ?_, fun h2 => ?_⟩) <;> clear hK K
  ·have h2 := of_decide_eq_true h2
   have hik : 0 < k - i := hmod.1 (by omega)
   have hdiv := strip_div (P := prodN M') b1 hik
   have hle2 : q' ^ (k - i - 1) * prodN M' ≤ 1000000 := by rw [← hdiv]; exact Nat.le_trans (Nat.div_le_self _ _) hle
   refine W.skip (hK7 _ (W.block ?_))
   clear hK7 K7
   refine W.rs (cx_ok _) (by rfl) fun K hK => ?_
   conv => whnf
   refine ⟨by omega, ?_⟩
   conv => whnf
   rw [tdiv_nat, hdiv]
   refine ⟨by constructor <;> omega, ?_⟩
   conv => whnf
   refine hK _ ?_
   clear hK K
   refine W.region (cx_ok _) (by rfl) ?_
   conv => whnf
   refine ⟨by constructor <;> omega, ?_⟩
   conv => whnf
   exact againA ⟨i + 1, by omega, rfl, rfl⟩
  have h2 := of_decide_eq_false h2
  have hik : ¬ 0 < k - i := fun h => h2 (by have := hmod.2 h; omega)
  obtain rfl : i = k := by omega
  have e9 : q' ^ (i - i) * prodN M' = prodN M' := by rw [Nat.sub_self, Nat.pow_zero, Nat.one_mul]
  rw [e9]
  refine W.exit (hK1 _ ?_)
  clear hK7 K7 hK1 K1
  refine W.rs (cx_ok _) (by rfl) fun K hK => ?_
  conv => whnf
  refine hK _ (W.cond ⟨fun h3 => ?_, fun h3 => ?_⟩) <;> clear hK K
  ·have h3 := of_decide_eq_true h3
   have hb8 : M = (q', i) :: M' := by rw [if_neg (by omega)] at b8; exact b8
   refine W.region (cx_ok _) (by rfl) ?_
   conv => whnf
   refine ⟨⟨rfl, by decide, fun x hx => by simp at hx; subst hx; exact ⟨rfl, rfl⟩⟩, ?_⟩
   conv => whnf
   intro b_8 hs_8 hh_8 hf_8
   try dsimp only at hh_8 hf_8
   conv => whnf
   refine ⟨by omega, ?_⟩
   conv => whnf
   refine ⟨fun j => vP ((A ++ [(q', i)]).getD j (0, 0)), fun j hj => congrArg vP (getD_snoc_l hj), fun j hj => ?_, ?_⟩
   ·obtain rfl : j = 0 := by omega
    exact congrArg vP getD_snoc_r
   intro b_9 hs_9 hh_9 hf_9
   try dsimp only at hh_9 hf_9
   conv => whnf
   refine hK8 _ ?_
   clear hK8 K8
   refine W.region (cx_ok _) (by rfl) ?_
   conv => whnf
   refine ⟨by constructor <;> omega, ?_⟩
   conv => whnf
   refine ⟨_, _, ⟨A ++ [(q', i)], M', q' + 1, b_9, by rw [List.append_assoc, ← hA, hb8]; rfl, b6, by omega, b7, by omega, rfl, rfl⟩, by omega, by dsimp only; omega, ?_⟩
   rw [List.length_append (bs := [_])]
   repeat' first | refine And.intro ?_ ?_ | exact trivial | rfl | omega | exact .inl rfl | exact fun _ _ => rfl | exact fun _ _ h => h | assumption | exact fun i hi => (by obtain rfl : i = 0 := (by omega); rfl)
  ·have h3 := of_decide_eq_false h3
   have hb8 : M = M' := by rw [if_pos (by omega)] at b8; exact b8
   refine W.skip (hK8 _ ?_)
   clear hK8 K8
   refine W.region (cx_ok _) (by rfl) ?_
   conv => whnf
   refine ⟨by constructor <;> omega, ?_⟩
   conv => whnf
   exact againA ⟨A, M', q' + 1, b, by rw [← hA, hb8], b6, by omega, b7, by omega, rfl, rfl⟩
 ·have h1 := of_decide_eq_false h1
  refine W.exit (hK1 _ ?_)
  clear hK7 K7 hK1 K1
  refine W.seqK fun K1 hK1 => ?_
  have fin : ∀ (b' : Nat) (s : S), base ≤ s.hs → coverK s.env [(3, .ownV 139 2 b' L.length fun i => vP (L.getD i (0, 0)))] → K1 s := by
   intro b' s h5 h6
   refine hK1 _ (W.weak (t := ⟨[(3, .ownV 139 2 b' L.length fun i => vP (L.getD i (0, 0)))], base⟩) ⟨h5, h6⟩ (Nat.le_refl _) ?_)
   clear hK1 K1
   refine W.sw (c' := cxr [0, 2, 3, 4, 5, 11, 17, 24, 32]) (W.rs (cxr_ok _) (by rfl) fun K hK => ?_)
   conv => whnf
   refine hK _ ?_
   clear hK K
   refine W.ret ?_
   conv => whnf
   exact ⟨.v (vPw L), ⟨.inl rfl, rfl, rfl, fun _ _ => rfl⟩, ⟨trivial, fun _ _ => ⟨trivial, trivial, trivial⟩⟩, rfl⟩
  clear hK1
  refine W.rs (cx_ok _) (by rfl) fun K hK => ?_
  conv => whnf
  refine hK _ (W.cond ⟨fun h2 => ?_, fun h2 => ?_⟩) <;> clear hK K
  ·have h2 := of_decide_eq_true h2
   have hlast := hM.last b2 (by omega) (by rw [← Int.natCast_mul] at h1; omega)
   have hA2 : A ++ [(prodN M, 1)] = L := by rw [← hlast]; exact hA
   refine W.region (cx_ok _) (by rfl) ?_
   conv => whnf
   refine ⟨⟨rfl, by decide, fun x hx => by simp at hx; subst hx; exact ⟨rfl, rfl⟩⟩, ?_⟩
   conv => whnf
   intro b_8 hs_8 hh_8 hf_8
   try dsimp only at hh_8 hf_8
   conv => whnf
   refine ⟨by omega, ?_⟩
   conv => whnf
   refine ⟨fun j => vP ((A ++ [(prodN M, 1)]).getD j (0, 0)), fun j hj => congrArg vP (getD_snoc_l hj), fun j hj => ?_, ?_⟩
   ·obtain rfl : j = 0 := by omega
    exact congrArg vP getD_snoc_r
   intro b_9 hs_9 hh_9 hf_9
   try dsimp only at hh_9 hf_9
   conv => whnf
   refine fin b_9 _ (by dsimp only; omega) ?_
   clear fin
   rw [← hA2, List.length_append (bs := [_])]
   repeat' first | refine And.intro ?_ ?_ | exact trivial | rfl | omega | exact .inl rfl | exact fun _ _ => rfl | exact fun _ _ h => h | assumption | exact fun i hi => (by obtain rfl : i = 0 := (by omega); rfl)
  ·have h2 := of_decide_eq_false h2
   have hMe : M = [] := by
    cases M with
    | nil => rfl
    | cons y M' => have := prodN_len hM.pr; rw [List.length_cons] at this; omega
   rw [hMe, List.append_nil] at hA
   subst hA
   refine W.skip (fin b _ (by dsimp only; omega) ?_)
   clear fin
   repeat' first | refine And.intro ?_ ?_ | exact trivial | rfl | omega | exact .inl rfl | exact fun _ _ => rfl | exact fun _ _ h => h | assumption | exact fun i hi => (by obtain rfl : i = 0 := (by omega); rfl)

open Go Go.RowKit Go.Proofs Poly
set_option maxRecDepth 100000
set_option maxHeartbeats 8000000

theorem fld_q {p : Int} [SP p] {f : Poly p} (hk : IsFld p f.l) {d : Nat} (hd : dg f = d + 1) : (p ^ (f.l.length - 1) : Int) = ((p.toNat ^ d : Nat) : Int) ∧ p.toNat ^ d ≤ 20000 ∧ 2 ≤ p.toNat ^ d := by
 have h2 := Pr.two (p := p)
 have h1 : f.l.length - 1 = d := by have : f.l.length = dg f := rfl; omega
 have h3 : (p ^ (f.l.length - 1) : Int) = ((p.toNat ^ d : Nat) : Int) := by rw [h1, Int.natCast_pow, Int.toNat_of_nonneg (by omega)]
 have h4 := hk.ord
 have h5 := hk.two
 have h6 : p.toNat ^ 1 ≤ p.toNat ^ d := Nat.pow_le_pow_right (by omega) (by omega)
 rw [Nat.pow_one] at h6
 exact ⟨h3, by omega, by omega⟩
theorem one_l_iff {p : Int} [SP p] {f X : Poly p} {e : Nat} (h2 : 2 ≤ dg f) : (rem (X ^ e) f).l = [1] ↔ One f X e := by
 rw [one_iff h2]
 exact ⟨fun h => ext_l (by rw [h, one_l]), fun h => by rw [h, one_l]⟩

theorem orderOf_fn (p : Int) [SP p] (g g1 : Option Nat) (f X : Poly p) (hk : IsFld p f.l) (hi : Irr f) (hX0 : X ≠ 0) (hX : dg X < dg f) (e0 : Nat) (ho : IsOrd f X e0) : FnV 108 [vK p g f.l, .ints g1 X.l] (.int .i64 e0) := by
 have hp := Pr.two (p := p)
 have hp2 := SP.le (p := p)
 have h9 := hk.mod.2.1
 have hl2 := hk.two
 have hfl : f.l.length = dg f := rfl
 have hf0 := hi.ne
 obtain ⟨d, hd⟩ : ∃ d, dg f = d + 1 := ⟨dg f - 1, by omega⟩
 obtain ⟨hq1, hq2, hq3⟩ := fld_q hk hd
 have hfer := fermat hi (small_ndvd hX0 hX) hd
 generalize p.toNat ^ d = q at hq1 hq2 hq3 hfer
 have hL := facL_ok (n := q - 1) (by omega)
 have hLl := prodN_len hL.pr
 rw [hL.prod] at hLl
 generalize facL (q - 1) = L at hL hLl
 have hqi : ((q : Nat) : Int) - 1 = ((q - 1 : Nat) : Int) := by omega
 refine fn_of (cx_ok [0, 1, 2, 4, 5, 7, 12, 13, 14, 15, 19, 20, 21, 29]) Tryz.func108 rfl (by decide) Tryz.ntmps108 (Nat.le_of_ble_eq_true rfl) fun base => ?_
 refine W.rs (cx_ok _) (by rfl) fun K hK => ?_
 conv => whnf
 refine ⟨rfl, ?_⟩
 conv => whnf
 intro b_1 hs_1 hh_1 hf_1
 try dsimp only at hh_1 hf_1
 conv => whnf
 refine hK _ ?_
 clear hK K
 refine W.rs (cx_ok _) (by rfl) fun K hK => ?_
 conv => whnf
 refine callV rfl (order_fn p g f.l (by omega) (by omega) (by omega) (by omega)) fun hs' hhs => ?_
 try dsimp only at hhs
 conv => whnf
 rw [hq1]
 refine ⟨by constructor <;> omega, ?_⟩
 conv => whnf
 rw [hqi]
 refine hK _ ?_
 clear hK K
 refine W.seqK fun K1 hK1 => ?_
 refine W.rs (cx_ok _) (by rfl) fun K hK => ?_
 conv => whnf
 refine callV rfl (factors_fn (q - 1) L hL (by omega)) fun hs' hhs => ?_
 try dsimp only at hhs
 conv => whnf
 refine hK _ (W.block (W.invA (fun m e => ∃ i e' : Nat, i ≤ L.length ∧ OrdI f X (q - 1) L i e' ∧ m = L.length - i ∧ e = [(1, .v (.ints g1 X.l)), (2, .ownB b_1 (vK p g f.l)), (5, .v (.int .i64 e')), (12, .v (vPw L)), (13, .v (.int .i64 L.length)), (14, .v (.int .i64 i))]) ⟨0, q - 1, Nat.zero_le _, OrdI.start hL (by omega) hfer, rfl, rfl⟩ ?_))
 clear hK K
 rintro m e ⟨i, e, hi1, hO, hm, rfl⟩
 refine W.rs (cx_ok _) (by rfl) fun K hK => ?_
 conv => whnf
 refine hK _ ?_
 clear hK K
 refine W.seqK fun K7 hK7 => W.cond ⟨fun h1 => ?_, fun h1 => ?_⟩ <;> (first | replace h1 := of_decide_eq_true h1 | replace h1 := of_decide_eq_false h1)
 ·have hi2 : i < L.length := by omega
  have hJ := hO.enter hL hi2
  have hpr := hL.pr _ (List.getElem_mem hi2)
  have hstep := fun j e (h : OrdJ f X (q - 1) L i L[i].1 L[i].2 j e) => OrdJ.step (f := f) (x := X) (n := q - 1) (j := j) (e := e) hL hi2 h
  have hleave := fun e h => OrdJ.leave (f := f) (x := X) (n := q - 1) (e := e) hi2 h
  have hxe : L.getD i (0, 0) = L[i] := by rw [List.getD_eq_getElem?_getD, List.getElem?_eq_getElem hi2]; rfl
  have hx2 : L[i].2 ≤ 1000000 := by
   have h3 := Nat.le_of_dvd (by omega) (hL.prod ▸ prodN_dvd (List.getElem_mem hi2))
   have h4 : L[i].2 < L[i].1 ^ L[i].2 := Nat.lt_pow_self (by have := hpr.1.1; omega)
   omega
  have hx1 : L[i].1 ≤ 1000000 := by
   have h3 := Nat.le_of_dvd (by omega) (hL.prod ▸ prodN_dvd (List.getElem_mem hi2))
   have h4 : L[i].1 ^ 1 ≤ L[i].1 ^ L[i].2 := Nat.pow_le_pow_right (by have := hpr.1.1; omega) hpr.2
   rw [Nat.pow_one] at h4; omega
  generalize L[i] = x at hJ hpr hstep hleave hxe hx2 hx1
  obtain ⟨hxp, hxk⟩ := hpr
  have hxp2 := hxp.1
  refine W.skip (hK7 _ ?_)
  clear hK7 K7
  refine W.seqK fun K8 hK8 => W.block ?_
  refine W.rs (cx_ok _) (by rfl) fun K hK => ?_
  conv => whnf
  refine ⟨⟨by omega, by omega⟩, ?_⟩
  conv => whnf
  rw [Int.toNat_natCast, hxe]
  intro b_7 hs_7 hh_7 hf_7
  try dsimp only at hh_7 hf_7
  conv => whnf
  refine ⟨⟨(by show 2 ≤ 2; omega), rfl⟩, ?_⟩
  conv => whnf
  refine hK _ ?_
  clear hK K
  refine W.rs (cx_ok _) (by rfl) fun K hK => ?_
  conv => whnf
  refine hK _ (W.block (W.invA (fun m e => ∃ j e' : Nat, j ≤ x.2 ∧ OrdJ f X (q - 1) L i x.1 x.2 j e' ∧ m = x.2 - j ∧ e = [(1, .v (.ints g1 X.l)), (2, .ownB b_1 (vK p g f.l)), (5, .v (.int .i64 e')), (7, .ownB b_7 (vP x)), (12, .v (vPw L)), (13, .v (.int .i64 L.length)), (14, .v (.int .i64 i)), (19, .v (.int .i64 x.2)), (20, .v (.int .i64 j))]) ⟨0, e, Nat.zero_le _, hJ, rfl, rfl⟩ ?_))
  clear hK K
  clear hJ hO e
  rintro m2 e ⟨j, e, hj, hJ, hm2, rfl⟩
  have he1 := hJ.pos
  have he2 := Nat.le_of_dvd (by omega) hJ.dvd
  have he3 := Nat.div_le_self e x.1
  have hst := hstep j e hJ
  have hno : ¬ One f X (e / x.1) → _ := fun h => hJ.stop (j' := j + 1) h
  obtain ⟨v, hv⟩ : ∃ v, e / x.1 = v := ⟨_, rfl⟩
  rw [hv] at he3 hst hno
  refine W.rs (cx_ok _) (by rfl) fun K hK => ?_
  conv => whnf
  refine hK _ ?_
  clear hK K
  refine W.seqK fun K7 hK7 => W.cond ⟨fun h2 => ?_, fun h2 => ?_⟩ <;> (first | replace h2 := of_decide_eq_true h2 | replace h2 := of_decide_eq_false h2)
  ·have hj2 : j < x.2 := by omega
   refine W.skip (hK7 _ ?_)
   clear hK7 K7
   refine W.seqK fun K9 hK9 => W.block ?_
   refine W.rd (cx_ok _) follows (by rfl) fun K hK => ?_
   conv => whnf
   refine ⟨by omega, ?_⟩
   conv => whnf
   rw [tdiv_nat, hv]
   refine ⟨by constructor <;> omega, ?_⟩
   conv => whnf
   refine ⟨_, cxF (kPower_fn p g g1 f X v (by omega) (by omega) (by omega) hf0), ?_⟩
   conv => whnf
   refine ⟨_, cxF (isOne_fn none (rem (X ^ v) f).l), ?_⟩
   conv => whnf
   refine hK _ (W.cond ⟨fun h3 => ?_, fun h3 => ?_⟩) <;> clear hK K
   ·have h3 := (one_l_iff (by omega)).1 (of_decide_eq_true h3)
    refine W.region (cx_ok _) (by rfl) ?_
    conv => whnf
    refine ⟨by omega, ?_⟩
    conv => whnf
    rw [tdiv_nat, hv]
    refine ⟨by constructor <;> omega, ?_⟩
    conv => whnf
    refine hK9 _ ?_
    clear hK9 K9
    refine W.region (cx_ok _) (by rfl) ?_
    conv => whnf
    refine ⟨by constructor <;> omega, ?_⟩
    conv => whnf
    exact againA ⟨j + 1, v, by omega, (hst hj2 h3).2, rfl, rfl⟩
   ·have h3 := fun h => of_decide_eq_false h3 ((one_l_iff (by omega)).2 h)
    refine W.skip (hK9 _ ?_)
    clear hK9 K9
    refine W.region (cx_ok _) (by rfl) ?_
    conv => whnf
    refine ⟨by constructor <;> omega, ?_⟩
    conv => whnf
    exact againA ⟨j + 1, e, by omega, hno h3, rfl, rfl⟩
  ·obtain rfl : j = x.2 := by omega
   refine W.exit (hK8 _ ?_)
   clear hK7 K7 hK8 K8
   refine W.region (cx_ok _) (by rfl) ?_
   conv => whnf
   refine ⟨by constructor <;> omega, ?_⟩
   conv => whnf
   exact againA ⟨i + 1, e, by omega, hleave e hJ, rfl, rfl⟩
 ·obtain rfl : i = L.length := by omega
  obtain rfl := ho.unique (hO.fin hL)
  refine W.exit (hK1 _ ?_)
  clear hK7 K7 hK1 K1
  refine W.rs (cx_ok _) (by rfl) fun K hK => ?_
  conv => whnf
  refine hK _ ?_
  clear hK K
  refine W.ret ?_
  conv => whnf
  exact ⟨.v (.int .i64 e0), ⟨rfl, rfl⟩, trivial, rfl⟩

theorem l17ElementOrder_fn (p : Int) [SP p] (g g1 : Option Nat) (f X : Poly p) (hk : IsFld p f.l) (hi : Irr f) (hX0 : X ≠ 0) (hX : dg X < dg f) (e0 : Nat) (ho : IsOrd f X e0) : FnV 101 [vK p g f.l, .ints g1 X.l] (.int .i64 e0) := by
 have hp := Pr.two (p := p)
 have hp2 := SP.le (p := p)
 have h9 := hk.mod.2.1
 have hl2 := hk.two
 have hfl : f.l.length = dg f := rfl
 have hf0 := hi.ne
 obtain ⟨d, hd⟩ : ∃ d, dg f = d + 1 := ⟨dg f - 1, by omega⟩
 obtain ⟨hq1, hq2, hq3⟩ := fld_q hk hd
 have hfer := fermat hi (small_ndvd hX0 hX) hd
 generalize p.toNat ^ d = q at hq1 hq2 hq3 hfer
 have hL := facL_ok (n := q - 1) (by omega)
 have hLl := prodN_len hL.pr
 rw [hL.prod] at hLl
 generalize facL (q - 1) = L at hL hLl
 have hqi : ((q : Nat) : Int) - 1 = ((q - 1 : Nat) : Int) := by omega
 refine fn_of (cx_ok [0, 1, 2, 4, 5, 6, 7, 16, 39]) Tryz.func101 rfl (by decide) Tryz.ntmps101 (Nat.le_of_ble_eq_true rfl) fun base => ?_
 refine W.rs (cx_ok _) (by rfl) fun K hK => ?_
 conv => whnf
 refine ⟨rfl, ?_⟩
 conv => whnf
 intro b_1 hs_1 hh_1 hf_1
 try dsimp only at hh_1 hf_1
 conv => whnf
 refine hK _ ?_
 clear hK K
 refine W.rs (cx_ok _) (by rfl) fun K hK => ?_
 conv => whnf
 refine callV rfl (l17Size_fn p g f.l hk) fun hs' hhs => ?_
 try dsimp only at hhs
 conv => whnf
 rw [hq1]
 refine ⟨by constructor <;> omega, ?_⟩
 conv => whnf
 rw [hqi]
 refine hK _ ?_
 clear hK K
 refine W.rs (cx_ok _) (by rfl) fun K hK => ?_
 conv => whnf
 refine callV rfl (l01Factor_fn (q - 1) L hL (by omega)) fun hs' hhs => ?_
 try dsimp only at hhs
 conv => whnf
 refine hK _ ?_
 clear hK K
 refine W.seqK fun K1 hK1 => ?_
 refine W.rs (cx_ok _) (by rfl) fun K hK => ?_
 conv => whnf
 refine hK _ (W.block (W.invA (fun m e => ∃ i e' : Nat, i ≤ L.length ∧ OrdI f X (q - 1) L i e' ∧ m = L.length - i ∧ e = [(1, .v (.ints g1 X.l)), (2, .ownB b_1 (vK p g f.l)), (5, .v (.int .i64 e')), (6, .v (vPw L)), (7, .v (.int .i64 i))]) ⟨0, q - 1, Nat.zero_le _, OrdI.start hL (by omega) hfer, rfl, rfl⟩ ?_))
 clear hK K
 rintro m e ⟨i, e, hi1, hO, hm, rfl⟩
 refine W.seqK fun K7 hK7 => W.rs (cx_ok _) (by rfl) fun K hK => ?_
 conv => whnf
 refine hK _ (W.cond ⟨fun h1 => ?_, fun h1 => ?_⟩) <;> clear hK K <;> (first | replace h1 := of_decide_eq_true h1 | replace h1 := of_decide_eq_false h1)
 ·have hi2 : i < L.length := by omega
  have hJ := hO.enter hL hi2
  have hpr := hL.pr _ (List.getElem_mem hi2)
  have hstep := fun j e (h : OrdJ f X (q - 1) L i L[i].1 L[i].2 j e) => OrdJ.step (f := f) (x := X) (n := q - 1) (j := j) (e := e) hL hi2 h
  have hleave := fun e h => OrdJ.leave (f := f) (x := X) (n := q - 1) (e := e) hi2 h
  have hxe : L.getD i (0, 0) = L[i] := by rw [List.getD_eq_getElem?_getD, List.getElem?_eq_getElem hi2]; rfl
  have hx1 : L[i].1 ≤ 1000000 := by
   have h3 := Nat.le_of_dvd (by omega) (hL.prod ▸ prodN_dvd (List.getElem_mem hi2))
   have h4 : L[i].1 ^ 1 ≤ L[i].1 ^ L[i].2 := Nat.pow_le_pow_right (by have := hpr.1.1; omega) hpr.2
   rw [Nat.pow_one] at h4; omega
  generalize L[i] = x at hJ hpr hstep hleave hxe hx1
  obtain ⟨hxp, hxk⟩ := hpr
  have hxp2 := hxp.1
  refine W.skip (hK7 _ ?_)
  clear hK7 K7
  refine W.seqK fun K8 hK8 => W.block ?_
  refine W.block (W.invE (fun m e => ∃ j e' : Nat, j ≤ x.2 ∧ OrdJ f X (q - 1) L i x.1 x.2 j e' ∧ m = x.2 - j ∧ e = [(1, .v (.ints g1 X.l)), (2, .ownB b_1 (vK p g f.l)), (5, .v (.int .i64 e')), (6, .v (vPw L)), (7, .v (.int .i64 i))]) _ _ ⟨0, e, Nat.zero_le _, hJ, rfl, rfl⟩ (by dsimp only; omega) (by repeat' first | refine And.intro ?_ ?_ | exact trivial | rfl | omega | exact fun _ _ => rfl) ?_)
  clear hJ hO e
  rintro m2 e ⟨j, e, hj, hJ, hm2, rfl⟩
  have he1 := hJ.pos
  have he2 := Nat.le_of_dvd (by omega) hJ.dvd
  have he3 := Nat.div_le_self e x.1
  have hst := hstep j e hJ
  have hno : ¬ One f X (e / x.1) → _ := fun h => hJ.stop (j' := x.2) h
  have hov : ¬ x.1 ∣ e → _ := fun h => hJ.over h
  have hdj : x.1 ∣ e → One f X (e / x.1) → j < x.2 := fun h1 h2 => by
   rcases hJ.at_ with ⟨m, h3, h4, h5⟩ | h3
   ·rcases Nat.lt_or_eq_of_le hj with h6 | h6
    ·exact h6
    ·rw [h6, Nat.sub_self, Nat.pow_zero, Nat.one_mul] at h3
     exact absurd (h3 ▸ h1) h4
   ·exact absurd h2 h3
  obtain ⟨v, hv⟩ : ∃ v, e / x.1 = v := ⟨_, rfl⟩
  rw [hv] at he3 hst hno hdj
  -- the end of this prime
  have fin : OrdJ f X (q - 1) L i x.1 x.2 x.2 e → ∀ s : S, base ≤ s.hs → coverK s.env [(1, .v (.ints g1 X.l)), (2, .ownB b_1 (vK p g f.l)), (5, .v (.int .i64 e)), (6, .v (vPw L)), (7, .v (.int .i64 i))] → K8 s := by
   intro h4 s h5 h6
   refine hK8 _ (W.weak (t := ⟨[(1, .v (.ints g1 X.l)), (2, .ownB b_1 (vK p g f.l)), (5, .v (.int .i64 e)), (6, .v (vPw L)), (7, .v (.int .i64 i))], base⟩) ⟨h5, h6⟩ (Nat.le_refl _) ?_)
   clear hK8 K8
   refine W.region (cx_ok _) (by rfl) ?_
   conv => whnf
   refine ⟨by constructor <;> omega, ?_⟩
   conv => whnf
   exact againA ⟨i + 1, e, by omega, hleave e h4, rfl, rfl⟩
  clear hK8
  refine W.seqK fun K7 hK7 => ?_
  refine W.rd (cx_ok _) follows (by rfl) fun K hK => ?_
  conv => whnf
  refine ⟨⟨by omega, by omega⟩, ?_⟩
  conv => whnf
  rw [Int.toNat_natCast, hxe]
  refine ⟨by omega, ?_⟩
  conv => whnf
  rw [tmod_nat]
  by_cases hdv : x.1 ∣ e
  ·have e1 : decide (((e % x.1 : Nat) : Int) = 0) = true := decide_eq_true (by rw [Nat.mod_eq_zero_of_dvd hdv]; rfl)
   rw [e1]
   conv => whnf
   refine ⟨⟨by omega, by omega⟩, ?_⟩
   conv => whnf
   rw [Int.toNat_natCast, hxe]
   refine ⟨by omega, ?_⟩
   conv => whnf
   rw [tdiv_nat, hv]
   refine ⟨by constructor <;> omega, ?_⟩
   conv => whnf
   refine ⟨_, cxF (l17Power_fn p g g1 f X v (by omega) (by omega) (by omega) hf0), ?_⟩
   conv => whnf
   refine ⟨_, cxF (l17One_fn none (rem (X ^ v) f).l), ?_⟩
   conv => whnf
   refine hK _ (W.cond ⟨fun h3 => ?_, fun h3 => ?_⟩) <;> clear hK K
   ·have h3 := (one_l_iff (by omega)).1 (of_decide_eq_true h3)
    have hj2 := hdj hdv h3
    clear fin
    refine W.skip (hK7 _ (W.block ?_))
    clear hK7 K7
    refine W.region (cx_ok _) (by rfl) ?_
    conv => whnf
    refine ⟨⟨by omega, by omega⟩, ?_⟩
    conv => whnf
    rw [Int.toNat_natCast, hxe]
    refine ⟨by omega, ?_⟩
    conv => whnf
    rw [tdiv_nat, hv]
    refine ⟨by constructor <;> omega, ?_⟩
    conv => whnf
    exact againA ⟨j + 1, v, by omega, (hst hj2 h3).2, rfl, rfl⟩
   ·have h3 := fun h => of_decide_eq_false h3 ((one_l_iff (by omega)).2 h)
    refine W.exit (fin (hno h3) _ (by dsimp only; omega) ?_)
    clear fin hK7 K7
    repeat' first | refine And.intro ?_ ?_ | exact trivial | rfl | omega | exact .inl rfl | exact fun _ _ => rfl | exact fun _ _ h => h | assumption | exact fun i hi => (by obtain rfl : i = 0 := (by omega); rfl)
  ·have e1 : decide (((e % x.1 : Nat) : Int) = 0) = false := decide_eq_false fun h => hdv (Nat.dvd_of_mod_eq_zero (by omega))
   rw [e1]
   conv => whnf
   refine ⟨rfl, ?_⟩
   conv => whnf
   refine hK _ (W.cond ⟨fun h => absurd h (by decide), fun _ => W.exit (fin (hov hdv) _ (by dsimp only; omega) ?_)⟩)
   clear fin hK K hK7 K7
   repeat' first | refine And.intro ?_ ?_ | exact trivial | rfl | omega | exact .inl rfl | exact fun _ _ => rfl | exact fun _ _ h => h | assumption | exact fun i hi => (by obtain rfl : i = 0 := (by omega); rfl)
 ·obtain rfl : i = L.length := by omega
  obtain rfl := ho.unique (hO.fin hL)
  refine W.exit (hK1 _ ?_)
  clear hK7 K7 hK1 K1
  refine W.rs (cx_ok _) (by rfl) fun K hK => ?_
  conv => whnf
  refine hK _ ?_
  clear hK K
  refine W.ret ?_
  conv => whnf
  exact ⟨.v (.int .i64 e0), ⟨rfl, rfl⟩, trivial, rfl⟩

open Go Go.RowKit Go.Proofs Poly
set_option maxRecDepth 100000
set_option maxHeartbeats 8000000

theorem same_fn (g g' : Option Nat) (xs ys : List Int) (hl : xs.length ≤ 1000000000) : FnV 110 [.ints g xs, .ints g' ys] (.bool (decide (xs = ys))) := by
 refine fn_of (cx_ok [0, 1, 4, 5, 10, 14, 25]) Tryz.func110 rfl (by decide) Tryz.ntmps110 (Nat.le_of_ble_eq_true rfl) fun base => ?_
 refine W.rs (cx_ok _) (by rfl) fun K hK => ?_
 conv => whnf
 refine hK _ ?_
 clear hK K
 refine W.seqK fun K1 hK1 => ?_
 refine W.rs (cx_ok _) (by rfl) fun K hK => ?_
 conv => whnf
 refine hK _ (W.cond ⟨fun h => ?_, fun h => ?_⟩) <;> clear hK K
 ·have h := of_decide_eq_true h
  refine W.rs (cx_ok _) (by rfl) fun K hK => ?_
  conv => whnf
  refine hK _ ?_
  clear hK K
  refine W.ret ?_
  conv => whnf
  exact ⟨.v (.bool (decide (xs = ys))), (by show decide _ = false; exact decide_eq_false fun e => h (by rw [e])), trivial, rfl⟩
 have h := of_decide_eq_false h
 have hlen : xs.length = ys.length := by omega
 refine W.skip (hK1 _ ?_)
 clear hK1 K1
 refine W.seqK fun K1 hK1 => ?_
 refine W.rs (cx_ok _) (by rfl) fun K hK => ?_
 conv => whnf
 refine hK _ (W.block (W.invA (fun m e => ∃ k : Nat, k ≤ xs.length ∧ (∀ j, j < k → cf xs j = cf ys j) ∧ m = xs.length - k ∧ e = [(0, .v (.ints g xs)), (1, .v (.ints g' ys)), (5, .v (.int .i64 k))]) ⟨0, Nat.zero_le _, fun j hj => by omega, rfl, rfl⟩ ?_))
 clear hK K
 rintro m e ⟨k, h1, h2, hm, rfl⟩
 refine W.seqK fun K7 hK7 => W.rs (cx_ok _) (by rfl) fun K hK => ?_
 conv => whnf
 refine hK _ (W.cond ⟨fun h3 => ?_, fun h3 => ?_⟩) <;> clear hK K <;> (first | replace h3 := of_decide_eq_true h3 | replace h3 := of_decide_eq_false h3)
 ·refine W.skip (hK7 _ ?_)
  clear hK7 K7
  refine W.seqK fun K8 hK8 => W.block ?_
  refine W.rd (cx_ok _) follows (by rfl) fun K hK => ?_
  conv => whnf
  refine ⟨⟨by omega, by omega⟩, ?_⟩
  conv => whnf
  refine ⟨⟨by omega, by omega⟩, ?_⟩
  conv => whnf
  rw [Int.toNat_natCast]
  refine hK _ (W.cond ⟨fun h4 => ?_, fun h4 => ?_⟩) <;> clear hK K
  ·have h4 : cf xs k ≠ cf ys k := of_decide_eq_true h4
   refine W.rs (cx_ok _) (by rfl) fun K hK => ?_
   conv => whnf
   refine hK _ ?_
   clear hK K
   refine W.ret ?_
   conv => whnf
   exact ⟨.v (.bool (decide (xs = ys))), (by show decide _ = false; exact decide_eq_false fun e => h4 (by rw [e])), trivial, rfl⟩
  ·have h4 : ¬ cf xs k ≠ cf ys k := of_decide_eq_false h4
   refine W.skip (hK8 _ ?_)
   clear hK8 K8
   refine W.region (cx_ok _) (by rfl) ?_
   conv => whnf
   refine ⟨by constructor <;> omega, ?_⟩
   conv => whnf
   exact againA ⟨k + 1, by omega, fun j hj => by by_cases h9 : j = k; (subst h9; exact Classical.byContradiction h4); exact h2 j (by omega), rfl, rfl⟩
 ·obtain rfl : k = xs.length := by omega
  refine W.exit (hK1 _ ?_)
  clear hK7 K7 hK1 K1
  obtain rfl : xs = ys := list_ext hlen fun j hj => h2 j hj
  refine W.rs (cx_ok _) (by rfl) fun K hK => ?_
  conv => whnf
  refine hK _ ?_
  clear hK K
  refine W.ret ?_
  conv => whnf
  exact ⟨.v (.bool (decide (xs = xs))), (by show decide _ = true; exact decide_eq_true rfl), trivial, rfl⟩

theorem equal_fn (g g' : Option Nat) (xs ys : List Int) (hl : xs.length ≤ 1000000000) : FnV 113 [.ints g xs, .ints g' ys] (.bool (decide (xs = ys))) := by
 refine fn_of (cx_ok [0, 1, 4, 5, 10, 12, 13, 14, 24]) Tryz.func113 rfl (by decide) Tryz.ntmps113 (Nat.le_of_ble_eq_true rfl) fun base => ?_
 refine W.rs (cx_ok _) (by rfl) fun K hK => ?_
 conv => whnf
 refine hK _ ?_
 clear hK K
 refine W.seqK fun K1 hK1 => ?_
 refine W.rs (cx_ok _) (by rfl) fun K hK => ?_
 conv => whnf
 refine hK _ (W.cond ⟨fun h => ?_, fun h => ?_⟩) <;> clear hK K
 ·have h := of_decide_eq_true h
  refine W.rs (cx_ok _) (by rfl) fun K hK => ?_
  conv => whnf
  refine hK _ ?_
  clear hK K
  refine W.ret ?_
  conv => whnf
  exact ⟨.v (.bool (decide (xs = ys))), (by show decide _ = false; exact decide_eq_false fun e => h (by rw [e])), trivial, rfl⟩
 have h := of_decide_eq_false h
 have hlen : xs.length = ys.length := by omega
 refine W.skip (hK1 _ ?_)
 clear hK1 K1
 refine W.seqK fun K1 hK1 => ?_
 refine W.rs (cx_ok _) (by rfl) fun K hK => ?_
 conv => whnf
 refine hK _ (W.block (W.invA (fun m e => ∃ k : Nat, k ≤ xs.length ∧ (∀ j, j < k → cf xs j = cf ys j) ∧ m = xs.length - k ∧ e = [(0, .v (.ints g xs)), (1, .v (.ints g' ys)), (12, .v (.int .i64 xs.length)), (13, .v (.int .i64 k))]) ⟨0, Nat.zero_le _, fun j hj => by omega, rfl, rfl⟩ ?_))
 clear hK K
 rintro m e ⟨k, h1, h2, hm, rfl⟩
 refine W.rs (cx_ok _) (by rfl) fun K hK => ?_
 conv => whnf
 refine hK _ ?_
 clear hK K
 refine W.seqK fun K7 hK7 => W.cond ⟨fun h3 => ?_, fun h3 => ?_⟩ <;> (first | replace h3 := of_decide_eq_true h3 | replace h3 := of_decide_eq_false h3)
 ·refine W.skip (hK7 _ ?_)
  clear hK7 K7
  refine W.seqK fun K8 hK8 => W.block ?_
  refine W.rs (cx_ok _) (by rfl) fun K hK => ?_
  conv => whnf
  refine hK _ ?_
  clear hK K
  refine W.rd (cx_ok _) follows (by rfl) fun K hK => ?_
  conv => whnf
  refine ⟨⟨by omega, by omega⟩, ?_⟩
  conv => whnf
  refine ⟨⟨by omega, by omega⟩, ?_⟩
  conv => whnf
  rw [Int.toNat_natCast]
  refine hK _ (W.cond ⟨fun h4 => ?_, fun h4 => ?_⟩) <;> clear hK K
  ·have h4 : cf xs k ≠ cf ys k := of_decide_eq_true h4
   refine W.rs (cx_ok _) (by rfl) fun K hK => ?_
   conv => whnf
   refine hK _ ?_
   clear hK K
   refine W.ret ?_
   conv => whnf
   exact ⟨.v (.bool (decide (xs = ys))), (by show decide _ = false; exact decide_eq_false fun e => h4 (by rw [e])), trivial, rfl⟩
  ·have h4 : ¬ cf xs k ≠ cf ys k := of_decide_eq_false h4
   refine W.skip (hK8 _ ?_)
   clear hK8 K8
   refine W.region (cx_ok _) (by rfl) ?_
   conv => whnf
   refine ⟨by constructor <;> omega, ?_⟩
   conv => whnf
   exact againA ⟨k + 1, by omega, fun j hj => by by_cases h9 : j = k; (subst h9; exact Classical.byContradiction h4); exact h2 j (by omega), rfl, rfl⟩
 ·obtain rfl : k = xs.length := by omega
  refine W.exit (hK1 _ ?_)
  clear hK7 K7 hK1 K1
  obtain rfl : xs = ys := list_ext hlen fun j hj => h2 j hj
  refine W.rs (cx_ok _) (by rfl) fun K hK => ?_
  conv => whnf
  refine hK _ ?_
  clear hK K
  refine W.ret ?_
  conv => whnf
  exact ⟨.v (.bool (decide (xs = xs))), (by show decide _ = true; exact decide_eq_true rfl), trivial, rfl⟩

def Prim {p : Int} [SP p] (f X : Poly p) : Prop := IsOrd f X (p.toNat ^ (dg f - 1) - 1)
theorem Prim.ne {p : Int} [SP p] {f X : Poly p} (hi : Irr f) (h : Prim f X) : X ≠ 0 := ndvd_ne (h.ndvd hi)
theorem prim_iff {p : Int} [SP p] {f X : Poly p} {d e0 : Nat} (hd : dg f = d + 1) (h : IsOrd f X e0) : bP (Prim f X) = decide (e0 = p.toNat ^ d - 1) := by
 have e1 : dg f - 1 = d := by omega
 unfold Prim
 rw [e1]
 by_cases h1 : e0 = p.toNat ^ d - 1
 ·rw [bP_true (h1 ▸ h), decide_eq_true h1]
 ·rw [bP_false fun h2 => h1 (h.unique h2), decide_eq_false h1]

theorem isPrimitive_fn (p : Int) [SP p] (g g1 : Option Nat) (f X : Poly p) (hk : IsFld p f.l) (hi : Irr f) (hX : dg X < dg f) : FnV 140 [vK p g f.l, .ints g1 X.l] (.bool (bP (Prim f X))) := by
 have hp := Pr.two (p := p)
 have hp2 := SP.le (p := p)
 have h9 := hk.mod.2.1
 have hl2 := hk.two
 have hfl : f.l.length = dg f := rfl
 have hXl : X.l.length = dg X := rfl
 by_cases hX0 : X = 0
 ·have hX1 : dg X = 0 := dg_eq_zero.2 hX0
  have e1 : decide (0 < (X.l.length : Int)) = false := decide_eq_false (by omega)
  refine fn_of (cx_ok [0, 1, 2, 4]) Tryz.func140 rfl (by decide) Tryz.ntmps140 (Nat.le_of_ble_eq_true rfl) fun base => ?_
  refine W.rs (cx_ok _) (by rfl) fun K hK => ?_
  conv => whnf
  refine ⟨rfl, ?_⟩
  conv => whnf
  intro b_1 hs_1 hh_1 hf_1
  try dsimp only at hh_1 hf_1
  conv => whnf
  refine hK _ ?_
  clear hK K
  refine W.rd (cx_ok _) follows (by rfl) fun K hK => ?_
  conv => whnf
  rw [e1]
  conv => whnf
  refine ⟨rfl, ?_⟩
  conv => whnf
  refine hK _ ?_
  clear hK K
  refine W.ret ?_
  conv => whnf
  exact ⟨.v (.bool (bP (Prim f X))), (bP_false fun h => h.ne hi hX0).symm, trivial, rfl⟩
 have hX1 : dg X ≠ 0 := fun e => hX0 (dg_eq_zero.1 e)
 have e1 : decide (0 < (X.l.length : Int)) = true := decide_eq_true (by omega)
 obtain ⟨d, hd⟩ : ∃ d, dg f = d + 1 := ⟨dg f - 1, by omega⟩
 obtain ⟨hq1, hq2, hq3⟩ := fld_q hk hd
 obtain ⟨e0, he0⟩ := exists_isOrd _ (by omega) (fermat hi (small_ndvd hX0 hX) hd)
 have hpi := prim_iff hd he0
 refine fn_of (cx_ok [0, 1, 2, 4]) Tryz.func140 rfl (by decide) Tryz.ntmps140 (Nat.le_of_ble_eq_true rfl) fun base => ?_
 refine W.rs (cx_ok _) (by rfl) fun K hK => ?_
 conv => whnf
 refine ⟨rfl, ?_⟩
 conv => whnf
 intro b_1 hs_1 hh_1 hf_1
 try dsimp only at hh_1 hf_1
 conv => whnf
 refine hK _ ?_
 clear hK K
 refine W.rd (cx_ok _) follows (by rfl) fun K hK => ?_
 conv => whnf
 rw [e1]
 conv => whnf
 refine ⟨_, cxF (orderOf_fn p g g1 f X hk hi hX0 hX e0 he0), ?_⟩
 conv => whnf
 refine ⟨_, cxF (order_fn p g f.l (by omega) (by omega) (by omega) (by omega)), ?_⟩
 conv => whnf
 rw [hq1]
 refine ⟨by constructor <;> omega, ?_⟩
 conv => whnf
 refine hK _ ?_
 clear hK K
 refine W.ret ?_
 conv => whnf
 exact ⟨.v (.bool (bP (Prim f X))), (by show decide _ = bP _; rw [hpi]; exact decide_eq_decide.2 ⟨fun h => by omega, fun h => by omega⟩), trivial, rfl⟩

open Go Go.RowKit Go.Proofs Poly
set_option maxRecDepth 100000
set_option maxHeartbeats 8000000


theorem exists_exp {p : Int} [SP p] {f G X : Poly p} (hi : Irr f) (hG : Prim f G) (hX0 : X ≠ 0) (hX : dg X < dg f) : ∃ n, n < p.toNat ^ (dg f - 1) - 1 ∧ rem (G ^ n) f = X ∧ ∀ k, k < n → rem (G ^ k) f ≠ X := by
 obtain ⟨d, hd⟩ : ∃ d, dg f = d + 1 := ⟨dg f - 1, by have := hi.1; omega⟩
 have e1 : dg f - 1 = d := by omega
 unfold Prim at hG
 rw [e1] at hG ⊢
 obtain ⟨e, he1, he2⟩ := exists_log hi hd hG hX0 (by omega)
 obtain ⟨r, hr⟩ := exists_first (fun n => rem (G ^ n) f = X) 0 (p.toNat ^ d - 1)
 cases r with
 | none => exact absurd he2.symm (hr e (Nat.zero_le _) he1)
 | some m => exact ⟨m, hr.2.1, hr.2.2.1, fun k hk => hr.2.2.2 k (Nat.zero_le _) hk⟩

theorem l19Log_fn (p : Int) [SP p] (g g1 g2 : Option Nat) (f G X : Poly p) (h9 : dg f ≤ 9) (hi : Irr f) (hG : dg G < dg f) (hX : dg X < dg f) (n : Nat) (hn : n ≤ 1000000) (h1 : rem (G ^ n) f = X) (h2 : ∀ k, k < n → rem (G ^ k) f ≠ X) : FnV 139 [vK p g f.l, .ints g1 G.l, .ints g2 X.l] (.int .i64 n) := by
 have hf0 := hi.ne
 have hXl : X.l.length = dg X := rfl
 have hR := fun k : Nat => rem_lt (G ^ k) hf0
 have e0 : rem (G ^ 0) f = 1 := rem_small (by rw [pow_zero', dg_one]; have := hi.1; omega)
 refine fn_of (cx_ok [0, 1, 2, 3, 6, 7, 8, 13]) Tryz.func139 rfl (by decide) Tryz.ntmps139 (Nat.le_of_ble_eq_true rfl) fun base => ?_
 refine W.rs (cx_ok _) (by rfl) fun K hK => ?_
 conv => whnf
 refine ⟨rfl, ?_⟩
 conv => whnf
 intro b_1 hs_1 hh_1 hf_1
 try dsimp only at hh_1 hf_1
 conv => whnf
 refine hK _ ?_
 clear hK K
 refine W.rs (cx_ok _) (by rfl) fun K hK => ?_
 conv => whnf
 refine hK _ ?_
 clear hK K
 refine W.seqK fun K1 hK1 => ?_
 refine W.rs (cx_ok _) (by rfl) fun K hK => ?_
 conv => whnf
 refine ⟨⟨rfl, by decide⟩, ?_⟩
 conv => whnf
 intro b_2 hs_2 hh_2 hf_2
 try dsimp only at hh_2 hf_2
 conv => whnf
 refine hK _ (W.block (W.invA (fun m e => ∃ (k : Nat) (s : List Int), k ≤ n ∧ s = (rem (G ^ k) f).l ∧ m = n - k ∧ e = [(1, .v (.ints g1 G.l)), (2, .v (.ints g2 X.l)), (3, .ownB b_1 (vK p g f.l)), (7, .v (.int .i64 k)), (8, .v (.ints none s))]) ⟨0, [1], Nat.zero_le _, by rw [e0, one_l], rfl, rfl⟩ ?_))
 clear hK K
 rintro m e ⟨k, s, hk, rfl, hm, rfl⟩
 have hRk := hR k
 have hRl : (rem (G ^ k) f).l.length = dg (rem (G ^ k) f) := rfl
 refine W.seqK fun K7 hK7 => ?_
 refine W.rs (cx_ok _) (by rfl) fun K hK => ?_
 conv => whnf
 by_cases he : rem (G ^ k) f = X
 ·obtain rfl : k = n := Classical.byContradiction fun h3 => h2 k (by omega) he
  refine callV rfl ((same_fn none g2 (rem (G ^ k) f).l X.l (by omega)).tr (decide_eq_true (by rw [he]))) fun hs' hhs => ?_
  try dsimp only at hhs
  conv => whnf
  refine hK _ (W.condF rfl (W.exit (hK1 _ ?_)))
  clear hK K hK7 K7 hK1 K1
  refine W.rs (cx_ok _) (by rfl) fun K hK => ?_
  conv => whnf
  refine hK _ ?_
  clear hK K
  refine W.ret ?_
  conv => whnf
  exact ⟨.v (.int .i64 k), ⟨rfl, rfl⟩, trivial, rfl⟩
 ·have hne : k ≠ n := fun h3 => he (h3 ▸ h1)
  have e2 : rem (rem (G ^ k) f * G) f = rem (G ^ (k + 1)) f := by rw [rem_mul_left hf0, pow_succ']
  refine callV rfl ((same_fn none g2 (rem (G ^ k) f).l X.l (by omega)).fa (decide_eq_false fun h3 => he (ext_l h3))) fun hs' hhs => ?_
  try dsimp only at hhs
  conv => whnf
  refine hK _ (W.condT rfl (W.skip (hK7 _ ?_)))
  clear hK K hK7 K7
  refine W.seqK fun K8 hK8 => W.block ?_
  refine W.region (cx_ok _) (by rfl) ?_
  conv => whnf
  refine ⟨by constructor <;> omega, ?_⟩
  conv => whnf
  refine hK8 _ ?_
  clear hK8 K8
  refine W.region (cx_ok _) (by rfl) ?_
  conv => whnf
  refine callV rfl (l17Multiply_fn p g none g1 f (rem (G ^ k) f) G (by omega) (by omega) (by omega) hf0) fun hs' hhs => ?_
  try dsimp only at hhs
  conv => whnf
  rw [e2]
  exact againA ⟨k + 1, _, by omega, rfl, rfl, rfl⟩

theorem logarithm_fn (p : Int) [SP p] (g g1 g2 : Option Nat) (f G X : Poly p) (h9 : dg f ≤ 9) (hi : Irr f) (hG : dg G < dg f) (hX : dg X < dg f) (n : Nat) (hn : n ≤ 1000000) (h1 : rem (G ^ n) f = X) (h2 : ∀ k, k < n → rem (G ^ k) f ≠ X) : FnV 141 [vK p g f.l, .ints g1 G.l, .ints g2 X.l] (.int .i64 n) := by
 have hf0 := hi.ne
 have hXl : X.l.length = dg X := rfl
 have hR := fun k : Nat => rem_lt (G ^ k) hf0
 have e0 : rem (G ^ 0) f = 1 := rem_small (by rw [pow_zero', dg_one]; have := hi.1; omega)
 refine fn_of (cx_ok [0, 1, 2, 3, 6, 7, 8, 13]) Tryz.func141 rfl (by decide) Tryz.ntmps141 (Nat.le_of_ble_eq_true rfl) fun base => ?_
 refine W.rs (cx_ok _) (by rfl) fun K hK => ?_
 conv => whnf
 refine ⟨rfl, ?_⟩
 conv => whnf
 intro b_1 hs_1 hh_1 hf_1
 try dsimp only at hh_1 hf_1
 conv => whnf
 refine hK _ ?_
 clear hK K
 refine W.rs (cx_ok _) (by rfl) fun K hK => ?_
 conv => whnf
 refine hK _ ?_
 clear hK K
 refine W.seqK fun K1 hK1 => ?_
 refine W.rs (cx_ok _) (by rfl) fun K hK => ?_
 conv => whnf
 refine ⟨⟨rfl, by decide⟩, ?_⟩
 conv => whnf
 intro b_2 hs_2 hh_2 hf_2
 try dsimp only at hh_2 hf_2
 conv => whnf
 refine hK _ (W.block (W.invA (fun m e => ∃ (k : Nat) (s : List Int), k ≤ n ∧ s = (rem (G ^ k) f).l ∧ m = n - k ∧ e = [(1, .v (.ints g1 G.l)), (2, .v (.ints g2 X.l)), (3, .ownB b_1 (vK p g f.l)), (7, .v (.int .i64 k)), (8, .v (.ints none s))]) ⟨0, [1], Nat.zero_le _, by rw [e0, one_l], rfl, rfl⟩ ?_))
 clear hK K
 rintro m e ⟨k, s, hk, rfl, hm, rfl⟩
 have hRk := hR k
 have hRl : (rem (G ^ k) f).l.length = dg (rem (G ^ k) f) := rfl
 refine W.seqK fun K7 hK7 => ?_
 refine W.rs (cx_ok _) (by rfl) fun K hK => ?_
 conv => whnf
 by_cases he : rem (G ^ k) f = X
 ·obtain rfl : k = n := Classical.byContradiction fun h3 => h2 k (by omega) he
  refine callV rfl ((equal_fn none g2 (rem (G ^ k) f).l X.l (by omega)).tr (decide_eq_true (by rw [he]))) fun hs' hhs => ?_
  try dsimp only at hhs
  conv => whnf
  refine hK _ (W.condF rfl (W.exit (hK1 _ ?_)))
  clear hK K hK7 K7 hK1 K1
  refine W.rs (cx_ok _) (by rfl) fun K hK => ?_
  conv => whnf
  refine hK _ ?_
  clear hK K
  refine W.ret ?_
  conv => whnf
  exact ⟨.v (.int .i64 k), ⟨rfl, rfl⟩, trivial, rfl⟩
 ·have hne : k ≠ n := fun h3 => he (h3 ▸ h1)
  have e2 : rem (rem (G ^ k) f * G) f = rem (G ^ (k + 1)) f := by rw [rem_mul_left hf0, pow_succ']
  refine callV rfl ((equal_fn none g2 (rem (G ^ k) f).l X.l (by omega)).fa (decide_eq_false fun h3 => he (ext_l h3))) fun hs' hhs => ?_
  try dsimp only at hhs
  conv => whnf
  refine hK _ (W.condT rfl (W.skip (hK7 _ ?_)))
  clear hK K hK7 K7
  refine W.seqK fun K8 hK8 => W.block ?_
  refine W.region (cx_ok _) (by rfl) ?_
  conv => whnf
  refine ⟨by constructor <;> omega, ?_⟩
  conv => whnf
  refine hK8 _ ?_
  clear hK8 K8
  refine W.region (cx_ok _) (by rfl) ?_
  conv => whnf
  refine callV rfl (kTimes_fn p g none g1 f (rem (G ^ k) f) G (by omega) (by omega) (by omega) hf0) fun hs' hhs => ?_
  try dsimp only at hhs
  conv => whnf
  rw [e2]
  exact againA ⟨k + 1, _, by omega, rfl, rfl, rfl⟩

noncomputable def codeBase {p : Int} [SP p] (f G X : Poly p) : Int := bif bP (G ≠ 0 ∧ X ≠ 0 ∧ Prim f G) then 0 else 5

theorem l19Base_fn (p : Int) [SP p] (g g1 g2 : Option Nat) (f G X : Poly p) (hk : IsFld p f.l) (hi : Irr f) (hG : dg G < dg f) (hX : dg X < dg f) (hc : codeEl p f.l true 2 (two G.l X.l) = 0) : FnV 136 [vK p g f.l, .ints g1 G.l, .ints g2 X.l] (.int .i64 (codeBase f G X)) := by
 have hGl : G.l.length = dg G := rfl
 have hXl : X.l.length = dg X := rfl
 have e0 : decide ((0 : Int) = 0) = true := by decide
 have hp := Pr.two (p := p)
 have hp2 := SP.le (p := p)
 have h9 := hk.mod.2.1
 have hl2 := hk.two
 have hfl : f.l.length = dg f := rfl
 have hf0 := hi.ne
 obtain ⟨d, hd⟩ : ∃ d, dg f = d + 1 := ⟨dg f - 1, by omega⟩
 obtain ⟨hq1, hq2, hq3⟩ := fld_q hk hd
 have hpd : ∀ {k : Nat}, k < p.toNat ^ d → dg (polyN p k) < dg f := fun {k} h => by have := polyN_dg (p := p) h; omega
 have hnl : ∀ k : Nat, dig p.toNat k = (polyN p k).l := fun k => (polyN_l k).symm
 have hfm : ∀ {X : Poly p}, X ≠ 0 → dg X < dg f → One f X (p.toNat ^ d - 1) := fun h h' => fermat hi (small_ndvd h h') hd
 have hpi : ∀ {X : Poly p} {e0 : Nat}, IsOrd f X e0 → bP (Prim f X) = decide (e0 = p.toNat ^ d - 1) := fun h => prim_iff hd h
 by_cases hG0 : G = 0
 ·have hG1 : dg G = 0 := dg_eq_zero.2 hG0
  have e1 : decide ((G.l.length : Int) = 0) = true := decide_eq_true (by omega)
  refine fn_of (cx_ok [0, 1, 2, 3, 6, 7, 32]) Tryz.func136 rfl (by decide) Tryz.ntmps136 (Nat.le_of_ble_eq_true rfl) fun base => ?_
  refine W.rs (cx_ok _) (by rfl) fun K hK => ?_
  conv => whnf
  refine ⟨rfl, ?_⟩
  conv => whnf
  intro b_1 hs_1 hh_1 hf_1
  try dsimp only at hh_1 hf_1
  conv => whnf
  refine hK _ ?_
  clear hK K
  refine W.rs (cx_ok _) (by rfl) fun K hK => ?_
  conv => whnf
  refine callV rfl (l17Code_fn p g g1 g2 f.l G.l X.l (by omega) (by omega) (by omega)) fun hs' hhs => ?_
  try dsimp only at hhs
  conv => whnf
  rw [hc]
  refine hK _ ?_
  clear hK K
  refine W.seqK fun K1 hK1 => ?_
  refine W.rd (cx_ok _) follows (by rfl) fun K hK => ?_
  conv => whnf
  rw [e0]
  conv => whnf
  rw [e1]
  conv => whnf
  refine ⟨rfl, ?_⟩
  conv => whnf
  refine ⟨rfl, ?_⟩
  conv => whnf
  refine hK _ (W.cond ⟨fun _ => ?_, fun h => absurd h (by decide)⟩)
  clear hK K
  refine W.region (cx_ok _) (by rfl) ?_
  conv => whnf
  refine hK1 _ ?_
  clear hK1 K1
  refine W.rs (cx_ok _) (by rfl) fun K hK => ?_
  conv => whnf
  refine hK _ ?_
  clear hK K
  refine W.ret ?_
  conv => whnf
  exact ⟨.v (.int .i64 (codeBase f G X)), ⟨rfl, by unfold codeBase; rw [bP_false fun h => h.1 hG0]; rfl⟩, trivial, rfl⟩
 have hG1 : dg G ≠ 0 := fun e => hG0 (dg_eq_zero.1 e)
 have e1 : decide ((G.l.length : Int) = 0) = false := decide_eq_false (by omega)
 by_cases hX0 : X = 0
 ·have hX1 : dg X = 0 := dg_eq_zero.2 hX0
  have e2 : decide ((X.l.length : Int) = 0) = true := decide_eq_true (by omega)
  refine fn_of (cx_ok [0, 1, 2, 3, 6, 7, 32]) Tryz.func136 rfl (by decide) Tryz.ntmps136 (Nat.le_of_ble_eq_true rfl) fun base => ?_
  refine W.rs (cx_ok _) (by rfl) fun K hK => ?_
  conv => whnf
  refine ⟨rfl, ?_⟩
  conv => whnf
  intro b_1 hs_1 hh_1 hf_1
  try dsimp only at hh_1 hf_1
  conv => whnf
  refine hK _ ?_
  clear hK K
  refine W.rs (cx_ok _) (by rfl) fun K hK => ?_
  conv => whnf
  refine callV rfl (l17Code_fn p g g1 g2 f.l G.l X.l (by omega) (by omega) (by omega)) fun hs' hhs => ?_
  try dsimp only at hhs
  conv => whnf
  rw [hc]
  refine hK _ ?_
  clear hK K
  refine W.seqK fun K1 hK1 => ?_
  refine W.rd (cx_ok _) follows (by rfl) fun K hK => ?_
  conv => whnf
  rw [e0]
  conv => whnf
  rw [e1]
  conv => whnf
  rw [e2]
  conv => whnf
  refine ⟨rfl, ?_⟩
  conv => whnf
  refine hK _ (W.cond ⟨fun _ => ?_, fun h => absurd h (by decide)⟩)
  clear hK K
  refine W.region (cx_ok _) (by rfl) ?_
  conv => whnf
  refine hK1 _ ?_
  clear hK1 K1
  refine W.rs (cx_ok _) (by rfl) fun K hK => ?_
  conv => whnf
  refine hK _ ?_
  clear hK K
  refine W.ret ?_
  conv => whnf
  exact ⟨.v (.int .i64 (codeBase f G X)), ⟨rfl, by unfold codeBase; rw [bP_false fun h => h.2.1 hX0]; rfl⟩, trivial, rfl⟩
 have hX1 : dg X ≠ 0 := fun e => hX0 (dg_eq_zero.1 e)
 have e2 : decide ((X.l.length : Int) = 0) = false := decide_eq_false (by omega)
 obtain ⟨e3, he3⟩ := exists_isOrd _ (by omega) (hfm hG0 hG)
 have hpg := hpi he3
 refine fn_of (cx_ok [0, 1, 2, 3, 6, 7, 32]) Tryz.func136 rfl (by decide) Tryz.ntmps136 (Nat.le_of_ble_eq_true rfl) fun base => ?_
 refine W.rs (cx_ok _) (by rfl) fun K hK => ?_
 conv => whnf
 refine ⟨rfl, ?_⟩
 conv => whnf
 intro b_1 hs_1 hh_1 hf_1
 try dsimp only at hh_1 hf_1
 conv => whnf
 refine hK _ ?_
 clear hK K
 refine W.rs (cx_ok _) (by rfl) fun K hK => ?_
 conv => whnf
 refine callV rfl (l17Code_fn p g g1 g2 f.l G.l X.l (by omega) (by omega) (by omega)) fun hs' hhs => ?_
 try dsimp only at hhs
 conv => whnf
 rw [hc]
 refine hK _ ?_
 clear hK K
 refine W.seqK fun K1 hK1 => ?_
 refine W.rd (cx_ok _) follows (by rfl) fun K hK => ?_
 conv => whnf
 rw [e0]
 conv => whnf
 rw [e1]
 conv => whnf
 rw [e2]
 conv => whnf
 refine ⟨_, cxF (l17ElementOrder_fn p g g1 f G hk hi hG0 hG e3 he3), ?_⟩
 conv => whnf
 refine ⟨_, cxF (l17Size_fn p g f.l hk), ?_⟩
 conv => whnf
 rw [hq1]
 refine ⟨by constructor <;> omega, ?_⟩
 conv => whnf
 refine hK _ (W.cond ⟨fun h => ?_, fun h => ?_⟩) <;> clear hK K
 ·have h : (e3 : Int) ≠ ((p.toNat ^ d : Nat) : Int) - 1 := of_decide_eq_true h
  have hnp : ¬ Prim f G := fun hp => by
   rw [bP_true hp] at hpg
   have := of_decide_eq_true hpg.symm
   omega
  refine W.region (cx_ok _) (by rfl) ?_
  conv => whnf
  refine hK1 _ ?_
  clear hK1 K1
  refine W.rs (cx_ok _) (by rfl) fun K hK => ?_
  conv => whnf
  refine hK _ ?_
  clear hK K
  refine W.ret ?_
  conv => whnf
  exact ⟨.v (.int .i64 (codeBase f G X)), ⟨rfl, by unfold codeBase; rw [bP_false fun h => hnp h.2.2]; rfl⟩, trivial, rfl⟩
 ·have h : ¬ (e3 : Int) ≠ ((p.toNat ^ d : Nat) : Int) - 1 := of_decide_eq_false h
  have hnp : Prim f G := Classical.byContradiction fun hp => by
   rw [bP_false hp] at hpg
   have := of_decide_eq_false hpg.symm
   omega
  refine W.skip (hK1 _ ?_)
  clear hK1 K1
  refine W.rs (cx_ok _) (by rfl) fun K hK => ?_
  conv => whnf
  refine hK _ ?_
  clear hK K
  refine W.ret ?_
  conv => whnf
  exact ⟨.v (.int .i64 (codeBase f G X)), ⟨rfl, by unfold codeBase; rw [bP_true ⟨hG0, hX0, hnp⟩]; rfl⟩, trivial, rfl⟩

open Go Go.RowKit Go.Proofs Poly
set_option maxRecDepth 100000
set_option maxHeartbeats 8000000

open Go Go.RowKit Go.Proofs Poly
set_option maxRecDepth 100000
set_option maxHeartbeats 8000000

/- greatest common divisors of numbers -/
open Go Go.RowKit Go.Proofs Poly
set_option maxRecDepth 100000
set_option maxHeartbeats 8000000

theorem exponent_fn (p n : Int) (g : Option Nat) (l : List Int) (hl : l.length ≤ 1000000000) : FnV 105 [vK p g l, .int .i64 n] (.bool (bP (IsFld p l ∧ 1 ≤ n ∧ n ≤ p ^ (l.length - 1) - 1))) := by
 by_cases hk : IsFld p l
 case neg =>
  refine fn_of (cx_ok [0, 1, 2, 4]) Tryz.func105 rfl (by decide) Tryz.ntmps105 (Nat.le_of_ble_eq_true rfl) fun base => ?_
  refine W.rs (cx_ok _) (by rfl) fun K hK => ?_
  conv => whnf
  refine ⟨rfl, ?_⟩
  conv => whnf
  intro b_1 hs_1 hh_1 hf_1
  try dsimp only at hh_1 hf_1
  conv => whnf
  refine hK _ ?_
  clear hK K
  refine W.rs (cx_ok _) (by rfl) fun K hK => ?_
  conv => whnf
  refine callV rfl ((isField_fn p g l hl).fa (bP_false hk)) fun hs' hhs => ?_
  try dsimp only at hhs
  conv => whnf
  refine hK _ ?_
  clear hK K
  refine W.ret ?_
  conv => whnf
  exact ⟨.v (.bool (bP (IsFld p l ∧ 1 ≤ n ∧ n ≤ p ^ (l.length - 1) - 1))), bP_false fun h => hk h.1, trivial, rfl⟩
 have hp1 := isP_le hk.mod.1
 have h9 := hk.mod.2.1
 have hl2 := hk.two
 have hb := pow_le_big (p := p) (by omega) (by omega) (k := l.length - 1) (by omega)
 have e1 : decide (1 ≤ n ∧ n ≤ p ^ (l.length - 1) - 1) = bP (IsFld p l ∧ 1 ≤ n ∧ n ≤ p ^ (l.length - 1) - 1) := by
  by_cases h : 1 ≤ n ∧ n ≤ p ^ (l.length - 1) - 1
  ·rw [decide_eq_true h, bP_true ⟨hk, h⟩]
  ·rw [decide_eq_false h, bP_false fun h' => h h'.2]
 refine fn_of (cx_ok [0, 1, 2, 4]) Tryz.func105 rfl (by decide) Tryz.ntmps105 (Nat.le_of_ble_eq_true rfl) fun base => ?_
 refine W.rs (cx_ok _) (by rfl) fun K hK => ?_
 conv => whnf
 refine ⟨rfl, ?_⟩
 conv => whnf
 intro b_1 hs_1 hh_1 hf_1
 try dsimp only at hh_1 hf_1
 conv => whnf
 refine hK _ ?_
 clear hK K
 refine W.rs (cx_ok _) (by rfl) fun K hK => ?_
 conv => whnf
 refine callV rfl ((isField_fn p g l hl).tr (bP_true hk)) fun hs' hhs => ?_
 try dsimp only at hhs
 conv => whnf
 refine callV rfl (order_fn p g l (by omega) (by omega) (by omega) (by omega)) fun hs' hhs => ?_
 try dsimp only at hhs
 conv => whnf
 refine ⟨by constructor <;> omega, ?_⟩
 conv => whnf
 refine callV rfl (within_fn n 1 (p ^ (l.length - 1) - 1)) fun hs' hhs => ?_
 try dsimp only at hhs
 conv => whnf
 refine hK _ ?_
 clear hK K
 refine W.ret ?_
 conv => whnf
 exact ⟨.v (.bool (bP (IsFld p l ∧ 1 ≤ n ∧ n ≤ p ^ (l.length - 1) - 1))), e1, trivial, rfl⟩

noncomputable def codeEx (p : Int) (l x : List Int) (n : Int) : Int :=
 if code1 p l x = 0 then (if 1 ≤ n ∧ n ≤ p ^ (l.length - 1) - 1 then (if x = [] then 5 else 0) else 2) else code1 p l x

theorem l19Code_fn (p n : Int) (g g1 : Option Nat) (l x : List Int) (hl : l.length ≤ 1000000000) (hx : x.length ≤ 1000000000) : FnV 109 [vK p g l, .ints g1 x, .int .i64 n] (.int .i64 (codeEx p l x n)) := by
 generalize hc : code1 p l x = c
 by_cases h0 : c = 0
 case neg =>
  have e9 : codeEx p l x n = c := by unfold codeEx; rw [hc, if_neg h0]
  refine fn_of (cx_ok [0, 1, 2, 3, 6, 7, 21, 28]) Tryz.func109 rfl (by decide) Tryz.ntmps109 (Nat.le_of_ble_eq_true rfl) fun base => ?_
  refine W.rs (cx_ok _) (by rfl) fun K hK => ?_
  conv => whnf
  refine ⟨rfl, ?_⟩
  conv => whnf
  intro b_1 hs_1 hh_1 hf_1
  try dsimp only at hh_1 hf_1
  conv => whnf
  refine hK _ ?_
  clear hK K
  refine W.rs (cx_ok _) (by rfl) fun K hK => ?_
  conv => whnf
  refine callV rfl (l17Code_one p g g1 g1 l x hl hx) fun hs' hhs => ?_
  try dsimp only at hhs
  conv => whnf
  rw [hc]
  refine hK _ ?_
  clear hK K
  refine W.seqK fun K1 hK1 => ?_
  refine W.rs (cx_ok _) (by rfl) fun K hK => ?_
  conv => whnf
  refine ⟨fun h => ?_, fun h => ?_⟩ <;> conv => whnf
  ·exact absurd (of_decide_eq_true h) h0
  refine hK _ (W.condF rfl (W.skip (hK1 _ ?_)))
  clear hK K hK1 K1
  refine W.seqK fun K1 hK1 => ?_
  refine W.rs (cx_ok _) (by rfl) fun K hK => ?_
  conv => whnf
  refine ⟨fun h2 => ?_, fun h2 => ?_⟩ <;> conv => whnf
  ·exact absurd (of_decide_eq_true h2) h0
  refine hK _ (W.condF rfl (W.skip (hK1 _ ?_)))
  clear hK K hK1 K1
  refine W.rs (cx_ok _) (by rfl) fun K hK => ?_
  conv => whnf
  refine hK _ ?_
  clear hK K
  refine W.ret ?_
  conv => whnf
  exact ⟨.v (.int .i64 (codeEx p l x n)), ⟨rfl, e9.symm⟩, trivial, rfl⟩
 subst h0
 obtain ⟨hk, hh⟩ := code1_ok hc
 have hp1 := isP_le hk.mod.1
 have h9 := hk.mod.2.1
 have hl2 := hk.two
 have hb := pow_le_big (p := p) (by omega) (by omega) (k := l.length - 1) (by omega)
 by_cases hr : 1 ≤ n ∧ n ≤ p ^ (l.length - 1) - 1
 case neg =>
  have e9 : codeEx p l x n = 2 := by unfold codeEx; rw [hc, if_pos rfl, if_neg hr]
  refine fn_of (cx_ok [0, 1, 2, 3, 6, 7, 21, 28]) Tryz.func109 rfl (by decide) Tryz.ntmps109 (Nat.le_of_ble_eq_true rfl) fun base => ?_
  refine W.rs (cx_ok _) (by rfl) fun K hK => ?_
  conv => whnf
  refine ⟨rfl, ?_⟩
  conv => whnf
  intro b_1 hs_1 hh_1 hf_1
  try dsimp only at hh_1 hf_1
  conv => whnf
  refine hK _ ?_
  clear hK K
  refine W.rs (cx_ok _) (by rfl) fun K hK => ?_
  conv => whnf
  refine callV rfl (l17Code_one p g g1 g1 l x hl hx) fun hs' hhs => ?_
  try dsimp only at hhs
  conv => whnf
  rw [hc]
  refine hK _ ?_
  clear hK K
  refine W.seqK fun K1 hK1 => ?_
  refine W.rs (cx_ok _) (by rfl) fun K hK => ?_
  conv => whnf
  refine ⟨fun h => ?_, fun h => ?_⟩ <;> conv => whnf
  ·refine callV rfl (l17Size_fn p g l hk) fun hs' hhs => ?_
   try dsimp only at hhs
   conv => whnf
   refine ⟨by constructor <;> omega, ?_⟩
   conv => whnf
   refine callV rfl ((l01In_fn n 1 (p ^ (l.length - 1) - 1)).fa (decide_eq_false hr)) fun hs' hhs => ?_
   try dsimp only at hhs
   conv => whnf
   refine hK _ (W.condT rfl ?_)
   clear hK K
   refine W.region (cx_ok _) (by rfl) ?_
   conv => whnf
   refine hK1 _ ?_
   clear hK1 K1
   refine W.seqK fun K1 hK1 => ?_
   refine W.rs (cx_ok _) (by rfl) fun K hK => ?_
   conv => whnf
   refine ⟨fun h2 => ?_, fun h2 => ?_⟩ <;> conv => whnf
   ·exact absurd (of_decide_eq_true h2) (by decide)
   refine hK _ (W.condF rfl (W.skip (hK1 _ ?_)))
   clear hK K hK1 K1
   refine W.rs (cx_ok _) (by rfl) fun K hK => ?_
   conv => whnf
   refine hK _ ?_
   clear hK K
   refine W.ret ?_
   conv => whnf
   exact ⟨.v (.int .i64 (codeEx p l x n)), ⟨rfl, e9.symm⟩, trivial, rfl⟩
  ·exact absurd rfl (of_decide_eq_false h)
 have e9 : codeEx p l x n = if x = [] then 5 else 0 := by unfold codeEx; rw [hc, if_pos rfl, if_pos hr]
 refine fn_of (cx_ok [0, 1, 2, 3, 6, 7, 21, 28]) Tryz.func109 rfl (by decide) Tryz.ntmps109 (Nat.le_of_ble_eq_true rfl) fun base => ?_
 refine W.rs (cx_ok _) (by rfl) fun K hK => ?_
 conv => whnf
 refine ⟨rfl, ?_⟩
 conv => whnf
 intro b_1 hs_1 hh_1 hf_1
 try dsimp only at hh_1 hf_1
 conv => whnf
 refine hK _ ?_
 clear hK K
 refine W.rs (cx_ok _) (by rfl) fun K hK => ?_
 conv => whnf
 refine callV rfl (l17Code_one p g g1 g1 l x hl hx) fun hs' hhs => ?_
 try dsimp only at hhs
 conv => whnf
 rw [hc]
 refine hK _ ?_
 clear hK K
 refine W.seqK fun K1 hK1 => ?_
 refine W.rs (cx_ok _) (by rfl) fun K hK => ?_
 conv => whnf
 refine ⟨fun h => ?_, fun h => ?_⟩ <;> conv => whnf
 ·refine callV rfl (l17Size_fn p g l hk) fun hs' hhs => ?_
  try dsimp only at hhs
  conv => whnf
  refine ⟨by constructor <;> omega, ?_⟩
  conv => whnf
  refine callV rfl ((l01In_fn n 1 (p ^ (l.length - 1) - 1)).tr (decide_eq_true hr)) fun hs' hhs => ?_
  try dsimp only at hhs
  conv => whnf
  refine hK _ (W.condF rfl (W.skip (hK1 _ ?_)))
  clear hK K hK1 K1
  refine W.seqK fun K1 hK1 => ?_
  refine W.rs (cx_ok _) (by rfl) fun K hK => ?_
  conv => whnf
  refine ⟨fun h2 => ?_, fun h2 => ?_⟩ <;> conv => whnf
  ·refine hK _ (W.cond ⟨fun h3 => ?_, fun h3 => ?_⟩) <;> clear hK K
   ·have h3 := of_decide_eq_true h3
    have hx0 : x = [] := List.eq_nil_of_length_eq_zero (by omega)
    refine W.region (cx_ok _) (by rfl) ?_
    conv => whnf
    refine hK1 _ ?_
    clear hK1 K1
    refine W.rs (cx_ok _) (by rfl) fun K hK => ?_
    conv => whnf
    refine hK _ ?_
    clear hK K
    refine W.ret ?_
    conv => whnf
    exact ⟨.v (.int .i64 (codeEx p l x n)), ⟨rfl, by rw [e9, if_pos hx0]⟩, trivial, rfl⟩
   ·have h3 := of_decide_eq_false h3
    have hx0 : x ≠ [] := fun e => h3 (by rw [e]; rfl)
    refine W.skip (hK1 _ ?_)
    clear hK1 K1
    refine W.rs (cx_ok _) (by rfl) fun K hK => ?_
    conv => whnf
    refine hK _ ?_
    clear hK K
    refine W.ret ?_
    conv => whnf
    exact ⟨.v (.int .i64 (codeEx p l x n)), ⟨rfl, by rw [e9, if_neg hx0]⟩, trivial, rfl⟩
  ·exact absurd rfl (of_decide_eq_false h2)
 ·exact absurd rfl (of_decide_eq_false h)


/- how many are primitive -/
open Go Go.RowKit Go.Proofs Poly
set_option maxRecDepth 100000
set_option maxHeartbeats 8000000

def sel (Q : Nat → Bool) : Nat → List Int
 | 0 => []
 | k + 1 => if Q (k + 1) = true then sel Q k ++ [((k + 1 : Nat) : Int)] else sel Q k
theorem sel_le (Q : Nat → Bool) (k : Nat) : (sel Q k).length ≤ (sel Q (k + 1)).length := by
 rw [sel]; split
 ·simp
 ·exact Nat.le_refl _
theorem sel_mono (Q : Nat → Bool) {a b : Nat} (h : a ≤ b) : (sel Q a).length ≤ (sel Q b).length := by
 induction h with
 | refl => exact Nat.le_refl _
 | step _ ih => exact Nat.le_trans ih (sel_le Q _)
theorem sel_len (Q : Nat → Bool) : ∀ k, (sel Q k).length ≤ k
 | 0 => Nat.le_refl _
 | k + 1 => by
  have := sel_len Q k
  rw [sel]; split
  ·simp; omega
  ·omega
theorem sel_none {Q : Nat → Bool} : ∀ k, (∀ i, 1 ≤ i → i ≤ k → Q i = false) → sel Q k = []
 | 0, _ => rfl
 | k + 1, h => by rw [sel, h (k + 1) (by omega) (by omega), sel_none k fun i h1 h2 => h i h1 (by omega)]; rfl
def fewL (l : List Int) : List Int := if 60 < l.length then [] else l
def fewC (l : List Int) : Int := if 60 < l.length then 3 else 0
theorem fewL_len (l : List Int) : (fewL l).length ≤ 60 := by
 unfold fewL
 split
 ·simp
 ·omega

theorem l19List_fn (l : List Int) (_ : l.length ≤ 1000000000) : FnV 103 [.ints none l] (.tup [.ints none (fewL l), .int .i64 (fewC l)]) := by
 refine fn_of (cx_ok [0, 2, 3, 6]) Tryz.func103 rfl (by decide) Tryz.ntmps103 (Nat.le_of_ble_eq_true rfl) fun base => ?_
 refine W.rs (cx_ok _) (by rfl) fun K hK => ?_
 conv => whnf
 refine hK _ ?_
 clear hK K
 refine W.seqK fun K1 hK1 => ?_
 refine W.rs (cx_ok _) (by rfl) fun K hK => ?_
 conv => whnf
 refine hK _ (W.cond ⟨fun h => ?_, fun h => ?_⟩) <;> clear hK K
 ·have h := of_decide_eq_true h
  have e1 : fewL l = [] := if_pos (by omega)
  have e2 : fewC l = 3 := if_pos (by omega)
  refine W.rs (cx_ok _) (by rfl) fun K hK => ?_
  conv => whnf
  refine hK _ ?_
  clear hK K
  refine W.ret ?_
  conv => whnf
  exact ⟨.v (.ints none []), rfl, trivial, .v (.int .i64 3), ⟨rfl, rfl⟩, trivial, (by show AV.v (V.tup [V.ints none [], V.int .i64 3]) = AV.v (V.tup [V.ints none (fewL l), V.int .i64 (fewC l)]); rw [e1, e2])⟩
 ·have h := of_decide_eq_false h
  have e1 : fewL l = l := if_neg (by omega)
  have e2 : fewC l = 0 := if_neg (by omega)
  refine W.skip (hK1 _ ?_)
  clear hK1 K1
  refine W.rs (cx_ok _) (by rfl) fun K hK => ?_
  conv => whnf
  refine hK _ ?_
  clear hK K
  refine W.ret ?_
  conv => whnf
  exact ⟨.v (.ints none l), ⟨rfl, rfl⟩, trivial, .v (.int .i64 0), ⟨rfl, rfl⟩, trivial, (by show AV.v (V.tup [V.ints none l, V.int .i64 0]) = AV.v (V.tup [V.ints none (fewL l), V.int .i64 (fewC l)]); rw [e1, e2])⟩

theorem fewNumbers_T (p : Int) [SP p] (g : Option Nat) (f : Poly p) (hk : IsFld p f.l) (hi : Irr f) (d : Nat) (hd : dg f = d + 1) (cf' : Nat) (caps : List V) (Q : Nat → Bool)
  (hQ : ∀ i, 1 ≤ i → i < p.toNat ^ d → FnV cf' ([.ints none (polyN p i).l] ++ caps) (.bool (Q i))) :
  FnT Tryz.prog 106 [vK p g f.l, .func cf' caps] (RT (fewL (sel Q (p.toNat ^ d - 1))) (fewC (sel Q (p.toNat ^ d - 1)))) := by
 have hp := Pr.two (p := p)
 have hp2 := SP.le (p := p)
 have h9 := hk.mod.2.1
 have hl2 := hk.two
 have hfl : f.l.length = dg f := rfl
 obtain ⟨hq1, hq2, hq3⟩ := fld_q hk hd
 have hnl : ∀ k : Nat, dig p.toNat k = (polyN p k).l := fun k => (polyN_l k).symm
 generalize p.toNat ^ d = q at hq1 hq2 hq3 hQ
 refine fnt_of (cxt_ok [] [0, 1, 2, 4, 5, 6, 7, 11, 19, 26, 1000000]) Tryz.func106 rfl (by decide) Tryz.ntmps106 (Nat.le_of_ble_eq_true rfl) (fun base => ?_) (Nat.le_of_ble_eq_true rfl)
 refine W.sw (c' := cx [0, 1, 2, 4, 5, 6, 7, 11, 19, 26, 1000000]) ?_
 refine W.rs (cx_ok _) (by rfl) fun K hK => ?_
 conv => whnf
 refine ⟨rfl, ?_⟩
 conv => whnf
 intro b_2 hs_2 hh_2 hf_2
 try dsimp only at hh_2 hf_2
 conv => whnf
 refine hK _ ?_
 clear hK K
 refine W.rs (cx_ok _) (by rfl) fun K hK => ?_
 conv => whnf
 refine hK _ ?_
 clear hK K
 refine W.seqK fun K1 hK1 => W.rs (cx_ok _) (by rfl) fun K hK => ?_
 conv => whnf
 refine hK _ (W.block (W.invA (fun m e => ∃ (k b : Nat) (o : List Int), k ≤ q - 1 ∧ o = sel Q k ∧ o.length ≤ 60 ∧ m = q - 1 - k ∧ e = [(vt, .tab fun _ => none), (1, .v (.func cf' caps)), (2, .ownB b_2 (vK p g f.l)), (6, .ownI 2 b o), (7, .v (.int .i64 ((k + 1 : Nat) : Int)))]) ⟨0, 0, [], Nat.zero_le _, rfl, by simp, rfl, rfl⟩ ?_))
 clear hK K
 rintro m e ⟨k, b, o, hkq, rfl, hol, hm, rfl⟩
 refine W.seqK fun K7 hK7 => ?_
 refine W.rs (cx_ok _) (by rfl) fun K hK => ?_
 conv => whnf
 refine callV rfl (order_fn p g f.l (by omega) (by omega) (by omega) (by omega)) fun hs' hhs => ?_
 try dsimp only at hhs
 conv => whnf
 rw [hq1]
 refine hK _ (W.cond ⟨fun h => ?_, fun h => ?_⟩) <;> clear hK K
 ·have h := of_decide_eq_true h
  have hQk := hQ (k + 1) (by omega) (by omega)
  refine W.skip (hK7 _ ?_)
  clear hK7 K7
  refine W.seqK fun K8 hK8 => W.block ?_
  refine W.seqK fun K9 hK9 => ?_
  have mid : ∀ (b' : Nat) (t : S), base ≤ t.hs → coverK t.env [(vt, .tab fun _ => none), (1, .v (.func cf' caps)), (2, .ownB b_2 (vK p g f.l)), (6, .ownI 2 b' (sel Q (k + 1))), (7, .v (.int .i64 ((k + 1 : Nat) : Int)))] → K9 t := by
   intro b' t h7 h8
   refine hK9 _ (W.weak (t := ⟨[(vt, .tab fun _ => none), (1, .v (.func cf' caps)), (2, .ownB b_2 (vK p g f.l)), (6, .ownI 2 b' (sel Q (k + 1))), (7, .v (.int .i64 ((k + 1 : Nat) : Int)))], base⟩) ⟨h7, h8⟩ (Nat.le_refl _) ?_)
   clear hK9 K9
   refine W.rs (cx_ok _) (by rfl) fun K hK => ?_
   conv => whnf
   refine hK _ (W.cond ⟨fun h5 => ?_, fun h5 => ?_⟩) <;> clear hK K
   ·have h5 := of_decide_eq_true h5
    have h6 := sel_mono Q (a := k + 1) (b := q - 1) (by omega)
    have e8 : fewL (sel Q (q - 1)) = [] := if_pos (by omega)
    have e9 : fewC (sel Q (q - 1)) = 3 := if_pos (by omega)
    refine W.rs (cx_ok _) (by rfl) fun K hK => ?_
    conv => whnf
    refine hK _ ?_
    clear hK K
    refine W.ret ?_
    conv => whnf
    exact ⟨.v (.rf 0 0), rfl, trivial, .v (.int .i64 3), ⟨rfl, rfl⟩, trivial, by rw [e8, e9]; exact ⟨0, rfl, fun h => absurd rfl h⟩⟩
   ·have h5 := of_decide_eq_false h5
    refine W.skip (hK8 _ ?_)
    clear hK8 K8
    refine W.region (cx_ok _) (by rfl) ?_
    conv => whnf
    refine ⟨by constructor <;> omega, ?_⟩
    conv => whnf
    exact againA ⟨k + 1, b', _, by omega, rfl, by omega, rfl, rfl⟩
  clear hK9
  refine W.rs (cx_ok _) (by rfl) fun K hK => ?_
  conv => whnf
  refine callV rfl ((withNumber_p p (k + 1) (by omega) (by omega)).toV) fun hs' hhs => ?_
  try dsimp only at hhs
  conv => whnf
  rw [hnl (k + 1)]
  refine callV rfl (hQk) fun hs' hhs => ?_
  try dsimp only at hhs
  conv => whnf
  refine hK _ (W.cond ⟨fun h5 => ?_, fun h5 => ?_⟩) <;> clear hK K
  ·have e1 : sel Q (k + 1) = sel Q k ++ [((k + 1 : Nat) : Int)] := by rw [sel, if_pos h5]
   refine W.region (cx_ok _) (by rfl) ?_
   conv => whnf
   refine ⟨⟨rfl, by decide⟩, ?_⟩
   conv => whnf
   intro b_3 hs_3 hh_3 hf_3
   try dsimp only at hh_3 hf_3
   conv => whnf
   refine ⟨by dsimp only [List.length]; omega, ?_⟩
   conv => whnf
   intro b_4 hs_4 hh_4 hf_4
   try dsimp only at hh_4 hf_4
   conv => whnf
   refine mid b_4 _ (by dsimp only; omega) ?_
   rw [e1]
   repeat' first | refine And.intro ?_ ?_ | exact trivial | rfl | omega | exact .inl rfl | exact fun _ _ => rfl | exact fun _ _ h => h | assumption | exact fun i hi => (by obtain rfl : i = 0 := (by omega); rfl)
  ·have e1 : sel Q (k + 1) = sel Q k := by rw [sel, if_neg (by rw [h5]; decide)]
   refine W.skip (mid b _ (by dsimp only; omega) ?_)
   rw [e1]
   repeat' first | refine And.intro ?_ ?_ | exact trivial | rfl | omega | exact .inl rfl | exact fun _ _ => rfl | exact fun _ _ h => h | assumption | exact fun i hi => (by obtain rfl : i = 0 := (by omega); rfl)
 ·have h := of_decide_eq_false h
  obtain rfl : k = q - 1 := by omega
  have e8 : fewL (sel Q (q - 1)) = sel Q (q - 1) := if_neg (by omega)
  have e9 : fewC (sel Q (q - 1)) = 0 := if_neg (by omega)
  refine W.exit (hK1 _ ?_)
  clear hK7 K7 hK1 K1
  refine W.sw (c' := cxt [] [0, 1, 2, 4, 5, 6, 7, 11, 19, 26, 1000000]) ?_
  refine W.rs (cxt_ok _ _) (by rfl) fun K hK => ?_
  conv => whnf
  refine hK _ ?_
  clear hK K
  refine W.ret ?_
  conv => whnf
  exact ⟨.v (.rf b (sel Q (q - 1)).length), rfl, trivial, .v (.int .i64 0), ⟨rfl, rfl⟩, trivial, by rw [e8, e9]; exact ⟨b, rfl, fun h => tbAdd_self _ _ h⟩⟩

noncomputable def ordN {p : Int} [SP p] (f : Poly p) (k : Nat) : Nat := @dite _ (∃ e, IsOrd f (polyN p k) e) (Classical.propDecidable _) (fun h => h.choose) fun _ => 0
theorem ordN_is {p : Int} [SP p] {f : Poly p} {k : Nat} (h : ∃ e, IsOrd f (polyN p k) e) : IsOrd f (polyN p k) (ordN f k) := by
 unfold ordN
 rw [dif_pos h]
 exact h.choose_spec

theorem eoC_fn (p : Int) [SP p] (g g1 g2 : Option Nat) (f : Poly p) (hk : IsFld p f.l) (hi : Irr f) (X : Poly p) (hX0 : X ≠ 0) (hX : dg X < dg f) (n : Int) (e0 : Nat) (he : IsOrd f X e0) : FnV 107 [.ints none X.l, .box g1 (vK p g f.l), .box g2 (.int .i64 n)] (.bool (decide ((e0 : Int) = n))) := by
 refine fn_of (cx_ok [0, 1, 2, 4]) Tryz.func107 rfl (by decide) Tryz.ntmps107 (Nat.le_of_ble_eq_true rfl) fun base => ?_
 refine W.rs (cx_ok _) (by rfl) fun K hK => ?_
 conv => whnf
 refine hK _ ?_
 clear hK K
 refine W.rd (cx_ok _) follows (by rfl) fun K hK => ?_
 conv => whnf
 refine ⟨_, cxF (orderOf_fn p g none f X hk hi hX0 hX e0 he), ?_⟩
 conv => whnf
 refine hK _ ?_
 clear hK K
 refine W.ret ?_
 conv => whnf
 exact ⟨.v (.bool (decide ((e0 : Int) = n))), rfl, trivial, rfl⟩
theorem roC_fn (p : Int) [SP p] (g g1 g2 g3 g4 : Option Nat) (f X Y : Poly p) (n : Nat) (hn : n ≤ 1000000000000) (hX : dg X ≤ 1000000) (hf : dg f ≤ 500) (hf0 : f ≠ 0) : FnV 112 [.ints none X.l, .box g1 (vK p g f.l), .box g2 (.int .i64 n), .box g3 (.ints g4 Y.l)] (.bool (decide ((rem (X ^ n) f).l = Y.l))) := by
 have := rem_lt (X ^ n) hf0
 refine fn_of (cx_ok [0, 1, 2, 3, 5]) Tryz.func112 rfl (by decide) Tryz.ntmps112 (Nat.le_of_ble_eq_true rfl) fun base => ?_
 refine W.rs (cx_ok _) (by rfl) fun K hK => ?_
 conv => whnf
 refine hK _ ?_
 clear hK K
 refine W.rd (cx_ok _) follows (by rfl) fun K hK => ?_
 conv => whnf
 refine ⟨_, cxF (kPower_fn p g none f X n hn hX hf hf0), ?_⟩
 conv => whnf
 refine ⟨_, cxF (equal_fn none g4 (rem (X ^ n) f).l Y.l (by show dg _ ≤ _; omega)), ?_⟩
 conv => whnf
 refine hK _ ?_
 clear hK K
 refine W.ret ?_
 conv => whnf
 exact ⟨.v (.bool (decide ((rem (X ^ n) f).l = Y.l))), rfl, trivial, rfl⟩

theorem ElementsOfOrder_both (kp : Int) (kl : List Int) (n : Int) (_ : inR kp) (_ : inR n) (hkl : kl.length ≤ 1048576) : ∃ (r0 : List Int) (r1 : Int),
  (∀ g0 : Option Nat, FnV 16 [vK kp g0 kl, .int .i64 n] (.tup [.ints none r0, .int .i64 r1])) ∧ (∀ g0 : Option Nat, FnT Tryz.prog 18 [vK kp g0 kl, .int .i64 n] (RT r0 r1)) ∧ r0.length ≤ 1000000 := by
 by_cases hk : IsFld kp kl
 case neg =>
  have hc : codeEl kp kl (bP (IsFld kp kl ∧ 1 ≤ n ∧ n ≤ kp ^ (kl.length - 1) - 1)) 0 (fun _ => []) = 1 := by unfold codeEl; rw [bP_false hk]; rfl
  refine ⟨[], 1, fun g0 => ?_, fun g0 => ?_, by simp⟩
  ·refine fn_of (cx_ok [0, 1, 2, 4, 5, 6, 7, 10, 16, 29, 38]) Tryz.func16 rfl (by decide) Tryz.ntmps16 (Nat.le_of_ble_eq_true rfl) fun base => ?_
   refine W.rs (cx_ok _) (by rfl) fun K hK => ?_
   conv => whnf
   refine ⟨rfl, ?_⟩
   conv => whnf
   intro b_1 hs_1 hh_1 hf_1
   try dsimp only at hh_1 hf_1
   conv => whnf
   refine hK _ ?_
   clear hK K
   refine W.seqK fun K1 hK1 => ?_
   refine W.rs (cx_ok _) (by rfl) fun K hK => ?_
   conv => whnf
   refine callV rfl ((isFieldS_fn kp g0 kl (by omega)).fa (bP_false hk)) fun hs' hhs => ?_
   try dsimp only at hhs
   conv => whnf
   refine hK _ (W.condT rfl ?_)
   clear hK K
   refine W.rs (cx_ok _) (by rfl) fun K hK => ?_
   conv => whnf
   refine hK _ ?_
   clear hK K
   refine W.ret ?_
   conv => whnf
   exact ⟨.v (.ints none []), rfl, trivial, .v (.int .i64 1), ⟨rfl, rfl⟩, trivial, rfl⟩
  ·refine fnt_of (cxt_ok [] [0, 1, 2, 3, 4, 5, 6, 13, 1000000]) Tryz.func18 rfl (by decide) Tryz.ntmps18 (Nat.le_of_ble_eq_true rfl) (fun base => ?_) (Nat.le_of_ble_eq_true rfl)
   refine W.sw (c' := cx [0, 1, 2, 3, 4, 5, 6, 13, 1000000]) ?_
   refine W.rs (cx_ok _) (by rfl) fun K hK => ?_
   conv => whnf
   refine ⟨rfl, ?_⟩
   conv => whnf
   intro b_1 hs_1 hh_1 hf_1
   try dsimp only at hh_1 hf_1
   conv => whnf
   refine ⟨rfl, ?_⟩
   conv => whnf
   intro b_2 hs_2 hh_2 hf_2
   try dsimp only at hh_2 hf_2
   conv => whnf
   refine hK _ ?_
   clear hK K
   refine W.seqK fun K1 hK1 => ?_
   refine W.rd (cx_ok _) follows (by rfl) fun K hK => ?_
   conv => whnf
   refine ⟨_, cxF (exponent_fn kp n g0 kl (by omega)), ?_⟩
   conv => whnf
   refine ⟨_, cxF (elements_bool kp g0 none kl _ 0 _ (fun _ => []) (by omega) (by omega) (fun i hi => by omega)), ?_⟩
   conv => whnf
   rw [hc]
   refine hK _ ?_
   clear hK K
   refine W.rs (cx_ok _) (by rfl) fun K hK => ?_
   conv => whnf
   refine hK _ (W.cond ⟨fun _ => ?_, fun hcc => absurd (by decide : (1 : Int) ≠ 0) (of_decide_eq_false hcc)⟩)
   clear hK K
   refine W.rs (cx_ok _) (by rfl) fun K hK => ?_
   conv => whnf
   refine hK _ ?_
   clear hK K
   refine W.ret ?_
   conv => whnf
   exact ⟨.v (.rf 0 0), rfl, trivial, .v (.int .i64 (1)), ⟨rfl, rfl⟩, trivial, 0, rfl, fun hne => absurd rfl hne⟩
 have hkk := hk
 obtain ⟨hp, f, rfl, hi, _, _, hf9⟩ := fld_poly hk
 letI := sp_of hp
 have hp1 := primes_le hp
 have hfl : f.l.length = dg f := rfl
 obtain ⟨d, hd⟩ : ∃ d, dg f = d + 1 := ⟨dg f - 1, by have := hi.1; omega⟩
 obtain ⟨hq1, hq2, hq3⟩ := fld_q hk hd
 by_cases hr : 1 ≤ n ∧ n ≤ kp ^ (f.l.length - 1) - 1
 case neg =>
  have hc : codeEl kp f.l (bP (IsFld kp f.l ∧ 1 ≤ n ∧ n ≤ kp ^ (f.l.length - 1) - 1)) 0 (fun _ => []) = 2 := by unfold codeEl; rw [bP_true hk, bP_false fun h => hr h.2]; rfl
  refine ⟨[], 2, fun g0 => ?_, fun g0 => ?_, by simp⟩
  ·refine fn_of (cx_ok [0, 1, 2, 4, 5, 6, 7, 10, 16, 29, 38]) Tryz.func16 rfl (by decide) Tryz.ntmps16 (Nat.le_of_ble_eq_true rfl) fun base => ?_
   refine W.rs (cx_ok _) (by rfl) fun K hK => ?_
   conv => whnf
   refine ⟨rfl, ?_⟩
   conv => whnf
   intro b_1 hs_1 hh_1 hf_1
   try dsimp only at hh_1 hf_1
   conv => whnf
   refine hK _ ?_
   clear hK K
   refine W.seqK fun K1 hK1 => ?_
   refine W.rs (cx_ok _) (by rfl) fun K hK => ?_
   conv => whnf
   refine callV rfl ((isFieldS_fn kp g0 f.l (by omega)).tr (bP_true hkk)) fun hs' hhs => ?_
   try dsimp only at hhs
   conv => whnf
   refine hK _ (W.condF rfl (W.skip (hK1 _ ?_)))
   clear hK K hK1 K1
   refine W.seqK fun K1 hK1 => ?_
   refine W.rs (cx_ok _) (by rfl) fun K hK => ?_
   conv => whnf
   refine callV rfl (l17Size_fn kp g0 f.l hk) fun hs' hhs => ?_
   try dsimp only at hhs
   conv => whnf
   refine ⟨by constructor <;> omega, ?_⟩
   conv => whnf
   refine callV rfl ((l01In_fn n 1 (kp ^ (f.l.length - 1) - 1)).fa (decide_eq_false hr)) fun hs' hhs => ?_
   try dsimp only at hhs
   conv => whnf
   refine hK _ (W.condT rfl ?_)
   clear hK K
   refine W.rs (cx_ok _) (by rfl) fun K hK => ?_
   conv => whnf
   refine hK _ ?_
   clear hK K
   refine W.ret ?_
   conv => whnf
   exact ⟨.v (.ints none []), rfl, trivial, .v (.int .i64 2), ⟨rfl, rfl⟩, trivial, rfl⟩
  ·refine fnt_of (cxt_ok [] [0, 1, 2, 3, 4, 5, 6, 13, 1000000]) Tryz.func18 rfl (by decide) Tryz.ntmps18 (Nat.le_of_ble_eq_true rfl) (fun base => ?_) (Nat.le_of_ble_eq_true rfl)
   refine W.sw (c' := cx [0, 1, 2, 3, 4, 5, 6, 13, 1000000]) ?_
   refine W.rs (cx_ok _) (by rfl) fun K hK => ?_
   conv => whnf
   refine ⟨rfl, ?_⟩
   conv => whnf
   intro b_1 hs_1 hh_1 hf_1
   try dsimp only at hh_1 hf_1
   conv => whnf
   refine ⟨rfl, ?_⟩
   conv => whnf
   intro b_2 hs_2 hh_2 hf_2
   try dsimp only at hh_2 hf_2
   conv => whnf
   refine hK _ ?_
   clear hK K
   refine W.seqK fun K1 hK1 => ?_
   refine W.rd (cx_ok _) follows (by rfl) fun K hK => ?_
   conv => whnf
   refine ⟨_, cxF (exponent_fn kp n g0 f.l (by omega)), ?_⟩
   conv => whnf
   refine ⟨_, cxF (elements_bool kp g0 none f.l _ 0 _ (fun _ => []) (by omega) (by omega) (fun i hi => by omega)), ?_⟩
   conv => whnf
   rw [hc]
   refine hK _ ?_
   clear hK K
   refine W.rs (cx_ok _) (by rfl) fun K hK => ?_
   conv => whnf
   refine hK _ (W.cond ⟨fun _ => ?_, fun hcc => absurd (by decide : (2 : Int) ≠ 0) (of_decide_eq_false hcc)⟩)
   clear hK K
   refine W.rs (cx_ok _) (by rfl) fun K hK => ?_
   conv => whnf
   refine hK _ ?_
   clear hK K
   refine W.ret ?_
   conv => whnf
   exact ⟨.v (.rf 0 0), rfl, trivial, .v (.int .i64 (2)), ⟨rfl, rfl⟩, trivial, 0, rfl, fun hne => absurd rfl hne⟩
 have hc : codeEl kp f.l (bP (IsFld kp f.l ∧ 1 ≤ n ∧ n ≤ kp ^ (f.l.length - 1) - 1)) 0 (fun _ => []) = 0 := by unfold codeEl; rw [bP_true hk, bP_true ⟨hk, hr⟩, bP_true (fun i hi => by omega)]; rfl
 have hrr := hr
 rw [hq1] at hr
 have hpd : ∀ {k : Nat}, k < kp.toNat ^ d → dg (polyN kp k) < dg f := fun {k} h => by have := polyN_dg (p := kp) h; omega
 have hnl : ∀ k : Nat, dig kp.toNat k = (polyN kp k).l := fun k => (polyN_l k).symm
 have hfm : ∀ {X : Poly kp}, X ≠ 0 → dg X < dg f → One f X (kp.toNat ^ d - 1) := fun h h' => fermat hi (small_ndvd h h') hd
 have hord : ∀ i, 1 ≤ i → i < kp.toNat ^ d → IsOrd f (polyN kp i) (ordN f i) := fun i h1 h2 => ordN_is (exists_isOrd _ (by omega) (hfm (polyN_ne (by omega)) (hpd h2)))
 have hdiv : ∀ i, 1 ≤ i → i < kp.toNat ^ d → ordN f i ∣ kp.toNat ^ d - 1 := fun i h1 h2 => (hord i h1 h2).2.2 _ (hfm (polyN_ne (by omega)) (hpd h2))
 generalize hqe : kp.toNat ^ d = q at hq1 hq2 hq3 hr hpd hfm hord hdiv
 obtain ⟨n, rfl⟩ : ∃ k : Nat, n = k := ⟨n.toNat, by omega⟩
 obtain ⟨Q, hQ⟩ : ∃ Q : Nat → Bool, Q = fun i => decide (((ordN f i : Nat) : Int) = ((n : Nat) : Int)) := ⟨_, rfl⟩
 have hsl := fewL_len (sel Q (q - 1))
 have hsl2 := sel_len Q (q - 1)
 have hqi : ((q : Nat) : Int) - 1 = ((q - 1 : Nat) : Int) := by omega
 have hmod : (((q : Nat) : Int) - 1).tmod n = (((q - 1) % n : Nat) : Int) := by rw [hqi]; exact tmod_nat (q - 1) n
 refine ⟨fewL (sel Q (q - 1)), fewC (sel Q (q - 1)), fun g0 => ?_, fun g0 => ?_, by omega⟩
 ·refine fn_of (cx_ok [0, 1, 2, 4, 5, 6, 7, 10, 16, 29, 38]) Tryz.func16 rfl (by decide) Tryz.ntmps16 (Nat.le_of_ble_eq_true rfl) fun base => ?_
  refine W.rs (cx_ok _) (by rfl) fun K hK => ?_
  conv => whnf
  refine ⟨rfl, ?_⟩
  conv => whnf
  intro b_1 hs_1 hh_1 hf_1
  try dsimp only at hh_1 hf_1
  conv => whnf
  refine hK _ ?_
  clear hK K
  refine W.seqK fun K1 hK1 => ?_
  refine W.rs (cx_ok _) (by rfl) fun K hK => ?_
  conv => whnf
  refine callV rfl ((isFieldS_fn kp g0 f.l (by omega)).tr (bP_true hkk)) fun hs' hhs => ?_
  try dsimp only at hhs
  conv => whnf
  refine hK _ (W.condF rfl (W.skip (hK1 _ ?_)))
  clear hK K hK1 K1
  refine W.seqK fun K1 hK1 => ?_
  refine W.rs (cx_ok _) (by rfl) fun K hK => ?_
  conv => whnf
  refine callV rfl (l17Size_fn kp g0 f.l hk) fun hs' hhs => ?_
  try dsimp only at hhs
  conv => whnf
  refine ⟨by constructor <;> omega, ?_⟩
  conv => whnf
  refine callV rfl ((l01In_fn n 1 (kp ^ (f.l.length - 1) - 1)).tr (decide_eq_true hrr)) fun hs' hhs => ?_
  try dsimp only at hhs
  conv => whnf
  refine hK _ (W.condF rfl (W.skip (hK1 _ ?_)))
  clear hK K hK1 K1
  refine W.rs (cx_ok _) (by rfl) fun K hK => ?_
  conv => whnf
  refine ⟨⟨rfl, by decide⟩, ?_⟩
  conv => whnf
  intro b_3 hs_3 hh_3 hf_3
  try dsimp only at hh_3 hf_3
  conv => whnf
  refine hK _ ?_
  clear hK K
  refine W.seqK fun K1 hK1 => W.rs (cx_ok _) (by rfl) fun K hK => ?_
  conv => whnf
  refine hK _ (W.block (W.invA (fun m e => ∃ (k b : Nat) (o : List Int), k ≤ q - 1 ∧ o = sel Q k ∧ m = q - 1 - k ∧ e = [(1, .v (.int .i64 n)), (2, .ownB b_1 (vK kp g0 f.l)), (6, .ownI 2 b o), (7, .v (.int .i64 ((k + 1 : Nat) : Int)))]) ⟨0, b_3, [], Nat.zero_le _, rfl, rfl, rfl⟩ ?_))
  clear hK K
  rintro m e ⟨k, b, o, hkq, rfl, hm, rfl⟩
  have hskl := sel_len Q k
  have hdone : (k = q - 1 ∨ (q - 1) % n ≠ 0) → sel Q k = sel Q (q - 1) := fun h => by
   rcases h with h | h
   ·rw [h]
   ·have hno : ∀ i, 1 ≤ i → i ≤ q - 1 → Q i = false := fun i h1 h2 => by
     rw [hQ]
     refine decide_eq_false fun e => h ?_
     have h3 := hdiv i h1 (by omega)
     rw [show ordN f i = n by omega] at h3
     exact Nat.mod_eq_zero_of_dvd h3
    rw [sel_none k fun i h1 h2 => hno i h1 (by omega), sel_none (q - 1) hno]
  have fin : (sel Q k = sel Q (q - 1)) → ∀ t : S, base ≤ t.hs → coverK t.env [(6, .ownI 2 b (sel Q k))] → K1 t := by
   intro h3 t h7 h8
   refine hK1 _ (W.weak (t := ⟨[(6, .ownI 2 b (sel Q k))], base⟩) ⟨h7, h8⟩ (Nat.le_refl _) ?_)
   refine W.weak (t := ⟨[(6, .v (.ints none (sel Q k)))], base⟩) ⟨by dsimp only; omega, by repeat' first | refine And.intro ?_ ?_ | exact trivial | rfl | exact .inl rfl⟩ (Nat.le_refl _) ?_
   clear hK1 K1
   rw [h3]
   refine W.rs (cx_ok _) (by rfl) fun K hK => ?_
   conv => whnf
   refine callV rfl (l19List_fn (sel Q (q - 1)) (by omega)) fun hs' hhs => ?_
   try dsimp only at hhs
   conv => whnf
   refine hK _ ?_
   clear hK K
   refine W.ret ?_
   conv => whnf
   exact ⟨.v (.ints none (fewL (sel Q (q - 1)))), ⟨rfl, rfl⟩, trivial, .v (.int .i64 (fewC (sel Q (q - 1)))), ⟨rfl, rfl⟩, trivial, rfl⟩
  refine W.seqK fun K7 hK7 => ?_
  refine W.rs (cx_ok _) (by rfl) fun K hK => ?_
  conv => whnf
  refine callV rfl (l17Size_fn kp g0 f.l hk) fun hs' hhs => ?_
  try dsimp only at hhs
  conv => whnf
  rw [hq1]
  refine ⟨fun h => ?_, fun h => ?_⟩ <;> conv => whnf
  ·have h := of_decide_eq_true h
   have hok := hord (k + 1) (by omega) (by omega)
   refine callV rfl (l17Size_fn kp g0 f.l hk) fun hs' hhs => ?_
   try dsimp only at hhs
   conv => whnf
   rw [hq1]
   refine ⟨by constructor <;> omega, ?_⟩
   conv => whnf
   refine ⟨by omega, ?_⟩
   conv => whnf
   rw [hmod]
   refine hK _ (W.cond ⟨fun h4 => ?_, fun h4 => ?_⟩) <;> clear hK K
   ·have eQ : Q (k + 1) = decide (((ordN f (k + 1) : Nat) : Int) = ((n : Nat) : Int)) := by rw [hQ]
    clear fin
    refine W.skip (hK7 _ ?_)
    clear hK7 K7
    refine W.seqK fun K8 hK8 => W.block ?_
    refine W.rd (cx_ok _) follows (by rfl) fun K hK => ?_
    conv => whnf
    refine ⟨_, cxF (l17With_fn kp g0 f.l (k + 1) (by omega) (by omega)), ?_⟩
    conv => whnf
    rw [hnl (k + 1)]
    refine ⟨_, cxF (l17ElementOrder_fn kp g0 none f (polyN kp (k + 1)) hk hi (polyN_ne (by omega)) (hpd (by omega)) (ordN f (k + 1)) hok), ?_⟩
    conv => whnf
    rw [← eQ]
    refine hK _ (W.cond ⟨fun h5 => ?_, fun h5 => ?_⟩) <;> clear hK K
    ·have e1 : sel Q (k + 1) = sel Q k ++ [((k + 1 : Nat) : Int)] := by rw [sel, if_pos h5]
     refine W.region (cx_ok _) (by rfl) ?_
     conv => whnf
     refine ⟨⟨rfl, by decide⟩, ?_⟩
     conv => whnf
     intro b_4 hs_4 hh_4 hf_4
     try dsimp only at hh_4 hf_4
     conv => whnf
     refine ⟨by dsimp only [List.length]; omega, ?_⟩
     conv => whnf
     intro b_5 hs_5 hh_5 hf_5
     try dsimp only at hh_5 hf_5
     conv => whnf
     refine hK8 _ ?_
     clear hK8 K8
     refine W.region (cx_ok _) (by rfl) ?_
     conv => whnf
     refine ⟨by constructor <;> omega, ?_⟩
     conv => whnf
     exact againA ⟨k + 1, b_5, _, by omega, e1.symm, rfl, rfl⟩
    ·have e1 : sel Q (k + 1) = sel Q k := by rw [sel, if_neg (by rw [h5]; decide)]
     refine W.skip (hK8 _ ?_)
     clear hK8 K8
     refine W.region (cx_ok _) (by rfl) ?_
     conv => whnf
     refine ⟨by constructor <;> omega, ?_⟩
     conv => whnf
     exact againA ⟨k + 1, b, _, by omega, e1.symm, rfl, rfl⟩
   ·have h4 := of_decide_eq_false h4
    refine W.exit (fin (hdone (.inr fun e => h4 (by rw [e]; rfl))) _ (by dsimp only; omega) ?_)
    repeat' first | refine And.intro ?_ ?_ | exact trivial | rfl | omega | exact .inl rfl | exact fun _ _ => rfl | exact fun _ _ h => h | assumption | exact fun i hi => (by obtain rfl : i = 0 := (by omega); rfl)
  ·have h := of_decide_eq_false h
   refine hK _ (W.condF rfl (W.exit (fin (hdone (.inl (by omega))) _ (by dsimp only; omega) ?_)))
   repeat' first | refine And.intro ?_ ?_ | exact trivial | rfl | omega | exact .inl rfl | exact fun _ _ => rfl | exact fun _ _ h => h | assumption | exact fun i hi => (by obtain rfl : i = 0 := (by omega); rfl)
 ·have hT := fewNumbers_T kp g0 f hk hi d hd 107 [.box none (vK kp g0 f.l), .box none (.int .i64 (n : Nat))] Q (fun i h1 h2 => by
   rw [hqe] at h2
   rw [hQ]
   exact eoC_fn kp g0 none none f hk hi (polyN kp i) (polyN_ne (by omega)) (hpd h2) n (ordN f i) (hord i h1 h2))
  rw [hqe] at hT
  refine fnt_of (cxt_ok [] [0, 1, 2, 3, 4, 5, 6, 13, 1000000]) Tryz.func18 rfl (by decide) Tryz.ntmps18 (Nat.le_of_ble_eq_true rfl) (fun base => ?_) (Nat.le_of_ble_eq_true rfl)
  refine W.sw (c' := cx [0, 1, 2, 3, 4, 5, 6, 13, 1000000]) ?_
  refine W.rs (cx_ok _) (by rfl) fun K hK => ?_
  conv => whnf
  refine ⟨rfl, ?_⟩
  conv => whnf
  intro b_1 hs_1 hh_1 hf_1
  try dsimp only at hh_1 hf_1
  conv => whnf
  refine ⟨rfl, ?_⟩
  conv => whnf
  intro b_2 hs_2 hh_2 hf_2
  try dsimp only at hh_2 hf_2
  conv => whnf
  refine hK _ ?_
  clear hK K
  refine W.seqK fun K1 hK1 => ?_
  refine W.rd (cx_ok _) follows (by rfl) fun K hK => ?_
  conv => whnf
  refine ⟨_, cxF (exponent_fn kp n g0 f.l (by omega)), ?_⟩
  conv => whnf
  refine ⟨_, cxF (elements_bool kp g0 none f.l _ 0 _ (fun _ => []) (by omega) (by omega) (fun i hi => by omega)), ?_⟩
  conv => whnf
  rw [hc]
  refine hK _ ?_
  clear hK K
  refine W.rs (cx_ok _) (by rfl) fun K hK => ?_
  conv => whnf
  refine hK _ (W.cond ⟨fun hcc => absurd rfl (of_decide_eq_true hcc), fun _ => W.skip (hK1 _ ?_)⟩)
  clear hK K hK1 K1
  refine W.sw (c' := cxt [106] [0, 1, 2, 3, 4, 5, 6, 13, 1000000]) ?_
  refine W.rs (cxt_ok _ _) (by rfl) fun K hK => ?_
  conv => whnf
  refine ⟨_, cxT (hT), fun lo_t hi_t hs_t x_t tn_t tb_t hl1_t hl2_t _ hp_t hf_t hn_t ho_t => ?_⟩
  try dsimp only at hl1_t hl2_t
  obtain ⟨bt, rfl, ht⟩ := hp_t
  conv => whnf
  refine hK _ ?_
  clear hK K
  refine W.ret ?_
  conv => whnf
  exact ⟨.v (.rf bt (fewL (sel Q (q - 1))).length), rfl, trivial, .v (.int .i64 (fewC (sel Q (q - 1)))), ⟨rfl, rfl⟩, trivial, bt, rfl, fun h => hn_t _ _ (ht h)⟩

theorem RootsOfElement_both (kp : Int) (kl x : List Int) (n : Int) (_ : inR kp) (_ : inR n) (hkl : kl.length ≤ 1048576) (hx : x.length ≤ 1048576) : ∃ (r0 : List Int) (r1 : Int),
  (∀ g0 g1 : Option Nat, FnV 24 [vK kp g0 kl, .ints g1 x, .int .i64 n] (.tup [.ints none r0, .int .i64 r1])) ∧ (∀ g0 g1 : Option Nat, FnT Tryz.prog 26 [vK kp g0 kl, .ints g1 x, .int .i64 n] (RT r0 r1)) ∧ r0.length ≤ 1000000 := by
 generalize hc : code1 kp kl x = c
 by_cases h0 : c = 0
 case neg =>
  have e9 : codeEx kp kl x n = c := by unfold codeEx; rw [hc, if_neg h0]
  refine ⟨[], c, fun g0 g1 => ?_, fun g0 g1 => ?_, by simp⟩
  ·refine fn_of (cx_ok [0, 1, 2, 3, 6, 7, 8, 9, 10, 16, 22, 32]) Tryz.func24 rfl (by decide) Tryz.ntmps24 (Nat.le_of_ble_eq_true rfl) fun base => ?_
   refine W.rs (cx_ok _) (by rfl) fun K hK => ?_
   conv => whnf
   refine ⟨rfl, ?_⟩
   conv => whnf
   intro b_1 hs_1 hh_1 hf_1
   try dsimp only at hh_1 hf_1
   conv => whnf
   refine hK _ ?_
   clear hK K
   refine W.rs (cx_ok _) (by rfl) fun K hK => ?_
   conv => whnf
   refine callV rfl (l19Code_fn kp n g0 g1 kl x (by omega) (by omega)) fun hs' hhs => ?_
   try dsimp only at hhs
   conv => whnf
   rw [e9]
   refine hK _ ?_
   clear hK K
   refine W.seqK fun K1 hK1 => ?_
   refine W.rs (cx_ok _) (by rfl) fun K hK => ?_
   conv => whnf
   refine hK _ (W.cond ⟨fun _ => ?_, fun hcc => absurd h0 (of_decide_eq_false hcc)⟩)
   clear hK K
   refine W.rs (cx_ok _) (by rfl) fun K hK => ?_
   conv => whnf
   refine hK _ ?_
   clear hK K
   refine W.ret ?_
   conv => whnf
   exact ⟨.v (.ints none []), rfl, trivial, .v (.int .i64 c), ⟨rfl, rfl⟩, trivial, rfl⟩
  ·refine fnt_of (cxt_ok [] [0, 1, 2, 3, 4, 5, 6, 7, 8, 17, 21, 1000000]) Tryz.func26 rfl (by decide) Tryz.ntmps26 (Nat.le_of_ble_eq_true rfl) (fun base => ?_) (Nat.le_of_ble_eq_true rfl)
   refine W.sw (c' := cx [0, 1, 2, 3, 4, 5, 6, 7, 8, 17, 21, 1000000]) ?_
   refine W.rs (cx_ok _) (by rfl) fun K hK => ?_
   conv => whnf
   refine ⟨rfl, ?_⟩
   conv => whnf
   intro b_1 hs_1 hh_1 hf_1
   try dsimp only at hh_1 hf_1
   conv => whnf
   refine ⟨rfl, ?_⟩
   conv => whnf
   intro b_2 hs_2 hh_2 hf_2
   try dsimp only at hh_2 hf_2
   conv => whnf
   refine ⟨rfl, ?_⟩
   conv => whnf
   intro b_3 hs_3 hh_3 hf_3
   try dsimp only at hh_3 hf_3
   conv => whnf
   refine hK _ ?_
   clear hK K
   refine W.seqK fun K1 hK1 => ?_
   refine W.rd (cx_ok _) follows (by rfl) fun K hK => ?_
   conv => whnf
   refine ⟨_, cxF (exponent_fn kp n g0 kl (by omega)), ?_⟩
   conv => whnf
   refine ⟨⟨rfl, by decide, fun x hx => (by simp at hx; subst hx; exact ⟨rfl, rfl⟩)⟩, ?_⟩
   conv => whnf
   refine ⟨_, cxF (elements_bool kp g0 none kl _ 1 _ (fun _ => x) (by omega) (by omega) (els1 g1 x)), ?_⟩
   conv => whnf
   rw [codeB_bad hc h0]
   refine hK _ ?_
   clear hK K
   refine W.rs (cx_ok _) (by rfl) fun K hK => ?_
   conv => whnf
   refine hK _ (W.cond ⟨fun _ => ?_, fun hcc => absurd h0 (of_decide_eq_false hcc)⟩)
   clear hK K
   refine W.rs (cx_ok _) (by rfl) fun K hK => ?_
   conv => whnf
   refine hK _ ?_
   clear hK K
   refine W.ret ?_
   conv => whnf
   exact ⟨.v (.rf 0 0), rfl, trivial, .v (.int .i64 (c)), ⟨rfl, rfl⟩, trivial, 0, rfl, fun hne => absurd rfl hne⟩
 subst h0
 by_cases hr : 1 ≤ n ∧ n ≤ kp ^ (kl.length - 1) - 1
 case neg =>
  have e9 : codeEx kp kl x n = 2 := by unfold codeEx; rw [hc, if_pos rfl, if_neg hr]
  refine ⟨[], 2, fun g0 g1 => ?_, fun g0 g1 => ?_, by simp⟩
  ·refine fn_of (cx_ok [0, 1, 2, 3, 6, 7, 8, 9, 10, 16, 22, 32]) Tryz.func24 rfl (by decide) Tryz.ntmps24 (Nat.le_of_ble_eq_true rfl) fun base => ?_
   refine W.rs (cx_ok _) (by rfl) fun K hK => ?_
   conv => whnf
   refine ⟨rfl, ?_⟩
   conv => whnf
   intro b_1 hs_1 hh_1 hf_1
   try dsimp only at hh_1 hf_1
   conv => whnf
   refine hK _ ?_
   clear hK K
   refine W.rs (cx_ok _) (by rfl) fun K hK => ?_
   conv => whnf
   refine callV rfl (l19Code_fn kp n g0 g1 kl x (by omega) (by omega)) fun hs' hhs => ?_
   try dsimp only at hhs
   conv => whnf
   rw [e9]
   refine hK _ ?_
   clear hK K
   refine W.seqK fun K1 hK1 => ?_
   refine W.rs (cx_ok _) (by rfl) fun K hK => ?_
   conv => whnf
   refine hK _ (W.cond ⟨fun _ => ?_, fun hcc => absurd (by decide : (2 : Int) ≠ 0) (of_decide_eq_false hcc)⟩)
   clear hK K
   refine W.rs (cx_ok _) (by rfl) fun K hK => ?_
   conv => whnf
   refine hK _ ?_
   clear hK K
   refine W.ret ?_
   conv => whnf
   exact ⟨.v (.ints none []), rfl, trivial, .v (.int .i64 2), ⟨rfl, rfl⟩, trivial, rfl⟩
  ·refine fnt_of (cxt_ok [] [0, 1, 2, 3, 4, 5, 6, 7, 8, 17, 21, 1000000]) Tryz.func26 rfl (by decide) Tryz.ntmps26 (Nat.le_of_ble_eq_true rfl) (fun base => ?_) (Nat.le_of_ble_eq_true rfl)
   refine W.sw (c' := cx [0, 1, 2, 3, 4, 5, 6, 7, 8, 17, 21, 1000000]) ?_
   refine W.rs (cx_ok _) (by rfl) fun K hK => ?_
   conv => whnf
   refine ⟨rfl, ?_⟩
   conv => whnf
   intro b_1 hs_1 hh_1 hf_1
   try dsimp only at hh_1 hf_1
   conv => whnf
   refine ⟨rfl, ?_⟩
   conv => whnf
   intro b_2 hs_2 hh_2 hf_2
   try dsimp only at hh_2 hf_2
   conv => whnf
   refine ⟨rfl, ?_⟩
   conv => whnf
   intro b_3 hs_3 hh_3 hf_3
   try dsimp only at hh_3 hf_3
   conv => whnf
   refine hK _ ?_
   clear hK K
   refine W.seqK fun K1 hK1 => ?_
   refine W.rd (cx_ok _) follows (by rfl) fun K hK => ?_
   conv => whnf
   refine ⟨_, cxF (exponent_fn kp n g0 kl (by omega)), ?_⟩
   conv => whnf
   refine ⟨⟨rfl, by decide, fun x hx => (by simp at hx; subst hx; exact ⟨rfl, rfl⟩)⟩, ?_⟩
   conv => whnf
   refine ⟨_, cxF (elements_bool kp g0 none kl _ 1 _ (fun _ => x) (by omega) (by omega) (els1 g1 x)), ?_⟩
   conv => whnf
   rw [codeB_two hc (bP_false fun h => hr h.2)]
   refine hK _ ?_
   clear hK K
   refine W.rs (cx_ok _) (by rfl) fun K hK => ?_
   conv => whnf
   refine hK _ (W.cond ⟨fun _ => ?_, fun hcc => absurd (by decide : (2 : Int) ≠ 0) (of_decide_eq_false hcc)⟩)
   clear hK K
   refine W.rs (cx_ok _) (by rfl) fun K hK => ?_
   conv => whnf
   refine hK _ ?_
   clear hK K
   refine W.ret ?_
   conv => whnf
   exact ⟨.v (.rf 0 0), rfl, trivial, .v (.int .i64 (2)), ⟨rfl, rfl⟩, trivial, 0, rfl, fun hne => absurd rfl hne⟩
 have e8 : codeEx kp kl x n = if x = [] then 5 else 0 := by unfold codeEx; rw [hc, if_pos rfl, if_pos hr]
 obtain ⟨hk, hh⟩ := code1_ok hc
 obtain ⟨hp, f, rfl, hfi, _, _, hf9⟩ := fld_poly hk
 letI := sp_of hp
 obtain ⟨X, rfl⟩ := mod_poly hh.1
 have hxl : X.l.length < f.l.length := hh.2
 have hfl : f.l.length = dg f := rfl
 have hXl : X.l.length = dg X := rfl
 have hf0 := hfi.ne
 have hp1 := primes_le hp
 by_cases hX0 : X = 0
 case pos =>
  have hX1 : dg X = 0 := dg_eq_zero.2 hX0
  have e9 : codeEx kp f.l X.l n = 5 := by rw [e8, if_pos (List.eq_nil_of_length_eq_zero (by omega))]
  refine ⟨[], 5, fun g0 g1 => ?_, fun g0 g1 => ?_, by simp⟩
  ·refine fn_of (cx_ok [0, 1, 2, 3, 6, 7, 8, 9, 10, 16, 22, 32]) Tryz.func24 rfl (by decide) Tryz.ntmps24 (Nat.le_of_ble_eq_true rfl) fun base => ?_
   refine W.rs (cx_ok _) (by rfl) fun K hK => ?_
   conv => whnf
   refine ⟨rfl, ?_⟩
   conv => whnf
   intro b_1 hs_1 hh_1 hf_1
   try dsimp only at hh_1 hf_1
   conv => whnf
   refine hK _ ?_
   clear hK K
   refine W.rs (cx_ok _) (by rfl) fun K hK => ?_
   conv => whnf
   refine callV rfl (l19Code_fn kp n g0 g1 f.l X.l (by omega) (by omega)) fun hs' hhs => ?_
   try dsimp only at hhs
   conv => whnf
   rw [e9]
   refine hK _ ?_
   clear hK K
   refine W.seqK fun K1 hK1 => ?_
   refine W.rs (cx_ok _) (by rfl) fun K hK => ?_
   conv => whnf
   refine hK _ (W.cond ⟨fun _ => ?_, fun hcc => absurd (by decide : (5 : Int) ≠ 0) (of_decide_eq_false hcc)⟩)
   clear hK K
   refine W.rs (cx_ok _) (by rfl) fun K hK => ?_
   conv => whnf
   refine hK _ ?_
   clear hK K
   refine W.ret ?_
   conv => whnf
   exact ⟨.v (.ints none []), rfl, trivial, .v (.int .i64 5), ⟨rfl, rfl⟩, trivial, rfl⟩
  ·refine fnt_of (cxt_ok [] [0, 1, 2, 3, 4, 5, 6, 7, 8, 17, 21, 1000000]) Tryz.func26 rfl (by decide) Tryz.ntmps26 (Nat.le_of_ble_eq_true rfl) (fun base => ?_) (Nat.le_of_ble_eq_true rfl)
   refine W.sw (c' := cx [0, 1, 2, 3, 4, 5, 6, 7, 8, 17, 21, 1000000]) ?_
   refine W.rs (cx_ok _) (by rfl) fun K hK => ?_
   conv => whnf
   refine ⟨rfl, ?_⟩
   conv => whnf
   intro b_1 hs_1 hh_1 hf_1
   try dsimp only at hh_1 hf_1
   conv => whnf
   refine ⟨rfl, ?_⟩
   conv => whnf
   intro b_2 hs_2 hh_2 hf_2
   try dsimp only at hh_2 hf_2
   conv => whnf
   refine ⟨rfl, ?_⟩
   conv => whnf
   intro b_3 hs_3 hh_3 hf_3
   try dsimp only at hh_3 hf_3
   conv => whnf
   refine hK _ ?_
   clear hK K
   refine W.seqK fun K1 hK1 => ?_
   refine W.rd (cx_ok _) follows (by rfl) fun K hK => ?_
   conv => whnf
   refine ⟨_, cxF (exponent_fn kp n g0 f.l (by omega)), ?_⟩
   conv => whnf
   refine ⟨⟨rfl, by decide, fun x hx => (by simp at hx; subst hx; exact ⟨rfl, rfl⟩)⟩, ?_⟩
   conv => whnf
   refine ⟨_, cxF (elements_bool kp g0 none f.l _ 1 _ (fun _ => X.l) (by omega) (by omega) (els1 g1 X.l)), ?_⟩
   conv => whnf
   rw [codeB_ok hc (bP_true ⟨hk, hr⟩)]
   refine hK _ ?_
   clear hK K
   refine W.rs (cx_ok _) (by rfl) fun K hK => ?_
   conv => whnf
   refine hK _ (W.cond ⟨fun hcc => absurd rfl (of_decide_eq_true hcc), fun _ => W.skip (hK1 _ ?_)⟩)
   clear hK K hK1 K1
   refine W.seqK fun K1 hK1 => ?_
   refine W.rs (cx_ok _) (by rfl) fun K hK => ?_
   conv => whnf
   refine hK _ (W.cond ⟨fun _ => ?_, fun h4 => absurd (of_decide_eq_false h4) (by omega)⟩)
   clear hK K
   refine W.rs (cx_ok _) (by rfl) fun K hK => ?_
   conv => whnf
   refine hK _ ?_
   clear hK K
   refine W.ret ?_
   conv => whnf
   exact ⟨.v (.rf 0 0), rfl, trivial, .v (.int .i64 (5)), ⟨rfl, rfl⟩, trivial, 0, rfl, fun hne => absurd rfl hne⟩
 have hX1 : dg X ≠ 0 := fun e => hX0 (dg_eq_zero.1 e)
 have e9 : codeEx kp f.l X.l n = 0 := by rw [e8, if_neg fun e => hX1 (by rw [← hXl, e]; rfl)]
 obtain ⟨d, hd⟩ : ∃ d, dg f = d + 1 := ⟨dg f - 1, by have := hfi.1; omega⟩
 obtain ⟨hq1, hq2, hq3⟩ := fld_q hk hd
 have hrr := hr
 rw [hq1] at hr
 have hpd : ∀ {k : Nat}, k < kp.toNat ^ d → dg (polyN kp k) < dg f := fun {k} h => by have := polyN_dg (p := kp) h; omega
 have hnl : ∀ k : Nat, dig kp.toNat k = (polyN kp k).l := fun k => (polyN_l k).symm
 generalize hqe : kp.toNat ^ d = q at hq1 hq2 hq3 hr hpd
 obtain ⟨n, rfl⟩ : ∃ k : Nat, n = k := ⟨n.toNat, by omega⟩
 obtain ⟨Q, hQ⟩ : ∃ Q : Nat → Bool, Q = fun i => decide ((rem (polyN kp i ^ n) f).l = X.l) := ⟨_, rfl⟩
 have hsl := fewL_len (sel Q (q - 1))
 have hsl2 := sel_len Q (q - 1)
 refine ⟨fewL (sel Q (q - 1)), fewC (sel Q (q - 1)), fun g0 g1 => ?_, fun g0 g1 => ?_, by omega⟩
 ·refine fn_of (cx_ok [0, 1, 2, 3, 6, 7, 8, 9, 10, 16, 22, 32]) Tryz.func24 rfl (by decide) Tryz.ntmps24 (Nat.le_of_ble_eq_true rfl) fun base => ?_
  refine W.rs (cx_ok _) (by rfl) fun K hK => ?_
  conv => whnf
  refine ⟨rfl, ?_⟩
  conv => whnf
  intro b_1 hs_1 hh_1 hf_1
  try dsimp only at hh_1 hf_1
  conv => whnf
  refine hK _ ?_
  clear hK K
  refine W.rs (cx_ok _) (by rfl) fun K hK => ?_
  conv => whnf
  refine callV rfl (l19Code_fn kp n g0 g1 f.l X.l (by omega) (by omega)) fun hs' hhs => ?_
  try dsimp only at hhs
  conv => whnf
  rw [e9]
  refine hK _ ?_
  clear hK K
  refine W.seqK fun K1 hK1 => ?_
  refine W.rs (cx_ok _) (by rfl) fun K hK => ?_
  conv => whnf
  refine hK _ (W.cond ⟨fun hcc => absurd rfl (of_decide_eq_true hcc), fun _ => W.skip (hK1 _ ?_)⟩)
  clear hK K hK1 K1
  refine W.rs (cx_ok _) (by rfl) fun K hK => ?_
  conv => whnf
  refine ⟨⟨rfl, by decide⟩, ?_⟩
  conv => whnf
  intro b_3 hs_3 hh_3 hf_3
  try dsimp only at hh_3 hf_3
  conv => whnf
  refine hK _ ?_
  clear hK K
  refine W.seqK fun K1 hK1 => W.rs (cx_ok _) (by rfl) fun K hK => ?_
  conv => whnf
  refine hK _ (W.block (W.invA (fun m e => ∃ (k b : Nat) (o : List Int), k ≤ q - 1 ∧ o = sel Q k ∧ m = q - 1 - k ∧ e = [(1, .v (.ints g1 X.l)), (2, .v (.int .i64 n)), (3, .ownB b_1 (vK kp g0 f.l)), (9, .ownI 2 b o), (10, .v (.int .i64 ((k + 1 : Nat) : Int)))]) ⟨0, b_3, [], Nat.zero_le _, rfl, rfl, rfl⟩ ?_))
  clear hK K
  rintro m e ⟨k, b, o, hkq, rfl, hm, rfl⟩
  have hskl := sel_len Q k
  refine W.seqK fun K7 hK7 => ?_
  refine W.rs (cx_ok _) (by rfl) fun K hK => ?_
  conv => whnf
  refine callV rfl (l17Size_fn kp g0 f.l hk) fun hs' hhs => ?_
  try dsimp only at hhs
  conv => whnf
  rw [hq1]
  refine hK _ (W.cond ⟨fun h => ?_, fun h => ?_⟩) <;> clear hK K
  ·have h := of_decide_eq_true h
   have eQ : Q (k + 1) = decide ((rem (polyN kp (k + 1) ^ n) f).l = X.l) := by rw [hQ]
   have hP := hpd (k := k + 1) (by omega)
   have hRr := rem_lt (polyN kp (k + 1) ^ n) hf0
   refine W.skip (hK7 _ ?_)
   clear hK7 K7
   refine W.seqK fun K8 hK8 => W.block ?_
   refine W.rd (cx_ok _) follows (by rfl) fun K hK => ?_
   conv => whnf
   refine ⟨_, cxF (l17With_fn kp g0 f.l (k + 1) (by omega) (by omega)), ?_⟩
   conv => whnf
   rw [hnl (k + 1)]
   refine ⟨_, cxF (l17Power_fn kp g0 none f (polyN kp (k + 1)) n (by omega) (by omega) (by omega) hf0), ?_⟩
   conv => whnf
   refine ⟨_, cxF (same_fn none g1 (rem (polyN kp (k + 1) ^ n) f).l X.l (by show dg _ ≤ _; omega)), ?_⟩
   conv => whnf
   rw [← eQ]
   refine hK _ (W.cond ⟨fun h5 => ?_, fun h5 => ?_⟩) <;> clear hK K
   ·have e1 : sel Q (k + 1) = sel Q k ++ [((k + 1 : Nat) : Int)] := by rw [sel, if_pos h5]
    refine W.region (cx_ok _) (by rfl) ?_
    conv => whnf
    refine ⟨⟨rfl, by decide⟩, ?_⟩
    conv => whnf
    intro b_4 hs_4 hh_4 hf_4
    try dsimp only at hh_4 hf_4
    conv => whnf
    refine ⟨by dsimp only [List.length]; omega, ?_⟩
    conv => whnf
    intro b_5 hs_5 hh_5 hf_5
    try dsimp only at hh_5 hf_5
    conv => whnf
    refine hK8 _ ?_
    clear hK8 K8
    refine W.region (cx_ok _) (by rfl) ?_
    conv => whnf
    refine ⟨by constructor <;> omega, ?_⟩
    conv => whnf
    exact againA ⟨k + 1, b_5, _, by omega, e1.symm, rfl, rfl⟩
   ·have e1 : sel Q (k + 1) = sel Q k := by rw [sel, if_neg (by rw [h5]; decide)]
    refine W.skip (hK8 _ ?_)
    clear hK8 K8
    refine W.region (cx_ok _) (by rfl) ?_
    conv => whnf
    refine ⟨by constructor <;> omega, ?_⟩
    conv => whnf
    exact againA ⟨k + 1, b, _, by omega, e1.symm, rfl, rfl⟩
  ·have h := of_decide_eq_false h
   obtain rfl : k = q - 1 := by omega
   refine W.exit (hK1 _ ?_)
   clear hK7 K7 hK1 K1
   refine W.weak (t := ⟨[(9, .v (.ints none (sel Q (q - 1))))], base⟩) ⟨by dsimp only; omega, by repeat' first | refine And.intro ?_ ?_ | exact trivial | rfl | exact .inl rfl⟩ (Nat.le_refl _) ?_
   refine W.rs (cx_ok _) (by rfl) fun K hK => ?_
   conv => whnf
   refine callV rfl (l19List_fn (sel Q (q - 1)) (by omega)) fun hs' hhs => ?_
   try dsimp only at hhs
   conv => whnf
   refine hK _ ?_
   clear hK K
   refine W.ret ?_
   conv => whnf
   exact ⟨.v (.ints none (fewL (sel Q (q - 1)))), ⟨rfl, rfl⟩, trivial, .v (.int .i64 (fewC (sel Q (q - 1)))), ⟨rfl, rfl⟩, trivial, rfl⟩
 ·have hT := fewNumbers_T kp g0 f hk hfi d hd 112 [.box none (vK kp g0 f.l), .box none (.int .i64 (n : Nat)), .box none (.ints g1 X.l)] Q (fun i h1 h2 => by
   rw [hqe] at h2
   have hP := hpd h2
   rw [hQ]
   exact roC_fn kp g0 none none none g1 f (polyN kp i) X n (by omega) (by omega) (by omega) hf0)
  rw [hqe] at hT
  refine fnt_of (cxt_ok [] [0, 1, 2, 3, 4, 5, 6, 7, 8, 17, 21, 1000000]) Tryz.func26 rfl (by decide) Tryz.ntmps26 (Nat.le_of_ble_eq_true rfl) (fun base => ?_) (Nat.le_of_ble_eq_true rfl)
  refine W.sw (c' := cx [0, 1, 2, 3, 4, 5, 6, 7, 8, 17, 21, 1000000]) ?_
  refine W.rs (cx_ok _) (by rfl) fun K hK => ?_
  conv => whnf
  refine ⟨rfl, ?_⟩
  conv => whnf
  intro b_1 hs_1 hh_1 hf_1
  try dsimp only at hh_1 hf_1
  conv => whnf
  refine ⟨rfl, ?_⟩
  conv => whnf
  intro b_2 hs_2 hh_2 hf_2
  try dsimp only at hh_2 hf_2
  conv => whnf
  refine ⟨rfl, ?_⟩
  conv => whnf
  intro b_3 hs_3 hh_3 hf_3
  try dsimp only at hh_3 hf_3
  conv => whnf
  refine hK _ ?_
  clear hK K
  refine W.seqK fun K1 hK1 => ?_
  refine W.rd (cx_ok _) follows (by rfl) fun K hK => ?_
  conv => whnf
  refine ⟨_, cxF (exponent_fn kp n g0 f.l (by omega)), ?_⟩
  conv => whnf
  refine ⟨⟨rfl, by decide, fun x hx => (by simp at hx; subst hx; exact ⟨rfl, rfl⟩)⟩, ?_⟩
  conv => whnf
  refine ⟨_, cxF (elements_bool kp g0 none f.l _ 1 _ (fun _ => X.l) (by omega) (by omega) (els1 g1 X.l)), ?_⟩
  conv => whnf
  rw [codeB_ok hc (bP_true ⟨hk, hrr⟩)]
  refine hK _ ?_
  clear hK K
  refine W.rs (cx_ok _) (by rfl) fun K hK => ?_
  conv => whnf
  refine hK _ (W.cond ⟨fun hcc => absurd rfl (of_decide_eq_true hcc), fun _ => W.skip (hK1 _ ?_)⟩)
  clear hK K hK1 K1
  refine W.seqK fun K1 hK1 => ?_
  refine W.rs (cx_ok _) (by rfl) fun K hK => ?_
  conv => whnf
  refine hK _ (W.cond ⟨fun h4 => absurd (of_decide_eq_true h4) (by omega), fun _ => W.skip (hK1 _ ?_)⟩)
  clear hK K hK1 K1
  refine W.sw (c' := cxt [106] [0, 1, 2, 3, 4, 5, 6, 7, 8, 17, 21, 1000000]) ?_
  refine W.rs (cxt_ok _ _) (by rfl) fun K hK => ?_
  conv => whnf
  refine ⟨_, cxT (hT), fun lo_t hi_t hs_t x_t tn_t tb_t hl1_t hl2_t _ hp_t hf_t hn_t ho_t => ?_⟩
  try dsimp only at hl1_t hl2_t
  obtain ⟨bt, rfl, ht⟩ := hp_t
  conv => whnf
  refine hK _ ?_
  clear hK K
  refine W.ret ?_
  conv => whnf
  exact ⟨.v (.rf bt (fewL (sel Q (q - 1))).length), rfl, trivial, .v (.int .i64 (fewC (sel Q (q - 1)))), ⟨rfl, rfl⟩, trivial, bt, rfl, fun h => hn_t _ _ (ht h)⟩

open Go Go.RowKit Go.Proofs Poly
set_option maxRecDepth 100000
set_option maxHeartbeats 8000000

theorem codeBase_self {p : Int} [SP p] {f G : Poly p} (hi : Irr f) (b : Prop) (hb : b ↔ Prim f G) : codeBase f G G = bif bP b then 0 else 5 := by
 unfold codeBase
 by_cases h : Prim f G
 ·rw [bP_true ⟨h.ne hi, h.ne hi, h⟩, bP_true (hb.2 h)]
 ·rw [bP_false fun h' => h h'.2.2, bP_false fun h' => h (hb.1 h')]
theorem two_same (p : Int) (l x : List Int) (h : code1 p l x = 0) : codeEl p l true 2 (two x x) = 0 := (code1_eq p l x).trans h

theorem one_add_l {p : Int} [SP p] (X : Poly p) : nrm p (trimZ (addL [1] X.l)) = (1 + X).l := by
 have h := sum_l (1 : Poly p) X
 rwa [one_l] at h

/- the program's begin: $1 modulus $2 base $3 exponent, one more $4 code -/
theorem ZechLogarithm_both (kp : Int) (kl y : List Int) (e : Int) (_ : inR kp) (he : inR e) (hkl : kl.length ≤ 1048576) (hy : y.length ≤ 1048576) : ∃ r0 r1 : Int,
  (∀ g0 g1 : Option Nat, FnV 43 [vK kp g0 kl, .ints g1 y, .int .i64 e] (.tup [.int .i64 r0, .int .i64 r1])) ∧ (∀ g0 g1 : Option Nat, FnV 44 [vK kp g0 kl, .ints g1 y, .int .i64 e] (.tup [.int .i64 r0, .int .i64 r1])) := by
 generalize hc : code1 kp kl y = c
 -- the sum that wraps around
 obtain ⟨we, hwe, hw1⟩ : ∃ we : Int, IntKind.i64.wrap (e + 1) = we ∧ (we = e + 1 ∨ we < 0 ∧ e = 9223372036854775807) := by
  refine ⟨_, rfl, ?_⟩
  rw [IntKind.wrap_i64]
  obtain ⟨h1, h2⟩ := he
  omega
 by_cases h0 : c = 0
 case neg =>
  refine ⟨0, c, fun g0 g1 => ?_, fun g0 g1 => ?_⟩
  ·refine fn_of (cx_ok [0, 1, 2, 3, 6, 7, 8, 9, 23, 25, 31, 44]) Tryz.func43 rfl (by decide) Tryz.ntmps43 (Nat.le_of_ble_eq_true rfl) fun base => ?_
   refine W.rs (cx_ok _) (by rfl) fun K hK => ?_
   conv => whnf
   refine ⟨rfl, ?_⟩
   conv => whnf
   intro b_1 hs_1 hh_1 hf_1
   try dsimp only at hh_1 hf_1
   conv => whnf
   refine hK _ ?_
   clear hK K
   refine W.rs (cx_ok _) (by rfl) fun K hK => ?_
   conv => whnf
   refine callV rfl (l17Code_one kp g0 g1 g1 kl y (by omega) (by omega)) fun hs' hhs => ?_
   try dsimp only at hhs
   conv => whnf
   rw [hc]
   refine hK _ ?_
   clear hK K
   refine W.seqK fun K1 hK1 => ?_
   refine W.rs (cx_ok _) (by rfl) fun K hK => ?_
   conv => whnf
   refine ⟨fun h => ?_, fun h => ?_⟩ <;> conv => whnf
   ·exact absurd (of_decide_eq_true h) h0
   refine hK _ (W.condF rfl (W.skip (hK1 _ ?_)))
   clear hK K hK1 K1
   refine W.seqK fun K1 hK1 => ?_
   refine W.rs (cx_ok _) (by rfl) fun K hK => ?_
   conv => whnf
   refine hK _ (W.cond ⟨fun h => absurd (of_decide_eq_true h) h0, fun _ => W.skip (hK1 _ ?_)⟩)
   clear hK K hK1 K1
   refine W.seqK fun K1 hK1 => ?_
   refine W.rs (cx_ok _) (by rfl) fun K hK => ?_
   conv => whnf
   refine hK _ (W.cond ⟨fun _ => ?_, fun hcc => absurd h0 (of_decide_eq_false hcc)⟩)
   clear hK K
   refine W.rs (cx_ok _) (by rfl) fun K hK => ?_
   conv => whnf
   refine hK _ ?_
   clear hK K
   refine W.ret ?_
   conv => whnf
   exact ⟨.v (.int .i64 0), ⟨rfl, rfl⟩, trivial, .v (.int .i64 c), ⟨rfl, rfl⟩, trivial, rfl⟩
  ·refine fn_of (cx_ok [0, 1, 2, 3, 6, 7, 8, 9, 19, 24, 36]) Tryz.func44 rfl (by decide) Tryz.ntmps44 (Nat.le_of_ble_eq_true rfl) fun base => ?_
   refine W.rs (cx_ok _) (by rfl) fun K hK => ?_
   conv => whnf
   refine ⟨rfl, ?_⟩
   conv => whnf
   intro b_1 hs_1 hh_1 hf_1
   try dsimp only at hh_1 hf_1
   conv => whnf
   refine hK _ ?_
   clear hK K
   refine W.seqK fun K1 hK1 => ?_
   refine W.sw (c' := cxw [0, 1, 2, 3, 6, 7, 8, 9, 19, 24, 36]) (W.rd (cxw_ok _) follows (by rfl) fun K hK => ?_)
   conv => whnf
   rw [hwe]
   refine ⟨_, cxwF (exponent_fn kp we g0 kl (by omega)), ?_⟩
   conv => whnf
   refine ⟨⟨rfl, by decide, fun x hx => (by simp at hx; subst hx; exact ⟨rfl, rfl⟩)⟩, ?_⟩
   conv => whnf
   refine ⟨_, cxwF (elements_bool kp g0 none kl _ 1 _ (fun _ => y) (by omega) (by omega) (els1 g1 y)), ?_⟩
   conv => whnf
   rw [codeB_bad hc h0 _]
   refine hK _ ?_
   clear hK K
   refine W.sw (c' := cx [0, 1, 2, 3, 6, 7, 8, 9, 19, 24, 36]) ?_
   refine W.rs (cx_ok _) (by rfl) fun K hK => ?_
   conv => whnf
   refine hK _ (W.cond ⟨fun _ => ?_, fun hcc => absurd h0 (of_decide_eq_false hcc)⟩)
   clear hK K
   refine W.rs (cx_ok _) (by rfl) fun K hK => ?_
   conv => whnf
   refine hK _ ?_
   clear hK K
   refine W.ret ?_
   conv => whnf
   exact ⟨.v (.int .i64 0), ⟨rfl, rfl⟩, trivial, .v (.int .i64 c), ⟨rfl, rfl⟩, trivial, rfl⟩
 subst h0
 have hc1 := hc
 obtain ⟨hk, hh⟩ := code1_ok hc
 obtain ⟨hp, f, rfl, hfi, _, _, hf9⟩ := fld_poly hk
 letI := sp_of hp
 obtain ⟨X, rfl⟩ := mod_poly hh.1
 have hxl : X.l.length < f.l.length := hh.2
 have hfl : f.l.length = dg f := rfl
 have hXl : X.l.length = dg X := rfl
 have hf0 := hfi.ne
 have hp1 := primes_le hp
 obtain ⟨d, hd⟩ : ∃ d, dg f = d + 1 := ⟨dg f - 1, by have := hfi.1; omega⟩
 obtain ⟨hq1, hq2, hq3⟩ := fld_q hk hd
 have hex : ∀ b : Prop, (b ↔ (0 ≤ e ∧ e ≤ (kp.toNat ^ d : Nat) - 2)) → bP (IsFld kp f.l ∧ 1 ≤ we ∧ we ≤ kp ^ (f.l.length - 1) - 1) = bP b := fun b hb => by
  rw [hq1]
  by_cases h : 0 ≤ e ∧ e ≤ ((kp.toNat ^ d : Nat) : Int) - 2
  ·rw [bP_true (hb.2 h), bP_true ⟨hk, by omega, by omega⟩]
  ·rw [bP_false fun h' => h (hb.1 h'), bP_false fun h' => h (by omega)]
 by_cases hr : 0 ≤ e ∧ e ≤ ((kp.toNat ^ d : Nat) : Int) - 2
 case neg =>
  refine ⟨0, 2, fun g0 g1 => ?_, fun g0 g1 => ?_⟩
  ·refine fn_of (cx_ok [0, 1, 2, 3, 6, 7, 8, 9, 23, 25, 31, 44]) Tryz.func43 rfl (by decide) Tryz.ntmps43 (Nat.le_of_ble_eq_true rfl) fun base => ?_
   refine W.rs (cx_ok _) (by rfl) fun K hK => ?_
   conv => whnf
   refine ⟨rfl, ?_⟩
   conv => whnf
   intro b_1 hs_1 hh_1 hf_1
   try dsimp only at hh_1 hf_1
   conv => whnf
   refine hK _ ?_
   clear hK K
   refine W.rs (cx_ok _) (by rfl) fun K hK => ?_
   conv => whnf
   refine callV rfl (l17Code_one kp g0 g1 g1 f.l X.l (by omega) (by omega)) fun hs' hhs => ?_
   try dsimp only at hhs
   conv => whnf
   rw [hc]
   refine hK _ ?_
   clear hK K
   refine W.seqK fun K1 hK1 => ?_
   refine W.rs (cx_ok _) (by rfl) fun K hK => ?_
   conv => whnf
   refine ⟨fun h => ?_, fun h => ?_⟩ <;> conv => whnf
   ·refine callV rfl (l17Size_fn kp g0 f.l hk) fun hs' hhs => ?_
    try dsimp only at hhs
    conv => whnf
    rw [hq1]
    refine ⟨by constructor <;> omega, ?_⟩
    conv => whnf
    refine callV rfl ((l01In_fn e 0 (((kp.toNat ^ d : Nat) : Int) - 2)).fa (decide_eq_false hr)) fun hs' hhs => ?_
    try dsimp only at hhs
    conv => whnf
    refine hK _ (W.condT rfl ?_)
    clear hK K
    refine W.region (cx_ok _) (by rfl) ?_
    conv => whnf
    refine hK1 _ ?_
    clear hK1 K1
    refine W.seqK fun K1 hK1 => ?_
    refine W.rs (cx_ok _) (by rfl) fun K hK => ?_
    conv => whnf
    refine hK _ (W.cond ⟨fun h => absurd (of_decide_eq_true h) (by decide), fun _ => W.skip (hK1 _ ?_)⟩)
    clear hK K hK1 K1
    refine W.seqK fun K1 hK1 => ?_
    refine W.rs (cx_ok _) (by rfl) fun K hK => ?_
    conv => whnf
    refine hK _ (W.cond ⟨fun _ => ?_, fun hcc => absurd (by decide : (2 : Int) ≠ 0) (of_decide_eq_false hcc)⟩)
    clear hK K
    refine W.rs (cx_ok _) (by rfl) fun K hK => ?_
    conv => whnf
    refine hK _ ?_
    clear hK K
    refine W.ret ?_
    conv => whnf
    exact ⟨.v (.int .i64 0), ⟨rfl, rfl⟩, trivial, .v (.int .i64 2), ⟨rfl, rfl⟩, trivial, rfl⟩
   ·exact absurd rfl (of_decide_eq_false h)
  ·refine fn_of (cx_ok [0, 1, 2, 3, 6, 7, 8, 9, 19, 24, 36]) Tryz.func44 rfl (by decide) Tryz.ntmps44 (Nat.le_of_ble_eq_true rfl) fun base => ?_
   refine W.rs (cx_ok _) (by rfl) fun K hK => ?_
   conv => whnf
   refine ⟨rfl, ?_⟩
   conv => whnf
   intro b_1 hs_1 hh_1 hf_1
   try dsimp only at hh_1 hf_1
   conv => whnf
   refine hK _ ?_
   clear hK K
   refine W.seqK fun K1 hK1 => ?_
   refine W.sw (c' := cxw [0, 1, 2, 3, 6, 7, 8, 9, 19, 24, 36]) (W.rd (cxw_ok _) follows (by rfl) fun K hK => ?_)
   conv => whnf
   rw [hwe]
   refine ⟨_, cxwF (exponent_fn kp we g0 f.l (by omega)), ?_⟩
   conv => whnf
   refine ⟨⟨rfl, by decide, fun x hx => (by simp at hx; subst hx; exact ⟨rfl, rfl⟩)⟩, ?_⟩
   conv => whnf
   refine ⟨_, cxwF (elements_bool kp g0 none f.l _ 1 _ (fun _ => X.l) (by omega) (by omega) (els1 g1 X.l)), ?_⟩
   conv => whnf
   rw [codeB_two hc1 ((hex _ Iff.rfl).trans (bP_false hr))]
   refine hK _ ?_
   clear hK K
   refine W.sw (c' := cx [0, 1, 2, 3, 6, 7, 8, 9, 19, 24, 36]) ?_
   refine W.rs (cx_ok _) (by rfl) fun K hK => ?_
   conv => whnf
   refine hK _ (W.cond ⟨fun _ => ?_, fun hcc => absurd (by decide : (2 : Int) ≠ 0) (of_decide_eq_false hcc)⟩)
   clear hK K
   refine W.rs (cx_ok _) (by rfl) fun K hK => ?_
   conv => whnf
   refine hK _ ?_
   clear hK K
   refine W.ret ?_
   conv => whnf
   exact ⟨.v (.int .i64 0), ⟨rfl, rfl⟩, trivial, .v (.int .i64 2), ⟨rfl, rfl⟩, trivial, rfl⟩
 have hcc := codeB_ok hc1 ((hex _ Iff.rfl).trans (bP_true hr))
 obtain ⟨n, rfl⟩ : ∃ n : Nat, e = n := ⟨e.toNat, by omega⟩
 have hcs := two_same kp f.l X.l hc1
 by_cases hP : Prim f X
 case neg =>
  have hcb : codeBase f X X = 5 := by rw [codeBase_self hfi _ Iff.rfl, bP_false hP]; rfl
  refine ⟨0, 5, fun g0 g1 => ?_, fun g0 g1 => ?_⟩
  ·refine fn_of (cx_ok [0, 1, 2, 3, 6, 7, 8, 9, 23, 25, 31, 44]) Tryz.func43 rfl (by decide) Tryz.ntmps43 (Nat.le_of_ble_eq_true rfl) fun base => ?_
   refine W.rs (cx_ok _) (by rfl) fun K hK => ?_
   conv => whnf
   refine ⟨rfl, ?_⟩
   conv => whnf
   intro b_1 hs_1 hh_1 hf_1
   try dsimp only at hh_1 hf_1
   conv => whnf
   refine hK _ ?_
   clear hK K
   refine W.rs (cx_ok _) (by rfl) fun K hK => ?_
   conv => whnf
   refine callV rfl (l17Code_one kp g0 g1 g1 f.l X.l (by omega) (by omega)) fun hs' hhs => ?_
   try dsimp only at hhs
   conv => whnf
   rw [hc]
   refine hK _ ?_
   clear hK K
   refine W.seqK fun K1 hK1 => ?_
   refine W.rs (cx_ok _) (by rfl) fun K hK => ?_
   conv => whnf
   refine ⟨fun h => ?_, fun h => ?_⟩ <;> conv => whnf
   ·refine callV rfl (l17Size_fn kp g0 f.l hk) fun hs' hhs => ?_
    try dsimp only at hhs
    conv => whnf
    rw [hq1]
    refine ⟨by constructor <;> omega, ?_⟩
    conv => whnf
    refine callV rfl ((l01In_fn (n : Nat) 0 (((kp.toNat ^ d : Nat) : Int) - 2)).tr (decide_eq_true hr)) fun hs' hhs => ?_
    try dsimp only at hhs
    conv => whnf
    refine hK _ (W.condF rfl (W.skip (hK1 _ ?_)))
    clear hK K hK1 K1
    refine W.seqK fun K1 hK1 => ?_
    refine W.rs (cx_ok _) (by rfl) fun K hK => ?_
    conv => whnf
    refine hK _ (W.cond ⟨fun _ => ?_, fun h => absurd rfl (of_decide_eq_false h)⟩)
    clear hK K
    refine W.region (cx_ok _) (by rfl) ?_
    conv => whnf
    refine callV rfl (l19Base_fn kp g0 g1 g1 f X X hk hfi hxl hxl hcs) fun hs' hhs => ?_
    try dsimp only at hhs
    conv => whnf
    rw [hcb]
    refine hK1 _ ?_
    clear hK1 K1
    refine W.seqK fun K1 hK1 => ?_
    refine W.rs (cx_ok _) (by rfl) fun K hK => ?_
    conv => whnf
    refine hK _ (W.cond ⟨fun _ => ?_, fun hcc => absurd (by decide : (5 : Int) ≠ 0) (of_decide_eq_false hcc)⟩)
    clear hK K
    refine W.rs (cx_ok _) (by rfl) fun K hK => ?_
    conv => whnf
    refine hK _ ?_
    clear hK K
    refine W.ret ?_
    conv => whnf
    exact ⟨.v (.int .i64 0), ⟨rfl, rfl⟩, trivial, .v (.int .i64 5), ⟨rfl, rfl⟩, trivial, rfl⟩
   ·exact absurd rfl (of_decide_eq_false h)
  ·refine fn_of (cx_ok [0, 1, 2, 3, 6, 7, 8, 9, 19, 24, 36]) Tryz.func44 rfl (by decide) Tryz.ntmps44 (Nat.le_of_ble_eq_true rfl) fun base => ?_
   refine W.rs (cx_ok _) (by rfl) fun K hK => ?_
   conv => whnf
   refine ⟨rfl, ?_⟩
   conv => whnf
   intro b_1 hs_1 hh_1 hf_1
   try dsimp only at hh_1 hf_1
   conv => whnf
   refine hK _ ?_
   clear hK K
   refine W.seqK fun K1 hK1 => ?_
   refine W.sw (c' := cxw [0, 1, 2, 3, 6, 7, 8, 9, 19, 24, 36]) (W.rd (cxw_ok _) follows (by rfl) fun K hK => ?_)
   conv => whnf
   rw [hwe]
   refine ⟨_, cxwF (exponent_fn kp we g0 f.l (by omega)), ?_⟩
   conv => whnf
   refine ⟨⟨rfl, by decide, fun x hx => (by simp at hx; subst hx; exact ⟨rfl, rfl⟩)⟩, ?_⟩
   conv => whnf
   refine ⟨_, cxwF (elements_bool kp g0 none f.l _ 1 _ (fun _ => X.l) (by omega) (by omega) (els1 g1 X.l)), ?_⟩
   conv => whnf
   rw [hcc]
   refine hK _ ?_
   clear hK K
   refine W.sw (c' := cx [0, 1, 2, 3, 6, 7, 8, 9, 19, 24, 36]) ?_
   refine W.rs (cx_ok _) (by rfl) fun K hK => ?_
   conv => whnf
   refine hK _ (W.cond ⟨fun hcc => absurd rfl (of_decide_eq_true hcc), fun _ => W.skip (hK1 _ ?_)⟩)
   clear hK K hK1 K1
   refine W.seqK fun K1 hK1 => ?_
   refine W.rs (cx_ok _) (by rfl) fun K hK => ?_
   conv => whnf
   refine callV rfl ((isPrimitive_fn kp g0 g1 f X hk hfi hxl).fa (bP_false hP)) fun hs' hhs => ?_
   try dsimp only at hhs
   conv => whnf
   refine hK _ (W.condT rfl ?_)
   clear hK K
   refine W.rs (cx_ok _) (by rfl) fun K hK => ?_
   conv => whnf
   refine hK _ ?_
   clear hK K
   refine W.ret ?_
   conv => whnf
   exact ⟨.v (.int .i64 0), ⟨rfl, rfl⟩, trivial, .v (.int .i64 5), ⟨rfl, rfl⟩, trivial, rfl⟩
 have hcb : codeBase f X X = 0 := by rw [codeBase_self hfi _ Iff.rfl, bP_true hP]; rfl
 have hPd := rem_lt (X ^ n) hf0
 have hQl : (rem (X ^ n) f).l.length = dg (rem (X ^ n) f) := rfl
 have hSd : dg (1 + rem (X ^ n) f) < dg f := by
  have h1 := dg_add (1 : Poly kp) (rem (X ^ n) f)
  rw [dg_one] at h1
  have := hfi.1
  omega
 have hSl : (1 + rem (X ^ n) f).l.length = dg (1 + rem (X ^ n) f) := rfl
 have hSb : Bd 4611686018427387904 (trimZ (addL [1] (rem (X ^ n) f).l)) := fun j => by
  rw [cf_trimZ, cf_addL]
  have := cf_bd (rem (X ^ n) f) j
  cases j with
  | zero => rw [cf_cons_zero]; omega
  | succ j => rw [cf_cons_succ, cf_nil]; omega
 have hSn : (trimZ (addL [1] (rem (X ^ n) f).l)).length ≤ 100 := by
  have := trimZ_length (addL [1] (rem (X ^ n) f).l)
  unfold addL at *
  rw [mkL_length] at *
  simp at this ⊢
  omega
 have h1b : Bd 2305843009213693951 [1] := fun j => by
  cases j with
  | zero => rw [cf_cons_zero]; omega
  | succ j => rw [cf_cons_succ, cf_nil]; omega
 by_cases hS0 : 1 + rem (X ^ n) f = 0
 ·have hS1 : dg (1 + rem (X ^ n) f) = 0 := dg_eq_zero.2 hS0
  refine ⟨0, 4, fun g0 g1 => ?_, fun g0 g1 => ?_⟩
  ·refine fn_of (cx_ok [0, 1, 2, 3, 6, 7, 8, 9, 23, 25, 31, 44]) Tryz.func43 rfl (by decide) Tryz.ntmps43 (Nat.le_of_ble_eq_true rfl) fun base => ?_
   refine W.rs (cx_ok _) (by rfl) fun K hK => ?_
   conv => whnf
   refine ⟨rfl, ?_⟩
   conv => whnf
   intro b_1 hs_1 hh_1 hf_1
   try dsimp only at hh_1 hf_1
   conv => whnf
   refine hK _ ?_
   clear hK K
   refine W.rs (cx_ok _) (by rfl) fun K hK => ?_
   conv => whnf
   refine callV rfl (l17Code_one kp g0 g1 g1 f.l X.l (by omega) (by omega)) fun hs' hhs => ?_
   try dsimp only at hhs
   conv => whnf
   rw [hc]
   refine hK _ ?_
   clear hK K
   refine W.seqK fun K1 hK1 => ?_
   refine W.rs (cx_ok _) (by rfl) fun K hK => ?_
   conv => whnf
   refine ⟨fun h => ?_, fun h => ?_⟩ <;> conv => whnf
   ·refine callV rfl (l17Size_fn kp g0 f.l hk) fun hs' hhs => ?_
    try dsimp only at hhs
    conv => whnf
    rw [hq1]
    refine ⟨by constructor <;> omega, ?_⟩
    conv => whnf
    refine callV rfl ((l01In_fn (n : Nat) 0 (((kp.toNat ^ d : Nat) : Int) - 2)).tr (decide_eq_true hr)) fun hs' hhs => ?_
    try dsimp only at hhs
    conv => whnf
    refine hK _ (W.condF rfl (W.skip (hK1 _ ?_)))
    clear hK K hK1 K1
    refine W.seqK fun K1 hK1 => ?_
    refine W.rs (cx_ok _) (by rfl) fun K hK => ?_
    conv => whnf
    refine hK _ (W.cond ⟨fun _ => ?_, fun h => absurd rfl (of_decide_eq_false h)⟩)
    clear hK K
    refine W.region (cx_ok _) (by rfl) ?_
    conv => whnf
    refine callV rfl (l19Base_fn kp g0 g1 g1 f X X hk hfi hxl hxl hcs) fun hs' hhs => ?_
    try dsimp only at hhs
    conv => whnf
    rw [hcb]
    refine hK1 _ ?_
    clear hK1 K1
    refine W.seqK fun K1 hK1 => ?_
    refine W.rs (cx_ok _) (by rfl) fun K hK => ?_
    conv => whnf
    refine hK _ (W.cond ⟨fun hcc => absurd rfl (of_decide_eq_true hcc), fun _ => W.skip (hK1 _ ?_)⟩)
    clear hK K hK1 K1
    refine W.rd (cx_ok _) follows (by rfl) fun K hK => ?_
    conv => whnf
    refine ⟨⟨rfl, by decide⟩, ?_⟩
    conv => whnf
    refine ⟨_, cxF (l17Power_fn kp g0 g1 f X n (by omega) (by omega) (by omega) hf0), ?_⟩
    conv => whnf
    refine ⟨_, cxF ((l06Add_fn none none [1] (rem (X ^ n) f).l 1 (by omega) h1b (l_bd2 _) (by simp) (by omega)).toV), ?_⟩
    conv => whnf
    rw [smul_one]
    refine ⟨_, cxF ((l08Reduce_fn kp (by omega) (by omega) none _ hSb (by omega)).toV), ?_⟩
    conv => whnf
    rw [one_add_l]
    refine hK _ ?_
    clear hK K
    refine W.seqK fun K1 hK1 => ?_
    refine W.rs (cx_ok _) (by rfl) fun K hK => ?_
    conv => whnf
    refine hK _ (W.cond ⟨fun _ => ?_, fun h4 => absurd (of_decide_eq_false h4) (by omega)⟩)
    clear hK K
    refine W.rs (cx_ok _) (by rfl) fun K hK => ?_
    conv => whnf
    refine hK _ ?_
    clear hK K
    refine W.ret ?_
    conv => whnf
    exact ⟨.v (.int .i64 0), ⟨rfl, rfl⟩, trivial, .v (.int .i64 4), ⟨rfl, rfl⟩, trivial, rfl⟩
   ·exact absurd rfl (of_decide_eq_false h)
  ·refine fn_of (cx_ok [0, 1, 2, 3, 6, 7, 8, 9, 19, 24, 36]) Tryz.func44 rfl (by decide) Tryz.ntmps44 (Nat.le_of_ble_eq_true rfl) fun base => ?_
   refine W.rs (cx_ok _) (by rfl) fun K hK => ?_
   conv => whnf
   refine ⟨rfl, ?_⟩
   conv => whnf
   intro b_1 hs_1 hh_1 hf_1
   try dsimp only at hh_1 hf_1
   conv => whnf
   refine hK _ ?_
   clear hK K
   refine W.seqK fun K1 hK1 => ?_
   refine W.sw (c' := cxw [0, 1, 2, 3, 6, 7, 8, 9, 19, 24, 36]) (W.rd (cxw_ok _) follows (by rfl) fun K hK => ?_)
   conv => whnf
   rw [hwe]
   refine ⟨_, cxwF (exponent_fn kp we g0 f.l (by omega)), ?_⟩
   conv => whnf
   refine ⟨⟨rfl, by decide, fun x hx => (by simp at hx; subst hx; exact ⟨rfl, rfl⟩)⟩, ?_⟩
   conv => whnf
   refine ⟨_, cxwF (elements_bool kp g0 none f.l _ 1 _ (fun _ => X.l) (by omega) (by omega) (els1 g1 X.l)), ?_⟩
   conv => whnf
   rw [hcc]
   refine hK _ ?_
   clear hK K
   refine W.sw (c' := cx [0, 1, 2, 3, 6, 7, 8, 9, 19, 24, 36]) ?_
   refine W.rs (cx_ok _) (by rfl) fun K hK => ?_
   conv => whnf
   refine hK _ (W.cond ⟨fun hcc => absurd rfl (of_decide_eq_true hcc), fun _ => W.skip (hK1 _ ?_)⟩)
   clear hK K hK1 K1
   refine W.seqK fun K1 hK1 => ?_
   refine W.rs (cx_ok _) (by rfl) fun K hK => ?_
   conv => whnf
   refine callV rfl ((isPrimitive_fn kp g0 g1 f X hk hfi hxl).tr (bP_true hP)) fun hs' hhs => ?_
   try dsimp only at hhs
   conv => whnf
   refine hK _ (W.condF rfl (W.skip (hK1 _ ?_)))
   clear hK K hK1 K1
   refine W.rd (cx_ok _) follows (by rfl) fun K hK => ?_
   conv => whnf
   refine ⟨⟨rfl, by decide⟩, ?_⟩
   conv => whnf
   refine ⟨_, cxF (kPower_fn kp g0 g1 f X n (by omega) (by omega) (by omega) hf0), ?_⟩
   conv => whnf
   refine ⟨_, cxF ((sumOf_fn none none [1] (rem (X ^ n) f).l h1b (l_bd2 _) (by simp) (by omega)).toV), ?_⟩
   conv => whnf
   refine ⟨_, cxF ((reduce_fn kp (by omega) (by omega) none _ hSb (by omega)).toV), ?_⟩
   conv => whnf
   rw [one_add_l]
   refine hK _ ?_
   clear hK K
   refine W.seqK fun K1 hK1 => ?_
   refine W.rs (cx_ok _) (by rfl) fun K hK => ?_
   conv => whnf
   refine hK _ (W.cond ⟨fun _ => ?_, fun h4 => absurd (of_decide_eq_false h4) (by omega)⟩)
   clear hK K
   refine W.rs (cx_ok _) (by rfl) fun K hK => ?_
   conv => whnf
   refine hK _ ?_
   clear hK K
   refine W.ret ?_
   conv => whnf
   exact ⟨.v (.int .i64 0), ⟨rfl, rfl⟩, trivial, .v (.int .i64 4), ⟨rfl, rfl⟩, trivial, rfl⟩
 have hS1 : dg (1 + rem (X ^ n) f) ≠ 0 := fun e => hS0 (dg_eq_zero.1 e)
 obtain ⟨r, hr1, hr2, hr3⟩ := exists_exp hfi hP hS0 hSd
 rw [show dg f - 1 = d by omega] at hr1
 refine ⟨r, 0, fun g0 g1 => ?_, fun g0 g1 => ?_⟩
 ·refine fn_of (cx_ok [0, 1, 2, 3, 6, 7, 8, 9, 23, 25, 31, 44]) Tryz.func43 rfl (by decide) Tryz.ntmps43 (Nat.le_of_ble_eq_true rfl) fun base => ?_
  refine W.rs (cx_ok _) (by rfl) fun K hK => ?_
  conv => whnf
  refine ⟨rfl, ?_⟩
  conv => whnf
  intro b_1 hs_1 hh_1 hf_1
  try dsimp only at hh_1 hf_1
  conv => whnf
  refine hK _ ?_
  clear hK K
  refine W.rs (cx_ok _) (by rfl) fun K hK => ?_
  conv => whnf
  refine callV rfl (l17Code_one kp g0 g1 g1 f.l X.l (by omega) (by omega)) fun hs' hhs => ?_
  try dsimp only at hhs
  conv => whnf
  rw [hc]
  refine hK _ ?_
  clear hK K
  refine W.seqK fun K1 hK1 => ?_
  refine W.rs (cx_ok _) (by rfl) fun K hK => ?_
  conv => whnf
  refine ⟨fun h => ?_, fun h => ?_⟩ <;> conv => whnf
  ·refine callV rfl (l17Size_fn kp g0 f.l hk) fun hs' hhs => ?_
   try dsimp only at hhs
   conv => whnf
   rw [hq1]
   refine ⟨by constructor <;> omega, ?_⟩
   conv => whnf
   refine callV rfl ((l01In_fn (n : Nat) 0 (((kp.toNat ^ d : Nat) : Int) - 2)).tr (decide_eq_true hr)) fun hs' hhs => ?_
   try dsimp only at hhs
   conv => whnf
   refine hK _ (W.condF rfl (W.skip (hK1 _ ?_)))
   clear hK K hK1 K1
   refine W.seqK fun K1 hK1 => ?_
   refine W.rs (cx_ok _) (by rfl) fun K hK => ?_
   conv => whnf
   refine hK _ (W.cond ⟨fun _ => ?_, fun h => absurd rfl (of_decide_eq_false h)⟩)
   clear hK K
   refine W.region (cx_ok _) (by rfl) ?_
   conv => whnf
   refine callV rfl (l19Base_fn kp g0 g1 g1 f X X hk hfi hxl hxl hcs) fun hs' hhs => ?_
   try dsimp only at hhs
   conv => whnf
   rw [hcb]
   refine hK1 _ ?_
   clear hK1 K1
   refine W.seqK fun K1 hK1 => ?_
   refine W.rs (cx_ok _) (by rfl) fun K hK => ?_
   conv => whnf
   refine hK _ (W.cond ⟨fun hcc => absurd rfl (of_decide_eq_true hcc), fun _ => W.skip (hK1 _ ?_)⟩)
   clear hK K hK1 K1
   refine W.rd (cx_ok _) follows (by rfl) fun K hK => ?_
   conv => whnf
   refine ⟨⟨rfl, by decide⟩, ?_⟩
   conv => whnf
   refine ⟨_, cxF (l17Power_fn kp g0 g1 f X n (by omega) (by omega) (by omega) hf0), ?_⟩
   conv => whnf
   refine ⟨_, cxF ((l06Add_fn none none [1] (rem (X ^ n) f).l 1 (by omega) h1b (l_bd2 _) (by simp) (by omega)).toV), ?_⟩
   conv => whnf
   rw [smul_one]
   refine ⟨_, cxF ((l08Reduce_fn kp (by omega) (by omega) none _ hSb (by omega)).toV), ?_⟩
   conv => whnf
   rw [one_add_l]
   refine hK _ ?_
   clear hK K
   refine W.seqK fun K1 hK1 => ?_
   refine W.rs (cx_ok _) (by rfl) fun K hK => ?_
   conv => whnf
   refine hK _ (W.cond ⟨fun h4 => absurd (of_decide_eq_true h4) (by omega), fun _ => W.skip (hK1 _ ?_)⟩)
   clear hK K hK1 K1
   refine W.rs (cx_ok _) (by rfl) fun K hK => ?_
   conv => whnf
   refine callV rfl (l19Log_fn kp g0 g1 none f X (1 + rem (X ^ n) f) hf9 hfi hxl hSd r (by omega) hr2 hr3) fun hs' hhs => ?_
   try dsimp only at hhs
   conv => whnf
   refine hK _ ?_
   clear hK K
   refine W.ret ?_
   conv => whnf
   exact ⟨.v (.int .i64 r), ⟨rfl, rfl⟩, trivial, .v (.int .i64 0), ⟨rfl, rfl⟩, trivial, rfl⟩
  ·exact absurd rfl (of_decide_eq_false h)
 ·refine fn_of (cx_ok [0, 1, 2, 3, 6, 7, 8, 9, 19, 24, 36]) Tryz.func44 rfl (by decide) Tryz.ntmps44 (Nat.le_of_ble_eq_true rfl) fun base => ?_
  refine W.rs (cx_ok _) (by rfl) fun K hK => ?_
  conv => whnf
  refine ⟨rfl, ?_⟩
  conv => whnf
  intro b_1 hs_1 hh_1 hf_1
  try dsimp only at hh_1 hf_1
  conv => whnf
  refine hK _ ?_
  clear hK K
  refine W.seqK fun K1 hK1 => ?_
  refine W.sw (c' := cxw [0, 1, 2, 3, 6, 7, 8, 9, 19, 24, 36]) (W.rd (cxw_ok _) follows (by rfl) fun K hK => ?_)
  conv => whnf
  rw [hwe]
  refine ⟨_, cxwF (exponent_fn kp we g0 f.l (by omega)), ?_⟩
  conv => whnf
  refine ⟨⟨rfl, by decide, fun x hx => (by simp at hx; subst hx; exact ⟨rfl, rfl⟩)⟩, ?_⟩
  conv => whnf
  refine ⟨_, cxwF (elements_bool kp g0 none f.l _ 1 _ (fun _ => X.l) (by omega) (by omega) (els1 g1 X.l)), ?_⟩
  conv => whnf
  rw [hcc]
  refine hK _ ?_
  clear hK K
  refine W.sw (c' := cx [0, 1, 2, 3, 6, 7, 8, 9, 19, 24, 36]) ?_
  refine W.rs (cx_ok _) (by rfl) fun K hK => ?_
  conv => whnf
  refine hK _ (W.cond ⟨fun hcc => absurd rfl (of_decide_eq_true hcc), fun _ => W.skip (hK1 _ ?_)⟩)
  clear hK K hK1 K1
  refine W.seqK fun K1 hK1 => ?_
  refine W.rs (cx_ok _) (by rfl) fun K hK => ?_
  conv => whnf
  refine callV rfl ((isPrimitive_fn kp g0 g1 f X hk hfi hxl).tr (bP_true hP)) fun hs' hhs => ?_
  try dsimp only at hhs
  conv => whnf
  refine hK _ (W.condF rfl (W.skip (hK1 _ ?_)))
  clear hK K hK1 K1
  refine W.rd (cx_ok _) follows (by rfl) fun K hK => ?_
  conv => whnf
  refine ⟨⟨rfl, by decide⟩, ?_⟩
  conv => whnf
  refine ⟨_, cxF (kPower_fn kp g0 g1 f X n (by omega) (by omega) (by omega) hf0), ?_⟩
  conv => whnf
  refine ⟨_, cxF ((sumOf_fn none none [1] (rem (X ^ n) f).l h1b (l_bd2 _) (by simp) (by omega)).toV), ?_⟩
  conv => whnf
  refine ⟨_, cxF ((reduce_fn kp (by omega) (by omega) none _ hSb (by omega)).toV), ?_⟩
  conv => whnf
  rw [one_add_l]
  refine hK _ ?_
  clear hK K
  refine W.seqK fun K1 hK1 => ?_
  refine W.rs (cx_ok _) (by rfl) fun K hK => ?_
  conv => whnf
  refine hK _ (W.cond ⟨fun h4 => absurd (of_decide_eq_true h4) (by omega), fun _ => W.skip (hK1 _ ?_)⟩)
  clear hK K hK1 K1
  refine W.rs (cx_ok _) (by rfl) fun K hK => ?_
  conv => whnf
  refine callV rfl (logarithm_fn kp g0 g1 none f X (1 + rem (X ^ n) f) hf9 hfi hxl hSd r (by omega) hr2 hr3) fun hs' hhs => ?_
  try dsimp only at hhs
  conv => whnf
  refine hK _ ?_
  clear hK K
  refine W.ret ?_
  conv => whnf
  exact ⟨.v (.int .i64 r), ⟨rfl, rfl⟩, trivial, .v (.int .i64 0), ⟨rfl, rfl⟩, trivial, rfl⟩

open Go Go.RowKit Go.ChangeShapes Go.WideShapes Go.ChangeAt Go.Proofs Go.Proofs.YtaemcmndfhgpjaaGreat

theorem fn_calls {P : Program} {f : Nat} {xs : List V} {r : V} {w : World} {vs : Array Value} (h : Fn P f xs (fun _ _ a => a = .v r)) (hl : vs.size = xs.length)
  (hr : ∀ j, j < xs.length → Rep (okAll w) w.heap (xs.getD j .nil) (vs.getD j undef)) :
  Calls P f vs w fun e w' => ∃ v, e = .returned v ∧ Below w.heap.size w w' ∧ Rep (okR (fun _ => False) w'.heap.size) w'.heap r v := by
 refine (h.2 (fun _ => False) w vs (fun _ h => h.elim) hl hr).mono fun e w' ⟨v, av, hi, h1, h2, h3, h4, h5⟩ => ?_
 subst h3
 obtain ⟨_, h6, _⟩ := h5
 refine ⟨v, h1, h4, ?_⟩
 exact Rep.mono h6 fun g b hb => ⟨⟨hb.1, fun h => h.elim, hb.2.2⟩, rfl⟩

theorem fn_true {P : Program} {f : Nat} {xs : List V} {w : World} {vs : Array Value} (h : Fn P f xs (fun _ _ a => a = .v .tr)) (hl : vs.size = xs.length)
  (hr : ∀ j, j < xs.length → Rep (okAll w) w.heap (xs.getD j .nil) (vs.getD j undef)) :
  Calls P f vs w fun e w' => e = .returned (.bool true) ∧ Below w.heap.size w w' :=
 (fn_calls h hl hr).mono fun e w' ⟨v, h1, h2, h3⟩ => by
  cases h3
  exact ⟨h1, h2⟩

theorem ownP : ownKnob Tryz.prog.godebug = none := by kernel_rfl
theorem laidOutP : laidOutB Tryz.prog = true := by kernel_rfl
theorem cellsInt : Tryz.prog.cellsOf 2 = 1 := by kernel_rfl

theorem cellsInts : Tryz.prog.cellsOf 22 = 1 := by kernel_rfl
theorem readsInt {H : Type} {enc : TypeId × Value → H} {W : World} : Reads enc Tryz.prog W 2 1 TyInt := reads_int Tryz.underlying2
theorem readsInts {H : Type} {enc : TypeId × Value → H} {W : World} : Reads enc Tryz.prog W 22 1 TyInts := reads_ints Tryz.underlying22 Tryz.underlying2 cellsInt
theorem readsField {H : Type} {enc : TypeId × Value → H} {W : World} : Reads enc Tryz.prog W 24 2 (TyCat [TyInt, TyInts]) :=
 reads_struct Tryz.underlying24 (by kernel_rfl) ⟨rfl, 1, cellsInt, readsInt, rfl, 1, cellsInts, readsInts, rfl⟩
open Go Go.RowKit Go.ChangeShapes Go.WideShapes Go.ChangeAt Go.Proofs Go.Proofs.YtaemcmndfhgpjaaGreat
set_option maxRecDepth 100000

def signs : List Char := [104, 97, 114, 110, 101, 115, 115, 32, 51, 54, 51, 55, 55, 49, 102, 54, 50, 100, 48, 51, 51, 101, 56, 102, 52, 53, 56, 97, 55, 51, 97, 57, 101, 50, 102, 101, 98, 100, 52, 49, 54, 51, 51, 48, 50, 101, 48, 50, 100, 99, 98, 99, 101, 50, 48, 99, 50, 101, 56, 102, 55, 102, 100, 50, 49, 102, 55, 56, 99, 52, 101, 57, 32, 99, 117, 116, 32, 97, 116, 32, 108, 111, 111, 112, 46, 101, 120, 97, 109, 112, 108, 101, 47, 103, 48, 49, 48, 48, 48, 47, 108, 97, 119, 115, 46, 70, 110, 69, 120, 97, 99, 116, 69, 108, 101, 109, 101, 110, 116, 115, 79, 102, 79, 114, 100, 101, 114, 32, 108, 111, 111, 112, 46, 101, 120, 97, 109, 112, 108, 101, 47, 103, 48, 49, 48, 48, 48, 47, 108, 97, 119, 115, 46, 70, 110, 69, 120, 97, 99, 116, 82, 111, 111, 116, 115, 79, 102, 69, 108, 101, 109, 101, 110, 116, 32, 108, 111, 111, 112, 46, 101, 120, 97, 109, 112, 108, 101, 47, 103, 48, 49, 48, 48, 48, 47, 108, 97, 119, 115, 46, 70, 110, 69, 120, 97, 99, 116, 82, 101, 115, 105, 100, 117, 101, 70, 105, 101, 108, 100, 32, 108, 111, 111, 112, 46, 101, 120, 97, 109, 112, 108, 101, 47, 103, 48, 49, 48, 48, 48, 47, 108, 97, 119, 115, 46, 70, 110, 69, 120, 97, 99, 116, 67, 111, 110, 106, 117, 103, 97, 116, 101, 115, 79, 102, 32, 108, 111, 111, 112, 46, 101, 120, 97, 109, 112, 108, 101, 47, 103, 48, 49, 48, 48, 48, 47, 108, 97, 119, 115, 46, 70, 110, 69, 120, 97, 99, 116, 82, 111, 111, 116, 115, 73, 110, 70, 105, 101, 108, 100, 32, 108, 111, 111, 112, 46, 101, 120, 97, 109, 112, 108, 101, 47, 103, 48, 49, 48, 48, 48, 47, 108, 97, 119, 115, 46, 70, 110, 69, 120, 97, 99, 116, 77, 105, 110, 105, 109, 97, 108, 80, 111, 108, 121, 110, 111, 109, 105, 97, 108, 32, 108, 111, 111, 112, 46, 101, 120, 97, 109, 112, 108, 101, 47, 103, 48, 49, 48, 48, 48, 47, 108, 97, 119, 115, 46, 70, 110, 69, 120, 97, 99, 116, 90, 101, 99, 104, 76, 111, 103, 97, 114, 105, 116, 104, 109, 32, 108, 111, 111, 112, 46, 101, 120, 97, 109, 112, 108, 101, 47, 103, 48, 49, 48, 48, 48, 47, 108, 97, 119, 115, 46, 70, 110, 69, 108, 101, 109, 101, 110, 116, 115, 32, 108, 111, 111, 112, 46, 101, 120, 97, 109, 112, 108, 101, 47, 103, 48, 49, 48, 48, 48, 47, 108, 97, 119, 115, 46, 70, 110, 84, 114, 97, 99, 101, 115, 32, 108, 111, 111, 112, 46, 101, 120, 97, 109, 112, 108, 101, 47, 103, 48, 49, 48, 48, 48, 47, 108, 97, 119, 115, 46, 70, 110, 70, 105, 101, 108, 100, 115, 32, 108, 111, 111, 112, 46, 101, 120, 97, 109, 112, 108, 101, 47, 103, 48, 49, 48, 48, 48, 47, 108, 97, 119, 115, 46, 70, 110, 76, 111, 103, 115, 32, 108, 111, 111, 112, 46, 101, 120, 97, 109, 112, 108, 101, 47, 103, 48, 49, 48, 48, 48, 47, 108, 97, 119, 115, 46, 70, 110, 80, 114, 105, 109, 105, 116, 105, 118, 101].map Char.ofNat
def word1 : List Char := [99, 117, 116].map Char.ofNat
def words : List (List Char) := [[97, 116], [108, 111, 111, 112, 46, 101, 120, 97, 109, 112, 108, 101, 47, 103, 48, 49, 48, 48, 48, 47, 108, 97, 119, 115, 46, 70, 110, 69, 120, 97, 99, 116, 69, 108, 101, 109, 101, 110, 116, 115, 79, 102, 79, 114, 100, 101, 114], [108, 111, 111, 112, 46, 101, 120, 97, 109, 112, 108, 101, 47, 103, 48, 49, 48, 48, 48, 47, 108, 97, 119, 115, 46, 70, 110, 69, 120, 97, 99, 116, 82, 111, 111, 116, 115, 79, 102, 69, 108, 101, 109, 101, 110, 116], [108, 111, 111, 112, 46, 101, 120, 97, 109, 112, 108, 101, 47, 103, 48, 49, 48, 48, 48, 47, 108, 97, 119, 115, 46, 70, 110, 69, 120, 97, 99, 116, 82, 101, 115, 105, 100, 117, 101, 70, 105, 101, 108, 100], [108, 111, 111, 112, 46, 101, 120, 97, 109, 112, 108, 101, 47, 103, 48, 49, 48, 48, 48, 47, 108, 97, 119, 115, 46, 70, 110, 69, 120, 97, 99, 116, 67, 111, 110, 106, 117, 103, 97, 116, 101, 115, 79, 102], [108, 111, 111, 112, 46, 101, 120, 97, 109, 112, 108, 101, 47, 103, 48, 49, 48, 48, 48, 47, 108, 97, 119, 115, 46, 70, 110, 69, 120, 97, 99, 116, 82, 111, 111, 116, 115, 73, 110, 70, 105, 101, 108, 100], [108, 111, 111, 112, 46, 101, 120, 97, 109, 112, 108, 101, 47, 103, 48, 49, 48, 48, 48, 47, 108, 97, 119, 115, 46, 70, 110, 69, 120, 97, 99, 116, 77, 105, 110, 105, 109, 97, 108, 80, 111, 108, 121, 110, 111, 109, 105, 97, 108], [108, 111, 111, 112, 46, 101, 120, 97, 109, 112, 108, 101, 47, 103, 48, 49, 48, 48, 48, 47, 108, 97, 119, 115, 46, 70, 110, 69, 120, 97, 99, 116, 90, 101, 99, 104, 76, 111, 103, 97, 114, 105, 116, 104, 109], [108, 111, 111, 112, 46, 101, 120, 97, 109, 112, 108, 101, 47, 103, 48, 49, 48, 48, 48, 47, 108, 97, 119, 115, 46, 70, 110, 69, 108, 101, 109, 101, 110, 116, 115], [108, 111, 111, 112, 46, 101, 120, 97, 109, 112, 108, 101, 47, 103, 48, 49, 48, 48, 48, 47, 108, 97, 119, 115, 46, 70, 110, 84, 114, 97, 99, 101, 115], [108, 111, 111, 112, 46, 101, 120, 97, 109, 112, 108, 101, 47, 103, 48, 49, 48, 48, 48, 47, 108, 97, 119, 115, 46, 70, 110, 70, 105, 101, 108, 100, 115], [108, 111, 111, 112, 46, 101, 120, 97, 109, 112, 108, 101, 47, 103, 48, 49, 48, 48, 48, 47, 108, 97, 119, 115, 46, 70, 110, 76, 111, 103, 115], [108, 111, 111, 112, 46, 101, 120, 97, 109, 112, 108, 101, 47, 103, 48, 49, 48, 48, 48, 47, 108, 97, 119, 115, 46, 70, 110, 80, 114, 105, 109, 105, 116, 105, 118, 101]].map fun w => w.map Char.ofNat
theorem initS : Tryz.checked.prog.initOrder = String.ofList signs := by kernel_rfl
theorem initW : behindMainWord (wordsSigns Tryz.checked.prog.initOrder.toList) = word1 :: words := by rw [initS, String.toList_ofList]; kernel_rfl
theorem mayEnter_of {P : Program} {c : List Char} {rest : List (List Char)} (h0 : behindMainWord (wordsSigns P.initOrder.toList) = c :: rest) (h1 : (stripLifts liftWords (c :: rest)) = ([], c :: rest)) (h2 : (c == "cut".toList) = true)
  (h3 : P.laysLater = false) (h4 : P.bearsReflect = false) (h5 : P.doorFits [] = true) : P.mayEnter = true := by
 unfold Program.mayEnter
 rw [h0]
 have e : (some c == some "cut".toList) = true := h2
 refine (Bool.or_eq_true _ _).mpr (.inr ?_)
 rw [h1, h3, h4, h5]
 show ((some c == some "cut".toList) && _ && _ && _ && _) = true
 rw [e]
 rfl
theorem lifts0 : stripLifts liftWords (word1 :: words) = ([], word1 :: words) := by kernel_rfl
theorem enterP : Tryz.checked.prog.mayEnter = true := mayEnter_of initW lifts0 (by kernel_rfl) (by kernel_rfl) (by kernel_rfl) (by kernel_rfl)
theorem headLifts_of {P : Program} {c : List Char} {rest : List (List Char)} (h0 : behindMainWord (wordsSigns P.initOrder.toList) = c :: rest) (h1 : stripLifts liftWords (c :: rest) = ([], c :: rest)) : P.headLifts = [] := by
 unfold Program.headLifts
 rw [h0, h1]
 dsimp only
 split <;> rfl
theorem liftsFinal_of {P : Program} {c : List Char} {rest : List (List Char)} (h0 : behindMainWord (wordsSigns P.initOrder.toList) = c :: rest) (hh : P.headLifts = []) (h2 : (c == "carried".toList) = false) : P.liftsFinal = false := by
 have e : (some c == some "carried".toList) = false := h2
 unfold Program.liftsFinal
 rw [h0, hh]
 show (((some c == some "carried".toList) && _) || _) = false
 rw [e]
 rfl
theorem make_of {P : Program} {c : List Char} {rest : List (List Char)} (h0 : behindMainWord (wordsSigns P.initOrder.toList) = c :: rest) (h1 : (c == "gc".toList) = false) (h2 : (c == "spec".toList) = false) (h3 : (c == "cut".toList) = true) : P.make = some .cut := by
 unfold Program.make
 rw [h0]
 dsimp only
 rw [h1, h2, h3]
 rfl
theorem headP : Tryz.checked.prog.headLifts = [] := headLifts_of initW lifts0
theorem liftP : Tryz.checked.prog.liftsFinal = false := liftsFinal_of initW headP (by kernel_rfl)
theorem makeP : Tryz.checked.prog.make = some .cut := make_of initW (by kernel_rfl) (by kernel_rfl) (by kernel_rfl)

end Go.Proofs.YtaemcmndfhgpjaaGreat
