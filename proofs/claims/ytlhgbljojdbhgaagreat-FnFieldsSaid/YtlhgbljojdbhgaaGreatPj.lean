/- What the program's functions and the reference's return. No conditions. -/
import Derived.Test.YtlhgbljojdbhgaaGreatPi
import Derived.Test.YtlhgbljojdbhgaaGreatRows
namespace Go.Proofs.YtlhgbljojdbhgaaGreat
open Go Go.RowKit Go.Proofs Poly
set_option maxRecDepth 100000
set_option maxHeartbeats 8000000

/- the program's begin: a field, an element, something more (a value b) -/
/- the reference's: $1 name $2 modulus $3 element $4 $5 their ghosts -/
/- c is not 0 -/
/- what becomes of c = 0 and something not right: code 2 -/

theorem codeB_bad {p : Int} {l x : List Int} {c : Int} (hc : code1 p l x = c) (h0 : c ≠ 0) (b : Bool) : codeEl p l b 1 (fun _ => x) = c := by
 rw [codeEl_b, show codeEl p l true 1 (fun _ => x) = c from hc, if_neg h0]
theorem codeB_two {p : Int} {l x : List Int} (hc : code1 p l x = 0) {b : Bool} (hb : b = false) : codeEl p l b 1 (fun _ => x) = 2 := by
 rw [codeEl_b, show codeEl p l true 1 (fun _ => x) = 0 from hc, if_pos rfl, hb]; rfl
theorem codeB_ok {p : Int} {l x : List Int} (hc : code1 p l x = 0) {b : Bool} (hb : b = true) : codeEl p l b 1 (fun _ => x) = 0 := by
 rw [codeEl_b, show codeEl p l true 1 (fun _ => x) = 0 from hc, if_pos rfl, if_pos hb]

theorem PowerElement_E (kp : Int) (kl x : List Int) (e : Int) (_ : inR kp) (_ : inR e) (hkl : kl.length ≤ 1048576) (hx : x.length ≤ 1048576) : ∃ (r0 : List Int) (r1 : Int),
  (∀ g0 g1 : Option Nat, FnV 27 [vK kp g0 kl, .ints g1 x, .int .i64 e] (.tup [.ints none r0, .int .i64 r1])) ∧ (∀ g0 g1 : Option Nat, FnT Tryz.prog 26 [vK kp g0 kl, .ints g1 x, .int .i64 e] (RT r0 r1)) ∧ r0.length ≤ 1000000 ∧ (r1 = 0 → code1 kp kl x = 0 ∧ 0 ≤ e ∧ e ≤ 1000000000000) ∧ ∀ hp : kp ∈ primes, letI := sp_of hp; ∀ f X : Poly kp, f.l = kl → X.l = x → code1 kp kl x = 0 → ∀ n : Nat, e = n → n ≤ 1000000000000 → r1 = 0 ∧ r0 = (rem (X ^ n) f).l := by
 generalize hc : code1 kp kl x = c
 by_cases h0 : c = 0
 case neg =>
  refine ⟨[], c, fun g0 g1 => ?_, fun g0 g1 => ?_, by simp, fun h => absurd h h0, fun _ _ _ _ _ h => absurd h h0⟩
  ·refine fn_of (cx_ok [0, 1, 2, 3, 6, 7, 8, 19, 21]) Tryz.func27 rfl (by decide) Tryz.ntmps27 (Nat.le_of_ble_eq_true rfl) fun base => ?_
   refine wrs fun K hK => ?_
   conv => whnf
   refine ⟨rfl, ?_⟩
   conv => whnf
   intro b_1 hs_1 hh_1 hf_1
   try dsimp only at hh_1 hf_1
   conv => whnf
   refine hK _ ?_
   clear hK K
   refine wrs fun K hK => ?_
   conv => whnf
   refine callV rfl (l17Code_one kp g0 g1 g1 kl x (by omega) (by omega)) fun hs' hhs => ?_
   try dsimp only at hhs
   conv => whnf
   rw [hc]
   refine hK _ ?_
   clear hK K
   refine W.seqK fun K1 hK1 => ?_
   refine wrs fun K hK => ?_
   conv => whnf
   refine ⟨fun h => ?_, fun h => ?_⟩ <;> conv => whnf
   ·exact absurd (of_decide_eq_true h) h0
   refine hK _ (W.condF rfl (W.skip (hK1 _ ?_)))
   clear hK K hK1 K1
   refine W.seqK fun K1 hK1 => ?_
   refine wrs fun K hK => ?_
   conv => whnf
   refine hK _ (W.cond ⟨fun _ => ?_, fun hcc => absurd h0 (of_decide_eq_false hcc)⟩)
   clear hK K
   refine wrs fun K hK => ?_
   conv => whnf
   refine hK _ ?_
   clear hK K
   refine W.ret ?_
   conv => whnf
   exact ⟨.v (.ints none []), rfl, trivial, .v (.int .i64 c), ⟨rfl, rfl⟩, trivial, rfl⟩
  ·refine fnt_of (cxt_ok [] [0, 1, 2, 3, 6, 7, 8, 16, 1000000]) Tryz.func26 rfl (by decide) Tryz.ntmps26 (Nat.le_of_ble_eq_true rfl) (fun base => ?_) (Nat.le_of_ble_eq_true rfl)
   refine W.sw (c' := cx [0, 1, 2, 3, 6, 7, 8, 16, 1000000]) ?_
   refine wrs fun K hK => ?_
   conv => whnf
   refine ⟨rfl, ?_⟩
   conv => whnf
   intro b_1 hs_1 hh_1 hf_1
   try dsimp only at hh_1 hf_1
   conv => whnf
   refine hK _ ?_
   clear hK K
   refine W.seqK fun K1 hK1 => ?_
   refine W.rd (cx_ok _) follows (by rfl) fun K hK => ?_
   conv => whnf
   refine ⟨_, cxF (within_fn e 0 1000000000000), ?_⟩
   conv => whnf
   refine ⟨⟨rfl, by decide, fun x hx => (by simp at hx; subst hx; exact ⟨rfl, rfl⟩)⟩, ?_⟩
   conv => whnf
   refine ⟨_, cxF (elements_bool kp g0 none kl _ 1 _ (fun _ => x) (by omega) (by omega) (els1 g1 x)), ?_⟩
   conv => whnf
   rw [codeB_bad hc h0]
   refine hK _ ?_
   clear hK K
   refine wrs fun K hK => ?_
   conv => whnf
   refine hK _ (W.cond ⟨fun _ => ?_, fun hcc => absurd h0 (of_decide_eq_false hcc)⟩)
   clear hK K
   refine wrs fun K hK => ?_
   conv => whnf
   refine hK _ ?_
   clear hK K
   refine W.ret ?_
   conv => whnf
   exact ⟨.v (.rf 0 0), rfl, trivial, .v (.int .i64 (c)), ⟨rfl, rfl⟩, trivial, 0, rfl, fun hne => absurd rfl hne⟩
 subst h0
 by_cases he : 0 ≤ e ∧ e ≤ 1000000000000
 case neg =>
  refine ⟨[], 2, fun g0 g1 => ?_, fun g0 g1 => ?_, by simp, fun h => absurd h (by decide), fun _ _ _ _ _ _ n h1 h2 => absurd ⟨by omega, by omega⟩ he⟩
  ·refine fn_of (cx_ok [0, 1, 2, 3, 6, 7, 8, 19, 21]) Tryz.func27 rfl (by decide) Tryz.ntmps27 (Nat.le_of_ble_eq_true rfl) fun base => ?_
   refine wrs fun K hK => ?_
   conv => whnf
   refine ⟨rfl, ?_⟩
   conv => whnf
   intro b_1 hs_1 hh_1 hf_1
   try dsimp only at hh_1 hf_1
   conv => whnf
   refine hK _ ?_
   clear hK K
   refine wrs fun K hK => ?_
   conv => whnf
   refine callV rfl (l17Code_one kp g0 g1 g1 kl x (by omega) (by omega)) fun hs' hhs => ?_
   try dsimp only at hhs
   conv => whnf
   rw [hc]
   refine hK _ ?_
   clear hK K
   refine W.seqK fun K1 hK1 => ?_
   refine wrs fun K hK => ?_
   conv => whnf
   refine ⟨fun h => ?_, fun h => ?_⟩ <;> conv => whnf
   ·refine callV rfl ((l01In_fn e 0 1000000000000).fa (decide_eq_false he)) fun hs' hhs => ?_
    try dsimp only at hhs
    conv => whnf
    refine hK _ (W.condT rfl ?_)
    clear hK K
    refine wrg ?_
    conv => whnf
    refine hK1 _ ?_
    clear hK1 K1
    refine W.seqK fun K1 hK1 => ?_
    refine wrs fun K hK => ?_
    conv => whnf
    refine hK _ (W.cond ⟨fun _ => ?_, fun hcc => absurd (by decide : (2 : Int) ≠ 0) (of_decide_eq_false hcc)⟩)
    clear hK K
    refine wrs fun K hK => ?_
    conv => whnf
    refine hK _ ?_
    clear hK K
    refine W.ret ?_
    conv => whnf
    exact ⟨.v (.ints none []), rfl, trivial, .v (.int .i64 2), ⟨rfl, rfl⟩, trivial, rfl⟩
   ·exact absurd rfl (of_decide_eq_false h)
  ·refine fnt_of (cxt_ok [] [0, 1, 2, 3, 6, 7, 8, 16, 1000000]) Tryz.func26 rfl (by decide) Tryz.ntmps26 (Nat.le_of_ble_eq_true rfl) (fun base => ?_) (Nat.le_of_ble_eq_true rfl)
   refine W.sw (c' := cx [0, 1, 2, 3, 6, 7, 8, 16, 1000000]) ?_
   refine wrs fun K hK => ?_
   conv => whnf
   refine ⟨rfl, ?_⟩
   conv => whnf
   intro b_1 hs_1 hh_1 hf_1
   try dsimp only at hh_1 hf_1
   conv => whnf
   refine hK _ ?_
   clear hK K
   refine W.seqK fun K1 hK1 => ?_
   refine W.rd (cx_ok _) follows (by rfl) fun K hK => ?_
   conv => whnf
   refine ⟨_, cxF (within_fn e 0 1000000000000), ?_⟩
   conv => whnf
   refine ⟨⟨rfl, by decide, fun x hx => (by simp at hx; subst hx; exact ⟨rfl, rfl⟩)⟩, ?_⟩
   conv => whnf
   refine ⟨_, cxF (elements_bool kp g0 none kl _ 1 _ (fun _ => x) (by omega) (by omega) (els1 g1 x)), ?_⟩
   conv => whnf
   rw [codeB_two hc (decide_eq_false he)]
   refine hK _ ?_
   clear hK K
   refine wrs fun K hK => ?_
   conv => whnf
   refine hK _ (W.cond ⟨fun _ => ?_, fun hcc => absurd (by decide : (2 : Int) ≠ 0) (of_decide_eq_false hcc)⟩)
   clear hK K
   refine wrs fun K hK => ?_
   conv => whnf
   refine hK _ ?_
   clear hK K
   refine W.ret ?_
   conv => whnf
   exact ⟨.v (.rf 0 0), rfl, trivial, .v (.int .i64 (2)), ⟨rfl, rfl⟩, trivial, 0, rfl, fun hne => absurd rfl hne⟩
 obtain ⟨hk, hh⟩ := code1_ok hc
 obtain ⟨hp, f, rfl, hfi, _, _, hf9⟩ := fld_poly hk
 letI := sp_of hp
 obtain ⟨X, rfl⟩ := mod_poly hh.1
 have hxl : X.l.length < f.l.length := hh.2
 have hfl : f.l.length = dg f := rfl
 have hXl : X.l.length = dg X := rfl
 have hf0 := hfi.ne
 obtain ⟨n, rfl⟩ : ∃ n : Nat, e = n := ⟨e.toNat, by omega⟩
 refine ⟨(rem (X ^ n) f).l, 0, fun g0 g1 => ?_, fun g0 g1 => ?_, ?_, fun _ => ⟨rfl, he⟩, fun hp' f' X' e1 e2 _ n' h1 _ => by (obtain rfl := ext_l e1; obtain rfl := ext_l e2; obtain rfl : n' = n := (by omega); exact ⟨rfl, rfl⟩)⟩
 ·refine fn_of (cx_ok [0, 1, 2, 3, 6, 7, 8, 19, 21]) Tryz.func27 rfl (by decide) Tryz.ntmps27 (Nat.le_of_ble_eq_true rfl) fun base => ?_
  refine wrs fun K hK => ?_
  conv => whnf
  refine ⟨rfl, ?_⟩
  conv => whnf
  intro b_1 hs_1 hh_1 hf_1
  try dsimp only at hh_1 hf_1
  conv => whnf
  refine hK _ ?_
  clear hK K
  refine wrs fun K hK => ?_
  conv => whnf
  refine callV rfl (l17Code_one kp g0 g1 g1 f.l X.l (by omega) (by omega)) fun hs' hhs => ?_
  try dsimp only at hhs
  conv => whnf
  rw [hc]
  refine hK _ ?_
  clear hK K
  refine W.seqK fun K1 hK1 => ?_
  refine wrs fun K hK => ?_
  conv => whnf
  refine ⟨fun h => ?_, fun h => ?_⟩ <;> conv => whnf
  ·refine callV rfl ((l01In_fn n 0 1000000000000).tr (decide_eq_true he)) fun hs' hhs => ?_
   try dsimp only at hhs
   conv => whnf
   refine hK _ (W.condF rfl (W.skip (hK1 _ ?_)))
   clear hK K hK1 K1
   refine W.seqK fun K1 hK1 => ?_
   refine wrs fun K hK => ?_
   conv => whnf
   refine hK _ (W.cond ⟨fun hcc => absurd rfl (of_decide_eq_true hcc), fun _ => W.skip (hK1 _ ?_)⟩)
   clear hK K hK1 K1
   refine wrs fun K hK => ?_
   conv => whnf
   refine callV rfl (l17Power_fn kp g0 g1 f X n (by omega) (by omega) (by omega) hf0) fun hs' hhs => ?_
   try dsimp only at hhs
   conv => whnf
   refine hK _ ?_
   clear hK K
   refine W.ret ?_
   conv => whnf
   exact ⟨.v (.ints none (rem (X ^ n) f).l), ⟨rfl, rfl⟩, trivial, .v (.int .i64 0), ⟨rfl, rfl⟩, trivial, rfl⟩
  ·exact absurd rfl (of_decide_eq_false h)
 ·refine fnt_of (cxt_ok [] [0, 1, 2, 3, 6, 7, 8, 16, 1000000]) Tryz.func26 rfl (by decide) Tryz.ntmps26 (Nat.le_of_ble_eq_true rfl) (fun base => ?_) (Nat.le_of_ble_eq_true rfl)
  refine W.sw (c' := cx [0, 1, 2, 3, 6, 7, 8, 16, 1000000]) ?_
  refine wrs fun K hK => ?_
  conv => whnf
  refine ⟨rfl, ?_⟩
  conv => whnf
  intro b_1 hs_1 hh_1 hf_1
  try dsimp only at hh_1 hf_1
  conv => whnf
  refine hK _ ?_
  clear hK K
  refine W.seqK fun K1 hK1 => ?_
  refine W.rd (cx_ok _) follows (by rfl) fun K hK => ?_
  conv => whnf
  refine ⟨_, cxF (within_fn n 0 1000000000000), ?_⟩
  conv => whnf
  refine ⟨⟨rfl, by decide, fun x hx => (by simp at hx; subst hx; exact ⟨rfl, rfl⟩)⟩, ?_⟩
  conv => whnf
  refine ⟨_, cxF (elements_bool kp g0 none f.l _ 1 _ (fun _ => X.l) (by omega) (by omega) (els1 g1 X.l)), ?_⟩
  conv => whnf
  rw [codeB_ok hc (decide_eq_true he)]
  refine hK _ ?_
  clear hK K
  refine wrs fun K hK => ?_
  conv => whnf
  refine hK _ (W.cond ⟨fun hcc => absurd rfl (of_decide_eq_true hcc), fun _ => W.skip (hK1 _ ?_)⟩)
  clear hK K hK1 K1
  refine W.sw (c' := cxt [191] [0, 1, 2, 3, 6, 7, 8, 16, 1000000]) ?_
  refine W.rs (cxt_ok _ _) (by rfl) fun K hK => ?_
  conv => whnf
  refine ⟨_, cxT (kPower_T kp g0 g1 f X n (by omega) (by omega) (by omega) hf0), fun lo_t hi_t hs_t x_t tn_t tb_t hl1_t hl2_t _ hp_t hf_t hn_t ho_t => ?_⟩
  try dsimp only at hl1_t hl2_t
  obtain ⟨bt, rfl, ht⟩ := hp_t
  conv => whnf
  refine hK _ ?_
  clear hK K
  refine W.ret ?_
  conv => whnf
  exact ⟨.v (.rf bt (rem (X ^ n) f).l.length), rfl, trivial, .v (.int .i64 0), ⟨rfl, rfl⟩, trivial, bt, rfl, fun h => hn_t _ _ (ht h)⟩
 ·have := rem_lt (X ^ n) hf0
  show dg (rem (X ^ n) f) ≤ _; omega
/- the value of a polynomial at an element -/
open Go Go.RowKit Go.Proofs Poly
set_option maxRecDepth 100000
set_option maxHeartbeats 8000000

theorem l17With_fn (p : Int) (g : Option Nat) (l : List Int) (n : Nat) (hp : 2 ≤ p) (hn : n ≤ 1000000000) : FnV 189 [vK p g l, .int .i64 n] (.ints none (dig p.toNat n)) := by
 obtain ⟨q, rfl⟩ : ∃ q : Nat, p = q := ⟨p.toNat, by omega⟩
 rw [Int.toNat_natCast]
 have hp : 2 ≤ q := by omega
 refine fn_of (cx_ok [0, 1, 2, 4, 5, 8]) Tryz.func189 rfl (by decide) Tryz.ntmps189 (Nat.le_of_ble_eq_true rfl) fun base => ?_
 refine wrs fun K hK => ?_
 conv => whnf
 refine ⟨rfl, ?_⟩
 conv => whnf
 intro b_1 hs_1 hh_1 hf_1
 try dsimp only at hh_1 hf_1
 conv => whnf
 refine hK _ ?_
 clear hK K
 refine wrs fun K hK => ?_
 conv => whnf
 refine ⟨⟨rfl, by decide⟩, ?_⟩
 conv => whnf
 intro b_2 hs_2 hh_2 hf_2
 try dsimp only at hh_2 hf_2
 conv => whnf
 refine hK _ ?_
 clear hK K
 refine W.seqK fun K1 hK1 => W.block (W.invA (fun m e => ∃ (k b : Nat) (o : List Int), k ≤ n ∧ o ++ dig q k = dig q n ∧ o.length + k ≤ n ∧ m = k ∧ e = [(1, .v (.int .i64 k)), (2, .ownB b_1 (vK q g l)), (5, .ownI 2 b o)]) ⟨n, b_2, [], Nat.le_refl _, rfl, by simp, rfl, rfl⟩ ?_)
 rintro m e ⟨k, b, o, hk, ho, hol, hm, rfl⟩
 refine W.seqK fun K7 hK7 => wrs fun K hK => ?_
 conv => whnf
 refine hK _ (W.cond ⟨fun h => ?_, fun h => ?_⟩) <;> clear hK K <;> (first | replace h := of_decide_eq_true h | replace h := of_decide_eq_false h)
 ·have h1 := dig_pos hp (n := k) (by omega)
  have h2 : k / q < k := Nat.div_lt_self (by omega) hp
  have h3 : ((k : Int)).tmod q = ((k % q : Nat) : Int) := tmod_nat k q
  have h4 : ((k : Int)).tdiv q = ((k / q : Nat) : Int) := tdiv_nat k q
  generalize k / q = v at h1 h2 h4
  generalize k % q = u at h1 h3
  refine W.skip (hK7 _ ?_)
  clear hK7 K7
  refine W.seqK fun K8 hK8 => W.block ?_
  refine wrg ?_
  conv => whnf
  refine ⟨by omega, ?_⟩
  conv => whnf
  rw [h3]
  refine ⟨⟨rfl, by decide⟩, ?_⟩
  conv => whnf
  intro b_1 hs_1 hh_1 hf_1
  try dsimp only at hh_1 hf_1
  conv => whnf
  refine ⟨by dsimp only [List.length]; omega, ?_⟩
  conv => whnf
  intro b_2 hs_2 hh_2 hf_2
  try dsimp only at hh_2 hf_2
  conv => whnf
  refine hK8 _ ?_
  clear hK8 K8
  refine wrg ?_
  conv => whnf
  rw [h4]
  refine ⟨by omega, ?_⟩
  conv => whnf
  refine ⟨oo, ?_⟩
  conv => whnf
  exact againA ⟨v, b_2, o ++ [(u : Int)], by omega, by rw [← ho, h1, List.append_assoc]; rfl, by rw [List.length_append]; dsimp only [List.length]; omega, rfl, rfl⟩
 ·obtain rfl : k = 0 := by omega
  rw [dig_zero, List.append_nil] at ho
  subst ho
  refine W.exit (hK1 _ ?_)
  clear hK7 K7 hK1 K1
  refine wrs fun K hK => ?_
  conv => whnf
  refine hK _ ?_
  clear hK K
  refine W.ret ?_
  conv => whnf
  exact ⟨.v (.ints none (dig q n)), ⟨rfl, rfl⟩, trivial, rfl⟩

open Go Go.RowKit Go.Proofs Poly
set_option maxRecDepth 100000
set_option maxHeartbeats 8000000

def vP (x : Nat × Nat) : V := .agg [.int .i64 x.1, .int .i64 x.2]
def vPw (L : List (Nat × Nat)) : V := .vals none 2 L.length fun j => vP (L.getD j (0, 0))


theorem factors_fn (n : Nat) (L : List (Nat × Nat)) (hL : FacS n L) (hn : n ≤ 1000000) : FnV 221 [.int .i64 n] (vPw L) := by
 have hpr := hL.prod
 have hlen := prodN_len hL.pr
 refine fn_of (cx_ok [0, 2, 3, 4, 5, 7, 14, 19, 26]) Tryz.func221 rfl (by decide) Tryz.ntmps221 (Nat.le_of_ble_eq_true rfl) fun base => ?_
 refine wrs fun K hK => ?_
 conv => whnf
 refine hK _ ?_
 clear hK K
 refine wrs fun K hK => ?_
 conv => whnf
 refine hK _ ?_
 clear hK K
 refine W.seqK fun K1 hK1 => ?_
 refine wrs fun K hK => ?_
 conv => whnf
 refine hK _ (W.block (W.invA (fun m e => ∃ (A M : List (Nat × Nat)) (q b : Nat), A ++ M = L ∧ FacS (prodN M) M ∧ 2 ≤ q ∧ (∀ x ∈ M, q ≤ x.1) ∧ q ≤ n + 1 ∧ m = n + 1 - q ∧ e = [(0, .v (.int .i64 (prodN M : Nat))), (3, .ownV 153 2 b A.length fun i => vP (A.getD i (0, 0))), (4, .v (.int .i64 q))]) ⟨[], L, 2, 0, rfl, hpr.symm ▸ hL, Nat.le_refl _, fun x hx => (hL.pr x hx).1.1, by omega, rfl, rfl⟩ ?_))
 clear hK K
 rintro m e ⟨A, M, q, b, hA, hM, hq2, hql, hqn, hm, rfl⟩
 have hMn : prodN M ≤ n := by
  rw [← hpr, ← hA, prodN_append]
  have : 0 < prodN A := prodN_pos fun x hx => hL.pr x (by rw [← hA]; simp [hx])
  exact Nat.le_mul_of_pos_left _ this
 have hAl : A.length ≤ L.length := by rw [← hA, List.length_append]; omega
 refine W.seqK fun K7 hK7 => wrs fun K hK => ?_
 conv => whnf
 refine hK _ (W.cond ⟨fun h1 => ?_, fun h1 => ?_⟩) <;> clear hK K <;> (first | replace h1 := of_decide_eq_true h1 | replace h1 := of_decide_eq_false h1)
 ·have h1' : 1 < prodN M := by omega
  obtain ⟨x, hx⟩ : ∃ x, x ∈ M := by
   cases M with
   | nil => rw [prodN] at h1'; omega
   | cons y M => exact ⟨y, by simp⟩
  have hqM : ∀ q', (∀ x ∈ M, q' ≤ x.1) → q' ≤ prodN M := fun q' hq' => by
   obtain ⟨r, hr⟩ : ∃ r, x.2 = r + 1 := ⟨x.2 - 1, by have := (hM.pr x hx).2; omega⟩
   have h3 := prodN_dvd hx
   rw [hr, Nat.pow_succ] at h3
   exact Nat.le_trans (hq' x hx) (Nat.le_of_dvd (by omega) (Nat.dvd_trans (Nat.dvd_mul_left _ _) h3))
  refine W.skip (hK7 _ ?_)
  clear hK7 K7
  refine W.seqK fun K8 hK8 => W.block ?_
  refine W.seqK fun K9 hK9 => ?_
  have fin : ∀ (q' : Nat) (s : S), 2 ≤ q' → (∀ x ∈ M, q' ≤ x.1) → q ≤ q' → base ≤ s.hs →
    coverK s.env [(0, .v (.int .i64 (prodN M : Nat))), (3, .ownV 153 2 b A.length fun i => vP (A.getD i (0, 0))), (4, .v (.int .i64 q'))] → K9 s := by
   intro q' s b1 b2 b3 h5 h6
   have hq'M := hqM q' b2
   obtain ⟨k, M', b5, b4, b6, b7, b8⟩ := hM.next' b1 b2
   refine hK9 _ (W.weak (t := ⟨[(0, .v (.int .i64 (prodN M : Nat))), (3, .ownV 153 2 b A.length fun i => vP (A.getD i (0, 0))), (4, .v (.int .i64 q'))], base⟩) ⟨h5, h6⟩ (Nat.le_refl _) ?_)
   clear hK9 K9
   refine wrs fun K hK => ?_
   conv => whnf
   refine hK _ ?_
   clear hK K
   have e8 : prodN M = q' ^ (k - 0) * prodN M' := b5
   rw [e8]
   refine W.seqK fun K1 hK1 => W.block (W.invA (fun m e => ∃ i : Nat, i ≤ k ∧ m = k - i ∧ e = [(0, .v (.int .i64 ((q' ^ (k - i) * prodN M' : Nat) : Int))), (3, .ownV 153 2 b A.length fun i => vP (A.getD i (0, 0))), (4, .v (.int .i64 q')), (5, .v (.int .i64 i))]) ⟨0, Nat.zero_le _, rfl, rfl⟩ ?_)
   rintro m2 e ⟨i, hi, hm2, rfl⟩
   have hmod := strip_mod (a := k - i) b1 b4
   have hkb : k ≤ 1000000 := by
    have h1 : k < q' ^ k := Nat.lt_pow_self (by omega)
    have h2 : q' ^ k * 1 ≤ q' ^ k * prodN M' := Nat.mul_le_mul_left _ (prodN_pos b6.pr)
    omega
   have hle : q' ^ (k - i) * prodN M' ≤ 1000000 := by
    have : q' ^ (k - i) * prodN M' ≤ q' ^ k * prodN M' := Nat.mul_le_mul_right _ (Nat.pow_le_pow_right (by omega) (by omega))
    omega
   refine W.seqK fun K7 hK7 => ?_
   refine wrs fun K hK => ?_
   conv => whnf
   refine ⟨by omega, ?_⟩
   conv => whnf
   rw [tmod_nat]
   refine hK _ (W.cond ⟨fun h2 => ?_, fun h2 => ?_⟩) <;> clear hK K
   ·have h2 := of_decide_eq_true h2
    have hik : 0 < k - i := hmod.1 (by omega)
    have hdiv := strip_div (P := prodN M') b1 hik
    have hle2 : q' ^ (k - i - 1) * prodN M' ≤ 1000000 := by rw [← hdiv]; exact Nat.le_trans (Nat.div_le_self _ _) hle
    refine W.skip (hK7 _ (W.block ?_))
    clear hK7 K7
    refine wrs fun K hK => ?_
    conv => whnf
    refine ⟨by omega, ?_⟩
    conv => whnf
    rw [tdiv_nat, hdiv]
    refine ⟨oo, ?_⟩
    conv => whnf
    refine hK _ ?_
    clear hK K
    refine wrg ?_
    conv => whnf
    refine ⟨oo, ?_⟩
    conv => whnf
    exact againA ⟨i + 1, by omega, rfl, rfl⟩
   have h2 := of_decide_eq_false h2
   have hik : ¬ 0 < k - i := fun h => h2 (by have := hmod.2 h; omega)
   obtain rfl : i = k := by omega
   have e9 : q' ^ (i - i) * prodN M' = prodN M' := by rw [Nat.sub_self, Nat.pow_zero, Nat.one_mul]
   rw [e9]
   refine W.exit (hK1 _ ?_)
   clear hK7 K7 hK1 K1
   refine wrs fun K hK => ?_
   conv => whnf
   refine hK _ (W.cond ⟨fun h3 => ?_, fun h3 => ?_⟩) <;> clear hK K
   ·have h3 := of_decide_eq_true h3
    have hb8 : M = (q', i) :: M' := by rw [if_neg (by omega)] at b8; exact b8
    refine wrg ?_
    conv => whnf
    refine ⟨⟨rfl, by decide, fun x hx => by simp at hx; subst hx; exact ⟨rfl, rfl⟩⟩, ?_⟩
    conv => whnf
    intro b_8 hs_8 hh_8 hf_8
    try dsimp only at hh_8 hf_8
    conv => whnf
    refine ⟨by omega, ?_⟩
    conv => whnf
    refine ⟨fun j => vP ((A ++ [(q', i)]).getD j (0, 0)), fun j hj => congrArg vP (getD_snoc_l hj), fun j hj => ?_, ?_⟩
    ·obtain rfl : j = 0 := by omega
     exact congrArg vP getD_snoc_r
    intro b_9 hs_9 hh_9 hf_9
    try dsimp only at hh_9 hf_9
    conv => whnf
    refine hK8 _ ?_
    clear hK8 K8
    refine wrg ?_
    conv => whnf
    refine ⟨oo, ?_⟩
    conv => whnf
    refine ⟨_, _, ⟨A ++ [(q', i)], M', q' + 1, b_9, by rw [List.append_assoc, ← hA, hb8]; rfl, b6, by omega, b7, by omega, rfl, rfl⟩, by omega, by dsimp only; omega, ?_⟩
    rw [List.length_append (bs := [_])]
    exact cvr
   ·have h3 := of_decide_eq_false h3
    have hb8 : M = M' := by rw [if_pos (by omega)] at b8; exact b8
    refine W.skip (hK8 _ ?_)
    clear hK8 K8
    refine wrg ?_
    conv => whnf
    refine ⟨oo, ?_⟩
    conv => whnf
    exact againA ⟨A, M', q' + 1, b, by rw [← hA, hb8], b6, by omega, b7, by omega, rfl, rfl⟩
  have hqq := hqM q hql
  have hq3 : (q : Int) * q ≤ 1000001 * 1000001 := Int.mul_le_mul (by omega) (by omega) (by omega) (by omega)
  have hq4 : 0 ≤ (q : Int) * q := Int.mul_nonneg (by omega) (by omega)
  refine wrs fun K hK => ?_
  conv => whnf
  refine ⟨oo, ?_⟩
  conv => whnf
  refine hK _ (W.cond ⟨fun h2 => ?_, fun h2 => ?_⟩) <;> clear hK K
  ·have h2 := of_decide_eq_true h2
   have hlast := hM.last hql h1' (by rw [← Int.natCast_mul] at h2; omega)
   refine wrg ?_
   conv => whnf
   refine fin (prodN M) _ (by omega) (fun y hy => ?_) hqq (by dsimp only; omega) ?_
   ·rw [hlast] at hy
    have hy : y = (prodN M, 1) := by simpa using hy
    rw [hy]; exact Nat.le_refl _
   ·clear fin hK9 K9
    exact cvr
  ·refine W.skip (fin q _ hq2 hql (Nat.le_refl _) (by dsimp only; omega) ?_)
   clear fin hK9 K9
   exact cvr
 ·have hMe : M = [] := by
   cases M with
   | nil => rfl
   | cons y M' => have := prodN_len hM.pr; rw [List.length_cons] at this; omega
  rw [hMe, List.append_nil] at hA
  subst hA
  refine W.exit (hK1 _ ?_)
  clear hK7 K7 hK1 K1
  refine W.sw (c' := cxr [0, 2, 3, 4, 5, 7, 14, 19, 26]) (W.rs (cxr_ok _) (by rfl) fun K hK => ?_)
  conv => whnf
  refine hK _ ?_
  clear hK K
  refine W.ret ?_
  conv => whnf
  exact ⟨.v (vPw A), ⟨.inl rfl, rfl, rfl, fun _ _ => rfl⟩, ⟨trivial, fun _ _ => ⟨trivial, trivial, trivial⟩⟩, rfl⟩

theorem l01Factor_fn (n : Nat) (L : List (Nat × Nat)) (hL : FacS n L) (hn : n ≤ 1000000) : FnV 331 [.int .i64 n] (vPw L) := by
 have hpr := hL.prod
 have hlen := prodN_len hL.pr
 refine fn_of (cx_ok [0, 2, 3, 4, 5, 11, 17, 24, 32]) Tryz.func331 rfl (by decide) Tryz.ntmps331 (Nat.le_of_ble_eq_true rfl) fun base => ?_
 refine wrs fun K hK => ?_
 conv => whnf
 refine hK _ ?_
 clear hK K
 refine wrs fun K hK => ?_
 conv => whnf
 refine ⟨⟨rfl, by decide, fun x hx => by simp at hx⟩, ?_⟩
 conv => whnf
 intro b_1 hs_1 hh_1 hf_1
 try dsimp only at hh_1 hf_1
 conv => whnf
 refine hK _ ?_
 clear hK K
 refine W.seqK fun K1 hK1 => ?_
 refine wrs fun K hK => ?_
 conv => whnf
 refine hK _ (W.block (W.invA (fun m e => ∃ (A M : List (Nat × Nat)) (q b : Nat), A ++ M = L ∧ FacS (prodN M) M ∧ 2 ≤ q ∧ (∀ x ∈ M, q ≤ x.1) ∧ q ≤ n + 2 ∧ m = n + 2 - q ∧ e = [(0, .v (.int .i64 (prodN M : Nat))), (3, .ownV 153 2 b A.length fun i => vP (A.getD i (0, 0))), (4, .v (.int .i64 q))]) ⟨[], L, 2, b_1, rfl, hpr.symm ▸ hL, Nat.le_refl _, fun x hx => (hL.pr x hx).1.1, by omega, rfl, rfl⟩ ?_))
 clear hK K
 rintro m e ⟨A, M, q', b, hA, hM, b1, b2, hqn, hm, rfl⟩
 have hMn : prodN M ≤ n := by
  rw [← hpr, ← hA, prodN_append]
  have : 0 < prodN A := prodN_pos fun x hx => hL.pr x (by rw [← hA]; simp [hx])
  exact Nat.le_mul_of_pos_left _ this
 have hAl : A.length ≤ L.length := by rw [← hA, List.length_append]; omega
 have hq3 : (q' : Int) * q' ≤ 1000002 * 1000002 := Int.mul_le_mul (by omega) (by omega) (by omega) (by omega)
 have hq4 : 0 ≤ (q' : Int) * q' := Int.mul_nonneg (by omega) (by omega)
 refine W.seqK fun K7 hK7 => ?_
 refine wrs fun K hK => ?_
 conv => whnf
 refine ⟨oo, ?_⟩
 conv => whnf
 refine hK _ (W.cond ⟨fun h1 => ?_, fun h1 => ?_⟩) <;> clear hK K
 ·have h1 := of_decide_eq_true h1
  have hqq : q' * 2 ≤ q' * q' := Nat.mul_le_mul_left _ b1
  have hqq2 : q' * q' ≤ prodN M := by rw [← Int.natCast_mul] at h1; omega
  obtain ⟨k, M', b5, b4, b6, b7, b8⟩ := hM.next' b1 b2
  refine W.skip (hK7 _ ?_)
  clear hK7 K7
  refine W.seqK fun K8 hK8 => W.block ?_
  refine wrs fun K hK => ?_
  conv => whnf
  refine hK _ ?_
  clear hK K
  have e8 : prodN M = q' ^ (k - 0) * prodN M' := b5
  rw [e8]
  refine W.seqK fun K1 hK1 => W.block (W.invA (fun m e => ∃ i : Nat, i ≤ k ∧ m = k - i ∧ e = [(0, .v (.int .i64 ((q' ^ (k - i) * prodN M' : Nat) : Int))), (3, .ownV 153 2 b A.length fun i => vP (A.getD i (0, 0))), (4, .v (.int .i64 q')), (5, .v (.int .i64 i))]) ⟨0, Nat.zero_le _, rfl, rfl⟩ ?_)
  rintro m2 e ⟨i, hi, hm2, rfl⟩
  have hmod := strip_mod (a := k - i) b1 b4
  have hkb : k ≤ 1000000 := by
   have h1 : k < q' ^ k := Nat.lt_pow_self (by omega)
   have h2 : q' ^ k * 1 ≤ q' ^ k * prodN M' := Nat.mul_le_mul_left _ (prodN_pos b6.pr)
   omega
  have hle : q' ^ (k - i) * prodN M' ≤ 1000000 := by
   have : q' ^ (k - i) * prodN M' ≤ q' ^ k * prodN M' := Nat.mul_le_mul_right _ (Nat.pow_le_pow_right (by omega) (by omega))
   omega
  refine W.seqK fun K7 hK7 => ?_
  refine wrs fun K hK => ?_
  conv => whnf
  refine ⟨by omega, ?_⟩
  conv => whnf
  rw [tmod_nat]
  refine hK _ (W.cond ⟨fun h2 => ?_, fun h2 => ?_⟩) <;> clear hK K
  ·have h2 := of_decide_eq_true h2
   have hik : 0 < k - i := hmod.1 (by omega)
   have hdiv := strip_div (P := prodN M') b1 hik
   have hle2 : q' ^ (k - i - 1) * prodN M' ≤ 1000000 := by rw [← hdiv]; exact Nat.le_trans (Nat.div_le_self _ _) hle
   refine W.skip (hK7 _ (W.block ?_))
   clear hK7 K7
   refine wrs fun K hK => ?_
   conv => whnf
   refine ⟨by omega, ?_⟩
   conv => whnf
   rw [tdiv_nat, hdiv]
   refine ⟨oo, ?_⟩
   conv => whnf
   refine hK _ ?_
   clear hK K
   refine wrg ?_
   conv => whnf
   refine ⟨oo, ?_⟩
   conv => whnf
   exact againA ⟨i + 1, by omega, rfl, rfl⟩
  have h2 := of_decide_eq_false h2
  have hik : ¬ 0 < k - i := fun h => h2 (by have := hmod.2 h; omega)
  obtain rfl : i = k := by omega
  have e9 : q' ^ (i - i) * prodN M' = prodN M' := by rw [Nat.sub_self, Nat.pow_zero, Nat.one_mul]
  rw [e9]
  refine W.exit (hK1 _ ?_)
  clear hK7 K7 hK1 K1
  refine wrs fun K hK => ?_
  conv => whnf
  refine hK _ (W.cond ⟨fun h3 => ?_, fun h3 => ?_⟩) <;> clear hK K
  ·have h3 := of_decide_eq_true h3
   have hb8 : M = (q', i) :: M' := by rw [if_neg (by omega)] at b8; exact b8
   refine wrg ?_
   conv => whnf
   refine ⟨⟨rfl, by decide, fun x hx => by simp at hx; subst hx; exact ⟨rfl, rfl⟩⟩, ?_⟩
   conv => whnf
   intro b_8 hs_8 hh_8 hf_8
   try dsimp only at hh_8 hf_8
   conv => whnf
   refine ⟨by omega, ?_⟩
   conv => whnf
   refine ⟨fun j => vP ((A ++ [(q', i)]).getD j (0, 0)), fun j hj => congrArg vP (getD_snoc_l hj), fun j hj => ?_, ?_⟩
   ·obtain rfl : j = 0 := by omega
    exact congrArg vP getD_snoc_r
   intro b_9 hs_9 hh_9 hf_9
   try dsimp only at hh_9 hf_9
   conv => whnf
   refine hK8 _ ?_
   clear hK8 K8
   refine wrg ?_
   conv => whnf
   refine ⟨oo, ?_⟩
   conv => whnf
   refine ⟨_, _, ⟨A ++ [(q', i)], M', q' + 1, b_9, by rw [List.append_assoc, ← hA, hb8]; rfl, b6, by omega, b7, by omega, rfl, rfl⟩, by omega, by dsimp only; omega, ?_⟩
   rw [List.length_append (bs := [_])]
   exact cvr
  ·have h3 := of_decide_eq_false h3
   have hb8 : M = M' := by rw [if_pos (by omega)] at b8; exact b8
   refine W.skip (hK8 _ ?_)
   clear hK8 K8
   refine wrg ?_
   conv => whnf
   refine ⟨oo, ?_⟩
   conv => whnf
   exact againA ⟨A, M', q' + 1, b, by rw [← hA, hb8], b6, by omega, b7, by omega, rfl, rfl⟩
 ·have h1 := of_decide_eq_false h1
  refine W.exit (hK1 _ ?_)
  clear hK7 K7 hK1 K1
  refine W.seqK fun K1 hK1 => ?_
  have fin : ∀ (b' : Nat) (s : S), base ≤ s.hs → coverK s.env [(3, .ownV 153 2 b' L.length fun i => vP (L.getD i (0, 0)))] → K1 s := by
   intro b' s h5 h6
   refine hK1 _ (W.weak (t := ⟨[(3, .ownV 153 2 b' L.length fun i => vP (L.getD i (0, 0)))], base⟩) ⟨h5, h6⟩ (Nat.le_refl _) ?_)
   clear hK1 K1
   refine W.sw (c' := cxr [0, 2, 3, 4, 5, 11, 17, 24, 32]) (W.rs (cxr_ok _) (by rfl) fun K hK => ?_)
   conv => whnf
   refine hK _ ?_
   clear hK K
   refine W.ret ?_
   conv => whnf
   exact ⟨.v (vPw L), ⟨.inl rfl, rfl, rfl, fun _ _ => rfl⟩, ⟨trivial, fun _ _ => ⟨trivial, trivial, trivial⟩⟩, rfl⟩
  clear hK1
  refine wrs fun K hK => ?_
  conv => whnf
  refine hK _ (W.cond ⟨fun h2 => ?_, fun h2 => ?_⟩) <;> clear hK K
  ·have h2 := of_decide_eq_true h2
   have hlast := hM.last b2 (by omega) (by rw [← Int.natCast_mul] at h1; omega)
   have hA2 : A ++ [(prodN M, 1)] = L := by rw [← hlast]; exact hA
   refine wrg ?_
   conv => whnf
   refine ⟨⟨rfl, by decide, fun x hx => by simp at hx; subst hx; exact ⟨rfl, rfl⟩⟩, ?_⟩
   conv => whnf
   intro b_8 hs_8 hh_8 hf_8
   try dsimp only at hh_8 hf_8
   conv => whnf
   refine ⟨by omega, ?_⟩
   conv => whnf
   refine ⟨fun j => vP ((A ++ [(prodN M, 1)]).getD j (0, 0)), fun j hj => congrArg vP (getD_snoc_l hj), fun j hj => ?_, ?_⟩
   ·obtain rfl : j = 0 := by omega
    exact congrArg vP getD_snoc_r
   intro b_9 hs_9 hh_9 hf_9
   try dsimp only at hh_9 hf_9
   conv => whnf
   refine fin b_9 _ (by dsimp only; omega) ?_
   clear fin
   rw [← hA2, List.length_append (bs := [_])]
   exact cvr
  ·have h2 := of_decide_eq_false h2
   have hMe : M = [] := by
    cases M with
    | nil => rfl
    | cons y M' => have := prodN_len hM.pr; rw [List.length_cons] at this; omega
   rw [hMe, List.append_nil] at hA
   subst hA
   refine W.skip (fin b _ (by dsimp only; omega) ?_)
   clear fin
   exact cvr

open Go Go.RowKit Go.Proofs Poly
set_option maxRecDepth 100000
set_option maxHeartbeats 8000000

theorem fld_q {p : Int} [SP p] {f : Poly p} (hk : IsFld p f.l) {d : Nat} (hd : dg f = d + 1) : (p ^ (f.l.length - 1) : Int) = ((p.toNat ^ d : Nat) : Int) ∧ p.toNat ^ d ≤ 20000 ∧ 2 ≤ p.toNat ^ d := by
 have h2 := Pr.two (p := p)
 have h1 : f.l.length - 1 = d := by have : f.l.length = dg f := rfl; omega
 have h3 : (p ^ (f.l.length - 1) : Int) = ((p.toNat ^ d : Nat) : Int) := by rw [h1, Int.natCast_pow, Int.toNat_of_nonneg (by omega)]
 have h4 := hk.ord
 have h5 := hk.two
 have h6 : p.toNat ^ 1 ≤ p.toNat ^ d := Nat.pow_le_pow_right (by omega) (by omega)
 rw [Nat.pow_one] at h6
 exact ⟨h3, by omega, by omega⟩
theorem one_l_iff {p : Int} [SP p] {f X : Poly p} {e : Nat} (h2 : 2 ≤ dg f) : (rem (X ^ e) f).l = [1] ↔ One f X e := by
 rw [one_iff h2]
 exact ⟨fun h => ext_l (by rw [h, one_l]), fun h => by rw [h, one_l]⟩

theorem orderOf_fn (p : Int) [SP p] (g g1 : Option Nat) (f X : Poly p) (hk : IsFld p f.l) (hi : Irr f) (hX0 : X ≠ 0) (hX : dg X < dg f) (e0 : Nat) (ho : IsOrd f X e0) : FnV 194 [vK p g f.l, .ints g1 X.l] (.int .i64 e0) := by
 have hp := Pr.two (p := p)
 have hp2 := SP.le (p := p)
 have h9 := hk.mod.2.1
 have hl2 := hk.two
 have hfl : f.l.length = dg f := rfl
 have hf0 := hi.ne
 obtain ⟨d, hd⟩ : ∃ d, dg f = d + 1 := ⟨dg f - 1, by omega⟩
 obtain ⟨hq1, hq2, hq3⟩ := fld_q hk hd
 have hfer := fermat hi (small_ndvd hX0 hX) hd
 generalize p.toNat ^ d = q at hq1 hq2 hq3 hfer
 have hL := facL_ok (n := q - 1) (by omega)
 have hLl := prodN_len hL.pr
 rw [hL.prod] at hLl
 generalize facL (q - 1) = L at hL hLl
 have hqi : ((q : Nat) : Int) - 1 = ((q - 1 : Nat) : Int) := by omega
 refine fn_of (cx_ok [0, 1, 2, 4, 5, 7, 12, 13, 14, 15, 19, 20, 21, 29]) Tryz.func194 rfl (by decide) Tryz.ntmps194 (Nat.le_of_ble_eq_true rfl) fun base => ?_
 refine wrs fun K hK => ?_
 conv => whnf
 refine ⟨rfl, ?_⟩
 conv => whnf
 intro b_1 hs_1 hh_1 hf_1
 try dsimp only at hh_1 hf_1
 conv => whnf
 refine hK _ ?_
 clear hK K
 refine wrs fun K hK => ?_
 conv => whnf
 refine callV rfl (order_fn p g f.l (by omega) (by omega) (by omega) (by omega)) fun hs' hhs => ?_
 try dsimp only at hhs
 conv => whnf
 rw [hq1]
 refine ⟨oo, ?_⟩
 conv => whnf
 rw [hqi]
 refine hK _ ?_
 clear hK K
 refine W.seqK fun K1 hK1 => ?_
 refine wrs fun K hK => ?_
 conv => whnf
 refine callV rfl (factors_fn (q - 1) L hL (by omega)) fun hs' hhs => ?_
 try dsimp only at hhs
 conv => whnf
 refine hK _ (W.block (W.invA (fun m e => ∃ i e' : Nat, i ≤ L.length ∧ OrdI f X (q - 1) L i e' ∧ m = L.length - i ∧ e = [(1, .v (.ints g1 X.l)), (2, .ownB b_1 (vK p g f.l)), (5, .v (.int .i64 e')), (12, .v (vPw L)), (13, .v (.int .i64 L.length)), (14, .v (.int .i64 i))]) ⟨0, q - 1, Nat.zero_le _, OrdI.start hL (by omega) hfer, rfl, rfl⟩ ?_))
 clear hK K
 rintro m e ⟨i, e, hi1, hO, hm, rfl⟩
 refine wrs fun K hK => ?_
 conv => whnf
 refine hK _ ?_
 clear hK K
 refine W.seqK fun K7 hK7 => W.cond ⟨fun h1 => ?_, fun h1 => ?_⟩ <;> (first | replace h1 := of_decide_eq_true h1 | replace h1 := of_decide_eq_false h1)
 ·have hi2 : i < L.length := by omega
  have hJ := hO.enter hL hi2
  have hpr := hL.pr _ (List.getElem_mem hi2)
  have hstep := fun j e (h : OrdJ f X (q - 1) L i L[i].1 L[i].2 j e) => OrdJ.step (f := f) (x := X) (n := q - 1) (j := j) (e := e) hL hi2 h
  have hleave := fun e h => OrdJ.leave (f := f) (x := X) (n := q - 1) (e := e) hi2 h
  have hxe : L.getD i (0, 0) = L[i] := by rw [List.getD_eq_getElem?_getD, List.getElem?_eq_getElem hi2]; rfl
  have hx2 : L[i].2 ≤ 1000000 := by
   have h3 := Nat.le_of_dvd (by omega) (hL.prod ▸ prodN_dvd (List.getElem_mem hi2))
   have h4 : L[i].2 < L[i].1 ^ L[i].2 := Nat.lt_pow_self (by have := hpr.1.1; omega)
   omega
  have hx1 : L[i].1 ≤ 1000000 := by
   have h3 := Nat.le_of_dvd (by omega) (hL.prod ▸ prodN_dvd (List.getElem_mem hi2))
   have h4 : L[i].1 ^ 1 ≤ L[i].1 ^ L[i].2 := Nat.pow_le_pow_right (by have := hpr.1.1; omega) hpr.2
   rw [Nat.pow_one] at h4; omega
  generalize L[i] = x at hJ hpr hstep hleave hxe hx2 hx1
  obtain ⟨hxp, hxk⟩ := hpr
  have hxp2 := hxp.1
  refine W.skip (hK7 _ ?_)
  clear hK7 K7
  refine W.seqK fun K8 hK8 => W.block ?_
  refine wrs fun K hK => ?_
  conv => whnf
  refine ⟨oo, ?_⟩
  conv => whnf
  rw [Int.toNat_natCast, hxe]
  intro b_7 hs_7 hh_7 hf_7
  try dsimp only at hh_7 hf_7
  conv => whnf
  refine ⟨s23, ?_⟩
  conv => whnf
  refine hK _ ?_
  clear hK K
  refine wrs fun K hK => ?_
  conv => whnf
  refine hK _ (W.block (W.invA (fun m e => ∃ j e' : Nat, j ≤ x.2 ∧ OrdJ f X (q - 1) L i x.1 x.2 j e' ∧ m = x.2 - j ∧ e = [(1, .v (.ints g1 X.l)), (2, .ownB b_1 (vK p g f.l)), (5, .v (.int .i64 e')), (7, .ownB b_7 (vP x)), (12, .v (vPw L)), (13, .v (.int .i64 L.length)), (14, .v (.int .i64 i)), (19, .v (.int .i64 x.2)), (20, .v (.int .i64 j))]) ⟨0, e, Nat.zero_le _, hJ, rfl, rfl⟩ ?_))
  clear hK K
  clear hJ hO e
  rintro m2 e ⟨j, e, hj, hJ, hm2, rfl⟩
  have he1 := hJ.pos
  have he2 := Nat.le_of_dvd (by omega) hJ.dvd
  have he3 := Nat.div_le_self e x.1
  have hst := hstep j e hJ
  have hno : ¬ One f X (e / x.1) → _ := fun h => hJ.stop (j' := j + 1) h
  obtain ⟨v, hv⟩ : ∃ v, e / x.1 = v := ⟨_, rfl⟩
  rw [hv] at he3 hst hno
  refine wrs fun K hK => ?_
  conv => whnf
  refine hK _ ?_
  clear hK K
  refine W.seqK fun K7 hK7 => W.cond ⟨fun h2 => ?_, fun h2 => ?_⟩ <;> (first | replace h2 := of_decide_eq_true h2 | replace h2 := of_decide_eq_false h2)
  ·have hj2 : j < x.2 := by omega
   refine W.skip (hK7 _ ?_)
   clear hK7 K7
   refine W.seqK fun K9 hK9 => W.block ?_
   refine W.rd (cx_ok _) follows (by rfl) fun K hK => ?_
   conv => whnf
   refine ⟨by omega, ?_⟩
   conv => whnf
   rw [tdiv_nat, hv]
   refine ⟨oo, ?_⟩
   conv => whnf
   refine ⟨_, cxF (kPower_fn p g g1 f X v (by omega) (by omega) (by omega) hf0), ?_⟩
   conv => whnf
   refine ⟨_, cxF (isOne_fn none (rem (X ^ v) f).l), ?_⟩
   conv => whnf
   refine hK _ (W.cond ⟨fun h3 => ?_, fun h3 => ?_⟩) <;> clear hK K
   ·have h3 := (one_l_iff (by omega)).1 (of_decide_eq_true h3)
    refine wrg ?_
    conv => whnf
    refine ⟨by omega, ?_⟩
    conv => whnf
    rw [tdiv_nat, hv]
    refine ⟨oo, ?_⟩
    conv => whnf
    refine hK9 _ ?_
    clear hK9 K9
    refine wrg ?_
    conv => whnf
    refine ⟨oo, ?_⟩
    conv => whnf
    exact againA ⟨j + 1, v, by omega, (hst hj2 h3).2, rfl, rfl⟩
   ·have h3 := fun h => of_decide_eq_false h3 ((one_l_iff (by omega)).2 h)
    refine W.skip (hK9 _ ?_)
    clear hK9 K9
    refine wrg ?_
    conv => whnf
    refine ⟨oo, ?_⟩
    conv => whnf
    exact againA ⟨j + 1, e, by omega, hno h3, rfl, rfl⟩
  ·obtain rfl : j = x.2 := by omega
   refine W.exit (hK8 _ ?_)
   clear hK7 K7 hK8 K8
   refine wrg ?_
   conv => whnf
   refine ⟨oo, ?_⟩
   conv => whnf
   exact againA ⟨i + 1, e, by omega, hleave e hJ, rfl, rfl⟩
 ·obtain rfl : i = L.length := by omega
  obtain rfl := ho.unique (hO.fin hL)
  refine W.exit (hK1 _ ?_)
  clear hK7 K7 hK1 K1
  refine wrs fun K hK => ?_
  conv => whnf
  refine hK _ ?_
  clear hK K
  refine W.ret ?_
  conv => whnf
  exact ⟨.v (.int .i64 e0), ⟨rfl, rfl⟩, trivial, rfl⟩

theorem l17ElementOrder_fn (p : Int) [SP p] (g g1 : Option Nat) (f X : Poly p) (hk : IsFld p f.l) (hi : Irr f) (hX0 : X ≠ 0) (hX : dg X < dg f) (e0 : Nat) (ho : IsOrd f X e0) : FnV 195 [vK p g f.l, .ints g1 X.l] (.int .i64 e0) := by
 have hp := Pr.two (p := p)
 have hp2 := SP.le (p := p)
 have h9 := hk.mod.2.1
 have hl2 := hk.two
 have hfl : f.l.length = dg f := rfl
 have hf0 := hi.ne
 obtain ⟨d, hd⟩ : ∃ d, dg f = d + 1 := ⟨dg f - 1, by omega⟩
 obtain ⟨hq1, hq2, hq3⟩ := fld_q hk hd
 have hfer := fermat hi (small_ndvd hX0 hX) hd
 generalize p.toNat ^ d = q at hq1 hq2 hq3 hfer
 have hL := facL_ok (n := q - 1) (by omega)
 have hLl := prodN_len hL.pr
 rw [hL.prod] at hLl
 generalize facL (q - 1) = L at hL hLl
 have hqi : ((q : Nat) : Int) - 1 = ((q - 1 : Nat) : Int) := by omega
 refine fn_of (cx_ok [0, 1, 2, 4, 5, 6, 7, 16, 39]) Tryz.func195 rfl (by decide) Tryz.ntmps195 (Nat.le_of_ble_eq_true rfl) fun base => ?_
 refine wrs fun K hK => ?_
 conv => whnf
 refine ⟨rfl, ?_⟩
 conv => whnf
 intro b_1 hs_1 hh_1 hf_1
 try dsimp only at hh_1 hf_1
 conv => whnf
 refine hK _ ?_
 clear hK K
 refine wrs fun K hK => ?_
 conv => whnf
 refine callV rfl (l17Size_fn p g f.l hk) fun hs' hhs => ?_
 try dsimp only at hhs
 conv => whnf
 rw [hq1]
 refine ⟨oo, ?_⟩
 conv => whnf
 rw [hqi]
 refine hK _ ?_
 clear hK K
 refine wrs fun K hK => ?_
 conv => whnf
 refine callV rfl (l01Factor_fn (q - 1) L hL (by omega)) fun hs' hhs => ?_
 try dsimp only at hhs
 conv => whnf
 refine hK _ ?_
 clear hK K
 refine W.seqK fun K1 hK1 => ?_
 refine wrs fun K hK => ?_
 conv => whnf
 refine hK _ (W.block (W.invA (fun m e => ∃ i e' : Nat, i ≤ L.length ∧ OrdI f X (q - 1) L i e' ∧ m = L.length - i ∧ e = [(1, .v (.ints g1 X.l)), (2, .ownB b_1 (vK p g f.l)), (5, .v (.int .i64 e')), (6, .v (vPw L)), (7, .v (.int .i64 i))]) ⟨0, q - 1, Nat.zero_le _, OrdI.start hL (by omega) hfer, rfl, rfl⟩ ?_))
 clear hK K
 rintro m e ⟨i, e, hi1, hO, hm, rfl⟩
 refine W.seqK fun K7 hK7 => wrs fun K hK => ?_
 conv => whnf
 refine hK _ (W.cond ⟨fun h1 => ?_, fun h1 => ?_⟩) <;> clear hK K <;> (first | replace h1 := of_decide_eq_true h1 | replace h1 := of_decide_eq_false h1)
 ·have hi2 : i < L.length := by omega
  have hJ := hO.enter hL hi2
  have hpr := hL.pr _ (List.getElem_mem hi2)
  have hstep := fun j e (h : OrdJ f X (q - 1) L i L[i].1 L[i].2 j e) => OrdJ.step (f := f) (x := X) (n := q - 1) (j := j) (e := e) hL hi2 h
  have hleave := fun e h => OrdJ.leave (f := f) (x := X) (n := q - 1) (e := e) hi2 h
  have hxe : L.getD i (0, 0) = L[i] := by rw [List.getD_eq_getElem?_getD, List.getElem?_eq_getElem hi2]; rfl
  have hx1 : L[i].1 ≤ 1000000 := by
   have h3 := Nat.le_of_dvd (by omega) (hL.prod ▸ prodN_dvd (List.getElem_mem hi2))
   have h4 : L[i].1 ^ 1 ≤ L[i].1 ^ L[i].2 := Nat.pow_le_pow_right (by have := hpr.1.1; omega) hpr.2
   rw [Nat.pow_one] at h4; omega
  generalize L[i] = x at hJ hpr hstep hleave hxe hx1
  obtain ⟨hxp, hxk⟩ := hpr
  have hxp2 := hxp.1
  refine W.skip (hK7 _ ?_)
  clear hK7 K7
  refine W.seqK fun K8 hK8 => W.block ?_
  refine W.block (W.invE (fun m e => ∃ j e' : Nat, j ≤ x.2 ∧ OrdJ f X (q - 1) L i x.1 x.2 j e' ∧ m = x.2 - j ∧ e = [(1, .v (.ints g1 X.l)), (2, .ownB b_1 (vK p g f.l)), (5, .v (.int .i64 e')), (6, .v (vPw L)), (7, .v (.int .i64 i))]) _ _ ⟨0, e, Nat.zero_le _, hJ, rfl, rfl⟩ (by dsimp only; omega) (by repeat' first | refine And.intro ?_ ?_ | exact trivial | rfl | omega | exact fun _ _ => rfl) ?_)
  clear hJ hO e
  rintro m2 e ⟨j, e, hj, hJ, hm2, rfl⟩
  have he1 := hJ.pos
  have he2 := Nat.le_of_dvd (by omega) hJ.dvd
  have he3 := Nat.div_le_self e x.1
  have hst := hstep j e hJ
  have hno : ¬ One f X (e / x.1) → _ := fun h => hJ.stop (j' := x.2) h
  have hov : ¬ x.1 ∣ e → _ := fun h => hJ.over h
  have hdj : x.1 ∣ e → One f X (e / x.1) → j < x.2 := fun h1 h2 => by
   rcases hJ.at_ with ⟨m, h3, h4, h5⟩ | h3
   ·rcases Nat.lt_or_eq_of_le hj with h6 | h6
    ·exact h6
    ·rw [h6, Nat.sub_self, Nat.pow_zero, Nat.one_mul] at h3
     exact absurd (h3 ▸ h1) h4
   ·exact absurd h2 h3
  obtain ⟨v, hv⟩ : ∃ v, e / x.1 = v := ⟨_, rfl⟩
  rw [hv] at he3 hst hno hdj
  -- the end of this prime
  have fin : OrdJ f X (q - 1) L i x.1 x.2 x.2 e → ∀ s : S, base ≤ s.hs → coverK s.env [(1, .v (.ints g1 X.l)), (2, .ownB b_1 (vK p g f.l)), (5, .v (.int .i64 e)), (6, .v (vPw L)), (7, .v (.int .i64 i))] → K8 s := by
   intro h4 s h5 h6
   refine hK8 _ (W.weak (t := ⟨[(1, .v (.ints g1 X.l)), (2, .ownB b_1 (vK p g f.l)), (5, .v (.int .i64 e)), (6, .v (vPw L)), (7, .v (.int .i64 i))], base⟩) ⟨h5, h6⟩ (Nat.le_refl _) ?_)
   clear hK8 K8
   refine wrg ?_
   conv => whnf
   refine ⟨oo, ?_⟩
   conv => whnf
   exact againA ⟨i + 1, e, by omega, hleave e h4, rfl, rfl⟩
  clear hK8
  refine W.seqK fun K7 hK7 => ?_
  refine W.rd (cx_ok _) follows (by rfl) fun K hK => ?_
  conv => whnf
  refine ⟨oo, ?_⟩
  conv => whnf
  rw [Int.toNat_natCast, hxe]
  refine ⟨by omega, ?_⟩
  conv => whnf
  rw [tmod_nat]
  by_cases hdv : x.1 ∣ e
  ·have e1 : decide (((e % x.1 : Nat) : Int) = 0) = true := decide_eq_true (by rw [Nat.mod_eq_zero_of_dvd hdv]; rfl)
   rw [e1]
   conv => whnf
   refine ⟨oo, ?_⟩
   conv => whnf
   rw [Int.toNat_natCast, hxe]
   refine ⟨by omega, ?_⟩
   conv => whnf
   rw [tdiv_nat, hv]
   refine ⟨oo, ?_⟩
   conv => whnf
   refine ⟨_, cxF (l17Power_fn p g g1 f X v (by omega) (by omega) (by omega) hf0), ?_⟩
   conv => whnf
   refine ⟨_, cxF (l17One_fn none (rem (X ^ v) f).l), ?_⟩
   conv => whnf
   refine hK _ (W.cond ⟨fun h3 => ?_, fun h3 => ?_⟩) <;> clear hK K
   ·have h3 := (one_l_iff (by omega)).1 (of_decide_eq_true h3)
    have hj2 := hdj hdv h3
    clear fin
    refine W.skip (hK7 _ (W.block ?_))
    clear hK7 K7
    refine wrg ?_
    conv => whnf
    refine ⟨oo, ?_⟩
    conv => whnf
    rw [Int.toNat_natCast, hxe]
    refine ⟨by omega, ?_⟩
    conv => whnf
    rw [tdiv_nat, hv]
    refine ⟨oo, ?_⟩
    conv => whnf
    exact againA ⟨j + 1, v, by omega, (hst hj2 h3).2, rfl, rfl⟩
   ·have h3 := fun h => of_decide_eq_false h3 ((one_l_iff (by omega)).2 h)
    refine W.exit (fin (hno h3) _ (by dsimp only; omega) ?_)
    clear fin hK7 K7
    exact cvr
  ·have e1 : decide (((e % x.1 : Nat) : Int) = 0) = false := decide_eq_false fun h => hdv (Nat.dvd_of_mod_eq_zero (by omega))
   rw [e1]
   conv => whnf
   refine ⟨rfl, ?_⟩
   conv => whnf
   refine hK _ (W.cond ⟨fun h => absurd h (by decide), fun _ => W.exit (fin (hov hdv) _ (by dsimp only; omega) ?_)⟩)
   clear fin hK K hK7 K7
   exact cvr
 ·obtain rfl : i = L.length := by omega
  obtain rfl := ho.unique (hO.fin hL)
  refine W.exit (hK1 _ ?_)
  clear hK7 K7 hK1 K1
  refine wrs fun K hK => ?_
  conv => whnf
  refine hK _ ?_
  clear hK K
  refine W.ret ?_
  conv => whnf
  exact ⟨.v (.int .i64 e0), ⟨rfl, rfl⟩, trivial, rfl⟩

theorem OrderOfElement_E (kp : Int) (kl x : List Int) (_ : inR kp) (hkl : kl.length ≤ 1048576) (hx : x.length ≤ 1048576) : ∃ r0 r1 : Int,
  (∀ g0 g1 : Option Nat, FnV 33 [vK kp g0 kl, .ints g1 x] (.tup [.int .i64 r0, .int .i64 r1])) ∧ (∀ g0 g1 : Option Nat, FnV 32 [vK kp g0 kl, .ints g1 x] (.tup [.int .i64 r0, .int .i64 r1])) ∧ r1 = codeU kp kl x ∧ ∀ hp : kp ∈ primes, letI := sp_of hp; ∀ f X : Poly kp, f.l = kl → X.l = x → codeU kp kl x = 0 → ∃ e : Nat, r0 = e ∧ IsOrd f X e := by
 generalize hc : code1 kp kl x = c
 by_cases h0 : c = 0
 case neg =>
  have hu := codeU_bad hc h0
  refine ⟨0, c, fun g0 g1 => ?_, fun g0 g1 => ?_, hu.symm, fun _ _ _ _ _ h => absurd (hu.symm.trans h) h0⟩
  ·refine fn_of (cx_ok [0, 1, 2, 4, 5, 6, 17, 19]) Tryz.func33 rfl (by decide) Tryz.ntmps33 (Nat.le_of_ble_eq_true rfl) fun base => ?_
   refine wrs fun K hK => ?_
   conv => whnf
   refine ⟨rfl, ?_⟩
   conv => whnf
   intro b_1 hs_1 hh_1 hf_1
   try dsimp only at hh_1 hf_1
   conv => whnf
   refine hK _ ?_
   clear hK K
   refine wrs fun K hK => ?_
   conv => whnf
   refine callV rfl (l17Code_one kp g0 g1 g1 kl x (by omega) (by omega)) fun hs' hhs => ?_
   try dsimp only at hhs
   conv => whnf
   rw [hc]
   refine hK _ ?_
   clear hK K
   refine W.seqK fun K1 hK1 => ?_
   refine wrs fun K hK => ?_
   conv => whnf
   refine ⟨fun h => ?_, fun h => ?_⟩ <;> conv => whnf
   ·exact absurd (of_decide_eq_true h) h0
   refine hK _ (W.condF rfl (W.skip (hK1 _ ?_)))
   clear hK K hK1 K1
   refine W.seqK fun K1 hK1 => ?_
   refine wrs fun K hK => ?_
   conv => whnf
   refine hK _ (W.cond ⟨fun _ => ?_, fun hcc => absurd h0 (of_decide_eq_false hcc)⟩)
   clear hK K
   refine wrs fun K hK => ?_
   conv => whnf
   refine hK _ ?_
   clear hK K
   refine W.ret ?_
   conv => whnf
   exact ⟨.v (.int .i64 0), ⟨rfl, rfl⟩, trivial, .v (.int .i64 c), ⟨rfl, rfl⟩, trivial, rfl⟩
  ·refine fn_of (cx_ok [0, 1, 2, 4, 5, 6, 12, 16]) Tryz.func32 rfl (by decide) Tryz.ntmps32 (Nat.le_of_ble_eq_true rfl) fun base => ?_
   refine wrs fun K hK => ?_
   conv => whnf
   refine ⟨rfl, ?_⟩
   conv => whnf
   intro b_1 hs_1 hh_1 hf_1
   try dsimp only at hh_1 hf_1
   conv => whnf
   refine hK _ ?_
   clear hK K
   refine W.seqK fun K1 hK1 => ?_
   refine wrs fun K hK => ?_
   conv => whnf
   refine ⟨⟨rfl, by decide, fun x hx => (by simp at hx; subst hx; exact ⟨rfl, rfl⟩)⟩, ?_⟩
   conv => whnf
   intro b_2 hs_2 hh_2 hf_2
   try dsimp only at hh_2 hf_2
   conv => whnf
   refine callV rfl (elements_tr kp g0 (some b_2) kl 1 _ (fun _ => x) (by omega) (by omega) (els1 g1 x)) fun hs' hhs => ?_
   try dsimp only at hhs
   conv => whnf
   rw [show codeEl kp kl true 1 (fun _ => x) = c from hc]
   refine hK _ ?_
   clear hK K
   refine wrs fun K hK => ?_
   conv => whnf
   refine hK _ (W.cond ⟨fun _ => ?_, fun hcc => absurd h0 (of_decide_eq_false hcc)⟩)
   clear hK K
   refine wrs fun K hK => ?_
   conv => whnf
   refine hK _ ?_
   clear hK K
   refine W.ret ?_
   conv => whnf
   exact ⟨.v (.int .i64 0), ⟨rfl, rfl⟩, trivial, .v (.int .i64 c), ⟨rfl, rfl⟩, trivial, rfl⟩
 subst h0
 obtain ⟨hk, hh⟩ := code1_ok hc
 obtain ⟨hp, f, rfl, hfi, _, _, hf9⟩ := fld_poly hk
 letI := sp_of hp
 obtain ⟨X, rfl⟩ := mod_poly hh.1
 have hxl : X.l.length < f.l.length := hh.2
 have hfl : f.l.length = dg f := rfl
 have hXl : X.l.length = dg X := rfl
 have hf0 := hfi.ne
 have hp1 := primes_le hp
 by_cases hX0 : X = 0
 case pos =>
  have hX1 : dg X = 0 := dg_eq_zero.2 hX0
  have hu : codeU kp f.l X.l = 5 := by rw [hX0, zero_l] at hc ⊢; exact codeU_nil hc
  refine ⟨0, 5, fun g0 g1 => ?_, fun g0 g1 => ?_, hu.symm, fun _ _ _ _ _ h => absurd (hu.symm.trans h) (by decide)⟩
  ·refine fn_of (cx_ok [0, 1, 2, 4, 5, 6, 17, 19]) Tryz.func33 rfl (by decide) Tryz.ntmps33 (Nat.le_of_ble_eq_true rfl) fun base => ?_
   refine wrs fun K hK => ?_
   conv => whnf
   refine ⟨rfl, ?_⟩
   conv => whnf
   intro b_1 hs_1 hh_1 hf_1
   try dsimp only at hh_1 hf_1
   conv => whnf
   refine hK _ ?_
   clear hK K
   refine wrs fun K hK => ?_
   conv => whnf
   refine callV rfl (l17Code_one kp g0 g1 g1 f.l X.l (by omega) (by omega)) fun hs' hhs => ?_
   try dsimp only at hhs
   conv => whnf
   rw [hc]
   refine hK _ ?_
   clear hK K
   refine W.seqK fun K1 hK1 => ?_
   refine wrs fun K hK => ?_
   conv => whnf
   refine ⟨fun h => ?_, fun h => ?_⟩ <;> conv => whnf
   ·refine hK _ (W.cond ⟨fun _ => ?_, fun h4 => absurd (of_decide_eq_false h4) (by omega)⟩)
    clear hK K
    refine wrg ?_
    conv => whnf
    refine hK1 _ ?_
    clear hK1 K1
    refine W.seqK fun K1 hK1 => ?_
    refine wrs fun K hK => ?_
    conv => whnf
    refine hK _ (W.cond ⟨fun _ => ?_, fun hcc => absurd (by decide : (5 : Int) ≠ 0) (of_decide_eq_false hcc)⟩)
    clear hK K
    refine wrs fun K hK => ?_
    conv => whnf
    refine hK _ ?_
    clear hK K
    refine W.ret ?_
    conv => whnf
    exact ⟨.v (.int .i64 0), ⟨rfl, rfl⟩, trivial, .v (.int .i64 5), ⟨rfl, rfl⟩, trivial, rfl⟩
   ·exact absurd rfl (of_decide_eq_false h)
  ·refine fn_of (cx_ok [0, 1, 2, 4, 5, 6, 12, 16]) Tryz.func32 rfl (by decide) Tryz.ntmps32 (Nat.le_of_ble_eq_true rfl) fun base => ?_
   refine wrs fun K hK => ?_
   conv => whnf
   refine ⟨rfl, ?_⟩
   conv => whnf
   intro b_1 hs_1 hh_1 hf_1
   try dsimp only at hh_1 hf_1
   conv => whnf
   refine hK _ ?_
   clear hK K
   refine W.seqK fun K1 hK1 => ?_
   refine wrs fun K hK => ?_
   conv => whnf
   refine ⟨⟨rfl, by decide, fun x hx => (by simp at hx; subst hx; exact ⟨rfl, rfl⟩)⟩, ?_⟩
   conv => whnf
   intro b_2 hs_2 hh_2 hf_2
   try dsimp only at hh_2 hf_2
   conv => whnf
   refine callV rfl (elements_tr kp g0 (some b_2) f.l 1 _ (fun _ => X.l) (by omega) (by omega) (els1 g1 X.l)) fun hs' hhs => ?_
   try dsimp only at hhs
   conv => whnf
   rw [show codeEl kp f.l true 1 (fun _ => X.l) = 0 from hc]
   refine hK _ ?_
   clear hK K
   refine wrs fun K hK => ?_
   conv => whnf
   refine hK _ (W.cond ⟨fun hcc => absurd rfl (of_decide_eq_true hcc), fun _ => W.skip (hK1 _ ?_)⟩)
   clear hK K hK1 K1
   refine W.seqK fun K1 hK1 => ?_
   refine wrs fun K hK => ?_
   conv => whnf
   refine hK _ (W.cond ⟨fun _ => ?_, fun h4 => absurd (of_decide_eq_false h4) (by omega)⟩)
   clear hK K
   refine wrs fun K hK => ?_
   conv => whnf
   refine hK _ ?_
   clear hK K
   refine W.ret ?_
   conv => whnf
   exact ⟨.v (.int .i64 0), ⟨rfl, rfl⟩, trivial, .v (.int .i64 5), ⟨rfl, rfl⟩, trivial, rfl⟩
 have hX1 : dg X ≠ 0 := fun e => hX0 (dg_eq_zero.1 e)
 obtain ⟨d, hd⟩ : ∃ d, dg f = d + 1 := ⟨dg f - 1, by have := hfi.1; omega⟩
 obtain ⟨e0, he0⟩ := exists_isOrd _ (by have := (fld_q hk hd).2.2; omega) (fermat hfi (small_ndvd hX0 hxl) hd)
 refine ⟨e0, 0, fun g0 g1 => ?_, fun g0 g1 => ?_, (codeU_ok hc fun e => hX0 (ext_l (e.trans zero_l.symm))).symm, fun hp' f' X' e1 e2 _ => by (obtain rfl := ext_l e1; obtain rfl := ext_l e2; exact ⟨e0, rfl, he0⟩)⟩
 ·refine fn_of (cx_ok [0, 1, 2, 4, 5, 6, 17, 19]) Tryz.func33 rfl (by decide) Tryz.ntmps33 (Nat.le_of_ble_eq_true rfl) fun base => ?_
  refine wrs fun K hK => ?_
  conv => whnf
  refine ⟨rfl, ?_⟩
  conv => whnf
  intro b_1 hs_1 hh_1 hf_1
  try dsimp only at hh_1 hf_1
  conv => whnf
  refine hK _ ?_
  clear hK K
  refine wrs fun K hK => ?_
  conv => whnf
  refine callV rfl (l17Code_one kp g0 g1 g1 f.l X.l (by omega) (by omega)) fun hs' hhs => ?_
  try dsimp only at hhs
  conv => whnf
  rw [hc]
  refine hK _ ?_
  clear hK K
  refine W.seqK fun K1 hK1 => ?_
  refine wrs fun K hK => ?_
  conv => whnf
  refine ⟨fun h => ?_, fun h => ?_⟩ <;> conv => whnf
  ·refine hK _ (W.cond ⟨fun h4 => absurd (of_decide_eq_true h4) (by omega), fun _ => W.skip (hK1 _ ?_)⟩)
   clear hK K hK1 K1
   refine W.seqK fun K1 hK1 => ?_
   refine wrs fun K hK => ?_
   conv => whnf
   refine hK _ (W.cond ⟨fun hcc => absurd rfl (of_decide_eq_true hcc), fun _ => W.skip (hK1 _ ?_)⟩)
   clear hK K hK1 K1
   refine wrs fun K hK => ?_
   conv => whnf
   refine callV rfl (l17ElementOrder_fn kp g0 g1 f X hk hfi hX0 hxl e0 he0) fun hs' hhs => ?_
   try dsimp only at hhs
   conv => whnf
   refine hK _ ?_
   clear hK K
   refine W.ret ?_
   conv => whnf
   exact ⟨.v (.int .i64 e0), ⟨rfl, rfl⟩, trivial, .v (.int .i64 0), ⟨rfl, rfl⟩, trivial, rfl⟩
  ·exact absurd rfl (of_decide_eq_false h)
 ·refine fn_of (cx_ok [0, 1, 2, 4, 5, 6, 12, 16]) Tryz.func32 rfl (by decide) Tryz.ntmps32 (Nat.le_of_ble_eq_true rfl) fun base => ?_
  refine wrs fun K hK => ?_
  conv => whnf
  refine ⟨rfl, ?_⟩
  conv => whnf
  intro b_1 hs_1 hh_1 hf_1
  try dsimp only at hh_1 hf_1
  conv => whnf
  refine hK _ ?_
  clear hK K
  refine W.seqK fun K1 hK1 => ?_
  refine wrs fun K hK => ?_
  conv => whnf
  refine ⟨⟨rfl, by decide, fun x hx => (by simp at hx; subst hx; exact ⟨rfl, rfl⟩)⟩, ?_⟩
  conv => whnf
  intro b_2 hs_2 hh_2 hf_2
  try dsimp only at hh_2 hf_2
  conv => whnf
  refine callV rfl (elements_tr kp g0 (some b_2) f.l 1 _ (fun _ => X.l) (by omega) (by omega) (els1 g1 X.l)) fun hs' hhs => ?_
  try dsimp only at hhs
  conv => whnf
  rw [show codeEl kp f.l true 1 (fun _ => X.l) = 0 from hc]
  refine hK _ ?_
  clear hK K
  refine wrs fun K hK => ?_
  conv => whnf
  refine hK _ (W.cond ⟨fun hcc => absurd rfl (of_decide_eq_true hcc), fun _ => W.skip (hK1 _ ?_)⟩)
  clear hK K hK1 K1
  refine W.seqK fun K1 hK1 => ?_
  refine wrs fun K hK => ?_
  conv => whnf
  refine hK _ (W.cond ⟨fun h4 => absurd (of_decide_eq_true h4) (by omega), fun _ => W.skip (hK1 _ ?_)⟩)
  clear hK K hK1 K1
  refine wrs fun K hK => ?_
  conv => whnf
  refine callV rfl (orderOf_fn kp g0 g1 f X hk hfi hX0 hxl e0 he0) fun hs' hhs => ?_
  try dsimp only at hhs
  conv => whnf
  refine hK _ ?_
  clear hK K
  refine W.ret ?_
  conv => whnf
  exact ⟨.v (.int .i64 e0), ⟨rfl, rfl⟩, trivial, .v (.int .i64 0), ⟨rfl, rfl⟩, trivial, rfl⟩
open Go Go.RowKit Go.Proofs Poly
set_option maxRecDepth 100000
set_option maxHeartbeats 8000000

def Prim {p : Int} [SP p] (f X : Poly p) : Prop := IsOrd f X (p.toNat ^ (dg f - 1) - 1)
theorem Prim.ne {p : Int} [SP p] {f X : Poly p} (hi : Irr f) (h : Prim f X) : X ≠ 0 := ndvd_ne (h.ndvd hi)
open Go Go.RowKit Go.Proofs Poly
set_option maxRecDepth 100000
set_option maxHeartbeats 8000000

theorem smul_take {ys : List Int} {i : Nat} (h : i < ys.length) : smulL (-1) (ys.take (i + 1)) = smulL (-1) (ys.take i) ++ [-(cf ys i)] := by
 have h1 := take_map_succ (fun x => (-1) * x) h
 have e : ys.getD i 0 = cf ys i := rfl
 rw [e] at h1
 unfold smulL
 rw [h1]; congr 2; omega
theorem minus_wide (g g' : Option Nat) (xs ys : List Int) (hx : Bd 9223372036854775807 xs) (hy : Bd 9223372036854775807 ys) (hs : ∀ j, -9223372036854775807 ≤ cf xs j - cf ys j ∧ cf xs j - cf ys j ≤ 9223372036854775807) (hxl : xs.length ≤ 1000000) (hyl : ys.length ≤ 1000000) : FnI 235 [.ints g xs, .ints g' ys] (trimZ (addL xs (smulL (-1) ys))) := by
 refine fn_of (cx_ok [0, 1, 4, 5, 7, 8, 9, 10, 11]) Tryz.func235 rfl (by decide) Tryz.ntmps235 (Nat.le_of_ble_eq_true rfl) fun base => ?_
 refine wrs fun K hK => ?_
 conv => whnf
 refine hK _ ?_
 clear hK K
 refine wrs fun K hK => ?_
 conv => whnf
 refine hK _ ?_
 clear hK K
 refine W.seqK fun K1 hK1 => ?_
 refine wrs fun K hK => ?_
 conv => whnf
 refine hK _ (W.block (W.invA (fun m e => ∃ i b : Nat, i ≤ ys.length ∧ m = ys.length - i ∧ e = [(0, .v (.ints g xs)), (5, .ownI 2 b (smulL (-1) (ys.take i))), (8, .v (.ints g' ys)), (9, .v (.int .i64 ys.length)), (10, .v (.int .i64 i))]) ⟨0, 0, Nat.zero_le _, rfl, rfl⟩ ?_))
 clear hK K
 rintro m e ⟨i, b, hi, hm, rfl⟩
 refine wrs fun K hK => ?_
 conv => whnf
 refine hK _ ?_
 clear hK K
 refine W.seqK fun K7 hK7 => W.cond ⟨fun h => ?_, fun h => ?_⟩ <;> (first | replace h := of_decide_eq_true h | replace h := of_decide_eq_false h)
 ·have hi2 : i < ys.length := by omega
  have hyi := hy i
  have hst := smul_take hi2
  have hsl : (smulL (-1) (ys.take i)).length = i := by simp [smulL]; omega
  refine W.skip (hK7 _ ?_)
  clear hK7 K7
  refine W.seqK fun K8 hK8 => W.block ?_
  refine wrs fun K hK => ?_
  conv => whnf
  refine ⟨oo, ?_⟩
  conv => whnf
  rw [Int.toNat_natCast]
  refine hK _ ?_
  clear hK K
  refine wrg ?_
  conv => whnf
  refine ⟨by show _ ≤ -(cf ys i) ∧ -(cf ys i) ≤ _; omega, ?_⟩
  conv => whnf
  refine ⟨⟨rfl, by decide⟩, ?_⟩
  conv => whnf
  intro b_1 hs_1 hh_1 hf_1
  try dsimp only at hh_1 hf_1
  conv => whnf
  refine ⟨by dsimp only [List.length]; omega, ?_⟩
  conv => whnf
  intro b_2 hs_2 hh_2 hf_2
  try dsimp only at hh_2 hf_2
  conv => whnf
  refine hK8 _ ?_
  clear hK8 K8
  refine wrg ?_
  conv => whnf
  refine ⟨oo, ?_⟩
  conv => whnf
  exact againA ⟨i + 1, b_2, by omega, rfl, by rw [hst]⟩
 ·obtain rfl : i = ys.length := by omega
  rw [List.take_length]
  have hsl : (smulL (-1) ys).length = ys.length := by simp [smulL]
  refine W.exit (hK1 _ ?_)
  clear hK7 K7 hK1 K1
  refine wrs fun K hK => ?_
  conv => whnf
  refine callI rfl (sumOf_wide g (some b) xs (smulL (-1) ys) hx (fun j => by rw [cf_smulL]; have := hs j; omega) (by omega) (by omega)) fun hs_3 b_3 hh_3 hf_3 => ?_
  try dsimp only at hh_3 hf_3
  conv => whnf
  refine hK _ ?_
  clear hK K
  refine W.ret ?_
  conv => whnf
  exact ⟨.ownI 2 _ (trimZ (addL xs (smulL (-1) ys))), ⟨rfl, rfl, rfl⟩, trivial, _, rfl⟩

theorem minus_fn (g g' : Option Nat) (xs ys : List Int) (hx : Bd 1000000000000 xs) (hy : Bd 1000000000000 ys) (hxl : xs.length ≤ 1000000) (hyl : ys.length ≤ 1000000) : FnI 235 [.ints g xs, .ints g' ys] (trimZ (addL xs (smulL (-1) ys))) :=
 minus_wide g g' xs ys (hx.le (by omega)) (hy.le (by omega)) (fun j => by have := hx j; have := hy j; omega) hxl hyl

theorem sub_l {p : Int} [SP p] (X Y : Poly p) : nrm p (trimZ (addL X.l (smulL (-1) Y.l))) = (X - Y).l := nrm_trim _ _

theorem cofactor_fn (p : Int) [SP p] (g g' : Option Nat) (h f U : Poly p) (hf : dg f ≤ 500) (hh : dg h ≤ 500) (h2 : 2 ≤ dg f) (hU : dg U < dg f) (hU2 : f ∣ h * U - 1) : FnI 193 [.int .i64 p, .ints g h.l, .ints g' f.l] U.l := by
 have hp := Pr.two (p := p)
 have hp2 := SP.le (p := p)
 have hf0 : f ≠ 0 := fun e => by rw [e, dg_zero] at h2; omega
 have hfl : f.l.length = dg f := rfl
 have hcop : Cop f h := by
  obtain ⟨q, hq⟩ := hU2
  exact ⟨-q, U, comb 1 hq (ring [f, h, U, q] (by rfl))⟩
 refine fn_of (cx_ok [0, 1, 2, 6, 7, 8, 9, 10, 11, 12, 21]) Tryz.func193 rfl (by decide) Tryz.ntmps193 (Nat.le_of_ble_eq_true rfl) fun base => ?_
 refine wrs fun K hK => ?_
 conv => whnf
 refine hK _ ?_
 clear hK K
 refine wrs fun K hK => ?_
 conv => whnf
 refine callV rfl (remainder_fn p g g' h f (by omega) (by omega) hf0) fun hs' hhs => ?_
 try dsimp only at hhs
 conv => whnf
 refine hK _ ?_
 clear hK K
 refine wrs fun K hK => ?_
 conv => whnf
 refine ⟨⟨rfl, by decide⟩, ?_⟩
 conv => whnf
 intro b_1 hs_1 hh_1 hf_1
 try dsimp only at hh_1 hf_1
 conv => whnf
 refine hK _ ?_
 clear hK K
 refine W.seqK fun K1 hK1 => W.block (W.invA (fun m e => ∃ (a b u v : Poly p) (ga : Option Nat) (su sv : List Int), CofI f h a b u v ∧ su = u.l ∧ sv = v.l ∧ m = dg b ∧ e = [(0, .v (.int .i64 p)), (7, .v (.ints ga a.l)), (8, .v (.ints none b.l)), (9, .v (.ints none su)), (10, .v (.ints none sv))]) ⟨f, rem h f, 0, 1, g', [], [1], CofI.start hf0 hcop, zero_l.symm, one_l.symm, rfl, rfl⟩ ?_)
 rintro m e ⟨a, b, u, v, ga, su, sv, hI, rfl, rfl, hm, rfl⟩
 obtain ⟨hu, hv, ha, hb⟩ := hI.few
 have hbl : b.l.length = dg b := rfl
 have hul : u.l.length = dg u := rfl
 refine W.seqK fun K7 hK7 => wrs fun K hK => ?_
 conv => whnf
 refine hK _ (W.cond ⟨fun h1 => ?_, fun h1 => ?_⟩) <;> clear hK K <;> (first | replace h1 := of_decide_eq_true h1 | replace h1 := of_decide_eq_false h1)
 ·have hb0 : b ≠ 0 := fun e => by have := dg_eq_zero.2 e; omega
  have hn := hI.step hb0
  have hlt := rem_lt a hb0
  have hqd := quo_dg hI.a0 hb0 (Nat.le_of_lt hI.lt)
  have hqv := dg_mul_le (quo a b) v
  have hqvl : (quo a b * v).l.length = dg (quo a b * v) := rfl
  refine W.skip (hK7 _ (W.block ?_))
  clear hK7 K7
  refine wrs fun K hK => ?_
  conv => whnf
  refine callV rfl (divide_fn p ga none a b (by omega) (by omega) hb0) fun hs' hhs => ?_
  try dsimp only at hhs
  conv => whnf
  refine hK _ ?_
  clear hK K
  refine wrs fun K hK => ?_
  conv => whnf
  refine hK _ ?_
  clear hK K
  refine wrg ?_
  conv => whnf
  refine callI rfl (times_fn p none none (quo a b) v (by omega) (by omega)) fun hs_2 b_2 hh_2 hf_2 => ?_
  try dsimp only at hh_2 hf_2
  conv => whnf
  refine callI rfl (minus_fn none (some b_2) u.l (quo a b * v).l ((l_bd u).le (by omega)) ((l_bd _).le (by omega)) (by omega) (by omega)) fun hs_3 b_3 hh_3 hf_3 => ?_
  try dsimp only at hh_3 hf_3
  conv => whnf
  refine callI rfl (reduce_fn p (by omega) (by omega) (some b_3) (trimZ (addL u.l (smulL (-1) (quo a b * v).l))) (fun i => by rw [cf_trimZ, cf_addL, cf_smulL]; have := cf_bd u i; have := cf_bd (quo a b * v) i; omega) (by have := trimZ_length (addL u.l (smulL (-1) (quo a b * v).l)); unfold addL smulL at *; rw [mkL_length, List.length_map] at *; omega)) fun hs_4 b_4 hh_4 hf_4 => ?_
  try dsimp only at hh_4 hf_4
  conv => whnf
  rw [sub_l]
  exact againA ⟨b, rem a b, v, u - quo a b * v, none, _, _, hn, rfl, rfl, rfl, rfl⟩
 ·have hb0 : b = 0 := dg_eq_zero.1 (by omega)
  subst hb0
  have ha1 := hI.cop.unit
  have hal : a.l.length = dg a := rfl
  have hc0 : cf a.l 0 % p ≠ 0 := cf_ne_mod (dg_lead (by omega))
  obtain ⟨i1, i2, i3⟩ := invm_spec hc0
  obtain ⟨f1, f2⟩ := hI.fin i3
  have hU3 : u * con p (invm p (cf a.l 0)) = U := by
   have h3 := dvd_sub f2 hU2
   rw [show h * (u * con p (invm p (cf a.l 0))) - 1 - (h * U - 1) = h * (u * con p (invm p (cf a.l 0)) - U) from ring [h, u, con p (invm p (cf a.l 0)), U] (by rfl)] at h3
   have h4 := hcop.dvd h3
   exact eq_of_sub0 (Classical.byContradiction fun h0 => small_ndvd h0 (by have := dg_sub (u * con p (invm p (cf a.l 0))) U; omega) h4)
  have i4 : invm p (cf a.l 0) ≠ 0 := fun e => by rw [e] at i3; simp at i3
  have hcl := con_l (p := p) (c := invm p (cf a.l 0)) (by omega) i2
  have hcd := con_dg (p := p) (invm p (cf a.l 0))
  refine W.exit (hK1 _ ?_)
  clear hK7 K7 hK1 K1
  refine wrs fun K hK => ?_
  conv => whnf
  refine ⟨oo, ?_⟩
  conv => whnf
  refine callV rfl (inverseBy_fn p _ (by have := l_bd a 0; show _ ≤ cf a.l 0 ∧ cf a.l 0 ≤ _; omega) hc0) fun hs' hhs => ?_
  try dsimp only at hhs
  conv => whnf
  refine ⟨⟨rfl, by decide⟩, ?_⟩
  conv => whnf
  intro b_2 hs_2 hh_2 hf_2
  try dsimp only at hh_2 hf_2
  conv => whnf
  have e9 : [invm p (cf a.l 0)] = (con p (invm p (cf a.l 0))).l := hcl.symm
  have e8 : [invm p (a.l.getD (Int.toNat 0) 0)] = (con p (invm p (cf a.l 0))).l := e9
  rw [e8]
  refine callI rfl (times_fn p none _ u (con p (invm p (cf a.l 0))) (by omega) (by omega)) fun hs_3 b_3 hh_3 hf_3 => ?_
  try dsimp only at hh_3 hf_3
  conv => whnf
  rw [hU3]
  refine hK _ ?_
  clear hK K
  refine W.ret ?_
  conv => whnf
  exact ⟨.ownI 2 _ (U.l), ⟨rfl, rfl, rfl⟩, trivial, _, rfl⟩

open Go Go.RowKit Go.Proofs Poly
set_option maxRecDepth 100000
set_option maxHeartbeats 8000000

theorem InvertElement_E (kp : Int) (kl x : List Int) (_ : inR kp) (hkl : kl.length ≤ 1048576) (hx : x.length ≤ 1048576) : ∃ (r0 : List Int) (r1 : Int),
  (∀ g0 g1 : Option Nat, FnV 31 [vK kp g0 kl, .ints g1 x] (.tup [.ints none r0, .int .i64 r1])) ∧ (∀ g0 g1 : Option Nat, FnT Tryz.prog 30 [vK kp g0 kl, .ints g1 x] (RT r0 r1)) ∧ r0.length ≤ 1000000 ∧ r1 = codeU kp kl x ∧ ∀ hp : kp ∈ primes, letI := sp_of hp; ∀ f X : Poly kp, f.l = kl → X.l = x → codeU kp kl x = 0 → ∃ Y : Poly kp, r0 = Y.l ∧ dg Y < dg f ∧ f ∣ X * Y - 1 := by
 generalize hc : code1 kp kl x = c
 by_cases h0 : c = 0
 case neg =>
  have hu := codeU_bad hc h0
  refine ⟨[], c, fun g0 g1 => ?_, fun g0 g1 => ?_, by simp, hu.symm, fun _ _ _ _ _ h => absurd (hu.symm.trans h) h0⟩
  ·refine fn_of (cx_ok [0, 1, 2, 4, 5, 6, 17, 19]) Tryz.func31 rfl (by decide) Tryz.ntmps31 (Nat.le_of_ble_eq_true rfl) fun base => ?_
   refine wrs fun K hK => ?_
   conv => whnf
   refine ⟨rfl, ?_⟩
   conv => whnf
   intro b_1 hs_1 hh_1 hf_1
   try dsimp only at hh_1 hf_1
   conv => whnf
   refine hK _ ?_
   clear hK K
   refine wrs fun K hK => ?_
   conv => whnf
   refine callV rfl (l17Code_one kp g0 g1 g1 kl x (by omega) (by omega)) fun hs' hhs => ?_
   try dsimp only at hhs
   conv => whnf
   rw [hc]
   refine hK _ ?_
   clear hK K
   refine W.seqK fun K1 hK1 => ?_
   refine wrs fun K hK => ?_
   conv => whnf
   refine ⟨fun h => ?_, fun h => ?_⟩ <;> conv => whnf
   ·exact absurd (of_decide_eq_true h) h0
   refine hK _ (W.condF rfl (W.skip (hK1 _ ?_)))
   clear hK K hK1 K1
   refine W.seqK fun K1 hK1 => ?_
   refine wrs fun K hK => ?_
   conv => whnf
   refine hK _ (W.cond ⟨fun _ => ?_, fun hcc => absurd h0 (of_decide_eq_false hcc)⟩)
   clear hK K
   refine wrs fun K hK => ?_
   conv => whnf
   refine hK _ ?_
   clear hK K
   refine W.ret ?_
   conv => whnf
   exact ⟨.v (.ints none []), rfl, trivial, .v (.int .i64 c), ⟨rfl, rfl⟩, trivial, rfl⟩
  ·refine fnt_of (cxt_ok [] [0, 1, 2, 4, 5, 6, 12, 16, 1000000]) Tryz.func30 rfl (by decide) Tryz.ntmps30 (Nat.le_of_ble_eq_true rfl) (fun base => ?_) (Nat.le_of_ble_eq_true rfl)
   refine W.sw (c' := cx [0, 1, 2, 4, 5, 6, 12, 16, 1000000]) ?_
   refine wrs fun K hK => ?_
   conv => whnf
   refine ⟨rfl, ?_⟩
   conv => whnf
   intro b_1 hs_1 hh_1 hf_1
   try dsimp only at hh_1 hf_1
   conv => whnf
   refine hK _ ?_
   clear hK K
   refine W.seqK fun K1 hK1 => ?_
   refine wrs fun K hK => ?_
   conv => whnf
   refine ⟨⟨rfl, by decide, fun x hx => (by simp at hx; subst hx; exact ⟨rfl, rfl⟩)⟩, ?_⟩
   conv => whnf
   intro b_2 hs_2 hh_2 hf_2
   try dsimp only at hh_2 hf_2
   conv => whnf
   refine callV rfl (elements_tr kp g0 (some b_2) kl 1 _ (fun _ => x) (by omega) (by omega) (els1 g1 x)) fun hs' hhs => ?_
   try dsimp only at hhs
   conv => whnf
   rw [show codeEl kp kl true 1 (fun _ => x) = c from hc]
   refine hK _ ?_
   clear hK K
   refine wrs fun K hK => ?_
   conv => whnf
   refine hK _ (W.cond ⟨fun _ => ?_, fun hcc => absurd h0 (of_decide_eq_false hcc)⟩)
   clear hK K
   refine wrs fun K hK => ?_
   conv => whnf
   refine hK _ ?_
   clear hK K
   refine W.ret ?_
   conv => whnf
   exact ⟨.v (.rf 0 0), rfl, trivial, .v (.int .i64 (c)), ⟨rfl, rfl⟩, trivial, 0, rfl, fun hne => absurd rfl hne⟩
 subst h0
 obtain ⟨hk, hh⟩ := code1_ok hc
 obtain ⟨hp, f, rfl, hfi, _, _, hf9⟩ := fld_poly hk
 letI := sp_of hp
 obtain ⟨X, rfl⟩ := mod_poly hh.1
 have hxl : X.l.length < f.l.length := hh.2
 have hfl : f.l.length = dg f := rfl
 have hXl : X.l.length = dg X := rfl
 have hf0 := hfi.ne
 have hp1 := primes_le hp
 by_cases hX0 : X = 0
 case pos =>
  have hX1 : dg X = 0 := dg_eq_zero.2 hX0
  have hu : codeU kp f.l X.l = 5 := by rw [hX0, zero_l] at hc ⊢; exact codeU_nil hc
  refine ⟨[], 5, fun g0 g1 => ?_, fun g0 g1 => ?_, by simp, hu.symm, fun _ _ _ _ _ h => absurd (hu.symm.trans h) (by decide)⟩
  ·refine fn_of (cx_ok [0, 1, 2, 4, 5, 6, 17, 19]) Tryz.func31 rfl (by decide) Tryz.ntmps31 (Nat.le_of_ble_eq_true rfl) fun base => ?_
   refine wrs fun K hK => ?_
   conv => whnf
   refine ⟨rfl, ?_⟩
   conv => whnf
   intro b_1 hs_1 hh_1 hf_1
   try dsimp only at hh_1 hf_1
   conv => whnf
   refine hK _ ?_
   clear hK K
   refine wrs fun K hK => ?_
   conv => whnf
   refine callV rfl (l17Code_one kp g0 g1 g1 f.l X.l (by omega) (by omega)) fun hs' hhs => ?_
   try dsimp only at hhs
   conv => whnf
   rw [hc]
   refine hK _ ?_
   clear hK K
   refine W.seqK fun K1 hK1 => ?_
   refine wrs fun K hK => ?_
   conv => whnf
   refine ⟨fun h => ?_, fun h => ?_⟩ <;> conv => whnf
   ·refine hK _ (W.cond ⟨fun _ => ?_, fun h4 => absurd (of_decide_eq_false h4) (by omega)⟩)
    clear hK K
    refine wrg ?_
    conv => whnf
    refine hK1 _ ?_
    clear hK1 K1
    refine W.seqK fun K1 hK1 => ?_
    refine wrs fun K hK => ?_
    conv => whnf
    refine hK _ (W.cond ⟨fun _ => ?_, fun hcc => absurd (by decide : (5 : Int) ≠ 0) (of_decide_eq_false hcc)⟩)
    clear hK K
    refine wrs fun K hK => ?_
    conv => whnf
    refine hK _ ?_
    clear hK K
    refine W.ret ?_
    conv => whnf
    exact ⟨.v (.ints none []), rfl, trivial, .v (.int .i64 5), ⟨rfl, rfl⟩, trivial, rfl⟩
   ·exact absurd rfl (of_decide_eq_false h)
  ·refine fnt_of (cxt_ok [] [0, 1, 2, 4, 5, 6, 12, 16, 1000000]) Tryz.func30 rfl (by decide) Tryz.ntmps30 (Nat.le_of_ble_eq_true rfl) (fun base => ?_) (Nat.le_of_ble_eq_true rfl)
   refine W.sw (c' := cx [0, 1, 2, 4, 5, 6, 12, 16, 1000000]) ?_
   refine wrs fun K hK => ?_
   conv => whnf
   refine ⟨rfl, ?_⟩
   conv => whnf
   intro b_1 hs_1 hh_1 hf_1
   try dsimp only at hh_1 hf_1
   conv => whnf
   refine hK _ ?_
   clear hK K
   refine W.seqK fun K1 hK1 => ?_
   refine wrs fun K hK => ?_
   conv => whnf
   refine ⟨⟨rfl, by decide, fun x hx => (by simp at hx; subst hx; exact ⟨rfl, rfl⟩)⟩, ?_⟩
   conv => whnf
   intro b_2 hs_2 hh_2 hf_2
   try dsimp only at hh_2 hf_2
   conv => whnf
   refine callV rfl (elements_tr kp g0 (some b_2) f.l 1 _ (fun _ => X.l) (by omega) (by omega) (els1 g1 X.l)) fun hs' hhs => ?_
   try dsimp only at hhs
   conv => whnf
   rw [show codeEl kp f.l true 1 (fun _ => X.l) = 0 from hc]
   refine hK _ ?_
   clear hK K
   refine wrs fun K hK => ?_
   conv => whnf
   refine hK _ (W.cond ⟨fun hcc => absurd rfl (of_decide_eq_true hcc), fun _ => W.skip (hK1 _ ?_)⟩)
   clear hK K hK1 K1
   refine W.seqK fun K1 hK1 => ?_
   refine wrs fun K hK => ?_
   conv => whnf
   refine hK _ (W.cond ⟨fun _ => ?_, fun h4 => absurd (of_decide_eq_false h4) (by omega)⟩)
   clear hK K
   refine wrs fun K hK => ?_
   conv => whnf
   refine hK _ ?_
   clear hK K
   refine W.ret ?_
   conv => whnf
   exact ⟨.v (.rf 0 0), rfl, trivial, .v (.int .i64 (5)), ⟨rfl, rfl⟩, trivial, 0, rfl, fun hne => absurd rfl hne⟩
 have hX1 : dg X ≠ 0 := fun e => hX0 (dg_eq_zero.1 e)
 obtain ⟨d, hd⟩ : ∃ d, dg f = d + 1 := ⟨dg f - 1, by have := hfi.1; omega⟩
 obtain ⟨hq1, hq2, hq3⟩ := fld_q hk hd
 have hiv := inv_pow hfi (small_ndvd hX0 hxl) hd
 have hil := rem_lt (X ^ (2 * kp.toNat ^ d - 3)) hf0
 generalize kp.toNat ^ d = q at hq1 hq2 hq3 hiv hil
 refine ⟨(rem (X ^ (2 * q - 3)) f).l, 0, fun g0 g1 => ?_, fun g0 g1 => ?_, by show dg _ ≤ _; omega, (codeU_ok hc fun e => hX0 (ext_l (e.trans zero_l.symm))).symm, fun hp' f' X' e1 e2 _ => by (obtain rfl := ext_l e1; obtain rfl := ext_l e2; exact ⟨_, rfl, hil, hiv⟩)⟩
 ·refine fn_of (cx_ok [0, 1, 2, 4, 5, 6, 17, 19]) Tryz.func31 rfl (by decide) Tryz.ntmps31 (Nat.le_of_ble_eq_true rfl) fun base => ?_
  refine wrs fun K hK => ?_
  conv => whnf
  refine ⟨rfl, ?_⟩
  conv => whnf
  intro b_1 hs_1 hh_1 hf_1
  try dsimp only at hh_1 hf_1
  conv => whnf
  refine hK _ ?_
  clear hK K
  refine wrs fun K hK => ?_
  conv => whnf
  refine callV rfl (l17Code_one kp g0 g1 g1 f.l X.l (by omega) (by omega)) fun hs' hhs => ?_
  try dsimp only at hhs
  conv => whnf
  rw [hc]
  refine hK _ ?_
  clear hK K
  refine W.seqK fun K1 hK1 => ?_
  refine wrs fun K hK => ?_
  conv => whnf
  refine ⟨fun h => ?_, fun h => ?_⟩ <;> conv => whnf
  ·refine hK _ (W.cond ⟨fun h4 => absurd (of_decide_eq_true h4) (by omega), fun _ => W.skip (hK1 _ ?_)⟩)
   clear hK K hK1 K1
   refine W.seqK fun K1 hK1 => ?_
   refine wrs fun K hK => ?_
   conv => whnf
   refine hK _ (W.cond ⟨fun hcc => absurd rfl (of_decide_eq_true hcc), fun _ => W.skip (hK1 _ ?_)⟩)
   clear hK K hK1 K1
   refine W.rd (cx_ok _) follows (by rfl) fun K hK => ?_
   conv => whnf
   refine ⟨_, cxF (l17Size_fn kp g0 f.l hk), ?_⟩
   conv => whnf
   rw [hq1]
   refine ⟨oo, ?_⟩
   conv => whnf
   refine ⟨oo, ?_⟩
   conv => whnf
   rw [show (2 : Int) * ((q : Nat) : Int) - 3 = ((2 * q - 3 : Nat) : Int) by omega]
   refine ⟨_, cxF (l17Power_fn kp g0 g1 f X (2 * q - 3) (by omega) (by omega) (by omega) hf0), ?_⟩
   conv => whnf
   refine hK _ ?_
   clear hK K
   refine W.ret ?_
   conv => whnf
   exact ⟨.v (.ints none (rem (X ^ (2 * q - 3)) f).l), ⟨rfl, rfl⟩, trivial, .v (.int .i64 0), ⟨rfl, rfl⟩, trivial, rfl⟩
  ·exact absurd rfl (of_decide_eq_false h)
 ·refine fnt_of (cxt_ok [] [0, 1, 2, 4, 5, 6, 12, 16, 1000000]) Tryz.func30 rfl (by decide) Tryz.ntmps30 (Nat.le_of_ble_eq_true rfl) (fun base => ?_) (Nat.le_of_ble_eq_true rfl)
  refine W.sw (c' := cx [0, 1, 2, 4, 5, 6, 12, 16, 1000000]) ?_
  refine wrs fun K hK => ?_
  conv => whnf
  refine ⟨rfl, ?_⟩
  conv => whnf
  intro b_1 hs_1 hh_1 hf_1
  try dsimp only at hh_1 hf_1
  conv => whnf
  refine hK _ ?_
  clear hK K
  refine W.seqK fun K1 hK1 => ?_
  refine wrs fun K hK => ?_
  conv => whnf
  refine ⟨⟨rfl, by decide, fun x hx => (by simp at hx; subst hx; exact ⟨rfl, rfl⟩)⟩, ?_⟩
  conv => whnf
  intro b_2 hs_2 hh_2 hf_2
  try dsimp only at hh_2 hf_2
  conv => whnf
  refine callV rfl (elements_tr kp g0 (some b_2) f.l 1 _ (fun _ => X.l) (by omega) (by omega) (els1 g1 X.l)) fun hs' hhs => ?_
  try dsimp only at hhs
  conv => whnf
  rw [show codeEl kp f.l true 1 (fun _ => X.l) = 0 from hc]
  refine hK _ ?_
  clear hK K
  refine wrs fun K hK => ?_
  conv => whnf
  refine hK _ (W.cond ⟨fun hcc => absurd rfl (of_decide_eq_true hcc), fun _ => W.skip (hK1 _ ?_)⟩)
  clear hK K hK1 K1
  refine W.seqK fun K1 hK1 => ?_
  refine wrs fun K hK => ?_
  conv => whnf
  refine hK _ (W.cond ⟨fun h4 => absurd (of_decide_eq_true h4) (by omega), fun _ => W.skip (hK1 _ ?_)⟩)
  clear hK K hK1 K1
  refine W.sw (c' := cxt [] [0, 1, 2, 4, 5, 6, 12, 16, 1000000]) ?_
  refine W.rs (cxt_ok _ _) (by rfl) fun K hK => ?_
  conv => whnf
  refine callI rfl (cofactor_fn kp g1 g0 X f (rem (X ^ (2 * q - 3)) f) (by omega) (by omega) hfi.1 hil hiv) fun hs_3 b_3 hh_3 hf_3 => ?_
  try dsimp only at hh_3 hf_3
  conv => whnf
  refine hK _ ?_
  clear hK K
  refine W.give 4 fun K hK => ?_
  conv => whnf
  refine hK _ ?_
  clear hK K
  refine W.ret ?_
  conv => whnf
  exact ⟨.v (.rf b_3 _), rfl, trivial, .v (.int .i64 (0)), ⟨rfl, rfl⟩, trivial, b_3, rfl, fun hne => tbAdd_self _ _ hne⟩
/- greatest common divisors of numbers -/
open Go Go.RowKit Go.Proofs Poly
set_option maxRecDepth 100000
set_option maxHeartbeats 8000000

/- how many are primitive -/
open Go Go.RowKit Go.Proofs Poly
set_option maxRecDepth 100000
set_option maxHeartbeats 8000000

def codeCn (p n : Int) : Int := if isP p = true then (if 1 ≤ n ∧ n ≤ 4 then 0 else 2) else 1
theorem codeCn_ok {p n : Int} (h : codeCn p n = 0) : isP p = true ∧ 1 ≤ n ∧ n ≤ 4 := by
 unfold codeCn at h
 by_cases h1 : isP p = true
 ·rw [if_pos h1] at h
  by_cases h2 : 1 ≤ n ∧ n ≤ 4
  ·exact ⟨h1, h2⟩
  ·rw [if_neg h2] at h; cases h
 ·rw [if_neg h1] at h; cases h

theorem first_list {p : Int} (hp : 2 ≤ p) (d : Nat) : (List.replicate (d + 1) (0 : Int)).set d 1 = dig p.toNat (p.toNat ^ d) := by
 have hT : Top p.toNat d ((List.replicate (d + 1) (0 : Int)).set d 1) := by
  refine ⟨by simp, by rw [cf_set (by simp), if_pos rfl], fun x hx => ?_⟩
  obtain ⟨i, hi, rfl⟩ := List.getElem_of_mem hx
  rw [List.getElem_set]
  split
  ·omega
  ·simp; omega
 have hn : num p.toNat ((List.replicate (d + 1) (0 : Int)).set d 1) = p.toNat ^ d := by
  have h1 : (List.replicate (d + 1) (0 : Int)).set d 1 = List.replicate d 0 ++ [1] := by
   refine list_ext (by simp) fun j hj => ?_
   have hj : j < d + 1 := by simpa using hj
   rw [cf_set (by simp)]
   by_cases h2 : j = d
   ·subst h2; rw [if_pos rfl, cf_rep_at]
   ·rw [if_neg h2, cf_replicate, cf_lt (by simp; omega), List.getElem_append_left (by simp; omega)]; simp
  rw [h1, num_zeros]; simp [num]
 rw [← hn, hT.dig (by omega)]

theorem FirstIrreducible_fn (p n : Int) (r : Option Nat) (hr : ∀ h : p ∈ primes, 1 ≤ n ∧ n ≤ 4 → letI := sp_of h; IsFirst (fun k => Irr (polyN p k)) (p.toNat ^ n.toNat) (2 * p.toNat ^ n.toNat) r) :
  FnV 125 [.int .i64 p, .int .i64 n] (if codeCn p n = 0 then RV (outL p.toNat r) 0 else RV [] (codeCn p n)) := by
 by_cases hc : codeCn p n = 0
 ·obtain ⟨hp0, hn1, hn4⟩ := codeCn_ok hc
  have hp := isP_le hp0
  have hpr : p ∈ primes := of_decide_eq_true hp0
  have hr := hr hpr ⟨hn1, hn4⟩
  letI := sp_of hpr
  rw [if_pos hc]
  obtain ⟨d, rfl⟩ : ∃ d : Nat, n = d := ⟨n.toNat, by omega⟩
  rw [Int.toNat_natCast] at hr
  have hB : 0 < p.toNat ^ d := Nat.pow_pos (by omega)
  have hfl := first_list (p := p) (by omega) d
  refine fn_of (cx_ok [0, 1, 4, 5, 6, 7, 12]) Tryz.func125 rfl (by decide) Tryz.ntmps125 (Nat.le_of_ble_eq_true rfl) fun base => ?_
  refine wrs fun K hK => ?_
  conv => whnf
  refine hK _ ?_
  clear hK K
  refine wrs fun K hK => ?_
  conv => whnf
  refine callV rfl (l10Code_fn p d 1 4) fun hs' hhs => ?_
  try dsimp only at hhs
  conv => whnf
  rw [show (if isP p = true then (if 1 ≤ (d : Int) ∧ (d : Int) ≤ 4 then (0 : Int) else 2) else 1) = 0 from hc]
  refine hK _ ?_
  clear hK K
  refine W.seqK fun K1 hK1 => ?_
  refine wrs fun K hK => ?_
  conv => whnf
  refine hK _ (W.cond ⟨fun hcc => absurd rfl (of_decide_eq_true hcc), fun _ => W.skip (hK1 _ ?_)⟩)
  clear hK K hK1 K1
  refine wrs fun K hK => ?_
  conv => whnf
  refine ⟨oo, ?_⟩
  conv => whnf
  refine ⟨rfl, ?_⟩
  conv => whnf
  refine ⟨oo, ?_⟩
  conv => whnf
  have e1 : ((d : Int) + 1).toNat = d + 1 := by omega
  rw [e1]
  intro b_2 hs_2 hh_2 hf_2
  try dsimp only at hh_2 hf_2
  conv => whnf
  refine hK _ ?_
  clear hK K
  refine wrs fun K hK => ?_
  conv => whnf
  refine ⟨⟨by omega, by simp; omega⟩, ?_⟩
  conv => whnf
  rw [Int.toNat_natCast, hfl]
  refine hK _ ?_
  clear hK K
  refine wrs fun K hK => ?_
  conv => whnf
  refine callV rfl (l10Next_fn p (some b_2) d (p.toNat ^ d) (by omega) (by omega) (Nat.le_refl _) (by omega) r hr) fun hs' hhs => ?_
  try dsimp only at hhs
  conv => whnf
  refine hK _ ?_
  clear hK K
  refine W.ret ?_
  conv => whnf
  exact ⟨.v (.ints none (outL p.toNat r)), ⟨rfl, rfl⟩, trivial, .v (.int .i64 0), ⟨rfl, rfl⟩, trivial, rfl⟩
 ·rw [if_neg hc]
  refine fn_of (cx_ok [0, 1, 4, 5, 6, 7, 12]) Tryz.func125 rfl (by decide) Tryz.ntmps125 (Nat.le_of_ble_eq_true rfl) fun base => ?_
  refine wrs fun K hK => ?_
  conv => whnf
  refine hK _ ?_
  clear hK K
  refine wrs fun K hK => ?_
  conv => whnf
  refine callV rfl (l10Code_fn p n 1 4) fun hs' hhs => ?_
  try dsimp only at hhs
  conv => whnf
  rw [show (if isP p = true then (if 1 ≤ n ∧ n ≤ 4 then (0 : Int) else 2) else 1) = codeCn p n from rfl]
  refine hK _ ?_
  clear hK K
  refine W.seqK fun K1 hK1 => ?_
  refine wrs fun K hK => ?_
  conv => whnf
  refine hK _ (W.cond ⟨fun _ => ?_, fun hcc => absurd hc (of_decide_eq_false hcc)⟩)
  clear hK K
  refine wrs fun K hK => ?_
  conv => whnf
  refine hK _ ?_
  clear hK K
  refine W.ret ?_
  conv => whnf
  exact ⟨.v (.ints none []), rfl, trivial, .v (.int .i64 (codeCn p n)), ⟨rfl, rfl⟩, trivial, rfl⟩

def RTK (q : Int) (l : List Int) (c : Int) : PostT := fun _ _ x tb => ∃ b : Nat, x = .tup [.agg [.int .i64 q, .rf b l.length], .int .i64 c] ∧ (l ≠ [] → tb b = some l)
theorem noK_V {f : Nat} {xs : List V} {c : Int} (h : FnV f xs (.tup [.agg [.int .i64 0, .nil], .int .i64 c])) : FnV f xs (.tup [vK 0 none [], .int .i64 c]) :=
 h.le fun _ _ _ r => rep_tup2 (fun _ r => rep_agg2 (fun _ r => r) rep_nilI rfl rfl r) (fun _ r => r) r
theorem noK_T {f : Nat} {xs : List V} {c : Int} (h : FnT Tryz.prog f xs (fun _ _ x _ => x = .tup [.agg [.int .i64 0, .nil], .int .i64 c])) : FnT Tryz.prog f xs (RTK 0 [] c) :=
 h.le fun _ _ x tb hx => by
  subst hx
  exact ⟨_, ⟨0, rfl, fun h => absurd rfl h⟩, fun _ _ _ r => rep_tup2 (fun _ r => rep_agg2 (fun _ r => r) rep_nilR rfl rfl r) (fun _ r => r) r⟩

theorem MakeField_E (p n : Int) (_ : inR p) (_ : inR n) : ∃ (r0p : Int) (r0l : List Int) (r1 : Int), (FnV 38 [.int .i64 p, .int .i64 n] (.tup [vK r0p none r0l, .int .i64 r1])) ∧ (FnT Tryz.prog 37 [.int .i64 p, .int .i64 n] (RTK r0p r0l r1)) ∧ r0l.length ≤ 1000000 ∧ (r1 = 0 → ∃ hp : p ∈ primes, letI := sp_of hp; ∃ (d : Nat) (r : Option Nat), n = d ∧ 1 ≤ d ∧ d ≤ 4 ∧ p ^ d ≤ 20000 ∧ r0p = p ∧ IsFirst (fun k => Irr (polyN p k)) (p.toNat ^ d) (2 * p.toNat ^ d) r ∧ r0l = outL p.toNat r) := by
 by_cases hc : codeCn p n = 0
 ·obtain ⟨hp0, hn1, hn4⟩ := codeCn_ok hc
  have hp := isP_le hp0
  have hpr : p ∈ primes := of_decide_eq_true hp0
  letI := sp_of hpr
  obtain ⟨d, rfl⟩ : ∃ d : Nat, n = d := ⟨n.toNat, by omega⟩
  obtain ⟨r, hr⟩ := exists_first (fun k => Irr (polyN p k)) (p.toNat ^ d) (2 * p.toNat ^ d)
  have hB : 0 < p.toNat ^ d := Nat.pow_pos (by omega)
  have hpw := pow4 (p := p) (by omega) (by omega) (d := d) (by omega)
  have hpc := pow_p (p := p) (by omega) d
  have hF := FirstIrreducible_fn p d r (fun _ _ => by rw [Int.toNat_natCast]; exact hr)
  rw [if_pos hc] at hF
  have hol : (outL p.toNat r).length ≤ 5 := by
   cases r with
   | none => simp [outL]
   | some m => exact dig_len5 (p := p) (by omega) (d := d) (by omega) hr.2.1
  by_cases hbig : p ^ d ≤ 20000
  ·refine ⟨p, outL p.toNat r, 0, ?_, ?_, by omega, fun _ => ⟨hpr, d, r, rfl, by omega, by omega, hbig, rfl, hr, rfl⟩⟩
   ·refine fn_of (cx_ok [0, 1, 4, 5, 6, 7, 15, 21]) Tryz.func38 rfl (by decide) Tryz.ntmps38 (Nat.le_of_ble_eq_true rfl) fun base => ?_
    refine wrs fun K hK => ?_
    conv => whnf
    intro b_1 hs_1 hh_1 hf_1
    try dsimp only at hh_1 hf_1
    conv => whnf
    refine hK _ ?_
    clear hK K
    refine wrs fun K hK => ?_
    conv => whnf
    refine callV rfl (hF) fun hs' hhs => ?_
    try dsimp only at hhs
    conv => whnf
    refine hK _ ?_
    clear hK K
    refine W.seqK fun K1 hK1 => ?_
    refine wrs fun K hK => ?_
    conv => whnf
    refine hK _ (W.cond ⟨fun hcc => absurd rfl (of_decide_eq_true hcc), fun _ => W.skip (hK1 _ ?_)⟩)
    clear hK K hK1 K1
    refine W.seqK fun K1 hK1 => ?_
    refine wrs fun K hK => ?_
    conv => whnf
    refine callV rfl (l17Order_fn p d (by omega) (by omega) (by omega)) fun hs' hhs => ?_
    try dsimp only at hhs
    conv => whnf
    rw [show ordS p d = p ^ d from if_pos hbig]
    refine hK _ (W.cond ⟨fun h => absurd (of_decide_eq_true h) (by omega), fun _ => W.skip (hK1 _ ?_)⟩)
    clear hK K hK1 K1
    refine wrs fun K hK => ?_
    conv => whnf
    refine ⟨s23, ?_⟩
    conv => whnf
    refine hK _ ?_
    clear hK K
    refine W.ret ?_
    conv => whnf
    exact ⟨⟨trivial, trivial, trivial⟩, .v (.int .i64 0), ⟨rfl, rfl⟩, trivial, rfl⟩
   ·refine fnt_of (cxt_ok [] [0, 1, 4, 5, 6, 7, 13, 19, 1000000]) Tryz.func37 rfl (by decide) Tryz.ntmps37 (Nat.le_of_ble_eq_true rfl) (fun base => ?_) (Nat.le_of_ble_eq_true rfl)
    refine W.sw (c' := cx [0, 1, 4, 5, 6, 7, 13, 19, 1000000]) ?_
    refine wrs fun K hK => ?_
    conv => whnf
    intro b_1 hs_1 hh_1 hf_1
    try dsimp only at hh_1 hf_1
    conv => whnf
    refine hK _ ?_
    clear hK K
    refine W.seqK fun K1 hK1 => ?_
    refine wrs fun K hK => ?_
    conv => whnf
    refine callV rfl (counting_fn p d 1 4) fun hs' hhs => ?_
    try dsimp only at hhs
    conv => whnf
    rw [show (if isP p = true then (if 1 ≤ (d : Int) ∧ (d : Int) ≤ 4 then (0 : Int) else 2) else 1) = 0 from hc]
    refine hK _ ?_
    clear hK K
    refine wrs fun K hK => ?_
    conv => whnf
    refine hK _ (W.cond ⟨fun hcc => absurd rfl (of_decide_eq_true hcc), fun _ => W.skip (hK1 _ ?_)⟩)
    clear hK K hK1 K1
    refine W.seqK fun K1 hK1 => ?_
    refine wrs fun K hK => ?_
    conv => whnf
    refine callV rfl (power_fn p d (fun j hj => pow_inR (by omega) (by omega) (by omega)) (by omega)) fun hs' hhs => ?_
    try dsimp only at hhs
    conv => whnf
    refine hK _ (W.cond ⟨fun h => absurd (of_decide_eq_true h) (by omega), fun _ => W.skip (hK1 _ ?_)⟩)
    clear hK K hK1 K1
    refine W.sw (c' := cxt [199] [0, 1, 4, 5, 6, 7, 13, 19, 1000000]) ?_
    refine W.rs (cxt_ok _ _) (by rfl) fun K hK => ?_
    conv => whnf
    refine callV rfl (power_fn p d (fun j hj => pow_inR (by omega) (by omega) (by omega)) (by omega)) fun hs' hhs => ?_
    try dsimp only at hhs
    conv => whnf
    rw [hpc]
    refine ⟨_, cxT (irreducibleFrom_T p d (p.toNat ^ d) (by omega) (by omega) (by omega) r hr), fun lo_t hi_t hs_t x_t tn_t tb_t hl1_t hl2_t _ hp_t hf_t hn_t ho_t => ?_⟩
    try dsimp only at hl1_t hl2_t
    obtain ⟨bt, rfl, ht⟩ := hp_t
    conv => whnf
    refine hK _ ?_
    clear hK K
    refine W.rs (cxt_ok _ _) (by rfl) fun K hK => ?_
    conv => whnf
    refine ⟨s23, ?_⟩
    conv => whnf
    refine hK _ ?_
    clear hK K
    refine W.ret ?_
    conv => whnf
    exact ⟨⟨trivial, trivial, trivial⟩, .v (.int .i64 0), ⟨rfl, rfl⟩, trivial, bt, rfl, fun h => hn_t _ _ (ht h)⟩
  ·refine ⟨0, [], 3, noK_V ?_, noK_T ?_, by simp, fun h => absurd h (by decide)⟩
   ·refine fn_of (cx_ok [0, 1, 4, 5, 6, 7, 15, 21]) Tryz.func38 rfl (by decide) Tryz.ntmps38 (Nat.le_of_ble_eq_true rfl) fun base => ?_
    refine wrs fun K hK => ?_
    conv => whnf
    intro b_1 hs_1 hh_1 hf_1
    try dsimp only at hh_1 hf_1
    conv => whnf
    refine hK _ ?_
    clear hK K
    refine wrs fun K hK => ?_
    conv => whnf
    refine callV rfl (hF) fun hs' hhs => ?_
    try dsimp only at hhs
    conv => whnf
    refine hK _ ?_
    clear hK K
    refine W.seqK fun K1 hK1 => ?_
    refine wrs fun K hK => ?_
    conv => whnf
    refine hK _ (W.cond ⟨fun hcc => absurd rfl (of_decide_eq_true hcc), fun _ => W.skip (hK1 _ ?_)⟩)
    clear hK K hK1 K1
    refine W.seqK fun K1 hK1 => ?_
    refine wrs fun K hK => ?_
    conv => whnf
    refine callV rfl (l17Order_fn p d (by omega) (by omega) (by omega)) fun hs' hhs => ?_
    try dsimp only at hhs
    conv => whnf
    rw [show ordS p d = 0 from if_neg hbig]
    refine hK _ (W.cond ⟨fun _ => ?_, fun h => absurd rfl (of_decide_eq_false h)⟩)
    clear hK K
    refine wrs fun K hK => ?_
    conv => whnf
    refine ⟨s23, ?_⟩
    conv => whnf
    refine hK _ ?_
    clear hK K
    refine W.ret ?_
    conv => whnf
    exact ⟨⟨trivial, trivial, trivial⟩, .v (.int .i64 3), ⟨rfl, rfl⟩, trivial, rfl⟩
   ·refine fnt_of (cxt_ok [] [0, 1, 4, 5, 6, 7, 13, 19, 1000000]) Tryz.func37 rfl (by decide) Tryz.ntmps37 (Nat.le_of_ble_eq_true rfl) (fun base => ?_) (Nat.le_of_ble_eq_true rfl)
    refine W.sw (c' := cx [0, 1, 4, 5, 6, 7, 13, 19, 1000000]) ?_
    refine wrs fun K hK => ?_
    conv => whnf
    intro b_1 hs_1 hh_1 hf_1
    try dsimp only at hh_1 hf_1
    conv => whnf
    refine hK _ ?_
    clear hK K
    refine W.seqK fun K1 hK1 => ?_
    refine wrs fun K hK => ?_
    conv => whnf
    refine callV rfl (counting_fn p d 1 4) fun hs' hhs => ?_
    try dsimp only at hhs
    conv => whnf
    rw [show (if isP p = true then (if 1 ≤ (d : Int) ∧ (d : Int) ≤ 4 then (0 : Int) else 2) else 1) = 0 from hc]
    refine hK _ ?_
    clear hK K
    refine wrs fun K hK => ?_
    conv => whnf
    refine hK _ (W.cond ⟨fun hcc => absurd rfl (of_decide_eq_true hcc), fun _ => W.skip (hK1 _ ?_)⟩)
    clear hK K hK1 K1
    refine W.seqK fun K1 hK1 => ?_
    refine wrs fun K hK => ?_
    conv => whnf
    refine callV rfl (power_fn p d (fun j hj => pow_inR (by omega) (by omega) (by omega)) (by omega)) fun hs' hhs => ?_
    try dsimp only at hhs
    conv => whnf
    refine hK _ (W.cond ⟨fun _ => ?_, fun h => absurd (of_decide_eq_false h) (by omega)⟩)
    clear hK K
    refine wrs fun K hK => ?_
    conv => whnf
    refine ⟨s23, ?_⟩
    conv => whnf
    refine hK _ ?_
    clear hK K
    refine W.ret ?_
    conv => whnf
    exact ⟨⟨trivial, trivial, trivial⟩, .v (.int .i64 3), ⟨rfl, rfl⟩, trivial, rfl⟩
 ·refine ⟨0, [], codeCn p n, noK_V ?_, noK_T ?_, by simp, fun h => absurd h hc⟩
  ·have hF := FirstIrreducible_fn p n none (fun h hn => by
    have hcc : codeCn p n = 0 := by unfold codeCn; rw [if_pos (decide_eq_true h), if_pos hn]
    exact absurd hcc hc)
   rw [if_neg hc] at hF
   refine fn_of (cx_ok [0, 1, 4, 5, 6, 7, 15, 21]) Tryz.func38 rfl (by decide) Tryz.ntmps38 (Nat.le_of_ble_eq_true rfl) fun base => ?_
   refine wrs fun K hK => ?_
   conv => whnf
   intro b_1 hs_1 hh_1 hf_1
   try dsimp only at hh_1 hf_1
   conv => whnf
   refine hK _ ?_
   clear hK K
   refine wrs fun K hK => ?_
   conv => whnf
   refine callV rfl (hF) fun hs' hhs => ?_
   try dsimp only at hhs
   conv => whnf
   refine hK _ ?_
   clear hK K
   refine W.seqK fun K1 hK1 => ?_
   refine wrs fun K hK => ?_
   conv => whnf
   refine hK _ (W.cond ⟨fun _ => ?_, fun hcc => absurd hc (of_decide_eq_false hcc)⟩)
   clear hK K
   refine wrs fun K hK => ?_
   conv => whnf
   refine ⟨s23, ?_⟩
   conv => whnf
   refine hK _ ?_
   clear hK K
   refine W.ret ?_
   conv => whnf
   exact ⟨⟨trivial, trivial, trivial⟩, .v (.int .i64 (codeCn p n)), ⟨rfl, rfl⟩, trivial, rfl⟩
  ·refine fnt_of (cxt_ok [] [0, 1, 4, 5, 6, 7, 13, 19, 1000000]) Tryz.func37 rfl (by decide) Tryz.ntmps37 (Nat.le_of_ble_eq_true rfl) (fun base => ?_) (Nat.le_of_ble_eq_true rfl)
   refine W.sw (c' := cx [0, 1, 4, 5, 6, 7, 13, 19, 1000000]) ?_
   refine wrs fun K hK => ?_
   conv => whnf
   intro b_1 hs_1 hh_1 hf_1
   try dsimp only at hh_1 hf_1
   conv => whnf
   refine hK _ ?_
   clear hK K
   refine W.seqK fun K1 hK1 => ?_
   refine wrs fun K hK => ?_
   conv => whnf
   refine callV rfl (counting_fn p n 1 4) fun hs' hhs => ?_
   try dsimp only at hhs
   conv => whnf
   rw [show (if isP p = true then (if 1 ≤ n ∧ n ≤ 4 then (0 : Int) else 2) else 1) = codeCn p n from rfl]
   refine hK _ ?_
   clear hK K
   refine wrs fun K hK => ?_
   conv => whnf
   refine hK _ (W.cond ⟨fun _ => ?_, fun hcc => absurd hc (of_decide_eq_false hcc)⟩)
   clear hK K
   refine wrs fun K hK => ?_
   conv => whnf
   refine ⟨s23, ?_⟩
   conv => whnf
   refine hK _ ?_
   clear hK K
   refine W.ret ?_
   conv => whnf
   exact ⟨⟨trivial, trivial, trivial⟩, .v (.int .i64 (codeCn p n)), ⟨rfl, rfl⟩, trivial, rfl⟩
open Go Go.RowKit Go.Proofs Poly
set_option maxRecDepth 100000
set_option maxHeartbeats 8000000


theorem l01DrawPrime_m {n : Nat} {c : Nat → Int} (hc : Byt n c) : MSrc 196 [] n c (fun r => ∃ q : Int, r = .int .i64 q ∧ q ∈ ([1, 4, 0, 97, 101, -3, 9, 2, 3, 5, 7, 11, 13, 17, 31] : List Int)) := by
 rintro b x hx
 refine mfn_ofV (cx := cxt [] [0, 2, 5, 1000000, 1000001]) (cxt_ok [] [0, 2, 5, 1000000, 1000001]) Tryz.func196 rfl (by decide) Tryz.ntmps196 (Nat.le_of_ble_eq_true rfl) (Nat.le_of_ble_eq_true rfl) rfl rfl fun base hs0 O U hw v0 hb0 => ?_
 refine W.sw (c' := cx [0, 2, 5, 1000000, 1000001]) ?_
 refine wrs fun K hK => ?_
 conv => whnf
 refine hK _ ?_
 clear hK K
 refine W.seqK fun K1 hK1 => ?_
 refine wrs fun K hK => ?_
 conv => whnf
 refine ⟨⟨rfl, rfl⟩, ?_⟩
 conv => whnf
 refine ⟨rfl, _, (l01Next_m hc 24 (by constructor <;> decide) b x hx), ?_⟩
 rintro hs_ms1 av x' t' hh_ms1 ⟨rfl, ⟨x1, hx1, rfl⟩, _, rfl, ⟨q, rfl, q0, q1, q2⟩⟩ _ _ _
 try dsimp only at hh_ms1
 conv => whnf
 refine hK _ (W.cond ⟨fun h => ?_, fun h => ?_⟩) <;> clear hK K
 ·refine wrs fun K hK => ?_
  conv => whnf
  refine ⟨⟨rfl, by decide⟩, ?_⟩
  conv => whnf
  intro b_7 hs_7 hh_7 hf_7
  try dsimp only at hh_7 hf_7
  conv => whnf
  refine ⟨⟨rfl, rfl⟩, ?_⟩
  conv => whnf
  refine ⟨rfl, _, (l01Pick_m hc none [1, 4, 0, 97, 101, -3, 9] ⟨by decide, by decide⟩ b x1 hx1), ?_⟩
  rintro hs_ms2 av x' t' hh_ms2 ⟨rfl, ⟨x2, hx2, rfl⟩, _, rfl, ⟨r, rfl, hr⟩⟩ _ _ _
  try dsimp only at hh_ms2
  conv => whnf
  refine hK _ ?_
  clear hK K
  have hr2 : r ∈ ([1, 4, 0, 97, 101, -3, 9, 2, 3, 5, 7, 11, 13, 17, 31] : List Int) := by
   simp only [List.mem_cons, List.not_mem_nil, or_false] at hr ⊢
   omega
  refine W.ret ?_
  conv => whnf
  refine ⟨by dsimp only; omega, ?_⟩
  conv => whnf
  refine ⟨rfl, ?_⟩
  conv => whnf
  refine ⟨.int .i64 r, ⟨rfl, rfl⟩, ?_⟩
  conv => whnf
  exact ⟨.ownB b (x2), ⟨rfl, rfl⟩, .inr ⟨rfl, rfl⟩, .dead, trivial, rfl, rfl, rfl, ⟨x2, hx2, rfl⟩, _, rfl, ⟨r, rfl, hr2⟩⟩
 refine W.skip (hK1 _ ?_)
 clear hK1 K1
 refine wrs fun K hK => ?_
 conv => whnf
 refine ⟨⟨rfl, by decide⟩, ?_⟩
 conv => whnf
 intro b_7 hs_7 hh_7 hf_7
 try dsimp only at hh_7 hf_7
 conv => whnf
 refine ⟨⟨rfl, rfl⟩, ?_⟩
 conv => whnf
 refine ⟨rfl, _, (l01Pick_m hc none [2, 3, 5, 7, 2, 3, 5, 11, 13, 17, 31] ⟨by decide, by decide⟩ b x1 hx1), ?_⟩
 rintro hs_ms2 av x' t' hh_ms2 ⟨rfl, ⟨x2, hx2, rfl⟩, _, rfl, ⟨r, rfl, hr⟩⟩ _ _ _
 try dsimp only at hh_ms2
 conv => whnf
 refine hK _ ?_
 clear hK K
 have hr2 : r ∈ ([1, 4, 0, 97, 101, -3, 9, 2, 3, 5, 7, 11, 13, 17, 31] : List Int) := by
  simp only [List.mem_cons, List.not_mem_nil, or_false] at hr ⊢
  omega
 refine W.ret ?_
 conv => whnf
 refine ⟨by dsimp only; omega, ?_⟩
 conv => whnf
 refine ⟨rfl, ?_⟩
 conv => whnf
 refine ⟨.int .i64 r, ⟨rfl, rfl⟩, ?_⟩
 conv => whnf
 exact ⟨.ownB b (x2), ⟨rfl, rfl⟩, .inr ⟨rfl, rfl⟩, .dead, trivial, rfl, rfl, rfl, ⟨x2, hx2, rfl⟩, _, rfl, ⟨r, rfl, hr2⟩⟩

def PolL (p : Int) (d : Nat) (L : List Int) : Prop := 1 ≤ L.length ∧ L.length ≤ d + 1 ∧ (∀ j, 0 ≤ cf L j ∧ cf L j < p) ∧ cf L (L.length - 1) ≠ 0

theorem l08Valid_m {n : Nat} {c : Nat → Int} (hc : Byt n c) (p : Int) (hp : 2 ≤ p ∧ p ≤ 1000) (d : Nat) (hd : d ≤ 100) : MSrc 265 [.int .i64 p, .int .i64 d] n c (fun r => ∃ L, r = .ints none L ∧ PolL p d L) := by
 rintro b x hx
 refine mfn_ofV (cx := cxt [] [0, 1, 2, 6, 7, 8, 15, 1000000, 1000001]) (cxt_ok [] [0, 1, 2, 6, 7, 8, 15, 1000000, 1000001]) Tryz.func265 rfl (by decide) Tryz.ntmps265 (Nat.le_of_ble_eq_true rfl) (Nat.le_of_ble_eq_true rfl) rfl rfl fun base hs0 O U hw v0 hb0 => ?_
 refine W.sw (c' := cx [0, 1, 2, 6, 7, 8, 15, 1000000, 1000001]) ?_
 refine wrs fun K hK => ?_
 conv => whnf
 refine hK _ ?_
 clear hK K
 refine wrs fun K hK => ?_
 conv => whnf
 refine ⟨⟨rfl, by decide⟩, ?_⟩
 conv => whnf
 intro b_7 hs_7 hh_7 hf_7
 try dsimp only at hh_7 hf_7
 conv => whnf
 refine hK _ ?_
 clear hK K
 refine W.seqK fun K1 hK1 => wrs fun K hK => ?_
 conv => whnf
 refine ⟨oo, ?_⟩
 conv => whnf
 refine ⟨⟨rfl, rfl⟩, ?_⟩
 conv => whnf
 refine ⟨rfl, _, (l01Next_m hc ((d : Int) + 1) (by constructor <;> omega) b x hx), ?_⟩
 rintro hs_ms1 av x' t' hh_ms1 ⟨rfl, ⟨x1, hx1, rfl⟩, _, rfl, ⟨q, rfl, q0, q1, q2⟩⟩ _ _ _
 try dsimp only at hh_ms1
 conv => whnf
 have hq : q ≤ d := by
  by_cases h : d = 0
  ·have := q2 (by omega); omega
  ·have := q1 (by omega); omega
 refine hK _ (W.block (W.invH hs0 hb0 (fun m e => ∃ (k bo : Nat) (y : V) (L : List Int), k ≤ d ∧ OkSrc n c y ∧ L.length + k ≤ d ∧ (∀ j, 0 ≤ cf L j ∧ cf L j < p) ∧ m = k ∧ e = [(vt, .dead), (vk, .keep O U hw 0 v0), (0, .ownB b y), (1, .v (.int .i64 p)), (2, .v (.int .i64 d)), (7, .ownI 2 bo L), (8, .v (.int .i64 k))]) _ _ (⟨q.toNat, b_7, x1, [], by omega, hx1, by simp; omega, fun j => by rw [cf_nil]; omega, rfl, by rw [Int.toNat_of_nonneg q0]⟩) (by dsimp only; omega) (by repeat' first | refine And.intro ?_ ?_ | exact trivial | rfl | omega | exact .inl rfl | exact fun _ _ => rfl | exact fun _ _ h => h | assumption | exact fun i hi => (by obtain rfl : i = 0 := (by omega); rfl)) ?_))
 clear hK K
 rintro m e ⟨k, bo, y, L, h1, hy, h2, h3, hm, rfl⟩
 refine W.seqK fun K7 hK7 => wrs fun K hK => ?_
 conv => whnf
 refine hK _ (W.cond ⟨fun h5 => ?_, fun h5 => ?_⟩) <;> clear hK K <;> (first | replace h5 := of_decide_eq_true h5 | replace h5 := of_decide_eq_false h5)
 ·have hk : 1 ≤ k := by omega
  refine W.skip (hK7 _ (W.seqK fun K8 hK8 => W.block ?_))
  clear hK7 K7
  refine wrg ?_
  conv => whnf
  refine ⟨⟨rfl, rfl⟩, ?_⟩
  conv => whnf
  refine ⟨rfl, _, (l01Next_m hc p (by constructor <;> omega) b y hy), ?_⟩
  rintro hs_ms2 av x' t' hh_ms2 ⟨rfl, ⟨x2, hx2, rfl⟩, _, rfl, ⟨r1, rfl, r10, r11, _⟩⟩ _ _ _
  try dsimp only at hh_ms2
  conv => whnf
  refine ⟨⟨rfl, rfl⟩, ?_⟩
  conv => whnf
  refine ⟨rfl, _, (l01Next_m hc p (by constructor <;> omega) b x2 hx2), ?_⟩
  rintro hs_ms3 av x' t' hh_ms3 ⟨rfl, ⟨x3, hx3, rfl⟩, _, rfl, ⟨r2, rfl, r20, r21, _⟩⟩ _ _ _
  try dsimp only at hh_ms3
  conv => whnf
  have h11 := r11 (by omega)
  have h21 := r21 (by omega)
  refine ⟨⟨rfl, by decide⟩, ?_⟩
  conv => whnf
  intro b_1 hs_1 hh_1 hf_1
  try dsimp only at hh_1 hf_1
  conv => whnf
  refine ⟨⟨rfl, rfl⟩, ?_⟩
  conv => whnf
  refine ⟨rfl, _, (l01Pick_m hc none [r1, 0, r2] ⟨(by show 1 ≤ 3; omega), (by show 3 ≤ 1000; omega)⟩ b x3 hx3), ?_⟩
  rintro hs_ms4 av x' t' hh_ms4 ⟨rfl, ⟨x4, hx4, rfl⟩, _, rfl, ⟨r, rfl, hr⟩⟩ _ _ _
  try dsimp only at hh_ms4
  conv => whnf
  have hr : 0 ≤ r ∧ r < p := by
   simp only [List.mem_cons, List.not_mem_nil, or_false] at hr
   omega
  refine ⟨⟨rfl, by decide⟩, ?_⟩
  conv => whnf
  intro b_2 hs_2 hh_2 hf_2
  try dsimp only at hh_2 hf_2
  conv => whnf
  refine ⟨by simp; omega, ?_⟩
  conv => whnf
  intro b_3 hs_3 hh_3 hf_3
  try dsimp only at hh_3 hf_3
  conv => whnf
  refine hK8 _ ?_
  clear hK8 K8
  refine wrg ?_
  conv => whnf
  refine ⟨oo, ?_⟩
  conv => whnf
  have hL : ∀ j, 0 ≤ cf (L ++ [r]) j ∧ cf (L ++ [r]) j < p := fun j => by
   unfold cf
   rw [List.getD_eq_getElem?_getD]
   rcases Nat.lt_trichotomy j L.length with hj | hj | hj
   ·rw [List.getElem?_append_left hj, ← List.getD_eq_getElem?_getD]; exact h3 j
   ·rw [List.getElem?_append_right (by omega), hj, Nat.sub_self]; exact hr
   ·rw [List.getElem?_eq_none (by simp; omega)]; show (0 : Int) ≤ 0 ∧ (0 : Int) < p; omega
  rw [show ((k : Int) - 1) = ((k - 1 : Nat) : Int) by omega]
  exact againA ⟨k - 1, b_3, x4, L ++ [r], by omega, hx4, by simp; omega, hL, rfl, rfl⟩
 ·obtain rfl : k = 0 := by omega
  refine W.exit (hK1 _ ?_)
  clear hK7 K7 hK1 K1
  refine wrs fun K hK => ?_
  conv => whnf
  refine ⟨oo, ?_⟩
  conv => whnf
  refine ⟨⟨rfl, rfl⟩, ?_⟩
  conv => whnf
  refine ⟨rfl, _, (l01Next_m hc (p - 1) (by constructor <;> omega) b y hy), ?_⟩
  rintro hs_ms2 av x' t' hh_ms2 ⟨rfl, ⟨x2, hx2, rfl⟩, _, rfl, ⟨r1, rfl, r10, r11, r12⟩⟩ _ _ _
  try dsimp only at hh_ms2
  conv => whnf
  refine ⟨⟨rfl, rfl⟩, ?_⟩
  conv => whnf
  refine ⟨rfl, _, (l01Next_m hc 2 (by constructor <;> decide) b x2 hx2), ?_⟩
  rintro hs_ms3 av x' t' hh_ms3 ⟨rfl, ⟨x3, hx3, rfl⟩, _, rfl, ⟨r2, rfl, r20, r21, _⟩⟩ _ _ _
  try dsimp only at hh_ms3
  conv => whnf
  have h11 : r1 ≤ p - 2 := by
   by_cases h : 1 < p - 1
   ·have := r11 h; omega
   ·have := r12 (by omega); omega
  have h21 := r21 (by omega)
  have hmul : 0 ≤ r1 * r2 ∧ r1 * r2 ≤ p - 2 := by
   have : r2 = 0 ∨ r2 = 1 := by omega
   rcases this with rfl | rfl <;> simp <;> omega
  refine ⟨by show _ ≤ r1 * r2 ∧ r1 * r2 ≤ _; omega, ?_⟩
  conv => whnf
  refine ⟨by show _ ≤ 1 + r1 * r2 ∧ 1 + r1 * r2 ≤ _; omega, ?_⟩
  conv => whnf
  refine ⟨⟨rfl, by decide⟩, ?_⟩
  conv => whnf
  intro b_1 hs_1 hh_1 hf_1
  try dsimp only at hh_1 hf_1
  conv => whnf
  refine ⟨by simp; omega, ?_⟩
  conv => whnf
  intro b_2 hs_2 hh_2 hf_2
  try dsimp only at hh_2 hf_2
  conv => whnf
  refine hK _ ?_
  clear hK K
  have hL : PolL p d (L ++ [1 + r1 * r2]) := by
   have hlen : (L ++ [1 + r1 * r2]).length = L.length + 1 := by simp
   refine ⟨by omega, by omega, fun j => ?_, ?_⟩
   ·unfold cf
    rw [List.getD_eq_getElem?_getD]
    rcases Nat.lt_trichotomy j L.length with hj | hj | hj
    ·rw [List.getElem?_append_left hj, ← List.getD_eq_getElem?_getD]; exact h3 j
    ·rw [List.getElem?_append_right (by omega), hj, Nat.sub_self]; show (0 : Int) ≤ 1 + r1 * r2 ∧ 1 + r1 * r2 < p; omega
    ·rw [List.getElem?_eq_none (by omega)]; show (0 : Int) ≤ 0 ∧ (0 : Int) < p; omega
   ·rw [hlen]
    unfold cf
    rw [List.getD_eq_getElem?_getD, List.getElem?_append_right (by omega), show L.length + 1 - 1 - L.length = 0 by omega]
    show (1 + r1 * r2 : Int) ≠ 0
    omega
  refine W.ret ?_
  conv => whnf
  refine ⟨by dsimp only; omega, ?_⟩
  conv => whnf
  refine ⟨rfl, ?_⟩
  conv => whnf
  refine ⟨.ints none (L ++ [1 + r1 * r2]), ⟨.inl rfl, rfl⟩, ?_⟩
  conv => whnf
  exact ⟨.ownB b (x3), ⟨rfl, rfl⟩, .inr ⟨rfl, rfl⟩, .dead, trivial, rfl, rfl, rfl, ⟨x3, hx3, rfl⟩, _, rfl, ⟨_, rfl, hL⟩⟩

theorem l17Valid_m {n : Nat} {c : Nat → Int} (hc : Byt n c) : MSrc 327 [] n c (fun r => ∃ (p : Int) (L : List Int), r = vK p none L ∧ (2 ≤ p ∧ p ≤ 7) ∧ L.length ≤ 9) := by
 rintro b x hx
 refine mfn_ofV (cx := cxt [] [0, 2, 3, 4, 5, 6, 7, 19, 36, 1000000, 1000001]) (cxt_ok [] [0, 2, 3, 4, 5, 6, 7, 19, 36, 1000000, 1000001]) Tryz.func327 rfl (by decide) Tryz.ntmps327 (Nat.le_of_ble_eq_true rfl) (Nat.le_of_ble_eq_true rfl) rfl rfl fun base hs0 O U hw v0 hb0 => ?_
 refine W.sw (c' := cx [0, 2, 3, 4, 5, 6, 7, 19, 36, 1000000, 1000001]) ?_
 refine wrs fun K hK => ?_
 conv => whnf
 intro b_2 hs_2 hh_2 hf_2
 try dsimp only at hh_2 hf_2
 conv => whnf
 refine hK _ ?_
 clear hK K
 refine wrs fun K hK => ?_
 conv => whnf
 refine ⟨⟨rfl, by decide⟩, ?_⟩
 conv => whnf
 intro b_7 hs_7 hh_7 hf_7
 try dsimp only at hh_7 hf_7
 conv => whnf
 refine ⟨⟨rfl, rfl⟩, ?_⟩
 conv => whnf
 refine ⟨rfl, _, (l01Pick_m hc none [2, 3, 5, 2, 3, 7] ⟨by decide, by decide⟩ b x hx), ?_⟩
 rintro hs_ms1 av x' t' hh_ms1 ⟨rfl, ⟨x1, hx1, rfl⟩, _, rfl, ⟨p, rfl, hp⟩⟩ _ _ _
 try dsimp only at hh_ms1
 conv => whnf
 refine hK _ ?_
 clear hK K
 have hpp : p ∈ primes := by
  simp only [List.mem_cons, List.not_mem_nil, or_false] at hp
  unfold primes
  simp only [List.mem_cons, List.not_mem_nil, or_false]
  omega
 have hp27 : 2 ≤ p ∧ p ≤ 7 := by
  simp only [List.mem_cons, List.not_mem_nil, or_false] at hp
  omega
 letI := sp_of hpp
 refine wrs fun K hK => ?_
 conv => whnf
 refine ⟨⟨rfl, rfl⟩, ?_⟩
 conv => whnf
 refine ⟨rfl, _, (l01Next_m hc 4 (by constructor <;> decide) b x1 hx1), ?_⟩
 rintro hs_ms2 av x' t' hh_ms2 ⟨rfl, ⟨x2, hx2, rfl⟩, _, rfl, ⟨q, rfl, q0, q1, _⟩⟩ _ _ _
 try dsimp only at hh_ms2
 conv => whnf
 have hq4 := q1 (by decide)
 refine ⟨oo, ?_⟩
 conv => whnf
 refine hK _ ?_
 clear hK K
 obtain ⟨d, hd⟩ : ∃ d : Nat, 1 + q = d := ⟨(1 + q).toNat, by omega⟩
 rw [hd]
 have hd14 : 1 ≤ d ∧ d ≤ 4 := by omega
 refine wrs fun K hK => ?_
 conv => whnf
 refine ⟨oo, ?_⟩
 conv => whnf
 refine ⟨rfl, ?_⟩
 conv => whnf
 refine ⟨oo, ?_⟩
 conv => whnf
 intro b_5 hs_5 hh_5 hf_5
 try dsimp only at hh_5 hf_5
 conv => whnf
 refine hK _ ?_
 clear hK K
 refine W.seqK fun K1 hK1 => wrs fun K hK => ?_
 conv => whnf
 refine hK _ (W.block (W.invH hs0 hb0 (fun m e => ∃ (i bo : Nat) (y : V) (X : List Int), i ≤ d ∧ OkSrc n c y ∧ X.length = d + 1 ∧ (∀ j, 0 ≤ cf X j ∧ cf X j < p) ∧ m = d - i ∧ e = [(vt, .dead), (vk, .keep O U hw 0 v0), (0, .ownB b y), (2, .ownB b_2 (.agg [.int .i64 0, .nil])), (3, .v (.int .i64 p)), (4, .v (.int .i64 d)), (5, .ownI 2 bo X), (6, .v (.int .i64 i))]) _ _ (⟨0, b_5, x2, List.replicate (d + 1) 0, Nat.zero_le _, hx2, by simp, fun j => by rw [cf_replicate]; omega, rfl, rfl⟩) (by dsimp only; omega) (by repeat' first | refine And.intro ?_ ?_ | exact trivial | rfl | omega | exact .inl rfl | exact fun _ _ => rfl | exact fun _ _ h => h | assumption | exact fun i hi => (by obtain rfl : i = 0 := (by omega); rfl)) ?_))
 clear hK K
 rintro m e ⟨i, bo, y, X, h1, hy, h2, h3, hm, rfl⟩
 refine W.seqK fun K7 hK7 => wrs fun K hK => ?_
 conv => whnf
 refine hK _ (W.cond ⟨fun h5 => ?_, fun h5 => ?_⟩) <;> clear hK K <;> (first | replace h5 := of_decide_eq_true h5 | replace h5 := of_decide_eq_false h5)
 ·have hi : i < d := by omega
  refine W.skip (hK7 _ (W.seqK fun K8 hK8 => W.block ?_))
  clear hK7 K7
  refine wrg ?_
  conv => whnf
  refine ⟨⟨rfl, rfl⟩, ?_⟩
  conv => whnf
  refine ⟨rfl, _, (l01Next_m hc p (by constructor <;> omega) b y hy), ?_⟩
  rintro hs_ms3 av x' t' hh_ms3 ⟨rfl, ⟨x3, hx3, rfl⟩, _, rfl, ⟨r1, rfl, r10, r11, _⟩⟩ _ _ _
  try dsimp only at hh_ms3
  conv => whnf
  have h11 := r11 (by omega)
  refine ⟨oo, ?_⟩
  conv => whnf
  rw [Int.toNat_natCast]
  refine hK8 _ ?_
  clear hK8 K8
  refine wrg ?_
  conv => whnf
  refine ⟨oo, ?_⟩
  conv => whnf
  have hX : ∀ j, 0 ≤ cf (X.set i r1) j ∧ cf (X.set i r1) j < p := fun j => by
   unfold cf
   rw [List.getD_eq_getElem?_getD, List.getElem?_set]
   by_cases hj : i = j
   ·rw [if_pos hj, if_pos (by omega)]; exact ⟨r10, h11⟩
   ·rw [if_neg hj, ← List.getD_eq_getElem?_getD]; exact h3 j
  exact againA ⟨i + 1, bo, x3, X.set i r1, by omega, hx3, by simp; omega, hX, rfl, rfl⟩
 ·obtain rfl : i = d := by omega
  have hp1 := primes_le hpp
  have hT : Top p.toNat i (X.set i 1) := by
   refine ⟨by simp; omega, ?_, fun z hz => ?_⟩
   ·unfold cf; rw [List.getD_eq_getElem?_getD, List.getElem?_set_self (by omega)]; rfl
   ·obtain ⟨j, hj, rfl⟩ := List.mem_iff_getElem.1 hz
    rw [List.getElem_set]
    split
    ·omega
    ·have := h3 j
     rw [cf_lt (by simpa using hj)] at this
     omega
  have hdig := hT.dig (by omega)
  have hrng := hT.range (by omega)
  obtain ⟨r, hr⟩ := exists_first (fun n => Irr (polyN p n)) (num p.toNat (X.set i 1)) (2 * p.toNat ^ i)
  obtain ⟨r2, hr2⟩ := exists_first (fun n => Irr (polyN p n)) (p.toNat ^ i) (2 * p.toNat ^ i)
  have ho : ∀ {a : Nat} {q : Option Nat}, p.toNat ^ i ≤ a → IsFirst (fun n => Irr (polyN p n)) a (2 * p.toNat ^ i) q → (outL p.toNat q).length ≤ 9 := fun {a q} ha hq => by
   cases q with
   | none => show 0 ≤ 9; omega
   | some v =>
    have := (top_of (p := p.toNat) (d := i) (k := v) (by omega) (by have := hq.1; omega) hq.2.1).len
    show (dig p.toNat v).length ≤ 9
    omega
  refine W.exit (hK1 _ ?_)
  clear hK7 K7 hK1 K1
  refine wrs fun K hK => ?_
  conv => whnf
  refine ⟨oo, ?_⟩
  conv => whnf
  rw [Int.toNat_natCast]
  refine hK _ ?_
  clear hK K
  refine wrs fun K hK => ?_
  conv => whnf
  refine callV rfl ((by have := l10Next_fn p (some bo) i (num p.toNat (X.set i 1)) hd14.1 hd14.2 hrng.1 hrng.2 r hr; rw [hdig] at this; exact this)) fun hs' hhs => ?_
  try dsimp only at hhs
  conv => whnf
  refine hK _ ?_
  clear hK K
  refine W.seqK fun K1 hK1 => ?_
  have fin : ∀ (L : List Int) (t : S), L.length ≤ 9 → hs0 ≤ t.hs → coverK t.env [(vt, .dead), (vk, .keep O U hw 0 v0), (0, .ownB b y), (2, .ownB b_2 (.agg [.int .i64 0, .nil])), (3, .v (.int .i64 p)), (7, .v (.ints none L))] → K1 t := by
   intro L t hL h9 h10
   refine hK1 _ (W.weak (t := ⟨[(vt, .dead), (vk, .keep O U hw 0 v0), (0, .ownB b y), (2, .ownB b_2 (.agg [.int .i64 0, .nil])), (3, .v (.int .i64 p)), (7, .v (.ints none L))], hs0⟩) ⟨h9, h10⟩ hb0 ?_)
   clear hK1 K1
   refine wrs fun K hK => ?_
   conv => whnf
   refine ⟨s23, ?_⟩
   conv => whnf
   refine hK _ ?_
   clear hK K
   refine W.ret ?_
   conv => whnf
   refine ⟨by dsimp only; omega, ?_⟩
   conv => whnf
   exact ⟨.ownB b (y), ⟨rfl, rfl⟩, .inr ⟨rfl, rfl⟩, .dead, trivial, rfl, rfl, rfl, ⟨y, hy, rfl⟩, _, rfl, ⟨p, L, rfl, hp27, hL⟩⟩
  refine wrs fun K hK => ?_
  conv => whnf
  refine hK _ (W.cond ⟨fun h => ?_, fun h => ?_⟩) <;> clear hK K
  ·have hcn : codeCn p i = 0 := by
    unfold codeCn
    rw [if_pos (show isP p = true from decide_eq_true hpp), if_pos (by omega)]
   refine wrg ?_
   conv => whnf
   refine callV rfl ((by have := FirstIrreducible_fn p i r2 (fun _ _ => by rw [Int.toNat_natCast]; exact hr2); rw [if_pos hcn] at this; exact this)) fun hs' hhs => ?_
   try dsimp only at hhs
   conv => whnf
   refine fin _ _ (ho (Nat.le_refl _) hr2) (by dsimp only; omega) ?_
   exact cvr
  ·refine W.skip (fin _ _ (ho hrng.1 hr) (by dsimp only; omega) ?_)
   exact cvr

open Go Go.RowKit Go.Proofs Poly
set_option maxRecDepth 100000
set_option maxHeartbeats 8000000

def QK (r : V) : Prop := ∃ (p : Int) (L : List Int), r = vK p none L ∧ (-1000 ≤ p ∧ p ≤ 1000) ∧ L.length ≤ 100


theorem l17Draw_m {n : Nat} {c : Nat → Int} (hc : Byt n c) : MSrc 181 [] n c QK := by
 rintro b x hx
 refine mfn_ofV (cx := cxt [] [0, 2, 3, 7, 8, 17, 24, 1000000, 1000001]) (cxt_ok [] [0, 2, 3, 7, 8, 17, 24, 1000000, 1000001]) Tryz.func181 rfl (by decide) Tryz.ntmps181 (Nat.le_of_ble_eq_true rfl) (Nat.le_of_ble_eq_true rfl) rfl rfl fun base hs0 O U hw v0 hb0 => ?_
 refine W.sw (c' := cx [0, 2, 3, 7, 8, 17, 24, 1000000, 1000001]) ?_
 refine wrs fun K hK => ?_
 conv => whnf
 intro b_2 hs_2 hh_2 hf_2
 try dsimp only at hh_2 hf_2
 conv => whnf
 refine hK _ ?_
 clear hK K
 refine wrs fun K hK => ?_
 conv => whnf
 refine ⟨⟨rfl, rfl⟩, ?_⟩
 conv => whnf
 refine ⟨rfl, _, (l17Valid_m hc b x hx), ?_⟩
 rintro hs_ms1 av x' t' hh_ms1 ⟨rfl, ⟨x1, hx1, rfl⟩, _, rfl, ⟨p, L, rfl, hp, hL⟩⟩ _ _ _
 try dsimp only at hh_ms1
 conv => whnf
 intro b_3 hs_3 hh_3 hf_3
 try dsimp only at hh_3 hf_3
 conv => whnf
 refine ⟨s23, ?_⟩
 conv => whnf
 refine hK _ ?_
 clear hK K
 refine W.seqK fun K1 hK1 => ?_
 refine wrs fun K hK => ?_
 conv => whnf
 refine ⟨⟨rfl, rfl⟩, ?_⟩
 conv => whnf
 refine ⟨rfl, _, (l01Next_m hc 24 (by constructor <;> decide) b x1 hx1), ?_⟩
 rintro hs_ms2 av x' t' hh_ms2 ⟨rfl, ⟨x2, hx2, rfl⟩, _, rfl, ⟨q, rfl, q0, q1, _⟩⟩ _ _ _
 try dsimp only at hh_ms2
 conv => whnf
 refine hK _ (W.block ?_)
 clear hK K
 refine wrs fun K hK => ?_
 conv => whnf
 refine hK _ (W.cond ⟨fun h => ?_, fun h => ?_⟩) <;> clear hK K
 ·refine W.seqK fun K2 hK2 => W.sch follows ?_
  refine Wany.takeF (cx_ok []) 0 (by rfl) (by rfl) (by rfl) (by rfl) (by decide) (by kernel_rfl) (by kernel_rfl) (by kernel_rfl) ?_
  conv => whnf
  refine wt 2 ?_
  conv => whnf
  refine Wany.takeF (cx_ok []) 3 (by rfl) (by rfl) (by rfl) (by rfl) (by decide) (by kernel_rfl) (by kernel_rfl) (by kernel_rfl) ?_
  conv => whnf
  refine w2 1 4 ?_ ?_ <;> conv => whnf
  ·refine w1 4 ?_
   conv => whnf
   refine w1 5 ?_
   conv => whnf
   refine ⟨⟨rfl, rfl⟩, ?_⟩
   conv => whnf
   refine ⟨rfl, _, (l08Valid_m hc p (by omega) 4 (by omega) b x2 hx2), ?_⟩
   rintro hs_ms3 av x' t' hh_ms3 ⟨rfl, ⟨x3, hx3, rfl⟩, _, rfl, ⟨L2, rfl, hL2⟩⟩ _ _ _
   try dsimp only at hh_ms3
   conv => whnf
   refine wt 6 ?_
   conv => whnf
   refine w1 7 ?_
   conv => whnf
   refine ⟨s23, ?_⟩
   conv => whnf
   refine wd1 (hK2 _ ?_)
   clear hK2 K2
   refine W.ret ?_
   conv => whnf
   refine ⟨by dsimp only; omega, ?_⟩
   conv => whnf
   exact ⟨.ownB b (x3), ⟨rfl, rfl⟩, .inr ⟨rfl, rfl⟩, .dead, trivial, rfl, rfl, rfl, ⟨x3, hx3, rfl⟩, _, rfl, ⟨p, L2, rfl, by omega, by have := hL2.2.1; omega⟩⟩
  ·refine w2 1 5 ?_ ?_ <;> conv => whnf
   ·refine w1 5 ?_
    conv => whnf
    refine ⟨⟨rfl, rfl⟩, ?_⟩
    conv => whnf
    refine ⟨rfl, _, (l08Valid_m hc p (by omega) 4 (by omega) b x2 hx2), ?_⟩
    rintro hs_ms3 av x' t' hh_ms3 ⟨rfl, ⟨x3, hx3, rfl⟩, _, rfl, ⟨L2, rfl, hL2⟩⟩ _ _ _
    try dsimp only at hh_ms3
    conv => whnf
    refine wt 6 ?_
    conv => whnf
    refine w1 7 ?_
    conv => whnf
    refine ⟨s23, ?_⟩
    conv => whnf
    refine wd1 (hK2 _ ?_)
    clear hK2 K2
    refine W.ret ?_
    conv => whnf
    refine ⟨by dsimp only; omega, ?_⟩
    conv => whnf
    exact ⟨.ownB b (x3), ⟨rfl, rfl⟩, .inr ⟨rfl, rfl⟩, .dead, trivial, rfl, rfl, rfl, ⟨x3, hx3, rfl⟩, _, rfl, ⟨p, L2, rfl, by omega, by have := hL2.2.1; omega⟩⟩
   ·refine ⟨⟨rfl, rfl⟩, ?_⟩
    conv => whnf
    refine ⟨rfl, _, (l08Valid_m hc p (by omega) 4 (by omega) b x2 hx2), ?_⟩
    rintro hs_ms3 av x' t' hh_ms3 ⟨rfl, ⟨x3, hx3, rfl⟩, _, rfl, ⟨L2, rfl, hL2⟩⟩ _ _ _
    try dsimp only at hh_ms3
    conv => whnf
    refine w1 1 ?_
    conv => whnf
    refine wt 6 ?_
    conv => whnf
    refine w1 7 ?_
    conv => whnf
    refine ⟨s23, ?_⟩
    conv => whnf
    refine wd1 (hK2 _ ?_)
    clear hK2 K2
    refine W.ret ?_
    conv => whnf
    refine ⟨by dsimp only; omega, ?_⟩
    conv => whnf
    exact ⟨.ownB b (x3), ⟨rfl, rfl⟩, .inr ⟨rfl, rfl⟩, .dead, trivial, rfl, rfl, rfl, ⟨x3, hx3, rfl⟩, _, rfl, ⟨p, L2, rfl, by omega, by have := hL2.2.1; omega⟩⟩
-- 3 ways
 refine wrs fun K hK => ?_
 conv => whnf
 refine hK _ (W.cond ⟨fun h1 => ?_, fun h1 => ?_⟩) <;> clear hK K
 ·refine W.seqK fun K2 hK2 => W.sch follows ?_
  refine wt 0 ?_
  conv => whnf
  refine Wany.takeF (cx_ok []) 2 (by rfl) (by rfl) (by rfl) (by rfl) (by decide) (by kernel_rfl) (by kernel_rfl) (by kernel_rfl) ?_
  conv => whnf
  refine w2 1 3 ?_ ?_ <;> conv => whnf
  ·refine ⟨⟨rfl, rfl⟩, ?_⟩
   conv => whnf
   refine ⟨rfl, _, (l01DrawPrime_m hc b x2 hx2), ?_⟩
   rintro hs_ms3 av x' t' hh_ms3 ⟨rfl, ⟨x3, hx3, rfl⟩, _, rfl, ⟨p2, rfl, hp2⟩⟩ _ _ _
   try dsimp only at hh_ms3
   conv => whnf
   refine w1 3 ?_
   conv => whnf
   refine wt 4 ?_
   conv => whnf
   refine w1 5 ?_
   conv => whnf
   refine ⟨s23, ?_⟩
   conv => whnf
   refine wd1 (hK2 _ ?_)
   clear hK2 K2
   have hp3 : -1000 ≤ p2 ∧ p2 ≤ 1000 := by (simp only [List.mem_cons, List.not_mem_nil, or_false] at hp2; omega)
   refine W.ret ?_
   conv => whnf
   refine ⟨by dsimp only; omega, ?_⟩
   conv => whnf
   exact ⟨.ownB b (x3), ⟨rfl, rfl⟩, .inr ⟨rfl, rfl⟩, .dead, trivial, rfl, rfl, rfl, ⟨x3, hx3, rfl⟩, _, rfl, ⟨p2, L, rfl, hp3, by omega⟩⟩
  ·refine w1 1 ?_
   conv => whnf
   refine ⟨⟨rfl, rfl⟩, ?_⟩
   conv => whnf
   refine ⟨rfl, _, (l01DrawPrime_m hc b x2 hx2), ?_⟩
   rintro hs_ms3 av x' t' hh_ms3 ⟨rfl, ⟨x3, hx3, rfl⟩, _, rfl, ⟨p2, rfl, hp2⟩⟩ _ _ _
   try dsimp only at hh_ms3
   conv => whnf
   refine wt 4 ?_
   conv => whnf
   refine w1 5 ?_
   conv => whnf
   refine ⟨s23, ?_⟩
   conv => whnf
   refine wd1 (hK2 _ ?_)
   clear hK2 K2
   have hp3 : -1000 ≤ p2 ∧ p2 ≤ 1000 := by (simp only [List.mem_cons, List.not_mem_nil, or_false] at hp2; omega)
   refine W.ret ?_
   conv => whnf
   refine ⟨by dsimp only; omega, ?_⟩
   conv => whnf
   exact ⟨.ownB b (x3), ⟨rfl, rfl⟩, .inr ⟨rfl, rfl⟩, .dead, trivial, rfl, rfl, rfl, ⟨x3, hx3, rfl⟩, _, rfl, ⟨p2, L, rfl, hp3, by omega⟩⟩
-- 2 ways
 refine wrs fun K hK => ?_
 conv => whnf
 refine hK _ (W.cond ⟨fun h2 => ?_, fun h2 => ?_⟩) <;> clear hK K
 ·refine wrs fun K hK => ?_
  conv => whnf
  refine ⟨⟨rfl, by decide⟩, ?_⟩
  conv => whnf
  intro b_26 hs_26 hh_26 hf_26
  try dsimp only at hh_26 hf_26
  conv => whnf
  refine ⟨⟨rfl, by decide⟩, ?_⟩
  conv => whnf
  intro b_27 hs_27 hh_27 hf_27
  try dsimp only at hh_27 hf_27
  conv => whnf
  refine ⟨⟨rfl, by decide⟩, ?_⟩
  conv => whnf
  intro b_28 hs_28 hh_28 hf_28
  try dsimp only at hh_28 hf_28
  conv => whnf
  refine ⟨⟨rfl, by decide⟩, ?_⟩
  conv => whnf
  intro b_29 hs_29 hh_29 hf_29
  try dsimp only at hh_29 hf_29
  conv => whnf
  refine ⟨⟨rfl, by decide, fun y hy => by simp at hy; rcases hy with rfl | rfl | rfl | rfl <;> exact ⟨rfl, rfl⟩⟩, ?_⟩
  conv => whnf
  intro b_30 hs_30 hh_30 hf_30
  try dsimp only at hh_30 hf_30
  conv => whnf
  refine ⟨⟨rfl, rfl⟩, ?_⟩
  conv => whnf
  refine ⟨rfl, _, (l01Next_m hc 4 (by constructor <;> decide) b x2 hx2), ?_⟩
  rintro hs_ms3 av x' t' hh_ms3 ⟨rfl, ⟨x3, hx3, rfl⟩, _, rfl, ⟨u, rfl, u0, u1, _⟩⟩ _ _ _
  try dsimp only at hh_ms3
  conv => whnf
  have hu := u1 (by decide)
  have hu4 : u = 0 ∨ u = 1 ∨ u = 2 ∨ u = 3 := by omega
  rcases hu4 with rfl | rfl | rfl | rfl
  ·refine ⟨⟨by decide, by decide⟩, ?_⟩
   conv => whnf
   refine ⟨s23, ?_⟩
   conv => whnf
   refine hK _ ?_
   clear hK K
   refine W.ret ?_
   conv => whnf
   refine ⟨by dsimp only; omega, ?_⟩
   conv => whnf
   exact ⟨.ownB b (x3), ⟨rfl, rfl⟩, .inr ⟨rfl, rfl⟩, .dead, trivial, rfl, rfl, rfl, ⟨x3, hx3, rfl⟩, _, rfl, ⟨2, _, rfl, ⟨by decide, by decide⟩, (by decide)⟩⟩
  ·refine ⟨⟨by decide, by decide⟩, ?_⟩
   conv => whnf
   refine ⟨s23, ?_⟩
   conv => whnf
   refine hK _ ?_
   clear hK K
   refine W.ret ?_
   conv => whnf
   refine ⟨by dsimp only; omega, ?_⟩
   conv => whnf
   exact ⟨.ownB b (x3), ⟨rfl, rfl⟩, .inr ⟨rfl, rfl⟩, .dead, trivial, rfl, rfl, rfl, ⟨x3, hx3, rfl⟩, _, rfl, ⟨2, _, rfl, ⟨by decide, by decide⟩, (by decide)⟩⟩
  ·refine ⟨⟨by decide, by decide⟩, ?_⟩
   conv => whnf
   refine ⟨s23, ?_⟩
   conv => whnf
   refine hK _ ?_
   clear hK K
   refine W.ret ?_
   conv => whnf
   refine ⟨by dsimp only; omega, ?_⟩
   conv => whnf
   exact ⟨.ownB b (x3), ⟨rfl, rfl⟩, .inr ⟨rfl, rfl⟩, .dead, trivial, rfl, rfl, rfl, ⟨x3, hx3, rfl⟩, _, rfl, ⟨2, _, rfl, ⟨by decide, by decide⟩, (by decide)⟩⟩
  ·refine ⟨⟨by decide, by decide⟩, ?_⟩
   conv => whnf
   refine ⟨s23, ?_⟩
   conv => whnf
   refine hK _ ?_
   clear hK K
   refine W.ret ?_
   conv => whnf
   refine ⟨by dsimp only; omega, ?_⟩
   conv => whnf
   exact ⟨.ownB b (x3), ⟨rfl, rfl⟩, .inr ⟨rfl, rfl⟩, .dead, trivial, rfl, rfl, rfl, ⟨x3, hx3, rfl⟩, _, rfl, ⟨2, _, rfl, ⟨by decide, by decide⟩, (by decide)⟩⟩
 refine W.skip (hK1 _ ?_)
 clear hK1 K1
 refine wrs fun K hK => ?_
 conv => whnf
 refine ⟨s23, ?_⟩
 conv => whnf
 refine hK _ ?_
 clear hK K
 refine W.ret ?_
 conv => whnf
 refine ⟨by dsimp only; omega, ?_⟩
 conv => whnf
 exact ⟨.ownB b (x2), ⟨rfl, rfl⟩, .inr ⟨rfl, rfl⟩, .dead, trivial, rfl, rfl, rfl, ⟨x2, hx2, rfl⟩, _, rfl, ⟨p, L, rfl, by omega, by omega⟩⟩

theorem l17DrawElement_m {n : Nat} {c : Nat → Int} (hc : Byt n c) (p : Int) (l : List Int) (hl : l.length ≤ 100) : MSrc 213 [vK p none l] n c (fun r => ∃ L, r = .ints none L ∧ L.length ≤ 100000) := by
 rintro b x hx
 refine mfn_ofV (cx := cxt [] [0, 1, 3, 4, 7, 11, 1000000, 1000001]) (cxt_ok [] [0, 1, 3, 4, 7, 11, 1000000, 1000001]) Tryz.func213 rfl (by decide) Tryz.ntmps213 (Nat.le_of_ble_eq_true rfl) (Nat.le_of_ble_eq_true rfl) rfl rfl fun base hs0 O U hw v0 hb0 => ?_
 refine W.sw (c' := cx [0, 1, 3, 4, 7, 11, 1000000, 1000001]) ?_
 refine wrs fun K hK => ?_
 conv => whnf
 refine ⟨rfl, ?_⟩
 conv => whnf
 intro b_3 hs_3 hh_3 hf_3
 try dsimp only at hh_3 hf_3
 conv => whnf
 refine hK _ ?_
 clear hK K
 refine W.seqK fun K1 hK1 => ?_
 refine wrs fun K hK => ?_
 conv => whnf
 refine callV rfl (isFieldS_fn p none l (by omega)) fun hs' hhs => ?_
 try dsimp only at hhs
 conv => whnf
 refine hK _ (W.cond ⟨fun h => ?_, fun h => ?_⟩) <;> clear hK K
 ·refine wrs fun K hK => ?_
  conv => whnf
  refine ⟨⟨rfl, by decide⟩, ?_⟩
  conv => whnf
  intro b_8 hs_8 hh_8 hf_8
  try dsimp only at hh_8 hf_8
  conv => whnf
  refine hK _ ?_
  clear hK K
  refine W.ret ?_
  conv => whnf
  refine ⟨by dsimp only; omega, ?_⟩
  conv => whnf
  refine ⟨rfl, ?_⟩
  conv => whnf
  refine ⟨.ints none [1], ⟨.inl rfl, rfl⟩, ?_⟩
  conv => whnf
  exact ⟨.ownB b (x), ⟨rfl, rfl⟩, .inr ⟨rfl, rfl⟩, .dead, trivial, rfl, rfl, rfl, ⟨x, hx, rfl⟩, _, rfl, ⟨_, rfl, by decide⟩⟩
 have hk : IsFld p l := bP_iff.1 (by simpa using h)
 refine W.skip (hK1 _ ?_)
 clear hK1 K1
 refine W.seqK fun K1 hK1 => ?_
 refine wrs fun K hK => ?_
 conv => whnf
 refine ⟨⟨rfl, rfl⟩, ?_⟩
 conv => whnf
 refine ⟨rfl, _, (l01Next_m hc 24 (by constructor <;> decide) b x hx), ?_⟩
 rintro hs_ms1 av x' t' hh_ms1 ⟨rfl, ⟨x1, hx1, rfl⟩, _, rfl, ⟨q, rfl, q0, q1, _⟩⟩ _ _ _
 try dsimp only at hh_ms1
 conv => whnf
 refine hK _ (W.cond ⟨fun h1 => ?_, fun h1 => ?_⟩) <;> clear hK K
 ·refine wrs fun K hK => ?_
  conv => whnf
  refine hK _ ?_
  clear hK K
  refine W.ret ?_
  conv => whnf
  refine ⟨by dsimp only; omega, ?_⟩
  conv => whnf
  refine ⟨rfl, ?_⟩
  conv => whnf
  refine ⟨.ints none l, ⟨rfl, rfl⟩, ?_⟩
  conv => whnf
  exact ⟨.ownB b (x1), ⟨rfl, rfl⟩, .inr ⟨rfl, rfl⟩, .dead, trivial, rfl, rfl, rfl, ⟨x1, hx1, rfl⟩, _, rfl, ⟨_, rfl, by omega⟩⟩
 refine W.skip (hK1 _ ?_)
 clear hK1 K1
 have hp2 := isP_le hk.mod.1
 have ho := hk.ord
 have hpos : 0 < p ^ (l.length - 1) := Int.pow_pos (by omega)
 refine W.seqK fun K2 hK2 => W.sch follows ?_
 refine wt 1 ?_
 conv => whnf
 refine w2 0 2 ?_ ?_ <;> conv => whnf
 ·refine w1 2 ?_
  conv => whnf
  refine w1 3 ?_
  conv => whnf
  refine callV rfl (l17Size_fn p none l hk) fun hs' hhs => ?_
  try dsimp only at hhs
  conv => whnf
  refine w1 4 ?_
  conv => whnf
  refine ⟨⟨rfl, rfl⟩, ?_⟩
  conv => whnf
  refine ⟨rfl, _, (l01Next_m hc (p ^ (l.length - 1)) (by constructor <;> omega) b x1 hx1), ?_⟩
  rintro hs_ms2 av x' t' hh_ms2 ⟨rfl, ⟨x2, hx2, rfl⟩, _, rfl, ⟨u, rfl, u0, u1, u2⟩⟩ _ _ _
  try dsimp only at hh_ms2
  obtain ⟨k, rfl⟩ : ∃ k : Nat, u = k := ⟨u.toNat, by omega⟩
  have hk2 : k ≤ 20000 := by (by_cases hh : 1 < p ^ (l.length - 1); (have := u1 hh; omega); (have := u2 (by omega); omega))
  conv => whnf
  refine w1 5 ?_
  conv => whnf
  refine callV rfl (l17With_fn p none l k hp2.1 (by omega)) fun hs' hhs => ?_
  try dsimp only at hhs
  conv => whnf
  refine w1 6 ?_
  conv => whnf
  refine wd1 (hK2 _ ?_)
  clear hK2 K2
  have hdl : (dig p.toNat k).length ≤ 100000 := by (have := dig_length_le (p := p.toNat) (by omega) k k (Nat.lt_pow_self (by omega)); omega)
  refine W.ret ?_
  conv => whnf
  refine ⟨by dsimp only; omega, ?_⟩
  conv => whnf
  refine ⟨rfl, ?_⟩
  conv => whnf
  refine ⟨.ints none (dig p.toNat k), ⟨rfl, rfl⟩, ?_⟩
  conv => whnf
  exact ⟨.ownB b (x2), ⟨rfl, rfl⟩, .inr ⟨rfl, rfl⟩, .dead, trivial, rfl, rfl, rfl, ⟨x2, hx2, rfl⟩, _, rfl, ⟨_, rfl, hdl⟩⟩
 ·refine w2 0 3 ?_ ?_ <;> conv => whnf
  ·refine w1 3 ?_
   conv => whnf
   refine callV rfl (l17Size_fn p none l hk) fun hs' hhs => ?_
   try dsimp only at hhs
   conv => whnf
   refine w1 4 ?_
   conv => whnf
   refine ⟨⟨rfl, rfl⟩, ?_⟩
   conv => whnf
   refine ⟨rfl, _, (l01Next_m hc (p ^ (l.length - 1)) (by constructor <;> omega) b x1 hx1), ?_⟩
   rintro hs_ms2 av x' t' hh_ms2 ⟨rfl, ⟨x2, hx2, rfl⟩, _, rfl, ⟨u, rfl, u0, u1, u2⟩⟩ _ _ _
   try dsimp only at hh_ms2
   obtain ⟨k, rfl⟩ : ∃ k : Nat, u = k := ⟨u.toNat, by omega⟩
   have hk2 : k ≤ 20000 := by (by_cases hh : 1 < p ^ (l.length - 1); (have := u1 hh; omega); (have := u2 (by omega); omega))
   conv => whnf
   refine w1 5 ?_
   conv => whnf
   refine callV rfl (l17With_fn p none l k hp2.1 (by omega)) fun hs' hhs => ?_
   try dsimp only at hhs
   conv => whnf
   refine w1 6 ?_
   conv => whnf
   refine wd1 (hK2 _ ?_)
   clear hK2 K2
   have hdl : (dig p.toNat k).length ≤ 100000 := by (have := dig_length_le (p := p.toNat) (by omega) k k (Nat.lt_pow_self (by omega)); omega)
   refine W.ret ?_
   conv => whnf
   refine ⟨by dsimp only; omega, ?_⟩
   conv => whnf
   refine ⟨rfl, ?_⟩
   conv => whnf
   refine ⟨.ints none (dig p.toNat k), ⟨rfl, rfl⟩, ?_⟩
   conv => whnf
   exact ⟨.ownB b (x2), ⟨rfl, rfl⟩, .inr ⟨rfl, rfl⟩, .dead, trivial, rfl, rfl, rfl, ⟨x2, hx2, rfl⟩, _, rfl, ⟨_, rfl, hdl⟩⟩
  ·refine callV rfl (l17Size_fn p none l hk) fun hs' hhs => ?_
   try dsimp only at hhs
   conv => whnf
   refine w2 0 4 ?_ ?_ <;> conv => whnf
   ·refine w1 4 ?_
    conv => whnf
    refine ⟨⟨rfl, rfl⟩, ?_⟩
    conv => whnf
    refine ⟨rfl, _, (l01Next_m hc (p ^ (l.length - 1)) (by constructor <;> omega) b x1 hx1), ?_⟩
    rintro hs_ms2 av x' t' hh_ms2 ⟨rfl, ⟨x2, hx2, rfl⟩, _, rfl, ⟨u, rfl, u0, u1, u2⟩⟩ _ _ _
    try dsimp only at hh_ms2
    obtain ⟨k, rfl⟩ : ∃ k : Nat, u = k := ⟨u.toNat, by omega⟩
    have hk2 : k ≤ 20000 := by (by_cases hh : 1 < p ^ (l.length - 1); (have := u1 hh; omega); (have := u2 (by omega); omega))
    conv => whnf
    refine w1 5 ?_
    conv => whnf
    refine callV rfl (l17With_fn p none l k hp2.1 (by omega)) fun hs' hhs => ?_
    try dsimp only at hhs
    conv => whnf
    refine w1 6 ?_
    conv => whnf
    refine wd1 (hK2 _ ?_)
    clear hK2 K2
    have hdl : (dig p.toNat k).length ≤ 100000 := by (have := dig_length_le (p := p.toNat) (by omega) k k (Nat.lt_pow_self (by omega)); omega)
    refine W.ret ?_
    conv => whnf
    refine ⟨by dsimp only; omega, ?_⟩
    conv => whnf
    refine ⟨rfl, ?_⟩
    conv => whnf
    refine ⟨.ints none (dig p.toNat k), ⟨rfl, rfl⟩, ?_⟩
    conv => whnf
    exact ⟨.ownB b (x2), ⟨rfl, rfl⟩, .inr ⟨rfl, rfl⟩, .dead, trivial, rfl, rfl, rfl, ⟨x2, hx2, rfl⟩, _, rfl, ⟨_, rfl, hdl⟩⟩
   ·refine ⟨⟨rfl, rfl⟩, ?_⟩
    conv => whnf
    refine ⟨rfl, _, (l01Next_m hc (p ^ (l.length - 1)) (by constructor <;> omega) b x1 hx1), ?_⟩
    rintro hs_ms2 av x' t' hh_ms2 ⟨rfl, ⟨x2, hx2, rfl⟩, _, rfl, ⟨u, rfl, u0, u1, u2⟩⟩ _ _ _
    try dsimp only at hh_ms2
    obtain ⟨k, rfl⟩ : ∃ k : Nat, u = k := ⟨u.toNat, by omega⟩
    have hk2 : k ≤ 20000 := by (by_cases hh : 1 < p ^ (l.length - 1); (have := u1 hh; omega); (have := u2 (by omega); omega))
    conv => whnf
    refine w1 0 ?_
    conv => whnf
    refine w1 5 ?_
    conv => whnf
    refine callV rfl (l17With_fn p none l k hp2.1 (by omega)) fun hs' hhs => ?_
    try dsimp only at hhs
    conv => whnf
    refine w1 6 ?_
    conv => whnf
    refine wd1 (hK2 _ ?_)
    clear hK2 K2
    have hdl : (dig p.toNat k).length ≤ 100000 := by (have := dig_length_le (p := p.toNat) (by omega) k k (Nat.lt_pow_self (by omega)); omega)
    refine W.ret ?_
    conv => whnf
    refine ⟨by dsimp only; omega, ?_⟩
    conv => whnf
    refine ⟨rfl, ?_⟩
    conv => whnf
    refine ⟨.ints none (dig p.toNat k), ⟨rfl, rfl⟩, ?_⟩
    conv => whnf
    exact ⟨.ownB b (x2), ⟨rfl, rfl⟩, .inr ⟨rfl, rfl⟩, .dead, trivial, rfl, rfl, rfl, ⟨x2, hx2, rfl⟩, _, rfl, ⟨_, rfl, hdl⟩⟩
-- 4 ways

theorem l17DrawTwo_fn {n : Nat} {c : Nat → Int} (hc : Byt n c) : Fn Tryz.prog 171 [vBy n c] (fun _ _ z => ∃ p L X Y, z = .v (.tup [vK p none L, .ints none X, .ints none Y]) ∧ (-1000 ≤ p ∧ p ≤ 1000) ∧ L.length ≤ 100 ∧ X.length ≤ 100000 ∧ Y.length ≤ 100000) := by
 refine fn_of (cx_ok [0, 2, 3, 4, 5, 6, 7]) Tryz.func171 rfl (by decide) Tryz.ntmps171 (Nat.le_of_ble_eq_true rfl) fun base => ?_
 refine wrs fun K hK => ?_
 conv => whnf
 intro b_2 hs_2 hh_2 hf_2
 try dsimp only at hh_2 hf_2
 conv => whnf
 refine hK _ ?_
 clear hK K
 refine wrs fun K hK => ?_
 conv => whnf
 refine callP rfl (l01From_fn hc) ?_
 rintro lo hi hi' z hl1 hl2 hl3 ⟨b, x, hx, rfl⟩ _
 try dsimp only at hl1 hl2
 conv => whnf
 refine hK _ ?_
 clear hK K
 refine wrs fun K hK => ?_
 conv => whnf
 refine ⟨⟨rfl, rfl⟩, ?_⟩
 conv => whnf
 refine ⟨rfl, _, (l17Draw_m hc b x hx), ?_⟩
 rintro hs_ms1 av x' t' hh_ms1 ⟨rfl, ⟨x1, hx1, rfl⟩, _, rfl, ⟨p, L, rfl, hp, hL⟩⟩ _ _ _
 try dsimp only at hh_ms1
 conv => whnf
 intro b_6 hs_6 hh_6 hf_6
 try dsimp only at hh_6 hf_6
 conv => whnf
 refine ⟨s23, ?_⟩
 conv => whnf
 refine hK _ ?_
 clear hK K
 refine wrs fun K hK => ?_
 conv => whnf
 refine ⟨⟨rfl, rfl⟩, ?_⟩
 conv => whnf
 refine ⟨rfl, _, (l17DrawElement_m hc p L hL b x1 hx1), ?_⟩
 rintro hs_ms2 av x' t' hh_ms2 ⟨rfl, ⟨x2, hx2, rfl⟩, _, rfl, ⟨X, rfl, hX⟩⟩ _ _ _
 try dsimp only at hh_ms2
 conv => whnf
 refine hK _ ?_
 clear hK K
 refine W.seqK fun K2 hK2 => W.sch follows ?_
 refine wt 1 ?_
 conv => whnf
 refine wt 2 ?_
 conv => whnf
 refine w2 0 3 ?_ ?_ <;> conv => whnf
 ·refine w1 3 ?_
  conv => whnf
  refine w1 4 ?_
  conv => whnf
  refine ⟨⟨rfl, rfl⟩, ?_⟩
  conv => whnf
  refine ⟨rfl, _, (l17DrawElement_m hc p L hL b x2 hx2), ?_⟩
  rintro hs_ms3 av x' t' hh_ms3 ⟨rfl, ⟨x3, hx3, rfl⟩, _, rfl, ⟨Y, rfl, hY⟩⟩ _ _ _
  try dsimp only at hh_ms3
  conv => whnf
  refine w1 5 ?_
  conv => whnf
  refine ⟨s23, ?_⟩
  conv => whnf
  refine w1 6 ?_
  conv => whnf
  refine w1 7 ?_
  conv => whnf
  refine wd1 (hK2 _ ?_)
  clear hK2 K2
  refine W.ret ?_
  conv => whnf
  exact ⟨⟨trivial, trivial, trivial⟩, .v (.ints none X), ⟨rfl, rfl⟩, trivial, .v (.ints none Y), ⟨rfl, rfl⟩, trivial, p, L, X, Y, rfl, hp, hL, hX, hY⟩
 ·refine w2 0 4 ?_ ?_ <;> conv => whnf
  ·refine w1 4 ?_
   conv => whnf
   refine ⟨⟨rfl, rfl⟩, ?_⟩
   conv => whnf
   refine ⟨rfl, _, (l17DrawElement_m hc p L hL b x2 hx2), ?_⟩
   rintro hs_ms3 av x' t' hh_ms3 ⟨rfl, ⟨x3, hx3, rfl⟩, _, rfl, ⟨Y, rfl, hY⟩⟩ _ _ _
   try dsimp only at hh_ms3
   conv => whnf
   refine w1 5 ?_
   conv => whnf
   refine ⟨s23, ?_⟩
   conv => whnf
   refine w1 6 ?_
   conv => whnf
   refine w1 7 ?_
   conv => whnf
   refine wd1 (hK2 _ ?_)
   clear hK2 K2
   refine W.ret ?_
   conv => whnf
   exact ⟨⟨trivial, trivial, trivial⟩, .v (.ints none X), ⟨rfl, rfl⟩, trivial, .v (.ints none Y), ⟨rfl, rfl⟩, trivial, p, L, X, Y, rfl, hp, hL, hX, hY⟩
  ·refine ⟨⟨rfl, rfl⟩, ?_⟩
   conv => whnf
   refine ⟨rfl, _, (l17DrawElement_m hc p L hL b x2 hx2), ?_⟩
   rintro hs_ms3 av x' t' hh_ms3 ⟨rfl, ⟨x3, hx3, rfl⟩, _, rfl, ⟨Y, rfl, hY⟩⟩ _ _ _
   try dsimp only at hh_ms3
   conv => whnf
   refine w1 0 ?_
   conv => whnf
   refine w1 5 ?_
   conv => whnf
   refine ⟨s23, ?_⟩
   conv => whnf
   refine w1 6 ?_
   conv => whnf
   refine w1 7 ?_
   conv => whnf
   refine wd1 (hK2 _ ?_)
   clear hK2 K2
   refine W.ret ?_
   conv => whnf
   exact ⟨⟨trivial, trivial, trivial⟩, .v (.ints none X), ⟨rfl, rfl⟩, trivial, .v (.ints none Y), ⟨rfl, rfl⟩, trivial, p, L, X, Y, rfl, hp, hL, hX, hY⟩
-- 3 ways

theorem l17DrawOne_fn {n : Nat} {c : Nat → Int} (hc : Byt n c) : Fn Tryz.prog 190 [vBy n c] (fun _ _ z => ∃ p L X, z = .v (.tup [vK p none L, .ints none X]) ∧ (-1000 ≤ p ∧ p ≤ 1000) ∧ L.length ≤ 100 ∧ X.length ≤ 100000) := by
 refine fn_of (cx_ok [0, 2, 3, 4, 5]) Tryz.func190 rfl (by decide) Tryz.ntmps190 (Nat.le_of_ble_eq_true rfl) fun base => ?_
 refine wrs fun K hK => ?_
 conv => whnf
 intro b_2 hs_2 hh_2 hf_2
 try dsimp only at hh_2 hf_2
 conv => whnf
 refine hK _ ?_
 clear hK K
 refine wrs fun K hK => ?_
 conv => whnf
 refine callP rfl (l17DrawTwo_fn hc) ?_
 rintro lo hi hi' z hl1 hl2 hl3 ⟨p, L, X, Y, rfl, hp, hL, hX, hY⟩ _
 try dsimp only at hl1 hl2
 conv => whnf
 intro b_4 hs_4 hh_4 hf_4
 try dsimp only at hh_4 hf_4
 conv => whnf
 refine ⟨s23, ?_⟩
 conv => whnf
 refine hK _ ?_
 clear hK K
 refine wrs fun K hK => ?_
 conv => whnf
 refine ⟨s23, ?_⟩
 conv => whnf
 refine hK _ ?_
 clear hK K
 refine W.ret ?_
 conv => whnf
 exact ⟨⟨trivial, trivial, trivial⟩, .v (.ints none X), ⟨rfl, rfl⟩, trivial, p, L, X, rfl, hp, hL, hX⟩

abbrev QOne : Post := fun _ _ z => ∃ p L X, z = .v (.tup [vK p none L, .ints none X]) ∧ (-1000 ≤ p ∧ p ≤ 1000) ∧ L.length ≤ 100 ∧ X.length ≤ 100000
theorem DrawInvertElement_fn {n : Nat} {c : Nat → Int} (hc : Byt n c) : Fn Tryz.prog 29 [vBy n c] QOne := by
 refine fn_of (cx_ok [0, 2, 3]) Tryz.func29 rfl (by decide) Tryz.ntmps29 (Nat.le_of_ble_eq_true rfl) fun base => ?_
 refine wrs fun K hK => ?_
 conv => whnf
 intro b_2 hs_2 hh_2 hf_2
 try dsimp only at hh_2 hf_2
 conv => whnf
 refine hK _ ?_
 clear hK K
 refine wrs fun K hK => ?_
 conv => whnf
 refine callP rfl (l17DrawOne_fn hc) ?_
 rintro lo hi hi' z hl1 hl2 hl3 ⟨p, L, X, rfl, hp, hL, hX⟩ _
 try dsimp only at hl1 hl2
 conv => whnf
 refine ⟨s23, ?_⟩
 conv => whnf
 refine hK _ ?_
 clear hK K
 refine W.ret ?_
 conv => whnf
 exact ⟨⟨trivial, trivial, trivial⟩, .v (.ints none X), ⟨rfl, rfl⟩, trivial, p, L, X, rfl, hp, hL, hX⟩
theorem DrawMakeField_fn {n : Nat} {c : Nat → Int} (hc : Byt n c) : Fn Tryz.prog 36 [vBy n c] (fun _ _ z => ∃ p d : Int, z = .v (.tup [.int .i64 p, .int .i64 d]) ∧ (-1000 ≤ p ∧ p ≤ 1000) ∧ 0 ≤ d ∧ d ≤ 10) := by
 refine fn_of (cx_ok [0, 2, 3, 4]) Tryz.func36 rfl (by decide) Tryz.ntmps36 (Nat.le_of_ble_eq_true rfl) fun base => ?_
 refine wrs fun K hK => ?_
 conv => whnf
 refine hK _ ?_
 clear hK K
 refine wrs fun K hK => ?_
 conv => whnf
 refine callP rfl (l01From_fn hc) ?_
 rintro lo hi hi' z hl1 hl2 hl3 ⟨b, x, hx, rfl⟩ _
 try dsimp only at hl1 hl2
 conv => whnf
 refine hK _ ?_
 clear hK K
 refine wrs fun K hK => ?_
 conv => whnf
 refine ⟨⟨rfl, rfl⟩, ?_⟩
 conv => whnf
 refine ⟨rfl, _, (l01DrawPrime_m hc b x hx), ?_⟩
 rintro hs_ms1 av x' t' hh_ms1 ⟨rfl, ⟨x1, hx1, rfl⟩, _, rfl, ⟨p, rfl, hp⟩⟩ _ _ _
 try dsimp only at hh_ms1
 conv => whnf
 refine ⟨⟨rfl, rfl⟩, ?_⟩
 conv => whnf
 refine ⟨rfl, _, (l01Next_m hc 6 (by constructor <;> decide) b x1 hx1), ?_⟩
 rintro hs_ms2 av x' t' hh_ms2 ⟨rfl, ⟨x2, hx2, rfl⟩, _, rfl, ⟨q, rfl, q0, q1, _⟩⟩ _ _ _
 try dsimp only at hh_ms2
 conv => whnf
 have hp2 : -1000 ≤ p ∧ p ≤ 1000 := by (simp only [List.mem_cons, List.not_mem_nil, or_false] at hp; omega)
 have hq := q1 (by decide)
 refine hK _ ?_
 clear hK K
 refine W.ret ?_
 conv => whnf
 exact ⟨.v (.int .i64 p), ⟨rfl, rfl⟩, trivial, .v (.int .i64 q), ⟨rfl, rfl⟩, trivial, p, q, rfl, hp2, q0, (by omega)⟩

open Go Go.RowKit Go.Proofs Poly
set_option maxRecDepth 100000
set_option maxHeartbeats 8000000

theorem RT.toV {f : Nat} {xs : List V} {l : List Int} {c : Int} (h : FnT Tryz.prog f xs (RT l c)) : FnV f xs (.tup [.ints none l, .int .i64 c]) :=
 FnT.toV h fun _ _ x tb hx => by
  obtain ⟨b, rfl, hb⟩ := hx
  refine ⟨_, rfl, rfl, fun j hj => ?_⟩
  match j, hj with
  | 0, _ => exact ⟨l, rfl, hb, rfl⟩
  | 1, _ => rfl
theorem has_l {p : Int} (hp : p ∈ primes) : letI := sp_of hp; ∀ f X : Poly p, dg X < dg f → dg f ≤ 10 → Has p f.l X.l := by
 letI := sp_of hp
 intro f X h1 h2
 have h3 : X.l.length < f.l.length := h1
 have h4 : f.l.length ≤ 10 := h2
 refine ⟨⟨decide_eq_true hp, by omega, fun j _ => by have := cf_bd X j; omega, ?_⟩, h1⟩
 by_cases h : X.l.length = 0
 ·exact .inl (by omega)
 ·exact .inr (X.ok.2 _ (by omega))
theorem code_zero {p : Int} {l : List Int} {n : Nat} {X : Nat → List Int} (hk : IsFld p l) (h : ∀ i, i < n → Has p l (X i)) : codeEl p l true n X = 0 := by
 unfold codeEl; rw [bP_true hk, bP_true h]; rfl


open Go Go.RowKit Go.ChangeShapes Go.WideShapes Go.ChangeAt Go.Proofs Go.Proofs.YtlhgbljojdbhgaaGreat

theorem fn_calls {P : Program} {f : Nat} {xs : List V} {r : V} {w : World} {vs : Array Value} (h : Fn P f xs (fun _ _ a => a = .v r)) (hl : vs.size = xs.length)
  (hr : ∀ j, j < xs.length → Rep (okAll w) w.heap (xs.getD j .nil) (vs.getD j undef)) :
  Calls P f vs w fun e w' => ∃ v, e = .returned v ∧ Below w.heap.size w w' ∧ Rep (okR (fun _ => False) w'.heap.size) w'.heap r v := by
 refine (h.2 (fun _ => False) w vs (fun _ h => h.elim) hl hr).mono fun e w' ⟨v, av, hi, h1, h2, h3, h4, h5⟩ => ?_
 subst h3
 obtain ⟨_, h6, _⟩ := h5
 refine ⟨v, h1, h4, ?_⟩
 exact Rep.mono h6 fun g b hb => ⟨⟨hb.1, fun h => h.elim, hb.2.2⟩, rfl⟩

theorem ownP : ownKnob Tryz.prog.godebug = none := by kernel_rfl
theorem laidOutP : laidOutB Tryz.prog = true := by kernel_rfl
open Go Go.RowKit Go.ChangeShapes Go.WideShapes Go.ChangeAt Go.Proofs Go.Proofs.YtlhgbljojdbhgaaGreat

section
variable {H : Type} {enc : TypeId × Value → H} {P : Program} {w : World}
def TyU8 (xs : List V) : Prop := ∃ n : Int, xs = [.int .u8 n] ∧ 0 ≤ n ∧ n ≤ 255
theorem wf_u8 {n : Int} (h : (Lit.int .u8 n).wf = true) : 0 ≤ n ∧ n ≤ 255 := by
 simp only [Lit.wf, Bool.and_eq_true, decide_eq_true_eq] at h
 have h1 : IntKind.u8.min = 0 := rfl
 have h2 : IntKind.u8.max = 255 := rfl
 omega
theorem reads_u8 {t : TypeId} (ht : P.underlying t = some (.int .u8)) : Reads enc P w t 1 TyU8 := by
 intro fuel cs d ps h
 obtain ⟨n, hc, hx, hw⟩ := DataW.trod_int ht h
 subst hc
 refine ⟨rfl, _, ⟨n, rfl, wf_u8 hw⟩, rfl, by simp [V.isCell], fun j hj => ?_⟩
 obtain rfl : j = 0 := by omega
 exact .int _ _
theorem bytes_of {xs : List V} (h : TyVals 1 mkHead TyU8 xs) : ∃ (n : Nat) (c : Nat → Int), (∀ i, 0 ≤ c i ∧ c i ≤ 255) ∧ xs.length = 1 ∧ ∀ ok h' v, Rep ok h' (xs.getD 0 .nil) v → Rep ok h' (vBy n c) v := by
 obtain ⟨n, f, rfl, _, hf⟩ := h
 have hf2 : ∀ i, ∃ z : Int, (0 ≤ z ∧ z ≤ 255) ∧ (i < n → f i = .int .u8 z) := by
  intro i
  by_cases hi : i < n
  ·obtain ⟨ys, ⟨z, rfl, hz⟩, e⟩ := hf i hi
   exact ⟨z, hz, fun _ => e⟩
  ·exact ⟨0, by omega, fun h => absurd h hi⟩
 refine ⟨n, fun i => Classical.choose (hf2 i), fun i => (Classical.choose_spec (hf2 i)).1, rfl, fun ok h' v r => leV_sound (x := .vals none 1 n f) ⟨rfl, rfl, rfl, fun i hi => (Classical.choose_spec (hf2 i)).2 hi⟩ r⟩
end
theorem fn_trueB {P : Program} {f : Nat} {xs : List V} {w : World} {vs : Array Value} (h : Fn P f xs (fun _ _ a => a = .v (.bool true))) (hl : vs.size = xs.length)
  (hr : ∀ j, j < xs.length → Rep (okAll w) w.heap (xs.getD j .nil) (vs.getD j undef)) :
  Calls P f vs w fun e w' => e = .returned (.bool true) ∧ Below w.heap.size w w' :=
 (fn_calls h hl hr).mono fun e w' ⟨v, h1, h2, h3⟩ => by
  cases h3
  exact ⟨h1, h2⟩
theorem cellsU8 : Tryz.prog.cellsOf 5 = 1 := by kernel_rfl
theorem readsBytes {H : Type} {enc : TypeId × Value → H} {W : World} : Reads enc Tryz.prog W 22 1 (TyVals 1 mkHead TyU8) :=
 reads_slice Tryz.underlying22 cellsU8 (fun xs h1 h2 => mk_head xs h1 h2) (reads_u8 Tryz.underlying5)

open Go Go.RowKit Go.ChangeShapes Go.WideShapes Go.ChangeAt Go.Proofs Go.Proofs.YtlhgbljojdbhgaaGreat
set_option maxRecDepth 100000

def signs : List Char := [104, 97, 114, 110, 101, 115, 115, 32, 55, 54, 48, 101, 100, 54, 97, 101, 49, 49, 100, 56, 52, 50, 48, 97, 49, 52, 52, 50, 54, 49, 97, 98, 98, 57, 51, 52, 99, 49, 49, 52, 56, 102, 56, 100, 100, 102, 49, 49, 53, 99, 100, 98, 56, 55, 54, 99, 98, 57, 99, 54, 52, 53, 49, 99, 48, 101, 102, 56, 54, 99, 49, 99, 32, 99, 117, 116, 32, 97, 116, 32, 108, 111, 111, 112, 46, 101, 120, 97, 109, 112, 108, 101, 47, 103, 48, 49, 48, 48, 48, 47, 108, 97, 119, 115, 46, 70, 110, 69, 108, 101, 109, 101, 110, 116, 115, 32, 108, 111, 111, 112, 46, 101, 120, 97, 109, 112, 108, 101, 47, 103, 48, 49, 48, 48, 48, 47, 108, 97, 119, 115, 46, 70, 110, 70, 105, 101, 108, 100, 115, 32, 108, 111, 111, 112, 46, 101, 120, 97, 109, 112, 108, 101, 47, 103, 48, 49, 48, 48, 48, 47, 108, 97, 119, 115, 46, 70, 110, 84, 114, 97, 99, 101, 115, 32, 108, 111, 111, 112, 46, 101, 120, 97, 109, 112, 108, 101, 47, 103, 48, 49, 48, 48, 48, 47, 108, 97, 119, 115, 46, 70, 110, 76, 111, 103, 115, 32, 108, 111, 111, 112, 46, 101, 120, 97, 109, 112, 108, 101, 47, 103, 48, 49, 48, 48, 48, 47, 108, 97, 119, 115, 46, 70, 110, 80, 114, 105, 109, 105, 116, 105, 118, 101, 32, 108, 111, 111, 112, 46, 101, 120, 97, 109, 112, 108, 101, 47, 103, 48, 49, 48, 48, 48, 47, 108, 97, 119, 115, 46, 70, 110, 77, 105, 110, 105, 109, 97, 108, 32, 108, 111, 111, 112, 46, 101, 120, 97, 109, 112, 108, 101, 47, 103, 48, 49, 48, 48, 48, 47, 108, 97, 119, 115, 46, 70, 110, 77, 111, 100, 117, 108, 97, 114, 70, 97, 99, 116, 111, 114, 115, 32, 108, 111, 111, 112, 46, 101, 120, 97, 109, 112, 108, 101, 47, 103, 48, 49, 48, 48, 48, 47, 108, 97, 119, 115, 46, 70, 110, 68, 101, 103, 114, 101, 101, 115, 32, 108, 111, 111, 112, 46, 101, 120, 97, 109, 112, 108, 101, 47, 103, 48, 49, 48, 48, 48, 47, 108, 97, 119, 115, 46, 70, 110, 78, 117, 109, 98, 101, 114, 101, 100, 32, 108, 111, 111, 112, 46, 101, 120, 97, 109, 112, 108, 101, 47, 103, 48, 49, 48, 48, 48, 47, 108, 97, 119, 115, 46, 70, 110, 76, 105, 102, 116, 101, 100, 70, 97, 99, 116, 111, 114, 115, 32, 108, 111, 111, 112, 46, 101, 120, 97, 109, 112, 108, 101, 47, 103, 48, 49, 48, 48, 48, 47, 108, 97, 119, 115, 46, 70, 110, 69, 120, 116, 101, 110, 115, 105, 111, 110, 115, 32, 108, 111, 111, 112, 46, 101, 120, 97, 109, 112, 108, 101, 47, 103, 48, 49, 48, 48, 48, 47, 108, 97, 119, 115, 46, 70, 110, 85, 110, 105, 116, 115, 32, 108, 111, 111, 112, 46, 101, 120, 97, 109, 112, 108, 101, 47, 103, 48, 49, 48, 48, 48, 47, 108, 97, 119, 115, 46, 70, 110, 82, 101, 115, 105, 100, 117, 97, 108, 70, 97, 99, 116, 111, 114, 115].map Char.ofNat
def word1 : List Char := [99, 117, 116].map Char.ofNat
def words : List (List Char) := [[97, 116], [108, 111, 111, 112, 46, 101, 120, 97, 109, 112, 108, 101, 47, 103, 48, 49, 48, 48, 48, 47, 108, 97, 119, 115, 46, 70, 110, 69, 108, 101, 109, 101, 110, 116, 115], [108, 111, 111, 112, 46, 101, 120, 97, 109, 112, 108, 101, 47, 103, 48, 49, 48, 48, 48, 47, 108, 97, 119, 115, 46, 70, 110, 70, 105, 101, 108, 100, 115], [108, 111, 111, 112, 46, 101, 120, 97, 109, 112, 108, 101, 47, 103, 48, 49, 48, 48, 48, 47, 108, 97, 119, 115, 46, 70, 110, 84, 114, 97, 99, 101, 115], [108, 111, 111, 112, 46, 101, 120, 97, 109, 112, 108, 101, 47, 103, 48, 49, 48, 48, 48, 47, 108, 97, 119, 115, 46, 70, 110, 76, 111, 103, 115], [108, 111, 111, 112, 46, 101, 120, 97, 109, 112, 108, 101, 47, 103, 48, 49, 48, 48, 48, 47, 108, 97, 119, 115, 46, 70, 110, 80, 114, 105, 109, 105, 116, 105, 118, 101], [108, 111, 111, 112, 46, 101, 120, 97, 109, 112, 108, 101, 47, 103, 48, 49, 48, 48, 48, 47, 108, 97, 119, 115, 46, 70, 110, 77, 105, 110, 105, 109, 97, 108], [108, 111, 111, 112, 46, 101, 120, 97, 109, 112, 108, 101, 47, 103, 48, 49, 48, 48, 48, 47, 108, 97, 119, 115, 46, 70, 110, 77, 111, 100, 117, 108, 97, 114, 70, 97, 99, 116, 111, 114, 115], [108, 111, 111, 112, 46, 101, 120, 97, 109, 112, 108, 101, 47, 103, 48, 49, 48, 48, 48, 47, 108, 97, 119, 115, 46, 70, 110, 68, 101, 103, 114, 101, 101, 115], [108, 111, 111, 112, 46, 101, 120, 97, 109, 112, 108, 101, 47, 103, 48, 49, 48, 48, 48, 47, 108, 97, 119, 115, 46, 70, 110, 78, 117, 109, 98, 101, 114, 101, 100], [108, 111, 111, 112, 46, 101, 120, 97, 109, 112, 108, 101, 47, 103, 48, 49, 48, 48, 48, 47, 108, 97, 119, 115, 46, 70, 110, 76, 105, 102, 116, 101, 100, 70, 97, 99, 116, 111, 114, 115], [108, 111, 111, 112, 46, 101, 120, 97, 109, 112, 108, 101, 47, 103, 48, 49, 48, 48, 48, 47, 108, 97, 119, 115, 46, 70, 110, 69, 120, 116, 101, 110, 115, 105, 111, 110, 115], [108, 111, 111, 112, 46, 101, 120, 97, 109, 112, 108, 101, 47, 103, 48, 49, 48, 48, 48, 47, 108, 97, 119, 115, 46, 70, 110, 85, 110, 105, 116, 115], [108, 111, 111, 112, 46, 101, 120, 97, 109, 112, 108, 101, 47, 103, 48, 49, 48, 48, 48, 47, 108, 97, 119, 115, 46, 70, 110, 82, 101, 115, 105, 100, 117, 97, 108, 70, 97, 99, 116, 111, 114, 115]].map fun w => w.map Char.ofNat
theorem initS : Tryz.checked.prog.initOrder = String.ofList signs := by kernel_rfl
theorem initW : behindMainWord (wordsSigns Tryz.checked.prog.initOrder.toList) = word1 :: words := by rw [initS, String.toList_ofList]; kernel_rfl
theorem mayEnter_of {P : Program} {c : List Char} {rest : List (List Char)} (h0 : behindMainWord (wordsSigns P.initOrder.toList) = c :: rest) (h1 : (stripLifts liftWords (c :: rest)) = ([], c :: rest)) (h2 : (c == "cut".toList) = true)
  (h3 : P.laysLater = false) (h4 : P.bearsReflect = false) (h5 : P.doorFits [] = true) : P.mayEnter = true := by
 unfold Program.mayEnter
 rw [h0]
 have e : (some c == some "cut".toList) = true := h2
 refine (Bool.or_eq_true _ _).mpr (.inr ?_)
 rw [h1, h3, h4, h5]
 show ((some c == some "cut".toList) && _ && _ && _ && _) = true
 rw [e]
 rfl
theorem lifts0 : stripLifts liftWords (word1 :: words) = ([], word1 :: words) := by kernel_rfl
theorem enterP : Tryz.checked.prog.mayEnter = true := mayEnter_of initW lifts0 (by kernel_rfl) (by kernel_rfl) (by kernel_rfl) (by kernel_rfl)
theorem headLifts_of {P : Program} {c : List Char} {rest : List (List Char)} (h0 : behindMainWord (wordsSigns P.initOrder.toList) = c :: rest) (h1 : stripLifts liftWords (c :: rest) = ([], c :: rest)) : P.headLifts = [] := by
 unfold Program.headLifts
 rw [h0, h1]
 dsimp only
 split <;> rfl
theorem liftsFinal_of {P : Program} {c : List Char} {rest : List (List Char)} (h0 : behindMainWord (wordsSigns P.initOrder.toList) = c :: rest) (hh : P.headLifts = []) (h2 : (c == "carried".toList) = false) : P.liftsFinal = false := by
 have e : (some c == some "carried".toList) = false := h2
 unfold Program.liftsFinal
 rw [h0, hh]
 show (((some c == some "carried".toList) && _) || _) = false
 rw [e]
 rfl
theorem make_of {P : Program} {c : List Char} {rest : List (List Char)} (h0 : behindMainWord (wordsSigns P.initOrder.toList) = c :: rest) (h1 : (c == "gc".toList) = false) (h2 : (c == "spec".toList) = false) (h3 : (c == "cut".toList) = true) : P.make = some .cut := by
 unfold Program.make
 rw [h0]
 dsimp only
 rw [h1, h2, h3]
 rfl
theorem headP : Tryz.checked.prog.headLifts = [] := headLifts_of initW lifts0
theorem liftP : Tryz.checked.prog.liftsFinal = false := liftsFinal_of initW headP (by kernel_rfl)
theorem makeP : Tryz.checked.prog.make = some .cut := make_of initW (by kernel_rfl) (by kernel_rfl) (by kernel_rfl)

end Go.Proofs.YtlhgbljojdbhgaaGreat
