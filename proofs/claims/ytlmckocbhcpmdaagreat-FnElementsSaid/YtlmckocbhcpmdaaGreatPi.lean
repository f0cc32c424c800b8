/- What the program's functions and the reference's return. No conditions. -/
import Derived.Test.YtlmckocbhcpmdaaGreatPh
import Derived.Test.YtlmckocbhcpmdaaGreatRows
namespace Go.Proofs.YtlmckocbhcpmdaaGreat
open Go Go.RowKit Go.Proofs Poly
set_option maxRecDepth 100000
set_option maxHeartbeats 8000000

/- the program's begin: a field, an element, something more (a value b) -/
/- the reference's: $1 name $2 modulus $3 element $4 $5 their ghosts -/
/- c is not 0 -/
/- what becomes of c = 0 and something not right: code 2 -/

theorem codeB_bad {p : Int} {l x : List Int} {c : Int} (hc : code1 p l x = c) (h0 : c ≠ 0) (b : Bool) : codeEl p l b 1 (fun _ => x) = c := by
 rw [codeEl_b, show codeEl p l true 1 (fun _ => x) = c from hc, if_neg h0]
theorem codeB_two {p : Int} {l x : List Int} (hc : code1 p l x = 0) {b : Bool} (hb : b = false) : codeEl p l b 1 (fun _ => x) = 2 := by
 rw [codeEl_b, show codeEl p l true 1 (fun _ => x) = 0 from hc, if_pos rfl, hb]; rfl
theorem codeB_ok {p : Int} {l x : List Int} (hc : code1 p l x = 0) {b : Bool} (hb : b = true) : codeEl p l b 1 (fun _ => x) = 0 := by
 rw [codeEl_b, show codeEl p l true 1 (fun _ => x) = 0 from hc, if_pos rfl, if_pos hb]

theorem PowerElement_E (kp : Int) (kl x : List Int) (e : Int) (_ : inR kp) (_ : inR e) (hkl : kl.length ≤ 1048576) (hx : x.length ≤ 1048576) : ∃ (r0 : List Int) (r1 : Int),
  (∀ g0 g1 : Option Nat, FnV 26 [vK kp g0 kl, .ints g1 x, .int .i64 e] (.tup [.ints none r0, .int .i64 r1])) ∧ (∀ g0 g1 : Option Nat, FnT Tryz.prog 25 [vK kp g0 kl, .ints g1 x, .int .i64 e] (RT r0 r1)) ∧ r0.length ≤ 1000000 ∧ (r1 = 0 → code1 kp kl x = 0 ∧ 0 ≤ e ∧ e ≤ 1000000000000) ∧ ∀ hp : kp ∈ primes, letI := sp_of hp; ∀ f X : Poly kp, f.l = kl → X.l = x → code1 kp kl x = 0 → ∀ n : Nat, e = n → n ≤ 1000000000000 → r1 = 0 ∧ r0 = (rem (X ^ n) f).l := by
 generalize hc : code1 kp kl x = c
 by_cases h0 : c = 0
 case neg =>
  refine ⟨[], c, fun g0 g1 => ?_, fun g0 g1 => ?_, by simp, fun h => absurd h h0, fun _ _ _ _ _ h => absurd h h0⟩
  ·refine fn_of (cx_ok [0, 1, 2, 3, 6, 7, 8, 19, 21]) Tryz.func26 rfl (by decide) Tryz.ntmps26 (Nat.le_of_ble_eq_true rfl) fun base => ?_
   refine wrs fun K hK => ?_
   conv => whnf
   refine ⟨rfl, ?_⟩
   conv => whnf
   intro b_1 hs_1 hh_1 hf_1
   try dsimp only at hh_1 hf_1
   conv => whnf
   refine hK _ ?_
   clear hK K
   refine wrs fun K hK => ?_
   conv => whnf
   refine callV rfl (l17Code_one kp g0 g1 g1 kl x (by omega) (by omega)) fun hs' hhs => ?_
   try dsimp only at hhs
   conv => whnf
   rw [hc]
   refine hK _ ?_
   clear hK K
   refine W.seqK fun K1 hK1 => ?_
   refine wrs fun K hK => ?_
   conv => whnf
   refine ⟨fun h => ?_, fun h => ?_⟩ <;> conv => whnf
   ·exact absurd (of_decide_eq_true h) h0
   refine hK _ (W.condF rfl (W.skip (hK1 _ ?_)))
   clear hK K hK1 K1
   refine W.seqK fun K1 hK1 => ?_
   refine wrs fun K hK => ?_
   conv => whnf
   refine hK _ (W.cond ⟨fun _ => ?_, fun hcc => absurd h0 (of_decide_eq_false hcc)⟩)
   clear hK K
   refine wrs fun K hK => ?_
   conv => whnf
   refine hK _ ?_
   clear hK K
   refine W.ret ?_
   conv => whnf
   exact ⟨.v (.ints none []), rfl, trivial, .v (.int .i64 c), ⟨rfl, rfl⟩, trivial, rfl⟩
  ·refine fnt_of (cxt_ok [] [0, 1, 2, 3, 6, 7, 8, 16, 1000000]) Tryz.func25 rfl (by decide) Tryz.ntmps25 (Nat.le_of_ble_eq_true rfl) (fun base => ?_) (Nat.le_of_ble_eq_true rfl)
   refine W.sw (c' := cx [0, 1, 2, 3, 6, 7, 8, 16, 1000000]) ?_
   refine wrs fun K hK => ?_
   conv => whnf
   refine ⟨rfl, ?_⟩
   conv => whnf
   intro b_1 hs_1 hh_1 hf_1
   try dsimp only at hh_1 hf_1
   conv => whnf
   refine hK _ ?_
   clear hK K
   refine W.seqK fun K1 hK1 => ?_
   refine W.rd (cx_ok _) follows (by rfl) fun K hK => ?_
   conv => whnf
   refine ⟨_, cxF (within_fn e 0 1000000000000), ?_⟩
   conv => whnf
   refine ⟨⟨rfl, by decide, fun x hx => (by simp at hx; subst hx; exact ⟨rfl, rfl⟩)⟩, ?_⟩
   conv => whnf
   refine ⟨_, cxF (elements_bool kp g0 none kl _ 1 _ (fun _ => x) (by omega) (by omega) (els1 g1 x)), ?_⟩
   conv => whnf
   rw [codeB_bad hc h0]
   refine hK _ ?_
   clear hK K
   refine wrs fun K hK => ?_
   conv => whnf
   refine hK _ (W.cond ⟨fun _ => ?_, fun hcc => absurd h0 (of_decide_eq_false hcc)⟩)
   clear hK K
   refine wrs fun K hK => ?_
   conv => whnf
   refine hK _ ?_
   clear hK K
   refine W.ret ?_
   conv => whnf
   exact ⟨.v (.rf 0 0), rfl, trivial, .v (.int .i64 (c)), ⟨rfl, rfl⟩, trivial, 0, rfl, fun hne => absurd rfl hne⟩
 subst h0
 by_cases he : 0 ≤ e ∧ e ≤ 1000000000000
 case neg =>
  refine ⟨[], 2, fun g0 g1 => ?_, fun g0 g1 => ?_, by simp, fun h => absurd h (by decide), fun _ _ _ _ _ _ n h1 h2 => absurd ⟨by omega, by omega⟩ he⟩
  ·refine fn_of (cx_ok [0, 1, 2, 3, 6, 7, 8, 19, 21]) Tryz.func26 rfl (by decide) Tryz.ntmps26 (Nat.le_of_ble_eq_true rfl) fun base => ?_
   refine wrs fun K hK => ?_
   conv => whnf
   refine ⟨rfl, ?_⟩
   conv => whnf
   intro b_1 hs_1 hh_1 hf_1
   try dsimp only at hh_1 hf_1
   conv => whnf
   refine hK _ ?_
   clear hK K
   refine wrs fun K hK => ?_
   conv => whnf
   refine callV rfl (l17Code_one kp g0 g1 g1 kl x (by omega) (by omega)) fun hs' hhs => ?_
   try dsimp only at hhs
   conv => whnf
   rw [hc]
   refine hK _ ?_
   clear hK K
   refine W.seqK fun K1 hK1 => ?_
   refine wrs fun K hK => ?_
   conv => whnf
   refine ⟨fun h => ?_, fun h => ?_⟩ <;> conv => whnf
   ·refine callV rfl ((l01In_fn e 0 1000000000000).fa (decide_eq_false he)) fun hs' hhs => ?_
    try dsimp only at hhs
    conv => whnf
    refine hK _ (W.condT rfl ?_)
    clear hK K
    refine wrg ?_
    conv => whnf
    refine hK1 _ ?_
    clear hK1 K1
    refine W.seqK fun K1 hK1 => ?_
    refine wrs fun K hK => ?_
    conv => whnf
    refine hK _ (W.cond ⟨fun _ => ?_, fun hcc => absurd (by decide : (2 : Int) ≠ 0) (of_decide_eq_false hcc)⟩)
    clear hK K
    refine wrs fun K hK => ?_
    conv => whnf
    refine hK _ ?_
    clear hK K
    refine W.ret ?_
    conv => whnf
    exact ⟨.v (.ints none []), rfl, trivial, .v (.int .i64 2), ⟨rfl, rfl⟩, trivial, rfl⟩
   ·exact absurd rfl (of_decide_eq_false h)
  ·refine fnt_of (cxt_ok [] [0, 1, 2, 3, 6, 7, 8, 16, 1000000]) Tryz.func25 rfl (by decide) Tryz.ntmps25 (Nat.le_of_ble_eq_true rfl) (fun base => ?_) (Nat.le_of_ble_eq_true rfl)
   refine W.sw (c' := cx [0, 1, 2, 3, 6, 7, 8, 16, 1000000]) ?_
   refine wrs fun K hK => ?_
   conv => whnf
   refine ⟨rfl, ?_⟩
   conv => whnf
   intro b_1 hs_1 hh_1 hf_1
   try dsimp only at hh_1 hf_1
   conv => whnf
   refine hK _ ?_
   clear hK K
   refine W.seqK fun K1 hK1 => ?_
   refine W.rd (cx_ok _) follows (by rfl) fun K hK => ?_
   conv => whnf
   refine ⟨_, cxF (within_fn e 0 1000000000000), ?_⟩
   conv => whnf
   refine ⟨⟨rfl, by decide, fun x hx => (by simp at hx; subst hx; exact ⟨rfl, rfl⟩)⟩, ?_⟩
   conv => whnf
   refine ⟨_, cxF (elements_bool kp g0 none kl _ 1 _ (fun _ => x) (by omega) (by omega) (els1 g1 x)), ?_⟩
   conv => whnf
   rw [codeB_two hc (decide_eq_false he)]
   refine hK _ ?_
   clear hK K
   refine wrs fun K hK => ?_
   conv => whnf
   refine hK _ (W.cond ⟨fun _ => ?_, fun hcc => absurd (by decide : (2 : Int) ≠ 0) (of_decide_eq_false hcc)⟩)
   clear hK K
   refine wrs fun K hK => ?_
   conv => whnf
   refine hK _ ?_
   clear hK K
   refine W.ret ?_
   conv => whnf
   exact ⟨.v (.rf 0 0), rfl, trivial, .v (.int .i64 (2)), ⟨rfl, rfl⟩, trivial, 0, rfl, fun hne => absurd rfl hne⟩
 obtain ⟨hk, hh⟩ := code1_ok hc
 obtain ⟨hp, f, rfl, hfi, _, _, hf9⟩ := fld_poly hk
 letI := sp_of hp
 obtain ⟨X, rfl⟩ := mod_poly hh.1
 have hxl : X.l.length < f.l.length := hh.2
 have hfl : f.l.length = dg f := rfl
 have hXl : X.l.length = dg X := rfl
 have hf0 := hfi.ne
 obtain ⟨n, rfl⟩ : ∃ n : Nat, e = n := ⟨e.toNat, by omega⟩
 refine ⟨(rem (X ^ n) f).l, 0, fun g0 g1 => ?_, fun g0 g1 => ?_, ?_, fun _ => ⟨rfl, he⟩, fun hp' f' X' e1 e2 _ n' h1 _ => by (obtain rfl := ext_l e1; obtain rfl := ext_l e2; obtain rfl : n' = n := (by omega); exact ⟨rfl, rfl⟩)⟩
 ·refine fn_of (cx_ok [0, 1, 2, 3, 6, 7, 8, 19, 21]) Tryz.func26 rfl (by decide) Tryz.ntmps26 (Nat.le_of_ble_eq_true rfl) fun base => ?_
  refine wrs fun K hK => ?_
  conv => whnf
  refine ⟨rfl, ?_⟩
  conv => whnf
  intro b_1 hs_1 hh_1 hf_1
  try dsimp only at hh_1 hf_1
  conv => whnf
  refine hK _ ?_
  clear hK K
  refine wrs fun K hK => ?_
  conv => whnf
  refine callV rfl (l17Code_one kp g0 g1 g1 f.l X.l (by omega) (by omega)) fun hs' hhs => ?_
  try dsimp only at hhs
  conv => whnf
  rw [hc]
  refine hK _ ?_
  clear hK K
  refine W.seqK fun K1 hK1 => ?_
  refine wrs fun K hK => ?_
  conv => whnf
  refine ⟨fun h => ?_, fun h => ?_⟩ <;> conv => whnf
  ·refine callV rfl ((l01In_fn n 0 1000000000000).tr (decide_eq_true he)) fun hs' hhs => ?_
   try dsimp only at hhs
   conv => whnf
   refine hK _ (W.condF rfl (W.skip (hK1 _ ?_)))
   clear hK K hK1 K1
   refine W.seqK fun K1 hK1 => ?_
   refine wrs fun K hK => ?_
   conv => whnf
   refine hK _ (W.cond ⟨fun hcc => absurd rfl (of_decide_eq_true hcc), fun _ => W.skip (hK1 _ ?_)⟩)
   clear hK K hK1 K1
   refine wrs fun K hK => ?_
   conv => whnf
   refine callV rfl (l17Power_fn kp g0 g1 f X n (by omega) (by omega) (by omega) hf0) fun hs' hhs => ?_
   try dsimp only at hhs
   conv => whnf
   refine hK _ ?_
   clear hK K
   refine W.ret ?_
   conv => whnf
   exact ⟨.v (.ints none (rem (X ^ n) f).l), ⟨rfl, rfl⟩, trivial, .v (.int .i64 0), ⟨rfl, rfl⟩, trivial, rfl⟩
  ·exact absurd rfl (of_decide_eq_false h)
 ·refine fnt_of (cxt_ok [] [0, 1, 2, 3, 6, 7, 8, 16, 1000000]) Tryz.func25 rfl (by decide) Tryz.ntmps25 (Nat.le_of_ble_eq_true rfl) (fun base => ?_) (Nat.le_of_ble_eq_true rfl)
  refine W.sw (c' := cx [0, 1, 2, 3, 6, 7, 8, 16, 1000000]) ?_
  refine wrs fun K hK => ?_
  conv => whnf
  refine ⟨rfl, ?_⟩
  conv => whnf
  intro b_1 hs_1 hh_1 hf_1
  try dsimp only at hh_1 hf_1
  conv => whnf
  refine hK _ ?_
  clear hK K
  refine W.seqK fun K1 hK1 => ?_
  refine W.rd (cx_ok _) follows (by rfl) fun K hK => ?_
  conv => whnf
  refine ⟨_, cxF (within_fn n 0 1000000000000), ?_⟩
  conv => whnf
  refine ⟨⟨rfl, by decide, fun x hx => (by simp at hx; subst hx; exact ⟨rfl, rfl⟩)⟩, ?_⟩
  conv => whnf
  refine ⟨_, cxF (elements_bool kp g0 none f.l _ 1 _ (fun _ => X.l) (by omega) (by omega) (els1 g1 X.l)), ?_⟩
  conv => whnf
  rw [codeB_ok hc (decide_eq_true he)]
  refine hK _ ?_
  clear hK K
  refine wrs fun K hK => ?_
  conv => whnf
  refine hK _ (W.cond ⟨fun hcc => absurd rfl (of_decide_eq_true hcc), fun _ => W.skip (hK1 _ ?_)⟩)
  clear hK K hK1 K1
  refine W.sw (c' := cxt [179] [0, 1, 2, 3, 6, 7, 8, 16, 1000000]) ?_
  refine W.rs (cxt_ok _ _) (by rfl) fun K hK => ?_
  conv => whnf
  refine ⟨_, cxT (kPower_T kp g0 g1 f X n (by omega) (by omega) (by omega) hf0), fun lo_t hi_t hs_t x_t tn_t tb_t hl1_t hl2_t _ hp_t hf_t hn_t ho_t => ?_⟩
  try dsimp only at hl1_t hl2_t
  obtain ⟨bt, rfl, ht⟩ := hp_t
  conv => whnf
  refine hK _ ?_
  clear hK K
  refine W.ret ?_
  conv => whnf
  exact ⟨.v (.rf bt (rem (X ^ n) f).l.length), rfl, trivial, .v (.int .i64 0), ⟨rfl, rfl⟩, trivial, bt, rfl, fun h => hn_t _ _ (ht h)⟩
 ·have := rem_lt (X ^ n) hf0
  show dg (rem (X ^ n) f) ≤ _; omega
open Go Go.RowKit Go.Proofs Poly
set_option maxRecDepth 100000
set_option maxHeartbeats 8000000

theorem l17With_fn (p : Int) (g : Option Nat) (l : List Int) (n : Nat) (hp : 2 ≤ p) (hn : n ≤ 1000000000) : FnV 177 [vK p g l, .int .i64 n] (.ints none (dig p.toNat n)) := by
 obtain ⟨q, rfl⟩ : ∃ q : Nat, p = q := ⟨p.toNat, by omega⟩
 rw [Int.toNat_natCast]
 have hp : 2 ≤ q := by omega
 refine fn_of (cx_ok [0, 1, 2, 4, 5, 8]) Tryz.func177 rfl (by decide) Tryz.ntmps177 (Nat.le_of_ble_eq_true rfl) fun base => ?_
 refine wrs fun K hK => ?_
 conv => whnf
 refine ⟨rfl, ?_⟩
 conv => whnf
 intro b_1 hs_1 hh_1 hf_1
 try dsimp only at hh_1 hf_1
 conv => whnf
 refine hK _ ?_
 clear hK K
 refine wrs fun K hK => ?_
 conv => whnf
 refine ⟨⟨rfl, by decide⟩, ?_⟩
 conv => whnf
 intro b_2 hs_2 hh_2 hf_2
 try dsimp only at hh_2 hf_2
 conv => whnf
 refine hK _ ?_
 clear hK K
 refine W.seqK fun K1 hK1 => W.block (W.invA (fun m e => ∃ (k b : Nat) (o : List Int), k ≤ n ∧ o ++ dig q k = dig q n ∧ o.length + k ≤ n ∧ m = k ∧ e = [(1, .v (.int .i64 k)), (2, .ownB b_1 (vK q g l)), (5, .ownI 2 b o)]) ⟨n, b_2, [], Nat.le_refl _, rfl, by simp, rfl, rfl⟩ ?_)
 rintro m e ⟨k, b, o, hk, ho, hol, hm, rfl⟩
 refine W.seqK fun K7 hK7 => wrs fun K hK => ?_
 conv => whnf
 refine hK _ (W.cond ⟨fun h => ?_, fun h => ?_⟩) <;> clear hK K <;> (first | replace h := of_decide_eq_true h | replace h := of_decide_eq_false h)
 ·have h1 := dig_pos hp (n := k) (by omega)
  have h2 : k / q < k := Nat.div_lt_self (by omega) hp
  have h3 : ((k : Int)).tmod q = ((k % q : Nat) : Int) := tmod_nat k q
  have h4 : ((k : Int)).tdiv q = ((k / q : Nat) : Int) := tdiv_nat k q
  generalize k / q = v at h1 h2 h4
  generalize k % q = u at h1 h3
  refine W.skip (hK7 _ ?_)
  clear hK7 K7
  refine W.seqK fun K8 hK8 => W.block ?_
  refine wrg ?_
  conv => whnf
  refine ⟨by omega, ?_⟩
  conv => whnf
  rw [h3]
  refine ⟨⟨rfl, by decide⟩, ?_⟩
  conv => whnf
  intro b_1 hs_1 hh_1 hf_1
  try dsimp only at hh_1 hf_1
  conv => whnf
  refine ⟨by dsimp only [List.length]; omega, ?_⟩
  conv => whnf
  intro b_2 hs_2 hh_2 hf_2
  try dsimp only at hh_2 hf_2
  conv => whnf
  refine hK8 _ ?_
  clear hK8 K8
  refine wrg ?_
  conv => whnf
  rw [h4]
  refine ⟨by omega, ?_⟩
  conv => whnf
  refine ⟨oo, ?_⟩
  conv => whnf
  exact againA ⟨v, b_2, o ++ [(u : Int)], by omega, by rw [← ho, h1, List.append_assoc]; rfl, by rw [List.length_append]; dsimp only [List.length]; omega, rfl, rfl⟩
 ·obtain rfl : k = 0 := by omega
  rw [dig_zero, List.append_nil] at ho
  subst ho
  refine W.exit (hK1 _ ?_)
  clear hK7 K7 hK1 K1
  refine wrs fun K hK => ?_
  conv => whnf
  refine hK _ ?_
  clear hK K
  refine W.ret ?_
  conv => whnf
  exact ⟨.v (.ints none (dig q n)), ⟨rfl, rfl⟩, trivial, rfl⟩

theorem ElementWith_E (kp : Int) (kl : List Int) (n : Int) (_ : inR kp) (_ : inR n) (hkl : kl.length ≤ 1048576) : ∃ (r0 : List Int) (r1 : Int),
  (∀ g0 : Option Nat, FnV 23 [vK kp g0 kl, .int .i64 n] (.tup [.ints none r0, .int .i64 r1])) ∧ (∀ g0 : Option Nat, FnT Tryz.prog 22 [vK kp g0 kl, .int .i64 n] (RT r0 r1)) ∧ r0.length ≤ 1000000 ∧ (IsFld kp kl → 0 ≤ n → n < kp ^ (kl.length - 1) → r1 = 0 ∧ r0 = dig kp.toNat n.toNat) := by
 by_cases hk : IsFld kp kl
 case neg =>
  have hc : codeEl kp kl true 0 (fun _ => []) = 1 := by unfold codeEl; rw [bP_false hk]; rfl
  refine ⟨[], 1, fun g0 => ?_, fun g0 => ?_, by simp, fun h => absurd h hk⟩
  ·refine fn_of (cx_ok [0, 1, 2, 4, 5, 8, 14]) Tryz.func23 rfl (by decide) Tryz.ntmps23 (Nat.le_of_ble_eq_true rfl) fun base => ?_
   refine wrs fun K hK => ?_
   conv => whnf
   refine ⟨rfl, ?_⟩
   conv => whnf
   intro b_1 hs_1 hh_1 hf_1
   try dsimp only at hh_1 hf_1
   conv => whnf
   refine hK _ ?_
   clear hK K
   refine W.seqK fun K1 hK1 => ?_
   refine wrs fun K hK => ?_
   conv => whnf
   refine callV rfl ((isFieldS_fn kp g0 kl (by omega)).fa (bP_false hk)) fun hs' hhs => ?_
   try dsimp only at hhs
   conv => whnf
   refine hK _ (W.condT rfl ?_)
   clear hK K
   refine wrs fun K hK => ?_
   conv => whnf
   refine hK _ ?_
   clear hK K
   refine W.ret ?_
   conv => whnf
   exact ⟨.v (.ints none []), rfl, trivial, .v (.int .i64 1), ⟨rfl, rfl⟩, trivial, rfl⟩
  ·refine fnt_of (cxt_ok [] [0, 1, 2, 4, 5, 6, 10, 17, 1000000]) Tryz.func22 rfl (by decide) Tryz.ntmps22 (Nat.le_of_ble_eq_true rfl) (fun base => ?_) (Nat.le_of_ble_eq_true rfl)
   refine W.sw (c' := cx [0, 1, 2, 4, 5, 6, 10, 17, 1000000]) ?_
   refine wrs fun K hK => ?_
   conv => whnf
   refine ⟨rfl, ?_⟩
   conv => whnf
   intro b_1 hs_1 hh_1 hf_1
   try dsimp only at hh_1 hf_1
   conv => whnf
   refine hK _ ?_
   clear hK K
   refine W.seqK fun K1 hK1 => ?_
   refine wrs fun K hK => ?_
   conv => whnf
   refine callV rfl (elements_tr kp g0 none kl 0 _ (fun _ => []) (by omega) (by omega) (fun i hi => by omega)) fun hs' hhs => ?_
   try dsimp only at hhs
   conv => whnf
   rw [hc]
   refine hK _ ?_
   clear hK K
   refine wrs fun K hK => ?_
   conv => whnf
   refine hK _ (W.cond ⟨fun _ => ?_, fun hcc => absurd (by decide : (1 : Int) ≠ 0) (of_decide_eq_false hcc)⟩)
   clear hK K
   refine wrs fun K hK => ?_
   conv => whnf
   refine hK _ ?_
   clear hK K
   refine W.ret ?_
   conv => whnf
   exact ⟨.v (.rf 0 0), rfl, trivial, .v (.int .i64 (1)), ⟨rfl, rfl⟩, trivial, 0, rfl, fun hne => absurd rfl hne⟩
 have hc : codeEl kp kl true 0 (fun _ => []) = 0 := by unfold codeEl; rw [bP_true hk, bP_true (fun i hi => by omega)]; rfl
 have hp1 := isP_le hk.mod.1
 have h9 := hk.mod.2.1
 have hl2 := hk.two
 have ho := hk.ord
 have hb := pow_le_big (p := kp) (by omega) (by omega) (k := kl.length - 1) (by omega)
 by_cases hn : 0 ≤ n ∧ n ≤ kp ^ (kl.length - 1) - 1
 case neg =>
  refine ⟨[], 2, fun g0 => ?_, fun g0 => ?_, by simp, fun _ h1 h2 => absurd ⟨h1, by omega⟩ hn⟩
  ·refine fn_of (cx_ok [0, 1, 2, 4, 5, 8, 14]) Tryz.func23 rfl (by decide) Tryz.ntmps23 (Nat.le_of_ble_eq_true rfl) fun base => ?_
   refine wrs fun K hK => ?_
   conv => whnf
   refine ⟨rfl, ?_⟩
   conv => whnf
   intro b_1 hs_1 hh_1 hf_1
   try dsimp only at hh_1 hf_1
   conv => whnf
   refine hK _ ?_
   clear hK K
   refine W.seqK fun K1 hK1 => ?_
   refine wrs fun K hK => ?_
   conv => whnf
   refine callV rfl ((isFieldS_fn kp g0 kl (by omega)).tr (bP_true hk)) fun hs' hhs => ?_
   try dsimp only at hhs
   conv => whnf
   refine hK _ (W.condF rfl (W.skip (hK1 _ ?_)))
   clear hK K hK1 K1
   refine W.seqK fun K1 hK1 => ?_
   refine wrs fun K hK => ?_
   conv => whnf
   refine callV rfl (l17Size_fn kp g0 kl hk) fun hs' hhs => ?_
   try dsimp only at hhs
   conv => whnf
   refine ⟨oo, ?_⟩
   conv => whnf
   refine callV rfl ((l01In_fn _ _ _).fa (decide_eq_false hn)) fun hs' hhs => ?_
   try dsimp only at hhs
   conv => whnf
   refine hK _ (W.condT rfl ?_)
   clear hK K
   refine wrs fun K hK => ?_
   conv => whnf
   refine hK _ ?_
   clear hK K
   refine W.ret ?_
   conv => whnf
   exact ⟨.v (.ints none []), rfl, trivial, .v (.int .i64 2), ⟨rfl, rfl⟩, trivial, rfl⟩
  ·refine fnt_of (cxt_ok [] [0, 1, 2, 4, 5, 6, 10, 17, 1000000]) Tryz.func22 rfl (by decide) Tryz.ntmps22 (Nat.le_of_ble_eq_true rfl) (fun base => ?_) (Nat.le_of_ble_eq_true rfl)
   refine W.sw (c' := cx [0, 1, 2, 4, 5, 6, 10, 17, 1000000]) ?_
   refine wrs fun K hK => ?_
   conv => whnf
   refine ⟨rfl, ?_⟩
   conv => whnf
   intro b_1 hs_1 hh_1 hf_1
   try dsimp only at hh_1 hf_1
   conv => whnf
   refine hK _ ?_
   clear hK K
   refine W.seqK fun K1 hK1 => ?_
   refine wrs fun K hK => ?_
   conv => whnf
   refine callV rfl (elements_tr kp g0 none kl 0 _ (fun _ => []) (by omega) (by omega) (fun i hi => by omega)) fun hs' hhs => ?_
   try dsimp only at hhs
   conv => whnf
   rw [hc]
   refine hK _ ?_
   clear hK K
   refine wrs fun K hK => ?_
   conv => whnf
   refine hK _ (W.cond ⟨fun hcc => absurd rfl (of_decide_eq_true hcc), fun _ => W.skip (hK1 _ ?_)⟩)
   clear hK K hK1 K1
   refine W.seqK fun K1 hK1 => ?_
   refine wrs fun K hK => ?_
   conv => whnf
   refine callV rfl (order_fn kp g0 kl (by omega) (by omega) (by omega) (by omega)) fun hs' hhs => ?_
   try dsimp only at hhs
   conv => whnf
   refine ⟨oo, ?_⟩
   conv => whnf
   refine callV rfl ((within_fn _ _ _).fa (decide_eq_false hn)) fun hs' hhs => ?_
   try dsimp only at hhs
   conv => whnf
   refine hK _ (W.condT rfl ?_)
   clear hK K
   refine wrs fun K hK => ?_
   conv => whnf
   refine hK _ ?_
   clear hK K
   refine W.ret ?_
   conv => whnf
   exact ⟨.v (.rf 0 0), rfl, trivial, .v (.int .i64 (2)), ⟨rfl, rfl⟩, trivial, 0, rfl, fun hne => absurd rfl hne⟩
 obtain ⟨k, rfl⟩ : ∃ k : Nat, n = k := ⟨n.toNat, by omega⟩
 have hkd := dig_length_le (p := kp.toNat) (by omega) (kl.length - 1) k (by
  have h1 : ((kp.toNat ^ (kl.length - 1) : Nat) : Int) = kp ^ (kl.length - 1) := by rw [Int.natCast_pow, Int.toNat_of_nonneg (by omega)]
  omega)
 refine ⟨dig kp.toNat k, 0, fun g0 => ?_, fun g0 => ?_, by omega, fun _ _ _ => ⟨rfl, by rw [Int.toNat_natCast]⟩⟩
 ·refine fn_of (cx_ok [0, 1, 2, 4, 5, 8, 14]) Tryz.func23 rfl (by decide) Tryz.ntmps23 (Nat.le_of_ble_eq_true rfl) fun base => ?_
  refine wrs fun K hK => ?_
  conv => whnf
  refine ⟨rfl, ?_⟩
  conv => whnf
  intro b_1 hs_1 hh_1 hf_1
  try dsimp only at hh_1 hf_1
  conv => whnf
  refine hK _ ?_
  clear hK K
  refine W.seqK fun K1 hK1 => ?_
  refine wrs fun K hK => ?_
  conv => whnf
  refine callV rfl ((isFieldS_fn kp g0 kl (by omega)).tr (bP_true hk)) fun hs' hhs => ?_
  try dsimp only at hhs
  conv => whnf
  refine hK _ (W.condF rfl (W.skip (hK1 _ ?_)))
  clear hK K hK1 K1
  refine W.seqK fun K1 hK1 => ?_
  refine wrs fun K hK => ?_
  conv => whnf
  refine callV rfl (l17Size_fn kp g0 kl hk) fun hs' hhs => ?_
  try dsimp only at hhs
  conv => whnf
  refine ⟨oo, ?_⟩
  conv => whnf
  refine callV rfl ((l01In_fn _ _ _).tr (decide_eq_true hn)) fun hs' hhs => ?_
  try dsimp only at hhs
  conv => whnf
  refine hK _ (W.condF rfl (W.skip (hK1 _ ?_)))
  clear hK K hK1 K1
  refine wrs fun K hK => ?_
  conv => whnf
  refine callV rfl (l17With_fn kp g0 kl k (by omega) (by omega)) fun hs' hhs => ?_
  try dsimp only at hhs
  conv => whnf
  refine hK _ ?_
  clear hK K
  refine W.ret ?_
  conv => whnf
  exact ⟨.v (.ints none (dig kp.toNat k)), ⟨rfl, rfl⟩, trivial, .v (.int .i64 0), ⟨rfl, rfl⟩, trivial, rfl⟩
 ·refine fnt_of (cxt_ok [] [0, 1, 2, 4, 5, 6, 10, 17, 1000000]) Tryz.func22 rfl (by decide) Tryz.ntmps22 (Nat.le_of_ble_eq_true rfl) (fun base => ?_) (Nat.le_of_ble_eq_true rfl)
  refine W.sw (c' := cx [0, 1, 2, 4, 5, 6, 10, 17, 1000000]) ?_
  refine wrs fun K hK => ?_
  conv => whnf
  refine ⟨rfl, ?_⟩
  conv => whnf
  intro b_1 hs_1 hh_1 hf_1
  try dsimp only at hh_1 hf_1
  conv => whnf
  refine hK _ ?_
  clear hK K
  refine W.seqK fun K1 hK1 => ?_
  refine wrs fun K hK => ?_
  conv => whnf
  refine callV rfl (elements_tr kp g0 none kl 0 _ (fun _ => []) (by omega) (by omega) (fun i hi => by omega)) fun hs' hhs => ?_
  try dsimp only at hhs
  conv => whnf
  rw [hc]
  refine hK _ ?_
  clear hK K
  refine wrs fun K hK => ?_
  conv => whnf
  refine hK _ (W.cond ⟨fun hcc => absurd rfl (of_decide_eq_true hcc), fun _ => W.skip (hK1 _ ?_)⟩)
  clear hK K hK1 K1
  refine W.seqK fun K1 hK1 => ?_
  refine wrs fun K hK => ?_
  conv => whnf
  refine callV rfl (order_fn kp g0 kl (by omega) (by omega) (by omega) (by omega)) fun hs' hhs => ?_
  try dsimp only at hhs
  conv => whnf
  refine ⟨oo, ?_⟩
  conv => whnf
  refine callV rfl ((within_fn _ _ _).tr (decide_eq_true hn)) fun hs' hhs => ?_
  try dsimp only at hhs
  conv => whnf
  refine hK _ (W.condF rfl (W.skip (hK1 _ ?_)))
  clear hK K hK1 K1
  refine W.sw (c' := cxt [] [0, 1, 2, 4, 5, 6, 10, 17, 1000000]) ?_
  refine W.rs (cxt_ok _ _) (by rfl) fun K hK => ?_
  conv => whnf
  refine callI rfl (withNumber_p kp k (by omega) (by omega)) fun hs_3 b_3 hh_3 hf_3 => ?_
  try dsimp only at hh_3 hf_3
  conv => whnf
  refine hK _ ?_
  clear hK K
  refine W.give 4 fun K hK => ?_
  conv => whnf
  refine hK _ ?_
  clear hK K
  refine W.ret ?_
  conv => whnf
  exact ⟨.v (.rf b_3 _), rfl, trivial, .v (.int .i64 (0)), ⟨rfl, rfl⟩, trivial, b_3, rfl, fun hne => tbAdd_self _ _ hne⟩
open Go Go.RowKit Go.Proofs Poly
set_option maxRecDepth 100000

section
variable {p : Int} [SP p]
theorem rem_plus {a b f : Poly p} (hf : f ≠ 0) : rem (a + b) f = rem a f + rem b f := by
 have h1 : f ∣ a - rem a f := dvd_of_rem (rem_rem hf).symm
 have h2 : f ∣ b - rem b f := dvd_of_rem (rem_rem hf).symm
 have h3 : f ∣ (a + b) - (rem a f + rem b f) := by
  obtain ⟨u, hu⟩ := h1
  obtain ⟨v, hv⟩ := h2
  exact ⟨u + v, by
   have e : (a + b) - (rem a f + rem b f) = (a - rem a f) + (b - rem b f) := ring [a, b, rem a f, rem b f] (by rfl)
   rw [e, hu, hv]; exact ring [f, u, v] (by rfl)⟩
 rw [rem_eq_of_dvd hf h3]
 refine rem_small ?_
 have := dg_add (rem a f) (rem b f)
 have := rem_lt a hf
 have := rem_lt b hf
 omega
end

open Go Go.RowKit Go.Proofs Poly
set_option maxRecDepth 100000
set_option maxHeartbeats 8000000

open Go Go.RowKit Go.Proofs Poly
set_option maxRecDepth 100000
set_option maxHeartbeats 8000000

open Go Go.RowKit Go.Proofs Poly
set_option maxRecDepth 100000
set_option maxHeartbeats 8000000

def Prim {p : Int} [SP p] (f X : Poly p) : Prop := IsOrd f X (p.toNat ^ (dg f - 1) - 1)
theorem Prim.ne {p : Int} [SP p] {f X : Poly p} (hi : Irr f) (h : Prim f X) : X ≠ 0 := ndvd_ne (h.ndvd hi)
open Go Go.RowKit Go.Proofs Poly
set_option maxRecDepth 100000
set_option maxHeartbeats 8000000

open Go Go.RowKit Go.Proofs Poly
set_option maxRecDepth 100000
set_option maxHeartbeats 8000000

open Go Go.RowKit Go.Proofs Poly
set_option maxRecDepth 100000
set_option maxHeartbeats 8000000

/- how many are primitive -/
open Go Go.RowKit Go.Proofs Poly
set_option maxRecDepth 100000
set_option maxHeartbeats 8000000

def codeCn (p n : Int) : Int := if isP p = true then (if 1 ≤ n ∧ n ≤ 4 then 0 else 2) else 1
theorem codeCn_ok {p n : Int} (h : codeCn p n = 0) : isP p = true ∧ 1 ≤ n ∧ n ≤ 4 := by
 unfold codeCn at h
 by_cases h1 : isP p = true
 ·rw [if_pos h1] at h
  by_cases h2 : 1 ≤ n ∧ n ≤ 4
  ·exact ⟨h1, h2⟩
  ·rw [if_neg h2] at h; cases h
 ·rw [if_neg h1] at h; cases h

theorem first_list {p : Int} (hp : 2 ≤ p) (d : Nat) : (List.replicate (d + 1) (0 : Int)).set d 1 = dig p.toNat (p.toNat ^ d) := by
 have hT : Top p.toNat d ((List.replicate (d + 1) (0 : Int)).set d 1) := by
  refine ⟨by simp, by rw [cf_set (by simp), if_pos rfl], fun x hx => ?_⟩
  obtain ⟨i, hi, rfl⟩ := List.getElem_of_mem hx
  rw [List.getElem_set]
  split
  ·omega
  ·simp; omega
 have hn : num p.toNat ((List.replicate (d + 1) (0 : Int)).set d 1) = p.toNat ^ d := by
  have h1 : (List.replicate (d + 1) (0 : Int)).set d 1 = List.replicate d 0 ++ [1] := by
   refine list_ext (by simp) fun j hj => ?_
   have hj : j < d + 1 := by simpa using hj
   rw [cf_set (by simp)]
   by_cases h2 : j = d
   ·subst h2; rw [if_pos rfl, cf_rep_at]
   ·rw [if_neg h2, cf_replicate, cf_lt (by simp; omega), List.getElem_append_left (by simp; omega)]; simp
  rw [h1, num_zeros]; simp [num]
 rw [← hn, hT.dig (by omega)]

theorem FirstIrreducible_fn (p n : Int) (r : Option Nat) (hr : ∀ h : p ∈ primes, 1 ≤ n ∧ n ≤ 4 → letI := sp_of h; IsFirst (fun k => Irr (polyN p k)) (p.toNat ^ n.toNat) (2 * p.toNat ^ n.toNat) r) :
  FnV 39 [.int .i64 p, .int .i64 n] (if codeCn p n = 0 then RV (outL p.toNat r) 0 else RV [] (codeCn p n)) := by
 by_cases hc : codeCn p n = 0
 ·obtain ⟨hp0, hn1, hn4⟩ := codeCn_ok hc
  have hp := isP_le hp0
  have hpr : p ∈ primes := of_decide_eq_true hp0
  have hr := hr hpr ⟨hn1, hn4⟩
  letI := sp_of hpr
  rw [if_pos hc]
  obtain ⟨d, rfl⟩ : ∃ d : Nat, n = d := ⟨n.toNat, by omega⟩
  rw [Int.toNat_natCast] at hr
  have hB : 0 < p.toNat ^ d := Nat.pow_pos (by omega)
  have hfl := first_list (p := p) (by omega) d
  refine fn_of (cx_ok [0, 1, 4, 5, 6, 7, 12]) Tryz.func39 rfl (by decide) Tryz.ntmps39 (Nat.le_of_ble_eq_true rfl) fun base => ?_
  refine wrs fun K hK => ?_
  conv => whnf
  refine hK _ ?_
  clear hK K
  refine wrs fun K hK => ?_
  conv => whnf
  refine callV rfl (l10Code_fn p d 1 4) fun hs' hhs => ?_
  try dsimp only at hhs
  conv => whnf
  rw [show (if isP p = true then (if 1 ≤ (d : Int) ∧ (d : Int) ≤ 4 then (0 : Int) else 2) else 1) = 0 from hc]
  refine hK _ ?_
  clear hK K
  refine W.seqK fun K1 hK1 => ?_
  refine wrs fun K hK => ?_
  conv => whnf
  refine hK _ (W.cond ⟨fun hcc => absurd rfl (of_decide_eq_true hcc), fun _ => W.skip (hK1 _ ?_)⟩)
  clear hK K hK1 K1
  refine wrs fun K hK => ?_
  conv => whnf
  refine ⟨oo, ?_⟩
  conv => whnf
  refine ⟨rfl, ?_⟩
  conv => whnf
  refine ⟨oo, ?_⟩
  conv => whnf
  have e1 : ((d : Int) + 1).toNat = d + 1 := by omega
  rw [e1]
  intro b_2 hs_2 hh_2 hf_2
  try dsimp only at hh_2 hf_2
  conv => whnf
  refine hK _ ?_
  clear hK K
  refine wrs fun K hK => ?_
  conv => whnf
  refine ⟨⟨by omega, by simp; omega⟩, ?_⟩
  conv => whnf
  rw [Int.toNat_natCast, hfl]
  refine hK _ ?_
  clear hK K
  refine wrs fun K hK => ?_
  conv => whnf
  refine callV rfl (l10Next_fn p (some b_2) d (p.toNat ^ d) (by omega) (by omega) (Nat.le_refl _) (by omega) r hr) fun hs' hhs => ?_
  try dsimp only at hhs
  conv => whnf
  refine hK _ ?_
  clear hK K
  refine W.ret ?_
  conv => whnf
  exact ⟨.v (.ints none (outL p.toNat r)), ⟨rfl, rfl⟩, trivial, .v (.int .i64 0), ⟨rfl, rfl⟩, trivial, rfl⟩
 ·rw [if_neg hc]
  refine fn_of (cx_ok [0, 1, 4, 5, 6, 7, 12]) Tryz.func39 rfl (by decide) Tryz.ntmps39 (Nat.le_of_ble_eq_true rfl) fun base => ?_
  refine wrs fun K hK => ?_
  conv => whnf
  refine hK _ ?_
  clear hK K
  refine wrs fun K hK => ?_
  conv => whnf
  refine callV rfl (l10Code_fn p n 1 4) fun hs' hhs => ?_
  try dsimp only at hhs
  conv => whnf
  rw [show (if isP p = true then (if 1 ≤ n ∧ n ≤ 4 then (0 : Int) else 2) else 1) = codeCn p n from rfl]
  refine hK _ ?_
  clear hK K
  refine W.seqK fun K1 hK1 => ?_
  refine wrs fun K hK => ?_
  conv => whnf
  refine hK _ (W.cond ⟨fun _ => ?_, fun hcc => absurd hc (of_decide_eq_false hcc)⟩)
  clear hK K
  refine wrs fun K hK => ?_
  conv => whnf
  refine hK _ ?_
  clear hK K
  refine W.ret ?_
  conv => whnf
  exact ⟨.v (.ints none []), rfl, trivial, .v (.int .i64 (codeCn p n)), ⟨rfl, rfl⟩, trivial, rfl⟩

open Go Go.RowKit Go.Proofs Poly
set_option maxRecDepth 100000
set_option maxHeartbeats 8000000


theorem l01DrawPrime_m {n : Nat} {c : Nat → Int} (hc : Byt n c) : MSrc 186 [] n c (fun r => ∃ q : Int, r = .int .i64 q ∧ q ∈ ([1, 4, 0, 97, 101, -3, 9, 2, 3, 5, 7, 11, 13, 17, 31] : List Int)) := by
 rintro b x hx
 refine mfn_ofV (cx := cxt [] [0, 2, 5, 1000000, 1000001]) (cxt_ok [] [0, 2, 5, 1000000, 1000001]) Tryz.func186 rfl (by decide) Tryz.ntmps186 (Nat.le_of_ble_eq_true rfl) (Nat.le_of_ble_eq_true rfl) rfl rfl fun base hs0 O U hw v0 hb0 => ?_
 refine W.sw (c' := cx [0, 2, 5, 1000000, 1000001]) ?_
 refine wrs fun K hK => ?_
 conv => whnf
 refine hK _ ?_
 clear hK K
 refine W.seqK fun K1 hK1 => ?_
 refine wrs fun K hK => ?_
 conv => whnf
 refine ⟨⟨rfl, rfl⟩, ?_⟩
 conv => whnf
 refine ⟨rfl, _, (l01Next_m hc 24 (by constructor <;> decide) b x hx), ?_⟩
 rintro hs_ms1 av x' t' hh_ms1 ⟨rfl, ⟨x1, hx1, rfl⟩, _, rfl, ⟨q, rfl, q0, q1, q2⟩⟩ _ _ _
 try dsimp only at hh_ms1
 conv => whnf
 refine hK _ (W.cond ⟨fun h => ?_, fun h => ?_⟩) <;> clear hK K
 ·refine wrs fun K hK => ?_
  conv => whnf
  refine ⟨⟨rfl, by decide⟩, ?_⟩
  conv => whnf
  intro b_7 hs_7 hh_7 hf_7
  try dsimp only at hh_7 hf_7
  conv => whnf
  refine ⟨⟨rfl, rfl⟩, ?_⟩
  conv => whnf
  refine ⟨rfl, _, (l01Pick_m hc none [1, 4, 0, 97, 101, -3, 9] ⟨by decide, by decide⟩ b x1 hx1), ?_⟩
  rintro hs_ms2 av x' t' hh_ms2 ⟨rfl, ⟨x2, hx2, rfl⟩, _, rfl, ⟨r, rfl, hr⟩⟩ _ _ _
  try dsimp only at hh_ms2
  conv => whnf
  refine hK _ ?_
  clear hK K
  have hr2 : r ∈ ([1, 4, 0, 97, 101, -3, 9, 2, 3, 5, 7, 11, 13, 17, 31] : List Int) := by
   simp only [List.mem_cons, List.not_mem_nil, or_false] at hr ⊢
   omega
  refine W.ret ?_
  conv => whnf
  refine ⟨by dsimp only; omega, ?_⟩
  conv => whnf
  refine ⟨rfl, ?_⟩
  conv => whnf
  refine ⟨.int .i64 r, ⟨rfl, rfl⟩, ?_⟩
  conv => whnf
  exact ⟨.ownB b (x2), ⟨rfl, rfl⟩, .inr ⟨rfl, rfl⟩, .dead, trivial, rfl, rfl, rfl, ⟨x2, hx2, rfl⟩, _, rfl, ⟨r, rfl, hr2⟩⟩
 refine W.skip (hK1 _ ?_)
 clear hK1 K1
 refine wrs fun K hK => ?_
 conv => whnf
 refine ⟨⟨rfl, by decide⟩, ?_⟩
 conv => whnf
 intro b_7 hs_7 hh_7 hf_7
 try dsimp only at hh_7 hf_7
 conv => whnf
 refine ⟨⟨rfl, rfl⟩, ?_⟩
 conv => whnf
 refine ⟨rfl, _, (l01Pick_m hc none [2, 3, 5, 7, 2, 3, 5, 11, 13, 17, 31] ⟨by decide, by decide⟩ b x1 hx1), ?_⟩
 rintro hs_ms2 av x' t' hh_ms2 ⟨rfl, ⟨x2, hx2, rfl⟩, _, rfl, ⟨r, rfl, hr⟩⟩ _ _ _
 try dsimp only at hh_ms2
 conv => whnf
 refine hK _ ?_
 clear hK K
 have hr2 : r ∈ ([1, 4, 0, 97, 101, -3, 9, 2, 3, 5, 7, 11, 13, 17, 31] : List Int) := by
  simp only [List.mem_cons, List.not_mem_nil, or_false] at hr ⊢
  omega
 refine W.ret ?_
 conv => whnf
 refine ⟨by dsimp only; omega, ?_⟩
 conv => whnf
 refine ⟨rfl, ?_⟩
 conv => whnf
 refine ⟨.int .i64 r, ⟨rfl, rfl⟩, ?_⟩
 conv => whnf
 exact ⟨.ownB b (x2), ⟨rfl, rfl⟩, .inr ⟨rfl, rfl⟩, .dead, trivial, rfl, rfl, rfl, ⟨x2, hx2, rfl⟩, _, rfl, ⟨r, rfl, hr2⟩⟩

def PolL (p : Int) (d : Nat) (L : List Int) : Prop := 1 ≤ L.length ∧ L.length ≤ d + 1 ∧ (∀ j, 0 ≤ cf L j ∧ cf L j < p) ∧ cf L (L.length - 1) ≠ 0

theorem l08Valid_m {n : Nat} {c : Nat → Int} (hc : Byt n c) (p : Int) (hp : 2 ≤ p ∧ p ≤ 1000) (d : Nat) (hd : d ≤ 100) : MSrc 190 [.int .i64 p, .int .i64 d] n c (fun r => ∃ L, r = .ints none L ∧ PolL p d L) := by
 rintro b x hx
 refine mfn_ofV (cx := cxt [] [0, 1, 2, 6, 7, 8, 15, 1000000, 1000001]) (cxt_ok [] [0, 1, 2, 6, 7, 8, 15, 1000000, 1000001]) Tryz.func190 rfl (by decide) Tryz.ntmps190 (Nat.le_of_ble_eq_true rfl) (Nat.le_of_ble_eq_true rfl) rfl rfl fun base hs0 O U hw v0 hb0 => ?_
 refine W.sw (c' := cx [0, 1, 2, 6, 7, 8, 15, 1000000, 1000001]) ?_
 refine wrs fun K hK => ?_
 conv => whnf
 refine hK _ ?_
 clear hK K
 refine wrs fun K hK => ?_
 conv => whnf
 refine ⟨⟨rfl, by decide⟩, ?_⟩
 conv => whnf
 intro b_7 hs_7 hh_7 hf_7
 try dsimp only at hh_7 hf_7
 conv => whnf
 refine hK _ ?_
 clear hK K
 refine W.seqK fun K1 hK1 => wrs fun K hK => ?_
 conv => whnf
 refine ⟨oo, ?_⟩
 conv => whnf
 refine ⟨⟨rfl, rfl⟩, ?_⟩
 conv => whnf
 refine ⟨rfl, _, (l01Next_m hc ((d : Int) + 1) (by constructor <;> omega) b x hx), ?_⟩
 rintro hs_ms1 av x' t' hh_ms1 ⟨rfl, ⟨x1, hx1, rfl⟩, _, rfl, ⟨q, rfl, q0, q1, q2⟩⟩ _ _ _
 try dsimp only at hh_ms1
 conv => whnf
 have hq : q ≤ d := by
  by_cases h : d = 0
  ·have := q2 (by omega); omega
  ·have := q1 (by omega); omega
 refine hK _ (W.block (W.invH hs0 hb0 (fun m e => ∃ (k bo : Nat) (y : V) (L : List Int), k ≤ d ∧ OkSrc n c y ∧ L.length + k ≤ d ∧ (∀ j, 0 ≤ cf L j ∧ cf L j < p) ∧ m = k ∧ e = [(vt, .dead), (vk, .keep O U hw 0 v0), (0, .ownB b y), (1, .v (.int .i64 p)), (2, .v (.int .i64 d)), (7, .ownI 2 bo L), (8, .v (.int .i64 k))]) _ _ (⟨q.toNat, b_7, x1, [], by omega, hx1, by simp; omega, fun j => by rw [cf_nil]; omega, rfl, by rw [Int.toNat_of_nonneg q0]⟩) (by dsimp only; omega) (by repeat' first | refine And.intro ?_ ?_ | exact trivial | rfl | omega | exact .inl rfl | exact fun _ _ => rfl | exact fun _ _ h => h | assumption | exact fun i hi => (by obtain rfl : i = 0 := (by omega); rfl)) ?_))
 clear hK K
 rintro m e ⟨k, bo, y, L, h1, hy, h2, h3, hm, rfl⟩
 refine W.seqK fun K7 hK7 => wrs fun K hK => ?_
 conv => whnf
 refine hK _ (W.cond ⟨fun h5 => ?_, fun h5 => ?_⟩) <;> clear hK K <;> (first | replace h5 := of_decide_eq_true h5 | replace h5 := of_decide_eq_false h5)
 ·have hk : 1 ≤ k := by omega
  refine W.skip (hK7 _ (W.seqK fun K8 hK8 => W.block ?_))
  clear hK7 K7
  refine wrg ?_
  conv => whnf
  refine ⟨⟨rfl, rfl⟩, ?_⟩
  conv => whnf
  refine ⟨rfl, _, (l01Next_m hc p (by constructor <;> omega) b y hy), ?_⟩
  rintro hs_ms2 av x' t' hh_ms2 ⟨rfl, ⟨x2, hx2, rfl⟩, _, rfl, ⟨r1, rfl, r10, r11, _⟩⟩ _ _ _
  try dsimp only at hh_ms2
  conv => whnf
  refine ⟨⟨rfl, rfl⟩, ?_⟩
  conv => whnf
  refine ⟨rfl, _, (l01Next_m hc p (by constructor <;> omega) b x2 hx2), ?_⟩
  rintro hs_ms3 av x' t' hh_ms3 ⟨rfl, ⟨x3, hx3, rfl⟩, _, rfl, ⟨r2, rfl, r20, r21, _⟩⟩ _ _ _
  try dsimp only at hh_ms3
  conv => whnf
  have h11 := r11 (by omega)
  have h21 := r21 (by omega)
  refine ⟨⟨rfl, by decide⟩, ?_⟩
  conv => whnf
  intro b_1 hs_1 hh_1 hf_1
  try dsimp only at hh_1 hf_1
  conv => whnf
  refine ⟨⟨rfl, rfl⟩, ?_⟩
  conv => whnf
  refine ⟨rfl, _, (l01Pick_m hc none [r1, 0, r2] ⟨(by show 1 ≤ 3; omega), (by show 3 ≤ 1000; omega)⟩ b x3 hx3), ?_⟩
  rintro hs_ms4 av x' t' hh_ms4 ⟨rfl, ⟨x4, hx4, rfl⟩, _, rfl, ⟨r, rfl, hr⟩⟩ _ _ _
  try dsimp only at hh_ms4
  conv => whnf
  have hr : 0 ≤ r ∧ r < p := by
   simp only [List.mem_cons, List.not_mem_nil, or_false] at hr
   omega
  refine ⟨⟨rfl, by decide⟩, ?_⟩
  conv => whnf
  intro b_2 hs_2 hh_2 hf_2
  try dsimp only at hh_2 hf_2
  conv => whnf
  refine ⟨by simp; omega, ?_⟩
  conv => whnf
  intro b_3 hs_3 hh_3 hf_3
  try dsimp only at hh_3 hf_3
  conv => whnf
  refine hK8 _ ?_
  clear hK8 K8
  refine wrg ?_
  conv => whnf
  refine ⟨oo, ?_⟩
  conv => whnf
  have hL : ∀ j, 0 ≤ cf (L ++ [r]) j ∧ cf (L ++ [r]) j < p := fun j => by
   unfold cf
   rw [List.getD_eq_getElem?_getD]
   rcases Nat.lt_trichotomy j L.length with hj | hj | hj
   ·rw [List.getElem?_append_left hj, ← List.getD_eq_getElem?_getD]; exact h3 j
   ·rw [List.getElem?_append_right (by omega), hj, Nat.sub_self]; exact hr
   ·rw [List.getElem?_eq_none (by simp; omega)]; show (0 : Int) ≤ 0 ∧ (0 : Int) < p; omega
  rw [show ((k : Int) - 1) = ((k - 1 : Nat) : Int) by omega]
  exact againA ⟨k - 1, b_3, x4, L ++ [r], by omega, hx4, by simp; omega, hL, rfl, rfl⟩
 ·obtain rfl : k = 0 := by omega
  refine W.exit (hK1 _ ?_)
  clear hK7 K7 hK1 K1
  refine wrs fun K hK => ?_
  conv => whnf
  refine ⟨oo, ?_⟩
  conv => whnf
  refine ⟨⟨rfl, rfl⟩, ?_⟩
  conv => whnf
  refine ⟨rfl, _, (l01Next_m hc (p - 1) (by constructor <;> omega) b y hy), ?_⟩
  rintro hs_ms2 av x' t' hh_ms2 ⟨rfl, ⟨x2, hx2, rfl⟩, _, rfl, ⟨r1, rfl, r10, r11, r12⟩⟩ _ _ _
  try dsimp only at hh_ms2
  conv => whnf
  refine ⟨⟨rfl, rfl⟩, ?_⟩
  conv => whnf
  refine ⟨rfl, _, (l01Next_m hc 2 (by constructor <;> decide) b x2 hx2), ?_⟩
  rintro hs_ms3 av x' t' hh_ms3 ⟨rfl, ⟨x3, hx3, rfl⟩, _, rfl, ⟨r2, rfl, r20, r21, _⟩⟩ _ _ _
  try dsimp only at hh_ms3
  conv => whnf
  have h11 : r1 ≤ p - 2 := by
   by_cases h : 1 < p - 1
   ·have := r11 h; omega
   ·have := r12 (by omega); omega
  have h21 := r21 (by omega)
  have hmul : 0 ≤ r1 * r2 ∧ r1 * r2 ≤ p - 2 := by
   have : r2 = 0 ∨ r2 = 1 := by omega
   rcases this with rfl | rfl <;> simp <;> omega
  refine ⟨by show _ ≤ r1 * r2 ∧ r1 * r2 ≤ _; omega, ?_⟩
  conv => whnf
  refine ⟨by show _ ≤ 1 + r1 * r2 ∧ 1 + r1 * r2 ≤ _; omega, ?_⟩
  conv => whnf
  refine ⟨⟨rfl, by decide⟩, ?_⟩
  conv => whnf
  intro b_1 hs_1 hh_1 hf_1
  try dsimp only at hh_1 hf_1
  conv => whnf
  refine ⟨by simp; omega, ?_⟩
  conv => whnf
  intro b_2 hs_2 hh_2 hf_2
  try dsimp only at hh_2 hf_2
  conv => whnf
  refine hK _ ?_
  clear hK K
  have hL : PolL p d (L ++ [1 + r1 * r2]) := by
   have hlen : (L ++ [1 + r1 * r2]).length = L.length + 1 := by simp
   refine ⟨by omega, by omega, fun j => ?_, ?_⟩
   ·unfold cf
    rw [List.getD_eq_getElem?_getD]
    rcases Nat.lt_trichotomy j L.length with hj | hj | hj
    ·rw [List.getElem?_append_left hj, ← List.getD_eq_getElem?_getD]; exact h3 j
    ·rw [List.getElem?_append_right (by omega), hj, Nat.sub_self]; show (0 : Int) ≤ 1 + r1 * r2 ∧ 1 + r1 * r2 < p; omega
    ·rw [List.getElem?_eq_none (by omega)]; show (0 : Int) ≤ 0 ∧ (0 : Int) < p; omega
   ·rw [hlen]
    unfold cf
    rw [List.getD_eq_getElem?_getD, List.getElem?_append_right (by omega), show L.length + 1 - 1 - L.length = 0 by omega]
    show (1 + r1 * r2 : Int) ≠ 0
    omega
  refine W.ret ?_
  conv => whnf
  refine ⟨by dsimp only; omega, ?_⟩
  conv => whnf
  refine ⟨rfl, ?_⟩
  conv => whnf
  refine ⟨.ints none (L ++ [1 + r1 * r2]), ⟨.inl rfl, rfl⟩, ?_⟩
  conv => whnf
  exact ⟨.ownB b (x3), ⟨rfl, rfl⟩, .inr ⟨rfl, rfl⟩, .dead, trivial, rfl, rfl, rfl, ⟨x3, hx3, rfl⟩, _, rfl, ⟨_, rfl, hL⟩⟩

theorem l17Valid_m {n : Nat} {c : Nat → Int} (hc : Byt n c) : MSrc 315 [] n c (fun r => ∃ (p : Int) (L : List Int), r = vK p none L ∧ (2 ≤ p ∧ p ≤ 7) ∧ L.length ≤ 9) := by
 rintro b x hx
 refine mfn_ofV (cx := cxt [] [0, 2, 3, 4, 5, 6, 7, 19, 36, 1000000, 1000001]) (cxt_ok [] [0, 2, 3, 4, 5, 6, 7, 19, 36, 1000000, 1000001]) Tryz.func315 rfl (by decide) Tryz.ntmps315 (Nat.le_of_ble_eq_true rfl) (Nat.le_of_ble_eq_true rfl) rfl rfl fun base hs0 O U hw v0 hb0 => ?_
 refine W.sw (c' := cx [0, 2, 3, 4, 5, 6, 7, 19, 36, 1000000, 1000001]) ?_
 refine wrs fun K hK => ?_
 conv => whnf
 intro b_2 hs_2 hh_2 hf_2
 try dsimp only at hh_2 hf_2
 conv => whnf
 refine hK _ ?_
 clear hK K
 refine wrs fun K hK => ?_
 conv => whnf
 refine ⟨⟨rfl, by decide⟩, ?_⟩
 conv => whnf
 intro b_7 hs_7 hh_7 hf_7
 try dsimp only at hh_7 hf_7
 conv => whnf
 refine ⟨⟨rfl, rfl⟩, ?_⟩
 conv => whnf
 refine ⟨rfl, _, (l01Pick_m hc none [2, 3, 5, 2, 3, 7] ⟨by decide, by decide⟩ b x hx), ?_⟩
 rintro hs_ms1 av x' t' hh_ms1 ⟨rfl, ⟨x1, hx1, rfl⟩, _, rfl, ⟨p, rfl, hp⟩⟩ _ _ _
 try dsimp only at hh_ms1
 conv => whnf
 refine hK _ ?_
 clear hK K
 have hpp : p ∈ primes := by
  simp only [List.mem_cons, List.not_mem_nil, or_false] at hp
  unfold primes
  simp only [List.mem_cons, List.not_mem_nil, or_false]
  omega
 have hp27 : 2 ≤ p ∧ p ≤ 7 := by
  simp only [List.mem_cons, List.not_mem_nil, or_false] at hp
  omega
 letI := sp_of hpp
 refine wrs fun K hK => ?_
 conv => whnf
 refine ⟨⟨rfl, rfl⟩, ?_⟩
 conv => whnf
 refine ⟨rfl, _, (l01Next_m hc 4 (by constructor <;> decide) b x1 hx1), ?_⟩
 rintro hs_ms2 av x' t' hh_ms2 ⟨rfl, ⟨x2, hx2, rfl⟩, _, rfl, ⟨q, rfl, q0, q1, _⟩⟩ _ _ _
 try dsimp only at hh_ms2
 conv => whnf
 have hq4 := q1 (by decide)
 refine ⟨oo, ?_⟩
 conv => whnf
 refine hK _ ?_
 clear hK K
 obtain ⟨d, hd⟩ : ∃ d : Nat, 1 + q = d := ⟨(1 + q).toNat, by omega⟩
 rw [hd]
 have hd14 : 1 ≤ d ∧ d ≤ 4 := by omega
 refine wrs fun K hK => ?_
 conv => whnf
 refine ⟨oo, ?_⟩
 conv => whnf
 refine ⟨rfl, ?_⟩
 conv => whnf
 refine ⟨oo, ?_⟩
 conv => whnf
 intro b_5 hs_5 hh_5 hf_5
 try dsimp only at hh_5 hf_5
 conv => whnf
 refine hK _ ?_
 clear hK K
 refine W.seqK fun K1 hK1 => wrs fun K hK => ?_
 conv => whnf
 refine hK _ (W.block (W.invH hs0 hb0 (fun m e => ∃ (i bo : Nat) (y : V) (X : List Int), i ≤ d ∧ OkSrc n c y ∧ X.length = d + 1 ∧ (∀ j, 0 ≤ cf X j ∧ cf X j < p) ∧ m = d - i ∧ e = [(vt, .dead), (vk, .keep O U hw 0 v0), (0, .ownB b y), (2, .ownB b_2 (.agg [.int .i64 0, .nil])), (3, .v (.int .i64 p)), (4, .v (.int .i64 d)), (5, .ownI 2 bo X), (6, .v (.int .i64 i))]) _ _ (⟨0, b_5, x2, List.replicate (d + 1) 0, Nat.zero_le _, hx2, by simp, fun j => by rw [cf_replicate]; omega, rfl, rfl⟩) (by dsimp only; omega) (by repeat' first | refine And.intro ?_ ?_ | exact trivial | rfl | omega | exact .inl rfl | exact fun _ _ => rfl | exact fun _ _ h => h | assumption | exact fun i hi => (by obtain rfl : i = 0 := (by omega); rfl)) ?_))
 clear hK K
 rintro m e ⟨i, bo, y, X, h1, hy, h2, h3, hm, rfl⟩
 refine W.seqK fun K7 hK7 => wrs fun K hK => ?_
 conv => whnf
 refine hK _ (W.cond ⟨fun h5 => ?_, fun h5 => ?_⟩) <;> clear hK K <;> (first | replace h5 := of_decide_eq_true h5 | replace h5 := of_decide_eq_false h5)
 ·have hi : i < d := by omega
  refine W.skip (hK7 _ (W.seqK fun K8 hK8 => W.block ?_))
  clear hK7 K7
  refine wrg ?_
  conv => whnf
  refine ⟨⟨rfl, rfl⟩, ?_⟩
  conv => whnf
  refine ⟨rfl, _, (l01Next_m hc p (by constructor <;> omega) b y hy), ?_⟩
  rintro hs_ms3 av x' t' hh_ms3 ⟨rfl, ⟨x3, hx3, rfl⟩, _, rfl, ⟨r1, rfl, r10, r11, _⟩⟩ _ _ _
  try dsimp only at hh_ms3
  conv => whnf
  have h11 := r11 (by omega)
  refine ⟨oo, ?_⟩
  conv => whnf
  rw [Int.toNat_natCast]
  refine hK8 _ ?_
  clear hK8 K8
  refine wrg ?_
  conv => whnf
  refine ⟨oo, ?_⟩
  conv => whnf
  have hX : ∀ j, 0 ≤ cf (X.set i r1) j ∧ cf (X.set i r1) j < p := fun j => by
   unfold cf
   rw [List.getD_eq_getElem?_getD, List.getElem?_set]
   by_cases hj : i = j
   ·rw [if_pos hj, if_pos (by omega)]; exact ⟨r10, h11⟩
   ·rw [if_neg hj, ← List.getD_eq_getElem?_getD]; exact h3 j
  exact againA ⟨i + 1, bo, x3, X.set i r1, by omega, hx3, by simp; omega, hX, rfl, rfl⟩
 ·obtain rfl : i = d := by omega
  have hp1 := primes_le hpp
  have hT : Top p.toNat i (X.set i 1) := by
   refine ⟨by simp; omega, ?_, fun z hz => ?_⟩
   ·unfold cf; rw [List.getD_eq_getElem?_getD, List.getElem?_set_self (by omega)]; rfl
   ·obtain ⟨j, hj, rfl⟩ := List.mem_iff_getElem.1 hz
    rw [List.getElem_set]
    split
    ·omega
    ·have := h3 j
     rw [cf_lt (by simpa using hj)] at this
     omega
  have hdig := hT.dig (by omega)
  have hrng := hT.range (by omega)
  obtain ⟨r, hr⟩ := exists_first (fun n => Irr (polyN p n)) (num p.toNat (X.set i 1)) (2 * p.toNat ^ i)
  obtain ⟨r2, hr2⟩ := exists_first (fun n => Irr (polyN p n)) (p.toNat ^ i) (2 * p.toNat ^ i)
  have ho : ∀ {a : Nat} {q : Option Nat}, p.toNat ^ i ≤ a → IsFirst (fun n => Irr (polyN p n)) a (2 * p.toNat ^ i) q → (outL p.toNat q).length ≤ 9 := fun {a q} ha hq => by
   cases q with
   | none => show 0 ≤ 9; omega
   | some v =>
    have := (top_of (p := p.toNat) (d := i) (k := v) (by omega) (by have := hq.1; omega) hq.2.1).len
    show (dig p.toNat v).length ≤ 9
    omega
  refine W.exit (hK1 _ ?_)
  clear hK7 K7 hK1 K1
  refine wrs fun K hK => ?_
  conv => whnf
  refine ⟨oo, ?_⟩
  conv => whnf
  rw [Int.toNat_natCast]
  refine hK _ ?_
  clear hK K
  refine wrs fun K hK => ?_
  conv => whnf
  refine callV rfl ((by have := l10Next_fn p (some bo) i (num p.toNat (X.set i 1)) hd14.1 hd14.2 hrng.1 hrng.2 r hr; rw [hdig] at this; exact this)) fun hs' hhs => ?_
  try dsimp only at hhs
  conv => whnf
  refine hK _ ?_
  clear hK K
  refine W.seqK fun K1 hK1 => ?_
  have fin : ∀ (L : List Int) (t : S), L.length ≤ 9 → hs0 ≤ t.hs → coverK t.env [(vt, .dead), (vk, .keep O U hw 0 v0), (0, .ownB b y), (2, .ownB b_2 (.agg [.int .i64 0, .nil])), (3, .v (.int .i64 p)), (7, .v (.ints none L))] → K1 t := by
   intro L t hL h9 h10
   refine hK1 _ (W.weak (t := ⟨[(vt, .dead), (vk, .keep O U hw 0 v0), (0, .ownB b y), (2, .ownB b_2 (.agg [.int .i64 0, .nil])), (3, .v (.int .i64 p)), (7, .v (.ints none L))], hs0⟩) ⟨h9, h10⟩ hb0 ?_)
   clear hK1 K1
   refine wrs fun K hK => ?_
   conv => whnf
   refine ⟨s23, ?_⟩
   conv => whnf
   refine hK _ ?_
   clear hK K
   refine W.ret ?_
   conv => whnf
   refine ⟨by dsimp only; omega, ?_⟩
   conv => whnf
   exact ⟨.ownB b (y), ⟨rfl, rfl⟩, .inr ⟨rfl, rfl⟩, .dead, trivial, rfl, rfl, rfl, ⟨y, hy, rfl⟩, _, rfl, ⟨p, L, rfl, hp27, hL⟩⟩
  refine wrs fun K hK => ?_
  conv => whnf
  refine hK _ (W.cond ⟨fun h => ?_, fun h => ?_⟩) <;> clear hK K
  ·have hcn : codeCn p i = 0 := by
    unfold codeCn
    rw [if_pos (show isP p = true from decide_eq_true hpp), if_pos (by omega)]
   refine wrg ?_
   conv => whnf
   refine callV rfl ((by have := FirstIrreducible_fn p i r2 (fun _ _ => by rw [Int.toNat_natCast]; exact hr2); rw [if_pos hcn] at this; exact this)) fun hs' hhs => ?_
   try dsimp only at hhs
   conv => whnf
   refine fin _ _ (ho (Nat.le_refl _) hr2) (by dsimp only; omega) ?_
   exact cvr
  ·refine W.skip (fin _ _ (ho hrng.1 hr) (by dsimp only; omega) ?_)
   exact cvr

open Go Go.RowKit Go.Proofs Poly
set_option maxRecDepth 100000
set_option maxHeartbeats 8000000

def QK (r : V) : Prop := ∃ (p : Int) (L : List Int), r = vK p none L ∧ (-1000 ≤ p ∧ p ≤ 1000) ∧ L.length ≤ 100


theorem l17Draw_m {n : Nat} {c : Nat → Int} (hc : Byt n c) : MSrc 168 [] n c QK := by
 rintro b x hx
 refine mfn_ofV (cx := cxt [] [0, 2, 3, 7, 8, 17, 24, 1000000, 1000001]) (cxt_ok [] [0, 2, 3, 7, 8, 17, 24, 1000000, 1000001]) Tryz.func168 rfl (by decide) Tryz.ntmps168 (Nat.le_of_ble_eq_true rfl) (Nat.le_of_ble_eq_true rfl) rfl rfl fun base hs0 O U hw v0 hb0 => ?_
 refine W.sw (c' := cx [0, 2, 3, 7, 8, 17, 24, 1000000, 1000001]) ?_
 refine wrs fun K hK => ?_
 conv => whnf
 intro b_2 hs_2 hh_2 hf_2
 try dsimp only at hh_2 hf_2
 conv => whnf
 refine hK _ ?_
 clear hK K
 refine wrs fun K hK => ?_
 conv => whnf
 refine ⟨⟨rfl, rfl⟩, ?_⟩
 conv => whnf
 refine ⟨rfl, _, (l17Valid_m hc b x hx), ?_⟩
 rintro hs_ms1 av x' t' hh_ms1 ⟨rfl, ⟨x1, hx1, rfl⟩, _, rfl, ⟨p, L, rfl, hp, hL⟩⟩ _ _ _
 try dsimp only at hh_ms1
 conv => whnf
 intro b_3 hs_3 hh_3 hf_3
 try dsimp only at hh_3 hf_3
 conv => whnf
 refine ⟨s23, ?_⟩
 conv => whnf
 refine hK _ ?_
 clear hK K
 refine W.seqK fun K1 hK1 => ?_
 refine wrs fun K hK => ?_
 conv => whnf
 refine ⟨⟨rfl, rfl⟩, ?_⟩
 conv => whnf
 refine ⟨rfl, _, (l01Next_m hc 24 (by constructor <;> decide) b x1 hx1), ?_⟩
 rintro hs_ms2 av x' t' hh_ms2 ⟨rfl, ⟨x2, hx2, rfl⟩, _, rfl, ⟨q, rfl, q0, q1, _⟩⟩ _ _ _
 try dsimp only at hh_ms2
 conv => whnf
 refine hK _ (W.block ?_)
 clear hK K
 refine wrs fun K hK => ?_
 conv => whnf
 refine hK _ (W.cond ⟨fun h => ?_, fun h => ?_⟩) <;> clear hK K
 ·refine W.seqK fun K2 hK2 => W.sch follows ?_
  refine Wany.takeF (cx_ok []) 0 (by rfl) (by rfl) (by rfl) (by rfl) (by decide) (by kernel_rfl) (by kernel_rfl) (by kernel_rfl) ?_
  conv => whnf
  refine wt 2 ?_
  conv => whnf
  refine Wany.takeF (cx_ok []) 3 (by rfl) (by rfl) (by rfl) (by rfl) (by decide) (by kernel_rfl) (by kernel_rfl) (by kernel_rfl) ?_
  conv => whnf
  refine w2 1 4 ?_ ?_ <;> conv => whnf
  ·refine w1 4 ?_
   conv => whnf
   refine w1 5 ?_
   conv => whnf
   refine ⟨⟨rfl, rfl⟩, ?_⟩
   conv => whnf
   refine ⟨rfl, _, (l08Valid_m hc p (by omega) 4 (by omega) b x2 hx2), ?_⟩
   rintro hs_ms3 av x' t' hh_ms3 ⟨rfl, ⟨x3, hx3, rfl⟩, _, rfl, ⟨L2, rfl, hL2⟩⟩ _ _ _
   try dsimp only at hh_ms3
   conv => whnf
   refine wt 6 ?_
   conv => whnf
   refine w1 7 ?_
   conv => whnf
   refine ⟨s23, ?_⟩
   conv => whnf
   refine wd1 (hK2 _ ?_)
   clear hK2 K2
   refine W.ret ?_
   conv => whnf
   refine ⟨by dsimp only; omega, ?_⟩
   conv => whnf
   exact ⟨.ownB b (x3), ⟨rfl, rfl⟩, .inr ⟨rfl, rfl⟩, .dead, trivial, rfl, rfl, rfl, ⟨x3, hx3, rfl⟩, _, rfl, ⟨p, L2, rfl, by omega, by have := hL2.2.1; omega⟩⟩
  ·refine w2 1 5 ?_ ?_ <;> conv => whnf
   ·refine w1 5 ?_
    conv => whnf
    refine ⟨⟨rfl, rfl⟩, ?_⟩
    conv => whnf
    refine ⟨rfl, _, (l08Valid_m hc p (by omega) 4 (by omega) b x2 hx2), ?_⟩
    rintro hs_ms3 av x' t' hh_ms3 ⟨rfl, ⟨x3, hx3, rfl⟩, _, rfl, ⟨L2, rfl, hL2⟩⟩ _ _ _
    try dsimp only at hh_ms3
    conv => whnf
    refine wt 6 ?_
    conv => whnf
    refine w1 7 ?_
    conv => whnf
    refine ⟨s23, ?_⟩
    conv => whnf
    refine wd1 (hK2 _ ?_)
    clear hK2 K2
    refine W.ret ?_
    conv => whnf
    refine ⟨by dsimp only; omega, ?_⟩
    conv => whnf
    exact ⟨.ownB b (x3), ⟨rfl, rfl⟩, .inr ⟨rfl, rfl⟩, .dead, trivial, rfl, rfl, rfl, ⟨x3, hx3, rfl⟩, _, rfl, ⟨p, L2, rfl, by omega, by have := hL2.2.1; omega⟩⟩
   ·refine ⟨⟨rfl, rfl⟩, ?_⟩
    conv => whnf
    refine ⟨rfl, _, (l08Valid_m hc p (by omega) 4 (by omega) b x2 hx2), ?_⟩
    rintro hs_ms3 av x' t' hh_ms3 ⟨rfl, ⟨x3, hx3, rfl⟩, _, rfl, ⟨L2, rfl, hL2⟩⟩ _ _ _
    try dsimp only at hh_ms3
    conv => whnf
    refine w1 1 ?_
    conv => whnf
    refine wt 6 ?_
    conv => whnf
    refine w1 7 ?_
    conv => whnf
    refine ⟨s23, ?_⟩
    conv => whnf
    refine wd1 (hK2 _ ?_)
    clear hK2 K2
    refine W.ret ?_
    conv => whnf
    refine ⟨by dsimp only; omega, ?_⟩
    conv => whnf
    exact ⟨.ownB b (x3), ⟨rfl, rfl⟩, .inr ⟨rfl, rfl⟩, .dead, trivial, rfl, rfl, rfl, ⟨x3, hx3, rfl⟩, _, rfl, ⟨p, L2, rfl, by omega, by have := hL2.2.1; omega⟩⟩
-- 3 ways
 refine wrs fun K hK => ?_
 conv => whnf
 refine hK _ (W.cond ⟨fun h1 => ?_, fun h1 => ?_⟩) <;> clear hK K
 ·refine W.seqK fun K2 hK2 => W.sch follows ?_
  refine wt 0 ?_
  conv => whnf
  refine Wany.takeF (cx_ok []) 2 (by rfl) (by rfl) (by rfl) (by rfl) (by decide) (by kernel_rfl) (by kernel_rfl) (by kernel_rfl) ?_
  conv => whnf
  refine w2 1 3 ?_ ?_ <;> conv => whnf
  ·refine ⟨⟨rfl, rfl⟩, ?_⟩
   conv => whnf
   refine ⟨rfl, _, (l01DrawPrime_m hc b x2 hx2), ?_⟩
   rintro hs_ms3 av x' t' hh_ms3 ⟨rfl, ⟨x3, hx3, rfl⟩, _, rfl, ⟨p2, rfl, hp2⟩⟩ _ _ _
   try dsimp only at hh_ms3
   conv => whnf
   refine w1 3 ?_
   conv => whnf
   refine wt 4 ?_
   conv => whnf
   refine w1 5 ?_
   conv => whnf
   refine ⟨s23, ?_⟩
   conv => whnf
   refine wd1 (hK2 _ ?_)
   clear hK2 K2
   have hp3 : -1000 ≤ p2 ∧ p2 ≤ 1000 := by (simp only [List.mem_cons, List.not_mem_nil, or_false] at hp2; omega)
   refine W.ret ?_
   conv => whnf
   refine ⟨by dsimp only; omega, ?_⟩
   conv => whnf
   exact ⟨.ownB b (x3), ⟨rfl, rfl⟩, .inr ⟨rfl, rfl⟩, .dead, trivial, rfl, rfl, rfl, ⟨x3, hx3, rfl⟩, _, rfl, ⟨p2, L, rfl, hp3, by omega⟩⟩
  ·refine w1 1 ?_
   conv => whnf
   refine ⟨⟨rfl, rfl⟩, ?_⟩
   conv => whnf
   refine ⟨rfl, _, (l01DrawPrime_m hc b x2 hx2), ?_⟩
   rintro hs_ms3 av x' t' hh_ms3 ⟨rfl, ⟨x3, hx3, rfl⟩, _, rfl, ⟨p2, rfl, hp2⟩⟩ _ _ _
   try dsimp only at hh_ms3
   conv => whnf
   refine wt 4 ?_
   conv => whnf
   refine w1 5 ?_
   conv => whnf
   refine ⟨s23, ?_⟩
   conv => whnf
   refine wd1 (hK2 _ ?_)
   clear hK2 K2
   have hp3 : -1000 ≤ p2 ∧ p2 ≤ 1000 := by (simp only [List.mem_cons, List.not_mem_nil, or_false] at hp2; omega)
   refine W.ret ?_
   conv => whnf
   refine ⟨by dsimp only; omega, ?_⟩
   conv => whnf
   exact ⟨.ownB b (x3), ⟨rfl, rfl⟩, .inr ⟨rfl, rfl⟩, .dead, trivial, rfl, rfl, rfl, ⟨x3, hx3, rfl⟩, _, rfl, ⟨p2, L, rfl, hp3, by omega⟩⟩
-- 2 ways
 refine wrs fun K hK => ?_
 conv => whnf
 refine hK _ (W.cond ⟨fun h2 => ?_, fun h2 => ?_⟩) <;> clear hK K
 ·refine wrs fun K hK => ?_
  conv => whnf
  refine ⟨⟨rfl, by decide⟩, ?_⟩
  conv => whnf
  intro b_26 hs_26 hh_26 hf_26
  try dsimp only at hh_26 hf_26
  conv => whnf
  refine ⟨⟨rfl, by decide⟩, ?_⟩
  conv => whnf
  intro b_27 hs_27 hh_27 hf_27
  try dsimp only at hh_27 hf_27
  conv => whnf
  refine ⟨⟨rfl, by decide⟩, ?_⟩
  conv => whnf
  intro b_28 hs_28 hh_28 hf_28
  try dsimp only at hh_28 hf_28
  conv => whnf
  refine ⟨⟨rfl, by decide⟩, ?_⟩
  conv => whnf
  intro b_29 hs_29 hh_29 hf_29
  try dsimp only at hh_29 hf_29
  conv => whnf
  refine ⟨⟨rfl, by decide, fun y hy => by simp at hy; rcases hy with rfl | rfl | rfl | rfl <;> exact ⟨rfl, rfl⟩⟩, ?_⟩
  conv => whnf
  intro b_30 hs_30 hh_30 hf_30
  try dsimp only at hh_30 hf_30
  conv => whnf
  refine ⟨⟨rfl, rfl⟩, ?_⟩
  conv => whnf
  refine ⟨rfl, _, (l01Next_m hc 4 (by constructor <;> decide) b x2 hx2), ?_⟩
  rintro hs_ms3 av x' t' hh_ms3 ⟨rfl, ⟨x3, hx3, rfl⟩, _, rfl, ⟨u, rfl, u0, u1, _⟩⟩ _ _ _
  try dsimp only at hh_ms3
  conv => whnf
  have hu := u1 (by decide)
  have hu4 : u = 0 ∨ u = 1 ∨ u = 2 ∨ u = 3 := by omega
  rcases hu4 with rfl | rfl | rfl | rfl
  ·refine ⟨⟨by decide, by decide⟩, ?_⟩
   conv => whnf
   refine ⟨s23, ?_⟩
   conv => whnf
   refine hK _ ?_
   clear hK K
   refine W.ret ?_
   conv => whnf
   refine ⟨by dsimp only; omega, ?_⟩
   conv => whnf
   exact ⟨.ownB b (x3), ⟨rfl, rfl⟩, .inr ⟨rfl, rfl⟩, .dead, trivial, rfl, rfl, rfl, ⟨x3, hx3, rfl⟩, _, rfl, ⟨2, _, rfl, ⟨by decide, by decide⟩, (by decide)⟩⟩
  ·refine ⟨⟨by decide, by decide⟩, ?_⟩
   conv => whnf
   refine ⟨s23, ?_⟩
   conv => whnf
   refine hK _ ?_
   clear hK K
   refine W.ret ?_
   conv => whnf
   refine ⟨by dsimp only; omega, ?_⟩
   conv => whnf
   exact ⟨.ownB b (x3), ⟨rfl, rfl⟩, .inr ⟨rfl, rfl⟩, .dead, trivial, rfl, rfl, rfl, ⟨x3, hx3, rfl⟩, _, rfl, ⟨2, _, rfl, ⟨by decide, by decide⟩, (by decide)⟩⟩
  ·refine ⟨⟨by decide, by decide⟩, ?_⟩
   conv => whnf
   refine ⟨s23, ?_⟩
   conv => whnf
   refine hK _ ?_
   clear hK K
   refine W.ret ?_
   conv => whnf
   refine ⟨by dsimp only; omega, ?_⟩
   conv => whnf
   exact ⟨.ownB b (x3), ⟨rfl, rfl⟩, .inr ⟨rfl, rfl⟩, .dead, trivial, rfl, rfl, rfl, ⟨x3, hx3, rfl⟩, _, rfl, ⟨2, _, rfl, ⟨by decide, by decide⟩, (by decide)⟩⟩
  ·refine ⟨⟨by decide, by decide⟩, ?_⟩
   conv => whnf
   refine ⟨s23, ?_⟩
   conv => whnf
   refine hK _ ?_
   clear hK K
   refine W.ret ?_
   conv => whnf
   refine ⟨by dsimp only; omega, ?_⟩
   conv => whnf
   exact ⟨.ownB b (x3), ⟨rfl, rfl⟩, .inr ⟨rfl, rfl⟩, .dead, trivial, rfl, rfl, rfl, ⟨x3, hx3, rfl⟩, _, rfl, ⟨2, _, rfl, ⟨by decide, by decide⟩, (by decide)⟩⟩
 refine W.skip (hK1 _ ?_)
 clear hK1 K1
 refine wrs fun K hK => ?_
 conv => whnf
 refine ⟨s23, ?_⟩
 conv => whnf
 refine hK _ ?_
 clear hK K
 refine W.ret ?_
 conv => whnf
 refine ⟨by dsimp only; omega, ?_⟩
 conv => whnf
 exact ⟨.ownB b (x2), ⟨rfl, rfl⟩, .inr ⟨rfl, rfl⟩, .dead, trivial, rfl, rfl, rfl, ⟨x2, hx2, rfl⟩, _, rfl, ⟨p, L, rfl, by omega, by omega⟩⟩

theorem l17DrawElement_m {n : Nat} {c : Nat → Int} (hc : Byt n c) (p : Int) (l : List Int) (hl : l.length ≤ 100) : MSrc 229 [vK p none l] n c (fun r => ∃ L, r = .ints none L ∧ L.length ≤ 100000) := by
 rintro b x hx
 refine mfn_ofV (cx := cxt [] [0, 1, 3, 4, 7, 11, 1000000, 1000001]) (cxt_ok [] [0, 1, 3, 4, 7, 11, 1000000, 1000001]) Tryz.func229 rfl (by decide) Tryz.ntmps229 (Nat.le_of_ble_eq_true rfl) (Nat.le_of_ble_eq_true rfl) rfl rfl fun base hs0 O U hw v0 hb0 => ?_
 refine W.sw (c' := cx [0, 1, 3, 4, 7, 11, 1000000, 1000001]) ?_
 refine wrs fun K hK => ?_
 conv => whnf
 refine ⟨rfl, ?_⟩
 conv => whnf
 intro b_3 hs_3 hh_3 hf_3
 try dsimp only at hh_3 hf_3
 conv => whnf
 refine hK _ ?_
 clear hK K
 refine W.seqK fun K1 hK1 => ?_
 refine wrs fun K hK => ?_
 conv => whnf
 refine callV rfl (isFieldS_fn p none l (by omega)) fun hs' hhs => ?_
 try dsimp only at hhs
 conv => whnf
 refine hK _ (W.cond ⟨fun h => ?_, fun h => ?_⟩) <;> clear hK K
 ·refine wrs fun K hK => ?_
  conv => whnf
  refine ⟨⟨rfl, by decide⟩, ?_⟩
  conv => whnf
  intro b_8 hs_8 hh_8 hf_8
  try dsimp only at hh_8 hf_8
  conv => whnf
  refine hK _ ?_
  clear hK K
  refine W.ret ?_
  conv => whnf
  refine ⟨by dsimp only; omega, ?_⟩
  conv => whnf
  refine ⟨rfl, ?_⟩
  conv => whnf
  refine ⟨.ints none [1], ⟨.inl rfl, rfl⟩, ?_⟩
  conv => whnf
  exact ⟨.ownB b (x), ⟨rfl, rfl⟩, .inr ⟨rfl, rfl⟩, .dead, trivial, rfl, rfl, rfl, ⟨x, hx, rfl⟩, _, rfl, ⟨_, rfl, by decide⟩⟩
 have hk : IsFld p l := bP_iff.1 (by simpa using h)
 refine W.skip (hK1 _ ?_)
 clear hK1 K1
 refine W.seqK fun K1 hK1 => ?_
 refine wrs fun K hK => ?_
 conv => whnf
 refine ⟨⟨rfl, rfl⟩, ?_⟩
 conv => whnf
 refine ⟨rfl, _, (l01Next_m hc 24 (by constructor <;> decide) b x hx), ?_⟩
 rintro hs_ms1 av x' t' hh_ms1 ⟨rfl, ⟨x1, hx1, rfl⟩, _, rfl, ⟨q, rfl, q0, q1, _⟩⟩ _ _ _
 try dsimp only at hh_ms1
 conv => whnf
 refine hK _ (W.cond ⟨fun h1 => ?_, fun h1 => ?_⟩) <;> clear hK K
 ·refine wrs fun K hK => ?_
  conv => whnf
  refine hK _ ?_
  clear hK K
  refine W.ret ?_
  conv => whnf
  refine ⟨by dsimp only; omega, ?_⟩
  conv => whnf
  refine ⟨rfl, ?_⟩
  conv => whnf
  refine ⟨.ints none l, ⟨rfl, rfl⟩, ?_⟩
  conv => whnf
  exact ⟨.ownB b (x1), ⟨rfl, rfl⟩, .inr ⟨rfl, rfl⟩, .dead, trivial, rfl, rfl, rfl, ⟨x1, hx1, rfl⟩, _, rfl, ⟨_, rfl, by omega⟩⟩
 refine W.skip (hK1 _ ?_)
 clear hK1 K1
 have hp2 := isP_le hk.mod.1
 have ho := hk.ord
 have hpos : 0 < p ^ (l.length - 1) := Int.pow_pos (by omega)
 refine W.seqK fun K2 hK2 => W.sch follows ?_
 refine wt 1 ?_
 conv => whnf
 refine w2 0 2 ?_ ?_ <;> conv => whnf
 ·refine w1 2 ?_
  conv => whnf
  refine w1 3 ?_
  conv => whnf
  refine callV rfl (l17Size_fn p none l hk) fun hs' hhs => ?_
  try dsimp only at hhs
  conv => whnf
  refine w1 4 ?_
  conv => whnf
  refine ⟨⟨rfl, rfl⟩, ?_⟩
  conv => whnf
  refine ⟨rfl, _, (l01Next_m hc (p ^ (l.length - 1)) (by constructor <;> omega) b x1 hx1), ?_⟩
  rintro hs_ms2 av x' t' hh_ms2 ⟨rfl, ⟨x2, hx2, rfl⟩, _, rfl, ⟨u, rfl, u0, u1, u2⟩⟩ _ _ _
  try dsimp only at hh_ms2
  obtain ⟨k, rfl⟩ : ∃ k : Nat, u = k := ⟨u.toNat, by omega⟩
  have hk2 : k ≤ 20000 := by (by_cases hh : 1 < p ^ (l.length - 1); (have := u1 hh; omega); (have := u2 (by omega); omega))
  conv => whnf
  refine w1 5 ?_
  conv => whnf
  refine callV rfl (l17With_fn p none l k hp2.1 (by omega)) fun hs' hhs => ?_
  try dsimp only at hhs
  conv => whnf
  refine w1 6 ?_
  conv => whnf
  refine wd1 (hK2 _ ?_)
  clear hK2 K2
  have hdl : (dig p.toNat k).length ≤ 100000 := by (have := dig_length_le (p := p.toNat) (by omega) k k (Nat.lt_pow_self (by omega)); omega)
  refine W.ret ?_
  conv => whnf
  refine ⟨by dsimp only; omega, ?_⟩
  conv => whnf
  refine ⟨rfl, ?_⟩
  conv => whnf
  refine ⟨.ints none (dig p.toNat k), ⟨rfl, rfl⟩, ?_⟩
  conv => whnf
  exact ⟨.ownB b (x2), ⟨rfl, rfl⟩, .inr ⟨rfl, rfl⟩, .dead, trivial, rfl, rfl, rfl, ⟨x2, hx2, rfl⟩, _, rfl, ⟨_, rfl, hdl⟩⟩
 ·refine w2 0 3 ?_ ?_ <;> conv => whnf
  ·refine w1 3 ?_
   conv => whnf
   refine callV rfl (l17Size_fn p none l hk) fun hs' hhs => ?_
   try dsimp only at hhs
   conv => whnf
   refine w1 4 ?_
   conv => whnf
   refine ⟨⟨rfl, rfl⟩, ?_⟩
   conv => whnf
   refine ⟨rfl, _, (l01Next_m hc (p ^ (l.length - 1)) (by constructor <;> omega) b x1 hx1), ?_⟩
   rintro hs_ms2 av x' t' hh_ms2 ⟨rfl, ⟨x2, hx2, rfl⟩, _, rfl, ⟨u, rfl, u0, u1, u2⟩⟩ _ _ _
   try dsimp only at hh_ms2
   obtain ⟨k, rfl⟩ : ∃ k : Nat, u = k := ⟨u.toNat, by omega⟩
   have hk2 : k ≤ 20000 := by (by_cases hh : 1 < p ^ (l.length - 1); (have := u1 hh; omega); (have := u2 (by omega); omega))
   conv => whnf
   refine w1 5 ?_
   conv => whnf
   refine callV rfl (l17With_fn p none l k hp2.1 (by omega)) fun hs' hhs => ?_
   try dsimp only at hhs
   conv => whnf
   refine w1 6 ?_
   conv => whnf
   refine wd1 (hK2 _ ?_)
   clear hK2 K2
   have hdl : (dig p.toNat k).length ≤ 100000 := by (have := dig_length_le (p := p.toNat) (by omega) k k (Nat.lt_pow_self (by omega)); omega)
   refine W.ret ?_
   conv => whnf
   refine ⟨by dsimp only; omega, ?_⟩
   conv => whnf
   refine ⟨rfl, ?_⟩
   conv => whnf
   refine ⟨.ints none (dig p.toNat k), ⟨rfl, rfl⟩, ?_⟩
   conv => whnf
   exact ⟨.ownB b (x2), ⟨rfl, rfl⟩, .inr ⟨rfl, rfl⟩, .dead, trivial, rfl, rfl, rfl, ⟨x2, hx2, rfl⟩, _, rfl, ⟨_, rfl, hdl⟩⟩
  ·refine callV rfl (l17Size_fn p none l hk) fun hs' hhs => ?_
   try dsimp only at hhs
   conv => whnf
   refine w2 0 4 ?_ ?_ <;> conv => whnf
   ·refine w1 4 ?_
    conv => whnf
    refine ⟨⟨rfl, rfl⟩, ?_⟩
    conv => whnf
    refine ⟨rfl, _, (l01Next_m hc (p ^ (l.length - 1)) (by constructor <;> omega) b x1 hx1), ?_⟩
    rintro hs_ms2 av x' t' hh_ms2 ⟨rfl, ⟨x2, hx2, rfl⟩, _, rfl, ⟨u, rfl, u0, u1, u2⟩⟩ _ _ _
    try dsimp only at hh_ms2
    obtain ⟨k, rfl⟩ : ∃ k : Nat, u = k := ⟨u.toNat, by omega⟩
    have hk2 : k ≤ 20000 := by (by_cases hh : 1 < p ^ (l.length - 1); (have := u1 hh; omega); (have := u2 (by omega); omega))
    conv => whnf
    refine w1 5 ?_
    conv => whnf
    refine callV rfl (l17With_fn p none l k hp2.1 (by omega)) fun hs' hhs => ?_
    try dsimp only at hhs
    conv => whnf
    refine w1 6 ?_
    conv => whnf
    refine wd1 (hK2 _ ?_)
    clear hK2 K2
    have hdl : (dig p.toNat k).length ≤ 100000 := by (have := dig_length_le (p := p.toNat) (by omega) k k (Nat.lt_pow_self (by omega)); omega)
    refine W.ret ?_
    conv => whnf
    refine ⟨by dsimp only; omega, ?_⟩
    conv => whnf
    refine ⟨rfl, ?_⟩
    conv => whnf
    refine ⟨.ints none (dig p.toNat k), ⟨rfl, rfl⟩, ?_⟩
    conv => whnf
    exact ⟨.ownB b (x2), ⟨rfl, rfl⟩, .inr ⟨rfl, rfl⟩, .dead, trivial, rfl, rfl, rfl, ⟨x2, hx2, rfl⟩, _, rfl, ⟨_, rfl, hdl⟩⟩
   ·refine ⟨⟨rfl, rfl⟩, ?_⟩
    conv => whnf
    refine ⟨rfl, _, (l01Next_m hc (p ^ (l.length - 1)) (by constructor <;> omega) b x1 hx1), ?_⟩
    rintro hs_ms2 av x' t' hh_ms2 ⟨rfl, ⟨x2, hx2, rfl⟩, _, rfl, ⟨u, rfl, u0, u1, u2⟩⟩ _ _ _
    try dsimp only at hh_ms2
    obtain ⟨k, rfl⟩ : ∃ k : Nat, u = k := ⟨u.toNat, by omega⟩
    have hk2 : k ≤ 20000 := by (by_cases hh : 1 < p ^ (l.length - 1); (have := u1 hh; omega); (have := u2 (by omega); omega))
    conv => whnf
    refine w1 0 ?_
    conv => whnf
    refine w1 5 ?_
    conv => whnf
    refine callV rfl (l17With_fn p none l k hp2.1 (by omega)) fun hs' hhs => ?_
    try dsimp only at hhs
    conv => whnf
    refine w1 6 ?_
    conv => whnf
    refine wd1 (hK2 _ ?_)
    clear hK2 K2
    have hdl : (dig p.toNat k).length ≤ 100000 := by (have := dig_length_le (p := p.toNat) (by omega) k k (Nat.lt_pow_self (by omega)); omega)
    refine W.ret ?_
    conv => whnf
    refine ⟨by dsimp only; omega, ?_⟩
    conv => whnf
    refine ⟨rfl, ?_⟩
    conv => whnf
    refine ⟨.ints none (dig p.toNat k), ⟨rfl, rfl⟩, ?_⟩
    conv => whnf
    exact ⟨.ownB b (x2), ⟨rfl, rfl⟩, .inr ⟨rfl, rfl⟩, .dead, trivial, rfl, rfl, rfl, ⟨x2, hx2, rfl⟩, _, rfl, ⟨_, rfl, hdl⟩⟩
-- 4 ways

theorem l17DrawTwo_fn {n : Nat} {c : Nat → Int} (hc : Byt n c) : Fn Tryz.prog 158 [vBy n c] (fun _ _ z => ∃ p L X Y, z = .v (.tup [vK p none L, .ints none X, .ints none Y]) ∧ (-1000 ≤ p ∧ p ≤ 1000) ∧ L.length ≤ 100 ∧ X.length ≤ 100000 ∧ Y.length ≤ 100000) := by
 refine fn_of (cx_ok [0, 2, 3, 4, 5, 6, 7]) Tryz.func158 rfl (by decide) Tryz.ntmps158 (Nat.le_of_ble_eq_true rfl) fun base => ?_
 refine wrs fun K hK => ?_
 conv => whnf
 intro b_2 hs_2 hh_2 hf_2
 try dsimp only at hh_2 hf_2
 conv => whnf
 refine hK _ ?_
 clear hK K
 refine wrs fun K hK => ?_
 conv => whnf
 refine callP rfl (l01From_fn hc) ?_
 rintro lo hi hi' z hl1 hl2 hl3 ⟨b, x, hx, rfl⟩ _
 try dsimp only at hl1 hl2
 conv => whnf
 refine hK _ ?_
 clear hK K
 refine wrs fun K hK => ?_
 conv => whnf
 refine ⟨⟨rfl, rfl⟩, ?_⟩
 conv => whnf
 refine ⟨rfl, _, (l17Draw_m hc b x hx), ?_⟩
 rintro hs_ms1 av x' t' hh_ms1 ⟨rfl, ⟨x1, hx1, rfl⟩, _, rfl, ⟨p, L, rfl, hp, hL⟩⟩ _ _ _
 try dsimp only at hh_ms1
 conv => whnf
 intro b_6 hs_6 hh_6 hf_6
 try dsimp only at hh_6 hf_6
 conv => whnf
 refine ⟨s23, ?_⟩
 conv => whnf
 refine hK _ ?_
 clear hK K
 refine wrs fun K hK => ?_
 conv => whnf
 refine ⟨⟨rfl, rfl⟩, ?_⟩
 conv => whnf
 refine ⟨rfl, _, (l17DrawElement_m hc p L hL b x1 hx1), ?_⟩
 rintro hs_ms2 av x' t' hh_ms2 ⟨rfl, ⟨x2, hx2, rfl⟩, _, rfl, ⟨X, rfl, hX⟩⟩ _ _ _
 try dsimp only at hh_ms2
 conv => whnf
 refine hK _ ?_
 clear hK K
 refine W.seqK fun K2 hK2 => W.sch follows ?_
 refine wt 1 ?_
 conv => whnf
 refine wt 2 ?_
 conv => whnf
 refine w2 0 3 ?_ ?_ <;> conv => whnf
 ·refine w1 3 ?_
  conv => whnf
  refine w1 4 ?_
  conv => whnf
  refine ⟨⟨rfl, rfl⟩, ?_⟩
  conv => whnf
  refine ⟨rfl, _, (l17DrawElement_m hc p L hL b x2 hx2), ?_⟩
  rintro hs_ms3 av x' t' hh_ms3 ⟨rfl, ⟨x3, hx3, rfl⟩, _, rfl, ⟨Y, rfl, hY⟩⟩ _ _ _
  try dsimp only at hh_ms3
  conv => whnf
  refine w1 5 ?_
  conv => whnf
  refine ⟨s23, ?_⟩
  conv => whnf
  refine w1 6 ?_
  conv => whnf
  refine w1 7 ?_
  conv => whnf
  refine wd1 (hK2 _ ?_)
  clear hK2 K2
  refine W.ret ?_
  conv => whnf
  exact ⟨⟨trivial, trivial, trivial⟩, .v (.ints none X), ⟨rfl, rfl⟩, trivial, .v (.ints none Y), ⟨rfl, rfl⟩, trivial, p, L, X, Y, rfl, hp, hL, hX, hY⟩
 ·refine w2 0 4 ?_ ?_ <;> conv => whnf
  ·refine w1 4 ?_
   conv => whnf
   refine ⟨⟨rfl, rfl⟩, ?_⟩
   conv => whnf
   refine ⟨rfl, _, (l17DrawElement_m hc p L hL b x2 hx2), ?_⟩
   rintro hs_ms3 av x' t' hh_ms3 ⟨rfl, ⟨x3, hx3, rfl⟩, _, rfl, ⟨Y, rfl, hY⟩⟩ _ _ _
   try dsimp only at hh_ms3
   conv => whnf
   refine w1 5 ?_
   conv => whnf
   refine ⟨s23, ?_⟩
   conv => whnf
   refine w1 6 ?_
   conv => whnf
   refine w1 7 ?_
   conv => whnf
   refine wd1 (hK2 _ ?_)
   clear hK2 K2
   refine W.ret ?_
   conv => whnf
   exact ⟨⟨trivial, trivial, trivial⟩, .v (.ints none X), ⟨rfl, rfl⟩, trivial, .v (.ints none Y), ⟨rfl, rfl⟩, trivial, p, L, X, Y, rfl, hp, hL, hX, hY⟩
  ·refine ⟨⟨rfl, rfl⟩, ?_⟩
   conv => whnf
   refine ⟨rfl, _, (l17DrawElement_m hc p L hL b x2 hx2), ?_⟩
   rintro hs_ms3 av x' t' hh_ms3 ⟨rfl, ⟨x3, hx3, rfl⟩, _, rfl, ⟨Y, rfl, hY⟩⟩ _ _ _
   try dsimp only at hh_ms3
   conv => whnf
   refine w1 0 ?_
   conv => whnf
   refine w1 5 ?_
   conv => whnf
   refine ⟨s23, ?_⟩
   conv => whnf
   refine w1 6 ?_
   conv => whnf
   refine w1 7 ?_
   conv => whnf
   refine wd1 (hK2 _ ?_)
   clear hK2 K2
   refine W.ret ?_
   conv => whnf
   exact ⟨⟨trivial, trivial, trivial⟩, .v (.ints none X), ⟨rfl, rfl⟩, trivial, .v (.ints none Y), ⟨rfl, rfl⟩, trivial, p, L, X, Y, rfl, hp, hL, hX, hY⟩
-- 3 ways

theorem l17DrawOne_fn {n : Nat} {c : Nat → Int} (hc : Byt n c) : Fn Tryz.prog 178 [vBy n c] (fun _ _ z => ∃ p L X, z = .v (.tup [vK p none L, .ints none X]) ∧ (-1000 ≤ p ∧ p ≤ 1000) ∧ L.length ≤ 100 ∧ X.length ≤ 100000) := by
 refine fn_of (cx_ok [0, 2, 3, 4, 5]) Tryz.func178 rfl (by decide) Tryz.ntmps178 (Nat.le_of_ble_eq_true rfl) fun base => ?_
 refine wrs fun K hK => ?_
 conv => whnf
 intro b_2 hs_2 hh_2 hf_2
 try dsimp only at hh_2 hf_2
 conv => whnf
 refine hK _ ?_
 clear hK K
 refine wrs fun K hK => ?_
 conv => whnf
 refine callP rfl (l17DrawTwo_fn hc) ?_
 rintro lo hi hi' z hl1 hl2 hl3 ⟨p, L, X, Y, rfl, hp, hL, hX, hY⟩ _
 try dsimp only at hl1 hl2
 conv => whnf
 intro b_4 hs_4 hh_4 hf_4
 try dsimp only at hh_4 hf_4
 conv => whnf
 refine ⟨s23, ?_⟩
 conv => whnf
 refine hK _ ?_
 clear hK K
 refine wrs fun K hK => ?_
 conv => whnf
 refine ⟨s23, ?_⟩
 conv => whnf
 refine hK _ ?_
 clear hK K
 refine W.ret ?_
 conv => whnf
 exact ⟨⟨trivial, trivial, trivial⟩, .v (.ints none X), ⟨rfl, rfl⟩, trivial, p, L, X, rfl, hp, hL, hX⟩

open Go Go.RowKit Go.Proofs Poly
set_option maxRecDepth 100000
set_option maxHeartbeats 8000000


theorem DrawMultiplyElements_fn {n : Nat} {c : Nat → Int} (hc : Byt n c) : Fn Tryz.prog 16 [vBy n c] (fun _ _ z => ∃ p L X Y, z = .v (.tup [vK p none L, .ints none X, .ints none Y]) ∧ (-1000 ≤ p ∧ p ≤ 1000) ∧ L.length ≤ 100 ∧ X.length ≤ 100000 ∧ Y.length ≤ 100000) := by
 refine fn_of (cx_ok [0, 2, 3, 4]) Tryz.func16 rfl (by decide) Tryz.ntmps16 (Nat.le_of_ble_eq_true rfl) fun base => ?_
 refine wrs fun K hK => ?_
 conv => whnf
 intro b_2 hs_2 hh_2 hf_2
 try dsimp only at hh_2 hf_2
 conv => whnf
 refine hK _ ?_
 clear hK K
 refine wrs fun K hK => ?_
 conv => whnf
 refine callP rfl (l17DrawTwo_fn hc) ?_
 rintro lo hi hi' z hl1 hl2 hl3 ⟨p, L, X, Y, rfl, hp, hL, hX, hY⟩ _
 try dsimp only at hl1 hl2
 conv => whnf
 refine ⟨s23, ?_⟩
 conv => whnf
 refine hK _ ?_
 clear hK K
 refine W.ret ?_
 conv => whnf
 exact ⟨⟨trivial, trivial, trivial⟩, .v (.ints none X), ⟨rfl, rfl⟩, trivial, .v (.ints none Y), ⟨rfl, rfl⟩, trivial, p, L, X, Y, rfl, hp, hL, hX, hY⟩

theorem DrawPowerElement_fn {n : Nat} {c : Nat → Int} (hc : Byt n c) : Fn Tryz.prog 24 [vBy n c] (fun _ _ z => ∃ p L X q, z = .v (.tup [vK p none L, .ints none X, .int .i64 q]) ∧ (-1000 ≤ p ∧ p ≤ 1000) ∧ L.length ≤ 100 ∧ X.length ≤ 100000 ∧ (-1 ≤ q ∧ q ≤ 1000000000001)) := by
 refine fn_of (cx_ok [0, 2, 3, 4, 5, 6, 7]) Tryz.func24 rfl (by decide) Tryz.ntmps24 (Nat.le_of_ble_eq_true rfl) fun base => ?_
 refine wrs fun K hK => ?_
 conv => whnf
 intro b_2 hs_2 hh_2 hf_2
 try dsimp only at hh_2 hf_2
 conv => whnf
 refine hK _ ?_
 clear hK K
 refine wrs fun K hK => ?_
 conv => whnf
 refine callP rfl (l01From_fn hc) ?_
 rintro lo hi hi' z hl1 hl2 hl3 ⟨b, x, hx, rfl⟩ _
 try dsimp only at hl1 hl2
 conv => whnf
 refine hK _ ?_
 clear hK K
 refine wrs fun K hK => ?_
 conv => whnf
 refine callP rfl (l17DrawOne_fn hc) ?_
 rintro lo2 hi2 hi2' z hm1 hm2 hm3 ⟨p, L, X, rfl, hp, hL, hX⟩ _
 try dsimp only at hm1 hm2
 conv => whnf
 intro b_6 hs_6 hh_6 hf_6
 try dsimp only at hh_6 hf_6
 conv => whnf
 refine ⟨s23, ?_⟩
 conv => whnf
 refine hK _ ?_
 clear hK K
 refine W.seqK fun K2 hK2 => W.sch follows ?_
 refine wt 1 ?_
 conv => whnf
 refine wt 2 ?_
 conv => whnf
 refine wt 3 ?_
 conv => whnf
 refine wt 5 ?_
 conv => whnf
 refine w2 0 4 ?_ ?_ <;> conv => whnf
 ·refine w1 4 ?_
  conv => whnf
  refine ⟨⟨rfl, rfl⟩, ?_⟩
  conv => whnf
  refine ⟨rfl, _, (l01Next_m hc 100 (by constructor <;> decide) b x hx), ?_⟩
  rintro hs_ms1 av x' t' hh_ms1 ⟨rfl, ⟨x1, hx1, rfl⟩, _, rfl, ⟨q1, rfl, q10, q11, _⟩⟩ _ _ _
  try dsimp only at hh_ms1
  conv => whnf
  have q12 := q11 (by decide)
  refine w1 6 ?_
  conv => whnf
  refine ⟨⟨rfl, rfl⟩, ?_⟩
  conv => whnf
  refine ⟨rfl, _, (l01Next_m hc 1000000 (by constructor <;> decide) b x1 hx1), ?_⟩
  rintro hs_ms2 av x' t' hh_ms2 ⟨rfl, ⟨x2, hx2, rfl⟩, _, rfl, ⟨q2, rfl, q20, q21, _⟩⟩ _ _ _
  try dsimp only at hh_ms2
  conv => whnf
  have q22 := q21 (by decide)
  refine w1 7 ?_
  conv => whnf
  refine ⟨⟨rfl, by decide⟩, ?_⟩
  conv => whnf
  intro b_7 hs_7 hh_7 hf_7
  try dsimp only at hh_7 hf_7
  conv => whnf
  refine w1 8 ?_
  conv => whnf
  refine ⟨⟨rfl, rfl⟩, ?_⟩
  conv => whnf
  refine ⟨rfl, _, (l01Pick_m hc none [0, 1, 2, q1, q2, 1000000000000, 1000000000001, -1] ⟨(by show 1 ≤ 8; omega), (by show 8 ≤ 1000; omega)⟩ b x2 hx2), ?_⟩
  rintro hs_ms3 av x' t' hh_ms3 ⟨rfl, ⟨x3, hx3, rfl⟩, _, rfl, ⟨q, rfl, hq⟩⟩ _ _ _
  try dsimp only at hh_ms3
  conv => whnf
  refine w1 9 ?_
  conv => whnf
  refine ⟨s23, ?_⟩
  conv => whnf
  refine w1 10 ?_
  conv => whnf
  refine w1 11 ?_
  conv => whnf
  refine wd1 (hK2 _ ?_)
  clear hK2 K2
  have hq3 : -1 ≤ q ∧ q ≤ 1000000000001 := by (simp only [List.mem_cons, List.not_mem_nil, or_false] at hq; omega)
  refine W.ret ?_
  conv => whnf
  exact ⟨⟨trivial, trivial, trivial⟩, .v (.ints none X), ⟨rfl, rfl⟩, trivial, .v (.int .i64 q), ⟨rfl, rfl⟩, trivial, p, L, X, q, rfl, hp, hL, hX, hq3⟩
 ·refine ⟨⟨rfl, rfl⟩, ?_⟩
  conv => whnf
  refine ⟨rfl, _, (l01Next_m hc 100 (by constructor <;> decide) b x hx), ?_⟩
  rintro hs_ms1 av x' t' hh_ms1 ⟨rfl, ⟨x1, hx1, rfl⟩, _, rfl, ⟨q1, rfl, q10, q11, _⟩⟩ _ _ _
  try dsimp only at hh_ms1
  conv => whnf
  have q12 := q11 (by decide)
  refine w2 0 6 ?_ ?_ <;> conv => whnf
  ·refine w1 6 ?_
   conv => whnf
   refine ⟨⟨rfl, rfl⟩, ?_⟩
   conv => whnf
   refine ⟨rfl, _, (l01Next_m hc 1000000 (by constructor <;> decide) b x1 hx1), ?_⟩
   rintro hs_ms2 av x' t' hh_ms2 ⟨rfl, ⟨x2, hx2, rfl⟩, _, rfl, ⟨q2, rfl, q20, q21, _⟩⟩ _ _ _
   try dsimp only at hh_ms2
   conv => whnf
   have q22 := q21 (by decide)
   refine w1 7 ?_
   conv => whnf
   refine ⟨⟨rfl, by decide⟩, ?_⟩
   conv => whnf
   intro b_7 hs_7 hh_7 hf_7
   try dsimp only at hh_7 hf_7
   conv => whnf
   refine w1 8 ?_
   conv => whnf
   refine ⟨⟨rfl, rfl⟩, ?_⟩
   conv => whnf
   refine ⟨rfl, _, (l01Pick_m hc none [0, 1, 2, q1, q2, 1000000000000, 1000000000001, -1] ⟨(by show 1 ≤ 8; omega), (by show 8 ≤ 1000; omega)⟩ b x2 hx2), ?_⟩
   rintro hs_ms3 av x' t' hh_ms3 ⟨rfl, ⟨x3, hx3, rfl⟩, _, rfl, ⟨q, rfl, hq⟩⟩ _ _ _
   try dsimp only at hh_ms3
   conv => whnf
   refine w1 9 ?_
   conv => whnf
   refine ⟨s23, ?_⟩
   conv => whnf
   refine w1 10 ?_
   conv => whnf
   refine w1 11 ?_
   conv => whnf
   refine wd1 (hK2 _ ?_)
   clear hK2 K2
   have hq3 : -1 ≤ q ∧ q ≤ 1000000000001 := by (simp only [List.mem_cons, List.not_mem_nil, or_false] at hq; omega)
   refine W.ret ?_
   conv => whnf
   exact ⟨⟨trivial, trivial, trivial⟩, .v (.ints none X), ⟨rfl, rfl⟩, trivial, .v (.int .i64 q), ⟨rfl, rfl⟩, trivial, p, L, X, q, rfl, hp, hL, hX, hq3⟩
  ·refine ⟨⟨rfl, rfl⟩, ?_⟩
   conv => whnf
   refine ⟨rfl, _, (l01Next_m hc 1000000 (by constructor <;> decide) b x1 hx1), ?_⟩
   rintro hs_ms2 av x' t' hh_ms2 ⟨rfl, ⟨x2, hx2, rfl⟩, _, rfl, ⟨q2, rfl, q20, q21, _⟩⟩ _ _ _
   try dsimp only at hh_ms2
   conv => whnf
   have q22 := q21 (by decide)
   refine w2 0 7 ?_ ?_ <;> conv => whnf
   ·refine w1 7 ?_
    conv => whnf
    refine ⟨⟨rfl, by decide⟩, ?_⟩
    conv => whnf
    intro b_7 hs_7 hh_7 hf_7
    try dsimp only at hh_7 hf_7
    conv => whnf
    refine w1 8 ?_
    conv => whnf
    refine ⟨⟨rfl, rfl⟩, ?_⟩
    conv => whnf
    refine ⟨rfl, _, (l01Pick_m hc none [0, 1, 2, q1, q2, 1000000000000, 1000000000001, -1] ⟨(by show 1 ≤ 8; omega), (by show 8 ≤ 1000; omega)⟩ b x2 hx2), ?_⟩
    rintro hs_ms3 av x' t' hh_ms3 ⟨rfl, ⟨x3, hx3, rfl⟩, _, rfl, ⟨q, rfl, hq⟩⟩ _ _ _
    try dsimp only at hh_ms3
    conv => whnf
    refine w1 9 ?_
    conv => whnf
    refine ⟨s23, ?_⟩
    conv => whnf
    refine w1 10 ?_
    conv => whnf
    refine w1 11 ?_
    conv => whnf
    refine wd1 (hK2 _ ?_)
    clear hK2 K2
    have hq3 : -1 ≤ q ∧ q ≤ 1000000000001 := by (simp only [List.mem_cons, List.not_mem_nil, or_false] at hq; omega)
    refine W.ret ?_
    conv => whnf
    exact ⟨⟨trivial, trivial, trivial⟩, .v (.ints none X), ⟨rfl, rfl⟩, trivial, .v (.int .i64 q), ⟨rfl, rfl⟩, trivial, p, L, X, q, rfl, hp, hL, hX, hq3⟩
   ·refine ⟨⟨rfl, by decide⟩, ?_⟩
    conv => whnf
    intro b_7 hs_7 hh_7 hf_7
    try dsimp only at hh_7 hf_7
    conv => whnf
    refine w2 0 8 ?_ ?_ <;> conv => whnf
    ·refine w1 8 ?_
     conv => whnf
     refine ⟨⟨rfl, rfl⟩, ?_⟩
     conv => whnf
     refine ⟨rfl, _, (l01Pick_m hc none [0, 1, 2, q1, q2, 1000000000000, 1000000000001, -1] ⟨(by show 1 ≤ 8; omega), (by show 8 ≤ 1000; omega)⟩ b x2 hx2), ?_⟩
     rintro hs_ms3 av x' t' hh_ms3 ⟨rfl, ⟨x3, hx3, rfl⟩, _, rfl, ⟨q, rfl, hq⟩⟩ _ _ _
     try dsimp only at hh_ms3
     conv => whnf
     refine w1 9 ?_
     conv => whnf
     refine ⟨s23, ?_⟩
     conv => whnf
     refine w1 10 ?_
     conv => whnf
     refine w1 11 ?_
     conv => whnf
     refine wd1 (hK2 _ ?_)
     clear hK2 K2
     have hq3 : -1 ≤ q ∧ q ≤ 1000000000001 := by (simp only [List.mem_cons, List.not_mem_nil, or_false] at hq; omega)
     refine W.ret ?_
     conv => whnf
     exact ⟨⟨trivial, trivial, trivial⟩, .v (.ints none X), ⟨rfl, rfl⟩, trivial, .v (.int .i64 q), ⟨rfl, rfl⟩, trivial, p, L, X, q, rfl, hp, hL, hX, hq3⟩
    ·refine ⟨⟨rfl, rfl⟩, ?_⟩
     conv => whnf
     refine ⟨rfl, _, (l01Pick_m hc none [0, 1, 2, q1, q2, 1000000000000, 1000000000001, -1] ⟨(by show 1 ≤ 8; omega), (by show 8 ≤ 1000; omega)⟩ b x2 hx2), ?_⟩
     rintro hs_ms3 av x' t' hh_ms3 ⟨rfl, ⟨x3, hx3, rfl⟩, _, rfl, ⟨q, rfl, hq⟩⟩ _ _ _
     try dsimp only at hh_ms3
     conv => whnf
     refine w1 0 ?_
     conv => whnf
     refine w1 9 ?_
     conv => whnf
     refine ⟨s23, ?_⟩
     conv => whnf
     refine w1 10 ?_
     conv => whnf
     refine w1 11 ?_
     conv => whnf
     refine wd1 (hK2 _ ?_)
     clear hK2 K2
     have hq3 : -1 ≤ q ∧ q ≤ 1000000000001 := by (simp only [List.mem_cons, List.not_mem_nil, or_false] at hq; omega)
     refine W.ret ?_
     conv => whnf
     exact ⟨⟨trivial, trivial, trivial⟩, .v (.ints none X), ⟨rfl, rfl⟩, trivial, .v (.int .i64 q), ⟨rfl, rfl⟩, trivial, p, L, X, q, rfl, hp, hL, hX, hq3⟩
-- 5 ways

open Go Go.RowKit Go.Proofs Poly
set_option maxRecDepth 100000
set_option maxHeartbeats 8000000


theorem DrawElementWith_fn {n : Nat} {c : Nat → Int} (hc : Byt n c) : Fn Tryz.prog 21 [vBy n c] (fun _ _ z => ∃ p L q, z = .v (.tup [vK p none L, .int .i64 q]) ∧ (-1000 ≤ p ∧ p ≤ 1000) ∧ L.length ≤ 100 ∧ (-1 ≤ q ∧ q ≤ 1000000)) := by
 refine fn_of (cx_ok [0, 2, 3, 4, 5, 11]) Tryz.func21 rfl (by decide) Tryz.ntmps21 (Nat.le_of_ble_eq_true rfl) fun base => ?_
 refine wrs fun K hK => ?_
 conv => whnf
 intro b_2 hs_2 hh_2 hf_2
 try dsimp only at hh_2 hf_2
 conv => whnf
 refine hK _ ?_
 clear hK K
 refine wrs fun K hK => ?_
 conv => whnf
 refine callP rfl (l01From_fn hc) ?_
 rintro lo hi hi' z hl1 hl2 hl3 ⟨b, x, hx, rfl⟩ _
 try dsimp only at hl1 hl2
 conv => whnf
 refine hK _ ?_
 clear hK K
 refine wrs fun K hK => ?_
 conv => whnf
 refine ⟨⟨rfl, rfl⟩, ?_⟩
 conv => whnf
 refine ⟨rfl, _, (l17Draw_m hc b x hx), ?_⟩
 rintro hs_ms1 av x' t' hh_ms1 ⟨rfl, ⟨x1, hx1, rfl⟩, _, rfl, ⟨p, L, rfl, hp, hL⟩⟩ _ _ _
 try dsimp only at hh_ms1
 conv => whnf
 intro b_5 hs_5 hh_5 hf_5
 try dsimp only at hh_5 hf_5
 conv => whnf
 refine ⟨s23, ?_⟩
 conv => whnf
 refine hK _ ?_
 clear hK K
 refine W.seqK fun K1 hK1 => ?_
 refine wrs fun K hK => ?_
 conv => whnf
 refine callV rfl (isFieldS_fn p none L (by omega)) fun hs' hhs => ?_
 try dsimp only at hhs
 conv => whnf
 refine hK _ (W.cond ⟨fun h => ?_, fun h => ?_⟩) <;> clear hK K
 ·have hk : IsFld p L := bP_iff.1 h
  have hp2 := isP_le hk.mod.1
  have ho := hk.ord
  have hpos : 0 < p ^ (L.length - 1) := Int.pow_pos (by omega)
  refine W.rgh follows fun K hK => ?_
  refine Wgh.take (cx_ok []) 0 (by rfl) (fun d hd => by injection hd with hd; subst hd; decide) (by kernel_rfl) (by kernel_rfl) (by rfl) ?_
  conv => whnf
  refine Wgh.take (cx_ok []) 1 (by rfl) (fun d hd => by injection hd with hd; subst hd; decide) (by kernel_rfl) (by kernel_rfl) (by rfl) ?_
  conv => whnf
  refine Wgh.take (cx_ok []) 2 (by rfl) (fun d hd => by injection hd with hd; subst hd; decide) (by kernel_rfl) (by kernel_rfl) (by rfl) ?_
  conv => whnf
  refine Wgh.take (cx_ok []) 3 (by rfl) (fun d hd => by injection hd with hd; subst hd; decide) (by kernel_rfl) (by kernel_rfl) (by rfl) ?_
  conv => whnf
  refine Wgh.take (cx_ok []) 6 (by rfl) (fun d hd => by injection hd with hd; subst hd; decide) (by kernel_rfl) (by kernel_rfl) (by rfl) ?_
  conv => whnf
  refine Wgh.take (cx_ok []) 7 (by rfl) (fun d hd => by injection hd with hd; subst hd; decide) (by kernel_rfl) (by kernel_rfl) (by rfl) ?_
  conv => whnf
  refine Wgh.take (cx_ok []) 10 (by rfl) (fun d hd => by injection hd with hd; subst hd; decide) (by kernel_rfl) (by kernel_rfl) (by rfl) ?_
  conv => whnf
  refine Wgh.take (cx_ok []) 13 (by rfl) (fun d hd => by injection hd with hd; subst hd; decide) (by kernel_rfl) (by kernel_rfl) (by rfl) ?_
  conv => whnf
  refine Wgh.one (cx_ok []) 4 [13, 10, 7, 6, 2, 1, 0] (by rfl) (by kernel_rfl) (by kernel_rfl) (by kernel_rfl) (by rfl) (by kernel_rfl) ⟨(by (conv => whnf); exact ⟨Nat.le_refl _, rfl⟩), (by (conv => whnf); exact ⟨Nat.le_refl _, rfl⟩), (by (conv => whnf); exact ⟨Nat.le_refl _, rfl⟩), (by (conv => whnf); exact ⟨Nat.le_refl _, rfl⟩), (by (conv => whnf); exact ⟨Nat.le_refl _, rfl⟩), (by (conv => whnf); exact ⟨Nat.le_refl _, rfl⟩), (by (conv => whnf); exact ⟨Nat.le_refl _, rfl⟩), (by (conv => whnf); exact ⟨Nat.le_refl _, rfl⟩), trivial⟩ ?_
  conv => whnf
  refine callV rfl (l17Size_fn p none L hk) fun hs' hhs => ?_
  try dsimp only at hhs
  conv => whnf
  refine Wgh.one (cx_ok []) 5 [13, 10, 7, 6, 1, 0] (by rfl) (by kernel_rfl) (by kernel_rfl) (by kernel_rfl) (by rfl) (by kernel_rfl) ⟨(by (conv => whnf); exact ⟨Nat.le_refl _, rfl⟩), (by (conv => whnf); exact ⟨Nat.le_refl _, rfl⟩), (by (conv => whnf); exact ⟨Nat.le_refl _, rfl⟩), (by (conv => whnf); exact ⟨Nat.le_refl _, rfl⟩), (by (conv => whnf); exact ⟨Nat.le_refl _, rfl⟩), (by (conv => whnf); exact ⟨Nat.le_refl _, rfl⟩), (by (conv => whnf); exact ⟨Nat.le_refl _, rfl⟩), trivial⟩ ?_
  conv => whnf
  refine ⟨⟨rfl, rfl⟩, ?_⟩
  conv => whnf
  refine ⟨rfl, _, (l01Next_m hc (p ^ (L.length - 1)) (by constructor <;> omega) b x1 hx1), ?_⟩
  rintro hs_ms2 av x' t' hh_ms2 ⟨rfl, ⟨x2, hx2, rfl⟩, _, rfl, ⟨u, rfl, u0, u1, u2⟩⟩ _ _ _
  try dsimp only at hh_ms2
  conv => whnf
  refine Wgh.one (cx_ok []) 8 [13, 10, 6, 1, 0] (by rfl) (by kernel_rfl) (by kernel_rfl) (by kernel_rfl) (by rfl) (by kernel_rfl) ⟨(by (conv => whnf); exact ⟨Nat.le_refl _, rfl⟩), (by (conv => whnf); exact ⟨Nat.le_refl _, rfl⟩), (by (conv => whnf); exact ⟨Nat.le_refl _, rfl⟩), (by (conv => whnf); exact ⟨Nat.le_refl _, rfl⟩), (by (conv => whnf); exact ⟨Nat.le_refl _, rfl⟩), (by (conv => whnf); exact ⟨Nat.le_refl _, rfl⟩), trivial⟩ ?_
  conv => whnf
  refine callV rfl (l17Size_fn p none L hk) fun hs' hhs => ?_
  try dsimp only at hhs
  conv => whnf
  refine Wgh.one (cx_ok []) 9 [13, 10, 1, 0] (by rfl) (by kernel_rfl) (by kernel_rfl) (by kernel_rfl) (by rfl) (by kernel_rfl) ⟨(by (conv => whnf); exact ⟨Nat.le_refl _, rfl⟩), (by (conv => whnf); exact ⟨Nat.le_refl _, rfl⟩), (by (conv => whnf); exact ⟨Nat.le_refl _, rfl⟩), (by (conv => whnf); exact ⟨Nat.le_refl _, rfl⟩), (by (conv => whnf); exact ⟨Nat.le_refl _, rfl⟩), trivial⟩ ?_
  conv => whnf
  refine ⟨⟨rfl, rfl⟩, ?_⟩
  conv => whnf
  refine ⟨rfl, _, (l01Next_m hc (p ^ (L.length - 1)) (by constructor <;> omega) b x2 hx2), ?_⟩
  rintro hs_ms3 av x' t' hh_ms3 ⟨rfl, ⟨x3, hx3, rfl⟩, _, rfl, ⟨v, rfl, v0, v1, v2⟩⟩ _ _ _
  try dsimp only at hh_ms3
  conv => whnf
  refine Wgh.one (cx_ok []) 11 [13, 1, 0] (by rfl) (by kernel_rfl) (by kernel_rfl) (by kernel_rfl) (by rfl) (by kernel_rfl) ⟨(by (conv => whnf); exact ⟨Nat.le_refl _, rfl⟩), (by (conv => whnf); exact ⟨Nat.le_refl _, rfl⟩), (by (conv => whnf); exact ⟨Nat.le_refl _, rfl⟩), (by (conv => whnf); exact ⟨Nat.le_refl _, rfl⟩), trivial⟩ ?_
  conv => whnf
  refine callV rfl (l17Size_fn p none L hk) fun hs' hhs => ?_
  try dsimp only at hhs
  conv => whnf
  refine Wgh.take (cx_ok []) 12 (by rfl) (fun d hd => by injection hd with hd; subst hd; decide) (by kernel_rfl) (by kernel_rfl) (by rfl) ?_
  conv => whnf
  refine ⟨oo, ?_⟩
  conv => whnf
  refine Wgh.one (cx_ok []) 14 [12, 1, 0] (by rfl) (by kernel_rfl) (by kernel_rfl) (by kernel_rfl) (by rfl) (by kernel_rfl) ⟨(by (conv => whnf); refine ⟨by constructor <;> omega, ?_⟩; (conv => whnf); exact ⟨Nat.le_refl _, rfl⟩), (by (conv => whnf); exact ⟨Nat.le_refl _, rfl⟩), (by (conv => whnf); exact ⟨Nat.le_refl _, rfl⟩), (by (conv => whnf); exact ⟨Nat.le_refl _, rfl⟩), trivial⟩ ?_
  conv => whnf
  refine callV rfl (l17Size_fn p none L hk) fun hs' hhs => ?_
  try dsimp only at hhs
  conv => whnf
  refine Wgh.one (cx_ok []) 15 [1, 0] (by rfl) (by kernel_rfl) (by kernel_rfl) (by kernel_rfl) (by rfl) (by kernel_rfl) ⟨(by (conv => whnf); refine ⟨by constructor <;> omega, ?_⟩; (conv => whnf); exact ⟨Nat.le_refl _, rfl⟩), (by (conv => whnf); exact ⟨Nat.le_refl _, rfl⟩), (by (conv => whnf); exact ⟨Nat.le_refl _, rfl⟩), trivial⟩ ?_
  conv => whnf
  refine ⟨⟨rfl, by decide⟩, ?_⟩
  conv => whnf
  intro b_7 hs_7 hh_7 hf_7
  try dsimp only at hh_7 hf_7
  conv => whnf
  refine Wgh.one (cx_ok []) 16 [0] (by rfl) (by kernel_rfl) (by kernel_rfl) (by kernel_rfl) (by rfl) (by kernel_rfl) ⟨(by (conv => whnf); exact ⟨Nat.le_refl _, rfl⟩), (by (conv => whnf); exact ⟨Nat.le_refl _, rfl⟩), trivial⟩ ?_
  conv => whnf
  refine ⟨⟨rfl, rfl⟩, ?_⟩
  conv => whnf
  refine ⟨rfl, _, (l01Pick_m hc none [u, v, 0, p ^ (L.length - 1) - 1, p ^ (L.length - 1), -1] ⟨(by show 1 ≤ 6; omega), (by show 6 ≤ 1000; omega)⟩ b x3 hx3), ?_⟩
  rintro hs_ms4 av x' t' hh_ms4 ⟨rfl, ⟨x4, hx4, rfl⟩, _, rfl, ⟨q, rfl, hq⟩⟩ _ _ _
  try dsimp only at hh_ms4
  conv => whnf
  refine Wgh.one (cx_ok []) 17 [] (by rfl) (by kernel_rfl) (by kernel_rfl) (by kernel_rfl) (by rfl) (by kernel_rfl) ⟨(by (conv => whnf); exact ⟨Nat.le_refl _, rfl⟩), trivial⟩ ?_
  conv => whnf
  refine ⟨s23, ?_⟩
  conv => whnf
  refine Wgh.one (cx_ok []) 18 [] (by rfl) (by kernel_rfl) (by kernel_rfl) (by kernel_rfl) (by rfl) (by kernel_rfl) trivial ?_
  conv => whnf
  refine Wgh.done (cx_ok []) (by rfl) (by kernel_rfl) (by kernel_rfl) (by kernel_rfl) trivial (hK _ ?_)
  clear hK K
  have hq2 : -1 ≤ q ∧ q ≤ 1000000 := by
   have a1 : u ≤ 1000000 := by by_cases hh : 1 < p ^ (L.length - 1); (have := u1 hh; omega); (have := u2 (by omega); omega)
   have a2 : v ≤ 1000000 := by by_cases hh : 1 < p ^ (L.length - 1); (have := v1 hh; omega); (have := v2 (by omega); omega)
   simp only [List.mem_cons, List.not_mem_nil, or_false] at hq
   omega
  refine W.ret ?_
  conv => whnf
  exact ⟨⟨trivial, trivial, trivial⟩, .v (.int .i64 q), ⟨rfl, rfl⟩, trivial, p, L, q, rfl, hp, hL, hq2⟩
 refine W.skip (hK1 _ ?_)
 clear hK1 K1
 refine wrs fun K hK => ?_
 conv => whnf
 refine ⟨s23, ?_⟩
 conv => whnf
 refine hK _ ?_
 clear hK K
 refine W.ret ?_
 conv => whnf
 exact ⟨⟨trivial, trivial, trivial⟩, .v (.int .i64 0), ⟨rfl, rfl⟩, trivial, p, L, 0, rfl, hp, hL, by omega, by omega⟩

open Go Go.RowKit Go.Proofs Poly
set_option maxRecDepth 100000
set_option maxHeartbeats 8000000

theorem RT.toV {f : Nat} {xs : List V} {l : List Int} {c : Int} (h : FnT Tryz.prog f xs (RT l c)) : FnV f xs (.tup [.ints none l, .int .i64 c]) :=
 FnT.toV h fun _ _ x tb hx => by
  obtain ⟨b, rfl, hb⟩ := hx
  refine ⟨_, rfl, rfl, fun j hj => ?_⟩
  match j, hj with
  | 0, _ => exact ⟨l, rfl, hb, rfl⟩
  | 1, _ => rfl
theorem has_l {p : Int} (hp : p ∈ primes) : letI := sp_of hp; ∀ f X : Poly p, dg X < dg f → dg f ≤ 10 → Has p f.l X.l := by
 letI := sp_of hp
 intro f X h1 h2
 have h3 : X.l.length < f.l.length := h1
 have h4 : f.l.length ≤ 10 := h2
 refine ⟨⟨decide_eq_true hp, by omega, fun j _ => by have := cf_bd X j; omega, ?_⟩, h1⟩
 by_cases h : X.l.length = 0
 ·exact .inl (by omega)
 ·exact .inr (X.ok.2 _ (by omega))
theorem code_zero {p : Int} {l : List Int} {n : Nat} {X : Nat → List Int} (hk : IsFld p l) (h : ∀ i, i < n → Has p l (X i)) : codeEl p l true n X = 0 := by
 unfold codeEl; rw [bP_true hk, bP_true h]; rfl


open Go Go.RowKit Go.ChangeShapes Go.WideShapes Go.ChangeAt Go.Proofs Go.Proofs.YtlmckocbhcpmdaaGreat

theorem fn_calls {P : Program} {f : Nat} {xs : List V} {r : V} {w : World} {vs : Array Value} (h : Fn P f xs (fun _ _ a => a = .v r)) (hl : vs.size = xs.length)
  (hr : ∀ j, j < xs.length → Rep (okAll w) w.heap (xs.getD j .nil) (vs.getD j undef)) :
  Calls P f vs w fun e w' => ∃ v, e = .returned v ∧ Below w.heap.size w w' ∧ Rep (okR (fun _ => False) w'.heap.size) w'.heap r v := by
 refine (h.2 (fun _ => False) w vs (fun _ h => h.elim) hl hr).mono fun e w' ⟨v, av, hi, h1, h2, h3, h4, h5⟩ => ?_
 subst h3
 obtain ⟨_, h6, _⟩ := h5
 refine ⟨v, h1, h4, ?_⟩
 exact Rep.mono h6 fun g b hb => ⟨⟨hb.1, fun h => h.elim, hb.2.2⟩, rfl⟩

theorem ownP : ownKnob Tryz.prog.godebug = none := by kernel_rfl
theorem laidOutP : laidOutB Tryz.prog = true := by kernel_rfl
open Go Go.RowKit Go.ChangeShapes Go.WideShapes Go.ChangeAt Go.Proofs Go.Proofs.YtlmckocbhcpmdaaGreat

section
variable {H : Type} {enc : TypeId × Value → H} {P : Program} {w : World}
def TyU8 (xs : List V) : Prop := ∃ n : Int, xs = [.int .u8 n] ∧ 0 ≤ n ∧ n ≤ 255
theorem wf_u8 {n : Int} (h : (Lit.int .u8 n).wf = true) : 0 ≤ n ∧ n ≤ 255 := by
 simp only [Lit.wf, Bool.and_eq_true, decide_eq_true_eq] at h
 have h1 : IntKind.u8.min = 0 := rfl
 have h2 : IntKind.u8.max = 255 := rfl
 omega
theorem reads_u8 {t : TypeId} (ht : P.underlying t = some (.int .u8)) : Reads enc P w t 1 TyU8 := by
 intro fuel cs d ps h
 obtain ⟨n, hc, hx, hw⟩ := DataW.trod_int ht h
 subst hc
 refine ⟨rfl, _, ⟨n, rfl, wf_u8 hw⟩, rfl, by simp [V.isCell], fun j hj => ?_⟩
 obtain rfl : j = 0 := by omega
 exact .int _ _
theorem bytes_of {xs : List V} (h : TyVals 1 mkHead TyU8 xs) : ∃ (n : Nat) (c : Nat → Int), (∀ i, 0 ≤ c i ∧ c i ≤ 255) ∧ xs.length = 1 ∧ ∀ ok h' v, Rep ok h' (xs.getD 0 .nil) v → Rep ok h' (vBy n c) v := by
 obtain ⟨n, f, rfl, _, hf⟩ := h
 have hf2 : ∀ i, ∃ z : Int, (0 ≤ z ∧ z ≤ 255) ∧ (i < n → f i = .int .u8 z) := by
  intro i
  by_cases hi : i < n
  ·obtain ⟨ys, ⟨z, rfl, hz⟩, e⟩ := hf i hi
   exact ⟨z, hz, fun _ => e⟩
  ·exact ⟨0, by omega, fun h => absurd h hi⟩
 refine ⟨n, fun i => Classical.choose (hf2 i), fun i => (Classical.choose_spec (hf2 i)).1, rfl, fun ok h' v r => leV_sound (x := .vals none 1 n f) ⟨rfl, rfl, rfl, fun i hi => (Classical.choose_spec (hf2 i)).2 hi⟩ r⟩
end
theorem fn_trueB {P : Program} {f : Nat} {xs : List V} {w : World} {vs : Array Value} (h : Fn P f xs (fun _ _ a => a = .v (.bool true))) (hl : vs.size = xs.length)
  (hr : ∀ j, j < xs.length → Rep (okAll w) w.heap (xs.getD j .nil) (vs.getD j undef)) :
  Calls P f vs w fun e w' => e = .returned (.bool true) ∧ Below w.heap.size w w' :=
 (fn_calls h hl hr).mono fun e w' ⟨v, h1, h2, h3⟩ => by
  cases h3
  exact ⟨h1, h2⟩
theorem cellsU8 : Tryz.prog.cellsOf 5 = 1 := by kernel_rfl
theorem readsBytes {H : Type} {enc : TypeId × Value → H} {W : World} : Reads enc Tryz.prog W 22 1 (TyVals 1 mkHead TyU8) :=
 reads_slice Tryz.underlying22 cellsU8 (fun xs h1 h2 => mk_head xs h1 h2) (reads_u8 Tryz.underlying5)

open Go Go.RowKit Go.ChangeShapes Go.WideShapes Go.ChangeAt Go.Proofs Go.Proofs.YtlmckocbhcpmdaaGreat
set_option maxRecDepth 100000

def signs : List Char := [104, 97, 114, 110, 101, 115, 115, 32, 48, 57, 56, 100, 53, 97, 99, 53, 56, 52, 54, 50, 51, 98, 100, 54, 52, 56, 97, 51, 53, 53, 49, 100, 101, 98, 98, 54, 102, 54, 101, 101, 55, 55, 53, 52, 97, 52, 102, 97, 55, 50, 97, 54, 56, 54, 52, 48, 101, 56, 97, 48, 50, 50, 48, 55, 51, 54, 97, 56, 50, 51, 53, 49, 32, 99, 117, 116, 32, 97, 116, 32, 108, 111, 111, 112, 46, 101, 120, 97, 109, 112, 108, 101, 47, 103, 48, 49, 48, 48, 48, 47, 108, 97, 119, 115, 46, 70, 110, 69, 108, 101, 109, 101, 110, 116, 115, 32, 108, 111, 111, 112, 46, 101, 120, 97, 109, 112, 108, 101, 47, 103, 48, 49, 48, 48, 48, 47, 108, 97, 119, 115, 46, 70, 110, 78, 117, 109, 98, 101, 114, 101, 100, 32, 108, 111, 111, 112, 46, 101, 120, 97, 109, 112, 108, 101, 47, 103, 48, 49, 48, 48, 48, 47, 108, 97, 119, 115, 46, 70, 110, 68, 101, 103, 114, 101, 101, 115, 32, 108, 111, 111, 112, 46, 101, 120, 97, 109, 112, 108, 101, 47, 103, 48, 49, 48, 48, 48, 47, 108, 97, 119, 115, 46, 70, 110, 77, 105, 110, 105, 109, 97, 108, 32, 108, 111, 111, 112, 46, 101, 120, 97, 109, 112, 108, 101, 47, 103, 48, 49, 48, 48, 48, 47, 108, 97, 119, 115, 46, 70, 110, 77, 111, 100, 117, 108, 97, 114, 70, 97, 99, 116, 111, 114, 115, 32, 108, 111, 111, 112, 46, 101, 120, 97, 109, 112, 108, 101, 47, 103, 48, 49, 48, 48, 48, 47, 108, 97, 119, 115, 46, 70, 110, 76, 111, 103, 115, 32, 108, 111, 111, 112, 46, 101, 120, 97, 109, 112, 108, 101, 47, 103, 48, 49, 48, 48, 48, 47, 108, 97, 119, 115, 46, 70, 110, 80, 114, 105, 109, 105, 116, 105, 118, 101, 32, 108, 111, 111, 112, 46, 101, 120, 97, 109, 112, 108, 101, 47, 103, 48, 49, 48, 48, 48, 47, 108, 97, 119, 115, 46, 70, 110, 76, 105, 102, 116, 101, 100, 70, 97, 99, 116, 111, 114, 115, 32, 108, 111, 111, 112, 46, 101, 120, 97, 109, 112, 108, 101, 47, 103, 48, 49, 48, 48, 48, 47, 108, 97, 119, 115, 46, 70, 110, 69, 120, 116, 101, 110, 115, 105, 111, 110, 115, 32, 108, 111, 111, 112, 46, 101, 120, 97, 109, 112, 108, 101, 47, 103, 48, 49, 48, 48, 48, 47, 108, 97, 119, 115, 46, 70, 110, 85, 110, 105, 116, 115, 32, 108, 111, 111, 112, 46, 101, 120, 97, 109, 112, 108, 101, 47, 103, 48, 49, 48, 48, 48, 47, 108, 97, 119, 115, 46, 70, 110, 82, 101, 115, 105, 100, 117, 97, 108, 70, 97, 99, 116, 111, 114, 115, 32, 108, 111, 111, 112, 46, 101, 120, 97, 109, 112, 108, 101, 47, 103, 48, 49, 48, 48, 48, 47, 108, 97, 119, 115, 46, 70, 110, 69, 120, 97, 99, 116, 83, 112, 108, 105, 116, 116, 105, 110, 103, 115, 79, 102].map Char.ofNat
def word1 : List Char := [99, 117, 116].map Char.ofNat
def words : List (List Char) := [[97, 116], [108, 111, 111, 112, 46, 101, 120, 97, 109, 112, 108, 101, 47, 103, 48, 49, 48, 48, 48, 47, 108, 97, 119, 115, 46, 70, 110, 69, 108, 101, 109, 101, 110, 116, 115], [108, 111, 111, 112, 46, 101, 120, 97, 109, 112, 108, 101, 47, 103, 48, 49, 48, 48, 48, 47, 108, 97, 119, 115, 46, 70, 110, 78, 117, 109, 98, 101, 114, 101, 100], [108, 111, 111, 112, 46, 101, 120, 97, 109, 112, 108, 101, 47, 103, 48, 49, 48, 48, 48, 47, 108, 97, 119, 115, 46, 70, 110, 68, 101, 103, 114, 101, 101, 115], [108, 111, 111, 112, 46, 101, 120, 97, 109, 112, 108, 101, 47, 103, 48, 49, 48, 48, 48, 47, 108, 97, 119, 115, 46, 70, 110, 77, 105, 110, 105, 109, 97, 108], [108, 111, 111, 112, 46, 101, 120, 97, 109, 112, 108, 101, 47, 103, 48, 49, 48, 48, 48, 47, 108, 97, 119, 115, 46, 70, 110, 77, 111, 100, 117, 108, 97, 114, 70, 97, 99, 116, 111, 114, 115], [108, 111, 111, 112, 46, 101, 120, 97, 109, 112, 108, 101, 47, 103, 48, 49, 48, 48, 48, 47, 108, 97, 119, 115, 46, 70, 110, 76, 111, 103, 115], [108, 111, 111, 112, 46, 101, 120, 97, 109, 112, 108, 101, 47, 103, 48, 49, 48, 48, 48, 47, 108, 97, 119, 115, 46, 70, 110, 80, 114, 105, 109, 105, 116, 105, 118, 101], [108, 111, 111, 112, 46, 101, 120, 97, 109, 112, 108, 101, 47, 103, 48, 49, 48, 48, 48, 47, 108, 97, 119, 115, 46, 70, 110, 76, 105, 102, 116, 101, 100, 70, 97, 99, 116, 111, 114, 115], [108, 111, 111, 112, 46, 101, 120, 97, 109, 112, 108, 101, 47, 103, 48, 49, 48, 48, 48, 47, 108, 97, 119, 115, 46, 70, 110, 69, 120, 116, 101, 110, 115, 105, 111, 110, 115], [108, 111, 111, 112, 46, 101, 120, 97, 109, 112, 108, 101, 47, 103, 48, 49, 48, 48, 48, 47, 108, 97, 119, 115, 46, 70, 110, 85, 110, 105, 116, 115], [108, 111, 111, 112, 46, 101, 120, 97, 109, 112, 108, 101, 47, 103, 48, 49, 48, 48, 48, 47, 108, 97, 119, 115, 46, 70, 110, 82, 101, 115, 105, 100, 117, 97, 108, 70, 97, 99, 116, 111, 114, 115], [108, 111, 111, 112, 46, 101, 120, 97, 109, 112, 108, 101, 47, 103, 48, 49, 48, 48, 48, 47, 108, 97, 119, 115, 46, 70, 110, 69, 120, 97, 99, 116, 83, 112, 108, 105, 116, 116, 105, 110, 103, 115, 79, 102]].map fun w => w.map Char.ofNat
theorem initS : Tryz.checked.prog.initOrder = String.ofList signs := by kernel_rfl
theorem initW : behindMainWord (wordsSigns Tryz.checked.prog.initOrder.toList) = word1 :: words := by rw [initS, String.toList_ofList]; kernel_rfl
theorem mayEnter_of {P : Program} {c : List Char} {rest : List (List Char)} (h0 : behindMainWord (wordsSigns P.initOrder.toList) = c :: rest) (h1 : (stripLifts liftWords (c :: rest)) = ([], c :: rest)) (h2 : (c == "cut".toList) = true)
  (h3 : P.laysLater = false) (h4 : P.bearsReflect = false) (h5 : P.doorFits [] = true) : P.mayEnter = true := by
 unfold Program.mayEnter
 rw [h0]
 have e : (some c == some "cut".toList) = true := h2
 refine (Bool.or_eq_true _ _).mpr (.inr ?_)
 rw [h1, h3, h4, h5]
 show ((some c == some "cut".toList) && _ && _ && _ && _) = true
 rw [e]
 rfl
theorem lifts0 : stripLifts liftWords (word1 :: words) = ([], word1 :: words) := by kernel_rfl
theorem enterP : Tryz.checked.prog.mayEnter = true := mayEnter_of initW lifts0 (by kernel_rfl) (by kernel_rfl) (by kernel_rfl) (by kernel_rfl)
theorem headLifts_of {P : Program} {c : List Char} {rest : List (List Char)} (h0 : behindMainWord (wordsSigns P.initOrder.toList) = c :: rest) (h1 : stripLifts liftWords (c :: rest) = ([], c :: rest)) : P.headLifts = [] := by
 unfold Program.headLifts
 rw [h0, h1]
 dsimp only
 split <;> rfl
theorem liftsFinal_of {P : Program} {c : List Char} {rest : List (List Char)} (h0 : behindMainWord (wordsSigns P.initOrder.toList) = c :: rest) (hh : P.headLifts = []) (h2 : (c == "carried".toList) = false) : P.liftsFinal = false := by
 have e : (some c == some "carried".toList) = false := h2
 unfold Program.liftsFinal
 rw [h0, hh]
 show (((some c == some "carried".toList) && _) || _) = false
 rw [e]
 rfl
theorem make_of {P : Program} {c : List Char} {rest : List (List Char)} (h0 : behindMainWord (wordsSigns P.initOrder.toList) = c :: rest) (h1 : (c == "gc".toList) = false) (h2 : (c == "spec".toList) = false) (h3 : (c == "cut".toList) = true) : P.make = some .cut := by
 unfold Program.make
 rw [h0]
 dsimp only
 rw [h1, h2, h3]
 rfl
theorem headP : Tryz.checked.prog.headLifts = [] := headLifts_of initW lifts0
theorem liftP : Tryz.checked.prog.liftsFinal = false := liftsFinal_of initW headP (by kernel_rfl)
theorem makeP : Tryz.checked.prog.make = some .cut := make_of initW (by kernel_rfl) (by kernel_rfl) (by kernel_rfl)

end Go.Proofs.YtlmckocbhcpmdaaGreat
