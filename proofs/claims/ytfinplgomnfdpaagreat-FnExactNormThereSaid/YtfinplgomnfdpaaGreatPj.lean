/- What the program's functions and the reference's return. No conditions. -/
import Derived.Test.YtfinplgomnfdpaaGreatPi
import Derived.Test.YtfinplgomnfdpaaGreatRows
namespace Go.Proofs.YtfinplgomnfdpaaGreat
open Go Go.RowKit Go.Proofs Poly
set_option maxRecDepth 100000
set_option maxHeartbeats 8000000

abbrev vR (p k : Int) : V := .agg [.int .i64 p, .int .i64 k]
abbrev vE (p k : Int) (g : Option Nat) (l : List Int) : V := .agg [.int .i64 p, .int .i64 k, .ints g l]

theorem toRing_V (p k : Int) : FnV 102 [vR p k] (vR p k) := by
 refine fn_of (cx_ok [0, 1, 2, 3]) Tryz.func102 rfl (by decide) Tryz.ntmps102 (Nat.le_of_ble_eq_true rfl) fun base => ?_
 refine W.rs (cx_ok _) (by rfl) fun K hK => ?_
 conv => whnf
 refine ⟨rfl, ?_⟩
 conv => whnf
 intro b_1 hs_1 hh_1 hf_1
 try dsimp only at hh_1 hf_1
 conv => whnf
 intro b_2 hs_2 hh_2 hf_2
 try dsimp only at hh_2 hf_2
 conv => whnf
 refine hK _ ?_
 clear hK K
 refine W.rs (cx_ok _) (by rfl) fun K hK => ?_
 conv => whnf
 intro b_3 hs_3 hh_3 hf_3
 try dsimp only at hh_3 hf_3
 conv => whnf
 refine hK _ ?_
 clear hK K
 refine W.rs (cx_ok _) (by rfl) fun K hK => ?_
 conv => whnf
 refine ⟨⟨(by show 0 + 1 ≤ 2; omega), rfl⟩, ?_⟩
 conv => whnf
 refine hK _ ?_
 clear hK K
 refine W.rs (cx_ok _) (by rfl) fun K hK => ?_
 conv => whnf
 refine ⟨⟨(by show 1 + 1 ≤ 2; omega), rfl⟩, ?_⟩
 conv => whnf
 refine hK _ ?_
 clear hK K
 refine W.rs (cx_ok _) (by rfl) fun K hK => ?_
 conv => whnf
 refine ⟨⟨(by show 2 ≤ 2; omega), rfl⟩, ?_⟩
 conv => whnf
 refine hK _ ?_
 clear hK K
 refine W.ret ?_
 conv => whnf
 exact ⟨⟨trivial, trivial, trivial⟩, rfl⟩
theorem eqRing_same (p k : Int) : FnV 105 [vR p k, vR p k] .tr := by
 refine fn_of (cx_ok [0, 1, 2, 3, 4, 9, 14]) Tryz.func105 rfl (by decide) Tryz.ntmps105 (Nat.le_of_ble_eq_true rfl) fun base => ?_
 refine W.rs (cx_ok _) (by rfl) fun K hK => ?_
 conv => whnf
 refine ⟨rfl, ?_⟩
 conv => whnf
 intro b_1 hs_1 hh_1 hf_1
 try dsimp only at hh_1 hf_1
 conv => whnf
 refine ⟨rfl, ?_⟩
 conv => whnf
 intro b_2 hs_2 hh_2 hf_2
 try dsimp only at hh_2 hf_2
 conv => whnf
 refine hK _ ?_
 clear hK K
 refine W.seqK fun K1 hK1 => ?_
 refine W.rs (cx_ok _) (by rfl) fun K hK => ?_
 conv => whnf
 refine hK _ (W.cond ⟨fun hcc => absurd rfl (of_decide_eq_true hcc), fun _ => W.skip (hK1 _ ?_)⟩)
 clear hK K hK1 K1
 refine W.seqK fun K1 hK1 => ?_
 refine W.rs (cx_ok _) (by rfl) fun K hK => ?_
 conv => whnf
 refine hK _ (W.cond ⟨fun hcc => absurd rfl (of_decide_eq_true hcc), fun _ => W.skip (hK1 _ ?_)⟩)
 clear hK K hK1 K1
 refine W.rs (cx_ok _) (by rfl) fun K hK => ?_
 conv => whnf
 refine hK _ ?_
 clear hK K
 refine W.ret ?_
 conv => whnf
 exact ⟨.v (.tr), rfl, trivial, rfl⟩
theorem szExtension_fn (p k : Int) (l : List Int) (hl : l.length ≤ maxLen) : FnV 40 [vE p k none l, .int .i64 1048576] (.int .i64 (szL l.length)) := by
 refine fn_of (cx_ok [0, 1, 2, 4, 10]) Tryz.func40 rfl (by decide) Tryz.ntmps40 (Nat.le_of_ble_eq_true rfl) fun base => ?_
 refine W.rs (cx_ok _) (by rfl) fun K hK => ?_
 conv => whnf
 refine ⟨rfl, ?_⟩
 conv => whnf
 intro b_1 hs_1 hh_1 hf_1
 try dsimp only at hh_1 hf_1
 conv => whnf
 refine hK _ ?_
 clear hK K
 refine W.rs (cx_ok _) (by rfl) fun K hK => ?_
 conv => whnf
 refine callV rfl (szInts_fn l hl) fun hs' hhs => ?_
 try dsimp only at hhs
 conv => whnf
 refine hK _ ?_
 clear hK K
 refine W.seqK fun K1 hK1 => ?_
 refine W.rs (cx_ok _) (by rfl) fun K hK => ?_
 conv => whnf
 refine hK _ (W.cond ⟨fun h => ?_, fun h => ?_⟩) <;> clear hK K
 ·have h : szL l.length < 0 := of_decide_eq_true h
  have e : szL l.length = -1 := by unfold szL at h ⊢; split at h <;> simp_all <;> omega
  refine W.rs (cx_ok _) (by rfl) fun K hK => ?_
  conv => whnf
  refine hK _ ?_
  clear hK K
  refine W.ret ?_
  conv => whnf
  exact ⟨.v (.int .i64 (szL l.length)), ⟨rfl, e.symm⟩, trivial, rfl⟩
 refine W.skip (hK1 _ ?_)
 clear hK1 K1
 refine W.rs (cx_ok _) (by rfl) fun K hK => ?_
 conv => whnf
 refine hK _ ?_
 clear hK K
 refine W.ret ?_
 conv => whnf
 exact ⟨.v (.int .i64 (szL l.length)), ⟨rfl, rfl⟩, trivial, rfl⟩
theorem toExtension_V (p k : Int) (l : List Int) (hl : l.length ≤ 1000000000) : FnV 42 [vE p k none l] (vE p k none l) := by
 refine fn_of (cx_ok [0, 1, 2, 3]) Tryz.func42 rfl (by decide) Tryz.ntmps42 (Nat.le_of_ble_eq_true rfl) fun base => ?_
 refine W.rs (cx_ok _) (by rfl) fun K hK => ?_
 conv => whnf
 refine ⟨rfl, ?_⟩
 conv => whnf
 intro b_1 hs_1 hh_1 hf_1
 try dsimp only at hh_1 hf_1
 conv => whnf
 intro b_2 hs_2 hh_2 hf_2
 try dsimp only at hh_2 hf_2
 conv => whnf
 refine hK _ ?_
 clear hK K
 refine W.rs (cx_ok _) (by rfl) fun K hK => ?_
 conv => whnf
 intro b_3 hs_3 hh_3 hf_3
 try dsimp only at hh_3 hf_3
 conv => whnf
 refine hK _ ?_
 clear hK K
 refine W.rs (cx_ok _) (by rfl) fun K hK => ?_
 conv => whnf
 refine ⟨by show 0 + 2 ≤ 3; omega, ?_⟩
 conv => whnf
 refine callV rfl (toRing_V p k) fun hs' hhs => ?_
 try dsimp only at hhs
 conv => whnf
 refine ⟨⟨(by show 0 + 2 ≤ 3; omega), rfl⟩, ?_⟩
 conv => whnf
 refine hK _ ?_
 clear hK K
 refine W.rs (cx_ok _) (by rfl) fun K hK => ?_
 conv => whnf
 refine callI rfl (toInts_fn none l (by omega)) fun hs_4 b_4 hh_4 hf_4 => ?_
 try dsimp only at hh_4 hf_4
 conv => whnf
 refine ⟨⟨(by show 2 + 1 ≤ 3; omega), rfl⟩, ?_⟩
 conv => whnf
 refine hK _ ?_
 clear hK K
 refine W.rs (cx_ok _) (by rfl) fun K hK => ?_
 conv => whnf
 refine ⟨⟨(by show 3 ≤ 3; omega), rfl⟩, ?_⟩
 conv => whnf
 refine hK _ ?_
 clear hK K
 refine W.ret ?_
 conv => whnf
 exact ⟨⟨trivial, trivial, trivial, trivial⟩, rfl⟩
theorem toExtension_T (p k : Int) (l : List Int) (hl : l.length ≤ 1000000000) : FnT Tryz.prog 42 [vE p k none l] (fun _ _ x tb => ∃ b : Nat, x = .agg [.int .i64 p, .int .i64 k, .rf b l.length] ∧ (l ≠ [] → tb b = some l)) := by
 refine fnt_of (cxt_ok [] [0, 1, 2, 3, 1000000]) Tryz.func42 rfl (by decide) Tryz.ntmps42 (Nat.le_of_ble_eq_true rfl) (fun base => ?_) (Nat.le_of_ble_eq_true rfl)
 refine W.rs (cxt_ok _ _) (by rfl) fun K hK => ?_
 conv => whnf
 refine ⟨rfl, ?_⟩
 conv => whnf
 intro b_1 hs_1 hh_1 hf_1
 try dsimp only at hh_1 hf_1
 conv => whnf
 intro b_2 hs_2 hh_2 hf_2
 try dsimp only at hh_2 hf_2
 conv => whnf
 refine hK _ ?_
 clear hK K
 refine W.rs (cxt_ok _ _) (by rfl) fun K hK => ?_
 conv => whnf
 intro b_3 hs_3 hh_3 hf_3
 try dsimp only at hh_3 hf_3
 conv => whnf
 refine hK _ ?_
 clear hK K
 refine W.rs (cxt_ok _ _) (by rfl) fun K hK => ?_
 conv => whnf
 refine ⟨by show 0 + 2 ≤ 3; omega, ?_⟩
 conv => whnf
 refine callV rfl (toRing_V p k) fun hs' hhs => ?_
 try dsimp only at hhs
 conv => whnf
 refine ⟨⟨(by show 0 + 2 ≤ 3; omega), rfl⟩, ?_⟩
 conv => whnf
 refine hK _ ?_
 clear hK K
 refine W.rs (cxt_ok _ _) (by rfl) fun K hK => ?_
 conv => whnf
 refine callI rfl (toInts_fn none l (by omega)) fun hs_4 b_4 hh_4 hf_4 => ?_
 try dsimp only at hh_4 hf_4
 conv => whnf
 refine ⟨⟨(by show 2 + 1 ≤ 3; omega), rfl⟩, ?_⟩
 conv => whnf
 refine hK _ ?_
 clear hK K
 refine W.rs (cxt_ok _ _) (by rfl) fun K hK => ?_
 conv => whnf
 refine ⟨⟨(by show 3 ≤ 3; omega), rfl⟩, ?_⟩
 conv => whnf
 refine hK _ ?_
 clear hK K
 refine W.ret ?_
 conv => whnf
 exact ⟨⟨trivial, trivial, trivial, trivial⟩, b_4, rfl, fun h => tbAdd_self _ _ h⟩
theorem eqExtension_same (p k : Int) (g g' : Option Nat) (l : List Int) (hl : l.length ≤ 1000000000) : FnV 44 [vE p k g l, vE p k g' l] .tr := by
 refine fn_of (cx_ok [0, 1, 2, 3, 4, 10, 16]) Tryz.func44 rfl (by decide) Tryz.ntmps44 (Nat.le_of_ble_eq_true rfl) fun base => ?_
 refine W.rs (cx_ok _) (by rfl) fun K hK => ?_
 conv => whnf
 refine ⟨rfl, ?_⟩
 conv => whnf
 intro b_1 hs_1 hh_1 hf_1
 try dsimp only at hh_1 hf_1
 conv => whnf
 refine ⟨rfl, ?_⟩
 conv => whnf
 intro b_2 hs_2 hh_2 hf_2
 try dsimp only at hh_2 hf_2
 conv => whnf
 refine hK _ ?_
 clear hK K
 refine W.seqK fun K1 hK1 => ?_
 refine W.rs (cx_ok _) (by rfl) fun K hK => ?_
 conv => whnf
 refine ⟨by show 0 + 2 ≤ 3; omega, ?_⟩
 conv => whnf
 refine ⟨by show 0 + 2 ≤ 3; omega, ?_⟩
 conv => whnf
 refine callV rfl (eqRing_same p k) fun hs' hhs => ?_
 try dsimp only at hhs
 conv => whnf
 refine hK _ (W.condF rfl (W.skip (hK1 _ ?_)))
 clear hK K hK1 K1
 refine W.seqK fun K1 hK1 => ?_
 refine W.rs (cx_ok _) (by rfl) fun K hK => ?_
 conv => whnf
 refine callV rfl (eqInts_same _ _ l (by omega)) fun hs' hhs => ?_
 try dsimp only at hhs
 conv => whnf
 refine hK _ (W.condF rfl (W.skip (hK1 _ ?_)))
 clear hK K hK1 K1
 refine W.rs (cx_ok _) (by rfl) fun K hK => ?_
 conv => whnf
 refine hK _ ?_
 clear hK K
 refine W.ret ?_
 conv => whnf
 exact ⟨.v (.tr), rfl, trivial, rfl⟩
theorem markExtension_fn (p q : Int) (b n : Nat) (k : Nat) (hk : k ≤ 1000000000000) (hl : n ≤ 1000000000) (tb : Tab) (hb : n ≠ 0 → ∃ xs : List Int, xs.length = n ∧ tb b = some xs) :
  MFn Tryz.prog 45 [.nil, .int .i64 k] 0 (.v (.agg [.int .i64 p, .int .i64 q, .rf b n])) (.tab tb) (fun _ av x' t' => av = .v (.int .i64 ((k + n : Nat) : Int)) ∧ x' = .v (.agg [.int .i64 p, .int .i64 q, .rf b n]) ∧ ∃ tb', t' = .tab tb' ∧ (n ≠ 0 → tb' b = some (marks k n)) ∧ ∀ c, (n = 0 ∨ c ≠ b) → tb' c = tb c) := by
 refine mfn_of (cx := cx [0, 1, 2, 4, 1000000, 1000001]) Tryz.func45 rfl (by decide) Tryz.ntmps45 (Nat.le_of_ble_eq_true rfl) (Nat.le_of_ble_eq_true rfl) rfl rfl fun base hs0 O U hw v0 hb0 => ?_
 refine W.rs (cx_ok _) (by rfl) fun K hK => ?_
 conv => whnf
 refine ⟨rfl, ?_⟩
 conv => whnf
 intro b_1 hs_1 hh_1 hf_1
 try dsimp only at hh_1 hf_1
 conv => whnf
 refine hK _ ?_
 clear hK K
 refine W.rs (cx_ok _) (by rfl) fun K hK => ?_
 conv => whnf
 refine ⟨⟨rfl, rfl⟩, ?_⟩
 conv => whnf
 refine ⟨rfl, _, markRf_fn b n k hk hl tb hb, ?_⟩
 rintro hs5 av x' t' hh5 ⟨rfl, rfl, tb', rfl, hb', ho'⟩ _ _ _
 try dsimp only at hh5
 conv => whnf
 refine hK _ ?_
 clear hK K
 refine W.rs (cx_ok _) (by rfl) fun K hK => ?_
 conv => whnf
 refine hK _ ?_
 clear hK K
 refine W.ret ?_
 conv => whnf
 refine ⟨by dsimp only; omega, ?_⟩
 conv => whnf
 exact ⟨rfl, .v (.int .i64 ((k + n : Nat) : Int)), ⟨rfl, rfl⟩, rfl, trivial, .v (.agg [.int .i64 p, .int .i64 q, .rf b n]), rfl, .inr ⟨rfl, rfl⟩, .tab tb', fun _ _ h => h, rfl, rfl, rfl, rfl, tb', rfl, hb', ho'⟩

/- rings -/
def IsRg (p k : Int) : Prop := isP p = true ∧ 1 ≤ k ∧ p ^ k.toNat ≤ 1000000000
theorem pow_mono {p : Int} (hp : 1 ≤ p) {a b : Nat} (h : a ≤ b) : p ^ a ≤ p ^ b := by
 obtain ⟨q, rfl⟩ : ∃ q : Nat, p = q := ⟨p.toNat, by omega⟩
 have h1 : q ^ a ≤ q ^ b := Nat.pow_le_pow_right (by omega) h
 rw [← Int.natCast_pow, ← Int.natCast_pow]; omega
theorem pow_pos' {p : Int} (hp : 1 ≤ p) (a : Nat) : 1 ≤ p ^ a := by
 have := pow_mono hp (Nat.zero_le a)
 rwa [Int.pow_zero] at this
theorem pow_30 {p : Int} (hp : 2 ≤ p) {a : Nat} (h : p ^ a ≤ 1000000000) : a < 30 := by
 refine Nat.lt_of_not_le fun h1 => ?_
 obtain ⟨q, rfl⟩ : ∃ q : Nat, p = q := ⟨p.toNat, by omega⟩
 have h2 := pow_mono (p := (q : Int)) (by omega) h1
 have h3 : 2 ^ 30 ≤ q ^ 30 := Nat.pow_le_pow_left (by omega) 30
 rw [← Int.natCast_pow] at h2
 omega
theorem IsRg.small {p k : Int} (h : IsRg p k) : 2 ≤ p ∧ p ≤ 97 ∧ 1 ≤ k ∧ k < 30 ∧ 2 ≤ p ^ k.toNat ∧ p ^ k.toNat ≤ 1000000000 := by
 have h1 := isP_le h.1
 have h2 := pow_30 (by omega) h.2.2
 have h3 := pow_mono (p := p) (by omega) (a := 1) (b := k.toNat) (by have := h.2.1; omega)
 rw [Int.pow_one] at h3
 have := h.2.1
 have := h.2.2
 omega

theorem isRing_fn (p k : Int) : FnV 178 [vR p k] (.bool (bP (IsRg p k))) := by
 refine fn_of (cx_ok [0, 1, 2, 3, 12, 15, 16, 17, 23]) Tryz.func178 rfl (by decide) Tryz.ntmps178 (Nat.le_of_ble_eq_true rfl) fun base => ?_
 refine W.rs (cx_ok _) (by rfl) fun K hK => ?_
 conv => whnf
 refine ⟨rfl, ?_⟩
 conv => whnf
 intro b_1 hs_1 hh_1 hf_1
 try dsimp only at hh_1 hf_1
 conv => whnf
 refine hK _ ?_
 clear hK K
 refine W.seqK fun K1 hK1 => ?_
 refine W.rs (cx_ok _) (by rfl) fun K hK => ?_
 conv => whnf
 refine callV rfl (isSmallPrime_fn p) fun hs' hhs => ?_
 try dsimp only at hhs
 conv => whnf
 refine ⟨fun h => ?_, fun h => ?_⟩ <;> conv => whnf
 ·have h : isP p = false := by simpa using h
  refine hK _ (W.condT rfl ?_)
  clear hK K
  refine W.rs (cx_ok _) (by rfl) fun K hK => ?_
  conv => whnf
  refine hK _ ?_
  clear hK K
  refine W.ret ?_
  conv => whnf
  exact ⟨.v (.bool (bP (IsRg p k))), (bP_false fun h' => by rw [h'.1] at h; cases h), trivial, rfl⟩
 have h : isP p = true := by simpa using h
 have hp := isP_le h
 refine hK _ (W.cond ⟨fun h1 => ?_, fun h1 => ?_⟩) <;> clear hK K
 ·have h1 := of_decide_eq_true h1
  refine W.rs (cx_ok _) (by rfl) fun K hK => ?_
  conv => whnf
  refine hK _ ?_
  clear hK K
  refine W.ret ?_
  conv => whnf
  exact ⟨.v (.bool (bP (IsRg p k))), bP_false fun h' => by have := h'.2.1; omega, trivial, rfl⟩
 have h1 := of_decide_eq_false h1
 refine W.skip (hK1 _ ?_)
 clear hK1 K1
 refine W.rs (cx_ok _) (by rfl) fun K hK => ?_
 conv => whnf
 refine hK _ ?_
 clear hK K
 refine W.seqK fun K1 hK1 => ?_
 refine W.rs (cx_ok _) (by rfl) fun K hK => ?_
 conv => whnf
 refine hK _ (W.block (W.invA (fun m e => ∃ j : Nat, (j : Int) ≤ min k 40 ∧ p ^ j ≤ 1000000000 ∧ m = 40 - j ∧ e = [(1, .ownB b_1 (vR p k)), (3, .v (.int .i64 (p ^ j))), (15, .v (.int .i64 (min k 40))), (16, .v (.int .i64 j))]) ⟨0, by omega, by rw [Int.pow_zero]; omega, rfl, by rw [Int.pow_zero] <;> rfl⟩ ?_))
 clear hK K
 rintro m e ⟨j, hj, hpj, hm, rfl⟩
 have hpos := pow_pos' (p := p) (by omega) j
 have hs : p ^ (j + 1) = p ^ j * p := Int.pow_succ ..
 have hb : 0 ≤ p ^ j * p ∧ p ^ j * p ≤ 1000000000 * 97 := ⟨Int.mul_nonneg (by omega) (by omega), Int.mul_le_mul hpj (by omega) (by omega) (by omega)⟩
 refine W.rs (cx_ok _) (by rfl) fun K hK => ?_
 conv => whnf
 refine hK _ ?_
 clear hK K
 refine W.seqK fun K7 hK7 => W.cond ⟨fun h2 => ?_, fun h2 => ?_⟩ <;> (first | replace h2 := of_decide_eq_true h2 | replace h2 := of_decide_eq_false h2)
 ·refine W.skip (hK7 _ ?_)
  clear hK7 K7
  refine W.seqK fun K8 hK8 => W.block ?_
  refine W.rs (cx_ok _) (by rfl) fun K hK => ?_
  conv => whnf
  refine ⟨by constructor <;> omega, ?_⟩
  conv => whnf
  refine hK _ ?_
  clear hK K
  refine W.rs (cx_ok _) (by rfl) fun K hK => ?_
  conv => whnf
  refine hK _ (W.cond ⟨fun h3 => ?_, fun h3 => ?_⟩) <;> clear hK K
  ·have h3 : 1000000000 < p ^ j * p := of_decide_eq_true h3
   have h4 := pow_mono (p := p) (by omega) (a := j + 1) (b := k.toNat) (by omega)
   refine W.rs (cx_ok _) (by rfl) fun K hK => ?_
   conv => whnf
   refine hK _ ?_
   clear hK K
   refine W.ret ?_
   conv => whnf
   exact ⟨.v (.bool (bP (IsRg p k))), bP_false fun h' => by have := h'.2.2; omega, trivial, rfl⟩
  ·have h3 : ¬ 1000000000 < p ^ j * p := of_decide_eq_false h3
   refine W.skip (hK8 _ ?_)
   clear hK8 K8
   refine W.region (cx_ok _) (by rfl) ?_
   conv => whnf
   refine ⟨by constructor <;> omega, ?_⟩
   conv => whnf
   refine ⟨_, _, ⟨j + 1, by omega, by omega, rfl, rfl⟩, by omega, by dsimp only; omega, ?_⟩
   rw [hs]
   repeat' first | refine And.intro ?_ ?_ | exact trivial | rfl | omega | exact .inl rfl | exact fun _ _ => rfl | exact fun _ _ h => h | assumption | exact fun i hi => (by obtain rfl : i = 0 := (by omega); rfl)
 ·have h4 := pow_30 (by omega) hpj
  have h5 : k.toNat = j := by omega
  refine W.exit (hK1 _ ?_)
  clear hK7 K7 hK1 K1
  refine W.rs (cx_ok _) (by rfl) fun K hK => ?_
  conv => whnf
  refine hK _ ?_
  clear hK K
  refine W.ret ?_
  conv => whnf
  exact ⟨.v (.bool (bP (IsRg p k))), bP_true ⟨h, by omega, by rw [h5]; exact hpj⟩, trivial, rfl⟩

def modS (p : Int) (n : Nat) : Int := if p ^ n ≤ 1000000000 then p ^ n else 0
theorem l02Modulus_fn (p : Int) (n : Nat) (h2 : 2 ≤ p) (h97 : p ≤ 97) (hn : n ≤ 1000000) : FnV 165 [.int .i64 p, .int .i64 n] (.int .i64 (modS p n)) := by
 refine fn_of (cx_ok [0, 1, 4, 5, 7, 14]) Tryz.func165 rfl (by decide) Tryz.ntmps165 (Nat.le_of_ble_eq_true rfl) fun base => ?_
 refine W.rs (cx_ok _) (by rfl) fun K hK => ?_
 conv => whnf
 refine hK _ ?_
 clear hK K
 refine W.rs (cx_ok _) (by rfl) fun K hK => ?_
 conv => whnf
 refine hK _ ?_
 clear hK K
 refine W.seqK fun K1 hK1 => W.block (W.invA (fun m e => ∃ k : Nat, k ≤ n ∧ p ^ k ≤ 1000000000 ∧ m = n - k ∧ e = [(0, .v (.int .i64 p)), (1, .v (.int .i64 ((n - k : Nat) : Int))), (5, .v (.int .i64 (p ^ k)))]) ⟨0, Nat.zero_le _, by rw [Int.pow_zero]; omega, rfl, by rw [Int.pow_zero] <;> rfl⟩ ?_)
 rintro m e ⟨k, h1, h3, hm, rfl⟩
 have hpos := pow_pos' (p := p) (by omega) k
 have hs : p ^ (k + 1) = p ^ k * p := Int.pow_succ ..
 have hb : 0 ≤ p ^ k * p ∧ p ^ k * p ≤ 1000000000 * 97 := ⟨Int.mul_nonneg (by omega) (by omega), Int.mul_le_mul h3 (by omega) (by omega) (by omega)⟩
 refine W.seqK fun K7 hK7 => W.rs (cx_ok _) (by rfl) fun K hK => ?_
 conv => whnf
 refine hK _ (W.cond ⟨fun h5 => ?_, fun h5 => ?_⟩) <;> clear hK K <;> (first | replace h5 := of_decide_eq_true h5 | replace h5 := of_decide_eq_false h5)
 ·refine W.skip (hK7 _ ?_)
  clear hK7 K7
  refine W.seqK fun K8 hK8 => W.block ?_
  refine W.rs (cx_ok _) (by rfl) fun K hK => ?_
  conv => whnf
  refine ⟨by constructor <;> omega, ?_⟩
  conv => whnf
  refine hK _ ?_
  clear hK K
  refine W.rs (cx_ok _) (by rfl) fun K hK => ?_
  conv => whnf
  refine hK _ (W.cond ⟨fun h6 => ?_, fun h6 => ?_⟩) <;> clear hK K
  ·have h6 : 1000000000 < p ^ k * p := of_decide_eq_true h6
   have h7 := pow_mono (p := p) (by omega) (a := k + 1) (b := n) (by omega)
   refine W.rs (cx_ok _) (by rfl) fun K hK => ?_
   conv => whnf
   refine hK _ ?_
   clear hK K
   refine W.ret ?_
   conv => whnf
   exact ⟨.v (.int .i64 (modS p n)), ⟨rfl, by unfold modS; rw [if_neg (by omega)]⟩, trivial, rfl⟩
  ·have h6 : ¬ 1000000000 < p ^ k * p := of_decide_eq_false h6
   refine W.skip (hK8 _ ?_)
   clear hK8 K8
   refine W.region (cx_ok _) (by rfl) ?_
   conv => whnf
   refine ⟨by constructor <;> omega, ?_⟩
   conv => whnf
   refine ⟨_, _, ⟨k + 1, by omega, by omega, rfl, rfl⟩, by omega, by dsimp only; omega, ?_⟩
   rw [hs]
   repeat' first | refine And.intro ?_ ?_ | exact trivial | rfl | omega | exact .inl rfl | exact fun _ _ => rfl | exact fun _ _ h => h | assumption | exact fun i hi => (by obtain rfl : i = 0 := (by omega); rfl)
 ·obtain rfl : k = n := by omega
  refine W.exit (hK1 _ ?_)
  clear hK7 K7 hK1 K1
  refine W.rs (cx_ok _) (by rfl) fun K hK => ?_
  conv => whnf
  refine hK _ ?_
  clear hK K
  refine W.ret ?_
  conv => whnf
  exact ⟨.v (.int .i64 (modS p k)), ⟨rfl, by unfold modS; rw [if_pos h3]⟩, trivial, rfl⟩

theorem isRingS_fn (p k : Int) : FnV 177 [vR p k] (.bool (bP (IsRg p k))) := by
 by_cases h : isP p = true
 case neg =>
  refine fn_of (cx_ok [0, 1, 2]) Tryz.func177 rfl (by decide) Tryz.ntmps177 (Nat.le_of_ble_eq_true rfl) fun base => ?_
  refine W.rs (cx_ok _) (by rfl) fun K hK => ?_
  conv => whnf
  refine ⟨rfl, ?_⟩
  conv => whnf
  intro b_1 hs_1 hh_1 hf_1
  try dsimp only at hh_1 hf_1
  conv => whnf
  refine hK _ ?_
  clear hK K
  refine W.rs (cx_ok _) (by rfl) fun K hK => ?_
  conv => whnf
  refine callV rfl (l01Small_fn p) fun hs' hhs => ?_
  try dsimp only at hhs
  conv => whnf
  refine ⟨fun h1 => ?_, fun h1 => ?_⟩ <;> conv => whnf
  ·exact absurd h1 h
  refine hK _ ?_
  clear hK K
  refine W.ret ?_
  conv => whnf
  exact ⟨.v (.bool (bP (IsRg p k))), bP_false fun h' => h h'.1, trivial, rfl⟩
 have hp := isP_le h
 by_cases hk : 1 ≤ k ∧ k ≤ 40
 case neg =>
  have hn : ¬ IsRg p k := fun h' => by have := h'.small; omega
  refine fn_of (cx_ok [0, 1, 2]) Tryz.func177 rfl (by decide) Tryz.ntmps177 (Nat.le_of_ble_eq_true rfl) fun base => ?_
  refine W.rs (cx_ok _) (by rfl) fun K hK => ?_
  conv => whnf
  refine ⟨rfl, ?_⟩
  conv => whnf
  intro b_1 hs_1 hh_1 hf_1
  try dsimp only at hh_1 hf_1
  conv => whnf
  refine hK _ ?_
  clear hK K
  refine W.rs (cx_ok _) (by rfl) fun K hK => ?_
  conv => whnf
  refine callV rfl (l01Small_fn p) fun hs' hhs => ?_
  try dsimp only at hhs
  conv => whnf
  refine ⟨fun h1 => ?_, fun h1 => ?_⟩ <;> conv => whnf
  ·refine callV rfl ((l01In_fn k 1 40).fa (decide_eq_false hk)) fun hs' hhs => ?_
   try dsimp only at hhs
   conv => whnf
   refine hK _ ?_
   clear hK K
   refine W.ret ?_
   conv => whnf
   exact ⟨.v (.bool (bP (IsRg p k))), bP_false hn, trivial, rfl⟩
  ·exact absurd h (by rw [h1]; decide)
 obtain ⟨n, rfl⟩ : ∃ n : Nat, k = n := ⟨k.toNat, by omega⟩
 have hpos := pow_pos' (p := p) (by omega) n
 have e1 : decide (0 < modS p n) = bP (IsRg p n) := by
  unfold modS
  by_cases h3 : p ^ n ≤ 1000000000
  ·rw [if_pos h3, bP_true ⟨h, hk.1, by rw [Int.toNat_natCast]; exact h3⟩]; exact decide_eq_true (by omega)
  ·rw [if_neg h3, bP_false fun h' => h3 (by have := h'.2.2; rwa [Int.toNat_natCast] at this)]; decide
 refine fn_of (cx_ok [0, 1, 2]) Tryz.func177 rfl (by decide) Tryz.ntmps177 (Nat.le_of_ble_eq_true rfl) fun base => ?_
 refine W.rs (cx_ok _) (by rfl) fun K hK => ?_
 conv => whnf
 refine ⟨rfl, ?_⟩
 conv => whnf
 intro b_1 hs_1 hh_1 hf_1
 try dsimp only at hh_1 hf_1
 conv => whnf
 refine hK _ ?_
 clear hK K
 refine W.rs (cx_ok _) (by rfl) fun K hK => ?_
 conv => whnf
 refine callV rfl (l01Small_fn p) fun hs' hhs => ?_
 try dsimp only at hhs
 conv => whnf
 refine ⟨fun h1 => ?_, fun h1 => ?_⟩ <;> conv => whnf
 ·refine callV rfl ((l01In_fn (n : Nat) 1 40).tr (decide_eq_true hk)) fun hs' hhs => ?_
  try dsimp only at hhs
  conv => whnf
  refine callV rfl (l02Modulus_fn p n (by omega) (by omega) (by omega)) fun hs' hhs => ?_
  try dsimp only at hhs
  conv => whnf
  refine hK _ ?_
  clear hK K
  refine W.ret ?_
  conv => whnf
  exact ⟨.v (.bool (bP (IsRg p n))), e1, trivial, rfl⟩
 ·exact absurd h (by rw [h1]; decide)

theorem ringMod_fn (p k : Int) (h : IsRg p k) : FnV 123 [vR p k] (.int .i64 (p ^ k.toNat)) := by
 obtain ⟨h1, h2, h3, h4, h5, h6⟩ := h.small
 obtain ⟨n, rfl⟩ : ∃ n : Nat, k = n := ⟨k.toNat, by omega⟩
 rw [Int.toNat_natCast] at *
 refine fn_of (cx_ok [0, 1, 2]) Tryz.func123 rfl (by decide) Tryz.ntmps123 (Nat.le_of_ble_eq_true rfl) fun base => ?_
 refine W.rs (cx_ok _) (by rfl) fun K hK => ?_
 conv => whnf
 refine ⟨rfl, ?_⟩
 conv => whnf
 intro b_1 hs_1 hh_1 hf_1
 try dsimp only at hh_1 hf_1
 conv => whnf
 refine hK _ ?_
 clear hK K
 refine W.rs (cx_ok _) (by rfl) fun K hK => ?_
 conv => whnf
 refine callV rfl (power_fn p n (fun j hj => by have := pow_mono (p := p) (by omega) hj; have := pow_pos' (p := p) (by omega) j; constructor <;> omega) (by omega)) fun hs' hhs => ?_
 try dsimp only at hhs
 conv => whnf
 refine hK _ ?_
 clear hK K
 refine W.ret ?_
 conv => whnf
 exact ⟨.v (.int .i64 (p ^ n)), ⟨rfl, rfl⟩, trivial, rfl⟩
theorem has_ring_fn (p k c : Int) (h : IsRg p k) : FnV 180 [vR p k, .int .i64 c] (.bool (decide (0 ≤ c ∧ c ≤ p ^ k.toNat - 1))) := by
 obtain ⟨h1, h2, h3, h4, h5, h6⟩ := h.small
 refine fn_of (cx_ok [0, 1, 2, 4]) Tryz.func180 rfl (by decide) Tryz.ntmps180 (Nat.le_of_ble_eq_true rfl) fun base => ?_
 refine W.rs (cx_ok _) (by rfl) fun K hK => ?_
 conv => whnf
 refine ⟨rfl, ?_⟩
 conv => whnf
 intro b_1 hs_1 hh_1 hf_1
 try dsimp only at hh_1 hf_1
 conv => whnf
 refine hK _ ?_
 clear hK K
 refine W.rs (cx_ok _) (by rfl) fun K hK => ?_
 conv => whnf
 refine callV rfl (ringMod_fn p k h) fun hs' hhs => ?_
 try dsimp only at hhs
 conv => whnf
 refine ⟨by constructor <;> omega, ?_⟩
 conv => whnf
 refine callV rfl (within_fn _ _ _) fun hs' hhs => ?_
 try dsimp only at hhs
 conv => whnf
 refine hK _ ?_
 clear hK K
 refine W.ret ?_
 conv => whnf
 exact ⟨.v (.bool (decide (0 ≤ c ∧ c ≤ p ^ k.toNat - 1))), rfl, trivial, rfl⟩
theorem ringC_fn (p k c : Int) (g : Option Nat) (h : IsRg p k) : FnV 179 [.int .i64 c, .box g (vR p k)] (.bool (!(decide (0 ≤ c ∧ c ≤ p ^ k.toNat - 1)))) := by
 refine fn_of (cx_ok [0, 1, 3]) Tryz.func179 rfl (by decide) Tryz.ntmps179 (Nat.le_of_ble_eq_true rfl) fun base => ?_
 refine W.rs (cx_ok _) (by rfl) fun K hK => ?_
 conv => whnf
 refine hK _ ?_
 clear hK K
 refine W.rs (cx_ok _) (by rfl) fun K hK => ?_
 conv => whnf
 refine callV rfl (has_ring_fn p k c h) fun hs' hhs => ?_
 try dsimp only at hhs
 conv => whnf
 refine hK _ ?_
 clear hK K
 refine W.ret ?_
 conv => whnf
 exact ⟨.v (.bool (!(decide (0 ≤ c ∧ c ≤ p ^ k.toNat - 1)))), rfl, trivial, rfl⟩

def IsRn (p k : Int) (xs : List Int) : Prop := IsRg p k ∧ xs.length ≤ 9 ∧ AllR 0 (p ^ k.toNat - 1) xs ∧ LastN xs

theorem isInRing_fn (p k : Int) (g : Option Nat) (xs : List Int) (hl : xs.length ≤ 1000000000) : FnV 155 [vR p k, .ints g xs] (.bool (bP (IsRn p k xs))) := by
 by_cases hr : IsRg p k
 case neg =>
  refine fn_of (cx_ok [0, 1, 2, 4, 17]) Tryz.func155 rfl (by decide) Tryz.ntmps155 (Nat.le_of_ble_eq_true rfl) fun base => ?_
  refine W.rs (cx_ok _) (by rfl) fun K hK => ?_
  conv => whnf
  refine ⟨rfl, ?_⟩
  conv => whnf
  intro b_1 hs_1 hh_1 hf_1
  try dsimp only at hh_1 hf_1
  conv => whnf
  refine hK _ ?_
  clear hK K
  refine W.seqK fun K1 hK1 => ?_
  refine W.rs (cx_ok _) (by rfl) fun K hK => ?_
  conv => whnf
  refine callV rfl ((isRing_fn p k).fa (bP_false hr)) fun hs' hhs => ?_
  try dsimp only at hhs
  conv => whnf
  refine hK _ (W.condT rfl ?_)
  clear hK K
  refine W.rs (cx_ok _) (by rfl) fun K hK => ?_
  conv => whnf
  refine hK _ ?_
  clear hK K
  refine W.ret ?_
  conv => whnf
  exact ⟨.v (.bool (bP (IsRn p k xs))), bP_false fun h => hr h.1, trivial, rfl⟩
 have hs := hr.small
 refine fn_of (cx_ok [0, 1, 2, 4, 17]) Tryz.func155 rfl (by decide) Tryz.ntmps155 (Nat.le_of_ble_eq_true rfl) fun base => ?_
 refine W.rs (cx_ok _) (by rfl) fun K hK => ?_
 conv => whnf
 refine ⟨rfl, ?_⟩
 conv => whnf
 intro b_1 hs_1 hh_1 hf_1
 try dsimp only at hh_1 hf_1
 conv => whnf
 refine hK _ ?_
 clear hK K
 refine W.seqK fun K1 hK1 => ?_
 refine W.rs (cx_ok _) (by rfl) fun K hK => ?_
 conv => whnf
 refine callV rfl ((isRing_fn p k).tr (bP_true hr)) fun hs' hhs => ?_
 try dsimp only at hhs
 conv => whnf
 refine ⟨fun h0 => ?_, fun h0 => ?_⟩ <;> conv => whnf
 ·have h0 := of_decide_eq_true h0
  refine hK _ (W.condT rfl ?_)
  clear hK K
  refine W.rs (cx_ok _) (by rfl) fun K hK => ?_
  conv => whnf
  refine hK _ ?_
  clear hK K
  refine W.ret ?_
  conv => whnf
  exact ⟨.v (.bool (bP (IsRn p k xs))), bP_false fun h => by have := h.2.1; omega, trivial, rfl⟩
 have h0 := of_decide_eq_false h0
 refine callV rfl (containsFunc_fn g xs 179 [.box none (vR p k)] (fun i => !(decide (0 ≤ cf xs i ∧ cf xs i ≤ p ^ k.toNat - 1))) (by omega) (fun i hi => ringC_fn p k _ none hr)) fun hs' hhs => ?_
 try dsimp only at hhs
 conv => whnf
 refine hK _ (W.cond ⟨fun h1 => ?_, fun h1 => ?_⟩) <;> clear hK K
 ·have h1 := not_all.1 (bP_iff.1 h1)
  refine W.rs (cx_ok _) (by rfl) fun K hK => ?_
  conv => whnf
  refine hK _ ?_
  clear hK K
  refine W.ret ?_
  conv => whnf
  exact ⟨.v (.bool (bP (IsRn p k xs))), bP_false fun h => h1 h.2.2.1, trivial, rfl⟩
 have h1 : AllR 0 (p ^ k.toNat - 1) xs := Classical.byContradiction fun h' => bP_not h1 (not_all.2 h')
 refine W.skip (hK1 _ ?_)
 clear hK1 K1
 refine W.rs (cx_ok _) (by rfl) fun K hK => ?_
 conv => whnf
 refine ⟨fun h2 => ?_, fun h2 => ?_⟩ <;> conv => whnf
 ·have h2 := of_decide_eq_true h2
  refine hK _ ?_
  clear hK K
  refine W.ret ?_
  conv => whnf
  exact ⟨.v (.bool (bP (IsRn p k xs))), (by show bP _ = true; exact bP_true ⟨hr, by omega, h1, .inl (by omega)⟩), trivial, rfl⟩
 ·have h2 := of_decide_eq_false h2
  have e1 : ((xs.length : Int) - 1).toNat = xs.length - 1 := by omega
  refine ⟨⟨by omega, by omega⟩, ?_⟩
  conv => whnf
  refine ⟨⟨by omega, by omega⟩, ?_⟩
  conv => whnf
  rw [e1]
  refine hK _ ?_
  clear hK K
  refine W.ret ?_
  conv => whnf
  refine ⟨.v (.bool (bP (IsRn p k xs))), ?_, trivial, rfl⟩
  show decide (cf xs (xs.length - 1) ≠ 0) = bP (IsRn p k xs)
  by_cases hc : cf xs (xs.length - 1) ≠ 0
  ·rw [decide_eq_true hc, bP_true ⟨hr, by omega, h1, .inr hc⟩]
  ·rw [decide_eq_false hc, bP_false fun h => h.2.2.2.elim (fun h3 => h2 (by omega)) hc]

theorem isInRingS_fn (p k : Int) (g : Option Nat) (xs : List Int) (hl : xs.length ≤ 1000000000) : FnV 152 [vR p k, .ints g xs] (.bool (bP (IsRn p k xs))) := by
 by_cases hr : IsRg p k
 case neg =>
  refine fn_of (cx_ok [0, 1, 2, 4, 5, 6, 14, 23, 33]) Tryz.func152 rfl (by decide) Tryz.ntmps152 (Nat.le_of_ble_eq_true rfl) fun base => ?_
  refine W.rs (cx_ok _) (by rfl) fun K hK => ?_
  conv => whnf
  refine ⟨rfl, ?_⟩
  conv => whnf
  intro b_1 hs_1 hh_1 hf_1
  try dsimp only at hh_1 hf_1
  conv => whnf
  refine hK _ ?_
  clear hK K
  refine W.seqK fun K1 hK1 => ?_
  refine W.rs (cx_ok _) (by rfl) fun K hK => ?_
  conv => whnf
  refine callV rfl ((isRingS_fn p k).fa (bP_false hr)) fun hs' hhs => ?_
  try dsimp only at hhs
  conv => whnf
  refine hK _ (W.condT rfl ?_)
  clear hK K
  refine W.rs (cx_ok _) (by rfl) fun K hK => ?_
  conv => whnf
  refine hK _ ?_
  clear hK K
  refine W.ret ?_
  conv => whnf
  exact ⟨.v (.bool (bP (IsRn p k xs))), bP_false fun h => hr h.1, trivial, rfl⟩
 obtain ⟨s1, s2, s3, s4, s5, s6⟩ := hr.small
 obtain ⟨n, rfl⟩ : ∃ n : Nat, k = n := ⟨k.toNat, by omega⟩
 rw [Int.toNat_natCast] at s5 s6
 have hmS : modS p n = p ^ n := if_pos s6
 have hR : ∀ {a : Prop}, (IsRn p n xs ↔ IsRg p n ∧ xs.length ≤ 9 ∧ AllR 0 (p ^ n - 1) xs ∧ LastN xs) := fun {_} => by unfold IsRn; rw [Int.toNat_natCast]
 have hR := @hR True
 refine fn_of (cx_ok [0, 1, 2, 4, 5, 6, 14, 23, 33]) Tryz.func152 rfl (by decide) Tryz.ntmps152 (Nat.le_of_ble_eq_true rfl) fun base => ?_
 refine W.rs (cx_ok _) (by rfl) fun K hK => ?_
 conv => whnf
 refine ⟨rfl, ?_⟩
 conv => whnf
 intro b_1 hs_1 hh_1 hf_1
 try dsimp only at hh_1 hf_1
 conv => whnf
 refine hK _ ?_
 clear hK K
 refine W.seqK fun K1 hK1 => ?_
 refine W.rs (cx_ok _) (by rfl) fun K hK => ?_
 conv => whnf
 refine callV rfl ((isRingS_fn p n).tr (bP_true hr)) fun hs' hhs => ?_
 try dsimp only at hhs
 conv => whnf
 refine hK _ (W.cond ⟨fun h0 => ?_, fun h0 => ?_⟩) <;> clear hK K
 ·have h0 := of_decide_eq_true h0
  refine W.rs (cx_ok _) (by rfl) fun K hK => ?_
  conv => whnf
  refine hK _ ?_
  clear hK K
  refine W.ret ?_
  conv => whnf
  exact ⟨.v (.bool (bP (IsRn p n xs))), bP_false fun h => by have := h.2.1; omega, trivial, rfl⟩
 have h0 := of_decide_eq_false h0
 refine W.skip (hK1 _ ?_)
 clear hK1 K1
 refine W.rs (cx_ok _) (by rfl) fun K hK => ?_
 conv => whnf
 refine callV rfl (l02Modulus_fn p n (by omega) (by omega) (by omega)) fun hs' hhs => ?_
 try dsimp only at hhs
 conv => whnf
 rw [hmS]
 refine hK _ ?_
 clear hK K
 refine W.seqK fun K1 hK1 => ?_
 refine W.rs (cx_ok _) (by rfl) fun K hK => ?_
 conv => whnf
 refine hK _ (W.block (W.invA (fun m e => ∃ i : Nat, i ≤ xs.length ∧ (∀ j, j < i → 0 ≤ cf xs j ∧ cf xs j ≤ p ^ n - 1) ∧ m = xs.length - i ∧ e = [(1, .v (.ints g xs)), (5, .v (.int .i64 (p ^ n))), (6, .v (.int .i64 i))]) ⟨0, Nat.zero_le _, fun j hj => by omega, rfl, rfl⟩ ?_))
 clear hK K
 rintro m e ⟨i, hi, h1, hm, rfl⟩
 refine W.seqK fun K7 hK7 => W.rs (cx_ok _) (by rfl) fun K hK => ?_
 conv => whnf
 refine hK _ (W.cond ⟨fun h2 => ?_, fun h2 => ?_⟩) <;> clear hK K <;> (first | replace h2 := of_decide_eq_true h2 | replace h2 := of_decide_eq_false h2)
 ·refine W.skip (hK7 _ ?_)
  clear hK7 K7
  refine W.seqK fun K8 hK8 => W.block ?_
  refine W.rs (cx_ok _) (by rfl) fun K hK => ?_
  conv => whnf
  refine ⟨⟨by omega, by omega⟩, ?_⟩
  conv => whnf
  rw [Int.toNat_natCast]
  refine ⟨by constructor <;> omega, ?_⟩
  conv => whnf
  refine callV rfl (l01In_fn _ _ _) fun hs' hhs => ?_
  try dsimp only at hhs
  conv => whnf
  refine hK _ (W.cond ⟨fun h3 => ?_, fun h3 => ?_⟩) <;> clear hK K
  ·have h3 : ¬ (0 ≤ cf xs i ∧ cf xs i ≤ p ^ n - 1) := nd_true h3
   refine W.rs (cx_ok _) (by rfl) fun K hK => ?_
   conv => whnf
   refine hK _ ?_
   clear hK K
   refine W.ret ?_
   conv => whnf
   exact ⟨.v (.bool (bP (IsRn p n xs))), bP_false fun h => h3 ((hR.1 h).2.2.1 i (by omega)), trivial, rfl⟩
  ·have h3 : 0 ≤ cf xs i ∧ cf xs i ≤ p ^ n - 1 := nd_false h3
   refine W.skip (hK8 _ ?_)
   clear hK8 K8
   refine W.region (cx_ok _) (by rfl) ?_
   conv => whnf
   refine ⟨by constructor <;> omega, ?_⟩
   conv => whnf
   exact againA ⟨i + 1, by omega, fun j hj => by by_cases h9 : j = i; (subst h9; exact h3); exact h1 j (by omega), rfl, rfl⟩
 ·obtain rfl : i = xs.length := by omega
  have h1 : AllR 0 (p ^ n - 1) xs := h1
  refine W.exit (hK1 _ ?_)
  clear hK7 K7 hK1 K1
  refine W.rs (cx_ok _) (by rfl) fun K hK => ?_
  conv => whnf
  refine ⟨fun h2 => ?_, fun h2 => ?_⟩ <;> conv => whnf
  ·have h2 := of_decide_eq_true h2
   refine hK _ ?_
   clear hK K
   refine W.ret ?_
   conv => whnf
   exact ⟨.v (.bool (bP (IsRn p n xs))), (by show bP _ = true; exact bP_true (hR.2 ⟨hr, by omega, h1, .inl (by omega)⟩)), trivial, rfl⟩
  ·have h2 := of_decide_eq_false h2
   have e1 : ((xs.length : Int) - 1).toNat = xs.length - 1 := by omega
   refine ⟨⟨by omega, by omega⟩, ?_⟩
   conv => whnf
   refine ⟨⟨by omega, by omega⟩, ?_⟩
   conv => whnf
   rw [e1]
   refine hK _ ?_
   clear hK K
   refine W.ret ?_
   conv => whnf
   refine ⟨.v (.bool (bP (IsRn p n xs))), ?_, trivial, rfl⟩
   show decide (cf xs (xs.length - 1) ≠ 0) = bP (IsRn p n xs)
   by_cases hc : cf xs (xs.length - 1) ≠ 0
   ·rw [decide_eq_true hc, bP_true (hR.2 ⟨hr, by omega, h1, .inr hc⟩)]
   ·rw [decide_eq_false hc, bP_false fun h => (hR.1 h).2.2.2.elim (fun h3 => h2 (by omega)) hc]

/- extensions -/
theorem rn_bd {p k : Int} {l : List Int} (h : IsRn p k l) : Bd 1000000000 l := fun j => by
 have hs := h.1.small
 by_cases hj : j < l.length
 ·have := h.2.2.1 j hj; omega
 ·rw [cf_ge (by omega)]; omega
theorem field_fn (p k : Int) (g : Option Nat) (l : List Int) (h : IsRn p k l) : FnV 104 [vE p k g l] (vK p none (nrm p l)) := by
 have hs := h.1.small
 have h9 := h.2.1
 refine fn_of (cx_ok [0, 1, 2]) Tryz.func104 rfl (by decide) Tryz.ntmps104 (Nat.le_of_ble_eq_true rfl) fun base => ?_
 refine W.rs (cx_ok _) (by rfl) fun K hK => ?_
 conv => whnf
 refine ⟨rfl, ?_⟩
 conv => whnf
 intro b_1 hs_1 hh_1 hf_1
 try dsimp only at hh_1 hf_1
 conv => whnf
 intro b_2 hs_2 hh_2 hf_2
 try dsimp only at hh_2 hf_2
 conv => whnf
 refine hK _ ?_
 clear hK K
 refine W.rdS 9 (cx_ok _) follows (by rfl) fun K hK => ?_
 conv => whnf
 refine ⟨_, cxF ((reduce_fn p (by omega) (by omega) g l ((rn_bd h).le (by omega)) (by omega)).toV), ?_⟩
 conv => whnf
 refine ⟨⟨(by show 2 ≤ 2; omega), rfl⟩, ?_⟩
 conv => whnf
 refine hK _ ?_
 clear hK K
 refine W.ret ?_
 conv => whnf
 exact ⟨⟨trivial, trivial, trivial⟩, rfl⟩
theorem l20Field_fn (p k : Int) (g : Option Nat) (l : List Int) (h : IsRn p k l) : FnV 101 [vE p k g l] (vK p none (nrm p l)) := by
 have hs := h.1.small
 have h9 := h.2.1
 refine fn_of (cx_ok [0, 1, 2]) Tryz.func101 rfl (by decide) Tryz.ntmps101 (Nat.le_of_ble_eq_true rfl) fun base => ?_
 refine W.rs (cx_ok _) (by rfl) fun K hK => ?_
 conv => whnf
 refine ⟨rfl, ?_⟩
 conv => whnf
 intro b_1 hs_1 hh_1 hf_1
 try dsimp only at hh_1 hf_1
 conv => whnf
 intro b_2 hs_2 hh_2 hf_2
 try dsimp only at hh_2 hf_2
 conv => whnf
 refine hK _ ?_
 clear hK K
 refine W.rdS 9 (cx_ok _) follows (by rfl) fun K hK => ?_
 conv => whnf
 refine ⟨_, cxF ((l08Reduce_fn p (by omega) (by omega) g l ((rn_bd h).le (by omega)) (by omega)).toV), ?_⟩
 conv => whnf
 refine ⟨⟨(by show 2 ≤ 2; omega), rfl⟩, ?_⟩
 conv => whnf
 refine hK _ ?_
 clear hK K
 refine W.ret ?_
 conv => whnf
 exact ⟨⟨trivial, trivial, trivial⟩, rfl⟩

def IsEx (p k : Int) (l : List Int) : Prop := IsRn p k l ∧ IsMon l ∧ IsFld p (nrm p l)

theorem isExtension_fn (p k : Int) (g : Option Nat) (l : List Int) (hl : l.length ≤ 1000000000) : FnV 153 [vE p k g l] (.bool (bP (IsEx p k l))) := by
 by_cases h1 : IsRn p k l
 case neg =>
  refine fn_of (cx_ok [0, 1, 2]) Tryz.func153 rfl (by decide) Tryz.ntmps153 (Nat.le_of_ble_eq_true rfl) fun base => ?_
  refine W.rs (cx_ok _) (by rfl) fun K hK => ?_
  conv => whnf
  refine ⟨rfl, ?_⟩
  conv => whnf
  intro b_1 hs_1 hh_1 hf_1
  try dsimp only at hh_1 hf_1
  conv => whnf
  refine hK _ ?_
  clear hK K
  refine W.rs (cx_ok _) (by rfl) fun K hK => ?_
  conv => whnf
  refine ⟨by show 0 + 2 ≤ 3; omega, ?_⟩
  conv => whnf
  refine callV rfl ((isInRing_fn p k g l hl).fa (bP_false h1)) fun hs' hhs => ?_
  try dsimp only at hhs
  conv => whnf
  refine hK _ ?_
  clear hK K
  refine W.ret ?_
  conv => whnf
  exact ⟨.v (.bool (bP (IsEx p k l))), bP_false fun h => h1 h.1, trivial, rfl⟩
 by_cases h2 : IsMon l
 case neg =>
  refine fn_of (cx_ok [0, 1, 2]) Tryz.func153 rfl (by decide) Tryz.ntmps153 (Nat.le_of_ble_eq_true rfl) fun base => ?_
  refine W.rs (cx_ok _) (by rfl) fun K hK => ?_
  conv => whnf
  refine ⟨rfl, ?_⟩
  conv => whnf
  intro b_1 hs_1 hh_1 hf_1
  try dsimp only at hh_1 hf_1
  conv => whnf
  refine hK _ ?_
  clear hK K
  refine W.rs (cx_ok _) (by rfl) fun K hK => ?_
  conv => whnf
  refine ⟨by show 0 + 2 ≤ 3; omega, ?_⟩
  conv => whnf
  refine callV rfl ((isInRing_fn p k g l hl).tr (bP_true h1)) fun hs' hhs => ?_
  try dsimp only at hhs
  conv => whnf
  refine callV rfl ((isMonic_fn g l hl).fa (bP_false h2)) fun hs' hhs => ?_
  try dsimp only at hhs
  conv => whnf
  refine hK _ ?_
  clear hK K
  refine W.ret ?_
  conv => whnf
  exact ⟨.v (.bool (bP (IsEx p k l))), bP_false fun h => h2 h.2.1, trivial, rfl⟩
 have hnl : (nrm p l).length ≤ l.length := by
  have h3 := trimZ_length (l.map (· % p))
  rw [List.length_map] at h3; exact h3
 refine fn_of (cx_ok [0, 1, 2]) Tryz.func153 rfl (by decide) Tryz.ntmps153 (Nat.le_of_ble_eq_true rfl) fun base => ?_
 refine W.rs (cx_ok _) (by rfl) fun K hK => ?_
 conv => whnf
 refine ⟨rfl, ?_⟩
 conv => whnf
 intro b_1 hs_1 hh_1 hf_1
 try dsimp only at hh_1 hf_1
 conv => whnf
 refine hK _ ?_
 clear hK K
 refine W.rs (cx_ok _) (by rfl) fun K hK => ?_
 conv => whnf
 refine ⟨by show 0 + 2 ≤ 3; omega, ?_⟩
 conv => whnf
 refine callV rfl ((isInRing_fn p k g l hl).tr (bP_true h1)) fun hs' hhs => ?_
 try dsimp only at hhs
 conv => whnf
 refine callV rfl ((isMonic_fn g l hl).tr (bP_true h2)) fun hs' hhs => ?_
 try dsimp only at hhs
 conv => whnf
 refine callV rfl (field_fn p k g l h1) fun hs' hhs => ?_
 try dsimp only at hhs
 conv => whnf
 refine callV rfl (isField_fn p none (nrm p l) (by omega)) fun hs' hhs => ?_
 try dsimp only at hhs
 conv => whnf
 refine hK _ ?_
 clear hK K
 refine W.ret ?_
 conv => whnf
 exact ⟨.v (.bool (bP (IsEx p k l))), bP_congr ⟨fun h => ⟨h1, h2, h⟩, fun h => h.2.2⟩, trivial, rfl⟩
theorem isExtensionS_fn (p k : Int) (g : Option Nat) (l : List Int) (hl : l.length ≤ 1000000000) : FnV 100 [vE p k g l] (.bool (bP (IsEx p k l))) := by
 by_cases h1 : IsRn p k l
 case neg =>
  refine fn_of (cx_ok [0, 1, 2]) Tryz.func100 rfl (by decide) Tryz.ntmps100 (Nat.le_of_ble_eq_true rfl) fun base => ?_
  refine W.rs (cx_ok _) (by rfl) fun K hK => ?_
  conv => whnf
  refine ⟨rfl, ?_⟩
  conv => whnf
  intro b_1 hs_1 hh_1 hf_1
  try dsimp only at hh_1 hf_1
  conv => whnf
  refine hK _ ?_
  clear hK K
  refine W.rs (cx_ok _) (by rfl) fun K hK => ?_
  conv => whnf
  refine ⟨by show 0 + 2 ≤ 3; omega, ?_⟩
  conv => whnf
  refine callV rfl ((isInRingS_fn p k g l hl).fa (bP_false h1)) fun hs' hhs => ?_
  try dsimp only at hhs
  conv => whnf
  refine hK _ ?_
  clear hK K
  refine W.ret ?_
  conv => whnf
  exact ⟨.v (.bool (bP (IsEx p k l))), bP_false fun h => h1 h.1, trivial, rfl⟩
 by_cases h2 : IsMon l
 case neg =>
  refine fn_of (cx_ok [0, 1, 2]) Tryz.func100 rfl (by decide) Tryz.ntmps100 (Nat.le_of_ble_eq_true rfl) fun base => ?_
  refine W.rs (cx_ok _) (by rfl) fun K hK => ?_
  conv => whnf
  refine ⟨rfl, ?_⟩
  conv => whnf
  intro b_1 hs_1 hh_1 hf_1
  try dsimp only at hh_1 hf_1
  conv => whnf
  refine hK _ ?_
  clear hK K
  refine W.rs (cx_ok _) (by rfl) fun K hK => ?_
  conv => whnf
  refine ⟨by show 0 + 2 ≤ 3; omega, ?_⟩
  conv => whnf
  refine callV rfl ((isInRingS_fn p k g l hl).tr (bP_true h1)) fun hs' hhs => ?_
  try dsimp only at hhs
  conv => whnf
  refine callV rfl ((l12Monic_fn g l hl).fa (bP_false h2)) fun hs' hhs => ?_
  try dsimp only at hhs
  conv => whnf
  refine hK _ ?_
  clear hK K
  refine W.ret ?_
  conv => whnf
  exact ⟨.v (.bool (bP (IsEx p k l))), bP_false fun h => h2 h.2.1, trivial, rfl⟩
 have hnl : (nrm p l).length ≤ l.length := by
  have h3 := trimZ_length (l.map (· % p))
  rw [List.length_map] at h3; exact h3
 refine fn_of (cx_ok [0, 1, 2]) Tryz.func100 rfl (by decide) Tryz.ntmps100 (Nat.le_of_ble_eq_true rfl) fun base => ?_
 refine W.rs (cx_ok _) (by rfl) fun K hK => ?_
 conv => whnf
 refine ⟨rfl, ?_⟩
 conv => whnf
 intro b_1 hs_1 hh_1 hf_1
 try dsimp only at hh_1 hf_1
 conv => whnf
 refine hK _ ?_
 clear hK K
 refine W.rs (cx_ok _) (by rfl) fun K hK => ?_
 conv => whnf
 refine ⟨by show 0 + 2 ≤ 3; omega, ?_⟩
 conv => whnf
 refine callV rfl ((isInRingS_fn p k g l hl).tr (bP_true h1)) fun hs' hhs => ?_
 try dsimp only at hhs
 conv => whnf
 refine callV rfl ((l12Monic_fn g l hl).tr (bP_true h2)) fun hs' hhs => ?_
 try dsimp only at hhs
 conv => whnf
 refine callV rfl (l20Field_fn p k g l h1) fun hs' hhs => ?_
 try dsimp only at hhs
 conv => whnf
 refine callV rfl (isFieldS_fn p none (nrm p l) (by omega)) fun hs' hhs => ?_
 try dsimp only at hhs
 conv => whnf
 refine hK _ ?_
 clear hK K
 refine W.ret ?_
 conv => whnf
 exact ⟨.v (.bool (bP (IsEx p k l))), bP_congr ⟨fun h => ⟨h1, h2, h⟩, fun h => h.2.2⟩, trivial, rfl⟩

open Go Go.RowKit Go.Proofs Poly
set_option maxRecDepth 100000
set_option maxHeartbeats 8000000

theorem R1.V {f : Nat} {xs : List V} {l : List Int} (h : FnT Tryz.prog f xs (R1 l)) : FnV f xs (.ints none l) :=
 h.toV fun _ _ _ _ ⟨_, hx, hb⟩ => by subst hx; exact ⟨l, rfl, hb, rfl⟩

structure ExtP (p k M : Int) [SP p] [Pos M] (f : Poly M) (n : Nat) : Prop where
 rn : IsRn p k f.l
 hm : p ^ k.toNat = M
 mn : Mn f n
 n1 : 1 ≤ n
 n8 : n ≤ 8
 fld : IsFld p (im p f).l
 irr : Irr (im p f)
 pm : p ∣ M
 ple : p ≤ M
 m2 : 2 ≤ M
 m9 : M ≤ 1000000000

theorem rn_poly {p k M : Int} [Pos M] (hm : p ^ k.toNat = M) {x : List Int} (h : IsRn p k x) : ∃ X : Poly M, X.l = x := by
 refine ⟨⟨x, ⟨fun c hx => ?_, fun n hn => ?_⟩⟩, rfl⟩
 ·obtain ⟨i, hi, rfl⟩ := List.getElem_of_mem hx
  have h1 := h.2.2.1 i hi
  rw [cf_lt hi, hm] at h1; omega
 ·rcases h.2.2.2 with h0 | h0
  ·omega
  ·rw [hn] at h0; exact h0

theorem ex_poly {p k : Int} {l : List Int} (h : IsEx p k l) : ∃ hp : p ∈ primes, letI := sp_of hp; ∃ (M : Int) (_ : Pos M) (f : Poly M) (n : Nat), f.l = l ∧ ExtP p k M f n := by
 obtain ⟨hr, hmon, hf⟩ := h
 obtain ⟨s1, s2, s3, s4, s5, s6⟩ := hr.1.small
 have hp : p ∈ primes := of_decide_eq_true hr.1.1
 refine ⟨hp, ?_⟩
 letI := sp_of hp
 obtain ⟨M, hm⟩ : ∃ M, p ^ k.toNat = M := ⟨_, rfl⟩
 rw [hm] at s5 s6
 letI : Pos M := ⟨by omega⟩
 obtain ⟨f, rfl⟩ := rn_poly hm hr
 have hfl : f.l.length = dg f := rfl
 have h9 := hr.2.1
 have h2 := hf.two
 have hil : (im p f).l.length ≤ dg f := im_dg f
 have e1 : nrm p f.l = (im p f).l := rfl
 rw [e1] at h2 hf
 have h1 := hmon.1
 have hpk : ∃ j, k.toNat = j + 1 := ⟨k.toNat - 1, by omega⟩
 obtain ⟨j, hj⟩ := hpk
 have hpos := pow_pos' (p := p) (by omega) j
 refine ⟨M, ‹_›, f, dg f - 1, rfl, hr, hm, ⟨by omega, hmon.2⟩, by omega, by omega, hf, ?_, ⟨p ^ j, by rw [← hm, hj, Int.pow_succ, Int.mul_comm]⟩, ?_, s5, s6⟩
 ·obtain ⟨hp', f', hf', hi, _⟩ := fld_poly hf
  have e2 : f' = im p f := ext_l hf'
  rw [← e2]; exact hi
 ·have := pow_mono (p := p) (by omega) (a := 1) (b := k.toNat) (by omega)
  rw [Int.pow_one, hm] at this; exact this

section
variable {p k M : Int} [SP p] [Pos M] {f : Poly M} {n : Nat}

theorem r_bd (hm : M ≤ 1000000000) (X : Poly M) : Bd 999999999 X.l := fun j => by have := cf_rng X j; omega
theorem mulM_bd (hm : M ≤ 1000000000) (X Y : Poly M) (hX : dg X ≤ 8) : Bd 9223372036854775807 (trimZ (mulL X.l Y.l)) := by
 refine Bd.trim fun j => ?_
 rw [cf_mulL]
 have := cv_bd (A := 999999999) (B := 999999999) (by omega) (by omega) (n := dg X) (cf X.l) (cf Y.l) (r_bd hm X) (fun j hj => cf_dg hj) (r_bd hm Y) j
 have h2 : (dg X : Int) * (999999999 * 999999999) ≤ 8 * (999999999 * 999999999) := Int.mul_le_mul_of_nonneg_right (by omega) (by omega)
 omega

theorem ringMod_M {p M : Int} (h : IsRg p k) (hm : p ^ k.toNat = M) : FnV 123 [vR p k] (.int .i64 M) := (ringMod_fn p k h).mono (by rw [hm])
theorem timesIn_fn {p : Int} (h : IsRg p k) (hm : p ^ k.toNat = M) (m9 : M ≤ 1000000000) (g g' : Option Nat) (X Y : Poly M) (hX : dg X ≤ 8) (hY : dg Y ≤ 8) : FnI 160 [vR p k, .ints g X.l, .ints g' Y.l] (X * Y).l := by
 have hp := Pos.pos (p := M)
 have hXl : X.l.length = dg X := rfl
 have hYl : Y.l.length = dg Y := rfl
 have hml : (mulL X.l Y.l).length ≤ 2000 := by rw [mulL, mkL_length]; omega
 have hml2 := trimZ_length (mulL X.l Y.l)
 refine fn_of (cx_ok [0, 1, 2, 3, 6]) Tryz.func160 rfl (by decide) Tryz.ntmps160 (Nat.le_of_ble_eq_true rfl) fun base => ?_
 refine W.rs (cx_ok _) (by rfl) fun K hK => ?_
 conv => whnf
 refine ⟨rfl, ?_⟩
 conv => whnf
 intro b_1 hs_1 hh_1 hf_1
 try dsimp only at hh_1 hf_1
 conv => whnf
 refine hK _ ?_
 clear hK K
 refine W.rs (cx_ok _) (by rfl) fun K hK => ?_
 conv => whnf
 refine callV rfl (ringMod_M h hm) fun hs' hhs => ?_
 try dsimp only at hhs
 conv => whnf
 refine callI rfl (productOf_wide g g' X.l Y.l 999999999 999999999 (by omega) (by omega) (r_bd m9 X) (r_bd m9 Y) (by rw [hXl]; omega) (by omega) (by omega)) fun hs_2 b_2 hh_2 hf_2 => ?_
 try dsimp only at hh_2 hf_2
 conv => whnf
 refine callI rfl (reduce_wide M (by omega) (by omega) (some b_2) (trimZ (mulL X.l Y.l)) (mulM_bd m9 X Y hX) (by omega)) fun hs_3 b_3 hh_3 hf_3 => ?_
 try dsimp only at hh_3 hf_3
 conv => whnf
 refine hK _ ?_
 clear hK K
 refine W.ret ?_
 conv => whnf
 exact ⟨.ownI 2 _ ((X * Y).l), ⟨rfl, rfl, nrm_trim _ _⟩, trivial, _, rfl⟩

theorem mulR {a b : Int} (ha : 0 ≤ a ∧ a ≤ 999999999) (hb : 0 ≤ b ∧ b ≤ 999999999) : 0 ≤ a * b ∧ a * b ≤ 999999998000000001 :=
 ⟨Int.mul_nonneg ha.1 hb.1, by have := Int.mul_le_mul ha.2 hb.2 hb.1 (by omega : (0 : Int) ≤ 999999999); omega⟩

def RQ (q r : List Int) : PostT := fun _ _ x tb => ∃ b0 b1 : Nat, x = .tup [.rf b0 q.length, .rf b1 r.length, .int .i64 0] ∧ (q ≠ [] → tb b0 = some q) ∧ (r ≠ [] → tb b1 = some r)

theorem divideIn_T {p : Int} (h : IsRg p k) (hm : p ^ k.toNat = M) (m9 : M ≤ 1000000000) (g g' : Option Nat) (F G : Poly M) (hF : dg F ≤ 1000) (hGn : Mn G n) (hn9 : n ≤ 1000) : FnT Tryz.prog 159 [vR p k, .ints g F.l, .ints g' G.l] (RQ (qtM F G).l (rdM F G).l) := by
 have hp := Pos.pos (p := M)
 have hFl : F.l.length = dg F := rfl
 have hGl : G.l.length = dg G := rfl
 have hG1 := hGn.1
 have hmx : (max (0 : Int) ((dg F : Int) - dg G + 1)) = ((dg F + 1 - dg G : Nat) : Int) := by omega
 refine fnt_of (cxt_ok [] [0, 1, 2, 3, 6, 7, 8, 9, 10, 11, 12, 13, 28, 42, 43, 44, 45, 1000000]) Tryz.func159 rfl (by decide) Tryz.ntmps159 (Nat.le_of_ble_eq_true rfl) (fun base => ?_) (Nat.le_of_ble_eq_true rfl)
 refine W.sw (c' := cx [0, 1, 2, 3, 6, 7, 8, 9, 10, 11, 12, 13, 28, 42, 43, 44, 45, 1000000]) ?_
 refine W.rs (cx_ok _) (by rfl) fun K hK => ?_
 conv => whnf
 refine ⟨rfl, ?_⟩
 conv => whnf
 intro b_1 hs_1 hh_1 hf_1
 try dsimp only at hh_1 hf_1
 conv => whnf
 refine hK _ ?_
 clear hK K
 refine W.rs (cx_ok _) (by rfl) fun K hK => ?_
 conv => whnf
 refine callI rfl (clone_fn _ _ (by omega)) fun hs_0 b_0 hh_0 hf_0 => ?_
 try dsimp only at hh_0 hf_0
 conv => whnf
 refine hK _ ?_
 clear hK K
 refine W.rs (cx_ok _) (by rfl) fun K hK => ?_
 conv => whnf
 rw [hFl, hGl]
 refine ⟨by constructor <;> omega, ?_⟩
 conv => whnf
 refine ⟨by constructor <;> omega, ?_⟩
 conv => whnf
 rw [hmx]
 refine ⟨rfl, ?_⟩
 conv => whnf
 refine ⟨⟨by omega, by omega⟩, ?_⟩
 conv => whnf
 generalize hnq : dg F + 1 - dg G = nq
 rw [Int.toNat_natCast]
 intro b_q hs_q hh_q hf_q
 try dsimp only at hh_q hf_q
 conv => whnf
 refine hK _ ?_
 clear hK K
 refine W.seqK fun K1 hK1 => W.rs (cx_ok _) (by rfl) fun K hK => ?_
 conv => whnf
 rw [List.length_replicate]
 refine ⟨by constructor <;> omega, ?_⟩
 conv => whnf
 refine hK _ (W.block (W.invA (fun m e => ∃ (j b b' : Nat) (r q : List Int), j ≤ nq ∧ DivN M F G nq j r q ∧ m = j ∧ e = [(vt, .tab fun _ => none), (2, .v (.ints g' G.l)), (3, .ownB b_1 (vR p k)), (9, .ownI 2 b r), (10, .ownI 2 b' q), (11, .v (.int .i64 ((j : Int) - 1)))]) ⟨nq, b_0, b_q, F.l, List.replicate nq 0, Nat.le_refl _, DivN.start F G (by omega), rfl, rfl⟩ ?_))
 clear hK K
 rintro m e ⟨j', b, b', r, q, hk, hd, hme, rfl⟩
 refine W.seqK fun K7 hK7 => W.rs (cx_ok _) (by rfl) fun K hK => ?_
 conv => whnf
 refine hK _ (W.cond ⟨fun h5 => ?_, fun h5 => ?_⟩) <;> clear hK K <;> (first | replace h5 := of_decide_eq_true h5 | replace h5 := of_decide_eq_false h5)
 ·refine W.skip (hK7 _ ?_)
  clear hK7 K7
  refine W.seqK fun K8 hK8 => W.block ?_
  obtain ⟨j, rfl⟩ : ∃ j, j' = j + 1 := ⟨j' - 1, by omega⟩
  have hrl := hd.rl
  have hql := hd.ql
  have e1 : (((j + 1 : Nat) : Int) - 1) = j := by omega
  have e2 : ((j : Int) + dg G - 1).toNat = j + dg G - 1 := by omega
  rw [e1]
  have h1 := hd.rr (j + dg G - 1)
  generalize hc : cf r (j + dg G - 1) = c at h1
  have hc2 : r.getD (j + dg G - 1) 0 = c := hc
  refine W.rs (cx_ok _) (by rfl) fun K hK => ?_
  conv => whnf
  rw [hGl]
  refine ⟨by constructor <;> omega, ?_⟩
  conv => whnf
  refine ⟨by constructor <;> omega, ?_⟩
  conv => whnf
  refine ⟨⟨by omega, by omega⟩, ?_⟩
  conv => whnf
  rw [e2, hc2]
  refine ⟨⟨by omega, by omega⟩, ?_⟩
  conv => whnf
  rw [Int.toNat_natCast]
  refine hK _ ?_
  clear hK K
  refine W.rs (cx_ok _) (by rfl) fun K hK => ?_
  conv => whnf
  rw [hGl]
  refine hK _ (W.block (W.invE (fun m e => ∃ (i b : Nat) (o : List Int), i ≤ dg G ∧ o.length = dg F ∧ (∀ x, cf o x = if j ≤ x ∧ x < j + i then (cf r x - c * cf G.l (x - j)) % M else cf r x) ∧ m = dg G - i ∧ e = [(vt, .tab fun _ => none), (2, .v (.ints g' G.l)), (3, .ownB b_1 (vR p k)), (9, .ownI 2 b o), (10, .ownI 2 b' (q.set j c)), (11, .v (.int .i64 j)), (42, .v (.ints g' G.l)), (43, .v (.int .i64 (dg G))), (44, .v (.int .i64 i))]) _ _ ⟨0, b, r, Nat.zero_le _, hrl, fun x => by rw [if_neg (by omega)], rfl, rfl⟩ (by dsimp only; omega) (by repeat' first | refine And.intro ?_ ?_ | exact trivial | rfl | omega | assumption | exact fun _ _ h => h) ?_))
  clear hK K b
  rintro m' e ⟨i, b, o, h5, h6, h7, hm', rfl⟩
  refine W.rs (cx_ok _) (by rfl) fun K hK => ?_
  conv => whnf
  refine hK _ ?_
  clear hK K
  refine W.seqK fun K7 hK7 => W.cond ⟨fun h8 => ?_, fun h8 => ?_⟩ <;> (first | replace h8 := of_decide_eq_true h8 | replace h8 := of_decide_eq_false h8)
  ·refine W.skip (hK7 _ ?_)
   clear hK7 K7
   refine W.seqK fun K9 hK9 => W.block ?_
   have h8 : i < dg G := by omega
   refine W.rs (cx_ok _) (by rfl) fun K hK => ?_
   conv => whnf
   refine ⟨⟨by omega, by omega⟩, ?_⟩
   conv => whnf
   rw [Int.toNat_natCast]
   refine hK _ ?_
   clear hK K
   obtain ⟨h9, h10⟩ := row_next (p := M) (c := c) (g := cf G.l) (r := r) (o := o) (k := j) (i := i) h6 (by omega) h7
   have h11 := hd.rr (j + i)
   have h12 := cf_rng G i
   have h13 := mulR (a := c) (b := cf G.l i) (by omega) (by omega)
   have e4 : ((j : Int) + i).toNat = j + i := by omega
   have e5 : (q.set j c).getD j 0 = c := by
    have := cf_set (l := q) (i := j) (by omega) c j
    rw [if_pos rfl] at this; exact this
   refine W.draw (cx_ok _) follows (by rfl) ?_
   conv => whnf
   refine ⟨by constructor <;> omega, ?_⟩
   conv => whnf
   refine ⟨by constructor <;> omega, ?_⟩
   conv => whnf
   refine ⟨⟨by omega, by omega⟩, ?_⟩
   conv => whnf
   rw [e4]
   refine ⟨⟨by omega, by simp; omega⟩, ?_⟩
   conv => whnf
   rw [Int.toNat_natCast, e5]
   refine ⟨by show _ ≤ c * cf G.l i ∧ c * cf G.l i ≤ _; omega, ?_⟩
   conv => whnf
   refine ⟨by show _ ≤ cf o (j + i) - c * cf G.l i ∧ cf o (j + i) - c * cf G.l i ≤ _; omega, ?_⟩
   conv => whnf
   refine ⟨_, cxF (ringMod_M h hm), ?_⟩
   conv => whnf
   refine ⟨_, cxF (mod_fn _ M (by omega) (by show _ ≤ cf o (j + i) - c * cf G.l i ∧ cf o (j + i) - c * cf G.l i ≤ _; omega) (by omega)), ?_⟩
   conv => whnf
   refine ⟨⟨by omega, by omega⟩, ?_⟩
   conv => whnf
   refine hK9 _ ?_
   clear hK9 K9
   refine W.region (cx_ok _) (by rfl) ?_
   conv => whnf
   refine ⟨by constructor <;> omega, ?_⟩
   conv => whnf
   exact againA ⟨i + 1, b, o.set (j + i) ((cf o (j + i) - c * cf G.l i) % M), by omega, by simpa using h6, h10, rfl, rfl⟩
  ·obtain rfl : i = dg G := by omega
   refine W.exit (hK8 _ ?_)
   clear hK7 K7 hK8 K8
   refine W.region (cx_ok _) (by rfl) ?_
   conv => whnf
   refine ⟨by constructor <;> omega, ?_⟩
   conv => whnf
   exact againA ⟨j, b, b', o, q.set j c, by omega, hd.step hGn (by omega) c hc.symm (by omega) h7, rfl, rfl⟩
 ·refine W.exit (hK1 _ ?_)
  clear hK7 K7 hK1 K1
  obtain rfl : j' = 0 := by omega
  obtain ⟨h1, h2⟩ := hd.fin hGn
  have hrl := hd.rl
  have hql := hd.ql
  refine W.rs (cx_ok _) (by rfl) fun K hK => ?_
  conv => whnf
  refine callI rfl (trim_fn _ _ (by omega)) fun hs_2 b_2 hh_2 hf_2 => ?_
  try dsimp only at hh_2 hf_2
  conv => whnf
  refine callI rfl (trim_fn _ _ (by omega)) fun hs_3 b_3 hh_3 hf_3 => ?_
  try dsimp only at hh_3 hf_3
  conv => whnf
  refine hK _ ?_
  clear hK K
  rw [h1, h2]
  rw [h1] at hf_2
  rw [h2] at hf_3
  have hd : (qtM F G).l ≠ [] → (rdM F G).l ≠ [] → b_2 ≠ b_3 := fun e1 e2 => by have := hf_2 e1; have := hf_3 e2; omega
  refine W.give 6 fun K hK => ?_
  conv => whnf
  refine hK _ ?_
  clear hK K
  refine W.give 7 fun K hK => ?_
  conv => whnf
  refine hK _ ?_
  clear hK K
  refine W.ret ?_
  conv => whnf
  refine ⟨.v (.rf b_2 (qtM F G).l.length), rfl, trivial, .v (.rf b_3 (rdM F G).l.length), rfl, trivial, .v (.int .i64 0), ⟨rfl, rfl⟩, trivial, b_2, b_3, rfl, fun h => ?_, fun h => tbAdd_self _ _ h⟩
  by_cases h3 : (rdM F G).l = []
  ·rw [h3]; exact tbAdd_self _ _ h
  ·exact (tbAdd_ne _ _ (.inr (hd h h3))).trans (tbAdd_self _ _ h)

theorem eTimes_T (he : ExtP p k M f n) (g g1 g2 : Option Nat) (X Y : Poly M) (hX : dg X ≤ n) (hY : dg Y ≤ n) : FnT Tryz.prog 108 [vE p k g f.l, .ints g1 X.l, .ints g2 Y.l] (R1 (rdM (X * Y) f).l) := by
 have h8 := he.n8
 have h1 := dg_mul_le X Y
 refine fnt_of (cxt_ok [] [0, 1, 2, 3, 6, 8, 1000000]) Tryz.func108 rfl (by decide) Tryz.ntmps108 (Nat.le_of_ble_eq_true rfl) (fun base => ?_) (Nat.le_of_ble_eq_true rfl)
 refine W.rs (cxt_ok _ _) (by rfl) fun K hK => ?_
 conv => whnf
 refine ⟨rfl, ?_⟩
 conv => whnf
 intro b_1 hs_1 hh_1 hf_1
 try dsimp only at hh_1 hf_1
 conv => whnf
 refine hK _ ?_
 clear hK K
 refine W.sw (c' := cxt [159] [0, 1, 2, 3, 6, 8, 1000000]) ?_
 refine W.rdW 9 8 (cxt_ok _ _) follows (by rfl) (by kernel_rfl) fun K hK => ?_
 conv => whnf
 refine ⟨by show 0 + 2 ≤ 3; omega, ?_⟩
 conv => whnf
 refine ⟨by show 0 + 2 ≤ 3; omega, ?_⟩
 conv => whnf
 refine ⟨_, cxtF ((timesIn_fn he.rn.1 he.hm he.m9 _ _ X Y (by omega) (by omega)).toV), ?_⟩
 conv => whnf
 intro fu
 refine Wany.one (cx := cxt [159] []) (cxt_ok [159] []) 9 (by rfl) (by kernel_rfl) (by rfl) (by rfl) ?_
 conv => whnf
 refine ⟨_, cxT (divideIn_T he.rn.1 he.hm he.m9 _ _ (X * Y) f (by omega) he.mn (by omega)), fun lo_r hi_r hs_r x_r tn_r tb_r hl1_r hl2_r _ hp_r hf_r hn_r ho_r => ?_⟩
 try dsimp only at hl1_r hl2_r
 obtain ⟨b0, b1, rfl, hq0, hq1⟩ := hp_r
 conv => whnf
 refine Wany.take (cx := cxt [159] []) (cxt_ok [159] []) 10 (by rfl) (by rfl) (fun d hd => by injection hd with hd; subst hd; decide) (by kernel_rfl) (by kernel_rfl) (by kernel_rfl) (by rfl) ?_
 conv => whnf
 refine Wany.take (cx := cxt [159] []) (cxt_ok [159] []) 11 (by rfl) (by rfl) (fun d hd => by injection hd with hd; subst hd; decide) (by kernel_rfl) (by kernel_rfl) (by kernel_rfl) (by rfl) ?_
 conv => whnf
 refine Wany.take (cx := cxt [159] []) (cxt_ok [159] []) 12 (by rfl) (by rfl) (fun d hd => by injection hd with hd; subst hd; decide) (by kernel_rfl) (by kernel_rfl) (by kernel_rfl) (by rfl) ?_
 conv => whnf
 refine Wany.take (cx := cxt [159] []) (cxt_ok [159] []) 13 (by rfl) (by rfl) (fun d hd => by injection hd with hd; subst hd; decide) (by kernel_rfl) (by kernel_rfl) (by kernel_rfl) (by rfl) ?_
 conv => whnf
 refine Wany.take (cx := cxt [159] []) (cxt_ok [159] []) 14 (by rfl) (by rfl) (fun d hd => by injection hd with hd; subst hd; decide) (by kernel_rfl) (by kernel_rfl) (by kernel_rfl) (by rfl) ?_
 conv => whnf
 refine Wany.take (cx := cxt [159] []) (cxt_ok [159] []) 15 (by rfl) (by rfl) (fun d hd => by injection hd with hd; subst hd; decide) (by kernel_rfl) (by kernel_rfl) (by kernel_rfl) (by rfl) ?_
 conv => whnf
 refine Wany.take (cx := cxt [159] []) (cxt_ok [159] []) 16 (by rfl) (by rfl) (fun d hd => by injection hd with hd; subst hd; decide) (by kernel_rfl) (by kernel_rfl) (by kernel_rfl) (by rfl) ?_
 conv => whnf
 refine Wany.done (by kernel_rfl) (hK _ ?_)
 clear hK K fu
 refine W.rs (cxt_ok _ _) (by rfl) fun K hK => ?_
 conv => whnf
 refine hK _ ?_
 clear hK K
 refine W.ret ?_
 conv => whnf
 exact ⟨.v (.rf b1 (rdM (X * Y) f).l.length), rfl, trivial, b1, rfl, fun h => hn_r _ _ (hq1 h)⟩
theorem eTimes_fn (he : ExtP p k M f n) (g g1 g2 : Option Nat) (X Y : Poly M) (hX : dg X ≤ n) (hY : dg Y ≤ n) : FnV 108 [vE p k g f.l, .ints g1 X.l, .ints g2 Y.l] (.ints none (rdM (X * Y) f).l) :=
 R1.V (eTimes_T he g g1 g2 X Y hX hY)

/- the same in the reference -/
theorem l12Divide_fn (m9 : M ≤ 1000000000) (g g' : Option Nat) (F G : Poly M) (hF : dg F ≤ 1000) (hGn : Mn G n) (hn9 : n ≤ 1000) : FnV 157 [.ints g F.l, .ints g' G.l, .int .i64 M] (.tup [.ints none (qtM F G).l, .ints none (rdM F G).l]) := by
 have hp := Pos.pos (p := M)
 have hFl : F.l.length = dg F := rfl
 have hGl : G.l.length = dg G := rfl
 have hG1 := hGn.1
 have hmx : (max (0 : Int) ((dg F : Int) - dg G + 1)) = ((dg F + 1 - dg G : Nat) : Int) := by omega
 refine fn_of (cx_ok [0, 1, 2, 6, 7, 8, 9, 10, 11, 12, 27, 45]) Tryz.func157 rfl (by decide) Tryz.ntmps157 (Nat.le_of_ble_eq_true rfl) fun base => ?_
 refine W.rs (cx_ok _) (by rfl) fun K hK => ?_
 conv => whnf
 refine hK _ ?_
 clear hK K
 refine W.rs (cx_ok _) (by rfl) fun K hK => ?_
 conv => whnf
 refine callI rfl (own_fn _ _ (by omega)) fun hs_0 b_0 hh_0 hf_0 => ?_
 try dsimp only at hh_0 hf_0
 conv => whnf
 refine hK _ ?_
 clear hK K
 refine W.rs (cx_ok _) (by rfl) fun K hK => ?_
 conv => whnf
 rw [hFl, hGl]
 refine ⟨by constructor <;> omega, ?_⟩
 conv => whnf
 refine ⟨by constructor <;> omega, ?_⟩
 conv => whnf
 rw [hmx]
 refine ⟨rfl, ?_⟩
 conv => whnf
 refine ⟨⟨by omega, by omega⟩, ?_⟩
 conv => whnf
 generalize hnq : dg F + 1 - dg G = nq
 rw [Int.toNat_natCast]
 intro b_q hs_q hh_q hf_q
 try dsimp only at hh_q hf_q
 conv => whnf
 refine hK _ ?_
 clear hK K
 refine W.seqK fun K1 hK1 => W.rs (cx_ok _) (by rfl) fun K hK => ?_
 conv => whnf
 rw [List.length_replicate]
 refine ⟨by constructor <;> omega, ?_⟩
 conv => whnf
 refine hK _ (W.block (W.invA (fun m e => ∃ (j b b' : Nat) (r q : List Int), j ≤ nq ∧ DivN M F G nq j r q ∧ m = j ∧ e = [(1, .v (.ints g' G.l)), (2, .v (.int .i64 M)), (8, .ownI 2 b r), (9, .ownI 2 b' q), (10, .v (.int .i64 ((j : Int) - 1)))]) ⟨nq, b_0, b_q, F.l, List.replicate nq 0, Nat.le_refl _, DivN.start F G (by omega), rfl, rfl⟩ ?_))
 clear hK K
 rintro m e ⟨j', b, b', r, q, hk, hd, hm, rfl⟩
 refine W.seqK fun K7 hK7 => W.rs (cx_ok _) (by rfl) fun K hK => ?_
 conv => whnf
 refine hK _ (W.cond ⟨fun h5 => ?_, fun h5 => ?_⟩) <;> clear hK K <;> (first | replace h5 := of_decide_eq_true h5 | replace h5 := of_decide_eq_false h5)
 ·refine W.skip (hK7 _ ?_)
  clear hK7 K7
  refine W.seqK fun K8 hK8 => W.block ?_
  obtain ⟨j, rfl⟩ : ∃ j, j' = j + 1 := ⟨j' - 1, by omega⟩
  have hrl := hd.rl
  have hql := hd.ql
  have e1 : (((j + 1 : Nat) : Int) - 1) = j := by omega
  have e2 : ((j : Int) + dg G - 1).toNat = j + dg G - 1 := by omega
  rw [e1]
  have h1 := hd.rr (j + dg G - 1)
  generalize hc : cf r (j + dg G - 1) = c at h1
  have hc2 : r.getD (j + dg G - 1) 0 = c := hc
  refine W.rs (cx_ok _) (by rfl) fun K hK => ?_
  conv => whnf
  rw [hGl]
  refine ⟨by constructor <;> omega, ?_⟩
  conv => whnf
  refine ⟨by constructor <;> omega, ?_⟩
  conv => whnf
  refine ⟨⟨by omega, by omega⟩, ?_⟩
  conv => whnf
  rw [e2, hc2]
  refine hK _ ?_
  clear hK K
  refine W.rs (cx_ok _) (by rfl) fun K hK => ?_
  conv => whnf
  refine ⟨⟨by omega, by omega⟩, ?_⟩
  conv => whnf
  rw [Int.toNat_natCast]
  refine hK _ ?_
  clear hK K
  refine W.rs (cx_ok _) (by rfl) fun K hK => ?_
  conv => whnf
  refine hK _ (W.block (W.invE (fun m e => ∃ (i b : Nat) (o : List Int), i ≤ dg G ∧ o.length = dg F ∧ (∀ x, cf o x = if j ≤ x ∧ x < j + i then (cf r x - c * cf G.l (x - j)) % M else cf r x) ∧ m = dg G - i ∧ e = [(1, .v (.ints g' G.l)), (2, .v (.int .i64 M)), (8, .ownI 2 b o), (9, .ownI 2 b' (q.set j c)), (10, .v (.int .i64 j)), (11, .v (.int .i64 c)), (12, .v (.int .i64 i))]) _ _ ⟨0, b, r, Nat.zero_le _, hrl, fun x => by rw [if_neg (by omega)], rfl, rfl⟩ (by dsimp only; omega) (by repeat' first | refine And.intro ?_ ?_ | exact trivial | rfl | omega | assumption | exact fun _ _ h => h) ?_))
  clear hK K b
  rintro m' e ⟨i, b, o, h5, h6, h7, hm', rfl⟩
  refine W.seqK fun K7 hK7 => W.rs (cx_ok _) (by rfl) fun K hK => ?_
  conv => whnf
  refine hK _ (W.cond ⟨fun h8 => ?_, fun h8 => ?_⟩) <;> clear hK K <;> (first | replace h8 := of_decide_eq_true h8 | replace h8 := of_decide_eq_false h8)
  ·refine W.skip (hK7 _ ?_)
   clear hK7 K7
   refine W.seqK fun K9 hK9 => W.block ?_
   have h8 : i < dg G := by omega
   obtain ⟨h9, h10⟩ := row_next (p := M) (c := c) (g := cf G.l) (r := r) (o := o) (k := j) (i := i) h6 (by omega) h7
   have h11 := hd.rr (j + i)
   have h12 := cf_rng G i
   have h13 := mulR (a := c) (b := cf G.l i) (by omega) (by omega)
   have e4 : ((j : Int) + i).toNat = j + i := by omega
   refine W.draw (cx_ok _) follows (by rfl) ?_
   conv => whnf
   refine ⟨by constructor <;> omega, ?_⟩
   conv => whnf
   refine ⟨by constructor <;> omega, ?_⟩
   conv => whnf
   refine ⟨⟨by omega, by omega⟩, ?_⟩
   conv => whnf
   rw [e4]
   refine ⟨⟨by omega, by omega⟩, ?_⟩
   conv => whnf
   rw [Int.toNat_natCast]
   refine ⟨by show _ ≤ c * cf G.l i ∧ c * cf G.l i ≤ _; omega, ?_⟩
   conv => whnf
   refine ⟨by show _ ≤ cf o (j + i) - c * cf G.l i ∧ cf o (j + i) - c * cf G.l i ≤ _; omega, ?_⟩
   conv => whnf
   refine ⟨_, cxF (l01Mod_fn _ M (by omega) (by show _ ≤ cf o (j + i) - c * cf G.l i ∧ cf o (j + i) - c * cf G.l i ≤ _; omega) (by omega)), ?_⟩
   conv => whnf
   refine ⟨⟨by omega, by omega⟩, ?_⟩
   conv => whnf
   refine hK9 _ ?_
   clear hK9 K9
   refine W.region (cx_ok _) (by rfl) ?_
   conv => whnf
   refine ⟨by constructor <;> omega, ?_⟩
   conv => whnf
   exact againA ⟨i + 1, b, o.set (j + i) ((cf o (j + i) - c * cf G.l i) % M), by omega, by simpa using h6, h10, rfl, rfl⟩
  ·obtain rfl : i = dg G := by omega
   refine W.exit (hK8 _ ?_)
   clear hK7 K7 hK8 K8
   refine W.region (cx_ok _) (by rfl) ?_
   conv => whnf
   refine ⟨by constructor <;> omega, ?_⟩
   conv => whnf
   exact againA ⟨j, b, b', o, q.set j c, by omega, hd.step hGn (by omega) c hc.symm (by omega) h7, rfl, rfl⟩
 ·refine W.exit (hK1 _ ?_)
  clear hK7 K7 hK1 K1
  obtain rfl : j' = 0 := by omega
  obtain ⟨h1, h2⟩ := hd.fin hGn
  have hrl := hd.rl
  have hql := hd.ql
  refine W.rs (cx_ok _) (by rfl) fun K hK => ?_
  conv => whnf
  refine callI rfl (l06Trim_fn _ _ (by omega)) fun hs_2 b_2 hh_2 hf_2 => ?_
  try dsimp only at hh_2 hf_2
  conv => whnf
  refine callI rfl (l06Trim_fn _ _ (by omega)) fun hs_3 b_3 hh_3 hf_3 => ?_
  try dsimp only at hh_3 hf_3
  conv => whnf
  refine hK _ ?_
  clear hK K
  rw [h1, h2]
  refine W.ret ?_
  conv => whnf
  exact ⟨.v (.ints none (qtM F G).l), ⟨.inl rfl, rfl⟩, trivial, .v (.ints none (rdM F G).l), ⟨.inl rfl, rfl⟩, trivial, rfl⟩

theorem part_nextM {M : Int} {f h : List Int} {o : List Int} {i k : Nat} (hn : o.length + 1 = f.length + h.length) (hi : i < f.length) (hk : k < h.length) (h3 : ∀ j, cf o j = part (cf f) (cf h) i k j % M) :
  i + k < o.length ∧ ∀ j, cf (o.set (i + k) ((cf o (i + k) + cf f i * cf h k) % M)) j = part (cf f) (cf h) i (k + 1) j % M := by
 refine ⟨by omega, fun j => ?_⟩
 rw [cf_set (by omega), part_step]
 split
 ·rename_i hj; subst hj; rw [h3, Int.emod_add_emod]
 ·exact h3 j
theorem trim_mulM {f h : Poly M} {o : List Int} (ho : ∀ j, cf o j = cv (cf f.l) (cf h.l) j % M) : trimZ o = (f * h).l := by
 refine eq_of_cf (trimZ_last _) (f * h).ok.2 fun i => ?_
 rw [cf_trimZ, ho, cf_mul]

theorem l12Multiply_fn (m9 : M ≤ 1000000000) (g g' : Option Nat) (F H : Poly M) (hF : dg F ≤ 1000) (hH : dg H ≤ 1000) : FnI 158 [.ints g F.l, .ints g' H.l, .int .i64 M] (F * H).l := by
 have hp := Pos.pos (p := M)
 have hFl : F.l.length = dg F := rfl
 have hHl : H.l.length = dg H := rfl
 have hz : (dg F = 0 ∨ dg H = 0) → (F * H).l = [] := fun h => by
  have h1 : F * H = 0 := h.elim (fun h => by rw [dg_eq_zero.1 h]; exact ring [H] (by rfl)) fun h => by rw [dg_eq_zero.1 h]; exact ring [F] (by rfl)
  rw [h1]; exact zero_l
 refine fn_of (cx_ok [0, 1, 2, 6, 7, 8, 9, 17, 29, 35]) Tryz.func158 rfl (by decide) Tryz.ntmps158 (Nat.le_of_ble_eq_true rfl) fun base => ?_
 refine W.rs (cx_ok _) (by rfl) fun K hK => ?_
 conv => whnf
 refine hK _ ?_
 clear hK K
 refine W.seqK fun K1 hK1 => W.rs (cx_ok _) (by rfl) fun K hK => ?_
 conv => whnf
 refine ⟨fun h0 => ?_, fun h0 => ?_⟩ <;> conv => whnf
 ·have h0 := of_decide_eq_true h0
  refine hK _ (W.condT rfl ?_)
  clear hK K
  refine W.rs (cx_ok _) (by rfl) fun K hK => ?_
  conv => whnf
  refine ⟨⟨rfl, by decide⟩, ?_⟩
  conv => whnf
  intro b_0 hs_0 hh_0 hf_0
  try dsimp only at hh_0 hf_0
  conv => whnf
  refine hK _ ?_
  clear hK K
  refine W.ret ?_
  conv => whnf
  exact ⟨.ownI 2 b_0 [], ⟨rfl, rfl, rfl⟩, trivial, _, by rw [hz (.inl (by omega))]⟩
 have h0 := of_decide_eq_false h0
 refine hK _ (W.cond ⟨fun h0' => ?_, fun h0' => ?_⟩) <;> clear hK K
 ·have h0' := of_decide_eq_true h0'
  refine W.rs (cx_ok _) (by rfl) fun K hK => ?_
  conv => whnf
  refine ⟨⟨rfl, by decide⟩, ?_⟩
  conv => whnf
  intro b_0 hs_0 hh_0 hf_0
  try dsimp only at hh_0 hf_0
  conv => whnf
  refine hK _ ?_
  clear hK K
  refine W.ret ?_
  conv => whnf
  exact ⟨.ownI 2 b_0 [], ⟨rfl, rfl, rfl⟩, trivial, _, by rw [hz (.inr (by omega))]⟩
 have h0' := of_decide_eq_false h0'
 clear hz
 refine W.skip (hK1 _ ?_)
 clear hK1 K1
 refine W.rs (cx_ok _) (by rfl) fun K hK => ?_
 conv => whnf
 refine ⟨by constructor <;> omega, ?_⟩
 conv => whnf
 refine ⟨by constructor <;> omega, ?_⟩
 conv => whnf
 refine ⟨rfl, ?_⟩
 conv => whnf
 refine ⟨⟨by omega, by omega⟩, ?_⟩
 conv => whnf
 have hn : ((F.l.length : Int) + H.l.length - 1).toNat + 1 = F.l.length + H.l.length := by omega
 generalize hnn : ((F.l.length : Int) + H.l.length - 1).toNat = n at hn
 intro b_0 hs_0 hh_0 hf_0
 try dsimp only at hh_0 hf_0
 conv => whnf
 refine hK _ ?_
 clear hK K
 refine W.seqK fun K1 hK1 => W.rs (cx_ok _) (by rfl) fun K hK => ?_
 conv => whnf
 refine hK _ (W.block (W.invA (fun m e => ∃ (i b : Nat) (o : List Int), i ≤ F.l.length ∧ o.length = n ∧ (∀ j, cf o j = part (cf F.l) (cf H.l) i 0 j % M) ∧ m = F.l.length - i ∧ e = [(0, .v (.ints g F.l)), (1, .v (.ints g' H.l)), (2, .v (.int .i64 M)), (7, .ownI 2 b o), (8, .v (.int .i64 i))]) ⟨0, b_0, List.replicate n 0, Nat.zero_le _, by simp, fun j => by rw [cf_replicate, part_start]; rfl, rfl, rfl⟩ ?_))
 clear hK K
 rintro m e ⟨i, b, o, h1, h2, h3, hm, rfl⟩
 refine W.seqK fun K7 hK7 => W.rs (cx_ok _) (by rfl) fun K hK => ?_
 conv => whnf
 refine hK _ (W.cond ⟨fun h4 => ?_, fun h4 => ?_⟩) <;> clear hK K <;> (first | replace h4 := of_decide_eq_true h4 | replace h4 := of_decide_eq_false h4)
 ·refine W.skip (hK7 _ ?_)
  clear hK7 K7
  refine W.seqK fun K8 hK8 => W.block ?_
  have h4 : i < F.l.length := by omega
  refine W.rs (cx_ok _) (by rfl) fun K hK => ?_
  conv => whnf
  refine hK _ (W.block (W.invE (fun m e => ∃ (k b : Nat) (o : List Int), k ≤ H.l.length ∧ o.length = n ∧ (∀ j, cf o j = part (cf F.l) (cf H.l) i k j % M) ∧ m = H.l.length - k ∧ e = [(0, .v (.ints g F.l)), (1, .v (.ints g' H.l)), (2, .v (.int .i64 M)), (7, .ownI 2 b o), (8, .v (.int .i64 i)), (9, .v (.int .i64 k))]) _ _ ⟨0, b, o, Nat.zero_le _, h2, h3, rfl, rfl⟩ (by dsimp only; omega) (by repeat' first | refine And.intro ?_ ?_ | exact trivial | rfl | omega | assumption) ?_))
  clear hK K
  clear h3 h2 b o
  rintro m' e ⟨k, b, o, h5, h2, h3, hm', rfl⟩
  refine W.seqK fun K7 hK7 => W.rs (cx_ok _) (by rfl) fun K hK => ?_
  conv => whnf
  refine hK _ (W.cond ⟨fun h6 => ?_, fun h6 => ?_⟩) <;> clear hK K <;> (first | replace h6 := of_decide_eq_true h6 | replace h6 := of_decide_eq_false h6)
  ·refine W.skip (hK7 _ ?_)
   clear hK7 K7
   refine W.seqK fun K10 hK10 => W.block ?_
   have h7 := part_nextM (o := o) (by omega) h4 (by omega : k < H.l.length) h3
   have h8 : 0 ≤ cf o (i + k) ∧ cf o (i + k) < M := by rw [h3]; exact ⟨Int.emod_nonneg _ (by omega), Int.emod_lt_of_pos _ (by omega)⟩
   have h9 := cf_rng F i
   have h10 := cf_rng H k
   have h11 := mulR (a := cf F.l i) (b := cf H.l k) (by omega) (by omega)
   have e1 : ((i : Int) + k).toNat = i + k := by omega
   have e2 : (cf o (i + k) + cf F.l i * cf H.l k).tmod M = (cf o (i + k) + cf F.l i * cf H.l k) % M := Int.tmod_eq_emod_of_nonneg (by omega)
   have e3 : (o.getD (i + k) 0 + F.l.getD i 0 * H.l.getD k 0).tmod M = (cf o (i + k) + cf F.l i * cf H.l k) % M := e2
   refine W.draw (cx_ok _) follows (by rfl) ?_
   conv => whnf
   refine ⟨by constructor <;> omega, ?_⟩
   conv => whnf
   refine ⟨by constructor <;> omega, ?_⟩
   conv => whnf
   refine ⟨⟨by omega, by omega⟩, ?_⟩
   conv => whnf
   refine ⟨⟨by omega, by omega⟩, ?_⟩
   conv => whnf
   refine ⟨⟨by omega, by omega⟩, ?_⟩
   conv => whnf
   rw [e1, Int.toNat_natCast, Int.toNat_natCast]
   refine ⟨by show _ ≤ cf F.l i * cf H.l k ∧ cf F.l i * cf H.l k ≤ _; omega, ?_⟩
   conv => whnf
   refine ⟨by show _ ≤ cf o (i + k) + cf F.l i * cf H.l k ∧ cf o (i + k) + cf F.l i * cf H.l k ≤ _; omega, ?_⟩
   conv => whnf
   refine ⟨by omega, ?_⟩
   conv => whnf
   rw [e3]
   refine ⟨⟨by omega, by omega⟩, ?_⟩
   conv => whnf
   refine hK10 _ ?_
   clear hK10 K10
   refine W.region (cx_ok _) (by rfl) ?_
   conv => whnf
   refine ⟨by constructor <;> omega, ?_⟩
   conv => whnf
   exact againA ⟨k + 1, b, o.set (i + k) ((cf o (i + k) + cf F.l i * cf H.l k) % M), by omega, by simpa using h2, h7.2, rfl, rfl⟩
  ·obtain rfl : k = H.l.length := by omega
   refine W.exit (hK8 _ ?_)
   clear hK7 K7 hK8 K8
   refine W.region (cx_ok _) (by rfl) ?_
   conv => whnf
   refine ⟨by constructor <;> omega, ?_⟩
   conv => whnf
   exact againA ⟨i + 1, b, o, by omega, h2, fun j => by rw [h3 j]; congr 1; exact part_row (fun j hj => cf_ge hj) i j, rfl, rfl⟩
 ·refine W.exit (hK1 _ ?_)
  clear hK7 K7 hK1 K1
  obtain rfl : i = F.l.length := by omega
  refine W.rs (cx_ok _) (by rfl) fun K hK => ?_
  conv => whnf
  refine callI rfl (l06Trim_fn _ _ (by omega)) fun hs_1 b_1 hh_1 hf_1 => ?_
  try dsimp only at hh_1 hf_1
  conv => whnf
  refine hK _ ?_
  clear hK K
  refine W.ret ?_
  conv => whnf
  exact ⟨.ownI 2 _ ((F * H).l), ⟨rfl, rfl, trim_mulM fun j => by rw [h3 j]; congr 1; exact part_end (fun j hj => cf_ge hj) j⟩, trivial, _, rfl⟩

def RgL (M : Int) (l : List Int) : Prop := ∀ j, 0 ≤ cf l j ∧ cf l j < M
theorem mul_pm {s c : Int} (hs : s = 1 ∨ s = -1) (hc : 0 ≤ c ∧ c ≤ 999999999) : -999999999 ≤ s * c ∧ s * c ≤ 999999999 := by rcases hs with rfl | rfl <;> omega
theorem l12Add_fn (m9 : M ≤ 1000000000) (g g' : Option Nat) (xs ys : List Int) (s : Int) (hs : s = 1 ∨ s = -1) (hx : RgL M xs) (hy : RgL M ys) (hxl : xs.length ≤ 1000) (hyl : ys.length ≤ 1000) : FnI 121 [.ints g xs, .ints g' ys, .int .i64 s, .int .i64 M] (nrm M (addL xs (smulL s ys))) := by
 have hp := Pos.pos (p := M)
 have hmx : (max (xs.length : Int) (ys.length : Int)) = ((max xs.length ys.length : Nat) : Int) := by omega
 refine fn_of (cx_ok [0, 1, 2, 3, 8, 9, 10, 20, 26, 37]) Tryz.func121 rfl (by decide) Tryz.ntmps121 (Nat.le_of_ble_eq_true rfl) fun base => ?_
 refine W.rs (cx_ok _) (by rfl) fun K hK => ?_
 conv => whnf
 refine hK _ ?_
 clear hK K
 refine W.rs (cx_ok _) (by rfl) fun K hK => ?_
 conv => whnf
 rw [hmx]
 refine ⟨rfl, ?_⟩
 conv => whnf
 refine ⟨⟨by omega, by omega⟩, ?_⟩
 conv => whnf
 rw [Int.toNat_natCast]
 have hx2 : xs.length ≤ max xs.length ys.length := by omega
 have hy2 : ys.length ≤ max xs.length ys.length := by omega
 have hN : max xs.length ys.length ≤ 1000 := by omega
 generalize max xs.length ys.length = N at hx2 hy2 hN
 intro b_0 hs_0 hh_0 hf_0
 try dsimp only at hh_0 hf_0
 conv => whnf
 refine hK _ ?_
 clear hK K
 refine W.seqK fun K1 hK1 => W.rs (cx_ok _) (by rfl) fun K hK => ?_
 conv => whnf
 refine hK _ (W.block (W.invA (fun m e => ∃ (i b : Nat) (o : List Int), i ≤ N ∧ o.length = N ∧ (∀ j, cf o j = if j < i then (cf xs j + s * cf ys j) % M else 0) ∧ m = N - i ∧ e = [(0, .v (.ints g xs)), (1, .v (.ints g' ys)), (2, .v (.int .i64 s)), (3, .v (.int .i64 M)), (9, .ownI 2 b o), (10, .v (.int .i64 i))]) ⟨0, b_0, List.replicate N 0, Nat.zero_le _, by simp, fun j => by rw [cf_replicate, if_neg (by omega)], rfl, rfl⟩ ?_))
 clear hK K
 rintro m e ⟨i, b, o, h1, h2, h3, hm, rfl⟩
 refine W.seqK fun K7 hK7 => W.rs (cx_ok _) (by rfl) fun K hK => ?_
 conv => whnf
 refine hK _ (W.cond ⟨fun h4 => ?_, fun h4 => ?_⟩) <;> clear hK K <;> (first | replace h4 := of_decide_eq_true h4 | replace h4 := of_decide_eq_false h4)
 ·refine W.skip (hK7 _ ?_)
  clear hK7 K7
  refine W.seqK fun K8 hK8 => W.block ?_
  have hxi := hx i
  have hyi := hy i
  have hmi := mul_pm hs (c := cf ys i) (by omega)
  refine W.seqK fun K9 hK9 => ?_
  have fin : ∀ (o' : List Int) (b' : Nat) (t : S), o'.length = N → (∀ j, cf o' j = if j < i + 1 then (cf xs j + s * cf ys j) % M else 0) → base ≤ t.hs →
    coverK t.env [(0, .v (.ints g xs)), (1, .v (.ints g' ys)), (2, .v (.int .i64 s)), (3, .v (.int .i64 M)), (9, .ownI 2 b' o'), (10, .v (.int .i64 i))] → K8 t := by
   intro o' b' t h5 h6 h7 h8
   refine hK8 _ (W.weak (t := ⟨[(0, .v (.ints g xs)), (1, .v (.ints g' ys)), (2, .v (.int .i64 s)), (3, .v (.int .i64 M)), (9, .ownI 2 b' o'), (10, .v (.int .i64 i))], base⟩) ⟨h7, h8⟩ (Nat.le_refl _) ?_)
   clear hK9 K9 hK8 K8
   refine W.region (cx_ok _) (by rfl) ?_
   conv => whnf
   refine ⟨by constructor <;> omega, ?_⟩
   conv => whnf
   exact againA ⟨i + 1, b', o', by omega, h5, h6, rfl, rfl⟩
  have mid : ∀ (o1 : List Int) (b1 : Nat) (t : S), o1.length = N → (∀ j, cf o1 j = if j < i then (cf xs j + s * cf ys j) % M else if j = i then cf xs j else 0) → base ≤ t.hs →
    coverK t.env [(0, .v (.ints g xs)), (1, .v (.ints g' ys)), (2, .v (.int .i64 s)), (3, .v (.int .i64 M)), (9, .ownI 2 b1 o1), (10, .v (.int .i64 i))] → K9 t := by
   intro o1 b1 t h5 h6 h7 h8
   refine hK9 _ (W.weak (t := ⟨[(0, .v (.ints g xs)), (1, .v (.ints g' ys)), (2, .v (.int .i64 s)), (3, .v (.int .i64 M)), (9, .ownI 2 b1 o1), (10, .v (.int .i64 i))], base⟩) ⟨h7, h8⟩ (Nat.le_refl _) ?_)
   clear hK9 K9 hK8 h3
   have hoi : cf o1 i = cf xs i := by rw [h6, if_neg (by omega), if_pos rfl]
   refine W.rs (cx_ok _) (by rfl) fun K hK => ?_
   conv => whnf
   refine hK _ (W.cond ⟨fun h9 => ?_, fun h9 => ?_⟩) <;> clear hK K
   ·have h9 := of_decide_eq_true h9
    refine W.draw (cx_ok _) follows (by rfl) ?_
    conv => whnf
    refine ⟨⟨by omega, by omega⟩, ?_⟩
    conv => whnf
    refine ⟨⟨by omega, by omega⟩, ?_⟩
    conv => whnf
    rw [Int.toNat_natCast]
    refine ⟨by show _ ≤ s * cf ys i ∧ s * cf ys i ≤ _; omega, ?_⟩
    conv => whnf
    refine ⟨by show _ ≤ cf o1 i + s * cf ys i ∧ cf o1 i + s * cf ys i ≤ _; omega, ?_⟩
    conv => whnf
    refine ⟨_, cxF (l01Mod_fn _ M (by omega) (by show _ ≤ cf o1 i + s * cf ys i ∧ cf o1 i + s * cf ys i ≤ _; omega) (by omega)), ?_⟩
    conv => whnf
    refine ⟨⟨by omega, by omega⟩, ?_⟩
    conv => whnf
    refine fin (o1.set i ((cf o1 i + s * cf ys i) % M)) b1 _ (by simpa using h5) (fun j => ?_) (by dsimp only; omega) ?_
    ·rw [cf_set (by omega), h6 j]
     by_cases h10 : j = i
     ·subst h10; rw [if_pos rfl, if_pos (by omega), hoi]
     ·rw [if_neg h10]
      by_cases h11 : j < i
      ·rw [if_pos h11, if_pos (by omega)]
      ·rw [if_neg h11, if_neg h10, if_neg (by omega)]
    ·repeat' first | refine And.intro ?_ ?_ | exact trivial | rfl | omega | exact .inl rfl | exact fun _ _ => rfl | exact fun _ _ h => h | assumption | exact fun i hi => (by obtain rfl : i = 0 := (by omega); rfl)
   ·have h9 := of_decide_eq_false h9
    refine W.skip (fin o1 b1 _ h5 (fun j => ?_) (by dsimp only; omega) ?_)
    ·rw [h6 j]
     by_cases h10 : j = i
     ·subst h10; rw [if_neg (by omega), if_pos rfl, if_pos (by omega), cf_ge (l := ys) (by omega), Int.mul_zero, Int.add_zero, Int.emod_eq_of_lt hxi.1 hxi.2]
     ·by_cases h11 : j < i
      ·rw [if_pos h11, if_pos (by omega)]
      ·rw [if_neg h11, if_neg h10, if_neg (by omega)]
    ·repeat' first | refine And.intro ?_ ?_ | exact trivial | rfl | omega | exact .inl rfl | exact fun _ _ => rfl | exact fun _ _ h => h | assumption | exact fun i hi => (by obtain rfl : i = 0 := (by omega); rfl)
  clear hK9 fin
  refine W.rs (cx_ok _) (by rfl) fun K hK => ?_
  conv => whnf
  refine hK _ (W.cond ⟨fun h9 => ?_, fun h9 => ?_⟩) <;> clear hK K
  ·have h9 := of_decide_eq_true h9
   refine W.region (cx_ok _) (by rfl) ?_
   conv => whnf
   refine ⟨⟨by omega, by omega⟩, ?_⟩
   conv => whnf
   refine ⟨⟨by omega, by omega⟩, ?_⟩
   conv => whnf
   rw [Int.toNat_natCast]
   refine mid (o.set i (cf xs i)) b _ (by simpa using h2) (fun j => ?_) (by dsimp only; omega) ?_
   ·rw [cf_set (by omega), h3 j]
    by_cases h10 : j = i
    ·subst h10; rw [if_pos rfl, if_neg (by omega), if_pos rfl]
    ·rw [if_neg h10]
     by_cases h11 : j < i
     ·rw [if_pos h11, if_pos h11]
     ·rw [if_neg h11, if_neg h11, if_neg h10]
   ·repeat' first | refine And.intro ?_ ?_ | exact trivial | rfl | omega | exact .inl rfl | exact fun _ _ => rfl | exact fun _ _ h => h | assumption | exact fun i hi => (by obtain rfl : i = 0 := (by omega); rfl)
  ·have h9 := of_decide_eq_false h9
   refine W.skip (mid o b _ h2 (fun j => ?_) (by dsimp only; omega) ?_)
   ·rw [h3 j]
    by_cases h10 : j = i
    ·subst h10; rw [if_neg (by omega), if_neg (by omega), if_pos rfl, cf_ge (l := xs) (by omega)]
    ·by_cases h11 : j < i
     ·rw [if_pos h11, if_pos h11]
     ·rw [if_neg h11, if_neg h11, if_neg h10]
   ·repeat' first | refine And.intro ?_ ?_ | exact trivial | rfl | omega | exact .inl rfl | exact fun _ _ => rfl | exact fun _ _ h => h | assumption | exact fun i hi => (by obtain rfl : i = 0 := (by omega); rfl)
 ·obtain rfl : i = N := by omega
  refine W.exit (hK1 _ ?_)
  clear hK7 K7 hK1 K1
  refine W.rs (cx_ok _) (by rfl) fun K hK => ?_
  conv => whnf
  refine callI rfl (l06Trim_fn _ _ (by omega)) fun hs_1 b_1 hh_1 hf_1 => ?_
  try dsimp only at hh_1 hf_1
  conv => whnf
  refine hK _ ?_
  clear hK K
  refine W.ret ?_
  conv => whnf
  refine ⟨.ownI 2 b_1 (trimZ o), ⟨rfl, rfl, rfl⟩, trivial, b_1, ?_⟩
  congr 1
  refine eq_of_cf (trimZ_last _) (nrm_last _ _) fun j => ?_
  rw [cf_trimZ, h3, cf_nrm, cf_addL, cf_smulL]
  split
  ·rfl
  ·rw [cf_ge (l := xs) (by omega), cf_ge (l := ys) (by omega)]; simp


theorem l20M_fn (he : ExtP p k M f n) (g : Option Nat) : FnV 122 [vE p k g f.l] (.int .i64 M) := by
 obtain ⟨s1, s2, s3, s4, s5, s6⟩ := he.rn.1.small
 have hm := he.hm
 obtain ⟨j, rfl⟩ : ∃ j : Nat, k = j := ⟨k.toNat, by omega⟩
 rw [Int.toNat_natCast] at hm s6
 have hmS : modS p j = M := by unfold modS; rw [if_pos s6, hm]
 refine fn_of (cx_ok [0, 1, 2]) Tryz.func122 rfl (by decide) Tryz.ntmps122 (Nat.le_of_ble_eq_true rfl) fun base => ?_
 refine W.rs (cx_ok _) (by rfl) fun K hK => ?_
 conv => whnf
 refine ⟨rfl, ?_⟩
 conv => whnf
 intro b_1 hs_1 hh_1 hf_1
 try dsimp only at hh_1 hf_1
 conv => whnf
 refine hK _ ?_
 clear hK K
 refine W.rs (cx_ok _) (by rfl) fun K hK => ?_
 conv => whnf
 refine callV rfl (l02Modulus_fn p j (by omega) (by omega) (by omega)) fun hs' hhs => ?_
 try dsimp only at hhs
 conv => whnf
 rw [hmS]
 refine hK _ ?_
 clear hK K
 refine W.ret ?_
 conv => whnf
 exact ⟨.v (.int .i64 M), ⟨rfl, rfl⟩, trivial, rfl⟩

theorem l20Multiply_fn (he : ExtP p k M f n) (g g1 g2 : Option Nat) (X Y : Poly M) (hX : dg X ≤ n) (hY : dg Y ≤ n) : FnV 107 [vE p k g f.l, .ints g1 X.l, .ints g2 Y.l] (.ints none (rdM (X * Y) f).l) := by
 have h8 := he.n8
 have h1 := dg_mul_le X Y
 refine fn_of (cx_ok [0, 1, 2, 3, 6, 8]) Tryz.func107 rfl (by decide) Tryz.ntmps107 (Nat.le_of_ble_eq_true rfl) fun base => ?_
 refine W.rs (cx_ok _) (by rfl) fun K hK => ?_
 conv => whnf
 refine ⟨rfl, ?_⟩
 conv => whnf
 intro b_1 hs_1 hh_1 hf_1
 try dsimp only at hh_1 hf_1
 conv => whnf
 refine hK _ ?_
 clear hK K
 refine W.rdW 9 6 (cx_ok _) follows (by rfl) (by kernel_rfl) fun K hK => ?_
 conv => whnf
 refine ⟨_, cxF (l20M_fn he g), ?_⟩
 conv => whnf
 refine ⟨_, cxF ((l12Multiply_fn he.m9 g1 g2 X Y (by omega) (by omega)).toV), ?_⟩
 conv => whnf
 refine ⟨_, cxF (l20M_fn he g), ?_⟩
 conv => whnf
 intro fu
 refine Wany.one (cx := cx []) (cx_ok []) 9 (by rfl) (by kernel_rfl) (by rfl) (by rfl) ?_
 conv => whnf
 refine callV rfl (l12Divide_fn he.m9 none _ (X * Y) f (by omega) he.mn (by omega)) fun hs' hhs => ?_
 try dsimp only at hhs
 conv => whnf
 refine Wany.take (cx := cx []) (cx_ok []) 10 (by rfl) (by rfl) (fun d hd => by injection hd with hd; subst hd; decide) (by kernel_rfl) (by kernel_rfl) (by kernel_rfl) (by rfl) ?_
 conv => whnf
 refine Wany.take (cx := cx []) (cx_ok []) 11 (by rfl) (by rfl) (fun d hd => by injection hd with hd; subst hd; decide) (by kernel_rfl) (by kernel_rfl) (by kernel_rfl) (by rfl) ?_
 conv => whnf
 refine Wany.take (cx := cx []) (cx_ok []) 12 (by rfl) (by rfl) (fun d hd => by injection hd with hd; subst hd; decide) (by kernel_rfl) (by kernel_rfl) (by kernel_rfl) (by rfl) ?_
 conv => whnf
 refine Wany.take (cx := cx []) (cx_ok []) 13 (by rfl) (by rfl) (fun d hd => by injection hd with hd; subst hd; decide) (by kernel_rfl) (by kernel_rfl) (by kernel_rfl) (by rfl) ?_
 conv => whnf
 refine Wany.take (cx := cx []) (cx_ok []) 14 (by rfl) (by rfl) (fun d hd => by injection hd with hd; subst hd; decide) (by kernel_rfl) (by kernel_rfl) (by kernel_rfl) (by rfl) ?_
 conv => whnf
 refine Wany.done (by kernel_rfl) (hK _ ?_)
 clear hK K fu
 refine W.rs (cx_ok _) (by rfl) fun K hK => ?_
 conv => whnf
 refine hK _ ?_
 clear hK K
 refine W.ret ?_
 conv => whnf
 exact ⟨.v (.ints none (rdM (X * Y) f).l), ⟨rfl, rfl⟩, trivial, rfl⟩
end

open Go Go.RowKit Go.Proofs Poly
set_option maxRecDepth 100000
set_option maxHeartbeats 8000000

def HasX (p k : Int) (l x : List Int) : Prop := IsRn p k x ∧ x.length < l.length

theorem extC_fn (p k : Int) (g g' gb : Option Nat) (l x : List Int) (hx : x.length ≤ 1000000000) : FnV 154 [.ints g' x, .box gb (vE p k g l)] (.bool (!(bP (HasX p k l x)))) := by
 by_cases hm : IsRn p k x
 ·refine fn_of (cx_ok [0, 1, 3]) Tryz.func154 rfl (by decide) Tryz.ntmps154 (Nat.le_of_ble_eq_true rfl) fun base => ?_
  refine W.rs (cx_ok _) (by rfl) fun K hK => ?_
  conv => whnf
  refine hK _ ?_
  clear hK K
  refine W.rs (cx_ok _) (by rfl) fun K hK => ?_
  conv => whnf
  refine ⟨by show 0 + 2 ≤ 3; omega, ?_⟩
  conv => whnf
  refine callV rfl ((isInRing_fn p k g' x hx).tr (bP_true hm)) fun hs' hhs => ?_
  try dsimp only at hhs
  conv => whnf
  refine hK _ ?_
  clear hK K
  refine W.ret ?_
  conv => whnf
  exact ⟨.v (.bool (!(bP (HasX p k l x)))), (by show decide ((l.length : Int) ≤ x.length) = !(bP _); by_cases h : x.length < l.length; (rw [decide_eq_false (by omega), bP_true ⟨hm, h⟩]; rfl); (rw [decide_eq_true (by omega), bP_false fun h' => h h'.2]; rfl)), trivial, rfl⟩
 ·refine fn_of (cx_ok [0, 1, 3]) Tryz.func154 rfl (by decide) Tryz.ntmps154 (Nat.le_of_ble_eq_true rfl) fun base => ?_
  refine W.rs (cx_ok _) (by rfl) fun K hK => ?_
  conv => whnf
  refine hK _ ?_
  clear hK K
  refine W.rs (cx_ok _) (by rfl) fun K hK => ?_
  conv => whnf
  refine ⟨by show 0 + 2 ≤ 3; omega, ?_⟩
  conv => whnf
  refine callV rfl ((isInRing_fn p k g' x hx).fa (bP_false hm)) fun hs' hhs => ?_
  try dsimp only at hhs
  conv => whnf
  refine hK _ ?_
  clear hK K
  refine W.ret ?_
  conv => whnf
  exact ⟨.v (.bool (!(bP (HasX p k l x)))), (by rw [bP_false fun h => hm h.1]; rfl), trivial, rfl⟩
theorem l20Is_fn (p k : Int) (g g' : Option Nat) (l x : List Int) (hx : x.length ≤ 1000000000) : FnV 156 [vE p k g l, .ints g' x] (.bool (bP (HasX p k l x))) := by
 by_cases hm : IsRn p k x
 ·refine fn_of (cx_ok [0, 1, 2, 4]) Tryz.func156 rfl (by decide) Tryz.ntmps156 (Nat.le_of_ble_eq_true rfl) fun base => ?_
  refine W.rs (cx_ok _) (by rfl) fun K hK => ?_
  conv => whnf
  refine ⟨rfl, ?_⟩
  conv => whnf
  intro b_1 hs_1 hh_1 hf_1
  try dsimp only at hh_1 hf_1
  conv => whnf
  refine hK _ ?_
  clear hK K
  refine W.rs (cx_ok _) (by rfl) fun K hK => ?_
  conv => whnf
  refine ⟨by show 0 + 2 ≤ 3; omega, ?_⟩
  conv => whnf
  refine callV rfl ((isInRingS_fn p k g' x hx).tr (bP_true hm)) fun hs' hhs => ?_
  try dsimp only at hhs
  conv => whnf
  refine hK _ ?_
  clear hK K
  refine W.ret ?_
  conv => whnf
  exact ⟨.v (.bool (bP (HasX p k l x))), (by show decide ((x.length : Int) < l.length) = bP _; by_cases h : x.length < l.length; (rw [decide_eq_true (by omega), bP_true ⟨hm, h⟩]); (rw [decide_eq_false (by omega), bP_false fun h' => h h'.2])), trivial, rfl⟩
 ·refine fn_of (cx_ok [0, 1, 2, 4]) Tryz.func156 rfl (by decide) Tryz.ntmps156 (Nat.le_of_ble_eq_true rfl) fun base => ?_
  refine W.rs (cx_ok _) (by rfl) fun K hK => ?_
  conv => whnf
  refine ⟨rfl, ?_⟩
  conv => whnf
  intro b_1 hs_1 hh_1 hf_1
  try dsimp only at hh_1 hf_1
  conv => whnf
  refine hK _ ?_
  clear hK K
  refine W.rs (cx_ok _) (by rfl) fun K hK => ?_
  conv => whnf
  refine ⟨by show 0 + 2 ≤ 3; omega, ?_⟩
  conv => whnf
  refine callV rfl ((isInRingS_fn p k g' x hx).fa (bP_false hm)) fun hs' hhs => ?_
  try dsimp only at hhs
  conv => whnf
  refine hK _ ?_
  clear hK K
  refine W.ret ?_
  conv => whnf
  exact ⟨.v (.bool (bP (HasX p k l x))), bP_false fun h => hm h.1, trivial, rfl⟩

noncomputable def codeX (p k : Int) (l : List Int) (n : Nat) (X : Nat → List Int) : Int :=
 bif bP (IsEx p k l) then (bif bP (∀ i, i < n → HasX p k l (X i)) then 0 else 2) else 1
theorem all_hasX {p k : Int} {l : List Int} {n : Nat} {X : Nat → List Int} : bP (∃ i, i < n ∧ (fun i => !(bP (HasX p k l (X i)))) i = true) = !(bP (∀ i, i < n → HasX p k l (X i))) := by
 by_cases h : ∀ i, i < n → HasX p k l (X i)
 ·rw [bP_true h]
  refine bP_false ?_
  rintro ⟨i, hi, h2⟩
  have h2 : (!(bP (HasX p k l (X i)))) = true := h2
  rw [bP_true (h i hi)] at h2; cases h2
 ·rw [bP_false h]
  refine bP_true (Classical.byContradiction fun h2 => h fun i hi => Classical.byContradiction fun h3 => h2 ⟨i, hi, ?_⟩)
  show (!(bP (HasX p k l (X i)))) = true
  rw [bP_false h3]; rfl
theorem codeX_ok {p k : Int} {l : List Int} {n : Nat} {X : Nat → List Int} (h : codeX p k l n X = 0) : IsEx p k l ∧ ∀ i, i < n → HasX p k l (X i) := by
 unfold codeX at h
 by_cases hk : IsEx p k l
 ·rw [bP_true hk] at h
  by_cases h2 : ∀ i, i < n → HasX p k l (X i)
  ·exact ⟨hk, h2⟩
  ·rw [bP_false h2] at h; cases h
 ·rw [bP_false hk] at h; cases h
theorem codeX_congr {p k : Int} {l : List Int} {n m : Nat} {X Y : Nat → List Int} (h : (∀ i, i < n → HasX p k l (X i)) ↔ (∀ i, i < m → HasX p k l (Y i))) : codeX p k l n X = codeX p k l m Y := by
 unfold codeX; rw [bP_congr h]

theorem extended_fn (p k : Int) (g gs : Option Nat) (l : List Int) (n : Nat) (f : Nat → V) (X : Nat → List Int) (hn : n ≤ 100000000) (hl : l.length ≤ 1000000000) (hX : ∀ i, i < n → (X i).length ≤ 1000000000) (hf : ∀ i, i < n → ∃ g', f i = .ints g' (X i)) :
  FnV 103 [vE p k g l, .vals gs 1 n f] (.int .i64 (codeX p k l n X)) := by
 by_cases hk : IsEx p k l
 case neg =>
  refine fn_of (cx_ok [0, 1, 2, 4, 5, 9]) Tryz.func103 rfl (by decide) Tryz.ntmps103 (Nat.le_of_ble_eq_true rfl) fun base => ?_
  refine W.rs (cx_ok _) (by rfl) fun K hK => ?_
  conv => whnf
  refine ⟨rfl, ?_⟩
  conv => whnf
  intro b_1 hs_1 hh_1 hf_1
  try dsimp only at hh_1 hf_1
  conv => whnf
  refine hK _ ?_
  clear hK K
  refine W.seqK fun K1 hK1 => W.block ?_
  refine W.rs (cx_ok _) (by rfl) fun K hK => ?_
  conv => whnf
  refine callV rfl ((isExtension_fn p k g l hl).fa (bP_false hk)) fun hs' hhs => ?_
  try dsimp only at hhs
  conv => whnf
  refine hK _ (W.condT rfl ?_)
  clear hK K
  refine W.rs (cx_ok _) (by rfl) fun K hK => ?_
  conv => whnf
  refine hK _ ?_
  clear hK K
  refine W.ret ?_
  conv => whnf
  exact ⟨.v (.int .i64 (codeX p k l n X)), ⟨rfl, by unfold codeX; rw [bP_false hk]; rfl⟩, trivial, rfl⟩
 refine fn_of (cx_ok [0, 1, 2, 4, 5, 9]) Tryz.func103 rfl (by decide) Tryz.ntmps103 (Nat.le_of_ble_eq_true rfl) fun base => ?_
 refine W.rs (cx_ok _) (by rfl) fun K hK => ?_
 conv => whnf
 refine ⟨rfl, ?_⟩
 conv => whnf
 intro b_1 hs_1 hh_1 hf_1
 try dsimp only at hh_1 hf_1
 conv => whnf
 refine hK _ ?_
 clear hK K
 refine W.seqK fun K1 hK1 => W.block ?_
 refine W.rs (cx_ok _) (by rfl) fun K hK => ?_
 conv => whnf
 refine callV rfl ((isExtension_fn p k g l hl).tr (bP_true hk)) fun hs' hhs => ?_
 try dsimp only at hhs
 conv => whnf
 refine hK _ (W.condF rfl ?_)
 clear hK K
 refine W.rs (cx_ok _) (by rfl) fun K hK => ?_
 conv => whnf
 refine callV rfl (containsFuncs_fn gs n f 154 [.box none (vE p k g l)] (fun i => !(bP (HasX p k l (X i)))) hn (fun i hi => by obtain ⟨g', h⟩ := hf i hi; exact ⟨_, _, h⟩) (fun i hi => by obtain ⟨g', h⟩ := hf i hi; rw [h]; exact extC_fn p k g g' none l (X i) (hX i hi))) fun hs' hhs => ?_
 try dsimp only at hhs
 conv => whnf
 rw [all_hasX]
 refine hK _ (W.cond ⟨fun h => ?_, fun h => ?_⟩) <;> clear hK K
 ·refine W.rs (cx_ok _) (by rfl) fun K hK => ?_
  conv => whnf
  refine hK _ ?_
  clear hK K
  refine W.ret ?_
  conv => whnf
  exact ⟨.v (.int .i64 (codeX p k l n X)), ⟨rfl, by unfold codeX; rw [bP_true hk]; simp only [cond_true]; rw [show bP (∀ i, i < n → HasX p k l (X i)) = false by simpa using h]; rfl⟩, trivial, rfl⟩
 refine W.skip (hK1 _ ?_)
 clear hK1 K1
 refine W.rs (cx_ok _) (by rfl) fun K hK => ?_
 conv => whnf
 refine hK _ ?_
 clear hK K
 refine W.ret ?_
 conv => whnf
 exact ⟨.v (.int .i64 (codeX p k l n X)), ⟨rfl, by unfold codeX; rw [bP_true hk]; simp only [cond_true]; rw [show bP (∀ i, i < n → HasX p k l (X i)) = true by simpa using h]; rfl⟩, trivial, rfl⟩

theorem l20Code_fn (p k : Int) (g g1 g2 : Option Nat) (l x y : List Int) (hl : l.length ≤ 1000000000) (hx : x.length ≤ 1000000000) (hy : y.length ≤ 1000000000) :
  FnV 106 [vE p k g l, .ints g1 x, .ints g2 y] (.int .i64 (codeX p k l 2 (two x y))) := by
 by_cases hk : IsEx p k l
 case neg =>
  refine fn_of (cx_ok [0, 1, 2, 3, 6, 9, 19]) Tryz.func106 rfl (by decide) Tryz.ntmps106 (Nat.le_of_ble_eq_true rfl) fun base => ?_
  refine W.rs (cx_ok _) (by rfl) fun K hK => ?_
  conv => whnf
  refine ⟨rfl, ?_⟩
  conv => whnf
  intro b_1 hs_1 hh_1 hf_1
  try dsimp only at hh_1 hf_1
  conv => whnf
  refine hK _ ?_
  clear hK K
  refine W.seqK fun K1 hK1 => ?_
  refine W.rs (cx_ok _) (by rfl) fun K hK => ?_
  conv => whnf
  refine callV rfl ((isExtensionS_fn p k g l hl).fa (bP_false hk)) fun hs' hhs => ?_
  try dsimp only at hhs
  conv => whnf
  refine hK _ (W.condT rfl ?_)
  clear hK K
  refine W.rs (cx_ok _) (by rfl) fun K hK => ?_
  conv => whnf
  refine hK _ ?_
  clear hK K
  refine W.ret ?_
  conv => whnf
  exact ⟨.v (.int .i64 (codeX p k l 2 (two x y))), ⟨rfl, by unfold codeX; rw [bP_false hk]; rfl⟩, trivial, rfl⟩
 by_cases h1 : HasX p k l x
 case neg =>
  refine fn_of (cx_ok [0, 1, 2, 3, 6, 9, 19]) Tryz.func106 rfl (by decide) Tryz.ntmps106 (Nat.le_of_ble_eq_true rfl) fun base => ?_
  refine W.rs (cx_ok _) (by rfl) fun K hK => ?_
  conv => whnf
  refine ⟨rfl, ?_⟩
  conv => whnf
  intro b_1 hs_1 hh_1 hf_1
  try dsimp only at hh_1 hf_1
  conv => whnf
  refine hK _ ?_
  clear hK K
  refine W.seqK fun K1 hK1 => ?_
  refine W.rs (cx_ok _) (by rfl) fun K hK => ?_
  conv => whnf
  refine callV rfl ((isExtensionS_fn p k g l hl).tr (bP_true hk)) fun hs' hhs => ?_
  try dsimp only at hhs
  conv => whnf
  refine hK _ (W.condF rfl (W.skip (hK1 _ ?_)))
  clear hK K hK1 K1
  refine W.seqK fun K1 hK1 => ?_
  refine W.rs (cx_ok _) (by rfl) fun K hK => ?_
  conv => whnf
  refine callV rfl ((l20Is_fn p k g g1 l x hx).fa (bP_false h1)) fun hs' hhs => ?_
  try dsimp only at hhs
  conv => whnf
  refine hK _ (W.condT rfl ?_)
  clear hK K
  refine W.rs (cx_ok _) (by rfl) fun K hK => ?_
  conv => whnf
  refine hK _ ?_
  clear hK K
  refine W.ret ?_
  conv => whnf
  exact ⟨.v (.int .i64 (codeX p k l 2 (two x y))), ⟨rfl, by unfold codeX; rw [bP_true hk, bP_false fun h => h1 (h 0 (by omega))]; rfl⟩, trivial, rfl⟩
 by_cases h2 : HasX p k l y
 case neg =>
  refine fn_of (cx_ok [0, 1, 2, 3, 6, 9, 19]) Tryz.func106 rfl (by decide) Tryz.ntmps106 (Nat.le_of_ble_eq_true rfl) fun base => ?_
  refine W.rs (cx_ok _) (by rfl) fun K hK => ?_
  conv => whnf
  refine ⟨rfl, ?_⟩
  conv => whnf
  intro b_1 hs_1 hh_1 hf_1
  try dsimp only at hh_1 hf_1
  conv => whnf
  refine hK _ ?_
  clear hK K
  refine W.seqK fun K1 hK1 => ?_
  refine W.rs (cx_ok _) (by rfl) fun K hK => ?_
  conv => whnf
  refine callV rfl ((isExtensionS_fn p k g l hl).tr (bP_true hk)) fun hs' hhs => ?_
  try dsimp only at hhs
  conv => whnf
  refine hK _ (W.condF rfl (W.skip (hK1 _ ?_)))
  clear hK K hK1 K1
  refine W.seqK fun K1 hK1 => ?_
  refine W.rs (cx_ok _) (by rfl) fun K hK => ?_
  conv => whnf
  refine callV rfl ((l20Is_fn p k g g1 l x hx).tr (bP_true h1)) fun hs' hhs => ?_
  try dsimp only at hhs
  conv => whnf
  refine callV rfl ((l20Is_fn p k g g2 l y hy).fa (bP_false h2)) fun hs' hhs => ?_
  try dsimp only at hhs
  conv => whnf
  refine hK _ (W.condT rfl ?_)
  clear hK K
  refine W.rs (cx_ok _) (by rfl) fun K hK => ?_
  conv => whnf
  refine hK _ ?_
  clear hK K
  refine W.ret ?_
  conv => whnf
  exact ⟨.v (.int .i64 (codeX p k l 2 (two x y))), ⟨rfl, by unfold codeX; rw [bP_true hk, bP_false fun h => h2 (h 1 (by omega))]; rfl⟩, trivial, rfl⟩
 refine fn_of (cx_ok [0, 1, 2, 3, 6, 9, 19]) Tryz.func106 rfl (by decide) Tryz.ntmps106 (Nat.le_of_ble_eq_true rfl) fun base => ?_
 refine W.rs (cx_ok _) (by rfl) fun K hK => ?_
 conv => whnf
 refine ⟨rfl, ?_⟩
 conv => whnf
 intro b_1 hs_1 hh_1 hf_1
 try dsimp only at hh_1 hf_1
 conv => whnf
 refine hK _ ?_
 clear hK K
 refine W.seqK fun K1 hK1 => ?_
 refine W.rs (cx_ok _) (by rfl) fun K hK => ?_
 conv => whnf
 refine callV rfl ((isExtensionS_fn p k g l hl).tr (bP_true hk)) fun hs' hhs => ?_
 try dsimp only at hhs
 conv => whnf
 refine hK _ (W.condF rfl (W.skip (hK1 _ ?_)))
 clear hK K hK1 K1
 refine W.seqK fun K1 hK1 => ?_
 refine W.rs (cx_ok _) (by rfl) fun K hK => ?_
 conv => whnf
 refine callV rfl ((l20Is_fn p k g g1 l x hx).tr (bP_true h1)) fun hs' hhs => ?_
 try dsimp only at hhs
 conv => whnf
 refine callV rfl ((l20Is_fn p k g g2 l y hy).tr (bP_true h2)) fun hs' hhs => ?_
 try dsimp only at hhs
 conv => whnf
 refine hK _ (W.condF rfl (W.skip (hK1 _ ?_)))
 clear hK K hK1 K1
 refine W.rs (cx_ok _) (by rfl) fun K hK => ?_
 conv => whnf
 refine hK _ ?_
 clear hK K
 refine W.ret ?_
 conv => whnf
 exact ⟨.v (.int .i64 (codeX p k l 2 (two x y))), ⟨rfl, by unfold codeX; rw [bP_true hk, bP_true (fun i hi => by match i, hi with | 0, _ => exact h1 | 1, _ => exact h2)]; rfl⟩, trivial, rfl⟩
noncomputable def codeX1 (p k : Int) (l x : List Int) : Int := codeX p k l 1 (fun _ => x)
theorem codeX1_eq (p k : Int) (l x : List Int) : codeX p k l 2 (two x x) = codeX1 p k l x :=
 codeX_congr ⟨fun h i hi => h 0 (by omega), fun h i hi => by match i, hi with | 0, _ => exact h 0 (by omega) | 1, _ => exact h 0 (by omega)⟩
theorem l20Code_one (p k : Int) (g g1 g2 : Option Nat) (l x : List Int) (hl : l.length ≤ 1000000000) (hx : x.length ≤ 1000000000) : FnV 106 [vE p k g l, .ints g1 x, .ints g2 x] (.int .i64 (codeX1 p k l x)) :=
 (l20Code_fn p k g g1 g2 l x x hl hx hx).mono (by rw [codeX1_eq])
theorem codeX1_ok {p k : Int} {l x : List Int} (h : codeX1 p k l x = 0) : IsEx p k l ∧ HasX p k l x := by
 obtain ⟨h1, h2⟩ := codeX_ok h
 exact ⟨h1, h2 0 (by omega)⟩


open Go Go.RowKit Go.Proofs Poly
set_option maxRecDepth 100000
set_option maxHeartbeats 8000000


open Go Go.RowKit Go.Proofs Poly
set_option maxRecDepth 100000
set_option maxHeartbeats 8000000

section
variable {p k M : Int} [SP p] [Pos M] {f : Poly M} {n : Nat}

theorem oneM_l (h : 2 ≤ M) : (1 : Poly M).l = [1] := by
 have h1 : Nrm M [1] := ⟨fun x hx => by simp at hx; omega, fun m hm => by
  have : m = 0 := by simpa using hm
  subst this
  decide⟩
 exact nrm_id h1
theorem zeroM_l : (0 : Poly M).l = [] := zero_l
theorem cf_one2 (c : Int) (j : Nat) : cf [c] j = if j = 0 then c else 0 := by
 cases j with
 | zero => rfl
 | succ j => rw [cf_cons_succ, cf_nil, if_neg (by omega)]
theorem bdc1 {c B : Int} (h : -B ≤ c ∧ c ≤ B) : Bd B [c] := fun j => by rw [cf_one2]; split <;> omega
theorem rg_one {M : Int} {c : Int} (h : 0 ≤ c ∧ c < M) : RgL M [c] := fun j => by rw [cf_one2]; split <;> omega
theorem rg_l (X : Poly M) : RgL M X.l := cf_rng X
theorem add_bd {B : Int} {xs ys : List Int} {A C : Int} (hx : Bd A xs) (hy : Bd C ys) (h : A + C ≤ B) : Bd B (trimZ (addL xs ys)) := fun i => by
 rw [cf_trimZ, cf_addL]; have := hx i; have := hy i; omega
theorem sub_bd {B : Int} {xs ys : List Int} {A C : Int} (hx : Bd A xs) (hy : Bd C ys) (h : A + C ≤ B) : Bd B (trimZ (addL xs (smulL (-1) ys))) := fun i => by
 rw [cf_trimZ, cf_addL, cf_smulL]; have := hx i; have := hy i; omega
theorem add_len (xs ys : List Int) : (trimZ (addL xs ys)).length ≤ max xs.length ys.length := by
 have := trimZ_length (addL xs ys); unfold addL at *; rw [mkL_length] at *; exact this
theorem sub_len (xs ys : List Int) : (trimZ (addL xs (smulL (-1) ys))).length ≤ max xs.length ys.length := by
 have := add_len xs (smulL (-1) ys); unfold smulL at *; rwa [List.length_map] at this

/- values -/
theorem eVal_I (he : ExtP p k M f n) (g g1 g2 : Option Nat) (F X : Poly M) (hF : dg F ≤ 100) (hX : dg X ≤ n) : FnI 117 [vE p k g f.l, .ints g1 F.l, .ints g2 X.l] (valM f F X (dg F)).l := by
 have h8 := he.n8
 have m9 := he.m9
 have hp := Pos.pos (p := M)
 have hFl : F.l.length = dg F := rfl
 have hV := fun j => valM_dg (F := F) (X := X) he.mn he.n1 j
 refine fn_of (cx_ok [0, 1, 2, 3, 6, 7, 8, 13]) Tryz.func117 rfl (by decide) Tryz.ntmps117 (Nat.le_of_ble_eq_true rfl) fun base => ?_
 refine W.rs (cx_ok _) (by rfl) fun K hK => ?_
 conv => whnf
 refine ⟨rfl, ?_⟩
 conv => whnf
 intro b_3 hs_3 hh_3 hf_3
 try dsimp only at hh_3 hf_3
 conv => whnf
 refine hK _ ?_
 clear hK K
 refine W.rs (cx_ok _) (by rfl) fun K hK => ?_
 conv => whnf
 refine hK _ ?_
 clear hK K
 refine W.seqK fun K1 hK1 => W.rs (cx_ok _) (by rfl) fun K hK => ?_
 conv => whnf
 refine ⟨by constructor <;> omega, ?_⟩
 conv => whnf
 refine hK _ (W.block (W.invA (fun m e => ∃ (j b : Nat) (s : List Int), j ≤ dg F ∧ s = (valM f F X (dg F - j)).l ∧ m = j ∧ e = [(1, .v (.ints g1 F.l)), (2, .v (.ints g2 X.l)), (3, .ownB b_3 (vE p k g f.l)), (7, .ownI 2 b s), (8, .v (.int .i64 ((j : Int) - 1)))]) ⟨F.l.length, 0, [], Nat.le_refl _, (by rw [hFl, Nat.sub_self]; exact zeroM_l.symm), rfl, rfl⟩ ?_))
 clear hK K
 rintro m e ⟨j', b, s, hj, rfl, hm, rfl⟩
 refine W.seqK fun K7 hK7 => W.rs (cx_ok _) (by rfl) fun K hK => ?_
 conv => whnf
 refine hK _ (W.cond ⟨fun h => ?_, fun h => ?_⟩) <;> clear hK K <;> (first | replace h := of_decide_eq_true h | replace h := of_decide_eq_false h)
 ·obtain ⟨j, rfl⟩ : ∃ j, j' = j + 1 := ⟨j' - 1, by omega⟩
  obtain ⟨t, ht⟩ : ∃ t, dg F = t + (j + 1) := ⟨dg F - (j + 1), by omega⟩
  have e0 : dg F - (j + 1) = t := by omega
  rw [e0]
  have hVj := hV t
  have hR := rdM_dg he.mn (valM f F X t * X)
  have hRl : (rdM (valM f F X t * X) f).l.length = dg (rdM (valM f F X t * X) f) := rfl
  have e1 : (((j + 1 : Nat) : Int) - 1) = j := by omega
  have hcr := cf_rng F j
  have hsl := add_len (rdM (valM f F X t * X) f).l [cf F.l j]
  have hnx : (rdM (valM f F X t * X) f + cn M (cf F.l j)).l = (valM f F X (dg F - j)).l := by
   rw [show dg F - j = t + 1 by omega, valM, show dg F - 1 - t = j by omega]
  refine W.skip (hK7 _ ?_)
  clear hK7 K7
  refine W.seqK fun K8 hK8 => W.block ?_
  rw [e1]
  refine W.drawS 13 (cx_ok _) follows (by rfl) ?_
  conv => whnf
  refine ⟨by show 0 + 2 ≤ 3; omega, ?_⟩
  conv => whnf
  refine ⟨_, cxF (ringMod_M he.rn.1 he.hm), ?_⟩
  conv => whnf
  refine ⟨_, cxF (eTimes_fn he g (some b) g2 (valM f F X t) X hVj hX), ?_⟩
  conv => whnf
  refine ⟨⟨by omega, by omega⟩, ?_⟩
  conv => whnf
  rw [Int.toNat_natCast]
  refine ⟨⟨rfl, by decide⟩, ?_⟩
  conv => whnf
  have e2 : F.l.getD j 0 = cf F.l j := rfl
  rw [e2]
  refine ⟨_, cxF ((sumOf_fn none none (rdM (valM f F X t * X) f).l [cf F.l j] ((r_bd m9 _).le (by omega)) (bdc1 (by omega)) (by omega) (by simp)).toV), ?_⟩
  conv => whnf
  refine callI rfl (reduce_fn M (by omega) (by omega) none (trimZ (addL (rdM (valM f F X t * X) f).l [cf F.l j])) (add_bd (r_bd m9 _) (bdc1 (B := 999999999) (by omega)) (by omega)) (by simp at hsl; omega)) fun hs_5 b_5 hh_5 hf_5 => ?_
  try dsimp only at hh_5 hf_5
  conv => whnf
  rw [addM_cn, hnx]
  refine hK8 _ ?_
  clear hK8 K8
  refine W.region (cx_ok _) (by rfl) ?_
  conv => whnf
  refine ⟨by constructor <;> omega, ?_⟩
  conv => whnf
  exact againA ⟨j, b_5, _, by omega, rfl, rfl, rfl⟩
 ·obtain rfl : j' = 0 := by omega
  refine W.exit (hK1 _ ?_)
  clear hK7 K7 hK1 K1
  refine W.sw (c' := cxr [0, 1, 2, 3, 6, 7, 8, 13]) (W.rs (cxr_ok _) (by rfl) fun K hK => ?_)
  conv => whnf
  refine hK _ ?_
  clear hK K
  refine W.ret ?_
  conv => whnf
  exact ⟨.ownI 2 _ ((valM f F X (dg F)).l), ⟨rfl, rfl, rfl⟩, trivial, _, rfl⟩
theorem eVal_fn (he : ExtP p k M f n) (g g1 g2 : Option Nat) (F X : Poly M) (hF : dg F ≤ 100) (hX : dg X ≤ n) : FnV 117 [vE p k g f.l, .ints g1 F.l, .ints g2 X.l] (.ints none (valM f F X (dg F)).l) :=
 (eVal_I he g g1 g2 F X hF hX).toV

theorem addM_c1 (X : Poly M) (c : Int) : nrm M (addL X.l (smulL 1 [c])) = (X + cn M c).l := by rw [smul_one, ← nrm_trim, addM_cn]
theorem subM_c1 (X : Poly M) (c : Int) : nrm M (addL [c] (smulL (-1) X.l)) = (cn M c - X).l := by rw [← nrm_trim, subM_cn]
theorem subM_1 (X Y : Poly M) : nrm M (addL X.l (smulL (-1) Y.l)) = (X - Y).l := by rw [← nrm_trim, subM_l]
theorem addM_1 (X Y : Poly M) : nrm M (addL X.l (smulL 1 Y.l)) = (X + Y).l := by rw [smul_one, ← nrm_trim, addM_l]

theorem l20Value_fn (he : ExtP p k M f n) (g g1 g2 : Option Nat) (F X : Poly M) (hF : dg F ≤ 100) (hX : dg X ≤ n) : FnV 116 [vE p k g f.l, .ints g1 F.l, .ints g2 X.l] (.ints none (valM f F X (dg F)).l) := by
 have h8 := he.n8
 have m9 := he.m9
 have hp := Pos.pos (p := M)
 have hFl : F.l.length = dg F := rfl
 have hV := fun j => valM_dg (F := F) (X := X) he.mn he.n1 j
 refine fn_of (cx_ok [0, 1, 2, 3, 6, 7, 8, 14]) Tryz.func116 rfl (by decide) Tryz.ntmps116 (Nat.le_of_ble_eq_true rfl) fun base => ?_
 refine W.rs (cx_ok _) (by rfl) fun K hK => ?_
 conv => whnf
 refine ⟨rfl, ?_⟩
 conv => whnf
 intro b_3 hs_3 hh_3 hf_3
 try dsimp only at hh_3 hf_3
 conv => whnf
 refine hK _ ?_
 clear hK K
 refine W.rs (cx_ok _) (by rfl) fun K hK => ?_
 conv => whnf
 refine ⟨⟨rfl, by decide⟩, ?_⟩
 conv => whnf
 intro b_4 hs_4 hh_4 hf_4
 try dsimp only at hh_4 hf_4
 conv => whnf
 refine hK _ ?_
 clear hK K
 refine W.seqK fun K1 hK1 => W.rs (cx_ok _) (by rfl) fun K hK => ?_
 conv => whnf
 refine ⟨by constructor <;> omega, ?_⟩
 conv => whnf
 refine hK _ (W.block (W.invA (fun m e => ∃ (j : Nat) (s : List Int), j ≤ dg F ∧ s = (valM f F X (dg F - j)).l ∧ m = j ∧ e = [(1, .v (.ints g1 F.l)), (2, .v (.ints g2 X.l)), (3, .ownB b_3 (vE p k g f.l)), (7, .v (.ints none s)), (8, .v (.int .i64 ((j : Int) - 1)))]) ⟨F.l.length, [], Nat.le_refl _, (by rw [hFl, Nat.sub_self]; exact zeroM_l.symm), rfl, rfl⟩ ?_))
 clear hK K
 rintro m e ⟨j', s, hj, rfl, hm, rfl⟩
 refine W.seqK fun K7 hK7 => W.rs (cx_ok _) (by rfl) fun K hK => ?_
 conv => whnf
 refine hK _ (W.cond ⟨fun h => ?_, fun h => ?_⟩) <;> clear hK K <;> (first | replace h := of_decide_eq_true h | replace h := of_decide_eq_false h)
 ·obtain ⟨j, rfl⟩ : ∃ j, j' = j + 1 := ⟨j' - 1, by omega⟩
  obtain ⟨t, ht⟩ : ∃ t, dg F = t + (j + 1) := ⟨dg F - (j + 1), by omega⟩
  have e0 : dg F - (j + 1) = t := by omega
  rw [e0]
  have hVj := hV t
  have hR := rdM_dg he.mn (valM f F X t * X)
  have hRl : (rdM (valM f F X t * X) f).l.length = dg (rdM (valM f F X t * X) f) := rfl
  have e1 : (((j + 1 : Nat) : Int) - 1) = j := by omega
  have hcr := cf_rng F j
  have hnx : (rdM (valM f F X t * X) f + cn M (cf F.l j)).l = (valM f F X (dg F - j)).l := by
   rw [show dg F - j = t + 1 by omega, valM, show dg F - 1 - t = j by omega]
  refine W.skip (hK7 _ ?_)
  clear hK7 K7
  refine W.seqK fun K8 hK8 => W.block ?_
  rw [e1]
  refine W.draw (cx_ok _) follows (by rfl) ?_
  conv => whnf
  refine ⟨_, cxF (l20Multiply_fn he g none g2 (valM f F X t) X hVj hX), ?_⟩
  conv => whnf
  refine ⟨⟨by omega, by omega⟩, ?_⟩
  conv => whnf
  rw [Int.toNat_natCast]
  refine ⟨⟨rfl, by decide⟩, ?_⟩
  conv => whnf
  have e2 : F.l.getD j 0 = cf F.l j := rfl
  rw [e2]
  refine ⟨_, cxF (l20M_fn he g), ?_⟩
  conv => whnf
  refine ⟨_, cxF ((l12Add_fn m9 none none (rdM (valM f F X t * X) f).l [cf F.l j] 1 (.inl rfl) (rg_l _) (rg_one hcr) (by omega) (by simp)).toV), ?_⟩
  conv => whnf
  rw [addM_c1, hnx]
  refine hK8 _ ?_
  clear hK8 K8
  refine W.region (cx_ok _) (by rfl) ?_
  conv => whnf
  refine ⟨by constructor <;> omega, ?_⟩
  conv => whnf
  exact againA ⟨j, _, by omega, rfl, rfl, rfl⟩
 ·obtain rfl : j' = 0 := by omega
  refine W.exit (hK1 _ ?_)
  clear hK7 K7 hK1 K1
  refine W.rs (cx_ok _) (by rfl) fun K hK => ?_
  conv => whnf
  refine hK _ ?_
  clear hK K
  refine W.ret ?_
  conv => whnf
  exact ⟨.v (.ints none (valM f F X (dg F)).l), ⟨rfl, rfl⟩, trivial, rfl⟩

/- inverses -/
theorem inv_im (he : ExtP p k M f n) {X U : Poly M} (h : Cg f (X * U) 1) : im p f ∣ im p X * im p U - 1 := by
 obtain ⟨q, hq⟩ := cg_im he.pm h
 rw [im_mul he.pm, im_one he.pm] at hq
 exact ⟨q, comb 1 hq (ring [im p X, im p U, q, im p f] (by rfl))⟩
theorem unit_im (he : ExtP p k M f n) {X U : Poly M} (h : Cg f (X * U) 1) : ¬ im p f ∣ im p X := fun hd => by
 have h1 := dvd_sub (dvd_mul_left (im p U) hd) (inv_im he h)
 rw [show im p U * im p X - (im p X * im p U - 1) = 1 from ring [im p U, im p X] (by rfl)] at h1
 have h2 := dvd_dg h1 one_ne
 rw [dg_one] at h2
 have h3 := he.irr.1
 omega
theorem field_P (he : ExtP p k M f n) (g : Option Nat) : FnV 104 [vE p k g f.l] (vK p none (im p f).l) := field_fn p k g f.l he.rn
theorem l20Field_P (he : ExtP p k M f n) (g : Option Nat) : FnV 101 [vE p k g f.l] (vK p none (im p f).l) := l20Field_fn p k g f.l he.rn
theorem reduce_P (he : ExtP p k M f n) (g : Option Nat) (X : Poly M) (hX : dg X ≤ n) : FnI 85 [.int .i64 p, .ints g X.l] (im p X).l := by
 have := he.rn.1.small
 have hXl : X.l.length = dg X := rfl
 have h8 := he.n8
 exact reduce_fn p (by omega) (by omega) g X.l ((r_bd he.m9 X).le (by omega)) (by omega)
theorem l08Reduce_P (he : ExtP p k M f n) (g : Option Nat) (X : Poly M) (hX : dg X ≤ n) : FnI 81 [.int .i64 p, .ints g X.l] (im p X).l := by
 have := he.rn.1.small
 have hXl : X.l.length = dg X := rfl
 have h8 := he.n8
 exact l08Reduce_fn p (by omega) (by omega) g X.l ((r_bd he.m9 X).le (by omega)) (by omega)

theorem eInv_T (he : ExtP p k M f n) (g g1 : Option Nat) (X U : Poly M) (hX : dg X ≤ n) (hU : dg U ≤ n) (hU2 : Cg f (X * U) 1) : FnT Tryz.prog 113 [vE p k g f.l, .ints g1 X.l] (R1 U.l) := by
 have h8 := he.n8
 have hn1 := he.n1
 have m9 := he.m9
 have hp := Pos.pos (p := M)
 obtain ⟨s1, s2, s3, s4, s5, s6⟩ := he.rn.1.small
 have hmM : M = p ^ k.toNat := he.hm.symm
 have hfd := (im_mn he.pm he.mn).1
 have hXd := im_dg (p := p) X
 have hUd := im_dg (p := p) U
 have hI0 : InvI p f X n (2 ^ 0) (lft M (im p U)) := InvI.start he.pm (by omega) (inv_im he hU2)
 have hl0 : (im p U).l = (lft M (im p U)).l := (lft_l he.ple _).symm
 refine fnt_of (cxt_ok [] [0, 1, 2, 4, 5, 6, 27, 1000000]) Tryz.func113 rfl (by decide) Tryz.ntmps113 (Nat.le_of_ble_eq_true rfl) (fun base => ?_) (Nat.le_of_ble_eq_true rfl)
 refine W.sw (c' := cx [0, 1, 2, 4, 5, 6, 27, 1000000]) ?_
 refine W.rs (cx_ok _) (by rfl) fun K hK => ?_
 conv => whnf
 refine ⟨rfl, ?_⟩
 conv => whnf
 intro b_2 hs_2 hh_2 hf_2
 try dsimp only at hh_2 hf_2
 conv => whnf
 refine hK _ ?_
 clear hK K
 refine W.rs (cx_ok _) (by rfl) fun K hK => ?_
 conv => whnf
 refine ⟨by show 0 + 2 ≤ 3; omega, ?_⟩
 conv => whnf
 refine callV rfl (ringMod_M he.rn.1 he.hm) fun hs' hhs => ?_
 try dsimp only at hhs
 conv => whnf
 refine hK _ ?_
 clear hK K
 refine W.sw (c' := cxt [] [0, 1, 2, 4, 5, 6, 27, 1000000]) ?_
 refine W.rdS 11 (cxt_ok _ _) follows (by rfl) fun K hK => ?_
 conv => whnf
 refine ⟨_, cxtF ((reduce_P he g1 X hX).toV), ?_⟩
 conv => whnf
 refine ⟨_, cxtF (field_P he g), ?_⟩
 conv => whnf

 refine callI rfl (cofactor_fn p none none (im p X) (im p f) (im p U) (by omega) (by omega) (by omega) (by omega) (inv_im he hU2)) fun hs_6 b_6 hh_6 hf_6 => ?_
 try dsimp only at hh_6 hf_6
 conv => whnf
 rw [hl0]
 refine hK _ ?_
 clear hK K
 refine W.give 6 fun K hK => ?_
 conv => whnf
 refine hK _ ?_
 clear hK K
 refine W.seqK fun K1 hK1 => W.block (W.invA (fun m e => ∃ (i : Nat) (y : Poly M) (b : Nat) (tb : Tab), InvI p f X n (2 ^ i) y ∧ i ≤ 40 ∧ (y.l ≠ [] → tb b = some y.l) ∧ m = 40 - i ∧ e = [(vt, .tab tb), (1, .v (.ints g1 X.l)), (2, .ownB b_2 (vE p k g f.l)), (5, .v (.int .i64 M)), (6, .v (.rf b y.l.length))]) ⟨0, lft M (im p U), b_6, _, hI0, by omega, fun h => tbAdd_self _ _ h, rfl, rfl⟩ ?_)
 rintro m e ⟨i, y, b, tb, hI, hi, hy, hm, rfl⟩
 have hyd := hI.deg
 have hR := rdM_dg he.mn (X * y)
 have hRl : (rdM (X * y) f).l.length = dg (rdM (X * y) f) := rfl
 refine W.seqK fun K7 hK7 => ?_
 refine W.rs (cxt_ok _ _) (by rfl) fun K hK => ?_
 conv => whnf
 refine ⟨y.l, ⟨rfl, hy⟩, ?_⟩
 conv => whnf
 refine callV rfl (eTimes_fn he g g1 (some b) X y hX hyd) fun hs' hhs => ?_
 try dsimp only at hhs
 conv => whnf
 by_cases h1 : (rdM (X * y) f).l = [1]
 ·have h2 : rdM (X * y) f = 1 := ext_l (by rw [h1, oneM_l he.m2])
  obtain rfl := hI.is he.mn h2 hU hU2
  refine callV rfl ((isOne_fn none (rdM (X * y) f).l).tr (decide_eq_true h1)) fun hs' hhs => ?_
  try dsimp only at hhs
  conv => whnf
  refine hK _ (W.condF rfl (W.exit (hK1 _ ?_)))
  clear hK K hK7 K7 hK1 K1
  refine W.rs (cxt_ok _ _) (by rfl) fun K hK => ?_
  conv => whnf
  refine hK _ ?_
  clear hK K
  refine W.ret ?_
  conv => whnf
  exact ⟨.v (.rf b y.l.length), rfl, trivial, b, rfl, hy⟩
 ·have h3 : 2 ^ i < k.toNat := Nat.lt_of_not_le fun h => h1 (by rw [hI.rem hmM he.mn hn1 h, oneM_l he.m2])
  have h4 : i < 2 ^ i := Nat.lt_two_pow_self
  have hcd := dg_sub (cn M 2) (rdM (X * y) f)
  have hc2 := cn_dg (m := M) 2
  have hcd2 : dg (cn M 2 - rdM (X * y) f) ≤ n := by omega
  have hsl := sub_len [2] (rdM (X * y) f).l
  refine callV rfl ((isOne_fn none (rdM (X * y) f).l).fa (decide_eq_false h1)) fun hs' hhs => ?_
  try dsimp only at hhs
  conv => whnf
  refine hK _ (W.condT rfl (W.skip (hK7 _ (W.block ?_))))
  clear hK K hK7 K7
  refine W.sw (c' := cxt [108] [0, 1, 2, 4, 5, 6, 27, 1000000]) ?_
  refine W.drawS2 10 (cxt_ok [] []) (cxt_ok _ _) follows (by rfl) ?_
  conv => whnf
  refine ⟨⟨rfl, by decide⟩, ?_⟩
  conv => whnf
  refine ⟨y.l, ⟨rfl, hy⟩, ?_⟩
  conv => whnf
  refine ⟨_, cxtF (eTimes_fn he g g1 (some b) X y hX hyd), ?_⟩
  conv => whnf
  refine ⟨_, cxtF ((minus_fn none none [2] (rdM (X * y) f).l (bdc1 (by omega)) ((r_bd m9 _).le (by omega)) (by simp) (by omega)).toV), ?_⟩
  conv => whnf
  refine ⟨_, cxtF ((reduce_fn M (by omega) (by omega) none (trimZ (addL [2] (smulL (-1) (rdM (X * y) f).l))) (sub_bd (bdc1 (B := 2) (by omega)) (r_bd m9 _) (by omega)) (by simp at hsl; omega)).toV), ?_⟩
  conv => whnf
  rw [subM_cn]
  refine ⟨y.l, ⟨rfl, hy⟩, ?_⟩
  conv => whnf
  refine ⟨_, cxT (eTimes_T he g (some b) none y (cn M 2 - rdM (X * y) f) hyd hcd2), fun lo_t hi_t hs_t x_t tn_t tb_t hl1_t hl2_t _ hp_t hf_t hn_t ho_t => ?_⟩
  try dsimp only at hl1_t hl2_t
  obtain ⟨bt, rfl, ht⟩ := hp_t
  conv => whnf
  exact againA ⟨i + 1, rdM (y * (cn M 2 - rdM (X * y) f)) f, bt, tb_t, (by rw [Nat.pow_succ, Nat.mul_two]; exact hI.step he.mn), by omega, fun h => hn_t _ _ (ht h), rfl, rfl⟩
theorem eInv_fn (he : ExtP p k M f n) (g g1 : Option Nat) (X U : Poly M) (hX : dg X ≤ n) (hU : dg U ≤ n) (hU2 : Cg f (X * U) 1) : FnV 113 [vE p k g f.l, .ints g1 X.l] (.ints none U.l) :=
 R1.V (eInv_T he g g1 X U hX hU hU2)

theorem l20Inverse_fn (he : ExtP p k M f n) (g g1 : Option Nat) (X U : Poly M) (hX : dg X ≤ n) (hU : dg U ≤ n) (hU2 : Cg f (X * U) 1) : FnV 112 [vE p k g f.l, .ints g1 X.l] (.ints none U.l) := by
 have h8 := he.n8
 have hn1 := he.n1
 have m9 := he.m9
 have m2 := he.m2
 have hp := Pos.pos (p := M)
 obtain ⟨s1, s2, s3, s4, s5, s6⟩ := he.rn.1.small
 have hmM : M = p ^ k.toNat := he.hm.symm
 have hfd := (im_mn he.pm he.mn).1
 have hfl : (im p f).l.length = dg (im p f) := rfl
 have hf0 := he.irr.ne
 have hXd := im_dg (p := p) X
 obtain ⟨hq1, hq2, hq3⟩ := fld_q he.fld hfd
 have hiv := inv_pow he.irr (unit_im he hU2) hfd
 have hil := rem_lt (im p X ^ (2 * p.toNat ^ n - 3)) hf0
 generalize p.toNat ^ n = q at hq1 hq2 hq3 hiv hil
 have hI0 : InvI p f X n (2 ^ 0) (lft M (rem (im p X ^ (2 * q - 3)) (im p f))) := InvI.start he.pm (by omega) hiv
 have hl0 : (rem (im p X ^ (2 * q - 3)) (im p f)).l = (lft M (rem (im p X ^ (2 * q - 3)) (im p f))).l := (lft_l he.ple _).symm
 have h2m : (2 : Int).tmod M = 2 % M := Int.tmod_eq_emod_of_nonneg (by omega)
 have h2r : 0 ≤ 2 % M ∧ 2 % M < M := ⟨Int.emod_nonneg _ (by omega), Int.emod_lt_of_pos _ (by omega)⟩
 refine fn_of (cx_ok [0, 1, 2, 4, 5, 6, 7, 24]) Tryz.func112 rfl (by decide) Tryz.ntmps112 (Nat.le_of_ble_eq_true rfl) fun base => ?_
 refine W.rs (cx_ok _) (by rfl) fun K hK => ?_
 conv => whnf
 refine ⟨rfl, ?_⟩
 conv => whnf
 intro b_2 hs_2 hh_2 hf_2
 try dsimp only at hh_2 hf_2
 conv => whnf
 refine hK _ ?_
 clear hK K
 refine W.rs (cx_ok _) (by rfl) fun K hK => ?_
 conv => whnf
 refine callV rfl (l20Field_P he g) fun hs' hhs => ?_
 try dsimp only at hhs
 conv => whnf
 intro b_3 hs_3 hh_3 hf_3
 try dsimp only at hh_3 hf_3
 conv => whnf
 refine ⟨⟨(by show 2 ≤ 2; omega), rfl⟩, ?_⟩
 conv => whnf
 refine hK _ ?_
 clear hK K
 refine W.rd (cx_ok _) follows (by rfl) fun K hK => ?_
 conv => whnf
 refine ⟨_, cxF ((l08Reduce_P he g1 X hX).toV), ?_⟩
 conv => whnf
 refine ⟨_, cxF (l17Size_fn p none (im p f).l he.fld), ?_⟩
 conv => whnf
 rw [hq1]
 refine ⟨by constructor <;> omega, ?_⟩
 conv => whnf
 refine ⟨by constructor <;> omega, ?_⟩
 conv => whnf
 rw [show (2 : Int) * ((q : Nat) : Int) - 3 = ((2 * q - 3 : Nat) : Int) by omega]
 refine ⟨_, cxF (l17Power_fn p none none (im p f) (im p X) (2 * q - 3) (by omega) (by omega) (by omega) hf0), ?_⟩
 conv => whnf
 rw [hl0]
 refine hK _ ?_
 clear hK K
 refine W.seqK fun K1 hK1 => W.rs (cx_ok _) (by rfl) fun K hK => ?_
 conv => whnf
 refine hK _ (W.block (W.invA (fun m e => ∃ (i : Nat) (y : Poly M), InvI p f X n (2 ^ i) y ∧ i ≤ 40 ∧ m = 40 - i ∧ e = [(1, .v (.ints g1 X.l)), (2, .ownB b_2 (vE p k g f.l)), (6, .v (.ints none y.l)), (7, .v (.int .i64 ((2 ^ i : Nat) : Int)))]) ⟨0, lft M (rem (im p X ^ (2 * q - 3)) (im p f)), hI0, by omega, rfl, rfl⟩ ?_))
 clear hK K
 rintro m e ⟨i, y, hI, hi, hm, rfl⟩
 have hyd := hI.deg
 have hR := rdM_dg he.mn (X * y)
 have hRl : (rdM (X * y) f).l.length = dg (rdM (X * y) f) := rfl
 refine W.seqK fun K7 hK7 => W.rs (cx_ok _) (by rfl) fun K hK => ?_
 conv => whnf
 refine hK _ (W.cond ⟨fun h => ?_, fun h => ?_⟩) <;> clear hK K <;> (first | replace h := of_decide_eq_true h | replace h := of_decide_eq_false h)
 ·have h4 : i < 2 ^ i := Nat.lt_two_pow_self
  have hcd := dg_sub (cn M 2) (rdM (X * y) f)
  have hc2 := cn_dg (m := M) 2
  have hcd2 : dg (cn M 2 - rdM (X * y) f) ≤ n := by omega
  have hps : ((2 ^ (i + 1) : Nat) : Int) = 2 * ((2 ^ i : Nat) : Int) := by rw [Nat.pow_succ]; omega
  refine W.skip (hK7 _ ?_)
  clear hK7 K7
  refine W.seqK fun K8 hK8 => W.block ?_
  refine W.draw (cx_ok _) follows (by rfl) ?_
  conv => whnf
  refine ⟨_, cxF (l20M_fn he g), ?_⟩
  conv => whnf
  refine ⟨by omega, ?_⟩
  conv => whnf
  rw [h2m]
  refine ⟨⟨rfl, by decide⟩, ?_⟩
  conv => whnf
  refine ⟨_, cxF (l20Multiply_fn he g g1 none X y hX hyd), ?_⟩
  conv => whnf
  refine ⟨_, cxF (l20M_fn he g), ?_⟩
  conv => whnf
  refine ⟨_, cxF ((l12Add_fn m9 none none [2 % M] (rdM (X * y) f).l (-1) (.inr rfl) (rg_one h2r) (rg_l _) (by simp) (by omega)).toV), ?_⟩
  conv => whnf
  rw [subM_c1, cn_mod]
  refine ⟨_, cxF (l20Multiply_fn he g none none y (cn M 2 - rdM (X * y) f) hyd hcd2), ?_⟩
  conv => whnf
  refine hK8 _ ?_
  clear hK8 K8
  refine W.region (cx_ok _) (by rfl) ?_
  conv => whnf
  refine ⟨by constructor <;> omega, ?_⟩
  conv => whnf
  refine ⟨_, _, ⟨i + 1, _, (by rw [Nat.pow_succ, Nat.mul_two]; exact hI.step he.mn), by omega, rfl, rfl⟩, by omega, by dsimp only; omega, ?_⟩
  rw [hps]
  repeat' first | refine And.intro ?_ ?_ | exact trivial | rfl | omega | exact .inl rfl | exact fun _ _ => rfl | exact fun _ _ h => h | assumption | exact fun i hi => (by obtain rfl : i = 0 := (by omega); rfl)
 ·obtain rfl := hI.fin hmM he.mn (by omega) hU hU2
  refine W.exit (hK1 _ ?_)
  clear hK7 K7 hK1 K1
  refine W.rs (cx_ok _) (by rfl) fun K hK => ?_
  conv => whnf
  refine hK _ ?_
  clear hK K
  refine W.ret ?_
  conv => whnf
  exact ⟨.v (.ints none y.l), ⟨rfl, rfl⟩, trivial, rfl⟩
end

open Go Go.RowKit Go.Proofs Poly
set_option maxRecDepth 100000
set_option maxHeartbeats 8000000

section
variable {p k M : Int} [SP p] [Pos M] {f : Poly M} {n : Nat}

theorem der_bd (m9 : M ≤ 1000000000) (h9 : dg f ≤ 100) : Bd 100000000000 (mkL (f.l.length - 1) (dv (cf f.l))) := fun j => by
 rw [cf_mkL]
 split
 ·rename_i hj
  have h1 := cf_rng f (j + 1)
  have hfl : f.l.length = dg f := rfl
  have h2 : 0 ≤ ((j : Int) + 1) * cf f.l (j + 1) := Int.mul_nonneg (by omega) h1.1
  have h3 : ((j : Int) + 1) * cf f.l (j + 1) ≤ 100 * 1000000000 := Int.mul_le_mul (by omega) (by omega) h1.1 (by omega)
  unfold dv
  omega
 ·omega
theorem der_l : nrm M (mkL (f.l.length - 1) (dv (cf f.l))) = (derM f).l := rfl
theorem slope_inv (he : ExtP p k M f n) {y : Poly M} {i : Nat} (hI : RootI p f n i y) : ∃ s, dg s ≤ n ∧ Cg f (slp f y * s) 1 :=
 exists_invM he.hm.symm (by have := he.rn.1.small; omega) he.mn he.irr (hI.unit he.pm he.mn he.irr)
theorem slp_dg (he : ExtP p k M f n) (y : Poly M) : dg (slp f y) ≤ n := valM_dg he.mn he.n1 _


theorem frobenius_T (he : ExtP p k M f n) (g : Option Nat) (R : Poly M) (hR : RootI p f n k.toNat R) : FnT Tryz.prog 115 [vE p k g f.l] (R1 R.l) := by
 have h8 := he.n8
 have hn1 := he.n1
 have m9 := he.m9
 have hp := Pos.pos (p := M)
 obtain ⟨s1, s2, s3, s4, s5, s6⟩ := he.rn.1.small
 have hmM : M = p ^ k.toNat := he.hm.symm
 have hf1 := he.mn.1
 have hfl : f.l.length = dg f := rfl
 have hfd := (im_mn he.pm he.mn).1
 have hX1 : dg (X p) ≤ 2 := by show (X p).l.length ≤ 2; rw [X_l]; simp
 have eX : [(0 : Int), 1] = (X p).l := X_l.symm
 have hf0 := he.irr.ne
 have hI0 : RootI p f n (2 ^ 0) (lft M (rem (X p ^ p.toNat) (im p f))) := RootI.start he.pm he.ple he.irr hfd
 have hl0 : (rem (X p ^ p.toNat) (im p f)).l = (lft M (rem (X p ^ p.toNat) (im p f))).l := (lft_l he.ple _).symm
 have hdd := derM_dg f
 have hmkl : (mkL (f.l.length - 1) (dv (cf f.l))).length ≤ 100 := by rw [mkL_length]; omega
 refine fnt_of (cxt_ok [] [0, 1, 2, 3, 4, 5, 6, 24, 1000000]) Tryz.func115 rfl (by decide) Tryz.ntmps115 (Nat.le_of_ble_eq_true rfl) (fun base => ?_) (Nat.le_of_ble_eq_true rfl)
 refine W.sw (c' := cx [0, 1, 2, 3, 4, 5, 6, 24, 1000000]) ?_
 refine W.rs (cx_ok _) (by rfl) fun K hK => ?_
 conv => whnf
 refine ⟨rfl, ?_⟩
 conv => whnf
 intro b_1 hs_1 hh_1 hf_1
 try dsimp only at hh_1 hf_1
 conv => whnf
 refine hK _ ?_
 clear hK K
 refine W.seqK fun K1 hK1 => ?_
 have fin : ∀ (b : Nat) (t : S), base ≤ t.hs → coverK t.env [(vt, .tab fun _ => none), (1, .ownB b_1 (vE p k g f.l)), (3, .ownB b (vK p none (im p f).l)), (4, .v (.int .i64 M))] → K1 t := by
  intro b3 t h7 h9
  refine hK1 _ (W.weak (t := ⟨[(vt, .tab fun _ => none), (1, .ownB b_1 (vE p k g f.l)), (3, .ownB b3 (vK p none (im p f).l)), (4, .v (.int .i64 M))], base⟩) ⟨h7, h9⟩ (Nat.le_refl _) ?_)
  clear hK1 K1
  refine W.sw (c' := cxt [78] [0, 1, 2, 3, 4, 5, 6, 24, 1000000]) ?_
  refine W.rs (cxt_ok _ _) (by rfl) fun K hK => ?_
  conv => whnf
  refine ⟨⟨rfl, by decide⟩, ?_⟩
  conv => whnf
  intro b_7 hs_7 hh_7 hf_7
  try dsimp only at hh_7 hf_7
  conv => whnf
  rw [eX]
  refine ⟨_, cxT (kPowerP_T p none (some b_7) (im p f) (X p) (by omega) (by omega) hf0), fun lo_y hi_y hs_y x_y tn_y tb_y hl1_y hl2_y _ hp_y hf_y hn_y ho_y => ?_⟩
  try dsimp only at hl1_y hl2_y
  obtain ⟨b0, rfl, hy0⟩ := hp_y
  conv => whnf
  refine hK _ ?_
  clear hK K
  rw [hl0]
  rw [hl0] at hy0
  refine W.sw (c' := cxt [] [0, 1, 2, 3, 4, 5, 6, 24, 1000000]) ?_
  refine W.seqK fun K1 hK1 => W.block (W.invA (fun m e => ∃ (i : Nat) (y : Poly M), RootI p f n (2 ^ i) y ∧ i ≤ 40 ∧ m = 40 - i ∧ ((∃ (b : Nat) (tb : Tab), (y.l ≠ [] → tb b = some y.l) ∧ e = [(vt, .tab tb), (1, .ownB b_1 (vE p k g f.l)), (4, .v (.int .i64 M)), (5, .v (.rf b y.l.length))]) ∨ ∃ (b : Nat) (tb : Tab), e = [(vt, .tab tb), (1, .ownB b_1 (vE p k g f.l)), (4, .v (.int .i64 M)), (5, .ownI 2 b y.l)])) ⟨0, _, hI0, by omega, rfl, .inl ⟨b0, tb_y, fun h => hn_y _ _ (hy0 h), rfl⟩⟩ ?_)
  rintro m e ⟨i, y, hI, hi, hm, hcase⟩
  have hyd := hI.deg
  have hV := valM_dg (F := f) (X := y) he.mn hn1 (dg f)
  obtain ⟨s, hs1, hs2⟩ := slope_inv he hI
  have hSd := slp_dg he y
  have hR1 := rdM_dg he.mn (valM f f y (dg f) * s)
  have hRl : (rdM (valM f f y (dg f) * s) f).l.length = dg (rdM (valM f f y (dg f) * s) f) := rfl
  have hyl : y.l.length = dg y := rfl
  have hsl := sub_len y.l (rdM (valM f f y (dg f) * s) f).l
  refine W.give 5 fun K9 hK9 => ?_
  have core : ∀ (b : Nat) (tb : Tab) (t : S), (y.l ≠ [] → tb b = some y.l) → base ≤ t.hs → coverK t.env [(vt, .tab tb), (1, .ownB b_1 (vE p k g f.l)), (4, .v (.int .i64 M)), (5, .v (.rf b y.l.length))] → K9 t := by
   intro b tb t hy h7 h9
   refine hK9 _ (W.weak (t := ⟨[(vt, .tab tb), (1, .ownB b_1 (vE p k g f.l)), (4, .v (.int .i64 M)), (5, .v (.rf b y.l.length))], base⟩) ⟨h7, h9⟩ (Nat.le_refl _) ?_)
   clear hK9 K9 hcase
   refine W.seqK fun K7 hK7 => ?_
   refine W.rs (cxt_ok _ _) (by rfl) fun K hK => ?_
   conv => whnf
   refine ⟨y.l, ⟨rfl, hy⟩, ?_⟩
   conv => whnf
   refine callI rfl (eVal_I he g g (some b) f y (by omega) hyd) fun hs_8 b_8 hh_8 hf_8 => ?_
   try dsimp only at hh_8 hf_8
   conv => whnf
   have hVl : (valM f f y (dg f)).l.length = dg (valM f f y (dg f)) := rfl
   refine hK _ (W.cond ⟨fun h => ?_, fun h => ?_⟩) <;> clear hK K
   ·have h := of_decide_eq_true h
    have hlt : 2 ^ i < k.toNat := Nat.lt_of_not_le fun hle => by
     have h0 := hI.zero_of hmM he.mn hn1 hle
     rw [h0] at hVl h
     rw [zero_dg] at hVl
     omega
    have h4 : i < 2 ^ i := Nat.lt_two_pow_self
    refine W.skip (hK7 _ (W.block ?_))
    clear hK7 K7
    refine W.rd (cxt_ok _ _) follows (by rfl) fun K hK => ?_
    conv => whnf
    refine ⟨_, cxtF (derivative_fn g f.l ((r_bd m9 f).le (by omega)) (by omega)), ?_⟩
    conv => whnf
    refine ⟨_, cxtF ((reduce_fn M (by omega) (by omega) none _ ((der_bd m9 (by omega)).le (by omega)) (by omega)).toV), ?_⟩
    conv => whnf
    rw [der_l]
    refine ⟨y.l, ⟨rfl, hy⟩, ?_⟩
    conv => whnf
    refine ⟨_, cxtF (eVal_fn he g none (some b) (derM f) y (by omega) hyd), ?_⟩
    conv => whnf
    refine hK _ ?_
    clear hK K
    have eS : valM f (derM f) y (dg (derM f)) = slp f y := rfl
    rw [eS]
    refine W.drawS 13 (cxt_ok _ _) follows (by rfl) ?_
    conv => whnf
    refine ⟨y.l, ⟨rfl, hy⟩, ?_⟩
    conv => whnf
    refine ⟨_, cxtF (eVal_fn he g g (some b) f y (by omega) hyd), ?_⟩
    conv => whnf
    refine ⟨_, cxtF (eInv_fn he g none (slp f y) s hSd hs1 hs2), ?_⟩
    conv => whnf
    refine ⟨_, cxtF (eTimes_fn he g none none (valM f f y (dg f)) s hV hs1), ?_⟩
    conv => whnf
    refine ⟨y.l, ⟨rfl, hy⟩, ?_⟩
    conv => whnf
    refine ⟨_, cxtF ((minus_fn (some b) none y.l (rdM (valM f f y (dg f) * s) f).l ((r_bd m9 _).le (by omega)) ((r_bd m9 _).le (by omega)) (by omega) (by omega)).toV), ?_⟩
    conv => whnf
    refine callI rfl (reduce_fn M (by omega) (by omega) none (trimZ (addL y.l (smulL (-1) (rdM (valM f f y (dg f) * s) f).l))) (sub_bd (r_bd m9 _) (r_bd m9 _) (by omega)) (by omega)) fun hs_6 b_6 hh_6 hf_6 => ?_
    try dsimp only at hh_6 hf_6
    conv => whnf
    rw [subM_l]
    exact againA ⟨i + 1, _, (by rw [Nat.pow_succ, Nat.mul_two]; exact hI.next he.pm he.mn (Nat.pow_pos (by omega)) hs2), by omega, rfl, .inr ⟨b_6, tb, rfl⟩⟩
   ·have h := of_decide_eq_false h
    have h0 : valM f f y (dg f) = 0 := dg_eq_zero.1 (by omega)
    obtain rfl := (hI.of_zero he.mn h0 k.toNat).unique hmM (by omega) he.mn he.irr hR (Nat.le_refl _) (Nat.le_refl _)
    refine W.exit (hK1 _ ?_)
    clear hK7 K7 hK1 K1
    refine W.rs (cxt_ok _ _) (by rfl) fun K hK => ?_
    conv => whnf
    refine hK _ ?_
    clear hK K
    refine W.ret ?_
    conv => whnf
    exact ⟨.v (.rf b y.l.length), rfl, trivial, b, rfl, hy⟩
  clear hK9
  rcases hcase with ⟨b, tb, hy, rfl⟩ | ⟨b, tb, rfl⟩
  ·conv => whnf
   refine core b tb _ hy (by dsimp only; omega) ?_
   repeat' first | refine And.intro ?_ ?_ | exact trivial | rfl | omega | exact .inl rfl | exact fun _ _ => rfl | exact fun _ _ h => h | assumption | exact fun i hi => (by obtain rfl : i = 0 := (by omega); rfl)
  ·conv => whnf
   refine core b (tbAdd tb b y.l) _ (fun h => tbAdd_self _ _ h) (by dsimp only; omega) ?_
   repeat' first | refine And.intro ?_ ?_ | exact trivial | rfl | omega | exact .inl rfl | exact fun _ _ => rfl | exact fun _ _ h => h | assumption | exact fun i hi => (by obtain rfl : i = 0 := (by omega); rfl)
 clear hK1
 refine W.sch follows ?_
 refine Wany.all (cx_ok []) (by rfl) (rs := [0, 2, 5]) (by kernel_rfl) (by decide) ?_
 intro i hi
 simp only [List.mem_cons, List.not_mem_nil, or_false] at hi
 rcases hi with rfl | rfl | rfl <;> refine ⟨_, by rfl, by rfl, ?_⟩ <;> conv => whnf
 ·refine Wany.all (cx_ok []) (by rfl) (rs := [1, 2, 5]) (by kernel_rfl) (by decide) ?_
  intro i hi
  simp only [List.mem_cons, List.not_mem_nil, or_false] at hi
  rcases hi with rfl | rfl | rfl <;> refine ⟨_, by rfl, by rfl, ?_⟩ <;> conv => whnf
  ·refine callV rfl (field_P he g) fun hs' hhs => ?_
   try dsimp only at hhs
   conv => whnf
   refine Wany.two (cx_ok []) 2 5 (by rfl) (by kernel_rfl) (by rfl) (by rfl) (by rfl) (by rfl) ?_ ?_ <;> conv => whnf
   ·refine Wany.two (cx_ok []) 3 5 (by rfl) (by kernel_rfl) (by rfl) (by rfl) (by rfl) (by rfl) ?_ ?_ <;> conv => whnf
    ·refine ⟨by show 0 + 2 ≤ 3; omega, ?_⟩
     conv => whnf
     refine Wany.two (cx_ok []) 4 5 (by rfl) (by kernel_rfl) (by rfl) (by rfl) (by rfl) (by rfl) ?_ ?_ <;> conv => whnf
     ·refine callV rfl (ringMod_M he.rn.1 he.hm) fun hs' hhs => ?_
      try dsimp only at hhs
      conv => whnf
      refine Wany.one (cx_ok []) 5 (by rfl) (by kernel_rfl) (by rfl) (by rfl) ?_
      conv => whnf
      intro b_5 hs_5 hh_5 hf_5
      try dsimp only at hh_5 hf_5
      conv => whnf
      refine Wany.one (cx_ok []) 6 (by rfl) (by kernel_rfl) (by rfl) (by rfl) ?_
      conv => whnf
      refine ⟨⟨(by show 2 ≤ 2; omega), rfl⟩, ?_⟩
      conv => whnf
      refine Wany.one (cx_ok []) 7 (by rfl) (by kernel_rfl) (by rfl) (by rfl) ?_
      conv => whnf
      refine Wany.done (by kernel_rfl) (fin b_5 _ (by dsimp only; omega) ?_)
      repeat' first | refine And.intro ?_ ?_ | exact trivial | rfl | omega | exact .inl rfl | exact fun _ _ => rfl | exact fun _ _ h => h | assumption | exact fun i hi => (by obtain rfl : i = 0 := (by omega); rfl)
     ·intro b_5 hs_5 hh_5 hf_5
      try dsimp only at hh_5 hf_5
      conv => whnf
      refine Wany.one (cx_ok []) 4 (by rfl) (by kernel_rfl) (by rfl) (by rfl) ?_
      conv => whnf
      refine callV rfl (ringMod_M he.rn.1 he.hm) fun hs' hhs => ?_
      try dsimp only at hhs
      conv => whnf
      refine Wany.one (cx_ok []) 6 (by rfl) (by kernel_rfl) (by rfl) (by rfl) ?_
      conv => whnf
      refine ⟨⟨(by show 2 ≤ 2; omega), rfl⟩, ?_⟩
      conv => whnf
      refine Wany.one (cx_ok []) 7 (by rfl) (by kernel_rfl) (by rfl) (by rfl) ?_
      conv => whnf
      refine Wany.done (by kernel_rfl) (fin b_5 _ (by dsimp only; omega) ?_)
      repeat' first | refine And.intro ?_ ?_ | exact trivial | rfl | omega | exact .inl rfl | exact fun _ _ => rfl | exact fun _ _ h => h | assumption | exact fun i hi => (by obtain rfl : i = 0 := (by omega); rfl)
    ·intro b_5 hs_5 hh_5 hf_5
     try dsimp only at hh_5 hf_5
     conv => whnf
     refine Wany.one (cx_ok []) 3 (by rfl) (by kernel_rfl) (by rfl) (by rfl) ?_
     conv => whnf
     refine ⟨by show 0 + 2 ≤ 3; omega, ?_⟩
     conv => whnf
     refine Wany.one (cx_ok []) 4 (by rfl) (by kernel_rfl) (by rfl) (by rfl) ?_
     conv => whnf
     refine callV rfl (ringMod_M he.rn.1 he.hm) fun hs' hhs => ?_
     try dsimp only at hhs
     conv => whnf
     refine Wany.one (cx_ok []) 6 (by rfl) (by kernel_rfl) (by rfl) (by rfl) ?_
     conv => whnf
     refine ⟨⟨(by show 2 ≤ 2; omega), rfl⟩, ?_⟩
     conv => whnf
     refine Wany.one (cx_ok []) 7 (by rfl) (by kernel_rfl) (by rfl) (by rfl) ?_
     conv => whnf
     refine Wany.done (by kernel_rfl) (fin b_5 _ (by dsimp only; omega) ?_)
     repeat' first | refine And.intro ?_ ?_ | exact trivial | rfl | omega | exact .inl rfl | exact fun _ _ => rfl | exact fun _ _ h => h | assumption | exact fun i hi => (by obtain rfl : i = 0 := (by omega); rfl)
   ·intro b_5 hs_5 hh_5 hf_5
    try dsimp only at hh_5 hf_5
    conv => whnf
    refine Wany.one (cx_ok []) 2 (by rfl) (by kernel_rfl) (by rfl) (by rfl) ?_
    conv => whnf
    refine Wany.one (cx_ok []) 3 (by rfl) (by kernel_rfl) (by rfl) (by rfl) ?_
    conv => whnf
    refine ⟨by show 0 + 2 ≤ 3; omega, ?_⟩
    conv => whnf
    refine Wany.one (cx_ok []) 4 (by rfl) (by kernel_rfl) (by rfl) (by rfl) ?_
    conv => whnf
    refine callV rfl (ringMod_M he.rn.1 he.hm) fun hs' hhs => ?_
    try dsimp only at hhs
    conv => whnf
    refine Wany.one (cx_ok []) 6 (by rfl) (by kernel_rfl) (by rfl) (by rfl) ?_
    conv => whnf
    refine ⟨⟨(by show 2 ≤ 2; omega), rfl⟩, ?_⟩
    conv => whnf
    refine Wany.one (cx_ok []) 7 (by rfl) (by kernel_rfl) (by rfl) (by rfl) ?_
    conv => whnf
    refine Wany.done (by kernel_rfl) (fin b_5 _ (by dsimp only; omega) ?_)
    repeat' first | refine And.intro ?_ ?_ | exact trivial | rfl | omega | exact .inl rfl | exact fun _ _ => rfl | exact fun _ _ h => h | assumption | exact fun i hi => (by obtain rfl : i = 0 := (by omega); rfl)
  ·refine Wany.all (cx_ok []) (by rfl) (rs := [1, 3, 5]) (by kernel_rfl) (by decide) ?_
   intro i hi
   simp only [List.mem_cons, List.not_mem_nil, or_false] at hi
   rcases hi with rfl | rfl | rfl <;> refine ⟨_, by rfl, by rfl, ?_⟩ <;> conv => whnf
   ·refine callV rfl (field_P he g) fun hs' hhs => ?_
    try dsimp only at hhs
    conv => whnf
    refine Wany.two (cx_ok []) 3 5 (by rfl) (by kernel_rfl) (by rfl) (by rfl) (by rfl) (by rfl) ?_ ?_ <;> conv => whnf
    ·refine ⟨by show 0 + 2 ≤ 3; omega, ?_⟩
     conv => whnf
     refine Wany.two (cx_ok []) 4 5 (by rfl) (by kernel_rfl) (by rfl) (by rfl) (by rfl) (by rfl) ?_ ?_ <;> conv => whnf
     ·refine callV rfl (ringMod_M he.rn.1 he.hm) fun hs' hhs => ?_
      try dsimp only at hhs
      conv => whnf
      refine Wany.one (cx_ok []) 5 (by rfl) (by kernel_rfl) (by rfl) (by rfl) ?_
      conv => whnf
      intro b_5 hs_5 hh_5 hf_5
      try dsimp only at hh_5 hf_5
      conv => whnf
      refine Wany.one (cx_ok []) 6 (by rfl) (by kernel_rfl) (by rfl) (by rfl) ?_
      conv => whnf
      refine ⟨⟨(by show 2 ≤ 2; omega), rfl⟩, ?_⟩
      conv => whnf
      refine Wany.one (cx_ok []) 7 (by rfl) (by kernel_rfl) (by rfl) (by rfl) ?_
      conv => whnf
      refine Wany.done (by kernel_rfl) (fin b_5 _ (by dsimp only; omega) ?_)
      repeat' first | refine And.intro ?_ ?_ | exact trivial | rfl | omega | exact .inl rfl | exact fun _ _ => rfl | exact fun _ _ h => h | assumption | exact fun i hi => (by obtain rfl : i = 0 := (by omega); rfl)
     ·intro b_5 hs_5 hh_5 hf_5
      try dsimp only at hh_5 hf_5
      conv => whnf
      refine Wany.one (cx_ok []) 4 (by rfl) (by kernel_rfl) (by rfl) (by rfl) ?_
      conv => whnf
      refine callV rfl (ringMod_M he.rn.1 he.hm) fun hs' hhs => ?_
      try dsimp only at hhs
      conv => whnf
      refine Wany.one (cx_ok []) 6 (by rfl) (by kernel_rfl) (by rfl) (by rfl) ?_
      conv => whnf
      refine ⟨⟨(by show 2 ≤ 2; omega), rfl⟩, ?_⟩
      conv => whnf
      refine Wany.one (cx_ok []) 7 (by rfl) (by kernel_rfl) (by rfl) (by rfl) ?_
      conv => whnf
      refine Wany.done (by kernel_rfl) (fin b_5 _ (by dsimp only; omega) ?_)
      repeat' first | refine And.intro ?_ ?_ | exact trivial | rfl | omega | exact .inl rfl | exact fun _ _ => rfl | exact fun _ _ h => h | assumption | exact fun i hi => (by obtain rfl : i = 0 := (by omega); rfl)
    ·intro b_5 hs_5 hh_5 hf_5
     try dsimp only at hh_5 hf_5
     conv => whnf
     refine Wany.one (cx_ok []) 3 (by rfl) (by kernel_rfl) (by rfl) (by rfl) ?_
     conv => whnf
     refine ⟨by show 0 + 2 ≤ 3; omega, ?_⟩
     conv => whnf
     refine Wany.one (cx_ok []) 4 (by rfl) (by kernel_rfl) (by rfl) (by rfl) ?_
     conv => whnf
     refine callV rfl (ringMod_M he.rn.1 he.hm) fun hs' hhs => ?_
     try dsimp only at hhs
     conv => whnf
     refine Wany.one (cx_ok []) 6 (by rfl) (by kernel_rfl) (by rfl) (by rfl) ?_
     conv => whnf
     refine ⟨⟨(by show 2 ≤ 2; omega), rfl⟩, ?_⟩
     conv => whnf
     refine Wany.one (cx_ok []) 7 (by rfl) (by kernel_rfl) (by rfl) (by rfl) ?_
     conv => whnf
     refine Wany.done (by kernel_rfl) (fin b_5 _ (by dsimp only; omega) ?_)
     repeat' first | refine And.intro ?_ ?_ | exact trivial | rfl | omega | exact .inl rfl | exact fun _ _ => rfl | exact fun _ _ h => h | assumption | exact fun i hi => (by obtain rfl : i = 0 := (by omega); rfl)
   ·refine ⟨by show 0 + 2 ≤ 3; omega, ?_⟩
    conv => whnf
    refine Wany.two (cx_ok []) 1 5 (by rfl) (by kernel_rfl) (by rfl) (by rfl) (by rfl) (by rfl) ?_ ?_ <;> conv => whnf
    ·refine callV rfl (field_P he g) fun hs' hhs => ?_
     try dsimp only at hhs
     conv => whnf
     refine Wany.two (cx_ok []) 4 5 (by rfl) (by kernel_rfl) (by rfl) (by rfl) (by rfl) (by rfl) ?_ ?_ <;> conv => whnf
     ·refine callV rfl (ringMod_M he.rn.1 he.hm) fun hs' hhs => ?_
      try dsimp only at hhs
      conv => whnf
      refine Wany.one (cx_ok []) 5 (by rfl) (by kernel_rfl) (by rfl) (by rfl) ?_
      conv => whnf
      intro b_5 hs_5 hh_5 hf_5
      try dsimp only at hh_5 hf_5
      conv => whnf
      refine Wany.one (cx_ok []) 6 (by rfl) (by kernel_rfl) (by rfl) (by rfl) ?_
      conv => whnf
      refine ⟨⟨(by show 2 ≤ 2; omega), rfl⟩, ?_⟩
      conv => whnf
      refine Wany.one (cx_ok []) 7 (by rfl) (by kernel_rfl) (by rfl) (by rfl) ?_
      conv => whnf
      refine Wany.done (by kernel_rfl) (fin b_5 _ (by dsimp only; omega) ?_)
      repeat' first | refine And.intro ?_ ?_ | exact trivial | rfl | omega | exact .inl rfl | exact fun _ _ => rfl | exact fun _ _ h => h | assumption | exact fun i hi => (by obtain rfl : i = 0 := (by omega); rfl)
     ·intro b_5 hs_5 hh_5 hf_5
      try dsimp only at hh_5 hf_5
      conv => whnf
      refine Wany.one (cx_ok []) 4 (by rfl) (by kernel_rfl) (by rfl) (by rfl) ?_
      conv => whnf
      refine callV rfl (ringMod_M he.rn.1 he.hm) fun hs' hhs => ?_
      try dsimp only at hhs
      conv => whnf
      refine Wany.one (cx_ok []) 6 (by rfl) (by kernel_rfl) (by rfl) (by rfl) ?_
      conv => whnf
      refine ⟨⟨(by show 2 ≤ 2; omega), rfl⟩, ?_⟩
      conv => whnf
      refine Wany.one (cx_ok []) 7 (by rfl) (by kernel_rfl) (by rfl) (by rfl) ?_
      conv => whnf
      refine Wany.done (by kernel_rfl) (fin b_5 _ (by dsimp only; omega) ?_)
      repeat' first | refine And.intro ?_ ?_ | exact trivial | rfl | omega | exact .inl rfl | exact fun _ _ => rfl | exact fun _ _ h => h | assumption | exact fun i hi => (by obtain rfl : i = 0 := (by omega); rfl)
    ·intro b_5 hs_5 hh_5 hf_5
     try dsimp only at hh_5 hf_5
     conv => whnf
     refine Wany.one (cx_ok []) 1 (by rfl) (by kernel_rfl) (by rfl) (by rfl) ?_
     conv => whnf
     refine callV rfl (field_P he g) fun hs' hhs => ?_
     try dsimp only at hhs
     conv => whnf
     refine Wany.one (cx_ok []) 4 (by rfl) (by kernel_rfl) (by rfl) (by rfl) ?_
     conv => whnf
     refine callV rfl (ringMod_M he.rn.1 he.hm) fun hs' hhs => ?_
     try dsimp only at hhs
     conv => whnf
     refine Wany.one (cx_ok []) 6 (by rfl) (by kernel_rfl) (by rfl) (by rfl) ?_
     conv => whnf
     refine ⟨⟨(by show 2 ≤ 2; omega), rfl⟩, ?_⟩
     conv => whnf
     refine Wany.one (cx_ok []) 7 (by rfl) (by kernel_rfl) (by rfl) (by rfl) ?_
     conv => whnf
     refine Wany.done (by kernel_rfl) (fin b_5 _ (by dsimp only; omega) ?_)
     repeat' first | refine And.intro ?_ ?_ | exact trivial | rfl | omega | exact .inl rfl | exact fun _ _ => rfl | exact fun _ _ h => h | assumption | exact fun i hi => (by obtain rfl : i = 0 := (by omega); rfl)
   ·intro b_5 hs_5 hh_5 hf_5
    try dsimp only at hh_5 hf_5
    conv => whnf
    refine Wany.two (cx_ok []) 1 3 (by rfl) (by kernel_rfl) (by rfl) (by rfl) (by rfl) (by rfl) ?_ ?_ <;> conv => whnf
    ·refine callV rfl (field_P he g) fun hs' hhs => ?_
     try dsimp only at hhs
     conv => whnf
     refine Wany.one (cx_ok []) 3 (by rfl) (by kernel_rfl) (by rfl) (by rfl) ?_
     conv => whnf
     refine ⟨by show 0 + 2 ≤ 3; omega, ?_⟩
     conv => whnf
     refine Wany.one (cx_ok []) 4 (by rfl) (by kernel_rfl) (by rfl) (by rfl) ?_
     conv => whnf
     refine callV rfl (ringMod_M he.rn.1 he.hm) fun hs' hhs => ?_
     try dsimp only at hhs
     conv => whnf
     refine Wany.one (cx_ok []) 6 (by rfl) (by kernel_rfl) (by rfl) (by rfl) ?_
     conv => whnf
     refine ⟨⟨(by show 2 ≤ 2; omega), rfl⟩, ?_⟩
     conv => whnf
     refine Wany.one (cx_ok []) 7 (by rfl) (by kernel_rfl) (by rfl) (by rfl) ?_
     conv => whnf
     refine Wany.done (by kernel_rfl) (fin b_5 _ (by dsimp only; omega) ?_)
     repeat' first | refine And.intro ?_ ?_ | exact trivial | rfl | omega | exact .inl rfl | exact fun _ _ => rfl | exact fun _ _ h => h | assumption | exact fun i hi => (by obtain rfl : i = 0 := (by omega); rfl)
    ·refine ⟨by show 0 + 2 ≤ 3; omega, ?_⟩
     conv => whnf
     refine Wany.one (cx_ok []) 1 (by rfl) (by kernel_rfl) (by rfl) (by rfl) ?_
     conv => whnf
     refine callV rfl (field_P he g) fun hs' hhs => ?_
     try dsimp only at hhs
     conv => whnf
     refine Wany.one (cx_ok []) 4 (by rfl) (by kernel_rfl) (by rfl) (by rfl) ?_
     conv => whnf
     refine callV rfl (ringMod_M he.rn.1 he.hm) fun hs' hhs => ?_
     try dsimp only at hhs
     conv => whnf
     refine Wany.one (cx_ok []) 6 (by rfl) (by kernel_rfl) (by rfl) (by rfl) ?_
     conv => whnf
     refine ⟨⟨(by show 2 ≤ 2; omega), rfl⟩, ?_⟩
     conv => whnf
     refine Wany.one (cx_ok []) 7 (by rfl) (by kernel_rfl) (by rfl) (by rfl) ?_
     conv => whnf
     refine Wany.done (by kernel_rfl) (fin b_5 _ (by dsimp only; omega) ?_)
     repeat' first | refine And.intro ?_ ?_ | exact trivial | rfl | omega | exact .inl rfl | exact fun _ _ => rfl | exact fun _ _ h => h | assumption | exact fun i hi => (by obtain rfl : i = 0 := (by omega); rfl)
  ·intro b_5 hs_5 hh_5 hf_5
   try dsimp only at hh_5 hf_5
   conv => whnf
   refine Wany.two (cx_ok []) 1 2 (by rfl) (by kernel_rfl) (by rfl) (by rfl) (by rfl) (by rfl) ?_ ?_ <;> conv => whnf
   ·refine callV rfl (field_P he g) fun hs' hhs => ?_
    try dsimp only at hhs
    conv => whnf
    refine Wany.one (cx_ok []) 2 (by rfl) (by kernel_rfl) (by rfl) (by rfl) ?_
    conv => whnf
    refine Wany.one (cx_ok []) 3 (by rfl) (by kernel_rfl) (by rfl) (by rfl) ?_
    conv => whnf
    refine ⟨by show 0 + 2 ≤ 3; omega, ?_⟩
    conv => whnf
    refine Wany.one (cx_ok []) 4 (by rfl) (by kernel_rfl) (by rfl) (by rfl) ?_
    conv => whnf
    refine callV rfl (ringMod_M he.rn.1 he.hm) fun hs' hhs => ?_
    try dsimp only at hhs
    conv => whnf
    refine Wany.one (cx_ok []) 6 (by rfl) (by kernel_rfl) (by rfl) (by rfl) ?_
    conv => whnf
    refine ⟨⟨(by show 2 ≤ 2; omega), rfl⟩, ?_⟩
    conv => whnf
    refine Wany.one (cx_ok []) 7 (by rfl) (by kernel_rfl) (by rfl) (by rfl) ?_
    conv => whnf
    refine Wany.done (by kernel_rfl) (fin b_5 _ (by dsimp only; omega) ?_)
    repeat' first | refine And.intro ?_ ?_ | exact trivial | rfl | omega | exact .inl rfl | exact fun _ _ => rfl | exact fun _ _ h => h | assumption | exact fun i hi => (by obtain rfl : i = 0 := (by omega); rfl)
   ·refine Wany.two (cx_ok []) 1 3 (by rfl) (by kernel_rfl) (by rfl) (by rfl) (by rfl) (by rfl) ?_ ?_ <;> conv => whnf
    ·refine callV rfl (field_P he g) fun hs' hhs => ?_
     try dsimp only at hhs
     conv => whnf
     refine Wany.one (cx_ok []) 3 (by rfl) (by kernel_rfl) (by rfl) (by rfl) ?_
     conv => whnf
     refine ⟨by show 0 + 2 ≤ 3; omega, ?_⟩
     conv => whnf
     refine Wany.one (cx_ok []) 4 (by rfl) (by kernel_rfl) (by rfl) (by rfl) ?_
     conv => whnf
     refine callV rfl (ringMod_M he.rn.1 he.hm) fun hs' hhs => ?_
     try dsimp only at hhs
     conv => whnf
     refine Wany.one (cx_ok []) 6 (by rfl) (by kernel_rfl) (by rfl) (by rfl) ?_
     conv => whnf
     refine ⟨⟨(by show 2 ≤ 2; omega), rfl⟩, ?_⟩
     conv => whnf
     refine Wany.one (cx_ok []) 7 (by rfl) (by kernel_rfl) (by rfl) (by rfl) ?_
     conv => whnf
     refine Wany.done (by kernel_rfl) (fin b_5 _ (by dsimp only; omega) ?_)
     repeat' first | refine And.intro ?_ ?_ | exact trivial | rfl | omega | exact .inl rfl | exact fun _ _ => rfl | exact fun _ _ h => h | assumption | exact fun i hi => (by obtain rfl : i = 0 := (by omega); rfl)
    ·refine ⟨by show 0 + 2 ≤ 3; omega, ?_⟩
     conv => whnf
     refine Wany.one (cx_ok []) 1 (by rfl) (by kernel_rfl) (by rfl) (by rfl) ?_
     conv => whnf
     refine callV rfl (field_P he g) fun hs' hhs => ?_
     try dsimp only at hhs
     conv => whnf
     refine Wany.one (cx_ok []) 4 (by rfl) (by kernel_rfl) (by rfl) (by rfl) ?_
     conv => whnf
     refine callV rfl (ringMod_M he.rn.1 he.hm) fun hs' hhs => ?_
     try dsimp only at hhs
     conv => whnf
     refine Wany.one (cx_ok []) 6 (by rfl) (by kernel_rfl) (by rfl) (by rfl) ?_
     conv => whnf
     refine ⟨⟨(by show 2 ≤ 2; omega), rfl⟩, ?_⟩
     conv => whnf
     refine Wany.one (cx_ok []) 7 (by rfl) (by kernel_rfl) (by rfl) (by rfl) ?_
     conv => whnf
     refine Wany.done (by kernel_rfl) (fin b_5 _ (by dsimp only; omega) ?_)
     repeat' first | refine And.intro ?_ ?_ | exact trivial | rfl | omega | exact .inl rfl | exact fun _ _ => rfl | exact fun _ _ h => h | assumption | exact fun i hi => (by obtain rfl : i = 0 := (by omega); rfl)
 ·refine Wany.all (cx_ok []) (by rfl) (rs := [0, 3, 5]) (by kernel_rfl) (by decide) ?_
  intro i hi
  simp only [List.mem_cons, List.not_mem_nil, or_false] at hi
  rcases hi with rfl | rfl | rfl <;> refine ⟨_, by rfl, by rfl, ?_⟩ <;> conv => whnf
  ·refine Wany.all (cx_ok []) (by rfl) (rs := [1, 3, 5]) (by kernel_rfl) (by decide) ?_
   intro i hi
   simp only [List.mem_cons, List.not_mem_nil, or_false] at hi
   rcases hi with rfl | rfl | rfl <;> refine ⟨_, by rfl, by rfl, ?_⟩ <;> conv => whnf
   ·refine callV rfl (field_P he g) fun hs' hhs => ?_
    try dsimp only at hhs
    conv => whnf
    refine Wany.two (cx_ok []) 3 5 (by rfl) (by kernel_rfl) (by rfl) (by rfl) (by rfl) (by rfl) ?_ ?_ <;> conv => whnf
    ·refine ⟨by show 0 + 2 ≤ 3; omega, ?_⟩
     conv => whnf
     refine Wany.two (cx_ok []) 4 5 (by rfl) (by kernel_rfl) (by rfl) (by rfl) (by rfl) (by rfl) ?_ ?_ <;> conv => whnf
     ·refine callV rfl (ringMod_M he.rn.1 he.hm) fun hs' hhs => ?_
      try dsimp only at hhs
      conv => whnf
      refine Wany.one (cx_ok []) 5 (by rfl) (by kernel_rfl) (by rfl) (by rfl) ?_
      conv => whnf
      intro b_5 hs_5 hh_5 hf_5
      try dsimp only at hh_5 hf_5
      conv => whnf
      refine Wany.one (cx_ok []) 6 (by rfl) (by kernel_rfl) (by rfl) (by rfl) ?_
      conv => whnf
      refine ⟨⟨(by show 2 ≤ 2; omega), rfl⟩, ?_⟩
      conv => whnf
      refine Wany.one (cx_ok []) 7 (by rfl) (by kernel_rfl) (by rfl) (by rfl) ?_
      conv => whnf
      refine Wany.done (by kernel_rfl) (fin b_5 _ (by dsimp only; omega) ?_)
      repeat' first | refine And.intro ?_ ?_ | exact trivial | rfl | omega | exact .inl rfl | exact fun _ _ => rfl | exact fun _ _ h => h | assumption | exact fun i hi => (by obtain rfl : i = 0 := (by omega); rfl)
     ·intro b_5 hs_5 hh_5 hf_5
      try dsimp only at hh_5 hf_5
      conv => whnf
      refine Wany.one (cx_ok []) 4 (by rfl) (by kernel_rfl) (by rfl) (by rfl) ?_
      conv => whnf
      refine callV rfl (ringMod_M he.rn.1 he.hm) fun hs' hhs => ?_
      try dsimp only at hhs
      conv => whnf
      refine Wany.one (cx_ok []) 6 (by rfl) (by kernel_rfl) (by rfl) (by rfl) ?_
      conv => whnf
      refine ⟨⟨(by show 2 ≤ 2; omega), rfl⟩, ?_⟩
      conv => whnf
      refine Wany.one (cx_ok []) 7 (by rfl) (by kernel_rfl) (by rfl) (by rfl) ?_
      conv => whnf
      refine Wany.done (by kernel_rfl) (fin b_5 _ (by dsimp only; omega) ?_)
      repeat' first | refine And.intro ?_ ?_ | exact trivial | rfl | omega | exact .inl rfl | exact fun _ _ => rfl | exact fun _ _ h => h | assumption | exact fun i hi => (by obtain rfl : i = 0 := (by omega); rfl)
    ·intro b_5 hs_5 hh_5 hf_5
     try dsimp only at hh_5 hf_5
     conv => whnf
     refine Wany.one (cx_ok []) 3 (by rfl) (by kernel_rfl) (by rfl) (by rfl) ?_
     conv => whnf
     refine ⟨by show 0 + 2 ≤ 3; omega, ?_⟩
     conv => whnf
     refine Wany.one (cx_ok []) 4 (by rfl) (by kernel_rfl) (by rfl) (by rfl) ?_
     conv => whnf
     refine callV rfl (ringMod_M he.rn.1 he.hm) fun hs' hhs => ?_
     try dsimp only at hhs
     conv => whnf
     refine Wany.one (cx_ok []) 6 (by rfl) (by kernel_rfl) (by rfl) (by rfl) ?_
     conv => whnf
     refine ⟨⟨(by show 2 ≤ 2; omega), rfl⟩, ?_⟩
     conv => whnf
     refine Wany.one (cx_ok []) 7 (by rfl) (by kernel_rfl) (by rfl) (by rfl) ?_
     conv => whnf
     refine Wany.done (by kernel_rfl) (fin b_5 _ (by dsimp only; omega) ?_)
     repeat' first | refine And.intro ?_ ?_ | exact trivial | rfl | omega | exact .inl rfl | exact fun _ _ => rfl | exact fun _ _ h => h | assumption | exact fun i hi => (by obtain rfl : i = 0 := (by omega); rfl)
   ·refine ⟨by show 0 + 2 ≤ 3; omega, ?_⟩
    conv => whnf
    refine Wany.two (cx_ok []) 1 5 (by rfl) (by kernel_rfl) (by rfl) (by rfl) (by rfl) (by rfl) ?_ ?_ <;> conv => whnf
    ·refine callV rfl (field_P he g) fun hs' hhs => ?_
     try dsimp only at hhs
     conv => whnf
     refine Wany.two (cx_ok []) 4 5 (by rfl) (by kernel_rfl) (by rfl) (by rfl) (by rfl) (by rfl) ?_ ?_ <;> conv => whnf
     ·refine callV rfl (ringMod_M he.rn.1 he.hm) fun hs' hhs => ?_
      try dsimp only at hhs
      conv => whnf
      refine Wany.one (cx_ok []) 5 (by rfl) (by kernel_rfl) (by rfl) (by rfl) ?_
      conv => whnf
      intro b_5 hs_5 hh_5 hf_5
      try dsimp only at hh_5 hf_5
      conv => whnf
      refine Wany.one (cx_ok []) 6 (by rfl) (by kernel_rfl) (by rfl) (by rfl) ?_
      conv => whnf
      refine ⟨⟨(by show 2 ≤ 2; omega), rfl⟩, ?_⟩
      conv => whnf
      refine Wany.one (cx_ok []) 7 (by rfl) (by kernel_rfl) (by rfl) (by rfl) ?_
      conv => whnf
      refine Wany.done (by kernel_rfl) (fin b_5 _ (by dsimp only; omega) ?_)
      repeat' first | refine And.intro ?_ ?_ | exact trivial | rfl | omega | exact .inl rfl | exact fun _ _ => rfl | exact fun _ _ h => h | assumption | exact fun i hi => (by obtain rfl : i = 0 := (by omega); rfl)
     ·intro b_5 hs_5 hh_5 hf_5
      try dsimp only at hh_5 hf_5
      conv => whnf
      refine Wany.one (cx_ok []) 4 (by rfl) (by kernel_rfl) (by rfl) (by rfl) ?_
      conv => whnf
      refine callV rfl (ringMod_M he.rn.1 he.hm) fun hs' hhs => ?_
      try dsimp only at hhs
      conv => whnf
      refine Wany.one (cx_ok []) 6 (by rfl) (by kernel_rfl) (by rfl) (by rfl) ?_
      conv => whnf
      refine ⟨⟨(by show 2 ≤ 2; omega), rfl⟩, ?_⟩
      conv => whnf
      refine Wany.one (cx_ok []) 7 (by rfl) (by kernel_rfl) (by rfl) (by rfl) ?_
      conv => whnf
      refine Wany.done (by kernel_rfl) (fin b_5 _ (by dsimp only; omega) ?_)
      repeat' first | refine And.intro ?_ ?_ | exact trivial | rfl | omega | exact .inl rfl | exact fun _ _ => rfl | exact fun _ _ h => h | assumption | exact fun i hi => (by obtain rfl : i = 0 := (by omega); rfl)
    ·intro b_5 hs_5 hh_5 hf_5
     try dsimp only at hh_5 hf_5
     conv => whnf
     refine Wany.one (cx_ok []) 1 (by rfl) (by kernel_rfl) (by rfl) (by rfl) ?_
     conv => whnf
     refine callV rfl (field_P he g) fun hs' hhs => ?_
     try dsimp only at hhs
     conv => whnf
     refine Wany.one (cx_ok []) 4 (by rfl) (by kernel_rfl) (by rfl) (by rfl) ?_
     conv => whnf
     refine callV rfl (ringMod_M he.rn.1 he.hm) fun hs' hhs => ?_
     try dsimp only at hhs
     conv => whnf
     refine Wany.one (cx_ok []) 6 (by rfl) (by kernel_rfl) (by rfl) (by rfl) ?_
     conv => whnf
     refine ⟨⟨(by show 2 ≤ 2; omega), rfl⟩, ?_⟩
     conv => whnf
     refine Wany.one (cx_ok []) 7 (by rfl) (by kernel_rfl) (by rfl) (by rfl) ?_
     conv => whnf
     refine Wany.done (by kernel_rfl) (fin b_5 _ (by dsimp only; omega) ?_)
     repeat' first | refine And.intro ?_ ?_ | exact trivial | rfl | omega | exact .inl rfl | exact fun _ _ => rfl | exact fun _ _ h => h | assumption | exact fun i hi => (by obtain rfl : i = 0 := (by omega); rfl)
   ·intro b_5 hs_5 hh_5 hf_5
    try dsimp only at hh_5 hf_5
    conv => whnf
    refine Wany.two (cx_ok []) 1 3 (by rfl) (by kernel_rfl) (by rfl) (by rfl) (by rfl) (by rfl) ?_ ?_ <;> conv => whnf
    ·refine callV rfl (field_P he g) fun hs' hhs => ?_
     try dsimp only at hhs
     conv => whnf
     refine Wany.one (cx_ok []) 3 (by rfl) (by kernel_rfl) (by rfl) (by rfl) ?_
     conv => whnf
     refine ⟨by show 0 + 2 ≤ 3; omega, ?_⟩
     conv => whnf
     refine Wany.one (cx_ok []) 4 (by rfl) (by kernel_rfl) (by rfl) (by rfl) ?_
     conv => whnf
     refine callV rfl (ringMod_M he.rn.1 he.hm) fun hs' hhs => ?_
     try dsimp only at hhs
     conv => whnf
     refine Wany.one (cx_ok []) 6 (by rfl) (by kernel_rfl) (by rfl) (by rfl) ?_
     conv => whnf
     refine ⟨⟨(by show 2 ≤ 2; omega), rfl⟩, ?_⟩
     conv => whnf
     refine Wany.one (cx_ok []) 7 (by rfl) (by kernel_rfl) (by rfl) (by rfl) ?_
     conv => whnf
     refine Wany.done (by kernel_rfl) (fin b_5 _ (by dsimp only; omega) ?_)
     repeat' first | refine And.intro ?_ ?_ | exact trivial | rfl | omega | exact .inl rfl | exact fun _ _ => rfl | exact fun _ _ h => h | assumption | exact fun i hi => (by obtain rfl : i = 0 := (by omega); rfl)
    ·refine ⟨by show 0 + 2 ≤ 3; omega, ?_⟩
     conv => whnf
     refine Wany.one (cx_ok []) 1 (by rfl) (by kernel_rfl) (by rfl) (by rfl) ?_
     conv => whnf
     refine callV rfl (field_P he g) fun hs' hhs => ?_
     try dsimp only at hhs
     conv => whnf
     refine Wany.one (cx_ok []) 4 (by rfl) (by kernel_rfl) (by rfl) (by rfl) ?_
     conv => whnf
     refine callV rfl (ringMod_M he.rn.1 he.hm) fun hs' hhs => ?_
     try dsimp only at hhs
     conv => whnf
     refine Wany.one (cx_ok []) 6 (by rfl) (by kernel_rfl) (by rfl) (by rfl) ?_
     conv => whnf
     refine ⟨⟨(by show 2 ≤ 2; omega), rfl⟩, ?_⟩
     conv => whnf
     refine Wany.one (cx_ok []) 7 (by rfl) (by kernel_rfl) (by rfl) (by rfl) ?_
     conv => whnf
     refine Wany.done (by kernel_rfl) (fin b_5 _ (by dsimp only; omega) ?_)
     repeat' first | refine And.intro ?_ ?_ | exact trivial | rfl | omega | exact .inl rfl | exact fun _ _ => rfl | exact fun _ _ h => h | assumption | exact fun i hi => (by obtain rfl : i = 0 := (by omega); rfl)
  ·refine ⟨by show 0 + 2 ≤ 3; omega, ?_⟩
   conv => whnf
   refine Wany.two (cx_ok []) 0 5 (by rfl) (by kernel_rfl) (by rfl) (by rfl) (by rfl) (by rfl) ?_ ?_ <;> conv => whnf
   ·refine Wany.two (cx_ok []) 1 5 (by rfl) (by kernel_rfl) (by rfl) (by rfl) (by rfl) (by rfl) ?_ ?_ <;> conv => whnf
    ·refine callV rfl (field_P he g) fun hs' hhs => ?_
     try dsimp only at hhs
     conv => whnf
     refine Wany.two (cx_ok []) 4 5 (by rfl) (by kernel_rfl) (by rfl) (by rfl) (by rfl) (by rfl) ?_ ?_ <;> conv => whnf
     ·refine callV rfl (ringMod_M he.rn.1 he.hm) fun hs' hhs => ?_
      try dsimp only at hhs
      conv => whnf
      refine Wany.one (cx_ok []) 5 (by rfl) (by kernel_rfl) (by rfl) (by rfl) ?_
      conv => whnf
      intro b_5 hs_5 hh_5 hf_5
      try dsimp only at hh_5 hf_5
      conv => whnf
      refine Wany.one (cx_ok []) 6 (by rfl) (by kernel_rfl) (by rfl) (by rfl) ?_
      conv => whnf
      refine ⟨⟨(by show 2 ≤ 2; omega), rfl⟩, ?_⟩
      conv => whnf
      refine Wany.one (cx_ok []) 7 (by rfl) (by kernel_rfl) (by rfl) (by rfl) ?_
      conv => whnf
      refine Wany.done (by kernel_rfl) (fin b_5 _ (by dsimp only; omega) ?_)
      repeat' first | refine And.intro ?_ ?_ | exact trivial | rfl | omega | exact .inl rfl | exact fun _ _ => rfl | exact fun _ _ h => h | assumption | exact fun i hi => (by obtain rfl : i = 0 := (by omega); rfl)
     ·intro b_5 hs_5 hh_5 hf_5
      try dsimp only at hh_5 hf_5
      conv => whnf
      refine Wany.one (cx_ok []) 4 (by rfl) (by kernel_rfl) (by rfl) (by rfl) ?_
      conv => whnf
      refine callV rfl (ringMod_M he.rn.1 he.hm) fun hs' hhs => ?_
      try dsimp only at hhs
      conv => whnf
      refine Wany.one (cx_ok []) 6 (by rfl) (by kernel_rfl) (by rfl) (by rfl) ?_
      conv => whnf
      refine ⟨⟨(by show 2 ≤ 2; omega), rfl⟩, ?_⟩
      conv => whnf
      refine Wany.one (cx_ok []) 7 (by rfl) (by kernel_rfl) (by rfl) (by rfl) ?_
      conv => whnf
      refine Wany.done (by kernel_rfl) (fin b_5 _ (by dsimp only; omega) ?_)
      repeat' first | refine And.intro ?_ ?_ | exact trivial | rfl | omega | exact .inl rfl | exact fun _ _ => rfl | exact fun _ _ h => h | assumption | exact fun i hi => (by obtain rfl : i = 0 := (by omega); rfl)
    ·intro b_5 hs_5 hh_5 hf_5
     try dsimp only at hh_5 hf_5
     conv => whnf
     refine Wany.one (cx_ok []) 1 (by rfl) (by kernel_rfl) (by rfl) (by rfl) ?_
     conv => whnf
     refine callV rfl (field_P he g) fun hs' hhs => ?_
     try dsimp only at hhs
     conv => whnf
     refine Wany.one (cx_ok []) 4 (by rfl) (by kernel_rfl) (by rfl) (by rfl) ?_
     conv => whnf
     refine callV rfl (ringMod_M he.rn.1 he.hm) fun hs' hhs => ?_
     try dsimp only at hhs
     conv => whnf
     refine Wany.one (cx_ok []) 6 (by rfl) (by kernel_rfl) (by rfl) (by rfl) ?_
     conv => whnf
     refine ⟨⟨(by show 2 ≤ 2; omega), rfl⟩, ?_⟩
     conv => whnf
     refine Wany.one (cx_ok []) 7 (by rfl) (by kernel_rfl) (by rfl) (by rfl) ?_
     conv => whnf
     refine Wany.done (by kernel_rfl) (fin b_5 _ (by dsimp only; omega) ?_)
     repeat' first | refine And.intro ?_ ?_ | exact trivial | rfl | omega | exact .inl rfl | exact fun _ _ => rfl | exact fun _ _ h => h | assumption | exact fun i hi => (by obtain rfl : i = 0 := (by omega); rfl)
   ·intro b_5 hs_5 hh_5 hf_5
    try dsimp only at hh_5 hf_5
    conv => whnf
    refine Wany.one (cx_ok []) 0 (by rfl) (by kernel_rfl) (by rfl) (by rfl) ?_
    conv => whnf
    refine Wany.one (cx_ok []) 1 (by rfl) (by kernel_rfl) (by rfl) (by rfl) ?_
    conv => whnf
    refine callV rfl (field_P he g) fun hs' hhs => ?_
    try dsimp only at hhs
    conv => whnf
    refine Wany.one (cx_ok []) 4 (by rfl) (by kernel_rfl) (by rfl) (by rfl) ?_
    conv => whnf
    refine callV rfl (ringMod_M he.rn.1 he.hm) fun hs' hhs => ?_
    try dsimp only at hhs
    conv => whnf
    refine Wany.one (cx_ok []) 6 (by rfl) (by kernel_rfl) (by rfl) (by rfl) ?_
    conv => whnf
    refine ⟨⟨(by show 2 ≤ 2; omega), rfl⟩, ?_⟩
    conv => whnf
    refine Wany.one (cx_ok []) 7 (by rfl) (by kernel_rfl) (by rfl) (by rfl) ?_
    conv => whnf
    refine Wany.done (by kernel_rfl) (fin b_5 _ (by dsimp only; omega) ?_)
    repeat' first | refine And.intro ?_ ?_ | exact trivial | rfl | omega | exact .inl rfl | exact fun _ _ => rfl | exact fun _ _ h => h | assumption | exact fun i hi => (by obtain rfl : i = 0 := (by omega); rfl)
  ·intro b_5 hs_5 hh_5 hf_5
   try dsimp only at hh_5 hf_5
   conv => whnf
   refine Wany.two (cx_ok []) 0 3 (by rfl) (by kernel_rfl) (by rfl) (by rfl) (by rfl) (by rfl) ?_ ?_ <;> conv => whnf
   ·refine Wany.two (cx_ok []) 1 3 (by rfl) (by kernel_rfl) (by rfl) (by rfl) (by rfl) (by rfl) ?_ ?_ <;> conv => whnf
    ·refine callV rfl (field_P he g) fun hs' hhs => ?_
     try dsimp only at hhs
     conv => whnf
     refine Wany.one (cx_ok []) 3 (by rfl) (by kernel_rfl) (by rfl) (by rfl) ?_
     conv => whnf
     refine ⟨by show 0 + 2 ≤ 3; omega, ?_⟩
     conv => whnf
     refine Wany.one (cx_ok []) 4 (by rfl) (by kernel_rfl) (by rfl) (by rfl) ?_
     conv => whnf
     refine callV rfl (ringMod_M he.rn.1 he.hm) fun hs' hhs => ?_
     try dsimp only at hhs
     conv => whnf
     refine Wany.one (cx_ok []) 6 (by rfl) (by kernel_rfl) (by rfl) (by rfl) ?_
     conv => whnf
     refine ⟨⟨(by show 2 ≤ 2; omega), rfl⟩, ?_⟩
     conv => whnf
     refine Wany.one (cx_ok []) 7 (by rfl) (by kernel_rfl) (by rfl) (by rfl) ?_
     conv => whnf
     refine Wany.done (by kernel_rfl) (fin b_5 _ (by dsimp only; omega) ?_)
     repeat' first | refine And.intro ?_ ?_ | exact trivial | rfl | omega | exact .inl rfl | exact fun _ _ => rfl | exact fun _ _ h => h | assumption | exact fun i hi => (by obtain rfl : i = 0 := (by omega); rfl)
    ·refine ⟨by show 0 + 2 ≤ 3; omega, ?_⟩
     conv => whnf
     refine Wany.one (cx_ok []) 1 (by rfl) (by kernel_rfl) (by rfl) (by rfl) ?_
     conv => whnf
     refine callV rfl (field_P he g) fun hs' hhs => ?_
     try dsimp only at hhs
     conv => whnf
     refine Wany.one (cx_ok []) 4 (by rfl) (by kernel_rfl) (by rfl) (by rfl) ?_
     conv => whnf
     refine callV rfl (ringMod_M he.rn.1 he.hm) fun hs' hhs => ?_
     try dsimp only at hhs
     conv => whnf
     refine Wany.one (cx_ok []) 6 (by rfl) (by kernel_rfl) (by rfl) (by rfl) ?_
     conv => whnf
     refine ⟨⟨(by show 2 ≤ 2; omega), rfl⟩, ?_⟩
     conv => whnf
     refine Wany.one (cx_ok []) 7 (by rfl) (by kernel_rfl) (by rfl) (by rfl) ?_
     conv => whnf
     refine Wany.done (by kernel_rfl) (fin b_5 _ (by dsimp only; omega) ?_)
     repeat' first | refine And.intro ?_ ?_ | exact trivial | rfl | omega | exact .inl rfl | exact fun _ _ => rfl | exact fun _ _ h => h | assumption | exact fun i hi => (by obtain rfl : i = 0 := (by omega); rfl)
   ·refine ⟨by show 0 + 2 ≤ 3; omega, ?_⟩
    conv => whnf
    refine Wany.one (cx_ok []) 0 (by rfl) (by kernel_rfl) (by rfl) (by rfl) ?_
    conv => whnf
    refine Wany.one (cx_ok []) 1 (by rfl) (by kernel_rfl) (by rfl) (by rfl) ?_
    conv => whnf
    refine callV rfl (field_P he g) fun hs' hhs => ?_
    try dsimp only at hhs
    conv => whnf
    refine Wany.one (cx_ok []) 4 (by rfl) (by kernel_rfl) (by rfl) (by rfl) ?_
    conv => whnf
    refine callV rfl (ringMod_M he.rn.1 he.hm) fun hs' hhs => ?_
    try dsimp only at hhs
    conv => whnf
    refine Wany.one (cx_ok []) 6 (by rfl) (by kernel_rfl) (by rfl) (by rfl) ?_
    conv => whnf
    refine ⟨⟨(by show 2 ≤ 2; omega), rfl⟩, ?_⟩
    conv => whnf
    refine Wany.one (cx_ok []) 7 (by rfl) (by kernel_rfl) (by rfl) (by rfl) ?_
    conv => whnf
    refine Wany.done (by kernel_rfl) (fin b_5 _ (by dsimp only; omega) ?_)
    repeat' first | refine And.intro ?_ ?_ | exact trivial | rfl | omega | exact .inl rfl | exact fun _ _ => rfl | exact fun _ _ h => h | assumption | exact fun i hi => (by obtain rfl : i = 0 := (by omega); rfl)
 ·intro b_5 hs_5 hh_5 hf_5
  try dsimp only at hh_5 hf_5
  conv => whnf
  refine Wany.two (cx_ok []) 0 2 (by rfl) (by kernel_rfl) (by rfl) (by rfl) (by rfl) (by rfl) ?_ ?_ <;> conv => whnf
  ·refine Wany.two (cx_ok []) 1 2 (by rfl) (by kernel_rfl) (by rfl) (by rfl) (by rfl) (by rfl) ?_ ?_ <;> conv => whnf
   ·refine callV rfl (field_P he g) fun hs' hhs => ?_
    try dsimp only at hhs
    conv => whnf
    refine Wany.one (cx_ok []) 2 (by rfl) (by kernel_rfl) (by rfl) (by rfl) ?_
    conv => whnf
    refine Wany.one (cx_ok []) 3 (by rfl) (by kernel_rfl) (by rfl) (by rfl) ?_
    conv => whnf
    refine ⟨by show 0 + 2 ≤ 3; omega, ?_⟩
    conv => whnf
    refine Wany.one (cx_ok []) 4 (by rfl) (by kernel_rfl) (by rfl) (by rfl) ?_
    conv => whnf
    refine callV rfl (ringMod_M he.rn.1 he.hm) fun hs' hhs => ?_
    try dsimp only at hhs
    conv => whnf
    refine Wany.one (cx_ok []) 6 (by rfl) (by kernel_rfl) (by rfl) (by rfl) ?_
    conv => whnf
    refine ⟨⟨(by show 2 ≤ 2; omega), rfl⟩, ?_⟩
    conv => whnf
    refine Wany.one (cx_ok []) 7 (by rfl) (by kernel_rfl) (by rfl) (by rfl) ?_
    conv => whnf
    refine Wany.done (by kernel_rfl) (fin b_5 _ (by dsimp only; omega) ?_)
    repeat' first | refine And.intro ?_ ?_ | exact trivial | rfl | omega | exact .inl rfl | exact fun _ _ => rfl | exact fun _ _ h => h | assumption | exact fun i hi => (by obtain rfl : i = 0 := (by omega); rfl)
   ·refine Wany.two (cx_ok []) 1 3 (by rfl) (by kernel_rfl) (by rfl) (by rfl) (by rfl) (by rfl) ?_ ?_ <;> conv => whnf
    ·refine callV rfl (field_P he g) fun hs' hhs => ?_
     try dsimp only at hhs
     conv => whnf
     refine Wany.one (cx_ok []) 3 (by rfl) (by kernel_rfl) (by rfl) (by rfl) ?_
     conv => whnf
     refine ⟨by show 0 + 2 ≤ 3; omega, ?_⟩
     conv => whnf
     refine Wany.one (cx_ok []) 4 (by rfl) (by kernel_rfl) (by rfl) (by rfl) ?_
     conv => whnf
     refine callV rfl (ringMod_M he.rn.1 he.hm) fun hs' hhs => ?_
     try dsimp only at hhs
     conv => whnf
     refine Wany.one (cx_ok []) 6 (by rfl) (by kernel_rfl) (by rfl) (by rfl) ?_
     conv => whnf
     refine ⟨⟨(by show 2 ≤ 2; omega), rfl⟩, ?_⟩
     conv => whnf
     refine Wany.one (cx_ok []) 7 (by rfl) (by kernel_rfl) (by rfl) (by rfl) ?_
     conv => whnf
     refine Wany.done (by kernel_rfl) (fin b_5 _ (by dsimp only; omega) ?_)
     repeat' first | refine And.intro ?_ ?_ | exact trivial | rfl | omega | exact .inl rfl | exact fun _ _ => rfl | exact fun _ _ h => h | assumption | exact fun i hi => (by obtain rfl : i = 0 := (by omega); rfl)
    ·refine ⟨by show 0 + 2 ≤ 3; omega, ?_⟩
     conv => whnf
     refine Wany.one (cx_ok []) 1 (by rfl) (by kernel_rfl) (by rfl) (by rfl) ?_
     conv => whnf
     refine callV rfl (field_P he g) fun hs' hhs => ?_
     try dsimp only at hhs
     conv => whnf
     refine Wany.one (cx_ok []) 4 (by rfl) (by kernel_rfl) (by rfl) (by rfl) ?_
     conv => whnf
     refine callV rfl (ringMod_M he.rn.1 he.hm) fun hs' hhs => ?_
     try dsimp only at hhs
     conv => whnf
     refine Wany.one (cx_ok []) 6 (by rfl) (by kernel_rfl) (by rfl) (by rfl) ?_
     conv => whnf
     refine ⟨⟨(by show 2 ≤ 2; omega), rfl⟩, ?_⟩
     conv => whnf
     refine Wany.one (cx_ok []) 7 (by rfl) (by kernel_rfl) (by rfl) (by rfl) ?_
     conv => whnf
     refine Wany.done (by kernel_rfl) (fin b_5 _ (by dsimp only; omega) ?_)
     repeat' first | refine And.intro ?_ ?_ | exact trivial | rfl | omega | exact .inl rfl | exact fun _ _ => rfl | exact fun _ _ h => h | assumption | exact fun i hi => (by obtain rfl : i = 0 := (by omega); rfl)
  ·refine Wany.two (cx_ok []) 0 3 (by rfl) (by kernel_rfl) (by rfl) (by rfl) (by rfl) (by rfl) ?_ ?_ <;> conv => whnf
   ·refine Wany.two (cx_ok []) 1 3 (by rfl) (by kernel_rfl) (by rfl) (by rfl) (by rfl) (by rfl) ?_ ?_ <;> conv => whnf
    ·refine callV rfl (field_P he g) fun hs' hhs => ?_
     try dsimp only at hhs
     conv => whnf
     refine Wany.one (cx_ok []) 3 (by rfl) (by kernel_rfl) (by rfl) (by rfl) ?_
     conv => whnf
     refine ⟨by show 0 + 2 ≤ 3; omega, ?_⟩
     conv => whnf
     refine Wany.one (cx_ok []) 4 (by rfl) (by kernel_rfl) (by rfl) (by rfl) ?_
     conv => whnf
     refine callV rfl (ringMod_M he.rn.1 he.hm) fun hs' hhs => ?_
     try dsimp only at hhs
     conv => whnf
     refine Wany.one (cx_ok []) 6 (by rfl) (by kernel_rfl) (by rfl) (by rfl) ?_
     conv => whnf
     refine ⟨⟨(by show 2 ≤ 2; omega), rfl⟩, ?_⟩
     conv => whnf
     refine Wany.one (cx_ok []) 7 (by rfl) (by kernel_rfl) (by rfl) (by rfl) ?_
     conv => whnf
     refine Wany.done (by kernel_rfl) (fin b_5 _ (by dsimp only; omega) ?_)
     repeat' first | refine And.intro ?_ ?_ | exact trivial | rfl | omega | exact .inl rfl | exact fun _ _ => rfl | exact fun _ _ h => h | assumption | exact fun i hi => (by obtain rfl : i = 0 := (by omega); rfl)
    ·refine ⟨by show 0 + 2 ≤ 3; omega, ?_⟩
     conv => whnf
     refine Wany.one (cx_ok []) 1 (by rfl) (by kernel_rfl) (by rfl) (by rfl) ?_
     conv => whnf
     refine callV rfl (field_P he g) fun hs' hhs => ?_
     try dsimp only at hhs
     conv => whnf
     refine Wany.one (cx_ok []) 4 (by rfl) (by kernel_rfl) (by rfl) (by rfl) ?_
     conv => whnf
     refine callV rfl (ringMod_M he.rn.1 he.hm) fun hs' hhs => ?_
     try dsimp only at hhs
     conv => whnf
     refine Wany.one (cx_ok []) 6 (by rfl) (by kernel_rfl) (by rfl) (by rfl) ?_
     conv => whnf
     refine ⟨⟨(by show 2 ≤ 2; omega), rfl⟩, ?_⟩
     conv => whnf
     refine Wany.one (cx_ok []) 7 (by rfl) (by kernel_rfl) (by rfl) (by rfl) ?_
     conv => whnf
     refine Wany.done (by kernel_rfl) (fin b_5 _ (by dsimp only; omega) ?_)
     repeat' first | refine And.intro ?_ ?_ | exact trivial | rfl | omega | exact .inl rfl | exact fun _ _ => rfl | exact fun _ _ h => h | assumption | exact fun i hi => (by obtain rfl : i = 0 := (by omega); rfl)
   ·refine ⟨by show 0 + 2 ≤ 3; omega, ?_⟩
    conv => whnf
    refine Wany.one (cx_ok []) 0 (by rfl) (by kernel_rfl) (by rfl) (by rfl) ?_
    conv => whnf
    refine Wany.one (cx_ok []) 1 (by rfl) (by kernel_rfl) (by rfl) (by rfl) ?_
    conv => whnf
    refine callV rfl (field_P he g) fun hs' hhs => ?_
    try dsimp only at hhs
    conv => whnf
    refine Wany.one (cx_ok []) 4 (by rfl) (by kernel_rfl) (by rfl) (by rfl) ?_
    conv => whnf
    refine callV rfl (ringMod_M he.rn.1 he.hm) fun hs' hhs => ?_
    try dsimp only at hhs
    conv => whnf
    refine Wany.one (cx_ok []) 6 (by rfl) (by kernel_rfl) (by rfl) (by rfl) ?_
    conv => whnf
    refine ⟨⟨(by show 2 ≤ 2; omega), rfl⟩, ?_⟩
    conv => whnf
    refine Wany.one (cx_ok []) 7 (by rfl) (by kernel_rfl) (by rfl) (by rfl) ?_
    conv => whnf
    refine Wany.done (by kernel_rfl) (fin b_5 _ (by dsimp only; omega) ?_)
    repeat' first | refine And.intro ?_ ?_ | exact trivial | rfl | omega | exact .inl rfl | exact fun _ _ => rfl | exact fun _ _ h => h | assumption | exact fun i hi => (by obtain rfl : i = 0 := (by omega); rfl)
-- 36 ways
theorem frobenius_fn (he : ExtP p k M f n) (g : Option Nat) (R : Poly M) (hR : RootI p f n k.toNat R) : FnV 115 [vE p k g f.l] (.ints none R.l) := R1.V (frobenius_T he g R hR)

theorem l20Root_fn (he : ExtP p k M f n) (g : Option Nat) (R : Poly M) (hR : RootI p f n k.toNat R) : FnV 114 [vE p k g f.l] (.ints none R.l) := by
 have h8 := he.n8
 have hn1 := he.n1
 have m9 := he.m9
 have hp := Pos.pos (p := M)
 obtain ⟨s1, s2, s3, s4, s5, s6⟩ := he.rn.1.small
 have hmM : M = p ^ k.toNat := he.hm.symm
 have hf1 := he.mn.1
 have hfl : f.l.length = dg f := rfl
 have hfd := (im_mn he.pm he.mn).1
 have hX1 : dg (X p) ≤ 2 := by show (X p).l.length ≤ 2; rw [X_l]; simp
 have eX : [(0 : Int), 1] = (X p).l := X_l.symm
 have hf0 := he.irr.ne
 have hI0 : RootI p f n (2 ^ 0) (lft M (rem (X p ^ p.toNat) (im p f))) := RootI.start he.pm he.ple he.irr hfd
 have hl0 : (rem (X p ^ p.toNat) (im p f)).l = (lft M (rem (X p ^ p.toNat) (im p f))).l := (lft_l he.ple _).symm
 have hdd := derM_dg f
 have hmkl : (mkL (f.l.length - 1) (dv (cf f.l))).length ≤ 100 := by rw [mkL_length]; omega
 refine fn_of (cx_ok [0, 1, 2, 3, 4, 5, 6, 7, 25]) Tryz.func114 rfl (by decide) Tryz.ntmps114 (Nat.le_of_ble_eq_true rfl) fun base => ?_
 refine W.rs (cx_ok _) (by rfl) fun K hK => ?_
 conv => whnf
 refine ⟨rfl, ?_⟩
 conv => whnf
 intro b_1 hs_1 hh_1 hf_1
 try dsimp only at hh_1 hf_1
 conv => whnf
 refine hK _ ?_
 clear hK K
 refine W.rs (cx_ok _) (by rfl) fun K hK => ?_
 conv => whnf
 refine callV rfl (l20Field_P he g) fun hs' hhs => ?_
 try dsimp only at hhs
 conv => whnf
 intro b_3 hs_3 hh_3 hf_3
 try dsimp only at hh_3 hf_3
 conv => whnf
 refine ⟨⟨(by show 2 ≤ 2; omega), rfl⟩, ?_⟩
 conv => whnf
 refine hK _ ?_
 clear hK K
 refine W.rs (cx_ok _) (by rfl) fun K hK => ?_
 conv => whnf
 refine ⟨⟨rfl, by decide⟩, ?_⟩
 conv => whnf
 intro b_7 hs_7 hh_7 hf_7
 try dsimp only at hh_7 hf_7
 conv => whnf
 rw [eX]
 refine callV rfl (l17PowerP_fn p none (some b_7) (im p f) (X p) (by omega) (by omega) hf0) fun hs' hhs => ?_
 try dsimp only at hhs
 conv => whnf
 rw [hl0]
 refine hK _ ?_
 clear hK K
 refine W.rd (cx_ok _) follows (by rfl) fun K hK => ?_
 conv => whnf
 refine ⟨_, cxF (l20M_fn he g), ?_⟩
 conv => whnf
 refine ⟨_, cxF (l06Derivative_fn g f.l ((r_bd m9 f).le (by omega)) (by omega)), ?_⟩
 conv => whnf
 refine ⟨_, cxF ((l08Reduce_fn M (by omega) (by omega) none _ ((der_bd m9 (by omega)).le (by omega)) (by omega)).toV), ?_⟩
 conv => whnf
 rw [der_l]
 refine hK _ ?_
 clear hK K
 refine W.seqK fun K1 hK1 => W.rs (cx_ok _) (by rfl) fun K hK => ?_
 conv => whnf
 refine hK _ (W.block (W.invA (fun m e => ∃ (i : Nat) (y : Poly M), RootI p f n (2 ^ i) y ∧ i ≤ 40 ∧ m = 40 - i ∧ e = [(1, .ownB b_1 (vE p k g f.l)), (4, .v (.ints none y.l)), (5, .v (.ints none (derM f).l)), (6, .v (.int .i64 ((2 ^ i : Nat) : Int)))]) ⟨0, _, hI0, by omega, rfl, rfl⟩ ?_))
 clear hK K
 rintro m e ⟨i, y, hI, hi, hm, rfl⟩
 have hyd := hI.deg
 have hV := valM_dg (F := f) (X := y) he.mn hn1 (dg f)
 obtain ⟨s, hs1, hs2⟩ := slope_inv he hI
 have hSd := slp_dg he y
 have hR1 := rdM_dg he.mn (valM f f y (dg f) * s)
 have hRl : (rdM (valM f f y (dg f) * s) f).l.length = dg (rdM (valM f f y (dg f) * s) f) := rfl
 have hyl : y.l.length = dg y := rfl
 have hsl := sub_len y.l (rdM (valM f f y (dg f) * s) f).l
 refine W.seqK fun K7 hK7 => W.rs (cx_ok _) (by rfl) fun K hK => ?_
 conv => whnf
 refine hK _ (W.cond ⟨fun h => ?_, fun h => ?_⟩) <;> clear hK K <;> (first | replace h := of_decide_eq_true h | replace h := of_decide_eq_false h)
 ·have h4 : i < 2 ^ i := Nat.lt_two_pow_self
  have hps : ((2 ^ (i + 1) : Nat) : Int) = 2 * ((2 ^ i : Nat) : Int) := by rw [Nat.pow_succ]; omega
  have eS : valM f (derM f) y (dg (derM f)) = slp f y := rfl
  refine W.skip (hK7 _ ?_)
  clear hK7 K7
  refine W.seqK fun K8 hK8 => W.block ?_
  refine W.rd (cx_ok _) follows (by rfl) fun K hK => ?_
  conv => whnf
  refine ⟨_, cxF (l20Value_fn he g g none f y (by omega) hyd), ?_⟩
  conv => whnf
  refine ⟨_, cxF (l20Value_fn he g none none (derM f) y (by omega) hyd), ?_⟩
  conv => whnf
  rw [eS]
  refine ⟨_, cxF (l20Inverse_fn he g none (slp f y) s hSd hs1 hs2), ?_⟩
  conv => whnf
  refine ⟨_, cxF (l20Multiply_fn he g none none (valM f f y (dg f)) s hV hs1), ?_⟩
  conv => whnf
  refine hK _ ?_
  clear hK K
  refine W.region (cx_ok _) (by rfl) ?_
  conv => whnf
  refine callV rfl (l20M_fn he g) fun hs' hhs => ?_
  try dsimp only at hhs
  conv => whnf
  refine callV rfl ((l12Add_fn m9 none none y.l (rdM (valM f f y (dg f) * s) f).l (-1) (.inr rfl) (rg_l _) (rg_l _) (by omega) (by omega)).toV) fun hs' hhs => ?_
  try dsimp only at hhs
  conv => whnf
  rw [subM_1]
  refine hK8 _ ?_
  clear hK8 K8
  refine W.region (cx_ok _) (by rfl) ?_
  conv => whnf
  refine ⟨by constructor <;> omega, ?_⟩
  conv => whnf
  refine ⟨_, _, ⟨i + 1, _, (by rw [Nat.pow_succ, Nat.mul_two]; exact hI.next he.pm he.mn (Nat.pow_pos (by omega)) hs2), by omega, rfl, rfl⟩, by omega, by dsimp only; omega, ?_⟩
  rw [hps]
  repeat' first | refine And.intro ?_ ?_ | exact trivial | rfl | omega | exact .inl rfl | exact fun _ _ => rfl | exact fun _ _ h => h | assumption | exact fun i hi => (by obtain rfl : i = 0 := (by omega); rfl)
 ·obtain rfl := hI.unique hmM (by omega) he.mn he.irr hR (by omega) (Nat.le_refl _)
  refine W.exit (hK1 _ ?_)
  clear hK7 K7 hK1 K1
  refine W.rs (cx_ok _) (by rfl) fun K hK => ?_
  conv => whnf
  refine hK _ ?_
  clear hK K
  refine W.ret ?_
  conv => whnf
  exact ⟨.v (.ints none y.l), ⟨rfl, rfl⟩, trivial, rfl⟩
end

open Go Go.RowKit Go.Proofs Poly
set_option maxRecDepth 100000
set_option maxHeartbeats 8000000


theorem FrobeniusThere_both (kp kq : Int) (kl : List Int) (_ : inR kp) (_ : inR kq) (hkl : kl.length ≤ 1048576) : ∃ (r0 : List Int) (r1 : Int),
  (∀ g0 : Option Nat, FnV 53 [vE kp kq g0 kl] (.tup [.ints none r0, .int .i64 r1])) ∧ (∀ g0 : Option Nat, FnT Tryz.prog 54 [vE kp kq g0 kl] (RT r0 r1)) ∧ r0.length ≤ 1000000 := by
 by_cases hk : IsEx kp kq kl
 case neg =>
  have hc : codeX kp kq kl 0 (fun _ => []) = 1 := by unfold codeX; rw [bP_false hk]; rfl
  refine ⟨[], 1, fun g0 => ?_, fun g0 => ?_, by simp⟩
  ·refine fn_of (cx_ok [0, 1, 2, 3, 6]) Tryz.func53 rfl (by decide) Tryz.ntmps53 (Nat.le_of_ble_eq_true rfl) fun base => ?_
   refine W.rs (cx_ok _) (by rfl) fun K hK => ?_
   conv => whnf
   refine ⟨rfl, ?_⟩
   conv => whnf
   intro b_1 hs_1 hh_1 hf_1
   try dsimp only at hh_1 hf_1
   conv => whnf
   refine hK _ ?_
   clear hK K
   refine W.seqK fun K1 hK1 => ?_
   refine W.rs (cx_ok _) (by rfl) fun K hK => ?_
   conv => whnf
   refine callV rfl ((isExtensionS_fn kp kq g0 kl (by omega)).fa (bP_false hk)) fun hs' hhs => ?_
   try dsimp only at hhs
   conv => whnf
   refine hK _ (W.condT rfl ?_)
   clear hK K
   refine W.rs (cx_ok _) (by rfl) fun K hK => ?_
   conv => whnf
   refine hK _ ?_
   clear hK K
   refine W.ret ?_
   conv => whnf
   exact ⟨.v (.ints none []), rfl, trivial, .v (.int .i64 1), ⟨rfl, rfl⟩, trivial, rfl⟩
  ·refine fnt_of (cxt_ok [] [0, 1, 2, 3, 4, 8, 1000000]) Tryz.func54 rfl (by decide) Tryz.ntmps54 (Nat.le_of_ble_eq_true rfl) (fun base => ?_) (Nat.le_of_ble_eq_true rfl)
   refine W.sw (c' := cx [0, 1, 2, 3, 4, 8, 1000000]) ?_
   refine W.rs (cx_ok _) (by rfl) fun K hK => ?_
   conv => whnf
   refine ⟨rfl, ?_⟩
   conv => whnf
   intro b_1 hs_1 hh_1 hf_1
   try dsimp only at hh_1 hf_1
   conv => whnf
   refine hK _ ?_
   clear hK K
   refine W.seqK fun K1 hK1 => ?_
   refine W.rs (cx_ok _) (by rfl) fun K hK => ?_
   conv => whnf
   refine callV rfl (extended_fn kp kq g0 none kl 0 _ (fun _ => []) (by omega) (by omega) (fun i hi => by omega) (fun i hi => by omega)) fun hs' hhs => ?_
   try dsimp only at hhs
   conv => whnf
   rw [hc]
   refine hK _ ?_
   clear hK K
   refine W.rs (cx_ok _) (by rfl) fun K hK => ?_
   conv => whnf
   refine hK _ (W.cond ⟨fun _ => ?_, fun hcc => absurd (by decide : (1 : Int) ≠ 0) (of_decide_eq_false hcc)⟩)
   clear hK K
   refine W.rs (cx_ok _) (by rfl) fun K hK => ?_
   conv => whnf
   refine hK _ ?_
   clear hK K
   refine W.ret ?_
   conv => whnf
   exact ⟨.v (.rf 0 0), rfl, trivial, .v (.int .i64 (1)), ⟨rfl, rfl⟩, trivial, 0, rfl, fun hne => absurd rfl hne⟩
 have hc : codeX kp kq kl 0 (fun _ => []) = 0 := by unfold codeX; rw [bP_true hk, bP_true (fun i hi => by omega)]; rfl
 have hk2 := hk
 obtain ⟨hp, hx2⟩ := ex_poly hk
 letI := sp_of hp
 obtain ⟨M, _, f, n, rfl, he⟩ := hx2
 have hfl : f.l.length = dg f := rfl
 have hf1 := he.mn.1
 have hn8 := he.n8
 have hkq : 1 ≤ kq.toNat := by have := he.rn.1.small; omega
 obtain ⟨R, hR⟩ := exists_root (f := f) (n := n) he.hm.symm hkq he.ple he.mn he.irr
 have hRd := hR.deg
 refine ⟨R.l, 0, fun g0 => ?_, fun g0 => ?_, by show dg R ≤ _; omega⟩
 ·refine fn_of (cx_ok [0, 1, 2, 3, 6]) Tryz.func53 rfl (by decide) Tryz.ntmps53 (Nat.le_of_ble_eq_true rfl) fun base => ?_
  refine W.rs (cx_ok _) (by rfl) fun K hK => ?_
  conv => whnf
  refine ⟨rfl, ?_⟩
  conv => whnf
  intro b_1 hs_1 hh_1 hf_1
  try dsimp only at hh_1 hf_1
  conv => whnf
  refine hK _ ?_
  clear hK K
  refine W.seqK fun K1 hK1 => ?_
  refine W.rs (cx_ok _) (by rfl) fun K hK => ?_
  conv => whnf
  refine callV rfl ((isExtensionS_fn kp kq g0 f.l (by omega)).tr (bP_true hk2)) fun hs' hhs => ?_
  try dsimp only at hhs
  conv => whnf
  refine hK _ (W.condF rfl (W.skip (hK1 _ ?_)))
  clear hK K hK1 K1
  refine W.rs (cx_ok _) (by rfl) fun K hK => ?_
  conv => whnf
  refine callV rfl (l20Root_fn he g0 R hR) fun hs' hhs => ?_
  try dsimp only at hhs
  conv => whnf
  refine hK _ ?_
  clear hK K
  refine W.ret ?_
  conv => whnf
  exact ⟨.v (.ints none R.l), ⟨rfl, rfl⟩, trivial, .v (.int .i64 0), ⟨rfl, rfl⟩, trivial, rfl⟩
 ·refine fnt_of (cxt_ok [] [0, 1, 2, 3, 4, 8, 1000000]) Tryz.func54 rfl (by decide) Tryz.ntmps54 (Nat.le_of_ble_eq_true rfl) (fun base => ?_) (Nat.le_of_ble_eq_true rfl)
  refine W.sw (c' := cx [0, 1, 2, 3, 4, 8, 1000000]) ?_
  refine W.rs (cx_ok _) (by rfl) fun K hK => ?_
  conv => whnf
  refine ⟨rfl, ?_⟩
  conv => whnf
  intro b_1 hs_1 hh_1 hf_1
  try dsimp only at hh_1 hf_1
  conv => whnf
  refine hK _ ?_
  clear hK K
  refine W.seqK fun K1 hK1 => ?_
  refine W.rs (cx_ok _) (by rfl) fun K hK => ?_
  conv => whnf
  refine callV rfl (extended_fn kp kq g0 none f.l 0 _ (fun _ => []) (by omega) (by omega) (fun i hi => by omega) (fun i hi => by omega)) fun hs' hhs => ?_
  try dsimp only at hhs
  conv => whnf
  rw [hc]
  refine hK _ ?_
  clear hK K
  refine W.rs (cx_ok _) (by rfl) fun K hK => ?_
  conv => whnf
  refine hK _ (W.cond ⟨fun hcc => absurd rfl (of_decide_eq_true hcc), fun _ => W.skip (hK1 _ ?_)⟩)
  clear hK K hK1 K1
  refine W.sw (c' := cxt [115] [0, 1, 2, 3, 4, 8, 1000000]) ?_
  refine W.rs (cxt_ok _ _) (by rfl) fun K hK => ?_
  conv => whnf
  refine ⟨_, cxT (frobenius_T he g0 R hR), fun lo_t hi_t hs_t x_t tn_t tb_t hl1_t hl2_t _ hp_t hf_t hn_t ho_t => ?_⟩
  try dsimp only at hl1_t hl2_t
  obtain ⟨bt, rfl, ht⟩ := hp_t
  conv => whnf
  refine hK _ ?_
  clear hK K
  refine W.ret ?_
  conv => whnf
  exact ⟨.v (.rf bt R.l.length), rfl, trivial, .v (.int .i64 0), ⟨rfl, rfl⟩, trivial, bt, rfl, fun h => hn_t _ _ (ht h)⟩

theorem ApplyFrobenius_both (kp kq : Int) (kl x : List Int) (_ : inR kp) (_ : inR kq) (hkl : kl.length ≤ 1048576) (hx : x.length ≤ 1048576) : ∃ (r0 : List Int) (r1 : Int),
  (∀ g0 g1 : Option Nat, FnV 55 [vE kp kq g0 kl, .ints g1 x] (.tup [.ints none r0, .int .i64 r1])) ∧ (∀ g0 g1 : Option Nat, FnT Tryz.prog 56 [vE kp kq g0 kl, .ints g1 x] (RT r0 r1)) ∧ r0.length ≤ 1000000 := by
 generalize hc : codeX1 kp kq kl x = c
 by_cases h0 : c = 0
 case neg =>
  refine ⟨[], c, fun g0 g1 => ?_, fun g0 g1 => ?_, by simp⟩
  ·refine fn_of (cx_ok [0, 1, 2, 4, 5, 6, 12]) Tryz.func55 rfl (by decide) Tryz.ntmps55 (Nat.le_of_ble_eq_true rfl) fun base => ?_
   refine W.rs (cx_ok _) (by rfl) fun K hK => ?_
   conv => whnf
   refine ⟨rfl, ?_⟩
   conv => whnf
   intro b_1 hs_1 hh_1 hf_1
   try dsimp only at hh_1 hf_1
   conv => whnf
   refine hK _ ?_
   clear hK K
   refine W.rs (cx_ok _) (by rfl) fun K hK => ?_
   conv => whnf
   refine callV rfl (l20Code_one kp kq g0 g1 g1 kl x (by omega) (by omega)) fun hs' hhs => ?_
   try dsimp only at hhs
   conv => whnf
   rw [hc]
   refine hK _ ?_
   clear hK K
   refine W.seqK fun K1 hK1 => ?_
   refine W.rs (cx_ok _) (by rfl) fun K hK => ?_
   conv => whnf
   refine hK _ (W.cond ⟨fun _ => ?_, fun hcc => absurd h0 (of_decide_eq_false hcc)⟩)
   clear hK K
   refine W.rs (cx_ok _) (by rfl) fun K hK => ?_
   conv => whnf
   refine hK _ ?_
   clear hK K
   refine W.ret ?_
   conv => whnf
   exact ⟨.v (.ints none []), rfl, trivial, .v (.int .i64 c), ⟨rfl, rfl⟩, trivial, rfl⟩
  ·refine fnt_of (cxt_ok [] [0, 1, 2, 4, 5, 6, 12, 1000000]) Tryz.func56 rfl (by decide) Tryz.ntmps56 (Nat.le_of_ble_eq_true rfl) (fun base => ?_) (Nat.le_of_ble_eq_true rfl)
   refine W.sw (c' := cx [0, 1, 2, 4, 5, 6, 12, 1000000]) ?_
   refine W.rs (cx_ok _) (by rfl) fun K hK => ?_
   conv => whnf
   refine ⟨rfl, ?_⟩
   conv => whnf
   intro b_1 hs_1 hh_1 hf_1
   try dsimp only at hh_1 hf_1
   conv => whnf
   refine hK _ ?_
   clear hK K
   refine W.seqK fun K1 hK1 => ?_
   refine W.rs (cx_ok _) (by rfl) fun K hK => ?_
   conv => whnf
   refine ⟨⟨rfl, by decide, fun x hx => (by simp at hx; subst hx; exact ⟨rfl, rfl⟩)⟩, ?_⟩
   conv => whnf
   intro b_2 hs_2 hh_2 hf_2
   try dsimp only at hh_2 hf_2
   conv => whnf
   refine callV rfl (extended_fn kp kq g0 (some b_2) kl 1 _ (fun _ => x) (by omega) (by omega) (fun i hi => by omega) (els1 g1 x)) fun hs' hhs => ?_
   try dsimp only at hhs
   conv => whnf
   rw [show codeX kp kq kl 1 (fun _ => x) = c from hc]
   refine hK _ ?_
   clear hK K
   refine W.rs (cx_ok _) (by rfl) fun K hK => ?_
   conv => whnf
   refine hK _ (W.cond ⟨fun _ => ?_, fun hcc => absurd h0 (of_decide_eq_false hcc)⟩)
   clear hK K
   refine W.rs (cx_ok _) (by rfl) fun K hK => ?_
   conv => whnf
   refine hK _ ?_
   clear hK K
   refine W.ret ?_
   conv => whnf
   exact ⟨.v (.rf 0 0), rfl, trivial, .v (.int .i64 (c)), ⟨rfl, rfl⟩, trivial, 0, rfl, fun hne => absurd rfl hne⟩
 subst h0
 obtain ⟨hk, hh⟩ := codeX1_ok hc
 obtain ⟨hp, hx2⟩ := ex_poly hk
 letI := sp_of hp
 obtain ⟨M, _, f, n, rfl, he⟩ := hx2
 have hfl : f.l.length = dg f := rfl
 have hf1 := he.mn.1
 have hn8 := he.n8
 obtain ⟨X, rfl⟩ := rn_poly he.hm hh.1
 have hdX : dg X < dg f := hh.2
 have hdX : dg X ≤ n := by omega
 have hlX : X.l.length = dg X := rfl
 have hkq : 1 ≤ kq.toNat := by have := he.rn.1.small; omega
 obtain ⟨R, hR⟩ := exists_root (f := f) (n := n) he.hm.symm hkq he.ple he.mn he.irr
 have hRd := hR.deg
 have hV := valM_dg (F := X) (X := R) he.mn he.n1 (dg X)
 refine ⟨(valM f X R (dg X)).l, 0, fun g0 g1 => ?_, fun g0 g1 => ?_, by show dg _ ≤ _; omega⟩
 ·refine fn_of (cx_ok [0, 1, 2, 4, 5, 6, 12]) Tryz.func55 rfl (by decide) Tryz.ntmps55 (Nat.le_of_ble_eq_true rfl) fun base => ?_
  refine W.rs (cx_ok _) (by rfl) fun K hK => ?_
  conv => whnf
  refine ⟨rfl, ?_⟩
  conv => whnf
  intro b_1 hs_1 hh_1 hf_1
  try dsimp only at hh_1 hf_1
  conv => whnf
  refine hK _ ?_
  clear hK K
  refine W.rs (cx_ok _) (by rfl) fun K hK => ?_
  conv => whnf
  refine callV rfl (l20Code_one kp kq g0 g1 g1 f.l X.l (by omega) (by omega)) fun hs' hhs => ?_
  try dsimp only at hhs
  conv => whnf
  rw [hc]
  refine hK _ ?_
  clear hK K
  refine W.seqK fun K1 hK1 => ?_
  refine W.rs (cx_ok _) (by rfl) fun K hK => ?_
  conv => whnf
  refine hK _ (W.cond ⟨fun hcc => absurd rfl (of_decide_eq_true hcc), fun _ => W.skip (hK1 _ ?_)⟩)
  clear hK K hK1 K1
  refine W.rd (cx_ok _) follows (by rfl) fun K hK => ?_
  conv => whnf
  refine ⟨_, cxF (l20Root_fn he g0 R hR), ?_⟩
  conv => whnf
  refine ⟨_, cxF (l20Value_fn he g0 g1 none X R (by omega) hRd), ?_⟩
  conv => whnf
  refine hK _ ?_
  clear hK K
  refine W.ret ?_
  conv => whnf
  exact ⟨.v (.ints none (valM f X R (dg X)).l), ⟨rfl, rfl⟩, trivial, .v (.int .i64 0), ⟨rfl, rfl⟩, trivial, rfl⟩
 ·refine fnt_of (cxt_ok [] [0, 1, 2, 4, 5, 6, 12, 1000000]) Tryz.func56 rfl (by decide) Tryz.ntmps56 (Nat.le_of_ble_eq_true rfl) (fun base => ?_) (Nat.le_of_ble_eq_true rfl)
  refine W.sw (c' := cx [0, 1, 2, 4, 5, 6, 12, 1000000]) ?_
  refine W.rs (cx_ok _) (by rfl) fun K hK => ?_
  conv => whnf
  refine ⟨rfl, ?_⟩
  conv => whnf
  intro b_1 hs_1 hh_1 hf_1
  try dsimp only at hh_1 hf_1
  conv => whnf
  refine hK _ ?_
  clear hK K
  refine W.seqK fun K1 hK1 => ?_
  refine W.rs (cx_ok _) (by rfl) fun K hK => ?_
  conv => whnf
  refine ⟨⟨rfl, by decide, fun x hx => (by simp at hx; subst hx; exact ⟨rfl, rfl⟩)⟩, ?_⟩
  conv => whnf
  intro b_2 hs_2 hh_2 hf_2
  try dsimp only at hh_2 hf_2
  conv => whnf
  refine callV rfl (extended_fn kp kq g0 (some b_2) f.l 1 _ (fun _ => X.l) (by omega) (by omega) (fun i hi => by omega) (els1 g1 X.l)) fun hs' hhs => ?_
  try dsimp only at hhs
  conv => whnf
  rw [show codeX kp kq f.l 1 (fun _ => X.l) = 0 from hc]
  refine hK _ ?_
  clear hK K
  refine W.rs (cx_ok _) (by rfl) fun K hK => ?_
  conv => whnf
  refine hK _ (W.cond ⟨fun hcc => absurd rfl (of_decide_eq_true hcc), fun _ => W.skip (hK1 _ ?_)⟩)
  clear hK K hK1 K1
  refine W.sw (c' := cxt [] [0, 1, 2, 4, 5, 6, 12, 1000000]) ?_
  refine W.rdS 4 (cxt_ok _ _) follows (by rfl) fun K hK => ?_
  conv => whnf
  refine ⟨_, cxtF (frobenius_fn he g0 R hR), ?_⟩
  conv => whnf
  refine callI rfl (eVal_I he g0 g1 none X R (by omega) hRd) fun hs_5 b_5 hh_5 hf_5 => ?_
  try dsimp only at hh_5 hf_5
  conv => whnf
  refine hK _ ?_
  clear hK K
  refine W.give 4 fun K hK => ?_
  conv => whnf
  refine hK _ ?_
  clear hK K
  refine W.ret ?_
  conv => whnf
  exact ⟨.v (.rf b_5 _), rfl, trivial, .v (.int .i64 (0)), ⟨rfl, rfl⟩, trivial, b_5, rfl, fun hne => tbAdd_self _ _ hne⟩

open Go Go.RowKit Go.Proofs Poly
set_option maxRecDepth 100000
set_option maxHeartbeats 8000000

section
variable {p k M : Int} [SP p] [Pos M] {f : Poly M} {n : Nat}
noncomputable def vImg (f R X : Poly M) (c : Nat) : V := .vals none 1 c fun j => .ints none (frM f R X j).l

theorem l20Images_fn (he : ExtP p k M f n) (g : Option Nat) (X R : Poly M) (hX : dg X ≤ n) (hR : RootI p f n k.toNat R) : FnV 118 [vE p k g f.l, .ints none X.l] (vImg f R X n) := by
 have h8 := he.n8
 have hf1 := he.mn.1
 have hfl : f.l.length = dg f := rfl
 have hRd := hR.deg
 have hF := fun j => frM_dg (R := R) he.mn he.n1 hX j
 refine fn_of (cx_ok [0, 1, 2, 4, 5, 6, 7, 15]) Tryz.func118 rfl (by decide) Tryz.ntmps118 (Nat.le_of_ble_eq_true rfl) fun base => ?_
 refine W.rs (cx_ok _) (by rfl) fun K hK => ?_
 conv => whnf
 refine ⟨rfl, ?_⟩
 conv => whnf
 intro b_2 hs_2 hh_2 hf_2
 try dsimp only at hh_2 hf_2
 conv => whnf
 refine hK _ ?_
 clear hK K
 refine W.rs (cx_ok _) (by rfl) fun K hK => ?_
 conv => whnf
 refine callV rfl (l20Root_fn he g R hR) fun hs' hhs => ?_
 try dsimp only at hhs
 conv => whnf
 refine hK _ ?_
 clear hK K
 refine W.rs (cx_ok _) (by rfl) fun K hK => ?_
 conv => whnf
 refine ⟨⟨rfl, by decide, fun x hx => by simp at hx⟩, ?_⟩
 conv => whnf
 intro b_3 hs_3 hh_3 hf_3
 try dsimp only at hh_3 hf_3
 conv => whnf
 refine hK _ ?_
 clear hK K
 refine W.seqK fun K1 hK1 => ?_
 refine W.rs (cx_ok _) (by rfl) fun K hK => ?_
 conv => whnf
 refine hK _ (W.block (W.invE (fun m e => ∃ j b : Nat, j ≤ n ∧ m = n - j ∧ e = [(1, .v (.ints none (frM f R X j).l)), (2, .ownB b_2 (vE p k g f.l)), (5, .v (.ints none R.l)), (6, .ownV 22 1 b j fun i => .ints none (frM f R X i).l), (7, .v (.int .i64 ((j + 1 : Nat) : Int)))]) _ _ ⟨0, b_3, Nat.zero_le _, rfl, rfl⟩ (by dsimp only; omega) (by repeat' first | refine And.intro ?_ ?_ | exact trivial | rfl | omega | exact fun _ _ => rfl | exact fun i hi => absurd hi (by omega)) ?_))
 clear hK K
 rintro m e ⟨j, b, hj, hm, rfl⟩
 have hFj := hF j
 refine W.seqK fun K7 hK7 => W.rs (cx_ok _) (by rfl) fun K hK => ?_
 conv => whnf
 refine hK _ (W.cond ⟨fun h => ?_, fun h => ?_⟩) <;> clear hK K <;> (first | replace h := of_decide_eq_true h | replace h := of_decide_eq_false h)
 ·refine W.skip (hK7 _ ?_)
  clear hK7 K7
  refine W.seqK fun K8 hK8 => W.block ?_
  refine W.rs (cx_ok _) (by rfl) fun K hK => ?_
  conv => whnf
  refine ⟨⟨rfl, by decide, fun x hx => by simp at hx; subst hx; exact ⟨rfl, rfl⟩⟩, ?_⟩
  conv => whnf
  intro b_4 hs_4 hh_4 hf_4
  try dsimp only at hh_4 hf_4
  conv => whnf
  refine ⟨by omega, ?_⟩
  conv => whnf
  refine ⟨fun i => .ints none (frM f R X i).l, fun i hi => rfl, fun i hi => ?_, ?_⟩
  ·obtain rfl : i = 0 := by omega
   rfl
  intro b_5 hs_5 hh_5 hf_5
  try dsimp only at hh_5 hf_5
  conv => whnf
  refine hK _ ?_
  clear hK K
  refine W.region (cx_ok _) (by rfl) ?_
  conv => whnf
  refine callV rfl (l20Value_fn he g none none (frM f R X j) R (by omega) hRd) fun hs' hhs => ?_
  try dsimp only at hhs
  conv => whnf
  refine hK8 _ ?_
  clear hK8 K8
  refine W.region (cx_ok _) (by rfl) ?_
  conv => whnf
  refine ⟨by constructor <;> omega, ?_⟩
  conv => whnf
  exact againA ⟨j + 1, b_5, by omega, rfl, rfl⟩
 ·obtain rfl : j = n := by omega
  refine W.exit (hK1 _ ?_)
  clear hK7 K7 hK1 K1
  refine W.rs (cx_ok _) (by rfl) fun K hK => ?_
  conv => whnf
  refine hK _ ?_
  clear hK K
  refine W.ret ?_
  conv => whnf
  exact ⟨.v (vImg f R X j), ⟨rfl, rfl, rfl, fun _ _ => rfl⟩, ⟨trivial, fun _ _ => trivial⟩, rfl⟩
end


theorem TraceThere_both (kp kq : Int) (kl x : List Int) (_ : inR kp) (_ : inR kq) (hkl : kl.length ≤ 1048576) (hx : x.length ≤ 1048576) : ∃ r0 r1 : Int,
  (FnV 59 [vE kp kq none kl, .ints none x] (.tup [.int .i64 r0, .int .i64 r1])) ∧ (∀ g0 g1 : Option Nat, FnV 60 [vE kp kq g0 kl, .ints g1 x] (.tup [.int .i64 r0, .int .i64 r1])) := by
 generalize hc : codeX1 kp kq kl x = c
 by_cases h0 : c = 0
 case neg =>
  refine ⟨0, c, ?_, fun g0 g1 => ?_⟩
  ·refine fn_of (cx_ok [0, 1, 2, 4, 5, 6, 7, 8, 9, 15, 24]) Tryz.func59 rfl (by decide) Tryz.ntmps59 (Nat.le_of_ble_eq_true rfl) fun base => ?_
   refine W.rs (cx_ok _) (by rfl) fun K hK => ?_
   conv => whnf
   refine ⟨rfl, ?_⟩
   conv => whnf
   intro b_1 hs_1 hh_1 hf_1
   try dsimp only at hh_1 hf_1
   conv => whnf
   refine hK _ ?_
   clear hK K
   refine W.rs (cx_ok _) (by rfl) fun K hK => ?_
   conv => whnf
   refine callV rfl (l20Code_one kp kq none none none kl x (by omega) (by omega)) fun hs' hhs => ?_
   try dsimp only at hhs
   conv => whnf
   rw [hc]
   refine hK _ ?_
   clear hK K
   refine W.seqK fun K1 hK1 => ?_
   refine W.rs (cx_ok _) (by rfl) fun K hK => ?_
   conv => whnf
   refine hK _ (W.cond ⟨fun _ => ?_, fun hcc => absurd h0 (of_decide_eq_false hcc)⟩)
   clear hK K
   refine W.rs (cx_ok _) (by rfl) fun K hK => ?_
   conv => whnf
   refine hK _ ?_
   clear hK K
   refine W.ret ?_
   conv => whnf
   exact ⟨.v (.int .i64 0), ⟨rfl, rfl⟩, trivial, .v (.int .i64 c), ⟨rfl, rfl⟩, trivial, rfl⟩
  ·refine fn_of (cx_ok [0, 1, 2, 4, 5, 6, 7, 8, 9, 15, 22, 23, 24]) Tryz.func60 rfl (by decide) Tryz.ntmps60 (Nat.le_of_ble_eq_true rfl) fun base => ?_
   refine W.rs (cx_ok _) (by rfl) fun K hK => ?_
   conv => whnf
   refine ⟨rfl, ?_⟩
   conv => whnf
   intro b_1 hs_1 hh_1 hf_1
   try dsimp only at hh_1 hf_1
   conv => whnf
   refine hK _ ?_
   clear hK K
   refine W.seqK fun K1 hK1 => ?_
   refine W.rs (cx_ok _) (by rfl) fun K hK => ?_
   conv => whnf
   refine ⟨⟨rfl, by decide, fun x hx => (by simp at hx; subst hx; exact ⟨rfl, rfl⟩)⟩, ?_⟩
   conv => whnf
   intro b_2 hs_2 hh_2 hf_2
   try dsimp only at hh_2 hf_2
   conv => whnf
   refine callV rfl (extended_fn kp kq g0 (some b_2) kl 1 _ (fun _ => x) (by omega) (by omega) (fun i hi => by omega) (els1 g1 x)) fun hs' hhs => ?_
   try dsimp only at hhs
   conv => whnf
   rw [show codeX kp kq kl 1 (fun _ => x) = c from hc]
   refine hK _ ?_
   clear hK K
   refine W.rs (cx_ok _) (by rfl) fun K hK => ?_
   conv => whnf
   refine hK _ (W.cond ⟨fun _ => ?_, fun hcc => absurd h0 (of_decide_eq_false hcc)⟩)
   clear hK K
   refine W.rs (cx_ok _) (by rfl) fun K hK => ?_
   conv => whnf
   refine hK _ ?_
   clear hK K
   refine W.ret ?_
   conv => whnf
   exact ⟨.v (.int .i64 0), ⟨rfl, rfl⟩, trivial, .v (.int .i64 c), ⟨rfl, rfl⟩, trivial, rfl⟩
 subst h0
 obtain ⟨hk, hh⟩ := codeX1_ok hc
 obtain ⟨hp, hx2⟩ := ex_poly hk
 letI := sp_of hp
 obtain ⟨M, _, f, n, rfl, he⟩ := hx2
 have hfl : f.l.length = dg f := rfl
 have hf1 := he.mn.1
 have hn8 := he.n8
 obtain ⟨X, rfl⟩ := rn_poly he.hm hh.1
 have hdX : dg X < dg f := hh.2
 have hdX : dg X ≤ n := by omega
 have hlX : X.l.length = dg X := rfl
 have hkq : 1 ≤ kq.toNat := by have := he.rn.1.small; omega
 obtain ⟨R, hR⟩ := exists_root (f := f) (n := n) he.hm.symm hkq he.ple he.mn he.irr
 have hRd := hR.deg
 have m9 := he.m9
 have hp := Pos.pos (p := M)
 have hF := fun j => frM_dg (R := R) he.mn he.n1 hdX j
 have hT := fun j => trM_dg (R := R) he.mn he.n1 hdX j
 refine ⟨cf (trM f R X n).l 0, 0, ?_, fun g0 g1 => ?_⟩
 ·refine fn_of (cx_ok [0, 1, 2, 4, 5, 6, 7, 8, 9, 15, 24]) Tryz.func59 rfl (by decide) Tryz.ntmps59 (Nat.le_of_ble_eq_true rfl) fun base => ?_
  refine W.rs (cx_ok _) (by rfl) fun K hK => ?_
  conv => whnf
  refine ⟨rfl, ?_⟩
  conv => whnf
  intro b_1 hs_1 hh_1 hf_1
  try dsimp only at hh_1 hf_1
  conv => whnf
  refine hK _ ?_
  clear hK K
  refine W.rs (cx_ok _) (by rfl) fun K hK => ?_
  conv => whnf
  refine callV rfl (l20Code_one kp kq none none none f.l X.l (by omega) (by omega)) fun hs' hhs => ?_
  try dsimp only at hhs
  conv => whnf
  rw [hc]
  refine hK _ ?_
  clear hK K
  refine W.seqK fun K1 hK1 => ?_
  refine W.rs (cx_ok _) (by rfl) fun K hK => ?_
  conv => whnf
  refine hK _ (W.cond ⟨fun hcc => absurd rfl (of_decide_eq_true hcc), fun _ => W.skip (hK1 _ ?_)⟩)
  clear hK K hK1 K1
  refine W.rs (cx_ok _) (by rfl) fun K hK => ?_
  conv => whnf
  refine callV rfl (l20Images_fn he none X R hdX hR) fun hs' hhs => ?_
  try dsimp only at hhs
  conv => whnf
  refine hK _ ?_
  clear hK K
  refine W.rs (cx_ok _) (by rfl) fun K hK => ?_
  conv => whnf
  refine ⟨⟨rfl, by decide⟩, ?_⟩
  conv => whnf
  intro b_5 hs_5 hh_5 hf_5
  try dsimp only at hh_5 hf_5
  conv => whnf
  refine hK _ ?_
  clear hK K
  refine W.seqK fun K1 hK1 => W.rs (cx_ok _) (by rfl) fun K hK => ?_
  conv => whnf
  refine hK _ (W.block (W.invA (fun m e => ∃ (j : Nat) (s : List Int), j ≤ n ∧ s = (trM f R X j).l ∧ m = n - j ∧ e = [(2, .ownB b_1 (vE kp kq none f.l)), (7, .v (vImg f R X n)), (8, .v (.ints none s)), (9, .v (.int .i64 j))]) ⟨0, [], Nat.zero_le _, zeroM_l.symm, rfl, rfl⟩ ?_))
  clear hK K
  rintro m e ⟨j, s, hj, rfl, hm, rfl⟩
  have hFj := hF j
  have hTj := hT j
  have hFl : (frM f R X j).l.length = dg (frM f R X j) := rfl
  have hTl : (trM f R X j).l.length = dg (trM f R X j) := rfl
  refine W.seqK fun K7 hK7 => W.rs (cx_ok _) (by rfl) fun K hK => ?_
  conv => whnf
  refine hK _ (W.cond ⟨fun h => ?_, fun h => ?_⟩) <;> clear hK K <;> (first | replace h := of_decide_eq_true h | replace h := of_decide_eq_false h)
  ·refine W.skip (hK7 _ ?_)
   clear hK7 K7
   refine W.seqK fun K8 hK8 => W.block ?_
   refine W.draw (cx_ok _) follows (by rfl) ?_
   conv => whnf
   refine ⟨⟨by omega, by omega⟩, ?_⟩
   conv => whnf
   rw [Int.toNat_natCast]
   refine ⟨_, cxF (l20M_fn he none), ?_⟩
   conv => whnf
   refine ⟨_, cxF ((l12Add_fn m9 none none (trM f R X j).l (frM f R X j).l 1 (.inl rfl) (rg_l _) (rg_l _) (by omega) (by omega)).toV), ?_⟩
   conv => whnf
   rw [addM_1]
   refine hK8 _ ?_
   clear hK8 K8
   refine W.region (cx_ok _) (by rfl) ?_
   conv => whnf
   refine ⟨by constructor <;> omega, ?_⟩
   conv => whnf
   exact againA ⟨j + 1, _, by omega, rfl, rfl, rfl⟩
  ·obtain rfl : j = n := by omega
   refine W.exit (hK1 _ ?_)
   clear hK7 K7 hK1 K1
   refine W.rs (cx_ok _) (by rfl) fun K hK => ?_
   conv => whnf
   refine callV rfl (l18Constant_fn none (trM f R X j).l (by omega)) fun hs' hhs => ?_
   try dsimp only at hhs
   conv => whnf
   refine hK _ ?_
   clear hK K
   refine W.ret ?_
   conv => whnf
   exact ⟨.v (.int .i64 (cf (trM f R X j).l 0)), ⟨rfl, rfl⟩, trivial, .v (.int .i64 0), ⟨rfl, rfl⟩, trivial, rfl⟩
 ·refine fn_of (cx_ok [0, 1, 2, 4, 5, 6, 7, 8, 9, 15, 22, 23, 24]) Tryz.func60 rfl (by decide) Tryz.ntmps60 (Nat.le_of_ble_eq_true rfl) fun base => ?_
  refine W.rs (cx_ok _) (by rfl) fun K hK => ?_
  conv => whnf
  refine ⟨rfl, ?_⟩
  conv => whnf
  intro b_1 hs_1 hh_1 hf_1
  try dsimp only at hh_1 hf_1
  conv => whnf
  refine hK _ ?_
  clear hK K
  refine W.seqK fun K1 hK1 => ?_
  refine W.rs (cx_ok _) (by rfl) fun K hK => ?_
  conv => whnf
  refine ⟨⟨rfl, by decide, fun x hx => (by simp at hx; subst hx; exact ⟨rfl, rfl⟩)⟩, ?_⟩
  conv => whnf
  intro b_2 hs_2 hh_2 hf_2
  try dsimp only at hh_2 hf_2
  conv => whnf
  refine callV rfl (extended_fn kp kq g0 (some b_2) f.l 1 _ (fun _ => X.l) (by omega) (by omega) (fun i hi => by omega) (els1 g1 X.l)) fun hs' hhs => ?_
  try dsimp only at hhs
  conv => whnf
  rw [show codeX kp kq f.l 1 (fun _ => X.l) = 0 from hc]
  refine hK _ ?_
  clear hK K
  refine W.rs (cx_ok _) (by rfl) fun K hK => ?_
  conv => whnf
  refine hK _ (W.cond ⟨fun hcc => absurd rfl (of_decide_eq_true hcc), fun _ => W.skip (hK1 _ ?_)⟩)
  clear hK K hK1 K1
  refine W.rs (cx_ok _) (by rfl) fun K hK => ?_
  conv => whnf
  refine hK _ ?_
  clear hK K
  refine W.rs (cx_ok _) (by rfl) fun K hK => ?_
  conv => whnf
  refine callV rfl (frobenius_fn he g0 R hR) fun hs' hhs => ?_
  try dsimp only at hhs
  conv => whnf
  refine hK _ ?_
  clear hK K
  refine W.seqK fun K1 hK1 => ?_
  refine W.rs (cx_ok _) (by rfl) fun K hK => ?_
  conv => whnf
  refine callV rfl (degree_fn g0 f.l (by omega)) fun hs' hhs => ?_
  try dsimp only at hhs
  conv => whnf
  refine hK _ (W.block (W.invA (fun m e => ∃ (j : Nat) (g' : Option Nat) (s : List Int), j ≤ n ∧ s = (trM f R X j).l ∧ m = n - j ∧ e = [(2, .ownB b_1 (vE kp kq g0 f.l)), (7, .v (.ints none s)), (8, .v (.ints none R.l)), (9, .v (.ints g' (frM f R X j).l)), (22, .v (.int .i64 ((f.l.length : Int) - 1))), (23, .v (.int .i64 j))]) ⟨0, g1, [], Nat.zero_le _, zeroM_l.symm, rfl, rfl⟩ ?_))
  clear hK K
  rintro m e ⟨j, g', s, hj, rfl, hm, rfl⟩
  have hFj := hF j
  have hTj := hT j
  have hFl : (frM f R X j).l.length = dg (frM f R X j) := rfl
  have hTl : (trM f R X j).l.length = dg (trM f R X j) := rfl
  have hsl := add_len (trM f R X j).l (frM f R X j).l
  refine W.rs (cx_ok _) (by rfl) fun K hK => ?_
  conv => whnf
  refine hK _ ?_
  clear hK K
  refine W.seqK fun K7 hK7 => W.cond ⟨fun h => ?_, fun h => ?_⟩ <;> (first | replace h := of_decide_eq_true h | replace h := of_decide_eq_false h)
  ·refine W.skip (hK7 _ ?_)
   clear hK7 K7
   refine W.seqK fun K8 hK8 => W.block ?_
   refine W.rs (cx_ok _) (by rfl) fun K hK => ?_
   conv => whnf
   refine ⟨by show 0 + 2 ≤ 3; omega, ?_⟩
   conv => whnf
   refine callV rfl (ringMod_M he.rn.1 he.hm) fun hs' hhs => ?_
   try dsimp only at hhs
   conv => whnf
   refine callV rfl ((sumOf_fn none g' (trM f R X j).l (frM f R X j).l ((r_bd m9 _).le (by omega)) ((r_bd m9 _).le (by omega)) (by omega) (by omega)).toV) fun hs' hhs => ?_
   try dsimp only at hhs
   conv => whnf
   refine callV rfl ((reduce_fn M (by omega) (by omega) none (trimZ (addL (trM f R X j).l (frM f R X j).l)) (add_bd (r_bd m9 _) (r_bd m9 _) (by omega)) (by omega)).toV) fun hs' hhs => ?_
   try dsimp only at hhs
   conv => whnf
   rw [addM_l]
   refine hK _ ?_
   clear hK K
   refine W.region (cx_ok _) (by rfl) ?_
   conv => whnf
   refine callV rfl (eVal_fn he g0 g' none (frM f R X j) R (by omega) hRd) fun hs' hhs => ?_
   try dsimp only at hhs
   conv => whnf
   refine hK8 _ ?_
   clear hK8 K8
   refine W.region (cx_ok _) (by rfl) ?_
   conv => whnf
   refine ⟨by constructor <;> omega, ?_⟩
   conv => whnf
   exact againA ⟨j + 1, none, _, by omega, rfl, rfl, rfl⟩
  ·obtain rfl : j = n := by omega
   refine W.exit (hK1 _ ?_)
   clear hK7 K7 hK1 K1
   refine W.rs (cx_ok _) (by rfl) fun K hK => ?_
   conv => whnf
   refine callV rfl (constant_fn none (trM f R X j).l (by omega)) fun hs' hhs => ?_
   try dsimp only at hhs
   conv => whnf
   refine hK _ ?_
   clear hK K
   refine W.ret ?_
   conv => whnf
   exact ⟨.v (.int .i64 (cf (trM f R X j).l 0)), ⟨rfl, rfl⟩, trivial, .v (.int .i64 0), ⟨rfl, rfl⟩, trivial, rfl⟩

theorem NormThere_both (kp kq : Int) (kl x : List Int) (_ : inR kp) (_ : inR kq) (hkl : kl.length ≤ 1048576) (hx : x.length ≤ 1048576) : ∃ r0 r1 : Int,
  (FnV 57 [vE kp kq none kl, .ints none x] (.tup [.int .i64 r0, .int .i64 r1])) ∧ (∀ g0 g1 : Option Nat, FnV 58 [vE kp kq g0 kl, .ints g1 x] (.tup [.int .i64 r0, .int .i64 r1])) := by
 generalize hc : codeX1 kp kq kl x = c
 by_cases h0 : c = 0
 case neg =>
  refine ⟨0, c, ?_, fun g0 g1 => ?_⟩
  ·refine fn_of (cx_ok [0, 1, 2, 4, 5, 6, 7, 8, 9, 15, 24]) Tryz.func57 rfl (by decide) Tryz.ntmps57 (Nat.le_of_ble_eq_true rfl) fun base => ?_
   refine W.rs (cx_ok _) (by rfl) fun K hK => ?_
   conv => whnf
   refine ⟨rfl, ?_⟩
   conv => whnf
   intro b_1 hs_1 hh_1 hf_1
   try dsimp only at hh_1 hf_1
   conv => whnf
   refine hK _ ?_
   clear hK K
   refine W.rs (cx_ok _) (by rfl) fun K hK => ?_
   conv => whnf
   refine callV rfl (l20Code_one kp kq none none none kl x (by omega) (by omega)) fun hs' hhs => ?_
   try dsimp only at hhs
   conv => whnf
   rw [hc]
   refine hK _ ?_
   clear hK K
   refine W.seqK fun K1 hK1 => ?_
   refine W.rs (cx_ok _) (by rfl) fun K hK => ?_
   conv => whnf
   refine hK _ (W.cond ⟨fun _ => ?_, fun hcc => absurd h0 (of_decide_eq_false hcc)⟩)
   clear hK K
   refine W.rs (cx_ok _) (by rfl) fun K hK => ?_
   conv => whnf
   refine hK _ ?_
   clear hK K
   refine W.ret ?_
   conv => whnf
   exact ⟨.v (.int .i64 0), ⟨rfl, rfl⟩, trivial, .v (.int .i64 c), ⟨rfl, rfl⟩, trivial, rfl⟩
  ·refine fn_of (cx_ok [0, 1, 2, 4, 5, 6, 7, 8, 9, 15, 23, 24, 25]) Tryz.func58 rfl (by decide) Tryz.ntmps58 (Nat.le_of_ble_eq_true rfl) fun base => ?_
   refine W.rs (cx_ok _) (by rfl) fun K hK => ?_
   conv => whnf
   refine ⟨rfl, ?_⟩
   conv => whnf
   intro b_1 hs_1 hh_1 hf_1
   try dsimp only at hh_1 hf_1
   conv => whnf
   refine hK _ ?_
   clear hK K
   refine W.seqK fun K1 hK1 => ?_
   refine W.rs (cx_ok _) (by rfl) fun K hK => ?_
   conv => whnf
   refine ⟨⟨rfl, by decide, fun x hx => (by simp at hx; subst hx; exact ⟨rfl, rfl⟩)⟩, ?_⟩
   conv => whnf
   intro b_2 hs_2 hh_2 hf_2
   try dsimp only at hh_2 hf_2
   conv => whnf
   refine callV rfl (extended_fn kp kq g0 (some b_2) kl 1 _ (fun _ => x) (by omega) (by omega) (fun i hi => by omega) (els1 g1 x)) fun hs' hhs => ?_
   try dsimp only at hhs
   conv => whnf
   rw [show codeX kp kq kl 1 (fun _ => x) = c from hc]
   refine hK _ ?_
   clear hK K
   refine W.rs (cx_ok _) (by rfl) fun K hK => ?_
   conv => whnf
   refine hK _ (W.cond ⟨fun _ => ?_, fun hcc => absurd h0 (of_decide_eq_false hcc)⟩)
   clear hK K
   refine W.rs (cx_ok _) (by rfl) fun K hK => ?_
   conv => whnf
   refine hK _ ?_
   clear hK K
   refine W.ret ?_
   conv => whnf
   exact ⟨.v (.int .i64 0), ⟨rfl, rfl⟩, trivial, .v (.int .i64 c), ⟨rfl, rfl⟩, trivial, rfl⟩
 subst h0
 obtain ⟨hk, hh⟩ := codeX1_ok hc
 obtain ⟨hp, hx2⟩ := ex_poly hk
 letI := sp_of hp
 obtain ⟨M, _, f, n, rfl, he⟩ := hx2
 have hfl : f.l.length = dg f := rfl
 have hf1 := he.mn.1
 have hn8 := he.n8
 obtain ⟨X, rfl⟩ := rn_poly he.hm hh.1
 have hdX : dg X < dg f := hh.2
 have hdX : dg X ≤ n := by omega
 have hlX : X.l.length = dg X := rfl
 have hkq : 1 ≤ kq.toNat := by have := he.rn.1.small; omega
 obtain ⟨R, hR⟩ := exists_root (f := f) (n := n) he.hm.symm hkq he.ple he.mn he.irr
 have hRd := hR.deg
 have m9 := he.m9
 have hp := Pos.pos (p := M)
 have hF := fun j => frM_dg (R := R) he.mn he.n1 hdX j
 have hN := fun j => nrM_dg (f := f) (R := R) (X := X) he.mn he.n1 j
 refine ⟨cf (nrM f R X n).l 0, 0, ?_, fun g0 g1 => ?_⟩
 ·refine fn_of (cx_ok [0, 1, 2, 4, 5, 6, 7, 8, 9, 15, 24]) Tryz.func57 rfl (by decide) Tryz.ntmps57 (Nat.le_of_ble_eq_true rfl) fun base => ?_
  refine W.rs (cx_ok _) (by rfl) fun K hK => ?_
  conv => whnf
  refine ⟨rfl, ?_⟩
  conv => whnf
  intro b_1 hs_1 hh_1 hf_1
  try dsimp only at hh_1 hf_1
  conv => whnf
  refine hK _ ?_
  clear hK K
  refine W.rs (cx_ok _) (by rfl) fun K hK => ?_
  conv => whnf
  refine callV rfl (l20Code_one kp kq none none none f.l X.l (by omega) (by omega)) fun hs' hhs => ?_
  try dsimp only at hhs
  conv => whnf
  rw [hc]
  refine hK _ ?_
  clear hK K
  refine W.seqK fun K1 hK1 => ?_
  refine W.rs (cx_ok _) (by rfl) fun K hK => ?_
  conv => whnf
  refine hK _ (W.cond ⟨fun hcc => absurd rfl (of_decide_eq_true hcc), fun _ => W.skip (hK1 _ ?_)⟩)
  clear hK K hK1 K1
  refine W.rs (cx_ok _) (by rfl) fun K hK => ?_
  conv => whnf
  refine callV rfl (l20Images_fn he none X R hdX hR) fun hs' hhs => ?_
  try dsimp only at hhs
  conv => whnf
  refine hK _ ?_
  clear hK K
  refine W.rs (cx_ok _) (by rfl) fun K hK => ?_
  conv => whnf
  refine ⟨⟨rfl, by decide⟩, ?_⟩
  conv => whnf
  intro b_5 hs_5 hh_5 hf_5
  try dsimp only at hh_5 hf_5
  conv => whnf
  refine hK _ ?_
  clear hK K
  refine W.seqK fun K1 hK1 => W.rs (cx_ok _) (by rfl) fun K hK => ?_
  conv => whnf
  refine hK _ (W.block (W.invA (fun m e => ∃ (j : Nat) (s : List Int), j ≤ n ∧ s = (nrM f R X j).l ∧ m = n - j ∧ e = [(2, .ownB b_1 (vE kp kq none f.l)), (7, .v (vImg f R X n)), (8, .v (.ints none s)), (9, .v (.int .i64 j))]) ⟨0, [1], Nat.zero_le _, (oneM_l he.m2).symm, rfl, rfl⟩ ?_))
  clear hK K
  rintro m e ⟨j, s, hj, rfl, hm, rfl⟩
  have hFj := hF j
  have hNj := hN j
  have hNl : (nrM f R X j).l.length = dg (nrM f R X j) := rfl
  refine W.seqK fun K7 hK7 => W.rs (cx_ok _) (by rfl) fun K hK => ?_
  conv => whnf
  refine hK _ (W.cond ⟨fun h => ?_, fun h => ?_⟩) <;> clear hK K <;> (first | replace h := of_decide_eq_true h | replace h := of_decide_eq_false h)
  ·refine W.skip (hK7 _ ?_)
   clear hK7 K7
   refine W.seqK fun K8 hK8 => W.block ?_
   refine W.draw (cx_ok _) follows (by rfl) ?_
   conv => whnf
   refine ⟨⟨by omega, by omega⟩, ?_⟩
   conv => whnf
   rw [Int.toNat_natCast]
   refine ⟨_, cxF (l20Multiply_fn he none none none (nrM f R X j) (frM f R X j) hNj hFj), ?_⟩
   conv => whnf
   refine hK8 _ ?_
   clear hK8 K8
   refine W.region (cx_ok _) (by rfl) ?_
   conv => whnf
   refine ⟨by constructor <;> omega, ?_⟩
   conv => whnf
   exact againA ⟨j + 1, _, by omega, rfl, rfl, rfl⟩
  ·obtain rfl : j = n := by omega
   refine W.exit (hK1 _ ?_)
   clear hK7 K7 hK1 K1
   refine W.rs (cx_ok _) (by rfl) fun K hK => ?_
   conv => whnf
   refine callV rfl (l18Constant_fn none (nrM f R X j).l (by omega)) fun hs' hhs => ?_
   try dsimp only at hhs
   conv => whnf
   refine hK _ ?_
   clear hK K
   refine W.ret ?_
   conv => whnf
   exact ⟨.v (.int .i64 (cf (nrM f R X j).l 0)), ⟨rfl, rfl⟩, trivial, .v (.int .i64 0), ⟨rfl, rfl⟩, trivial, rfl⟩
 ·refine fn_of (cx_ok [0, 1, 2, 4, 5, 6, 7, 8, 9, 15, 23, 24, 25]) Tryz.func58 rfl (by decide) Tryz.ntmps58 (Nat.le_of_ble_eq_true rfl) fun base => ?_
  refine W.rs (cx_ok _) (by rfl) fun K hK => ?_
  conv => whnf
  refine ⟨rfl, ?_⟩
  conv => whnf
  intro b_1 hs_1 hh_1 hf_1
  try dsimp only at hh_1 hf_1
  conv => whnf
  refine hK _ ?_
  clear hK K
  refine W.seqK fun K1 hK1 => ?_
  refine W.rs (cx_ok _) (by rfl) fun K hK => ?_
  conv => whnf
  refine ⟨⟨rfl, by decide, fun x hx => (by simp at hx; subst hx; exact ⟨rfl, rfl⟩)⟩, ?_⟩
  conv => whnf
  intro b_2 hs_2 hh_2 hf_2
  try dsimp only at hh_2 hf_2
  conv => whnf
  refine callV rfl (extended_fn kp kq g0 (some b_2) f.l 1 _ (fun _ => X.l) (by omega) (by omega) (fun i hi => by omega) (els1 g1 X.l)) fun hs' hhs => ?_
  try dsimp only at hhs
  conv => whnf
  rw [show codeX kp kq f.l 1 (fun _ => X.l) = 0 from hc]
  refine hK _ ?_
  clear hK K
  refine W.rs (cx_ok _) (by rfl) fun K hK => ?_
  conv => whnf
  refine hK _ (W.cond ⟨fun hcc => absurd rfl (of_decide_eq_true hcc), fun _ => W.skip (hK1 _ ?_)⟩)
  clear hK K hK1 K1
  refine W.rs (cx_ok _) (by rfl) fun K hK => ?_
  conv => whnf
  refine ⟨⟨rfl, by decide⟩, ?_⟩
  conv => whnf
  intro b_4 hs_4 hh_4 hf_4
  try dsimp only at hh_4 hf_4
  conv => whnf
  refine hK _ ?_
  clear hK K
  refine W.rs (cx_ok _) (by rfl) fun K hK => ?_
  conv => whnf
  refine callV rfl (frobenius_fn he g0 R hR) fun hs' hhs => ?_
  try dsimp only at hhs
  conv => whnf
  refine hK _ ?_
  clear hK K
  refine W.seqK fun K1 hK1 => ?_
  refine W.rs (cx_ok _) (by rfl) fun K hK => ?_
  conv => whnf
  refine callV rfl (degree_fn g0 f.l (by omega)) fun hs' hhs => ?_
  try dsimp only at hhs
  conv => whnf
  refine hK _ (W.block (W.invA (fun m e => ∃ (j : Nat) (g' : Option Nat) (s : List Int), j ≤ n ∧ s = (nrM f R X j).l ∧ m = n - j ∧ e = [(2, .ownB b_1 (vE kp kq g0 f.l)), (7, .v (.ints none s)), (8, .v (.ints none R.l)), (9, .v (.ints g' (frM f R X j).l)), (23, .v (.int .i64 ((f.l.length : Int) - 1))), (24, .v (.int .i64 j))]) ⟨0, g1, [1], Nat.zero_le _, (oneM_l he.m2).symm, rfl, rfl⟩ ?_))
  clear hK K
  rintro m e ⟨j, g', s, hj, rfl, hm, rfl⟩
  have hFj := hF j
  have hNj := hN j
  have hNl : (nrM f R X j).l.length = dg (nrM f R X j) := rfl
  refine W.rs (cx_ok _) (by rfl) fun K hK => ?_
  conv => whnf
  refine hK _ ?_
  clear hK K
  refine W.seqK fun K7 hK7 => W.cond ⟨fun h => ?_, fun h => ?_⟩ <;> (first | replace h := of_decide_eq_true h | replace h := of_decide_eq_false h)
  ·refine W.skip (hK7 _ ?_)
   clear hK7 K7
   refine W.seqK fun K8 hK8 => W.block ?_
   refine W.rs (cx_ok _) (by rfl) fun K hK => ?_
   conv => whnf
   refine callV rfl (eTimes_fn he g0 none g' (nrM f R X j) (frM f R X j) hNj hFj) fun hs' hhs => ?_
   try dsimp only at hhs
   conv => whnf
   refine hK _ ?_
   clear hK K
   refine W.region (cx_ok _) (by rfl) ?_
   conv => whnf
   refine callV rfl (eVal_fn he g0 g' none (frM f R X j) R (by omega) hRd) fun hs' hhs => ?_
   try dsimp only at hhs
   conv => whnf
   refine hK8 _ ?_
   clear hK8 K8
   refine W.region (cx_ok _) (by rfl) ?_
   conv => whnf
   refine ⟨by constructor <;> omega, ?_⟩
   conv => whnf
   exact againA ⟨j + 1, none, _, by omega, rfl, rfl, rfl⟩
  ·obtain rfl : j = n := by omega
   refine W.exit (hK1 _ ?_)
   clear hK7 K7 hK1 K1
   refine W.rs (cx_ok _) (by rfl) fun K hK => ?_
   conv => whnf
   refine callV rfl (constant_fn none (nrM f R X j).l (by omega)) fun hs' hhs => ?_
   try dsimp only at hhs
   conv => whnf
   refine hK _ ?_
   clear hK K
   refine W.ret ?_
   conv => whnf
   exact ⟨.v (.int .i64 (cf (nrM f R X j).l 0)), ⟨rfl, rfl⟩, trivial, .v (.int .i64 0), ⟨rfl, rfl⟩, trivial, rfl⟩

open Go Go.RowKit Go.ChangeShapes Go.WideShapes Go.ChangeAt Go.Proofs Go.Proofs.YtfinplgomnfdpaaGreat

theorem fn_calls {P : Program} {f : Nat} {xs : List V} {r : V} {w : World} {vs : Array Value} (h : Fn P f xs (fun _ _ a => a = .v r)) (hl : vs.size = xs.length)
  (hr : ∀ j, j < xs.length → Rep (okAll w) w.heap (xs.getD j .nil) (vs.getD j undef)) :
  Calls P f vs w fun e w' => ∃ v, e = .returned v ∧ Below w.heap.size w w' ∧ Rep (okR (fun _ => False) w'.heap.size) w'.heap r v := by
 refine (h.2 (fun _ => False) w vs (fun _ h => h.elim) hl hr).mono fun e w' ⟨v, av, hi, h1, h2, h3, h4, h5⟩ => ?_
 subst h3
 obtain ⟨_, h6, _⟩ := h5
 refine ⟨v, h1, h4, ?_⟩
 exact Rep.mono h6 fun g b hb => ⟨⟨hb.1, fun h => h.elim, hb.2.2⟩, rfl⟩

theorem fn_true {P : Program} {f : Nat} {xs : List V} {w : World} {vs : Array Value} (h : Fn P f xs (fun _ _ a => a = .v .tr)) (hl : vs.size = xs.length)
  (hr : ∀ j, j < xs.length → Rep (okAll w) w.heap (xs.getD j .nil) (vs.getD j undef)) :
  Calls P f vs w fun e w' => e = .returned (.bool true) ∧ Below w.heap.size w w' :=
 (fn_calls h hl hr).mono fun e w' ⟨v, h1, h2, h3⟩ => by
  cases h3
  exact ⟨h1, h2⟩

theorem ownP : ownKnob Tryz.prog.godebug = none := by kernel_rfl
theorem laidOutP : laidOutB Tryz.prog = true := by kernel_rfl
theorem cellsInt : Tryz.prog.cellsOf 2 = 1 := by kernel_rfl

theorem cellsInts : Tryz.prog.cellsOf 22 = 1 := by kernel_rfl
theorem readsInt {H : Type} {enc : TypeId × Value → H} {W : World} : Reads enc Tryz.prog W 2 1 TyInt := reads_int Tryz.underlying2
theorem readsInts {H : Type} {enc : TypeId × Value → H} {W : World} : Reads enc Tryz.prog W 22 1 TyInts := reads_ints Tryz.underlying22 Tryz.underlying2 cellsInt
theorem readsRing {H : Type} {enc : TypeId × Value → H} {W : World} : Reads enc Tryz.prog W 48 2 (TyCat [TyInt, TyInt]) :=
 reads_struct Tryz.underlying48 (by kernel_rfl) ⟨rfl, 1, cellsInt, readsInt, rfl, 1, cellsInt, readsInt, rfl⟩
theorem readsExtension {H : Type} {enc : TypeId × Value → H} {W : World} : Reads enc Tryz.prog W 50 3 (TyCat [TyCat [TyInt, TyInt], TyInts]) :=
 reads_struct Tryz.underlying50 (by kernel_rfl) ⟨rfl, 2, by kernel_rfl, readsRing, rfl, 1, cellsInts, readsInts, rfl⟩

open Go Go.RowKit Go.ChangeShapes Go.WideShapes Go.ChangeAt Go.Proofs Go.Proofs.YtfinplgomnfdpaaGreat
set_option maxRecDepth 100000

def signs : List Char := [104, 97, 114, 110, 101, 115, 115, 32, 49, 51, 49, 55, 50, 97, 99, 50, 55, 55, 56, 54, 98, 49, 53, 56, 53, 101, 56, 102, 98, 55, 53, 97, 102, 100, 53, 49, 99, 97, 101, 101, 49, 49, 102, 55, 56, 48, 101, 100, 54, 50, 55, 98, 51, 49, 99, 101, 53, 97, 99, 98, 49, 54, 102, 97, 55, 101, 97, 98, 57, 51, 52, 51, 32, 99, 117, 116, 32, 97, 116, 32, 108, 111, 111, 112, 46, 101, 120, 97, 109, 112, 108, 101, 47, 103, 48, 49, 48, 48, 48, 47, 108, 97, 119, 115, 46, 70, 110, 69, 120, 97, 99, 116, 69, 108, 101, 109, 101, 110, 116, 115, 79, 102, 79, 114, 100, 101, 114, 32, 108, 111, 111, 112, 46, 101, 120, 97, 109, 112, 108, 101, 47, 103, 48, 49, 48, 48, 48, 47, 108, 97, 119, 115, 46, 70, 110, 69, 120, 97, 99, 116, 82, 111, 111, 116, 115, 79, 102, 69, 108, 101, 109, 101, 110, 116, 32, 108, 111, 111, 112, 46, 101, 120, 97, 109, 112, 108, 101, 47, 103, 48, 49, 48, 48, 48, 47, 108, 97, 119, 115, 46, 70, 110, 69, 120, 97, 99, 116, 90, 101, 99, 104, 76, 111, 103, 97, 114, 105, 116, 104, 109, 32, 108, 111, 111, 112, 46, 101, 120, 97, 109, 112, 108, 101, 47, 103, 48, 49, 48, 48, 48, 47, 108, 97, 119, 115, 46, 70, 110, 69, 120, 97, 99, 116, 77, 105, 110, 105, 109, 97, 108, 80, 111, 108, 121, 110, 111, 109, 105, 97, 108, 32, 108, 111, 111, 112, 46, 101, 120, 97, 109, 112, 108, 101, 47, 103, 48, 49, 48, 48, 48, 47, 108, 97, 119, 115, 46, 70, 110, 69, 120, 97, 99, 116, 67, 111, 110, 106, 117, 103, 97, 116, 101, 115, 79, 102, 32, 108, 111, 111, 112, 46, 101, 120, 97, 109, 112, 108, 101, 47, 103, 48, 49, 48, 48, 48, 47, 108, 97, 119, 115, 46, 70, 110, 69, 120, 97, 99, 116, 82, 111, 111, 116, 115, 73, 110, 70, 105, 101, 108, 100, 32, 108, 111, 111, 112, 46, 101, 120, 97, 109, 112, 108, 101, 47, 103, 48, 49, 48, 48, 48, 47, 108, 97, 119, 115, 46, 70, 110, 69, 120, 97, 99, 116, 82, 101, 115, 105, 100, 117, 101, 70, 105, 101, 108, 100, 32, 108, 111, 111, 112, 46, 101, 120, 97, 109, 112, 108, 101, 47, 103, 48, 49, 48, 48, 48, 47, 108, 97, 119, 115, 46, 70, 110, 69, 120, 97, 99, 116, 77, 117, 108, 116, 105, 112, 108, 121, 84, 104, 101, 114, 101, 32, 108, 111, 111, 112, 46, 101, 120, 97, 109, 112, 108, 101, 47, 103, 48, 49, 48, 48, 48, 47, 108, 97, 119, 115, 46, 70, 110, 69, 120, 97, 99, 116, 84, 101, 105, 99, 104, 109, 117, 101, 108, 108, 101, 114, 84, 104, 101, 114, 101, 32, 108, 111, 111, 112, 46, 101, 120, 97, 109, 112, 108, 101, 47, 103, 48, 49, 48, 48, 48, 47, 108, 97, 119, 115, 46, 70, 110, 69, 120, 97, 99, 116, 73, 110, 118, 101, 114, 116, 84, 104, 101, 114, 101, 32, 108, 111, 111, 112, 46, 101, 120, 97, 109, 112, 108, 101, 47, 103, 48, 49, 48, 48, 48, 47, 108, 97, 119, 115, 46, 70, 110, 69, 120, 97, 99, 116, 70, 114, 111, 98, 101, 110, 105, 117, 115, 84, 104, 101, 114, 101, 32, 108, 111, 111, 112, 46, 101, 120, 97, 109, 112, 108, 101, 47, 103, 48, 49, 48, 48, 48, 47, 108, 97, 119, 115, 46, 70, 110, 69, 120, 97, 99, 116, 65, 112, 112, 108, 121, 70, 114, 111, 98, 101, 110, 105, 117, 115, 32, 108, 111, 111, 112, 46, 101, 120, 97, 109, 112, 108, 101, 47, 103, 48, 49, 48, 48, 48, 47, 108, 97, 119, 115, 46, 70, 110, 69, 120, 97, 99, 116, 78, 111, 114, 109, 84, 104, 101, 114, 101, 32, 108, 111, 111, 112, 46, 101, 120, 97, 109, 112, 108, 101, 47, 103, 48, 49, 48, 48, 48, 47, 108, 97, 119, 115, 46, 70, 110, 69, 120, 97, 99, 116, 84, 114, 97, 99, 101, 84, 104, 101, 114, 101].map Char.ofNat
def word1 : List Char := [99, 117, 116].map Char.ofNat
def words : List (List Char) := [[97, 116], [108, 111, 111, 112, 46, 101, 120, 97, 109, 112, 108, 101, 47, 103, 48, 49, 48, 48, 48, 47, 108, 97, 119, 115, 46, 70, 110, 69, 120, 97, 99, 116, 69, 108, 101, 109, 101, 110, 116, 115, 79, 102, 79, 114, 100, 101, 114], [108, 111, 111, 112, 46, 101, 120, 97, 109, 112, 108, 101, 47, 103, 48, 49, 48, 48, 48, 47, 108, 97, 119, 115, 46, 70, 110, 69, 120, 97, 99, 116, 82, 111, 111, 116, 115, 79, 102, 69, 108, 101, 109, 101, 110, 116], [108, 111, 111, 112, 46, 101, 120, 97, 109, 112, 108, 101, 47, 103, 48, 49, 48, 48, 48, 47, 108, 97, 119, 115, 46, 70, 110, 69, 120, 97, 99, 116, 90, 101, 99, 104, 76, 111, 103, 97, 114, 105, 116, 104, 109], [108, 111, 111, 112, 46, 101, 120, 97, 109, 112, 108, 101, 47, 103, 48, 49, 48, 48, 48, 47, 108, 97, 119, 115, 46, 70, 110, 69, 120, 97, 99, 116, 77, 105, 110, 105, 109, 97, 108, 80, 111, 108, 121, 110, 111, 109, 105, 97, 108], [108, 111, 111, 112, 46, 101, 120, 97, 109, 112, 108, 101, 47, 103, 48, 49, 48, 48, 48, 47, 108, 97, 119, 115, 46, 70, 110, 69, 120, 97, 99, 116, 67, 111, 110, 106, 117, 103, 97, 116, 101, 115, 79, 102], [108, 111, 111, 112, 46, 101, 120, 97, 109, 112, 108, 101, 47, 103, 48, 49, 48, 48, 48, 47, 108, 97, 119, 115, 46, 70, 110, 69, 120, 97, 99, 116, 82, 111, 111, 116, 115, 73, 110, 70, 105, 101, 108, 100], [108, 111, 111, 112, 46, 101, 120, 97, 109, 112, 108, 101, 47, 103, 48, 49, 48, 48, 48, 47, 108, 97, 119, 115, 46, 70, 110, 69, 120, 97, 99, 116, 82, 101, 115, 105, 100, 117, 101, 70, 105, 101, 108, 100], [108, 111, 111, 112, 46, 101, 120, 97, 109, 112, 108, 101, 47, 103, 48, 49, 48, 48, 48, 47, 108, 97, 119, 115, 46, 70, 110, 69, 120, 97, 99, 116, 77, 117, 108, 116, 105, 112, 108, 121, 84, 104, 101, 114, 101], [108, 111, 111, 112, 46, 101, 120, 97, 109, 112, 108, 101, 47, 103, 48, 49, 48, 48, 48, 47, 108, 97, 119, 115, 46, 70, 110, 69, 120, 97, 99, 116, 84, 101, 105, 99, 104, 109, 117, 101, 108, 108, 101, 114, 84, 104, 101, 114, 101], [108, 111, 111, 112, 46, 101, 120, 97, 109, 112, 108, 101, 47, 103, 48, 49, 48, 48, 48, 47, 108, 97, 119, 115, 46, 70, 110, 69, 120, 97, 99, 116, 73, 110, 118, 101, 114, 116, 84, 104, 101, 114, 101], [108, 111, 111, 112, 46, 101, 120, 97, 109, 112, 108, 101, 47, 103, 48, 49, 48, 48, 48, 47, 108, 97, 119, 115, 46, 70, 110, 69, 120, 97, 99, 116, 70, 114, 111, 98, 101, 110, 105, 117, 115, 84, 104, 101, 114, 101], [108, 111, 111, 112, 46, 101, 120, 97, 109, 112, 108, 101, 47, 103, 48, 49, 48, 48, 48, 47, 108, 97, 119, 115, 46, 70, 110, 69, 120, 97, 99, 116, 65, 112, 112, 108, 121, 70, 114, 111, 98, 101, 110, 105, 117, 115], [108, 111, 111, 112, 46, 101, 120, 97, 109, 112, 108, 101, 47, 103, 48, 49, 48, 48, 48, 47, 108, 97, 119, 115, 46, 70, 110, 69, 120, 97, 99, 116, 78, 111, 114, 109, 84, 104, 101, 114, 101], [108, 111, 111, 112, 46, 101, 120, 97, 109, 112, 108, 101, 47, 103, 48, 49, 48, 48, 48, 47, 108, 97, 119, 115, 46, 70, 110, 69, 120, 97, 99, 116, 84, 114, 97, 99, 101, 84, 104, 101, 114, 101]].map fun w => w.map Char.ofNat
theorem initS : Tryz.checked.prog.initOrder = String.ofList signs := by kernel_rfl
theorem initW : behindMainWord (wordsSigns Tryz.checked.prog.initOrder.toList) = word1 :: words := by rw [initS, String.toList_ofList]; kernel_rfl
theorem mayEnter_of {P : Program} {c : List Char} {rest : List (List Char)} (h0 : behindMainWord (wordsSigns P.initOrder.toList) = c :: rest) (h1 : (stripLifts liftWords (c :: rest)) = ([], c :: rest)) (h2 : (c == "cut".toList) = true)
  (h3 : P.laysLater = false) (h4 : P.bearsReflect = false) (h5 : P.doorFits [] = true) : P.mayEnter = true := by
 unfold Program.mayEnter
 rw [h0]
 have e : (some c == some "cut".toList) = true := h2
 refine (Bool.or_eq_true _ _).mpr (.inr ?_)
 rw [h1, h3, h4, h5]
 show ((some c == some "cut".toList) && _ && _ && _ && _) = true
 rw [e]
 rfl
theorem lifts0 : stripLifts liftWords (word1 :: words) = ([], word1 :: words) := by kernel_rfl
theorem enterP : Tryz.checked.prog.mayEnter = true := mayEnter_of initW lifts0 (by kernel_rfl) (by kernel_rfl) (by kernel_rfl) (by kernel_rfl)
theorem headLifts_of {P : Program} {c : List Char} {rest : List (List Char)} (h0 : behindMainWord (wordsSigns P.initOrder.toList) = c :: rest) (h1 : stripLifts liftWords (c :: rest) = ([], c :: rest)) : P.headLifts = [] := by
 unfold Program.headLifts
 rw [h0, h1]
 dsimp only
 split <;> rfl
theorem liftsFinal_of {P : Program} {c : List Char} {rest : List (List Char)} (h0 : behindMainWord (wordsSigns P.initOrder.toList) = c :: rest) (hh : P.headLifts = []) (h2 : (c == "carried".toList) = false) : P.liftsFinal = false := by
 have e : (some c == some "carried".toList) = false := h2
 unfold Program.liftsFinal
 rw [h0, hh]
 show (((some c == some "carried".toList) && _) || _) = false
 rw [e]
 rfl
theorem make_of {P : Program} {c : List Char} {rest : List (List Char)} (h0 : behindMainWord (wordsSigns P.initOrder.toList) = c :: rest) (h1 : (c == "gc".toList) = false) (h2 : (c == "spec".toList) = false) (h3 : (c == "cut".toList) = true) : P.make = some .cut := by
 unfold Program.make
 rw [h0]
 dsimp only
 rw [h1, h2, h3]
 rfl
theorem headP : Tryz.checked.prog.headLifts = [] := headLifts_of initW lifts0
theorem liftP : Tryz.checked.prog.liftsFinal = false := liftsFinal_of initW headP (by kernel_rfl)
theorem makeP : Tryz.checked.prog.make = some .cut := make_of initW (by kernel_rfl) (by kernel_rfl) (by kernel_rfl)

end Go.Proofs.YtfinplgomnfdpaaGreat
