/- What the program's functions and the reference's return. No conditions. -/
import Derived.Test.YtfinplgomnfdpaaGreatPf
namespace Go.Proofs.YtfinplgomnfdpaaGreat
open Go Go.RowKit Go.Proofs Poly
set_option maxRecDepth 100000
set_option maxHeartbeats 8000000

def cmpI (x y : Int) : Int := if x < y then -1 else if y < x then 1 else 0
def cmpAt (f g : List Int) : Nat → Int
 | 0 => 0
 | n + 1 => if cf f n < cf g n then -1 else if cf g n < cf f n then 1 else cmpAt f g n
def cmpP (f g : List Int) : Int := if f.length < g.length then -1 else if g.length < f.length then 1 else cmpAt f g f.length

theorem cmpP_ne {xs ys : List Int} (h : xs.length ≠ ys.length) : cmpP xs ys = cmpI xs.length ys.length := by
 unfold cmpP cmpI
 by_cases h1 : xs.length < ys.length
 ·rw [if_pos h1, if_pos (by omega)]
 ·rw [if_neg h1, if_pos (by omega), if_neg (by omega), if_pos (by omega)]

theorem isNaNint_fn (x : Int) : FnV 220 [.int .i64 x] (.bool false) := by
 refine fn_of (cx_ok [0, 2]) Tryz.func220 rfl (by decide) Tryz.ntmps220 (Nat.le_of_ble_eq_true rfl) fun base => ?_
 refine W.rs (cx_ok _) (by rfl) fun K hK => ?_
 conv => whnf
 refine hK _ ?_
 clear hK K
 refine W.rs (cx_ok _) (by rfl) fun K hK => ?_
 conv => whnf
 refine hK _ ?_
 clear hK K
 refine W.ret ?_
 conv => whnf
 exact ⟨.v (.bool false), (decide_eq_false fun h : x ≠ x => h rfl), trivial, rfl⟩
theorem isNaNint64_fn (x : Int) : FnV 221 [.int .i64 x] (.bool false) := by
 refine fn_of (cx_ok [0, 2]) Tryz.func221 rfl (by decide) Tryz.ntmps221 (Nat.le_of_ble_eq_true rfl) fun base => ?_
 refine W.rs (cx_ok _) (by rfl) fun K hK => ?_
 conv => whnf
 refine hK _ ?_
 clear hK K
 refine W.rs (cx_ok _) (by rfl) fun K hK => ?_
 conv => whnf
 refine hK _ ?_
 clear hK K
 refine W.ret ?_
 conv => whnf
 exact ⟨.v (.bool false), (decide_eq_false fun h : x ≠ x => h rfl), trivial, rfl⟩
theorem compareInt_fn (x y : Int) : FnV 206 [.int .i64 x, .int .i64 y] (.int .i64 (cmpI x y)) := by
 refine fn_of (cx_ok [0, 1, 4, 5, 6, 11, 12, 13, 16, 19]) Tryz.func206 rfl (by decide) Tryz.ntmps206 (Nat.le_of_ble_eq_true rfl) fun base => ?_
 refine W.rs (cx_ok _) (by rfl) fun K hK => ?_
 conv => whnf
 refine hK _ ?_
 clear hK K
 refine W.rs (cx_ok _) (by rfl) fun K hK => ?_
 conv => whnf
 refine callV rfl (isNaNint_fn x) fun hs' hhs => ?_
 try dsimp only at hhs
 conv => whnf
 refine hK _ ?_
 clear hK K
 refine W.rs (cx_ok _) (by rfl) fun K hK => ?_
 conv => whnf
 refine callV rfl (isNaNint_fn y) fun hs' hhs => ?_
 try dsimp only at hhs
 conv => whnf
 refine hK _ ?_
 clear hK K
 refine W.seqK fun K1 hK1 => W.rs (cx_ok _) (by rfl) fun K hK => ?_
 conv => whnf
 refine hK _ (W.cond ⟨fun h => absurd h (by decide), fun _ => W.skip (hK1 _ ?_)⟩)
 clear hK K hK1 K1
 refine W.seqK fun K1 hK1 => W.rs (cx_ok _) (by rfl) fun K hK => ?_
 conv => whnf
 refine hK _ (W.cond ⟨fun h => absurd h (by decide), fun _ => W.skip (hK1 _ ?_)⟩)
 clear hK K hK1 K1
 refine W.seqK fun K1 hK1 => W.rs (cx_ok _) (by rfl) fun K hK => ?_
 conv => whnf
 refine hK _ (W.cond ⟨fun h => ?_, fun h => ?_⟩) <;> clear hK K
 ·have h := of_decide_eq_true h
  refine W.rs (cx_ok _) (by rfl) fun K hK => ?_
  conv => whnf
  refine hK _ ?_
  clear hK K
  refine W.ret ?_
  conv => whnf
  exact ⟨.v (.int .i64 (cmpI x y)), ⟨rfl, by rw [cmpI, if_pos h]⟩, trivial, rfl⟩
 ·have h := of_decide_eq_false h
  refine W.skip (hK1 _ ?_)
  clear hK1 K1
  refine W.seqK fun K1 hK1 => W.rs (cx_ok _) (by rfl) fun K hK => ?_
  conv => whnf
  refine hK _ (W.cond ⟨fun h2 => ?_, fun h2 => ?_⟩) <;> clear hK K
  ·have h2 := of_decide_eq_true h2
   refine W.rs (cx_ok _) (by rfl) fun K hK => ?_
   conv => whnf
   refine hK _ ?_
   clear hK K
   refine W.ret ?_
   conv => whnf
   exact ⟨.v (.int .i64 (cmpI x y)), ⟨rfl, by rw [cmpI, if_neg h, if_pos h2]⟩, trivial, rfl⟩
  ·have h2 := of_decide_eq_false h2
   refine W.skip (hK1 _ ?_)
   clear hK1 K1
   refine W.rs (cx_ok _) (by rfl) fun K hK => ?_
   conv => whnf
   refine hK _ ?_
   clear hK K
   refine W.ret ?_
   conv => whnf
   exact ⟨.v (.int .i64 (cmpI x y)), ⟨rfl, by rw [cmpI, if_neg h, if_neg h2]⟩, trivial, rfl⟩
theorem compareInt64_fn (x y : Int) : FnV 207 [.int .i64 x, .int .i64 y] (.int .i64 (cmpI x y)) := by
 refine fn_of (cx_ok [0, 1, 4, 5, 6, 11, 12, 13, 16, 19]) Tryz.func207 rfl (by decide) Tryz.ntmps207 (Nat.le_of_ble_eq_true rfl) fun base => ?_
 refine W.rs (cx_ok _) (by rfl) fun K hK => ?_
 conv => whnf
 refine hK _ ?_
 clear hK K
 refine W.rs (cx_ok _) (by rfl) fun K hK => ?_
 conv => whnf
 refine callV rfl (isNaNint64_fn x) fun hs' hhs => ?_
 try dsimp only at hhs
 conv => whnf
 refine hK _ ?_
 clear hK K
 refine W.rs (cx_ok _) (by rfl) fun K hK => ?_
 conv => whnf
 refine callV rfl (isNaNint64_fn y) fun hs' hhs => ?_
 try dsimp only at hhs
 conv => whnf
 refine hK _ ?_
 clear hK K
 refine W.seqK fun K1 hK1 => W.rs (cx_ok _) (by rfl) fun K hK => ?_
 conv => whnf
 refine hK _ (W.cond ⟨fun h => absurd h (by decide), fun _ => W.skip (hK1 _ ?_)⟩)
 clear hK K hK1 K1
 refine W.seqK fun K1 hK1 => W.rs (cx_ok _) (by rfl) fun K hK => ?_
 conv => whnf
 refine hK _ (W.cond ⟨fun h => absurd h (by decide), fun _ => W.skip (hK1 _ ?_)⟩)
 clear hK K hK1 K1
 refine W.seqK fun K1 hK1 => W.rs (cx_ok _) (by rfl) fun K hK => ?_
 conv => whnf
 refine hK _ (W.cond ⟨fun h => ?_, fun h => ?_⟩) <;> clear hK K
 ·have h := of_decide_eq_true h
  refine W.rs (cx_ok _) (by rfl) fun K hK => ?_
  conv => whnf
  refine hK _ ?_
  clear hK K
  refine W.ret ?_
  conv => whnf
  exact ⟨.v (.int .i64 (cmpI x y)), ⟨rfl, by rw [cmpI, if_pos h]⟩, trivial, rfl⟩
 ·have h := of_decide_eq_false h
  refine W.skip (hK1 _ ?_)
  clear hK1 K1
  refine W.seqK fun K1 hK1 => W.rs (cx_ok _) (by rfl) fun K hK => ?_
  conv => whnf
  refine hK _ (W.cond ⟨fun h2 => ?_, fun h2 => ?_⟩) <;> clear hK K
  ·have h2 := of_decide_eq_true h2
   refine W.rs (cx_ok _) (by rfl) fun K hK => ?_
   conv => whnf
   refine hK _ ?_
   clear hK K
   refine W.ret ?_
   conv => whnf
   exact ⟨.v (.int .i64 (cmpI x y)), ⟨rfl, by rw [cmpI, if_neg h, if_pos h2]⟩, trivial, rfl⟩
  ·have h2 := of_decide_eq_false h2
   refine W.skip (hK1 _ ?_)
   clear hK1 K1
   refine W.rs (cx_ok _) (by rfl) fun K hK => ?_
   conv => whnf
   refine hK _ ?_
   clear hK K
   refine W.ret ?_
   conv => whnf
   exact ⟨.v (.int .i64 (cmpI x y)), ⟨rfl, by rw [cmpI, if_neg h, if_neg h2]⟩, trivial, rfl⟩
theorem comparePolynomials_fn (g g' : Option Nat) (xs ys : List Int) (hx : xs.length ≤ 1000000) (_ : ys.length ≤ 1000000) : FnV 198 [.ints g xs, .ints g' ys] (.int .i64 (cmpP xs ys)) := by
 refine fn_of (cx_ok [0, 1, 4, 5, 10, 20, 31]) Tryz.func198 rfl (by decide) Tryz.ntmps198 (Nat.le_of_ble_eq_true rfl) fun base => ?_
 refine W.rs (cx_ok _) (by rfl) fun K hK => ?_
 conv => whnf
 refine hK _ ?_
 clear hK K
 refine W.seqK fun K1 hK1 => W.rs (cx_ok _) (by rfl) fun K hK => ?_
 conv => whnf
 refine hK _ (W.cond ⟨fun h => ?_, fun h => ?_⟩) <;> clear hK K
 ·have h := of_decide_eq_true h
  refine W.rs (cx_ok _) (by rfl) fun K hK => ?_
  conv => whnf
  refine callV rfl (compareInt_fn xs.length ys.length) fun hs' hhs => ?_
  try dsimp only at hhs
  conv => whnf
  refine hK _ ?_
  clear hK K
  have h' : xs.length ≠ ys.length := fun e => h (by rw [e])
  refine W.ret ?_
  conv => whnf
  exact ⟨.v (.int .i64 (cmpP xs ys)), ⟨rfl, (cmpP_ne h').symm⟩, trivial, rfl⟩
 ·have h := of_decide_eq_false h
  have h' : xs.length = ys.length := by omega
  refine W.skip (hK1 _ ?_)
  clear hK1 K1
  refine W.seqK fun K1 hK1 => W.rs (cx_ok _) (by rfl) fun K hK => ?_
  conv => whnf
  refine ⟨by constructor <;> omega, ?_⟩
  conv => whnf
  refine hK _ (W.block (W.invE (fun m e => ∃ n : Nat, n ≤ xs.length ∧ cmpP xs ys = cmpAt xs ys n ∧ m = n ∧ e = [(0, .v (.ints g xs)), (1, .v (.ints g' ys)), (5, .v (.int .i64 ((n : Int) - 1)))]) _ _ (⟨xs.length, Nat.le_refl _, by unfold cmpP; rw [if_neg (by omega), if_neg (by omega)], rfl, rfl⟩) (by dsimp only; omega) (by repeat' first | refine And.intro ?_ ?_ | exact trivial | rfl | omega | exact .inl rfl | exact fun _ _ => rfl | exact fun _ _ h => h | assumption | exact fun i hi => (by obtain rfl : i = 0 := (by omega); rfl)) ?_))
  clear hK K
  rintro m e ⟨n, h1, h2, hm, rfl⟩
  refine W.seqK fun K7 hK7 => W.rs (cx_ok _) (by rfl) fun K hK => ?_
  conv => whnf
  refine hK _ (W.cond ⟨fun h3 => ?_, fun h3 => ?_⟩) <;> clear hK K <;> (first | replace h3 := of_decide_eq_true h3 | replace h3 := of_decide_eq_false h3)
  ·obtain ⟨k, rfl⟩ : ∃ k, n = k + 1 := ⟨n - 1, by omega⟩
   have ek : (((k + 1 : Nat) : Int) - 1) = (k : Int) := by omega
   rw [ek]
   refine W.skip (hK7 _ ?_)
   clear hK7 K7
   refine W.seqK fun K8 hK8 => W.block ?_
   refine W.rd (cx_ok _) follows (by rfl) fun K hK => ?_
   conv => whnf
   refine ⟨⟨by omega, by omega⟩, ?_⟩
   conv => whnf
   refine ⟨⟨by omega, by omega⟩, ?_⟩
   conv => whnf
   rw [Int.toNat_natCast]
   refine hK _ (W.cond ⟨fun h4 => ?_, fun h4 => ?_⟩) <;> clear hK K
   ·have h4 : cf xs k ≠ cf ys k := of_decide_eq_true h4
    refine W.rd (cx_ok _) follows (by rfl) fun K hK => ?_
    conv => whnf
    refine ⟨⟨by omega, by omega⟩, ?_⟩
    conv => whnf
    refine ⟨⟨by omega, by omega⟩, ?_⟩
    conv => whnf
    rw [Int.toNat_natCast]
    refine ⟨_, cxF (compareInt64_fn (cf xs k) (cf ys k)), ?_⟩
    conv => whnf
    refine hK _ ?_
    clear hK K
    refine W.ret ?_
    conv => whnf
    exact ⟨.v (.int .i64 (cmpP xs ys)), ⟨rfl, by rw [h2]; unfold cmpAt cmpI; by_cases h5 : cf xs k < cf ys k <;> by_cases h6 : cf ys k < cf xs k <;> first | omega | simp [h5, h6]⟩, trivial, rfl⟩
   ·have h4 : ¬ cf xs k ≠ cf ys k := of_decide_eq_false h4
    refine W.skip (hK8 _ ?_)
    clear hK8 K8
    refine W.region (cx_ok _) (by rfl) ?_
    conv => whnf
    refine ⟨by constructor <;> omega, ?_⟩
    conv => whnf
    refine ⟨_, _, ⟨k, by omega, by rw [h2]; exact (if_neg (by omega)).trans (if_neg (by omega)), rfl, rfl⟩, by omega, by dsimp only; omega, ?_⟩
    repeat' first | refine And.intro ?_ ?_ | exact trivial | rfl | omega | exact .inl rfl | exact fun _ _ => rfl | exact fun _ _ h => h | assumption | exact fun i hi => (by obtain rfl : i = 0 := (by omega); rfl)
  ·obtain rfl : n = 0 := by omega
   refine W.exit (hK1 _ ?_)
   clear hK7 K7 hK1 K1
   refine W.rs (cx_ok _) (by rfl) fun K hK => ?_
   conv => whnf
   refine hK _ ?_
   clear hK K
   refine W.ret ?_
   conv => whnf
   exact ⟨.v (.int .i64 (cmpP xs ys)), ⟨rfl, h2.symm⟩, trivial, rfl⟩

theorem l09Compare_fn (g g' : Option Nat) (xs ys : List Int) (hx : xs.length ≤ 1000000) (_ : ys.length ≤ 1000000) : FnV 201 [.ints g xs, .ints g' ys] (.int .i64 (cmpP xs ys)) := by
 refine fn_of (cx_ok [0, 1, 4, 5, 6, 12, 22, 25, 35]) Tryz.func201 rfl (by decide) Tryz.ntmps201 (Nat.le_of_ble_eq_true rfl) fun base => ?_
 refine W.rs (cx_ok _) (by rfl) fun K hK => ?_
 conv => whnf
 refine hK _ ?_
 clear hK K
 refine W.seqK fun K1 hK1 => W.block (W.rs (cx_ok _) (by rfl) fun K hK => ?_)
 conv => whnf
 refine hK _ (W.cond ⟨fun h => ?_, fun h => ?_⟩) <;> clear hK K
 ·have h := of_decide_eq_true h
  refine W.rs (cx_ok _) (by rfl) fun K hK => ?_
  conv => whnf
  refine hK _ ?_
  clear hK K
  refine W.ret ?_
  conv => whnf
  exact ⟨.v (.int .i64 (cmpP xs ys)), ⟨rfl, by unfold cmpP; rw [if_pos (by omega)]⟩, trivial, rfl⟩
 have h := of_decide_eq_false h
 refine W.rs (cx_ok _) (by rfl) fun K hK => ?_
 conv => whnf
 refine hK _ (W.cond ⟨fun h' => ?_, fun h' => ?_⟩) <;> clear hK K
 ·have h' := of_decide_eq_true h'
  refine W.rs (cx_ok _) (by rfl) fun K hK => ?_
  conv => whnf
  refine hK _ ?_
  clear hK K
  refine W.ret ?_
  conv => whnf
  exact ⟨.v (.int .i64 (cmpP xs ys)), ⟨rfl, by unfold cmpP; rw [if_neg (by omega), if_pos (by omega)]⟩, trivial, rfl⟩
 have h' := of_decide_eq_false h'
 refine W.skip (hK1 _ ?_)
 clear hK1 K1
 refine W.seqK fun K1 hK1 => W.rs (cx_ok _) (by rfl) fun K hK => ?_
 conv => whnf
 refine ⟨by constructor <;> omega, ?_⟩
 conv => whnf
 refine hK _ (W.block (W.invE (fun m e => ∃ n : Nat, n ≤ xs.length ∧ cmpP xs ys = cmpAt xs ys n ∧ m = n ∧ e = [(0, .v (.ints g xs)), (1, .v (.ints g' ys)), (5, .v (.int .i64 ((n : Int) - 1)))]) _ _ (⟨xs.length, Nat.le_refl _, by unfold cmpP; rw [if_neg (by omega), if_neg (by omega)], rfl, rfl⟩) (by dsimp only; omega) (by repeat' first | refine And.intro ?_ ?_ | exact trivial | rfl | omega | exact .inl rfl | exact fun _ _ => rfl | exact fun _ _ h => h | assumption | exact fun i hi => (by obtain rfl : i = 0 := (by omega); rfl)) ?_))
 clear hK K
 rintro m e ⟨n, h1, h2, hm, rfl⟩
 refine W.seqK fun K7 hK7 => W.rs (cx_ok _) (by rfl) fun K hK => ?_
 conv => whnf
 refine hK _ (W.cond ⟨fun h3 => ?_, fun h3 => ?_⟩) <;> clear hK K <;> (first | replace h3 := of_decide_eq_true h3 | replace h3 := of_decide_eq_false h3)
 ·obtain ⟨k, rfl⟩ : ∃ k, n = k + 1 := ⟨n - 1, by omega⟩
  have ek : (((k + 1 : Nat) : Int) - 1) = (k : Int) := by omega
  rw [ek]
  refine W.skip (hK7 _ ?_)
  clear hK7 K7
  refine W.seqK fun K8 hK8 => W.block ?_
  refine W.block ?_
  refine W.rd (cx_ok _) follows (by rfl) fun K hK => ?_
  conv => whnf
  refine ⟨⟨by omega, by omega⟩, ?_⟩
  conv => whnf
  refine ⟨⟨by omega, by omega⟩, ?_⟩
  conv => whnf
  rw [Int.toNat_natCast]
  refine hK _ (W.cond ⟨fun h4 => ?_, fun h4 => ?_⟩) <;> clear hK K
  ·have h4 : cf xs k < cf ys k := of_decide_eq_true h4
   refine W.rs (cx_ok _) (by rfl) fun K hK => ?_
   conv => whnf
   refine hK _ ?_
   clear hK K
   refine W.ret ?_
   conv => whnf
   exact ⟨.v (.int .i64 (cmpP xs ys)), ⟨rfl, by rw [h2]; unfold cmpAt; rw [if_pos h4]⟩, trivial, rfl⟩
  have h4 : ¬ cf xs k < cf ys k := of_decide_eq_false h4
  refine W.rd (cx_ok _) follows (by rfl) fun K hK => ?_
  conv => whnf
  refine ⟨⟨by omega, by omega⟩, ?_⟩
  conv => whnf
  refine ⟨⟨by omega, by omega⟩, ?_⟩
  conv => whnf
  rw [Int.toNat_natCast]
  refine hK _ (W.cond ⟨fun h5 => ?_, fun h5 => ?_⟩) <;> clear hK K
  ·have h5 : cf ys k < cf xs k := of_decide_eq_true h5
   refine W.rs (cx_ok _) (by rfl) fun K hK => ?_
   conv => whnf
   refine hK _ ?_
   clear hK K
   refine W.ret ?_
   conv => whnf
   exact ⟨.v (.int .i64 (cmpP xs ys)), ⟨rfl, by rw [h2]; unfold cmpAt; rw [if_neg h4, if_pos h5]⟩, trivial, rfl⟩
  have h5 : ¬ cf ys k < cf xs k := of_decide_eq_false h5
  refine W.skip (hK8 _ ?_)
  clear hK8 K8
  refine W.region (cx_ok _) (by rfl) ?_
  conv => whnf
  refine ⟨by constructor <;> omega, ?_⟩
  conv => whnf
  refine ⟨_, _, ⟨k, by omega, by rw [h2]; exact (if_neg (by omega)).trans (if_neg (by omega)), rfl, rfl⟩, by omega, by dsimp only; omega, ?_⟩
  repeat' first | refine And.intro ?_ ?_ | exact trivial | rfl | omega | exact .inl rfl | exact fun _ _ => rfl | exact fun _ _ h => h | assumption | exact fun i hi => (by obtain rfl : i = 0 := (by omega); rfl)
 ·obtain rfl : n = 0 := by omega
  refine W.exit (hK1 _ ?_)
  clear hK7 K7 hK1 K1
  refine W.rs (cx_ok _) (by rfl) fun K hK => ?_
  conv => whnf
  refine hK _ ?_
  clear hK K
  refine W.ret ?_
  conv => whnf
  exact ⟨.v (.int .i64 (cmpP xs ys)), ⟨rfl, h2.symm⟩, trivial, rfl⟩

theorem cmpAt_lt {f g : List Int} : ∀ n, cmpAt f g n < 0 ↔ ∃ i, i < n ∧ cf f i < cf g i ∧ ∀ j, i < j → j < n → cf f j = cf g j
 | 0 => ⟨fun h => by simp [cmpAt] at h, fun ⟨i, h, _⟩ => by omega⟩
 | n + 1 => by
  unfold cmpAt
  by_cases h1 : cf f n < cf g n
  ·rw [if_pos h1]
   exact ⟨fun _ => ⟨n, by omega, h1, fun j h2 h3 => by omega⟩, fun _ => by omega⟩
  ·rw [if_neg h1]
   by_cases h2 : cf g n < cf f n
   ·rw [if_pos h2]
    refine ⟨fun h => by omega, fun ⟨i, h3, h4, h5⟩ => ?_⟩
    by_cases hi : i = n
    ·subst hi; omega
    ·have := h5 n (by omega) (by omega); omega
   ·rw [if_neg h2, cmpAt_lt n]
    constructor
    ·rintro ⟨i, h3, h4, h5⟩
     refine ⟨i, by omega, h4, fun j h6 h7 => ?_⟩
     by_cases hj : j = n
     ·subst hj; omega
     ·exact h5 j h6 (by omega)
    ·rintro ⟨i, h3, h4, h5⟩
     by_cases hi : i = n
     ·subst hi; omega
     ·exact ⟨i, by omega, h4, fun j h6 h7 => h5 j h6 (by omega)⟩
theorem cmpP_lt {p : Int} [SP p] (f g : Poly p) : cmpP f.l g.l < 0 ↔ ltP f g := by
 have hf : f.l.length = dg f := rfl
 have hg : g.l.length = dg g := rfl
 unfold cmpP ltP
 by_cases h1 : f.l.length < g.l.length
 ·rw [if_pos h1]; exact ⟨fun _ => .inl h1, fun _ => by omega⟩
 ·rw [if_neg h1]
  by_cases h2 : g.l.length < f.l.length
  ·rw [if_pos h2]; exact ⟨fun h => by omega, fun h => by omega⟩
  ·rw [if_neg h2, cmpAt_lt]
   have he : ∀ j, f.l.length ≤ j → cf f.l j = cf g.l j := fun j hj => by rw [cf_ge hj, cf_ge (by omega)]
   constructor
   ·rintro ⟨i, h3, h4, h5⟩
    exact .inr ⟨by omega, i, h4, fun j hj => by
     by_cases h6 : j < f.l.length
     ·exact h5 j hj h6
     ·exact he j (by omega)⟩
   ·rintro (h | ⟨_, i, h4, h5⟩)
    ·omega
    ·refine ⟨i, ?_, h4, fun j hj _ => h5 j hj⟩
     by_cases h6 : i < f.l.length
     ·exact h6
     ·have := he i (by omega); omega

open Go Go.RowKit Go.Proofs Poly
set_option maxRecDepth 100000
set_option maxHeartbeats 8000000

variable {p : Int} [SP p]
def vF (x : Poly p × Nat) : V := .agg [.ints none x.1.l, .int .i64 (x.2 : Int)]

structure Mix (n : Nat) (h0 h : Nat → Poly p × Nat) : Prop where
 mem : ∀ x, (∃ i, i < n ∧ h i = x) ↔ (∃ i, i < n ∧ h0 i = x)
 dis : ∀ i j, i < n → j < n → (h i).1 = (h j).1 → i = j
def swapF (h : Nat → Poly p × Nat) (a b : Nat) : Nat → Poly p × Nat := fun j => if j = a then h b else if j = b then h a else h j
theorem swapF_l {p : Int} (h : Nat → Poly p × Nat) (a b : Nat) : swapF h a b a = h b := if_pos rfl
theorem swapF_r {p : Int} (h : Nat → Poly p × Nat) (a b : Nat) : swapF h a b b = h a := by
 unfold swapF
 by_cases e : b = a
 ·rw [if_pos e, e]
 ·rw [if_neg e, if_pos rfl]
theorem swapF_ne {p : Int} {h : Nat → Poly p × Nat} {a b j : Nat} (h1 : j ≠ a) (h2 : j ≠ b) : swapF h a b j = h j := by
 unfold swapF; rw [if_neg h1, if_neg h2]
def trp (a b j : Nat) : Nat := if j = a then b else if j = b then a else j
theorem swapF_eq {p : Int} (h : Nat → Poly p × Nat) (a b j : Nat) : swapF h a b j = h (trp a b j) := by
 unfold swapF trp; split
 ·rfl
 ·split <;> rfl
theorem trp_trp (a b j : Nat) : trp a b (trp a b j) = j := by
 unfold trp
 by_cases h1 : j = a
 ·rw [if_pos h1]; by_cases h2 : b = a
  ·rw [if_pos h2, h2, h1]
  ·rw [if_neg h2, if_pos rfl, h1]
 ·rw [if_neg h1]; by_cases h2 : j = b
  ·rw [if_pos h2, if_pos rfl, h2]
  ·rw [if_neg h2, if_neg h1, if_neg h2]
theorem trp_lt {a b j n : Nat} (ha : a < n) (hb : b < n) (hj : j < n) : trp a b j < n := by
 unfold trp; split
 ·exact hb
 ·split <;> assumption
theorem Mix.swap {p : Int} {n : Nat} {h0 h : Nat → Poly p × Nat} (m : Mix n h0 h) {a b : Nat} (ha : a < n) (hb : b < n) : Mix n h0 (swapF h a b) := by
 refine ⟨fun x => Iff.trans ⟨?_, ?_⟩ (m.mem x), fun i j hi hj e => ?_⟩
 ·rintro ⟨i, hi, e⟩; rw [swapF_eq] at e; exact ⟨_, trp_lt ha hb hi, e⟩
 ·rintro ⟨i, hi, e⟩; exact ⟨trp a b i, trp_lt ha hb hi, by rw [swapF_eq, trp_trp]; exact e⟩
 ·rw [swapF_eq, swapF_eq] at e
  have := m.dis _ _ (trp_lt ha hb hi) (trp_lt ha hb hj) e
  have := congrArg (trp a b) this
  rwa [trp_trp, trp_trp] at this
def Ord (h : Nat → Poly p × Nat) (i : Nat) : Prop := ∀ x y, x < y → y < i → ltP (h x).1 (h y).1
def OrdB (h : Nat → Poly p × Nat) (i j : Nat) : Prop := (∀ x y, x < y → y ≤ i → x ≠ j → y ≠ j → ltP (h x).1 (h y).1) ∧ ∀ y, j < y → y ≤ i → ltP (h j).1 (h y).1
theorem OrdB.start {p : Int} {h : Nat → Poly p × Nat} {i : Nat} (o : Ord h i) : OrdB h i i := ⟨fun x y h1 h2 h3 h4 => o x y h1 (by omega), fun y h1 h2 => by omega⟩
theorem OrdB.step {p : Int} {h : Nat → Poly p × Nat} {i j : Nat} (o : OrdB h i (j + 1)) (hj : j + 1 ≤ i) (hl : ltP (h (j + 1)).1 (h j).1) : OrdB (swapF h (j + 1) j) i j := by
 refine ⟨fun x y h1 h2 h3 h4 => ?_, fun y h1 h2 => ?_⟩
 ·by_cases hx : x = j + 1
  ·subst hx
   rw [swapF_l, swapF_ne (by omega) (by omega)]
   exact o.1 j y (by omega) h2 (by omega) (by omega)
  ·rw [swapF_ne hx h3]
   by_cases hy : y = j + 1
   ·subst hy; rw [swapF_l]; exact o.1 x j (by omega) (by omega) (by omega) (by omega)
   ·rw [swapF_ne hy h4]; exact o.1 x y h1 h2 hx hy
 ·rw [swapF_r]
  by_cases hy : y = j + 1
  ·subst hy; rw [swapF_l]; exact hl
  ·rw [swapF_ne hy (by omega)]; exact o.2 y (by omega) h2
theorem OrdB.fin {p : Int} {n : Nat} {h0 h : Nat → Poly p × Nat} (m : Mix n h0 h) {i j : Nat} (hi : i < n) (hj : j ≤ i) (o : OrdB h i j) (hs : j = 0 ∨ ∃ k, j = k + 1 ∧ ¬ ltP (h j).1 (h k).1) : Ord h (i + 1) := by
 intro x y h1 h2
 by_cases hx : x = j
 ·subst hx; exact o.2 y h1 (by omega)
 ·by_cases hy : y = j
  ·subst hy
   obtain ⟨k, rfl, hk⟩ := hs.resolve_left (by omega)
   have hlt : ltP (h k).1 (h (k + 1)).1 := (ltP_total fun e => by have := m.dis _ _ (by omega) (by omega) e; omega).resolve_left hk
   by_cases hxk : x = k
   ·subst hxk; exact hlt
   ·exact ltP_trans (o.1 x k (by omega) (by omega) (by omega) (by omega)) hlt
  ·exact o.1 x y h1 (by omega) hx hy

theorem cmpFac_fn {p : Int} (x y : Poly p × Nat) (hx : dg x.1 ≤ 1000000) (hy : dg y.1 ≤ 1000000) : FnV 197 [vF x, vF y] (.int .i64 (cmpP x.1.l y.1.l)) := by
 refine fn_of (cx_ok [0, 1, 2, 3, 4]) Tryz.func197 rfl (by decide) Tryz.ntmps197 (Nat.le_of_ble_eq_true rfl) fun base => ?_
 refine W.rs (cx_ok _) (by rfl) fun K hK => ?_
 conv => whnf
 refine ⟨rfl, ?_⟩
 conv => whnf
 intro b_1 hs_1 hh_1 hf_1
 try dsimp only at hh_1 hf_1
 conv => whnf
 refine ⟨rfl, ?_⟩
 conv => whnf
 intro b_2 hs_2 hh_2 hf_2
 try dsimp only at hh_2 hf_2
 conv => whnf
 refine hK _ ?_
 clear hK K
 refine W.rs (cx_ok _) (by rfl) fun K hK => ?_
 conv => whnf
 refine callV rfl (comparePolynomials_fn none none x.1.l y.1.l hx hy) fun hs' hhs => ?_
 conv => whnf
 refine hK _ ?_
 clear hK K
 refine W.ret ?_
 conv => whnf
 exact ⟨.v (.int .i64 (cmpP x.1.l y.1.l)), ⟨rfl, rfl⟩, trivial, rfl⟩

theorem insertionSort_fn (bk n : Nat) (h0 : Nat → Poly p × Nat) (hn : n ≤ 1000000) (hd : ∀ i, i < n → dg (h0 i).1 ≤ 1000000) (hdis : ∀ i j, i < n → j < n → (h0 i).1 = (h0 j).1 → i = j) :
  MFn Tryz.prog 210 [.nil, .int .i64 0, .int .i64 n, .func 197 []] 0 (.ownV 130 2 bk n fun j => vF (h0 j)) .dead
   (fun _ av x' t' => av = .v (.tup []) ∧ t' = .dead ∧ ∃ h : Nat → Poly p × Nat, Mix n h0 h ∧ Ord h n ∧ x' = .ownV 130 2 bk n fun j => vF (h j)) := by
 refine mfn_of (cx := cx [0, 1, 2, 3, 8, 9, 14, 34, 1000000, 1000001]) Tryz.func210 rfl (by decide) Tryz.ntmps210 (Nat.le_of_ble_eq_true rfl) (Nat.le_of_ble_eq_true rfl) rfl rfl fun base hs0 O U hw v0 hb0 => ?_
 refine W.rs (cx_ok _) (by rfl) fun K hK => ?_
 conv => whnf
 refine ⟨by decide, ?_⟩
 conv => whnf
 refine hK _ (W.block (W.invH hs0 hb0 (fun m e => ∃ (i : Nat) (h : Nat → Poly p × Nat), 1 ≤ i ∧ i ≤ n + 1 ∧ Mix n h0 h ∧ Ord h i ∧ m = n + 1 - i ∧ e = [(0, .ownV 130 2 bk n fun j => vF (h j)), (1, .v (.int .i64 0)), (2, .v (.int .i64 n)), (3, .v (.func 197 [])), (8, .v (.int .i64 i)), (vt, .dead), (vk, .keep O U hw 0 v0)]) _ _ (⟨1, h0, by omega, by omega, ⟨fun _ => Iff.rfl, hdis⟩, fun x y h1 h2 => by omega, rfl, rfl⟩) (by dsimp only; omega) (by repeat' first | refine And.intro ?_ ?_ | exact trivial | rfl | omega | exact .inl rfl | exact fun _ _ => rfl | exact fun _ _ h => h | assumption | exact fun i hi => (by obtain rfl : i = 0 := (by omega); rfl)) ?_))
 clear hK K
 rintro m e ⟨i, h, hi1, hi2, hM, hO, hm, rfl⟩
 refine W.seqK fun K7 hK7 => W.rs (cx_ok _) (by rfl) fun K hK => ?_
 conv => whnf
 refine hK _ (W.cond ⟨fun h3 => ?_, fun h3 => ?_⟩) <;> clear hK K <;> (first | replace h3 := of_decide_eq_true h3 | replace h3 := of_decide_eq_false h3)
 ·have h3 : i < n := by omega
  refine W.skip (hK7 _ ?_)
  clear hK7 K7
  refine W.seqK fun K8 hK8 => W.block ?_
  refine W.rs (cx_ok _) (by rfl) fun K hK => ?_
  conv => whnf
  refine hK _ (W.block (W.invH hs0 hb0 (fun m e => ∃ (j : Nat) (h : Nat → Poly p × Nat), j ≤ i ∧ Mix n h0 h ∧ OrdB h i j ∧ m = j ∧ e = [(0, .ownV 130 2 bk n fun j => vF (h j)), (1, .v (.int .i64 0)), (2, .v (.int .i64 n)), (3, .v (.func 197 [])), (8, .v (.int .i64 i)), (9, .v (.int .i64 j)), (vt, .dead), (vk, .keep O U hw 0 v0)]) _ _ (⟨i, h, by omega, hM, OrdB.start hO, rfl, rfl⟩) (by dsimp only; omega) (by repeat' first | refine And.intro ?_ ?_ | exact trivial | rfl | omega | exact .inl rfl | exact fun _ _ => rfl | exact fun _ _ h => h | assumption | exact fun i hi => (by obtain rfl : i = 0 := (by omega); rfl)) ?_))
  clear hK K
  clear hM hO h
  rintro m' e ⟨j, h, hj, hM, hO, hm', rfl⟩
  -- the end of the inner loop
  have fin : (j = 0 ∨ ∃ k, j = k + 1 ∧ ¬ ltP (h j).1 (h k).1) → ∀ s : S, hs0 ≤ s.hs → coverK s.env [(0, .ownV 130 2 bk n fun j => vF (h j)), (1, .v (.int .i64 0)), (2, .v (.int .i64 n)), (3, .v (.func 197 [])), (8, .v (.int .i64 i)), (vt, .dead), (vk, .keep O U hw 0 v0)] → K8 s := by
   intro h4 s h5 h6
   refine hK8 _ (W.weak (t := ⟨[(0, .ownV 130 2 bk n fun j => vF (h j)), (1, .v (.int .i64 0)), (2, .v (.int .i64 n)), (3, .v (.func 197 [])), (8, .v (.int .i64 i)), (vt, .dead), (vk, .keep O U hw 0 v0)], hs0⟩) ⟨h5, h6⟩ hb0 ?_)
   clear hK8 K8
   refine W.region (cx_ok _) (by rfl) ?_
   conv => whnf
   refine ⟨by constructor <;> omega, ?_⟩
   conv => whnf
   refine ⟨_, _, ⟨i + 1, h, by omega, by omega, hM, hO.fin hM h3 hj h4, rfl, rfl⟩, by omega, by dsimp only; omega, ?_⟩
   repeat' first | refine And.intro ?_ ?_ | exact trivial | rfl | omega | exact .inl rfl | exact fun _ _ => rfl | exact fun _ _ h => h | assumption | exact fun i hi => (by obtain rfl : i = 0 := (by omega); rfl)
  clear hK8
  refine W.seqK fun K7 hK7 => ?_
  refine W.rd (cx_ok _) follows (by rfl) fun K hK => ?_
  conv => whnf
  rcases Nat.eq_zero_or_pos j with rfl | hj0
  ·have e0 : decide (0 < ((0 : Nat) : Int)) = false := by decide
   rw [e0]
   conv => whnf
   refine ⟨rfl, ?_⟩
   conv => whnf
   refine hK _ (W.cond ⟨fun h => absurd h (by decide), fun _ => W.exit (fin (.inl rfl) _ (by dsimp only; omega) ?_)⟩)
   clear fin hK K hK7 K7
   repeat' first | refine And.intro ?_ ?_ | exact trivial | rfl | omega | exact .inl rfl | exact fun _ _ => rfl | exact fun _ _ h => h | assumption | exact fun i hi => (by obtain rfl : i = 0 := (by omega); rfl)
  ·obtain ⟨k, rfl⟩ : ∃ k, j = k + 1 := ⟨j - 1, by omega⟩
   have e0 : decide (0 < ((k + 1 : Nat) : Int)) = true := decide_eq_true (by omega)
   rw [e0]
   conv => whnf
   refine ⟨⟨by omega, by omega⟩, ?_⟩
   conv => whnf
   refine ⟨by constructor <;> omega, ?_⟩
   conv => whnf
   refine ⟨⟨by omega, by omega⟩, ?_⟩
   conv => whnf
   have ek : (((k + 1 : Nat) : Int) - 1) = (k : Int) := by omega
   rw [ek, Int.toNat_natCast, Int.toNat_natCast]
   have hb : ∀ i, i < n → dg (h i).1 ≤ 1000000 := fun i hi => by
    obtain ⟨i', h1, h2⟩ := (hM.mem (h i)).1 ⟨i, hi, rfl⟩
    rw [← h2]; exact hd i' h1
   refine ⟨_, cxF (cmpFac_fn (h (k + 1)) (h k) (hb _ (by omega)) (hb _ (by omega))), ?_⟩
   conv => whnf
   refine hK _ (W.cond ⟨fun h4 => ?_, fun h4 => ?_⟩) <;> clear hK K
   ·have h4 : cmpP (h (k + 1)).1.l (h k).1.l < 0 := of_decide_eq_true h4
    have h4 := (cmpP_lt _ _).1 h4
    clear fin
    refine W.skip (hK7 _ ?_)
    clear hK7 K7
    refine W.seqK fun K8 hK8 => W.block ?_
    refine W.draw (cx_ok _) follows (by rfl) ?_
    conv => whnf
    refine ⟨by constructor <;> omega, ?_⟩
    conv => whnf
    refine ⟨by constructor <;> omega, ?_⟩
    conv => whnf
    refine ⟨⟨by omega, by omega⟩, ?_⟩
    conv => whnf
    rw [ek, Int.toNat_natCast]
    refine ⟨⟨by omega, by omega⟩, ?_⟩
    conv => whnf
    rw [Int.toNat_natCast]
    refine ⟨⟨by omega, by omega⟩, ?_⟩
    conv => whnf
    refine ⟨⟨by show 0 + 2 ≤ 2; omega, rfl⟩, fun j => vF (if j = k + 1 then h k else h j), by show vF (if k + 1 = k + 1 then h k else h (k + 1)) = _; rw [if_pos rfl]; rfl, fun j _ hj => by show vF (if j = k + 1 then h k else h j) = _; rw [if_neg hj], ?_⟩
    conv => whnf
    refine ⟨⟨by omega, by omega⟩, ?_⟩
    conv => whnf
    rw [Int.toNat_natCast]
    refine ⟨⟨by show 0 + 2 ≤ 2; omega, rfl⟩, fun j => vF (swapF h (k + 1) k j), by show vF (swapF h (k + 1) k k) = _; rw [swapF_r]; rfl, fun j _ hj => by show vF (swapF h (k + 1) k j) = vF (if j = k + 1 then h k else h j); unfold swapF; by_cases h5 : j = k + 1 <;> simp [h5, hj], ?_⟩
    conv => whnf
    refine hK8 _ ?_
    clear hK8 K8
    refine W.region (cx_ok _) (by rfl) ?_
    conv => whnf
    refine ⟨by constructor <;> omega, ?_⟩
    conv => whnf
    refine ⟨_, _, ⟨k, swapF h (k + 1) k, by omega, hM.swap (by omega) (by omega), hO.step hj h4, rfl, rfl⟩, by omega, by dsimp only; omega, ?_⟩
    repeat' first | refine And.intro ?_ ?_ | exact trivial | rfl | omega | exact .inl rfl | exact fun _ _ => rfl | exact fun _ _ h => h | assumption | exact fun i hi => (by obtain rfl : i = 0 := (by omega); rfl)
   ·have h4 : ¬ cmpP (h (k + 1)).1.l (h k).1.l < 0 := of_decide_eq_false h4
    refine W.exit (fin (.inr ⟨k, rfl, fun e => h4 ((cmpP_lt _ _).2 e)⟩) _ (by dsimp only; omega) ?_)
    clear fin hK7 K7
    repeat' first | refine And.intro ?_ ?_ | exact trivial | rfl | omega | exact .inl rfl | exact fun _ _ => rfl | exact fun _ _ h => h | assumption | exact fun i hi => (by obtain rfl : i = 0 := (by omega); rfl)
 ·have hin : n ≤ i := by omega
  refine W.exit ?_
  conv => whnf
  refine ⟨by dsimp only; omega, ?_⟩
  conv => whnf
  refine ⟨.ownV 130 2 bk n fun j => vF (h j), ⟨rfl, rfl, rfl, rfl, fun _ _ => rfl⟩, .inr ⟨rfl, rfl⟩, .dead, trivial, rfl, rfl, rfl, rfl, h, hM, fun x y h1 h2 => hO x y h1 (by omega), rfl⟩

end Go.Proofs.YtfinplgomnfdpaaGreat
