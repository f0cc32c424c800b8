/- The program's FactorModular returns what the reference's returns, for all arguments. No conditions. -/
import Derived.Test.YtffhmebkkbfaeaaPh
namespace Go.Proofs.Ytffhmebkkbfaeaa
open Go Go.RowKit Go.Proofs Poly
set_option maxRecDepth 100000
set_option maxHeartbeats 8000000

abbrev vGr (c : Nat) (x : List Int × Int) : V := .agg [.rf c x.1.length, .int .i64 x.2]
abbrev vGi (g : Option Nat) (x : List Int × Int) : V := .agg [.ints g x.1, .int .i64 x.2]

theorem zc7 (q q' : Option Nat) (x : List Int × Int) (hx : x.1.length <= 1000000) : FnV 16 [vGi q x, vGi q' x] .tr := by
 refine zm (za [0, 1, 2, 3, 4, 10, 15]) Try.func16 rfl (by decide) Try.ntmps16 (Nat.le_of_ble_eq_true rfl) λbase => ?_;refine W.rs (za _) (by rfl) λK hK => ?_;conv=>whnf
 refine ⟨rfl, ?_⟩;conv=>whnf
 intro b_2 hs_2 hh_2 hf_2;try dsimp only at hh_2 hf_2
 conv=>whnf
 refine ⟨rfl, ?_⟩;conv=>whnf
 intro b_3 hs_3 hh_3 hf_3;try dsimp only at hh_3 hf_3
 conv=>whnf
 refine hK _ ?_;clear hK;refine W.seqK λK1 hK1 => ?_;refine W.rs (za _) (by rfl) λK hK => ?_;conv=>whnf
 refine zl rfl (zbg _ _ x.1 (by omega)) λhs' hhs => ?_;try dsimp only at hhs
 conv=>whnf
 refine hK _ (W.condF rfl (W.skip (hK1 _ ?_)));clear hK hK1;refine W.seqK λK1 hK1 => ?_;refine W.rs (za _) (by rfl) λK hK => ?_;conv=>whnf
 refine hK _ (W.cond ⟨λhcc => absurd rfl (of_decide_eq_true hcc), λ_ => W.skip (hK1 _ ?_)⟩);clear hK hK1;refine W.rs (za _) (by rfl) λK hK => ?_;conv=>whnf
 refine hK _ (W.ret ?_);conv=>whnf
 exact ⟨.v (.tr), rfl, trivial, rfl⟩

theorem x8 (g g' : Option Nat) (q q' : Nat -> Option Nat) (G : List (List Int × Int)) (hG : G.length <= 100000000) (hx : ∀ j, (gd G j).1.length <= 1000000) : FnV 7 [.vals g 2 G.length λj => vGi (q j) (gd G j), .vals g' 2 G.length λj => vGi (q' j) (gd G j)] .tr := by
 refine zm (za [0, 1, 4, 5, 10, 14, 26]) Try.func7 rfl (by decide) Try.ntmps7 (Nat.le_of_ble_eq_true rfl) λbase => ?_;refine W.rs (za _) (by rfl) λK hK => ?_;conv=>whnf
 refine hK _ ?_;clear hK;refine W.seqK λK1 hK1 => ?_;refine W.rs (za _) (by rfl) λK hK => ?_;conv=>whnf
 refine hK _ (W.cond ⟨λhcc => absurd rfl (of_decide_eq_true hcc), λ_ => W.skip (hK1 _ ?_)⟩);clear hK hK1;refine W.seqK λK1 hK1 => W.rs (za _) (by rfl) λK hK => ?_;conv=>whnf
 refine hK _ (W.block (W.invA (λm e => ∃ i : Nat, i <= G.length ∧ m = G.length - i ∧ e = [(0, .v (.vals g 2 G.length λj => vGi (q j) (gd G j))), (1, .v (.vals g' 2 G.length λj => vGi (q' j) (gd G j))), (5, .v (.int .i64 i))]) ⟨0, Nat.zero_le _, rfl, rfl⟩ ?_));clear hK;rintro m e ⟨i, h1, hm, rfl⟩;refine W.seqK λK7 hK7 => W.rs (za _) (by rfl) λK hK => ?_;conv=>whnf
 refine hK _ (W.cond ⟨λh3 => ?_, λh3 => ?_⟩) <;> clear hK <;> (first | replace h3 := of_decide_eq_true h3 | replace h3 := of_decide_eq_false h3)
 ·have hk : i < G.length := by omega
  refine W.skip (hK7 _ (W.seqK λK8 hK8 => W.block ?_));clear hK7;refine W.rgh follows λK hK => ?_;refine Wgh.tk (za []) 0 ?_;conv=>whnf
  refine Wgh.tk (za []) 1 ?_;conv=>whnf
  refine Wgh.tk (za []) 2 ?_;conv=>whnf
  refine ⟨⟨by omega, by omega⟩, ?_⟩;conv=>whnf
  refine Wgh.tk (za []) 3 ?_;conv=>whnf
  refine Wgh.tk (za []) 4 ?_;conv=>whnf
  refine Wgh.tk (za []) 5 ?_;conv=>whnf
  refine Wgh.tk (za []) 6 ?_;conv=>whnf
  refine ⟨⟨by omega, by omega⟩, ?_⟩;conv=>whnf
  refine Wgh.tk (za []) 7 ?_;conv=>whnf
  refine Wgh.on (za []) 8 [] ⟨(by (conv=>whnf); exact ⟨Nat.le_refl _, rfl⟩), (by (conv=>whnf); refine ⟨by first | assumption | omega | exact ⟨by omega, by omega⟩, ?_⟩; (conv=>whnf); exact ⟨Nat.le_refl _, rfl⟩), (by (conv=>whnf); exact ⟨Nat.le_refl _, rfl⟩), (by (conv=>whnf); exact ⟨Nat.le_refl _, rfl⟩), (by (conv=>whnf); exact ⟨Nat.le_refl _, rfl⟩), (by (conv=>whnf); refine ⟨by first | assumption | omega | exact ⟨by omega, by omega⟩, ?_⟩; (conv=>whnf); exact ⟨Nat.le_refl _, rfl⟩), (by (conv=>whnf); exact ⟨Nat.le_refl _, rfl⟩), (by (conv=>whnf); exact ⟨Nat.le_refl _, rfl⟩), trivial⟩ ?_;conv=>whnf
  refine zl rfl (zc7 _ _ (gd G (i : Int).toNat) (hx _)) λhs' hhs => ?_;try dsimp only at hhs
  conv=>whnf
  refine Wgh.tk (za []) 9 ?_;conv=>whnf
  refine Wgh.dn (za []) ⟨(by (conv=>whnf); exact ⟨Nat.le_refl _, rfl⟩), trivial⟩ (hK _ ?_);clear hK;refine W.condF rfl (W.skip (hK8 _ ?_));clear hK8;refine W.region (za _) (by rfl) ?_;conv=>whnf
  refine ⟨by constructor <;> omega, ?_⟩;conv=>whnf
  exact zp ⟨i + 1, by omega, rfl, rfl⟩
 ·refine W.exit (hK1 _ ?_);clear hK7 hK1;refine W.rs (za _) (by rfl) λK hK => ?_;conv=>whnf
  refine hK _ (W.ret ?_);conv=>whnf
  exact ⟨.v (.tr), rfl, trivial, rfl⟩

def kof (k : Nat) (len : Nat -> Nat) : Nat -> Nat
 | 0 => k
 | j + 1 => kof k len j + len j + 1
theorem zgO {k : Nat} {len : Nat -> Nat} (h : ∀ j, len j <= 1000000) : ∀ j, k <= kof k len j ∧ kof k len j <= k + j * 1000001
 | 0 => by simp [kof]
 | j + 1 => by
  have h1 := zgO (k := k) h j;have h2 := h j;rw [kof]; omega

theorem zcR (el b n : Nat) (c : Nat -> Nat) (len : Nat -> Nat) (o0 : Nat -> Int) (k : Nat) (hk : k <= 1000000) (hn : n <= 100) (hlen : ∀ j, len j <= 1000000) (tb : Tab) (l : Nat -> List Int) (hl : ∀ j, j < n -> (l j).length = len j ∧ tb (c j) = some (l j)) (hinj : ∀ i j, i < n -> j < n -> c i = c j -> i = j) :
  MFn Try.prog 10 [.nil, .int .i64 k] 0 (.ownV el 2 b n λj => .agg [.rf (c j) (len j), .int .i64 (o0 j)]) (.tab tb) (λ_ av x' t' => av = .v (.int .i64 (kof k len n : Nat)) ∧ x' = .ownV el 2 b n (λj => .agg [.rf (c j) (len j), .int .i64 ((kof k len j + len j : Nat) : Int)]) ∧ ∃ tb', t' = .tab tb' ∧ (∀ j, j < n -> len j ≠ 0 -> tb' (c j) = some (xf (kof k len j) (len j))) ∧ ∀ q, (∀ j, j < n -> c j ≠ q) -> tb' q = tb q) := by
 refine kv (cx := cx [0, 1, 4, 5, 9, 1000000, 1000001]) Try.func10 rfl (by decide) Try.ntmps10 (Nat.le_of_ble_eq_true rfl) (Nat.le_of_ble_eq_true rfl) rfl rfl λbase hs0 O U hw v0 hb0 => ?_;refine W.rs (za _) (by rfl) λK hK => ?_;conv=>whnf
 refine hK _ ?_;clear hK;refine W.seqK λK1 hK1 => ?_;refine W.rs (za _) (by rfl) λK hK => ?_;conv=>whnf
 refine hK _ ?_;clear hK;refine W.block (W.invH hs0 hb0 (λm e => ∃ (i : Nat) (o : Nat -> Int) (tbi : Tab), i <= n ∧ (∀ j, j < i -> o j = ((kof k len j + len j : Nat) : Int)) ∧ (∀ j, j < i -> len j ≠ 0 -> tbi (c j) = some (xf (kof k len j) (len j))) ∧ (∀ j, i <= j -> j < n -> tbi (c j) = some (l j)) ∧ (∀ q, (∀ j, j < n -> c j ≠ q) -> tbi q = tb q) ∧ m = n - i ∧ e = [(0, .ownV el 2 b n λj => .agg [.rf (c j) (len j), .int .i64 (o j)]), (1, .v (.int .i64 (kof k len i : Nat))), (5, .v (.int .i64 i)), (vt, .tab tbi), (vk, .keep O U hw 0 v0)]) _ _ ⟨0, o0, tb, Nat.zero_le _, λj hj => by omega, λj hj => by omega, λj _ hj => (hl j hj).2, λ_ _ => rfl, rfl, rfl⟩ (by dsimp only; omega) (by repeat' first | refine And.intro ?_ ?_ | exact trivial | rfl | omega | exact λ_ _ => rfl | exact λ_ _ h => h) ?_);rintro m e ⟨i, o, tbi, h1, h3, h4, h5, h6, hm, rfl⟩;refine W.seqK λK7 hK7 => W.rs (za _) (by rfl) λK hK => ?_;conv=>whnf
 refine hK _ (W.cond ⟨λh7 => ?_, λh7 => ?_⟩) <;> clear hK <;> (first | replace h7 := of_decide_eq_true h7 | replace h7 := of_decide_eq_false h7)
 ·have hi : i < n := by omega
  have hkb := zgO (k := k) hlen i;have hli := hlen i;have hin : i * 1000001 <= 100 * 1000001 := Nat.mul_le_mul_right _ (by omega);refine W.skip (hK7 _ ?_);clear hK7;refine W.seqK λK8 hK8 => W.block ?_;refine W.rs (za _) (by rfl) λK hK => ?_;conv=>whnf
  refine ⟨⟨by omega, by omega⟩, ?_⟩;conv=>whnf
  rw [Int.toNat_natCast];refine ⟨⟨rfl, rfl⟩, ?_⟩;conv=>whnf
  refine ⟨rfl, _, ziu (c i) (len i) (kof k len i) (by omega) (by omega) tbi (λ_ => ⟨l i, (hl i hi).1, h5 i (Nat.le_refl _) hi⟩), ?_⟩;rintro hsm av x' t' hhm ⟨rfl, rfl, tbn, rfl, h8, h9⟩ _ _ _;try dsimp only at hhm
  conv=>whnf
  refine hK _ ?_;clear hK;refine W.rs (za _) (by rfl) λK hK => ?_;conv=>whnf
  refine ⟨⟨by omega, by omega⟩, ?_⟩;conv=>whnf
  rw [Int.toNat_natCast];refine ⟨⟨by show 0 + 1 + 1 <= 2; omega, rfl⟩, ?_⟩;conv=>whnf
  refine ⟨λj => .agg [.rf (c j) (len j), .int .i64 (if j = i then ((kof k len i + len i : Nat) : Int) else o j)], by show V.agg [.rf (c i) (len i), .int .i64 (if i = i then ((kof k len i + len i : Nat) : Int) else o i)] = _; rw [if_pos rfl]; rfl, λj hj hji => by show V.agg [.rf (c j) (len j), .int .i64 (if j = i then ((kof k len i + len i : Nat) : Int) else o j)] = _; rw [if_neg hji], ?_⟩;conv=>whnf
  refine hK _ ?_;clear hK;refine W.region (za _) (by rfl) ?_;conv=>whnf
  refine ⟨by constructor <;> omega, ?_⟩;conv=>whnf
  refine hK8 _ ?_;clear hK8;refine W.region (za _) (by rfl) ?_;conv=>whnf
  refine ⟨by constructor <;> omega, ?_⟩;conv=>whnf
  have hne : ∀ j, j < n -> j ≠ i -> (len i = 0 ∨ c j ≠ c i) := λj hj hji => .inr λe => hji (hinj j i hj hi e);refine ⟨_, _, ⟨i + 1, λj => if j = i then ((kof k len i + len i : Nat) : Int) else o j, tbn, by omega, λj hj => ?_, λj hj hj0 => ?_, λj hj hjn => ?_, λq hq => ?_, rfl, rfl⟩, by omega, by dsimp only; omega, ?_⟩
  ·by_cases h10 : j = i
   ·subst h10; exact if_pos rfl
   ·dsimp only; rw [if_neg h10]; exact h3 j (by omega)
  ·by_cases h10 : j = i
   ·subst h10; exact h8 hj0
   ·rw [h9 _ (hne j (by omega) h10)]; exact h4 j (by omega) hj0
  ·rw [h9 _ (hne j hjn (by omega))]; exact h5 j (by omega) hjn
  ·rw [h9 _ (.inr λe => hq i hi e.symm)]; exact h6 q hq
  ·rw [show ((kof k len i + len i : Nat) : Int) + 1 = ((kof k len (i + 1) : Nat) : Int) by rw [kof]; omega]
   repeat' first | refine And.intro ?_ ?_ | exact trivial | rfl | omega | exact λ_ _ => rfl | exact λ_ _ h => h
 ·obtain rfl : i = n := by omega
  refine W.exit (hK1 _ ?_);clear hK7 hK1;refine W.rs (za _) (by rfl) λK hK => ?_;conv=>whnf
  refine hK _ (W.ret ?_);conv=>whnf
  refine ⟨by dsimp only; omega, ?_⟩;conv=>whnf
  exact ⟨rfl, .v (.int .i64 (kof k len i : Nat)), ⟨rfl, rfl⟩, rfl, trivial, .ownV el 2 b i (λj => .agg [.rf (c j) (len j), .int .i64 ((kof k len j + len j : Nat) : Int)]), ⟨rfl, rfl, rfl, rfl, λj hj => by show V.agg [.rf (c j) (len j), .int .i64 (o j)] = _; rw [h3 j hj]⟩, .inr ⟨rfl, rfl⟩, .tab tbi, λ_ _ h => h, rfl, rfl, rfl, rfl, tbi, rfl, h4, h6⟩

theorem jQ (g : Option Nat) (q : Nat -> Option Nat) (k n : Nat) (len : Nat -> Nat) (hk : k <= 1000000) (hn : n <= 100) (hlen : ∀ j, len j <= 1000000) : FnV 11 [.vals g 2 n λj => .agg [.ints (q j) (xf (kof k len j) (len j)), .int .i64 ((kof k len j + len j : Nat) : Int)], .int .i64 k] (.int .i64 (kof k len n : Nat)) := by
 refine zm (za [0, 1, 4, 5, 9, 20, 27]) Try.func11 rfl (by decide) Try.ntmps11 (Nat.le_of_ble_eq_true rfl) λbase => ?_;refine W.rs (za _) (by rfl) λK hK => ?_;conv=>whnf
 refine hK _ ?_;clear hK;refine W.seqK λK1 hK1 => W.rs (za _) (by rfl) λK hK => ?_;conv=>whnf
 refine hK _ (W.block (W.invA (λm e => ∃ i : Nat, i <= n ∧ m = n - i ∧ e = [(0, .v (.vals g 2 n λj => .agg [.ints (q j) (xf (kof k len j) (len j)), .int .i64 ((kof k len j + len j : Nat) : Int)])), (1, .v (.int .i64 (kof k len i : Nat))), (5, .v (.int .i64 i))]) ⟨0, Nat.zero_le _, rfl, rfl⟩ ?_));clear hK;rintro m e ⟨i, h1, hm, rfl⟩;refine W.seqK λK7 hK7 => W.rs (za _) (by rfl) λK hK => ?_;conv=>whnf
 refine hK _ (W.cond ⟨λh4 => ?_, λh4 => ?_⟩) <;> clear hK <;> (first | replace h4 := of_decide_eq_true h4 | replace h4 := of_decide_eq_false h4)
 ·have hi : i < n := by omega
  have hkb := zgO (k := k) hlen i;have hli := hlen i;have hin : i * 1000001 <= 100 * 1000001 := Nat.mul_le_mul_right _ (by omega);refine W.skip (hK7 _ ?_);clear hK7;refine W.seqK λK8 hK8 => W.block ?_;refine W.rs (za _) (by rfl) λK hK => ?_;conv=>whnf
  refine ⟨⟨by omega, by omega⟩, ?_⟩;conv=>whnf
  rw [Int.toNat_natCast];refine zl rfl (zkD _ (kof k len i) (len i) (by omega) (by omega)) λhs' hhs => ?_;try dsimp only at hhs
  conv=>whnf
  refine hK _ ?_;clear hK;refine W.seqK λK9 hK9 => ?_;refine W.rs (za _) (by rfl) λK hK => ?_;conv=>whnf
  refine hK _ (W.cond ⟨λh7 => (by have := of_decide_eq_true h7; omega), λ_ => W.skip (hK9 _ ?_)⟩);clear hK hK9;refine W.seqK λK9 hK9 => ?_;refine W.rs (za _) (by rfl) λK hK => ?_;conv=>whnf
  refine ⟨⟨by omega, by omega⟩, ?_⟩;conv=>whnf
  rw [Int.toNat_natCast];refine hK _ (W.cond ⟨λhcc => absurd rfl (of_decide_eq_true hcc), λ_ => W.skip (hK9 _ ?_)⟩);clear hK hK9;refine W.region (za _) (by rfl) ?_;conv=>whnf
  refine ⟨by constructor <;> omega, ?_⟩;conv=>whnf
  refine hK8 _ ?_;clear hK8;refine W.region (za _) (by rfl) ?_;conv=>whnf
  refine ⟨by constructor <;> omega, ?_⟩;conv=>whnf
  rw [show ((kof k len i + len i : Nat) : Int) + 1 = ((kof k len (i + 1) : Nat) : Int) by rw [kof]; omega];exact zp ⟨i + 1, by omega, rfl, rfl⟩
 ·obtain rfl : i = n := by omega
  refine W.exit (hK1 _ ?_);clear hK7 hK1;refine W.rs (za _) (by rfl) λK hK => ?_;conv=>whnf
  refine hK _ (W.ret ?_);conv=>whnf
  exact ⟨.v (.int .i64 (kof k len i : Nat)), ⟨rfl, rfl⟩, trivial, rfl⟩

def zk9 (el b1 : Nat) (L : List Int) (G : List (List Int × Int)) (code : Int) (tb : Tab) (av x' t' : AV) : Prop :=
 x' = .ownI el b1 L ∧ ∃ (b : Nat) (c : Nat -> Nat) (tb' : Tab), av = .tupO 0 (.ownV 36 2 b G.length λj => vGr (c j) (gd G j)) [.nil, .int .i64 code] ∧ t' = .tab tb' ∧ (∀ j, j < G.length -> tb (c j) = none ∧ tb' (c j) = some (gd G j).1) ∧ (∀ i j, i < G.length -> j < G.length -> c i = c j -> i = j) ∧ ∀ q xs, tb q = some xs -> tb' q = some xs

theorem zbp (p : Int) (L : List Int) (hl : L.length <= 1048576) : ∃ (G : List (List Int × Int)) (code : Int), (∀ g : Option Nat, FnV 4 [.int .i64 p, .ints g L] (.tup [vGs G, .int .i64 code])) ∧
  (∀ (el b1 : Nat) (tb : Tab), MFn Try.prog 6 [.int .i64 p, .nil] 1 (.ownI el b1 L) (.tab tb) (λ_ av x' t' => zk9 el b1 L G code tb av x' t')) ∧ G.length <= 20 ∧ ∀ j, (gd G j).1.length <= 1000 := by
 by_cases hc : yc p L = 0
 case neg =>
  refine ⟨[], yc p L, λg => ?_, λel b1 tb => ?_, by decide, λj => by simp [gd]⟩
  ·refine zm (za [0, 1, 4, 5, 6, 11]) Try.func4 rfl (by decide) Try.ntmps4 (Nat.le_of_ble_eq_true rfl) λbase => ?_;refine W.rs (za _) (by rfl) λK hK => ?_;conv=>whnf
   refine hK _ ?_;clear hK;refine W.rs (za _) (by rfl) λK hK => ?_;conv=>whnf
   refine zl rfl (zcP g p L (by omega)) λhs' hhs => ?_;try dsimp only at hhs
   conv=>whnf
   refine hK _ ?_;clear hK;refine W.seqK λK1 hK1 => ?_;refine W.rs (za _) (by rfl) λK hK => ?_;conv=>whnf
   refine hK _ (W.cond ⟨λ_ => ?_, λhcc => absurd hc (of_decide_eq_false hcc)⟩);clear hK;refine W.rs (za _) (by rfl) λK hK => ?_;conv=>whnf
   refine hK _ (W.ret ?_);conv=>whnf
   exact ⟨.v (vGs []), rfl, ⟨trivial, λ_ _ => ⟨trivial, trivial, trivial⟩⟩, .v (.int .i64 (yc p L)), ⟨rfl, rfl⟩, trivial, rfl⟩
  ·refine zg8 (cx := cx [0, 1, 4, 5, 6, 11, 1000000, 1000001]) 0 4 5 Try.func6 rfl (by decide) Try.ntmps6 (Nat.le_of_ble_eq_true rfl) (Nat.le_of_ble_eq_true rfl) rfl (by decide) (by decide) λbase hs0 O U hw v0 hb0 hw0 => ?_;refine W.rs (za _) (by rfl) λK hK => ?_;conv=>whnf
   refine hK _ ?_;clear hK;refine W.seqK λK1 hK1 => ?_;refine W.rs (za _) (by rfl) λK hK => ?_;conv=>whnf
   refine zl rfl (ke _ p L) λhs' hhs => ?_;try dsimp only at hhs
   conv=>whnf
   refine hK _ ?_;clear hK;refine W.rs (za _) (by rfl) λK hK => ?_;conv=>whnf
   refine hK _ (W.cond ⟨λ_ => ?_, λhcc => absurd hc (of_decide_eq_false hcc)⟩);clear hK;refine W.rs (za _) (by rfl) λK hK => ?_;conv=>whnf
   refine hK _ (W.ret ?_);conv=>whnf
   refine ⟨by dsimp only; omega, ?_⟩;conv=>whnf
   refine ⟨.ownV 36 2 0 0 (λj => vGr 0 (gd [] j)), ⟨rfl, by decide⟩, rfl, λh => absurd rfl h, ?_⟩;conv=>whnf
   refine ⟨.int .i64 (yc p L), ⟨rfl, rfl⟩, ?_⟩;conv=>whnf
   exact ⟨.ownI el b1 L, ⟨rfl, rfl, rfl⟩, .inr ⟨rfl, rfl⟩, .tab tb, λ_ _ h => h, rfl, rfl, rfl, 0, λ_ => 0, tb, rfl, rfl, λj hj => absurd hj (Nat.not_lt_zero j), λi j hi => absurd hi (Nat.not_lt_zero i), λ_ _ h => h⟩
 obtain ⟨hm, h2⟩ := zit hc;obtain ⟨hp, f, rfl⟩ := zkC hm;letI := zjn hp;have h9 := hm.2.1;have hfl : f.l.length = dg f := rfl;have hf0 : f ≠ 0 := λe => by have := zc.2 e; omega
 obtain ⟨F, hF⟩ := zgG hf0;have hFl := hF.facs.few hf0;have hGl : (F.map toG).length = F.length := List.length_map ..;have hmem : ∀ j, j < F.length -> F.getD j (0, 0) ∈ F := λj hj => by rw [List.getD_eq_getElem?_getD, List.getElem?_eq_getElem hj]; exact List.getElem_mem hj
 refine ⟨F.map toG, 0, λg => ?_, λel b1 tb => ?_, by omega, λj => ?_⟩
 ·rw [<- zky];refine zm (za [0, 1, 4, 5, 6, 11]) Try.func4 rfl (by decide) Try.ntmps4 (Nat.le_of_ble_eq_true rfl) λbase => ?_;refine W.rs (za _) (by rfl) λK hK => ?_;conv=>whnf
  refine hK _ ?_;clear hK;refine W.rs (za _) (by rfl) λK hK => ?_;conv=>whnf
  refine zl rfl (zcP g p f.l (by omega)) λhs' hhs => ?_;try dsimp only at hhs
  conv=>whnf
  rw [hc];refine hK _ ?_;clear hK;refine W.seqK λK1 hK1 => ?_;refine W.rs (za _) (by rfl) λK hK => ?_;conv=>whnf
  refine hK _ (W.cond ⟨λhcc => absurd rfl (of_decide_eq_true hcc), λ_ => W.skip (hK1 _ ?_)⟩);clear hK hK1;refine W.rs (za _) (by rfl) λK hK => ?_;conv=>whnf
  refine xc rfl (ziq p g f (by omega) hf0) ?_;rintro lo hi hi' z hl1 hl2 hl3 ⟨F', hF', rfl⟩ _;obtain rfl := hF.unique hF';try dsimp only at hl1 hl2
  conv=>whnf
  refine hK _ (W.ret ?_);conv=>whnf
  exact ⟨.v (vFs F), ⟨rfl, rfl, rfl, λ_ _ => rfl⟩, ⟨trivial, λ_ _ => ⟨trivial, trivial, trivial⟩⟩, .v (.int .i64 0), ⟨rfl, rfl⟩, trivial, rfl⟩
 ·refine zg8 (cx := cx [0, 1, 4, 5, 6, 11, 1000000, 1000001]) 0 4 5 Try.func6 rfl (by decide) Try.ntmps6 (Nat.le_of_ble_eq_true rfl) (Nat.le_of_ble_eq_true rfl) rfl (by decide) (by decide) λbase hs0 O U hw v0 hb0 hw0 => ?_;refine W.rs (za _) (by rfl) λK hK => ?_;conv=>whnf
  refine hK _ ?_;clear hK;refine W.seqK λK1 hK1 => ?_;refine W.rs (za _) (by rfl) λK hK => ?_;conv=>whnf
  refine zl rfl (ke _ p f.l) λhs' hhs => ?_;try dsimp only at hhs
  conv=>whnf
  rw [hc];refine hK _ ?_;clear hK;refine W.rs (za _) (by rfl) λK hK => ?_;conv=>whnf
  refine hK _ (W.cond ⟨λhcc => absurd rfl (of_decide_eq_true hcc), λ_ => W.skip (hK1 _ ?_)⟩);clear hK hK1;refine W.rs (za _) (by rfl) λK hK => ?_;conv=>whnf
  refine xc rfl (zbe p (dg f) _ f (Nat.le_refl _) (by omega) hf0) ?_;rintro lo hi hi' z hl1 hl2 hl3 ⟨F', c, b, hF', hD, rfl⟩ hfr;obtain rfl := hF.unique hF';try dsimp only at hl1 hl2
  conv=>whnf
  refine hK _ ?_;clear hK;refine W.thawW (i := 4) (lo := lo) (c := c) (l := λj => (F.getD j (0, 0)).1.l) (t := λj => ((F.getD j (0, 0)).2 : Int)) (tb := tb) rfl rfl (λj hj h0 => ?_) hD.2 (by repeat' first | refine And.intro ?_ ?_ | exact trivial | rfl | (show _ <= _; omega)) (λj hj => (hD.1 j hj).1) (by omega) λtb' h3 h4 => ?_
  ·have h5 := ((hF.2 _).1 (hmem j hj)).1.1;have h7 : (F.getD j (0, 0)).1.l = [] := h0;have h6 : dg (F.getD j (0, 0)).1 = ([] : List Int).length := by rw [<- h7]; rfl
   simp only [List.length_nil] at h6
   omega
  refine W.ret ?_;conv=>whnf
  refine ⟨by dsimp only; omega, ?_⟩;conv=>whnf
  refine ⟨.ownV 36 2 b (F.map toG).length (λj => vGr (c j) (gd (F.map toG) j)), ⟨rfl, rfl, rfl, hGl.symm, λj hj => by show _ = vGr (c j) (gd (F.map toG) j); rw [zeq]; rfl⟩, rfl, λh => ?_, ?_⟩
  ·have h5 := hfr (by rw [hGl] at h; exact h);dsimp only
   omega
  conv=>whnf
  refine ⟨.int .i64 0, ⟨rfl, rfl⟩, ?_⟩;conv=>whnf
  exact ⟨.ownI el b1 f.l, ⟨rfl, rfl, rfl⟩, .inr ⟨rfl, rfl⟩, .tab tb', λ_ _ h => h, rfl, rfl, rfl, b, c, tb', rfl, rfl, λj hj => by rw [zeq]; exact h3 j (by omega), λi j hi hj => hD.2 i j (by omega) (by omega), h4⟩
 ·rw [zeq];show (F.getD j (0, 0)).1.l.length <= 1000
  rcases Nat.lt_or_ge j F.length with hj | hj
  ·have h5 := (hF.2 _).1 (hmem j hj);have h6 := zC (h5.2.2.2.dvd h5.2.2.1) hf0;show dg (F.getD j (0, 0)).1 <= 1000
   omega
  ·rw [List.getD_eq_getElem?_getD, List.getElem?_eq_none hj];show dg (0 : Poly p) <= 1000
   rw [zu]; omega

theorem zew {tb : Tab} {G : List (List Int × Int)} {c : Nat -> Nat} (h : ∀ j, j < G.length -> tb (c j) = some (gd G j).1) (i : Nat) (hi : i < G.length) : deV tb (vGr (c i) (gd G i)) (vGi (some (c i)) (gd G i)) := by
 refine ⟨_, rfl, rfl, λj hj => ?_⟩
 match j, hj with
 | 0, _ => exact ⟨(gd G i).1, rfl, λ_ => h i hi, rfl⟩
 | 1, _ => rfl
theorem zex {tb : Tab} {G : List (List Int × Int)} (i : Nat) (_ : i < G.length) : deV tb (vGi none (gd G i)) (vGi none (gd G i)) := by
 refine ⟨_, rfl, rfl, λj hj => ?_⟩
 match j, hj with
 | 0, _ => rfl
 | 1, _ => rfl
theorem zfV {tb : Tab} {k n : Nat} {len c : Nat -> Nat} (h : ∀ j, j < n -> len j ≠ 0 -> tb (c j) = some (xf (kof k len j) (len j))) (i : Nat) (hi : i < n) : deV tb (.agg [.rf (c i) (len i), .int .i64 ((kof k len i + len i : Nat) : Int)]) (.agg [.ints (some (c i)) (xf (kof k len i) (len i)), .int .i64 ((kof k len i + len i : Nat) : Int)]) := by
 refine ⟨_, rfl, rfl, λj hj => ?_⟩
 match j, hj with
 | 0, _ => exact ⟨xf (kof k len i) (len i), yE .., λhne => h i hi λh0 => hne (List.eq_nil_of_length_eq_zero (by rw [yE, h0])), rfl⟩
 | 1, _ => rfl


theorem lawFactorModular (p : Int) (f : List Int) (_ : inR p) : FnV 3 [.int .i64 p, .ints none f] .tr := by
 refine zm (zU [] [0, 1, 4, 5, 6, 7, 8, 9, 10, 11, 12, 13, 14, 17, 41, 46, 62, 70, 73, 89, 94, 97, 1000000]) Try.func3 rfl (by decide) Try.ntmps3 (Nat.le_of_ble_eq_true rfl) λbase => ?_;refine W.tab0 rfl ?_;refine W.rs (zU _ _) (by rfl) λK hK => ?_;conv=>whnf
 refine hK _ ?_;clear hK;refine W.seqK λK1 hK1 => ?_;refine W.rs (zU _ _) (by rfl) λK hK => ?_;conv=>whnf
 refine hK _ (W.cond ⟨λhl_f => ?_, λhl_f => ?_⟩) <;> clear hK
 ·refine W.rs (zU _ _) (by rfl) λK hK => ?_;conv=>whnf
  refine hK _ (W.ret ?_);conv=>whnf
  exact ⟨.v (.tr), rfl, trivial, rfl⟩
 have hl_f : f.length <= 1048576 := by have := of_decide_eq_false hl_f; omega
 refine W.skip (hK1 _ ?_);clear hK1;obtain ⟨G, code, hS, hI, hGl, hGj⟩ := zbp p f hl_f;refine W.rs (zU _ _) (by rfl) λK hK => ?_;conv=>whnf
 refine zB rfl (j3 none f (by omega)) λhs_s1 b_s1 hh_s1 hf_s1 => ?_;try dsimp only at hh_s1 hf_s1
 conv=>whnf
 refine zl rfl (hS _) λhs' hhs => ?_;try dsimp only at hhs
 conv=>whnf
 refine hK _ ?_;clear hK;refine W.rs (zU _ _) (by rfl) λK hK => ?_;conv=>whnf
 refine zB rfl (j3 none f (by omega)) λhs_x1 b_x1 hh_x1 hf_x1 => ?_;try dsimp only at hh_x1 hf_x1
 conv=>whnf
 refine hK _ ?_;clear hK;refine W.rs (zU _ _) (by rfl) λK hK => ?_;conv=>whnf
 refine ⟨⟨rfl, rfl⟩, ?_⟩;conv=>whnf
 refine ⟨rfl, _, hI _ b_x1 _, ?_⟩;rintro hsf av x' t' hhf ⟨rfl, b, c, tb1, rfl, rfl, h1, h2, h3⟩ _ _ _;try dsimp only at hhf
 conv=>whnf
 refine ⟨rfl, ?_⟩;conv=>whnf
 refine hK _ ?_;clear hK;refine W.seqK λK1 hK1 => ?_;refine W.rs (zU _ _) (by rfl) λK hK => ?_;conv=>whnf
 refine ⟨λj => vGi (some (c j)) (gd G j), zew (λj hj => (h1 j hj).2), ?_⟩;conv=>whnf
 refine ⟨λj => vGi none (gd G j), zex, ?_⟩;conv=>whnf
 refine zl rfl (x8 _ _ (λj => some (c j)) (λ_ => none) G (by omega) (λj => by have := hGj j; omega)) λhs' hhs => ?_;try dsimp only at hhs
 conv=>whnf
 refine hK _ (W.cond ⟨λhcc => absurd hcc (by simp), λ_ => W.skip (hK1 _ ?_)⟩);clear hK hK1;refine W.seqK λK1 hK1 => ?_;refine W.rs (zU _ _) (by rfl) λK hK => ?_;conv=>whnf
 refine zB rfl (j3 none f (by omega)) λhs_z1 b_z1 hh_z1 hf_z1 => ?_;try dsimp only at hh_z1 hf_z1
 conv=>whnf
 refine zl rfl (zbg _ _ f (by omega)) λhs' hhs => ?_;try dsimp only at hhs
 conv=>whnf
 refine hK _ (W.condF rfl (W.skip (hK1 _ ?_)));clear hK hK1;refine W.rs (zU _ _) (by rfl) λK hK => ?_;conv=>whnf
 refine hK _ ?_;clear hK;refine W.rs (zU _ _) (by rfl) λK hK => ?_;conv=>whnf
 refine ⟨⟨rfl, rfl⟩, ?_⟩;conv=>whnf
 refine ⟨rfl, _, zfT _ b_x1 f 1 (by omega) (by omega) tb1, ?_⟩;rintro hsk1 av x' t' hhk1 ⟨rfl, rfl, rfl⟩ _ _ _;try dsimp only at hhk1
 conv=>whnf
 refine hK _ ?_;clear hK;refine W.seqK λK1 hK1 => ?_;refine W.rs (zU _ _) (by rfl) λK hK => ?_;conv=>whnf
 refine ⟨λhkk => ?_, λhkk => ?_⟩ <;> conv=>whnf
 ·have hkk := of_decide_eq_true hkk; omega
 refine ⟨λj => vGi (some (c j)) (gd G j), zew (λj hj => (h1 j hj).2), ?_⟩;conv=>whnf
 refine ⟨λj => vGi none (gd G j), zex, ?_⟩;conv=>whnf
 refine zl rfl (x8 _ _ (λj => some (c j)) (λ_ => none) G (by omega) (λj => by have := hGj j; omega)) λhs' hhs => ?_;try dsimp only at hhs
 conv=>whnf
 refine hK _ (W.cond ⟨λhcc => absurd hcc (by simp), λ_ => W.skip (hK1 _ ?_)⟩);clear hK hK1;refine W.rs (zU _ _) (by rfl) λK hK => ?_;conv=>whnf
 refine hK _ ?_;clear hK;refine W.rs (zU _ _) (by rfl) λK hK => ?_;conv=>whnf
 refine ⟨⟨rfl, rfl⟩, ?_⟩;conv=>whnf
 refine ⟨rfl, _, zcR _ b G.length c (λj => (gd G j).1.length) (λj => (gd G j).2) 1 (by omega) (by omega) (λj => by have := hGj j; omega) tb1 (λj => (gd G j).1) (λj hj => ⟨rfl, (h1 j hj).2⟩) h2, ?_⟩;rintro hsm av x' t' hhm ⟨rfl, rfl, tb2, rfl, h4, h5⟩ _ _ _;try dsimp only at hhm
 conv=>whnf
 refine hK _ ?_;clear hK;refine W.rs (zU _ _) (by rfl) λK hK => ?_;conv=>whnf
 refine hK _ ?_;clear hK;refine W.rs (zU _ _) (by rfl) λK hK => ?_;conv=>whnf
 refine ⟨λj => .agg [.ints (some (c j)) (xf (kof 1 (λj => (gd G j).1.length) j) (gd G j).1.length), .int .i64 ((kof 1 (λj => (gd G j).1.length) j + (gd G j).1.length : Nat) : Int)], zfV (len := λj => (gd G j).1.length) h4, ?_⟩;conv=>whnf
 refine zl rfl (jQ _ (λj => some (c j)) 1 G.length (λj => (gd G j).1.length) (by omega) (by omega) (λj => by have := hGj j; omega)) λhs' hhs => ?_;try dsimp only at hhs
 conv=>whnf
 refine hK _ ?_;clear hK;refine W.seqK λK1 hK1 => ?_;refine W.rs (zU _ _) (by rfl) λK hK => ?_;conv=>whnf
 refine hK _ (W.cond ⟨λh7 => (by have := of_decide_eq_true h7; omega), λ_ => W.skip (hK1 _ ?_)⟩);clear hK hK1;refine W.seqK λK1 hK1 => ?_;refine W.rs (zU _ _) (by rfl) λK hK => ?_;conv=>whnf
 refine hK _ (W.cond ⟨λhcc => absurd rfl (of_decide_eq_true hcc), λ_ => W.skip (hK1 _ ?_)⟩);clear hK hK1;refine W.rs (zU _ _) (by rfl) λK hK => ?_;conv=>whnf
 refine zB rfl (j3 none f (by omega)) λhs_t1 b_t1 hh_t1 hf_t1 => ?_;try dsimp only at hh_t1 hf_t1
 conv=>whnf
 refine ⟨⟨rfl, rfl⟩, ?_⟩;conv=>whnf
 refine ⟨rfl, _, hI _ b_t1 _, ?_⟩;rintro hsf2 av x' t' hhf2 ⟨rfl, b2, c2, tb3, rfl, rfl, h6, h7, h8⟩ _ _ _;try dsimp only at hhf2
 conv=>whnf
 refine ⟨rfl, ?_⟩;conv=>whnf
 refine hK _ ?_;clear hK;refine W.seqK λK1 hK1 => ?_;refine W.rs (zU _ _) (by rfl) λK hK => ?_;conv=>whnf
 refine ⟨λj => vGi (some (c2 j)) (gd G j), zew (λj hj => (h6 j hj).2), ?_⟩;conv=>whnf
 refine ⟨λj => vGi none (gd G j), zex, ?_⟩;conv=>whnf
 refine zl rfl (x8 _ _ (λj => some (c2 j)) (λ_ => none) G (by omega) (λj => by have := hGj j; omega)) λhs' hhs => ?_;try dsimp only at hhs
 conv=>whnf
 refine hK _ (W.cond ⟨λhcc => absurd hcc (by simp), λ_ => W.skip (hK1 _ ?_)⟩);clear hK hK1;refine W.rs (zU _ _) (by rfl) λK hK => ?_;conv=>whnf
 refine hK _ ?_;clear hK;refine W.rs (zU _ _) (by rfl) λK hK => ?_;conv=>whnf
 refine ⟨λj => .agg [.ints (some (c j)) (xf (kof 1 (λj => (gd G j).1.length) j) (gd G j).1.length), .int .i64 ((kof 1 (λj => (gd G j).1.length) j + (gd G j).1.length : Nat) : Int)], zfV (len := λj => (gd G j).1.length) (λj hj h0 => h8 _ _ (h4 j hj h0)), ?_⟩;conv=>whnf
 refine zl rfl (jQ _ (λj => some (c j)) 1 G.length (λj => (gd G j).1.length) (by omega) (by omega) (λj => by have := hGj j; omega)) λhs' hhs => ?_;try dsimp only at hhs
 conv=>whnf
 refine hK _ ?_;clear hK;refine W.seqK λK1 hK1 => ?_;refine W.rs (zU _ _) (by rfl) λK hK => ?_;conv=>whnf
 refine hK _ (W.cond ⟨λh7 => (by have := of_decide_eq_true h7; omega), λ_ => W.skip (hK1 _ ?_)⟩);clear hK hK1;refine W.seqK λK1 hK1 => ?_;refine W.rs (zU _ _) (by rfl) λK hK => ?_;conv=>whnf
 refine hK _ (W.cond ⟨λhcc => absurd rfl (of_decide_eq_true hcc), λ_ => W.skip (hK1 _ ?_)⟩);clear hK hK1;refine W.rs (zU _ _) (by rfl) λK hK => ?_;conv=>whnf
 refine hK _ (W.ret ?_);conv=>whnf
 exact ⟨.v (.tr), rfl, trivial, rfl⟩

open Go Go.RowKit Go.ChangeShapes Go.WideShapes Go.ChangeAt Go.Proofs Go.Proofs.Ytffhmebkkbfaeaa

set_option maxRecDepth 100000 in
theorem liftedFactorModular (H : Type) (enc : TypeId × Value -> H) (os : Os) (started : os.Started) :
  ReturnsInHanded {} Try.checked os 3 .any (Rows.fnExactFactorModularSpec.pre6 enc Try.prog Try.f3 Rows.fnExactFactorModularRow.domain false) (Rows.fnExactFactorModularSpec.post enc Try.prog Try.f3 false true false false) := by
 refine zgl (C := Try.checked) (tb := 4) ownP started (by kernel_rfl) Try.func3 zjZ ?_ rfl (by kernel_rfl) Try.underlying4 ?_
  (ChangeSpec.witness6 (enc := enc) (C := Try.checked) false ⟨#[], #[.int .i64 0, .slice none 0 0], []⟩ 8 (by kernel_rfl) (by kernel_rfl) (by kernel_rfl) (by kernel_rfl)) ?_
 ·rw [Try.params3];intro t ht;simp only [List.mem_cons, List.not_mem_nil, or_false] at ht
  rcases ht with rfl | rfl <;> exact ⟨by kernel_rfl, of_decide_eq_true (by kernel_rfl)⟩
 ·intro ds hds
  match ds, hds with
  | [d0, d1], _ => exact ⟨rfl, rfl, rfl⟩
 ·intro W args ds ps hval hA;have hval' : ∀ (j : Nat) t v, Try.f3.params[j]? = some t -> args[j]? = some v -> ∃ base, Value.okWide Try.prog W .any base t v := hval;rw [Try.params3] at hA hval';obtain ⟨v0, v1, d0, d1, q0, q1, hv, rfl, rfl, h0, h1⟩ := trodAll_two hA;subst hv;obtain ⟨_, hv0⟩ := hval' 0 2 v0 rfl rfl;obtain ⟨n0, rfl⟩ := okWide_int Try.underlying2 hv0;obtain ⟨x0, ⟨z0, hz0, hb0⟩, hr0⟩ := zfg zj1 h0 (by simp);cases hz0
  obtain ⟨_, hv1⟩ := hval' 1 22 v1 rfl rfl;obtain ⟨a1, len1, cap1, rfl⟩ := okWide_slice Try.underlying22 hv1;obtain ⟨x1, ⟨l1, hl1, hi1, hm1⟩, hr1⟩ := zfg ziv h1 (by simp);cases hl1
  refine zkE (lawFactorModular z0 l1 hb0) rfl λj hj => ?_;simp only [List.length_cons, List.length_nil] at hj
  match j, hj with
  | 0, _ => exact hr0
  | 1, _ => exact hr1
  | j + 2, hj => omega

theorem joinedFactorModulara : (Rows.fnExactFactorModularRow.inPlace == Try.checked.prog.inPlace 3) = true := by kernel_rfl
theorem joinedFactorModularb : (Rows.fnExactFactorModularRow.unfollowed == Try.checked.prog.unfollowed 3) = true := by kernel_rfl
theorem joinedFactorModularc : (Rows.fnExactFactorModularRow.recurses == Try.checked.prog.recurses 3) = true := by kernel_rfl
theorem joinedFactorModulard : (Rows.fnExactFactorModularRow.named == Try.checked.prog.varsNamed 3) = true := by kernel_rfl
theorem joinedFactorModular : joinedFacts Try.checked.prog 3 Try.f3 Rows.fnExactFactorModularSpec Rows.fnExactFactorModularRow = true := by
 unfold joinedFacts;rw [zk8, zlt, zlu, joinedFactorModulara, joinedFactorModularb, joinedFactorModularc, joinedFactorModulard]
 kernel_rfl
theorem instFactorModular : Try.f3.isInstance Try.checked.prog Rows.fnExactFactorModularRow.origin Rows.fnExactFactorModularRow.targs := of_decide_eq_true (by kernel_rfl)

theorem claimFactorModular : Rows.FnExactFactorModularSaid :=
 OpenClaim.holds_of_wide (p := Try.pinned) (s := Rows.fnExactFactorModularSpec) (c := Rows.fnExactFactorModularRow) 3 Try.f3 rfl rfl rfl rfl rfl rfl rfl ⟨rfl, rfl, rfl, rfl, rfl⟩ rfl rfl rfl rfl rfl (by kernel_rfl) Try.func3 joinedFactorModular
  instFactorModular (by unfold Func.isWrapper; first | (rw [if_pos (by decide +kernel)]; kernel_rfl) | (rw [if_neg (by decide +kernel)]; exact ⟨rfl, rfl⟩))
  (λos started H enc _ => liftedFactorModular H enc os started)

end Go.Proofs.Ytffhmebkkbfaeaa
