/- What the program's functions and the reference's return. No conditions. -/
import Derived.Test.YtaiahdeegchobaaGreatPi
import Derived.Test.YtaiahdeegchobaaGreatRows
namespace Go.Proofs.YtaiahdeegchobaaGreat
open Go Go.RowKit Go.Proofs Poly
set_option maxRecDepth 100000
set_option maxHeartbeats 8000000

/-- a prime power -/
def vP (x : Nat × Nat) : V := .agg [.int .i64 x.1, .int .i64 x.2]
/-- prime powers -/
def vPw (L : List (Nat × Nat)) : V := .vals none 2 L.length fun j => vP (L.getD j (0, 0))


theorem factors_fn (n : Nat) (L : List (Nat × Nat)) (hL : FacS n L) (hn : n ≤ 1000000) : FnV 47 [.int .i64 n] (vPw L) := by
  have hpr := hL.prod
  have hlen := prodN_len hL.pr
  refine fn_of (cx_ok [0, 2, 3, 4, 5, 7, 14, 19, 26]) Tryz.func47 rfl (by decide) Tryz.ntmps47 (Nat.le_of_ble_eq_true rfl) fun base => ?_
  refine W.rs (cx_ok _) (by rfl) fun K hK => ?_
  conv => whnf
  refine hK _ ?_
  clear hK K
  refine W.rs (cx_ok _) (by rfl) fun K hK => ?_
  conv => whnf
  refine hK _ ?_
  clear hK K
  refine W.seqK fun K1 hK1 => ?_
  refine W.rs (cx_ok _) (by rfl) fun K hK => ?_
  conv => whnf
  refine hK _ (W.block (W.invE (fun m e => ∃ (A M : List (Nat × Nat)) (q b : Nat), A ++ M = L ∧ FacS (prodN M) M ∧ 2 ≤ q ∧ (∀ x ∈ M, q ≤ x.1) ∧ q ≤ n + 1 ∧ m = n + 1 - q ∧ e = [(0, .v (.int .i64 (prodN M : Nat))), (3, .ownV 56 2 b A.length fun i => vP (A.getD i (0, 0))), (4, .v (.int .i64 q))]) _ _ (⟨[], L, 2, 0, rfl, hpr.symm ▸ hL, Nat.le_refl _, fun x hx => (hL.pr x hx).1.1, by omega, rfl, rfl⟩) (by dsimp only; omega) (by repeat' first | refine And.intro ?_ ?_ | exact trivial | rfl | omega | exact .inl rfl | exact fun _ _ => rfl | exact fun _ _ h => h | assumption | exact fun i hi => (by obtain rfl : i = 0 := (by omega); rfl)) ?_))
  clear hK K
  rintro m e ⟨A, M, q, b, hA, hM, hq2, hql, hqn, hm, rfl⟩
  have hMn : prodN M ≤ n := by
    rw [← hpr, ← hA, prodN_append]
    have : 0 < prodN A := prodN_pos fun x hx => hL.pr x (by rw [← hA]; simp [hx])
    exact Nat.le_mul_of_pos_left _ this
  have hAl : A.length ≤ L.length := by rw [← hA, List.length_append]; omega
  refine W.seqK fun K7 hK7 => W.rs (cx_ok _) (by rfl) fun K hK => ?_
  conv => whnf
  refine hK _ (W.cond ⟨fun h1 => ?_, fun h1 => ?_⟩) <;> clear hK K <;> (first | replace h1 := of_decide_eq_true h1 | replace h1 := of_decide_eq_false h1)
  · have h1' : 1 < prodN M := by omega
    obtain ⟨x, hx⟩ : ∃ x, x ∈ M := by
      cases M with
      | nil => rw [prodN] at h1'; omega
      | cons y M => exact ⟨y, by simp⟩
    have hqM : ∀ q', (∀ x ∈ M, q' ≤ x.1) → q' ≤ prodN M := fun q' hq' => by
      obtain ⟨r, hr⟩ : ∃ r, x.2 = r + 1 := ⟨x.2 - 1, by have := (hM.pr x hx).2; omega⟩
      have h3 := prodN_dvd hx
      rw [hr, Nat.pow_succ] at h3
      exact Nat.le_trans (hq' x hx) (Nat.le_of_dvd (by omega) (Nat.dvd_trans (Nat.dvd_mul_left _ _) h3))
    refine W.skip (hK7 _ ?_)
    clear hK7 K7
    refine W.seqK fun K8 hK8 => W.block ?_
    refine W.seqK fun K9 hK9 => ?_
    have fin : ∀ (q' : Nat) (s : S), 2 ≤ q' → (∀ x ∈ M, q' ≤ x.1) → q ≤ q' → base ≤ s.hs →
        coverK s.env [(0, .v (.int .i64 (prodN M : Nat))), (3, .ownV 56 2 b A.length fun i => vP (A.getD i (0, 0))), (4, .v (.int .i64 q'))] → K9 s := by
      intro q' s b1 b2 b3 h5 h6
      have hq'M := hqM q' b2
      obtain ⟨k, M', b5, b4, b6, b7, b8⟩ := hM.next' b1 b2
      refine hK9 _ (W.weak (t := ⟨[(0, .v (.int .i64 (prodN M : Nat))), (3, .ownV 56 2 b A.length fun i => vP (A.getD i (0, 0))), (4, .v (.int .i64 q'))], base⟩) ⟨h5, h6⟩ (Nat.le_refl _) ?_)
      clear hK9 K9
      refine W.rs (cx_ok _) (by rfl) fun K hK => ?_
      conv => whnf
      refine hK _ ?_
      clear hK K
      have e8 : prodN M = q' ^ (k - 0) * prodN M' := b5
      rw [e8]
      refine W.seqK fun K1 hK1 => W.block (W.invE (fun m e => ∃ i : Nat, i ≤ k ∧ m = k - i ∧ e = [(0, .v (.int .i64 ((q' ^ (k - i) * prodN M' : Nat) : Int))), (3, .ownV 56 2 b A.length fun i => vP (A.getD i (0, 0))), (4, .v (.int .i64 q')), (5, .v (.int .i64 i))]) _ _ (⟨0, Nat.zero_le _, rfl, rfl⟩) (by dsimp only; omega) (by repeat' first | refine And.intro ?_ ?_ | exact trivial | rfl | omega | exact .inl rfl | exact fun _ _ => rfl | exact fun _ _ h => h | assumption | exact fun i hi => (by obtain rfl : i = 0 := (by omega); rfl)) ?_)
      rintro m2 e ⟨i, hi, hm2, rfl⟩
      have hmod := strip_mod (a := k - i) b1 b4
      have hkb : k ≤ 1000000 := by
        have h1 : k < q' ^ k := Nat.lt_pow_self (by omega)
        have h2 : q' ^ k * 1 ≤ q' ^ k * prodN M' := Nat.mul_le_mul_left _ (prodN_pos b6.pr)
        omega
      have hle : q' ^ (k - i) * prodN M' ≤ 1000000 := by
        have : q' ^ (k - i) * prodN M' ≤ q' ^ k * prodN M' := Nat.mul_le_mul_right _ (Nat.pow_le_pow_right (by omega) (by omega))
        omega
      refine W.seqK fun K7 hK7 => ?_
      refine W.rs (cx_ok _) (by rfl) fun K hK => ?_
      conv => whnf
      refine ⟨by omega, ?_⟩
      conv => whnf
      rw [tmod_nat]
      refine hK _ (W.cond ⟨fun h2 => ?_, fun h2 => ?_⟩) <;> clear hK K
      · have h2 := of_decide_eq_true h2
        have hik : 0 < k - i := hmod.1 (by omega)
        have hdiv := strip_div (P := prodN M') b1 hik
        have hle2 : q' ^ (k - i - 1) * prodN M' ≤ 1000000 := by rw [← hdiv]; exact Nat.le_trans (Nat.div_le_self _ _) hle
        refine W.skip (hK7 _ (W.block ?_))
        clear hK7 K7
        refine W.rs (cx_ok _) (by rfl) fun K hK => ?_
        conv => whnf
        refine ⟨by omega, ?_⟩
        conv => whnf
        rw [tdiv_nat, hdiv]
        refine ⟨by constructor <;> omega, ?_⟩
        conv => whnf
        refine hK _ ?_
        clear hK K
        refine W.region (cx_ok _) (by rfl) ?_
        conv => whnf
        refine ⟨by constructor <;> omega, ?_⟩
        conv => whnf
        refine ⟨_, _, ⟨i + 1, by omega, rfl, rfl⟩, by omega, by dsimp only; omega, ?_⟩
        repeat' first | refine And.intro ?_ ?_ | exact trivial | rfl | omega | exact .inl rfl | exact fun _ _ => rfl | exact fun _ _ h => h | assumption | exact fun i hi => (by obtain rfl : i = 0 := (by omega); rfl)
      have h2 := of_decide_eq_false h2
      have hik : ¬ 0 < k - i := fun h => h2 (by have := hmod.2 h; omega)
      obtain rfl : i = k := by omega
      have e9 : q' ^ (i - i) * prodN M' = prodN M' := by rw [Nat.sub_self, Nat.pow_zero, Nat.one_mul]
      rw [e9]
      refine W.exit (hK1 _ ?_)
      clear hK7 K7 hK1 K1
      refine W.rs (cx_ok _) (by rfl) fun K hK => ?_
      conv => whnf
      refine hK _ (W.cond ⟨fun h3 => ?_, fun h3 => ?_⟩) <;> clear hK K
      · have h3 := of_decide_eq_true h3
        have hb8 : M = (q', i) :: M' := by rw [if_neg (by omega)] at b8; exact b8
        refine W.region (cx_ok _) (by rfl) ?_
        conv => whnf
        refine ⟨⟨rfl, by decide, fun x hx => by simp at hx; subst hx; exact ⟨rfl, rfl⟩⟩, ?_⟩
        conv => whnf
        intro b_8 hs_8 hh_8 hf_8
        try dsimp only at hh_8 hf_8
        conv => whnf
        refine ⟨by omega, ?_⟩
        conv => whnf
        refine ⟨fun j => vP ((A ++ [(q', i)]).getD j (0, 0)), fun j hj => congrArg vP (getD_snoc_l hj), fun j hj => ?_, ?_⟩
        · obtain rfl : j = 0 := by omega
          exact congrArg vP getD_snoc_r
        intro b_9 hs_9 hh_9 hf_9
        try dsimp only at hh_9 hf_9
        conv => whnf
        refine hK8 _ ?_
        clear hK8 K8
        refine W.region (cx_ok _) (by rfl) ?_
        conv => whnf
        refine ⟨by constructor <;> omega, ?_⟩
        conv => whnf
        refine ⟨_, _, ⟨A ++ [(q', i)], M', q' + 1, b_9, by rw [List.append_assoc, ← hA, hb8]; rfl, b6, by omega, b7, by omega, rfl, rfl⟩, by omega, by dsimp only; omega, ?_⟩
        rw [List.length_append (bs := [_])]
        repeat' first | refine And.intro ?_ ?_ | exact trivial | rfl | omega | exact .inl rfl | exact fun _ _ => rfl | exact fun _ _ h => h | assumption | exact fun i hi => (by obtain rfl : i = 0 := (by omega); rfl)
      · have h3 := of_decide_eq_false h3
        have hb8 : M = M' := by rw [if_pos (by omega)] at b8; exact b8
        refine W.skip (hK8 _ ?_)
        clear hK8 K8
        refine W.region (cx_ok _) (by rfl) ?_
        conv => whnf
        refine ⟨by constructor <;> omega, ?_⟩
        conv => whnf
        refine ⟨_, _, ⟨A, M', q' + 1, b, by rw [← hA, hb8], b6, by omega, b7, by omega, rfl, rfl⟩, by omega, by dsimp only; omega, ?_⟩
        repeat' first | refine And.intro ?_ ?_ | exact trivial | rfl | omega | exact .inl rfl | exact fun _ _ => rfl | exact fun _ _ h => h | assumption | exact fun i hi => (by obtain rfl : i = 0 := (by omega); rfl)
    have hqq := hqM q hql
    have hq3 : (q : Int) * q ≤ 1000001 * 1000001 := Int.mul_le_mul (by omega) (by omega) (by omega) (by omega)
    have hq4 : 0 ≤ (q : Int) * q := Int.mul_nonneg (by omega) (by omega)
    refine W.rs (cx_ok _) (by rfl) fun K hK => ?_
    conv => whnf
    refine ⟨by constructor <;> omega, ?_⟩
    conv => whnf
    refine hK _ (W.cond ⟨fun h2 => ?_, fun h2 => ?_⟩) <;> clear hK K
    · have h2 := of_decide_eq_true h2
      have hlast := hM.last hql h1' (by rw [← Int.natCast_mul] at h2; omega)
      refine W.region (cx_ok _) (by rfl) ?_
      conv => whnf
      refine fin (prodN M) _ (by omega) (fun y hy => ?_) hqq (by dsimp only; omega) ?_
      · rw [hlast] at hy
        have hy : y = (prodN M, 1) := by simpa using hy
        rw [hy]; exact Nat.le_refl _
      · clear fin hK9 K9
        repeat' first | refine And.intro ?_ ?_ | exact trivial | rfl | omega | exact .inl rfl | exact fun _ _ => rfl | exact fun _ _ h => h | assumption | exact fun i hi => (by obtain rfl : i = 0 := (by omega); rfl)
    · refine W.skip (fin q _ hq2 hql (Nat.le_refl _) (by dsimp only; omega) ?_)
      clear fin hK9 K9
      repeat' first | refine And.intro ?_ ?_ | exact trivial | rfl | omega | exact .inl rfl | exact fun _ _ => rfl | exact fun _ _ h => h | assumption | exact fun i hi => (by obtain rfl : i = 0 := (by omega); rfl)
  · have hMe : M = [] := by
      cases M with
      | nil => rfl
      | cons y M' => have := prodN_len hM.pr; rw [List.length_cons] at this; omega
    rw [hMe, List.append_nil] at hA
    subst hA
    refine W.exit (hK1 _ ?_)
    clear hK7 K7 hK1 K1
    refine W.sw (c' := cxr [0, 2, 3, 4, 5, 7, 14, 19, 26]) (W.rs (cxr_ok _) (by rfl) fun K hK => ?_)
    conv => whnf
    refine hK _ ?_
    clear hK K
    refine W.ret ?_
    conv => whnf
    exact ⟨.v (vPw A), ⟨.inl rfl, rfl, rfl, fun _ _ => rfl⟩, ⟨trivial, fun _ _ => ⟨trivial, trivial, trivial⟩⟩, rfl⟩

end Go.Proofs.YtaiahdeegchobaaGreat

namespace Go.Proofs.YtaiahdeegchobaaGreat
open Go Go.RowKit Go.Proofs Poly
set_option maxRecDepth 100000
set_option maxHeartbeats 8000000

/-- the number of elements of a field -/
theorem fld_q {p : Int} [SP p] {f : Poly p} (hk : IsFld p f.l) {d : Nat} (hd : dg f = d + 1) : (p ^ (f.l.length - 1) : Int) = ((p.toNat ^ d : Nat) : Int) ∧ p.toNat ^ d ≤ 20000 ∧ 2 ≤ p.toNat ^ d := by
  have h2 := Pr.two (p := p)
  have h1 : f.l.length - 1 = d := by have : f.l.length = dg f := rfl; omega
  have h3 : (p ^ (f.l.length - 1) : Int) = ((p.toNat ^ d : Nat) : Int) := by rw [h1, Int.natCast_pow, Int.toNat_of_nonneg (by omega)]
  have h4 := hk.ord
  have h5 := hk.two
  have h6 : p.toNat ^ 1 ≤ p.toNat ^ d := Nat.pow_le_pow_right (by omega) (by omega)
  rw [Nat.pow_one] at h6
  exact ⟨h3, by omega, by omega⟩
end Go.Proofs.YtaiahdeegchobaaGreat

namespace Go.Proofs.YtaiahdeegchobaaGreat
open Go Go.RowKit Go.Proofs Poly
set_option maxRecDepth 100000
set_option maxHeartbeats 8000000

theorem same_fn (g g' : Option Nat) (xs ys : List Int) (hl : xs.length ≤ 1000000000) : FnV 108 [.ints g xs, .ints g' ys] (.bool (decide (xs = ys))) := by
  refine fn_of (cx_ok [0, 1, 4, 5, 10, 14, 25]) Tryz.func108 rfl (by decide) Tryz.ntmps108 (Nat.le_of_ble_eq_true rfl) fun base => ?_
  refine W.rs (cx_ok _) (by rfl) fun K hK => ?_
  conv => whnf
  refine hK _ ?_
  clear hK K
  refine W.seqK fun K1 hK1 => ?_
  refine W.rs (cx_ok _) (by rfl) fun K hK => ?_
  conv => whnf
  refine hK _ (W.cond ⟨fun h => ?_, fun h => ?_⟩) <;> clear hK K
  · have h := of_decide_eq_true h
    refine W.rs (cx_ok _) (by rfl) fun K hK => ?_
    conv => whnf
    refine hK _ ?_
    clear hK K
    refine W.ret ?_
    conv => whnf
    exact ⟨.v (.bool (decide (xs = ys))), (by show decide _ = false; exact decide_eq_false fun e => h (by rw [e])), trivial, rfl⟩
  have h := of_decide_eq_false h
  have hlen : xs.length = ys.length := by omega
  refine W.skip (hK1 _ ?_)
  clear hK1 K1
  refine W.seqK fun K1 hK1 => ?_
  refine W.rs (cx_ok _) (by rfl) fun K hK => ?_
  conv => whnf
  refine hK _ (W.block (W.invE (fun m e => ∃ k : Nat, k ≤ xs.length ∧ (∀ j, j < k → cf xs j = cf ys j) ∧ m = xs.length - k ∧ e = [(0, .v (.ints g xs)), (1, .v (.ints g' ys)), (5, .v (.int .i64 k))]) _ _ (⟨0, Nat.zero_le _, fun j hj => by omega, rfl, rfl⟩) (by dsimp only; omega) (by repeat' first | refine And.intro ?_ ?_ | exact trivial | rfl | omega | exact .inl rfl | exact fun _ _ => rfl | exact fun _ _ h => h | assumption | exact fun i hi => (by obtain rfl : i = 0 := (by omega); rfl)) ?_))
  clear hK K
  rintro m e ⟨k, h1, h2, hm, rfl⟩
  refine W.seqK fun K7 hK7 => W.rs (cx_ok _) (by rfl) fun K hK => ?_
  conv => whnf
  refine hK _ (W.cond ⟨fun h3 => ?_, fun h3 => ?_⟩) <;> clear hK K <;> (first | replace h3 := of_decide_eq_true h3 | replace h3 := of_decide_eq_false h3)
  · refine W.skip (hK7 _ ?_)
    clear hK7 K7
    refine W.seqK fun K8 hK8 => W.block ?_
    refine W.rd (cx_ok _) follows (by rfl) fun K hK => ?_
    conv => whnf
    refine ⟨⟨by omega, by omega⟩, ?_⟩
    conv => whnf
    refine ⟨⟨by omega, by omega⟩, ?_⟩
    conv => whnf
    rw [Int.toNat_natCast]
    refine hK _ (W.cond ⟨fun h4 => ?_, fun h4 => ?_⟩) <;> clear hK K
    · have h4 : cf xs k ≠ cf ys k := of_decide_eq_true h4
      refine W.rs (cx_ok _) (by rfl) fun K hK => ?_
      conv => whnf
      refine hK _ ?_
      clear hK K
      refine W.ret ?_
      conv => whnf
      exact ⟨.v (.bool (decide (xs = ys))), (by show decide _ = false; exact decide_eq_false fun e => h4 (by rw [e])), trivial, rfl⟩
    · have h4 : ¬ cf xs k ≠ cf ys k := of_decide_eq_false h4
      refine W.skip (hK8 _ ?_)
      clear hK8 K8
      refine W.region (cx_ok _) (by rfl) ?_
      conv => whnf
      refine ⟨by constructor <;> omega, ?_⟩
      conv => whnf
      refine ⟨_, _, ⟨k + 1, by omega, fun j hj => by by_cases h9 : j = k; (subst h9; exact Classical.byContradiction h4); exact h2 j (by omega), rfl, rfl⟩, by omega, by dsimp only; omega, ?_⟩
      repeat' first | refine And.intro ?_ ?_ | exact trivial | rfl | omega | exact .inl rfl | exact fun _ _ => rfl | exact fun _ _ h => h | assumption | exact fun i hi => (by obtain rfl : i = 0 := (by omega); rfl)
  · obtain rfl : k = xs.length := by omega
    refine W.exit (hK1 _ ?_)
    clear hK7 K7 hK1 K1
    obtain rfl : xs = ys := list_ext hlen fun j hj => h2 j hj
    refine W.rs (cx_ok _) (by rfl) fun K hK => ?_
    conv => whnf
    refine hK _ ?_
    clear hK K
    refine W.ret ?_
    conv => whnf
    exact ⟨.v (.bool (decide (xs = xs))), (by show decide _ = true; exact decide_eq_true rfl), trivial, rfl⟩

theorem equal_fn (g g' : Option Nat) (xs ys : List Int) (hl : xs.length ≤ 1000000000) : FnV 78 [.ints g xs, .ints g' ys] (.bool (decide (xs = ys))) := by
  refine fn_of (cx_ok [0, 1, 4, 5, 10, 12, 13, 14, 24]) Tryz.func78 rfl (by decide) Tryz.ntmps78 (Nat.le_of_ble_eq_true rfl) fun base => ?_
  refine W.rs (cx_ok _) (by rfl) fun K hK => ?_
  conv => whnf
  refine hK _ ?_
  clear hK K
  refine W.seqK fun K1 hK1 => ?_
  refine W.rs (cx_ok _) (by rfl) fun K hK => ?_
  conv => whnf
  refine hK _ (W.cond ⟨fun h => ?_, fun h => ?_⟩) <;> clear hK K
  · have h := of_decide_eq_true h
    refine W.rs (cx_ok _) (by rfl) fun K hK => ?_
    conv => whnf
    refine hK _ ?_
    clear hK K
    refine W.ret ?_
    conv => whnf
    exact ⟨.v (.bool (decide (xs = ys))), (by show decide _ = false; exact decide_eq_false fun e => h (by rw [e])), trivial, rfl⟩
  have h := of_decide_eq_false h
  have hlen : xs.length = ys.length := by omega
  refine W.skip (hK1 _ ?_)
  clear hK1 K1
  refine W.seqK fun K1 hK1 => ?_
  refine W.rs (cx_ok _) (by rfl) fun K hK => ?_
  conv => whnf
  refine hK _ (W.block (W.invE (fun m e => ∃ k : Nat, k ≤ xs.length ∧ (∀ j, j < k → cf xs j = cf ys j) ∧ m = xs.length - k ∧ e = [(0, .v (.ints g xs)), (1, .v (.ints g' ys)), (12, .v (.int .i64 xs.length)), (13, .v (.int .i64 k))]) _ _ (⟨0, Nat.zero_le _, fun j hj => by omega, rfl, rfl⟩) (by dsimp only; omega) (by repeat' first | refine And.intro ?_ ?_ | exact trivial | rfl | omega | exact .inl rfl | exact fun _ _ => rfl | exact fun _ _ h => h | assumption | exact fun i hi => (by obtain rfl : i = 0 := (by omega); rfl)) ?_))
  clear hK K
  rintro m e ⟨k, h1, h2, hm, rfl⟩
  refine W.rs (cx_ok _) (by rfl) fun K hK => ?_
  conv => whnf
  refine hK _ ?_
  clear hK K
  refine W.seqK fun K7 hK7 => W.cond ⟨fun h3 => ?_, fun h3 => ?_⟩ <;> (first | replace h3 := of_decide_eq_true h3 | replace h3 := of_decide_eq_false h3)
  · refine W.skip (hK7 _ ?_)
    clear hK7 K7
    refine W.seqK fun K8 hK8 => W.block ?_
    refine W.rs (cx_ok _) (by rfl) fun K hK => ?_
    conv => whnf
    refine hK _ ?_
    clear hK K
    refine W.rd (cx_ok _) follows (by rfl) fun K hK => ?_
    conv => whnf
    refine ⟨⟨by omega, by omega⟩, ?_⟩
    conv => whnf
    refine ⟨⟨by omega, by omega⟩, ?_⟩
    conv => whnf
    rw [Int.toNat_natCast]
    refine hK _ (W.cond ⟨fun h4 => ?_, fun h4 => ?_⟩) <;> clear hK K
    · have h4 : cf xs k ≠ cf ys k := of_decide_eq_true h4
      refine W.rs (cx_ok _) (by rfl) fun K hK => ?_
      conv => whnf
      refine hK _ ?_
      clear hK K
      refine W.ret ?_
      conv => whnf
      exact ⟨.v (.bool (decide (xs = ys))), (by show decide _ = false; exact decide_eq_false fun e => h4 (by rw [e])), trivial, rfl⟩
    · have h4 : ¬ cf xs k ≠ cf ys k := of_decide_eq_false h4
      refine W.skip (hK8 _ ?_)
      clear hK8 K8
      refine W.region (cx_ok _) (by rfl) ?_
      conv => whnf
      refine ⟨by constructor <;> omega, ?_⟩
      conv => whnf
      refine ⟨_, _, ⟨k + 1, by omega, fun j hj => by by_cases h9 : j = k; (subst h9; exact Classical.byContradiction h4); exact h2 j (by omega), rfl, rfl⟩, by omega, by dsimp only; omega, ?_⟩
      repeat' first | refine And.intro ?_ ?_ | exact trivial | rfl | omega | exact .inl rfl | exact fun _ _ => rfl | exact fun _ _ h => h | assumption | exact fun i hi => (by obtain rfl : i = 0 := (by omega); rfl)
  · obtain rfl : k = xs.length := by omega
    refine W.exit (hK1 _ ?_)
    clear hK7 K7 hK1 K1
    obtain rfl : xs = ys := list_ext hlen fun j hj => h2 j hj
    refine W.rs (cx_ok _) (by rfl) fun K hK => ?_
    conv => whnf
    refine hK _ ?_
    clear hK K
    refine W.ret ?_
    conv => whnf
    exact ⟨.v (.bool (decide (xs = xs))), (by show decide _ = true; exact decide_eq_true rfl), trivial, rfl⟩

/-- is it primitive -/
def Prim {p : Int} [SP p] (f X : Poly p) : Prop := IsOrd f X (p.toNat ^ (dg f - 1) - 1)
theorem Prim.ne {p : Int} [SP p] {f X : Poly p} (hi : Irr f) (h : Prim f X) : X ≠ 0 := ndvd_ne (h.ndvd hi)
end Go.Proofs.YtaiahdeegchobaaGreat

namespace Go.Proofs.YtaiahdeegchobaaGreat
open Go Go.RowKit Go.Proofs Poly
set_option maxRecDepth 100000
set_option maxHeartbeats 8000000

theorem smul_take {ys : List Int} {i : Nat} (h : i < ys.length) : smulL (-1) (ys.take (i + 1)) = smulL (-1) (ys.take i) ++ [-(cf ys i)] := by
  have h1 := take_map_succ (fun x => (-1) * x) h
  have e : ys.getD i 0 = cf ys i := rfl
  rw [e] at h1
  unfold smulL
  rw [h1]; congr 2; omega
theorem minus_fn (g g' : Option Nat) (xs ys : List Int) (hx : Bd 1000000000000 xs) (hy : Bd 1000000000000 ys) (hxl : xs.length ≤ 1000000) (hyl : ys.length ≤ 1000000) : FnI 102 [.ints g xs, .ints g' ys] (trimZ (addL xs (smulL (-1) ys))) := by
  refine fn_of (cx_ok [0, 1, 4, 5, 7, 8, 9, 10, 11]) Tryz.func102 rfl (by decide) Tryz.ntmps102 (Nat.le_of_ble_eq_true rfl) fun base => ?_
  refine W.rs (cx_ok _) (by rfl) fun K hK => ?_
  conv => whnf
  refine hK _ ?_
  clear hK K
  refine W.rs (cx_ok _) (by rfl) fun K hK => ?_
  conv => whnf
  refine hK _ ?_
  clear hK K
  refine W.seqK fun K1 hK1 => ?_
  refine W.rs (cx_ok _) (by rfl) fun K hK => ?_
  conv => whnf
  refine hK _ (W.block (W.invE (fun m e => ∃ i b : Nat, i ≤ ys.length ∧ m = ys.length - i ∧ e = [(0, .v (.ints g xs)), (5, .ownI 2 b (smulL (-1) (ys.take i))), (8, .v (.ints g' ys)), (9, .v (.int .i64 ys.length)), (10, .v (.int .i64 i))]) _ _ (⟨0, 0, Nat.zero_le _, rfl, rfl⟩) (by dsimp only; omega) (by repeat' first | refine And.intro ?_ ?_ | exact trivial | rfl | omega | exact .inl rfl | exact fun _ _ => rfl | exact fun _ _ h => h | assumption | exact fun i hi => (by obtain rfl : i = 0 := (by omega); rfl)) ?_))
  clear hK K
  rintro m e ⟨i, b, hi, hm, rfl⟩
  refine W.rs (cx_ok _) (by rfl) fun K hK => ?_
  conv => whnf
  refine hK _ ?_
  clear hK K
  refine W.seqK fun K7 hK7 => W.cond ⟨fun h => ?_, fun h => ?_⟩ <;> (first | replace h := of_decide_eq_true h | replace h := of_decide_eq_false h)
  · have hi2 : i < ys.length := by omega
    have hyi := hy i
    have hst := smul_take hi2
    have hsl : (smulL (-1) (ys.take i)).length = i := by simp [smulL]; omega
    refine W.skip (hK7 _ ?_)
    clear hK7 K7
    refine W.seqK fun K8 hK8 => W.block ?_
    refine W.rs (cx_ok _) (by rfl) fun K hK => ?_
    conv => whnf
    refine ⟨⟨by omega, by omega⟩, ?_⟩
    conv => whnf
    rw [Int.toNat_natCast]
    refine hK _ ?_
    clear hK K
    refine W.region (cx_ok _) (by rfl) ?_
    conv => whnf
    refine ⟨by show _ ≤ -(cf ys i) ∧ -(cf ys i) ≤ _; omega, ?_⟩
    conv => whnf
    refine ⟨⟨rfl, by decide⟩, ?_⟩
    conv => whnf
    intro b_1 hs_1 hh_1 hf_1
    try dsimp only at hh_1 hf_1
    conv => whnf
    refine ⟨by dsimp only [List.length]; omega, ?_⟩
    conv => whnf
    intro b_2 hs_2 hh_2 hf_2
    try dsimp only at hh_2 hf_2
    conv => whnf
    refine hK8 _ ?_
    clear hK8 K8
    refine W.region (cx_ok _) (by rfl) ?_
    conv => whnf
    refine ⟨by constructor <;> omega, ?_⟩
    conv => whnf
    refine ⟨_, _, ⟨i + 1, b_2, by omega, rfl, by rw [hst]⟩, by omega, by dsimp only; omega, ?_⟩
    repeat' first | refine And.intro ?_ ?_ | exact trivial | rfl | omega | exact .inl rfl | exact fun _ _ => rfl | exact fun _ _ h => h | assumption | exact fun i hi => (by obtain rfl : i = 0 := (by omega); rfl)
  · obtain rfl : i = ys.length := by omega
    rw [List.take_length]
    have hsl : (smulL (-1) ys).length = ys.length := by simp [smulL]
    refine W.exit (hK1 _ ?_)
    clear hK7 K7 hK1 K1
    refine W.rs (cx_ok _) (by rfl) fun K hK => ?_
    conv => whnf
    refine callI rfl (sumOf_fn g (some b) xs (smulL (-1) ys) (hx.le (by omega)) (fun j => by rw [cf_smulL]; have := hy j; omega) (by omega) (by omega)) fun hs_3 b_3 hh_3 hf_3 => ?_
    try dsimp only at hh_3 hf_3
    conv => whnf
    refine hK _ ?_
    clear hK K
    refine W.ret ?_
    conv => whnf
    exact ⟨.ownI 2 _ (trimZ (addL xs (smulL (-1) ys))), ⟨rfl, rfl, rfl⟩, trivial, _, rfl⟩

theorem sub_l {p : Int} [SP p] (X Y : Poly p) : nrm p (trimZ (addL X.l (smulL (-1) Y.l))) = (X - Y).l := nrm_trim _ _

/-- the inverse by a polynomial -/
theorem cofactor_fn (p : Int) [SP p] (g g' : Option Nat) (h f U : Poly p) (hf : dg f ≤ 500) (hh : dg h ≤ 500) (h2 : 2 ≤ dg f) (hU : dg U < dg f) (hU2 : f ∣ h * U - 1) : FnI 72 [.int .i64 p, .ints g h.l, .ints g' f.l] U.l := by
  have hp := Pr.two (p := p)
  have hp2 := SP.le (p := p)
  have hf0 : f ≠ 0 := fun e => by rw [e, dg_zero] at h2; omega
  have hfl : f.l.length = dg f := rfl
  have hcop : Cop f h := by
    obtain ⟨q, hq⟩ := hU2
    exact ⟨-q, U, comb 1 hq (ring [f, h, U, q] (by rfl))⟩
  refine fn_of (cx_ok [0, 1, 2, 6, 7, 8, 9, 10, 11, 12, 21]) Tryz.func72 rfl (by decide) Tryz.ntmps72 (Nat.le_of_ble_eq_true rfl) fun base => ?_
  refine W.rs (cx_ok _) (by rfl) fun K hK => ?_
  conv => whnf
  refine hK _ ?_
  clear hK K
  refine W.rs (cx_ok _) (by rfl) fun K hK => ?_
  conv => whnf
  refine callV rfl (remainder_fn p g g' h f (by omega) (by omega) hf0) fun hs' hhs => ?_
  try dsimp only at hhs
  conv => whnf
  refine hK _ ?_
  clear hK K
  refine W.rs (cx_ok _) (by rfl) fun K hK => ?_
  conv => whnf
  refine ⟨⟨rfl, by decide⟩, ?_⟩
  conv => whnf
  intro b_1 hs_1 hh_1 hf_1
  try dsimp only at hh_1 hf_1
  conv => whnf
  refine hK _ ?_
  clear hK K
  refine W.seqK fun K1 hK1 => W.block (W.invE (fun m e => ∃ (a b u v : Poly p) (ga : Option Nat) (su sv : List Int), CofI f h a b u v ∧ su = u.l ∧ sv = v.l ∧ m = dg b ∧ e = [(0, .v (.int .i64 p)), (7, .v (.ints ga a.l)), (8, .v (.ints none b.l)), (9, .v (.ints none su)), (10, .v (.ints none sv))]) _ _ (⟨f, rem h f, 0, 1, g', [], [1], CofI.start hf0 hcop, zero_l.symm, one_l.symm, rfl, rfl⟩) (by dsimp only; omega) (by repeat' first | refine And.intro ?_ ?_ | exact trivial | rfl | omega | exact .inl rfl | exact fun _ _ => rfl | exact fun _ _ h => h | assumption | exact fun i hi => (by obtain rfl : i = 0 := (by omega); rfl)) ?_)
  rintro m e ⟨a, b, u, v, ga, su, sv, hI, rfl, rfl, hm, rfl⟩
  obtain ⟨hu, hv, ha, hb⟩ := hI.few
  have hbl : b.l.length = dg b := rfl
  have hul : u.l.length = dg u := rfl
  refine W.seqK fun K7 hK7 => W.rs (cx_ok _) (by rfl) fun K hK => ?_
  conv => whnf
  refine hK _ (W.cond ⟨fun h1 => ?_, fun h1 => ?_⟩) <;> clear hK K <;> (first | replace h1 := of_decide_eq_true h1 | replace h1 := of_decide_eq_false h1)
  · have hb0 : b ≠ 0 := fun e => by have := dg_eq_zero.2 e; omega
    have hn := hI.step hb0
    have hlt := rem_lt a hb0
    have hqd := quo_dg hI.a0 hb0 (Nat.le_of_lt hI.lt)
    have hqv := dg_mul_le (quo a b) v
    have hqvl : (quo a b * v).l.length = dg (quo a b * v) := rfl
    refine W.skip (hK7 _ (W.block ?_))
    clear hK7 K7
    refine W.rs (cx_ok _) (by rfl) fun K hK => ?_
    conv => whnf
    refine callV rfl (divide_fn p ga none a b (by omega) (by omega) hb0) fun hs' hhs => ?_
    try dsimp only at hhs
    conv => whnf
    refine hK _ ?_
    clear hK K
    refine W.rs (cx_ok _) (by rfl) fun K hK => ?_
    conv => whnf
    refine hK _ ?_
    clear hK K
    refine W.region (cx_ok _) (by rfl) ?_
    conv => whnf
    refine callI rfl (times_fn p none none (quo a b) v (by omega) (by omega)) fun hs_2 b_2 hh_2 hf_2 => ?_
    try dsimp only at hh_2 hf_2
    conv => whnf
    refine callI rfl (minus_fn none (some b_2) u.l (quo a b * v).l ((l_bd u).le (by omega)) ((l_bd _).le (by omega)) (by omega) (by omega)) fun hs_3 b_3 hh_3 hf_3 => ?_
    try dsimp only at hh_3 hf_3
    conv => whnf
    refine callI rfl (reduce_fn p (by omega) (by omega) (some b_3) (trimZ (addL u.l (smulL (-1) (quo a b * v).l))) (fun i => by rw [cf_trimZ, cf_addL, cf_smulL]; have := cf_bd u i; have := cf_bd (quo a b * v) i; omega) (by have := trimZ_length (addL u.l (smulL (-1) (quo a b * v).l)); unfold addL smulL at *; rw [mkL_length, List.length_map] at *; omega)) fun hs_4 b_4 hh_4 hf_4 => ?_
    try dsimp only at hh_4 hf_4
    conv => whnf
    rw [sub_l]
    refine ⟨_, _, ⟨b, rem a b, v, u - quo a b * v, none, _, _, hn, rfl, rfl, rfl, rfl⟩, by omega, by dsimp only; omega, ?_⟩
    repeat' first | refine And.intro ?_ ?_ | exact trivial | rfl | omega | exact .inl rfl | exact fun _ _ => rfl | exact fun _ _ h => h | assumption | exact fun i hi => (by obtain rfl : i = 0 := (by omega); rfl)
  · have hb0 : b = 0 := dg_eq_zero.1 (by omega)
    subst hb0
    have ha1 := hI.cop.unit
    have hal : a.l.length = dg a := rfl
    have hc0 : cf a.l 0 % p ≠ 0 := cf_ne_mod (dg_lead (by omega))
    obtain ⟨i1, i2, i3⟩ := invm_spec hc0
    obtain ⟨f1, f2⟩ := hI.fin i3
    have hU3 : u * con p (invm p (cf a.l 0)) = U := by
      have h3 := dvd_sub f2 hU2
      rw [show h * (u * con p (invm p (cf a.l 0))) - 1 - (h * U - 1) = h * (u * con p (invm p (cf a.l 0)) - U) from ring [h, u, con p (invm p (cf a.l 0)), U] (by rfl)] at h3
      have h4 := hcop.dvd h3
      exact eq_of_sub0 (Classical.byContradiction fun h0 => small_ndvd h0 (by have := dg_sub (u * con p (invm p (cf a.l 0))) U; omega) h4)
    have i4 : invm p (cf a.l 0) ≠ 0 := fun e => by rw [e] at i3; simp at i3
    have hcl := con_l (p := p) (c := invm p (cf a.l 0)) (by omega) i2
    have hcd := con_dg (p := p) (invm p (cf a.l 0))
    refine W.exit (hK1 _ ?_)
    clear hK7 K7 hK1 K1
    refine W.rs (cx_ok _) (by rfl) fun K hK => ?_
    conv => whnf
    refine ⟨⟨by omega, by omega⟩, ?_⟩
    conv => whnf
    refine callV rfl (inverseBy_fn p _ (by have := l_bd a 0; show _ ≤ cf a.l 0 ∧ cf a.l 0 ≤ _; omega) hc0) fun hs' hhs => ?_
    try dsimp only at hhs
    conv => whnf
    refine ⟨⟨rfl, by decide⟩, ?_⟩
    conv => whnf
    intro b_2 hs_2 hh_2 hf_2
    try dsimp only at hh_2 hf_2
    conv => whnf
    have e9 : [invm p (cf a.l 0)] = (con p (invm p (cf a.l 0))).l := hcl.symm
    have e8 : [invm p (a.l.getD (Int.toNat 0) 0)] = (con p (invm p (cf a.l 0))).l := e9
    rw [e8]
    refine callI rfl (times_fn p none _ u (con p (invm p (cf a.l 0))) (by omega) (by omega)) fun hs_3 b_3 hh_3 hf_3 => ?_
    try dsimp only at hh_3 hf_3
    conv => whnf
    rw [hU3]
    refine hK _ ?_
    clear hK K
    refine W.ret ?_
    conv => whnf
    exact ⟨.ownI 2 _ (U.l), ⟨rfl, rfl, rfl⟩, trivial, _, rfl⟩

end Go.Proofs.YtaiahdeegchobaaGreat

namespace Go.Proofs.YtaiahdeegchobaaGreat
open Go Go.RowKit Go.Proofs Poly
set_option maxRecDepth 100000
set_option maxHeartbeats 8000000

theorem InvertElement_both (kp : Int) (kl x : List Int) (_ : inR kp) (hkl : kl.length ≤ 1048576) (hx : x.length ≤ 1048576) : ∃ (r0 : List Int) (r1 : Int),
    (∀ g0 g1 : Option Nat, FnV 35 [vK kp g0 kl, .ints g1 x] (.tup [.ints none r0, .int .i64 r1])) ∧ (∀ g0 g1 : Option Nat, FnT Tryz.prog 36 [vK kp g0 kl, .ints g1 x] (RT r0 r1)) ∧ r0.length ≤ 1000000 := by
  generalize hc : code1 kp kl x = c
  by_cases h0 : c = 0
  case neg =>
    refine ⟨[], c, fun g0 g1 => ?_, fun g0 g1 => ?_, by simp⟩
    · refine fn_of (cx_ok [0, 1, 2, 4, 5, 6, 17, 19]) Tryz.func35 rfl (by decide) Tryz.ntmps35 (Nat.le_of_ble_eq_true rfl) fun base => ?_
      refine W.rs (cx_ok _) (by rfl) fun K hK => ?_
      conv => whnf
      refine ⟨rfl, ?_⟩
      conv => whnf
      intro b_1 hs_1 hh_1 hf_1
      try dsimp only at hh_1 hf_1
      conv => whnf
      refine hK _ ?_
      clear hK K
      refine W.rs (cx_ok _) (by rfl) fun K hK => ?_
      conv => whnf
      refine callV rfl (l17Code_one kp g0 g1 g1 kl x (by omega) (by omega)) fun hs' hhs => ?_
      try dsimp only at hhs
      conv => whnf
      rw [hc]
      refine hK _ ?_
      clear hK K
      refine W.seqK fun K1 hK1 => ?_
      refine W.rs (cx_ok _) (by rfl) fun K hK => ?_
      conv => whnf
      refine ⟨fun h => ?_, fun h => ?_⟩ <;> conv => whnf
      · exact absurd (of_decide_eq_true h) h0
      refine hK _ (W.condF rfl (W.skip (hK1 _ ?_)))
      clear hK K hK1 K1
      refine W.seqK fun K1 hK1 => ?_
      refine W.rs (cx_ok _) (by rfl) fun K hK => ?_
      conv => whnf
      refine hK _ (W.cond ⟨fun _ => ?_, fun hcc => absurd h0 (of_decide_eq_false hcc)⟩)
      clear hK K
      refine W.rs (cx_ok _) (by rfl) fun K hK => ?_
      conv => whnf
      refine hK _ ?_
      clear hK K
      refine W.ret ?_
      conv => whnf
      exact ⟨.v (.ints none []), rfl, trivial, .v (.int .i64 c), ⟨rfl, rfl⟩, trivial, rfl⟩
    · refine fnt_of (cxt_ok [] [0, 1, 2, 4, 5, 6, 12, 16, 1000000]) Tryz.func36 rfl (by decide) Tryz.ntmps36 (Nat.le_of_ble_eq_true rfl) (fun base => ?_) (Nat.le_of_ble_eq_true rfl)
      refine W.sw (c' := cx [0, 1, 2, 4, 5, 6, 12, 16, 1000000]) ?_
      refine W.rs (cx_ok _) (by rfl) fun K hK => ?_
      conv => whnf
      refine ⟨rfl, ?_⟩
      conv => whnf
      intro b_1 hs_1 hh_1 hf_1
      try dsimp only at hh_1 hf_1
      conv => whnf
      refine hK _ ?_
      clear hK K
      refine W.seqK fun K1 hK1 => ?_
      refine W.rs (cx_ok _) (by rfl) fun K hK => ?_
      conv => whnf
      refine ⟨⟨rfl, by decide, fun x hx => (by simp at hx; subst hx; exact ⟨rfl, rfl⟩)⟩, ?_⟩
      conv => whnf
      intro b_2 hs_2 hh_2 hf_2
      try dsimp only at hh_2 hf_2
      conv => whnf
      refine callV rfl (elements_tr kp g0 (some b_2) kl 1 _ (fun _ => x) (by omega) (by omega) (els1 g1 x)) fun hs' hhs => ?_
      try dsimp only at hhs
      conv => whnf
      rw [show codeEl kp kl true 1 (fun _ => x) = c from hc]
      refine hK _ ?_
      clear hK K
      refine W.rs (cx_ok _) (by rfl) fun K hK => ?_
      conv => whnf
      refine hK _ (W.cond ⟨fun _ => ?_, fun hcc => absurd h0 (of_decide_eq_false hcc)⟩)
      clear hK K
      refine W.rs (cx_ok _) (by rfl) fun K hK => ?_
      conv => whnf
      refine hK _ ?_
      clear hK K
      refine W.ret ?_
      conv => whnf
      exact ⟨.v (.rf 0 0), rfl, trivial, .v (.int .i64 (c)), ⟨rfl, rfl⟩, trivial, 0, rfl, fun hne => absurd rfl hne⟩
  subst h0
  obtain ⟨hk, hh⟩ := code1_ok hc
  obtain ⟨hp, f, rfl, hfi, _, _, hf9⟩ := fld_poly hk
  letI := sp_of hp
  obtain ⟨X, rfl⟩ := mod_poly hh.1
  have hxl : X.l.length < f.l.length := hh.2
  have hfl : f.l.length = dg f := rfl
  have hXl : X.l.length = dg X := rfl
  have hf0 := hfi.ne
  have hp1 := primes_le hp
  by_cases hX0 : X = 0
  case pos =>
    have hX1 : dg X = 0 := dg_eq_zero.2 hX0
    refine ⟨[], 5, fun g0 g1 => ?_, fun g0 g1 => ?_, by simp⟩
    · refine fn_of (cx_ok [0, 1, 2, 4, 5, 6, 17, 19]) Tryz.func35 rfl (by decide) Tryz.ntmps35 (Nat.le_of_ble_eq_true rfl) fun base => ?_
      refine W.rs (cx_ok _) (by rfl) fun K hK => ?_
      conv => whnf
      refine ⟨rfl, ?_⟩
      conv => whnf
      intro b_1 hs_1 hh_1 hf_1
      try dsimp only at hh_1 hf_1
      conv => whnf
      refine hK _ ?_
      clear hK K
      refine W.rs (cx_ok _) (by rfl) fun K hK => ?_
      conv => whnf
      refine callV rfl (l17Code_one kp g0 g1 g1 f.l X.l (by omega) (by omega)) fun hs' hhs => ?_
      try dsimp only at hhs
      conv => whnf
      rw [hc]
      refine hK _ ?_
      clear hK K
      refine W.seqK fun K1 hK1 => ?_
      refine W.rs (cx_ok _) (by rfl) fun K hK => ?_
      conv => whnf
      refine ⟨fun h => ?_, fun h => ?_⟩ <;> conv => whnf
      · refine hK _ (W.cond ⟨fun _ => ?_, fun h4 => absurd (of_decide_eq_false h4) (by omega)⟩)
        clear hK K
        refine W.region (cx_ok _) (by rfl) ?_
        conv => whnf
        refine hK1 _ ?_
        clear hK1 K1
        refine W.seqK fun K1 hK1 => ?_
        refine W.rs (cx_ok _) (by rfl) fun K hK => ?_
        conv => whnf
        refine hK _ (W.cond ⟨fun _ => ?_, fun hcc => absurd (by decide : (5 : Int) ≠ 0) (of_decide_eq_false hcc)⟩)
        clear hK K
        refine W.rs (cx_ok _) (by rfl) fun K hK => ?_
        conv => whnf
        refine hK _ ?_
        clear hK K
        refine W.ret ?_
        conv => whnf
        exact ⟨.v (.ints none []), rfl, trivial, .v (.int .i64 5), ⟨rfl, rfl⟩, trivial, rfl⟩
      · exact absurd rfl (of_decide_eq_false h)
    · refine fnt_of (cxt_ok [] [0, 1, 2, 4, 5, 6, 12, 16, 1000000]) Tryz.func36 rfl (by decide) Tryz.ntmps36 (Nat.le_of_ble_eq_true rfl) (fun base => ?_) (Nat.le_of_ble_eq_true rfl)
      refine W.sw (c' := cx [0, 1, 2, 4, 5, 6, 12, 16, 1000000]) ?_
      refine W.rs (cx_ok _) (by rfl) fun K hK => ?_
      conv => whnf
      refine ⟨rfl, ?_⟩
      conv => whnf
      intro b_1 hs_1 hh_1 hf_1
      try dsimp only at hh_1 hf_1
      conv => whnf
      refine hK _ ?_
      clear hK K
      refine W.seqK fun K1 hK1 => ?_
      refine W.rs (cx_ok _) (by rfl) fun K hK => ?_
      conv => whnf
      refine ⟨⟨rfl, by decide, fun x hx => (by simp at hx; subst hx; exact ⟨rfl, rfl⟩)⟩, ?_⟩
      conv => whnf
      intro b_2 hs_2 hh_2 hf_2
      try dsimp only at hh_2 hf_2
      conv => whnf
      refine callV rfl (elements_tr kp g0 (some b_2) f.l 1 _ (fun _ => X.l) (by omega) (by omega) (els1 g1 X.l)) fun hs' hhs => ?_
      try dsimp only at hhs
      conv => whnf
      rw [show codeEl kp f.l true 1 (fun _ => X.l) = 0 from hc]
      refine hK _ ?_
      clear hK K
      refine W.rs (cx_ok _) (by rfl) fun K hK => ?_
      conv => whnf
      refine hK _ (W.cond ⟨fun hcc => absurd rfl (of_decide_eq_true hcc), fun _ => W.skip (hK1 _ ?_)⟩)
      clear hK K hK1 K1
      refine W.seqK fun K1 hK1 => ?_
      refine W.rs (cx_ok _) (by rfl) fun K hK => ?_
      conv => whnf
      refine hK _ (W.cond ⟨fun _ => ?_, fun h4 => absurd (of_decide_eq_false h4) (by omega)⟩)
      clear hK K
      refine W.rs (cx_ok _) (by rfl) fun K hK => ?_
      conv => whnf
      refine hK _ ?_
      clear hK K
      refine W.ret ?_
      conv => whnf
      exact ⟨.v (.rf 0 0), rfl, trivial, .v (.int .i64 (5)), ⟨rfl, rfl⟩, trivial, 0, rfl, fun hne => absurd rfl hne⟩
  have hX1 : dg X ≠ 0 := fun e => hX0 (dg_eq_zero.1 e)
  obtain ⟨d, hd⟩ : ∃ d, dg f = d + 1 := ⟨dg f - 1, by have := hfi.1; omega⟩
  obtain ⟨hq1, hq2, hq3⟩ := fld_q hk hd
  have hiv := inv_pow hfi (small_ndvd hX0 hxl) hd
  have hil := rem_lt (X ^ (2 * kp.toNat ^ d - 3)) hf0
  generalize kp.toNat ^ d = q at hq1 hq2 hq3 hiv hil
  refine ⟨(rem (X ^ (2 * q - 3)) f).l, 0, fun g0 g1 => ?_, fun g0 g1 => ?_, by show dg _ ≤ _; omega⟩
  · refine fn_of (cx_ok [0, 1, 2, 4, 5, 6, 17, 19]) Tryz.func35 rfl (by decide) Tryz.ntmps35 (Nat.le_of_ble_eq_true rfl) fun base => ?_
    refine W.rs (cx_ok _) (by rfl) fun K hK => ?_
    conv => whnf
    refine ⟨rfl, ?_⟩
    conv => whnf
    intro b_1 hs_1 hh_1 hf_1
    try dsimp only at hh_1 hf_1
    conv => whnf
    refine hK _ ?_
    clear hK K
    refine W.rs (cx_ok _) (by rfl) fun K hK => ?_
    conv => whnf
    refine callV rfl (l17Code_one kp g0 g1 g1 f.l X.l (by omega) (by omega)) fun hs' hhs => ?_
    try dsimp only at hhs
    conv => whnf
    rw [hc]
    refine hK _ ?_
    clear hK K
    refine W.seqK fun K1 hK1 => ?_
    refine W.rs (cx_ok _) (by rfl) fun K hK => ?_
    conv => whnf
    refine ⟨fun h => ?_, fun h => ?_⟩ <;> conv => whnf
    · refine hK _ (W.cond ⟨fun h4 => absurd (of_decide_eq_true h4) (by omega), fun _ => W.skip (hK1 _ ?_)⟩)
      clear hK K hK1 K1
      refine W.seqK fun K1 hK1 => ?_
      refine W.rs (cx_ok _) (by rfl) fun K hK => ?_
      conv => whnf
      refine hK _ (W.cond ⟨fun hcc => absurd rfl (of_decide_eq_true hcc), fun _ => W.skip (hK1 _ ?_)⟩)
      clear hK K hK1 K1
      refine W.rd (cx_ok _) follows (by rfl) fun K hK => ?_
      conv => whnf
      refine ⟨_, cxF (l17Size_fn kp g0 f.l hk), ?_⟩
      conv => whnf
      rw [hq1]
      refine ⟨by constructor <;> omega, ?_⟩
      conv => whnf
      refine ⟨by constructor <;> omega, ?_⟩
      conv => whnf
      rw [show (2 : Int) * ((q : Nat) : Int) - 3 = ((2 * q - 3 : Nat) : Int) by omega]
      refine ⟨_, cxF (l17Power_fn kp g0 g1 f X (2 * q - 3) (by omega) (by omega) (by omega) hf0), ?_⟩
      conv => whnf
      refine hK _ ?_
      clear hK K
      refine W.ret ?_
      conv => whnf
      exact ⟨.v (.ints none (rem (X ^ (2 * q - 3)) f).l), ⟨rfl, rfl⟩, trivial, .v (.int .i64 0), ⟨rfl, rfl⟩, trivial, rfl⟩
    · exact absurd rfl (of_decide_eq_false h)
  · refine fnt_of (cxt_ok [] [0, 1, 2, 4, 5, 6, 12, 16, 1000000]) Tryz.func36 rfl (by decide) Tryz.ntmps36 (Nat.le_of_ble_eq_true rfl) (fun base => ?_) (Nat.le_of_ble_eq_true rfl)
    refine W.sw (c' := cx [0, 1, 2, 4, 5, 6, 12, 16, 1000000]) ?_
    refine W.rs (cx_ok _) (by rfl) fun K hK => ?_
    conv => whnf
    refine ⟨rfl, ?_⟩
    conv => whnf
    intro b_1 hs_1 hh_1 hf_1
    try dsimp only at hh_1 hf_1
    conv => whnf
    refine hK _ ?_
    clear hK K
    refine W.seqK fun K1 hK1 => ?_
    refine W.rs (cx_ok _) (by rfl) fun K hK => ?_
    conv => whnf
    refine ⟨⟨rfl, by decide, fun x hx => (by simp at hx; subst hx; exact ⟨rfl, rfl⟩)⟩, ?_⟩
    conv => whnf
    intro b_2 hs_2 hh_2 hf_2
    try dsimp only at hh_2 hf_2
    conv => whnf
    refine callV rfl (elements_tr kp g0 (some b_2) f.l 1 _ (fun _ => X.l) (by omega) (by omega) (els1 g1 X.l)) fun hs' hhs => ?_
    try dsimp only at hhs
    conv => whnf
    rw [show codeEl kp f.l true 1 (fun _ => X.l) = 0 from hc]
    refine hK _ ?_
    clear hK K
    refine W.rs (cx_ok _) (by rfl) fun K hK => ?_
    conv => whnf
    refine hK _ (W.cond ⟨fun hcc => absurd rfl (of_decide_eq_true hcc), fun _ => W.skip (hK1 _ ?_)⟩)
    clear hK K hK1 K1
    refine W.seqK fun K1 hK1 => ?_
    refine W.rs (cx_ok _) (by rfl) fun K hK => ?_
    conv => whnf
    refine hK _ (W.cond ⟨fun h4 => absurd (of_decide_eq_true h4) (by omega), fun _ => W.skip (hK1 _ ?_)⟩)
    clear hK K hK1 K1
    refine W.sw (c' := cxt [] [0, 1, 2, 4, 5, 6, 12, 16, 1000000]) ?_
    refine W.rs (cxt_ok _ _) (by rfl) fun K hK => ?_
    conv => whnf
    refine callI rfl (cofactor_fn kp g1 g0 X f (rem (X ^ (2 * q - 3)) f) (by omega) (by omega) hfi.1 hil hiv) fun hs_3 b_3 hh_3 hf_3 => ?_
    try dsimp only at hh_3 hf_3
    conv => whnf
    refine hK _ ?_
    clear hK K
    refine W.give 4 fun K hK => ?_
    conv => whnf
    refine hK _ ?_
    clear hK K
    refine W.ret ?_
    conv => whnf
    exact ⟨.v (.rf b_3 _), rfl, trivial, .v (.int .i64 (0)), ⟨rfl, rfl⟩, trivial, b_3, rfl, fun hne => tbAdd_self _ _ hne⟩

/- greatest common divisors of numbers -/
theorem abs_fn (n : Nat) (hn : n ≤ 1000000000) : FnV 100 [.int .i64 n] (.int .i64 n) := by
  refine fn_of (cx_ok [0, 2]) Tryz.func100 rfl (by decide) Tryz.ntmps100 (Nat.le_of_ble_eq_true rfl) fun base => ?_
  refine W.rs (cx_ok _) (by rfl) fun K hK => ?_
  conv => whnf
  refine hK _ ?_
  clear hK K
  refine W.rs (cx_ok _) (by rfl) fun K hK => ?_
  conv => whnf
  refine ⟨by constructor <;> omega, ?_⟩
  conv => whnf
  rw [show max (n : Int) (-(n : Int)) = n by omega]
  refine hK _ ?_
  clear hK K
  refine W.ret ?_
  conv => whnf
  exact ⟨.v (.int .i64 n), ⟨rfl, rfl⟩, trivial, rfl⟩
theorem l01Abs_fn (n : Nat) (hn : n ≤ 1000000000) : FnV 82 [.int .i64 n] (.int .i64 n) := by
  refine fn_of (cx_ok [0, 2]) Tryz.func82 rfl (by decide) Tryz.ntmps82 (Nat.le_of_ble_eq_true rfl) fun base => ?_
  refine W.rs (cx_ok _) (by rfl) fun K hK => ?_
  conv => whnf
  refine hK _ ?_
  clear hK K
  refine W.rs (cx_ok _) (by rfl) fun K hK => ?_
  conv => whnf
  refine ⟨by constructor <;> omega, ?_⟩
  conv => whnf
  rw [show max (n : Int) (-(n : Int)) = n by omega]
  refine hK _ ?_
  clear hK K
  refine W.ret ?_
  conv => whnf
  exact ⟨.v (.int .i64 n), ⟨rfl, rfl⟩, trivial, rfl⟩
theorem gcd_fn (a b : Nat) (ha : a ≤ 1000000000) (hb : b ≤ 1000000000) : FnV 71 [.int .i64 a, .int .i64 b] (.int .i64 (Nat.gcd a b)) := by
  refine fn_of (cx_ok [0, 1, 4, 6]) Tryz.func71 rfl (by decide) Tryz.ntmps71 (Nat.le_of_ble_eq_true rfl) fun base => ?_
  refine W.rs (cx_ok _) (by rfl) fun K hK => ?_
  conv => whnf
  refine hK _ ?_
  clear hK K
  refine W.seqK fun K1 hK1 => W.block (W.invE (fun m e => ∃ a' b' : Nat, a' ≤ 1000000000 ∧ b' ≤ 1000000000 ∧ Nat.gcd a' b' = Nat.gcd a b ∧ m = b' ∧ e = [(0, .v (.int .i64 a')), (1, .v (.int .i64 b'))]) _ _ (⟨a, b, ha, hb, rfl, rfl, rfl⟩) (by dsimp only; omega) (by repeat' first | refine And.intro ?_ ?_ | exact trivial | rfl | omega | exact .inl rfl | exact fun _ _ => rfl | exact fun _ _ h => h | assumption | exact fun i hi => (by obtain rfl : i = 0 := (by omega); rfl)) ?_)
  rintro m e ⟨a', b', h1, h2, h3, hm, rfl⟩
  refine W.seqK fun K7 hK7 => W.rs (cx_ok _) (by rfl) fun K hK => ?_
  conv => whnf
  refine hK _ (W.cond ⟨fun h => ?_, fun h => ?_⟩) <;> clear hK K <;> (first | replace h := of_decide_eq_true h | replace h := of_decide_eq_false h)
  · have hb0 : 0 < b' := by omega
    have hmod := Nat.mod_lt a' hb0
    refine W.skip (hK7 _ (W.block ?_))
    clear hK7 K7
    refine W.draw (cx_ok _) follows (by rfl) ?_
    conv => whnf
    refine ⟨by omega, ?_⟩
    conv => whnf
    rw [tmod_nat]
    refine ⟨_, _, ⟨b', a' % b', by omega, by omega, by rw [← h3, Nat.gcd_comm a' b', Nat.gcd_rec b' a', Nat.gcd_comm], rfl, rfl⟩, by omega, by dsimp only; omega, ?_⟩
    repeat' first | refine And.intro ?_ ?_ | exact trivial | rfl | omega | exact .inl rfl | exact fun _ _ => rfl | exact fun _ _ h => h | assumption | exact fun i hi => (by obtain rfl : i = 0 := (by omega); rfl)
  · obtain rfl : b' = 0 := by omega
    rw [Nat.gcd_zero_right] at h3
    subst h3
    refine W.exit (hK1 _ ?_)
    clear hK7 K7 hK1 K1
    refine W.rs (cx_ok _) (by rfl) fun K hK => ?_
    conv => whnf
    refine callV rfl (abs_fn (Nat.gcd a b) h1) fun hs' hhs => ?_
    try dsimp only at hhs
    conv => whnf
    refine hK _ ?_
    clear hK K
    refine W.ret ?_
    conv => whnf
    exact ⟨.v (.int .i64 (Nat.gcd a b)), ⟨rfl, rfl⟩, trivial, rfl⟩
theorem l01Gcd_fn (a b : Nat) (ha : a ≤ 1000000000) (hb : b ≤ 1000000000) : FnV 44 [.int .i64 a, .int .i64 b] (.int .i64 (Nat.gcd a b)) := by
  refine fn_of (cx_ok [0, 1, 4, 10]) Tryz.func44 rfl (by decide) Tryz.ntmps44 (Nat.le_of_ble_eq_true rfl) fun base => ?_
  refine W.rs (cx_ok _) (by rfl) fun K hK => ?_
  conv => whnf
  refine hK _ ?_
  clear hK K
  refine W.rs (cx_ok _) (by rfl) fun K hK => ?_
  conv => whnf
  refine callV rfl (l01Abs_fn a ha) fun hs' hhs => ?_
  try dsimp only at hhs
  conv => whnf
  refine callV rfl (l01Abs_fn b hb) fun hs' hhs => ?_
  try dsimp only at hhs
  conv => whnf
  refine hK _ ?_
  clear hK K
  refine W.seqK fun K1 hK1 => W.block (W.invE (fun m e => ∃ a' b' : Nat, a' ≤ 1000000000 ∧ b' ≤ 1000000000 ∧ Nat.gcd a' b' = Nat.gcd a b ∧ m = b' ∧ e = [(0, .v (.int .i64 a')), (1, .v (.int .i64 b'))]) _ _ (⟨a, b, ha, hb, rfl, rfl, rfl⟩) (by dsimp only; omega) (by repeat' first | refine And.intro ?_ ?_ | exact trivial | rfl | omega | exact .inl rfl | exact fun _ _ => rfl | exact fun _ _ h => h | assumption | exact fun i hi => (by obtain rfl : i = 0 := (by omega); rfl)) ?_)
  rintro m e ⟨a', b', h1, h2, h3, hm, rfl⟩
  refine W.seqK fun K7 hK7 => W.rs (cx_ok _) (by rfl) fun K hK => ?_
  conv => whnf
  refine hK _ (W.cond ⟨fun h => ?_, fun h => ?_⟩) <;> clear hK K <;> (first | replace h := of_decide_eq_true h | replace h := of_decide_eq_false h)
  · have hb0 : 0 < b' := by omega
    have hmod := Nat.mod_lt a' hb0
    refine W.skip (hK7 _ (W.block ?_))
    clear hK7 K7
    refine W.draw (cx_ok _) follows (by rfl) ?_
    conv => whnf
    refine ⟨by omega, ?_⟩
    conv => whnf
    rw [tmod_nat]
    refine ⟨_, _, ⟨b', a' % b', by omega, by omega, by rw [← h3, Nat.gcd_comm a' b', Nat.gcd_rec b' a', Nat.gcd_comm], rfl, rfl⟩, by omega, by dsimp only; omega, ?_⟩
    repeat' first | refine And.intro ?_ ?_ | exact trivial | rfl | omega | exact .inl rfl | exact fun _ _ => rfl | exact fun _ _ h => h | assumption | exact fun i hi => (by obtain rfl : i = 0 := (by omega); rfl)
  · obtain rfl : b' = 0 := by omega
    rw [Nat.gcd_zero_right] at h3
    subst h3
    refine W.exit (hK1 _ ?_)
    clear hK7 K7 hK1 K1
    refine W.rs (cx_ok _) (by rfl) fun K hK => ?_
    conv => whnf
    refine hK _ ?_
    clear hK K
    refine W.ret ?_
    conv => whnf
    exact ⟨.v (.int .i64 (Nat.gcd a b)), ⟨rfl, rfl⟩, trivial, rfl⟩

end Go.Proofs.YtaiahdeegchobaaGreat

namespace Go.Proofs.YtaiahdeegchobaaGreat
open Go Go.RowKit Go.Proofs Poly
set_option maxRecDepth 100000
set_option maxHeartbeats 8000000

theorem exponent_fn (p n : Int) (g : Option Nat) (l : List Int) (hl : l.length ≤ 1000000000) : FnV 69 [vK p g l, .int .i64 n] (.bool (bP (IsFld p l ∧ 1 ≤ n ∧ n ≤ p ^ (l.length - 1) - 1))) := by
  by_cases hk : IsFld p l
  case neg =>
    refine fn_of (cx_ok [0, 1, 2, 4]) Tryz.func69 rfl (by decide) Tryz.ntmps69 (Nat.le_of_ble_eq_true rfl) fun base => ?_
    refine W.rs (cx_ok _) (by rfl) fun K hK => ?_
    conv => whnf
    refine ⟨rfl, ?_⟩
    conv => whnf
    intro b_1 hs_1 hh_1 hf_1
    try dsimp only at hh_1 hf_1
    conv => whnf
    refine hK _ ?_
    clear hK K
    refine W.rs (cx_ok _) (by rfl) fun K hK => ?_
    conv => whnf
    refine callV rfl ((isField_fn p g l hl).fa (bP_false hk)) fun hs' hhs => ?_
    try dsimp only at hhs
    conv => whnf
    refine hK _ ?_
    clear hK K
    refine W.ret ?_
    conv => whnf
    exact ⟨.v (.bool (bP (IsFld p l ∧ 1 ≤ n ∧ n ≤ p ^ (l.length - 1) - 1))), bP_false fun h => hk h.1, trivial, rfl⟩
  have hp1 := isP_le hk.mod.1
  have h9 := hk.mod.2.1
  have hl2 := hk.two
  have hb := pow_le_big (p := p) (by omega) (by omega) (k := l.length - 1) (by omega)
  have e1 : decide (1 ≤ n ∧ n ≤ p ^ (l.length - 1) - 1) = bP (IsFld p l ∧ 1 ≤ n ∧ n ≤ p ^ (l.length - 1) - 1) := by
    by_cases h : 1 ≤ n ∧ n ≤ p ^ (l.length - 1) - 1
    · rw [decide_eq_true h, bP_true ⟨hk, h⟩]
    · rw [decide_eq_false h, bP_false fun h' => h h'.2]
  refine fn_of (cx_ok [0, 1, 2, 4]) Tryz.func69 rfl (by decide) Tryz.ntmps69 (Nat.le_of_ble_eq_true rfl) fun base => ?_
  refine W.rs (cx_ok _) (by rfl) fun K hK => ?_
  conv => whnf
  refine ⟨rfl, ?_⟩
  conv => whnf
  intro b_1 hs_1 hh_1 hf_1
  try dsimp only at hh_1 hf_1
  conv => whnf
  refine hK _ ?_
  clear hK K
  refine W.rs (cx_ok _) (by rfl) fun K hK => ?_
  conv => whnf
  refine callV rfl ((isField_fn p g l hl).tr (bP_true hk)) fun hs' hhs => ?_
  try dsimp only at hhs
  conv => whnf
  refine callV rfl (order_fn p g l (by omega) (by omega) (by omega) (by omega)) fun hs' hhs => ?_
  try dsimp only at hhs
  conv => whnf
  refine ⟨by constructor <;> omega, ?_⟩
  conv => whnf
  refine callV rfl (within_fn n 1 (p ^ (l.length - 1) - 1)) fun hs' hhs => ?_
  try dsimp only at hhs
  conv => whnf
  refine hK _ ?_
  clear hK K
  refine W.ret ?_
  conv => whnf
  exact ⟨.v (.bool (bP (IsFld p l ∧ 1 ≤ n ∧ n ≤ p ^ (l.length - 1) - 1))), e1, trivial, rfl⟩

/-- the code of a field, an element other than 0 and an exponent -/
noncomputable def codeEx (p : Int) (l x : List Int) (n : Int) : Int :=
  if code1 p l x = 0 then (if 1 ≤ n ∧ n ≤ p ^ (l.length - 1) - 1 then (if x = [] then 5 else 0) else 2) else code1 p l x

theorem l19Code_fn (p n : Int) (g g1 : Option Nat) (l x : List Int) (hl : l.length ≤ 1000000000) (hx : x.length ≤ 1000000000) : FnV 67 [vK p g l, .ints g1 x, .int .i64 n] (.int .i64 (codeEx p l x n)) := by
  generalize hc : code1 p l x = c
  by_cases h0 : c = 0
  case neg =>
    have e9 : codeEx p l x n = c := by unfold codeEx; rw [hc, if_neg h0]
    refine fn_of (cx_ok [0, 1, 2, 3, 6, 7, 21, 28]) Tryz.func67 rfl (by decide) Tryz.ntmps67 (Nat.le_of_ble_eq_true rfl) fun base => ?_
    refine W.rs (cx_ok _) (by rfl) fun K hK => ?_
    conv => whnf
    refine ⟨rfl, ?_⟩
    conv => whnf
    intro b_1 hs_1 hh_1 hf_1
    try dsimp only at hh_1 hf_1
    conv => whnf
    refine hK _ ?_
    clear hK K
    refine W.rs (cx_ok _) (by rfl) fun K hK => ?_
    conv => whnf
    refine callV rfl (l17Code_one p g g1 g1 l x hl hx) fun hs' hhs => ?_
    try dsimp only at hhs
    conv => whnf
    rw [hc]
    refine hK _ ?_
    clear hK K
    refine W.seqK fun K1 hK1 => ?_
    refine W.rs (cx_ok _) (by rfl) fun K hK => ?_
    conv => whnf
    refine ⟨fun h => ?_, fun h => ?_⟩ <;> conv => whnf
    · exact absurd (of_decide_eq_true h) h0
    refine hK _ (W.condF rfl (W.skip (hK1 _ ?_)))
    clear hK K hK1 K1
    refine W.seqK fun K1 hK1 => ?_
    refine W.rs (cx_ok _) (by rfl) fun K hK => ?_
    conv => whnf
    refine ⟨fun h2 => ?_, fun h2 => ?_⟩ <;> conv => whnf
    · exact absurd (of_decide_eq_true h2) h0
    refine hK _ (W.condF rfl (W.skip (hK1 _ ?_)))
    clear hK K hK1 K1
    refine W.rs (cx_ok _) (by rfl) fun K hK => ?_
    conv => whnf
    refine hK _ ?_
    clear hK K
    refine W.ret ?_
    conv => whnf
    exact ⟨.v (.int .i64 (codeEx p l x n)), ⟨rfl, e9.symm⟩, trivial, rfl⟩
  subst h0
  obtain ⟨hk, hh⟩ := code1_ok hc
  have hp1 := isP_le hk.mod.1
  have h9 := hk.mod.2.1
  have hl2 := hk.two
  have hb := pow_le_big (p := p) (by omega) (by omega) (k := l.length - 1) (by omega)
  by_cases hr : 1 ≤ n ∧ n ≤ p ^ (l.length - 1) - 1
  case neg =>
    have e9 : codeEx p l x n = 2 := by unfold codeEx; rw [hc, if_pos rfl, if_neg hr]
    refine fn_of (cx_ok [0, 1, 2, 3, 6, 7, 21, 28]) Tryz.func67 rfl (by decide) Tryz.ntmps67 (Nat.le_of_ble_eq_true rfl) fun base => ?_
    refine W.rs (cx_ok _) (by rfl) fun K hK => ?_
    conv => whnf
    refine ⟨rfl, ?_⟩
    conv => whnf
    intro b_1 hs_1 hh_1 hf_1
    try dsimp only at hh_1 hf_1
    conv => whnf
    refine hK _ ?_
    clear hK K
    refine W.rs (cx_ok _) (by rfl) fun K hK => ?_
    conv => whnf
    refine callV rfl (l17Code_one p g g1 g1 l x hl hx) fun hs' hhs => ?_
    try dsimp only at hhs
    conv => whnf
    rw [hc]
    refine hK _ ?_
    clear hK K
    refine W.seqK fun K1 hK1 => ?_
    refine W.rs (cx_ok _) (by rfl) fun K hK => ?_
    conv => whnf
    refine ⟨fun h => ?_, fun h => ?_⟩ <;> conv => whnf
    · refine callV rfl (l17Size_fn p g l hk) fun hs' hhs => ?_
      try dsimp only at hhs
      conv => whnf
      refine ⟨by constructor <;> omega, ?_⟩
      conv => whnf
      refine callV rfl ((l01In_fn n 1 (p ^ (l.length - 1) - 1)).fa (decide_eq_false hr)) fun hs' hhs => ?_
      try dsimp only at hhs
      conv => whnf
      refine hK _ (W.condT rfl ?_)
      clear hK K
      refine W.region (cx_ok _) (by rfl) ?_
      conv => whnf
      refine hK1 _ ?_
      clear hK1 K1
      refine W.seqK fun K1 hK1 => ?_
      refine W.rs (cx_ok _) (by rfl) fun K hK => ?_
      conv => whnf
      refine ⟨fun h2 => ?_, fun h2 => ?_⟩ <;> conv => whnf
      · exact absurd (of_decide_eq_true h2) (by decide)
      refine hK _ (W.condF rfl (W.skip (hK1 _ ?_)))
      clear hK K hK1 K1
      refine W.rs (cx_ok _) (by rfl) fun K hK => ?_
      conv => whnf
      refine hK _ ?_
      clear hK K
      refine W.ret ?_
      conv => whnf
      exact ⟨.v (.int .i64 (codeEx p l x n)), ⟨rfl, e9.symm⟩, trivial, rfl⟩
    · exact absurd rfl (of_decide_eq_false h)
  have e9 : codeEx p l x n = if x = [] then 5 else 0 := by unfold codeEx; rw [hc, if_pos rfl, if_pos hr]
  refine fn_of (cx_ok [0, 1, 2, 3, 6, 7, 21, 28]) Tryz.func67 rfl (by decide) Tryz.ntmps67 (Nat.le_of_ble_eq_true rfl) fun base => ?_
  refine W.rs (cx_ok _) (by rfl) fun K hK => ?_
  conv => whnf
  refine ⟨rfl, ?_⟩
  conv => whnf
  intro b_1 hs_1 hh_1 hf_1
  try dsimp only at hh_1 hf_1
  conv => whnf
  refine hK _ ?_
  clear hK K
  refine W.rs (cx_ok _) (by rfl) fun K hK => ?_
  conv => whnf
  refine callV rfl (l17Code_one p g g1 g1 l x hl hx) fun hs' hhs => ?_
  try dsimp only at hhs
  conv => whnf
  rw [hc]
  refine hK _ ?_
  clear hK K
  refine W.seqK fun K1 hK1 => ?_
  refine W.rs (cx_ok _) (by rfl) fun K hK => ?_
  conv => whnf
  refine ⟨fun h => ?_, fun h => ?_⟩ <;> conv => whnf
  · refine callV rfl (l17Size_fn p g l hk) fun hs' hhs => ?_
    try dsimp only at hhs
    conv => whnf
    refine ⟨by constructor <;> omega, ?_⟩
    conv => whnf
    refine callV rfl ((l01In_fn n 1 (p ^ (l.length - 1) - 1)).tr (decide_eq_true hr)) fun hs' hhs => ?_
    try dsimp only at hhs
    conv => whnf
    refine hK _ (W.condF rfl (W.skip (hK1 _ ?_)))
    clear hK K hK1 K1
    refine W.seqK fun K1 hK1 => ?_
    refine W.rs (cx_ok _) (by rfl) fun K hK => ?_
    conv => whnf
    refine ⟨fun h2 => ?_, fun h2 => ?_⟩ <;> conv => whnf
    · refine hK _ (W.cond ⟨fun h3 => ?_, fun h3 => ?_⟩) <;> clear hK K
      · have h3 := of_decide_eq_true h3
        have hx0 : x = [] := List.eq_nil_of_length_eq_zero (by omega)
        refine W.region (cx_ok _) (by rfl) ?_
        conv => whnf
        refine hK1 _ ?_
        clear hK1 K1
        refine W.rs (cx_ok _) (by rfl) fun K hK => ?_
        conv => whnf
        refine hK _ ?_
        clear hK K
        refine W.ret ?_
        conv => whnf
        exact ⟨.v (.int .i64 (codeEx p l x n)), ⟨rfl, by rw [e9, if_pos hx0]⟩, trivial, rfl⟩
      · have h3 := of_decide_eq_false h3
        have hx0 : x ≠ [] := fun e => h3 (by rw [e]; rfl)
        refine W.skip (hK1 _ ?_)
        clear hK1 K1
        refine W.rs (cx_ok _) (by rfl) fun K hK => ?_
        conv => whnf
        refine hK _ ?_
        clear hK K
        refine W.ret ?_
        conv => whnf
        exact ⟨.v (.int .i64 (codeEx p l x n)), ⟨rfl, by rw [e9, if_neg hx0]⟩, trivial, rfl⟩
    · exact absurd rfl (of_decide_eq_false h2)
  · exact absurd rfl (of_decide_eq_false h)


theorem IsPowerOf_both (kp : Int) (kl x : List Int) (n : Int) (_ : inR kp) (_ : inR n) (hkl : kl.length ≤ 1048576) (hx : x.length ≤ 1048576) : ∃ (r0 : Bool) (r1 : Int),
    (∀ g0 g1 : Option Nat, FnV 33 [vK kp g0 kl, .ints g1 x, .int .i64 n] (.tup [.bool r0, .int .i64 r1])) ∧ (∀ g0 g1 : Option Nat, FnV 34 [vK kp g0 kl, .ints g1 x, .int .i64 n] (.tup [.bool r0, .int .i64 r1])) := by
  generalize hc : code1 kp kl x = c
  by_cases h0 : c = 0
  case neg =>
    have e9 : codeEx kp kl x n = c := by unfold codeEx; rw [hc, if_neg h0]
    refine ⟨false, c, fun g0 g1 => ?_, fun g0 g1 => ?_⟩
    · refine fn_of (cx_ok [0, 1, 2, 3, 6, 7, 8, 9, 15]) Tryz.func33 rfl (by decide) Tryz.ntmps33 (Nat.le_of_ble_eq_true rfl) fun base => ?_
      refine W.rs (cx_ok _) (by rfl) fun K hK => ?_
      conv => whnf
      refine ⟨rfl, ?_⟩
      conv => whnf
      intro b_1 hs_1 hh_1 hf_1
      try dsimp only at hh_1 hf_1
      conv => whnf
      refine hK _ ?_
      clear hK K
      refine W.rs (cx_ok _) (by rfl) fun K hK => ?_
      conv => whnf
      refine callV rfl (l19Code_fn kp n g0 g1 kl x (by omega) (by omega)) fun hs' hhs => ?_
      try dsimp only at hhs
      conv => whnf
      rw [e9]
      refine hK _ ?_
      clear hK K
      refine W.seqK fun K1 hK1 => ?_
      refine W.rs (cx_ok _) (by rfl) fun K hK => ?_
      conv => whnf
      refine hK _ (W.cond ⟨fun _ => ?_, fun hcc => absurd h0 (of_decide_eq_false hcc)⟩)
      clear hK K
      refine W.rs (cx_ok _) (by rfl) fun K hK => ?_
      conv => whnf
      refine hK _ ?_
      clear hK K
      refine W.ret ?_
      conv => whnf
      exact ⟨.v (.bool false), rfl, trivial, .v (.int .i64 c), ⟨rfl, rfl⟩, trivial, rfl⟩
    · refine fn_of (cx_ok [0, 1, 2, 3, 6, 7, 8, 17, 21]) Tryz.func34 rfl (by decide) Tryz.ntmps34 (Nat.le_of_ble_eq_true rfl) fun base => ?_
      refine W.rs (cx_ok _) (by rfl) fun K hK => ?_
      conv => whnf
      refine ⟨rfl, ?_⟩
      conv => whnf
      intro b_1 hs_1 hh_1 hf_1
      try dsimp only at hh_1 hf_1
      conv => whnf
      refine hK _ ?_
      clear hK K
      refine W.seqK fun K1 hK1 => ?_
      refine W.rd (cx_ok _) follows (by rfl) fun K hK => ?_
      conv => whnf
      refine ⟨_, cxF (exponent_fn kp n g0 kl (by omega)), ?_⟩
      conv => whnf
      refine ⟨⟨rfl, by decide, fun x hx => (by simp at hx; subst hx; exact ⟨rfl, rfl⟩)⟩, ?_⟩
      conv => whnf
      refine ⟨_, cxF (elements_bool kp g0 none kl _ 1 _ (fun _ => x) (by omega) (by omega) (els1 g1 x)), ?_⟩
      conv => whnf
      rw [codeB_bad hc h0]
      refine hK _ ?_
      clear hK K
      refine W.rs (cx_ok _) (by rfl) fun K hK => ?_
      conv => whnf
      refine hK _ (W.cond ⟨fun _ => ?_, fun hcc => absurd h0 (of_decide_eq_false hcc)⟩)
      clear hK K
      refine W.rs (cx_ok _) (by rfl) fun K hK => ?_
      conv => whnf
      refine hK _ ?_
      clear hK K
      refine W.ret ?_
      conv => whnf
      exact ⟨.v (.bool false), rfl, trivial, .v (.int .i64 c), ⟨rfl, rfl⟩, trivial, rfl⟩
  subst h0
  by_cases hr : 1 ≤ n ∧ n ≤ kp ^ (kl.length - 1) - 1
  case neg =>
    have e9 : codeEx kp kl x n = 2 := by unfold codeEx; rw [hc, if_pos rfl, if_neg hr]
    refine ⟨false, 2, fun g0 g1 => ?_, fun g0 g1 => ?_⟩
    · refine fn_of (cx_ok [0, 1, 2, 3, 6, 7, 8, 9, 15]) Tryz.func33 rfl (by decide) Tryz.ntmps33 (Nat.le_of_ble_eq_true rfl) fun base => ?_
      refine W.rs (cx_ok _) (by rfl) fun K hK => ?_
      conv => whnf
      refine ⟨rfl, ?_⟩
      conv => whnf
      intro b_1 hs_1 hh_1 hf_1
      try dsimp only at hh_1 hf_1
      conv => whnf
      refine hK _ ?_
      clear hK K
      refine W.rs (cx_ok _) (by rfl) fun K hK => ?_
      conv => whnf
      refine callV rfl (l19Code_fn kp n g0 g1 kl x (by omega) (by omega)) fun hs' hhs => ?_
      try dsimp only at hhs
      conv => whnf
      rw [e9]
      refine hK _ ?_
      clear hK K
      refine W.seqK fun K1 hK1 => ?_
      refine W.rs (cx_ok _) (by rfl) fun K hK => ?_
      conv => whnf
      refine hK _ (W.cond ⟨fun _ => ?_, fun hcc => absurd (by decide : (2 : Int) ≠ 0) (of_decide_eq_false hcc)⟩)
      clear hK K
      refine W.rs (cx_ok _) (by rfl) fun K hK => ?_
      conv => whnf
      refine hK _ ?_
      clear hK K
      refine W.ret ?_
      conv => whnf
      exact ⟨.v (.bool false), rfl, trivial, .v (.int .i64 2), ⟨rfl, rfl⟩, trivial, rfl⟩
    · refine fn_of (cx_ok [0, 1, 2, 3, 6, 7, 8, 17, 21]) Tryz.func34 rfl (by decide) Tryz.ntmps34 (Nat.le_of_ble_eq_true rfl) fun base => ?_
      refine W.rs (cx_ok _) (by rfl) fun K hK => ?_
      conv => whnf
      refine ⟨rfl, ?_⟩
      conv => whnf
      intro b_1 hs_1 hh_1 hf_1
      try dsimp only at hh_1 hf_1
      conv => whnf
      refine hK _ ?_
      clear hK K
      refine W.seqK fun K1 hK1 => ?_
      refine W.rd (cx_ok _) follows (by rfl) fun K hK => ?_
      conv => whnf
      refine ⟨_, cxF (exponent_fn kp n g0 kl (by omega)), ?_⟩
      conv => whnf
      refine ⟨⟨rfl, by decide, fun x hx => (by simp at hx; subst hx; exact ⟨rfl, rfl⟩)⟩, ?_⟩
      conv => whnf
      refine ⟨_, cxF (elements_bool kp g0 none kl _ 1 _ (fun _ => x) (by omega) (by omega) (els1 g1 x)), ?_⟩
      conv => whnf
      rw [codeB_two hc (bP_false fun h => hr h.2)]
      refine hK _ ?_
      clear hK K
      refine W.rs (cx_ok _) (by rfl) fun K hK => ?_
      conv => whnf
      refine hK _ (W.cond ⟨fun _ => ?_, fun hcc => absurd (by decide : (2 : Int) ≠ 0) (of_decide_eq_false hcc)⟩)
      clear hK K
      refine W.rs (cx_ok _) (by rfl) fun K hK => ?_
      conv => whnf
      refine hK _ ?_
      clear hK K
      refine W.ret ?_
      conv => whnf
      exact ⟨.v (.bool false), rfl, trivial, .v (.int .i64 2), ⟨rfl, rfl⟩, trivial, rfl⟩
  have e8 : codeEx kp kl x n = if x = [] then 5 else 0 := by unfold codeEx; rw [hc, if_pos rfl, if_pos hr]
  obtain ⟨hk, hh⟩ := code1_ok hc
  obtain ⟨hp, f, rfl, hfi, _, _, hf9⟩ := fld_poly hk
  letI := sp_of hp
  obtain ⟨X, rfl⟩ := mod_poly hh.1
  have hxl : X.l.length < f.l.length := hh.2
  have hfl : f.l.length = dg f := rfl
  have hXl : X.l.length = dg X := rfl
  have hf0 := hfi.ne
  have hp1 := primes_le hp
  by_cases hX0 : X = 0
  case pos =>
    have hX1 : dg X = 0 := dg_eq_zero.2 hX0
    have e9 : codeEx kp f.l X.l n = 5 := by rw [e8, if_pos (List.eq_nil_of_length_eq_zero (by omega))]
    refine ⟨false, 5, fun g0 g1 => ?_, fun g0 g1 => ?_⟩
    · refine fn_of (cx_ok [0, 1, 2, 3, 6, 7, 8, 9, 15]) Tryz.func33 rfl (by decide) Tryz.ntmps33 (Nat.le_of_ble_eq_true rfl) fun base => ?_
      refine W.rs (cx_ok _) (by rfl) fun K hK => ?_
      conv => whnf
      refine ⟨rfl, ?_⟩
      conv => whnf
      intro b_1 hs_1 hh_1 hf_1
      try dsimp only at hh_1 hf_1
      conv => whnf
      refine hK _ ?_
      clear hK K
      refine W.rs (cx_ok _) (by rfl) fun K hK => ?_
      conv => whnf
      refine callV rfl (l19Code_fn kp n g0 g1 f.l X.l (by omega) (by omega)) fun hs' hhs => ?_
      try dsimp only at hhs
      conv => whnf
      rw [e9]
      refine hK _ ?_
      clear hK K
      refine W.seqK fun K1 hK1 => ?_
      refine W.rs (cx_ok _) (by rfl) fun K hK => ?_
      conv => whnf
      refine hK _ (W.cond ⟨fun _ => ?_, fun hcc => absurd (by decide : (5 : Int) ≠ 0) (of_decide_eq_false hcc)⟩)
      clear hK K
      refine W.rs (cx_ok _) (by rfl) fun K hK => ?_
      conv => whnf
      refine hK _ ?_
      clear hK K
      refine W.ret ?_
      conv => whnf
      exact ⟨.v (.bool false), rfl, trivial, .v (.int .i64 5), ⟨rfl, rfl⟩, trivial, rfl⟩
    · refine fn_of (cx_ok [0, 1, 2, 3, 6, 7, 8, 17, 21]) Tryz.func34 rfl (by decide) Tryz.ntmps34 (Nat.le_of_ble_eq_true rfl) fun base => ?_
      refine W.rs (cx_ok _) (by rfl) fun K hK => ?_
      conv => whnf
      refine ⟨rfl, ?_⟩
      conv => whnf
      intro b_1 hs_1 hh_1 hf_1
      try dsimp only at hh_1 hf_1
      conv => whnf
      refine hK _ ?_
      clear hK K
      refine W.seqK fun K1 hK1 => ?_
      refine W.rd (cx_ok _) follows (by rfl) fun K hK => ?_
      conv => whnf
      refine ⟨_, cxF (exponent_fn kp n g0 f.l (by omega)), ?_⟩
      conv => whnf
      refine ⟨⟨rfl, by decide, fun x hx => (by simp at hx; subst hx; exact ⟨rfl, rfl⟩)⟩, ?_⟩
      conv => whnf
      refine ⟨_, cxF (elements_bool kp g0 none f.l _ 1 _ (fun _ => X.l) (by omega) (by omega) (els1 g1 X.l)), ?_⟩
      conv => whnf
      rw [codeB_ok hc (bP_true ⟨hk, hr⟩)]
      refine hK _ ?_
      clear hK K
      refine W.rs (cx_ok _) (by rfl) fun K hK => ?_
      conv => whnf
      refine hK _ (W.cond ⟨fun hcc => absurd rfl (of_decide_eq_true hcc), fun _ => W.skip (hK1 _ ?_)⟩)
      clear hK K hK1 K1
      refine W.seqK fun K1 hK1 => ?_
      refine W.rs (cx_ok _) (by rfl) fun K hK => ?_
      conv => whnf
      refine hK _ (W.cond ⟨fun _ => ?_, fun h4 => absurd (of_decide_eq_false h4) (by omega)⟩)
      clear hK K
      refine W.rs (cx_ok _) (by rfl) fun K hK => ?_
      conv => whnf
      refine hK _ ?_
      clear hK K
      refine W.ret ?_
      conv => whnf
      exact ⟨.v (.bool false), rfl, trivial, .v (.int .i64 5), ⟨rfl, rfl⟩, trivial, rfl⟩
  have hX1 : dg X ≠ 0 := fun e => hX0 (dg_eq_zero.1 e)
  have e9 : codeEx kp f.l X.l n = 0 := by rw [e8, if_neg fun e => hX1 (by rw [← hXl, e]; rfl)]
  obtain ⟨d, hd⟩ : ∃ d, dg f = d + 1 := ⟨dg f - 1, by have := hfi.1; omega⟩
  obtain ⟨hq1, hq2, hq3⟩ := fld_q hk hd
  rw [hq1] at hr
  generalize kp.toNat ^ d = q at hq1 hq2 hq3 hr
  obtain ⟨n, rfl⟩ : ∃ k : Nat, n = k := ⟨n.toNat, by omega⟩
  have hqi : ((q : Nat) : Int) - 1 = ((q - 1 : Nat) : Int) := by omega
  have hg0 : 0 < Nat.gcd n (q - 1) := Nat.gcd_pos_of_pos_left _ (by omega)
  have hgc : Nat.gcd (q - 1) n = Nat.gcd n (q - 1) := Nat.gcd_comm _ _
  have hdiv := Nat.div_le_self (q - 1) (Nat.gcd n (q - 1))
  obtain ⟨v, hv⟩ : ∃ v, (q - 1) / Nat.gcd n (q - 1) = v := ⟨_, rfl⟩
  rw [hv] at hdiv
  refine ⟨decide ((rem (X ^ v) f).l = [1]), 0, fun g0 g1 => ?_, fun g0 g1 => ?_⟩
  · refine fn_of (cx_ok [0, 1, 2, 3, 6, 7, 8, 9, 15]) Tryz.func33 rfl (by decide) Tryz.ntmps33 (Nat.le_of_ble_eq_true rfl) fun base => ?_
    refine W.rs (cx_ok _) (by rfl) fun K hK => ?_
    conv => whnf
    refine ⟨rfl, ?_⟩
    conv => whnf
    intro b_1 hs_1 hh_1 hf_1
    try dsimp only at hh_1 hf_1
    conv => whnf
    refine hK _ ?_
    clear hK K
    refine W.rs (cx_ok _) (by rfl) fun K hK => ?_
    conv => whnf
    refine callV rfl (l19Code_fn kp n g0 g1 f.l X.l (by omega) (by omega)) fun hs' hhs => ?_
    try dsimp only at hhs
    conv => whnf
    rw [e9]
    refine hK _ ?_
    clear hK K
    refine W.seqK fun K1 hK1 => ?_
    refine W.rs (cx_ok _) (by rfl) fun K hK => ?_
    conv => whnf
    refine hK _ (W.cond ⟨fun hcc => absurd rfl (of_decide_eq_true hcc), fun _ => W.skip (hK1 _ ?_)⟩)
    clear hK K hK1 K1
    refine W.rs (cx_ok _) (by rfl) fun K hK => ?_
    conv => whnf
    refine callV rfl (l17Size_fn kp g0 f.l hk) fun hs' hhs => ?_
    try dsimp only at hhs
    conv => whnf
    rw [hq1]
    refine ⟨by constructor <;> omega, ?_⟩
    conv => whnf
    rw [hqi]
    refine hK _ ?_
    clear hK K
    refine W.rd (cx_ok _) follows (by rfl) fun K hK => ?_
    conv => whnf
    refine ⟨_, cxF (l01Gcd_fn (q - 1) n (by omega) (by omega)), ?_⟩
    conv => whnf
    rw [hgc]
    refine ⟨by omega, ?_⟩
    conv => whnf
    rw [tdiv_nat, hv]
    refine ⟨by constructor <;> omega, ?_⟩
    conv => whnf
    refine ⟨_, cxF (l17Power_fn kp g0 g1 f X v (by omega) (by omega) (by omega) hf0), ?_⟩
    conv => whnf
    refine ⟨_, cxF (l17One_fn none (rem (X ^ v) f).l), ?_⟩
    conv => whnf
    refine hK _ ?_
    clear hK K
    refine W.ret ?_
    conv => whnf
    exact ⟨.v (.bool (decide ((rem (X ^ v) f).l = [1]))), rfl, trivial, .v (.int .i64 0), ⟨rfl, rfl⟩, trivial, rfl⟩
  · refine fn_of (cx_ok [0, 1, 2, 3, 6, 7, 8, 17, 21]) Tryz.func34 rfl (by decide) Tryz.ntmps34 (Nat.le_of_ble_eq_true rfl) fun base => ?_
    refine W.rs (cx_ok _) (by rfl) fun K hK => ?_
    conv => whnf
    refine ⟨rfl, ?_⟩
    conv => whnf
    intro b_1 hs_1 hh_1 hf_1
    try dsimp only at hh_1 hf_1
    conv => whnf
    refine hK _ ?_
    clear hK K
    refine W.seqK fun K1 hK1 => ?_
    refine W.rd (cx_ok _) follows (by rfl) fun K hK => ?_
    conv => whnf
    refine ⟨_, cxF (exponent_fn kp n g0 f.l (by omega)), ?_⟩
    conv => whnf
    refine ⟨⟨rfl, by decide, fun x hx => (by simp at hx; subst hx; exact ⟨rfl, rfl⟩)⟩, ?_⟩
    conv => whnf
    refine ⟨_, cxF (elements_bool kp g0 none f.l _ 1 _ (fun _ => X.l) (by omega) (by omega) (els1 g1 X.l)), ?_⟩
    conv => whnf
    rw [codeB_ok hc (bP_true ⟨hk, by rw [hq1]; exact hr⟩)]
    refine hK _ ?_
    clear hK K
    refine W.rs (cx_ok _) (by rfl) fun K hK => ?_
    conv => whnf
    refine hK _ (W.cond ⟨fun hcc => absurd rfl (of_decide_eq_true hcc), fun _ => W.skip (hK1 _ ?_)⟩)
    clear hK K hK1 K1
    refine W.seqK fun K1 hK1 => ?_
    refine W.rs (cx_ok _) (by rfl) fun K hK => ?_
    conv => whnf
    refine hK _ (W.cond ⟨fun h4 => absurd (of_decide_eq_true h4) (by omega), fun _ => W.skip (hK1 _ ?_)⟩)
    clear hK K hK1 K1
    refine W.rd (cx_ok _) follows (by rfl) fun K hK => ?_
    conv => whnf
    refine ⟨_, cxF (order_fn kp g0 f.l (by omega) (by omega) (by omega) (by omega)), ?_⟩
    conv => whnf
    rw [hq1]
    refine ⟨by constructor <;> omega, ?_⟩
    conv => whnf
    rw [hqi]
    refine ⟨_, cxF (order_fn kp g0 f.l (by omega) (by omega) (by omega) (by omega)), ?_⟩
    conv => whnf
    rw [hq1]
    refine ⟨by constructor <;> omega, ?_⟩
    conv => whnf
    rw [hqi]
    refine ⟨_, cxF (gcd_fn n (q - 1) (by omega) (by omega)), ?_⟩
    conv => whnf
    refine ⟨by omega, ?_⟩
    conv => whnf
    rw [tdiv_nat, hv]
    refine ⟨by constructor <;> omega, ?_⟩
    conv => whnf
    refine ⟨_, cxF (kPower_fn kp g0 g1 f X v (by omega) (by omega) (by omega) hf0), ?_⟩
    conv => whnf
    refine ⟨_, cxF (isOne_fn none (rem (X ^ v) f).l), ?_⟩
    conv => whnf
    refine hK _ ?_
    clear hK K
    refine W.ret ?_
    conv => whnf
    exact ⟨.v (.bool (decide ((rem (X ^ v) f).l = [1]))), rfl, trivial, .v (.int .i64 0), ⟨rfl, rfl⟩, trivial, rfl⟩

/- how many are primitive -/
/-- the count behind the first i prime powers -/
def phiT (n : Nat) (L : List (Nat × Nat)) (i : Nat) : Nat := (L.take i).foldl (fun c x => c / x.1 * (x.1 - 1)) n
theorem phiT_succ (n : Nat) {L : List (Nat × Nat)} {i : Nat} (h : i < L.length) : phiT n L (i + 1) = phiT n L i / L[i].1 * (L[i].1 - 1) := by
  unfold phiT
  rw [List.take_succ_eq_append_getElem h, List.foldl_append]; rfl
theorem phiT_le (n : Nat) (L : List (Nat × Nat)) : ∀ i, i ≤ L.length → phiT n L i ≤ n
  | 0, _ => Nat.le_refl _
  | i + 1, h => by
    rw [phiT_succ n (by omega)]
    have h1 := phiT_le n L i (by omega)
    have h2 : phiT n L i / L[i].1 * (L[i].1 - 1) ≤ phiT n L i / L[i].1 * L[i].1 := Nat.mul_le_mul_left _ (by omega)
    have h3 := Nat.div_mul_le_self (phiT n L i) L[i].1
    omega

theorem CountPrimitive_both (kp : Int) (kl : List Int) (_ : inR kp) (hkl : kl.length ≤ 1048576) : ∃ r0 r1 : Int, (∀ g0 : Option Nat, FnV 14 [vK kp g0 kl] (.tup [.int .i64 r0, .int .i64 r1])) ∧ (∀ g0 : Option Nat, FnV 16 [vK kp g0 kl] (.tup [.int .i64 r0, .int .i64 r1])) := by
  by_cases hk : IsFld kp kl
  case neg =>
    have hc : codeEl kp kl true 0 (fun _ => []) = 1 := by unfold codeEl; rw [bP_false hk]; rfl
    refine ⟨0, 1, fun g0 => ?_, fun g0 => ?_⟩
    · refine fn_of (cx_ok [0, 1, 2, 3, 4, 5, 6, 9, 15, 21]) Tryz.func14 rfl (by decide) Tryz.ntmps14 (Nat.le_of_ble_eq_true rfl) fun base => ?_
      refine W.rs (cx_ok _) (by rfl) fun K hK => ?_
      conv => whnf
      refine ⟨rfl, ?_⟩
      conv => whnf
      intro b_1 hs_1 hh_1 hf_1
      try dsimp only at hh_1 hf_1
      conv => whnf
      refine hK _ ?_
      clear hK K
      refine W.seqK fun K1 hK1 => ?_
      refine W.rs (cx_ok _) (by rfl) fun K hK => ?_
      conv => whnf
      refine callV rfl ((isFieldS_fn kp g0 kl (by omega)).fa (bP_false hk)) fun hs' hhs => ?_
      try dsimp only at hhs
      conv => whnf
      refine hK _ (W.condT rfl ?_)
      clear hK K
      refine W.rs (cx_ok _) (by rfl) fun K hK => ?_
      conv => whnf
      refine hK _ ?_
      clear hK K
      refine W.ret ?_
      conv => whnf
      exact ⟨.v (.int .i64 0), ⟨rfl, rfl⟩, trivial, .v (.int .i64 1), ⟨rfl, rfl⟩, trivial, rfl⟩
    · refine fn_of (cx_ok [0, 1, 2, 3, 4, 5, 7, 11, 19, 20, 21, 22]) Tryz.func16 rfl (by decide) Tryz.ntmps16 (Nat.le_of_ble_eq_true rfl) fun base => ?_
      refine W.rs (cx_ok _) (by rfl) fun K hK => ?_
      conv => whnf
      refine ⟨rfl, ?_⟩
      conv => whnf
      intro b_1 hs_1 hh_1 hf_1
      try dsimp only at hh_1 hf_1
      conv => whnf
      refine hK _ ?_
      clear hK K
      refine W.seqK fun K1 hK1 => ?_
      refine W.rs (cx_ok _) (by rfl) fun K hK => ?_
      conv => whnf
      refine callV rfl (elements_tr kp g0 none kl 0 _ (fun _ => []) (by omega) (by omega) (fun i hi => by omega)) fun hs' hhs => ?_
      try dsimp only at hhs
      conv => whnf
      rw [hc]
      refine hK _ ?_
      clear hK K
      refine W.rs (cx_ok _) (by rfl) fun K hK => ?_
      conv => whnf
      refine hK _ (W.cond ⟨fun _ => ?_, fun hcc => absurd (by decide : (1 : Int) ≠ 0) (of_decide_eq_false hcc)⟩)
      clear hK K
      refine W.rs (cx_ok _) (by rfl) fun K hK => ?_
      conv => whnf
      refine hK _ ?_
      clear hK K
      refine W.ret ?_
      conv => whnf
      exact ⟨.v (.int .i64 0), ⟨rfl, rfl⟩, trivial, .v (.int .i64 1), ⟨rfl, rfl⟩, trivial, rfl⟩
  have hc : codeEl kp kl true 0 (fun _ => []) = 0 := by unfold codeEl; rw [bP_true hk, bP_true (fun i hi => by omega)]; rfl
  obtain ⟨hp, f, rfl, hi, _, _, hf9⟩ := fld_poly hk
  letI := sp_of hp
  have hp1 := primes_le hp
  have hfl : f.l.length = dg f := rfl
  obtain ⟨d, hd⟩ : ∃ d, dg f = d + 1 := ⟨dg f - 1, by have := hi.1; omega⟩
  obtain ⟨hq1, hq2, hq3⟩ := fld_q hk hd
  have htot := tot_ok hp (k := d) (by have := hi.1; omega) hq2
  generalize kp.toNat ^ d = q at hq1 hq2 hq3 htot
  have hL := facL_ok (n := q - 1) (by omega)
  have hLl := prodN_len hL.pr
  rw [hL.prod] at hLl
  generalize facL (q - 1) = L at hL hLl htot
  have hqi : ((q : Nat) : Int) - 1 = ((q - 1 : Nat) : Int) := by omega
  refine ⟨(cntN (q - 1) (q - 1) : Nat), 0, fun g0 => ?_, fun g0 => ?_⟩
  · refine fn_of (cx_ok [0, 1, 2, 3, 4, 5, 6, 9, 15, 21]) Tryz.func14 rfl (by decide) Tryz.ntmps14 (Nat.le_of_ble_eq_true rfl) fun base => ?_
    refine W.rs (cx_ok _) (by rfl) fun K hK => ?_
    conv => whnf
    refine ⟨rfl, ?_⟩
    conv => whnf
    intro b_1 hs_1 hh_1 hf_1
    try dsimp only at hh_1 hf_1
    conv => whnf
    refine hK _ ?_
    clear hK K
    refine W.seqK fun K1 hK1 => ?_
    refine W.rs (cx_ok _) (by rfl) fun K hK => ?_
    conv => whnf
    refine callV rfl ((isFieldS_fn kp g0 f.l (by omega)).tr (bP_true hk)) fun hs' hhs => ?_
    try dsimp only at hhs
    conv => whnf
    refine hK _ (W.condF rfl (W.skip (hK1 _ ?_)))
    clear hK K hK1 K1
    refine W.rs (cx_ok _) (by rfl) fun K hK => ?_
    conv => whnf
    refine callV rfl (l17Size_fn kp g0 f.l hk) fun hs' hhs => ?_
    try dsimp only at hhs
    conv => whnf
    rw [hq1]
    refine ⟨by constructor <;> omega, ?_⟩
    conv => whnf
    rw [hqi]
    refine hK _ ?_
    clear hK K
    refine W.rs (cx_ok _) (by rfl) fun K hK => ?_
    conv => whnf
    refine hK _ ?_
    clear hK K
    refine W.seqK fun K1 hK1 => ?_
    refine W.rs (cx_ok _) (by rfl) fun K hK => ?_
    conv => whnf
    refine hK _ (W.block (W.invE (fun m e => ∃ k : Nat, k ≤ q - 1 ∧ m = q - 1 - k ∧ e = [(4, .v (.int .i64 (q - 1 : Nat))), (5, .v (.int .i64 (cntN (q - 1) k : Nat))), (6, .v (.int .i64 ((k + 1 : Nat) : Int)))]) _ _ (⟨0, Nat.zero_le _, rfl, rfl⟩) (by dsimp only; omega) (by repeat' first | refine And.intro ?_ ?_ | exact trivial | rfl | omega | exact .inl rfl | exact fun _ _ => rfl | exact fun _ _ h => h | assumption | exact fun i hi => (by obtain rfl : i = 0 := (by omega); rfl)) ?_))
    clear hK K
    rintro m e ⟨k, hk1, hm, rfl⟩
    have hcl := cntN_le (q - 1) k
    refine W.seqK fun K7 hK7 => W.rs (cx_ok _) (by rfl) fun K hK => ?_
    conv => whnf
    refine hK _ (W.cond ⟨fun h => ?_, fun h => ?_⟩) <;> clear hK K <;> (first | replace h := of_decide_eq_true h | replace h := of_decide_eq_false h)
    · refine W.skip (hK7 _ ?_)
      clear hK7 K7
      refine W.seqK fun K8 hK8 => W.block ?_
      refine W.rs (cx_ok _) (by rfl) fun K hK => ?_
      conv => whnf
      refine callV rfl (l01Gcd_fn (k + 1) (q - 1) (by omega) (by omega)) fun hs' hhs => ?_
      try dsimp only at hhs
      conv => whnf
      refine hK _ (W.cond ⟨fun h2 => ?_, fun h2 => ?_⟩) <;> clear hK K
      · have h2 := of_decide_eq_true h2
        have e5 : cntN (q - 1) (k + 1) = cntN (q - 1) k + 1 := by rw [cntN, if_pos (by omega)]
        refine W.region (cx_ok _) (by rfl) ?_
        conv => whnf
        refine ⟨by constructor <;> omega, ?_⟩
        conv => whnf
        refine hK8 _ ?_
        clear hK8 K8
        refine W.region (cx_ok _) (by rfl) ?_
        conv => whnf
        refine ⟨by constructor <;> omega, ?_⟩
        conv => whnf
        refine ⟨_, _, ⟨k + 1, by omega, rfl, rfl⟩, by omega, by dsimp only; omega, ?_⟩
        rw [e5]
        repeat' first | refine And.intro ?_ ?_ | exact trivial | rfl | omega | exact .inl rfl | exact fun _ _ => rfl | exact fun _ _ h => h | assumption | exact fun i hi => (by obtain rfl : i = 0 := (by omega); rfl)
      · have h2 := of_decide_eq_false h2
        have e5 : cntN (q - 1) (k + 1) = cntN (q - 1) k := by rw [cntN, if_neg (by omega)]; rfl
        refine W.skip (hK8 _ ?_)
        clear hK8 K8
        refine W.region (cx_ok _) (by rfl) ?_
        conv => whnf
        refine ⟨by constructor <;> omega, ?_⟩
        conv => whnf
        refine ⟨_, _, ⟨k + 1, by omega, rfl, rfl⟩, by omega, by dsimp only; omega, ?_⟩
        rw [e5]
        repeat' first | refine And.intro ?_ ?_ | exact trivial | rfl | omega | exact .inl rfl | exact fun _ _ => rfl | exact fun _ _ h => h | assumption | exact fun i hi => (by obtain rfl : i = 0 := (by omega); rfl)
    · obtain rfl : k = q - 1 := by omega
      refine W.exit (hK1 _ ?_)
      clear hK7 K7 hK1 K1
      refine W.rs (cx_ok _) (by rfl) fun K hK => ?_
      conv => whnf
      refine hK _ ?_
      clear hK K
      refine W.ret ?_
      conv => whnf
      exact ⟨.v (.int .i64 (cntN (q - 1) (q - 1) : Nat)), ⟨rfl, rfl⟩, trivial, .v (.int .i64 0), ⟨rfl, rfl⟩, trivial, rfl⟩
  · refine fn_of (cx_ok [0, 1, 2, 3, 4, 5, 7, 11, 19, 20, 21, 22]) Tryz.func16 rfl (by decide) Tryz.ntmps16 (Nat.le_of_ble_eq_true rfl) fun base => ?_
    refine W.rs (cx_ok _) (by rfl) fun K hK => ?_
    conv => whnf
    refine ⟨rfl, ?_⟩
    conv => whnf
    intro b_1 hs_1 hh_1 hf_1
    try dsimp only at hh_1 hf_1
    conv => whnf
    refine hK _ ?_
    clear hK K
    refine W.seqK fun K1 hK1 => ?_
    refine W.rs (cx_ok _) (by rfl) fun K hK => ?_
    conv => whnf
    refine callV rfl (elements_tr kp g0 none f.l 0 _ (fun _ => []) (by omega) (by omega) (fun i hi => by omega)) fun hs' hhs => ?_
    try dsimp only at hhs
    conv => whnf
    rw [hc]
    refine hK _ ?_
    clear hK K
    refine W.rs (cx_ok _) (by rfl) fun K hK => ?_
    conv => whnf
    refine hK _ (W.cond ⟨fun hcc => absurd rfl (of_decide_eq_true hcc), fun _ => W.skip (hK1 _ ?_)⟩)
    clear hK K hK1 K1
    refine W.rs (cx_ok _) (by rfl) fun K hK => ?_
    conv => whnf
    refine callV rfl (order_fn kp g0 f.l (by omega) (by omega) (by omega) (by omega)) fun hs' hhs => ?_
    try dsimp only at hhs
    conv => whnf
    rw [hq1]
    refine ⟨by constructor <;> omega, ?_⟩
    conv => whnf
    rw [hqi]
    refine hK _ ?_
    clear hK K
    refine W.seqK fun K1 hK1 => ?_
    refine W.rs (cx_ok _) (by rfl) fun K hK => ?_
    conv => whnf
    refine callV rfl (order_fn kp g0 f.l (by omega) (by omega) (by omega) (by omega)) fun hs' hhs => ?_
    try dsimp only at hhs
    conv => whnf
    rw [hq1]
    refine ⟨by constructor <;> omega, ?_⟩
    conv => whnf
    rw [hqi]
    refine callV rfl (factors_fn (q - 1) L hL (by omega)) fun hs' hhs => ?_
    try dsimp only at hhs
    conv => whnf
    refine hK _ (W.block (W.invE (fun m e => ∃ i : Nat, i ≤ L.length ∧ m = L.length - i ∧ e = [(5, .v (.int .i64 (phiT (q - 1) L i : Nat))), (19, .v (vPw L)), (20, .v (.int .i64 L.length)), (21, .v (.int .i64 i))]) _ _ (⟨0, Nat.zero_le _, rfl, rfl⟩) (by dsimp only; omega) (by repeat' first | refine And.intro ?_ ?_ | exact trivial | rfl | omega | exact .inl rfl | exact fun _ _ => rfl | exact fun _ _ h => h | assumption | exact fun i hi => (by obtain rfl : i = 0 := (by omega); rfl)) ?_))
    clear hK K
    rintro m e ⟨i, hi1, hm, rfl⟩
    have hle := phiT_le (q - 1) L i hi1
    refine W.rs (cx_ok _) (by rfl) fun K hK => ?_
    conv => whnf
    refine hK _ ?_
    clear hK K
    refine W.seqK fun K7 hK7 => W.cond ⟨fun h => ?_, fun h => ?_⟩ <;> (first | replace h := of_decide_eq_true h | replace h := of_decide_eq_false h)
    · have hi2 : i < L.length := by omega
      have hpr := hL.pr _ (List.getElem_mem hi2)
      have hxe : L.getD i (0, 0) = L[i] := by rw [List.getD_eq_getElem?_getD, List.getElem?_eq_getElem hi2]; rfl
      have hx1 : L[i].1 ≤ 1000000 := by
        have h3 := Nat.le_of_dvd (by omega) (hL.prod ▸ prodN_dvd (List.getElem_mem hi2))
        have h4 : L[i].1 ^ 1 ≤ L[i].1 ^ L[i].2 := Nat.pow_le_pow_right (by have := hpr.1.1; omega) hpr.2
        rw [Nat.pow_one] at h4; omega
      have hst := phiT_succ (q - 1) hi2
      have hle2 := phiT_le (q - 1) L (i + 1) hi2
      generalize L[i] = x at hpr hxe hx1 hst
      have hx2 := hpr.1.1
      have hd1 := Nat.div_le_self (phiT (q - 1) L i) x.1
      obtain ⟨v, hv⟩ : ∃ v, phiT (q - 1) L i / x.1 = v := ⟨_, rfl⟩
      rw [hv] at hd1 hst
      have e7 : ((v : Nat) : Int) * ((x.1 : Int) - 1) = ((phiT (q - 1) L (i + 1) : Nat) : Int) := by
        rw [hst, Int.natCast_mul]; congr 1; omega
      refine W.skip (hK7 _ ?_)
      clear hK7 K7
      refine W.seqK fun K8 hK8 => W.block ?_
      refine W.rs (cx_ok _) (by rfl) fun K hK => ?_
      conv => whnf
      refine ⟨⟨by omega, by omega⟩, ?_⟩
      conv => whnf
      rw [Int.toNat_natCast, hxe]
      intro b_7 hs_7 hh_7 hf_7
      try dsimp only at hh_7 hf_7
      conv => whnf
      refine ⟨⟨(by show 2 ≤ 2; omega), rfl⟩, ?_⟩
      conv => whnf
      refine hK _ ?_
      clear hK K
      refine W.draw (cx_ok _) follows (by rfl) ?_
      conv => whnf
      refine ⟨by omega, ?_⟩
      conv => whnf
      rw [tdiv_nat, hv]
      refine ⟨by constructor <;> omega, ?_⟩
      conv => whnf
      refine ⟨by constructor <;> omega, ?_⟩
      conv => whnf
      rw [e7]
      refine ⟨by constructor <;> omega, ?_⟩
      conv => whnf
      refine hK8 _ ?_
      clear hK8 K8
      refine W.region (cx_ok _) (by rfl) ?_
      conv => whnf
      refine ⟨by constructor <;> omega, ?_⟩
      conv => whnf
      refine ⟨_, _, ⟨i + 1, by omega, rfl, rfl⟩, by omega, by dsimp only; omega, ?_⟩
      repeat' first | refine And.intro ?_ ?_ | exact trivial | rfl | omega | exact .inl rfl | exact fun _ _ => rfl | exact fun _ _ h => h | assumption | exact fun i hi => (by obtain rfl : i = 0 := (by omega); rfl)
    · obtain rfl : i = L.length := by omega
      have e7 : phiT (q - 1) L L.length = cntN (q - 1) (q - 1) := by rw [← htot]; unfold phiT phiL; rw [List.take_length]
      rw [e7]
      refine W.exit (hK1 _ ?_)
      clear hK7 K7 hK1 K1
      refine W.rs (cx_ok _) (by rfl) fun K hK => ?_
      conv => whnf
      refine hK _ ?_
      clear hK K
      refine W.ret ?_
      conv => whnf
      exact ⟨.v (.int .i64 (cntN (q - 1) (q - 1) : Nat)), ⟨rfl, rfl⟩, trivial, .v (.int .i64 0), ⟨rfl, rfl⟩, trivial, rfl⟩

end Go.Proofs.YtaiahdeegchobaaGreat

namespace Go.Proofs.YtaiahdeegchobaaGreat
open Go Go.RowKit Go.Proofs Poly
set_option maxRecDepth 100000
set_option maxHeartbeats 8000000

/-- the first m conjugates -/
noncomputable def vCon {p : Int} [SP p] (f X : Poly p) (m : Nat) : V := .vals none 1 m fun j => .ints none (frN f X j).l

theorem l18Conjugates_fn (p : Int) [SP p] (g g1 : Option Nat) (f X : Poly p) (hf : dg f ≤ 500) (hf0 : f ≠ 0) (hX : dg X < dg f) (n : Nat) (hn : Per f X n) (hn2 : n ≤ 1000) : FnV 77 [vK p g f.l, .ints g1 X.l] (vCon f X n) := by
  have hF := frN_lt hf0 hX
  have hXl : X.l.length = dg X := rfl
  refine fn_of (cx_ok [0, 1, 2, 4, 5, 6, 22]) Tryz.func77 rfl (by decide) Tryz.ntmps77 (Nat.le_of_ble_eq_true rfl) fun base => ?_
  refine W.rs (cx_ok _) (by rfl) fun K hK => ?_
  conv => whnf
  refine ⟨rfl, ?_⟩
  conv => whnf
  intro b_1 hs_1 hh_1 hf_1
  try dsimp only at hh_1 hf_1
  conv => whnf
  refine hK _ ?_
  clear hK K
  refine W.rs (cx_ok _) (by rfl) fun K hK => ?_
  conv => whnf
  refine callI rfl (own_fn g1 X.l (by omega)) fun hs_2 b_2 hh_2 hf_2 => ?_
  try dsimp only at hh_2 hf_2
  conv => whnf
  refine ⟨⟨rfl, by decide, fun x hx => by simp at hx; subst hx; exact ⟨rfl, rfl⟩⟩, ?_⟩
  conv => whnf
  intro b_3 hs_3 hh_3 hf_3
  try dsimp only at hh_3 hf_3
  conv => whnf
  refine hK _ ?_
  clear hK K
  refine W.block (W.invE (fun m e => ∃ j b : Nat, j < n ∧ m = n - j ∧ e = [(1, .v (.ints g1 X.l)), (2, .ownB b_1 (vK p g f.l)), (5, .ownV 22 1 b (j + 1) fun i => .ints none (frN f X i).l)]) _ _ ⟨0, b_3, hn.pos, rfl, rfl⟩ (by dsimp only; omega) (by repeat' first | refine And.intro ?_ ?_ | exact trivial | rfl | omega | exact fun _ _ => rfl | exact fun i hi => (by obtain rfl : i = 0 := (by omega); rfl)) ?_)
  rintro m e ⟨j, b, hj, hm, rfl⟩
  have hFj := hF j
  have hF1 := hF (j + 1)
  have hFl : (frN f X (j + 1)).l.length = dg (frN f X (j + 1)) := rfl
  refine W.block ?_
  refine W.rd (cx_ok _) follows (by rfl) fun K hK => ?_
  conv => whnf
  refine ⟨by constructor <;> omega, ?_⟩
  conv => whnf
  refine ⟨⟨by omega, by omega⟩, ?_⟩
  conv => whnf
  rw [show (((j + 1 : Nat) : Int) - 1).toNat = j by omega]
  refine ⟨_, cxF (l17PowerP_fn p g none f (frN f X j) (by omega) (by omega) hf0), ?_⟩
  conv => whnf
  refine hK _ ?_
  clear hK K
  refine W.seqK fun K7 hK7 => ?_
  refine W.rs (cx_ok _) (by rfl) fun K hK => ?_
  conv => whnf
  by_cases h : frN f X (j + 1) = X
  · have hjn : n = j + 1 := Classical.byContradiction fun h2 => hn.first (j + 1) (by omega) (by omega) h
    subst hjn
    refine callV rfl ((same_fn none g1 (frN f X (j + 1)).l X.l (by omega)).tr (decide_eq_true (by rw [h]))) fun hs' hhs => ?_
    try dsimp only at hhs
    conv => whnf
    refine hK _ (W.condT rfl ?_)
    clear hK K
    refine W.rs (cx_ok _) (by rfl) fun K hK => ?_
    conv => whnf
    refine hK _ ?_
    clear hK K
    refine W.ret ?_
    conv => whnf
    exact ⟨.v (vCon f X (j + 1)), ⟨rfl, rfl, rfl, fun _ _ => rfl⟩, ⟨trivial, fun _ _ => trivial⟩, rfl⟩
  · have hjn : j + 1 ≠ n := fun h2 => h (h2 ▸ hn.back)
    refine callV rfl ((same_fn none g1 (frN f X (j + 1)).l X.l (by omega)).fa (decide_eq_false fun h2 => h (ext_l h2))) fun hs' hhs => ?_
    try dsimp only at hhs
    conv => whnf
    refine hK _ (W.condF rfl (W.skip (hK7 _ ?_)))
    clear hK K hK7 K7
    refine W.region (cx_ok _) (by rfl) ?_
    conv => whnf
    refine ⟨⟨rfl, by decide, fun x hx => by simp at hx; subst hx; exact ⟨rfl, rfl⟩⟩, ?_⟩
    conv => whnf
    intro b_4 hs_4 hh_4 hf_4
    try dsimp only at hh_4 hf_4
    conv => whnf
    refine ⟨by omega, ?_⟩
    conv => whnf
    refine ⟨fun i => .ints none (frN f X i).l, fun i hi => rfl, fun i hi => ?_, ?_⟩
    · obtain rfl : i = 0 := by omega
      rfl
    intro b_5 hs_5 hh_5 hf_5
    try dsimp only at hh_5 hf_5
    conv => whnf
    refine ⟨_, _, ⟨j + 1, b_5, by omega, rfl, rfl⟩, by omega, by dsimp only; omega, ?_⟩
    repeat' first | refine And.intro ?_ ?_ | exact trivial | rfl | omega | exact .inl rfl | exact fun _ _ => rfl | exact fun _ _ h => h | assumption | exact fun i hi => (by obtain rfl : i = 0 := (by omega); rfl)

theorem IsInSubfield_both (kp : Int) (kl x : List Int) (k : Int) (_ : inR kp) (_ : inR k) (hkl : kl.length ≤ 1048576) (hx : x.length ≤ 1048576) : ∃ (r0 : Bool) (r1 : Int),
    (∀ g0 g1 : Option Nat, FnV 39 [vK kp g0 kl, .ints g1 x, .int .i64 k] (.tup [.bool r0, .int .i64 r1])) ∧ (∀ g0 g1 : Option Nat, FnV 40 [vK kp g0 kl, .ints g1 x, .int .i64 k] (.tup [.bool r0, .int .i64 r1])) := by
  generalize hc : code1 kp kl x = c
  by_cases h0 : c = 0
  case neg =>
    refine ⟨false, c, fun g0 g1 => ?_, fun g0 g1 => ?_⟩
    · refine fn_of (cx_ok [0, 1, 2, 3, 6, 7, 8, 32, 34]) Tryz.func39 rfl (by decide) Tryz.ntmps39 (Nat.le_of_ble_eq_true rfl) fun base => ?_
      refine W.rs (cx_ok _) (by rfl) fun K hK => ?_
      conv => whnf
      refine ⟨rfl, ?_⟩
      conv => whnf
      intro b_1 hs_1 hh_1 hf_1
      try dsimp only at hh_1 hf_1
      conv => whnf
      refine hK _ ?_
      clear hK K
      refine W.rs (cx_ok _) (by rfl) fun K hK => ?_
      conv => whnf
      refine callV rfl (l17Code_one kp g0 g1 g1 kl x (by omega) (by omega)) fun hs' hhs => ?_
      try dsimp only at hhs
      conv => whnf
      rw [hc]
      refine hK _ ?_
      clear hK K
      refine W.seqK fun K1 hK1 => ?_
      refine W.rs (cx_ok _) (by rfl) fun K hK => ?_
      conv => whnf
      refine ⟨fun h => ?_, fun h => ?_⟩ <;> conv => whnf
      · exact absurd (of_decide_eq_true h) h0
      refine hK _ (W.condF rfl (W.skip (hK1 _ ?_)))
      clear hK K hK1 K1
      refine W.seqK fun K1 hK1 => ?_
      refine W.rs (cx_ok _) (by rfl) fun K hK => ?_
      conv => whnf
      refine hK _ (W.cond ⟨fun _ => ?_, fun hcc => absurd h0 (of_decide_eq_false hcc)⟩)
      clear hK K
      refine W.rs (cx_ok _) (by rfl) fun K hK => ?_
      conv => whnf
      refine hK _ ?_
      clear hK K
      refine W.ret ?_
      conv => whnf
      exact ⟨.v (.bool false), rfl, trivial, .v (.int .i64 c), ⟨rfl, rfl⟩, trivial, rfl⟩
    · refine fn_of (cx_ok [0, 1, 2, 3, 6, 7, 8, 9, 15, 26, 28, 29, 30]) Tryz.func40 rfl (by decide) Tryz.ntmps40 (Nat.le_of_ble_eq_true rfl) fun base => ?_
      refine W.rs (cx_ok _) (by rfl) fun K hK => ?_
      conv => whnf
      refine ⟨rfl, ?_⟩
      conv => whnf
      intro b_1 hs_1 hh_1 hf_1
      try dsimp only at hh_1 hf_1
      conv => whnf
      refine hK _ ?_
      clear hK K
      refine W.seqK fun K1 hK1 => ?_
      refine W.rs (cx_ok _) (by rfl) fun K hK => ?_
      conv => whnf
      refine ⟨⟨rfl, by decide, fun x hx => (by simp at hx; subst hx; exact ⟨rfl, rfl⟩)⟩, ?_⟩
      conv => whnf
      intro b_2 hs_2 hh_2 hf_2
      try dsimp only at hh_2 hf_2
      conv => whnf
      refine callV rfl (elements_tr kp g0 (some b_2) kl 1 _ (fun _ => x) (by omega) (by omega) (els1 g1 x)) fun hs' hhs => ?_
      try dsimp only at hhs
      conv => whnf
      rw [show codeEl kp kl true 1 (fun _ => x) = c from hc]
      refine hK _ ?_
      clear hK K
      refine W.rs (cx_ok _) (by rfl) fun K hK => ?_
      conv => whnf
      refine hK _ (W.cond ⟨fun _ => ?_, fun hcc => absurd h0 (of_decide_eq_false hcc)⟩)
      clear hK K
      refine W.rs (cx_ok _) (by rfl) fun K hK => ?_
      conv => whnf
      refine hK _ ?_
      clear hK K
      refine W.ret ?_
      conv => whnf
      exact ⟨.v (.bool false), rfl, trivial, .v (.int .i64 c), ⟨rfl, rfl⟩, trivial, rfl⟩
  subst h0
  obtain ⟨hk, hh⟩ := code1_ok hc
  obtain ⟨hp, f, rfl, hfi, _, _, hf9⟩ := fld_poly hk
  letI := sp_of hp
  obtain ⟨X, rfl⟩ := mod_poly hh.1
  have hxl : X.l.length < f.l.length := hh.2
  have hfl : f.l.length = dg f := rfl
  have hXl : X.l.length = dg X := rfl
  have hf0 := hfi.ne
  have hp1 := primes_le hp
  have h2 := hfi.1
  obtain ⟨d, hd⟩ : ∃ d, dg f = d + 1 := ⟨dg f - 1, by omega⟩
  have hfe : ((f.l.length : Int) - 1) = ((d : Nat) : Int) := by omega
  by_cases he : 1 ≤ k ∧ k ≤ d
  case neg =>
    refine ⟨false, 2, fun g0 g1 => ?_, fun g0 g1 => ?_⟩
    · refine fn_of (cx_ok [0, 1, 2, 3, 6, 7, 8, 32, 34]) Tryz.func39 rfl (by decide) Tryz.ntmps39 (Nat.le_of_ble_eq_true rfl) fun base => ?_
      refine W.rs (cx_ok _) (by rfl) fun K hK => ?_
      conv => whnf
      refine ⟨rfl, ?_⟩
      conv => whnf
      intro b_1 hs_1 hh_1 hf_1
      try dsimp only at hh_1 hf_1
      conv => whnf
      refine hK _ ?_
      clear hK K
      refine W.rs (cx_ok _) (by rfl) fun K hK => ?_
      conv => whnf
      refine callV rfl (l17Code_one kp g0 g1 g1 f.l X.l (by omega) (by omega)) fun hs' hhs => ?_
      try dsimp only at hhs
      conv => whnf
      rw [hc]
      refine hK _ ?_
      clear hK K
      refine W.seqK fun K1 hK1 => ?_
      refine W.rs (cx_ok _) (by rfl) fun K hK => ?_
      conv => whnf
      refine ⟨fun h => ?_, fun h => ?_⟩ <;> conv => whnf
      · refine ⟨by constructor <;> omega, ?_⟩
        conv => whnf
        rw [hfe]
        refine callV rfl ((l01In_fn k 1 (d : Nat)).fa (decide_eq_false he)) fun hs' hhs => ?_
        try dsimp only at hhs
        conv => whnf
        refine hK _ (W.condT rfl ?_)
        clear hK K
        refine W.region (cx_ok _) (by rfl) ?_
        conv => whnf
        refine hK1 _ ?_
        clear hK1 K1
        refine W.seqK fun K1 hK1 => ?_
        refine W.rs (cx_ok _) (by rfl) fun K hK => ?_
        conv => whnf
        refine hK _ (W.cond ⟨fun _ => ?_, fun hcc => absurd (by decide : (2 : Int) ≠ 0) (of_decide_eq_false hcc)⟩)
        clear hK K
        refine W.rs (cx_ok _) (by rfl) fun K hK => ?_
        conv => whnf
        refine hK _ ?_
        clear hK K
        refine W.ret ?_
        conv => whnf
        exact ⟨.v (.bool false), rfl, trivial, .v (.int .i64 2), ⟨rfl, rfl⟩, trivial, rfl⟩
      · exact absurd rfl (of_decide_eq_false h)
    · refine fn_of (cx_ok [0, 1, 2, 3, 6, 7, 8, 9, 15, 26, 28, 29, 30]) Tryz.func40 rfl (by decide) Tryz.ntmps40 (Nat.le_of_ble_eq_true rfl) fun base => ?_
      refine W.rs (cx_ok _) (by rfl) fun K hK => ?_
      conv => whnf
      refine ⟨rfl, ?_⟩
      conv => whnf
      intro b_1 hs_1 hh_1 hf_1
      try dsimp only at hh_1 hf_1
      conv => whnf
      refine hK _ ?_
      clear hK K
      refine W.seqK fun K1 hK1 => ?_
      refine W.rs (cx_ok _) (by rfl) fun K hK => ?_
      conv => whnf
      refine ⟨⟨rfl, by decide, fun x hx => (by simp at hx; subst hx; exact ⟨rfl, rfl⟩)⟩, ?_⟩
      conv => whnf
      intro b_2 hs_2 hh_2 hf_2
      try dsimp only at hh_2 hf_2
      conv => whnf
      refine callV rfl (elements_tr kp g0 (some b_2) f.l 1 _ (fun _ => X.l) (by omega) (by omega) (els1 g1 X.l)) fun hs' hhs => ?_
      try dsimp only at hhs
      conv => whnf
      rw [show codeEl kp f.l true 1 (fun _ => X.l) = 0 from hc]
      refine hK _ ?_
      clear hK K
      refine W.rs (cx_ok _) (by rfl) fun K hK => ?_
      conv => whnf
      refine hK _ (W.cond ⟨fun hcc => absurd rfl (of_decide_eq_true hcc), fun _ => W.skip (hK1 _ ?_)⟩)
      clear hK K hK1 K1
      refine W.seqK fun K1 hK1 => ?_
      refine W.rs (cx_ok _) (by rfl) fun K hK => ?_
      conv => whnf
      refine ⟨fun h => ?_, fun h => ?_⟩ <;> conv => whnf
      · refine hK _ (W.condT rfl ?_)
        clear hK K
        refine W.rs (cx_ok _) (by rfl) fun K hK => ?_
        conv => whnf
        refine hK _ ?_
        clear hK K
        refine W.ret ?_
        conv => whnf
        exact ⟨.v (.bool false), rfl, trivial, .v (.int .i64 2), ⟨rfl, rfl⟩, trivial, rfl⟩
      · have h := of_decide_eq_false h
        have hgt : (d : Int) < k := by omega
        have hm : ((d : Int)).tmod k = d := by rw [Int.tmod_eq_emod_of_nonneg (by omega)]; exact Int.emod_eq_of_lt (by omega) hgt
        refine callV rfl (degree_fn g0 f.l (by omega)) fun hs' hhs => ?_
        try dsimp only at hhs
        conv => whnf
        rw [hfe]
        refine ⟨by omega, ?_⟩
        conv => whnf
        rw [hm]
        refine hK _ (W.cond ⟨fun _ => ?_, fun h4 => absurd (of_decide_eq_false h4) (by omega)⟩)
        clear hK K
        refine W.rs (cx_ok _) (by rfl) fun K hK => ?_
        conv => whnf
        refine hK _ ?_
        clear hK K
        refine W.ret ?_
        conv => whnf
        exact ⟨.v (.bool false), rfl, trivial, .v (.int .i64 2), ⟨rfl, rfl⟩, trivial, rfl⟩
  obtain ⟨k, rfl⟩ : ∃ j : Nat, k = j := ⟨k.toNat, by omega⟩
  have hmd : ((d : Int)).tmod (k : Nat) = ((d % k : Nat) : Int) := tmod_nat d k
  by_cases hdv : d % k = 0
  case neg =>
    refine ⟨false, 2, fun g0 g1 => ?_, fun g0 g1 => ?_⟩
    · refine fn_of (cx_ok [0, 1, 2, 3, 6, 7, 8, 32, 34]) Tryz.func39 rfl (by decide) Tryz.ntmps39 (Nat.le_of_ble_eq_true rfl) fun base => ?_
      refine W.rs (cx_ok _) (by rfl) fun K hK => ?_
      conv => whnf
      refine ⟨rfl, ?_⟩
      conv => whnf
      intro b_1 hs_1 hh_1 hf_1
      try dsimp only at hh_1 hf_1
      conv => whnf
      refine hK _ ?_
      clear hK K
      refine W.rs (cx_ok _) (by rfl) fun K hK => ?_
      conv => whnf
      refine callV rfl (l17Code_one kp g0 g1 g1 f.l X.l (by omega) (by omega)) fun hs' hhs => ?_
      try dsimp only at hhs
      conv => whnf
      rw [hc]
      refine hK _ ?_
      clear hK K
      refine W.seqK fun K1 hK1 => ?_
      refine W.rs (cx_ok _) (by rfl) fun K hK => ?_
      conv => whnf
      refine ⟨fun h => ?_, fun h => ?_⟩ <;> conv => whnf
      · refine ⟨by constructor <;> omega, ?_⟩
        conv => whnf
        rw [hfe]
        refine callV rfl ((l01In_fn (k : Nat) 1 (d : Nat)).tr (decide_eq_true he)) fun hs' hhs => ?_
        try dsimp only at hhs
        conv => whnf
        refine ⟨by constructor <;> omega, ?_⟩
        conv => whnf
        rw [hfe]
        refine ⟨by omega, ?_⟩
        conv => whnf
        rw [hmd]
        refine hK _ (W.cond ⟨fun _ => ?_, fun h4 => absurd (of_decide_eq_false h4) (by omega)⟩)
        clear hK K
        refine W.region (cx_ok _) (by rfl) ?_
        conv => whnf
        refine hK1 _ ?_
        clear hK1 K1
        refine W.seqK fun K1 hK1 => ?_
        refine W.rs (cx_ok _) (by rfl) fun K hK => ?_
        conv => whnf
        refine hK _ (W.cond ⟨fun _ => ?_, fun hcc => absurd (by decide : (2 : Int) ≠ 0) (of_decide_eq_false hcc)⟩)
        clear hK K
        refine W.rs (cx_ok _) (by rfl) fun K hK => ?_
        conv => whnf
        refine hK _ ?_
        clear hK K
        refine W.ret ?_
        conv => whnf
        exact ⟨.v (.bool false), rfl, trivial, .v (.int .i64 2), ⟨rfl, rfl⟩, trivial, rfl⟩
      · exact absurd rfl (of_decide_eq_false h)
    · refine fn_of (cx_ok [0, 1, 2, 3, 6, 7, 8, 9, 15, 26, 28, 29, 30]) Tryz.func40 rfl (by decide) Tryz.ntmps40 (Nat.le_of_ble_eq_true rfl) fun base => ?_
      refine W.rs (cx_ok _) (by rfl) fun K hK => ?_
      conv => whnf
      refine ⟨rfl, ?_⟩
      conv => whnf
      intro b_1 hs_1 hh_1 hf_1
      try dsimp only at hh_1 hf_1
      conv => whnf
      refine hK _ ?_
      clear hK K
      refine W.seqK fun K1 hK1 => ?_
      refine W.rs (cx_ok _) (by rfl) fun K hK => ?_
      conv => whnf
      refine ⟨⟨rfl, by decide, fun x hx => (by simp at hx; subst hx; exact ⟨rfl, rfl⟩)⟩, ?_⟩
      conv => whnf
      intro b_2 hs_2 hh_2 hf_2
      try dsimp only at hh_2 hf_2
      conv => whnf
      refine callV rfl (elements_tr kp g0 (some b_2) f.l 1 _ (fun _ => X.l) (by omega) (by omega) (els1 g1 X.l)) fun hs' hhs => ?_
      try dsimp only at hhs
      conv => whnf
      rw [show codeEl kp f.l true 1 (fun _ => X.l) = 0 from hc]
      refine hK _ ?_
      clear hK K
      refine W.rs (cx_ok _) (by rfl) fun K hK => ?_
      conv => whnf
      refine hK _ (W.cond ⟨fun hcc => absurd rfl (of_decide_eq_true hcc), fun _ => W.skip (hK1 _ ?_)⟩)
      clear hK K hK1 K1
      refine W.seqK fun K1 hK1 => ?_
      refine W.rs (cx_ok _) (by rfl) fun K hK => ?_
      conv => whnf
      refine ⟨fun h => ?_, fun h => ?_⟩ <;> conv => whnf
      · exact absurd (of_decide_eq_true h) (by omega)
      · refine callV rfl (degree_fn g0 f.l (by omega)) fun hs' hhs => ?_
        try dsimp only at hhs
        conv => whnf
        rw [hfe]
        refine ⟨by omega, ?_⟩
        conv => whnf
        rw [hmd]
        refine hK _ (W.cond ⟨fun _ => ?_, fun h4 => absurd (of_decide_eq_false h4) (by omega)⟩)
        clear hK K
        refine W.rs (cx_ok _) (by rfl) fun K hK => ?_
        conv => whnf
        refine hK _ ?_
        clear hK K
        refine W.ret ?_
        conv => whnf
        exact ⟨.v (.bool false), rfl, trivial, .v (.int .i64 2), ⟨rfl, rfl⟩, trivial, rfl⟩
  obtain ⟨n, hn, hn2⟩ := exists_per hfi hxl hd
  have hn0 := hn.pos
  have hper := hn.iff k
  have hF := frN_lt hf0 hxl
  have hb : decide ((frN f X k).l = X.l) = decide (((k % n : Nat) : Int) = 0) := decide_eq_decide.2 ⟨fun h => by have := hper.1 (ext_l h); omega, fun h => by rw [hper.2 (by omega)]⟩
  refine ⟨decide ((frN f X k).l = X.l), 0, fun g0 g1 => ?_, fun g0 g1 => ?_⟩
  · refine fn_of (cx_ok [0, 1, 2, 3, 6, 7, 8, 32, 34]) Tryz.func39 rfl (by decide) Tryz.ntmps39 (Nat.le_of_ble_eq_true rfl) fun base => ?_
    refine W.rs (cx_ok _) (by rfl) fun K hK => ?_
    conv => whnf
    refine ⟨rfl, ?_⟩
    conv => whnf
    intro b_1 hs_1 hh_1 hf_1
    try dsimp only at hh_1 hf_1
    conv => whnf
    refine hK _ ?_
    clear hK K
    refine W.rs (cx_ok _) (by rfl) fun K hK => ?_
    conv => whnf
    refine callV rfl (l17Code_one kp g0 g1 g1 f.l X.l (by omega) (by omega)) fun hs' hhs => ?_
    try dsimp only at hhs
    conv => whnf
    rw [hc]
    refine hK _ ?_
    clear hK K
    refine W.seqK fun K1 hK1 => ?_
    refine W.rs (cx_ok _) (by rfl) fun K hK => ?_
    conv => whnf
    refine ⟨fun h => ?_, fun h => ?_⟩ <;> conv => whnf
    · refine ⟨by constructor <;> omega, ?_⟩
      conv => whnf
      rw [hfe]
      refine callV rfl ((l01In_fn (k : Nat) 1 (d : Nat)).tr (decide_eq_true he)) fun hs' hhs => ?_
      try dsimp only at hhs
      conv => whnf
      refine ⟨by constructor <;> omega, ?_⟩
      conv => whnf
      rw [hfe]
      refine ⟨by omega, ?_⟩
      conv => whnf
      rw [hmd]
      refine hK _ (W.cond ⟨fun h4 => absurd (of_decide_eq_true h4) (by omega), fun _ => W.skip (hK1 _ ?_)⟩)
      clear hK K hK1 K1
      refine W.seqK fun K1 hK1 => ?_
      refine W.rs (cx_ok _) (by rfl) fun K hK => ?_
      conv => whnf
      refine hK _ (W.cond ⟨fun hcc => absurd rfl (of_decide_eq_true hcc), fun _ => W.skip (hK1 _ ?_)⟩)
      clear hK K hK1 K1
      refine W.rs (cx_ok _) (by rfl) fun K hK => ?_
      conv => whnf
      refine callV rfl (l18Conjugates_fn kp g0 g1 f X (by omega) hf0 hxl n hn (by omega)) fun hs' hhs => ?_
      try dsimp only at hhs
      conv => whnf
      refine ⟨by omega, ?_⟩
      conv => whnf
      rw [tmod_nat]
      refine hK _ ?_
      clear hK K
      refine W.ret ?_
      conv => whnf
      exact ⟨.v (.bool (decide ((frN f X k).l = X.l))), hb.symm, trivial, .v (.int .i64 0), ⟨rfl, rfl⟩, trivial, rfl⟩
    · exact absurd rfl (of_decide_eq_false h)
  · refine fn_of (cx_ok [0, 1, 2, 3, 6, 7, 8, 9, 15, 26, 28, 29, 30]) Tryz.func40 rfl (by decide) Tryz.ntmps40 (Nat.le_of_ble_eq_true rfl) fun base => ?_
    refine W.rs (cx_ok _) (by rfl) fun K hK => ?_
    conv => whnf
    refine ⟨rfl, ?_⟩
    conv => whnf
    intro b_1 hs_1 hh_1 hf_1
    try dsimp only at hh_1 hf_1
    conv => whnf
    refine hK _ ?_
    clear hK K
    refine W.seqK fun K1 hK1 => ?_
    refine W.rs (cx_ok _) (by rfl) fun K hK => ?_
    conv => whnf
    refine ⟨⟨rfl, by decide, fun x hx => (by simp at hx; subst hx; exact ⟨rfl, rfl⟩)⟩, ?_⟩
    conv => whnf
    intro b_2 hs_2 hh_2 hf_2
    try dsimp only at hh_2 hf_2
    conv => whnf
    refine callV rfl (elements_tr kp g0 (some b_2) f.l 1 _ (fun _ => X.l) (by omega) (by omega) (els1 g1 X.l)) fun hs' hhs => ?_
    try dsimp only at hhs
    conv => whnf
    rw [show codeEl kp f.l true 1 (fun _ => X.l) = 0 from hc]
    refine hK _ ?_
    clear hK K
    refine W.rs (cx_ok _) (by rfl) fun K hK => ?_
    conv => whnf
    refine hK _ (W.cond ⟨fun hcc => absurd rfl (of_decide_eq_true hcc), fun _ => W.skip (hK1 _ ?_)⟩)
    clear hK K hK1 K1
    refine W.seqK fun K1 hK1 => ?_
    refine W.rs (cx_ok _) (by rfl) fun K hK => ?_
    conv => whnf
    refine ⟨fun h => ?_, fun h => ?_⟩ <;> conv => whnf
    · exact absurd (of_decide_eq_true h) (by omega)
    · refine callV rfl (degree_fn g0 f.l (by omega)) fun hs' hhs => ?_
      try dsimp only at hhs
      conv => whnf
      rw [hfe]
      refine ⟨by omega, ?_⟩
      conv => whnf
      rw [hmd]
      refine hK _ (W.cond ⟨fun h4 => absurd (of_decide_eq_true h4) (by omega), fun _ => W.skip (hK1 _ ?_)⟩)
      clear hK K hK1 K1
      refine W.rs (cx_ok _) (by rfl) fun K hK => ?_
      conv => whnf
      refine hK _ ?_
      clear hK K
      refine W.seqK fun K1 hK1 => ?_
      refine W.rs (cx_ok _) (by rfl) fun K hK => ?_
      conv => whnf
      refine hK _ (W.block (W.invE (fun m e => ∃ (j : Nat) (g' : Option Nat), j ≤ k ∧ m = k - j ∧ e = [(1, .v (.ints g1 X.l)), (3, .ownB b_1 (vK kp g0 f.l)), (9, .v (.ints g' (frN f X j).l)), (28, .v (.int .i64 (k : Nat))), (29, .v (.int .i64 j))]) _ _ (⟨0, g1, Nat.zero_le _, rfl, rfl⟩) (by dsimp only; omega) (by repeat' first | refine And.intro ?_ ?_ | exact trivial | rfl | omega | exact .inl rfl | exact fun _ _ => rfl | exact fun _ _ h => h | assumption | exact fun i hi => (by obtain rfl : i = 0 := (by omega); rfl)) ?_))
      clear hK K
      rintro m e ⟨j, g', hj, hm, rfl⟩
      have hFj := hF j
      have hFl : (frN f X j).l.length = dg (frN f X j) := rfl
      refine W.rs (cx_ok _) (by rfl) fun K hK => ?_
      conv => whnf
      refine hK _ ?_
      clear hK K
      refine W.seqK fun K7 hK7 => W.cond ⟨fun h2 => ?_, fun h2 => ?_⟩ <;> (first | replace h2 := of_decide_eq_true h2 | replace h2 := of_decide_eq_false h2)
      · refine W.skip (hK7 _ ?_)
        clear hK7 K7
        refine W.seqK fun K8 hK8 => W.block ?_
        refine W.region (cx_ok _) (by rfl) ?_
        conv => whnf
        refine callV rfl (kFrob_fn kp g0 g' f (frN f X j) (by omega) (by omega) hf0) fun hs' hhs => ?_
        try dsimp only at hhs
        conv => whnf
        refine hK8 _ ?_
        clear hK8 K8
        refine W.region (cx_ok _) (by rfl) ?_
        conv => whnf
        refine ⟨by constructor <;> omega, ?_⟩
        conv => whnf
        refine ⟨_, _, ⟨j + 1, none, by omega, rfl, rfl⟩, by omega, by dsimp only; omega, ?_⟩
        repeat' first | refine And.intro ?_ ?_ | exact trivial | rfl | omega | exact .inl rfl | exact fun _ _ => rfl | exact fun _ _ h => h | assumption | exact fun i hi => (by obtain rfl : i = 0 := (by omega); rfl)
      · obtain rfl : j = k := by omega
        refine W.exit (hK1 _ ?_)
        clear hK7 K7 hK1 K1
        refine W.rs (cx_ok _) (by rfl) fun K hK => ?_
        conv => whnf
        refine callV rfl (equal_fn g' g1 (frN f X j).l X.l (by omega)) fun hs' hhs => ?_
        try dsimp only at hhs
        conv => whnf
        refine hK _ ?_
        clear hK K
        refine W.ret ?_
        conv => whnf
        exact ⟨.v (.bool (decide ((frN f X j).l = X.l))), rfl, trivial, .v (.int .i64 0), ⟨rfl, rfl⟩, trivial, rfl⟩

end Go.Proofs.YtaiahdeegchobaaGreat

namespace Go.Proofs.YtaiahdeegchobaaGreat
open Go Go.RowKit Go.ChangeShapes Go.WideShapes Go.ChangeAt Go.Proofs Go.Proofs.YtaiahdeegchobaaGreat

theorem fn_calls {P : Program} {f : Nat} {xs : List V} {r : V} {w : World} {vs : Array Value} (h : Fn P f xs (fun _ _ a => a = .v r)) (hl : vs.size = xs.length)
    (hr : ∀ j, j < xs.length → Rep (okAll w) w.heap (xs.getD j .nil) (vs.getD j undef)) :
    Calls P f vs w fun e w' => ∃ v, e = .returned v ∧ Below w.heap.size w w' ∧ Rep (okR (fun _ => False) w'.heap.size) w'.heap r v := by
  refine (h.2 (fun _ => False) w vs (fun _ h => h.elim) hl hr).mono fun e w' ⟨v, av, hi, h1, h2, h3, h4, h5⟩ => ?_
  subst h3
  obtain ⟨_, h6, _⟩ := h5
  refine ⟨v, h1, h4, ?_⟩
  exact Rep.mono h6 fun g b hb => ⟨⟨hb.1, fun h => h.elim, hb.2.2⟩, rfl⟩

theorem fn_true {P : Program} {f : Nat} {xs : List V} {w : World} {vs : Array Value} (h : Fn P f xs (fun _ _ a => a = .v .tr)) (hl : vs.size = xs.length)
    (hr : ∀ j, j < xs.length → Rep (okAll w) w.heap (xs.getD j .nil) (vs.getD j undef)) :
    Calls P f vs w fun e w' => e = .returned (.bool true) ∧ Below w.heap.size w w' :=
  (fn_calls h hl hr).mono fun e w' ⟨v, h1, h2, h3⟩ => by
    cases h3
    exact ⟨h1, h2⟩

theorem ownP : ownKnob Tryz.prog.godebug = none := by kernel_rfl
theorem laidOutP : laidOutB Tryz.prog = true := by kernel_rfl
theorem cellsInt : Tryz.prog.cellsOf 2 = 1 := by kernel_rfl

theorem cellsInts : Tryz.prog.cellsOf 22 = 1 := by kernel_rfl
theorem readsInt {H : Type} {enc : TypeId × Value → H} {W : World} : Reads enc Tryz.prog W 2 1 TyInt := reads_int Tryz.underlying2
theorem readsInts {H : Type} {enc : TypeId × Value → H} {W : World} : Reads enc Tryz.prog W 22 1 TyInts := reads_ints Tryz.underlying22 Tryz.underlying2 cellsInt
theorem readsField {H : Type} {enc : TypeId × Value → H} {W : World} : Reads enc Tryz.prog W 24 2 (TyCat [TyInt, TyInts]) :=
  reads_struct Tryz.underlying24 (by kernel_rfl) ⟨rfl, 1, cellsInt, readsInt, rfl, 1, cellsInts, readsInts, rfl⟩
end Go.Proofs.YtaiahdeegchobaaGreat
