/- What the program's functions and the reference's return. No conditions. -/
import Derived.Test.YtaiahdeegchobabGreatPi
import Derived.Test.YtaiahdeegchobabGreatRows
namespace Go.Proofs.YtaiahdeegchobabGreat
open Go Go.RowKit Go.Proofs Poly
set_option maxRecDepth 100000
set_option maxHeartbeats 8000000

/-- a prime power -/
def vP (x : Nat × Nat) : V := .agg [.int .i64 x.1, .int .i64 x.2]
/-- prime powers -/
def vPw (L : List (Nat × Nat)) : V := .vals none 2 L.length fun j => vP (L.getD j (0, 0))


theorem factors_fn (n : Nat) (L : List (Nat × Nat)) (hL : FacS n L) (hn : n ≤ 1000000) : FnV 60 [.int .i64 n] (vPw L) := by
  have hpr := hL.prod
  have hlen := prodN_len hL.pr
  refine fn_of (cx_ok [0, 2, 3, 4, 5, 7, 14, 19, 26]) Tryz.func60 rfl (by decide) Tryz.ntmps60 (Nat.le_of_ble_eq_true rfl) fun base => ?_
  refine W.rs (cx_ok _) (by rfl) fun K hK => ?_
  conv => whnf
  refine hK _ ?_
  clear hK K
  refine W.rs (cx_ok _) (by rfl) fun K hK => ?_
  conv => whnf
  refine hK _ ?_
  clear hK K
  refine W.seqK fun K1 hK1 => ?_
  refine W.rs (cx_ok _) (by rfl) fun K hK => ?_
  conv => whnf
  refine hK _ (W.block (W.invE (fun m e => ∃ (A M : List (Nat × Nat)) (q b : Nat), A ++ M = L ∧ FacS (prodN M) M ∧ 2 ≤ q ∧ (∀ x ∈ M, q ≤ x.1) ∧ q ≤ n + 1 ∧ m = n + 1 - q ∧ e = [(0, .v (.int .i64 (prodN M : Nat))), (3, .ownV 74 2 b A.length fun i => vP (A.getD i (0, 0))), (4, .v (.int .i64 q))]) _ _ (⟨[], L, 2, 0, rfl, hpr.symm ▸ hL, Nat.le_refl _, fun x hx => (hL.pr x hx).1.1, by omega, rfl, rfl⟩) (by dsimp only; omega) (by repeat' first | refine And.intro ?_ ?_ | exact trivial | rfl | omega | exact .inl rfl | exact fun _ _ => rfl | exact fun _ _ h => h | assumption | exact fun i hi => (by obtain rfl : i = 0 := (by omega); rfl)) ?_))
  clear hK K
  rintro m e ⟨A, M, q, b, hA, hM, hq2, hql, hqn, hm, rfl⟩
  have hMn : prodN M ≤ n := by
    rw [← hpr, ← hA, prodN_append]
    have : 0 < prodN A := prodN_pos fun x hx => hL.pr x (by rw [← hA]; simp [hx])
    exact Nat.le_mul_of_pos_left _ this
  have hAl : A.length ≤ L.length := by rw [← hA, List.length_append]; omega
  refine W.seqK fun K7 hK7 => W.rs (cx_ok _) (by rfl) fun K hK => ?_
  conv => whnf
  refine hK _ (W.cond ⟨fun h1 => ?_, fun h1 => ?_⟩) <;> clear hK K <;> (first | replace h1 := of_decide_eq_true h1 | replace h1 := of_decide_eq_false h1)
  · have h1' : 1 < prodN M := by omega
    obtain ⟨x, hx⟩ : ∃ x, x ∈ M := by
      cases M with
      | nil => rw [prodN] at h1'; omega
      | cons y M => exact ⟨y, by simp⟩
    have hqM : ∀ q', (∀ x ∈ M, q' ≤ x.1) → q' ≤ prodN M := fun q' hq' => by
      obtain ⟨r, hr⟩ : ∃ r, x.2 = r + 1 := ⟨x.2 - 1, by have := (hM.pr x hx).2; omega⟩
      have h3 := prodN_dvd hx
      rw [hr, Nat.pow_succ] at h3
      exact Nat.le_trans (hq' x hx) (Nat.le_of_dvd (by omega) (Nat.dvd_trans (Nat.dvd_mul_left _ _) h3))
    refine W.skip (hK7 _ ?_)
    clear hK7 K7
    refine W.seqK fun K8 hK8 => W.block ?_
    refine W.seqK fun K9 hK9 => ?_
    have fin : ∀ (q' : Nat) (s : S), 2 ≤ q' → (∀ x ∈ M, q' ≤ x.1) → q ≤ q' → base ≤ s.hs →
        coverK s.env [(0, .v (.int .i64 (prodN M : Nat))), (3, .ownV 74 2 b A.length fun i => vP (A.getD i (0, 0))), (4, .v (.int .i64 q'))] → K9 s := by
      intro q' s b1 b2 b3 h5 h6
      have hq'M := hqM q' b2
      obtain ⟨k, M', b5, b4, b6, b7, b8⟩ := hM.next' b1 b2
      refine hK9 _ (W.weak (t := ⟨[(0, .v (.int .i64 (prodN M : Nat))), (3, .ownV 74 2 b A.length fun i => vP (A.getD i (0, 0))), (4, .v (.int .i64 q'))], base⟩) ⟨h5, h6⟩ (Nat.le_refl _) ?_)
      clear hK9 K9
      refine W.rs (cx_ok _) (by rfl) fun K hK => ?_
      conv => whnf
      refine hK _ ?_
      clear hK K
      have e8 : prodN M = q' ^ (k - 0) * prodN M' := b5
      rw [e8]
      refine W.seqK fun K1 hK1 => W.block (W.invE (fun m e => ∃ i : Nat, i ≤ k ∧ m = k - i ∧ e = [(0, .v (.int .i64 ((q' ^ (k - i) * prodN M' : Nat) : Int))), (3, .ownV 74 2 b A.length fun i => vP (A.getD i (0, 0))), (4, .v (.int .i64 q')), (5, .v (.int .i64 i))]) _ _ (⟨0, Nat.zero_le _, rfl, rfl⟩) (by dsimp only; omega) (by repeat' first | refine And.intro ?_ ?_ | exact trivial | rfl | omega | exact .inl rfl | exact fun _ _ => rfl | exact fun _ _ h => h | assumption | exact fun i hi => (by obtain rfl : i = 0 := (by omega); rfl)) ?_)
      rintro m2 e ⟨i, hi, hm2, rfl⟩
      have hmod := strip_mod (a := k - i) b1 b4
      have hkb : k ≤ 1000000 := by
        have h1 : k < q' ^ k := Nat.lt_pow_self (by omega)
        have h2 : q' ^ k * 1 ≤ q' ^ k * prodN M' := Nat.mul_le_mul_left _ (prodN_pos b6.pr)
        omega
      have hle : q' ^ (k - i) * prodN M' ≤ 1000000 := by
        have : q' ^ (k - i) * prodN M' ≤ q' ^ k * prodN M' := Nat.mul_le_mul_right _ (Nat.pow_le_pow_right (by omega) (by omega))
        omega
      refine W.seqK fun K7 hK7 => ?_
      refine W.rs (cx_ok _) (by rfl) fun K hK => ?_
      conv => whnf
      refine ⟨by omega, ?_⟩
      conv => whnf
      rw [tmod_nat]
      refine hK _ (W.cond ⟨fun h2 => ?_, fun h2 => ?_⟩) <;> clear hK K
      · have h2 := of_decide_eq_true h2
        have hik : 0 < k - i := hmod.1 (by omega)
        have hdiv := strip_div (P := prodN M') b1 hik
        have hle2 : q' ^ (k - i - 1) * prodN M' ≤ 1000000 := by rw [← hdiv]; exact Nat.le_trans (Nat.div_le_self _ _) hle
        refine W.skip (hK7 _ (W.block ?_))
        clear hK7 K7
        refine W.rs (cx_ok _) (by rfl) fun K hK => ?_
        conv => whnf
        refine ⟨by omega, ?_⟩
        conv => whnf
        rw [tdiv_nat, hdiv]
        refine ⟨by constructor <;> omega, ?_⟩
        conv => whnf
        refine hK _ ?_
        clear hK K
        refine W.region (cx_ok _) (by rfl) ?_
        conv => whnf
        refine ⟨by constructor <;> omega, ?_⟩
        conv => whnf
        refine ⟨_, _, ⟨i + 1, by omega, rfl, rfl⟩, by omega, by dsimp only; omega, ?_⟩
        repeat' first | refine And.intro ?_ ?_ | exact trivial | rfl | omega | exact .inl rfl | exact fun _ _ => rfl | exact fun _ _ h => h | assumption | exact fun i hi => (by obtain rfl : i = 0 := (by omega); rfl)
      have h2 := of_decide_eq_false h2
      have hik : ¬ 0 < k - i := fun h => h2 (by have := hmod.2 h; omega)
      obtain rfl : i = k := by omega
      have e9 : q' ^ (i - i) * prodN M' = prodN M' := by rw [Nat.sub_self, Nat.pow_zero, Nat.one_mul]
      rw [e9]
      refine W.exit (hK1 _ ?_)
      clear hK7 K7 hK1 K1
      refine W.rs (cx_ok _) (by rfl) fun K hK => ?_
      conv => whnf
      refine hK _ (W.cond ⟨fun h3 => ?_, fun h3 => ?_⟩) <;> clear hK K
      · have h3 := of_decide_eq_true h3
        have hb8 : M = (q', i) :: M' := by rw [if_neg (by omega)] at b8; exact b8
        refine W.region (cx_ok _) (by rfl) ?_
        conv => whnf
        refine ⟨⟨rfl, by decide, fun x hx => by simp at hx; subst hx; exact ⟨rfl, rfl⟩⟩, ?_⟩
        conv => whnf
        intro b_8 hs_8 hh_8 hf_8
        try dsimp only at hh_8 hf_8
        conv => whnf
        refine ⟨by omega, ?_⟩
        conv => whnf
        refine ⟨fun j => vP ((A ++ [(q', i)]).getD j (0, 0)), fun j hj => congrArg vP (getD_snoc_l hj), fun j hj => ?_, ?_⟩
        · obtain rfl : j = 0 := by omega
          exact congrArg vP getD_snoc_r
        intro b_9 hs_9 hh_9 hf_9
        try dsimp only at hh_9 hf_9
        conv => whnf
        refine hK8 _ ?_
        clear hK8 K8
        refine W.region (cx_ok _) (by rfl) ?_
        conv => whnf
        refine ⟨by constructor <;> omega, ?_⟩
        conv => whnf
        refine ⟨_, _, ⟨A ++ [(q', i)], M', q' + 1, b_9, by rw [List.append_assoc, ← hA, hb8]; rfl, b6, by omega, b7, by omega, rfl, rfl⟩, by omega, by dsimp only; omega, ?_⟩
        rw [List.length_append (bs := [_])]
        repeat' first | refine And.intro ?_ ?_ | exact trivial | rfl | omega | exact .inl rfl | exact fun _ _ => rfl | exact fun _ _ h => h | assumption | exact fun i hi => (by obtain rfl : i = 0 := (by omega); rfl)
      · have h3 := of_decide_eq_false h3
        have hb8 : M = M' := by rw [if_pos (by omega)] at b8; exact b8
        refine W.skip (hK8 _ ?_)
        clear hK8 K8
        refine W.region (cx_ok _) (by rfl) ?_
        conv => whnf
        refine ⟨by constructor <;> omega, ?_⟩
        conv => whnf
        refine ⟨_, _, ⟨A, M', q' + 1, b, by rw [← hA, hb8], b6, by omega, b7, by omega, rfl, rfl⟩, by omega, by dsimp only; omega, ?_⟩
        repeat' first | refine And.intro ?_ ?_ | exact trivial | rfl | omega | exact .inl rfl | exact fun _ _ => rfl | exact fun _ _ h => h | assumption | exact fun i hi => (by obtain rfl : i = 0 := (by omega); rfl)
    have hqq := hqM q hql
    have hq3 : (q : Int) * q ≤ 1000001 * 1000001 := Int.mul_le_mul (by omega) (by omega) (by omega) (by omega)
    have hq4 : 0 ≤ (q : Int) * q := Int.mul_nonneg (by omega) (by omega)
    refine W.rs (cx_ok _) (by rfl) fun K hK => ?_
    conv => whnf
    refine ⟨by constructor <;> omega, ?_⟩
    conv => whnf
    refine hK _ (W.cond ⟨fun h2 => ?_, fun h2 => ?_⟩) <;> clear hK K
    · have h2 := of_decide_eq_true h2
      have hlast := hM.last hql h1' (by rw [← Int.natCast_mul] at h2; omega)
      refine W.region (cx_ok _) (by rfl) ?_
      conv => whnf
      refine fin (prodN M) _ (by omega) (fun y hy => ?_) hqq (by dsimp only; omega) ?_
      · rw [hlast] at hy
        have hy : y = (prodN M, 1) := by simpa using hy
        rw [hy]; exact Nat.le_refl _
      · clear fin hK9 K9
        repeat' first | refine And.intro ?_ ?_ | exact trivial | rfl | omega | exact .inl rfl | exact fun _ _ => rfl | exact fun _ _ h => h | assumption | exact fun i hi => (by obtain rfl : i = 0 := (by omega); rfl)
    · refine W.skip (fin q _ hq2 hql (Nat.le_refl _) (by dsimp only; omega) ?_)
      clear fin hK9 K9
      repeat' first | refine And.intro ?_ ?_ | exact trivial | rfl | omega | exact .inl rfl | exact fun _ _ => rfl | exact fun _ _ h => h | assumption | exact fun i hi => (by obtain rfl : i = 0 := (by omega); rfl)
  · have hMe : M = [] := by
      cases M with
      | nil => rfl
      | cons y M' => have := prodN_len hM.pr; rw [List.length_cons] at this; omega
    rw [hMe, List.append_nil] at hA
    subst hA
    refine W.exit (hK1 _ ?_)
    clear hK7 K7 hK1 K1
    refine W.sw (c' := cxr [0, 2, 3, 4, 5, 7, 14, 19, 26]) (W.rs (cxr_ok _) (by rfl) fun K hK => ?_)
    conv => whnf
    refine hK _ ?_
    clear hK K
    refine W.ret ?_
    conv => whnf
    exact ⟨.v (vPw A), ⟨.inl rfl, rfl, rfl, fun _ _ => rfl⟩, ⟨trivial, fun _ _ => ⟨trivial, trivial, trivial⟩⟩, rfl⟩

theorem l01Factor_fn (n : Nat) (L : List (Nat × Nat)) (hL : FacS n L) (hn : n ≤ 1000000) : FnV 52 [.int .i64 n] (vPw L) := by
  have hpr := hL.prod
  have hlen := prodN_len hL.pr
  refine fn_of (cx_ok [0, 2, 3, 4, 5, 11, 17, 24, 32]) Tryz.func52 rfl (by decide) Tryz.ntmps52 (Nat.le_of_ble_eq_true rfl) fun base => ?_
  refine W.rs (cx_ok _) (by rfl) fun K hK => ?_
  conv => whnf
  refine hK _ ?_
  clear hK K
  refine W.rs (cx_ok _) (by rfl) fun K hK => ?_
  conv => whnf
  refine ⟨⟨rfl, by decide, fun x hx => by simp at hx⟩, ?_⟩
  conv => whnf
  intro b_1 hs_1 hh_1 hf_1
  try dsimp only at hh_1 hf_1
  conv => whnf
  refine hK _ ?_
  clear hK K
  refine W.seqK fun K1 hK1 => ?_
  refine W.rs (cx_ok _) (by rfl) fun K hK => ?_
  conv => whnf
  refine hK _ (W.block (W.invE (fun m e => ∃ (A M : List (Nat × Nat)) (q b : Nat), A ++ M = L ∧ FacS (prodN M) M ∧ 2 ≤ q ∧ (∀ x ∈ M, q ≤ x.1) ∧ q ≤ n + 2 ∧ m = n + 2 - q ∧ e = [(0, .v (.int .i64 (prodN M : Nat))), (3, .ownV 74 2 b A.length fun i => vP (A.getD i (0, 0))), (4, .v (.int .i64 q))]) _ _ (⟨[], L, 2, b_1, rfl, hpr.symm ▸ hL, Nat.le_refl _, fun x hx => (hL.pr x hx).1.1, by omega, rfl, rfl⟩) (by dsimp only; omega) (by repeat' first | refine And.intro ?_ ?_ | exact trivial | rfl | omega | exact .inl rfl | exact fun _ _ => rfl | exact fun _ _ h => h | assumption | exact fun i hi => (by obtain rfl : i = 0 := (by omega); rfl)) ?_))
  clear hK K
  rintro m e ⟨A, M, q', b, hA, hM, b1, b2, hqn, hm, rfl⟩
  have hMn : prodN M ≤ n := by
    rw [← hpr, ← hA, prodN_append]
    have : 0 < prodN A := prodN_pos fun x hx => hL.pr x (by rw [← hA]; simp [hx])
    exact Nat.le_mul_of_pos_left _ this
  have hAl : A.length ≤ L.length := by rw [← hA, List.length_append]; omega
  have hq3 : (q' : Int) * q' ≤ 1000002 * 1000002 := Int.mul_le_mul (by omega) (by omega) (by omega) (by omega)
  have hq4 : 0 ≤ (q' : Int) * q' := Int.mul_nonneg (by omega) (by omega)
  refine W.seqK fun K7 hK7 => ?_
  refine W.rs (cx_ok _) (by rfl) fun K hK => ?_
  conv => whnf
  refine ⟨by constructor <;> omega, ?_⟩
  conv => whnf
  refine hK _ (W.cond ⟨fun h1 => ?_, fun h1 => ?_⟩) <;> clear hK K
  · have h1 := of_decide_eq_true h1
    have hqq : q' * 2 ≤ q' * q' := Nat.mul_le_mul_left _ b1
    have hqq2 : q' * q' ≤ prodN M := by rw [← Int.natCast_mul] at h1; omega
    obtain ⟨k, M', b5, b4, b6, b7, b8⟩ := hM.next' b1 b2
    refine W.skip (hK7 _ ?_)
    clear hK7 K7
    refine W.seqK fun K8 hK8 => W.block ?_
    refine W.rs (cx_ok _) (by rfl) fun K hK => ?_
    conv => whnf
    refine hK _ ?_
    clear hK K
    have e8 : prodN M = q' ^ (k - 0) * prodN M' := b5
    rw [e8]
    refine W.seqK fun K1 hK1 => W.block (W.invE (fun m e => ∃ i : Nat, i ≤ k ∧ m = k - i ∧ e = [(0, .v (.int .i64 ((q' ^ (k - i) * prodN M' : Nat) : Int))), (3, .ownV 74 2 b A.length fun i => vP (A.getD i (0, 0))), (4, .v (.int .i64 q')), (5, .v (.int .i64 i))]) _ _ (⟨0, Nat.zero_le _, rfl, rfl⟩) (by dsimp only; omega) (by repeat' first | refine And.intro ?_ ?_ | exact trivial | rfl | omega | exact .inl rfl | exact fun _ _ => rfl | exact fun _ _ h => h | assumption | exact fun i hi => (by obtain rfl : i = 0 := (by omega); rfl)) ?_)
    rintro m2 e ⟨i, hi, hm2, rfl⟩
    have hmod := strip_mod (a := k - i) b1 b4
    have hkb : k ≤ 1000000 := by
      have h1 : k < q' ^ k := Nat.lt_pow_self (by omega)
      have h2 : q' ^ k * 1 ≤ q' ^ k * prodN M' := Nat.mul_le_mul_left _ (prodN_pos b6.pr)
      omega
    have hle : q' ^ (k - i) * prodN M' ≤ 1000000 := by
      have : q' ^ (k - i) * prodN M' ≤ q' ^ k * prodN M' := Nat.mul_le_mul_right _ (Nat.pow_le_pow_right (by omega) (by omega))
      omega
    refine W.seqK fun K7 hK7 => ?_
    refine W.rs (cx_ok _) (by rfl) fun K hK => ?_
    conv => whnf
    refine ⟨by omega, ?_⟩
    conv => whnf
    rw [tmod_nat]
    refine hK _ (W.cond ⟨fun h2 => ?_, fun h2 => ?_⟩) <;> clear hK K
    · have h2 := of_decide_eq_true h2
      have hik : 0 < k - i := hmod.1 (by omega)
      have hdiv := strip_div (P := prodN M') b1 hik
      have hle2 : q' ^ (k - i - 1) * prodN M' ≤ 1000000 := by rw [← hdiv]; exact Nat.le_trans (Nat.div_le_self _ _) hle
      refine W.skip (hK7 _ (W.block ?_))
      clear hK7 K7
      refine W.rs (cx_ok _) (by rfl) fun K hK => ?_
      conv => whnf
      refine ⟨by omega, ?_⟩
      conv => whnf
      rw [tdiv_nat, hdiv]
      refine ⟨by constructor <;> omega, ?_⟩
      conv => whnf
      refine hK _ ?_
      clear hK K
      refine W.region (cx_ok _) (by rfl) ?_
      conv => whnf
      refine ⟨by constructor <;> omega, ?_⟩
      conv => whnf
      refine ⟨_, _, ⟨i + 1, by omega, rfl, rfl⟩, by omega, by dsimp only; omega, ?_⟩
      repeat' first | refine And.intro ?_ ?_ | exact trivial | rfl | omega | exact .inl rfl | exact fun _ _ => rfl | exact fun _ _ h => h | assumption | exact fun i hi => (by obtain rfl : i = 0 := (by omega); rfl)
    have h2 := of_decide_eq_false h2
    have hik : ¬ 0 < k - i := fun h => h2 (by have := hmod.2 h; omega)
    obtain rfl : i = k := by omega
    have e9 : q' ^ (i - i) * prodN M' = prodN M' := by rw [Nat.sub_self, Nat.pow_zero, Nat.one_mul]
    rw [e9]
    refine W.exit (hK1 _ ?_)
    clear hK7 K7 hK1 K1
    refine W.rs (cx_ok _) (by rfl) fun K hK => ?_
    conv => whnf
    refine hK _ (W.cond ⟨fun h3 => ?_, fun h3 => ?_⟩) <;> clear hK K
    · have h3 := of_decide_eq_true h3
      have hb8 : M = (q', i) :: M' := by rw [if_neg (by omega)] at b8; exact b8
      refine W.region (cx_ok _) (by rfl) ?_
      conv => whnf
      refine ⟨⟨rfl, by decide, fun x hx => by simp at hx; subst hx; exact ⟨rfl, rfl⟩⟩, ?_⟩
      conv => whnf
      intro b_8 hs_8 hh_8 hf_8
      try dsimp only at hh_8 hf_8
      conv => whnf
      refine ⟨by omega, ?_⟩
      conv => whnf
      refine ⟨fun j => vP ((A ++ [(q', i)]).getD j (0, 0)), fun j hj => congrArg vP (getD_snoc_l hj), fun j hj => ?_, ?_⟩
      · obtain rfl : j = 0 := by omega
        exact congrArg vP getD_snoc_r
      intro b_9 hs_9 hh_9 hf_9
      try dsimp only at hh_9 hf_9
      conv => whnf
      refine hK8 _ ?_
      clear hK8 K8
      refine W.region (cx_ok _) (by rfl) ?_
      conv => whnf
      refine ⟨by constructor <;> omega, ?_⟩
      conv => whnf
      refine ⟨_, _, ⟨A ++ [(q', i)], M', q' + 1, b_9, by rw [List.append_assoc, ← hA, hb8]; rfl, b6, by omega, b7, by omega, rfl, rfl⟩, by omega, by dsimp only; omega, ?_⟩
      rw [List.length_append (bs := [_])]
      repeat' first | refine And.intro ?_ ?_ | exact trivial | rfl | omega | exact .inl rfl | exact fun _ _ => rfl | exact fun _ _ h => h | assumption | exact fun i hi => (by obtain rfl : i = 0 := (by omega); rfl)
    · have h3 := of_decide_eq_false h3
      have hb8 : M = M' := by rw [if_pos (by omega)] at b8; exact b8
      refine W.skip (hK8 _ ?_)
      clear hK8 K8
      refine W.region (cx_ok _) (by rfl) ?_
      conv => whnf
      refine ⟨by constructor <;> omega, ?_⟩
      conv => whnf
      refine ⟨_, _, ⟨A, M', q' + 1, b, by rw [← hA, hb8], b6, by omega, b7, by omega, rfl, rfl⟩, by omega, by dsimp only; omega, ?_⟩
      repeat' first | refine And.intro ?_ ?_ | exact trivial | rfl | omega | exact .inl rfl | exact fun _ _ => rfl | exact fun _ _ h => h | assumption | exact fun i hi => (by obtain rfl : i = 0 := (by omega); rfl)
  · have h1 := of_decide_eq_false h1
    refine W.exit (hK1 _ ?_)
    clear hK7 K7 hK1 K1
    refine W.seqK fun K1 hK1 => ?_
    have fin : ∀ (b' : Nat) (s : S), base ≤ s.hs → coverK s.env [(3, .ownV 74 2 b' L.length fun i => vP (L.getD i (0, 0)))] → K1 s := by
      intro b' s h5 h6
      refine hK1 _ (W.weak (t := ⟨[(3, .ownV 74 2 b' L.length fun i => vP (L.getD i (0, 0)))], base⟩) ⟨h5, h6⟩ (Nat.le_refl _) ?_)
      clear hK1 K1
      refine W.sw (c' := cxr [0, 2, 3, 4, 5, 11, 17, 24, 32]) (W.rs (cxr_ok _) (by rfl) fun K hK => ?_)
      conv => whnf
      refine hK _ ?_
      clear hK K
      refine W.ret ?_
      conv => whnf
      exact ⟨.v (vPw L), ⟨.inl rfl, rfl, rfl, fun _ _ => rfl⟩, ⟨trivial, fun _ _ => ⟨trivial, trivial, trivial⟩⟩, rfl⟩
    clear hK1
    refine W.rs (cx_ok _) (by rfl) fun K hK => ?_
    conv => whnf
    refine hK _ (W.cond ⟨fun h2 => ?_, fun h2 => ?_⟩) <;> clear hK K
    · have h2 := of_decide_eq_true h2
      have hlast := hM.last b2 (by omega) (by rw [← Int.natCast_mul] at h1; omega)
      have hA2 : A ++ [(prodN M, 1)] = L := by rw [← hlast]; exact hA
      refine W.region (cx_ok _) (by rfl) ?_
      conv => whnf
      refine ⟨⟨rfl, by decide, fun x hx => by simp at hx; subst hx; exact ⟨rfl, rfl⟩⟩, ?_⟩
      conv => whnf
      intro b_8 hs_8 hh_8 hf_8
      try dsimp only at hh_8 hf_8
      conv => whnf
      refine ⟨by omega, ?_⟩
      conv => whnf
      refine ⟨fun j => vP ((A ++ [(prodN M, 1)]).getD j (0, 0)), fun j hj => congrArg vP (getD_snoc_l hj), fun j hj => ?_, ?_⟩
      · obtain rfl : j = 0 := by omega
        exact congrArg vP getD_snoc_r
      intro b_9 hs_9 hh_9 hf_9
      try dsimp only at hh_9 hf_9
      conv => whnf
      refine fin b_9 _ (by dsimp only; omega) ?_
      clear fin
      rw [← hA2, List.length_append (bs := [_])]
      repeat' first | refine And.intro ?_ ?_ | exact trivial | rfl | omega | exact .inl rfl | exact fun _ _ => rfl | exact fun _ _ h => h | assumption | exact fun i hi => (by obtain rfl : i = 0 := (by omega); rfl)
    · have h2 := of_decide_eq_false h2
      have hMe : M = [] := by
        cases M with
        | nil => rfl
        | cons y M' => have := prodN_len hM.pr; rw [List.length_cons] at this; omega
      rw [hMe, List.append_nil] at hA
      subst hA
      refine W.skip (fin b _ (by dsimp only; omega) ?_)
      clear fin
      repeat' first | refine And.intro ?_ ?_ | exact trivial | rfl | omega | exact .inl rfl | exact fun _ _ => rfl | exact fun _ _ h => h | assumption | exact fun i hi => (by obtain rfl : i = 0 := (by omega); rfl)

end Go.Proofs.YtaiahdeegchobabGreat

namespace Go.Proofs.YtaiahdeegchobabGreat
open Go Go.RowKit Go.Proofs Poly
set_option maxRecDepth 100000
set_option maxHeartbeats 8000000

/-- the number of elements of a field -/
theorem fld_q {p : Int} [SP p] {f : Poly p} (hk : IsFld p f.l) {d : Nat} (hd : dg f = d + 1) : (p ^ (f.l.length - 1) : Int) = ((p.toNat ^ d : Nat) : Int) ∧ p.toNat ^ d ≤ 20000 ∧ 2 ≤ p.toNat ^ d := by
  have h2 := Pr.two (p := p)
  have h1 : f.l.length - 1 = d := by have : f.l.length = dg f := rfl; omega
  have h3 : (p ^ (f.l.length - 1) : Int) = ((p.toNat ^ d : Nat) : Int) := by rw [h1, Int.natCast_pow, Int.toNat_of_nonneg (by omega)]
  have h4 := hk.ord
  have h5 := hk.two
  have h6 : p.toNat ^ 1 ≤ p.toNat ^ d := Nat.pow_le_pow_right (by omega) (by omega)
  rw [Nat.pow_one] at h6
  exact ⟨h3, by omega, by omega⟩
theorem one_l_iff {p : Int} [SP p] {f X : Poly p} {e : Nat} (h2 : 2 ≤ dg f) : (rem (X ^ e) f).l = [1] ↔ One f X e := by
  rw [one_iff h2]
  exact ⟨fun h => ext_l (by rw [h, one_l]), fun h => by rw [h, one_l]⟩

theorem orderOf_fn (p : Int) [SP p] (g g1 : Option Nat) (f X : Poly p) (hk : IsFld p f.l) (hi : Irr f) (hX0 : X ≠ 0) (hX : dg X < dg f) (e0 : Nat) (ho : IsOrd f X e0) : FnV 35 [vK p g f.l, .ints g1 X.l] (.int .i64 e0) := by
  have hp := Pr.two (p := p)
  have hp2 := SP.le (p := p)
  have h9 := hk.mod.2.1
  have hl2 := hk.two
  have hfl : f.l.length = dg f := rfl
  have hf0 := hi.ne
  obtain ⟨d, hd⟩ : ∃ d, dg f = d + 1 := ⟨dg f - 1, by omega⟩
  obtain ⟨hq1, hq2, hq3⟩ := fld_q hk hd
  have hfer := fermat hi (small_ndvd hX0 hX) hd
  generalize p.toNat ^ d = q at hq1 hq2 hq3 hfer
  have hL := facL_ok (n := q - 1) (by omega)
  have hLl := prodN_len hL.pr
  rw [hL.prod] at hLl
  generalize facL (q - 1) = L at hL hLl
  have hqi : ((q : Nat) : Int) - 1 = ((q - 1 : Nat) : Int) := by omega
  refine fn_of (cx_ok [0, 1, 2, 4, 5, 7, 12, 13, 14, 15, 19, 20, 21, 29]) Tryz.func35 rfl (by decide) Tryz.ntmps35 (Nat.le_of_ble_eq_true rfl) fun base => ?_
  refine W.rs (cx_ok _) (by rfl) fun K hK => ?_
  conv => whnf
  refine ⟨rfl, ?_⟩
  conv => whnf
  intro b_1 hs_1 hh_1 hf_1
  try dsimp only at hh_1 hf_1
  conv => whnf
  refine hK _ ?_
  clear hK K
  refine W.rs (cx_ok _) (by rfl) fun K hK => ?_
  conv => whnf
  refine callV rfl (order_fn p g f.l (by omega) (by omega) (by omega) (by omega)) fun hs' hhs => ?_
  try dsimp only at hhs
  conv => whnf
  rw [hq1]
  refine ⟨by constructor <;> omega, ?_⟩
  conv => whnf
  rw [hqi]
  refine hK _ ?_
  clear hK K
  refine W.seqK fun K1 hK1 => ?_
  refine W.rs (cx_ok _) (by rfl) fun K hK => ?_
  conv => whnf
  refine callV rfl (factors_fn (q - 1) L hL (by omega)) fun hs' hhs => ?_
  try dsimp only at hhs
  conv => whnf
  refine hK _ (W.block (W.invE (fun m e => ∃ i e' : Nat, i ≤ L.length ∧ OrdI f X (q - 1) L i e' ∧ m = L.length - i ∧ e = [(1, .v (.ints g1 X.l)), (2, .ownB b_1 (vK p g f.l)), (5, .v (.int .i64 e')), (12, .v (vPw L)), (13, .v (.int .i64 L.length)), (14, .v (.int .i64 i))]) _ _ (⟨0, q - 1, Nat.zero_le _, OrdI.start hL (by omega) hfer, rfl, rfl⟩) (by dsimp only; omega) (by repeat' first | refine And.intro ?_ ?_ | exact trivial | rfl | omega | exact .inl rfl | exact fun _ _ => rfl | exact fun _ _ h => h | assumption | exact fun i hi => (by obtain rfl : i = 0 := (by omega); rfl)) ?_))
  clear hK K
  rintro m e ⟨i, e, hi1, hO, hm, rfl⟩
  refine W.rs (cx_ok _) (by rfl) fun K hK => ?_
  conv => whnf
  refine hK _ ?_
  clear hK K
  refine W.seqK fun K7 hK7 => W.cond ⟨fun h1 => ?_, fun h1 => ?_⟩ <;> (first | replace h1 := of_decide_eq_true h1 | replace h1 := of_decide_eq_false h1)
  · have hi2 : i < L.length := by omega
    have hJ := hO.enter hL hi2
    have hpr := hL.pr _ (List.getElem_mem hi2)
    have hstep := fun j e (h : OrdJ f X (q - 1) L i L[i].1 L[i].2 j e) => OrdJ.step (f := f) (x := X) (n := q - 1) (j := j) (e := e) hL hi2 h
    have hleave := fun e h => OrdJ.leave (f := f) (x := X) (n := q - 1) (e := e) hi2 h
    have hxe : L.getD i (0, 0) = L[i] := by rw [List.getD_eq_getElem?_getD, List.getElem?_eq_getElem hi2]; rfl
    have hx2 : L[i].2 ≤ 1000000 := by
      have h3 := Nat.le_of_dvd (by omega) (hL.prod ▸ prodN_dvd (List.getElem_mem hi2))
      have h4 : L[i].2 < L[i].1 ^ L[i].2 := Nat.lt_pow_self (by have := hpr.1.1; omega)
      omega
    have hx1 : L[i].1 ≤ 1000000 := by
      have h3 := Nat.le_of_dvd (by omega) (hL.prod ▸ prodN_dvd (List.getElem_mem hi2))
      have h4 : L[i].1 ^ 1 ≤ L[i].1 ^ L[i].2 := Nat.pow_le_pow_right (by have := hpr.1.1; omega) hpr.2
      rw [Nat.pow_one] at h4; omega
    generalize L[i] = x at hJ hpr hstep hleave hxe hx2 hx1
    obtain ⟨hxp, hxk⟩ := hpr
    have hxp2 := hxp.1
    refine W.skip (hK7 _ ?_)
    clear hK7 K7
    refine W.seqK fun K8 hK8 => W.block ?_
    refine W.rs (cx_ok _) (by rfl) fun K hK => ?_
    conv => whnf
    refine ⟨⟨by omega, by omega⟩, ?_⟩
    conv => whnf
    rw [Int.toNat_natCast, hxe]
    intro b_7 hs_7 hh_7 hf_7
    try dsimp only at hh_7 hf_7
    conv => whnf
    refine ⟨⟨(by show 2 ≤ 2; omega), rfl⟩, ?_⟩
    conv => whnf
    refine hK _ ?_
    clear hK K
    refine W.rs (cx_ok _) (by rfl) fun K hK => ?_
    conv => whnf
    refine hK _ (W.block (W.invE (fun m e => ∃ j e' : Nat, j ≤ x.2 ∧ OrdJ f X (q - 1) L i x.1 x.2 j e' ∧ m = x.2 - j ∧ e = [(1, .v (.ints g1 X.l)), (2, .ownB b_1 (vK p g f.l)), (5, .v (.int .i64 e')), (7, .ownB b_7 (vP x)), (12, .v (vPw L)), (13, .v (.int .i64 L.length)), (14, .v (.int .i64 i)), (19, .v (.int .i64 x.2)), (20, .v (.int .i64 j))]) _ _ (⟨0, e, Nat.zero_le _, hJ, rfl, rfl⟩) (by dsimp only; omega) (by repeat' first | refine And.intro ?_ ?_ | exact trivial | rfl | omega | exact .inl rfl | exact fun _ _ => rfl | exact fun _ _ h => h | assumption | exact fun i hi => (by obtain rfl : i = 0 := (by omega); rfl)) ?_))
    clear hK K
    clear hJ hO e
    rintro m2 e ⟨j, e, hj, hJ, hm2, rfl⟩
    have he1 := hJ.pos
    have he2 := Nat.le_of_dvd (by omega) hJ.dvd
    have he3 := Nat.div_le_self e x.1
    have hst := hstep j e hJ
    have hno : ¬ One f X (e / x.1) → _ := fun h => hJ.stop (j' := j + 1) h
    obtain ⟨v, hv⟩ : ∃ v, e / x.1 = v := ⟨_, rfl⟩
    rw [hv] at he3 hst hno
    refine W.rs (cx_ok _) (by rfl) fun K hK => ?_
    conv => whnf
    refine hK _ ?_
    clear hK K
    refine W.seqK fun K7 hK7 => W.cond ⟨fun h2 => ?_, fun h2 => ?_⟩ <;> (first | replace h2 := of_decide_eq_true h2 | replace h2 := of_decide_eq_false h2)
    · have hj2 : j < x.2 := by omega
      refine W.skip (hK7 _ ?_)
      clear hK7 K7
      refine W.seqK fun K9 hK9 => W.block ?_
      refine W.rd (cx_ok _) follows (by rfl) fun K hK => ?_
      conv => whnf
      refine ⟨by omega, ?_⟩
      conv => whnf
      rw [tdiv_nat, hv]
      refine ⟨by constructor <;> omega, ?_⟩
      conv => whnf
      refine ⟨_, cxF (kPower_fn p g g1 f X v (by omega) (by omega) (by omega) hf0), ?_⟩
      conv => whnf
      refine ⟨_, cxF (isOne_fn none (rem (X ^ v) f).l), ?_⟩
      conv => whnf
      refine hK _ (W.cond ⟨fun h3 => ?_, fun h3 => ?_⟩) <;> clear hK K
      · have h3 := (one_l_iff (by omega)).1 (of_decide_eq_true h3)
        refine W.region (cx_ok _) (by rfl) ?_
        conv => whnf
        refine ⟨by omega, ?_⟩
        conv => whnf
        rw [tdiv_nat, hv]
        refine ⟨by constructor <;> omega, ?_⟩
        conv => whnf
        refine hK9 _ ?_
        clear hK9 K9
        refine W.region (cx_ok _) (by rfl) ?_
        conv => whnf
        refine ⟨by constructor <;> omega, ?_⟩
        conv => whnf
        refine ⟨_, _, ⟨j + 1, v, by omega, (hst hj2 h3).2, rfl, rfl⟩, by omega, by dsimp only; omega, ?_⟩
        repeat' first | refine And.intro ?_ ?_ | exact trivial | rfl | omega | exact .inl rfl | exact fun _ _ => rfl | exact fun _ _ h => h | assumption | exact fun i hi => (by obtain rfl : i = 0 := (by omega); rfl)
      · have h3 := fun h => of_decide_eq_false h3 ((one_l_iff (by omega)).2 h)
        refine W.skip (hK9 _ ?_)
        clear hK9 K9
        refine W.region (cx_ok _) (by rfl) ?_
        conv => whnf
        refine ⟨by constructor <;> omega, ?_⟩
        conv => whnf
        refine ⟨_, _, ⟨j + 1, e, by omega, hno h3, rfl, rfl⟩, by omega, by dsimp only; omega, ?_⟩
        repeat' first | refine And.intro ?_ ?_ | exact trivial | rfl | omega | exact .inl rfl | exact fun _ _ => rfl | exact fun _ _ h => h | assumption | exact fun i hi => (by obtain rfl : i = 0 := (by omega); rfl)
    · obtain rfl : j = x.2 := by omega
      refine W.exit (hK8 _ ?_)
      clear hK7 K7 hK8 K8
      refine W.region (cx_ok _) (by rfl) ?_
      conv => whnf
      refine ⟨by constructor <;> omega, ?_⟩
      conv => whnf
      refine ⟨_, _, ⟨i + 1, e, by omega, hleave e hJ, rfl, rfl⟩, by omega, by dsimp only; omega, ?_⟩
      repeat' first | refine And.intro ?_ ?_ | exact trivial | rfl | omega | exact .inl rfl | exact fun _ _ => rfl | exact fun _ _ h => h | assumption | exact fun i hi => (by obtain rfl : i = 0 := (by omega); rfl)
  · obtain rfl : i = L.length := by omega
    obtain rfl := ho.unique (hO.fin hL)
    refine W.exit (hK1 _ ?_)
    clear hK7 K7 hK1 K1
    refine W.rs (cx_ok _) (by rfl) fun K hK => ?_
    conv => whnf
    refine hK _ ?_
    clear hK K
    refine W.ret ?_
    conv => whnf
    exact ⟨.v (.int .i64 e0), ⟨rfl, rfl⟩, trivial, rfl⟩

theorem l17ElementOrder_fn (p : Int) [SP p] (g g1 : Option Nat) (f X : Poly p) (hk : IsFld p f.l) (hi : Irr f) (hX0 : X ≠ 0) (hX : dg X < dg f) (e0 : Nat) (ho : IsOrd f X e0) : FnV 31 [vK p g f.l, .ints g1 X.l] (.int .i64 e0) := by
  have hp := Pr.two (p := p)
  have hp2 := SP.le (p := p)
  have h9 := hk.mod.2.1
  have hl2 := hk.two
  have hfl : f.l.length = dg f := rfl
  have hf0 := hi.ne
  obtain ⟨d, hd⟩ : ∃ d, dg f = d + 1 := ⟨dg f - 1, by omega⟩
  obtain ⟨hq1, hq2, hq3⟩ := fld_q hk hd
  have hfer := fermat hi (small_ndvd hX0 hX) hd
  generalize p.toNat ^ d = q at hq1 hq2 hq3 hfer
  have hL := facL_ok (n := q - 1) (by omega)
  have hLl := prodN_len hL.pr
  rw [hL.prod] at hLl
  generalize facL (q - 1) = L at hL hLl
  have hqi : ((q : Nat) : Int) - 1 = ((q - 1 : Nat) : Int) := by omega
  refine fn_of (cx_ok [0, 1, 2, 4, 5, 6, 7, 16, 39]) Tryz.func31 rfl (by decide) Tryz.ntmps31 (Nat.le_of_ble_eq_true rfl) fun base => ?_
  refine W.rs (cx_ok _) (by rfl) fun K hK => ?_
  conv => whnf
  refine ⟨rfl, ?_⟩
  conv => whnf
  intro b_1 hs_1 hh_1 hf_1
  try dsimp only at hh_1 hf_1
  conv => whnf
  refine hK _ ?_
  clear hK K
  refine W.rs (cx_ok _) (by rfl) fun K hK => ?_
  conv => whnf
  refine callV rfl (l17Size_fn p g f.l hk) fun hs' hhs => ?_
  try dsimp only at hhs
  conv => whnf
  rw [hq1]
  refine ⟨by constructor <;> omega, ?_⟩
  conv => whnf
  rw [hqi]
  refine hK _ ?_
  clear hK K
  refine W.rs (cx_ok _) (by rfl) fun K hK => ?_
  conv => whnf
  refine callV rfl (l01Factor_fn (q - 1) L hL (by omega)) fun hs' hhs => ?_
  try dsimp only at hhs
  conv => whnf
  refine hK _ ?_
  clear hK K
  refine W.seqK fun K1 hK1 => ?_
  refine W.rs (cx_ok _) (by rfl) fun K hK => ?_
  conv => whnf
  refine hK _ (W.block (W.invE (fun m e => ∃ i e' : Nat, i ≤ L.length ∧ OrdI f X (q - 1) L i e' ∧ m = L.length - i ∧ e = [(1, .v (.ints g1 X.l)), (2, .ownB b_1 (vK p g f.l)), (5, .v (.int .i64 e')), (6, .v (vPw L)), (7, .v (.int .i64 i))]) _ _ (⟨0, q - 1, Nat.zero_le _, OrdI.start hL (by omega) hfer, rfl, rfl⟩) (by dsimp only; omega) (by repeat' first | refine And.intro ?_ ?_ | exact trivial | rfl | omega | exact .inl rfl | exact fun _ _ => rfl | exact fun _ _ h => h | assumption | exact fun i hi => (by obtain rfl : i = 0 := (by omega); rfl)) ?_))
  clear hK K
  rintro m e ⟨i, e, hi1, hO, hm, rfl⟩
  refine W.seqK fun K7 hK7 => W.rs (cx_ok _) (by rfl) fun K hK => ?_
  conv => whnf
  refine hK _ (W.cond ⟨fun h1 => ?_, fun h1 => ?_⟩) <;> clear hK K <;> (first | replace h1 := of_decide_eq_true h1 | replace h1 := of_decide_eq_false h1)
  · have hi2 : i < L.length := by omega
    have hJ := hO.enter hL hi2
    have hpr := hL.pr _ (List.getElem_mem hi2)
    have hstep := fun j e (h : OrdJ f X (q - 1) L i L[i].1 L[i].2 j e) => OrdJ.step (f := f) (x := X) (n := q - 1) (j := j) (e := e) hL hi2 h
    have hleave := fun e h => OrdJ.leave (f := f) (x := X) (n := q - 1) (e := e) hi2 h
    have hxe : L.getD i (0, 0) = L[i] := by rw [List.getD_eq_getElem?_getD, List.getElem?_eq_getElem hi2]; rfl
    have hx1 : L[i].1 ≤ 1000000 := by
      have h3 := Nat.le_of_dvd (by omega) (hL.prod ▸ prodN_dvd (List.getElem_mem hi2))
      have h4 : L[i].1 ^ 1 ≤ L[i].1 ^ L[i].2 := Nat.pow_le_pow_right (by have := hpr.1.1; omega) hpr.2
      rw [Nat.pow_one] at h4; omega
    generalize L[i] = x at hJ hpr hstep hleave hxe hx1
    obtain ⟨hxp, hxk⟩ := hpr
    have hxp2 := hxp.1
    refine W.skip (hK7 _ ?_)
    clear hK7 K7
    refine W.seqK fun K8 hK8 => W.block ?_
    refine W.block (W.invE (fun m e => ∃ j e' : Nat, j ≤ x.2 ∧ OrdJ f X (q - 1) L i x.1 x.2 j e' ∧ m = x.2 - j ∧ e = [(1, .v (.ints g1 X.l)), (2, .ownB b_1 (vK p g f.l)), (5, .v (.int .i64 e')), (6, .v (vPw L)), (7, .v (.int .i64 i))]) _ _ ⟨0, e, Nat.zero_le _, hJ, rfl, rfl⟩ (by dsimp only; omega) (by repeat' first | refine And.intro ?_ ?_ | exact trivial | rfl | omega | exact fun _ _ => rfl) ?_)
    clear hJ hO e
    rintro m2 e ⟨j, e, hj, hJ, hm2, rfl⟩
    have he1 := hJ.pos
    have he2 := Nat.le_of_dvd (by omega) hJ.dvd
    have he3 := Nat.div_le_self e x.1
    have hst := hstep j e hJ
    have hno : ¬ One f X (e / x.1) → _ := fun h => hJ.stop (j' := x.2) h
    have hov : ¬ x.1 ∣ e → _ := fun h => hJ.over h
    have hdj : x.1 ∣ e → One f X (e / x.1) → j < x.2 := fun h1 h2 => by
      rcases hJ.at_ with ⟨m, h3, h4, h5⟩ | h3
      · rcases Nat.lt_or_eq_of_le hj with h6 | h6
        · exact h6
        · rw [h6, Nat.sub_self, Nat.pow_zero, Nat.one_mul] at h3
          exact absurd (h3 ▸ h1) h4
      · exact absurd h2 h3
    obtain ⟨v, hv⟩ : ∃ v, e / x.1 = v := ⟨_, rfl⟩
    rw [hv] at he3 hst hno hdj
    -- the end of this prime
    have fin : OrdJ f X (q - 1) L i x.1 x.2 x.2 e → ∀ s : S, base ≤ s.hs → coverK s.env [(1, .v (.ints g1 X.l)), (2, .ownB b_1 (vK p g f.l)), (5, .v (.int .i64 e)), (6, .v (vPw L)), (7, .v (.int .i64 i))] → K8 s := by
      intro h4 s h5 h6
      refine hK8 _ (W.weak (t := ⟨[(1, .v (.ints g1 X.l)), (2, .ownB b_1 (vK p g f.l)), (5, .v (.int .i64 e)), (6, .v (vPw L)), (7, .v (.int .i64 i))], base⟩) ⟨h5, h6⟩ (Nat.le_refl _) ?_)
      clear hK8 K8
      refine W.region (cx_ok _) (by rfl) ?_
      conv => whnf
      refine ⟨by constructor <;> omega, ?_⟩
      conv => whnf
      refine ⟨_, _, ⟨i + 1, e, by omega, hleave e h4, rfl, rfl⟩, by omega, by dsimp only; omega, ?_⟩
      repeat' first | refine And.intro ?_ ?_ | exact trivial | rfl | omega | exact .inl rfl | exact fun _ _ => rfl | exact fun _ _ h => h | assumption | exact fun i hi => (by obtain rfl : i = 0 := (by omega); rfl)
    clear hK8
    refine W.seqK fun K7 hK7 => ?_
    refine W.rd (cx_ok _) follows (by rfl) fun K hK => ?_
    conv => whnf
    refine ⟨⟨by omega, by omega⟩, ?_⟩
    conv => whnf
    rw [Int.toNat_natCast, hxe]
    refine ⟨by omega, ?_⟩
    conv => whnf
    rw [tmod_nat]
    by_cases hdv : x.1 ∣ e
    · have e1 : decide (((e % x.1 : Nat) : Int) = 0) = true := decide_eq_true (by rw [Nat.mod_eq_zero_of_dvd hdv]; rfl)
      rw [e1]
      conv => whnf
      refine ⟨⟨by omega, by omega⟩, ?_⟩
      conv => whnf
      rw [Int.toNat_natCast, hxe]
      refine ⟨by omega, ?_⟩
      conv => whnf
      rw [tdiv_nat, hv]
      refine ⟨by constructor <;> omega, ?_⟩
      conv => whnf
      refine ⟨_, cxF (l17Power_fn p g g1 f X v (by omega) (by omega) (by omega) hf0), ?_⟩
      conv => whnf
      refine ⟨_, cxF (l17One_fn none (rem (X ^ v) f).l), ?_⟩
      conv => whnf
      refine hK _ (W.cond ⟨fun h3 => ?_, fun h3 => ?_⟩) <;> clear hK K
      · have h3 := (one_l_iff (by omega)).1 (of_decide_eq_true h3)
        have hj2 := hdj hdv h3
        clear fin
        refine W.skip (hK7 _ (W.block ?_))
        clear hK7 K7
        refine W.region (cx_ok _) (by rfl) ?_
        conv => whnf
        refine ⟨⟨by omega, by omega⟩, ?_⟩
        conv => whnf
        rw [Int.toNat_natCast, hxe]
        refine ⟨by omega, ?_⟩
        conv => whnf
        rw [tdiv_nat, hv]
        refine ⟨by constructor <;> omega, ?_⟩
        conv => whnf
        refine ⟨_, _, ⟨j + 1, v, by omega, (hst hj2 h3).2, rfl, rfl⟩, by omega, by dsimp only; omega, ?_⟩
        repeat' first | refine And.intro ?_ ?_ | exact trivial | rfl | omega | exact .inl rfl | exact fun _ _ => rfl | exact fun _ _ h => h | assumption | exact fun i hi => (by obtain rfl : i = 0 := (by omega); rfl)
      · have h3 := fun h => of_decide_eq_false h3 ((one_l_iff (by omega)).2 h)
        refine W.exit (fin (hno h3) _ (by dsimp only; omega) ?_)
        clear fin hK7 K7
        repeat' first | refine And.intro ?_ ?_ | exact trivial | rfl | omega | exact .inl rfl | exact fun _ _ => rfl | exact fun _ _ h => h | assumption | exact fun i hi => (by obtain rfl : i = 0 := (by omega); rfl)
    · have e1 : decide (((e % x.1 : Nat) : Int) = 0) = false := decide_eq_false fun h => hdv (Nat.dvd_of_mod_eq_zero (by omega))
      rw [e1]
      conv => whnf
      refine ⟨rfl, ?_⟩
      conv => whnf
      refine hK _ (W.cond ⟨fun h => absurd h (by decide), fun _ => W.exit (fin (hov hdv) _ (by dsimp only; omega) ?_)⟩)
      clear fin hK K hK7 K7
      repeat' first | refine And.intro ?_ ?_ | exact trivial | rfl | omega | exact .inl rfl | exact fun _ _ => rfl | exact fun _ _ h => h | assumption | exact fun i hi => (by obtain rfl : i = 0 := (by omega); rfl)
  · obtain rfl : i = L.length := by omega
    obtain rfl := ho.unique (hO.fin hL)
    refine W.exit (hK1 _ ?_)
    clear hK7 K7 hK1 K1
    refine W.rs (cx_ok _) (by rfl) fun K hK => ?_
    conv => whnf
    refine hK _ ?_
    clear hK K
    refine W.ret ?_
    conv => whnf
    exact ⟨.v (.int .i64 e0), ⟨rfl, rfl⟩, trivial, rfl⟩

theorem OrderOfElement_both (kp : Int) (kl x : List Int) (_ : inR kp) (hkl : kl.length ≤ 1048576) (hx : x.length ≤ 1048576) : ∃ r0 r1 : Int,
    (∀ g0 g1 : Option Nat, FnV 15 [vK kp g0 kl, .ints g1 x] (.tup [.int .i64 r0, .int .i64 r1])) ∧ (∀ g0 g1 : Option Nat, FnV 16 [vK kp g0 kl, .ints g1 x] (.tup [.int .i64 r0, .int .i64 r1])) := by
  generalize hc : code1 kp kl x = c
  by_cases h0 : c = 0
  case neg =>
    refine ⟨0, c, fun g0 g1 => ?_, fun g0 g1 => ?_⟩
    · refine fn_of (cx_ok [0, 1, 2, 4, 5, 6, 17, 19]) Tryz.func15 rfl (by decide) Tryz.ntmps15 (Nat.le_of_ble_eq_true rfl) fun base => ?_
      refine W.rs (cx_ok _) (by rfl) fun K hK => ?_
      conv => whnf
      refine ⟨rfl, ?_⟩
      conv => whnf
      intro b_1 hs_1 hh_1 hf_1
      try dsimp only at hh_1 hf_1
      conv => whnf
      refine hK _ ?_
      clear hK K
      refine W.rs (cx_ok _) (by rfl) fun K hK => ?_
      conv => whnf
      refine callV rfl (l17Code_one kp g0 g1 g1 kl x (by omega) (by omega)) fun hs' hhs => ?_
      try dsimp only at hhs
      conv => whnf
      rw [hc]
      refine hK _ ?_
      clear hK K
      refine W.seqK fun K1 hK1 => ?_
      refine W.rs (cx_ok _) (by rfl) fun K hK => ?_
      conv => whnf
      refine ⟨fun h => ?_, fun h => ?_⟩ <;> conv => whnf
      · exact absurd (of_decide_eq_true h) h0
      refine hK _ (W.condF rfl (W.skip (hK1 _ ?_)))
      clear hK K hK1 K1
      refine W.seqK fun K1 hK1 => ?_
      refine W.rs (cx_ok _) (by rfl) fun K hK => ?_
      conv => whnf
      refine hK _ (W.cond ⟨fun _ => ?_, fun hcc => absurd h0 (of_decide_eq_false hcc)⟩)
      clear hK K
      refine W.rs (cx_ok _) (by rfl) fun K hK => ?_
      conv => whnf
      refine hK _ ?_
      clear hK K
      refine W.ret ?_
      conv => whnf
      exact ⟨.v (.int .i64 0), ⟨rfl, rfl⟩, trivial, .v (.int .i64 c), ⟨rfl, rfl⟩, trivial, rfl⟩
    · refine fn_of (cx_ok [0, 1, 2, 4, 5, 6, 12, 16]) Tryz.func16 rfl (by decide) Tryz.ntmps16 (Nat.le_of_ble_eq_true rfl) fun base => ?_
      refine W.rs (cx_ok _) (by rfl) fun K hK => ?_
      conv => whnf
      refine ⟨rfl, ?_⟩
      conv => whnf
      intro b_1 hs_1 hh_1 hf_1
      try dsimp only at hh_1 hf_1
      conv => whnf
      refine hK _ ?_
      clear hK K
      refine W.seqK fun K1 hK1 => ?_
      refine W.rs (cx_ok _) (by rfl) fun K hK => ?_
      conv => whnf
      refine ⟨⟨rfl, by decide, fun x hx => (by simp at hx; subst hx; exact ⟨rfl, rfl⟩)⟩, ?_⟩
      conv => whnf
      intro b_2 hs_2 hh_2 hf_2
      try dsimp only at hh_2 hf_2
      conv => whnf
      refine callV rfl (elements_tr kp g0 (some b_2) kl 1 _ (fun _ => x) (by omega) (by omega) (els1 g1 x)) fun hs' hhs => ?_
      try dsimp only at hhs
      conv => whnf
      rw [show codeEl kp kl true 1 (fun _ => x) = c from hc]
      refine hK _ ?_
      clear hK K
      refine W.rs (cx_ok _) (by rfl) fun K hK => ?_
      conv => whnf
      refine hK _ (W.cond ⟨fun _ => ?_, fun hcc => absurd h0 (of_decide_eq_false hcc)⟩)
      clear hK K
      refine W.rs (cx_ok _) (by rfl) fun K hK => ?_
      conv => whnf
      refine hK _ ?_
      clear hK K
      refine W.ret ?_
      conv => whnf
      exact ⟨.v (.int .i64 0), ⟨rfl, rfl⟩, trivial, .v (.int .i64 c), ⟨rfl, rfl⟩, trivial, rfl⟩
  subst h0
  obtain ⟨hk, hh⟩ := code1_ok hc
  obtain ⟨hp, f, rfl, hfi, _, _, hf9⟩ := fld_poly hk
  letI := sp_of hp
  obtain ⟨X, rfl⟩ := mod_poly hh.1
  have hxl : X.l.length < f.l.length := hh.2
  have hfl : f.l.length = dg f := rfl
  have hXl : X.l.length = dg X := rfl
  have hf0 := hfi.ne
  have hp1 := primes_le hp
  by_cases hX0 : X = 0
  case pos =>
    have hX1 : dg X = 0 := dg_eq_zero.2 hX0
    refine ⟨0, 5, fun g0 g1 => ?_, fun g0 g1 => ?_⟩
    · refine fn_of (cx_ok [0, 1, 2, 4, 5, 6, 17, 19]) Tryz.func15 rfl (by decide) Tryz.ntmps15 (Nat.le_of_ble_eq_true rfl) fun base => ?_
      refine W.rs (cx_ok _) (by rfl) fun K hK => ?_
      conv => whnf
      refine ⟨rfl, ?_⟩
      conv => whnf
      intro b_1 hs_1 hh_1 hf_1
      try dsimp only at hh_1 hf_1
      conv => whnf
      refine hK _ ?_
      clear hK K
      refine W.rs (cx_ok _) (by rfl) fun K hK => ?_
      conv => whnf
      refine callV rfl (l17Code_one kp g0 g1 g1 f.l X.l (by omega) (by omega)) fun hs' hhs => ?_
      try dsimp only at hhs
      conv => whnf
      rw [hc]
      refine hK _ ?_
      clear hK K
      refine W.seqK fun K1 hK1 => ?_
      refine W.rs (cx_ok _) (by rfl) fun K hK => ?_
      conv => whnf
      refine ⟨fun h => ?_, fun h => ?_⟩ <;> conv => whnf
      · refine hK _ (W.cond ⟨fun _ => ?_, fun h4 => absurd (of_decide_eq_false h4) (by omega)⟩)
        clear hK K
        refine W.region (cx_ok _) (by rfl) ?_
        conv => whnf
        refine hK1 _ ?_
        clear hK1 K1
        refine W.seqK fun K1 hK1 => ?_
        refine W.rs (cx_ok _) (by rfl) fun K hK => ?_
        conv => whnf
        refine hK _ (W.cond ⟨fun _ => ?_, fun hcc => absurd (by decide : (5 : Int) ≠ 0) (of_decide_eq_false hcc)⟩)
        clear hK K
        refine W.rs (cx_ok _) (by rfl) fun K hK => ?_
        conv => whnf
        refine hK _ ?_
        clear hK K
        refine W.ret ?_
        conv => whnf
        exact ⟨.v (.int .i64 0), ⟨rfl, rfl⟩, trivial, .v (.int .i64 5), ⟨rfl, rfl⟩, trivial, rfl⟩
      · exact absurd rfl (of_decide_eq_false h)
    · refine fn_of (cx_ok [0, 1, 2, 4, 5, 6, 12, 16]) Tryz.func16 rfl (by decide) Tryz.ntmps16 (Nat.le_of_ble_eq_true rfl) fun base => ?_
      refine W.rs (cx_ok _) (by rfl) fun K hK => ?_
      conv => whnf
      refine ⟨rfl, ?_⟩
      conv => whnf
      intro b_1 hs_1 hh_1 hf_1
      try dsimp only at hh_1 hf_1
      conv => whnf
      refine hK _ ?_
      clear hK K
      refine W.seqK fun K1 hK1 => ?_
      refine W.rs (cx_ok _) (by rfl) fun K hK => ?_
      conv => whnf
      refine ⟨⟨rfl, by decide, fun x hx => (by simp at hx; subst hx; exact ⟨rfl, rfl⟩)⟩, ?_⟩
      conv => whnf
      intro b_2 hs_2 hh_2 hf_2
      try dsimp only at hh_2 hf_2
      conv => whnf
      refine callV rfl (elements_tr kp g0 (some b_2) f.l 1 _ (fun _ => X.l) (by omega) (by omega) (els1 g1 X.l)) fun hs' hhs => ?_
      try dsimp only at hhs
      conv => whnf
      rw [show codeEl kp f.l true 1 (fun _ => X.l) = 0 from hc]
      refine hK _ ?_
      clear hK K
      refine W.rs (cx_ok _) (by rfl) fun K hK => ?_
      conv => whnf
      refine hK _ (W.cond ⟨fun hcc => absurd rfl (of_decide_eq_true hcc), fun _ => W.skip (hK1 _ ?_)⟩)
      clear hK K hK1 K1
      refine W.seqK fun K1 hK1 => ?_
      refine W.rs (cx_ok _) (by rfl) fun K hK => ?_
      conv => whnf
      refine hK _ (W.cond ⟨fun _ => ?_, fun h4 => absurd (of_decide_eq_false h4) (by omega)⟩)
      clear hK K
      refine W.rs (cx_ok _) (by rfl) fun K hK => ?_
      conv => whnf
      refine hK _ ?_
      clear hK K
      refine W.ret ?_
      conv => whnf
      exact ⟨.v (.int .i64 0), ⟨rfl, rfl⟩, trivial, .v (.int .i64 5), ⟨rfl, rfl⟩, trivial, rfl⟩
  have hX1 : dg X ≠ 0 := fun e => hX0 (dg_eq_zero.1 e)
  obtain ⟨d, hd⟩ : ∃ d, dg f = d + 1 := ⟨dg f - 1, by have := hfi.1; omega⟩
  obtain ⟨e0, he0⟩ := exists_isOrd _ (by have := (fld_q hk hd).2.2; omega) (fermat hfi (small_ndvd hX0 hxl) hd)
  refine ⟨e0, 0, fun g0 g1 => ?_, fun g0 g1 => ?_⟩
  · refine fn_of (cx_ok [0, 1, 2, 4, 5, 6, 17, 19]) Tryz.func15 rfl (by decide) Tryz.ntmps15 (Nat.le_of_ble_eq_true rfl) fun base => ?_
    refine W.rs (cx_ok _) (by rfl) fun K hK => ?_
    conv => whnf
    refine ⟨rfl, ?_⟩
    conv => whnf
    intro b_1 hs_1 hh_1 hf_1
    try dsimp only at hh_1 hf_1
    conv => whnf
    refine hK _ ?_
    clear hK K
    refine W.rs (cx_ok _) (by rfl) fun K hK => ?_
    conv => whnf
    refine callV rfl (l17Code_one kp g0 g1 g1 f.l X.l (by omega) (by omega)) fun hs' hhs => ?_
    try dsimp only at hhs
    conv => whnf
    rw [hc]
    refine hK _ ?_
    clear hK K
    refine W.seqK fun K1 hK1 => ?_
    refine W.rs (cx_ok _) (by rfl) fun K hK => ?_
    conv => whnf
    refine ⟨fun h => ?_, fun h => ?_⟩ <;> conv => whnf
    · refine hK _ (W.cond ⟨fun h4 => absurd (of_decide_eq_true h4) (by omega), fun _ => W.skip (hK1 _ ?_)⟩)
      clear hK K hK1 K1
      refine W.seqK fun K1 hK1 => ?_
      refine W.rs (cx_ok _) (by rfl) fun K hK => ?_
      conv => whnf
      refine hK _ (W.cond ⟨fun hcc => absurd rfl (of_decide_eq_true hcc), fun _ => W.skip (hK1 _ ?_)⟩)
      clear hK K hK1 K1
      refine W.rs (cx_ok _) (by rfl) fun K hK => ?_
      conv => whnf
      refine callV rfl (l17ElementOrder_fn kp g0 g1 f X hk hfi hX0 hxl e0 he0) fun hs' hhs => ?_
      try dsimp only at hhs
      conv => whnf
      refine hK _ ?_
      clear hK K
      refine W.ret ?_
      conv => whnf
      exact ⟨.v (.int .i64 e0), ⟨rfl, rfl⟩, trivial, .v (.int .i64 0), ⟨rfl, rfl⟩, trivial, rfl⟩
    · exact absurd rfl (of_decide_eq_false h)
  · refine fn_of (cx_ok [0, 1, 2, 4, 5, 6, 12, 16]) Tryz.func16 rfl (by decide) Tryz.ntmps16 (Nat.le_of_ble_eq_true rfl) fun base => ?_
    refine W.rs (cx_ok _) (by rfl) fun K hK => ?_
    conv => whnf
    refine ⟨rfl, ?_⟩
    conv => whnf
    intro b_1 hs_1 hh_1 hf_1
    try dsimp only at hh_1 hf_1
    conv => whnf
    refine hK _ ?_
    clear hK K
    refine W.seqK fun K1 hK1 => ?_
    refine W.rs (cx_ok _) (by rfl) fun K hK => ?_
    conv => whnf
    refine ⟨⟨rfl, by decide, fun x hx => (by simp at hx; subst hx; exact ⟨rfl, rfl⟩)⟩, ?_⟩
    conv => whnf
    intro b_2 hs_2 hh_2 hf_2
    try dsimp only at hh_2 hf_2
    conv => whnf
    refine callV rfl (elements_tr kp g0 (some b_2) f.l 1 _ (fun _ => X.l) (by omega) (by omega) (els1 g1 X.l)) fun hs' hhs => ?_
    try dsimp only at hhs
    conv => whnf
    rw [show codeEl kp f.l true 1 (fun _ => X.l) = 0 from hc]
    refine hK _ ?_
    clear hK K
    refine W.rs (cx_ok _) (by rfl) fun K hK => ?_
    conv => whnf
    refine hK _ (W.cond ⟨fun hcc => absurd rfl (of_decide_eq_true hcc), fun _ => W.skip (hK1 _ ?_)⟩)
    clear hK K hK1 K1
    refine W.seqK fun K1 hK1 => ?_
    refine W.rs (cx_ok _) (by rfl) fun K hK => ?_
    conv => whnf
    refine hK _ (W.cond ⟨fun h4 => absurd (of_decide_eq_true h4) (by omega), fun _ => W.skip (hK1 _ ?_)⟩)
    clear hK K hK1 K1
    refine W.rs (cx_ok _) (by rfl) fun K hK => ?_
    conv => whnf
    refine callV rfl (orderOf_fn kp g0 g1 f X hk hfi hX0 hxl e0 he0) fun hs' hhs => ?_
    try dsimp only at hhs
    conv => whnf
    refine hK _ ?_
    clear hK K
    refine W.ret ?_
    conv => whnf
    exact ⟨.v (.int .i64 e0), ⟨rfl, rfl⟩, trivial, .v (.int .i64 0), ⟨rfl, rfl⟩, trivial, rfl⟩

end Go.Proofs.YtaiahdeegchobabGreat

namespace Go.Proofs.YtaiahdeegchobabGreat
open Go Go.RowKit Go.Proofs Poly
set_option maxRecDepth 100000
set_option maxHeartbeats 8000000

theorem same_fn (g g' : Option Nat) (xs ys : List Int) (hl : xs.length ≤ 1000000000) : FnV 78 [.ints g xs, .ints g' ys] (.bool (decide (xs = ys))) := by
  refine fn_of (cx_ok [0, 1, 4, 5, 10, 14, 25]) Tryz.func78 rfl (by decide) Tryz.ntmps78 (Nat.le_of_ble_eq_true rfl) fun base => ?_
  refine W.rs (cx_ok _) (by rfl) fun K hK => ?_
  conv => whnf
  refine hK _ ?_
  clear hK K
  refine W.seqK fun K1 hK1 => ?_
  refine W.rs (cx_ok _) (by rfl) fun K hK => ?_
  conv => whnf
  refine hK _ (W.cond ⟨fun h => ?_, fun h => ?_⟩) <;> clear hK K
  · have h := of_decide_eq_true h
    refine W.rs (cx_ok _) (by rfl) fun K hK => ?_
    conv => whnf
    refine hK _ ?_
    clear hK K
    refine W.ret ?_
    conv => whnf
    exact ⟨.v (.bool (decide (xs = ys))), (by show decide _ = false; exact decide_eq_false fun e => h (by rw [e])), trivial, rfl⟩
  have h := of_decide_eq_false h
  have hlen : xs.length = ys.length := by omega
  refine W.skip (hK1 _ ?_)
  clear hK1 K1
  refine W.seqK fun K1 hK1 => ?_
  refine W.rs (cx_ok _) (by rfl) fun K hK => ?_
  conv => whnf
  refine hK _ (W.block (W.invE (fun m e => ∃ k : Nat, k ≤ xs.length ∧ (∀ j, j < k → cf xs j = cf ys j) ∧ m = xs.length - k ∧ e = [(0, .v (.ints g xs)), (1, .v (.ints g' ys)), (5, .v (.int .i64 k))]) _ _ (⟨0, Nat.zero_le _, fun j hj => by omega, rfl, rfl⟩) (by dsimp only; omega) (by repeat' first | refine And.intro ?_ ?_ | exact trivial | rfl | omega | exact .inl rfl | exact fun _ _ => rfl | exact fun _ _ h => h | assumption | exact fun i hi => (by obtain rfl : i = 0 := (by omega); rfl)) ?_))
  clear hK K
  rintro m e ⟨k, h1, h2, hm, rfl⟩
  refine W.seqK fun K7 hK7 => W.rs (cx_ok _) (by rfl) fun K hK => ?_
  conv => whnf
  refine hK _ (W.cond ⟨fun h3 => ?_, fun h3 => ?_⟩) <;> clear hK K <;> (first | replace h3 := of_decide_eq_true h3 | replace h3 := of_decide_eq_false h3)
  · refine W.skip (hK7 _ ?_)
    clear hK7 K7
    refine W.seqK fun K8 hK8 => W.block ?_
    refine W.rd (cx_ok _) follows (by rfl) fun K hK => ?_
    conv => whnf
    refine ⟨⟨by omega, by omega⟩, ?_⟩
    conv => whnf
    refine ⟨⟨by omega, by omega⟩, ?_⟩
    conv => whnf
    rw [Int.toNat_natCast]
    refine hK _ (W.cond ⟨fun h4 => ?_, fun h4 => ?_⟩) <;> clear hK K
    · have h4 : cf xs k ≠ cf ys k := of_decide_eq_true h4
      refine W.rs (cx_ok _) (by rfl) fun K hK => ?_
      conv => whnf
      refine hK _ ?_
      clear hK K
      refine W.ret ?_
      conv => whnf
      exact ⟨.v (.bool (decide (xs = ys))), (by show decide _ = false; exact decide_eq_false fun e => h4 (by rw [e])), trivial, rfl⟩
    · have h4 : ¬ cf xs k ≠ cf ys k := of_decide_eq_false h4
      refine W.skip (hK8 _ ?_)
      clear hK8 K8
      refine W.region (cx_ok _) (by rfl) ?_
      conv => whnf
      refine ⟨by constructor <;> omega, ?_⟩
      conv => whnf
      refine ⟨_, _, ⟨k + 1, by omega, fun j hj => by by_cases h9 : j = k; (subst h9; exact Classical.byContradiction h4); exact h2 j (by omega), rfl, rfl⟩, by omega, by dsimp only; omega, ?_⟩
      repeat' first | refine And.intro ?_ ?_ | exact trivial | rfl | omega | exact .inl rfl | exact fun _ _ => rfl | exact fun _ _ h => h | assumption | exact fun i hi => (by obtain rfl : i = 0 := (by omega); rfl)
  · obtain rfl : k = xs.length := by omega
    refine W.exit (hK1 _ ?_)
    clear hK7 K7 hK1 K1
    obtain rfl : xs = ys := list_ext hlen fun j hj => h2 j hj
    refine W.rs (cx_ok _) (by rfl) fun K hK => ?_
    conv => whnf
    refine hK _ ?_
    clear hK K
    refine W.ret ?_
    conv => whnf
    exact ⟨.v (.bool (decide (xs = xs))), (by show decide _ = true; exact decide_eq_true rfl), trivial, rfl⟩

theorem equal_fn (g g' : Option Nat) (xs ys : List Int) (hl : xs.length ≤ 1000000000) : FnV 80 [.ints g xs, .ints g' ys] (.bool (decide (xs = ys))) := by
  refine fn_of (cx_ok [0, 1, 4, 5, 10, 12, 13, 14, 24]) Tryz.func80 rfl (by decide) Tryz.ntmps80 (Nat.le_of_ble_eq_true rfl) fun base => ?_
  refine W.rs (cx_ok _) (by rfl) fun K hK => ?_
  conv => whnf
  refine hK _ ?_
  clear hK K
  refine W.seqK fun K1 hK1 => ?_
  refine W.rs (cx_ok _) (by rfl) fun K hK => ?_
  conv => whnf
  refine hK _ (W.cond ⟨fun h => ?_, fun h => ?_⟩) <;> clear hK K
  · have h := of_decide_eq_true h
    refine W.rs (cx_ok _) (by rfl) fun K hK => ?_
    conv => whnf
    refine hK _ ?_
    clear hK K
    refine W.ret ?_
    conv => whnf
    exact ⟨.v (.bool (decide (xs = ys))), (by show decide _ = false; exact decide_eq_false fun e => h (by rw [e])), trivial, rfl⟩
  have h := of_decide_eq_false h
  have hlen : xs.length = ys.length := by omega
  refine W.skip (hK1 _ ?_)
  clear hK1 K1
  refine W.seqK fun K1 hK1 => ?_
  refine W.rs (cx_ok _) (by rfl) fun K hK => ?_
  conv => whnf
  refine hK _ (W.block (W.invE (fun m e => ∃ k : Nat, k ≤ xs.length ∧ (∀ j, j < k → cf xs j = cf ys j) ∧ m = xs.length - k ∧ e = [(0, .v (.ints g xs)), (1, .v (.ints g' ys)), (12, .v (.int .i64 xs.length)), (13, .v (.int .i64 k))]) _ _ (⟨0, Nat.zero_le _, fun j hj => by omega, rfl, rfl⟩) (by dsimp only; omega) (by repeat' first | refine And.intro ?_ ?_ | exact trivial | rfl | omega | exact .inl rfl | exact fun _ _ => rfl | exact fun _ _ h => h | assumption | exact fun i hi => (by obtain rfl : i = 0 := (by omega); rfl)) ?_))
  clear hK K
  rintro m e ⟨k, h1, h2, hm, rfl⟩
  refine W.rs (cx_ok _) (by rfl) fun K hK => ?_
  conv => whnf
  refine hK _ ?_
  clear hK K
  refine W.seqK fun K7 hK7 => W.cond ⟨fun h3 => ?_, fun h3 => ?_⟩ <;> (first | replace h3 := of_decide_eq_true h3 | replace h3 := of_decide_eq_false h3)
  · refine W.skip (hK7 _ ?_)
    clear hK7 K7
    refine W.seqK fun K8 hK8 => W.block ?_
    refine W.rs (cx_ok _) (by rfl) fun K hK => ?_
    conv => whnf
    refine hK _ ?_
    clear hK K
    refine W.rd (cx_ok _) follows (by rfl) fun K hK => ?_
    conv => whnf
    refine ⟨⟨by omega, by omega⟩, ?_⟩
    conv => whnf
    refine ⟨⟨by omega, by omega⟩, ?_⟩
    conv => whnf
    rw [Int.toNat_natCast]
    refine hK _ (W.cond ⟨fun h4 => ?_, fun h4 => ?_⟩) <;> clear hK K
    · have h4 : cf xs k ≠ cf ys k := of_decide_eq_true h4
      refine W.rs (cx_ok _) (by rfl) fun K hK => ?_
      conv => whnf
      refine hK _ ?_
      clear hK K
      refine W.ret ?_
      conv => whnf
      exact ⟨.v (.bool (decide (xs = ys))), (by show decide _ = false; exact decide_eq_false fun e => h4 (by rw [e])), trivial, rfl⟩
    · have h4 : ¬ cf xs k ≠ cf ys k := of_decide_eq_false h4
      refine W.skip (hK8 _ ?_)
      clear hK8 K8
      refine W.region (cx_ok _) (by rfl) ?_
      conv => whnf
      refine ⟨by constructor <;> omega, ?_⟩
      conv => whnf
      refine ⟨_, _, ⟨k + 1, by omega, fun j hj => by by_cases h9 : j = k; (subst h9; exact Classical.byContradiction h4); exact h2 j (by omega), rfl, rfl⟩, by omega, by dsimp only; omega, ?_⟩
      repeat' first | refine And.intro ?_ ?_ | exact trivial | rfl | omega | exact .inl rfl | exact fun _ _ => rfl | exact fun _ _ h => h | assumption | exact fun i hi => (by obtain rfl : i = 0 := (by omega); rfl)
  · obtain rfl : k = xs.length := by omega
    refine W.exit (hK1 _ ?_)
    clear hK7 K7 hK1 K1
    obtain rfl : xs = ys := list_ext hlen fun j hj => h2 j hj
    refine W.rs (cx_ok _) (by rfl) fun K hK => ?_
    conv => whnf
    refine hK _ ?_
    clear hK K
    refine W.ret ?_
    conv => whnf
    exact ⟨.v (.bool (decide (xs = xs))), (by show decide _ = true; exact decide_eq_true rfl), trivial, rfl⟩

/-- is it primitive -/
def Prim {p : Int} [SP p] (f X : Poly p) : Prop := IsOrd f X (p.toNat ^ (dg f - 1) - 1)
theorem Prim.ne {p : Int} [SP p] {f X : Poly p} (hi : Irr f) (h : Prim f X) : X ≠ 0 := ndvd_ne (h.ndvd hi)
theorem prim_iff {p : Int} [SP p] {f X : Poly p} {d e0 : Nat} (hd : dg f = d + 1) (h : IsOrd f X e0) : bP (Prim f X) = decide (e0 = p.toNat ^ d - 1) := by
  have e1 : dg f - 1 = d := by omega
  unfold Prim
  rw [e1]
  by_cases h1 : e0 = p.toNat ^ d - 1
  · rw [bP_true (h1 ▸ h), decide_eq_true h1]
  · rw [bP_false fun h2 => h1 (h.unique h2), decide_eq_false h1]

theorem isPrimitive_fn (p : Int) [SP p] (g g1 : Option Nat) (f X : Poly p) (hk : IsFld p f.l) (hi : Irr f) (hX : dg X < dg f) : FnV 34 [vK p g f.l, .ints g1 X.l] (.bool (bP (Prim f X))) := by
  have hp := Pr.two (p := p)
  have hp2 := SP.le (p := p)
  have h9 := hk.mod.2.1
  have hl2 := hk.two
  have hfl : f.l.length = dg f := rfl
  have hXl : X.l.length = dg X := rfl
  by_cases hX0 : X = 0
  · have hX1 : dg X = 0 := dg_eq_zero.2 hX0
    have e1 : decide (0 < (X.l.length : Int)) = false := decide_eq_false (by omega)
    refine fn_of (cx_ok [0, 1, 2, 4]) Tryz.func34 rfl (by decide) Tryz.ntmps34 (Nat.le_of_ble_eq_true rfl) fun base => ?_
    refine W.rs (cx_ok _) (by rfl) fun K hK => ?_
    conv => whnf
    refine ⟨rfl, ?_⟩
    conv => whnf
    intro b_1 hs_1 hh_1 hf_1
    try dsimp only at hh_1 hf_1
    conv => whnf
    refine hK _ ?_
    clear hK K
    refine W.rd (cx_ok _) follows (by rfl) fun K hK => ?_
    conv => whnf
    rw [e1]
    conv => whnf
    refine ⟨rfl, ?_⟩
    conv => whnf
    refine hK _ ?_
    clear hK K
    refine W.ret ?_
    conv => whnf
    exact ⟨.v (.bool (bP (Prim f X))), (bP_false fun h => h.ne hi hX0).symm, trivial, rfl⟩
  have hX1 : dg X ≠ 0 := fun e => hX0 (dg_eq_zero.1 e)
  have e1 : decide (0 < (X.l.length : Int)) = true := decide_eq_true (by omega)
  obtain ⟨d, hd⟩ : ∃ d, dg f = d + 1 := ⟨dg f - 1, by omega⟩
  obtain ⟨hq1, hq2, hq3⟩ := fld_q hk hd
  obtain ⟨e0, he0⟩ := exists_isOrd _ (by omega) (fermat hi (small_ndvd hX0 hX) hd)
  have hpi := prim_iff hd he0
  refine fn_of (cx_ok [0, 1, 2, 4]) Tryz.func34 rfl (by decide) Tryz.ntmps34 (Nat.le_of_ble_eq_true rfl) fun base => ?_
  refine W.rs (cx_ok _) (by rfl) fun K hK => ?_
  conv => whnf
  refine ⟨rfl, ?_⟩
  conv => whnf
  intro b_1 hs_1 hh_1 hf_1
  try dsimp only at hh_1 hf_1
  conv => whnf
  refine hK _ ?_
  clear hK K
  refine W.rd (cx_ok _) follows (by rfl) fun K hK => ?_
  conv => whnf
  rw [e1]
  conv => whnf
  refine ⟨_, cxF (orderOf_fn p g g1 f X hk hi hX0 hX e0 he0), ?_⟩
  conv => whnf
  refine ⟨_, cxF (order_fn p g f.l (by omega) (by omega) (by omega) (by omega)), ?_⟩
  conv => whnf
  rw [hq1]
  refine ⟨by constructor <;> omega, ?_⟩
  conv => whnf
  refine hK _ ?_
  clear hK K
  refine W.ret ?_
  conv => whnf
  exact ⟨.v (.bool (bP (Prim f X))), (by show decide _ = bP _; rw [hpi]; exact decide_eq_decide.2 ⟨fun h => by omega, fun h => by omega⟩), trivial, rfl⟩

theorem IsPrimitive_both (kp : Int) (kl x : List Int) (_ : inR kp) (hkl : kl.length ≤ 1048576) (hx : x.length ≤ 1048576) : ∃ (r0 : Bool) (r1 : Int),
    (∀ g0 g1 : Option Nat, FnV 9 [vK kp g0 kl, .ints g1 x] (.tup [.bool r0, .int .i64 r1])) ∧ (∀ g0 g1 : Option Nat, FnV 12 [vK kp g0 kl, .ints g1 x] (.tup [.bool r0, .int .i64 r1])) := by
  generalize hc : code1 kp kl x = c
  by_cases h0 : c = 0
  case neg =>
    refine ⟨false, c, fun g0 g1 => ?_, fun g0 g1 => ?_⟩
    · refine fn_of (cx_ok [0, 1, 2, 4, 5, 6, 12]) Tryz.func9 rfl (by decide) Tryz.ntmps9 (Nat.le_of_ble_eq_true rfl) fun base => ?_
      refine W.rs (cx_ok _) (by rfl) fun K hK => ?_
      conv => whnf
      refine ⟨rfl, ?_⟩
      conv => whnf
      intro b_1 hs_1 hh_1 hf_1
      try dsimp only at hh_1 hf_1
      conv => whnf
      refine hK _ ?_
      clear hK K
      refine W.rs (cx_ok _) (by rfl) fun K hK => ?_
      conv => whnf
      refine callV rfl (l17Code_one kp g0 g1 g1 kl x (by omega) (by omega)) fun hs' hhs => ?_
      try dsimp only at hhs
      conv => whnf
      rw [hc]
      refine hK _ ?_
      clear hK K
      refine W.seqK fun K1 hK1 => ?_
      refine W.rs (cx_ok _) (by rfl) fun K hK => ?_
      conv => whnf
      refine hK _ (W.cond ⟨fun _ => ?_, fun hcc => absurd h0 (of_decide_eq_false hcc)⟩)
      clear hK K
      refine W.rs (cx_ok _) (by rfl) fun K hK => ?_
      conv => whnf
      refine hK _ ?_
      clear hK K
      refine W.ret ?_
      conv => whnf
      exact ⟨.v (.bool false), rfl, trivial, .v (.int .i64 c), ⟨rfl, rfl⟩, trivial, rfl⟩
    · refine fn_of (cx_ok [0, 1, 2, 4, 5, 6, 12]) Tryz.func12 rfl (by decide) Tryz.ntmps12 (Nat.le_of_ble_eq_true rfl) fun base => ?_
      refine W.rs (cx_ok _) (by rfl) fun K hK => ?_
      conv => whnf
      refine ⟨rfl, ?_⟩
      conv => whnf
      intro b_1 hs_1 hh_1 hf_1
      try dsimp only at hh_1 hf_1
      conv => whnf
      refine hK _ ?_
      clear hK K
      refine W.seqK fun K1 hK1 => ?_
      refine W.rs (cx_ok _) (by rfl) fun K hK => ?_
      conv => whnf
      refine ⟨⟨rfl, by decide, fun x hx => (by simp at hx; subst hx; exact ⟨rfl, rfl⟩)⟩, ?_⟩
      conv => whnf
      intro b_2 hs_2 hh_2 hf_2
      try dsimp only at hh_2 hf_2
      conv => whnf
      refine callV rfl (elements_tr kp g0 (some b_2) kl 1 _ (fun _ => x) (by omega) (by omega) (els1 g1 x)) fun hs' hhs => ?_
      try dsimp only at hhs
      conv => whnf
      rw [show codeEl kp kl true 1 (fun _ => x) = c from hc]
      refine hK _ ?_
      clear hK K
      refine W.rs (cx_ok _) (by rfl) fun K hK => ?_
      conv => whnf
      refine hK _ (W.cond ⟨fun _ => ?_, fun hcc => absurd h0 (of_decide_eq_false hcc)⟩)
      clear hK K
      refine W.rs (cx_ok _) (by rfl) fun K hK => ?_
      conv => whnf
      refine hK _ ?_
      clear hK K
      refine W.ret ?_
      conv => whnf
      exact ⟨.v (.bool false), rfl, trivial, .v (.int .i64 c), ⟨rfl, rfl⟩, trivial, rfl⟩
  subst h0
  obtain ⟨hk, hh⟩ := code1_ok hc
  obtain ⟨hp, f, rfl, hfi, _, _, hf9⟩ := fld_poly hk
  letI := sp_of hp
  obtain ⟨X, rfl⟩ := mod_poly hh.1
  have hxl : X.l.length < f.l.length := hh.2
  have hfl : f.l.length = dg f := rfl
  have hXl : X.l.length = dg X := rfl
  have hf0 := hfi.ne
  have hp1 := primes_le hp
  refine ⟨bP (Prim f X), 0, fun g0 g1 => ?_, fun g0 g1 => ?_⟩
  · by_cases hX0 : X = 0
    · have hX1 : dg X = 0 := dg_eq_zero.2 hX0
      have e1 : decide (0 < (X.l.length : Int)) = false := decide_eq_false (by omega)
      refine fn_of (cx_ok [0, 1, 2, 4, 5, 6, 12]) Tryz.func9 rfl (by decide) Tryz.ntmps9 (Nat.le_of_ble_eq_true rfl) fun base => ?_
      refine W.rs (cx_ok _) (by rfl) fun K hK => ?_
      conv => whnf
      refine ⟨rfl, ?_⟩
      conv => whnf
      intro b_1 hs_1 hh_1 hf_1
      try dsimp only at hh_1 hf_1
      conv => whnf
      refine hK _ ?_
      clear hK K
      refine W.rs (cx_ok _) (by rfl) fun K hK => ?_
      conv => whnf
      refine callV rfl (l17Code_one kp g0 g1 g1 f.l X.l (by omega) (by omega)) fun hs' hhs => ?_
      try dsimp only at hhs
      conv => whnf
      rw [hc]
      refine hK _ ?_
      clear hK K
      refine W.seqK fun K1 hK1 => ?_
      refine W.rs (cx_ok _) (by rfl) fun K hK => ?_
      conv => whnf
      refine hK _ (W.cond ⟨fun hcc => absurd rfl (of_decide_eq_true hcc), fun _ => W.skip (hK1 _ ?_)⟩)
      clear hK K hK1 K1
      refine W.rd (cx_ok _) follows (by rfl) fun K hK => ?_
      conv => whnf
      rw [e1]
      conv => whnf
      refine ⟨rfl, ?_⟩
      conv => whnf
      refine hK _ ?_
      clear hK K
      refine W.ret ?_
      conv => whnf
      exact ⟨.v (.bool (bP (Prim f X))), (bP_false fun h => h.ne hfi hX0).symm, trivial, .v (.int .i64 0), ⟨rfl, rfl⟩, trivial, rfl⟩
    have hX1 : dg X ≠ 0 := fun e => hX0 (dg_eq_zero.1 e)
    have e1 : decide (0 < (X.l.length : Int)) = true := decide_eq_true (by omega)
    obtain ⟨d, hd⟩ : ∃ d, dg f = d + 1 := ⟨dg f - 1, by omega⟩
    obtain ⟨hq1, hq2, hq3⟩ := fld_q hk hd
    obtain ⟨e0, he0⟩ := exists_isOrd _ (by omega) (fermat hfi (small_ndvd hX0 hxl) hd)
    have hpi := prim_iff hd he0
    refine fn_of (cx_ok [0, 1, 2, 4, 5, 6, 12]) Tryz.func9 rfl (by decide) Tryz.ntmps9 (Nat.le_of_ble_eq_true rfl) fun base => ?_
    refine W.rs (cx_ok _) (by rfl) fun K hK => ?_
    conv => whnf
    refine ⟨rfl, ?_⟩
    conv => whnf
    intro b_1 hs_1 hh_1 hf_1
    try dsimp only at hh_1 hf_1
    conv => whnf
    refine hK _ ?_
    clear hK K
    refine W.rs (cx_ok _) (by rfl) fun K hK => ?_
    conv => whnf
    refine callV rfl (l17Code_one kp g0 g1 g1 f.l X.l (by omega) (by omega)) fun hs' hhs => ?_
    try dsimp only at hhs
    conv => whnf
    rw [hc]
    refine hK _ ?_
    clear hK K
    refine W.seqK fun K1 hK1 => ?_
    refine W.rs (cx_ok _) (by rfl) fun K hK => ?_
    conv => whnf
    refine hK _ (W.cond ⟨fun hcc => absurd rfl (of_decide_eq_true hcc), fun _ => W.skip (hK1 _ ?_)⟩)
    clear hK K hK1 K1
    refine W.rd (cx_ok _) follows (by rfl) fun K hK => ?_
    conv => whnf
    rw [e1]
    conv => whnf
    refine ⟨_, cxF (l17ElementOrder_fn kp g0 g1 f X hk hfi hX0 hxl e0 he0), ?_⟩
    conv => whnf
    refine ⟨_, cxF (l17Size_fn kp g0 f.l hk), ?_⟩
    conv => whnf
    rw [hq1]
    refine ⟨by constructor <;> omega, ?_⟩
    conv => whnf
    refine hK _ ?_
    clear hK K
    refine W.ret ?_
    conv => whnf
    exact ⟨.v (.bool (bP (Prim f X))), (by show decide _ = bP _; rw [hpi]; exact decide_eq_decide.2 ⟨fun h => by omega, fun h => by omega⟩), trivial, .v (.int .i64 0), ⟨rfl, rfl⟩, trivial, rfl⟩
  · refine fn_of (cx_ok [0, 1, 2, 4, 5, 6, 12]) Tryz.func12 rfl (by decide) Tryz.ntmps12 (Nat.le_of_ble_eq_true rfl) fun base => ?_
    refine W.rs (cx_ok _) (by rfl) fun K hK => ?_
    conv => whnf
    refine ⟨rfl, ?_⟩
    conv => whnf
    intro b_1 hs_1 hh_1 hf_1
    try dsimp only at hh_1 hf_1
    conv => whnf
    refine hK _ ?_
    clear hK K
    refine W.seqK fun K1 hK1 => ?_
    refine W.rs (cx_ok _) (by rfl) fun K hK => ?_
    conv => whnf
    refine ⟨⟨rfl, by decide, fun x hx => (by simp at hx; subst hx; exact ⟨rfl, rfl⟩)⟩, ?_⟩
    conv => whnf
    intro b_2 hs_2 hh_2 hf_2
    try dsimp only at hh_2 hf_2
    conv => whnf
    refine callV rfl (elements_tr kp g0 (some b_2) f.l 1 _ (fun _ => X.l) (by omega) (by omega) (els1 g1 X.l)) fun hs' hhs => ?_
    try dsimp only at hhs
    conv => whnf
    rw [show codeEl kp f.l true 1 (fun _ => X.l) = 0 from hc]
    refine hK _ ?_
    clear hK K
    refine W.rs (cx_ok _) (by rfl) fun K hK => ?_
    conv => whnf
    refine hK _ (W.cond ⟨fun hcc => absurd rfl (of_decide_eq_true hcc), fun _ => W.skip (hK1 _ ?_)⟩)
    clear hK K hK1 K1
    refine W.rs (cx_ok _) (by rfl) fun K hK => ?_
    conv => whnf
    refine callV rfl (isPrimitive_fn kp g0 g1 f X hk hfi hxl) fun hs' hhs => ?_
    try dsimp only at hhs
    conv => whnf
    refine hK _ ?_
    clear hK K
    refine W.ret ?_
    conv => whnf
    exact ⟨.v (.bool (bP (Prim f X))), rfl, trivial, .v (.int .i64 0), ⟨rfl, rfl⟩, trivial, rfl⟩

end Go.Proofs.YtaiahdeegchobabGreat

namespace Go.Proofs.YtaiahdeegchobabGreat
open Go Go.RowKit Go.Proofs Poly
set_option maxRecDepth 100000
set_option maxHeartbeats 8000000


/-- the number of the least primitive element -/
theorem exists_least {p : Int} [SP p] {f : Poly p} (hk : IsFld p f.l) (hi : Irr f) : ∃ n, 1 ≤ n ∧ n < p.toNat ^ (dg f - 1) ∧ Prim f (polyN p n) ∧ ∀ k, 1 ≤ k → k < n → ¬ Prim f (polyN p k) := by
  obtain ⟨d, hd⟩ : ∃ d, dg f = d + 1 := ⟨dg f - 1, by have := hi.1; omega⟩
  obtain ⟨hq1, hq2, hq3⟩ := fld_q hk hd
  obtain ⟨z, hz⟩ := exists_prim hi hd (facL_ok (n := p.toNat ^ d - 1) (by omega)).fac (by omega)
  have hz2 := (isOrd_rem hi.1).2 hz
  have h0 := ndvd_ne (hz2.ndvd hi)
  have h1 := rem_lt z hi.ne
  have e1 : dg f - 1 = d := by omega
  obtain ⟨r, hr⟩ := exists_first (fun n => Prim f (polyN p n)) 1 (p.toNat ^ (dg f - 1))
  cases r with
  | none =>
    refine absurd ?_ (hr (nm (rem z f)) (nm_pos h0) (nm_lt _ (by omega)))
    show Prim f (polyN p (nm (rem z f)))
    rw [polyN_nm]; unfold Prim; rw [e1]; exact hz2
  | some m => exact ⟨m, hr⟩

theorem l19Least_fn (p : Int) [SP p] (g : Option Nat) (f : Poly p) (hk : IsFld p f.l) (hi : Irr f) (n : Nat) (hn1 : 1 ≤ n) (hn2 : n < p.toNat ^ (dg f - 1)) (hn3 : Prim f (polyN p n)) (hn4 : ∀ k, 1 ≤ k → k < n → ¬ Prim f (polyN p k)) : FnV 46 [vK p g f.l] (.ints none (polyN p n).l) := by
  have hp := Pr.two (p := p)
  have hp2 := SP.le (p := p)
  have h9 := hk.mod.2.1
  have hl2 := hk.two
  have hfl : f.l.length = dg f := rfl
  have hf0 := hi.ne
  obtain ⟨d, hd⟩ : ∃ d, dg f = d + 1 := ⟨dg f - 1, by omega⟩
  obtain ⟨hq1, hq2, hq3⟩ := fld_q hk hd
  have hpd : ∀ {k : Nat}, k < p.toNat ^ d → dg (polyN p k) < dg f := fun {k} h => by have := polyN_dg (p := p) h; omega
  have hnl : ∀ k : Nat, dig p.toNat k = (polyN p k).l := fun k => (polyN_l k).symm
  have hfm : ∀ {X : Poly p}, X ≠ 0 → dg X < dg f → One f X (p.toNat ^ d - 1) := fun h h' => fermat hi (small_ndvd h h') hd
  have hpi : ∀ {X : Poly p} {e0 : Nat}, IsOrd f X e0 → bP (Prim f X) = decide (e0 = p.toNat ^ d - 1) := fun h => prim_iff hd h
  rw [show dg f - 1 = d by omega] at hn2
  refine fn_of (cx_ok [0, 1, 2, 3, 12]) Tryz.func46 rfl (by decide) Tryz.ntmps46 (Nat.le_of_ble_eq_true rfl) fun base => ?_
  refine W.rs (cx_ok _) (by rfl) fun K hK => ?_
  conv => whnf
  refine ⟨rfl, ?_⟩
  conv => whnf
  intro b_1 hs_1 hh_1 hf_1
  try dsimp only at hh_1 hf_1
  conv => whnf
  refine hK _ ?_
  clear hK K
  refine W.rs (cx_ok _) (by rfl) fun K hK => ?_
  conv => whnf
  refine hK _ ?_
  clear hK K
  refine W.seqK fun K1 hK1 => W.block (W.invE (fun m e => ∃ k : Nat, 1 ≤ k ∧ k ≤ n ∧ m = n - k ∧ e = [(1, .ownB b_1 (vK p g f.l)), (3, .v (.int .i64 k))]) _ _ (⟨1, Nat.le_refl _, hn1, rfl, rfl⟩) (by dsimp only; omega) (by repeat' first | refine And.intro ?_ ?_ | exact trivial | rfl | omega | exact .inl rfl | exact fun _ _ => rfl | exact fun _ _ h => h | assumption | exact fun i hi => (by obtain rfl : i = 0 := (by omega); rfl)) ?_)
  rintro m e ⟨k, hk1, hk2, hm, rfl⟩
  obtain ⟨e0, he0⟩ := exists_isOrd _ (by omega) (hfm (polyN_ne (p := p) (n := k) (by omega)) (hpd (by omega)))
  have hpk := hpi he0
  refine W.seqK fun K7 hK7 => ?_
  refine W.rd (cx_ok _) follows (by rfl) fun K hK => ?_
  conv => whnf
  refine ⟨_, cxF (l17With_fn p g f.l k (by omega) (by omega)), ?_⟩
  conv => whnf
  rw [hnl k]
  refine ⟨_, cxF (l17ElementOrder_fn p g none f (polyN p k) hk hi (polyN_ne (by omega)) (hpd (by omega)) e0 he0), ?_⟩
  conv => whnf
  refine ⟨_, cxF (l17Size_fn p g f.l hk), ?_⟩
  conv => whnf
  rw [hq1]
  refine ⟨by constructor <;> omega, ?_⟩
  conv => whnf
  refine hK _ (W.cond ⟨fun h => ?_, fun h => ?_⟩) <;> clear hK K
  · have h := of_decide_eq_true h
    have hne : k ≠ n := fun h2 => by
      subst h2
      rw [bP_true hn3] at hpk
      have := of_decide_eq_true hpk.symm
      omega
    refine W.skip (hK7 _ (W.block ?_))
    clear hK7 K7
    refine W.region (cx_ok _) (by rfl) ?_
    conv => whnf
    refine ⟨by constructor <;> omega, ?_⟩
    conv => whnf
    refine ⟨_, _, ⟨k + 1, by omega, by omega, rfl, rfl⟩, by omega, by dsimp only; omega, ?_⟩
    repeat' first | refine And.intro ?_ ?_ | exact trivial | rfl | omega | exact .inl rfl | exact fun _ _ => rfl | exact fun _ _ h => h | assumption | exact fun i hi => (by obtain rfl : i = 0 := (by omega); rfl)
  · have h := of_decide_eq_false h
    obtain rfl : k = n := Classical.byContradiction fun h2 => by
      rw [bP_false (hn4 k hk1 (by omega))] at hpk
      have := of_decide_eq_false hpk.symm
      omega
    refine W.exit (hK1 _ ?_)
    clear hK7 K7 hK1 K1
    refine W.rs (cx_ok _) (by rfl) fun K hK => ?_
    conv => whnf
    refine callV rfl (l17With_fn p g f.l k (by omega) (by omega)) fun hs' hhs => ?_
    try dsimp only at hhs
    conv => whnf
    rw [hnl k]
    refine hK _ ?_
    clear hK K
    refine W.ret ?_
    conv => whnf
    exact ⟨.v (.ints none (polyN p k).l), ⟨rfl, rfl⟩, trivial, rfl⟩

theorem LeastPrimitive_both (kp : Int) (kl : List Int) (_ : inR kp) (hkl : kl.length ≤ 1048576) : ∃ (r0 : List Int) (r1 : Int),
    (∀ g0 : Option Nat, FnV 22 [vK kp g0 kl] (.tup [.ints none r0, .int .i64 r1])) ∧ (∀ g0 : Option Nat, FnT Tryz.prog 23 [vK kp g0 kl] (RT r0 r1)) ∧ r0.length ≤ 1000000 := by
  by_cases hk : IsFld kp kl
  case neg =>
    have hc : codeEl kp kl true 0 (fun _ => []) = 1 := by unfold codeEl; rw [bP_false hk]; rfl
    refine ⟨[], 1, fun g0 => ?_, fun g0 => ?_, by simp⟩
    · refine fn_of (cx_ok [0, 1, 2, 3, 6]) Tryz.func22 rfl (by decide) Tryz.ntmps22 (Nat.le_of_ble_eq_true rfl) fun base => ?_
      refine W.rs (cx_ok _) (by rfl) fun K hK => ?_
      conv => whnf
      refine ⟨rfl, ?_⟩
      conv => whnf
      intro b_1 hs_1 hh_1 hf_1
      try dsimp only at hh_1 hf_1
      conv => whnf
      refine hK _ ?_
      clear hK K
      refine W.seqK fun K1 hK1 => ?_
      refine W.rs (cx_ok _) (by rfl) fun K hK => ?_
      conv => whnf
      refine callV rfl ((isFieldS_fn kp g0 kl (by omega)).fa (bP_false hk)) fun hs' hhs => ?_
      try dsimp only at hhs
      conv => whnf
      refine hK _ (W.condT rfl ?_)
      clear hK K
      refine W.rs (cx_ok _) (by rfl) fun K hK => ?_
      conv => whnf
      refine hK _ ?_
      clear hK K
      refine W.ret ?_
      conv => whnf
      exact ⟨.v (.ints none []), rfl, trivial, .v (.int .i64 1), ⟨rfl, rfl⟩, trivial, rfl⟩
    · refine fnt_of (cxt_ok [] [0, 1, 2, 3, 4, 5, 9, 17, 1000000]) Tryz.func23 rfl (by decide) Tryz.ntmps23 (Nat.le_of_ble_eq_true rfl) (fun base => ?_) (Nat.le_of_ble_eq_true rfl)
      refine W.sw (c' := cx [0, 1, 2, 3, 4, 5, 9, 17, 1000000]) ?_
      refine W.rs (cx_ok _) (by rfl) fun K hK => ?_
      conv => whnf
      refine ⟨rfl, ?_⟩
      conv => whnf
      intro b_1 hs_1 hh_1 hf_1
      try dsimp only at hh_1 hf_1
      conv => whnf
      refine hK _ ?_
      clear hK K
      refine W.seqK fun K1 hK1 => ?_
      refine W.rs (cx_ok _) (by rfl) fun K hK => ?_
      conv => whnf
      refine callV rfl (elements_tr kp g0 none kl 0 _ (fun _ => []) (by omega) (by omega) (fun i hi => by omega)) fun hs' hhs => ?_
      try dsimp only at hhs
      conv => whnf
      rw [hc]
      refine hK _ ?_
      clear hK K
      refine W.rs (cx_ok _) (by rfl) fun K hK => ?_
      conv => whnf
      refine hK _ (W.cond ⟨fun _ => ?_, fun hcc => absurd (by decide : (1 : Int) ≠ 0) (of_decide_eq_false hcc)⟩)
      clear hK K
      refine W.rs (cx_ok _) (by rfl) fun K hK => ?_
      conv => whnf
      refine hK _ ?_
      clear hK K
      refine W.ret ?_
      conv => whnf
      exact ⟨.v (.rf 0 0), rfl, trivial, .v (.int .i64 (1)), ⟨rfl, rfl⟩, trivial, 0, rfl, fun hne => absurd rfl hne⟩
  have hc : codeEl kp kl true 0 (fun _ => []) = 0 := by unfold codeEl; rw [bP_true hk, bP_true (fun i hi => by omega)]; rfl
  have hkk := hk
  obtain ⟨hp, f, rfl, hi, _, _, hf9⟩ := fld_poly hk
  letI := sp_of hp
  obtain ⟨n, hn1, hn2, hn3, hn4⟩ := exists_least hk hi
  clear hkk
  have hp1 := primes_le hp
  have hfl : f.l.length = dg f := rfl
  obtain ⟨d, hd⟩ : ∃ d, dg f = d + 1 := ⟨dg f - 1, by have := hi.1; omega⟩
  obtain ⟨hq1, hq2, hq3⟩ := fld_q hk hd
  have e1 : dg f - 1 = d := by omega
  have hpd : ∀ {k : Nat}, k < kp.toNat ^ d → dg (polyN kp k) < dg f := fun {k} h => by have := polyN_dg (p := kp) h; omega
  have hnl : ∀ k : Nat, dig kp.toNat k = (polyN kp k).l := fun k => (polyN_l k).symm
  rw [e1] at hn2
  have hnd := hpd hn2
  have hNl : (polyN kp n).l.length = dg (polyN kp n) := rfl
  refine ⟨(polyN kp n).l, 0, fun g0 => ?_, fun g0 => ?_, by omega⟩
  · refine fn_of (cx_ok [0, 1, 2, 3, 6]) Tryz.func22 rfl (by decide) Tryz.ntmps22 (Nat.le_of_ble_eq_true rfl) fun base => ?_
    refine W.rs (cx_ok _) (by rfl) fun K hK => ?_
    conv => whnf
    refine ⟨rfl, ?_⟩
    conv => whnf
    intro b_1 hs_1 hh_1 hf_1
    try dsimp only at hh_1 hf_1
    conv => whnf
    refine hK _ ?_
    clear hK K
    refine W.seqK fun K1 hK1 => ?_
    refine W.rs (cx_ok _) (by rfl) fun K hK => ?_
    conv => whnf
    refine callV rfl ((isFieldS_fn kp g0 f.l (by omega)).tr (bP_true hk)) fun hs' hhs => ?_
    try dsimp only at hhs
    conv => whnf
    refine hK _ (W.condF rfl (W.skip (hK1 _ ?_)))
    clear hK K hK1 K1
    refine W.rs (cx_ok _) (by rfl) fun K hK => ?_
    conv => whnf
    refine callV rfl (l19Least_fn kp g0 f hk hi n hn1 (by rw [e1]; exact hn2) hn3 hn4) fun hs' hhs => ?_
    try dsimp only at hhs
    conv => whnf
    refine hK _ ?_
    clear hK K
    refine W.ret ?_
    conv => whnf
    exact ⟨.v (.ints none (polyN kp n).l), ⟨rfl, rfl⟩, trivial, .v (.int .i64 0), ⟨rfl, rfl⟩, trivial, rfl⟩
  · refine fnt_of (cxt_ok [] [0, 1, 2, 3, 4, 5, 9, 17, 1000000]) Tryz.func23 rfl (by decide) Tryz.ntmps23 (Nat.le_of_ble_eq_true rfl) (fun base => ?_) (Nat.le_of_ble_eq_true rfl)
    refine W.sw (c' := cx [0, 1, 2, 3, 4, 5, 9, 17, 1000000]) ?_
    refine W.rs (cx_ok _) (by rfl) fun K hK => ?_
    conv => whnf
    refine ⟨rfl, ?_⟩
    conv => whnf
    intro b_1 hs_1 hh_1 hf_1
    try dsimp only at hh_1 hf_1
    conv => whnf
    refine hK _ ?_
    clear hK K
    refine W.seqK fun K1 hK1 => ?_
    refine W.rs (cx_ok _) (by rfl) fun K hK => ?_
    conv => whnf
    refine callV rfl (elements_tr kp g0 none f.l 0 _ (fun _ => []) (by omega) (by omega) (fun i hi => by omega)) fun hs' hhs => ?_
    try dsimp only at hhs
    conv => whnf
    rw [hc]
    refine hK _ ?_
    clear hK K
    refine W.rs (cx_ok _) (by rfl) fun K hK => ?_
    conv => whnf
    refine hK _ (W.cond ⟨fun hcc => absurd rfl (of_decide_eq_true hcc), fun _ => W.skip (hK1 _ ?_)⟩)
    clear hK K hK1 K1
    refine W.rs (cx_ok _) (by rfl) fun K hK => ?_
    conv => whnf
    refine hK _ ?_
    clear hK K
    refine W.seqK fun K1 hK1 => W.block (W.invE (fun m e => ∃ k : Nat, 1 ≤ k ∧ k ≤ n ∧ m = n - k ∧ e = [(vt, .tab fun _ => none), (1, .ownB b_1 (vK kp g0 f.l)), (5, .v (.int .i64 k))]) _ _ (⟨1, Nat.le_refl _, hn1, rfl, rfl⟩) (by dsimp only; omega) (by repeat' first | refine And.intro ?_ ?_ | exact trivial | rfl | omega | exact .inl rfl | exact fun _ _ => rfl | exact fun _ _ h => h | assumption | exact fun i hi => (by obtain rfl : i = 0 := (by omega); rfl)) ?_)
    rintro m e ⟨k, hk1, hk2, hm, rfl⟩
    refine W.seqK fun K7 hK7 => ?_
    refine W.rd (cx_ok _) follows (by rfl) fun K hK => ?_
    conv => whnf
    refine ⟨_, cxF ((withNumber_p kp k (by omega) (by omega)).toV), ?_⟩
    conv => whnf
    rw [hnl k]
    by_cases hpk : Prim f (polyN kp k)
    · obtain rfl : k = n := Classical.byContradiction fun h2 => hn4 k hk1 (by omega) hpk
      refine ⟨_, cxF ((isPrimitive_fn kp g0 none f (polyN kp k) hk hi (hpd (by omega))).tr (bP_true hpk)), ?_⟩
      conv => whnf
      refine hK _ (W.condF rfl (W.exit (hK1 _ ?_)))
      clear hK K hK7 K7 hK1 K1
      refine W.sw (c' := cxt [] [0, 1, 2, 3, 4, 5, 9, 17, 1000000]) ?_
      refine W.rs (cxt_ok _ _) (by rfl) fun K hK => ?_
      conv => whnf
      refine callI rfl (withNumber_p kp k (by omega) (by omega)) fun hs_3 b_3 hh_3 hf_3 => ?_
      try dsimp only at hh_3 hf_3
      conv => whnf
      rw [hnl k]
      refine hK _ ?_
      clear hK K
      refine W.give 2 fun K hK => ?_
      conv => whnf
      refine hK _ ?_
      clear hK K
      refine W.ret ?_
      conv => whnf
      exact ⟨.v (.rf b_3 _), rfl, trivial, .v (.int .i64 (0)), ⟨rfl, rfl⟩, trivial, b_3, rfl, fun hne => tbAdd_self _ _ hne⟩
    · have hne : k ≠ n := fun h2 => hpk (h2 ▸ hn3)
      refine ⟨_, cxF ((isPrimitive_fn kp g0 none f (polyN kp k) hk hi (hpd (by omega))).fa (bP_false hpk)), ?_⟩
      conv => whnf
      refine hK _ (W.condT rfl (W.skip (hK7 _ (W.block ?_))))
      clear hK K hK7 K7
      refine W.region (cx_ok _) (by rfl) ?_
      conv => whnf
      refine ⟨by constructor <;> omega, ?_⟩
      conv => whnf
      refine ⟨_, _, ⟨k + 1, by omega, by omega, rfl, rfl⟩, by omega, by dsimp only; omega, ?_⟩
      repeat' first | refine And.intro ?_ ?_ | exact trivial | rfl | omega | exact .inl rfl | exact fun _ _ => rfl | exact fun _ _ h => h | assumption | exact fun i hi => (by obtain rfl : i = 0 := (by omega); rfl)

/-- the first exponent -/
theorem exists_exp {p : Int} [SP p] {f G X : Poly p} (hi : Irr f) (hG : Prim f G) (hX0 : X ≠ 0) (hX : dg X < dg f) : ∃ n, n < p.toNat ^ (dg f - 1) - 1 ∧ rem (G ^ n) f = X ∧ ∀ k, k < n → rem (G ^ k) f ≠ X := by
  obtain ⟨d, hd⟩ : ∃ d, dg f = d + 1 := ⟨dg f - 1, by have := hi.1; omega⟩
  have e1 : dg f - 1 = d := by omega
  unfold Prim at hG
  rw [e1] at hG ⊢
  obtain ⟨e, he1, he2⟩ := exists_log hi hd hG hX0 (by omega)
  obtain ⟨r, hr⟩ := exists_first (fun n => rem (G ^ n) f = X) 0 (p.toNat ^ d - 1)
  cases r with
  | none => exact absurd he2.symm (hr e (Nat.zero_le _) he1)
  | some m => exact ⟨m, hr.2.1, hr.2.2.1, fun k hk => hr.2.2.2 k (Nat.zero_le _) hk⟩

theorem l19Log_fn (p : Int) [SP p] (g g1 g2 : Option Nat) (f G X : Poly p) (h9 : dg f ≤ 9) (hi : Irr f) (hG : dg G < dg f) (hX : dg X < dg f) (n : Nat) (hn : n ≤ 1000000) (h1 : rem (G ^ n) f = X) (h2 : ∀ k, k < n → rem (G ^ k) f ≠ X) : FnV 49 [vK p g f.l, .ints g1 G.l, .ints g2 X.l] (.int .i64 n) := by
  have hf0 := hi.ne
  have hXl : X.l.length = dg X := rfl
  have hR := fun k : Nat => rem_lt (G ^ k) hf0
  have e0 : rem (G ^ 0) f = 1 := rem_small (by rw [pow_zero', dg_one]; have := hi.1; omega)
  refine fn_of (cx_ok [0, 1, 2, 3, 6, 7, 8, 13]) Tryz.func49 rfl (by decide) Tryz.ntmps49 (Nat.le_of_ble_eq_true rfl) fun base => ?_
  refine W.rs (cx_ok _) (by rfl) fun K hK => ?_
  conv => whnf
  refine ⟨rfl, ?_⟩
  conv => whnf
  intro b_1 hs_1 hh_1 hf_1
  try dsimp only at hh_1 hf_1
  conv => whnf
  refine hK _ ?_
  clear hK K
  refine W.rs (cx_ok _) (by rfl) fun K hK => ?_
  conv => whnf
  refine hK _ ?_
  clear hK K
  refine W.seqK fun K1 hK1 => ?_
  refine W.rs (cx_ok _) (by rfl) fun K hK => ?_
  conv => whnf
  refine ⟨⟨rfl, by decide⟩, ?_⟩
  conv => whnf
  intro b_2 hs_2 hh_2 hf_2
  try dsimp only at hh_2 hf_2
  conv => whnf
  refine hK _ (W.block (W.invE (fun m e => ∃ (k : Nat) (s : List Int), k ≤ n ∧ s = (rem (G ^ k) f).l ∧ m = n - k ∧ e = [(1, .v (.ints g1 G.l)), (2, .v (.ints g2 X.l)), (3, .ownB b_1 (vK p g f.l)), (7, .v (.int .i64 k)), (8, .v (.ints none s))]) _ _ (⟨0, [1], Nat.zero_le _, by rw [e0, one_l], rfl, rfl⟩) (by dsimp only; omega) (by repeat' first | refine And.intro ?_ ?_ | exact trivial | rfl | omega | exact .inl rfl | exact fun _ _ => rfl | exact fun _ _ h => h | assumption | exact fun i hi => (by obtain rfl : i = 0 := (by omega); rfl)) ?_))
  clear hK K
  rintro m e ⟨k, s, hk, rfl, hm, rfl⟩
  have hRk := hR k
  have hRl : (rem (G ^ k) f).l.length = dg (rem (G ^ k) f) := rfl
  refine W.seqK fun K7 hK7 => ?_
  refine W.rs (cx_ok _) (by rfl) fun K hK => ?_
  conv => whnf
  by_cases he : rem (G ^ k) f = X
  · obtain rfl : k = n := Classical.byContradiction fun h3 => h2 k (by omega) he
    refine callV rfl ((same_fn none g2 (rem (G ^ k) f).l X.l (by omega)).tr (decide_eq_true (by rw [he]))) fun hs' hhs => ?_
    try dsimp only at hhs
    conv => whnf
    refine hK _ (W.condF rfl (W.exit (hK1 _ ?_)))
    clear hK K hK7 K7 hK1 K1
    refine W.rs (cx_ok _) (by rfl) fun K hK => ?_
    conv => whnf
    refine hK _ ?_
    clear hK K
    refine W.ret ?_
    conv => whnf
    exact ⟨.v (.int .i64 k), ⟨rfl, rfl⟩, trivial, rfl⟩
  · have hne : k ≠ n := fun h3 => he (h3 ▸ h1)
    have e2 : rem (rem (G ^ k) f * G) f = rem (G ^ (k + 1)) f := by rw [rem_mul_left hf0, pow_succ']
    refine callV rfl ((same_fn none g2 (rem (G ^ k) f).l X.l (by omega)).fa (decide_eq_false fun h3 => he (ext_l h3))) fun hs' hhs => ?_
    try dsimp only at hhs
    conv => whnf
    refine hK _ (W.condT rfl (W.skip (hK7 _ ?_)))
    clear hK K hK7 K7
    refine W.seqK fun K8 hK8 => W.block ?_
    refine W.region (cx_ok _) (by rfl) ?_
    conv => whnf
    refine ⟨by constructor <;> omega, ?_⟩
    conv => whnf
    refine hK8 _ ?_
    clear hK8 K8
    refine W.region (cx_ok _) (by rfl) ?_
    conv => whnf
    refine callV rfl (l17Multiply_fn p g none g1 f (rem (G ^ k) f) G (by omega) (by omega) (by omega) hf0) fun hs' hhs => ?_
    try dsimp only at hhs
    conv => whnf
    rw [e2]
    refine ⟨_, _, ⟨k + 1, _, by omega, rfl, rfl, rfl⟩, by omega, by dsimp only; omega, ?_⟩
    repeat' first | refine And.intro ?_ ?_ | exact trivial | rfl | omega | exact .inl rfl | exact fun _ _ => rfl | exact fun _ _ h => h | assumption | exact fun i hi => (by obtain rfl : i = 0 := (by omega); rfl)

theorem logarithm_fn (p : Int) [SP p] (g g1 g2 : Option Nat) (f G X : Poly p) (h9 : dg f ≤ 9) (hi : Irr f) (hG : dg G < dg f) (hX : dg X < dg f) (n : Nat) (hn : n ≤ 1000000) (h1 : rem (G ^ n) f = X) (h2 : ∀ k, k < n → rem (G ^ k) f ≠ X) : FnV 50 [vK p g f.l, .ints g1 G.l, .ints g2 X.l] (.int .i64 n) := by
  have hf0 := hi.ne
  have hXl : X.l.length = dg X := rfl
  have hR := fun k : Nat => rem_lt (G ^ k) hf0
  have e0 : rem (G ^ 0) f = 1 := rem_small (by rw [pow_zero', dg_one]; have := hi.1; omega)
  refine fn_of (cx_ok [0, 1, 2, 3, 6, 7, 8, 13]) Tryz.func50 rfl (by decide) Tryz.ntmps50 (Nat.le_of_ble_eq_true rfl) fun base => ?_
  refine W.rs (cx_ok _) (by rfl) fun K hK => ?_
  conv => whnf
  refine ⟨rfl, ?_⟩
  conv => whnf
  intro b_1 hs_1 hh_1 hf_1
  try dsimp only at hh_1 hf_1
  conv => whnf
  refine hK _ ?_
  clear hK K
  refine W.rs (cx_ok _) (by rfl) fun K hK => ?_
  conv => whnf
  refine hK _ ?_
  clear hK K
  refine W.seqK fun K1 hK1 => ?_
  refine W.rs (cx_ok _) (by rfl) fun K hK => ?_
  conv => whnf
  refine ⟨⟨rfl, by decide⟩, ?_⟩
  conv => whnf
  intro b_2 hs_2 hh_2 hf_2
  try dsimp only at hh_2 hf_2
  conv => whnf
  refine hK _ (W.block (W.invE (fun m e => ∃ (k : Nat) (s : List Int), k ≤ n ∧ s = (rem (G ^ k) f).l ∧ m = n - k ∧ e = [(1, .v (.ints g1 G.l)), (2, .v (.ints g2 X.l)), (3, .ownB b_1 (vK p g f.l)), (7, .v (.int .i64 k)), (8, .v (.ints none s))]) _ _ (⟨0, [1], Nat.zero_le _, by rw [e0, one_l], rfl, rfl⟩) (by dsimp only; omega) (by repeat' first | refine And.intro ?_ ?_ | exact trivial | rfl | omega | exact .inl rfl | exact fun _ _ => rfl | exact fun _ _ h => h | assumption | exact fun i hi => (by obtain rfl : i = 0 := (by omega); rfl)) ?_))
  clear hK K
  rintro m e ⟨k, s, hk, rfl, hm, rfl⟩
  have hRk := hR k
  have hRl : (rem (G ^ k) f).l.length = dg (rem (G ^ k) f) := rfl
  refine W.seqK fun K7 hK7 => ?_
  refine W.rs (cx_ok _) (by rfl) fun K hK => ?_
  conv => whnf
  by_cases he : rem (G ^ k) f = X
  · obtain rfl : k = n := Classical.byContradiction fun h3 => h2 k (by omega) he
    refine callV rfl ((equal_fn none g2 (rem (G ^ k) f).l X.l (by omega)).tr (decide_eq_true (by rw [he]))) fun hs' hhs => ?_
    try dsimp only at hhs
    conv => whnf
    refine hK _ (W.condF rfl (W.exit (hK1 _ ?_)))
    clear hK K hK7 K7 hK1 K1
    refine W.rs (cx_ok _) (by rfl) fun K hK => ?_
    conv => whnf
    refine hK _ ?_
    clear hK K
    refine W.ret ?_
    conv => whnf
    exact ⟨.v (.int .i64 k), ⟨rfl, rfl⟩, trivial, rfl⟩
  · have hne : k ≠ n := fun h3 => he (h3 ▸ h1)
    have e2 : rem (rem (G ^ k) f * G) f = rem (G ^ (k + 1)) f := by rw [rem_mul_left hf0, pow_succ']
    refine callV rfl ((equal_fn none g2 (rem (G ^ k) f).l X.l (by omega)).fa (decide_eq_false fun h3 => he (ext_l h3))) fun hs' hhs => ?_
    try dsimp only at hhs
    conv => whnf
    refine hK _ (W.condT rfl (W.skip (hK7 _ ?_)))
    clear hK K hK7 K7
    refine W.seqK fun K8 hK8 => W.block ?_
    refine W.region (cx_ok _) (by rfl) ?_
    conv => whnf
    refine ⟨by constructor <;> omega, ?_⟩
    conv => whnf
    refine hK8 _ ?_
    clear hK8 K8
    refine W.region (cx_ok _) (by rfl) ?_
    conv => whnf
    refine callV rfl (kTimes_fn p g none g1 f (rem (G ^ k) f) G (by omega) (by omega) (by omega) hf0) fun hs' hhs => ?_
    try dsimp only at hhs
    conv => whnf
    rw [e2]
    refine ⟨_, _, ⟨k + 1, _, by omega, rfl, rfl, rfl⟩, by omega, by dsimp only; omega, ?_⟩
    repeat' first | refine And.intro ?_ ?_ | exact trivial | rfl | omega | exact .inl rfl | exact fun _ _ => rfl | exact fun _ _ h => h | assumption | exact fun i hi => (by obtain rfl : i = 0 := (by omega); rfl)

/-- the code of a base and an element -/
noncomputable def codeBase {p : Int} [SP p] (f G X : Poly p) : Int := bif bP (G ≠ 0 ∧ X ≠ 0 ∧ Prim f G) then 0 else 5

theorem l19Base_bad (p : Int) (g g1 g2 : Option Nat) (l x y : List Int) (hl : l.length ≤ 1000000000) (hx : x.length ≤ 1000000000) (hy : y.length ≤ 1000000000) (h0 : codeEl p l true 2 (two x y) ≠ 0) : FnV 48 [vK p g l, .ints g1 x, .ints g2 y] (.int .i64 (codeEl p l true 2 (two x y))) := by
  generalize hc : codeEl p l true 2 (two x y) = c at h0
  have e1 : decide (c = 0) = false := decide_eq_false h0
  refine fn_of (cx_ok [0, 1, 2, 3, 6, 7, 32]) Tryz.func48 rfl (by decide) Tryz.ntmps48 (Nat.le_of_ble_eq_true rfl) fun base => ?_
  refine W.rs (cx_ok _) (by rfl) fun K hK => ?_
  conv => whnf
  refine ⟨rfl, ?_⟩
  conv => whnf
  intro b_1 hs_1 hh_1 hf_1
  try dsimp only at hh_1 hf_1
  conv => whnf
  refine hK _ ?_
  clear hK K
  refine W.rs (cx_ok _) (by rfl) fun K hK => ?_
  conv => whnf
  refine callV rfl (l17Code_fn p g g1 g2 l x y hl hx hy) fun hs' hhs => ?_
  try dsimp only at hhs
  conv => whnf
  rw [hc]
  refine hK _ ?_
  clear hK K
  refine W.seqK fun K1 hK1 => ?_
  refine W.rd (cx_ok _) follows (by rfl) fun K hK => ?_
  conv => whnf
  rw [e1]
  conv => whnf
  refine ⟨rfl, ?_⟩
  conv => whnf
  refine hK _ (W.cond ⟨fun h => absurd h (by decide), fun _ => W.skip (hK1 _ ?_)⟩)
  clear hK K hK1 K1
  refine W.rs (cx_ok _) (by rfl) fun K hK => ?_
  conv => whnf
  refine hK _ ?_
  clear hK K
  refine W.ret ?_
  conv => whnf
  exact ⟨.v (.int .i64 c), ⟨rfl, rfl⟩, trivial, rfl⟩

theorem l19Base_fn (p : Int) [SP p] (g g1 g2 : Option Nat) (f G X : Poly p) (hk : IsFld p f.l) (hi : Irr f) (hG : dg G < dg f) (hX : dg X < dg f) (hc : codeEl p f.l true 2 (two G.l X.l) = 0) : FnV 48 [vK p g f.l, .ints g1 G.l, .ints g2 X.l] (.int .i64 (codeBase f G X)) := by
  have hGl : G.l.length = dg G := rfl
  have hXl : X.l.length = dg X := rfl
  have e0 : decide ((0 : Int) = 0) = true := by decide
  have hp := Pr.two (p := p)
  have hp2 := SP.le (p := p)
  have h9 := hk.mod.2.1
  have hl2 := hk.two
  have hfl : f.l.length = dg f := rfl
  have hf0 := hi.ne
  obtain ⟨d, hd⟩ : ∃ d, dg f = d + 1 := ⟨dg f - 1, by omega⟩
  obtain ⟨hq1, hq2, hq3⟩ := fld_q hk hd
  have hpd : ∀ {k : Nat}, k < p.toNat ^ d → dg (polyN p k) < dg f := fun {k} h => by have := polyN_dg (p := p) h; omega
  have hnl : ∀ k : Nat, dig p.toNat k = (polyN p k).l := fun k => (polyN_l k).symm
  have hfm : ∀ {X : Poly p}, X ≠ 0 → dg X < dg f → One f X (p.toNat ^ d - 1) := fun h h' => fermat hi (small_ndvd h h') hd
  have hpi : ∀ {X : Poly p} {e0 : Nat}, IsOrd f X e0 → bP (Prim f X) = decide (e0 = p.toNat ^ d - 1) := fun h => prim_iff hd h
  by_cases hG0 : G = 0
  · have hG1 : dg G = 0 := dg_eq_zero.2 hG0
    have e1 : decide ((G.l.length : Int) = 0) = true := decide_eq_true (by omega)
    refine fn_of (cx_ok [0, 1, 2, 3, 6, 7, 32]) Tryz.func48 rfl (by decide) Tryz.ntmps48 (Nat.le_of_ble_eq_true rfl) fun base => ?_
    refine W.rs (cx_ok _) (by rfl) fun K hK => ?_
    conv => whnf
    refine ⟨rfl, ?_⟩
    conv => whnf
    intro b_1 hs_1 hh_1 hf_1
    try dsimp only at hh_1 hf_1
    conv => whnf
    refine hK _ ?_
    clear hK K
    refine W.rs (cx_ok _) (by rfl) fun K hK => ?_
    conv => whnf
    refine callV rfl (l17Code_fn p g g1 g2 f.l G.l X.l (by omega) (by omega) (by omega)) fun hs' hhs => ?_
    try dsimp only at hhs
    conv => whnf
    rw [hc]
    refine hK _ ?_
    clear hK K
    refine W.seqK fun K1 hK1 => ?_
    refine W.rd (cx_ok _) follows (by rfl) fun K hK => ?_
    conv => whnf
    rw [e0]
    conv => whnf
    rw [e1]
    conv => whnf
    refine ⟨rfl, ?_⟩
    conv => whnf
    refine ⟨rfl, ?_⟩
    conv => whnf
    refine hK _ (W.cond ⟨fun _ => ?_, fun h => absurd h (by decide)⟩)
    clear hK K
    refine W.region (cx_ok _) (by rfl) ?_
    conv => whnf
    refine hK1 _ ?_
    clear hK1 K1
    refine W.rs (cx_ok _) (by rfl) fun K hK => ?_
    conv => whnf
    refine hK _ ?_
    clear hK K
    refine W.ret ?_
    conv => whnf
    exact ⟨.v (.int .i64 (codeBase f G X)), ⟨rfl, by unfold codeBase; rw [bP_false fun h => h.1 hG0]; rfl⟩, trivial, rfl⟩
  have hG1 : dg G ≠ 0 := fun e => hG0 (dg_eq_zero.1 e)
  have e1 : decide ((G.l.length : Int) = 0) = false := decide_eq_false (by omega)
  by_cases hX0 : X = 0
  · have hX1 : dg X = 0 := dg_eq_zero.2 hX0
    have e2 : decide ((X.l.length : Int) = 0) = true := decide_eq_true (by omega)
    refine fn_of (cx_ok [0, 1, 2, 3, 6, 7, 32]) Tryz.func48 rfl (by decide) Tryz.ntmps48 (Nat.le_of_ble_eq_true rfl) fun base => ?_
    refine W.rs (cx_ok _) (by rfl) fun K hK => ?_
    conv => whnf
    refine ⟨rfl, ?_⟩
    conv => whnf
    intro b_1 hs_1 hh_1 hf_1
    try dsimp only at hh_1 hf_1
    conv => whnf
    refine hK _ ?_
    clear hK K
    refine W.rs (cx_ok _) (by rfl) fun K hK => ?_
    conv => whnf
    refine callV rfl (l17Code_fn p g g1 g2 f.l G.l X.l (by omega) (by omega) (by omega)) fun hs' hhs => ?_
    try dsimp only at hhs
    conv => whnf
    rw [hc]
    refine hK _ ?_
    clear hK K
    refine W.seqK fun K1 hK1 => ?_
    refine W.rd (cx_ok _) follows (by rfl) fun K hK => ?_
    conv => whnf
    rw [e0]
    conv => whnf
    rw [e1]
    conv => whnf
    rw [e2]
    conv => whnf
    refine ⟨rfl, ?_⟩
    conv => whnf
    refine hK _ (W.cond ⟨fun _ => ?_, fun h => absurd h (by decide)⟩)
    clear hK K
    refine W.region (cx_ok _) (by rfl) ?_
    conv => whnf
    refine hK1 _ ?_
    clear hK1 K1
    refine W.rs (cx_ok _) (by rfl) fun K hK => ?_
    conv => whnf
    refine hK _ ?_
    clear hK K
    refine W.ret ?_
    conv => whnf
    exact ⟨.v (.int .i64 (codeBase f G X)), ⟨rfl, by unfold codeBase; rw [bP_false fun h => h.2.1 hX0]; rfl⟩, trivial, rfl⟩
  have hX1 : dg X ≠ 0 := fun e => hX0 (dg_eq_zero.1 e)
  have e2 : decide ((X.l.length : Int) = 0) = false := decide_eq_false (by omega)
  obtain ⟨e3, he3⟩ := exists_isOrd _ (by omega) (hfm hG0 hG)
  have hpg := hpi he3
  refine fn_of (cx_ok [0, 1, 2, 3, 6, 7, 32]) Tryz.func48 rfl (by decide) Tryz.ntmps48 (Nat.le_of_ble_eq_true rfl) fun base => ?_
  refine W.rs (cx_ok _) (by rfl) fun K hK => ?_
  conv => whnf
  refine ⟨rfl, ?_⟩
  conv => whnf
  intro b_1 hs_1 hh_1 hf_1
  try dsimp only at hh_1 hf_1
  conv => whnf
  refine hK _ ?_
  clear hK K
  refine W.rs (cx_ok _) (by rfl) fun K hK => ?_
  conv => whnf
  refine callV rfl (l17Code_fn p g g1 g2 f.l G.l X.l (by omega) (by omega) (by omega)) fun hs' hhs => ?_
  try dsimp only at hhs
  conv => whnf
  rw [hc]
  refine hK _ ?_
  clear hK K
  refine W.seqK fun K1 hK1 => ?_
  refine W.rd (cx_ok _) follows (by rfl) fun K hK => ?_
  conv => whnf
  rw [e0]
  conv => whnf
  rw [e1]
  conv => whnf
  rw [e2]
  conv => whnf
  refine ⟨_, cxF (l17ElementOrder_fn p g g1 f G hk hi hG0 hG e3 he3), ?_⟩
  conv => whnf
  refine ⟨_, cxF (l17Size_fn p g f.l hk), ?_⟩
  conv => whnf
  rw [hq1]
  refine ⟨by constructor <;> omega, ?_⟩
  conv => whnf
  refine hK _ (W.cond ⟨fun h => ?_, fun h => ?_⟩) <;> clear hK K
  · have h : (e3 : Int) ≠ ((p.toNat ^ d : Nat) : Int) - 1 := of_decide_eq_true h
    have hnp : ¬ Prim f G := fun hp => by
      rw [bP_true hp] at hpg
      have := of_decide_eq_true hpg.symm
      omega
    refine W.region (cx_ok _) (by rfl) ?_
    conv => whnf
    refine hK1 _ ?_
    clear hK1 K1
    refine W.rs (cx_ok _) (by rfl) fun K hK => ?_
    conv => whnf
    refine hK _ ?_
    clear hK K
    refine W.ret ?_
    conv => whnf
    exact ⟨.v (.int .i64 (codeBase f G X)), ⟨rfl, by unfold codeBase; rw [bP_false fun h => hnp h.2.2]; rfl⟩, trivial, rfl⟩
  · have h : ¬ (e3 : Int) ≠ ((p.toNat ^ d : Nat) : Int) - 1 := of_decide_eq_false h
    have hnp : Prim f G := Classical.byContradiction fun hp => by
      rw [bP_false hp] at hpg
      have := of_decide_eq_false hpg.symm
      omega
    refine W.skip (hK1 _ ?_)
    clear hK1 K1
    refine W.rs (cx_ok _) (by rfl) fun K hK => ?_
    conv => whnf
    refine hK _ ?_
    clear hK K
    refine W.ret ?_
    conv => whnf
    exact ⟨.v (.int .i64 (codeBase f G X)), ⟨rfl, by unfold codeBase; rw [bP_true ⟨hG0, hX0, hnp⟩]; rfl⟩, trivial, rfl⟩

theorem LogarithmOf_both (kp : Int) (kl y x : List Int) (_ : inR kp) (hkl : kl.length ≤ 1048576) (hy : y.length ≤ 1048576) (hx : x.length ≤ 1048576) : ∃ r0 r1 : Int,
    (∀ g0 g1 g2 : Option Nat, FnV 27 [vK kp g0 kl, .ints g1 y, .ints g2 x] (.tup [.int .i64 r0, .int .i64 r1])) ∧ (∀ g0 g1 g2 : Option Nat, FnV 28 [vK kp g0 kl, .ints g1 y, .ints g2 x] (.tup [.int .i64 r0, .int .i64 r1])) := by
  generalize hc : codeEl kp kl true 2 (two y x) = c
  by_cases h0 : c = 0
  case neg =>
    refine ⟨0, c, fun g0 g1 g2 => ?_, fun g0 g1 g2 => ?_⟩
    · refine fn_of (cx_ok [0, 1, 2, 3, 6, 7, 8, 14]) Tryz.func27 rfl (by decide) Tryz.ntmps27 (Nat.le_of_ble_eq_true rfl) fun base => ?_
      refine W.rs (cx_ok _) (by rfl) fun K hK => ?_
      conv => whnf
      refine ⟨rfl, ?_⟩
      conv => whnf
      intro b_1 hs_1 hh_1 hf_1
      try dsimp only at hh_1 hf_1
      conv => whnf
      refine hK _ ?_
      clear hK K
      refine W.rs (cx_ok _) (by rfl) fun K hK => ?_
      conv => whnf
      refine callV rfl (l19Base_bad kp g0 g1 g2 kl y x (by omega) (by omega) (by omega) (by rw [hc]; exact h0)) fun hs' hhs => ?_
      try dsimp only at hhs
      conv => whnf
      rw [hc]
      refine hK _ ?_
      clear hK K
      refine W.seqK fun K1 hK1 => ?_
      refine W.rs (cx_ok _) (by rfl) fun K hK => ?_
      conv => whnf
      refine hK _ (W.cond ⟨fun _ => ?_, fun hcc => absurd h0 (of_decide_eq_false hcc)⟩)
      clear hK K
      refine W.rs (cx_ok _) (by rfl) fun K hK => ?_
      conv => whnf
      refine hK _ ?_
      clear hK K
      refine W.ret ?_
      conv => whnf
      exact ⟨.v (.int .i64 0), ⟨rfl, rfl⟩, trivial, .v (.int .i64 c), ⟨rfl, rfl⟩, trivial, rfl⟩
    · refine fn_of (cx_ok [0, 1, 2, 3, 6, 7, 8, 15, 25]) Tryz.func28 rfl (by decide) Tryz.ntmps28 (Nat.le_of_ble_eq_true rfl) fun base => ?_
      refine W.rs (cx_ok _) (by rfl) fun K hK => ?_
      conv => whnf
      refine ⟨rfl, ?_⟩
      conv => whnf
      intro b_1 hs_1 hh_1 hf_1
      try dsimp only at hh_1 hf_1
      conv => whnf
      refine hK _ ?_
      clear hK K
      refine W.seqK fun K1 hK1 => ?_
      refine W.rs (cx_ok _) (by rfl) fun K hK => ?_
      conv => whnf
      refine ⟨⟨rfl, by decide, fun x hx => (by simp at hx; rcases hx with rfl | rfl <;> exact ⟨rfl, rfl⟩)⟩, ?_⟩
      conv => whnf
      intro b_2 hs_2 hh_2 hf_2
      try dsimp only at hh_2 hf_2
      conv => whnf
      refine callV rfl (elements_tr kp g0 (some b_2) kl 2 _ (two y x) (by omega) (by omega) (els2 g1 g2 y x)) fun hs' hhs => ?_
      try dsimp only at hhs
      conv => whnf
      rw [hc]
      refine hK _ ?_
      clear hK K
      refine W.rs (cx_ok _) (by rfl) fun K hK => ?_
      conv => whnf
      refine hK _ (W.cond ⟨fun _ => ?_, fun hcc => absurd h0 (of_decide_eq_false hcc)⟩)
      clear hK K
      refine W.rs (cx_ok _) (by rfl) fun K hK => ?_
      conv => whnf
      refine hK _ ?_
      clear hK K
      refine W.ret ?_
      conv => whnf
      exact ⟨.v (.int .i64 0), ⟨rfl, rfl⟩, trivial, .v (.int .i64 c), ⟨rfl, rfl⟩, trivial, rfl⟩
  subst h0
  obtain ⟨hk, _, hh⟩ := codeEl_ok hc
  obtain ⟨hp, f, rfl, hfi, _, _, hf9⟩ := fld_poly hk
  letI := sp_of hp
  obtain ⟨Y, rfl⟩ := mod_poly (hh 0 (by omega)).1
  obtain ⟨X, rfl⟩ := mod_poly (hh 1 (by omega)).1
  have hyl : Y.l.length < f.l.length := (hh 0 (by omega)).2
  have hxl : X.l.length < f.l.length := (hh 1 (by omega)).2
  have hfl : f.l.length = dg f := rfl
  have hXl : X.l.length = dg X := rfl
  by_cases hb : Y ≠ 0 ∧ X ≠ 0 ∧ Prim f Y
  case neg =>
    have hcb : codeBase f Y X = 5 := by unfold codeBase; rw [bP_false hb]; rfl
    refine ⟨0, 5, fun g0 g1 g2 => ?_, fun g0 g1 g2 => ?_⟩
    · refine fn_of (cx_ok [0, 1, 2, 3, 6, 7, 8, 14]) Tryz.func27 rfl (by decide) Tryz.ntmps27 (Nat.le_of_ble_eq_true rfl) fun base => ?_
      refine W.rs (cx_ok _) (by rfl) fun K hK => ?_
      conv => whnf
      refine ⟨rfl, ?_⟩
      conv => whnf
      intro b_1 hs_1 hh_1 hf_1
      try dsimp only at hh_1 hf_1
      conv => whnf
      refine hK _ ?_
      clear hK K
      refine W.rs (cx_ok _) (by rfl) fun K hK => ?_
      conv => whnf
      refine callV rfl (l19Base_fn kp g0 g1 g2 f Y X hk hfi hyl hxl hc) fun hs' hhs => ?_
      try dsimp only at hhs
      conv => whnf
      rw [hcb]
      refine hK _ ?_
      clear hK K
      refine W.seqK fun K1 hK1 => ?_
      refine W.rs (cx_ok _) (by rfl) fun K hK => ?_
      conv => whnf
      refine hK _ (W.cond ⟨fun _ => ?_, fun hcc => absurd (by decide : (5 : Int) ≠ 0) (of_decide_eq_false hcc)⟩)
      clear hK K
      refine W.rs (cx_ok _) (by rfl) fun K hK => ?_
      conv => whnf
      refine hK _ ?_
      clear hK K
      refine W.ret ?_
      conv => whnf
      exact ⟨.v (.int .i64 0), ⟨rfl, rfl⟩, trivial, .v (.int .i64 5), ⟨rfl, rfl⟩, trivial, rfl⟩
    · refine fn_of (cx_ok [0, 1, 2, 3, 6, 7, 8, 15, 25]) Tryz.func28 rfl (by decide) Tryz.ntmps28 (Nat.le_of_ble_eq_true rfl) fun base => ?_
      refine W.rs (cx_ok _) (by rfl) fun K hK => ?_
      conv => whnf
      refine ⟨rfl, ?_⟩
      conv => whnf
      intro b_1 hs_1 hh_1 hf_1
      try dsimp only at hh_1 hf_1
      conv => whnf
      refine hK _ ?_
      clear hK K
      refine W.seqK fun K1 hK1 => ?_
      refine W.rs (cx_ok _) (by rfl) fun K hK => ?_
      conv => whnf
      refine ⟨⟨rfl, by decide, fun x hx => (by simp at hx; rcases hx with rfl | rfl <;> exact ⟨rfl, rfl⟩)⟩, ?_⟩
      conv => whnf
      intro b_2 hs_2 hh_2 hf_2
      try dsimp only at hh_2 hf_2
      conv => whnf
      refine callV rfl (elements_tr kp g0 (some b_2) f.l 2 _ (two Y.l X.l) (by omega) (by omega) (els2 g1 g2 Y.l X.l)) fun hs' hhs => ?_
      try dsimp only at hhs
      conv => whnf
      rw [hc]
      refine hK _ ?_
      clear hK K
      refine W.rs (cx_ok _) (by rfl) fun K hK => ?_
      conv => whnf
      refine hK _ (W.cond ⟨fun hcc => absurd rfl (of_decide_eq_true hcc), fun _ => W.skip (hK1 _ ?_)⟩)
      clear hK K hK1 K1
      refine W.seqK fun K1 hK1 => ?_
      refine W.rs (cx_ok _) (by rfl) fun K hK => ?_
      conv => whnf
      refine ⟨fun h4 => ?_, fun h4 => ?_⟩ <;> conv => whnf
      · refine hK _ (W.condT rfl ?_)
        clear hK K
        refine W.rs (cx_ok _) (by rfl) fun K hK => ?_
        conv => whnf
        refine hK _ ?_
        clear hK K
        refine W.ret ?_
        conv => whnf
        exact ⟨.v (.int .i64 0), ⟨rfl, rfl⟩, trivial, .v (.int .i64 5), ⟨rfl, rfl⟩, trivial, rfl⟩
      · have h4 := of_decide_eq_false h4
        have hX0 : X ≠ 0 := fun e => h4 (by have := dg_eq_zero.2 e; omega)
        have hnp : ¬ Prim f Y := fun h => hb ⟨h.ne hfi, hX0, h⟩
        refine callV rfl ((isPrimitive_fn kp g0 g1 f Y hk hfi hyl).fa (bP_false hnp)) fun hs' hhs => ?_
        try dsimp only at hhs
        conv => whnf
        refine hK _ (W.condT rfl ?_)
        clear hK K
        refine W.rs (cx_ok _) (by rfl) fun K hK => ?_
        conv => whnf
        refine hK _ ?_
        clear hK K
        refine W.ret ?_
        conv => whnf
        exact ⟨.v (.int .i64 0), ⟨rfl, rfl⟩, trivial, .v (.int .i64 5), ⟨rfl, rfl⟩, trivial, rfl⟩
  obtain ⟨hY0, hX0, hPY⟩ := hb
  have hX1 : dg X ≠ 0 := fun e => hX0 (dg_eq_zero.1 e)
  have hcb : codeBase f Y X = 0 := by unfold codeBase; rw [bP_true ⟨hY0, hX0, hPY⟩]; rfl
  obtain ⟨n, hn1, hn2, hn3⟩ := exists_exp hfi hPY hX0 hxl
  obtain ⟨d, hd⟩ : ∃ d, dg f = d + 1 := ⟨dg f - 1, by have := hfi.1; omega⟩
  obtain ⟨hq1, hq2, hq3⟩ := fld_q hk hd
  rw [show dg f - 1 = d by omega] at hn1
  refine ⟨n, 0, fun g0 g1 g2 => ?_, fun g0 g1 g2 => ?_⟩
  · refine fn_of (cx_ok [0, 1, 2, 3, 6, 7, 8, 14]) Tryz.func27 rfl (by decide) Tryz.ntmps27 (Nat.le_of_ble_eq_true rfl) fun base => ?_
    refine W.rs (cx_ok _) (by rfl) fun K hK => ?_
    conv => whnf
    refine ⟨rfl, ?_⟩
    conv => whnf
    intro b_1 hs_1 hh_1 hf_1
    try dsimp only at hh_1 hf_1
    conv => whnf
    refine hK _ ?_
    clear hK K
    refine W.rs (cx_ok _) (by rfl) fun K hK => ?_
    conv => whnf
    refine callV rfl (l19Base_fn kp g0 g1 g2 f Y X hk hfi hyl hxl hc) fun hs' hhs => ?_
    try dsimp only at hhs
    conv => whnf
    rw [hcb]
    refine hK _ ?_
    clear hK K
    refine W.seqK fun K1 hK1 => ?_
    refine W.rs (cx_ok _) (by rfl) fun K hK => ?_
    conv => whnf
    refine hK _ (W.cond ⟨fun hcc => absurd rfl (of_decide_eq_true hcc), fun _ => W.skip (hK1 _ ?_)⟩)
    clear hK K hK1 K1
    refine W.rs (cx_ok _) (by rfl) fun K hK => ?_
    conv => whnf
    refine callV rfl (l19Log_fn kp g0 g1 g2 f Y X hf9 hfi hyl hxl n (by omega) hn2 hn3) fun hs' hhs => ?_
    try dsimp only at hhs
    conv => whnf
    refine hK _ ?_
    clear hK K
    refine W.ret ?_
    conv => whnf
    exact ⟨.v (.int .i64 n), ⟨rfl, rfl⟩, trivial, .v (.int .i64 0), ⟨rfl, rfl⟩, trivial, rfl⟩
  · refine fn_of (cx_ok [0, 1, 2, 3, 6, 7, 8, 15, 25]) Tryz.func28 rfl (by decide) Tryz.ntmps28 (Nat.le_of_ble_eq_true rfl) fun base => ?_
    refine W.rs (cx_ok _) (by rfl) fun K hK => ?_
    conv => whnf
    refine ⟨rfl, ?_⟩
    conv => whnf
    intro b_1 hs_1 hh_1 hf_1
    try dsimp only at hh_1 hf_1
    conv => whnf
    refine hK _ ?_
    clear hK K
    refine W.seqK fun K1 hK1 => ?_
    refine W.rs (cx_ok _) (by rfl) fun K hK => ?_
    conv => whnf
    refine ⟨⟨rfl, by decide, fun x hx => (by simp at hx; rcases hx with rfl | rfl <;> exact ⟨rfl, rfl⟩)⟩, ?_⟩
    conv => whnf
    intro b_2 hs_2 hh_2 hf_2
    try dsimp only at hh_2 hf_2
    conv => whnf
    refine callV rfl (elements_tr kp g0 (some b_2) f.l 2 _ (two Y.l X.l) (by omega) (by omega) (els2 g1 g2 Y.l X.l)) fun hs' hhs => ?_
    try dsimp only at hhs
    conv => whnf
    rw [hc]
    refine hK _ ?_
    clear hK K
    refine W.rs (cx_ok _) (by rfl) fun K hK => ?_
    conv => whnf
    refine hK _ (W.cond ⟨fun hcc => absurd rfl (of_decide_eq_true hcc), fun _ => W.skip (hK1 _ ?_)⟩)
    clear hK K hK1 K1
    refine W.seqK fun K1 hK1 => ?_
    refine W.rs (cx_ok _) (by rfl) fun K hK => ?_
    conv => whnf
    refine ⟨fun h4 => ?_, fun h4 => ?_⟩ <;> conv => whnf
    · exact absurd (of_decide_eq_true h4) (by omega)
    · refine callV rfl ((isPrimitive_fn kp g0 g1 f Y hk hfi hyl).tr (bP_true hPY)) fun hs' hhs => ?_
      try dsimp only at hhs
      conv => whnf
      refine hK _ (W.condF rfl (W.skip (hK1 _ ?_)))
      clear hK K hK1 K1
      refine W.rs (cx_ok _) (by rfl) fun K hK => ?_
      conv => whnf
      refine callV rfl (logarithm_fn kp g0 g1 g2 f Y X hf9 hfi hyl hxl n (by omega) hn2 hn3) fun hs' hhs => ?_
      try dsimp only at hhs
      conv => whnf
      refine hK _ ?_
      clear hK K
      refine W.ret ?_
      conv => whnf
      exact ⟨.v (.int .i64 n), ⟨rfl, rfl⟩, trivial, .v (.int .i64 0), ⟨rfl, rfl⟩, trivial, rfl⟩

end Go.Proofs.YtaiahdeegchobabGreat

namespace Go.Proofs.YtaiahdeegchobabGreat
open Go Go.RowKit Go.ChangeShapes Go.WideShapes Go.ChangeAt Go.Proofs Go.Proofs.YtaiahdeegchobabGreat

theorem fn_calls {P : Program} {f : Nat} {xs : List V} {r : V} {w : World} {vs : Array Value} (h : Fn P f xs (fun _ _ a => a = .v r)) (hl : vs.size = xs.length)
    (hr : ∀ j, j < xs.length → Rep (okAll w) w.heap (xs.getD j .nil) (vs.getD j undef)) :
    Calls P f vs w fun e w' => ∃ v, e = .returned v ∧ Below w.heap.size w w' ∧ Rep (okR (fun _ => False) w'.heap.size) w'.heap r v := by
  refine (h.2 (fun _ => False) w vs (fun _ h => h.elim) hl hr).mono fun e w' ⟨v, av, hi, h1, h2, h3, h4, h5⟩ => ?_
  subst h3
  obtain ⟨_, h6, _⟩ := h5
  refine ⟨v, h1, h4, ?_⟩
  exact Rep.mono h6 fun g b hb => ⟨⟨hb.1, fun h => h.elim, hb.2.2⟩, rfl⟩

theorem fn_true {P : Program} {f : Nat} {xs : List V} {w : World} {vs : Array Value} (h : Fn P f xs (fun _ _ a => a = .v .tr)) (hl : vs.size = xs.length)
    (hr : ∀ j, j < xs.length → Rep (okAll w) w.heap (xs.getD j .nil) (vs.getD j undef)) :
    Calls P f vs w fun e w' => e = .returned (.bool true) ∧ Below w.heap.size w w' :=
  (fn_calls h hl hr).mono fun e w' ⟨v, h1, h2, h3⟩ => by
    cases h3
    exact ⟨h1, h2⟩

theorem ownP : ownKnob Tryz.prog.godebug = none := by kernel_rfl
theorem laidOutP : laidOutB Tryz.prog = true := by kernel_rfl
theorem cellsInt : Tryz.prog.cellsOf 2 = 1 := by kernel_rfl

theorem cellsInts : Tryz.prog.cellsOf 22 = 1 := by kernel_rfl
theorem readsInt {H : Type} {enc : TypeId × Value → H} {W : World} : Reads enc Tryz.prog W 2 1 TyInt := reads_int Tryz.underlying2
theorem readsInts {H : Type} {enc : TypeId × Value → H} {W : World} : Reads enc Tryz.prog W 22 1 TyInts := reads_ints Tryz.underlying22 Tryz.underlying2 cellsInt
theorem readsField {H : Type} {enc : TypeId × Value → H} {W : World} : Reads enc Tryz.prog W 24 2 (TyCat [TyInt, TyInts]) :=
  reads_struct Tryz.underlying24 (by kernel_rfl) ⟨rfl, 1, cellsInt, readsInt, rfl, 1, cellsInts, readsInts, rfl⟩
end Go.Proofs.YtaiahdeegchobabGreat
