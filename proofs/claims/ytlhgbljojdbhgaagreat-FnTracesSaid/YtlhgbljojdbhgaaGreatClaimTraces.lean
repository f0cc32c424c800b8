/- The law FnTraces answers true, for all arguments. No conditions. -/
import Derived.Test.YtlhgbljojdbhgaaGreatPi
namespace Go.Proofs.YtlhgbljojdbhgaaGreat
open Go Go.RowKit Go.Proofs Poly
set_option maxRecDepth 100000
set_option maxHeartbeats 8000000

theorem RT.toV {f : Nat} {xs : List V} {l : List Int} {c : Int} (h : FnT Tryz.prog f xs (RT l c)) : FnV f xs (.tup [.ints none l, .int .i64 c]) :=
 FnT.toV h fun _ _ x tb hx => by
  obtain ⟨b, rfl, hb⟩ := hx
  refine ⟨_, rfl, rfl, fun j hj => ?_⟩
  match j, hj with
  | 0, _ => exact ⟨l, rfl, hb, rfl⟩
  | 1, _ => rfl
theorem has_l {p : Int} (hp : p ∈ primes) : letI := sp_of hp; ∀ f X : Poly p, dg X < dg f → dg f ≤ 10 → Has p f.l X.l := by
 letI := sp_of hp
 intro f X h1 h2
 have h3 : X.l.length < f.l.length := h1
 have h4 : f.l.length ≤ 10 := h2
 refine ⟨⟨decide_eq_true hp, by omega, fun j _ => by have := cf_bd X j; omega, ?_⟩, h1⟩
 by_cases h : X.l.length = 0
 ·exact .inl (by omega)
 ·exact .inr (X.ok.2 _ (by omega))
theorem code_zero {p : Int} {l : List Int} {n : Nat} {X : Nat → List Int} (hk : IsFld p l) (h : ∀ i, i < n → Has p l (X i)) : codeEl p l true n X = 0 := by
 unfold codeEl; rw [bP_true hk, bP_true h]; rfl


theorem lawTraces {n : Nat} {c : Nat → Int} (hb : ∀ i, 0 ≤ c i ∧ c i ≤ 255) : FnV 5 [vBy n c] (.bool true) := by
 refine fn_of (cx_ok [0, 2, 3, 4, 5, 6, 7, 8, 9, 10, 11, 12, 13, 14, 15, 16, 17, 18, 19, 20, 21, 22, 23, 24, 25, 26, 27, 28, 29, 30, 31, 32, 33, 34, 35, 37, 120, 122]) Tryz.func5 rfl (by decide) Tryz.ntmps5 (Nat.le_of_ble_eq_true rfl) fun base => ?_
 refine wrs fun K hK => ?_
 conv => whnf
 refine hK _ ?_
 clear hK K
 refine W.seqK fun K1 hK1 => ?_
 refine wrs fun K hK => ?_
 conv => whnf
 refine callV rfl (big_fn) fun hs' hhs => ?_
 try dsimp only at hhs
 conv => whnf
 refine hK _ (W.cond ⟨fun h => ?_, fun h => ?_⟩) <;> clear hK K
 ·refine wrs fun K hK => ?_
  conv => whnf
  refine hK _ ?_
  clear hK K
  refine W.ret ?_
  conv => whnf
  exact ⟨.v (.bool true), rfl, trivial, rfl⟩
 have h := of_decide_eq_false h
 have hc : Byt n c := ⟨by omega, hb⟩
 refine W.skip (hK1 _ ?_)
 clear hK1 K1
 refine wrs fun K hK => ?_
 conv => whnf
 refine callP rfl (DrawTraceOf_fn hc) ?_
 rintro lo hi hi' z hl1 hl2 hl3 ⟨p, L, X, rfl, hp, hL, hX⟩ _
 try dsimp only at hl1 hl2
 conv => whnf
 intro b_3 hs_3 hh_3 hf_3
 try dsimp only at hh_3 hf_3
 conv => whnf
 refine ⟨s23, ?_⟩
 conv => whnf
 refine hK _ ?_
 clear hK K
 have hpR : inR p := by constructor <;> omega
 obtain ⟨t, e, hS, hI, he, hT⟩ := TraceOf_E p L X hpR (by omega) (by omega)
 obtain ⟨m, e2, hS2, hI2, he2, hM⟩ := NormOf_E p L X hpR (by omega) (by omega)
 subst he he2
 refine wrs fun K hK => ?_
 conv => whnf
 refine callV rfl (hI _ _) fun hs' hhs => ?_
 try dsimp only at hhs
 conv => whnf
 refine hK _ ?_
 clear hK K
 refine wrs fun K hK => ?_
 conv => whnf
 refine callV rfl (hS _ _) fun hs' hhs => ?_
 try dsimp only at hhs
 conv => whnf
 refine hK _ ?_
 clear hK K
 refine wrs fun K hK => ?_
 conv => whnf
 refine callV rfl (hI2 _ _) fun hs' hhs => ?_
 try dsimp only at hhs
 conv => whnf
 refine hK _ ?_
 clear hK K
 refine wrs fun K hK => ?_
 conv => whnf
 refine callV rfl (hS2 _ _) fun hs' hhs => ?_
 try dsimp only at hhs
 conv => whnf
 refine hK _ ?_
 clear hK K
 refine wrs fun K hK => ?_
 conv => whnf
 refine callP rfl (DrawFrobeniusOf_fn hc) ?_
 rintro lo2 hi2 hi2' z hm1 hm2 hm3 ⟨p2, L2, Y, q, rfl, hp2, hL2, hY, hq⟩ _
 try dsimp only at hm1 hm2
 conv => whnf
 intro b_13 hs_13 hh_13 hf_13
 try dsimp only at hh_13 hf_13
 conv => whnf
 refine ⟨s23, ?_⟩
 conv => whnf
 refine hK _ ?_
 clear hK K
 obtain ⟨B, e3, hS3, hI3, hB⟩ := FrobeniusOf_both p2 L2 Y q (by constructor <;> omega) (by constructor <;> omega) (by omega) (by omega)
 refine wrs fun K hK => ?_
 conv => whnf
 refine callV rfl ((RT.toV (hI3 _ _))) fun hs' hhs => ?_
 try dsimp only at hhs
 conv => whnf
 refine hK _ ?_
 clear hK K
 refine wrs fun K hK => ?_
 conv => whnf
 refine callV rfl (hS3 _ _) fun hs' hhs => ?_
 try dsimp only at hhs
 conv => whnf
 refine hK _ ?_
 clear hK K
 refine W.seqK fun K1 hK1 => ?_
 refine wrs fun K hK => ?_
 conv => whnf
 refine ⟨fun hc0 => absurd hc0 (by simp), fun _ => ?_⟩
 conv => whnf
 refine ⟨fun hc0 => absurd hc0 (by simp), fun _ => ?_⟩
 conv => whnf
 refine ⟨fun hc0 => absurd hc0 (by simp), fun _ => ?_⟩
 conv => whnf
 refine ⟨fun hc0 => absurd hc0 (by simp), fun _ => ?_⟩
 conv => whnf
 refine ⟨fun hc0 => absurd hc0 (by simp), fun _ => ?_⟩
 conv => whnf
 refine callV rfl (likeInts_same _ _ B (by omega)) fun hs' hhs => ?_
 try dsimp only at hhs
 conv => whnf
 refine hK _ (W.cond ⟨fun hcc => absurd hcc (by simp), fun _ => W.skip (hK1 _ ?_)⟩)
 clear hK K hK1 K1
 refine W.seqK fun K1 hK1 => ?_
 refine wrs fun K hK => ?_
 conv => whnf
 refine hK _ (W.cond ⟨fun hz => ?_, fun hz => ?_⟩) <;> clear hK K
 ·refine wrs fun K hK => ?_
  conv => whnf
  refine hK _ ?_
  clear hK K
  refine W.ret ?_
  conv => whnf
  exact ⟨.v (.bool true), rfl, trivial, rfl⟩
 have hz : code1 p L X = 0 := Decidable.of_not_not (of_decide_eq_false hz)
 refine W.skip (hK1 _ ?_)
 clear hK1 K1
 rw [hz]
 obtain ⟨hk, hh⟩ := code1_ok hz
 obtain ⟨hpp, f, rfl, hfi, _, hf2, hf9⟩ := fld_poly hk
 letI := sp_of hpp
 obtain ⟨X, rfl⟩ := mod_poly hh.1
 have hxl : dg X < dg f := hh.2
 have hp1 := primes_le hpp
 obtain ⟨r, hr⟩ : ∃ r, dg f = r + 1 := ⟨dg f - 1, by omega⟩
 have ht := hT hpp f X rfl rfl hz r hr
 have hm := hM hpp f X rfl rfl hz r hr
 obtain ⟨N, e4, _, hI4, h4⟩ := OrderOfField_E p f.l hpR (by omega)
 obtain ⟨rfl, rfl⟩ := h4 hk
 have hN := hk.ord
 have hN1 : 1 ≤ p ^ (f.l.length - 1) := by have := Int.pow_pos (n := p) (m := f.l.length - 1) (show 0 < p by omega); omega
 generalize hNe : p ^ (f.l.length - 1) = N at *
 refine wrs fun K hK => ?_
 conv => whnf
 refine callV rfl (hI4 _) fun hs' hhs => ?_
 try dsimp only at hhs
 conv => whnf
 refine hK _ ?_
 clear hK K
 refine W.seqK fun K2 hK2 => ?_
 have mid : ∀ (Z : Poly p) (u : S), dg Z < dg f → base ≤ u.hs → coverK u.env [(3, .ownB b_3 (vK p none f.l)), (4, .v (.ints none X.l)), (5, .v (.int .i64 t)), (9, .v (.int .i64 m)), (21, .v (.int .i64 0)), (22, .v (.ints none Z.l)), (23, .v (.int .i64 0))] → K2 u := by
  intro Z u hZ h7 h8
  refine hK2 _ (W.weak (t := ⟨[(3, .ownB b_3 (vK p none f.l)), (4, .v (.ints none X.l)), (5, .v (.int .i64 t)), (9, .v (.int .i64 m)), (21, .v (.int .i64 0)), (22, .v (.ints none Z.l)), (23, .v (.int .i64 0))], base⟩) ⟨h7, h8⟩ (Nat.le_refl _) ?_)
  clear hK2 K2
  have hHZ : Has p f.l Z.l := has_l hpp f Z hZ (by omega)
  have hzl : Z.l.length < f.l.length := hZ
  have hxl2 : X.l.length < f.l.length := hxl
  have hfl : f.l.length = dg f := rfl
  have hc2 : codeEl p f.l true 2 (two X.l Z.l) = 0 := code_zero hk fun i _ => by unfold two; split; exact hh; exact hHZ
  have hcZ : code1 p f.l Z.l = 0 := code_zero hk fun _ _ => hHZ
  have hXZ : dg (X + Z) < dg f := by have := dg_add X Z; omega
  have hM2 : dg (rem (X * Z) f) < dg f := rem_lt _ hfi.ne
  have hcS : code1 p f.l (X + Z).l = 0 := code_zero hk fun _ _ => has_l hpp f _ hXZ (by omega)
  have hcM : code1 p f.l (rem (X * Z) f).l = 0 := code_zero hk fun _ _ => has_l hpp f _ hM2 (by omega)
  have hsl : (X + Z).l.length < f.l.length := hXZ
  have hml : (rem (X * Z) f).l.length < f.l.length := hM2
  obtain ⟨S, e5, _, hI5, _, he5, hA5⟩ := AddElements_E p f.l X.l Z.l hpR (by omega) (by omega) (by omega)
  obtain rfl : e5 = 0 := he5.trans hc2
  obtain rfl := hA5 hpp f X Z rfl rfl rfl hc2
  obtain ⟨M, e6, _, hI6, _, he6, hA6⟩ := MultiplyElements_E p f.l X.l Z.l hpR (by omega) (by omega) (by omega)
  obtain rfl : e6 = 0 := he6.trans hc2
  obtain rfl := hA6 hpp f X Z rfl rfl rfl hc2
  obtain ⟨t2, e7, _, hI7, he7, hA7⟩ := TraceOf_E p f.l Z.l hpR (by omega) (by omega)
  obtain rfl : e7 = 0 := he7.trans hcZ
  have ht2 := hA7 hpp f Z rfl rfl hcZ r hr
  obtain ⟨m2, e8, _, hI8, he8, hA8⟩ := NormOf_E p f.l Z.l hpR (by omega) (by omega)
  obtain rfl : e8 = 0 := he8.trans hcZ
  have hm2 := hA8 hpp f Z rfl rfl hcZ r hr
  obtain ⟨t3, e9, _, hI9, he9, hA9⟩ := TraceOf_E p f.l (X + Z).l hpR (by omega) (by omega)
  obtain rfl : e9 = 0 := he9.trans hcS
  have ht3 := hA9 hpp f _ rfl rfl hcS r hr
  obtain ⟨m3, e10, _, hI10, he10, hA10⟩ := NormOf_E p f.l (rem (X * Z) f).l hpR (by omega) (by omega)
  obtain rfl : e10 = 0 := he10.trans hcM
  have hm3 := hA10 hpp f _ rfl rfl hcM r hr
  rw [trN_cf hfi.ne, ← ht, ← ht2] at ht3
  rw [nrN_cf hfi hxl hZ hr, ← hm, ← hm2] at hm3
  have b1 : 0 ≤ t ∧ t < p := by rw [ht]; exact cf_bd _ _
  have b2 : 0 ≤ t2 ∧ t2 < p := by rw [ht2]; exact cf_bd _ _
  have b3 : 0 ≤ m ∧ m < p := by rw [hm]; exact cf_bd _ _
  have b4 : 0 ≤ m2 ∧ m2 < p := by rw [hm2]; exact cf_bd _ _
  have b5 : 0 ≤ m * m2 := Int.mul_nonneg b3.1 b4.1
  have b6 : m * m2 ≤ 97 * 97 := Int.mul_le_mul (by omega) (by omega) b4.1 (by omega)
  refine wrs fun K hK => ?_
  conv => whnf
  refine callV rfl (RT.toV (hI5 _ _ _)) fun hs' hhs => ?_
  try dsimp only at hhs
  conv => whnf
  refine hK _ ?_
  clear hK K
  refine wrs fun K hK => ?_
  conv => whnf
  refine callV rfl (RT.toV (hI6 _ _ _)) fun hs' hhs => ?_
  try dsimp only at hhs
  conv => whnf
  refine hK _ ?_
  clear hK K
  refine wrs fun K hK => ?_
  conv => whnf
  refine callV rfl (hI7 _ _) fun hs' hhs => ?_
  try dsimp only at hhs
  conv => whnf
  refine hK _ ?_
  clear hK K
  refine wrs fun K hK => ?_
  conv => whnf
  refine callV rfl (hI8 _ _) fun hs' hhs => ?_
  try dsimp only at hhs
  conv => whnf
  refine hK _ ?_
  clear hK K
  refine wrs fun K hK => ?_
  conv => whnf
  refine callV rfl (hI9 _ _) fun hs' hhs => ?_
  try dsimp only at hhs
  conv => whnf
  refine hK _ ?_
  clear hK K
  refine wrs fun K hK => ?_
  conv => whnf
  refine callV rfl (hI10 _ _) fun hs' hhs => ?_
  try dsimp only at hhs
  conv => whnf
  refine hK _ ?_
  clear hK K
  refine wrs fun K hK => ?_
  conv => whnf
  refine ⟨fun _ => ?_, fun hc0 => absurd hc0 (by simp)⟩
  conv => whnf
  refine ⟨fun _ => ?_, fun hc0 => absurd hc0 (by simp)⟩
  conv => whnf
  refine ⟨fun _ => ?_, fun hc0 => absurd hc0 (by simp)⟩
  conv => whnf
  refine ⟨fun _ => ?_, fun hc0 => absurd hc0 (by simp)⟩
  conv => whnf
  refine ⟨fun _ => ?_, fun hc0 => absurd hc0 (by simp)⟩
  conv => whnf
  refine ⟨fun _ => ?_, fun hc0 => absurd hc0 (by simp)⟩
  conv => whnf
  refine ⟨fun _ => ?_, fun hc0 => absurd hc0 (by simp)⟩
  conv => whnf
  refine ⟨fun _ => ?_, fun hc0 => absurd hc0 (by simp)⟩
  conv => whnf
  refine ⟨oo, ?_⟩
  conv => whnf
  refine ⟨by show p ≠ 0; omega, ?_⟩
  conv => whnf
  refine ⟨fun _ => ?_, fun hc0 => absurd (by rw [Int.tmod_eq_emod_of_nonneg (by omega)]; exact ht3) (of_decide_eq_false hc0)⟩
  conv => whnf
  refine ⟨by show _ ≤ m * m2 ∧ m * m2 ≤ _; omega, ?_⟩
  conv => whnf
  refine ⟨by show p ≠ 0; omega, ?_⟩
  conv => whnf
  refine hK _ ?_
  clear hK K
  refine W.ret ?_
  conv => whnf
  exact ⟨.v (.bool true), decide_eq_true (by rw [Int.tmod_eq_emod_of_nonneg b5]; exact hm3), trivial, rfl⟩
 have hq : ∀ q : Int, 0 ≤ q → q < N → dg (polyN p q.toNat) < dg f := by
  intro q q0 q1
  have e : ((p.toNat ^ (f.l.length - 1) : Nat) : Int) = N := by rw [Int.natCast_pow, Int.toNat_of_nonneg (by omega), hNe]
  have := polyN_dg (p := p) (n := f.l.length - 1) (k := q.toNat) (by omega)
  have hfl : f.l.length = dg f := rfl
  omega
 refine W.sch follows ?_
 refine wt 1 ?_
 conv => whnf
 refine wt 3 ?_
 conv => whnf
 refine w3 0 2 4 ?_ ?_ ?_ <;> conv => whnf
 ·refine w2 2 4 ?_ ?_ <;> conv => whnf
  ·refine callP rfl (roll_fn hc 1801) ?_
   rintro lo3 hi3 hi3' z hk1 hk2 hk3 ⟨b, x, hx, rfl⟩ _
   try dsimp only at hk1 hk2
   conv => whnf
   refine w1 4 ?_
   conv => whnf
   refine w1 5 ?_
   conv => whnf
   refine ⟨⟨rfl, rfl⟩, ?_⟩
   conv => whnf
   refine ⟨rfl, _, (below_m hc (max 1 N) (by omega) b x hx), ?_⟩
   rintro hs_ms3 av x' t' hh_ms3 ⟨rfl, ⟨x3, hx3, rfl⟩, _, rfl, ⟨q, rfl, q0, q1⟩⟩ _ _ _
   try dsimp only at hh_ms3
   conv => whnf
   refine w1 6 ?_
   conv => whnf
   obtain ⟨Z, e11, _, hI11, _, hZ⟩ := ElementWith_E p f.l q hpR (by constructor <;> omega) (by omega)
   obtain ⟨rfl, rfl⟩ := hZ hk q0 (by rw [hNe]; omega)
   rw [← polyN_l] at hI11
   refine callV rfl (RT.toV (hI11 _)) fun hs' hhs => ?_
   try dsimp only at hhs
   conv => whnf
   refine wt 7 ?_
   conv => whnf
   refine w2 8 9 ?_ ?_ <;> conv => whnf
   ·refine w2 9 10 ?_ ?_ <;> conv => whnf
    ·refine w1 10 ?_
     conv => whnf
     refine w1 11 ?_
     conv => whnf
     refine wd1 (mid (polyN p q.toNat) _ (hq q q0 (by omega)) (by dsimp only; omega) ?_)
     exact cvr
    ·refine w1 9 ?_
     conv => whnf
     refine w1 11 ?_
     conv => whnf
     refine wd1 (mid (polyN p q.toNat) _ (hq q q0 (by omega)) (by dsimp only; omega) ?_)
     exact cvr
   ·refine w1 8 ?_
    conv => whnf
    refine w1 10 ?_
    conv => whnf
    refine w1 11 ?_
    conv => whnf
    refine wd1 (mid (polyN p q.toNat) _ (hq q q0 (by omega)) (by dsimp only; omega) ?_)
    exact cvr
  ·refine w1 2 ?_
   conv => whnf
   refine callP rfl (roll_fn hc 1801) ?_
   rintro lo3 hi3 hi3' z hk1 hk2 hk3 ⟨b, x, hx, rfl⟩ _
   try dsimp only at hk1 hk2
   conv => whnf
   refine w1 5 ?_
   conv => whnf
   refine ⟨⟨rfl, rfl⟩, ?_⟩
   conv => whnf
   refine ⟨rfl, _, (below_m hc (max 1 N) (by omega) b x hx), ?_⟩
   rintro hs_ms3 av x' t' hh_ms3 ⟨rfl, ⟨x3, hx3, rfl⟩, _, rfl, ⟨q, rfl, q0, q1⟩⟩ _ _ _
   try dsimp only at hh_ms3
   conv => whnf
   refine w1 6 ?_
   conv => whnf
   obtain ⟨Z, e11, _, hI11, _, hZ⟩ := ElementWith_E p f.l q hpR (by constructor <;> omega) (by omega)
   obtain ⟨rfl, rfl⟩ := hZ hk q0 (by rw [hNe]; omega)
   rw [← polyN_l] at hI11
   refine callV rfl (RT.toV (hI11 _)) fun hs' hhs => ?_
   try dsimp only at hhs
   conv => whnf
   refine wt 7 ?_
   conv => whnf
   refine w2 8 9 ?_ ?_ <;> conv => whnf
   ·refine w2 9 10 ?_ ?_ <;> conv => whnf
    ·refine w1 10 ?_
     conv => whnf
     refine w1 11 ?_
     conv => whnf
     refine wd1 (mid (polyN p q.toNat) _ (hq q q0 (by omega)) (by dsimp only; omega) ?_)
     exact cvr
    ·refine w1 9 ?_
     conv => whnf
     refine w1 11 ?_
     conv => whnf
     refine wd1 (mid (polyN p q.toNat) _ (hq q q0 (by omega)) (by dsimp only; omega) ?_)
     exact cvr
   ·refine w1 8 ?_
    conv => whnf
    refine w1 10 ?_
    conv => whnf
    refine w1 11 ?_
    conv => whnf
    refine wd1 (mid (polyN p q.toNat) _ (hq q q0 (by omega)) (by dsimp only; omega) ?_)
    exact cvr
 ·refine callP rfl (roll_fn hc 1801) ?_
  rintro lo3 hi3 hi3' z hk1 hk2 hk3 ⟨b, x, hx, rfl⟩ _
  try dsimp only at hk1 hk2
  conv => whnf
  refine w2 0 4 ?_ ?_ <;> conv => whnf
  ·refine w1 4 ?_
   conv => whnf
   refine w1 5 ?_
   conv => whnf
   refine ⟨⟨rfl, rfl⟩, ?_⟩
   conv => whnf
   refine ⟨rfl, _, (below_m hc (max 1 N) (by omega) b x hx), ?_⟩
   rintro hs_ms3 av x' t' hh_ms3 ⟨rfl, ⟨x3, hx3, rfl⟩, _, rfl, ⟨q, rfl, q0, q1⟩⟩ _ _ _
   try dsimp only at hh_ms3
   conv => whnf
   refine w1 6 ?_
   conv => whnf
   obtain ⟨Z, e11, _, hI11, _, hZ⟩ := ElementWith_E p f.l q hpR (by constructor <;> omega) (by omega)
   obtain ⟨rfl, rfl⟩ := hZ hk q0 (by rw [hNe]; omega)
   rw [← polyN_l] at hI11
   refine callV rfl (RT.toV (hI11 _)) fun hs' hhs => ?_
   try dsimp only at hhs
   conv => whnf
   refine wt 7 ?_
   conv => whnf
   refine w2 8 9 ?_ ?_ <;> conv => whnf
   ·refine w2 9 10 ?_ ?_ <;> conv => whnf
    ·refine w1 10 ?_
     conv => whnf
     refine w1 11 ?_
     conv => whnf
     refine wd1 (mid (polyN p q.toNat) _ (hq q q0 (by omega)) (by dsimp only; omega) ?_)
     exact cvr
    ·refine w1 9 ?_
     conv => whnf
     refine w1 11 ?_
     conv => whnf
     refine wd1 (mid (polyN p q.toNat) _ (hq q q0 (by omega)) (by dsimp only; omega) ?_)
     exact cvr
   ·refine w1 8 ?_
    conv => whnf
    refine w1 10 ?_
    conv => whnf
    refine w1 11 ?_
    conv => whnf
    refine wd1 (mid (polyN p q.toNat) _ (hq q q0 (by omega)) (by dsimp only; omega) ?_)
    exact cvr
  ·refine w2 0 5 ?_ ?_ <;> conv => whnf
   ·refine w1 5 ?_
    conv => whnf
    refine ⟨⟨rfl, rfl⟩, ?_⟩
    conv => whnf
    refine ⟨rfl, _, (below_m hc (max 1 N) (by omega) b x hx), ?_⟩
    rintro hs_ms3 av x' t' hh_ms3 ⟨rfl, ⟨x3, hx3, rfl⟩, _, rfl, ⟨q, rfl, q0, q1⟩⟩ _ _ _
    try dsimp only at hh_ms3
    conv => whnf
    refine w1 6 ?_
    conv => whnf
    obtain ⟨Z, e11, _, hI11, _, hZ⟩ := ElementWith_E p f.l q hpR (by constructor <;> omega) (by omega)
    obtain ⟨rfl, rfl⟩ := hZ hk q0 (by rw [hNe]; omega)
    rw [← polyN_l] at hI11
    refine callV rfl (RT.toV (hI11 _)) fun hs' hhs => ?_
    try dsimp only at hhs
    conv => whnf
    refine wt 7 ?_
    conv => whnf
    refine w2 8 9 ?_ ?_ <;> conv => whnf
    ·refine w2 9 10 ?_ ?_ <;> conv => whnf
     ·refine w1 10 ?_
      conv => whnf
      refine w1 11 ?_
      conv => whnf
      refine wd1 (mid (polyN p q.toNat) _ (hq q q0 (by omega)) (by dsimp only; omega) ?_)
      exact cvr
     ·refine w1 9 ?_
      conv => whnf
      refine w1 11 ?_
      conv => whnf
      refine wd1 (mid (polyN p q.toNat) _ (hq q q0 (by omega)) (by dsimp only; omega) ?_)
      exact cvr
    ·refine w1 8 ?_
     conv => whnf
     refine w1 10 ?_
     conv => whnf
     refine w1 11 ?_
     conv => whnf
     refine wd1 (mid (polyN p q.toNat) _ (hq q q0 (by omega)) (by dsimp only; omega) ?_)
     exact cvr
   ·refine ⟨⟨rfl, rfl⟩, ?_⟩
    conv => whnf
    refine ⟨rfl, _, (below_m hc (max 1 N) (by omega) b x hx), ?_⟩
    rintro hs_ms3 av x' t' hh_ms3 ⟨rfl, ⟨x3, hx3, rfl⟩, _, rfl, ⟨q, rfl, q0, q1⟩⟩ _ _ _
    try dsimp only at hh_ms3
    conv => whnf
    refine w1 0 ?_
    conv => whnf
    refine w1 6 ?_
    conv => whnf
    obtain ⟨Z, e11, _, hI11, _, hZ⟩ := ElementWith_E p f.l q hpR (by constructor <;> omega) (by omega)
    obtain ⟨rfl, rfl⟩ := hZ hk q0 (by rw [hNe]; omega)
    rw [← polyN_l] at hI11
    refine callV rfl (RT.toV (hI11 _)) fun hs' hhs => ?_
    try dsimp only at hhs
    conv => whnf
    refine wt 7 ?_
    conv => whnf
    refine w2 8 9 ?_ ?_ <;> conv => whnf
    ·refine w2 9 10 ?_ ?_ <;> conv => whnf
     ·refine w1 10 ?_
      conv => whnf
      refine w1 11 ?_
      conv => whnf
      refine wd1 (mid (polyN p q.toNat) _ (hq q q0 (by omega)) (by dsimp only; omega) ?_)
      exact cvr
     ·refine w1 9 ?_
      conv => whnf
      refine w1 11 ?_
      conv => whnf
      refine wd1 (mid (polyN p q.toNat) _ (hq q q0 (by omega)) (by dsimp only; omega) ?_)
      exact cvr
    ·refine w1 8 ?_
     conv => whnf
     refine w1 10 ?_
     conv => whnf
     refine w1 11 ?_
     conv => whnf
     refine wd1 (mid (polyN p q.toNat) _ (hq q q0 (by omega)) (by dsimp only; omega) ?_)
     exact cvr
 ·refine w2 0 2 ?_ ?_ <;> conv => whnf
  ·refine w1 2 ?_
   conv => whnf
   refine callP rfl (roll_fn hc 1801) ?_
   rintro lo3 hi3 hi3' z hk1 hk2 hk3 ⟨b, x, hx, rfl⟩ _
   try dsimp only at hk1 hk2
   conv => whnf
   refine w1 5 ?_
   conv => whnf
   refine ⟨⟨rfl, rfl⟩, ?_⟩
   conv => whnf
   refine ⟨rfl, _, (below_m hc (max 1 N) (by omega) b x hx), ?_⟩
   rintro hs_ms3 av x' t' hh_ms3 ⟨rfl, ⟨x3, hx3, rfl⟩, _, rfl, ⟨q, rfl, q0, q1⟩⟩ _ _ _
   try dsimp only at hh_ms3
   conv => whnf
   refine w1 6 ?_
   conv => whnf
   obtain ⟨Z, e11, _, hI11, _, hZ⟩ := ElementWith_E p f.l q hpR (by constructor <;> omega) (by omega)
   obtain ⟨rfl, rfl⟩ := hZ hk q0 (by rw [hNe]; omega)
   rw [← polyN_l] at hI11
   refine callV rfl (RT.toV (hI11 _)) fun hs' hhs => ?_
   try dsimp only at hhs
   conv => whnf
   refine wt 7 ?_
   conv => whnf
   refine w2 8 9 ?_ ?_ <;> conv => whnf
   ·refine w2 9 10 ?_ ?_ <;> conv => whnf
    ·refine w1 10 ?_
     conv => whnf
     refine w1 11 ?_
     conv => whnf
     refine wd1 (mid (polyN p q.toNat) _ (hq q q0 (by omega)) (by dsimp only; omega) ?_)
     exact cvr
    ·refine w1 9 ?_
     conv => whnf
     refine w1 11 ?_
     conv => whnf
     refine wd1 (mid (polyN p q.toNat) _ (hq q q0 (by omega)) (by dsimp only; omega) ?_)
     exact cvr
   ·refine w1 8 ?_
    conv => whnf
    refine w1 10 ?_
    conv => whnf
    refine w1 11 ?_
    conv => whnf
    refine wd1 (mid (polyN p q.toNat) _ (hq q q0 (by omega)) (by dsimp only; omega) ?_)
    exact cvr
  ·refine callP rfl (roll_fn hc 1801) ?_
   rintro lo3 hi3 hi3' z hk1 hk2 hk3 ⟨b, x, hx, rfl⟩ _
   try dsimp only at hk1 hk2
   conv => whnf
   refine w2 0 5 ?_ ?_ <;> conv => whnf
   ·refine w1 5 ?_
    conv => whnf
    refine ⟨⟨rfl, rfl⟩, ?_⟩
    conv => whnf
    refine ⟨rfl, _, (below_m hc (max 1 N) (by omega) b x hx), ?_⟩
    rintro hs_ms3 av x' t' hh_ms3 ⟨rfl, ⟨x3, hx3, rfl⟩, _, rfl, ⟨q, rfl, q0, q1⟩⟩ _ _ _
    try dsimp only at hh_ms3
    conv => whnf
    refine w1 6 ?_
    conv => whnf
    obtain ⟨Z, e11, _, hI11, _, hZ⟩ := ElementWith_E p f.l q hpR (by constructor <;> omega) (by omega)
    obtain ⟨rfl, rfl⟩ := hZ hk q0 (by rw [hNe]; omega)
    rw [← polyN_l] at hI11
    refine callV rfl (RT.toV (hI11 _)) fun hs' hhs => ?_
    try dsimp only at hhs
    conv => whnf
    refine wt 7 ?_
    conv => whnf
    refine w2 8 9 ?_ ?_ <;> conv => whnf
    ·refine w2 9 10 ?_ ?_ <;> conv => whnf
     ·refine w1 10 ?_
      conv => whnf
      refine w1 11 ?_
      conv => whnf
      refine wd1 (mid (polyN p q.toNat) _ (hq q q0 (by omega)) (by dsimp only; omega) ?_)
      exact cvr
     ·refine w1 9 ?_
      conv => whnf
      refine w1 11 ?_
      conv => whnf
      refine wd1 (mid (polyN p q.toNat) _ (hq q q0 (by omega)) (by dsimp only; omega) ?_)
      exact cvr
    ·refine w1 8 ?_
     conv => whnf
     refine w1 10 ?_
     conv => whnf
     refine w1 11 ?_
     conv => whnf
     refine wd1 (mid (polyN p q.toNat) _ (hq q q0 (by omega)) (by dsimp only; omega) ?_)
     exact cvr
   ·refine ⟨⟨rfl, rfl⟩, ?_⟩
    conv => whnf
    refine ⟨rfl, _, (below_m hc (max 1 N) (by omega) b x hx), ?_⟩
    rintro hs_ms3 av x' t' hh_ms3 ⟨rfl, ⟨x3, hx3, rfl⟩, _, rfl, ⟨q, rfl, q0, q1⟩⟩ _ _ _
    try dsimp only at hh_ms3
    conv => whnf
    refine w1 0 ?_
    conv => whnf
    refine w1 6 ?_
    conv => whnf
    obtain ⟨Z, e11, _, hI11, _, hZ⟩ := ElementWith_E p f.l q hpR (by constructor <;> omega) (by omega)
    obtain ⟨rfl, rfl⟩ := hZ hk q0 (by rw [hNe]; omega)
    rw [← polyN_l] at hI11
    refine callV rfl (RT.toV (hI11 _)) fun hs' hhs => ?_
    try dsimp only at hhs
    conv => whnf
    refine wt 7 ?_
    conv => whnf
    refine w2 8 9 ?_ ?_ <;> conv => whnf
    ·refine w2 9 10 ?_ ?_ <;> conv => whnf
     ·refine w1 10 ?_
      conv => whnf
      refine w1 11 ?_
      conv => whnf
      refine wd1 (mid (polyN p q.toNat) _ (hq q q0 (by omega)) (by dsimp only; omega) ?_)
      exact cvr
     ·refine w1 9 ?_
      conv => whnf
      refine w1 11 ?_
      conv => whnf
      refine wd1 (mid (polyN p q.toNat) _ (hq q q0 (by omega)) (by dsimp only; omega) ?_)
      exact cvr
    ·refine w1 8 ?_
     conv => whnf
     refine w1 10 ?_
     conv => whnf
     refine w1 11 ?_
     conv => whnf
     refine wd1 (mid (polyN p q.toNat) _ (hq q q0 (by omega)) (by dsimp only; omega) ?_)
     exact cvr
-- 24 ways

open Go Go.RowKit Go.ChangeShapes Go.WideShapes Go.ChangeAt Go.Proofs Go.Proofs.YtlhgbljojdbhgaaGreat

set_option maxRecDepth 100000 in
theorem liftedTraces (H : Type) (enc : TypeId × Value → H) (os : Os) (started : os.Started) :
  ReturnsInHanded {} Tryz.checked os 5 .any (Rows.fnTracesSpec.pre6 enc Tryz.prog Tryz.f5 Rows.fnTracesRow.domain false) (Rows.fnTracesSpec.post enc Tryz.prog Tryz.f5 false true false false) := by
 refine law_lifted (C := Tryz.checked) (tb := 4) ownP started (by kernel_rfl) Tryz.func5 laidOutP ?_ rfl (by kernel_rfl) Tryz.underlying4 ?_
  (ChangeSpec.witness6 (enc := enc) (C := Tryz.checked) false ⟨#[], #[.slice none 0 0], []⟩ 8 (by kernel_rfl) (by kernel_rfl) (by kernel_rfl) (by kernel_rfl)) ?_
 ·rw [Tryz.params5]
  intro t ht
  simp only [List.mem_singleton] at ht
  subst ht
  exact ⟨by kernel_rfl, of_decide_eq_true (by kernel_rfl)⟩
 ·intro ds hds
  match ds, hds with
  | [d0], _ => exact ⟨rfl, rfl, rfl⟩
 ·intro W args ds ps hval hA
  have hval' : ∀ (j : Nat) t v, Tryz.f5.params[j]? = some t → args[j]? = some v → ∃ base, Value.okWide Tryz.prog W .any base t v := hval
  rw [Tryz.params5] at hA hval'
  obtain ⟨v0, d0, hv, rfl, h0⟩ := trodAll_one hA
  subst hv
  obtain ⟨_, hv0⟩ := hval' 0 22 v0 rfl rfl
  obtain ⟨a0, len0, cap0, rfl⟩ := okWide_slice Tryz.underlying22 hv0
  obtain ⟨x0, hx0, hr0⟩ := arg_cell readsBytes h0 (by simp)
  obtain ⟨n, c, hb, _, hr⟩ := bytes_of hx0
  refine fn_trueB (lawTraces (n := n) (c := c) hb) rfl fun j hj => ?_
  obtain rfl : j = 0 := by simpa using hj
  exact hr _ _ _ hr0

theorem joinedTracesa : (Rows.fnTracesRow.inPlace == Tryz.checked.prog.inPlace 5) = true := by kernel_rfl
theorem joinedTracesb : (Rows.fnTracesRow.unfollowed == Tryz.checked.prog.unfollowed 5) = true := by kernel_rfl
theorem joinedTracesc : (Rows.fnTracesRow.recurses == Tryz.checked.prog.recurses 5) = true := by kernel_rfl
theorem joinedTracesd : (Rows.fnTracesRow.named == Tryz.checked.prog.varsNamed 5) = true := by kernel_rfl
theorem joinedTraces : joinedFacts Tryz.checked.prog 5 Tryz.f5 Rows.fnTracesSpec Rows.fnTracesRow = true := by
 unfold joinedFacts
 rw [enterP, liftP, makeP, joinedTracesa, joinedTracesb, joinedTracesc, joinedTracesd]
 kernel_rfl
theorem instTraces : Tryz.f5.isInstance Tryz.checked.prog Rows.fnTracesRow.origin Rows.fnTracesRow.targs := of_decide_eq_true (by kernel_rfl)

theorem claimTraces : Rows.FnTracesSaid :=
 OpenClaim.holds_of_wide (p := Tryz.pinned) (s := Rows.fnTracesSpec) (c := Rows.fnTracesRow) 5 Tryz.f5 rfl rfl rfl rfl rfl rfl rfl ⟨rfl, rfl, rfl, rfl, rfl⟩ rfl rfl rfl rfl rfl (by kernel_rfl) Tryz.func5 joinedTraces
  instTraces (by unfold Func.isWrapper; first | (rw [if_pos (by decide +kernel)]; kernel_rfl) | (rw [if_neg (by decide +kernel)]; exact ⟨rfl, rfl⟩))
  (fun os started H enc _ => liftedTraces H enc os started)

end Go.Proofs.YtlhgbljojdbhgaaGreat
