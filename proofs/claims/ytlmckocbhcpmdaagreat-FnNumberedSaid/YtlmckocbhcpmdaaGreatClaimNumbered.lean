/- The law FnNumbered answers true, for all arguments. No conditions. -/
import Derived.Test.YtlmckocbhcpmdaaGreatPj
namespace Go.Proofs.YtlmckocbhcpmdaaGreat
open Go Go.RowKit Go.Proofs Poly
set_option maxRecDepth 100000
set_option maxHeartbeats 8000000

theorem num_take {p : Nat} (l : List Int) (n : Nat) (h : n < l.length) : num p (l.take (n + 1)) = num p (l.take n) + p ^ n * (cf l n).toNat := by
 rw [List.take_succ_eq_append_getElem h, num_append, List.length_take, Nat.min_eq_left (by omega), cf_lt h]
 simp [num]
theorem cmpAt_num {p : Nat} (hp : 2 ≤ p) {f g : List Int} (hf : Digs p f) (hg : Digs p g) (hl : f.length = g.length) : ∀ n, n ≤ f.length → num p (f.take n) < num p (g.take n) → cmpAt f g n = -1
 | 0, _, h => by simp [num] at h
 | n + 1, hn, h => by
  rw [num_take f n (by omega), num_take g n (by omega)] at h
  have h1 := num_lt hp (l := g.take n) fun x hx => hg x (List.mem_of_mem_take hx)
  have h2 := num_lt hp (l := f.take n) fun x hx => hf x (List.mem_of_mem_take hx)
  rw [List.length_take, Nat.min_eq_left (by omega)] at h1 h2
  have a1 : 0 ≤ cf f n := by rw [cf_lt (show n < f.length by omega)]; exact (hf _ (List.getElem_mem _)).1
  have a2 : 0 ≤ cf g n := by rw [cf_lt (show n < g.length by omega)]; exact (hg _ (List.getElem_mem _)).1
  unfold cmpAt
  by_cases h3 : cf f n < cf g n
  ·rw [if_pos h3]
  ·rw [if_neg h3]
   by_cases h4 : cf g n < cf f n
   ·exfalso
    have h5 : (cf g n).toNat + 1 ≤ (cf f n).toNat := by omega
    have := Nat.mul_le_mul_left (p ^ n) h5
    rw [Nat.mul_add, Nat.mul_one] at this
    omega
   ·rw [if_neg h4]
    have h5 : cf f n = cf g n := by omega
    rw [h5] at h
    exact cmpAt_num hp hf hg hl n (by omega) (by omega)

theorem lawNumbered {n : Nat} {c : Nat → Int} (hb : ∀ i, 0 ≤ c i ∧ c i ≤ 255) : FnV 4 [vBy n c] (.bool true) := by
 refine fn_of (cx_ok [0, 2, 3, 4, 5, 6, 7, 8, 9, 10, 11, 12, 13, 14, 15, 16, 17, 18, 19, 20, 21, 22, 23, 24, 25, 26, 27, 28, 29, 30, 31, 32, 33, 34, 35, 36, 38, 147, 149, 162, 164, 191, 193, 212, 214]) Tryz.func4 rfl (by decide) Tryz.ntmps4 (Nat.le_of_ble_eq_true rfl) fun base => ?_
 refine wrs fun K hK => ?_
 conv => whnf
 refine hK _ ?_
 clear hK K
 refine W.seqK fun K1 hK1 => ?_
 refine wrs fun K hK => ?_
 conv => whnf
 refine callV rfl (big_fn) fun hs' hhs => ?_
 try dsimp only at hhs
 conv => whnf
 refine hK _ (W.cond ⟨fun h => ?_, fun h => ?_⟩) <;> clear hK K
 ·refine wrs fun K hK => ?_
  conv => whnf
  refine hK _ ?_
  clear hK K
  refine W.ret ?_
  conv => whnf
  exact ⟨.v (.bool true), rfl, trivial, rfl⟩
 have h := of_decide_eq_false h
 have hc : Byt n c := ⟨by omega, hb⟩
 refine W.skip (hK1 _ ?_)
 clear hK1 K1
 refine wrs fun K hK => ?_
 conv => whnf
 refine callP rfl (DrawNumberOf_fn hc) ?_
 rintro lo hi hi' z hl1 hl2 hl3 ⟨p, F, rfl, hp, hF⟩ _
 try dsimp only at hl1 hl2
 conv => whnf
 refine hK _ ?_
 clear hK K
 obtain ⟨u1, e1, hS1, hI1, hn1, hy1⟩ := NumberOf_E p F (by omega)
 refine wrs fun K hK => ?_
 conv => whnf
 refine callV rfl (hI1 _) fun hs' hhs => ?_
 try dsimp only at hhs
 conv => whnf
 refine hK _ ?_
 clear hK K
 refine wrs fun K hK => ?_
 conv => whnf
 refine callV rfl (hS1 _) fun hs' hhs => ?_
 try dsimp only at hhs
 conv => whnf
 refine hK _ ?_
 clear hK K
 refine wrs fun K hK => ?_
 conv => whnf
 refine callP rfl (DrawPolynomialWith_fn hc) ?_
 rintro lo2 hi2 hi2' z hm1 hm2 hm3 ⟨q, m, rfl, hq, hm⟩ _
 try dsimp only at hm1 hm2
 conv => whnf
 refine hK _ ?_
 clear hK K
 obtain ⟨X, e2, hS2, hI2, hX, hV2, _⟩ := PolynomialWith_E q m
 refine wrs fun K hK => ?_
 conv => whnf
 refine callV rfl (hI2) fun hs' hhs => ?_
 try dsimp only at hhs
 conv => whnf
 refine hK _ ?_
 clear hK K
 refine wrs fun K hK => ?_
 conv => whnf
 refine callV rfl (hS2) fun hs' hhs => ?_
 try dsimp only at hhs
 conv => whnf
 refine hK _ ?_
 clear hK K
 refine wrs fun K hK => ?_
 conv => whnf
 refine callP rfl (DrawNextIrreducible_fn hc) ?_
 rintro lo3 hi3 hi3' z hk1 hk2 hk3 ⟨r, G, rfl, hr, hG⟩ _
 try dsimp only at hk1 hk2
 conv => whnf
 refine hK _ ?_
 clear hK K
 obtain ⟨Y, e3, hS3, hI3, hY, hV3⟩ := NextIrreducible_E r G (by constructor <;> omega) (by omega)
 refine wrs fun K hK => ?_
 conv => whnf
 refine callV rfl (RT.toV (hI3 _)) fun hs' hhs => ?_
 try dsimp only at hhs
 conv => whnf
 refine hK _ ?_
 clear hK K
 refine wrs fun K hK => ?_
 conv => whnf
 refine callV rfl (hS3 _) fun hs' hhs => ?_
 try dsimp only at hhs
 conv => whnf
 refine hK _ ?_
 clear hK K
 refine wrs fun K hK => ?_
 conv => whnf
 refine callP rfl (DrawFirstIrreducible_fn hc) ?_
 rintro lo4 hi4 hi4' z hj1 hj2 hj3 ⟨u, k, rfl, hu, hk0, hk10⟩ _
 try dsimp only at hj1 hj2
 conv => whnf
 refine hK _ ?_
 clear hK K
 obtain ⟨Z, e4, hS4, hI4, hZ, hV4⟩ := FirstIrreducible_E u k
 refine wrs fun K hK => ?_
 conv => whnf
 refine callV rfl (hI4) fun hs' hhs => ?_
 try dsimp only at hhs
 conv => whnf
 refine hK _ ?_
 clear hK K
 refine wrs fun K hK => ?_
 conv => whnf
 refine callV rfl (hS4) fun hs' hhs => ?_
 try dsimp only at hhs
 conv => whnf
 refine hK _ ?_
 clear hK K
 refine W.seqK fun K1 hK1 => ?_
 refine wrs fun K hK => ?_
 conv => whnf
 refine ⟨fun hc0 => absurd hc0 (by simp), fun _ => ?_⟩
 conv => whnf
 refine ⟨fun hc0 => absurd hc0 (by simp), fun _ => ?_⟩
 conv => whnf
 refine ⟨fun hc0 => absurd hc0 (by simp), fun _ => ?_⟩
 conv => whnf
 refine callV rfl (likeInts_same _ _ X (by omega)) fun hs' hhs => ?_
 try dsimp only at hhs
 conv => whnf
 refine ⟨fun hc0 => absurd hc0 (by simp), fun _ => ?_⟩
 conv => whnf
 refine callV rfl (likeInts_same _ _ Y (by omega)) fun hs' hhs => ?_
 try dsimp only at hhs
 conv => whnf
 refine ⟨fun hc0 => absurd hc0 (by simp), fun _ => ?_⟩
 conv => whnf
 refine callV rfl (likeInts_same _ _ Z (by omega)) fun hs' hhs => ?_
 try dsimp only at hhs
 conv => whnf
 refine hK _ (W.condF rfl (W.skip (hK1 _ ?_)))
 clear hK K hK1 K1
 refine W.seqK fun K1 hK1 => ?_
 have fin1 : ∀ t : S, base ≤ t.hs → coverK t.env [(3, .v (.int .i64 p)), (4, .v (.ints none F)), (5, .v (.int .i64 u1)), (6, .v (.int .i64 e1)), (15, .v (.int .i64 r)), (16, .v (.ints none G)), (17, .v (.ints none Y)), (18, .v (.int .i64 e3)), (21, .v (.int .i64 u)), (22, .v (.int .i64 k)), (23, .v (.ints none Z)), (24, .v (.int .i64 e4))] → K1 t := by
  intro t h7 h8
  refine hK1 _ (W.weak (t := ⟨[(3, .v (.int .i64 p)), (4, .v (.ints none F)), (5, .v (.int .i64 u1)), (6, .v (.int .i64 e1)), (15, .v (.int .i64 r)), (16, .v (.ints none G)), (17, .v (.ints none Y)), (18, .v (.int .i64 e3)), (21, .v (.int .i64 u)), (22, .v (.int .i64 k)), (23, .v (.ints none Z)), (24, .v (.int .i64 e4))], base⟩) ⟨h7, h8⟩ (Nat.le_refl _) ?_)
  clear hK1 K1
  refine W.seqK fun K1 hK1 => ?_
  have fin2 : ∀ t : S, base ≤ t.hs → coverK t.env [(3, .v (.int .i64 p)), (4, .v (.ints none F)), (5, .v (.int .i64 u1)), (6, .v (.int .i64 e1)), (21, .v (.int .i64 u)), (22, .v (.int .i64 k)), (23, .v (.ints none Z)), (24, .v (.int .i64 e4))] → K1 t := by
   intro t h7 h8
   refine hK1 _ (W.weak (t := ⟨[(3, .v (.int .i64 p)), (4, .v (.ints none F)), (5, .v (.int .i64 u1)), (6, .v (.int .i64 e1)), (21, .v (.int .i64 u)), (22, .v (.int .i64 k)), (23, .v (.ints none Z)), (24, .v (.int .i64 e4))], base⟩) ⟨h7, h8⟩ (Nat.le_refl _) ?_)
   clear hK1 K1
   refine W.seqK fun K1 hK1 => ?_
   have fin3 : ∀ t : S, base ≤ t.hs → coverK t.env [(3, .v (.int .i64 p)), (4, .v (.ints none F)), (5, .v (.int .i64 u1)), (6, .v (.int .i64 e1))] → K1 t := by
    intro t h7 h8
    refine hK1 _ (W.weak (t := ⟨[(3, .v (.int .i64 p)), (4, .v (.ints none F)), (5, .v (.int .i64 u1)), (6, .v (.int .i64 e1))], base⟩) ⟨h7, h8⟩ (Nat.le_refl _) ?_)
    clear hK1 K1
    refine W.seqK fun K1 hK1 => ?_
    refine wrs fun K hK => ?_
    conv => whnf
    refine hK _ (W.cond ⟨fun hz => ?_, fun hz => ?_⟩) <;> clear hK K
    ·refine wrs fun K hK => ?_
     conv => whnf
     refine hK _ ?_
     clear hK K
     refine W.ret ?_
     conv => whnf
     exact ⟨.v (.bool true), rfl, trivial, rfl⟩
    have hz : e1 = 0 := Decidable.of_not_not (of_decide_eq_false hz)
    refine W.skip (hK1 _ ?_)
    clear hK1 K1
    subst hz
    have hm1 : IsMod p F := Classical.byContradiction fun h => absurd (hn1 h) (by decide)
    obtain ⟨_, hu1, hu2⟩ : (0 : Int) = 0 ∧ u1 = num p.toNat F ∧ num p.toNat F ≤ 1000000000 := by
     rcases hy1 hm1 with h | h
     ·exact h
     ·exact absurd h.1 (by decide)
    obtain ⟨hpp, f, rfl⟩ := poly_of hm1
    letI := sp_of hpp
    have hf9 := hm1.2.1
    obtain ⟨B, e5, _, hI5, hB, hV5, hW5⟩ := PolynomialWith_E p u1
    have hd : dig p.toNat u1.toNat = f.l := by rw [hu1, Int.toNat_natCast]; exact dig_num two_nat (l_digs f) f.ok.2
    obtain rfl : e5 = 0 := hW5 hm1.1 (by omega) (by omega) (by rw [hd]; exact hf9)
    obtain rfl : B = f.l := (hV5 rfl).2.2.2.1.trans hd
    refine wrs fun K hK => ?_
    conv => whnf
    refine callV rfl (hI5) fun hs' hhs => ?_
    try dsimp only at hhs
    conv => whnf
    refine hK _ ?_
    clear hK K
    refine wrs fun K hK => ?_
    conv => whnf
    refine ⟨fun _ => ?_, fun hc0 => absurd hc0 (by simp)⟩
    conv => whnf
    refine callV rfl (likeInts_same _ _ f.l (by omega)) fun hs' hhs => ?_
    try dsimp only at hhs
    conv => whnf
    refine hK _ ?_
    clear hK K
    refine W.ret ?_
    conv => whnf
    exact ⟨.v (.bool true), rfl, trivial, rfl⟩
   refine wrs fun K hK => ?_
   conv => whnf
   refine hK _ (W.cond ⟨fun hz => ?_, fun hz => ?_⟩) <;> clear hK K
   ·have hz : e4 = 0 := of_decide_eq_true hz
    obtain ⟨hpp, hh⟩ := hV4 hz
    letI := sp_of hpp
    obtain ⟨d, o, rfl, hd1, hd4, ho, rfl⟩ := hh
    obtain ⟨v, rfl⟩ : ∃ v, o = some v := by
     cases o with
     | some v => exact ⟨v, rfl⟩
     | none =>
      obtain ⟨f, hd, hcf, hi⟩ := exists_deg hpp d hd1 hd4
      have hT : Top u.toNat d f.l := ⟨hd, hcf, l_digs f⟩
      have h5 := hT.range (by have := primes_le hpp; omega)
      exact absurd (by show Irr (polyN u (nm f)); rw [polyN_nm]; exact hi) (ho (nm f) h5.1 h5.2)
    obtain ⟨h5, h6, h7, _⟩ := ho
    have hu2 := primes_le hpp
    have hT := top_of (p := u.toNat) (by omega) h5 h6
    have h7 : Irr (polyN u v) := h7
    have hl := polyN_l (p := u) v
    have hlen : (polyN u v).l.length = d + 1 := by rw [hl]; exact hT.len
    have hmod : IsMod u (polyN u v).l := ⟨decide_eq_true hpp, by omega, fun j _ => by have := cf_bd (polyN u v) j; omega, .inr ((polyN u v).ok.2 _ (by omega))⟩
    show W _ _ _ _ _ _ _
    rw [show outL u.toNat (some v) = (polyN u v).l from hl.symm]
    refine wrs fun K hK => ?_
    conv => whnf
    refine callV rfl (IsIrreducible_ok u none (polyN u v) hmod (by show 2 ≤ (polyN u v).l.length; omega)) fun hs' hhs => ?_
    try dsimp only at hhs
    conv => whnf
    rw [bP_true h7]
    refine hK _ ?_
    clear hK K
    refine wrs fun K hK => ?_
    conv => whnf
    refine ⟨fun hc0 => absurd hc0 (by simp), fun _ => ?_⟩
    conv => whnf
    refine ⟨fun hc0 => absurd hc0 (by simp), fun _ => ?_⟩
    conv => whnf
    refine ⟨oo, ?_⟩
    conv => whnf
    refine hK _ (W.cond ⟨fun hcc => absurd (by rw [hlen]; simp) (of_decide_eq_true hcc), fun _ => W.skip (fin3 _ (by dsimp only; omega) ?_)⟩)
    exact cvr
   ·refine W.skip (fin3 _ (by dsimp only; omega) ?_)
    exact cvr
  refine wrs fun K hK => ?_
  conv => whnf
  refine hK _ (W.cond ⟨fun hz => ?_, fun hz => ?_⟩) <;> clear hK K
  ·have hz : e3 = 0 := of_decide_eq_true hz
   obtain ⟨hpp, hh⟩ := hV3 hz
   letI := sp_of hpp
   obtain ⟨hmG, ⟨hg2, hg5⟩, hg1, v, hv1, hv2, hv3, rfl⟩ := hh
   subst hz
   have hr2 := primes_le hpp
   have hGd : Digs r.toNat G := fun x hx => by
    obtain ⟨j, hj, rfl⟩ := List.mem_iff_getElem.1 hx
    have := hmG.2.2.1 j hj
    rw [cf_lt hj] at this
    omega
   have hTG : Top r.toNat (G.length - 1) G := ⟨by omega, hg1, hGd⟩
   have hrG := hTG.range (by omega)
   have hT := top_of (p := r.toNat) (d := G.length - 1) (by omega) (by omega) hv2
   have hv3 : Irr (polyN r v) := hv3
   have hl := polyN_l (p := r) v
   have hlen : (polyN r v).l.length = G.length := by rw [hl, hT.len]; omega
   have hmod : IsMod r (polyN r v).l := ⟨decide_eq_true hpp, by omega, fun j _ => by have := cf_bd (polyN r v) j; omega, .inr ((polyN r v).ok.2 _ (by omega))⟩
   have hcm : cmpP G (polyN r v).l = -1 := by
    unfold cmpP
    rw [if_neg (by omega), if_neg (by omega)]
    refine cmpAt_num (p := r.toNat) (by omega) hGd (l_digs _) hlen.symm G.length (Nat.le_refl _) ?_
    rw [List.take_of_length_le (Nat.le_refl _), List.take_of_length_le (by omega), hl, num_dig (by omega)]
    exact hv1
   show W _ _ _ _ _ _ _
   rw [show dig r.toNat v = (polyN r v).l from hl.symm]
   refine wrs fun K hK => ?_
   conv => whnf
   refine callV rfl (ComparePolynomials_ok r none none G (polyN r v).l hmG hmod) fun hs' hhs => ?_
   try dsimp only at hhs
   conv => whnf
   rw [hcm]
   refine hK _ ?_
   clear hK K
   refine wrs fun K hK => ?_
   conv => whnf
   refine callV rfl (IsIrreducible_ok r none (polyN r v) hmod (by show 2 ≤ (polyN r v).l.length; omega)) fun hs' hhs => ?_
   try dsimp only at hhs
   conv => whnf
   rw [bP_true hv3]
   refine hK _ ?_
   clear hK K
   refine wrs fun K hK => ?_
   conv => whnf
   refine ⟨fun hc0 => absurd hc0 (by simp), fun _ => ?_⟩
   conv => whnf
   refine ⟨fun hc0 => absurd hc0 (by simp), fun _ => ?_⟩
   conv => whnf
   refine ⟨fun hc0 => absurd hc0 (by simp), fun _ => ?_⟩
   conv => whnf
   refine hK _ (W.cond ⟨fun hcc => absurd hcc (by simp), fun _ => W.skip (fin2 _ (by dsimp only; omega) ?_)⟩)
   exact cvr
  ·refine W.skip (fin2 _ (by dsimp only; omega) ?_)
   exact cvr
 refine wrs fun K hK => ?_
 conv => whnf
 refine hK _ (W.cond ⟨fun hz => ?_, fun hz => ?_⟩) <;> clear hK K
 ·have hz : e2 = 0 := of_decide_eq_true hz
  subst hz
  obtain ⟨hqp, hm0, hm1, rfl, hx9⟩ := hV2 rfl
  obtain ⟨M, rfl⟩ : ∃ M : Nat, m = M := ⟨m.toNat, by omega⟩
  rw [Int.toNat_natCast] at hx9 ⊢
  have hqq : q ∈ primes := of_decide_eq_true hqp
  letI := sp_of hqq
  have hq2 := primes_le hqq
  have hl := polyN_l (p := q) M
  have hmod : IsMod q (polyN q M).l := ⟨hqp, by rw [hl]; exact hx9, fun j _ => by have := cf_bd (polyN q M) j; omega, by
   by_cases h0 : (polyN q M).l.length = 0
   ·exact .inl h0
   ·exact .inr ((polyN q M).ok.2 _ (by omega))⟩
  obtain ⟨w1, e5, _, hI5, hn5, hy5⟩ := NumberOf_E q (polyN q M).l (by rw [hl]; omega)
  have hnum : num q.toNat (polyN q M).l = M := by rw [hl, num_dig (by omega)]
  obtain ⟨rfl, rfl⟩ : e5 = 0 ∧ w1 = M := by
   rcases hy5 hmod with h | h
   ·exact ⟨h.1, by rw [h.2.1, hnum]⟩
   ·rw [hnum] at h; omega
  rw [← hl]
  refine wrs fun K hK => ?_
  conv => whnf
  refine callV rfl (hI5 _) fun hs' hhs => ?_
  try dsimp only at hhs
  conv => whnf
  refine hK _ ?_
  clear hK K
  refine wrs fun K hK => ?_
  conv => whnf
  refine ⟨fun hc0 => absurd hc0 (by simp), fun _ => ?_⟩
  conv => whnf
  refine hK _ (W.cond ⟨fun hcc => absurd rfl (of_decide_eq_true hcc), fun _ => W.skip (fin1 _ (by dsimp only; omega) ?_)⟩)
  exact cvr
 ·refine W.skip (fin1 _ (by dsimp only; omega) ?_)
  exact cvr

open Go Go.RowKit Go.ChangeShapes Go.WideShapes Go.ChangeAt Go.Proofs Go.Proofs.YtlmckocbhcpmdaaGreat

set_option maxRecDepth 100000 in
theorem liftedNumbered (H : Type) (enc : TypeId × Value → H) (os : Os) (started : os.Started) :
  ReturnsInHanded {} Tryz.checked os 4 .any (Rows.fnNumberedSpec.pre6 enc Tryz.prog Tryz.f4 Rows.fnNumberedRow.domain false) (Rows.fnNumberedSpec.post enc Tryz.prog Tryz.f4 false true false false) := by
 refine law_lifted (C := Tryz.checked) (tb := 4) ownP started (by kernel_rfl) Tryz.func4 laidOutP ?_ rfl (by kernel_rfl) Tryz.underlying4 ?_
  (ChangeSpec.witness6 (enc := enc) (C := Tryz.checked) false ⟨#[], #[.slice none 0 0], []⟩ 8 (by kernel_rfl) (by kernel_rfl) (by kernel_rfl) (by kernel_rfl)) ?_
 ·rw [Tryz.params4]
  intro t ht
  simp only [List.mem_singleton] at ht
  subst ht
  exact ⟨by kernel_rfl, of_decide_eq_true (by kernel_rfl)⟩
 ·intro ds hds
  match ds, hds with
  | [d0], _ => exact ⟨rfl, rfl, rfl⟩
 ·intro W args ds ps hval hA
  have hval' : ∀ (j : Nat) t v, Tryz.f4.params[j]? = some t → args[j]? = some v → ∃ base, Value.okWide Tryz.prog W .any base t v := hval
  rw [Tryz.params4] at hA hval'
  obtain ⟨v0, d0, hv, rfl, h0⟩ := trodAll_one hA
  subst hv
  obtain ⟨_, hv0⟩ := hval' 0 22 v0 rfl rfl
  obtain ⟨a0, len0, cap0, rfl⟩ := okWide_slice Tryz.underlying22 hv0
  obtain ⟨x0, hx0, hr0⟩ := arg_cell readsBytes h0 (by simp)
  obtain ⟨n, c, hb, _, hr⟩ := bytes_of hx0
  refine fn_trueB (lawNumbered (n := n) (c := c) hb) rfl fun j hj => ?_
  obtain rfl : j = 0 := by simpa using hj
  exact hr _ _ _ hr0

theorem joinedNumbereda : (Rows.fnNumberedRow.inPlace == Tryz.checked.prog.inPlace 4) = true := by kernel_rfl
theorem joinedNumberedb : (Rows.fnNumberedRow.unfollowed == Tryz.checked.prog.unfollowed 4) = true := by kernel_rfl
theorem joinedNumberedc : (Rows.fnNumberedRow.recurses == Tryz.checked.prog.recurses 4) = true := by kernel_rfl
theorem joinedNumberedd : (Rows.fnNumberedRow.named == Tryz.checked.prog.varsNamed 4) = true := by kernel_rfl
theorem joinedNumbered : joinedFacts Tryz.checked.prog 4 Tryz.f4 Rows.fnNumberedSpec Rows.fnNumberedRow = true := by
 unfold joinedFacts
 rw [enterP, liftP, makeP, joinedNumbereda, joinedNumberedb, joinedNumberedc, joinedNumberedd]
 kernel_rfl
theorem instNumbered : Tryz.f4.isInstance Tryz.checked.prog Rows.fnNumberedRow.origin Rows.fnNumberedRow.targs := of_decide_eq_true (by kernel_rfl)

theorem claimNumbered : Rows.FnNumberedSaid :=
 OpenClaim.holds_of_wide (p := Tryz.pinned) (s := Rows.fnNumberedSpec) (c := Rows.fnNumberedRow) 4 Tryz.f4 rfl rfl rfl rfl rfl rfl rfl ⟨rfl, rfl, rfl, rfl, rfl⟩ rfl rfl rfl rfl rfl (by kernel_rfl) Tryz.func4 joinedNumbered
  instNumbered (by unfold Func.isWrapper; first | (rw [if_pos (by decide +kernel)]; kernel_rfl) | (rw [if_neg (by decide +kernel)]; exact ⟨rfl, rfl⟩))
  (fun os started H enc _ => liftedNumbered H enc os started)

end Go.Proofs.YtlmckocbhcpmdaaGreat
