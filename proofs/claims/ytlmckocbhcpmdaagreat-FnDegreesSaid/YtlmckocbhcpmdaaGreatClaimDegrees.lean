/- The law FnDegrees answers true, for all arguments. No conditions. -/
import Derived.Test.YtlmckocbhcpmdaaGreatPi
namespace Go.Proofs.YtlmckocbhcpmdaaGreat
open Go Go.RowKit Go.Proofs Poly
set_option maxRecDepth 100000
set_option maxHeartbeats 8000000

theorem sum_repl (n : Nat) (a : Int) : (List.replicate n a).sum = n * a := by
 induction n with
 | zero => simp
 | succ n ih => rw [List.replicate_succ, List.sum_cons, ih, Int.natCast_add, Int.add_mul]; omega
theorem isMod_l {p : Int} [SP p] (hp : isP p = true) (f : Poly p) (h : dg f ≤ 9) : IsMod p f.l :=
 ⟨hp, h, fun j _ => by have := cf_bd f j; omega, by
  by_cases h0 : f.l.length = 0
  ·exact .inl h0
  ·exact .inr (f.ok.2 _ (by omega))⟩
theorem degT_sum {p : Int} [SP p] {f : Poly p} {F : List (Poly p × Nat)} (h : FacOf f F) : ∀ k, k ≤ F.length → (degT F k).sum = (dg (powT F k) : Int) - 1
 | 0, _ => by rw [degT, powT, dg_one]; rfl
 | k + 1, hk => by
  have h1 := degT_sum h k (by omega)
  have h2 := (h.at (j := k) (by omega)).1
  have h3 := dg_mul (powT_mon h k (by omega)).1 (pow_ne h2.ne (F.getD k (0, 0)).2)
  have h4 := dg_pow' h2.ne (F.getD k (0, 0)).2
  have h5 : (F.getD k (0, 0)).1.l.length = dg (F.getD k (0, 0)).1 := rfl
  have h6 := h2.1
  rw [degT, List.sum_append, h1, sum_repl, powT, h5]
  obtain ⟨d, hd⟩ : ∃ d, dg (F.getD k (0, 0)).1 = d + 1 := ⟨dg (F.getD k (0, 0)).1 - 1, by omega⟩
  rw [hd] at h4 ⊢
  rw [show d + 1 - 1 = d by omega] at h4
  rw [h4] at h3
  have h7 : (((F.getD k (0, 0)).2 * d : Nat) : Int) = ((F.getD k (0, 0)).2 : Int) * (d : Int) := Int.natCast_mul ..
  rw [show (((d + 1 : Nat) : Int) - 1) = d by omega, ← h7]
  omega
theorem degT_bd {p : Int} [SP p] {F : List (Poly p × Nat)} (h : ∀ j, j < F.length → dg (F.getD j (0, 0)).1 ≤ 13 ∧ 2 ≤ dg (F.getD j (0, 0)).1) : ∀ k, k ≤ F.length → ∀ x ∈ degT F k, 0 ≤ x ∧ x ≤ 13
 | 0, _, x, hx => by cases hx
 | k + 1, hk, x, hx => by
  rw [degT] at hx
  rcases List.mem_append.1 hx with hx | hx
  ·exact degT_bd h k (by omega) x hx
  ·obtain ⟨_, rfl⟩ := List.mem_replicate.1 hx
   have h1 := h k (by omega)
   have h5 : (F.getD k (0, 0)).1.l.length = dg (F.getD k (0, 0)).1 := rfl
   omega
theorem degT_head {p : Int} [SP p] {F : List (Poly p × Nat)} (h : 1 ≤ (F.getD 0 (0, 0)).2) : ∀ k, 0 < (degT F (k + 1)).length ∧ (degT F (k + 1)).getD 0 0 = ((F.getD 0 (0, 0)).1.l.length : Int) - 1
 | 0 => by
  obtain ⟨e, he⟩ : ∃ e, (F.getD 0 (0, 0)).2 = e + 1 := ⟨(F.getD 0 (0, 0)).2 - 1, by omega⟩
  rw [degT, degT, he]
  simp [List.replicate_succ]
 | k + 1 => by
  obtain ⟨h1, h2⟩ := degT_head h k
  rw [degT]
  refine ⟨by simp; omega, ?_⟩
  rw [List.getD_eq_getElem?_getD, List.getElem?_append_left h1, ← List.getD_eq_getElem?_getD, h2]
theorem prodT_dvd {p : Int} [SP p] {F : List (Poly p × Nat)} (h : ∀ j, j < F.length → 1 ≤ (F.getD j (0, 0)).2) : ∀ k, k ≤ F.length → prodT F k ∣ powT F k
 | 0, _ => dvd_refl _
 | k + 1, hk => by
  obtain ⟨u, hu⟩ := prodT_dvd h k (by omega)
  obtain ⟨w, hw⟩ := dvd_pow_pos (a := (F.getD k (0, 0)).1) (h k (by omega))
  exact ⟨u * w, by rw [powT, prodT, hu, hw]; exact ring [prodT F k, u, (F.getD k (0, 0)).1, w] (by rfl)⟩
theorem fac_dg {p : Int} [SP p] {f : Poly p} {F : List (Poly p × Nat)} (h : FacOf f F) (hf : f ≠ 0) : dg f = dg (powT F F.length) := by
 have h1 := fac_prod h hf
 have h2 := (powT_mon h F.length (Nat.le_refl _)).1
 have hl : lc f % p ≠ 0 := by
  have := cf_bd f (dg f - 1)
  have h3 : lc f % p = lc f := Int.emod_eq_of_lt this.1 this.2
  rw [h3]; exact lc_ne hf
 have h3 := dg_mul (con_ne hl) h2
 rw [← h1, dg_con hl] at h3
 omega

theorem lawDegrees {n : Nat} {c : Nat → Int} (hb : ∀ i, 0 ≤ c i ∧ c i ≤ 255) : FnV 5 [vBy n c] (.bool true) := by
 refine fn_of (cx_ok [0, 2, 3, 4, 5, 6, 7, 8, 9, 10, 11, 12, 13, 14, 15, 16, 17, 18, 19, 20, 21, 22, 23, 24, 25, 26, 27, 28, 30, 31, 33, 169, 171]) Tryz.func5 rfl (by decide) Tryz.ntmps5 (Nat.le_of_ble_eq_true rfl) fun base => ?_
 refine wrs fun K hK => ?_
 conv => whnf
 refine hK _ ?_
 clear hK K
 refine W.seqK fun K1 hK1 => ?_
 refine wrs fun K hK => ?_
 conv => whnf
 refine callV rfl (big_fn) fun hs' hhs => ?_
 try dsimp only at hhs
 conv => whnf
 refine hK _ (W.cond ⟨fun h => ?_, fun h => ?_⟩) <;> clear hK K
 ·refine wrs fun K hK => ?_
  conv => whnf
  refine hK _ ?_
  clear hK K
  refine W.ret ?_
  conv => whnf
  exact ⟨.v (.bool true), rfl, trivial, rfl⟩
 have h := of_decide_eq_false h
 have hc : Byt n c := ⟨by omega, hb⟩
 refine W.skip (hK1 _ ?_)
 clear hK1 K1
 refine wrs fun K hK => ?_
 conv => whnf
 refine callP rfl (DrawDegreesOf_fn hc) ?_
 rintro lo hi hi' z hl1 hl2 hl3 ⟨p, L, rfl, hp, hL⟩ _
 try dsimp only at hl1 hl2
 conv => whnf
 refine hK _ ?_
 clear hK K
 have hpR : inR p := by constructor <;> omega
 obtain ⟨D, e1, hS1, hI1, hD, he1, hV1⟩ := DegreesOf_E p L hpR (by omega)
 obtain ⟨Q, e2, hS2, hI2, hQ, he2, hV2⟩ := SquareFreePart_E p L hpR (by omega)
 obtain ⟨M, e3, hS3, hI3, hM, he3, hV3⟩ := SmallestFactor_E p L (by omega)
 obtain ⟨N, e4, hS4, hI4, he4, hV4⟩ := CountRoots_E p L hpR (by omega)
 subst he1 he2 he3 he4
 refine wrs fun K hK => ?_
 conv => whnf
 refine callV rfl (RT.toV (hI1 _)) fun hs' hhs => ?_
 try dsimp only at hhs
 conv => whnf
 refine hK _ ?_
 clear hK K
 refine wrs fun K hK => ?_
 conv => whnf
 refine callV rfl (hS1 _) fun hs' hhs => ?_
 try dsimp only at hhs
 conv => whnf
 refine hK _ ?_
 clear hK K
 refine wrs fun K hK => ?_
 conv => whnf
 refine callV rfl (RT.toV (hI2 _)) fun hs' hhs => ?_
 try dsimp only at hhs
 conv => whnf
 refine hK _ ?_
 clear hK K
 refine wrs fun K hK => ?_
 conv => whnf
 refine callV rfl (hS2 _) fun hs' hhs => ?_
 try dsimp only at hhs
 conv => whnf
 refine hK _ ?_
 clear hK K
 refine wrs fun K hK => ?_
 conv => whnf
 refine callV rfl (hI3 _) fun hs' hhs => ?_
 try dsimp only at hhs
 conv => whnf
 refine hK _ ?_
 clear hK K
 refine wrs fun K hK => ?_
 conv => whnf
 refine callV rfl (hS3 _) fun hs' hhs => ?_
 try dsimp only at hhs
 conv => whnf
 refine hK _ ?_
 clear hK K
 refine wrs fun K hK => ?_
 conv => whnf
 refine callV rfl (hI4 _) fun hs' hhs => ?_
 try dsimp only at hhs
 conv => whnf
 refine hK _ ?_
 clear hK K
 refine wrs fun K hK => ?_
 conv => whnf
 refine callV rfl (hS4 _) fun hs' hhs => ?_
 try dsimp only at hhs
 conv => whnf
 refine hK _ ?_
 clear hK K
 refine wrs fun K hK => ?_
 conv => whnf
 refine callP rfl (DrawIsIrreducible_fn hc) ?_
 rintro lo2 hi2 hi2' z hm1 hm2 hm3 ⟨q, G, rfl, hq, hG⟩ _
 try dsimp only at hm1 hm2
 conv => whnf
 refine hK _ ?_
 clear hK K
 obtain ⟨ok, e5, hS5, hI5⟩ := IsIrreducible_E q G (by omega)
 refine wrs fun K hK => ?_
 conv => whnf
 refine callV rfl (hI5 _) fun hs' hhs => ?_
 try dsimp only at hhs
 conv => whnf
 refine hK _ ?_
 clear hK K
 refine wrs fun K hK => ?_
 conv => whnf
 refine callV rfl (hS5 _) fun hs' hhs => ?_
 try dsimp only at hhs
 conv => whnf
 refine hK _ ?_
 clear hK K
 refine W.seqK fun K1 hK1 => ?_
 refine wrs fun K hK => ?_
 conv => whnf
 refine ⟨fun hc0 => absurd hc0 (by simp), fun _ => ?_⟩
 conv => whnf
 refine callV rfl (likeInts_same _ _ D (by omega)) fun hs' hhs => ?_
 try dsimp only at hhs
 conv => whnf
 refine ⟨fun hc0 => absurd hc0 (by simp), fun _ => ?_⟩
 conv => whnf
 refine callV rfl (likeInts_same _ _ Q (by omega)) fun hs' hhs => ?_
 try dsimp only at hhs
 conv => whnf
 refine ⟨fun hc0 => absurd hc0 (by simp), fun _ => ?_⟩
 conv => whnf
 refine callV rfl (likeInts_same _ _ M (by omega)) fun hs' hhs => ?_
 try dsimp only at hhs
 conv => whnf
 refine ⟨fun hc0 => absurd hc0 (by simp), fun _ => ?_⟩
 conv => whnf
 refine ⟨fun hc0 => absurd hc0 (by simp), fun _ => ?_⟩
 conv => whnf
 refine ⟨fun hc0 => absurd hc0 (by simp), fun _ => ?_⟩
 conv => whnf
 refine ⟨fun hc0 => absurd hc0 (by simp), fun _ => ?_⟩
 conv => whnf
 refine ⟨fun hc0 => absurd hc0 (by simp), fun _ => ?_⟩
 conv => whnf
 refine ⟨fun hc0 => absurd hc0 (by simp), fun _ => ?_⟩
 conv => whnf
 refine hK _ (W.cond ⟨fun hcc => absurd hcc (by simp), fun _ => W.skip (hK1 _ ?_)⟩)
 clear hK K hK1 K1
 refine W.seqK fun K1 hK1 => ?_
 refine wrs fun K hK => ?_
 conv => whnf
 refine hK _ (W.cond ⟨fun hz => ?_, fun hz => ?_⟩) <;> clear hK K
 ·refine wrs fun K hK => ?_
  conv => whnf
  refine hK _ ?_
  clear hK K
  refine W.ret ?_
  conv => whnf
  exact ⟨.v (.bool true), rfl, trivial, rfl⟩
 have hz : codeFa p L = 0 := Decidable.of_not_not (of_decide_eq_false hz)
 refine W.skip (hK1 _ ?_)
 clear hK1 K1
 rw [hz]
 obtain ⟨hm, h2⟩ := codeFa_ok hz
 obtain ⟨hpp, f, rfl⟩ := poly_of hm
 letI := sp_of hpp
 have hp97 := primes_le hpp
 have h9 : dg f ≤ 9 := hm.2.1
 have h2 : 2 ≤ dg f := h2
 have hf0 : f ≠ 0 := fun e => by rw [e, dg_zero] at h2; omega
 obtain ⟨F, hF⟩ := exists_fac hf0
 obtain rfl := hV1 hpp f F rfl hz hF
 obtain rfl := hV2 hpp f F rfl hz hF
 obtain rfl := hV3 hpp f F rfl hz hF
 obtain rfl := hV4 hpp f F rfl hz hF
 have hpos := fac_some hF h2
 have hx := hF.fac hf0 (by omega)
 have hdf := fac_dg hF hf0
 have hd0 : powT F F.length ∣ f := powT_dvd hF _ (Nat.le_refl _)
 have hdQ : dg (prodT F F.length) ≤ 9 := by
  have := dvd_dg (dvd_trans (prodT_dvd (fun j hj => (hx j hj).2.2.1) _ (Nat.le_refl _)) hd0) hf0
  omega
 have hsq := Sqf.cop_der (prodT_mon hF _ (Nat.le_refl _)).1 (prodT_sqf hF _ (Nat.le_refl _))
 have hsum := degT_sum hF F.length (Nat.le_refl _)
 rw [← hdf] at hsum
 have hsum : (degT F F.length).sum = (f.l.length : Int) - 1 := hsum
 obtain ⟨kk, hkk⟩ : ∃ kk, F.length = kk + 1 := ⟨F.length - 1, by omega⟩
 obtain ⟨hh1, hh2⟩ := degT_head (hx 0 hpos).2.2.1 kk
 rw [← hkk] at hh1 hh2
 have hbd := degT_bd (fun j hj => ⟨(hx j hj).1, (hx j hj).2.1⟩) F.length (Nat.le_refl _)
 have hg9 : dg (F.getD 0 (0, 0)).1 ≤ 9 := by
  obtain ⟨_, _, h1, hu⟩ := hF.at hpos
  have := dvd_dg (hu.dvd h1) hf0
  omega
 have hrem : rem f (F.getD 0 (0, 0)).1 = 0 := by
  obtain ⟨hi, _, h1, hu⟩ := hF.at hpos
  exact (dvd_iff_rem hi.ne).1 (hu.dvd h1)
 have hbd2 : ∀ j, 0 ≤ (degT F F.length).getD j 0 ∧ (degT F F.length).getD j 0 ≤ 1000000 := fun j => by
  rw [List.getD_eq_getElem?_getD]
  by_cases hj : j < (degT F F.length).length
  ·rw [List.getElem?_eq_getElem hj]
   have := hbd _ (List.getElem_mem hj)
   show 0 ≤ (degT F F.length)[j] ∧ (degT F F.length)[j] ≤ 1000000
   omega
  ·rw [List.getElem?_eq_none (by omega)]; show (0 : Int) ≤ 0 ∧ (0 : Int) ≤ 1000000; omega
 refine wrs fun K hK => ?_
 conv => whnf
 refine callV rfl (IsSquareFree_ok p (by omega) none (prodT F F.length) (isMod_l hm.1 _ hdQ)) fun hs' hhs => ?_
 try dsimp only at hhs
 conv => whnf
 rw [show (((gcd (prodT F F.length) (der (prodT F F.length))).l.length : Nat) : Int) = 1 from congrArg Int.ofNat hsq]
 refine hK _ ?_
 clear hK K
 refine wrs fun K hK => ?_
 conv => whnf
 refine callV rfl (DivideModular_ok p _ _ f (F.getD 0 (0, 0)).1 hm (isMod_l hm.1 _ hg9) (by have := (hx 0 hpos).2.1; omega)) fun hs' hhs => ?_
 try dsimp only at hhs
 conv => whnf
 rw [hrem, zero_l]
 refine hK _ ?_
 clear hK K
 refine wrs fun K hK => ?_
 conv => whnf
 refine callV rfl (sum_fn _ (degT F F.length) (by omega) hbd2) fun hs' hhs => ?_
 try dsimp only at hhs
 conv => whnf
 rw [hsum]
 refine ⟨oo, ?_⟩
 conv => whnf
 refine ⟨fun _ => ?_, fun hc0 => absurd hc0 (by simp)⟩
 conv => whnf
 refine ⟨fun _ => ?_, fun hc0 => absurd hc0 (by simp)⟩
 conv => whnf
 refine ⟨fun _ => ?_, fun hc0 => absurd hc0 (by simp)⟩
 conv => whnf
 refine ⟨fun _ => ?_, fun hc0 => absurd hc0 (by simp)⟩
 conv => whnf
 refine ⟨fun _ => ?_, fun hc0 => absurd hc0 (by simp)⟩
 conv => whnf
 refine ⟨oo, ?_⟩
 conv => whnf
 refine ⟨oo, ?_⟩
 conv => whnf
 rw [show Int.toNat 0 = 0 from rfl, hh2]
 refine ⟨fun _ => ?_, fun hc0 => absurd hc0 (by simp)⟩
 conv => whnf
 refine hK _ ?_
 clear hK K
 have hrl := rootT_le F F.length
 refine W.ret ?_
 conv => whnf
 exact ⟨.v (.bool true), decide_eq_true (by omega), trivial, rfl⟩

open Go Go.RowKit Go.ChangeShapes Go.WideShapes Go.ChangeAt Go.Proofs Go.Proofs.YtlmckocbhcpmdaaGreat

set_option maxRecDepth 100000 in
theorem liftedDegrees (H : Type) (enc : TypeId × Value → H) (os : Os) (started : os.Started) :
  ReturnsInHanded {} Tryz.checked os 5 .any (Rows.fnDegreesSpec.pre6 enc Tryz.prog Tryz.f5 Rows.fnDegreesRow.domain false) (Rows.fnDegreesSpec.post enc Tryz.prog Tryz.f5 false true false false) := by
 refine law_lifted (C := Tryz.checked) (tb := 4) ownP started (by kernel_rfl) Tryz.func5 laidOutP ?_ rfl (by kernel_rfl) Tryz.underlying4 ?_
  (ChangeSpec.witness6 (enc := enc) (C := Tryz.checked) false ⟨#[], #[.slice none 0 0], []⟩ 8 (by kernel_rfl) (by kernel_rfl) (by kernel_rfl) (by kernel_rfl)) ?_
 ·rw [Tryz.params5]
  intro t ht
  simp only [List.mem_singleton] at ht
  subst ht
  exact ⟨by kernel_rfl, of_decide_eq_true (by kernel_rfl)⟩
 ·intro ds hds
  match ds, hds with
  | [d0], _ => exact ⟨rfl, rfl, rfl⟩
 ·intro W args ds ps hval hA
  have hval' : ∀ (j : Nat) t v, Tryz.f5.params[j]? = some t → args[j]? = some v → ∃ base, Value.okWide Tryz.prog W .any base t v := hval
  rw [Tryz.params5] at hA hval'
  obtain ⟨v0, d0, hv, rfl, h0⟩ := trodAll_one hA
  subst hv
  obtain ⟨_, hv0⟩ := hval' 0 22 v0 rfl rfl
  obtain ⟨a0, len0, cap0, rfl⟩ := okWide_slice Tryz.underlying22 hv0
  obtain ⟨x0, hx0, hr0⟩ := arg_cell readsBytes h0 (by simp)
  obtain ⟨n, c, hb, _, hr⟩ := bytes_of hx0
  refine fn_trueB (lawDegrees (n := n) (c := c) hb) rfl fun j hj => ?_
  obtain rfl : j = 0 := by simpa using hj
  exact hr _ _ _ hr0

theorem joinedDegreesa : (Rows.fnDegreesRow.inPlace == Tryz.checked.prog.inPlace 5) = true := by kernel_rfl
theorem joinedDegreesb : (Rows.fnDegreesRow.unfollowed == Tryz.checked.prog.unfollowed 5) = true := by kernel_rfl
theorem joinedDegreesc : (Rows.fnDegreesRow.recurses == Tryz.checked.prog.recurses 5) = true := by kernel_rfl
theorem joinedDegreesd : (Rows.fnDegreesRow.named == Tryz.checked.prog.varsNamed 5) = true := by kernel_rfl
theorem joinedDegrees : joinedFacts Tryz.checked.prog 5 Tryz.f5 Rows.fnDegreesSpec Rows.fnDegreesRow = true := by
 unfold joinedFacts
 rw [enterP, liftP, makeP, joinedDegreesa, joinedDegreesb, joinedDegreesc, joinedDegreesd]
 kernel_rfl
theorem instDegrees : Tryz.f5.isInstance Tryz.checked.prog Rows.fnDegreesRow.origin Rows.fnDegreesRow.targs := of_decide_eq_true (by kernel_rfl)

theorem claimDegrees : Rows.FnDegreesSaid :=
 OpenClaim.holds_of_wide (p := Tryz.pinned) (s := Rows.fnDegreesSpec) (c := Rows.fnDegreesRow) 5 Tryz.f5 rfl rfl rfl rfl rfl rfl rfl ⟨rfl, rfl, rfl, rfl, rfl⟩ rfl rfl rfl rfl rfl (by kernel_rfl) Tryz.func5 joinedDegrees
  instDegrees (by unfold Func.isWrapper; first | (rw [if_pos (by decide +kernel)]; kernel_rfl) | (rw [if_neg (by decide +kernel)]; exact ⟨rfl, rfl⟩))
  (fun os started H enc _ => liftedDegrees H enc os started)

end Go.Proofs.YtlmckocbhcpmdaaGreat
