/- What the program's functions and the reference's return. No conditions. -/
import Derived.Test.YtkkahnljonppiaaGreatPi
import Derived.Test.YtkkahnljonppiaaGreatRows
namespace Go.Proofs.YtkkahnljonppiaaGreat
open Go Go.RowKit Go.Proofs Poly Hull
set_option maxRecDepth 100000
set_option maxHeartbeats 8000000

def cxi (ks : List Nat) : Cx := { F := Fn Tryz.prog, M := MFn Tryz.prog, T := FnT Tryz.prog, ms := [(38, 0)], ts := [], tt := tt, gh := .no, ks := ks }
theorem cxi_ok (ks : List Nat) : OkCx Tryz.prog (cxi ks) := ⟨fun _ _ _ h => h, fun _ _ _ _ _ _ h => h, fun _ _ _ h => h, tt_ok⟩

theorem splittings_ok (p : Int) [SP p] (g : Option Nat) (l : List Int) (hcode : codeRes p l = 0) (T : List (Int × Int × Int)) (hT : T.length ≤ 100) (hrun : ∀ k, k < T.length → 1 ≤ runT T k ∧ runT T k ≤ 1000) (hslo : FnV 33 [.int .i64 p, .ints g l] (vSs T)) (R : Nat → Poly p) (F : Nat → List (Poly p × Nat))
  (hR : ∀ i, i < T.length → dg (R i) ≤ 9 ∧ R i ≠ 0 ∧ FacOf (R i) (F i)) (hD : ∀ i, i < T.length → (degT (F i) (F i).length).length ≤ 100 ∧ ∀ q, q < (degT (F i) (F i).length).length → 1 ≤ (degT (F i) (F i).length).getD q 0 ∧ (degT (F i) (F i).length).getD q 0 ≤ 1000)
  (hres : ∀ i : Nat, i < T.length → FnI 35 [.int .i64 p, .ints g l, .int .i64 i] (R i).l) (hreg : FnV 32 [.int .i64 p, .ints g l] (.bool (bP (RegT p R T.length)))) (hr : RegT p R T.length) :
  FnV 23 [.int .i64 p, .ints g l] (.tup [vSs (Spl.putO (runT T) (fun i => degT (F i) (F i).length) T.length), .int .i64 0]) := by
 refine fn_of (cx_ok [0, 1, 4, 5, 6, 7, 8, 9, 11, 12, 13, 14, 19, 24, 27, 28, 29, 30, 39, 40, 41, 42, 55]) Tryz.func23 rfl (by decide) Tryz.ntmps23 (Nat.le_of_ble_eq_true rfl) fun base => ?_
 refine wrs fun K hK => ?_
 conv => whnf
 refine hK _ ?_
 clear hK K
 refine W.seqK fun K1 hK1 => ?_
 refine wrs fun K hK => ?_
 conv => whnf
 refine callV rfl (residual_fn g p l) fun hs' hhs => ?_
 try dsimp only at hhs
 conv => whnf
 rw [hcode]
 refine hK _ ?_
 clear hK K
 refine wrs fun K hK => ?_
 conv => whnf
 refine hK _ (W.cond ⟨fun hcc => absurd rfl (of_decide_eq_true hcc), fun _ => W.skip (hK1 _ ?_)⟩)
 clear hK K hK1 K1
 refine W.seqK fun K1 hK1 => ?_
 refine wrs fun K hK => ?_
 conv => whnf
 refine callV rfl (hreg) fun hs' hhs => ?_
 try dsimp only at hhs
 conv => whnf
 rw [bP_true hr]
 conv => whnf
 refine hK _ (W.cond ⟨fun h => absurd h (by decide), fun _ => W.skip (hK1 _ ?_)⟩)
 clear hK K hK1 K1
 refine wrs fun K hK => ?_
 conv => whnf
 refine hK _ ?_
 clear hK K
 refine W.seqK fun K1 hK1 => wrs fun K hK => ?_
 conv => whnf
 refine callV rfl (hslo) fun hs' hhs => ?_
 try dsimp only at hhs
 conv => whnf
 refine hK _ (W.block (W.invA (fun m e => ∃ (i b n : Nat) (L : List Spl.Sp), i ≤ T.length ∧ L = Spl.putO (runT T) (fun i => degT (F i) (F i).length) i ∧ n = L.length ∧ m = T.length - i ∧ e = [(0, .v (.int .i64 p)), (1, .v (.ints g l)), (7, .ownV 40 3 b n fun j => vS (L.getD j (0, 0, 0))), (27, .v (vSs T)), (28, .v (.int .i64 T.length)), (29, .v (.int .i64 i))]) ⟨0, 0, 0, [], Nat.zero_le _, rfl, rfl, rfl, rfl⟩ ?_))
 clear hK K
 rintro m e ⟨i, b, n, L, h1, hL, hn, hm, rfl⟩
 refine wrs fun K hK => ?_
 conv => whnf
 refine hK _ ?_
 clear hK K
 refine W.seqK fun K7 hK7 => W.cond ⟨fun h3 => ?_, fun h3 => ?_⟩ <;> (first | replace h3 := of_decide_eq_true h3 | replace h3 := of_decide_eq_false h3)
 ·have hi : i < T.length := by omega
  obtain ⟨h9, h0, hF⟩ := hR i hi
  obtain ⟨hd1, hd2⟩ := hD i hi
  have hok := Spl.putO_ok (run := runT T) (ds := fun i => degT (F i) (F i).length) (n := T.length) (m := 100) hrun hD i (by omega)
  rw [← hL] at hok
  generalize hds : degT (F i) (F i).length = ds at hd1 hd2
  have hnx : Spl.putO (runT T) (fun i => degT (F i) (F i).length) (i + 1) = Spl.putI (runT T i) ds L ds.length := by rw [Spl.putO, ← hL, hds]
  refine W.skip (hK7 _ ?_)
  clear hK7 K7
  refine W.seqK fun K8 hK8 => W.block ?_
  refine wrs fun K hK => ?_
  conv => whnf
  refine ⟨oo, ?_⟩
  conv => whnf
  rw [Int.toNat_natCast]
  intro b_9 hs_9 hh_9 hf_9
  try dsimp only at hh_9 hf_9
  conv => whnf
  refine ⟨s23, ?_⟩
  conv => whnf
  refine hK _ ?_
  clear hK K
  refine wrs fun K hK => ?_
  conv => whnf
  refine callI rfl (hres i hi) fun hs_1 b_1 hh_1 hf_1 => ?_
  try dsimp only at hh_1 hf_1
  conv => whnf
  refine callV rfl (degreesOf_fn p _ (R i) (F i) hF h0 (by omega)) fun hs' hhs => ?_
  try dsimp only at hhs
  conv => whnf
  rw [hds]
  refine hK _ (W.block (W.invA (fun m e => ∃ (q b n : Nat) (Q : List Spl.Sp), q ≤ ds.length ∧ Q = Spl.putI (runT T i) ds L q ∧ n = Q.length ∧ m = ds.length - q ∧ e = [(0, .v (.int .i64 p)), (1, .v (.ints g l)), (7, .ownV 40 3 b n fun j => vS (Q.getD j (0, 0, 0))), (9, .ownB b_9 (vS (T.getD i (0, 0, 0)))), (27, .v (vSs T)), (28, .v (.int .i64 T.length)), (29, .v (.int .i64 i)), (39, .v (.ints none ds)), (40, .v (.int .i64 ds.length)), (41, .v (.int .i64 q))]) ⟨0, b, n, L, Nat.zero_le _, rfl, hn, rfl, rfl⟩ ?_))
  clear hK K
  rintro m' e ⟨q, b', n', Q, h4, hQ, hn', hm', rfl⟩
  refine wrs fun K hK => ?_
  conv => whnf
  refine hK _ ?_
  clear hK K
  refine W.seqK fun K7 hK7 => W.cond ⟨fun h5 => ?_, fun h5 => ?_⟩ <;> (first | replace h5 := of_decide_eq_true h5 | replace h5 := of_decide_eq_false h5)
  ·have hq : q < ds.length := by omega
   have hokq := Spl.putI_ok hok (hrun i hi) hd2 q (by omega)
   rw [← hQ] at hokq
   have hfew := hokq.few
   have hi100 : i * 100 ≤ 100 * 100 := Nat.mul_le_mul_right _ (by omega)
   obtain ⟨x, hx⟩ : ∃ x : Spl.Sp, x = (runT T i, ds.getD q 0, 1) := ⟨_, rfl⟩
   have hnq : Spl.putI (runT T i) ds L (q + 1) = Spl.put Q x := by rw [Spl.putI, ← hQ, hx]
   have e12 : V.agg [.int .i64 (T.getD i (0, 0, 0)).2.1, .int .i64 (ds.getD q 0), .int .i64 1] = vS x := by rw [hx]
   have hple := (Spl.pos_at Q x).le
   subst hn'
   refine W.skip (hK7 _ (W.seqK fun K6 hK6 => W.block ?_))
   clear hK7 K7
   refine wrs fun K hK => ?_
   conv => whnf
   refine ⟨oo, ?_⟩
   conv => whnf
   rw [Int.toNat_natCast]
   refine hK _ ?_
   clear hK K
   refine wrs fun K hK => ?_
   conv => whnf
   intro b_12 hs_12 hh_12 hf_12
   try dsimp only at hh_12 hf_12
   conv => whnf
   refine ⟨s23, ?_⟩
   conv => whnf
   refine hK _ (W.weak (t := ⟨[(0, .v (.int .i64 p)), (1, .v (.ints g l)), (7, .ownV 40 3 b' Q.length fun j => vS (Q.getD j (0, 0, 0))), (9, .ownB b_9 (vS (T.getD i (0, 0, 0)))), (12, .ownB b_12 (vS x)), (27, .v (vSs T)), (28, .v (.int .i64 T.length)), (29, .v (.int .i64 i)), (39, .v (.ints none ds)), (40, .v (.int .i64 ds.length)), (41, .v (.int .i64 q))], base⟩) ⟨by dsimp only; omega, ?_⟩ (Nat.le_refl _) ?_)
   ·rw [← e12]
    clear hK K hK6 K6
    exact cvr
   clear hK K
   refine wrs fun K hK => ?_
   conv => whnf
   refine callV rfl (bsearch_fn _ Q x hokq.srt (by omega)) fun hs' hhs => ?_
   try dsimp only at hhs
   conv => whnf
   refine hK _ ?_
   clear hK K
   refine wrs fun K hK => ?_
   conv => whnf
   refine hK _ (W.cond ⟨fun h => ?_, fun h => ?_⟩) <;> clear hK K
   ·have ht := bP_iff.1 h
    have hbk := hokq.bd _ ht.1
    have hlt := ht.1
    have hput := Spl.put_there ht
    have hpl : (Spl.put Q x).length = Q.length := by rw [hput, List.length_set]
    have hg : ∀ j, (Spl.put Q x).getD j Spl.z0 = if j = Spl.pos Q x then Spl.more (Q.getD (Spl.pos Q x) Spl.z0) x.2.2 else Q.getD j Spl.z0 := fun j => by rw [hput]; exact Spl.set_getD hlt
    have hx1 : x.2.2 = 1 := by rw [hx]
    refine wrg ?_
    conv => whnf
    refine ⟨oo, ?_⟩
    conv => whnf
    rw [Int.toNat_natCast]
    refine ⟨by show _ ≤ (Q.getD (Spl.pos Q x) Spl.z0).2.2 + 1 ∧ (Q.getD (Spl.pos Q x) Spl.z0).2.2 + 1 ≤ _; have := hbk.2.2; omega, ?_⟩
    conv => whnf
    refine ⟨oo, ?_⟩
    conv => whnf
    rw [Int.toNat_natCast]
    refine ⟨⟨by show 2 + 1 ≤ 3; omega, rfl⟩, ?_⟩
    conv => whnf
    refine ⟨fun j => vS ((Spl.put Q x).getD j Spl.z0), by show vS _ = _; rw [hg, if_pos rfl]; show vS ((Q.getD (Spl.pos Q x) Spl.z0).1, (Q.getD (Spl.pos Q x) Spl.z0).2.1, (Q.getD (Spl.pos Q x) Spl.z0).2.2 + x.2.2) = _; rw [hx1]; rfl, fun j hj hjk => by show vS _ = vS _; rw [hg, if_neg hjk], ?_⟩
    conv => whnf
    refine hK6 _ ?_
    clear hK6 K6
    refine wrg ?_
    conv => whnf
    refine ⟨oo, ?_⟩
    conv => whnf
    exact againA ⟨q + 1, b', Q.length, Spl.put Q x, by omega, hnq.symm, hpl.symm, rfl, rfl⟩
   ·have ht := bP_not h
    have hput := Spl.put_not ht
    have hpl : (Spl.put Q x).length = Q.length + 1 := by rw [hput]; exact Spl.ins_len hple
    have hg : ∀ j, (Spl.put Q x).getD j Spl.z0 = if j < Spl.pos Q x then Q.getD j Spl.z0 else if j = Spl.pos Q x then x else Q.getD (j - 1) Spl.z0 := fun j => by rw [hput]; exact Spl.ins_getD hple
    refine W.sw (c' := cxi [0, 1, 4, 5, 6, 7, 8, 9, 11, 12, 13, 14, 19, 24, 27, 28, 29, 30, 39, 40, 41, 42, 55]) (W.region (cxi_ok _) (by rfl) ?_)
    conv => whnf
    refine ⟨⟨rfl, by decide, fun y hy => by simp at hy; subst hy; exact ⟨rfl, rfl⟩⟩, ?_⟩
    conv => whnf
    intro b_1 hs_1 hh_1 hf_1
    try dsimp only at hh_1 hf_1
    conv => whnf
    refine ⟨⟨rfl, rfl⟩, ?_⟩
    conv => whnf
    refine ⟨rfl, _, insert_m _ _ _ _ _ _ hple (by omega), ?_⟩
    rintro hs' av x' t' hh ⟨rfl, rfl, b2, rfl⟩ _ _ _
    try dsimp only at hh
    conv => whnf
    refine hK6 _ ?_
    clear hK6 K6
    refine wrg ?_
    conv => whnf
    refine ⟨oo, ?_⟩
    conv => whnf
    refine ⟨_, _, ⟨q + 1, b2, Q.length + 1, Spl.put Q x, by omega, hnq.symm, hpl.symm, rfl, rfl⟩, by omega, by dsimp only; omega, ?_⟩
    have hfin : ∀ j, j < Q.length + 1 → insF (fun j => vS (Q.getD j (0, 0, 0))) (Spl.pos Q x) (vS x) j = vS ((Spl.put Q x).getD j (0, 0, 0)) := fun j _ => by
     show _ = vS ((Spl.put Q x).getD j Spl.z0)
     rw [hg]
     unfold insF
     split
     ·rfl
     split <;> rfl
    repeat' first | refine And.intro ?_ ?_ | exact trivial | rfl | omega | exact .inl rfl | exact hfin | exact fun _ _ => rfl | exact fun _ _ h => h | assumption
  ·obtain rfl : q = ds.length := by omega
   subst hQ
   refine W.exit (hK8 _ ?_)
   clear hK7 K7 hK8 K8
   refine wrg ?_
   conv => whnf
   refine ⟨oo, ?_⟩
   conv => whnf
   exact againA ⟨i + 1, b', n', _, by omega, hnx.symm, hn', rfl, rfl⟩
 ·obtain rfl : i = T.length := by omega
  subst hL hn
  refine W.exit (hK1 _ ?_)
  clear hK7 K7 hK1 K1
  refine wrs fun K hK => ?_
  conv => whnf
  refine hK _ ?_
  clear hK K
  refine W.ret ?_
  conv => whnf
  exact ⟨.v (vSs (Spl.putO (runT T) (fun i => degT (F i) (F i).length) T.length)), ⟨rfl, rfl, rfl, fun _ _ => rfl⟩, ⟨trivial, fun _ _ => ⟨trivial, trivial, trivial, trivial⟩⟩, .v (.int .i64 0), ⟨rfl, rfl⟩, trivial, rfl⟩

open Go Go.RowKit Go.Proofs Poly Hull
set_option maxRecDepth 100000
set_option maxHeartbeats 8000000

structure Newt (p : Int) [SP p] (l : List Int) (T : List (Int × Int × Int)) (R : Nat → Poly p) (F : Nat → List (Poly p × Nat)) : Prop where
 one : 1 ≤ T.length
 few : T.length ≤ 100
 run : ∀ k, k < T.length → 1 ≤ runT T k ∧ runT T k ≤ 1000
 res : ∀ i, i < T.length → dg (R i) ≤ 9 ∧ R i ≠ 0 ∧ FacOf (R i) (F i)
 mod : ∀ i, i < T.length → IsMod p (R i).l
 deg : ∀ i, i < T.length → (degT (F i) (F i).length).length ≤ 100 ∧ ∀ q, q < (degT (F i) (F i).length).length → 1 ≤ (degT (F i) (F i).length).getD q 0 ∧ (degT (F i) (F i).length).getD q 0 ≤ 1000
 deg1 : ∀ i, i < T.length → 1 ≤ (degT (F i) (F i).length).length
 slI : ∀ g : Option Nat, FnV 33 [.int .i64 p, .ints g l] (vSs T)
 slS : ∀ g : Option Nat, FnV 41 [.int .i64 p, .ints g l] (vSs T)
 reI : ∀ (g : Option Nat) (i : Nat), i < T.length → FnI 35 [.int .i64 p, .ints g l, .int .i64 i] (R i).l
 reS : ∀ (g : Option Nat) (i : Nat), i < T.length → FnI 43 [.int .i64 p, .ints g l, .int .i64 i] (R i).l

theorem degT_mem {p : Int} [SP p] {F : List (Poly p × Nat)} (h : ∀ j, j < F.length → dg (F.getD j (0, 0)).1 ≤ 13 ∧ 2 ≤ dg (F.getD j (0, 0)).1) : ∀ k, k ≤ F.length → ∀ x ∈ degT F k, 1 ≤ x ∧ x ≤ 1000
 | 0, _, x, hx => by cases hx
 | k + 1, hk, x, hx => by
  rw [degT, List.mem_append] at hx
  rcases hx with hx | hx
  ·exact degT_mem h k (by omega) x hx
  ·have h1 := h k (by omega)
   obtain rfl := (List.mem_replicate.1 hx).2
   show 1 ≤ ((dg (F.getD k (0, 0)).1 : Nat) : Int) - 1 ∧ ((dg (F.getD k (0, 0)).1 : Nat) : Int) - 1 ≤ 1000
   omega

theorem degT_len9 {p : Int} [SP p] {F : List (Poly p × Nat)} (h : ∀ j, j < F.length → (F.getD j (0, 0)).2 ≤ 9) : ∀ k, k ≤ F.length → (degT F k).length ≤ 9 * k
 | 0, _ => Nat.le_refl _
 | k + 1, hk => by
  have h1 := degT_len9 h k (by omega)
  have h2 := h k (by omega)
  rw [degT, List.length_append, List.length_replicate]; omega
theorem degT_facts {p : Int} [SP p] {f : Poly p} {F : List (Poly p × Nat)} (hF : FacOf f F) (h2 : 2 ≤ dg f) (h9 : dg f ≤ 9) : (degT F F.length).length ≤ 100 ∧ 1 ≤ (degT F F.length).length ∧ ∀ x ∈ degT F F.length, 1 ≤ x ∧ x ≤ 1000 := by
 have hf0 : f ≠ 0 := fun e => by rw [e, dg_zero] at h2; omega
 have hfs := hF.fac hf0 (by omega)
 have hfew := hF.facs.few hf0
 have hm : ∀ j, j < F.length → 1 ≤ (F.getD j (0, 0)).2 ∧ (F.getD j (0, 0)).2 ≤ 9 := fun j hj => by
  obtain ⟨h3, _, h4, h5⟩ := (hF.2 (F.getD j (0, 0))).1 (by rw [getD_lt hj]; exact List.getElem_mem hj)
  obtain ⟨u, hu, _⟩ := h5
  have h6 := dvd_dg (⟨u, hu⟩ : (F.getD j (0, 0)).1 ^ (F.getD j (0, 0)).2 ∣ f) hf0
  have h7 := pow_dg h3.1 (F.getD j (0, 0)).2
  exact ⟨h4, by omega⟩
 have h1 := degT_len9 (fun j hj => (hm j hj).2) _ (Nat.le_refl _)
 obtain ⟨h, hi, hmo, hd⟩ := exists_irr _ f (Nat.le_refl _) h2
 obtain ⟨e, he⟩ := exists_mult hi.1 _ f hf0 (Nat.le_refl _)
 have he1 : 1 ≤ e := by
  rcases Nat.eq_zero_or_pos e with h0 | h0
  ·subst h0; exact absurd hd (isMult_zero.1 he)
  ·exact h0
 have hmem : (h, e) ∈ F := (hF.2 (h, e)).2 ⟨hi, hmo, he1, he⟩
 have hpos : 0 < F.length := List.length_pos_of_mem hmem
 obtain ⟨k, hk⟩ : ∃ k, F.length = k + 1 := ⟨F.length - 1, by omega⟩
 refine ⟨by omega, ?_, fun x hx => degT_mem (fun j hj => ⟨(hfs j hj).1, (hfs j hj).2.1⟩) _ (Nat.le_refl _) x hx⟩
 rw [hk, degT, List.length_append, List.length_replicate]
 have := (hm k (by omega)).1
 omega

theorem newton (p : Int) (l : List Int) (hcode : codeRes p l = 0) : ∃ hp : p ∈ primes, letI := sp_of hp; isP p = true ∧ ∃ T R F, Newt p l T R F := by
 have hq : isP p = true ∧ IsPoly l ∧ ¬ (l.length < 2 ∨ cf l 0 = 0) := by
  unfold codeRes at hcode
  cases h1 : isP p
  ·rw [h1, cond_false] at hcode; exact absurd hcode (by decide)
  cases h2 : bP (IsPoly l)
  ·rw [h1, h2, cond_true, cond_false] at hcode; exact absurd hcode (by decide)
  rw [h1, h2, cond_true, cond_true] at hcode
  by_cases h3 : l.length < 2 ∨ cf l 0 = 0
  ·rw [if_pos h3] at hcode; exact absurd hcode (by decide)
  ·exact ⟨rfl, bP_iff.1 h2, h3⟩
 obtain ⟨hP, ⟨hl9, hall, hlast⟩, hne⟩ := hq
 have hp : p ∈ primes := of_decide_eq_true hP
 refine ⟨hp, ?_⟩
 letI := sp_of hp
 refine ⟨hP, ?_⟩
 have hp2 := isP_le hP
 have hb : ∀ j, -1000000 ≤ cf l j ∧ cf l j ≤ 1000000 := fun j => by
  rcases Nat.lt_or_ge j l.length with h | h
  ·exact hall j h
  ·rw [cf_ge h]; decide
 have h2 : 2 ≤ l.length := by omega
 have h0 : cf l 0 ≠ 0 := fun h => hne (.inr h)
 have hlst : cf l (l.length - 1) ≠ 0 := by
  rcases hlast with h | h
  ·omega
  ·exact h
 obtain ⟨P, hPe⟩ : ∃ P, P = ptsT p l l.length := ⟨_, rfl⟩
 have hPlen := ptsT_len p l l.length
 have hsz : 2 ≤ P.length := by
  obtain ⟨k, hk⟩ : ∃ k, l.length = k + 2 := ⟨l.length - 2, by omega⟩
  have e1 : ∀ j, 1 ≤ (ptsT p l (j + 1)).length := by
   intro j
   induction j with
   | zero => rw [pts_some h0]; simp
   | succ j ih => rw [ptsT, List.length_append]; omega
  rw [hPe, hk, show k + 2 = (k + 1) + 1 by omega, pts_some (by rw [show k + 1 = l.length - 1 by omega]; exact hlst), List.length_append]
  have := e1 k
  simp; omega
 obtain ⟨n, hn⟩ : ∃ n, P.length = n + 1 := ⟨P.length - 1, by omega⟩
 have hPb : PtB P := fun i => by rw [hPe]; exact ptsT_bd hp2.1 hb (by omega) i
 have hX : ∀ i j, i < j → j ≤ n → pX P i < pX P j := fun i j hij hj => by rw [hPe]; exact ptsT_lt p l _ hij (by rw [← hPe]; omega)
 obtain ⟨C, hC, hCl⟩ := exists_corners (Y := pY P) hX
 have hcr : Crn (cnL P C) := crn_of hPb hX hC hCl (by rw [hPe] at hn; omega)
 obtain ⟨L, hL⟩ : ∃ L, L = cnL P C := ⟨_, rfl⟩
 have hLl : L.length = C.length := by rw [hL]; unfold cnL; rw [List.length_map]
 have hcor : ∀ j, j < L.length → Cor p l (L.getD j (0, 0)) := fun j hj => by
  rw [hL, cnL_at (by omega), hPe]
  exact ptsT_cor (by rw [← hPe]; have := hul_le hC j (by omega); omega)
 have hL2 : 2 ≤ L.length := by
  rw [hLl]
  refine Classical.byContradiction fun h => ?_
  have h1 := hC.pos
  have h3 : C.length - 1 = 0 := by omega
  rw [h3, hC.first] at hCl
  omega
 rw [← hL] at hcr
 have hpI : ∀ g : Option Nat, FnV 51 [.int .i64 p, .ints g l] (vCs L) := fun g => by rw [hL]; exact polygon_fn p g l hp2 (by omega) hb P hPe n hn hPb hX C hC hCl
 have hpS : ∀ g : Option Nat, FnV 65 [.int .i64 p, .ints g l] (vCs L) := fun g => by rw [hL]; exact l13Polygon_fn p g l hp2 (by omega) hb P hPe n hn hPb hX C hC hCl
 have hTl := slT_len L (L.length - 1)
 -- the pieces
 have hln : ∀ i, i + 1 < L.length → Ln (L.getD i (0, 0)) (L.getD (i + 1) (0, 0)) (Int.gcd ((L.getD (i + 1) (0, 0)).1 - (L.getD i (0, 0)).1) ((L.getD (i + 1) (0, 0)).2 - (L.getD i (0, 0)).2)) (sl (L.getD i (0, 0)) (L.getD (i + 1) (0, 0))).2.1 (sl (L.getD i (0, 0)) (L.getD (i + 1) (0, 0))).1 :=
  fun i hi => ln_of (hcr.lt i hi)
 let gg : Nat → Nat := fun i => Int.gcd ((L.getD (i + 1) (0, 0)).1 - (L.getD i (0, 0)).1) ((L.getD (i + 1) (0, 0)).2 - (L.getD i (0, 0)).2)
 let rn : Nat → Int := fun i => (sl (L.getD i (0, 0)) (L.getD (i + 1) (0, 0))).2.1
 let rs : Nat → Int := fun i => (sl (L.getD i (0, 0)) (L.getD (i + 1) (0, 0))).1
 have hln : ∀ i, i + 1 < L.length → Ln (L.getD i (0, 0)) (L.getD (i + 1) (0, 0)) (gg i) (rn i) (rs i) := hln
 have hx8 : ∀ i, i + 1 < L.length → (L.getD (i + 1) (0, 0)).1 - (L.getD i (0, 0)).1 ≤ 8 := fun i hi => by
  obtain ⟨a, a1, _, a3⟩ := hcor i (by omega)
  obtain ⟨b, b1, _, b3⟩ := hcor (i + 1) hi
  rw [a3, b3]; dsimp only; omega
 have hbd : ∀ i, i + 1 < L.length → (gg i : Int) ≤ 8 ∧ 1 ≤ rn i ∧ rn i ≤ 8 := fun i hi => by
  have h3 := hln i hi
  have h4 := h3.ex
  have h5 := h3.run1
  have h6 := h3.g1
  have h7 := hx8 i hi
  have h8 : 1 * (gg i : Int) ≤ rn i * gg i := Int.mul_le_mul_of_nonneg_right h5 (by omega)
  have h9 : rn i * 1 ≤ rn i * gg i := Int.mul_le_mul_of_nonneg_left (by omega) (by omega)
  omega
 have hrs : ∀ i, i + 1 < L.length → -100 ≤ rs i ∧ rs i ≤ 100 := fun i hi => by
  have b1 := hcr.bd i
  have b2 := hcr.bd (i + 1)
  unfold pX pY at b1 b2
  exact tdiv_small (by omega)
 have hpc : ∀ i, i + 1 < L.length → Pc p l L i ((L.getD i (0, 0)).1, (L.getD i (0, 0)).2) (L.getD (i + 1) (0, 0)) (gg i) (rn i) (rs i) := fun i hi => by
  have h3 := hbd i hi
  have b1 := hcr.bd i
  exact { ha := rfl, hi := hi, hs := slT_at L _ i (by omega), ln := hln i hi, ca := hcor i (by omega), cb := hcor (i + 1) hi, g8 := by omega, r8 := by omega, b8 := by have := hx8 i hi; dsimp only; omega, s8 := hrs i hi, p8 := b1 }
 -- the residual polynomials
 let RL : Nat → List Int := fun i => resT p l (L.getD i (0, 0)) (rn i) (rs i) (gg i + 1)
 have hRn : ∀ i, i + 1 < L.length → Nrm p (RL i) := fun i hi => resT_nrm hp2.1 (hln i hi) (hcor (i + 1) hi)
 have hRl : ∀ i, i + 1 < L.length → (of p (RL i)).l = RL i := fun i hi => nrm_id (hRn i hi)
 have hRd : ∀ i, i + 1 < L.length → dg (of p (RL i)) = gg i + 1 := fun i hi => by show (of p (RL i)).l.length = _; rw [hRl i hi]; exact resT_len ..
 have hR0 : ∀ i, i + 1 < L.length → of p (RL i) ≠ 0 := fun i hi h => by have := hRd i hi; rw [h, dg_zero] at this; omega
 have hF : ∀ i, ∃ F, i + 1 < L.length → FacOf (of p (RL i)) F := fun i => by
  by_cases hi : i + 1 < L.length
  ·obtain ⟨F, hF⟩ := exists_fac (hR0 i hi); exact ⟨F, fun _ => hF⟩
  ·exact ⟨[], fun h => absurd h hi⟩
 have hidx : ∀ {i}, i < (slT L (L.length - 1)).length → i + 1 < L.length := fun {i} h => by rw [hTl] at h; omega
 refine ⟨slT L (L.length - 1), fun i => of p (RL i), fun i => (hF i).choose, by rw [hTl]; omega, by rw [hTl]; have := hcr.few; omega, fun k hk => ?_, fun i hi => ?_, fun i hi => ?_, fun i hi => ?_, fun i hi => ?_, fun g => slopes_fn p g l L hcr (hpI g), fun g => l13Slopes_fn p g l L hcr (hpS g), fun g i hi => ?_, fun g i hi => ?_⟩
 ·have h3 := hbd k (hidx hk)
  have e : runT (slT L (L.length - 1)) k = rn k := by unfold runT; rw [slT_at L _ k (by rw [hTl] at hk; exact hk)]
  rw [e]; omega
 ·have h3 := hbd i (hidx hi)
  exact ⟨by rw [hRd i (hidx hi)]; omega, hR0 i (hidx hi), (hF i).choose_spec (hidx hi)⟩
 ·have h3 := hbd i (hidx hi)
  have h4 := hRn i (hidx hi)
  show IsMod p (of p (RL i)).l
  rw [hRl i (hidx hi)]
  have hlen : (RL i).length = gg i + 1 := resT_len ..
  refine ⟨hP, by rw [hlen]; omega, fun j hj => ?_, .inr ?_⟩
  ·rw [cf_lt hj]
   have := h4.1 _ (List.getElem_mem hj)
   omega
  ·rw [hlen]; exact h4.2 (gg i) hlen
 ·have h3 := hbd i (hidx hi)
  obtain ⟨h4, _, h5⟩ := degT_facts ((hF i).choose_spec (hidx hi)) (by rw [hRd i (hidx hi)]; have := (hln i (hidx hi)).g1; omega) (by rw [hRd i (hidx hi)]; omega)
  exact ⟨h4, fun q hq => by rw [getD_lt hq]; exact h5 _ (List.getElem_mem hq)⟩
 ·have h3 := hbd i (hidx hi)
  exact (degT_facts ((hF i).choose_spec (hidx hi)) (by rw [hRd i (hidx hi)]; have := (hln i (hidx hi)).g1; omega) (by rw [hRd i (hidx hi)]; omega)).2.1
 ·rw [show ((of p (RL i)).l) = RL i from hRl i (hidx hi)]
  exact residualOf_fn p hp2 g l (by omega) hb L (hpI g) (slopes_fn p g l L hcr (hpI g)) i _ _ _ _ _ _ (hpc i (hidx hi))
 ·rw [show ((of p (RL i)).l) = RL i from hRl i (hidx hi)]
  exact l14Residual_fn p hp2 g l (by omega) hb L (hpS g) (l13Slopes_fn p g l L hcr (hpS g)) i _ _ _ _ _ _ (hpc i (hidx hi))

open Go Go.RowKit Go.Proofs Poly Hull
set_option maxRecDepth 100000
set_option maxHeartbeats 8000000


structure SplB (p : Int) (l : List Int) (S : List Spl.Sp) (code : Int) : Prop where
 ok : Spl.Ok 10000 S
 pos : code = 0 → 1 ≤ S.length
 neg : code ≠ 0 → S = []
 imp : ∀ g : Option Nat, FnV 23 [.int .i64 p, .ints g l] (.tup [vSs S, .int .i64 code])
 spe : ∀ g : Option Nat, FnV 21 [.int .i64 p, .ints g l] (.tup [vSs S, .int .i64 code])

theorem spl_both (p : Int) (l : List Int) (hl : l.length ≤ 1048576) : ∃ S code, SplB p l S code := by
 by_cases hcode : codeRes p l = 0
 case neg =>
  refine ⟨[], codeRes p l, Spl.Ok.nil.le (by decide), fun h => absurd h hcode, fun _ => rfl, fun g => ?_, fun g => ?_⟩
  ·refine fn_of (cx_ok [0, 1, 4, 5, 6, 7, 8, 9, 11, 12, 13, 14, 19, 24, 27, 28, 29, 30, 39, 40, 41, 42, 55]) Tryz.func23 rfl (by decide) Tryz.ntmps23 (Nat.le_of_ble_eq_true rfl) fun base => ?_
   refine wrs fun K hK => ?_
   conv => whnf
   refine hK _ ?_
   clear hK K
   refine W.seqK fun K1 hK1 => ?_
   refine wrs fun K hK => ?_
   conv => whnf
   refine callV rfl (residual_fn g p l) fun hs' hhs => ?_
   try dsimp only at hhs
   conv => whnf
   refine hK _ ?_
   clear hK K
   refine wrs fun K hK => ?_
   conv => whnf
   refine hK _ (W.cond ⟨fun _ => ?_, fun hcc => absurd hcode (of_decide_eq_false hcc)⟩)
   clear hK K
   refine wrs fun K hK => ?_
   conv => whnf
   refine hK _ ?_
   clear hK K
   refine W.ret ?_
   conv => whnf
   exact ⟨.v (vSs []), rfl, ⟨trivial, fun _ h => absurd h (Nat.not_lt_zero _)⟩, .v (.int .i64 (codeRes p l)), ⟨rfl, rfl⟩, trivial, rfl⟩
  ·refine fn_of (cx_ok [0, 1, 4, 5, 6, 17, 19]) Tryz.func21 rfl (by decide) Tryz.ntmps21 (Nat.le_of_ble_eq_true rfl) fun base => ?_
   refine wrs fun K hK => ?_
   conv => whnf
   refine hK _ ?_
   clear hK K
   refine wrs fun K hK => ?_
   conv => whnf
   refine callV rfl (l14Code_fn g p l (by omega)) fun hs' hhs => ?_
   try dsimp only at hhs
   conv => whnf
   refine hK _ ?_
   clear hK K
   refine W.seqK fun K1 hK1 => ?_
   refine wrs fun K hK => ?_
   conv => whnf
   refine ⟨fun h1 => ?_, fun h1 => ?_⟩ <;> conv => whnf
   ·exact absurd (of_decide_eq_true h1) hcode
   refine hK _ (W.condF rfl (W.skip (hK1 _ ?_)))
   clear hK K hK1 K1
   refine W.seqK fun K1 hK1 => ?_
   refine wrs fun K hK => ?_
   conv => whnf
   refine hK _ (W.cond ⟨fun _ => ?_, fun hcc => absurd hcode (of_decide_eq_false hcc)⟩)
   clear hK K
   refine wrs fun K hK => ?_
   conv => whnf
   refine hK _ ?_
   clear hK K
   refine W.ret ?_
   conv => whnf
   exact ⟨.v (vSs []), rfl, ⟨trivial, fun _ h => absurd h (Nat.not_lt_zero _)⟩, .v (.int .i64 (codeRes p l)), ⟨rfl, rfl⟩, trivial, rfl⟩
 case pos =>
  obtain ⟨hp, hP, T, R, F, hN⟩ := newton p l hcode
  letI := sp_of hp
  have hp2 := isP_le hP
  have hrI : ∀ g : Option Nat, FnV 32 [.int .i64 p, .ints g l] (.bool (bP (RegT p R T.length))) := fun g => isRegular_fn p hp2 g l T hN.few (hN.slI g) R (fun i hi => ⟨(hN.res i hi).1, (hN.res i hi).2.1⟩) (fun i hi => hN.reI g i hi)
  have hrS : ∀ g : Option Nat, FnV 29 [.int .i64 p, .ints g l] (.bool (bP (RegT p R T.length))) := fun g => l14Regular_fn p g l T hN.few (hN.slS g) R (fun i hi => ⟨hN.mod i hi, (hN.res i hi).2.1⟩) (fun i hi => hN.reS g i hi)
  by_cases hr : RegT p R T.length
  case neg =>
   refine ⟨[], 4, Spl.Ok.nil.le (by decide), fun h => absurd h (by decide), fun _ => rfl, fun g => ?_, fun g => ?_⟩
   ·refine fn_of (cx_ok [0, 1, 4, 5, 6, 7, 8, 9, 11, 12, 13, 14, 19, 24, 27, 28, 29, 30, 39, 40, 41, 42, 55]) Tryz.func23 rfl (by decide) Tryz.ntmps23 (Nat.le_of_ble_eq_true rfl) fun base => ?_
    refine wrs fun K hK => ?_
    conv => whnf
    refine hK _ ?_
    clear hK K
    refine W.seqK fun K1 hK1 => ?_
    refine wrs fun K hK => ?_
    conv => whnf
    refine callV rfl (residual_fn g p l) fun hs' hhs => ?_
    try dsimp only at hhs
    conv => whnf
    rw [hcode]
    refine hK _ ?_
    clear hK K
    refine wrs fun K hK => ?_
    conv => whnf
    refine hK _ (W.cond ⟨fun hcc => absurd rfl (of_decide_eq_true hcc), fun _ => W.skip (hK1 _ ?_)⟩)
    clear hK K hK1 K1
    refine W.seqK fun K1 hK1 => ?_
    refine wrs fun K hK => ?_
    conv => whnf
    refine callV rfl (hrI g) fun hs' hhs => ?_
    try dsimp only at hhs
    conv => whnf
    rw [bP_false hr]
    conv => whnf
    refine hK _ (W.cond ⟨fun _ => ?_, fun h => absurd h (by decide)⟩)
    clear hK K
    refine wrs fun K hK => ?_
    conv => whnf
    refine hK _ ?_
    clear hK K
    refine W.ret ?_
    conv => whnf
    exact ⟨.v (vSs []), rfl, ⟨trivial, fun _ h => absurd h (Nat.not_lt_zero _)⟩, .v (.int .i64 4), ⟨rfl, rfl⟩, trivial, rfl⟩
   ·refine fn_of (cx_ok [0, 1, 4, 5, 6, 17, 19]) Tryz.func21 rfl (by decide) Tryz.ntmps21 (Nat.le_of_ble_eq_true rfl) fun base => ?_
    refine wrs fun K hK => ?_
    conv => whnf
    refine hK _ ?_
    clear hK K
    refine wrs fun K hK => ?_
    conv => whnf
    refine callV rfl (l14Code_fn g p l (by omega)) fun hs' hhs => ?_
    try dsimp only at hhs
    conv => whnf
    rw [hcode]
    refine hK _ ?_
    clear hK K
    refine W.seqK fun K1 hK1 => ?_
    refine wrs fun K hK => ?_
    conv => whnf
    refine ⟨fun h1 => ?_, fun h1 => ?_⟩ <;> conv => whnf
    ·refine callV rfl (hrS g) fun hs' hhs => ?_
     try dsimp only at hhs
     conv => whnf
     rw [bP_false hr]
     conv => whnf
     refine hK _ (W.cond ⟨fun _ => ?_, fun h => absurd h (by decide)⟩)
     clear hK K
     refine wrg ?_
     conv => whnf
     refine hK1 _ ?_
     clear hK1 K1
     refine W.seqK fun K1 hK1 => ?_
     refine wrs fun K hK => ?_
     conv => whnf
     refine hK _ (W.cond ⟨fun _ => ?_, fun h => absurd h (by decide)⟩)
     clear hK K
     refine wrs fun K hK => ?_
     conv => whnf
     refine hK _ ?_
     clear hK K
     refine W.ret ?_
     conv => whnf
     exact ⟨.v (vSs []), rfl, ⟨trivial, fun _ h => absurd h (Nat.not_lt_zero _)⟩, .v (.int .i64 4), ⟨rfl, rfl⟩, trivial, rfl⟩
    ·exact absurd rfl (of_decide_eq_false h1)
  case pos =>
   have hok := Spl.putO_ok (run := runT T) (ds := fun i => degT (F i) (F i).length) (n := T.length) (m := 100) hN.run hN.deg T.length (Nat.le_refl _)
   have h1 := hN.one
   have h100 : T.length * 100 ≤ 100 * 100 := Nat.mul_le_mul_right _ hN.few
   have hne : Spl.putO (runT T) (fun i => degT (F i) (F i).length) T.length ≠ [] := by
    obtain ⟨k, hk⟩ : ∃ k, T.length = k + 1 := ⟨T.length - 1, by omega⟩
    rw [hk, Spl.putO]
    exact Spl.putI_ne _ (hN.deg1 k (by omega))
   refine ⟨Spl.putO (runT T) (fun i => degT (F i) (F i).length) T.length, 0, hok.le (by omega), fun _ => List.length_pos_iff.2 hne, fun h => absurd rfl h, fun g => splittings_ok p g l hcode T hN.few hN.run (hN.slI g) R F hN.res hN.deg (hN.reI g) (hrI g) hr, fun g => ?_⟩
   refine fn_of (cx_ok [0, 1, 4, 5, 6, 17, 19]) Tryz.func21 rfl (by decide) Tryz.ntmps21 (Nat.le_of_ble_eq_true rfl) fun base => ?_
   refine wrs fun K hK => ?_
   conv => whnf
   refine hK _ ?_
   clear hK K
   refine wrs fun K hK => ?_
   conv => whnf
   refine callV rfl (l14Code_fn g p l (by omega)) fun hs' hhs => ?_
   try dsimp only at hhs
   conv => whnf
   rw [hcode]
   refine hK _ ?_
   clear hK K
   refine W.seqK fun K1 hK1 => ?_
   refine wrs fun K hK => ?_
   conv => whnf
   refine ⟨fun h2 => ?_, fun h2 => ?_⟩ <;> conv => whnf
   ·refine callV rfl (hrS g) fun hs' hhs => ?_
    try dsimp only at hhs
    conv => whnf
    rw [bP_true hr]
    conv => whnf
    refine hK _ (W.cond ⟨fun h => absurd h (by decide), fun _ => W.skip (hK1 _ ?_)⟩)
    clear hK K hK1 K1
    refine W.seqK fun K1 hK1 => ?_
    refine wrs fun K hK => ?_
    conv => whnf
    refine hK _ (W.cond ⟨fun hcc => absurd rfl (of_decide_eq_true hcc), fun _ => W.skip (hK1 _ ?_)⟩)
    clear hK K hK1 K1
    refine wrs fun K hK => ?_
    conv => whnf
    refine callV rfl (l14Splittings_fn p g l T hN.few hN.run (hN.slS g) R F hN.res hN.deg (hN.reS g)) fun hs' hhs => ?_
    try dsimp only at hhs
    conv => whnf
    refine hK _ ?_
    clear hK K
    refine W.ret ?_
    conv => whnf
    exact ⟨.v (vSs (Spl.putO (runT T) (fun i => degT (F i) (F i).length) T.length)), ⟨rfl, rfl, rfl, fun _ _ => rfl⟩, ⟨trivial, fun _ _ => ⟨trivial, trivial, trivial, trivial⟩⟩, .v (.int .i64 0), ⟨rfl, rfl⟩, trivial, rfl⟩
   ·exact absurd rfl (of_decide_eq_false h2)

theorem countFactors_fn (g : Option Nat) (S : List Spl.Sp) (hS : Spl.Ok 10000 S) (f : Nat) (P : Spl.Sp → Bool) (hP : ∀ j, j < S.length → FnV f [vS (S.getD j (0, 0, 0))] (.bool (P (S.getD j (0, 0, 0))))) :
  FnV 24 [.vals g 3 S.length fun j => vS (S.getD j (0, 0, 0)), .func f []] (.int .i64 (Spl.cnt P S S.length)) := by
 have hfew := hS.few
 have hbd := fun k hk => Spl.cnt_bd (P := P) hS k hk
 refine fn_of (cx_ok [0, 1, 4, 5, 7, 8, 9, 10, 11, 16]) Tryz.func24 rfl (by decide) Tryz.ntmps24 (Nat.le_of_ble_eq_true rfl) fun base => ?_
 refine wrs fun K hK => ?_
 conv => whnf
 refine hK _ ?_
 clear hK K
 refine wrs fun K hK => ?_
 conv => whnf
 refine hK _ ?_
 clear hK K
 refine W.seqK fun K1 hK1 => wrs fun K hK => ?_
 conv => whnf
 refine hK _ (W.block (W.invA (fun m e => ∃ k : Nat, k ≤ S.length ∧ m = S.length - k ∧ e = [(1, .v (.func f [])), (5, .v (.int .i64 (Spl.cnt P S k))), (8, .v (.vals g 3 S.length fun j => vS (S.getD j (0, 0, 0)))), (9, .v (.int .i64 S.length)), (10, .v (.int .i64 k))]) ⟨0, Nat.zero_le _, rfl, rfl⟩ ?_))
 clear hK K
 rintro m e ⟨k, h1, hm, rfl⟩
 refine wrs fun K hK => ?_
 conv => whnf
 refine hK _ ?_
 clear hK K
 refine W.seqK fun K7 hK7 => W.cond ⟨fun h3 => ?_, fun h3 => ?_⟩ <;> (first | replace h3 := of_decide_eq_true h3 | replace h3 := of_decide_eq_false h3)
 ·have hk : k < S.length := by omega
  have b1 := hbd (k + 1) (by omega)
  have e10 : ((k + 1 : Nat) : Int) * (10000 : Nat) ≤ 10000 * 10000 := Int.mul_le_mul_of_nonneg_right (by omega) (by decide)
  refine W.skip (hK7 _ ?_)
  clear hK7 K7
  refine W.seqK fun K8 hK8 => W.block ?_
  refine wrs fun K hK => ?_
  conv => whnf
  refine ⟨oo, ?_⟩
  conv => whnf
  rw [Int.toNat_natCast]
  intro b_7 hs_7 hh_7 hf_7
  try dsimp only at hh_7 hf_7
  conv => whnf
  refine ⟨s23, ?_⟩
  conv => whnf
  refine hK _ ?_
  clear hK K
  refine wrs fun K hK => ?_
  conv => whnf
  refine callV rfl (hP k hk) fun hs' hhs => ?_
  try dsimp only at hhs
  conv => whnf
  refine hK _ (W.cond ⟨fun h4 => ?_, fun h4 => ?_⟩) <;> clear hK K
  ·have hnx : Spl.cnt P S (k + 1) = Spl.cnt P S k + (S.getD k Spl.z0).2.2 := by rw [Spl.cnt, show P (S.getD k Spl.z0) = true from h4, cond_true]
   rw [hnx] at b1
   refine wrg ?_
   conv => whnf
   refine ⟨by show _ ≤ Spl.cnt P S k + (S.getD k Spl.z0).2.2 ∧ Spl.cnt P S k + (S.getD k Spl.z0).2.2 ≤ _; omega, ?_⟩
   conv => whnf
   refine hK8 _ ?_
   clear hK8 K8
   refine wrg ?_
   conv => whnf
   refine ⟨oo, ?_⟩
   conv => whnf
   exact againA ⟨k + 1, by omega, rfl, by rw [hnx]⟩
  ·have hnx : Spl.cnt P S (k + 1) = Spl.cnt P S k := by rw [Spl.cnt, show P (S.getD k Spl.z0) = false from h4, cond_false, Int.add_zero]
   refine W.skip (hK8 _ ?_)
   clear hK8 K8
   refine wrg ?_
   conv => whnf
   refine ⟨oo, ?_⟩
   conv => whnf
   exact againA ⟨k + 1, by omega, rfl, by rw [hnx]⟩
 ·obtain rfl : k = S.length := by omega
  refine W.exit (hK1 _ ?_)
  clear hK7 K7 hK1 K1
  refine wrs fun K hK => ?_
  conv => whnf
  refine hK _ ?_
  clear hK K
  refine W.ret ?_
  conv => whnf
  exact ⟨.v (.int .i64 (Spl.cnt P S S.length)), ⟨rfl, rfl⟩, trivial, rfl⟩

theorem l14Count_fn (g : Option Nat) (S : List Spl.Sp) (hS : Spl.Ok 10000 S) : FnV 22 [.vals g 3 S.length fun j => vS (S.getD j (0, 0, 0))] (.int .i64 (Spl.cnt (fun _ => true) S S.length)) := by
 have hfew := hS.few
 have hbd := fun k hk => Spl.cnt_bd (P := fun _ => true) hS k hk
 refine fn_of (cx_ok [0, 2, 3, 4, 8]) Tryz.func22 rfl (by decide) Tryz.ntmps22 (Nat.le_of_ble_eq_true rfl) fun base => ?_
 refine wrs fun K hK => ?_
 conv => whnf
 refine hK _ ?_
 clear hK K
 refine wrs fun K hK => ?_
 conv => whnf
 refine hK _ ?_
 clear hK K
 refine W.seqK fun K1 hK1 => wrs fun K hK => ?_
 conv => whnf
 refine hK _ (W.block (W.invA (fun m e => ∃ k : Nat, k ≤ S.length ∧ m = S.length - k ∧ e = [(0, .v (.vals g 3 S.length fun j => vS (S.getD j (0, 0, 0)))), (3, .v (.int .i64 (Spl.cnt (fun _ => true) S k))), (4, .v (.int .i64 k))]) ⟨0, Nat.zero_le _, rfl, rfl⟩ ?_))
 clear hK K
 rintro m e ⟨k, h1, hm, rfl⟩
 refine W.seqK fun K7 hK7 => wrs fun K hK => ?_
 conv => whnf
 refine hK _ (W.cond ⟨fun h3 => ?_, fun h3 => ?_⟩) <;> clear hK K <;> (first | replace h3 := of_decide_eq_true h3 | replace h3 := of_decide_eq_false h3)
 ·have hk : k < S.length := by omega
  have b1 := hbd (k + 1) (by omega)
  have e10 : ((k + 1 : Nat) : Int) * (10000 : Nat) ≤ 10000 * 10000 := Int.mul_le_mul_of_nonneg_right (by omega) (by decide)
  have hnx : Spl.cnt (fun _ => true) S (k + 1) = Spl.cnt (fun _ => true) S k + (S.getD k Spl.z0).2.2 := rfl
  rw [hnx] at b1
  refine W.skip (hK7 _ (W.seqK fun K8 hK8 => W.block ?_))
  clear hK7 K7
  refine wrg ?_
  conv => whnf
  refine ⟨oo, ?_⟩
  conv => whnf
  rw [Int.toNat_natCast]
  refine ⟨by show _ ≤ Spl.cnt (fun _ => true) S k + (S.getD k Spl.z0).2.2 ∧ Spl.cnt (fun _ => true) S k + (S.getD k Spl.z0).2.2 ≤ _; omega, ?_⟩
  conv => whnf
  refine hK8 _ ?_
  clear hK8 K8
  refine wrg ?_
  conv => whnf
  refine ⟨oo, ?_⟩
  conv => whnf
  exact againA ⟨k + 1, by omega, rfl, by rw [hnx]⟩
 ·obtain rfl : k = S.length := by omega
  refine W.exit (hK1 _ ?_)
  clear hK7 K7 hK1 K1
  refine wrs fun K hK => ?_
  conv => whnf
  refine hK _ ?_
  clear hK K
  refine W.ret ?_
  conv => whnf
  exact ⟨.v (.int .i64 (Spl.cnt (fun _ => true) S S.length)), ⟨rfl, rfl⟩, trivial, rfl⟩

theorem anySp_fn (x : Spl.Sp) : FnV 25 [vS x] (.bool true) := by
 refine fn_of (cx_ok [0, 2]) Tryz.func25 rfl (by decide) Tryz.ntmps25 (Nat.le_of_ble_eq_true rfl) fun base => ?_
 refine wrs fun K hK => ?_
 conv => whnf
 refine ⟨rfl, ?_⟩
 conv => whnf
 intro b_1 hs_1 hh_1 hf_1
 try dsimp only at hh_1 hf_1
 conv => whnf
 refine hK _ ?_
 clear hK K
 refine wrs fun K hK => ?_
 conv => whnf
 refine hK _ ?_
 clear hK K
 refine W.ret ?_
 conv => whnf
 exact ⟨.v (.bool true), rfl, trivial, rfl⟩
theorem oneSp_fn (x : Spl.Sp) (h1 : 1 ≤ x.1 ∧ x.1 ≤ 1000) (h2 : 1 ≤ x.2.1 ∧ x.2.1 ≤ 1000) : FnV 26 [vS x] (.bool (Spl.one x)) := by
 have h3 : 0 ≤ x.1 * x.2.1 ∧ x.1 * x.2.1 ≤ 1000 * 1000 := ⟨Int.mul_nonneg (by omega) (by omega), Int.mul_le_mul h1.2 h2.2 (by omega) (by decide)⟩
 refine fn_of (cx_ok [0, 1, 2]) Tryz.func26 rfl (by decide) Tryz.ntmps26 (Nat.le_of_ble_eq_true rfl) fun base => ?_
 refine wrs fun K hK => ?_
 conv => whnf
 refine ⟨rfl, ?_⟩
 conv => whnf
 intro b_1 hs_1 hh_1 hf_1
 try dsimp only at hh_1 hf_1
 conv => whnf
 refine hK _ ?_
 clear hK K
 refine wrs fun K hK => ?_
 conv => whnf
 refine ⟨by show _ ≤ x.1 * x.2.1 ∧ x.1 * x.2.1 ≤ _; omega, ?_⟩
 conv => whnf
 refine hK _ ?_
 clear hK K
 refine W.ret ?_
 conv => whnf
 exact ⟨.v (.bool (Spl.one x)), rfl, trivial, rfl⟩

theorem CountFactors_both (p : Int) (f : List Int) (_ : inR p) (h : f.length ≤ 1048576) : ∃ (r0 : Int) (r1 : Int), (∀ g1 : Option Nat, FnV 7 [.int .i64 p, .ints g1 f] (.tup [.int .i64 r0, .int .i64 r1])) ∧
  (∀ g1 : Option Nat, FnV 9 [.int .i64 p, .ints g1 f] (.tup [.int .i64 r0, .int .i64 r1])) := by
 obtain ⟨S, code, hS⟩ := spl_both p f h
 refine ⟨Spl.cnt (fun _ => true) S S.length, code, fun g => ?_, fun g => ?_⟩
 ·refine fn_of (cx_ok [0, 1, 4, 5, 6, 7]) Tryz.func7 rfl (by decide) Tryz.ntmps7 (Nat.le_of_ble_eq_true rfl) fun base => ?_
  refine wrs fun K hK => ?_
  conv => whnf
  refine hK _ ?_
  clear hK K
  refine wrs fun K hK => ?_
  conv => whnf
  refine callV rfl (hS.spe g) fun hs' hhs => ?_
  try dsimp only at hhs
  conv => whnf
  refine hK _ ?_
  clear hK K
  refine wrs fun K hK => ?_
  conv => whnf
  refine callV rfl (l14Count_fn none S hS.ok) fun hs' hhs => ?_
  try dsimp only at hhs
  conv => whnf
  refine hK _ ?_
  clear hK K
  refine W.ret ?_
  conv => whnf
  exact ⟨.v (.int .i64 (Spl.cnt (fun _ => true) S S.length)), ⟨rfl, rfl⟩, trivial, .v (.int .i64 code), ⟨rfl, rfl⟩, trivial, rfl⟩
 ·refine fn_of (cx_ok [0, 1, 4, 5, 6, 7]) Tryz.func9 rfl (by decide) Tryz.ntmps9 (Nat.le_of_ble_eq_true rfl) fun base => ?_
  refine wrs fun K hK => ?_
  conv => whnf
  refine hK _ ?_
  clear hK K
  refine wrs fun K hK => ?_
  conv => whnf
  refine callV rfl (hS.imp g) fun hs' hhs => ?_
  try dsimp only at hhs
  conv => whnf
  refine hK _ ?_
  clear hK K
  refine wrs fun K hK => ?_
  conv => whnf
  refine callV rfl (countFactors_fn none S hS.ok _ (fun _ => true) (fun j _ => anySp_fn _)) fun hs' hhs => ?_
  try dsimp only at hhs
  conv => whnf
  refine hK _ ?_
  clear hK K
  refine W.ret ?_
  conv => whnf
  exact ⟨.v (.int .i64 (Spl.cnt (fun _ => true) S S.length)), ⟨rfl, rfl⟩, trivial, .v (.int .i64 code), ⟨rfl, rfl⟩, trivial, rfl⟩

theorem IsIrreducibleAt_both (p : Int) (f : List Int) (_ : inR p) (h : f.length ≤ 1048576) : ∃ (r0 : Bool) (r1 : Int), (∀ g1 : Option Nat, FnV 11 [.int .i64 p, .ints g1 f] (.tup [.bool r0, .int .i64 r1])) ∧
  (∀ g1 : Option Nat, FnV 12 [.int .i64 p, .ints g1 f] (.tup [.bool r0, .int .i64 r1])) := by
 obtain ⟨S, code, hS⟩ := spl_both p f h
 refine ⟨decide (code = 0 ∧ Spl.cnt (fun _ => true) S S.length = 1), code, fun g => ?_, fun g => ?_⟩
 ·refine fn_of (cx_ok [0, 1, 4, 5, 6, 7]) Tryz.func11 rfl (by decide) Tryz.ntmps11 (Nat.le_of_ble_eq_true rfl) fun base => ?_
  refine wrs fun K hK => ?_
  conv => whnf
  refine hK _ ?_
  clear hK K
  refine wrs fun K hK => ?_
  conv => whnf
  refine callV rfl (hS.spe g) fun hs' hhs => ?_
  try dsimp only at hhs
  conv => whnf
  refine hK _ ?_
  clear hK K
  refine wrs fun K hK => ?_
  conv => whnf
  refine ⟨fun h1 => ?_, fun h1 => ?_⟩ <;> conv => whnf
  ·have h1 := of_decide_eq_true h1
   refine callV rfl (l14Count_fn none S hS.ok) fun hs' hhs => ?_
   try dsimp only at hhs
   conv => whnf
   refine hK _ ?_
   clear hK K
   refine W.ret ?_
   conv => whnf
   exact ⟨.v (.bool (decide (code = 0 ∧ Spl.cnt (fun _ => true) S S.length = 1))), decide_eq_decide.2 ⟨fun h2 => ⟨h1, h2⟩, fun h2 => h2.2⟩, trivial, .v (.int .i64 code), ⟨rfl, rfl⟩, trivial, rfl⟩
  ·have h1 := of_decide_eq_false h1
   refine hK _ ?_
   clear hK K
   refine W.ret ?_
   conv => whnf
   exact ⟨.v (.bool (decide (code = 0 ∧ Spl.cnt (fun _ => true) S S.length = 1))), decide_eq_false (fun h2 => h1 h2.1), trivial, .v (.int .i64 code), ⟨rfl, rfl⟩, trivial, rfl⟩
 ·refine fn_of (cx_ok [0, 1, 4, 5, 6, 7]) Tryz.func12 rfl (by decide) Tryz.ntmps12 (Nat.le_of_ble_eq_true rfl) fun base => ?_
  refine wrs fun K hK => ?_
  conv => whnf
  refine hK _ ?_
  clear hK K
  refine wrs fun K hK => ?_
  conv => whnf
  refine callV rfl (hS.imp g) fun hs' hhs => ?_
  try dsimp only at hhs
  conv => whnf
  refine hK _ ?_
  clear hK K
  refine wrs fun K hK => ?_
  conv => whnf
  refine ⟨fun h1 => ?_, fun h1 => ?_⟩ <;> conv => whnf
  ·have h1 := of_decide_eq_true h1
   refine callV rfl (countFactors_fn none S hS.ok _ (fun _ => true) (fun j _ => anySp_fn _)) fun hs' hhs => ?_
   try dsimp only at hhs
   conv => whnf
   refine hK _ ?_
   clear hK K
   refine W.ret ?_
   conv => whnf
   exact ⟨.v (.bool (decide (code = 0 ∧ Spl.cnt (fun _ => true) S S.length = 1))), decide_eq_decide.2 ⟨fun h2 => ⟨h1, h2⟩, fun h2 => h2.2⟩, trivial, .v (.int .i64 code), ⟨rfl, rfl⟩, trivial, rfl⟩
  ·have h1 := of_decide_eq_false h1
   refine hK _ ?_
   clear hK K
   refine W.ret ?_
   conv => whnf
   exact ⟨.v (.bool (decide (code = 0 ∧ Spl.cnt (fun _ => true) S S.length = 1))), decide_eq_false (fun h2 => h1 h2.1), trivial, .v (.int .i64 code), ⟨rfl, rfl⟩, trivial, rfl⟩

theorem PadicRootCount_both (p : Int) (f : List Int) (_ : inR p) (h : f.length ≤ 1048576) : ∃ (r0 : Int) (r1 : Int), (∀ g1 : Option Nat, FnV 13 [.int .i64 p, .ints g1 f] (.tup [.int .i64 r0, .int .i64 r1])) ∧
  (∀ g1 : Option Nat, FnV 14 [.int .i64 p, .ints g1 f] (.tup [.int .i64 r0, .int .i64 r1])) := by
 obtain ⟨S, code, hS⟩ := spl_both p f h
 refine ⟨Spl.cnt Spl.one S S.length, code, fun g => ?_, fun g => ?_⟩
 ·refine fn_of (cx_ok [0, 1, 4, 5, 6, 7, 29]) Tryz.func13 rfl (by decide) Tryz.ntmps13 (Nat.le_of_ble_eq_true rfl) fun base => ?_
  refine wrs fun K hK => ?_
  conv => whnf
  refine hK _ ?_
  clear hK K
  refine wrs fun K hK => ?_
  conv => whnf
  refine callV rfl (hS.spe g) fun hs' hhs => ?_
  try dsimp only at hhs
  conv => whnf
  refine hK _ ?_
  clear hK K
  refine W.seqK fun K1 hK1 => ?_
  by_cases hc : code = 0
  ·have hpos := hS.pos hc
   have hcnt := Spl.cnt_one hS.ok S.length hpos (Nat.le_refl _)
   subst hc
   have fin : ¬ ((S.getD 0 Spl.z0).1 = 1 ∧ (S.getD 0 Spl.z0).2.1 = 1) → ∀ t : _root_.Go.Proofs.YtkkahnljonppiaaGreat.S, base ≤ t.hs → coverK t.env [(6, .v (vSs S)), (7, .v (.int .i64 0))] → K1 t := by
    intro hn t h7 h8
    rw [if_neg hn] at hcnt
    refine hK1 _ (W.weak (t := ⟨[(6, .v (vSs S)), (7, .v (.int .i64 0))], base⟩) ⟨h7, h8⟩ (Nat.le_refl _) ?_)
    clear hK1 K1
    refine wrs fun K hK => ?_
    conv => whnf
    refine hK _ ?_
    clear hK K
    refine W.ret ?_
    conv => whnf
    exact ⟨.v (.int .i64 (Spl.cnt Spl.one S S.length)), ⟨rfl, hcnt.symm⟩, trivial, .v (.int .i64 0), ⟨rfl, rfl⟩, trivial, rfl⟩
   refine wrs fun K hK => ?_
   conv => whnf
   refine ⟨fun h1 => ?_, fun h1 => ?_⟩ <;> conv => whnf
   ·refine ⟨⟨by decide, by omega⟩, ?_⟩
    conv => whnf
    refine ⟨fun h2 => ?_, fun h2 => ?_⟩ <;> conv => whnf
    ·have h2 : (S.getD 0 Spl.z0).1 = 1 := of_decide_eq_true h2
     refine ⟨⟨by decide, by omega⟩, ?_⟩
     conv => whnf
     refine hK _ (W.cond ⟨fun h3 => ?_, fun h3 => ?_⟩) <;> clear hK K
     ·have h3 : (S.getD 0 Spl.z0).2.1 = 1 := of_decide_eq_true h3
      rw [if_pos ⟨h2, h3⟩] at hcnt
      clear fin
      refine wrs fun K hK => ?_
      conv => whnf
      refine ⟨⟨by decide, by omega⟩, ?_⟩
      conv => whnf
      refine hK _ ?_
      clear hK K
      refine W.ret ?_
      conv => whnf
      exact ⟨.v (.int .i64 (Spl.cnt Spl.one S S.length)), ⟨rfl, hcnt.symm⟩, trivial, .v (.int .i64 0), ⟨rfl, rfl⟩, trivial, rfl⟩
     ·have h3 : ¬ (S.getD 0 Spl.z0).2.1 = 1 := of_decide_eq_false h3
      refine W.skip (fin (fun hh => h3 hh.2) _ (by dsimp only; omega) ?_)
      exact cvr
    ·have h2 : ¬ (S.getD 0 Spl.z0).1 = 1 := of_decide_eq_false h2
     refine hK _ (W.condF rfl (W.skip (fin (fun hh => h2 hh.1) _ (by dsimp only; omega) ?_)))
     exact cvr
   ·exact absurd rfl (of_decide_eq_false h1)
  ·have he := hS.neg hc
   subst he
   refine wrs fun K hK => ?_
   conv => whnf
   refine ⟨fun h1 => ?_, fun h1 => ?_⟩ <;> conv => whnf
   ·exact absurd (of_decide_eq_true h1) hc
   refine hK _ (W.condF rfl (W.skip (hK1 _ ?_)))
   clear hK K hK1 K1
   refine wrs fun K hK => ?_
   conv => whnf
   refine hK _ ?_
   clear hK K
   refine W.ret ?_
   conv => whnf
   exact ⟨.v (.int .i64 (Spl.cnt Spl.one [] ([] : List Spl.Sp).length)), ⟨rfl, rfl⟩, trivial, .v (.int .i64 code), ⟨rfl, rfl⟩, trivial, rfl⟩
 ·refine fn_of (cx_ok [0, 1, 4, 5, 6, 7]) Tryz.func14 rfl (by decide) Tryz.ntmps14 (Nat.le_of_ble_eq_true rfl) fun base => ?_
  refine wrs fun K hK => ?_
  conv => whnf
  refine hK _ ?_
  clear hK K
  refine wrs fun K hK => ?_
  conv => whnf
  refine callV rfl (hS.imp g) fun hs' hhs => ?_
  try dsimp only at hhs
  conv => whnf
  refine hK _ ?_
  clear hK K
  refine wrs fun K hK => ?_
  conv => whnf
  refine callV rfl (countFactors_fn none S hS.ok _ Spl.one (fun j hj => oneSp_fn _ (hS.ok.bd j hj).1 (hS.ok.bd j hj).2.1)) fun hs' hhs => ?_
  try dsimp only at hhs
  conv => whnf
  refine hK _ ?_
  clear hK K
  refine W.ret ?_
  conv => whnf
  exact ⟨.v (.int .i64 (Spl.cnt Spl.one S S.length)), ⟨rfl, rfl⟩, trivial, .v (.int .i64 code), ⟨rfl, rfl⟩, trivial, rfl⟩

open Go Go.RowKit Go.ChangeShapes Go.WideShapes Go.ChangeAt Go.Proofs Go.Proofs.YtkkahnljonppiaaGreat

theorem fn_calls {P : Program} {f : Nat} {xs : List V} {r : V} {w : World} {vs : Array Value} (h : Fn P f xs (fun _ _ a => a = .v r)) (hl : vs.size = xs.length)
  (hr : ∀ j, j < xs.length → Rep (okAll w) w.heap (xs.getD j .nil) (vs.getD j undef)) :
  Calls P f vs w fun e w' => ∃ v, e = .returned v ∧ Below w.heap.size w w' ∧ Rep (okR (fun _ => False) w'.heap.size) w'.heap r v := by
 refine (h.2 (fun _ => False) w vs (fun _ h => h.elim) hl hr).mono fun e w' ⟨v, av, hi, h1, h2, h3, h4, h5⟩ => ?_
 subst h3
 obtain ⟨_, h6, _⟩ := h5
 refine ⟨v, h1, h4, ?_⟩
 exact Rep.mono h6 fun g b hb => ⟨⟨hb.1, fun h => h.elim, hb.2.2⟩, rfl⟩

theorem fn_true {P : Program} {f : Nat} {xs : List V} {w : World} {vs : Array Value} (h : Fn P f xs (fun _ _ a => a = .v .tr)) (hl : vs.size = xs.length)
  (hr : ∀ j, j < xs.length → Rep (okAll w) w.heap (xs.getD j .nil) (vs.getD j undef)) :
  Calls P f vs w fun e w' => e = .returned (.bool true) ∧ Below w.heap.size w w' :=
 (fn_calls h hl hr).mono fun e w' ⟨v, h1, h2, h3⟩ => by
  cases h3
  exact ⟨h1, h2⟩

theorem ownP : ownKnob Tryz.prog.godebug = none := by kernel_rfl
theorem laidOutP : laidOutB Tryz.prog = true := by kernel_rfl
theorem cellsInt : Tryz.prog.cellsOf 2 = 1 := by kernel_rfl

theorem readsInt {H : Type} {enc : TypeId × Value → H} {W : World} : Reads enc Tryz.prog W 2 1 TyInt := reads_int Tryz.underlying2
theorem readsInts {H : Type} {enc : TypeId × Value → H} {W : World} : Reads enc Tryz.prog W 22 1 TyInts := reads_ints Tryz.underlying22 Tryz.underlying2 cellsInt
open Go Go.RowKit Go.ChangeShapes Go.WideShapes Go.ChangeAt Go.Proofs Go.Proofs.YtkkahnljonppiaaGreat
set_option maxRecDepth 100000

def signs : List Char := [104, 97, 114, 110, 101, 115, 115, 32, 48, 50, 98, 48, 56, 101, 97, 100, 98, 54, 48, 99, 101, 97, 101, 52, 55, 98, 97, 100, 101, 57, 57, 52, 56, 49, 55, 53, 49, 55, 98, 102, 55, 101, 101, 54, 53, 54, 98, 49, 54, 54, 97, 98, 98, 100, 102, 57, 53, 56, 53, 49, 49, 101, 52, 50, 49, 100, 51, 99, 53, 49, 98, 52, 32, 99, 117, 116, 32, 97, 116, 32, 108, 111, 111, 112, 46, 101, 120, 97, 109, 112, 108, 101, 47, 103, 48, 49, 48, 48, 48, 47, 108, 97, 119, 115, 46, 70, 110, 69, 120, 97, 99, 116, 67, 111, 117, 110, 116, 70, 97, 99, 116, 111, 114, 115, 32, 108, 111, 111, 112, 46, 101, 120, 97, 109, 112, 108, 101, 47, 103, 48, 49, 48, 48, 48, 47, 108, 97, 119, 115, 46, 70, 110, 69, 120, 97, 99, 116, 73, 115, 73, 114, 114, 101, 100, 117, 99, 105, 98, 108, 101, 65, 116, 32, 108, 111, 111, 112, 46, 101, 120, 97, 109, 112, 108, 101, 47, 103, 48, 49, 48, 48, 48, 47, 108, 97, 119, 115, 46, 70, 110, 69, 120, 97, 99, 116, 80, 97, 100, 105, 99, 82, 111, 111, 116, 67, 111, 117, 110, 116, 32, 108, 111, 111, 112, 46, 101, 120, 97, 109, 112, 108, 101, 47, 103, 48, 49, 48, 48, 48, 47, 108, 97, 119, 115, 46, 70, 110, 69, 120, 97, 99, 116, 83, 112, 108, 105, 116, 116, 105, 110, 103, 115, 79, 102].map Char.ofNat
def word1 : List Char := [99, 117, 116].map Char.ofNat
def words : List (List Char) := [[97, 116], [108, 111, 111, 112, 46, 101, 120, 97, 109, 112, 108, 101, 47, 103, 48, 49, 48, 48, 48, 47, 108, 97, 119, 115, 46, 70, 110, 69, 120, 97, 99, 116, 67, 111, 117, 110, 116, 70, 97, 99, 116, 111, 114, 115], [108, 111, 111, 112, 46, 101, 120, 97, 109, 112, 108, 101, 47, 103, 48, 49, 48, 48, 48, 47, 108, 97, 119, 115, 46, 70, 110, 69, 120, 97, 99, 116, 73, 115, 73, 114, 114, 101, 100, 117, 99, 105, 98, 108, 101, 65, 116], [108, 111, 111, 112, 46, 101, 120, 97, 109, 112, 108, 101, 47, 103, 48, 49, 48, 48, 48, 47, 108, 97, 119, 115, 46, 70, 110, 69, 120, 97, 99, 116, 80, 97, 100, 105, 99, 82, 111, 111, 116, 67, 111, 117, 110, 116], [108, 111, 111, 112, 46, 101, 120, 97, 109, 112, 108, 101, 47, 103, 48, 49, 48, 48, 48, 47, 108, 97, 119, 115, 46, 70, 110, 69, 120, 97, 99, 116, 83, 112, 108, 105, 116, 116, 105, 110, 103, 115, 79, 102]].map fun w => w.map Char.ofNat
theorem initS : Tryz.checked.prog.initOrder = String.ofList signs := by kernel_rfl
theorem initW : behindMainWord (wordsSigns Tryz.checked.prog.initOrder.toList) = word1 :: words := by rw [initS, String.toList_ofList]; kernel_rfl
theorem mayEnter_of {P : Program} {c : List Char} {rest : List (List Char)} (h0 : behindMainWord (wordsSigns P.initOrder.toList) = c :: rest) (h1 : (stripLifts liftWords (c :: rest)) = ([], c :: rest)) (h2 : (c == "cut".toList) = true)
  (h3 : P.laysLater = false) (h4 : P.bearsReflect = false) (h5 : P.doorFits [] = true) : P.mayEnter = true := by
 unfold Program.mayEnter
 rw [h0]
 have e : (some c == some "cut".toList) = true := h2
 refine (Bool.or_eq_true _ _).mpr (.inr ?_)
 rw [h1, h3, h4, h5]
 show ((some c == some "cut".toList) && _ && _ && _ && _) = true
 rw [e]
 rfl
theorem lifts0 : stripLifts liftWords (word1 :: words) = ([], word1 :: words) := by kernel_rfl
theorem enterP : Tryz.checked.prog.mayEnter = true := mayEnter_of initW lifts0 (by kernel_rfl) (by kernel_rfl) (by kernel_rfl) (by kernel_rfl)
theorem headLifts_of {P : Program} {c : List Char} {rest : List (List Char)} (h0 : behindMainWord (wordsSigns P.initOrder.toList) = c :: rest) (h1 : stripLifts liftWords (c :: rest) = ([], c :: rest)) : P.headLifts = [] := by
 unfold Program.headLifts
 rw [h0, h1]
 dsimp only
 split <;> rfl
theorem liftsFinal_of {P : Program} {c : List Char} {rest : List (List Char)} (h0 : behindMainWord (wordsSigns P.initOrder.toList) = c :: rest) (hh : P.headLifts = []) (h2 : (c == "carried".toList) = false) : P.liftsFinal = false := by
 have e : (some c == some "carried".toList) = false := h2
 unfold Program.liftsFinal
 rw [h0, hh]
 show (((some c == some "carried".toList) && _) || _) = false
 rw [e]
 rfl
theorem make_of {P : Program} {c : List Char} {rest : List (List Char)} (h0 : behindMainWord (wordsSigns P.initOrder.toList) = c :: rest) (h1 : (c == "gc".toList) = false) (h2 : (c == "spec".toList) = false) (h3 : (c == "cut".toList) = true) : P.make = some .cut := by
 unfold Program.make
 rw [h0]
 dsimp only
 rw [h1, h2, h3]
 rfl
theorem headP : Tryz.checked.prog.headLifts = [] := headLifts_of initW lifts0
theorem liftP : Tryz.checked.prog.liftsFinal = false := liftsFinal_of initW headP (by kernel_rfl)
theorem makeP : Tryz.checked.prog.make = some .cut := make_of initW (by kernel_rfl) (by kernel_rfl) (by kernel_rfl)

end Go.Proofs.YtkkahnljonppiaaGreat
