/- The law FnPrimitive answers true, for all arguments. No conditions. -/
import Derived.Test.YtlmckocbhcpmdaaGreatPj
namespace Go.Proofs.YtlmckocbhcpmdaaGreat
open Go Go.RowKit Go.Proofs Poly
set_option maxRecDepth 100000
set_option maxHeartbeats 8000000

theorem zdD (Q : Nat -> Bool) : ∀ {k : Nat} {z : Int}, z ∈ sel Q k ↔ ∃ i : Nat, 1 <= i ∧ i <= k ∧ z = i ∧ Q i = true
 | 0, z => ⟨fun h => (by cases h), fun ⟨i, h1, h2, _⟩ => by omega⟩
 | k + 1, z => by
  rw [sel]
  by_cases hq : Q (k + 1) = true
  ·rw [if_pos hq, List.mem_append, zdD Q]
   constructor
   ·rintro (⟨i, h1, h2, h3⟩ | h)
    ·exact ⟨i, h1, by omega, h3⟩
    ·exact ⟨k + 1, by omega, by omega, List.mem_singleton.1 h, hq⟩
   ·rintro ⟨i, h1, h2, h3, h4⟩
    by_cases hi : i = k + 1
    ·subst hi; exact .inr (List.mem_singleton.2 h3)
    ·exact .inl ⟨i, h1, by omega, h3, h4⟩
  ·rw [if_neg hq, zdD Q]
   constructor
   ·rintro ⟨i, h1, h2, h3⟩; exact ⟨i, h1, by omega, h3⟩
   ·rintro ⟨i, h1, h2, h3, h4⟩
    exact ⟨i, h1, by
     rcases Nat.lt_or_ge k i with h | h
     ·obtain rfl : i = k + 1 := by omega
      exact absurd h4 hq
     ·exact h, h3, h4⟩

theorem lawPrimitive {n : Nat} {c : Nat -> Int} (hb : ∀ i, 0 <= c i ∧ c i <= 255) : FnV 9 [vBy n c] (.bool true) := by
 refine zd (za [0, 2, 3, 4, 5, 6, 7, 8, 9, 10, 11, 12, 13, 14, 15, 16, 17, 18, 19, 20, 21, 22, 23, 24, 25, 26, 27, 28, 29, 30, 31, 32, 33, 34, 35, 36, 38, 164, 166, 175, 183, 213, 215]) Tryz.func9 rfl (by decide) Tryz.ntmps9 (Nat.le_of_ble_eq_true rfl) fun base => ?_;refine wrs fun K hK => ?_;conv => whnf
 refine hK _ ?_;clear hK K;refine W.seqK fun K1 hK1 => ?_;refine wrs fun K hK => ?_;conv => whnf
 refine zb rfl (zoD) fun hs' hhs => ?_;try dsimp only at hhs
 conv => whnf
 refine hK _ (W.cond ⟨fun h => ?_, fun h => ?_⟩) <;> clear hK K
 ·refine wrs fun K hK => ?_;conv => whnf
  refine hK _ ?_;clear hK K;refine W.ret ?_;conv => whnf
  exact ⟨.v (.bool true), rfl, trivial, rfl⟩
 have h := of_decide_eq_false h;have hc : Byt n c := ⟨by omega, hb⟩
 refine W.skip (hK1 _ ?_);clear hK1 K1;refine wrs fun K hK => ?_;conv => whnf
 refine yA rfl (kZ hc) ?_;rintro lo hi hi' z hl1 hl2 hl3 ⟨p, L, rfl, hp, hL⟩ _;try dsimp only at hl1 hl2
 conv => whnf
 intro b_3 hs_3 hh_3 hf_3;try dsimp only at hh_3 hf_3
 conv => whnf
 refine ⟨s23, ?_⟩;conv => whnf
 refine hK _ ?_;clear hK K;have hpR : inR p := by constructor <;> omega
 obtain ⟨G, e1, hS1, hI1, hG, hV1⟩ := zcK p L hpR (by omega);refine wrs fun K hK => ?_;conv => whnf
 refine zb rfl (RT.toV (hI1 _)) fun hs' hhs => ?_;try dsimp only at hhs
 conv => whnf
 refine hK _ ?_;clear hK K;refine wrs fun K hK => ?_;conv => whnf
 refine zb rfl (hS1 _) fun hs' hhs => ?_;try dsimp only at hhs
 conv => whnf
 refine hK _ ?_;clear hK K;refine wrs fun K hK => ?_;conv => whnf
 refine yA rfl (k0 hc) ?_;rintro lo2 hi2 hi2' z hm1 hm2 hm3 ⟨p2, L2, rfl, hp2, hL2⟩ _;try dsimp only at hm1 hm2
 conv => whnf
 intro b_8 hs_8 hh_8 hf_8;try dsimp only at hh_8 hf_8
 conv => whnf
 refine ⟨s23, ?_⟩;conv => whnf
 refine hK _ ?_;clear hK K;obtain ⟨cp, e2, hS2, hI2⟩ := zaU p2 L2 (by constructor <;> omega) (by omega);refine wrs fun K hK => ?_;conv => whnf
 refine zb rfl (hI2 _) fun hs' hhs => ?_;try dsimp only at hhs
 conv => whnf
 refine hK _ ?_;clear hK K;refine wrs fun K hK => ?_;conv => whnf
 refine zb rfl (hS2 _) fun hs' hhs => ?_;try dsimp only at hhs
 conv => whnf
 refine hK _ ?_;clear hK K;refine wrs fun K hK => ?_;conv => whnf
 refine yA rfl (kL hc) ?_;rintro lo3 hi3 hi3' z hk1 hk2 hk3 ⟨p3, L3, w3, rfl, hp3, hL3, hw30, hw31⟩ _;try dsimp only at hk1 hk2
 conv => whnf
 intro b_13 hs_13 hh_13 hf_13;try dsimp only at hh_13 hf_13
 conv => whnf
 refine ⟨s23, ?_⟩;conv => whnf
 refine hK _ ?_;clear hK K;obtain ⟨eo, e3, hS3, hI3, hEO⟩ := zaE p3 L3 w3 (by constructor <;> omega) (by constructor <;> omega) (by omega);refine wrs fun K hK => ?_;conv => whnf
 refine zb rfl (RT.toV (hI3 _)) fun hs' hhs => ?_;try dsimp only at hhs
 conv => whnf
 refine hK _ ?_;clear hK K;refine wrs fun K hK => ?_;conv => whnf
 refine zb rfl (hS3 _) fun hs' hhs => ?_;try dsimp only at hhs
 conv => whnf
 refine hK _ ?_;clear hK K;refine wrs fun K hK => ?_;conv => whnf
 refine yA rfl (k6 hc) ?_;rintro lo4 hi4 hi4' z hj1 hj2 hj3 ⟨q, M, X, u, rfl, hq, hM, hX, hu0, hu1⟩ _;try dsimp only at hj1 hj2
 conv => whnf
 intro b_19 hs_19 hh_19 hf_19;try dsimp only at hh_19 hf_19
 conv => whnf
 refine ⟨s23, ?_⟩;conv => whnf
 refine hK _ ?_;clear hK K;have hqR : inR q := by constructor <;> omega
 obtain ⟨R, e4, hS4, hI4, hR, hV4⟩ := zcM q M X u hqR (by constructor <;> omega) (by omega) (by omega);obtain ⟨ok, e5, hS5, hI5, hV5⟩ := ziI q M X u hqR (by constructor <;> omega) (by omega) (by omega);refine wrs fun K hK => ?_;conv => whnf
 refine zb rfl (RT.toV (hI4 _ _)) fun hs' hhs => ?_;try dsimp only at hhs
 conv => whnf
 refine hK _ ?_;clear hK K;refine wrs fun K hK => ?_;conv => whnf
 refine zb rfl (hS4 _ _) fun hs' hhs => ?_;try dsimp only at hhs
 conv => whnf
 refine hK _ ?_;clear hK K;refine wrs fun K hK => ?_;conv => whnf
 refine zb rfl (hI5 _ _) fun hs' hhs => ?_;try dsimp only at hhs
 conv => whnf
 refine hK _ ?_;clear hK K;refine wrs fun K hK => ?_;conv => whnf
 refine zb rfl (hS5 _ _) fun hs' hhs => ?_;try dsimp only at hhs
 conv => whnf
 refine hK _ ?_;clear hK K;refine W.seqK fun K1 hK1 => ?_;refine wrs fun K hK => ?_;conv => whnf
 refine ⟨fun hc0 => absurd hc0 (by simp), fun _ => ?_⟩;conv => whnf
 refine zb rfl (vo _ _ G (by omega)) fun hs' hhs => ?_;try dsimp only at hhs
 conv => whnf
 refine ⟨fun hc0 => absurd hc0 (by simp), fun _ => ?_⟩;conv => whnf
 refine ⟨fun hc0 => absurd hc0 (by simp), fun _ => ?_⟩;conv => whnf
 refine ⟨fun hc0 => absurd hc0 (by simp), fun _ => ?_⟩;conv => whnf
 refine zb rfl (vo _ _ eo (by omega)) fun hs' hhs => ?_;try dsimp only at hhs
 conv => whnf
 refine ⟨fun hc0 => absurd hc0 (by simp), fun _ => ?_⟩;conv => whnf
 refine zb rfl (vo _ _ R (by omega)) fun hs' hhs => ?_;try dsimp only at hhs
 conv => whnf
 refine ⟨fun hc0 => absurd hc0 (by simp), fun _ => ?_⟩;conv => whnf
 refine hK _ (W.cond ⟨fun hcc => absurd hcc (by simp), fun _ => W.skip (hK1 _ ?_)⟩);clear hK K hK1 K1;refine W.seqK fun K1 hK1 => ?_
 have fin : ∀ t : S, base <= t.hs -> zy t.env [(3, .ownB b_3 (vK p none L)), (4, .v (.ints none G)), (5, .v (.int .i64 e1))] -> K1 t := by
  intro t h7 h8;refine hK1 _ (W.weak (t := ⟨[(3, .ownB b_3 (vK p none L)), (4, .v (.ints none G)), (5, .v (.int .i64 e1))], base⟩) ⟨h7, h8⟩ (Nat.le_refl _) ?_);clear hK1 K1;refine W.seqK fun K1 hK1 => ?_;refine wrs fun K hK => ?_;conv => whnf
  refine hK _ (W.cond ⟨fun hz => ?_, fun hz => ?_⟩) <;> clear hK K
  ·refine wrs fun K hK => ?_;conv => whnf
   refine hK _ ?_;clear hK K;refine W.ret ?_;conv => whnf
   exact ⟨.v (.bool true), rfl, trivial, rfl⟩
  have hz : e1 = 0 := Decidable.of_not_not (of_decide_eq_false hz);refine W.skip (hK1 _ ?_);clear hK1 K1;obtain ⟨hpp, f, g, rfl, rfl, hk, hgl, hgp⟩ := hV1 hz;letI := yk hpp;have hf9 : dg f <= 9 := hk.mod.2.1;have hcz : xG p f.l g.l = 0 := zcO hk fun j hj => znj hpp f g hgl (by omega);obtain ⟨ip, e6, _, hI6, hV6⟩ := zfq p f.l g.l hpR (by omega) (by omega);obtain ⟨rfl, rfl⟩ := hV6 hpp f g rfl rfl hcz;rw [zg hgp] at hI6;subst hz;refine wrs fun K hK => ?_;conv => whnf
  refine zb rfl (hI6 _ _) fun hs' hhs => ?_;try dsimp only at hhs
  conv => whnf
  refine hK _ ?_;clear hK K;refine wrs fun K hK => ?_;conv => whnf
  refine ⟨fun _ => ?_, fun hc0 => absurd hc0 (by simp)⟩;conv => whnf
  refine hK _ ?_;clear hK K;refine W.ret ?_;conv => whnf
  exact ⟨.v (.bool true), (by simp [leK, leV]), trivial, rfl⟩
 refine wrs fun K hK => ?_;conv => whnf
 refine hK _ (W.cond ⟨fun hz => ?_, fun hz => ?_⟩) <;> clear hK K
 case refine_2 =>
  refine W.skip (fin _ (by dsimp only; omega) ?_);exact cvr
 have hz : e4 = 0 := of_decide_eq_true hz;subst hz;obtain ⟨hpp, f, X, d, ex, rfl, rfl, hk, hxl, hX0, hd, rfl, hm1, hm2, hRe⟩ := hV4 rfl;letI := yk hpp;have hf9 : dg f <= 9 := hk.mod.2.1;have hfl : f.l.length = dg f := rfl;have hXl : X.l.length = dg X := rfl
 have hfi : Irr f := by
  obtain ⟨_, g, hg, hi, _⟩ := xp hk;obtain rfl := vO hg;exact hi
 obtain ⟨hq1, hq2, hq3⟩ := jr hk hd;have hcz : xG q f.l X.l = 0 := zcO hk fun j hj => znj hpp f X hxl (by omega);obtain ⟨rfl, hok⟩ := hV5 hpp f X d ex rfl rfl hcz hX0 hd rfl hm1 hm2;obtain ⟨z0, _, _, hz3, _⟩ := zb1 hk hfi;have hpr : vZ f (zr q z0) = yh f (zr q z0) (q.toNat ^ d - 1) := by unfold vZ; rw [show dg f - 1 = d by omega]
 rw [hpr] at hz3;have hpw := zn0 hfi hd hz3 hX0 hxl (m := ex) (by omega)
 have hoe : One f X ((q.toNat ^ d - 1) / Nat.gcd ex (q.toNat ^ d - 1)) ↔ ok = true := by
  rw [hok, decide_eq_true_iff, kg hfi.1]
 have hRm : ∀ z ∈ R, ∃ i : Nat, 1 <= i ∧ i <= q.toNat ^ d - 1 ∧ z = i ∧ decide ((rem (zr q i ^ ex) f).l = X.l) = true := by
  rw [hRe]; exact fun z hz => (zdD _).1 hz
 have hrl : ok = decide (0 < (R.length : Int)) := by
  rw [hoe] at hpw;rw [Bool.eq_iff_iff, hpw, decide_eq_true_iff]
  constructor
  ·rintro ⟨i, h1, h2, h3⟩;have : (i : Int) ∈ R := by rw [hRe, zdD]; exact ⟨i, h1, h2, rfl, decide_eq_true (by rw [h3])⟩
   have := List.length_pos_of_mem this;omega
  ·intro h1;have h2 : 0 < R.length := by omega
   obtain ⟨i, h4, h5, _, h6⟩ := hRm _ (List.getElem_mem h2);exact ⟨i, h4, h5, vO (of_decide_eq_true h6)⟩
 refine W.seqK fun K2 hK2 => ?_;refine wrs fun K hK => ?_;conv => whnf
 refine ⟨fun hc0 => absurd hc0 (by simp), fun _ => ?_⟩;conv => whnf
 refine hK _ (W.cond ⟨fun hcc => absurd hcc (by rw [hrl]; simp), fun _ => W.skip (hK2 _ ?_)⟩);clear hK K hK2 K2;refine wrs fun K hK => ?_;conv => whnf
 refine hK _ (W.block (W.invA (fun m e => ∃ i : Nat, i <= R.length ∧ m = R.length - i ∧ e = [(3, .ownB b_3 (vK p none L)), (4, .v (.ints none G)), (5, .v (.int .i64 e1)), (19, .ownB b_19 (vK q none f.l)), (20, .v (.ints none X.l)), (21, .v (.int .i64 ex)), (22, .v (.ints none R)), (30, .v (.int .i64 i))]) ⟨0, Nat.zero_le _, rfl, rfl⟩ ?_));clear hK K;rintro mm e ⟨i, hi, hmm, rfl⟩;refine W.seqK fun K7 hK7 => ?_;refine wrs fun K hK => ?_;conv => whnf
 refine ⟨fun h3 => ?_, fun h3 => ?_⟩
 ·conv => whnf
  refine hK _ (W.cond ⟨fun h5 => ?_, fun h5 => ?_⟩) <;> clear hK K
  ·have h3 := of_decide_eq_true h3;refine W.skip (hK7 _ (W.seqK fun K8 hK8 => W.block ?_));clear hK7 K7 fin hK1;have hlt : i < R.length := by omega
   have hRi : R.getD (i : Int).toNat 0 = R[i] := by rw [show (i : Int).toNat = i from rfl, List.getD_eq_getElem?_getD, List.getElem?_eq_getElem hlt]; rfl
   obtain ⟨k, hka, hkb, hkc, hkd⟩ := hRm _ (List.getElem_mem hlt);have hke := vO (of_decide_eq_true hkd);have hkl : dg (zr q k) < dg f := by have := jn (p := q) (show k < q.toNat ^ d by omega); omega
   have hkll : (zr q k).l.length = dg (zr q k) := rfl;obtain ⟨Y, e7, _, hI7, _, hV7⟩ := zfp q f.l k hqR (by constructor <;> omega) (by omega);obtain ⟨rfl, rfl⟩ := hV7 hk (by omega) (by rw [hq1]; omega);have hcz' : xG q f.l (zr q k).l = 0 := zcO hk fun j hj => znj hpp f _ hkl (by omega);obtain ⟨Z, e8, _, hI8, _, _, hV8⟩ := ze5 q f.l (zr q k).l ex hqR (by constructor <;> omega) (by omega) (by omega);obtain ⟨rfl, rfl⟩ := hV8 hpp f (zr q k) rfl rfl hcz' ex rfl (by omega);rw [hke] at hI8;rw [show dig q.toNat (k : Int).toNat = (zr q k).l by rw [xU]; rfl] at hI7;rw [hkc] at hRi;rw [<- hRi] at hI7;refine W.rgh follows fun K hK => ?_;refine Wgh.take (za []) 0 (by rfl) (fun d hd => by injection hd with hd; subst hd; decide) (by kernel_rfl) (by kernel_rfl) (by rfl) ?_;conv => whnf
   refine Wgh.take (za []) 1 (by rfl) (fun d hd => by injection hd with hd; subst hd; decide) (by kernel_rfl) (by kernel_rfl) (by rfl) ?_;conv => whnf
   refine Wgh.take (za []) 2 (by rfl) (fun d hd => by injection hd with hd; subst hd; decide) (by kernel_rfl) (by kernel_rfl) (by rfl) ?_;conv => whnf
   refine Wgh.take (za []) 3 (by rfl) (fun d hd => by injection hd with hd; subst hd; decide) (by kernel_rfl) (by kernel_rfl) (by rfl) ?_;conv => whnf
   refine ⟨oo, ?_⟩;conv => whnf
   refine Wgh.take (za []) 4 (by rfl) (fun d hd => by injection hd with hd; subst hd; decide) (by kernel_rfl) (by kernel_rfl) (by rfl) ?_;conv => whnf
   refine Wgh.one (za []) 5 [] (by rfl) (by kernel_rfl) (by kernel_rfl) (by kernel_rfl) (by rfl) (by kernel_rfl) ⟨(by (conv => whnf); exact ⟨Nat.le_refl _, rfl⟩), (by (conv => whnf); refine ⟨by first | assumption | omega | exact ⟨by omega, by omega⟩, ?_⟩; (conv => whnf); exact ⟨Nat.le_refl _, rfl⟩), (by (conv => whnf); exact ⟨Nat.le_refl _, rfl⟩), (by (conv => whnf); exact ⟨Nat.le_refl _, rfl⟩), (by (conv => whnf); exact ⟨Nat.le_refl _, rfl⟩), trivial⟩ ?_;conv => whnf
   refine zb rfl (RT.toV (hI7 _)) fun hs' hhs => ?_;try dsimp only at hhs
   conv => whnf
   refine Wgh.take (za []) 6 (by rfl) (fun d hd => by injection hd with hd; subst hd; decide) (by kernel_rfl) (by kernel_rfl) (by rfl) ?_;conv => whnf
   refine Wgh.take (za []) 7 (by rfl) (fun d hd => by injection hd with hd; subst hd; decide) (by kernel_rfl) (by kernel_rfl) (by rfl) ?_;conv => whnf
   refine Wgh.take (za []) 8 (by rfl) (fun d hd => by injection hd with hd; subst hd; decide) (by kernel_rfl) (by kernel_rfl) (by rfl) ?_;conv => whnf
   refine Wgh.one (za []) 9 [8] (by rfl) (by kernel_rfl) (by kernel_rfl) (by kernel_rfl) (by rfl) (by kernel_rfl) ⟨(by (conv => whnf); exact ⟨Nat.le_refl _, rfl⟩), (by (conv => whnf); exact ⟨Nat.le_refl _, rfl⟩), (by (conv => whnf); exact ⟨Nat.le_refl _, rfl⟩), trivial⟩ ?_;conv => whnf
   refine Wgh.one (za []) 10 [] (by rfl) (by kernel_rfl) (by kernel_rfl) (by kernel_rfl) (by rfl) (by kernel_rfl) ⟨(by (conv => whnf); exact ⟨Nat.le_refl _, rfl⟩), trivial⟩ ?_;conv => whnf
   refine Wgh.done (za []) (by rfl) (by kernel_rfl) (by kernel_rfl) (by kernel_rfl) trivial (hK _ ?_);clear hK K;refine wrs fun K hK => ?_;conv => whnf
   refine zb rfl (RT.toV (hI8 _ _)) fun hs' hhs => ?_;try dsimp only at hhs
   conv => whnf
   refine hK _ ?_;clear hK K;refine wrs fun K hK => ?_;conv => whnf
   refine ⟨fun hc0 => absurd hc0 (by simp), fun _ => ?_⟩;conv => whnf
   refine ⟨fun hc0 => absurd hc0 (by simp), fun _ => ?_⟩;conv => whnf
   refine zb rfl (vo _ _ X.l (by omega)) fun hs' hhs => ?_;try dsimp only at hhs
   conv => whnf
   refine hK _ (W.condF rfl (W.skip (hK8 _ ?_)));clear hK K hK8 K8;refine wrg ?_;conv => whnf
   refine ⟨oo, ?_⟩;conv => whnf
   exact zi ⟨i + 1, by omega, rfl, rfl⟩
  ·refine W.exit (fin _ (by dsimp only; omega) ?_);exact cvr
 ·conv => whnf
  refine hK _ (W.condF rfl (W.exit (fin _ (by dsimp only; omega) ?_)));exact cvr

open Go Go.RowKit Go.ChangeShapes Go.WideShapes Go.ChangeAt Go.Proofs Go.Proofs.YtlmckocbhcpmdaaGreat

set_option maxRecDepth 100000 in
theorem liftedPrimitive (H : Type) (enc : TypeId × Value -> H) (os : Os) (started : os.Started) :
  ReturnsInHanded {} Tryz.checked os 9 .any (Rows.fnPrimitiveSpec.pre6 enc Tryz.prog Tryz.f9 Rows.fnPrimitiveRow.domain false) (Rows.fnPrimitiveSpec.post enc Tryz.prog Tryz.f9 false true false false) := by
 refine zjb (C := Tryz.checked) (tb := 4) ownP started (by kernel_rfl) Tryz.func9 znl ?_ rfl (by kernel_rfl) Tryz.underlying4 ?_
  (ChangeSpec.witness6 (enc := enc) (C := Tryz.checked) false ⟨#[], #[.slice none 0 0], []⟩ 8 (by kernel_rfl) (by kernel_rfl) (by kernel_rfl) (by kernel_rfl)) ?_
 ·rw [Tryz.params9];intro t ht;simp only [List.mem_singleton] at ht
  subst ht;exact ⟨by kernel_rfl, of_decide_eq_true (by kernel_rfl)⟩
 ·intro ds hds
  match ds, hds with
  | [d0], _ => exact ⟨rfl, rfl, rfl⟩
 ·intro W args ds ps hval hA;have hval' : ∀ (j : Nat) t v, Tryz.f9.params[j]? = some t -> args[j]? = some v -> ∃ base, Value.okWide Tryz.prog W .any base t v := hval;rw [Tryz.params9] at hA hval';obtain ⟨v0, d0, hv, rfl, h0⟩ := trodAll_one hA;subst hv;obtain ⟨_, hv0⟩ := hval' 0 22 v0 rfl rfl;obtain ⟨a0, len0, cap0, rfl⟩ := okWide_slice Tryz.underlying22 hv0;obtain ⟨x0, hx0, hr0⟩ := zmc zjR h0 (by simp);obtain ⟨n, c, hb, _, hr⟩ := znn hx0;refine zno (lawPrimitive (n := n) (c := c) hb) rfl fun j hj => ?_;obtain rfl : j = 0 := by simpa using hj
  exact hr _ _ _ hr0

theorem joinedPrimitivea : (Rows.fnPrimitiveRow.inPlace == Tryz.checked.prog.inPlace 9) = true := by kernel_rfl
theorem joinedPrimitiveb : (Rows.fnPrimitiveRow.unfollowed == Tryz.checked.prog.unfollowed 9) = true := by kernel_rfl
theorem joinedPrimitivec : (Rows.fnPrimitiveRow.recurses == Tryz.checked.prog.recurses 9) = true := by kernel_rfl
theorem joinedPrimitived : (Rows.fnPrimitiveRow.named == Tryz.checked.prog.varsNamed 9) = true := by kernel_rfl
theorem joinedPrimitive : joinedFacts Tryz.checked.prog 9 Tryz.f9 Rows.fnPrimitiveSpec Rows.fnPrimitiveRow = true := by
 unfold joinedFacts;rw [zoL, zo6, zo7, joinedPrimitivea, joinedPrimitiveb, joinedPrimitivec, joinedPrimitived]
 kernel_rfl
theorem instPrimitive : Tryz.f9.isInstance Tryz.checked.prog Rows.fnPrimitiveRow.origin Rows.fnPrimitiveRow.targs := of_decide_eq_true (by kernel_rfl)

theorem claimPrimitive : Rows.FnPrimitiveSaid :=
 OpenClaim.holds_of_wide (p := Tryz.pinned) (s := Rows.fnPrimitiveSpec) (c := Rows.fnPrimitiveRow) 9 Tryz.f9 rfl rfl rfl rfl rfl rfl rfl ⟨rfl, rfl, rfl, rfl, rfl⟩ rfl rfl rfl rfl rfl (by kernel_rfl) Tryz.func9 joinedPrimitive
  instPrimitive (by unfold Func.isWrapper; first | (rw [if_pos (by decide +kernel)]; kernel_rfl) | (rw [if_neg (by decide +kernel)]; exact ⟨rfl, rfl⟩))
  (fun os started H enc _ => liftedPrimitive H enc os started)

end Go.Proofs.YtlmckocbhcpmdaaGreat
