/- The law FnModularFactors answers true, for all arguments. No conditions. -/
import Derived.Test.YtlmckocbhcpmdaaGreatPh
namespace Go.Proofs.YtlmckocbhcpmdaaGreat
open Go Go.RowKit Go.Proofs Poly
set_option maxRecDepth 100000
set_option maxHeartbeats 8000000

theorem zbx (G : List (List Int × Int)) (hl : G.length <= 1000000) (hd : ∀ j, (gd G j).1.length <= 1000000) : FnV 77 [vGs G, vGs G] .tr := by
 refine zj (za [0, 1, 4, 5, 10, 14, 41]) Tryz.func77 rfl (by decide) Tryz.ntmps77 (Nat.le_of_ble_eq_true rfl) fun base => ?_;refine wrs fun K hK => ?_;conv => whnf
 refine hK _ ?_;clear hK K;refine W.seqK fun K1 hK1 => wrs fun K hK => ?_;conv => whnf
 refine hK _ (W.cond ⟨fun hcc => absurd rfl (of_decide_eq_true hcc), fun _ => W.skip (hK1 _ ?_)⟩);clear hK K hK1 K1;refine W.seqK fun K1 hK1 => wrs fun K hK => ?_;conv => whnf
 refine hK _ (W.block (W.invA (fun m e => ∃ i : Nat, i <= G.length ∧ m = G.length - i ∧ e = [(0, .v (vGs G)), (1, .v (vGs G)), (5, .v (.int .i64 i))]) ⟨0, Nat.zero_le _, rfl, rfl⟩ ?_));clear hK K;rintro m e ⟨i, h1, hm, rfl⟩;refine W.seqK fun K7 hK7 => wrs fun K hK => ?_;conv => whnf
 refine hK _ (W.cond ⟨fun h3 => ?_, fun h3 => ?_⟩) <;> clear hK K <;> (first | replace h3 := of_decide_eq_true h3 | replace h3 := of_decide_eq_false h3)
 ·refine W.skip (hK7 _ ?_);clear hK7 K7;refine W.seqK fun K8 hK8 => W.block ?_;have hdi := hd i;have hz : decide ((gd G (i : Int).toNat).2 ≠ (gd G (i : Int).toNat).2) = false := decide_eq_false fun h => h rfl;refine W.rgh follows fun K hK => ?_;refine Wgh.take (za []) 0 (by rfl) (fun d hd => by injection hd with hd; subst hd; decide) (by kernel_rfl) (by kernel_rfl) (by rfl) ?_;conv => whnf
  refine Wgh.take (za []) 1 (by rfl) (fun d hd => by injection hd with hd; subst hd; decide) (by kernel_rfl) (by kernel_rfl) (by rfl) ?_;conv => whnf
  refine Wgh.take (za []) 2 (by rfl) (fun d hd => by injection hd with hd; subst hd; decide) (by kernel_rfl) (by kernel_rfl) (by rfl) ?_;conv => whnf
  refine ⟨oo, ?_⟩;conv => whnf
  refine Wgh.take (za []) 3 (by rfl) (fun d hd => by injection hd with hd; subst hd; decide) (by kernel_rfl) (by kernel_rfl) (by rfl) ?_;conv => whnf
  refine Wgh.take (za []) 4 (by rfl) (fun d hd => by injection hd with hd; subst hd; decide) (by kernel_rfl) (by kernel_rfl) (by rfl) ?_;conv => whnf
  refine Wgh.take (za []) 5 (by rfl) (fun d hd => by injection hd with hd; subst hd; decide) (by kernel_rfl) (by kernel_rfl) (by rfl) ?_;conv => whnf
  refine Wgh.take (za []) 6 (by rfl) (fun d hd => by injection hd with hd; subst hd; decide) (by kernel_rfl) (by kernel_rfl) (by rfl) ?_;conv => whnf
  refine Wgh.take (za []) 7 (by rfl) (fun d hd => by injection hd with hd; subst hd; decide) (by kernel_rfl) (by kernel_rfl) (by rfl) ?_;conv => whnf
  refine ⟨oo, ?_⟩;conv => whnf
  refine Wgh.take (za []) 8 (by rfl) (fun d hd => by injection hd with hd; subst hd; decide) (by kernel_rfl) (by kernel_rfl) (by rfl) ?_;conv => whnf
  refine Wgh.take (za []) 9 (by rfl) (fun d hd => by injection hd with hd; subst hd; decide) (by kernel_rfl) (by kernel_rfl) (by rfl) ?_;conv => whnf
  refine Wgh.take (za []) 10 (by rfl) (fun d hd => by injection hd with hd; subst hd; decide) (by kernel_rfl) (by kernel_rfl) (by rfl) ?_;conv => whnf
  rw [hz];refine Wgh.one (za []) 11 [] (by rfl) (by kernel_rfl) (by kernel_rfl) (by kernel_rfl) (by rfl) (by kernel_rfl) ⟨(by (conv => whnf); rw [hz]; exact ⟨Nat.le_refl _, rfl⟩), (by (conv => whnf); exact ⟨Nat.le_refl _, rfl⟩), (by (conv => whnf); exact ⟨Nat.le_refl _, rfl⟩), (by (conv => whnf); refine ⟨by first | assumption | omega | exact ⟨by omega, by omega⟩, ?_⟩; (conv => whnf); exact ⟨Nat.le_refl _, rfl⟩), (by (conv => whnf); exact ⟨Nat.le_refl _, rfl⟩), (by (conv => whnf); exact ⟨Nat.le_refl _, rfl⟩), (by (conv => whnf); exact ⟨Nat.le_refl _, rfl⟩), (by (conv => whnf); exact ⟨Nat.le_refl _, rfl⟩), (by (conv => whnf); refine ⟨by first | assumption | omega | exact ⟨by omega, by omega⟩, ?_⟩; (conv => whnf); exact ⟨Nat.le_refl _, rfl⟩), (by (conv => whnf); exact ⟨Nat.le_refl _, rfl⟩), (by (conv => whnf); exact ⟨Nat.le_refl _, rfl⟩), trivial⟩ ?_;conv => whnf
  refine Wgh.take (za []) 12 (by rfl) (fun d hd => by injection hd with hd; subst hd; decide) (by kernel_rfl) (by kernel_rfl) (by rfl) ?_;conv => whnf
  refine ⟨fun hc0 => absurd hc0 (by simp), fun _ => ?_⟩;conv => whnf
  refine Wgh.take (za []) 13 (by rfl) (fun d hd => by injection hd with hd; subst hd; decide) (by kernel_rfl) (by kernel_rfl) (by rfl) ?_;conv => whnf
  refine Wgh.take (za []) 14 (by rfl) (fun d hd => by injection hd with hd; subst hd; decide) (by kernel_rfl) (by kernel_rfl) (by rfl) ?_;conv => whnf
  refine ⟨oo, ?_⟩;conv => whnf
  refine Wgh.take (za []) 15 (by rfl) (fun d hd => by injection hd with hd; subst hd; decide) (by kernel_rfl) (by kernel_rfl) (by rfl) ?_;conv => whnf
  refine Wgh.take (za []) 16 (by rfl) (fun d hd => by injection hd with hd; subst hd; decide) (by kernel_rfl) (by kernel_rfl) (by rfl) ?_;conv => whnf
  refine Wgh.take (za []) 17 (by rfl) (fun d hd => by injection hd with hd; subst hd; decide) (by kernel_rfl) (by kernel_rfl) (by rfl) ?_;conv => whnf
  refine Wgh.take (za []) 18 (by rfl) (fun d hd => by injection hd with hd; subst hd; decide) (by kernel_rfl) (by kernel_rfl) (by rfl) ?_;conv => whnf
  refine Wgh.take (za []) 19 (by rfl) (fun d hd => by injection hd with hd; subst hd; decide) (by kernel_rfl) (by kernel_rfl) (by rfl) ?_;conv => whnf
  refine ⟨oo, ?_⟩;conv => whnf
  refine Wgh.take (za []) 20 (by rfl) (fun d hd => by injection hd with hd; subst hd; decide) (by kernel_rfl) (by kernel_rfl) (by rfl) ?_;conv => whnf
  refine Wgh.take (za []) 21 (by rfl) (fun d hd => by injection hd with hd; subst hd; decide) (by kernel_rfl) (by kernel_rfl) (by rfl) ?_;conv => whnf
  refine Wgh.one (za []) 22 [] (by rfl) (by kernel_rfl) (by kernel_rfl) (by kernel_rfl) (by rfl) (by kernel_rfl) ⟨(by (conv => whnf); exact ⟨Nat.le_refl _, rfl⟩), (by (conv => whnf); exact ⟨Nat.le_refl _, rfl⟩), (by (conv => whnf); refine ⟨by first | assumption | omega | exact ⟨by omega, by omega⟩, ?_⟩; (conv => whnf); exact ⟨Nat.le_refl _, rfl⟩), (by (conv => whnf); exact ⟨Nat.le_refl _, rfl⟩), (by (conv => whnf); exact ⟨Nat.le_refl _, rfl⟩), (by (conv => whnf); exact ⟨Nat.le_refl _, rfl⟩), (by (conv => whnf); exact ⟨Nat.le_refl _, rfl⟩), (by (conv => whnf); refine ⟨by first | assumption | omega | exact ⟨by omega, by omega⟩, ?_⟩; (conv => whnf); exact ⟨Nat.le_refl _, rfl⟩), (by (conv => whnf); exact ⟨Nat.le_refl _, rfl⟩), (by (conv => whnf); exact ⟨Nat.le_refl _, rfl⟩), trivial⟩ ?_;conv => whnf
  refine zg rfl (v8 _ _ (gd G (i : Int).toNat).1 (by rw [show (i : Int).toNat = i from rfl]; omega)) fun hs' hhs => ?_;try dsimp only at hhs
  conv => whnf
  refine Wgh.take (za []) 23 (by rfl) (fun d hd => by injection hd with hd; subst hd; decide) (by kernel_rfl) (by kernel_rfl) (by rfl) ?_;conv => whnf
  refine Wgh.take (za []) 24 (by rfl) (fun d hd => by injection hd with hd; subst hd; decide) (by kernel_rfl) (by kernel_rfl) (by rfl) ?_;conv => whnf
  refine Wgh.done (za []) (by rfl) (by kernel_rfl) (by kernel_rfl) (by kernel_rfl) ⟨(by (conv => whnf); exact ⟨Nat.le_refl _, rfl⟩), (by (conv => whnf); exact ⟨Nat.le_refl _, rfl⟩), trivial⟩ (hK _ ?_);clear hK K;refine W.condF rfl (W.skip (hK8 _ ?_));clear hK8 K8;refine wrg ?_;conv => whnf
  refine ⟨oo, ?_⟩;conv => whnf
  exact zm ⟨i + 1, by omega, rfl, rfl⟩
 ·refine W.exit (hK1 _ ?_);clear hK7 K7 hK1 K1;refine wrs fun K hK => ?_;conv => whnf
  refine hK _ ?_;clear hK K;refine W.ret ?_;conv => whnf
  exact ⟨.v (.tr), rfl, trivial, rfl⟩

theorem zcg {p : Int} [SP p] (hp : isP p = true) (f : Poly p) (h : dg f <= 9) : zF p f.l :=
 ⟨hp, h, fun j _ => by have := jS f j; omega, by
  by_cases h0 : f.l.length = 0
  ·exact .inl h0
  ·exact .inr (f.ok.2 _ (by omega))⟩
theorem zan (p : Int) [SP p] (g g' : Option Nat) (F G : Poly p) (hF : zF p F.l) (hG : zF p G.l) (h9 : dg (F * G) <= 9) : FnV 78 [.int .i64 p, .ints g F.l, .ints g' G.l] (.tup [.ints none (F * G).l, .int .i64 0]) := by
 have h1 := hF.2.1;have hfl : F.l.length = dg F := rfl;have h2 := hG.2.1;have hgl : G.l.length = dg G := rfl;have hpl : (F * G).l.length = dg (F * G) := rfl;refine zj (za [0, 1, 2, 6, 7, 8, 18, 25]) Tryz.func78 rfl (by decide) Tryz.ntmps78 (Nat.le_of_ble_eq_true rfl) fun base => ?_;refine wrs fun K hK => ?_;conv => whnf
 refine hK _ ?_;clear hK K;refine W.seqK fun K1 hK1 => ?_;refine wrs fun K hK => ?_;conv => whnf
 refine zg rfl ((yW g p F.l).tr (zW hF)) fun hs' hhs => ?_;try dsimp only at hhs
 conv => whnf
 refine zg rfl ((yW g' p G.l).tr (zW hG)) fun hs' hhs => ?_;try dsimp only at hhs
 conv => whnf
 refine hK _ (W.condF rfl (W.skip (hK1 _ ?_)));clear hK K hK1 K1;refine wrs fun K hK => ?_;conv => whnf
 refine zB rfl (ku p g g' F G (by omega) (by omega)) fun hs_3 b_3 hh_3 hf_3 => ?_;try dsimp only at hh_3 hf_3
 conv => whnf
 refine hK _ ?_;clear hK K;refine W.seqK fun K1 hK1 => ?_;refine wrs fun K hK => ?_;conv => whnf
 refine hK _ (W.cond ⟨fun h => absurd (of_decide_eq_true h) (by omega), fun _ => W.skip (hK1 _ ?_)⟩);clear hK K hK1 K1;refine wrs fun K hK => ?_;conv => whnf
 refine hK _ ?_;clear hK K;refine W.ret ?_;conv => whnf
 exact ⟨.v (.ints none (F * G).l), ⟨rfl, rfl⟩, trivial, .v (.int .i64 0), ⟨rfl, rfl⟩, trivial, rfl⟩

theorem zfn {p : Int} [SP p] {f : Poly p} {F : List (Poly p × Nat)} (hF : yg f F) (hf : f ≠ 0) (h9 : dg f <= 9) {j : Nat} (hj : j < F.length) : Irr (F.getD j (0, 0)).1 ∧ dg (F.getD j (0, 0)).1 <= 9 ∧ 1 <= (F.getD j (0, 0)).2 ∧ (F.getD j (0, 0)).2 <= 8 := by
 obtain ⟨h1, h2, h3, u, hu, _⟩ := hF.at hj;have h4 : (F.getD j (0, 0)).1 ^ (F.getD j (0, 0)).2 ∣ f := ⟨u, hu⟩
 have h5 := zC h4 hf;have h6 := zie h1.ne (F.getD j (0, 0)).2;have h7 := h1.1;obtain ⟨d, hd⟩ : ∃ d, dg (F.getD j (0, 0)).1 = d + 2 := ⟨dg (F.getD j (0, 0)).1 - 2, by omega⟩
 rw [hd, show d + 2 - 1 = d + 1 by omega, Nat.mul_add, Nat.mul_one] at h6;have h8 := Nat.le_mul_of_pos_left d (show 0 < (F.getD j (0, 0)).2 by omega);exact ⟨h1, by omega, h3, by omega⟩

theorem zb2 (p : Int) (L : List Int) (hl : L.length <= 1048576) : ∃ (G : List (List Int × Int)) (r1 : Int), FnV 73 [.int .i64 p, .ints none L] (.tup [vGs G, .int .i64 r1]) ∧ FnV 72 [.int .i64 p, .ints none L] (.tup [vGs G, .int .i64 r1]) ∧ G.length <= 20 ∧ (∀ j, (gd G j).1.length <= 20) ∧
  (r1 = 0 -> ∃ hp : p ∈ yj, letI := xw hp; ∃ (f : Poly p) (F : List (Poly p × Nat)), f.l = L ∧ 2 <= dg f ∧ zF p f.l ∧ yg f F ∧ G = F.map toG) := by
 by_cases hc : z9 p L = 0
 case neg =>
  refine ⟨[], z9 p L, ?_, ?_, by simp, fun j => by simp [gd], fun h => absurd h hc⟩
  ·refine zj (za [0, 1, 4, 5, 6, 11]) Tryz.func73 rfl (by decide) Tryz.ntmps73 (Nat.le_of_ble_eq_true rfl) fun base => ?_;refine wrs fun K hK => ?_;conv => whnf
   refine hK _ ?_;clear hK K;refine wrs fun K hK => ?_;conv => whnf
   refine zg rfl (zdx none p L (by omega)) fun hs' hhs => ?_;try dsimp only at hhs
   conv => whnf
   refine hK _ ?_;clear hK K;refine W.seqK fun K1 hK1 => ?_;refine wrs fun K hK => ?_;conv => whnf
   refine hK _ (W.cond ⟨fun _ => ?_, fun hcc => absurd hc (of_decide_eq_false hcc)⟩);clear hK K;refine wrs fun K hK => ?_;conv => whnf
   refine hK _ ?_;clear hK K;refine W.ret ?_;conv => whnf
   exact ⟨.v (vGs []), rfl, ⟨trivial, fun _ _ => ⟨trivial, trivial, trivial⟩⟩, .v (.int .i64 (z9 p L)), ⟨rfl, rfl⟩, trivial, rfl⟩
  ·refine zj (za [0, 1, 4, 5, 6, 11]) Tryz.func72 rfl (by decide) Tryz.ntmps72 (Nat.le_of_ble_eq_true rfl) fun base => ?_;refine wrs fun K hK => ?_;conv => whnf
   refine hK _ ?_;clear hK K;refine W.seqK fun K1 hK1 => ?_;refine wrs fun K hK => ?_;conv => whnf
   refine zg rfl (v9 none p L) fun hs' hhs => ?_;try dsimp only at hhs
   conv => whnf
   refine hK _ ?_;clear hK K;refine wrs fun K hK => ?_;conv => whnf
   refine hK _ (W.cond ⟨fun _ => ?_, fun hcc => absurd hc (of_decide_eq_false hcc)⟩);clear hK K;refine wrs fun K hK => ?_;conv => whnf
   refine hK _ ?_;clear hK K;refine W.ret ?_;conv => whnf
   exact ⟨.v (vGs []), rfl, ⟨trivial, fun _ _ => ⟨trivial, trivial, trivial⟩⟩, .v (.int .i64 (z9 p L)), ⟨rfl, rfl⟩, trivial, rfl⟩
 obtain ⟨hm, h2⟩ := zje hc;obtain ⟨hp, f, rfl⟩ := zce hm;letI := xw hp;have h9 := hm.2.1;have hfl : f.l.length = dg f := rfl;have hf0 : f ≠ 0 := fun e => by have := zc.2 e; omega
 obtain ⟨F, hF⟩ := zht hf0;have hFl := hF.facs.few hf0;refine ⟨F.map toG, 0, ?_, ?_, by rw [List.length_map]; omega, fun j => ?_, fun _ => ⟨hp, f, F, rfl, h2, hm, hF, rfl⟩⟩
 ·rw [<- zaX];refine zj (za [0, 1, 4, 5, 6, 11]) Tryz.func73 rfl (by decide) Tryz.ntmps73 (Nat.le_of_ble_eq_true rfl) fun base => ?_;refine wrs fun K hK => ?_;conv => whnf
  refine hK _ ?_;clear hK K;refine wrs fun K hK => ?_;conv => whnf
  refine zg rfl (zdx none p f.l (by omega)) fun hs' hhs => ?_;try dsimp only at hhs
  conv => whnf
  rw [hc];refine hK _ ?_;clear hK K;refine W.seqK fun K1 hK1 => ?_;refine wrs fun K hK => ?_;conv => whnf
  refine hK _ (W.cond ⟨fun hcc => absurd rfl (of_decide_eq_true hcc), fun _ => W.skip (hK1 _ ?_)⟩);clear hK K hK1 K1;refine wrs fun K hK => ?_;conv => whnf
  refine yq rfl (zjb p none f (by omega) hf0) ?_;rintro lo hi hi' z hl1 hl2 hl3 ⟨F', hF', rfl⟩ _;obtain rfl := hF.unique hF';try dsimp only at hl1 hl2
  conv => whnf
  refine hK _ ?_;clear hK K;refine W.ret ?_;conv => whnf
  exact ⟨.v (vFs F), ⟨rfl, rfl, rfl, fun _ _ => rfl⟩, ⟨trivial, fun _ _ => ⟨trivial, trivial, trivial⟩⟩, .v (.int .i64 0), ⟨rfl, rfl⟩, trivial, rfl⟩
 ·rw [<- zaX];refine zj (za [0, 1, 4, 5, 6, 11]) Tryz.func72 rfl (by decide) Tryz.ntmps72 (Nat.le_of_ble_eq_true rfl) fun base => ?_;refine wrs fun K hK => ?_;conv => whnf
  refine hK _ ?_;clear hK K;refine W.seqK fun K1 hK1 => ?_;refine wrs fun K hK => ?_;conv => whnf
  refine zg rfl (v9 none p f.l) fun hs' hhs => ?_;try dsimp only at hhs
  conv => whnf
  rw [hc];refine hK _ ?_;clear hK K;refine wrs fun K hK => ?_;conv => whnf
  refine hK _ (W.cond ⟨fun hcc => absurd rfl (of_decide_eq_true hcc), fun _ => W.skip (hK1 _ ?_)⟩);clear hK K hK1 K1;refine wrs fun K hK => ?_;conv => whnf
  refine yq rfl (jL p _ none f (by omega) (Nat.le_refl _) hf0) ?_;rintro lo hi hi' z hl1 hl2 hl3 ⟨F', hF', rfl⟩ _;obtain rfl := hF.unique hF';try dsimp only at hl1 hl2
  conv => whnf
  refine hK _ ?_;clear hK K;refine W.ret ?_;conv => whnf
  exact ⟨.v (vFs F), ⟨rfl, rfl, rfl, fun _ _ => rfl⟩, ⟨trivial, fun _ _ => ⟨trivial, trivial, trivial⟩⟩, .v (.int .i64 0), ⟨rfl, rfl⟩, trivial, rfl⟩
 ·rw [zam]
  by_cases hj : j < F.length
  ·have := (zfn hF hf0 (by omega) hj).2.1;exact Nat.le_trans this (by omega)
  ·rw [List.getD_eq_getElem?_getD, List.getElem?_eq_none (by omega)];show (0 : Poly p).l.length <= 20
   rw [kn]; simp

theorem PoA.len {p : Int} {F : List (List Int × Int)} {r0 : List Int} {r1 : Int} (h : PoA p F r0 r1) : r0.length <= 9 := by
 obtain ⟨h1, h2, h3⟩ := h
 by_cases ho : okG p F
 ·by_cases h8 : 8 < F.length
  ·rw [(h2 ho h8).1]; simp
  ·obtain ⟨hp, G, _, rfl, _⟩ := h3 ho (by omega);letI := xw hp
   by_cases h9 : 9 < dg (z8 G G.length)
   ·rw [if_pos h9]; simp
   ·rw [if_neg h9]; show dg _ <= 9; omega
 ·rw [(h1 ho).1]; simp
theorem zik {p : Int} [SP p] : ∀ {G F : List (Poly p × Nat)}, G.map toG = F.map toG -> G = F
 | [], [], _ => rfl
 | [], _ :: _, h => by cases h
 | _ :: _, [], h => by cases h
 | x :: G, y :: F, h => by
  rw [List.map_cons, List.map_cons] at h;injection h with h1 h2
  rw [zik h2];unfold toG at h1;have h3 := congrArg Prod.fst h1;have h4 : (x.2 : Int) = y.2 := congrArg Prod.snd h1;have h3 : x.1.l = y.1.l := h3;obtain ⟨x1, x2⟩ := x;obtain ⟨y1, y2⟩ := y;obtain rfl := zh2 h3;obtain rfl : x2 = y2 := by show x2 = y2; exact Int.ofNat.inj h4
  rfl
theorem zbT (p : Int) (F : List (List Int × Int)) (hl : F.length <= 1000000) (hlx : ∀ j, (gd F j).1.length <= 1000000000) : ∃ (r0 : List Int) (r1 : Int), FnV 76 [.int .i64 p, vGs F] (.tup [.ints none r0, .int .i64 r1]) ∧ FnT Tryz.prog 75 [.int .i64 p, vGs F] (RT r0 r1) ∧ r0.length <= 9 ∧
  (∀ hp : p ∈ yj, letI := xw hp; ∀ (f : Poly p) (G : List (Poly p × Nat)), F = G.map toG -> yg f G -> 2 <= dg f -> dg f <= 9 -> r1 = 0 ∧ r0 = (z8 G G.length).l) := by
 obtain ⟨r0, r1, h⟩ := PoA.ex p F;refine ⟨r0, r1, zl2 p F r0 r1 h hl hlx, zl3 p F r0 r1 h hl hlx, h.len, ?_⟩;intro hp;letI := xw hp;intro f G hFG hF h2 h9;have hf0 : f ≠ 0 := fun e => by rw [e, zq] at h2; omega
 have hFl := hF.facs.few hf0;have hP : isP p = true := decide_eq_true hp
 have ho : okG p F := by
  refine ⟨hP, fun j hj => ?_⟩;rw [hFG, List.length_map] at hj;obtain ⟨k1, k2, k3, k4⟩ := zfn hF hf0 h9 hj;rw [hFG, zam];unfold zbu;have hb : bP (zF p (toG (G.getD j (0, 0))).1) = true := zW (zcg hP _ k2);rw [if_pos hb];show (!decide ((1 : Int) <= (((G.getD j (0, 0)).2 : Nat) : Int) ∧ (((G.getD j (0, 0)).2 : Nat) : Int) <= 8)) = false
  rw [decide_eq_true (by omega)]; rfl
 obtain ⟨hp', G', hG', e0, e1⟩ := h.2.2 ho (by rw [hFG, List.length_map]; omega);obtain rfl := zik (hFG.symm.trans hG');have hd := zC (zaQ hF G.length (Nat.le_refl _)) hf0;have hn : ¬ 9 < dg (z8 G G.length) := by omega
 rw [if_neg hn] at e0 e1;exact ⟨e1, e0⟩
theorem zlu {p : Int} [SP p] {f : Poly p} {F : List (Poly p × Nat)} (hF : yg f F) (h2 : 2 <= dg f) : ∃ c : Poly p, c.l = [f.l.getD (f.l.length - 1) 0] ∧ z8 F F.length * c = f ∧ dg c <= 9 := by
 have hf0 : f ≠ 0 := fun e => by rw [e, zq] at h2; omega
 have hl : f.l.getD (f.l.length - 1) 0 = lc f := rfl;have h3 := jS f (dg f - 1);have h4 : lc f ≠ 0 := zlC hf0;have h5 : cf f.l (dg f - 1) = lc f := rfl;have h6 : (con p (lc f)).l = [lc f] := zia (by omega) (by omega);refine ⟨con p (lc f), by rw [hl, h6], ?_, ?_⟩
 ·rw [CR.mul_comm]; exact (zkx hF hf0).symm
 ·show (con p (lc f)).l.length <= 9
  rw [h6]; simp

theorem lawModularFactors {n : Nat} {c : Nat -> Int} (hb : ∀ i, 0 <= c i ∧ c i <= 255) : FnV 7 [vBy n c] (.bool true) := by
 refine zj (za [0, 2, 3, 4, 5, 6, 7, 8, 9, 10, 11, 12, 13, 14, 15, 16, 17, 18, 19, 20, 21, 22, 23, 25, 79, 81, 112, 116, 134, 136, 158]) Tryz.func7 rfl (by decide) Tryz.ntmps7 (Nat.le_of_ble_eq_true rfl) fun base => ?_;refine wrs fun K hK => ?_;conv => whnf
 refine hK _ ?_;clear hK K;refine W.seqK fun K1 hK1 => ?_;refine wrs fun K hK => ?_;conv => whnf
 refine zg rfl (zlX) fun hs' hhs => ?_;try dsimp only at hhs
 conv => whnf
 refine hK _ (W.cond ⟨fun h => ?_, fun h => ?_⟩) <;> clear hK K
 ·refine wrs fun K hK => ?_;conv => whnf
  refine hK _ ?_;clear hK K;refine W.ret ?_;conv => whnf
  exact ⟨.v (.bool true), rfl, trivial, rfl⟩
 have h := of_decide_eq_false h;have hc : Byt n c := ⟨by omega, hb⟩
 refine W.skip (hK1 _ ?_);clear hK1 K1;refine wrs fun K hK => ?_;conv => whnf
 refine yq rfl (kz hc) ?_;rintro lo hi hi' z hl1 hl2 hl3 ⟨p, L, rfl, hp, hL⟩ _;try dsimp only at hl1 hl2
 conv => whnf
 refine hK _ ?_;clear hK K;obtain ⟨G, e1, hS1, hI1, hGl, hGd, hV1⟩ := zb2 p L (by omega);refine wrs fun K hK => ?_;conv => whnf
 refine zg rfl (hI1) fun hs' hhs => ?_;try dsimp only at hhs
 conv => whnf
 refine hK _ ?_;clear hK K;refine wrs fun K hK => ?_;conv => whnf
 refine zg rfl (hS1) fun hs' hhs => ?_;try dsimp only at hhs
 conv => whnf
 refine hK _ ?_;clear hK K;refine wrs fun K hK => ?_;conv => whnf
 refine yq rfl (zbw hc) ?_;rintro lo2 hi2 hi2' z hm1 hm2 hm3 ⟨p2, G2, rfl, hp2, hG2, hF2⟩ _;try dsimp only at hm1 hm2
 conv => whnf
 refine hK _ ?_;clear hK K;obtain ⟨R, e2, hS2, hI2, hRl, _⟩ := zbT p2 G2 (by omega) (fun j => Nat.le_trans (hF2.len j) (by omega));refine wrs fun K hK => ?_;conv => whnf
 refine zg rfl (RT.toV hI2) fun hs' hhs => ?_;try dsimp only at hhs
 conv => whnf
 refine hK _ ?_;clear hK K;refine wrs fun K hK => ?_;conv => whnf
 refine zg rfl (hS2) fun hs' hhs => ?_;try dsimp only at hhs
 conv => whnf
 refine hK _ ?_;clear hK K;refine W.seqK fun K1 hK1 => ?_;refine wrs fun K hK => ?_;conv => whnf
 refine ⟨fun hc0 => absurd hc0 (by simp), fun _ => ?_⟩;conv => whnf
 refine zg rfl (zbx G (by omega) (fun j => Nat.le_trans (hGd j) (by omega))) fun hs' hhs => ?_;try dsimp only at hhs
 conv => whnf
 refine ⟨fun hc0 => absurd hc0 (by simp), fun _ => ?_⟩;conv => whnf
 refine zg rfl (v8 _ _ R (by omega)) fun hs' hhs => ?_;try dsimp only at hhs
 conv => whnf
 refine hK _ (W.condF rfl (W.skip (hK1 _ ?_)));clear hK K hK1 K1;refine W.seqK fun K1 hK1 => ?_;refine wrs fun K hK => ?_;conv => whnf
 refine hK _ (W.cond ⟨fun hz => ?_, fun hz => ?_⟩) <;> clear hK K
 ·refine wrs fun K hK => ?_;conv => whnf
  refine hK _ ?_;clear hK K;refine W.ret ?_;conv => whnf
  exact ⟨.v (.bool true), rfl, trivial, rfl⟩
 have hz : e1 = 0 := Decidable.of_not_not (of_decide_eq_false hz);refine W.skip (hK1 _ ?_);clear hK1 K1;obtain ⟨hpp, f, F, rfl, h2, hm, hF, rfl⟩ := hV1 hz;letI := xw hpp;have h9 : dg f <= 9 := hm.2.1;have hfl : f.l.length = dg f := rfl;have hf0 : f ≠ 0 := fun e => by rw [e, zq] at h2; omega
 obtain ⟨Z, e3, _, hI3, _, hV3⟩ := zbT p (F.map toG) (by omega) (fun j => Nat.le_trans (hGd j) (by omega));obtain ⟨rfl, rfl⟩ := hV3 hpp f F rfl hF h2 h9;obtain ⟨cc, hcl, hcm, hc9⟩ := zlu hF h2;have hP := hm.1;have hpd := zC (zaQ hF F.length (Nat.le_refl _)) hf0;refine wrs fun K hK => ?_;conv => whnf
 refine zg rfl (RT.toV hI3) fun hs' hhs => ?_;try dsimp only at hhs
 conv => whnf
 refine hK _ ?_;clear hK K;refine wrs fun K hK => ?_;conv => whnf
 refine ⟨oo, ?_⟩;conv => whnf
 refine ⟨oo, ?_⟩;conv => whnf
 refine ⟨⟨rfl, by decide⟩, ?_⟩;conv => whnf
 intro b_4 hs_4 hh_4 hf_4;try dsimp only at hh_4 hf_4
 conv => whnf
 rw [show ((f.l.length : Int) - 1).toNat = f.l.length - 1 by omega, <- hcl];refine zg rfl (zan p _ _ (z8 F F.length) cc (zcg hP _ (by omega)) (zcg hP _ hc9) (by rw [hcm]; exact h9)) fun hs' hhs => ?_;try dsimp only at hhs
 conv => whnf
 rw [hcm];refine hK _ ?_;clear hK K;refine W.seqK fun K1 hK1 => ?_;refine wrs fun K hK => ?_;conv => whnf
 refine ⟨fun hc0 => absurd hc0 (by simp), fun _ => ?_⟩;conv => whnf
 refine ⟨fun hc0 => absurd hc0 (by simp), fun _ => ?_⟩;conv => whnf
 refine zg rfl (v8 _ _ f.l (by omega)) fun hs' hhs => ?_;try dsimp only at hhs
 conv => whnf
 refine hK _ (W.condF rfl (W.skip (hK1 _ ?_)));clear hK K hK1 K1;have hGd : ∀ j, j < F.length -> Irr (F.getD j (0, 0)).1 ∧ dg (F.getD j (0, 0)).1 <= 9 ∧ 1 <= (F.getD j (0, 0)).2 ∧ (F.getD j (0, 0)).2 <= 8 := fun j hj => zfn hF hf0 h9 hj;have hGm : ∀ j, j < F.length -> zF p (F.getD j (0, 0)).1.l := fun j hj => zcg hP _ (hGd j hj).2.1;rw [<- zaX];have hFl := hF.facs.few hf0;refine W.seqK fun K1 hK1 => ?_;refine wrs fun K hK => ?_;conv => whnf
 refine hK _ (W.block (W.invA (fun m e => ∃ i : Nat, i <= F.length ∧ m = F.length - i ∧ e = [(3, .v (.int .i64 p)), (5, .v (vFs F)), (19, .v (.int .i64 i))]) ⟨0, Nat.zero_le _, rfl, rfl⟩ ?_));clear hK K;rintro m e ⟨i, hi, hm', rfl⟩;refine W.seqK fun K7 hK7 => wrs fun K hK => ?_;conv => whnf
 refine hK _ (W.cond ⟨fun h3 => ?_, fun h3 => ?_⟩) <;> clear hK K <;> (first | replace h3 := of_decide_eq_true h3 | replace h3 := of_decide_eq_false h3)
 ·have hlt : i < F.length := by omega
  obtain ⟨k1, k2, k3, k4⟩ := hGd i hlt;refine W.skip (hK7 _ ?_);clear hK7 K7;refine W.seqK fun K8 hK8 => W.block ?_;refine wrs fun K hK => ?_;conv => whnf
  refine ⟨oo, ?_⟩;conv => whnf
  rw [Int.toNat_natCast];refine zg rfl (zbv p none (F.getD i (0, 0)).1 (hGm i hlt) k1.1) fun hs' hhs => ?_;try dsimp only at hhs
  conv => whnf
  rw [zW k1];refine hK _ ?_;clear hK K;refine W.seqK fun K5 hK5 => ?_;refine wrs fun K hK => ?_;conv => whnf
  refine ⟨fun hc0 => absurd hc0 (by simp), fun _ => ?_⟩;conv => whnf
  refine hK _ (W.cond ⟨fun hcc => absurd hcc (by simp), fun _ => W.skip (hK5 _ ?_)⟩);clear hK K hK5 K5;refine wrs fun K hK => ?_;conv => whnf
  refine hK _ (W.cond ⟨fun h5 => ?_, fun h5 => ?_⟩) <;> clear hK K
  ·have h5 := of_decide_eq_true h5;obtain ⟨j, rfl⟩ : ∃ j, i = j + 1 := ⟨i - 1, by omega⟩
   have hlt2 : ltP (F.getD j (0, 0)).1 (F.getD (j + 1) (0, 0)).1 := by
    have := List.pairwise_iff_getElem.1 hF.1 j (j + 1) (by omega) hlt (by omega);rw [xP (show j < F.length by omega), xP hlt];exact this
   have hcmp := (zaS _ _).2 hlt2;have ej : (((j + 1 : Nat) : Int) - 1).toNat = j := by omega
   have hCmp : FnV 40 [.int .i64 p, .ints none (F.getD (((j + 1 : Nat) : Int) - 1).toNat (0, 0)).1.l, .ints none (F.getD ((j + 1 : Nat) : Int).toNat (0, 0)).1.l] (.tup [.int .i64 (xL (F.getD j (0, 0)).1.l (F.getD (j + 1) (0, 0)).1.l), .int .i64 0]) := by
    rw [ej];exact jX p none none (F.getD j (0, 0)).1.l (F.getD (j + 1) (0, 0)).1.l (hGm j (by omega)) (hGm _ hlt)
   refine W.rgh follows fun K hK => ?_;refine Wgh.take (za []) 0 (by rfl) (fun d hd => by injection hd with hd; subst hd; decide) (by kernel_rfl) (by kernel_rfl) (by rfl) ?_;conv => whnf
   refine Wgh.take (za []) 1 (by rfl) (fun d hd => by injection hd with hd; subst hd; decide) (by kernel_rfl) (by kernel_rfl) (by rfl) ?_;conv => whnf
   refine Wgh.take (za []) 2 (by rfl) (fun d hd => by injection hd with hd; subst hd; decide) (by kernel_rfl) (by kernel_rfl) (by rfl) ?_;conv => whnf
   refine Wgh.take (za []) 3 (by rfl) (fun d hd => by injection hd with hd; subst hd; decide) (by kernel_rfl) (by kernel_rfl) (by rfl) ?_;conv => whnf
   refine ⟨oo, ?_⟩;conv => whnf
   refine Wgh.take (za []) 4 (by rfl) (fun d hd => by injection hd with hd; subst hd; decide) (by kernel_rfl) (by kernel_rfl) (by rfl) ?_;conv => whnf
   refine ⟨oo, ?_⟩;conv => whnf
   refine Wgh.take (za []) 5 (by rfl) (fun d hd => by injection hd with hd; subst hd; decide) (by kernel_rfl) (by kernel_rfl) (by rfl) ?_;conv => whnf
   refine Wgh.take (za []) 6 (by rfl) (fun d hd => by injection hd with hd; subst hd; decide) (by kernel_rfl) (by kernel_rfl) (by rfl) ?_;conv => whnf
   refine Wgh.take (za []) 7 (by rfl) (fun d hd => by injection hd with hd; subst hd; decide) (by kernel_rfl) (by kernel_rfl) (by rfl) ?_;conv => whnf
   refine Wgh.take (za []) 8 (by rfl) (fun d hd => by injection hd with hd; subst hd; decide) (by kernel_rfl) (by kernel_rfl) (by rfl) ?_;conv => whnf
   refine Wgh.take (za []) 9 (by rfl) (fun d hd => by injection hd with hd; subst hd; decide) (by kernel_rfl) (by kernel_rfl) (by rfl) ?_;conv => whnf
   refine ⟨oo, ?_⟩;conv => whnf
   refine Wgh.take (za []) 10 (by rfl) (fun d hd => by injection hd with hd; subst hd; decide) (by kernel_rfl) (by kernel_rfl) (by rfl) ?_;conv => whnf
   refine Wgh.take (za []) 11 (by rfl) (fun d hd => by injection hd with hd; subst hd; decide) (by kernel_rfl) (by kernel_rfl) (by rfl) ?_;conv => whnf
   refine Wgh.one (za []) 12 [] (by rfl) (by kernel_rfl) (by kernel_rfl) (by kernel_rfl) (by rfl) (by kernel_rfl) ⟨(by (conv => whnf); exact ⟨Nat.le_refl _, rfl⟩), (by (conv => whnf); exact ⟨Nat.le_refl _, rfl⟩), (by (conv => whnf); refine ⟨by first | assumption | omega | exact ⟨by omega, by omega⟩, ?_⟩; (conv => whnf); exact ⟨Nat.le_refl _, rfl⟩), (by (conv => whnf); exact ⟨Nat.le_refl _, rfl⟩), (by (conv => whnf); exact ⟨Nat.le_refl _, rfl⟩), (by (conv => whnf); exact ⟨Nat.le_refl _, rfl⟩), (by (conv => whnf); exact ⟨Nat.le_refl _, rfl⟩), (by (conv => whnf); refine ⟨by first | assumption | omega | exact ⟨by omega, by omega⟩, ?_⟩; (conv => whnf); exact ⟨Nat.le_refl _, rfl⟩), (by (conv => whnf); refine ⟨by first | assumption | omega | exact ⟨by omega, by omega⟩, ?_⟩; (conv => whnf); exact ⟨Nat.le_refl _, rfl⟩), (by (conv => whnf); exact ⟨Nat.le_refl _, rfl⟩), (by (conv => whnf); exact ⟨Nat.le_refl _, rfl⟩), (by (conv => whnf); exact ⟨Nat.le_refl _, rfl⟩), trivial⟩ ?_;conv => whnf
   refine zg rfl (hCmp) fun hs' hhs => ?_;try dsimp only at hhs
   conv => whnf
   refine Wgh.take (za []) 13 (by rfl) (fun d hd => by injection hd with hd; subst hd; decide) (by kernel_rfl) (by kernel_rfl) (by rfl) ?_;conv => whnf
   refine Wgh.take (za []) 14 (by rfl) (fun d hd => by injection hd with hd; subst hd; decide) (by kernel_rfl) (by kernel_rfl) (by rfl) ?_;conv => whnf
   refine Wgh.take (za []) 15 (by rfl) (fun d hd => by injection hd with hd; subst hd; decide) (by kernel_rfl) (by kernel_rfl) (by rfl) ?_;conv => whnf
   refine Wgh.one (za []) 16 [15] (by rfl) (by kernel_rfl) (by kernel_rfl) (by kernel_rfl) (by rfl) (by kernel_rfl) ⟨(by (conv => whnf); exact ⟨Nat.le_refl _, rfl⟩), (by (conv => whnf); exact ⟨Nat.le_refl _, rfl⟩), (by (conv => whnf); exact ⟨Nat.le_refl _, rfl⟩), trivial⟩ ?_;conv => whnf
   refine Wgh.one (za []) 17 [] (by rfl) (by kernel_rfl) (by kernel_rfl) (by kernel_rfl) (by rfl) (by kernel_rfl) ⟨(by (conv => whnf); exact ⟨Nat.le_refl _, rfl⟩), trivial⟩ ?_;conv => whnf
   refine Wgh.done (za []) (by rfl) (by kernel_rfl) (by kernel_rfl) (by kernel_rfl) trivial (hK _ ?_);clear hK K;refine wrs fun K hK => ?_;conv => whnf
   refine ⟨fun hc0 => absurd hc0 (by simp), fun _ => ?_⟩;conv => whnf
   refine hK _ (W.cond ⟨fun hcc => absurd (of_decide_eq_true hcc) (by omega), fun _ => W.skip (hK8 _ ?_)⟩);clear hK K hK8 K8;refine wrg ?_;conv => whnf
   refine ⟨oo, ?_⟩;conv => whnf
   exact zm ⟨j + 1 + 1, by omega, rfl, rfl⟩
  ·refine W.skip (hK8 _ ?_);clear hK8 K8;refine wrg ?_;conv => whnf
   refine ⟨oo, ?_⟩;conv => whnf
   exact zm ⟨i + 1, by omega, rfl, rfl⟩
 ·refine W.exit (hK1 _ ?_);clear hK7 K7 hK1 K1;refine wrs fun K hK => ?_;conv => whnf
  refine hK _ ?_;clear hK K;refine W.ret ?_;conv => whnf
  exact ⟨.v (.bool true), rfl, trivial, rfl⟩

open Go Go.RowKit Go.ChangeShapes Go.WideShapes Go.ChangeAt Go.Proofs Go.Proofs.YtlmckocbhcpmdaaGreat

set_option maxRecDepth 100000 in
theorem liftedModularFactors (H : Type) (enc : TypeId × Value -> H) (os : Os) (started : os.Started) :
  ReturnsInHanded {} Tryz.checked os 7 .any (Rows.fnModularFactorsSpec.pre6 enc Tryz.prog Tryz.f7 Rows.fnModularFactorsRow.domain false) (Rows.fnModularFactorsSpec.post enc Tryz.prog Tryz.f7 false true false false) := by
 refine zg8 (C := Tryz.checked) (tb := 4) ownP started (by kernel_rfl) Tryz.func7 zkO ?_ rfl (by kernel_rfl) Tryz.underlying4 ?_
  (ChangeSpec.witness6 (enc := enc) (C := Tryz.checked) false ⟨#[], #[.slice none 0 0], []⟩ 8 (by kernel_rfl) (by kernel_rfl) (by kernel_rfl) (by kernel_rfl)) ?_
 ·rw [Tryz.params7];intro t ht;simp only [List.mem_singleton] at ht
  subst ht;exact ⟨by kernel_rfl, of_decide_eq_true (by kernel_rfl)⟩
 ·intro ds hds
  match ds, hds with
  | [d0], _ => exact ⟨rfl, rfl, rfl⟩
 ·intro W args ds ps hval hA;have hval' : ∀ (j : Nat) t v, Tryz.f7.params[j]? = some t -> args[j]? = some v -> ∃ base, Value.okWide Tryz.prog W .any base t v := hval;rw [Tryz.params7] at hA hval';obtain ⟨v0, d0, hv, rfl, h0⟩ := trodAll_one hA;subst hv;obtain ⟨_, hv0⟩ := hval' 0 22 v0 rfl rfl;obtain ⟨a0, len0, cap0, rfl⟩ := okWide_slice Tryz.underlying22 hv0;obtain ⟨x0, hx0, hr0⟩ := zjT zhF h0 (by simp);obtain ⟨n, c, hb, _, hr⟩ := zkQ hx0;refine zkR (lawModularFactors (n := n) (c := c) hb) rfl fun j hj => ?_;obtain rfl : j = 0 := by simpa using hj
  exact hr _ _ _ hr0

theorem joinedModularFactorsa : (Rows.fnModularFactorsRow.inPlace == Tryz.checked.prog.inPlace 7) = true := by kernel_rfl
theorem joinedModularFactorsb : (Rows.fnModularFactorsRow.unfollowed == Tryz.checked.prog.unfollowed 7) = true := by kernel_rfl
theorem joinedModularFactorsc : (Rows.fnModularFactorsRow.recurses == Tryz.checked.prog.recurses 7) = true := by kernel_rfl
theorem joinedModularFactorsd : (Rows.fnModularFactorsRow.named == Tryz.checked.prog.varsNamed 7) = true := by kernel_rfl
theorem joinedModularFactors : joinedFacts Tryz.checked.prog 7 Tryz.f7 Rows.fnModularFactorsSpec Rows.fnModularFactorsRow = true := by
 unfold joinedFacts;rw [zl7, zmu, zmv, joinedModularFactorsa, joinedModularFactorsb, joinedModularFactorsc, joinedModularFactorsd]
 kernel_rfl
theorem instModularFactors : Tryz.f7.isInstance Tryz.checked.prog Rows.fnModularFactorsRow.origin Rows.fnModularFactorsRow.targs := of_decide_eq_true (by kernel_rfl)

theorem claimModularFactors : Rows.FnModularFactorsSaid :=
 OpenClaim.holds_of_wide (p := Tryz.pinned) (s := Rows.fnModularFactorsSpec) (c := Rows.fnModularFactorsRow) 7 Tryz.f7 rfl rfl rfl rfl rfl rfl rfl ⟨rfl, rfl, rfl, rfl, rfl⟩ rfl rfl rfl rfl rfl (by kernel_rfl) Tryz.func7 joinedModularFactors
  instModularFactors (by unfold Func.isWrapper; first | (rw [if_pos (by decide +kernel)]; kernel_rfl) | (rw [if_neg (by decide +kernel)]; exact ⟨rfl, rfl⟩))
  (fun os started H enc _ => liftedModularFactors H enc os started)

end Go.Proofs.YtlmckocbhcpmdaaGreat
