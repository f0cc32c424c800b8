/- What the program's functions and the reference's return. No conditions. -/
import Derived.Test.YtffhmebkkbfaeaaGreatPf
import Derived.Test.YtffhmebkkbfaeaaGreatPg
namespace Go.Proofs.YtffhmebkkbfaeaaGreat
open Go Go.RowKit Go.Proofs

theorem ziA (x : Int) (h0 : 0 <= x) (h1 : x <= 9223372036854775807) : Fn Tryz.prog 226 [.int .u64 x] (λ_ _ a => ∃ r : Int, a = .v (.int .i64 r)) := by
 refine ⟨⟨_, Tryz.func226, rfl, by decide⟩, λD w vs hD hsz hrep => ?_⟩
 obtain ⟨v, rfl⟩ : ∃ v, vs = #[v] := by
  refine ⟨vs.getD 0 undef, Array.ext (by simpa using hsz) λi h1 h2 => ?_⟩;obtain rfl : i = 0 := by simpa using h2
  simp [Array.getD, h1]
 have hv := zU (hrep 0 (by simp));have hv : v = .int .u64 x := hv;subst hv;refine (bitsLen_calls x w h0 (by omega)).mono ?_;rintro e w' ⟨rfl, rfl⟩;refine ⟨_, .v (.int .i64 (Lib.bitLen x.toNat)), w'.heap.size, rfl, Nat.le_refl _, ⟨_, rfl⟩, ?_, rfl, .int _ _, λb hb => hb.elim⟩;exact Below.refl _ _

open Go Go.RowKit Go.Proofs Poly
set_option maxRecDepth 100000
set_option maxHeartbeats 8000000

variable {p : Int} [SP p]
theorem ziB (bk n : Nat) (lim : Int) (h0 : Nat -> Poly p × Nat) (hn : n <= 12) (hd : ∀ i, i < n -> dg (h0 i).1 <= 1000000) (hdis : ∀ i j, i < n -> j < n -> (h0 i).1 = (h0 j).1 -> i = j) :
  MFn Tryz.prog 225 [.nil, .int .i64 0, .int .i64 n, .int .i64 lim, .func 210 []] 0 (.ownV 145 2 bk n λj => vF (h0 j)) .dead
   (λ_ av x' t' => av = .v (.tup []) ∧ t' = .dead ∧ ∃ h : Nat -> Poly p × Nat, Mix n h0 h ∧ Ord h n ∧ x' = .ownV 145 2 bk n λj => vF (h j)) := by
 refine zbE (cx := cx [0, 1, 2, 3, 4, 10, 11, 12, 13, 14, 15, 16, 17, 18, 19, 20, 25, 32, 39, 56, 75, 80, 97, 125, 1000000, 1000001]) Tryz.func225 rfl (by decide) Tryz.ntmps225 (lb rfl) (lb rfl) rfl rfl λbase hs0 O U hw v0 hb0 => ?_;refine wrs λK hK => ?_;conv=>whnf
 refine hK _ (wrs λK hK => ?_);conv=>whnf
 refine hK _ (W.block (W.invH hs0 hb0 (λm e => m = 0 ∧ e = [(0, .ownV 145 2 bk n λj => vF (h0 j)), (1, .v (.int .i64 0)), (2, .v (.int .i64 n)), (3, .v (.int .i64 lim)), (4, .v (.func 210 [])), (vt, .dead), (vk, .keep O U hw 0 v0)]) _ _ (⟨rfl, rfl⟩) (by dsimp only; omega) (by repeat' first | refine And.intro ?_ ?_ | exact trivial | rfl | omega | exact .inl rfl | exact λ_ _ => rfl | exact λ_ _ h => h | assumption | exact λi hi => (by obtain rfl : i = 0 := (by omega); rfl)) ?_));clear hK;rintro m e ⟨rfl, rfl⟩;refine W.block ?_;refine wrs λK hK => ?_;conv=>whnf
 refine ⟨oo, ?_⟩;conv=>whnf
 refine hK _ (W.seqK λK1 hK1 => wrs λK hK => ?_);conv=>whnf
 refine hK _ (W.cond ⟨λh => ?_, λh => ?_⟩) <;> clear hK
 ·refine wrs λK hK => ?_;conv=>whnf
  refine ⟨⟨rfl, rfl⟩, ?_⟩;conv=>whnf
  refine ⟨rfl, _, zbR bk n h0 (by omega) hd hdis, ?_⟩;rintro hs' av x' t' hh ⟨rfl, rfl, h, hM, hO, rfl⟩ _ _ _;conv=>whnf
  refine hK _ (W.ret ?_);conv=>whnf
  refine ⟨by dsimp only; omega, ?_⟩;conv=>whnf
  exact ⟨.ownV 145 2 bk n λj => vF (h j), ⟨rfl, rfl, rfl, rfl, λ_ _ => rfl⟩, .inr ⟨rfl, rfl⟩, .dead, trivial, rfl, rfl, rfl, rfl, h, hM, hO, rfl⟩
 ·exact absurd (of_decide_eq_false h) (by omega)

theorem zht (bk n : Nat) (h0 : Nat -> Poly p × Nat) (hn : n <= 12) (hd : ∀ i, i < n -> dg (h0 i).1 <= 1000000) (hdis : ∀ i j, i < n -> j < n -> (h0 i).1 = (h0 j).1 -> i = j) :
  MFn Tryz.prog 209 [.nil, .func 210 []] 0 (.ownV 145 2 bk n λj => vF (h0 j)) .dead
   (λ_ av x' t' => av = .v (.tup []) ∧ t' = .dead ∧ ∃ h : Nat -> Poly p × Nat, Mix n h0 h ∧ Ord h n ∧ x' = .ownV 145 2 bk n λj => vF (h j)) := by
 refine zbE (cx := cx [0, 1, 4, 1000000, 1000001]) Tryz.func209 rfl (by decide) Tryz.ntmps209 (lb rfl) (lb rfl) rfl rfl λbase hs0 O U hw v0 hb0 => ?_;refine wrs λK hK => ?_;conv=>whnf
 refine hK _ ?_;clear hK;refine wrg ?_;conv=>whnf
 refine ⟨⟨by omega, by constructor <;> omega⟩, ?_⟩;conv=>whnf
 refine yT rfl (ziA n (by omega) (by omega)) ?_;rintro lo hi hi' z h1 h2 h3 ⟨r, rfl⟩ _;try dsimp only at h1
 conv=>whnf
 refine ⟨⟨rfl, rfl⟩, ?_⟩;conv=>whnf
 refine ⟨rfl, _, ziB bk n r h0 hn hd hdis, ?_⟩;rintro hs' av x' t' hh ⟨rfl, rfl, h, hM, hO, rfl⟩ _ _ _;conv=>whnf
 refine ⟨by dsimp only; omega, ?_⟩;conv=>whnf
 exact ⟨.ownV 145 2 bk n λj => vF (h j), ⟨rfl, rfl, rfl, rfl, λ_ _ => rfl⟩, .inr ⟨rfl, rfl⟩, .dead, trivial, rfl, rfl, rfl, rfl, h, hM, hO, rfl⟩


def vFs {p : Int} [SP p] (F : List (Poly p × Nat)) : V := .vals none 2 F.length λj => vF (F.getD j (0, 0))

theorem zjn (g : Option Nat) (xs : List Int) : FnV 136 [.ints g xs] (.int .i64 xs.length) := by
 refine zf (za [0, 2]) Tryz.func136 rfl (by decide) Tryz.ntmps136 (lb rfl) λbase => ?_;refine wrs λK hK => ?_;conv=>whnf
 refine hK _ (wrs λK hK => ?_);conv=>whnf
 refine hK _ (W.ret ?_);conv=>whnf
 exact ⟨.v (.int .i64 xs.length), ⟨rfl, rfl⟩, trivial, rfl⟩

theorem zhu {p : Int} [SP p] {f : Poly p} {G : List (Poly p × Nat)} (hG : jm f G) {h : Nat -> Poly p × Nat} (hM : Mix G.length (λj => G.getD j (0, 0)) h) (hO : Ord h G.length) :
  FacOf f ((List.range G.length).map h) := by
 refine ⟨?_, λx => ?_⟩
 ·rw [List.pairwise_map];exact List.pairwise_lt_range.imp_of_mem (λ{a b} ha hb hab => hO a b hab (List.mem_range.1 hb))
 ·rw [<- hG.2, List.mem_map]
  constructor
  ·rintro ⟨i, hi, rfl⟩;obtain ⟨j, hj, e⟩ := (hM.mem (h i)).1 ⟨i, List.mem_range.1 hi, rfl⟩;have e : G.getD j (0, 0) = h i := e;rw [<- e, List.getD_eq_getElem?_getD, List.getElem?_eq_getElem hj];exact List.getElem_mem hj
  ·intro hx;obtain ⟨j, hj, e⟩ := List.getElem_of_mem hx;obtain ⟨i, hi, e'⟩ := (hM.mem x).2 ⟨j, hj, by show G.getD j (0, 0) = x; rw [List.getD_eq_getElem?_getD, List.getElem?_eq_getElem hj]; exact e⟩;exact ⟨i, List.mem_range.2 hi, e'⟩
theorem zl1 {p : Int} [SP p] {f : Poly p} {G : List (Poly p × Nat)} (hG : jm f G) : ∀ i j, i < G.length -> j < G.length -> (G.getD i (0, 0)).1 = (G.getD j (0, 0)).1 -> i = j := by
 intro i j hi hj e;have h1 := zaE hG.1 (i := i) (j := j) (by simpa using hi) (by simpa using hj);refine h1 ?_;simp only [List.getD_eq_getElem?_getD, List.getElem?_map, List.getElem?_eq_getElem hi, List.getElem?_eq_getElem hj] at e ⊢
 exact e
theorem zdW {α : Type} (h : Nat -> α) (d : α) {n i : Nat} (hi : i < n) : ((List.range n).map h).getD i d = h i := by
 simp [List.getD_eq_getElem?_getD, hi]

theorem zch {α : Type} {d x : α} {L : List α} {j : Nat} (h : j < L.length) : (L ++ [x]).getD j d = L.getD j d := by rw [zbK, if_pos h]
theorem zci {α : Type} {d x : α} {L : List α} : (L ++ [x]).getD (L.length + 0) d = x := by rw [Nat.add_zero, zbK, if_neg (by omega), if_pos rfl]

theorem zbg (p : Int) [SP p] : ∀ (d : Nat) (g : Option Nat) (f : Poly p), dg f <= d -> d <= 13 -> f ≠ 0 -> Fn Tryz.prog 175 [.int .i64 p, .ints g f.l] (λ_ _ z => ∃ F, FacOf f F ∧ z = .v (vFs F))
 | 0, g, f, hd, _, hf0 => absurd (zd.1 (by omega)) hf0
 | d + 1, g, f, hd, hd13, hf0 => by
  have ih := zbg p d;have hp := Pr.two (p := p);have hp2 := SP.le (p := p);have hm := v9 hf0;have hmd : dg (mnc f) <= dg f := zD (z2 f).1 hf0;generalize hr0 : mnc f = r0 at hm hmd;have hrl : r0.l.length = dg r0 := rfl;refine zf (za [0, 1, 4, 5, 6, 7, 8, 11, 12, 13, 14, 15, 16, 18, 28, 41, 42, 43, 44, 58, 78, 82, 95, 96, 97, 98]) Tryz.func175 rfl (by decide) Tryz.ntmps175 (lb rfl) λbase => ?_;refine wrs λK hK => ?_;conv=>whnf
  refine hK _ (wrs λK hK => ?_);conv=>whnf
  refine hK _ (wrs λK hK => ?_);conv=>whnf
  refine zv rfl (zhq p g f (by omega)) λhs_1 b_1 hh_1 hf_1 => ?_;try dsimp only at hh_1 hf_1
  conv=>whnf
  rw [hr0];refine hK _ ?_;clear hK;refine W.seqK λK1 hK1 => ?_
  -- what is left, and the factors found
  have fin : ∀ (r : Poly p) (L : List (Poly p × Nat)) (bL : Nat) (s : S), Mon r -> dg r <= dg r0 -> der r = 0 -> L.length <= 12 -> (∀ F, jm r F -> jm r0 (L ++ F)) -> base <= s.hs ->
    zB s.env [(0, .v (.int .i64 p)), (4, .v .nil), (5, .ownV 145 2 bL L.length λj => vF (L.getD j (0, 0))), (6, .v (.ints none r.l))] -> K1 s := by
   intro r L bL s hrm hrd hder hL12 hfac h5 h6;refine hK1 _ (W.weak (t := ⟨[(0, .v (.int .i64 p)), (4, .v .nil), (5, .ownV 145 2 bL L.length λj => vF (L.getD j (0, 0))), (6, .v (.ints none r.l))], base⟩) ⟨h5, h6⟩ (Nat.le_refl _) ?_);clear hK1 h5 h6 s;have hrl : r.l.length = dg r := rfl;have hr1 : dg r ≠ 0 := λe => hrm.1 (zd.1 e);refine W.seqK λK1 hK1 => ?_
   -- the end: all factors are in the list
   have fin2 : ∀ (G : List (Poly p × Nat)) (bG : Nat) (s : S), jm r0 G -> base <= s.hs -> zB s.env [(0, .v (.int .i64 p)), (4, .v .nil), (5, .ownV 145 2 bG G.length λj => vF (G.getD j (0, 0)))] -> K1 s := by
    intro G bG s hG h5 h6;refine hK1 _ (W.weak (t := ⟨[(0, .v (.int .i64 p)), (4, .v .nil), (5, .ownV 145 2 bG G.length λj => vF (G.getD j (0, 0)))], base⟩) ⟨h5, h6⟩ (Nat.le_refl _) ?_);clear hK1 h5 h6 s;have hfew := hG.few hm.1;refine wrs λK hK => ?_;conv=>whnf
    refine ⟨⟨rfl, rfl⟩, ?_⟩;conv=>whnf
    refine ⟨rfl, _, zht bG G.length (λj => G.getD j (0, 0)) (by omega) (λi hi => ?_) (zl1 hG), ?_⟩
    ·have h7 : G.getD i (0, 0) ∈ G := by rw [List.getD_eq_getElem?_getD, List.getElem?_eq_getElem hi]; exact List.getElem_mem hi
     obtain ⟨a1, a2, a3, a4⟩ := (hG.2 _).1 h7;have := zD (a4.dvd a3) hm.1;show dg (G.getD i (0, 0)).1 <= 1000000
     omega
    rintro hs' av x' t' hh ⟨rfl, rfl, h, hM, hO, rfl⟩ _ _ _;try dsimp only at hh
    conv=>whnf
    refine hK _ (wrs λK hK => ?_);conv=>whnf
    refine hK _ (W.ret ?_);conv=>whnf
    exact ⟨.v (vFs ((List.range G.length).map h)), ⟨rfl, rfl, by simp, λi hi => congrArg vF (zdW h (0, 0) hi).symm⟩, ⟨trivial, λ_ _ => ⟨trivial, trivial, trivial⟩⟩, _, zhu (jm.mnc hf0 (hr0 ▸ hG)) hM hO, rfl⟩
   clear hK1;refine wrs λK hK => ?_;conv=>whnf
   rw [hrl];refine hK _ (W.cond ⟨λh7 => ?_, λh7 => ?_⟩) <;> clear hK
   ·have h7 := of_decide_eq_true h7;refine wrs λK hK => ?_;conv=>whnf
    refine hK _ (W.seqK λK3 hK3 => wrs λK hK => ?_);conv=>whnf
    refine hK _ (W.block (W.invE (λm e => ∃ (k bR : Nat), (m = dg r + p.toNat - k * p.toNat) ∧ k * p.toNat < dg r + p.toNat ∧ e = [(0, .v (.int .i64 p)), (4, .v .nil), (5, .ownV 145 2 bL L.length λj => vF (L.getD j (0, 0))), (6, .v (.ints none r.l)), (15, .ownI 2 bR (mkL k λi => cf r.l (i * p.toNat))), (16, .v (.int .i64 ((k * p.toNat : Nat) : Int)))]) _ _ ⟨0, 0, rfl, by omega, rfl⟩ (by dsimp only; omega) (by repeat' first | refine And.intro ?_ ?_ | exact trivial | rfl | omega | assumption | exact .inl rfl | exact .inr rfl | exact λ_ _ => rfl) ?_));clear hK;rintro m e ⟨k, bR, hm', hk, rfl⟩;have hpn : ((p.toNat : Nat) : Int) = p := by omega
    have hk1 : (k + 1) * p.toNat = k * p.toNat + p.toNat := Nat.succ_mul _ _;have hk2 : (((k + 1) * p.toNat : Nat) : Int) = ((k * p.toNat : Nat) : Int) + p := by omega
    have hcfk : cf r.l (k * p.toNat) = cf r.l (k * p.toNat) := rfl;generalize hkp : k * p.toNat = kp at hm' hk hk1 hk2 hcfk;refine W.seqK λK7 hK7 => wrs λK hK => ?_;conv=>whnf
    refine zc rfl (zjn none r.l) λhs' hhs => ?_;try dsimp only at hhs
    conv=>whnf
    rw [hrl];refine hK _ (W.cond ⟨λh8 => ?_, λh8 => ?_⟩) <;> clear hK
    ·have h8 := of_decide_eq_true h8;refine W.skip (hK7 _ ?_);clear hK7;refine W.seqK λK8 hK8 => W.block ?_;refine wrg ?_;conv=>whnf
     refine ⟨oo, ?_⟩;conv=>whnf
     rw [Int.toNat_natCast];have hkk : k <= kp := by rw [<- hkp]; exact Nat.le_mul_of_pos_right k (by omega)
     have hml : (mkL k λi => cf r.l (i * p.toNat)).length = k := zT _ _;have hms : mkL (k + 1) (λi => cf r.l (i * p.toNat)) = mkL k (λi => cf r.l (i * p.toNat)) ++ [r.l.getD kp 0] := by rw [za6, hkp]; rfl
     refine ⟨⟨rfl, by decide⟩, ?_⟩;conv=>whnf
     intro b_4 hs_4 hh_4 hf_4;try dsimp only at hh_4 hf_4
     conv=>whnf
     refine ⟨by dsimp only [List.length]; omega, ?_⟩;conv=>whnf
     intro b_6 hs_6 hh_6 hf_6;try dsimp only at hh_6 hf_6
     conv=>whnf
     refine hK8 _ ?_;clear hK8;refine wrg ?_;conv=>whnf
     refine ⟨oo, ?_⟩;conv=>whnf
     refine ⟨_, _, ⟨k + 1, b_6, rfl, by omega, rfl⟩, by omega, by dsimp only; omega, ?_⟩;rw [hms];exact cvr
    ·have h8 := of_decide_eq_false h8;obtain ⟨R, hR1, hR2, hR3, hR4, hR5⟩ := zeW (f := r) hrm hder (l := mkL k λi => cf r.l (i * p.toNat)) (n := k) (zT _ _) (λi hi => by rw [xA, if_pos hi]) (by omega) (by omega);rw [<- hR1];have hRf0 := hR2.1;have hRd := hR5 (by omega);refine W.exit (hK3 _ ?_);clear hK7 hK3;refine wrs λK hK => ?_;conv=>whnf
     refine yT rfl (ih _ R (by omega) (by omega) hRf0) ?_;rintro lo hi hi' z hl1 hl2 hl3 ⟨F, hF, rfl⟩ _;try dsimp only at hl1 hl2
     have hFf := hF.facs.few hRf0;have hG := hfac _ (jm.up hRf0 (n := p.toNat) (by omega) hR3 hF.facs);have hGl := hG.few hm.1;conv=>whnf
     refine hK _ (W.block (W.invE (λm e => ∃ (j bG : Nat), j <= F.length ∧ m = F.length - j ∧ e = [(0, .v (.int .i64 p)), (4, .v .nil), (5, .ownV 145 2 bG (L ++ (up p.toNat F).take j).length λi => vF ((L ++ (up p.toNat F).take j).getD i (0, 0))), (95, .v (vFs F)), (96, .v (.int .i64 F.length)), (97, .v (.int .i64 j))]) _ _ ⟨0, bL, Nat.zero_le _, rfl, rfl⟩ (by dsimp only; omega) (by
      have e3 : L ++ (up p.toNat F).take 0 = L := List.append_nil _;rw [e3]
      repeat' first | refine And.intro ?_ ?_ | exact trivial | rfl | omega | assumption | exact .inl rfl | exact λ_ _ => rfl) ?_))
     clear hK;rintro m e ⟨j, bG, hj, hm', rfl⟩;have hul : (up p.toNat F).length = F.length := List.length_map ..;refine wrs λK hK => ?_;conv=>whnf
     refine hK _ ?_;clear hK;refine W.seqK λK7 hK7 => W.cond ⟨λh9 => ?_, λh9 => ?_⟩ <;> (first | replace h9 := of_decide_eq_true h9 | replace h9 := of_decide_eq_false h9)
     ·have h9 : j < F.length := by omega
      have hxm : F.getD j (0, 0) ∈ F := by rw [List.getD_eq_getElem?_getD, List.getElem?_eq_getElem h9]; exact List.getElem_mem h9
      have hxu : (up p.toNat F).take (j + 1) = (up p.toNat F).take j ++ [((F.getD j (0, 0)).1, p.toNat * (F.getD j (0, 0)).2)] := by
       rw [List.take_add_one, List.getElem?_eq_getElem (by omega)];unfold up;simp [List.getElem_map, List.getD_eq_getElem?_getD, List.getElem?_eq_getElem h9]
      obtain ⟨a1, a2, a3, a4⟩ := (hF.2 _).1 hxm
      have hx2 : (F.getD j (0, 0)).2 < 14 := by
       obtain ⟨u, h5, h6⟩ := a4;have h10 := kH a1.1 (F.getD j (0, 0)).2;have h11 := zD (⟨u, h5⟩ : _ ∣ R) hRf0;omega
      generalize hx : F.getD j (0, 0) = x at hxm hxu a1 a2 a3 a4 hx2;have hpx : ((p.toNat * x.2 : Nat) : Int) = p * (x.2 : Int) := by rw [Int.natCast_mul, show ((p.toNat : Nat) : Int) = p by omega]
      have hpx2 : 0 <= p * (x.2 : Int) ∧ p * (x.2 : Int) <= 97 * 13 := ⟨Int.mul_nonneg (by omega) (by omega), Int.mul_le_mul (by omega) (by omega) (by omega) (by omega)⟩
      refine W.skip (hK7 _ ?_);clear hK7;refine W.seqK λK8 hK8 => W.block ?_;refine wrs λK hK => ?_;conv=>whnf
      refine ⟨oo, ?_⟩;conv=>whnf
      rw [Int.toNat_natCast, hx];intro b_7 hs_7 hh_7 hf_7;try dsimp only at hh_7 hf_7
      conv=>whnf
      refine ⟨s23, ?_⟩;conv=>whnf
      refine hK _ ?_;clear hK;refine wrg ?_;conv=>whnf
      refine ⟨oo, ?_⟩;conv=>whnf
      rw [<- hpx];refine ⟨⟨rfl, by decide, λx hx => by simp at hx; subst hx; exact ⟨rfl, rfl⟩⟩, ?_⟩;conv=>whnf
      intro b_8 hs_8 hh_8 hf_8;try dsimp only at hh_8 hf_8
      conv=>whnf
      have hAl : (L ++ (up p.toNat F).take j).length <= 26 := by rw [List.length_append, List.length_take]; omega
      refine ⟨by omega, ?_⟩;conv=>whnf
      refine ⟨λi => vF ((L ++ (up p.toNat F).take j ++ [(x.1, p.toNat * x.2)]).getD i (0, 0)), λi hi => congrArg vF (zch hi), λi hi => ?_, ?_⟩
      ·obtain rfl : i = 0 := by omega
       exact congrArg vF zci
      intro b_9 hs_9 hh_9 hf_9;try dsimp only at hh_9 hf_9
      conv=>whnf
      refine hK8 _ ?_;clear hK8;refine wrg ?_;conv=>whnf
      refine ⟨oo, ?_⟩;conv=>whnf
      refine ⟨_, _, ⟨j + 1, b_9, by omega, rfl, rfl⟩, by omega, by dsimp only; omega, ?_⟩;rw [hxu, <- List.append_assoc, List.length_append (bs := [_])];exact cvr
     ·obtain rfl : j = F.length := by omega
      rw [List.take_of_length_le (by omega)];refine W.exit (fin2 _ bG _ hG (by dsimp only; omega) ?_);clear fin2 hK7;exact cvr
   ·have h7 := of_decide_eq_false h7;have hu := hfac [] (jm.unit (by omega));rw [List.append_nil] at hu;refine W.skip (fin2 L bL _ hu (by dsimp only; omega) ?_);clear fin2;exact cvr
  clear hK1;refine wrs λK hK => ?_;conv=>whnf
  refine zc rfl (zaf _ r0.l ((kM r0).le (by omega)) (by omega)) λhs' hhs => ?_;try dsimp only at hhs
  conv=>whnf
  refine zv rfl (zaa p (by omega) (by omega) none (mkL (r0.l.length - 1) (dv (cf r0.l))) (λj => by rw [xA]; split; (rename_i hj; have hc := kL r0 (j + 1); have h8 := Int.mul_nonneg (by omega : (0 : Int) <= (j : Int) + 1) hc.1; have h9 := Int.mul_le_mul (by omega : (j : Int) + 1 <= 13) (by omega : cf r0.l (j + 1) <= 97) hc.1 (by omega); unfold dv; omega); omega) (by rw [zT]; omega)) λhs_2 b_2 hh_2 hf_2 => ?_;try dsimp only at hh_2 hf_2
  conv=>whnf
  rw [zlJ];refine hK _ (wrs λK hK => ?_);conv=>whnf
  have hdl : (der r0).l.length = dg (der r0) := rfl;rw [hdl];refine hK _ (W.cond ⟨λh => ?_, λh => ?_⟩) <;> clear hK
  ·have h := of_decide_eq_true h;have hd0 : der r0 ≠ 0 := λe => by rw [e, zt] at h; omega
   obtain ⟨s1, s2, s3, s4, s5, s6, s7⟩ := zji hm hd0;refine wrs λK hK => ?_;conv=>whnf
   refine zv rfl (zbQ p _ _ r0 (der r0) (by omega) (by have := kG hm.1; omega)) λhs_3 b_3 hh_3 hf_3 => ?_;try dsimp only at hh_3 hf_3
   conv=>whnf
   refine zc rfl (jI p _ _ r0 (gcd r0 (der r0)) (by omega) (by have := zD s6 hd0; have := kG hm.1; omega) s7) λhs' hhs => ?_;try dsimp only at hhs
   conv=>whnf
   generalize hq : quo r0 (gcd r0 (der r0)) = q at s1 s2 s3 s4 s5;generalize gcd r0 (der r0) = c at s1 s6 s7;refine hK _ (wrs λK hK => ?_);conv=>whnf
   refine yT rfl (zl0 p q s2 s3 s4 (by omega)) ?_;rintro lo hi hi' z hl1 hl2 hl3 ⟨P, hP, rfl⟩ _;have hPf := hP.few (f := q) s2.1;try dsimp only at hl1 hl2
   conv=>whnf
   refine hK _ (W.block (W.invE (λm e => ∃ (k bL : Nat) (r : Poly p) (L : List (Poly p × Nat)), Peel r0 P k r L ∧ dg r <= dg r0 ∧ m = P.length - k ∧ e = [(0, .v (.int .i64 p)), (4, .v .nil), (5, .ownV 145 2 bL L.length λj => vF (L.getD j (0, 0))), (6, .v (.ints none r.l)), (41, .v (vPs P)), (42, .v (.int .i64 P.length)), (43, .v (.int .i64 k))]) _ _ ⟨0, 0, r0, [], Peel.start hm P, Nat.le_refl _, rfl, rfl⟩ (by dsimp only; omega) (by repeat' first | refine And.intro ?_ ?_ | exact trivial | rfl | omega | assumption | exact .inl rfl | exact .inr rfl | exact λ_ _ => rfl) ?_));clear hK;rintro m e ⟨k, bL, r, L, hpe, hrd, hm', rfl⟩;refine wrs λK hK => ?_;conv=>whnf
   refine hK _ ?_;clear hK;refine W.seqK λK7 hK7 => W.cond ⟨λh2 => ?_, λh2 => ?_⟩ <;> (first | replace h2 := of_decide_eq_true h2 | replace h2 := of_decide_eq_false h2)
   ·have h2 : k < P.length := by omega
    have hmem : P.getD k 0 ∈ P := by rw [List.getD_eq_getElem?_getD, List.getElem?_eq_getElem h2]; exact List.getElem_mem h2
    obtain ⟨hgi, hgm, hgd⟩ := (hP.2 _).1 hmem;have hgd0 : P.getD k 0 ∣ r0 := zp hgd ⟨c, s1⟩;have hgdg := zD hgd0 hm.1;have step := λn r' he hn => hpe.step (n := n) (r' := r') hP.1 h2 hgi hgm hgd0 he hn;generalize hgq : P.getD k 0 = q1 at hgi hgm hgd hgd0 hgdg step;have hlen := hpe.len;refine W.skip (hK7 _ ?_);clear hK7;refine W.seqK λK8 hK8 => W.block ?_;refine wrs λK hK => ?_;conv=>whnf
    refine ⟨oo, ?_⟩;conv=>whnf
    have e1 : (λj => V.ints none (P.getD j 0).l) (k : Int).toNat = .ints none q1.l := by rw [Int.toNat_natCast]; show V.ints none (P.getD k 0).l = _; rw [hgq]
    rw [e1];conv=>whnf
    refine hK _ (wrs λK hK => ?_);conv=>whnf
    intro b_9 hs_9 hh_9 hf_9;try dsimp only at hh_9 hf_9
    conv=>whnf
    refine ⟨s23, ?_⟩;conv=>whnf
    refine hK _ ?_;clear hK
    have hpow : ∀ {n : Nat} {rc : Poly p}, r = q1 ^ n * rc -> n < 14 ∧ rc ≠ 0 ∧ dg rc <= dg r := λ{n rc} he => by
     have h5 := kH hgi.1 n;have h6 := zD (⟨rc, he⟩ : q1 ^ n ∣ r) hpe.mon.1;have h7 : rc ∣ r := ⟨q1 ^ n, by rw [he]; exact vr _ _⟩
     exact ⟨by omega, zdl h7 hpe.mon.1, zD h7 hpe.mon.1⟩
    refine W.seqK λK2 hK2 => wrs λK hK => ?_;conv=>whnf
    refine zc rfl (jI p _ _ r q1 (by omega) (by omega) hgi.ne) λhs' hhs => ?_;try dsimp only at hhs
    conv=>whnf
    refine hK _ (W.block (W.invE (λm e => ∃ (n : Nat) (rc : Poly p), r = q1 ^ n * rc ∧ m = dg rc ∧ e = [(0, .v (.int .i64 p)), (4, .v .nil), (5, .ownV 145 2 bL L.length λj => vF (L.getD j (0, 0))), (6, .v (.ints none rc.l)), (11, .v (.ints none q1.l)), (12, .ownB b_9 (.agg [.ints none q1.l, .int .i64 n])), (13, .v (.ints none (quo rc q1).l)), (14, .v (.ints none (rem rc q1).l)), (41, .v (vPs P)), (42, .v (.int .i64 P.length)), (43, .v (.int .i64 k))]) _ _ ⟨0, r, by rw [zq]; exact zj [r] (by rfl), rfl, rfl⟩ (by dsimp only; omega) (by repeat' first | refine And.intro ?_ ?_ | exact trivial | rfl | omega | assumption | exact .inl rfl | exact .inr rfl | exact λ_ _ => rfl) ?_));clear hK;rintro m2 e ⟨n, rc, he, hm2, rfl⟩;obtain ⟨hn14, hrc0, hrcd⟩ := hpow he;have hreml : (rem rc q1).l.length = dg (rem rc q1) := rfl;refine W.seqK λK7 hK7 => wrs λK hK => ?_;conv=>whnf
    refine hK _ (W.cond ⟨λh3 => ?_, λh3 => ?_⟩) <;> clear hK <;> (first | replace h3 := of_decide_eq_true h3 | replace h3 := of_decide_eq_false h3)
    ·have hrem : rem rc q1 = 0 := zd.1 (by omega)
     have hdiv : rc = quo rc q1 * q1 := by
      have h5 := ji rc q1;rw [hrem] at h5;have e : ∀ a : Poly p, a + 0 = a := λa => by exact zj [a] (by rfl)
      rw [e] at h5; exact h5
     have hq0 : quo rc q1 ≠ 0 := λe => hrc0 (by rw [hdiv, e]; exact zj [q1] (by rfl));have hdgq := yA hq0 hgi.ne;rw [<- hdiv] at hdgq;have hg2 := hgi.1;refine W.skip (hK7 _ ?_);clear hK7;refine W.seqK λK8 hK8 => W.block ?_;refine wrs λK hK => ?_;conv=>whnf
     refine hK _ ?_;clear hK;refine wrg ?_;conv=>whnf
     refine ⟨oo, ?_⟩;conv=>whnf
     refine ⟨⟨(by show 1 + 1 <= 2; omega), rfl⟩, ?_⟩;conv=>whnf
     refine hK8 _ ?_;clear hK8;refine wrg ?_;conv=>whnf
     refine zc rfl (jI p _ _ (quo rc q1) q1 (by omega) (by omega) hgi.ne) λhs' hhs => ?_;try dsimp only at hhs
     conv=>whnf
     exact ze ⟨n + 1, quo rc q1, by rw [he, zh]; exact comb (q1 ^ n) hdiv (zj [rc, q1, quo rc q1, q1 ^ n] (by rfl)), rfl, rfl⟩
    ·have hnd : ¬ q1 ∣ rc := λhd => by
      have := (kE hgi.ne).1 hd;have : dg (rem rc q1) = 0 := by rw [this]; exact zt
      omega
     refine W.exit (hK2 _ ?_);clear hK7 hK2;refine wrg ?_;conv=>whnf
     refine ⟨⟨rfl, by decide, λx hx => by simp at hx; subst hx; exact ⟨rfl, rfl⟩⟩, ?_⟩;conv=>whnf
     intro b_5 hs_5 hh_5 hf_5;try dsimp only at hh_5 hf_5
     conv=>whnf
     refine ⟨by omega, ?_⟩;conv=>whnf
     refine ⟨λi => vF ((L ++ [(q1, n)]).getD i (0, 0)), λi hi => congrArg vF (zch hi), λi hi => ?_, ?_⟩
     ·obtain rfl : i = 0 := by omega
      exact congrArg vF zci
     intro b_6 hs_6 hh_6 hf_6;try dsimp only at hh_6 hf_6
     conv=>whnf
     refine hK8 _ ?_;clear hK8;refine wrg ?_;conv=>whnf
     refine ⟨oo, ?_⟩;conv=>whnf
     refine ⟨_, _, ⟨k + 1, b_6, rc, L ++ [(q1, n)], step n rc he hnd, by omega, rfl, rfl⟩, by omega, by dsimp only; omega, ?_⟩;rw [List.length_append (bs := [_])];exact cvr
   ·obtain rfl : k = P.length := by have := hpe.le; omega
    refine W.exit (fin r L bL _ hpe.mon hrd (hpe.fin hm hP s1 s6).1 (by have := hpe.len; omega) (λF hF => hpe.facs hm hP s1 s6 hF) (by dsimp only; omega) ?_);clear fin hK7;exact cvr
  ·have h := of_decide_eq_false h;have hd0 : der r0 = 0 := zd.1 (by omega);refine W.skip (fin r0 [] 0 _ hm (Nat.le_refl _) hd0 (by simp) (λF hF => hF) (by dsimp only; omega) ?_);clear fin;exact cvr



structure MatR (tb : Nat -> Option (List Int)) (bl : Nat -> Nat) (n m : Nat) (R : Nat -> Nat -> Int) : Prop where
 inj : ∀ i j, i < n -> j < n -> bl i = bl j -> i = j
 row : ∀ i, i < n -> ∃ l, tb (bl i) = some l ∧ l.length = m ∧ ∀ x, x < m -> cf l x = R i x
theorem MatR.store {tb : Nat -> Option (List Int)} {bl : Nat -> Nat} {n m : Nat} {R : Nat -> Nat -> Int} (h : MatR tb bl n m R) {i x : Nat} (hi : i < n) (hx : x < m) {l : List Int} (hl : tb (bl i) = some l) (v : Int) :
  MatR (yb tb (bl i) (l.set x v)) bl n m (λa y => if a = i ∧ y = x then v else R a y) := by
 refine ⟨h.inj, λa ha => ?_⟩;obtain ⟨l1, h1, h2, h3⟩ := h.row a ha
 by_cases he : a = i
 ·subst he;rw [hl] at h1;cases h1
  refine ⟨l.set x v, yf _ _ _, by simpa using h2, λy hy => ?_⟩;rw [yu (by omega)]
  by_cases hyx : y = x
  ·simp [hyx]
  ·simp [hyx, h3 y hy]
 ·have hne : bl a ≠ bl i := λe => he (h.inj a i ha hi e);refine ⟨l1, by rw [xr _ _ hne]; exact h1, h2, λy hy => ?_⟩;simp [he, h3 y hy]
theorem MatR.congr {tb : Nat -> Option (List Int)} {bl : Nat -> Nat} {n m : Nat} {R R' : Nat -> Nat -> Int} (h : MatR tb bl n m R) (he : ∀ i x, i < n -> x < m -> R i x = R' i x) : MatR tb bl n m R' :=
 ⟨h.inj, λi hi => by obtain ⟨l, h1, h2, h3⟩ := h.row i hi; exact ⟨l, h1, h2, λx hx => by rw [h3 x hx, he i x hi hx]⟩⟩

def vU (b : Bool) : V := bif b then .tr else .bool false
theorem Half.used {p : Int} {n : Nat} {M : Nat -> Nat -> Int} {col : Nat} {u u' : Nat -> Prop} {L T : Nat -> Nat -> Int} (h : Half p n M col u L T) (e : ∀ k, u k ↔ u' k) : Half p n M col u' L T :=
 (funext λk => propext (e k) : u = u') ▸ h
def xF (p : Int) (R : Nat -> Nat -> Int) (q : Nat -> Int) (a i k x : Nat) : Int := if k < i ∧ k ≠ a then (R k x - q k * R a x) % p else R k x
noncomputable def ke {p : Int} [SP p] (f : Poly p) (n : Nat) (i x : Nat) : Int := if x < n then cf (kI f i).l x else if x = n + i then 1 else 0

theorem zfV (p : Int) [SP p] (g : Option Nat) (f : Poly p) (n : Nat) (hf : dg f = n + 1) (hn0 : 1 <= n) (hn : n <= 400) :
   Fn Tryz.prog 250 [.int .i64 p, .ints g f.l] (λ_ _ z => ∃ v : Poly p, z = .v (.ints none v.l) ∧ ((2 <= dg v ∧ dg v <= n ∧ Ber f v) ∨ (v = 0 ∧ ∀ w, dg w <= n -> Ber f w -> dg w <= 1))) := by
 have hp := Pr.two (p := p);have hp2 := SP.le (p := p);have hfl : f.l.length = n + 1 := hf;have hf0 : f ≠ 0 := λe => by rw [e, zt] at hf; omega
 have e2n : (2 : Int) * (n : Int) = ((2 * n : Nat) : Int) := by omega
 refine zf (zl [0, 1, 4, 5, 6, 7, 8, 9, 10, 11, 12, 13, 14, 15, 16, 17, 18, 19, 20, 27, 43, 76, 81, 98, 101, 116, 131, 146, 176, 195, 1000000]) Tryz.func250 rfl (by decide) Tryz.ntmps250 (lb rfl) λbase => ?_;refine W.tab0 rfl ?_;refine W.rs (zl _) (by rfl) λK hK => ?_;conv=>whnf
 refine hK _ ?_;clear hK;refine W.rs (zl _) (by rfl) λK hK => ?_;conv=>whnf
 rw [hfl];refine ⟨oo, ?_⟩;conv=>whnf
 have e0 : (((n + 1 : Nat) : Int) - 1) = n := by omega
 rw [e0];refine hK _ ?_;clear hK;refine W.rs (zl _) (by rfl) λK hK => ?_;conv=>whnf
 refine ⟨⟨rfl, by decide, λx hx => by simp at hx⟩, ?_⟩;conv=>whnf
 intro b_0 hs_0 hh_0 hf_0;try dsimp only at hh_0 hf_0
 conv=>whnf
 refine hK _ ?_;clear hK;refine W.seqK λK1 hK1 => ?_;refine W.rs (zl _) (by rfl) λK hK => ?_;conv=>whnf
 refine hK _ (W.block (W.inv (λm s => ∃ (i hs ba : Nat) (bl : Nat -> Nat) (tb : Nat -> Option (List Int)), i <= n ∧ base <= hs ∧ (∀ j, j < i -> bl j < hs) ∧ MatR tb bl i (2 * n) (ke f n) ∧ m = n - i ∧
   s = ⟨[(0, .v (.int .i64 p)), (1, .v (.ints g f.l)), (5, .v (.int .i64 n)), (6, .ownV 22 1 ba i λj => .rf (bl j) (2 * n)), (7, .v (.int .i64 i)), (vt, .tab tb)], hs⟩) _ _
   ⟨0, base, b_0, λ_ => 0, λ_ => none, Nat.zero_le _, Nat.le_refl _, λj hj => by omega, ⟨λi j hi => by omega, λi hi => by omega⟩, rfl, rfl⟩ ⟨by dsimp only; omega, by repeat' first | refine And.intro ?_ ?_ | exact trivial | rfl | omega | assumption | exact λ_ _ => rfl | exact λ_ _ h => h | exact λi hi => absurd hi (by omega)⟩
   (by rintro m s ⟨_, _, _, _, _, _, h, _, _, _, rfl⟩; exact h) ?_))
 clear hK hh_0 hf_0;rintro m s ⟨i, hs, ba, bl, tb, hi, hhs, hlt, hM, hm, rfl⟩;refine W.seqK λK7 hK7 => ?_;refine W.rs (zl _) (by rfl) λK hK => ?_;conv=>whnf
 refine hK _ (W.cond ⟨λh2 => ?_, λh2 => ?_⟩) <;> clear hK
 · have h2 : i < n := by have := of_decide_eq_true h2; omega
   have epi : (i : Int) * p = ((p.toNat * i : Nat) : Int) := by rw [Int.natCast_mul, Int.mul_comm]; congr 1; omega
   have hpi : p.toNat * i <= 97 * 400 := Nat.mul_le_mul (by omega) (by omega);have hWl : (rem (X p ^ (p.toNat * i)) f).l.length = dg (rem (X p ^ (p.toNat * i)) f) := rfl;have hWd := yB (X p ^ (p.toNat * i)) hf0;refine W.skip (hK7 _ ?_);clear hK7;refine W.seqK λK8 hK8 => W.block ?_;refine W.rs (zl _) (by rfl) λK hK => ?_;conv=>whnf
   refine ⟨oo, ?_⟩;conv=>whnf
   rw [e2n];refine ⟨rfl, ?_⟩;conv=>whnf
   refine ⟨oo, ?_⟩;conv=>whnf
   rw [Int.toNat_natCast];intro b_8 hs_8 hh_8 hf_8;try dsimp only at hh_8 hf_8
   conv=>whnf
   refine hK _ ?_;clear hK;refine W.rs (zl _) (by rfl) λK hK => ?_;conv=>whnf
   refine ⟨⟨rfl, by decide⟩, ?_⟩;conv=>whnf
   intro b_x hs_x hh_x hf_x;try dsimp only at hh_x hf_x
   conv=>whnf
   refine ⟨by rw [epi]; constructor <;> omega, ?_⟩;conv=>whnf
   rw [epi];have ex : [(0 : Int), 1] = (X p).l := X_l.symm;rw [ex]
   have hXd : dg (X p) <= 1000000 := by
     have : (X p).l.length = 2 := by rw [X_l]; rfl
     show (X p).l.length <= _
     omega
   refine zc rfl (zhr p _ g (X p) f (p.toNat * i) (by omega) hXd (by omega) hf0) λhs' hhs => ?_;try dsimp only at hhs
   conv=>whnf
   generalize hW : rem (X p ^ (p.toNat * i)) f = Wp at *;refine hK _ ?_;clear hK;have hb8 := hf_8 (by omega);refine W.seqK λK2 hK2 => ?_;refine W.rs (zl _) (by rfl) λK hK => ?_;conv=>whnf
   refine hK _ (W.block (W.invH hs_8 (by omega) (λm e => ∃ (k : Nat) (l : List Int), k <= dg Wp ∧ l.length = 2 * n ∧ (∀ x, cf l x = if x < k then cf Wp.l x else 0) ∧ m = dg Wp - k ∧ e = [(0, .v (.int .i64 p)), (1, .v (.ints g f.l)), (5, .v (.int .i64 n)), (6, .ownV 22 1 ba i λj => .rf (bl j) (2 * n)), (7, .v (.int .i64 i)), (8, .ownI 2 b_8 l), (9, .v (.ints none Wp.l)), (10, .v (.int .i64 k)), (vt, .tab tb)]) _ _ ⟨0, List.replicate (2 * n) 0, Nat.zero_le _, by simp, λx => by rw [if_neg (by omega), zI], rfl, rfl⟩ (by dsimp only; omega) (by repeat' first | refine And.intro ?_ ?_ | exact trivial | rfl | omega | assumption | exact .inl rfl | exact λ_ _ => rfl | exact λ_ _ h => h) ?_));clear hK;rintro m2 e ⟨k, l, hk, hll, hlc, hm2, rfl⟩;refine W.seqK λK7 hK7 => ?_;refine W.rs (zl _) (by rfl) λK hK => ?_;conv=>whnf
   rw [hWl];refine hK _ (W.cond ⟨λh3 => ?_, λh3 => ?_⟩) <;> clear hK
   · have h3 : k < dg Wp := by have := of_decide_eq_true h3; omega
     refine W.skip (hK7 _ ?_);clear hK7;refine W.seqK λK9 hK9 => W.block ?_;refine W.region (zl _) (by rfl) ?_;conv=>whnf
     refine ⟨oo, ?_⟩;conv=>whnf
     rw [Int.toNat_natCast];refine ⟨oo, ?_⟩;conv=>whnf
     refine hK9 _ ?_;clear hK9;refine W.region (zl _) (by rfl) ?_;conv=>whnf
     refine ⟨oo, ?_⟩;conv=>whnf
     have h4 : ∀ x, cf (l.set k (Wp.l.getD k 0)) x = if x < k + 1 then cf Wp.l x else 0 := λx => by
       rw [yu (by omega)]
       by_cases c1 : x = k
       · subst c1; rw [if_pos rfl, if_pos (by omega)]; rfl
       · rw [if_neg c1, hlc]
         by_cases c2 : x < k
         · rw [if_pos c2, if_pos (by omega)]
         · rw [if_neg c2, if_neg (by omega)]
     exact ze ⟨k + 1, l.set k (Wp.l.getD k 0), by omega, by simpa using hll, h4, rfl, rfl⟩
   · have h3 : k = dg Wp := by have := of_decide_eq_false h3; omega
     subst h3;refine W.exit (hK2 _ ?_);clear hK7 hK2
     have hlw : ∀ x, cf l x = cf Wp.l x := λx => by
       rw [hlc]; split
       · rfl
       · rw [yj (by omega)]
     have hrc := kL Wp i;have e1 : l.getD i 0 = cf Wp.l i := hlw i;refine W.rs (zl _) (by rfl) λK hK => ?_;conv=>whnf
     refine ⟨oo, ?_⟩;conv=>whnf
     rw [Int.toNat_natCast, e1];refine ⟨oo, ?_⟩;conv=>whnf
     refine zc rfl (vu _ p (by omega) (by omega) (by omega)) λhs' hhs => ?_;try dsimp only at hhs
     conv=>whnf
     refine ⟨oo, ?_⟩;conv=>whnf
     refine hK _ ?_;clear hK;refine W.rs (zl _) (by rfl) λK hK => ?_;conv=>whnf
     refine ⟨oo, ?_⟩;conv=>whnf
     have e2 : (n : Int) + (i : Int) = ((n + i : Nat) : Int) := by omega
     rw [e2];refine ⟨⟨by omega, by simp; omega⟩, ?_⟩;conv=>whnf
     refine hK _ ?_;clear hK
     have hl2c : ∀ x, x < 2 * n -> cf ((l.set i ((cf Wp.l i - 1) % p)).set (n + i) 1) x = ke f n i x := λx hx => by
       rw [yu (by simp; omega), yu (by omega)];unfold ke;have hke : ∀ a, cf (kI f i).l a = (cf Wp.l a - if a = i then 1 else 0) % p := λa => by have := zfG f a i; rw [hW] at this; exact this
       by_cases c1 : x < n
       · rw [if_pos c1, if_neg (by omega), hke]
         by_cases c2 : x = i
         · subst c2; rw [if_pos rfl, if_pos rfl]
         · rw [if_neg c2, if_neg c2, Int.sub_zero, jh, hlw]
       · rw [if_neg c1]
         by_cases c2 : x = n + i
         · rw [if_pos c2, if_pos c2]
         · rw [if_neg c2, if_neg c2, if_neg (by omega), hlw, yj (by omega)]
     have hl2l : ((l.set i ((cf Wp.l i - 1) % p)).set (n + i) 1).length = 2 * n := by simpa using hll
     refine W.region (zl _) (by rfl) ?_;conv=>whnf
     rw [Int.toNat_natCast, Int.toNat_natCast];generalize (l.set i ((cf Wp.l i - 1) % p)).set (n + i) 1 = l2 at hl2c hl2l;refine ⟨by omega, ?_⟩;conv=>whnf
     rw [hl2l];refine ⟨⟨rfl, by decide, λx hx => by simp at hx; subst hx; exact ⟨rfl, rfl⟩⟩, ?_⟩;conv=>whnf
     intro b_9 hs_9 hh_9 hf_9;try dsimp only at hh_9 hf_9
     conv=>whnf
     refine ⟨by omega, ?_⟩;conv=>whnf
     refine ⟨λj => .rf (if j < i then bl j else b_8) (2 * n), λj hj => by show V.rf (if j < i then bl j else b_8) (2 * n) = V.rf (bl j) (2 * n); rw [if_pos hj], λj hj => ?_, ?_⟩
     · obtain rfl : j = 0 := by omega
       show V.rf (if i + 0 < i then bl (i + 0) else b_8) (2 * n) = _
       rw [if_neg (by omega)]; rfl
     intro b_10 hs_10 hh_10 hf_10;try dsimp only at hh_10 hf_10
     conv=>whnf
     refine hK8 _ ?_;clear hK8;refine W.region (zl _) (by rfl) ?_;conv=>whnf
     refine ⟨oo, ?_⟩;conv=>whnf
     have hM' : MatR (yb tb b_8 l2) (λj => if j < i then bl j else b_8) (i + 1) (2 * n) (ke f n) := by
       refine ⟨λj k hj hk he => ?_, λj hj => ?_⟩
       · have he' : (if j < i then bl j else b_8) = (if k < i then bl k else b_8) := he
         split at he' <;> split at he'
         · exact hM.inj j k (by assumption) (by assumption) he'
         · have := hlt j (by assumption); omega
         · have := hlt k (by assumption); omega
         · omega
       · show ∃ l, yb tb b_8 l2 (if j < i then bl j else b_8) = some l ∧ _
         by_cases c1 : j < i
         · have := hlt j c1
           rw [if_pos c1, xr _ _ (by omega)]; exact hM.row j c1
         · obtain rfl : j = i := by omega
           rw [if_neg c1];exact ⟨l2, yf _ _ _, hl2l, hl2c⟩
     refine ⟨_, _, ⟨i + 1, hs_8, b_10, λj => if j < i then bl j else b_8, yb tb b_8 l2, by omega, by omega, λj hj => ?_, hM', rfl, rfl⟩, by omega, by dsimp only; omega, ?_⟩
     · show (if j < i then bl j else b_8) < hs_8
       split
       · have := hlt j (by assumption); omega
       · omega
     repeat' first | refine And.intro ?_ ?_ | exact trivial | rfl | omega | exact λ_ _ => rfl | exact λ_ _ h => h
 · obtain rfl : n = i := by have := of_decide_eq_false h2; omega
   refine W.exit (hK1 _ ?_);clear hK7 hK1;refine W.weak (t := ⟨[(0, .v (.int .i64 p)), (1, .v (.ints g f.l)), (5, .v (.int .i64 n)), (6, .ownV 22 1 ba n λj => .rf (bl j) (2 * n)), (vt, .tab tb)], base⟩) ⟨by dsimp only; omega, ?_⟩ (Nat.le_refl _) ?_
   · repeat' first | refine And.intro ?_ ?_ | exact trivial | rfl | omega | assumption | exact λ_ _ => rfl | exact λ_ _ h => h
   clear hlt hhs hs
   have hS0 : ∀ i x, i < n -> x < 2 * n -> 0 <= ke f n i x ∧ ke f n i x < p := λi x _ _ => by
     unfold ke;have := kL (kI f i) x
     split
     · exact this
     · split <;> omega
   have hH0 : Half p n (ke f n) 0 (λk => (λ_ => false : Nat -> Bool) k = true) (ke f n) (λi j => ke f n i (n + j)) := by
     have := Half.start p n (ke f n) (λi j => ke f n i (n + j)) (λi hi j hj => by
       show ke f n i (n + j) = _
       unfold ke;rw [if_neg (by omega)]
       by_cases c1 : i = j
       · rw [if_pos (by omega), if_pos c1]
       · rw [if_neg (by omega), if_neg c1])
     exact this.used λk => ⟨λh => h.elim, λh => by cases h⟩
   refine W.rs (zl _) (by rfl) λK hK => ?_;conv=>whnf
   refine ⟨rfl, ?_⟩;conv=>whnf
   refine ⟨oo, ?_⟩;conv=>whnf
   rw [Int.toNat_natCast];intro b_11 hs_11 hh_11 hf_11;try dsimp only at hh_11 hf_11
   conv=>whnf
   refine hK _ ?_;clear hK;refine W.seqK λK1 hK1 => ?_;refine W.rs (zl _) (by rfl) λK hK => ?_;conv=>whnf
   refine hK _ (W.block (W.invE (λm e => ∃ (c bu : Nat) (tb : Nat -> Option (List Int)) (R : Nat -> Nat -> Int) (U : Nat -> Bool), c <= n ∧ MatR tb bl n (2 * n) R ∧ (∀ i x, i < n -> x < 2 * n -> 0 <= R i x ∧ R i x < p) ∧ Half p n (ke f n) c (λk => U k = true) R (λi j => R i (n + j)) ∧ m = n - c ∧ e = [(0, .v (.int .i64 p)), (1, .v (.ints g f.l)), (5, .v (.int .i64 n)), (6, .ownV 22 1 ba n λj => .rf (bl j) (2 * n)), (11, .ownV 4 1 bu n λj => vU (U j)), (12, .v (.int .i64 c)), (vt, .tab tb)]) _ _ ⟨0, b_11, tb, ke f n, λ_ => false, Nat.zero_le _, hM, hS0, hH0, rfl, rfl⟩ (by dsimp only; omega) (by repeat' first | refine And.intro ?_ ?_ | exact trivial | rfl | omega | assumption | exact .inl rfl | exact λ_ _ => rfl | exact λ_ _ h => h) ?_));clear hK hM hH0 tb;rintro m e ⟨c, bu, tb, R, U, hc, hM, hR, hH, hm, rfl⟩;refine W.seqK λK7 hK7 => ?_;refine W.rs (zl _) (by rfl) λK hK => ?_;conv=>whnf
   refine hK _ (W.cond ⟨λh2 => ?_, λh2 => ?_⟩) <;> clear hK
   · have h2 : c < n := by have := of_decide_eq_true h2; omega
     refine W.skip (hK7 _ ?_);clear hK7;refine W.seqK λK8 hK8 => W.block ?_;refine W.rs (zl _) (by rfl) λK hK => ?_;conv=>whnf
     refine hK _ ?_;clear hK;refine W.seqK λK3 hK3 => ?_;refine W.rs (zl _) (by rfl) λK hK => ?_;conv=>whnf
     refine hK _ (W.block (W.invE (λm e => ∃ (i : Nat), i <= n ∧ (∀ j, j < i -> U j = true ∨ R j c = 0) ∧ m = n - i ∧ e = [(0, .v (.int .i64 p)), (1, .v (.ints g f.l)), (5, .v (.int .i64 n)), (6, .ownV 22 1 ba n λj => .rf (bl j) (2 * n)), (11, .ownV 4 1 bu n λj => vU (U j)), (12, .v (.int .i64 c)), (13, .v (.int .i64 (-1))), (14, .v (.int .i64 i)), (vt, .tab tb)]) _ _ ⟨0, Nat.zero_le _, λj hj => by omega, rfl, rfl⟩ (by dsimp only; omega) (by repeat' first | refine And.intro ?_ ?_ | exact trivial | rfl | omega | assumption | exact .inl rfl | exact λ_ _ => rfl | exact λ_ _ h => h) ?_));clear hK;rintro m2 e ⟨i, hi, hno, hm2, rfl⟩
     -- what the search tells
     have fin : ∀ (t : Int) (s : S), ((t = -1 ∧ ∀ j, j < n -> U j = true ∨ R j c = 0) ∨ ∃ a : Nat, t = a ∧ a < n ∧ U a = false ∧ R a c ≠ 0) -> base <= s.hs -> zB s.env [(0, .v (.int .i64 p)), (1, .v (.ints g f.l)), (5, .v (.int .i64 n)), (6, .ownV 22 1 ba n λj => .rf (bl j) (2 * n)), (11, .ownV 4 1 bu n λj => vU (U j)), (12, .v (.int .i64 c)), (13, .v (.int .i64 t)), (vt, .tab tb)] -> K3 s := by
       intro t s ht h5 h6;refine hK3 _ (W.weak (t := ⟨[(0, .v (.int .i64 p)), (1, .v (.ints g f.l)), (5, .v (.int .i64 n)), (6, .ownV 22 1 ba n λj => .rf (bl j) (2 * n)), (11, .ownV 4 1 bu n λj => vU (U j)), (12, .v (.int .i64 c)), (13, .v (.int .i64 t)), (vt, .tab tb)], base⟩) ⟨h5, h6⟩ (Nat.le_refl _) ?_);clear hK3 h5 h6 s hno;refine W.seqK λK4 hK4 => ?_;refine W.rs (zl _) (by rfl) λK hK => ?_;conv=>whnf
       rcases ht with ⟨rfl, hz⟩ | ⟨a, rfl, ha, hUa, hne⟩
       · refine hK _ (W.cond ⟨λ_ => W.exit (hK8 _ ?_), λh => absurd h (by decide)⟩)
         clear hK hK4 hK8;refine W.region (zl _) (by rfl) ?_;conv=>whnf
         refine ⟨oo, ?_⟩;conv=>whnf
         exact ze ⟨c + 1, bu, tb, R, U, by omega, hM, hR, hH.skip (λk hk hu => by rw [(hz k hk).resolve_left hu]; simp), rfl, rfl⟩
       · refine hK _ (W.cond ⟨λh => absurd (of_decide_eq_true h) (by omega), λ_ => W.skip (hK4 _ ?_)⟩)
         clear hK hK4;obtain ⟨la, hla1, hla2, hla3⟩ := hM.row a ha;have e1 : la.getD c 0 = R a c := hla3 c (by omega);have hrc := hR a c ha (by omega);have hmod : R a c % p ≠ 0 := by rw [Int.emod_eq_of_lt hrc.1 hrc.2]; exact hne
         obtain ⟨hi1, hi2, hi3⟩ := xN hmod;refine W.rs (zl _) (by rfl) λK hK => ?_;conv=>whnf
         refine ⟨oo, ?_⟩;conv=>whnf
         rw [Int.toNat_natCast];refine ⟨⟨by show 0 + 1 <= 1; omega, rfl⟩, λj => vU (if j = a then true else U j), by show vU (if a = a then true else U a) = setCells (vU (U a)) 0 V.tr; rw [if_pos rfl, hUa]; rfl, λj _ hj => by show vU (if j = a then true else U j) = vU (U j); rw [if_neg hj], ?_⟩;conv=>whnf
         refine hK _ ?_;clear hK;refine W.rs (zl _) (by rfl) λK hK => ?_;conv=>whnf
         refine ⟨oo, ?_⟩;conv=>whnf
         rw [Int.toNat_natCast];refine ⟨oo, ?_⟩;conv=>whnf
         rw [Int.toNat_natCast];refine ⟨la, hla1, by omega, ?_⟩;conv=>whnf
         rw [e1];refine zc rfl (jo p (R a c) hrc hmod) λhs' hhs => ?_;try dsimp only at hhs
         conv=>whnf
         generalize hiv : xk p (R a c) = iv at hi1 hi2 hi3;refine hK _ ?_;clear hK;clear hla1 hla2 hla3 e1 la
         -- how often the row at a is taken from a row
         have hqf : ∃ qf : Nat -> Int, qf a = 0 ∧ (∀ i, i ≠ a -> qf i = R i c * iv % p) := ⟨λi => if i = a then 0 else R i c * iv % p, if_pos rfl, λi hi => if_neg hi⟩
         obtain ⟨qf, hq0, hq1⟩ := hqf
         have hqb : ∀ i, 0 <= qf i ∧ qf i < p := λi => by
           by_cases c1 : i = a
           · rw [c1, hq0]; omega
           · rw [hq1 i c1]; exact ⟨Int.emod_nonneg _ (by omega), Int.emod_lt_of_pos _ (by omega)⟩
         have hpiv := hH.pivot (L' := λk x => if k = a then R k x else (R k x - qf k * R a x) % p) (T' := λk x => if k = a then R k (n + x) else (R k (n + x) - qf k * R a (n + x)) % p) (q := qf) h2 ha (by rw [hUa]; decide) hmod hq0 (λi hi hia => by
             rw [hq1 i hia, Int.mul_comm, Int.mul_emod, Int.emod_emod_of_dvd _ (Int.dvd_refl p), <- Int.mul_emod];have : R a c * (R i c * iv) = R i c * (R a c * iv) := by rw [Int.mul_left_comm]
             rw [this, Int.mul_emod, hi3, Int.mul_one, Int.emod_emod_of_dvd _ (Int.dvd_refl p)])
           (λi hi x hx => by
             show (if i = a then R i x else (R i x - qf i * R a x) % p) % p = _
             split
             · rename_i c1; rw [c1, hq0]; simp
             · exact Int.emod_emod_of_dvd _ (Int.dvd_refl p))
           (λi hi x hx => by
             show (if i = a then R i (n + x) else (R i (n + x) - qf i * R a (n + x)) % p) % p = _
             split
             · rename_i c1; rw [c1, hq0]; simp
             · exact Int.emod_emod_of_dvd _ (Int.dvd_refl p))
         refine W.rs (zl _) (by rfl) λK hK => ?_;conv=>whnf
         refine hK _ (W.block (W.invE (λm e => ∃ (i : Nat) (tb : Nat -> Option (List Int)), i <= n ∧ MatR tb bl n (2 * n) (xF p R qf a i) ∧ m = n - i ∧ e = [(0, .v (.int .i64 p)), (1, .v (.ints g f.l)), (5, .v (.int .i64 n)), (6, .ownV 22 1 ba n λj => .rf (bl j) (2 * n)), (11, .ownV 4 1 bu n λj => vU (if j = a then true else U j)), (12, .v (.int .i64 c)), (13, .v (.int .i64 a)), (15, .v (.int .i64 iv)), (16, .v (.int .i64 i)), (vt, .tab tb)]) _ _ ⟨0, tb, Nat.zero_le _, hM.congr λk x _ _ => by unfold xF; rw [if_neg (by omega)], rfl, rfl⟩ (by dsimp only; omega) (by repeat' first | refine And.intro ?_ ?_ | exact trivial | rfl | omega | assumption | exact .inl rfl | exact λ_ _ => rfl | exact λ_ _ h => h) ?_));clear hK hM tb;rintro m e ⟨i, tb, hi, hM, hm, rfl⟩;refine W.seqK λK7 hK7 => ?_;refine W.rs (zl _) (by rfl) λK hK => ?_;conv=>whnf
         refine hK _ (W.cond ⟨λh3 => ?_, λh3 => ?_⟩) <;> clear hK
         · have h3 : i < n := by have := of_decide_eq_true h3; omega
           refine W.skip (hK7 _ ?_);clear hK7;refine W.seqK λK9 hK9 => W.block ?_
           have fin9 : ∀ (tb' : Nat -> Option (List Int)) (s : S), MatR tb' bl n (2 * n) (xF p R qf a (i + 1)) -> base <= s.hs -> zB s.env [(0, .v (.int .i64 p)), (1, .v (.ints g f.l)), (5, .v (.int .i64 n)), (6, .ownV 22 1 ba n λj => .rf (bl j) (2 * n)), (11, .ownV 4 1 bu n λj => vU (if j = a then true else U j)), (12, .v (.int .i64 c)), (13, .v (.int .i64 a)), (15, .v (.int .i64 iv)), (16, .v (.int .i64 i)), (vt, .tab tb')] -> K9 s := by
             intro tb' s h4 h6 h7;refine hK9 _ (W.weak (t := ⟨[(0, .v (.int .i64 p)), (1, .v (.ints g f.l)), (5, .v (.int .i64 n)), (6, .ownV 22 1 ba n λj => .rf (bl j) (2 * n)), (11, .ownV 4 1 bu n λj => vU (if j = a then true else U j)), (12, .v (.int .i64 c)), (13, .v (.int .i64 a)), (15, .v (.int .i64 iv)), (16, .v (.int .i64 i)), (vt, .tab tb')], base⟩) ⟨h6, h7⟩ (Nat.le_refl _) ?_);clear hK9 h6 h7;refine W.region (zl _) (by rfl) ?_;conv=>whnf
             refine ⟨oo, ?_⟩;conv=>whnf
             exact ze ⟨i + 1, tb', by omega, h4, rfl, rfl⟩
           clear hK9;obtain ⟨la, hla1, hla2, hla3⟩ := hM.row i h3;have e1 : la.getD c 0 = R i c := by have := hla3 c (by omega); unfold xF at this; rw [if_neg (by omega)] at this; exact this
           have hrci := hR i c h3 (by omega);refine W.seqK λK4 hK4 => ?_;refine W.rs (zl _) (by rfl) λK hK => ?_;conv=>whnf
           refine ⟨λh4 => ?_, λh4 => ?_⟩ <;> conv=>whnf
           · have h4 : i = a := by have := of_decide_eq_true h4; omega
             refine hK _ (W.condT rfl (W.exit (fin9 tb _ (hM.congr λk x hk hx => ?_) (by dsimp only; omega) ?_)))
             · unfold xF
               by_cases c1 : k < i ∧ k ≠ a
               · rw [if_pos c1, if_pos (by omega)]
               · rw [if_neg c1, if_neg (by omega)]
             · clear hK hK4 fin9
               repeat' first | refine And.intro ?_ ?_ | exact trivial | rfl | omega | assumption | exact .inl rfl | exact λ_ _ => rfl | exact λ_ _ h => h
           · have h4 : i ≠ a := by have := of_decide_eq_false h4; omega
             refine ⟨oo, ?_⟩;conv=>whnf
             rw [Int.toNat_natCast];refine ⟨oo, ?_⟩;conv=>whnf
             rw [Int.toNat_natCast];refine ⟨la, hla1, by omega, ?_⟩;conv=>whnf
             rw [e1];refine hK _ (W.cond ⟨λh5 => ?_, λh5 => ?_⟩) <;> clear hK
             · have h5 : R i c = 0 := of_decide_eq_true h5
               refine W.exit (fin9 tb _ (hM.congr λk x hk hx => ?_) (by dsimp only; omega) ?_)
               · unfold xF
                 by_cases c1 : k < i ∧ k ≠ a
                 · rw [if_pos c1, if_pos (by omega)]
                 · rw [if_neg c1]
                   by_cases c2 : k = i
                   · subst c2
                     have := hR k x hk hx;rw [if_pos (by omega), hq1 k h4, h5, Int.zero_mul, Int.zero_emod, Int.zero_mul, Int.sub_zero, Int.emod_eq_of_lt this.1 this.2]
                   · rw [if_neg (by omega)]
               · clear hK4 fin9
                 repeat' first | refine And.intro ?_ ?_ | exact trivial | rfl | omega | assumption | exact .inl rfl | exact λ_ _ => rfl | exact λ_ _ h => h
             · have h5 : ¬ R i c = 0 := of_decide_eq_false h5
               have hml : 0 <= R i c * iv ∧ R i c * iv <= 97 * 97 := ⟨Int.mul_nonneg hrci.1 hi1, Int.mul_le_mul (by omega) (by omega) hi1 (by omega)⟩
               refine W.skip (hK4 _ ?_);clear hK4;refine W.rs (zl _) (by rfl) λK hK => ?_;conv=>whnf
               refine ⟨oo, ?_⟩;conv=>whnf
               rw [Int.toNat_natCast];refine ⟨oo, ?_⟩;conv=>whnf
               rw [Int.toNat_natCast];refine ⟨la, hla1, by omega, ?_⟩;conv=>whnf
               rw [e1];refine ⟨oo, ?_⟩;conv=>whnf
               refine ⟨by omega, ?_⟩;conv=>whnf
               rw [Int.tmod_eq_emod_of_nonneg hml.1, <- hq1 i h4];have hqi := hqb i;refine hK _ ?_;clear hK;refine W.rs (zl _) (by rfl) λK hK => ?_;conv=>whnf
               refine hK _ (W.block (W.invE (λm e => ∃ (j : Nat) (tb2 : Nat -> Option (List Int)), j <= 2 * n ∧ MatR tb2 bl n (2 * n) (λk x => if k = i ∧ x < j then (R i x - qf i * R a x) % p else xF p R qf a i k x) ∧ m = 2 * n - j ∧ e = [(0, .v (.int .i64 p)), (1, .v (.ints g f.l)), (5, .v (.int .i64 n)), (6, .ownV 22 1 ba n λj => .rf (bl j) (2 * n)), (11, .ownV 4 1 bu n λj => vU (if j = a then true else U j)), (12, .v (.int .i64 c)), (13, .v (.int .i64 a)), (15, .v (.int .i64 iv)), (16, .v (.int .i64 i)), (17, .v (.int .i64 (qf i))), (18, .v (.int .i64 j)), (vt, .tab tb2)]) _ _ ⟨0, tb, Nat.zero_le _, hM.congr λk x _ _ => by show _ = if k = i ∧ x < 0 then _ else _; rw [if_neg (by omega)], rfl, rfl⟩ (by dsimp only; omega) (by repeat' first | refine And.intro ?_ ?_ | exact trivial | rfl | omega | assumption | exact .inl rfl | exact λ_ _ => rfl | exact λ_ _ h => h) ?_));clear hK hM hla1 hla2 hla3 e1 la tb;rintro m e ⟨j, tb, hj, hM, hm, rfl⟩;refine W.seqK λK7 hK7 => ?_;refine W.rs (zl _) (by rfl) λK hK => ?_;conv=>whnf
               refine ⟨oo, ?_⟩;conv=>whnf
               refine hK _ (W.cond ⟨λh6 => ?_, λh6 => ?_⟩) <;> clear hK
               · have h6 : j < 2 * n := by have := of_decide_eq_true h6; omega
                 clear fin9;obtain ⟨la, hla1, hla2, hla3⟩ := hM.row i h3;obtain ⟨lb, hlb1, hlb2, hlb3⟩ := hM.row a ha
                 have e1 : la.getD j 0 = R i j := by
                   have := hla3 j h6;have this : cf la j = if i = i ∧ j < j then (R i j - qf i * R a j) % p else xF p R qf a i i j := this
                   unfold xF at this;rw [if_neg (by omega), if_neg (by omega)] at this; exact this
                 have e2 : lb.getD j 0 = R a j := by
                   have := hlb3 j h6;have this : cf lb j = if a = i ∧ j < j then (R i j - qf i * R a j) % p else xF p R qf a i a j := this
                   unfold xF at this;rw [if_neg (by omega), if_neg (by omega)] at this; exact this
                 have hr1 := hR i j h3 h6;have hr2 := hR a j ha h6;have hmq : 0 <= qf i * R a j ∧ qf i * R a j <= 97 * 97 := ⟨Int.mul_nonneg hqi.1 hr2.1, Int.mul_le_mul (by omega) (by omega) hr2.1 (by omega)⟩
                 refine W.skip (hK7 _ ?_);clear hK7;refine W.seqK λK9 hK9 => W.block ?_;refine W.draw (zl _) follows (by rfl) ?_;conv=>whnf
                 refine ⟨oo, ?_⟩;conv=>whnf
                 refine ⟨oo, ?_⟩;conv=>whnf
                 refine ⟨oo, ?_⟩;conv=>whnf
                 rw [Int.toNat_natCast, Int.toNat_natCast];refine ⟨la, hla1, by omega, ?_⟩;conv=>whnf
                 refine ⟨oo, ?_⟩;conv=>whnf
                 refine ⟨oo, ?_⟩;conv=>whnf
                 rw [Int.toNat_natCast];refine ⟨lb, hlb1, by omega, ?_⟩;conv=>whnf
                 rw [Int.toNat_natCast, e1, e2];refine ⟨oo, ?_⟩;conv=>whnf
                 refine ⟨oo, ?_⟩;conv=>whnf
                 refine ⟨_, cxmF (vu _ p (by omega) (by omega) (by omega)), ?_⟩;conv=>whnf
                 refine ⟨oo, ?_⟩;conv=>whnf
                 refine ⟨la, hla1, by omega, ?_⟩;conv=>whnf
                 refine hK9 _ ?_;clear hK9;refine W.region (zl _) (by rfl) ?_;conv=>whnf
                 refine ⟨oo, ?_⟩;conv=>whnf
                 have h7 := (hM.store h3 h6 hla1 ((R i j - qf i * R a j) % p)).congr (R' := λk x => if k = i ∧ x < j + 1 then (R i x - qf i * R a x) % p else xF p R qf a i k x) λk x hk hx => by
                   show (if k = i ∧ x = j then (R i j - qf i * R a j) % p else if k = i ∧ x < j then (R i x - qf i * R a x) % p else xF p R qf a i k x) = _
                   by_cases c1 : k = i
                   · by_cases c2 : x = j
                     · subst c2; rw [if_pos ⟨c1, rfl⟩, if_pos ⟨c1, by omega⟩]
                     · by_cases c3 : x < j
                       · rw [if_neg (by omega), if_pos ⟨c1, c3⟩, if_pos ⟨c1, by omega⟩]
                       · rw [if_neg (by omega), if_neg (by omega), if_neg (by omega)]
                   · rw [if_neg (by omega), if_neg (by omega), if_neg (by omega)]
                 exact ze ⟨j + 1, _, by omega, h7, rfl, rfl⟩
               · have h6 : j = 2 * n := by have := of_decide_eq_false h6; omega
                 subst h6;refine W.exit (fin9 tb _ (hM.congr λk x hk hx => ?_) (by dsimp only; omega) ?_)
                 · show (if k = i ∧ x < 2 * n then (R i x - qf i * R a x) % p else xF p R qf a i k x) = _
                   by_cases c1 : k = i
                   · rw [if_pos ⟨c1, hx⟩]
                     unfold xF;rw [if_pos (by omega), c1]
                   · rw [if_neg (by omega)]
                     unfold xF
                     by_cases c2 : k < i ∧ k ≠ a
                     · rw [if_pos c2, if_pos (by omega)]
                     · rw [if_neg c2, if_neg (by omega)]
                 · clear fin9 hK7
                   repeat' first | refine And.intro ?_ ?_ | exact trivial | rfl | omega | assumption | exact .inl rfl | exact λ_ _ => rfl | exact λ_ _ h => h
         · obtain rfl : n = i := by have := of_decide_eq_false h3; omega
           have hM2 := hM.congr (R' := λk x => if k = a then R k x else (R k x - qf k * R a x) % p) λk x hk hx => by
             show xF p R qf a n k x = if k = a then R k x else (R k x - qf k * R a x) % p
             unfold xF
             by_cases c1 : k = a
             · rw [if_neg (by omega), if_pos c1]
             · rw [if_pos ⟨hk, c1⟩, if_neg c1]
           have hR2 : ∀ i x, i < n -> x < 2 * n -> 0 <= (if i = a then R i x else (R i x - qf i * R a x) % p) ∧ (if i = a then R i x else (R i x - qf i * R a x) % p) < p := λi x hi hx => by
             by_cases c1 : i = a
             · rw [if_pos c1]; exact hR i x hi hx
             · rw [if_neg c1]; exact ⟨Int.emod_nonneg _ (by omega), Int.emod_lt_of_pos _ (by omega)⟩
           have hH2 := hpiv.used (u' := λk => (if k = a then true else U k) = true) λk => by
             by_cases c1 : k = a
             · simp [c1]
             · simp [c1]
           refine W.exit (hK8 _ ?_);clear hK7 hK8;refine W.region (zl _) (by rfl) ?_;conv=>whnf
           refine ⟨oo, ?_⟩;conv=>whnf
           exact ze ⟨c + 1, bu, tb, _, λj => if j = a then true else U j, by omega, hM2, hR2, hH2, rfl, rfl⟩
     clear hK3;refine W.seqK λK7 hK7 => ?_;refine W.rs (zl _) (by rfl) λK hK => ?_;conv=>whnf
     refine hK _ (W.cond ⟨λh3 => ?_, λh3 => ?_⟩) <;> clear hK
     · have h3 : i < n := by have := of_decide_eq_true h3; omega
       obtain ⟨la, hla1, hla2, hla3⟩ := hM.row i h3;refine W.skip (hK7 _ ?_);clear hK7;refine W.seqK λK9 hK9 => W.block ?_
       -- the round's end
       have fin9 : (U i = true ∨ R i c = 0) -> ∀ s : S, base <= s.hs -> zB s.env [(0, .v (.int .i64 p)), (1, .v (.ints g f.l)), (5, .v (.int .i64 n)), (6, .ownV 22 1 ba n λj => .rf (bl j) (2 * n)), (11, .ownV 4 1 bu n λj => vU (U j)), (12, .v (.int .i64 c)), (13, .v (.int .i64 (-1))), (14, .v (.int .i64 i)), (vt, .tab tb)] -> K9 s := by
         intro h5 s h6 h7;refine hK9 _ (W.weak (t := ⟨[(0, .v (.int .i64 p)), (1, .v (.ints g f.l)), (5, .v (.int .i64 n)), (6, .ownV 22 1 ba n λj => .rf (bl j) (2 * n)), (11, .ownV 4 1 bu n λj => vU (U j)), (12, .v (.int .i64 c)), (13, .v (.int .i64 (-1))), (14, .v (.int .i64 i)), (vt, .tab tb)], base⟩) ⟨h6, h7⟩ (Nat.le_refl _) ?_);clear hK9 h6 h7;refine W.region (zl _) (by rfl) ?_;conv=>whnf
         refine ⟨oo, ?_⟩;conv=>whnf
         have h8 : ∀ j, j < i + 1 -> U j = true ∨ R j c = 0 := λj hj => by
           by_cases hji : j = i
           · subst hji; exact h5
           · exact hno j (by omega)
         exact ze ⟨i + 1, by omega, h8, rfl, rfl⟩
       clear hK9;refine W.rs (zl _) (by rfl) λK hK => ?_;conv=>whnf
       refine ⟨oo, ?_⟩;conv=>whnf
       have eU : (λj => vU (U j)) (i : Int).toNat = vU (U i) := by rw [Int.toNat_natCast]
       rw [eU];cases hU : U i
       · conv=>whnf
         refine ⟨λ_ => ?_, λh => absurd h (by decide)⟩;conv=>whnf
         refine ⟨oo, ?_⟩;conv=>whnf
         rw [Int.toNat_natCast];refine ⟨oo, ?_⟩;conv=>whnf
         rw [Int.toNat_natCast];refine ⟨la, hla1, by omega, ?_⟩;conv=>whnf
         have e1 : la.getD c 0 = R i c := hla3 c (by omega);rw [e1];refine hK _ (W.cond ⟨λh4 => ?_, λh4 => ?_⟩) <;> clear hK
         · have h4 : R i c ≠ 0 := of_decide_eq_true h4
           clear fin9;refine W.rs (zl _) (by rfl) λK hK => ?_;conv=>whnf
           refine hK _ ?_;clear hK;refine W.exit (fin i _ (.inr ⟨i, rfl, h3, hU, h4⟩) (by dsimp only; omega) ?_);clear fin;exact cvr
         · have h4 : ¬ R i c ≠ 0 := of_decide_eq_false h4
           refine W.skip (fin9 (.inr (by omega)) _ (by dsimp only; omega) ?_);clear fin9 fin;exact cvr
       · conv=>whnf
         refine hK _ (W.condF rfl (W.skip (fin9 (.inl hU) _ (by dsimp only; omega) ?_)));clear hK fin9 fin;exact cvr
     · obtain rfl : n = i := by have := of_decide_eq_false h3; omega
       refine W.exit (fin (-1) _ (.inl ⟨rfl, hno⟩) (by dsimp only; omega) ?_);clear fin hK7;exact cvr
   · obtain rfl : n = c := by have := of_decide_eq_false h2; omega
     refine W.exit (hK1 _ ?_);clear hK7 hK1
     have hrows : ∃ rows : Nat -> List Int, ∀ j, j < n -> tb (bl j) = some (rows j) ∧ (rows j).length = 2 * n ∧ ∀ x, x < 2 * n -> cf (rows j) x = R j x := ⟨λj => (tb (bl j)).getD [], λj hj => by
       obtain ⟨l, h3, h4, h5⟩ := hM.row j hj;exact ⟨by simp only [h3, Option.getD_some], by show ((tb (bl j)).getD []).length = _; rw [h3]; exact h4, by show ∀ x, x < 2 * n -> cf ((tb (bl j)).getD []) x = _; rw [h3]; exact h5⟩⟩
     obtain ⟨rows, hrows⟩ := hrows;refine W.thaw (i := 6) bl rows rfl rfl (λj hj => ⟨by rw [(hrows j hj).2.1], (hrows j hj).1⟩) ?_;refine W.weak (t := ⟨[(0, .v (.int .i64 p)), (1, .v (.ints g f.l)), (5, .v (.int .i64 n)), (6, .ownV 22 1 ba n λj => .ints none (rows j)), (11, .ownV 4 1 bu n λj => vU (U j)), (vt, .tab λ_ => none)], base⟩) ⟨by dsimp only; omega, by repeat' first | refine And.intro ?_ ?_ | exact trivial | rfl | omega | assumption | exact λ_ _ => rfl | exact λ_ _ h => h⟩ (Nat.le_refl _) ?_
     have hvk : ∀ k, k < n -> zx ((rows k).drop n) = (of p (mkL n λj => R k (n + j))).l := λk hk => by
       refine yx (xf _) (of p _).ok.2 λj => ?_;rw [xz, zmP, ym, xA]
       by_cases c1 : j < n
       · have := hR k (n + j) hk (by omega)
         rw [if_pos c1, (hrows k hk).2.2 _ (by omega), Int.emod_eq_of_lt this.1 this.2]
       · rw [if_neg c1, z1 (by have := (hrows k hk).2.1; omega)]; simp
     have hvd : ∀ k, dg (of p (mkL n λj => R k (n + j))) <= n := λk => by have := za0 (p := p) (mkL n λj => R k (n + j)); rw [zT] at this; exact this
     have hsm : ∀ (w : Nat -> Int) x, x < n -> zy (λj => w j * ke f n j x) n = zy (λj => cf (kI f j).l x * w j) n := λw x hx => xj λj _ => by
       unfold ke;rw [if_pos hx, Int.mul_comm]
     have hvb : ∀ k, k < n -> U k = false -> Ber f (of p (mkL n λj => R k (n + j))) := λk hk hu => by
       rw [zfB hf (hvd k)];intro x hx;rw [<- hsm _ x hx];have h3 := hH.free hk (by rw [hu]; decide) x hx;rw [<- h3];refine yy p λj hj => ?_;rw [ym, xA, if_pos hj, Int.mul_emod, Int.emod_emod_of_dvd _ (Int.dvd_refl p), <- Int.mul_emod]
     have hend : (∀ k, k < n -> U k = true ∨ dg (of p (mkL n λj => R k (n + j))) <= 1) -> ∀ w : Poly p, dg w <= n -> Ber f w -> dg w <= 1 := λh3 w hw hb => by
       refine zad λj hj => ?_
       by_cases c1 : j < n
       · have h4 := hH.all (w := cf w.l) (λx hx => by rw [hsm _ x hx]; exact (zfB hf hw).1 hb x hx) c1 (λk hk hu => by
           have h5 := (h3 k hk).resolve_left hu;have h6 : cf (of p (mkL n λj => R k (n + j))).l j = 0 := yj (by omega);rw [ym, xA, if_pos c1] at h6; exact h6)
         rw [jh] at h4; exact h4
       · exact yj (by omega)
     refine W.seqK λK1 hK1 => ?_;refine W.rs (zl _) (by rfl) λK hK => ?_;conv=>whnf
     refine hK _ (W.block (W.invE (λm e => ∃ (i : Nat), i <= n ∧ (∀ k, k < i -> U k = true ∨ dg (of p (mkL n λj => R k (n + j))) <= 1) ∧ m = n - i ∧ e = [(0, .v (.int .i64 p)), (5, .v (.int .i64 n)), (6, .ownV 22 1 ba n λj => .ints none (rows j)), (11, .ownV 4 1 bu n λj => vU (U j)), (19, .v (.int .i64 i)), (vt, .tab λ_ => none)]) _ _ ⟨0, Nat.zero_le _, λj hj => by omega, rfl, rfl⟩ (by dsimp only; omega) (by repeat' first | refine And.intro ?_ ?_ | exact trivial | rfl | omega | assumption | exact .inl rfl | exact λ_ _ => rfl | exact λ_ _ h => h) ?_));clear hK;rintro m2 e ⟨i, hi, hno, hm2, rfl⟩;refine W.seqK λK7 hK7 => ?_;refine W.rs (zl _) (by rfl) λK hK => ?_;conv=>whnf
     refine hK _ (W.cond ⟨λh3 => ?_, λh3 => ?_⟩) <;> clear hK
     · have h3 : i < n := by have := of_decide_eq_true h3; omega
       refine W.skip (hK7 _ ?_);clear hK7;refine W.seqK λK9 hK9 => W.block ?_;refine W.rs (zl _) (by rfl) λK hK => ?_;conv=>whnf
       refine ⟨oo, ?_⟩;conv=>whnf
       rw [Int.toNat_natCast];have hrl := (hrows i h3).2.1;refine ⟨⟨by omega, by omega, by omega⟩, ?_⟩;conv=>whnf
       rw [Int.toNat_natCast, Int.toNat_natCast, List.take_length];refine zv rfl (xP none ((rows i).drop n) (by rw [List.length_drop]; omega)) λhs_20 b_20 hh_20 hf_20 => ?_;try dsimp only at hh_20 hf_20
       conv=>whnf
       rw [hvk i h3];have hber := hvb i h3;have hvd' := hvd i;generalize hv : of p (mkL n λj => R i (n + j)) = v at hber hvd';have hvl : v.l.length = dg v := rfl;refine hK _ ?_;clear hK
       -- the round's end
       have fin9 : (U i = true ∨ dg v <= 1) -> ∀ s : S, base <= s.hs -> zB s.env [(0, .v (.int .i64 p)), (5, .v (.int .i64 n)), (6, .ownV 22 1 ba n λj => .ints none (rows j)), (11, .ownV 4 1 bu n λj => vU (U j)), (19, .v (.int .i64 i)), (vt, .tab λ_ => none)] -> K9 s := by
         intro h5 s h6 h7;refine hK9 _ (W.weak (t := ⟨[(0, .v (.int .i64 p)), (5, .v (.int .i64 n)), (6, .ownV 22 1 ba n λj => .ints none (rows j)), (11, .ownV 4 1 bu n λj => vU (U j)), (19, .v (.int .i64 i)), (vt, .tab λ_ => none)], base⟩) ⟨h6, h7⟩ (Nat.le_refl _) ?_);clear hK9 h6 h7;refine W.region (zl _) (by rfl) ?_;conv=>whnf
         refine ⟨oo, ?_⟩;conv=>whnf
         have h8 : ∀ k, k < i + 1 -> U k = true ∨ dg (of p (mkL n λj => R k (n + j))) <= 1 := λk hk => by
           by_cases c1 : k = i
           · subst c1; rw [hv]; exact h5
           · exact hno k (by omega)
         exact ze ⟨i + 1, by omega, h8, rfl, rfl⟩
       clear hK9;refine W.rs (zl _) (by rfl) λK hK => ?_;conv=>whnf
       refine ⟨oo, ?_⟩;conv=>whnf
       have eU : (λj => vU (U j)) (i : Int).toNat = vU (U i) := by rw [Int.toNat_natCast]
       rw [eU];cases hU : U i
       · conv=>whnf
         refine ⟨λ_ => ?_, λh => absurd h (by decide)⟩;conv=>whnf
         rw [hvl];refine hK _ (W.cond ⟨λh4 => ?_, λh4 => ?_⟩) <;> clear hK
         · have h4 := of_decide_eq_true h4
           clear fin9;refine W.weak (t := ⟨[(20, .v (.ints none v.l)), (vt, .tab λ_ => none)], base⟩) ⟨by dsimp only; omega, by repeat' first | refine And.intro ?_ ?_ | exact trivial | rfl | omega | assumption | exact .inl rfl | exact λ_ _ h => h⟩ (Nat.le_refl _) ?_;refine W.rs (zl _) (by rfl) λK hK => ?_;conv=>whnf
           refine hK _ (W.ret ?_);conv=>whnf
           exact ⟨.v (.ints none v.l), ⟨rfl, rfl⟩, trivial, v, rfl, .inl ⟨by omega, hvd', hber hU⟩⟩
         · have h4 := of_decide_eq_false h4
           refine W.skip (fin9 (.inr (by omega)) _ (by dsimp only; omega) ?_);clear fin9;exact cvr
       · conv=>whnf
         refine hK _ (W.condF rfl (W.skip (fin9 (.inl hU) _ (by dsimp only; omega) ?_)));clear hK fin9;exact cvr
     · obtain rfl : n = i := by have := of_decide_eq_false h3; omega
       refine W.exit (hK1 _ ?_);clear hK7 hK1;refine W.rs (zl _) (by rfl) λK hK => ?_;conv=>whnf
       refine hK _ (W.ret ?_);conv=>whnf
       exact ⟨.v (.ints none (0 : Poly p).l), rfl, trivial, 0, rfl, .inr ⟨rfl, hend hno⟩⟩


theorem zl2 {α : Type} {d : α} {L M : List α} {j : Nat} (h : j < L.length) : (L ++ M).getD j d = L.getD j d := by
 simp [List.getD_eq_getElem?_getD, List.getElem?_append, h]
theorem zl3 {α : Type} {d : α} {L M : List α} {j : Nat} : (L ++ M).getD (L.length + j) d = M.getD j d := by
 rw [List.getD_eq_getElem?_getD, List.getD_eq_getElem?_getD, List.getElem?_append_right (by omega), Nat.add_sub_cancel_left]

theorem zcj (p : Int) [SP p] : ∀ (d : Nat) (f : Poly p), dg f <= d -> d <= 400 -> Mon f -> Sqf f -> 2 <= dg f -> Fn Tryz.prog 234 [.int .i64 p, .ints none f.l] (λ_ _ z => ∃ P : List (Poly p), zaD f P ∧ z = .v (vPs P))
 | 0, f, hd, _, _, _, h2 => absurd h2 (by omega)
 | d + 1, f, hd, hd4, hm, hs, h2 => by
  have ih := zcj p d;have hp := Pr.two (p := p);have hp2 := SP.le (p := p);obtain ⟨n, hf⟩ : ∃ n, dg f = n + 1 := ⟨dg f - 1, by omega⟩
  refine zf (za [0, 1, 4, 5, 6, 7, 8, 14, 20, 34]) Tryz.func234 rfl (by decide) Tryz.ntmps234 (lb rfl) λbase => ?_;refine wrs λK hK => ?_;conv=>whnf
  refine hK _ (wrs λK hK => ?_);conv=>whnf
  refine yT rfl (zfV p none f n hf (by omega) (by omega)) ?_;rintro lo hi hi' z hl1 hl2 hl3 ⟨v, rfl, hv⟩ _;try dsimp only at hl1 hl2
  have hvl : v.l.length = dg v := rfl;conv=>whnf
  refine hK _ (W.seqK λK1 hK1 => wrs λK hK => ?_);conv=>whnf
  rw [hvl];refine hK _ (W.cond ⟨λh => ?_, λh => ?_⟩) <;> clear hK
  ·have h := of_decide_eq_true h;obtain ⟨rfl, hv2⟩ := hv.resolve_left (by omega)
   have hirr : Irr f := zgY hm.1 hs (dvd_refl f) h2 λw hw hb => ⟨cf w.l 0, by
    have := zfw (hv2 w (by omega) hb);rw [<- this];have e : w - w = 0 := by exact zj [w] (by rfl)
    rw [e]; exact dvd_zero f⟩
   have hP : zaD f [f] := ⟨by simp, λq => by
    rw [List.mem_singleton];exact ⟨λe => by rw [e]; exact ⟨hirr, hm, dvd_refl f⟩, λ⟨a, b, c⟩ => kF a hirr b hm c⟩⟩
   refine wrs λK hK => ?_;conv=>whnf
   refine ⟨⟨rfl, by decide, λx hx => by simp at hx; subst hx; exact ⟨rfl, rfl⟩⟩, ?_⟩;conv=>whnf
   intro b_2 hs_2 hh_2 hf_2;try dsimp only at hh_2 hf_2
   conv=>whnf
   refine hK _ (W.ret ?_);conv=>whnf
   exact ⟨.v (vPs [f]), ⟨.inl rfl, rfl, rfl, λi hi => by obtain rfl : i = 0 := (by omega); rfl⟩, ⟨trivial, λ_ _ => trivial⟩, [f], hP, rfl⟩
  ·have h := of_decide_eq_false h;obtain ⟨hv1, hv2, hv3⟩ := hv.resolve_right λe => by have h9 : dg v = 0 := (by rw [e.1]; exact zt); omega
   refine W.skip (hK1 _ ?_);clear hK1;refine wrs λK hK => ?_;conv=>whnf
   refine ⟨⟨rfl, by decide, λx hx => by simp at hx⟩, ?_⟩;conv=>whnf
   intro b_2 hs_2 hh_2 hf_2;try dsimp only at hh_2 hf_2
   conv=>whnf
   refine hK _ (W.seqK λK1 hK1 => wrs λK hK => ?_);conv=>whnf
   refine hK _ (W.block (W.invE (λm e => ∃ (s bO : Nat) (O : List (Poly p)), s <= p.toNat ∧ O.length <= s * 400 ∧ zba f v s O ∧ m = p.toNat - s ∧ e = [(0, .v (.int .i64 p)), (1, .v (.ints none f.l)), (5, .v (.ints none v.l)), (6, .ownV 22 1 bO O.length λj => .ints none (O.getD j 0).l), (7, .v (.int .i64 s))]) _ _ ⟨0, b_2, [], Nat.zero_le _, by simp, zba.start f v, rfl, rfl⟩ (by dsimp only; omega) (by repeat' first | refine And.intro ?_ ?_ | exact trivial | rfl | omega | assumption | exact .inl rfl | exact λ_ _ => rfl | exact λi hi => absurd hi (by omega)) ?_));clear hK;rintro m e ⟨s, bO, O, hs1, hOl, hO, hm', rfl⟩;refine W.seqK λK7 hK7 => wrs λK hK => ?_;conv=>whnf
   refine hK _ (W.cond ⟨λh3 => ?_, λh3 => ?_⟩) <;> clear hK
   ·have h3 : (s : Int) < p := of_decide_eq_true h3;have hless := zlK hf hv1 hv2 (s : Int);have hgm := za2 (f := f) (g := v - con p (s : Int)) (.inl hm.1);have hgs := hs.dvd (xB f (v - con p (s : Int)));have hst := λhd P hP => hO.step (P := P) h3 hd hP;have hsk := hO.skip
    have hsub : dg (v - con p (s : Int)) <= 1000 := by
     have := zdk v (con p (s : Int));have := jk (p := p) (s : Int);omega
    have hb1 : Bd 97 [(s : Int)] := λi => by
     cases i with
     | zero => rw [yt]; omega
     | succ i => rw [zA, yW]; omega
    refine W.skip (hK7 _ ?_);clear hK7;refine W.seqK λK8 hK8 => W.block ?_;refine wrs λK hK => ?_;conv=>whnf
    refine ⟨⟨rfl, by decide⟩, ?_⟩;conv=>whnf
    intro b_3 hs_3 hh_3 hf_3;try dsimp only at hh_3 hf_3
    conv=>whnf
    refine zv rfl (zkf none _ v.l [(s : Int)] (-1) (by omega) ((kM v).le (by omega)) (hb1.le (by omega)) (by omega) (by simp)) λhs_4 b_4 hh_4 hf_4 => ?_;try dsimp only at hh_4 hf_4
    conv=>whnf
    have esm : kD (-1) [(s : Int)] = [-(s : Int)] := by simp [kD]
    rw [esm]
    have hb2 : Bd 97 [-(s : Int)] := λi => by
     cases i with
     | zero => rw [yt]; omega
     | succ i => rw [zA, yW]; omega
    refine zv rfl (j2 p (by omega) (by omega) _ (zx (kC v.l [-(s : Int)])) (Bd.trim λi => by rw [v7]; have := kM v i; have := hb2 i; omega) (Nat.le_trans (vh _) (by rw [kC, zT]; simp; omega))) λhs_5 b_5 hh_5 hf_5 => ?_;try dsimp only at hh_5 hf_5
    conv=>whnf
    rw [zeU];refine zv rfl (j4 p none _ f (v - con p (s : Int)) (by omega) hsub) λhs_6 b_6 hh_6 hf_6 => ?_;try dsimp only at hh_6 hf_6
    conv=>whnf
    generalize gcd f (v - con p (s : Int)) = w at hless hgm hgs hst hsk;have hwl : w.l.length = dg w := rfl;refine hK _ ?_;clear hK
    have fin9 : ∀ (O' : List (Poly p)) (bO' : Nat) (s' : S), zba f v (s + 1) O' -> O'.length <= (s + 1) * 400 -> base <= s'.hs -> zB s'.env [(0, .v (.int .i64 p)), (1, .v (.ints none f.l)), (5, .v (.ints none v.l)), (6, .ownV 22 1 bO' O'.length λj => .ints none (O'.getD j 0).l), (7, .v (.int .i64 s))] -> K8 s' := by
     intro O' bO' s' h5 h55 h6 h7;refine hK8 _ (W.weak (t := ⟨[(0, .v (.int .i64 p)), (1, .v (.ints none f.l)), (5, .v (.ints none v.l)), (6, .ownV 22 1 bO' O'.length λj => .ints none (O'.getD j 0).l), (7, .v (.int .i64 s))], base⟩) ⟨h6, h7⟩ (Nat.le_refl _) ?_);clear hK8 h6 h7;refine wrg ?_;conv=>whnf
     refine ⟨oo, ?_⟩;conv=>whnf
     exact ze ⟨s + 1, bO', O', by omega, h55, h5, rfl, rfl⟩
    clear hK8;refine wrs λK hK => ?_;conv=>whnf
    rw [hwl];refine hK _ (W.cond ⟨λh4 => ?_, λh4 => ?_⟩) <;> clear hK
    ·have h4 := of_decide_eq_true h4;refine W.weak (t := ⟨[(0, .v (.int .i64 p)), (1, .v (.ints none f.l)), (5, .v (.ints none v.l)), (6, .ownV 22 1 bO O.length λj => .ints none (O.getD j 0).l), (7, .v (.int .i64 s)), (8, .v (.ints none w.l))], base⟩) ⟨by dsimp only; omega, by repeat' first | refine And.intro ?_ ?_ | exact trivial | rfl | omega | assumption | exact .inl rfl | exact λ_ _ => rfl⟩ (Nat.le_refl _) ?_;refine wrg ?_;conv=>whnf
     refine yT rfl (ih w (by omega) (by omega) hgm hgs (by omega)) ?_;rintro lo hi hi' z hl1 hl2 hl3 ⟨P, hP, rfl⟩ _;try dsimp only at hl1 hl2
     conv=>whnf
     have hPf := hP.few hgm.1;refine ⟨by omega, ?_⟩;conv=>whnf
     refine ⟨λj => .ints none ((O ++ P).getD j 0).l, λi hi => congrArg (λq : Poly p => V.ints none q.l) (zl2 hi), λj hj => congrArg (λq : Poly p => V.ints none q.l) zl3, ?_⟩;intro b_7 hs_7 hh_7 hf_7;try dsimp only at hh_7 hf_7
     conv=>whnf
     refine fin9 (O ++ P) b_7 _ (hst (by omega) P hP) (by rw [List.length_append]; omega) (by dsimp only; omega) ?_;clear fin9;rw [List.length_append];exact cvr
    ·have h4 := of_decide_eq_false h4;refine W.skip (fin9 O bO _ (hsk (by omega)) (by omega) (by dsimp only; omega) ?_);clear fin9;exact cvr
   ·obtain rfl : s = p.toNat := by have := of_decide_eq_false h3; omega
    refine W.exit (hK1 _ ?_);clear hK7 hK1;refine wrs λK hK => ?_;conv=>whnf
    refine hK _ (W.ret ?_);conv=>whnf
    exact ⟨.v (vPs O), ⟨rfl, rfl, rfl, λ_ _ => rfl⟩, ⟨trivial, λ_ _ => trivial⟩, O, hO.fin hm h2 hv3, rfl⟩


theorem zkk (p : Int) [SP p] (g : Option Nat) (G : List (Poly p × Nat)) (f : Poly p) (n : Nat) (hG : G.length <= 1000) (hGd : ∀ x ∈ G, dg x.1 <= 1000000) (hf : dg f <= 1000000) :
  Fn Tryz.prog 235 [.vals g 2 G.length λj => vF (G.getD j (0, 0)), .ints none f.l, .int .i64 n] (λ_ _ z => ∃ k b, k <= G.length ∧ (∀ j, j < k -> ltP (G.getD j (0, 0)).1 f) ∧ (k = G.length ∨ ¬ ltP (G.getD k (0, 0)).1 f) ∧
   z = .ownV 145 2 b (G.length + 1) λj => vF ((zP G k (f, n)).getD j (0, 0))) := by
 refine zf (za [0, 1, 2, 6, 7, 21]) Tryz.func235 rfl (by decide) Tryz.ntmps235 (lb rfl) λbase => ?_;refine wrs λK hK => ?_;conv=>whnf
 refine hK _ (wrs λK hK => ?_);conv=>whnf
 refine hK _ ?_;clear hK;refine W.seqK λK1 hK1 => W.block (W.invA (λm e => ∃ k, k <= G.length ∧ (∀ j, j < k -> ltP (G.getD j (0, 0)).1 f) ∧ m = G.length - k ∧ e = [(0, .v (.vals g 2 G.length λj => vF (G.getD j (0, 0)))), (1, .v (.ints none f.l)), (2, .v (.int .i64 n)), (7, .v (.int .i64 k))]) ⟨0, Nat.zero_le _, λj hj => by omega, rfl, rfl⟩ ?_);rintro m e ⟨k, h1, h2, hm, rfl⟩
 have fin : ∀ s : S, base <= s.hs -> (k = G.length ∨ ¬ ltP (G.getD k (0, 0)).1 f) -> zB s.env [(0, .v (.vals g 2 G.length λj => vF (G.getD j (0, 0)))), (1, .v (.ints none f.l)), (2, .v (.int .i64 n)), (7, .v (.int .i64 k))] -> K1 s := by
  intro s h5 h6 h7;refine hK1 _ (W.weak (t := ⟨[(0, .v (.vals g 2 G.length λj => vF (G.getD j (0, 0)))), (1, .v (.ints none f.l)), (2, .v (.int .i64 n)), (7, .v (.int .i64 k))], base⟩) ⟨h5, h7⟩ (Nat.le_refl _) ?_);clear hK1 h5 h7;refine W.seqK λK2 hK2 => W.sch follows ?_;refine wt 1 ?_;conv=>whnf
  refine wt 2 ?_;conv=>whnf
  refine wt 3 ?_;conv=>whnf
  refine ⟨⟨by omega, by omega, by omega⟩, ?_⟩;conv=>whnf
  refine wt 5 ?_;conv=>whnf
  refine wt 6 ?_;conv=>whnf
  refine wt 7 ?_;conv=>whnf
  refine wt 10 ?_;conv=>whnf
  refine wt 11 ?_;conv=>whnf
  refine wt 12 ?_;conv=>whnf
  refine ⟨⟨by omega, by omega, by omega⟩, ?_⟩;conv=>whnf
  refine Wany.all (za []) (by rfl) (rs := [0, 8]) (by kernel_rfl) (by decide) ?_;intro i hi;simp only [List.mem_cons, List.not_mem_nil, or_false] at hi
  rcases hi with rfl | rfl <;> refine ⟨_, by rfl, by rfl, ?_⟩ <;> conv=>whnf
  ·refine ⟨⟨rfl, by decide, λx hx => by simp at hx⟩, ?_⟩;conv=>whnf
   intro b_0 hs_0 hh_0 hf_0;try dsimp only at hh_0 hf_0
   conv=>whnf
   refine Wany.all (za []) (by rfl) (rs := [4, 8]) (by kernel_rfl) (by decide) ?_;intro i hi;simp only [List.mem_cons, List.not_mem_nil, or_false] at hi
   rcases hi with rfl | rfl <;> refine ⟨_, by rfl, by rfl, ?_⟩ <;> conv=>whnf
   ·refine ⟨by omega, ?_⟩;conv=>whnf
    refine ⟨λj => vF ((zP G k (f, n)).getD j (0, 0)), λi hi => absurd hi (by omega), λj hj => congrArg vF ((congrArg (λi => (zP G k (f, n)).getD i (0, 0)) (by omega : 0 + j = j)).trans ((zdF h1 (by omega)).trans (congrArg (λi => G.getD i (0, 0)) (by omega)))), ?_⟩;intro b_4 hs_4 hh_4 hf_4;try dsimp only at hh_4 hf_4
    conv=>whnf
    refine Wany.all (za []) (by rfl) (rs := [8]) (by kernel_rfl) (by decide) ?_;intro i hi;simp only [List.mem_cons, List.not_mem_nil, or_false] at hi
    rcases hi with rfl <;> refine ⟨_, by rfl, by rfl, ?_⟩ <;> conv=>whnf
    refine ⟨⟨rfl, by decide, λx hx => by simp at hx; subst hx; exact ⟨rfl, rfl⟩⟩, ?_⟩;conv=>whnf
    intro b_8 hs_8 hh_8 hf_8;try dsimp only at hh_8 hf_8
    conv=>whnf
    refine Wany.all (za []) (by rfl) (rs := [9]) (by kernel_rfl) (by decide) ?_;intro i hi;simp only [List.mem_cons, List.not_mem_nil, or_false] at hi
    rcases hi with rfl <;> refine ⟨_, by rfl, by rfl, ?_⟩ <;> conv=>whnf
    refine ⟨by omega, ?_⟩;conv=>whnf
    refine ⟨λj => vF ((zP G k (f, n)).getD j (0, 0)), λi hi => rfl, λj hj => (congrArg vF ((congrArg (λi => (zP G k (f, n)).getD i (0, 0)) (by omega : 0 + ((k : Int) - 0).toNat + j = k)).trans (zdG h1))).trans (by obtain rfl : j = 0 := (by omega); rfl), ?_⟩;intro b_9 hs_9 hh_9 hf_9;try dsimp only at hh_9 hf_9
    conv=>whnf
    refine Wany.all (za []) (by rfl) (rs := [13]) (by kernel_rfl) (by decide) ?_;intro i hi;simp only [List.mem_cons, List.not_mem_nil, or_false] at hi
    rcases hi with rfl <;> refine ⟨_, by rfl, by rfl, ?_⟩ <;> conv=>whnf
    refine ⟨by omega, ?_⟩;conv=>whnf
    refine ⟨λj => vF ((zP G k (f, n)).getD j (0, 0)), λi hi => rfl, λj hj => congrArg vF ((congrArg (λi => (zP G k (f, n)).getD i (0, 0)) (by omega : 0 + ((k : Int) - 0).toNat + 1 + j = k + 1 + j)).trans ((zdH h1).trans (congrArg (λi => G.getD i (0, 0)) (by omega)))), ?_⟩;intro b_13 hs_13 hh_13 hf_13;try dsimp only at hh_13 hf_13
    conv=>whnf
    refine Wany.all (za []) (by rfl) (rs := [14]) (by kernel_rfl) (by decide) ?_;intro i hi;simp only [List.mem_cons, List.not_mem_nil, or_false] at hi
    rcases hi with rfl <;> refine ⟨_, by rfl, by rfl, ?_⟩ <;> conv=>whnf
    refine wd1 (hK2 _ ?_);clear hK2;refine W.ret ?_;conv=>whnf
    exact ⟨.ownV 145 2 _ (G.length + 1) λj => vF ((zP G k (f, n)).getD j (0, 0)), ⟨rfl, rfl, rfl, by omega, λ_ _ => rfl⟩, λ_ _ => ⟨trivial, trivial, trivial⟩, k, _, h1, h2, h6, rfl⟩
   ·refine ⟨⟨rfl, by decide, λx hx => by simp at hx; subst hx; exact ⟨rfl, rfl⟩⟩, ?_⟩;conv=>whnf
    intro b_8 hs_8 hh_8 hf_8;try dsimp only at hh_8 hf_8
    conv=>whnf
    refine Wany.all (za []) (by rfl) (rs := [4]) (by kernel_rfl) (by decide) ?_;intro i hi;simp only [List.mem_cons, List.not_mem_nil, or_false] at hi
    rcases hi with rfl <;> refine ⟨_, by rfl, by rfl, ?_⟩ <;> conv=>whnf
    refine ⟨by omega, ?_⟩;conv=>whnf
    refine ⟨λj => vF ((zP G k (f, n)).getD j (0, 0)), λi hi => absurd hi (by omega), λj hj => congrArg vF ((congrArg (λi => (zP G k (f, n)).getD i (0, 0)) (by omega : 0 + j = j)).trans ((zdF h1 (by omega)).trans (congrArg (λi => G.getD i (0, 0)) (by omega)))), ?_⟩;intro b_4 hs_4 hh_4 hf_4;try dsimp only at hh_4 hf_4
    conv=>whnf
    refine Wany.all (za []) (by rfl) (rs := [9]) (by kernel_rfl) (by decide) ?_;intro i hi;simp only [List.mem_cons, List.not_mem_nil, or_false] at hi
    rcases hi with rfl <;> refine ⟨_, by rfl, by rfl, ?_⟩ <;> conv=>whnf
    refine ⟨by omega, ?_⟩;conv=>whnf
    refine ⟨λj => vF ((zP G k (f, n)).getD j (0, 0)), λi hi => rfl, λj hj => (congrArg vF ((congrArg (λi => (zP G k (f, n)).getD i (0, 0)) (by omega : 0 + ((k : Int) - 0).toNat + j = k)).trans (zdG h1))).trans (by obtain rfl : j = 0 := (by omega); rfl), ?_⟩;intro b_9 hs_9 hh_9 hf_9;try dsimp only at hh_9 hf_9
    conv=>whnf
    refine Wany.all (za []) (by rfl) (rs := [13]) (by kernel_rfl) (by decide) ?_;intro i hi;simp only [List.mem_cons, List.not_mem_nil, or_false] at hi
    rcases hi with rfl <;> refine ⟨_, by rfl, by rfl, ?_⟩ <;> conv=>whnf
    refine ⟨by omega, ?_⟩;conv=>whnf
    refine ⟨λj => vF ((zP G k (f, n)).getD j (0, 0)), λi hi => rfl, λj hj => congrArg vF ((congrArg (λi => (zP G k (f, n)).getD i (0, 0)) (by omega : 0 + ((k : Int) - 0).toNat + 1 + j = k + 1 + j)).trans ((zdH h1).trans (congrArg (λi => G.getD i (0, 0)) (by omega)))), ?_⟩;intro b_13 hs_13 hh_13 hf_13;try dsimp only at hh_13 hf_13
    conv=>whnf
    refine Wany.all (za []) (by rfl) (rs := [14]) (by kernel_rfl) (by decide) ?_;intro i hi;simp only [List.mem_cons, List.not_mem_nil, or_false] at hi
    rcases hi with rfl <;> refine ⟨_, by rfl, by rfl, ?_⟩ <;> conv=>whnf
    refine wd1 (hK2 _ ?_);clear hK2;refine W.ret ?_;conv=>whnf
    exact ⟨.ownV 145 2 _ (G.length + 1) λj => vF ((zP G k (f, n)).getD j (0, 0)), ⟨rfl, rfl, rfl, by omega, λ_ _ => rfl⟩, λ_ _ => ⟨trivial, trivial, trivial⟩, k, _, h1, h2, h6, rfl⟩
  ·refine ⟨⟨rfl, by decide, λx hx => by simp at hx; subst hx; exact ⟨rfl, rfl⟩⟩, ?_⟩;conv=>whnf
   intro b_8 hs_8 hh_8 hf_8;try dsimp only at hh_8 hf_8
   conv=>whnf
   refine Wany.all (za []) (by rfl) (rs := [0]) (by kernel_rfl) (by decide) ?_;intro i hi;simp only [List.mem_cons, List.not_mem_nil, or_false] at hi
   rcases hi with rfl <;> refine ⟨_, by rfl, by rfl, ?_⟩ <;> conv=>whnf
   refine ⟨⟨rfl, by decide, λx hx => by simp at hx⟩, ?_⟩;conv=>whnf
   intro b_0 hs_0 hh_0 hf_0;try dsimp only at hh_0 hf_0
   conv=>whnf
   refine Wany.all (za []) (by rfl) (rs := [4]) (by kernel_rfl) (by decide) ?_;intro i hi;simp only [List.mem_cons, List.not_mem_nil, or_false] at hi
   rcases hi with rfl <;> refine ⟨_, by rfl, by rfl, ?_⟩ <;> conv=>whnf
   refine ⟨by omega, ?_⟩;conv=>whnf
   refine ⟨λj => vF ((zP G k (f, n)).getD j (0, 0)), λi hi => absurd hi (by omega), λj hj => congrArg vF ((congrArg (λi => (zP G k (f, n)).getD i (0, 0)) (by omega : 0 + j = j)).trans ((zdF h1 (by omega)).trans (congrArg (λi => G.getD i (0, 0)) (by omega)))), ?_⟩;intro b_4 hs_4 hh_4 hf_4;try dsimp only at hh_4 hf_4
   conv=>whnf
   refine Wany.all (za []) (by rfl) (rs := [9]) (by kernel_rfl) (by decide) ?_;intro i hi;simp only [List.mem_cons, List.not_mem_nil, or_false] at hi
   rcases hi with rfl <;> refine ⟨_, by rfl, by rfl, ?_⟩ <;> conv=>whnf
   refine ⟨by omega, ?_⟩;conv=>whnf
   refine ⟨λj => vF ((zP G k (f, n)).getD j (0, 0)), λi hi => rfl, λj hj => (congrArg vF ((congrArg (λi => (zP G k (f, n)).getD i (0, 0)) (by omega : 0 + ((k : Int) - 0).toNat + j = k)).trans (zdG h1))).trans (by obtain rfl : j = 0 := (by omega); rfl), ?_⟩;intro b_9 hs_9 hh_9 hf_9;try dsimp only at hh_9 hf_9
   conv=>whnf
   refine Wany.all (za []) (by rfl) (rs := [13]) (by kernel_rfl) (by decide) ?_;intro i hi;simp only [List.mem_cons, List.not_mem_nil, or_false] at hi
   rcases hi with rfl <;> refine ⟨_, by rfl, by rfl, ?_⟩ <;> conv=>whnf
   refine ⟨by omega, ?_⟩;conv=>whnf
   refine ⟨λj => vF ((zP G k (f, n)).getD j (0, 0)), λi hi => rfl, λj hj => congrArg vF ((congrArg (λi => (zP G k (f, n)).getD i (0, 0)) (by omega : 0 + ((k : Int) - 0).toNat + 1 + j = k + 1 + j)).trans ((zdH h1).trans (congrArg (λi => G.getD i (0, 0)) (by omega)))), ?_⟩;intro b_13 hs_13 hh_13 hf_13;try dsimp only at hh_13 hf_13
   conv=>whnf
   refine Wany.all (za []) (by rfl) (rs := [14]) (by kernel_rfl) (by decide) ?_;intro i hi;simp only [List.mem_cons, List.not_mem_nil, or_false] at hi
   rcases hi with rfl <;> refine ⟨_, by rfl, by rfl, ?_⟩ <;> conv=>whnf
   refine wd1 (hK2 _ ?_);clear hK2;refine W.ret ?_;conv=>whnf
   exact ⟨.ownV 145 2 _ (G.length + 1) λj => vF ((zP G k (f, n)).getD j (0, 0)), ⟨rfl, rfl, rfl, by omega, λ_ _ => rfl⟩, λ_ _ => ⟨trivial, trivial, trivial⟩, k, _, h1, h2, h6, rfl⟩
 refine W.seqK λK7 hK7 => wrs λK hK => ?_;conv=>whnf
 refine ⟨λh3 => ?_, λh3 => ?_⟩ <;> conv=>whnf
 ·have h3 := of_decide_eq_true h3;have hx : (G.getD k (0, 0)) ∈ G := by rw [List.getD_eq_getElem?_getD, List.getElem?_eq_getElem (by omega)]; exact List.getElem_mem (by omega)
  have hx2 := hGd _ hx;refine ⟨oo, ?_⟩;conv=>whnf
  rw [Int.toNat_natCast];refine zc rfl (zej none none (G.getD k (0, 0)).1.l f.l hx2 hf) λhs' hhs => ?_;try dsimp only at hhs
  conv=>whnf
  refine hK _ (W.cond ⟨λh => ?_, λh => ?_⟩) <;> clear hK
  ·have h := (zcE _ _).1 (of_decide_eq_true h);refine W.skip (hK7 _ (W.block ?_));clear hK7 fin;refine wrg ?_;conv=>whnf
   refine ⟨oo, ?_⟩;conv=>whnf
   exact ze ⟨k + 1, by omega, λj hj => by by_cases h9 : j = k; (subst h9; exact h); exact h2 j (by omega), rfl, rfl⟩
  ·have h := λh9 => of_decide_eq_false h ((zcE _ _).2 h9);refine W.exit (fin _ (by dsimp only; omega) (.inr h) ?_);clear fin hK7;exact cvr
 ·have h3 := of_decide_eq_false h3;refine hK _ (W.condF rfl ?_);clear hK;refine W.exit (fin _ (by dsimp only; omega) (.inl (by omega)) ?_);clear fin hK7;exact cvr


theorem znd {p : Int} [SP p] (f : Poly p) (hf : dg f <= 1000) : Bd 4611686018427387904 (mkL (f.l.length - 1) (dv (cf f.l))) := λj => by
 have hp2 := SP.le (p := p);rw [xA]
 split
 ·rename_i hj
  have hfl : f.l.length = dg f := rfl;have hc := kL f (j + 1);have h8 := Int.mul_nonneg (by omega : (0 : Int) <= (j : Int) + 1) hc.1;have h9 := Int.mul_le_mul (by omega : (j : Int) + 1 <= 1000) (by omega : cf f.l (j + 1) <= 97) hc.1 (by omega);unfold dv;omega
 ·omega

theorem jJ (p : Int) [SP p] (g : Option Nat) (f : Poly p) (hf : dg f <= 1000) : FnI 197 [.int .i64 p, .ints g f.l] (der f).l := by
 have hp := Pr.two (p := p);have hp2 := SP.le (p := p);have hfl : f.l.length = dg f := rfl;refine zf (za [0, 1, 4]) Tryz.func197 rfl (by decide) Tryz.ntmps197 (lb rfl) λbase => ?_;refine wrs λK hK => ?_;conv=>whnf
 refine hK _ (wrs λK hK => ?_);conv=>whnf
 refine zc rfl (zbP _ f.l ((kM f).le (by omega)) (by omega)) λhs' hhs => ?_;try dsimp only at hhs
 conv=>whnf
 refine zv rfl (j2 p (by omega) (by omega) none (mkL (f.l.length - 1) (dv (cf f.l))) (znd f hf) (by rw [zT]; omega)) λhs_2 b_2 hh_2 hf_2 => ?_;try dsimp only at hh_2 hf_2
 conv=>whnf
 rw [zlJ];refine hK _ (W.ret ?_);conv=>whnf
 exact ⟨.ownI 2 _ ((der f).l), ⟨rfl, rfl, rfl⟩, trivial, _, rfl⟩

theorem zbh (p : Int) [SP p] : ∀ (d : Nat) (g : Option Nat) (f : Poly p) (t : Nat) (G : List (Poly p × Nat)), dg f <= d -> d <= 13 -> Mon f -> t <= 13 ^ (13 - d) -> Srt G -> (∀ x ∈ G, ¬ x.1 ∣ f ∧ dg x.1 <= 13) -> G.length + 20 * d <= 600 ->
  Fn Tryz.prog 223 [.int .i64 p, .ints g f.l, .int .i64 t, .vals none 2 G.length λj => vF (G.getD j (0, 0))] (λ_ _ z => ∃ G', PutOf f t G G' ∧ z = .v (vFs G'))
 | 0, g, f, t, G, hd, _, hm, _, _, _, _ => absurd (zd.1 (by omega)) hm.1
 | d + 1, g, f, t, G, hd, hd13, hm, ht, hS, hG, hl => by
  have ih := zbh p d;have hp := Pr.two (p := p);have hp2 := SP.le (p := p);have hfl : f.l.length = dg f := rfl;have hf0 : dg f ≠ 0 := λe => hm.1 (zd.1 e);have htb : t <= 13 ^ 13 := Nat.le_trans ht (Nat.pow_le_pow_right (by omega) (by omega))
  have ht2 : 13 * t <= 13 ^ (13 - d) := by
   have e : 13 - d = (13 - (d + 1)) + 1 := by omega
   rw [e, Nat.pow_succ, Nat.mul_comm];exact Nat.mul_le_mul_right _ ht
  have htb : t <= 302875106592253 := htb;refine zf (za [0, 1, 2, 3, 8, 9, 10, 11, 12, 14, 15, 16, 17, 18, 21, 28, 33, 67, 82]) Tryz.func223 rfl (by decide) Tryz.ntmps223 (lb rfl) λbase => ?_;refine wrs λK hK => ?_;conv=>whnf
  refine hK _ (W.seqK λK1 hK1 => wrs λK hK => ?_);conv=>whnf
  rw [hfl];refine hK _ (W.cond ⟨λh => ?_, λh => ?_⟩) <;> clear hK
  ·have h := of_decide_eq_true h;refine wrs λK hK => ?_;conv=>whnf
   refine hK _ (W.ret ?_);conv=>whnf
   exact ⟨.v (vFs G), ⟨rfl, rfl, rfl, λ_ _ => rfl⟩, ⟨trivial, λ_ _ => ⟨trivial, trivial, trivial⟩⟩, G, PutOf.unit (by omega) hS, rfl⟩
  have h := of_decide_eq_false h;refine W.skip (hK1 _ ?_);clear hK1;refine wrs λK hK => ?_;conv=>whnf
  refine zv rfl (jJ p g f (by omega)) λhs_1 b_1 hh_1 hf_1 => ?_;try dsimp only at hh_1 hf_1
  conv=>whnf
  refine hK _ ?_;clear hK;refine W.seqK λK1 hK1 => ?_;have hdl : (der f).l.length = dg (der f) := rfl;refine wrs λK hK => ?_;conv=>whnf
  rw [hdl];refine hK _ (W.cond ⟨λh1 => ?_, λh1 => ?_⟩) <;> clear hK
  ·have h1 := of_decide_eq_true h1;have hder : der f = 0 := zd.1 (by omega);refine wrs λK hK => ?_;conv=>whnf
   refine ⟨⟨rfl, by decide⟩, ?_⟩;conv=>whnf
   intro b_2 hs_2 hh_2 hf_2;try dsimp only at hh_2 hf_2
   conv=>whnf
   refine hK _ (W.seqK λK3 hK3 => wrs λK hK => ?_);conv=>whnf
   refine hK _ (W.block (W.invE (λm e => ∃ (k bR : Nat), (m = dg f + p.toNat - k * p.toNat) ∧ k * p.toNat < dg f + p.toNat ∧ e = [(0, .v (.int .i64 p)), (1, .v (.ints g f.l)), (2, .v (.int .i64 t)), (3, .v (.vals none 2 G.length λj => vF (G.getD j (0, 0)))), (10, .ownI 2 bR (mkL k λi => cf f.l (i * p.toNat))), (11, .v (.int .i64 ((k * p.toNat : Nat) : Int)))]) _ _ ⟨0, b_2, rfl, by omega, rfl⟩ (by dsimp only; omega) (by repeat' first | refine And.intro ?_ ?_ | exact trivial | rfl | omega | assumption | exact .inl rfl | exact .inr rfl | exact λ_ _ => rfl) ?_));clear hK;rintro m e ⟨k, bR, hm', hk, rfl⟩;have hpn : ((p.toNat : Nat) : Int) = p := by omega
   have hk1 : (k + 1) * p.toNat = k * p.toNat + p.toNat := Nat.succ_mul _ _;have hk2 : (((k + 1) * p.toNat : Nat) : Int) = ((k * p.toNat : Nat) : Int) + p := by omega
   have hcfk : cf f.l (k * p.toNat) = cf f.l (k * p.toNat) := rfl;generalize hkp : k * p.toNat = kp at hm' hk hk1 hk2 hcfk;refine W.seqK λK7 hK7 => wrs λK hK => ?_;conv=>whnf
   rw [hfl];refine hK _ (W.cond ⟨λh8 => ?_, λh8 => ?_⟩) <;> clear hK
   ·have h8 := of_decide_eq_true h8;refine W.skip (hK7 _ ?_);clear hK7;refine W.seqK λK8 hK8 => W.block ?_;refine wrg ?_;conv=>whnf
    refine ⟨oo, ?_⟩;conv=>whnf
    rw [Int.toNat_natCast];have hkk : k <= kp := by rw [<- hkp]; exact Nat.le_mul_of_pos_right k (by omega)
    have hml : (mkL k λi => cf f.l (i * p.toNat)).length = k := zT _ _;have hms : mkL (k + 1) (λi => cf f.l (i * p.toNat)) = mkL k (λi => cf f.l (i * p.toNat)) ++ [f.l.getD kp 0] := by rw [za6, hkp]; rfl
    refine ⟨⟨rfl, by decide⟩, ?_⟩;conv=>whnf
    intro b_4 hs_4 hh_4 hf_4;try dsimp only at hh_4 hf_4
    conv=>whnf
    refine ⟨by dsimp only [List.length]; omega, ?_⟩;conv=>whnf
    intro b_6 hs_6 hh_6 hf_6;try dsimp only at hh_6 hf_6
    conv=>whnf
    refine hK8 _ ?_;clear hK8;refine wrg ?_;conv=>whnf
    refine ⟨oo, ?_⟩;conv=>whnf
    refine ⟨_, _, ⟨k + 1, b_6, rfl, by omega, rfl⟩, by omega, by dsimp only; omega, ?_⟩;rw [hms];exact cvr
   ·have h8 := of_decide_eq_false h8;obtain ⟨R, hR1, hR2, hR3, hR4, hR5⟩ := zeW (f := f) hm hder (l := mkL k λi => cf f.l (i * p.toNat)) (n := k) (zT _ _) (λi hi => by rw [xA, if_pos hi]) (by omega) (by omega);rw [<- hR1];have hRd := hR5 (by omega);have hpf := zlL hR2 hR3 (by omega);have hpt : ((p.toNat * t : Nat) : Int) = p * (t : Int) := by rw [Int.natCast_mul, hpn]
    have hpt1 : p.toNat * t <= 13 * t := Nat.mul_le_mul_right _ (by omega);refine W.exit (hK3 _ ?_);clear hK7 hK3;refine W.weak (t := ⟨[(0, .v (.int .i64 p)), (2, .v (.int .i64 t)), (3, .v (.vals none 2 G.length λj => vF (G.getD j (0, 0)))), (10, .v (.ints none R.l))], base⟩) ⟨by dsimp only; omega, by repeat' first | refine And.intro ?_ ?_ | exact trivial | rfl | omega | assumption | exact .inl rfl | exact .inr rfl | exact λ_ _ => rfl⟩ (Nat.le_refl _) ?_;refine wrs λK hK => ?_;conv=>whnf
    rw [<- hpt];refine ⟨oo, ?_⟩;conv=>whnf
    refine yT rfl (ih none R (p.toNat * t) G (by omega) (by omega) hR2 (by omega) hS (λx hx => ⟨λhd9 => (hG x hx).1 (zp hd9 (by rw [<- hR3]; exact zhb (by omega))), (hG x hx).2⟩) (by omega)) ?_;rintro lo hi hi' z hl1 hl2 hl3 ⟨G', hG', rfl⟩ _;try dsimp only at hl1 hl2
    conv=>whnf
    refine hK _ (W.ret ?_);conv=>whnf
    exact ⟨.v (vFs G'), ⟨rfl, rfl, rfl, λ_ _ => rfl⟩, ⟨trivial, λ_ _ => ⟨trivial, trivial, trivial⟩⟩, G', PutOf.root hR2.1 (by omega) hR3 hG', rfl⟩
  ·have h1 := of_decide_eq_false h1;refine W.skip (hK1 _ ?_);clear hK1;have hd0 : der f ≠ 0 := λe => by rw [e, zt] at h1; omega
   obtain ⟨s1, s2, s3, s4, s5, s6, s7⟩ := zji hm hd0;refine wrs λK hK => ?_;conv=>whnf
   refine zv rfl (j4 p _ _ f (der f) (by omega) (by have := kG hm.1; omega)) λhs_3 b_3 hh_3 hf_3 => ?_;try dsimp only at hh_3 hf_3
   conv=>whnf
   refine zc rfl (vj p _ _ f (gcd f (der f)) (by omega) (by have := zD s6 hd0; have := kG hm.1; omega) s7) λhs' hhs => ?_;try dsimp only at hhs
   conv=>whnf
   generalize hq : quo f (gcd f (der f)) = q at s1 s2 s3 s4 s5;generalize gcd f (der f) = c at s1 s6 s7;refine hK _ (wrs λK hK => ?_);conv=>whnf
   refine yT rfl (zcj p 400 q (by omega) (by omega) s2 s3 s4) ?_;rintro lo hi hi' z hl1 hl2 hl3 ⟨P, hP, rfl⟩ _;have hPf := hP.few (f := q) s2.1;try dsimp only at hl1 hl2
   conv=>whnf
   refine hK _ (W.seqK λK1 hK1 => wrs λK hK => ?_);conv=>whnf
   refine hK _ (W.block (W.invE (λm e => ∃ (k : Nat) (g1 : Option Nat) (r : Poly p) (L H : List (Poly p × Nat)), Putting f P t G k r L H ∧ dg r <= dg f ∧ m = P.length - k ∧ (∀ x ∈ H, dg x.1 <= 13) ∧ e = [(0, .v (.int .i64 p)), (1, .v (.ints g1 r.l)), (2, .v (.int .i64 t)), (3, .v (.vals none 2 H.length λj => vF (H.getD j (0, 0)))), (14, .v (vPs P)), (15, .v (.int .i64 k))]) _ _ ⟨0, g, f, [], G, Putting.start hm P t hS, Nat.le_refl _, rfl, λx hx => (hG x hx).2, rfl⟩ (by dsimp only; omega) (by repeat' first | refine And.intro ?_ ?_ | exact trivial | rfl | omega | assumption | exact .inl rfl | exact .inr rfl | exact λ_ _ => rfl) ?_));clear hK;rintro m e ⟨k, g1, r, L, H, hpu, hrd, hm', hH, rfl⟩;have hpe := hpu.peel;have hkl := hpe.le;have hlen := hpu.len;refine W.seqK λK7 hK7 => wrs λK hK => ?_;conv=>whnf
   refine hK _ (W.cond ⟨λh2 => ?_, λh2 => ?_⟩) <;> clear hK <;> (first | replace h2 := of_decide_eq_true h2 | replace h2 := of_decide_eq_false h2)
   ·have hmem : P.getD k 0 ∈ P := by rw [List.getD_eq_getElem?_getD, List.getElem?_eq_getElem (by omega)]; exact List.getElem_mem (by omega)
    obtain ⟨hgi, hgm, hgd⟩ := (hP.2 _).1 hmem;have hgd0 : P.getD k 0 ∣ f := zp hgd ⟨c, s1⟩;have hgdg := zD hgd0 hm.1;have step := λn i r' he hn => hpu.step (n := n) (i := i) (r' := r') (λx hx => (hG x hx).1) hP.1 (by omega) hgi hgm hgd0 he hn;generalize hgq : P.getD k 0 = q1 at hgi hgm hgd hgd0 hgdg step;refine W.skip (hK7 _ ?_);clear hK7;refine W.seqK λK8 hK8 => W.block ?_;refine wrs λK hK => ?_;conv=>whnf
    refine hK _ ?_;clear hK
    have hpow : ∀ {n : Nat} {rc : Poly p}, r = q1 ^ n * rc -> n < 14 ∧ rc ≠ 0 ∧ dg rc <= dg r := λ{n rc} he => by
     have h5 := kH hgi.1 n;have h6 := zD (⟨rc, he⟩ : q1 ^ n ∣ r) hpe.mon.1;have h7 : rc ∣ r := ⟨q1 ^ n, by rw [he]; exact vr _ _⟩
     exact ⟨by omega, zdl h7 hpe.mon.1, zD h7 hpe.mon.1⟩
    refine W.seqK λK2 hK2 => ?_;refine W.block (W.invE (λm e => ∃ (n : Nat) (g2 : Option Nat) (rc : Poly p), r = q1 ^ n * rc ∧ m = dg rc ∧ e = [(0, .v (.int .i64 p)), (1, .v (.ints g2 rc.l)), (2, .v (.int .i64 t)), (3, .v (.vals none 2 H.length λj => vF (H.getD j (0, 0)))), (14, .v (vPs P)), (15, .v (.int .i64 k)), (16, .v (.int .i64 n))]) _ _ ⟨0, g1, r, by rw [zq]; exact zj [r] (by rfl), rfl, rfl⟩ (by dsimp only; omega) (by repeat' first | refine And.intro ?_ ?_ | exact trivial | rfl | omega | assumption | exact .inl rfl | exact .inr rfl | exact λ_ _ => rfl) ?_);rintro m2 e ⟨n, g2, rc, he, hm2, rfl⟩;obtain ⟨hn14, hrc0, hrcd⟩ := hpow he;have hreml : (rem rc q1).l.length = dg (rem rc q1) := rfl;refine W.block ?_;refine wrs λK hK => ?_;conv=>whnf
    refine ⟨oo, ?_⟩;conv=>whnf
    have e1 : (λj => V.ints none (P.getD j 0).l) (k : Int).toNat = .ints none q1.l := by rw [Int.toNat_natCast]; show V.ints none (P.getD k 0).l = _; rw [hgq]
    rw [e1];refine zc rfl (vj p _ _ rc q1 (by omega) (by omega) hgi.ne) λhs' hhs => ?_;try dsimp only at hhs
    conv=>whnf
    refine hK _ (W.seqK λK9 hK9 => wrs λK hK => ?_);conv=>whnf
    rw [hreml];refine hK _ (W.cond ⟨λh3 => ?_, λh3 => ?_⟩) <;> clear hK
    ·have h3 := of_decide_eq_true h3
     have hnd : ¬ q1 ∣ rc := λhd => by
      have := (kE hgi.ne).1 hd;have : dg (rem rc q1) = 0 := by rw [this]; exact zt
      omega
     refine W.exit (hK2 _ ?_);clear hK2 hK9;have hnt : ((n * t : Nat) : Int) = (n : Int) * (t : Int) := Int.natCast_mul _ _;have hnt1 : n * t <= 13 * t := Nat.mul_le_mul_right _ (by omega);have hnt2 : 13 * t <= 3937376385699289 := by omega
     refine wrg ?_;conv=>whnf
     refine ⟨oo, ?_⟩;conv=>whnf
     rw [e1];rw [<- hnt];refine ⟨oo, ?_⟩;conv=>whnf
     refine yT rfl (zkk p none H q1 (n * t) (by omega) (λx hx => by have := hH x hx; omega) (by omega)) ?_;rintro lo hi hi' z hl1 hl2 hl3 ⟨i, b, hi1, hi2, hi3, rfl⟩ _;try dsimp only at hl1 hl2
     conv=>whnf
     refine hK8 _ ?_;clear hK8;refine wrg ?_;conv=>whnf
     refine ⟨oo, ?_⟩;conv=>whnf
     have hpl : (zP H i (q1, n * t)).length = H.length + 1 := zbb hi1;refine ⟨_, _, ⟨k + 1, g2, rc, L ++ [(q1, n)], zP H i (q1, n * t), step n i rc he hnd hi1 hi2 hi3, by omega, rfl, λx hx => ?_, rfl⟩, by omega, by dsimp only; omega, ?_⟩
     ·rcases zbM.1 hx with rfl | hx
      ·show dg q1 <= 13
       omega
      ·exact hH x hx
     rw [hpl];exact cvr
    ·have h3 := of_decide_eq_false h3;have hrem : rem rc q1 = 0 := zd.1 (by omega)
     have hdiv : rc = quo rc q1 * q1 := by
      have h5 := ji rc q1;rw [hrem] at h5;have e : ∀ a : Poly p, a + 0 = a := λa => by exact zj [a] (by rfl)
      rw [e] at h5; exact h5
     have hq0 : quo rc q1 ≠ 0 := λe => hrc0 (by rw [hdiv, e]; exact zj [q1] (by rfl));have hdgq := yA hq0 hgi.ne;rw [<- hdiv] at hdgq;have hg2 := hgi.1;refine W.skip (hK9 _ ?_);clear hK9;refine wrs λK hK => ?_;conv=>whnf
     refine hK _ ?_;clear hK;refine wrg ?_;conv=>whnf
     refine ⟨oo, ?_⟩;conv=>whnf
     exact ze ⟨n + 1, none, quo rc q1, by rw [he, zh]; exact comb (q1 ^ n) hdiv (zj [rc, q1, quo rc q1, q1 ^ n] (by rfl)), rfl, rfl⟩
   ·obtain rfl : k = P.length := by omega
    have hrl := hpe.less hm hP s1 s4;refine W.exit (hK1 _ ?_);clear hK7 hK1;refine wrs λK hK => ?_;conv=>whnf
    refine yT rfl (ih g1 r t H (by omega) (by omega) hpe.mon (by omega) hpu.srt (λx hx => ⟨hpu.apart (λx hx => (hG x hx).1) x hx, hH x hx⟩) (by omega)) ?_;rintro lo hi hi' z hl1 hl2 hl3 ⟨G', hG', rfl⟩ _;try dsimp only at hl1 hl2
    conv=>whnf
    refine hK _ (W.ret ?_);conv=>whnf
    exact ⟨.v (vFs G'), ⟨rfl, rfl, rfl, λ_ _ => rfl⟩, ⟨trivial, λ_ _ => ⟨trivial, trivial, trivial⟩⟩, G', hpu.fin hm hP s1 s6 hG', rfl⟩

theorem Fn.args {P : Program} {f : Nat} {xs ys : List V} {post : zd5} (h : Fn P f ys post) (hl : xs.length = ys.length)
  (hr : ∀ j, j < xs.length -> ∀ (D : Nat -> Prop) (n : Nat) (hp : Array Obj) (v : Value), Rep (okF D (λ_ => False) n) hp (xs.getD j .nil) v -> Rep (okF D (λ_ => False) n) hp (ys.getD j .nil) v) : Fn P f xs post :=
 ⟨h.1, λD w vs hD hs hv => h.2 D w vs hD (hs.trans hl) λj hj => hr j (by omega) _ _ _ _ (hv j (by omega))⟩
theorem Rep.vals0 {ok : OkB} {hp : Array Obj} {g g' : Option Nat} {sz : Nat} {f f' : Nat -> V} {v : Value} (h : Rep ok hp (.vals g sz 0 f) v) : Rep ok hp (.vals g' sz 0 f') v := by
 cases h with
 | vals _ _ _ _ a cap hc hm hl hf c hx hr => exact .vals g' sz 0 f' a cap hc hm (λi hi => by omega) (λi hi => by omega) c (λi j hi => by omega) (λi j hi => by omega)

theorem zkl (p : Int) [SP p] (g : Option Nat) (f : Poly p) (hf : dg f <= 13) (hf0 : f ≠ 0) : Fn Tryz.prog 206 [.int .i64 p, .ints g f.l] (λ_ _ z => ∃ F, FacOf f F ∧ z = .v (vFs F)) := by
 have hmd : dg (mnc f) <= dg f := zD (z2 f).1 hf0;refine zf (za [0, 1, 4]) Tryz.func206 rfl (by decide) Tryz.ntmps206 (lb rfl) λbase => ?_;refine wrs λK hK => ?_;conv=>whnf
 refine hK _ (wrs λK hK => ?_);conv=>whnf
 refine zv rfl (zcf p g f (by omega)) λhs_1 b_1 hh_1 hf_1 => ?_;try dsimp only at hh_1 hf_1
 conv=>whnf
 refine ⟨⟨rfl, by decide, λx hx => by simp at hx⟩, ?_⟩;conv=>whnf
 intro b_2 hs_2 hh_2 hf_2;try dsimp only at hh_2 hf_2
 conv=>whnf
 refine yT rfl (Fn.args (ys := [.int .i64 p, .ints (some b_1) (mnc f).l, .int .i64 ((1 : Nat) : Int), .vals none 2 0 λj => vF ((([] : List (Poly p × Nat))).getD j (0, 0))]) (zbh p 13 (some b_1) (mnc f) 1 [] (by omega) (Nat.le_refl _) (v9 hf0) (by decide) List.Pairwise.nil (λx hx => by simp at hx) (by simp)) rfl λj hj D n hp v hv => ?_) ?_
 ·match j, hj with
  | 0, _ => exact hv
  | 1, _ => exact hv
  | 2, _ => exact hv
  | 3, _ => exact hv.vals0
 rintro lo hi hi' z hl1 hl2 hl3 ⟨F, hF, rfl⟩ _;try dsimp only at hl1 hl2
 conv=>whnf
 refine hK _ (W.ret ?_);conv=>whnf
 exact ⟨.v (vFs F), ⟨rfl, rfl, rfl, λ_ _ => rfl⟩, ⟨trivial, λ_ _ => ⟨trivial, trivial, trivial⟩⟩, F, ⟨hF.fac.1, λx => (hF.fac.2 x).trans (zeV hf0 x)⟩, rfl⟩


noncomputable def bP (P : Prop) : Bool := @decide P (Classical.propDecidable P)
theorem zaG {P : Prop} : bP P = true ↔ P := @decide_eq_true_iff P (Classical.propDecidable P)
theorem yl {P : Prop} (h : P) : bP P = true := zaG.2 h
theorem zJ {P : Prop} (h : ¬ P) : bP P = false := by
 cases hb : bP P with
 | false => rfl
 | true => exact absurd (zaG.1 hb) h
theorem zl4 {P : Prop} (h : bP P = false) : ¬ P := λhp => by rw [yl hp] at h; cases h
theorem zcF {P : Prop} [Decidable P] (h : (!(decide P)) = true) : ¬ P := λhp => by rw [decide_eq_true hp] at h; cases h
theorem zbi {P : Prop} [Decidable P] (h : (!(decide P)) = false) : P := Classical.byContradiction λhp => by rw [decide_eq_false hp] at h; cases h
theorem zfW (g : Option Nat) (xs : List Int) (f : Nat) (caps : List V) (q : Nat -> Bool) (hl : xs.length <= 100000000) (hf : ∀ i, i < xs.length -> FnV f ([.int .i64 (cf xs i)] ++ caps) (.bool (q i))) :
  Fn Tryz.prog 167 [.ints g xs, .func f caps] (λ_ _ z => ∃ r : Int, z = .v (.int .i64 r) ∧ (0 <= r ↔ ∃ i, i < xs.length ∧ q i = true)) := by
 refine zf (za [0, 1, 4, 5, 7, 8, 9, 16]) Tryz.func167 rfl (by decide) Tryz.ntmps167 (lb rfl) λbase => ?_;refine wrs λK hK => ?_;conv=>whnf
 refine hK _ (W.seqK λK1 hK1 => wrs λK hK => ?_);conv=>whnf
 refine hK _ (W.block (W.invA (λm e => ∃ i : Nat, i <= xs.length ∧ (∀ j, j < i -> q j = false) ∧ m = xs.length - i ∧ e = [(0, .v (.ints g xs)), (1, .v (.func f caps)), (7, .v (.int .i64 xs.length)), (8, .v (.int .i64 i))]) ⟨0, Nat.zero_le _, λj hj => by omega, rfl, rfl⟩ ?_));clear hK;rintro m e ⟨i, h1, h2, hm, rfl⟩;refine wrs λK hK => ?_;conv=>whnf
 refine hK _ ?_;clear hK;refine W.seqK λK7 hK7 => W.cond ⟨λh => ?_, λh => ?_⟩ <;> (first | replace h := of_decide_eq_true h | replace h := of_decide_eq_false h)
 ·refine W.skip (hK7 _ ?_);clear hK7;refine W.seqK λK8 hK8 => W.block ?_;refine wrs λK hK => ?_;conv=>whnf
  refine hK _ (wrs λK hK => ?_);conv=>whnf
  refine ⟨oo, ?_⟩;conv=>whnf
  rw [Int.toNat_natCast];refine zc rfl (hf i (by omega)) λhs' hhs => ?_;try dsimp only at hhs
  conv=>whnf
  refine hK _ (W.cond ⟨λh3 => ?_, λh3 => ?_⟩) <;> clear hK
  ·refine wrs λK hK => ?_;conv=>whnf
   refine hK _ (W.ret ?_);conv=>whnf
   exact ⟨.v (.int .i64 i), ⟨rfl, rfl⟩, trivial, i, rfl, λ_ => ⟨i, by omega, h3⟩, λ_ => by omega⟩
  ·refine W.skip (hK8 _ ?_);clear hK8;refine wrg ?_;conv=>whnf
   refine ⟨oo, ?_⟩;conv=>whnf
   have h4 : ∀ j, j < i + 1 -> q j = false := λj hj => by
    by_cases hji : j = i
    ·subst hji; exact h3
    ·exact h2 j (by omega)
   exact ze ⟨i + 1, by omega, h4, rfl, rfl⟩
 ·refine W.exit (hK1 _ ?_);clear hK7 hK1;refine wrs λK hK => ?_;conv=>whnf
  refine hK _ (W.ret ?_);conv=>whnf
  refine ⟨.v (.int .i64 (-1)), ⟨rfl, rfl⟩, trivial, -1, rfl, λh => by omega, λ⟨j, hj, he⟩ => ?_⟩;rw [h2 j (by omega)] at he; cases he

theorem zcq (g : Option Nat) (xs : List Int) (f : Nat) (caps : List V) (q : Nat -> Bool) (hl : xs.length <= 100000000) (hf : ∀ i, i < xs.length -> FnV f ([.int .i64 (cf xs i)] ++ caps) (.bool (q i))) :
  FnV 110 [.ints g xs, .func f caps] (.bool (bP (∃ i, i < xs.length ∧ q i = true))) := by
 refine zf (za [0, 1, 4]) Tryz.func110 rfl (by decide) Tryz.ntmps110 (lb rfl) λbase => ?_;refine wrs λK hK => ?_;conv=>whnf
 refine hK _ (wrs λK hK => ?_);conv=>whnf
 refine yT rfl (zfW g xs f caps q hl hf) ?_;rintro lo hi hi' z h1 h2 h3 ⟨r, rfl, hr⟩ _;conv=>whnf
 refine hK _ (W.ret ?_);conv=>whnf
 exact ⟨.v (.bool (bP (∃ i, i < xs.length ∧ q i = true))), (by show decide _ = bP _; by_cases h : 0 <= r; (rw [yl (hr.1 h)]; exact decide_eq_true h); (rw [zJ λh' => h (hr.2 h')]; exact decide_eq_false h)), trivial, rfl⟩

def zkm (a b : Int) (xs : List Int) : Prop := ∀ j, j < xs.length -> a <= cf xs j ∧ cf xs j <= b
def zne (xs : List Int) : Prop := xs.length = 0 ∨ cf xs (xs.length - 1) ≠ 0
def yv (xs : List Int) : Prop := xs.length <= 9 ∧ zkm (-1000000) 1000000 xs ∧ zne xs
def IsSm (xs : List Int) : Prop := yv xs ∧ 2 <= xs.length ∧ xs.length <= 5 ∧ zkm (-60) 60 xs
def kO (p : Int) (xs : List Int) : Prop := isP p = true ∧ xs.length <= 9 ∧ zkm 0 (p - 1) xs ∧ zne xs

theorem zl5 (n : Int) : FnV 193 [.int .i64 n] (.bool (!(decide (-1000000 <= n ∧ n <= 1000000)))) := by
 refine zf (za [0, 2]) Tryz.func193 rfl (by decide) Tryz.ntmps193 (lb rfl) λbase => ?_;refine wrs λK hK => ?_;conv=>whnf
 refine hK _ (wrs λK hK => ?_);conv=>whnf
 refine zc rfl (zbO _ _ _) λhs' hhs => ?_;try dsimp only at hhs
 conv=>whnf
 refine hK _ (W.ret ?_);conv=>whnf
 exact ⟨.v (.bool (!(decide (-1000000 <= n ∧ n <= 1000000)))), rfl, trivial, rfl⟩
theorem zjo {a b : Int} {xs : List Int} : (∃ i, i < xs.length ∧ (!(decide (a <= cf xs i ∧ cf xs i <= b))) = true) ↔ ¬ zkm a b xs := by
 constructor
 ·rintro ⟨i, hi, h⟩ hA;rw [decide_eq_true (hA i hi)] at h; cases h
 ·intro h;refine Classical.byContradiction λh' => h λj hj => ?_;refine Classical.byContradiction λh'' => h' ⟨j, hj, ?_⟩;rw [decide_eq_false h'']; rfl

theorem zcr (g : Option Nat) (xs : List Int) : FnV 156 [.ints g xs] (.bool (bP (yv xs))) := by
 refine zf (za [0, 2, 9]) Tryz.func156 rfl (by decide) Tryz.ntmps156 (lb rfl) λbase => ?_;refine wrs λK hK => ?_;conv=>whnf
 refine hK _ (W.seqK λK1 hK1 => wrs λK hK => ?_);conv=>whnf
 refine ⟨λh => ?_, λh => ?_⟩ <;> conv=>whnf
 ·have h := of_decide_eq_true h;refine hK _ (W.condT rfl ?_);clear hK;refine wrs λK hK => ?_;conv=>whnf
  refine hK _ (W.ret ?_);conv=>whnf
  exact ⟨.v (.bool (bP (yv xs))), (by show bP _ = false; exact zJ λhh => by have := hh.1; omega), trivial, rfl⟩
 have h := of_decide_eq_false h;refine zc rfl (zcq g xs 193 [] (λi => !(decide (-1000000 <= cf xs i ∧ cf xs i <= 1000000))) (by omega) (λi hi => zl5 _)) λhs' hhs => ?_;try dsimp only at hhs
 conv=>whnf
 refine hK _ (W.cond ⟨λh1 => ?_, λh1 => ?_⟩) <;> clear hK
 ·have h1 := zjo.1 (zaG.1 h1);refine wrs λK hK => ?_;conv=>whnf
  refine hK _ (W.ret ?_);conv=>whnf
  exact ⟨.v (.bool (bP (yv xs))), (by show bP _ = false; exact zJ λhh => h1 hh.2.1), trivial, rfl⟩
 have h1 : zkm (-1000000) 1000000 xs := Classical.byContradiction λh' => zl4 h1 (zjo.2 h');refine W.skip (hK1 _ ?_);clear hK1;refine wrs λK hK => ?_;conv=>whnf
 refine ⟨λh2 => ?_, λh2 => ?_⟩ <;> conv=>whnf
 ·have h2 := of_decide_eq_true h2;refine hK _ (W.ret ?_);conv=>whnf
  exact ⟨.v (.bool (bP (yv xs))), (by show bP _ = true; exact yl ⟨by omega, h1, .inl (by omega)⟩), trivial, rfl⟩
 ·have h2 := of_decide_eq_false h2;have e1 : ((xs.length : Int) - 1).toNat = xs.length - 1 := by omega
  refine ⟨oo, ?_⟩;conv=>whnf
  refine ⟨oo, ?_⟩;conv=>whnf
  rw [e1];refine hK _ (W.ret ?_);conv=>whnf
  exact ⟨.v (.bool (bP (yv xs))), (by show decide _ = bP _; by_cases h3 : cf xs (xs.length - 1) = 0; (rw [zJ λhh => hh.2.2.elim (by omega) λh' => h' h3]; exact decide_eq_false λh' => h' h3); (rw [yl ⟨by omega, h1, .inr h3⟩]; exact decide_eq_true h3)), trivial, rfl⟩

theorem zkn (g : Option Nat) (xs : List Int) (hl : xs.length <= 1000000000) : FnV 68 [.ints g xs] (.int .i64 ((xs.length : Int) - 1)) := by
 refine zf (za [0, 2]) Tryz.func68 rfl (by decide) Tryz.ntmps68 (lb rfl) λbase => ?_;refine wrs λK hK => ?_;conv=>whnf
 refine hK _ (wrs λK hK => ?_);conv=>whnf
 refine zc rfl (zjn g xs) λhs' hhs => ?_;try dsimp only at hhs
 conv=>whnf
 refine ⟨oo, ?_⟩;conv=>whnf
 refine hK _ (W.ret ?_);conv=>whnf
 exact ⟨.v (.int .i64 ((xs.length : Int) - 1)), ⟨rfl, rfl⟩, trivial, rfl⟩

noncomputable def ziC (xs : List Int) : Int := bif bP (yv xs) then (bif bP (IsSm xs) then 0 else 2) else 1

theorem ziD {p : Int} (h : isP p = true) : 2 <= p ∧ p <= 97 := jE (of_decide_eq_true h)

theorem ziE (g : Option Nat) (xs : List Int) (hl : xs.length <= 1000000000) : FnV 159 [.ints g xs] (.bool (bP (yv xs))) := by
 refine zf (za [0, 2, 3, 7, 15]) Tryz.func159 rfl (by decide) Tryz.ntmps159 (lb rfl) λbase => ?_;refine wrs λK hK => ?_;conv=>whnf
 refine hK _ (W.seqK λK1 hK1 => wrs λK hK => ?_);conv=>whnf
 refine hK _ (W.block (W.invA (λm e => ∃ k : Nat, k <= xs.length ∧ (∀ j, j < k -> -1000000 <= cf xs j ∧ cf xs j <= 1000000) ∧ m = xs.length - k ∧ e = [(0, .v (.ints g xs)), (3, .v (.int .i64 k))]) ⟨0, Nat.zero_le _, λj hj => by omega, rfl, rfl⟩ ?_));clear hK;rintro m e ⟨k, h1, h2, hm, rfl⟩;refine W.seqK λK7 hK7 => wrs λK hK => ?_;conv=>whnf
 refine hK _ (W.cond ⟨λh => ?_, λh => ?_⟩) <;> clear hK <;> (first | replace h := of_decide_eq_true h | replace h := of_decide_eq_false h)
 ·refine W.skip (hK7 _ ?_);clear hK7;refine W.seqK λK8 hK8 => W.block ?_;refine wrs λK hK => ?_;conv=>whnf
  refine ⟨oo, ?_⟩;conv=>whnf
  rw [Int.toNat_natCast];refine zc rfl (zdO _ _ _) λhs' hhs => ?_;try dsimp only at hhs
  conv=>whnf
  refine hK _ (W.cond ⟨λh3 => ?_, λh3 => ?_⟩) <;> clear hK
  ·have h3 : ¬ (-1000000 <= cf xs k ∧ cf xs k <= 1000000) := zcF h3;refine wrs λK hK => ?_;conv=>whnf
   refine hK _ (W.ret ?_);conv=>whnf
   exact ⟨.v (.bool (bP (yv xs))), (by show bP _ = false; exact zJ λhh => h3 (hh.2.1 k (by omega))), trivial, rfl⟩
  ·have h3 : -1000000 <= cf xs k ∧ cf xs k <= 1000000 := zbi h3;refine W.skip (hK8 _ ?_);clear hK8;refine wrg ?_;conv=>whnf
   refine ⟨oo, ?_⟩;conv=>whnf
   exact ze ⟨k + 1, by omega, λj hj => by by_cases h9 : j = k; (subst h9; exact h3); exact h2 j (by omega), rfl, rfl⟩
 ·obtain rfl : k = xs.length := by omega
  refine W.exit (hK1 _ ?_);clear hK7 hK1;refine wrs λK hK => ?_;conv=>whnf
  refine ⟨λh3 => ?_, λh3 => ?_⟩ <;> conv=>whnf
  ·have h3 := of_decide_eq_true h3;refine ⟨λh4 => ?_, λh4 => ?_⟩ <;> conv=>whnf
   ·have h4 := of_decide_eq_true h4;refine hK _ (W.ret ?_);conv=>whnf
    exact ⟨.v (.bool (bP (yv xs))), (by show bP _ = true; exact yl ⟨by omega, h2, .inl (by omega)⟩), trivial, rfl⟩
   ·have h4 := of_decide_eq_false h4;have e1 : ((xs.length : Int) - 1).toNat = xs.length - 1 := by omega
    refine ⟨oo, ?_⟩;conv=>whnf
    refine ⟨oo, ?_⟩;conv=>whnf
    rw [e1];refine hK _ (W.ret ?_);conv=>whnf
    exact ⟨.v (.bool (bP (yv xs))), (by show decide _ = bP _; by_cases h5 : cf xs (xs.length - 1) = 0; (rw [zJ λhh => hh.2.2.elim (by omega) λh' => h' h5]; exact decide_eq_false λh' => h' h5); (rw [yl ⟨by omega, h2, .inr h5⟩]; exact decide_eq_true h5)), trivial, rfl⟩
  ·have h3 := of_decide_eq_false h3;refine hK _ (W.ret ?_);conv=>whnf
   exact ⟨.v (.bool (bP (yv xs))), (by show bP _ = false; exact zJ λhh => by have := hh.1; omega), trivial, rfl⟩

theorem zko (g : Option Nat) (p : Int) (xs : List Int) (hl : xs.length <= 1000000000) : FnV 188 [.int .i64 p, .ints g xs] (.bool (bP (kO p xs))) := by
 refine zf (za [0, 1, 4, 5, 13, 17, 27]) Tryz.func188 rfl (by decide) Tryz.ntmps188 (lb rfl) λbase => ?_;refine wrs λK hK => ?_;conv=>whnf
 refine hK _ (W.seqK λK0 hK0 => wrs λK hK => ?_);conv=>whnf
 refine zc rfl (zce p) λhs' hhs => ?_;try dsimp only at hhs
 conv=>whnf
 refine ⟨λh => ?_, λh => ?_⟩ <;> conv=>whnf
 ·have h : isP p = false := by simpa using h
  refine hK _ (W.condT rfl ?_);clear hK;refine wrs λK hK => ?_;conv=>whnf
  refine hK _ (W.ret ?_);conv=>whnf
  exact ⟨.v (.bool (bP (kO p xs))), (by show bP _ = false; exact zJ λhh => by rw [hh.1] at h; cases h), trivial, rfl⟩
 have h : isP p = true := by simpa using h
 have hp := ziD h;refine hK _ (W.cond ⟨λh0 => ?_, λh0 => ?_⟩) <;> clear hK
 ·have h0 := of_decide_eq_true h0;refine wrs λK hK => ?_;conv=>whnf
  refine hK _ (W.ret ?_);conv=>whnf
  exact ⟨.v (.bool (bP (kO p xs))), (by show bP _ = false; exact zJ λhh => by have := hh.2.1; omega), trivial, rfl⟩
 have h0 := of_decide_eq_false h0;refine W.skip (hK0 _ ?_);clear hK0;refine W.seqK λK1 hK1 => wrs λK hK => ?_;conv=>whnf
 refine hK _ (W.block (W.invA (λm e => ∃ k : Nat, k <= xs.length ∧ (∀ j, j < k -> 0 <= cf xs j ∧ cf xs j <= p - 1) ∧ m = xs.length - k ∧ e = [(0, .v (.int .i64 p)), (1, .v (.ints g xs)), (5, .v (.int .i64 k))]) ⟨0, Nat.zero_le _, λj hj => by omega, rfl, rfl⟩ ?_));clear hK;rintro m e ⟨k, h1, h2, hm, rfl⟩;refine W.seqK λK7 hK7 => wrs λK hK => ?_;conv=>whnf
 refine hK _ (W.cond ⟨λh3 => ?_, λh3 => ?_⟩) <;> clear hK <;> (first | replace h3 := of_decide_eq_true h3 | replace h3 := of_decide_eq_false h3)
 ·refine W.skip (hK7 _ ?_);clear hK7;refine W.seqK λK8 hK8 => W.block ?_;refine wrs λK hK => ?_;conv=>whnf
  refine ⟨oo, ?_⟩;conv=>whnf
  refine ⟨oo, ?_⟩;conv=>whnf
  rw [Int.toNat_natCast];refine zc rfl (zdO _ _ _) λhs' hhs => ?_;try dsimp only at hhs
  conv=>whnf
  refine hK _ (W.cond ⟨λh4 => ?_, λh4 => ?_⟩) <;> clear hK
  ·have h4 : ¬ (0 <= cf xs k ∧ cf xs k <= p - 1) := zcF h4;refine wrs λK hK => ?_;conv=>whnf
   refine hK _ (W.ret ?_);conv=>whnf
   exact ⟨.v (.bool (bP (kO p xs))), (by show bP _ = false; exact zJ λhh => h4 (hh.2.2.1 k (by omega))), trivial, rfl⟩
  ·have h4 : 0 <= cf xs k ∧ cf xs k <= p - 1 := zbi h4;refine W.skip (hK8 _ ?_);clear hK8;refine wrg ?_;conv=>whnf
   refine ⟨oo, ?_⟩;conv=>whnf
   exact ze ⟨k + 1, by omega, λj hj => by by_cases h9 : j = k; (subst h9; exact h4); exact h2 j (by omega), rfl, rfl⟩
 ·obtain rfl : k = xs.length := by omega
  refine W.exit (hK1 _ ?_);clear hK7 hK1;have h1 : zkm 0 (p - 1) xs := h2;refine wrs λK hK => ?_;conv=>whnf
  refine ⟨λh2 => ?_, λh2 => ?_⟩ <;> conv=>whnf
  ·have h2 := of_decide_eq_true h2;refine hK _ (W.ret ?_);conv=>whnf
   exact ⟨.v (.bool (bP (kO p xs))), (by show bP _ = true; exact yl ⟨h, by omega, h1, .inl (by omega)⟩), trivial, rfl⟩
  ·have h2 := of_decide_eq_false h2;have e1 : ((xs.length : Int) - 1).toNat = xs.length - 1 := by omega
   refine ⟨oo, ?_⟩;conv=>whnf
   refine ⟨oo, ?_⟩;conv=>whnf
   rw [e1];refine hK _ (W.ret ?_);conv=>whnf
   exact ⟨.v (.bool (bP (kO p xs))), (by show decide _ = bP _; by_cases h3 : cf xs (xs.length - 1) = 0; (rw [zJ λhh => hh.2.2.2.elim (by omega) λh' => h' h3]; exact decide_eq_false λh' => h' h3); (rw [yl ⟨h, by omega, h1, .inr h3⟩]; exact decide_eq_true h3)), trivial, rfl⟩


def ziF (xs : List Int) (q : Int) : Prop := ∃ h : q ∈ yX, cf xs (xs.length - 1) % q ≠ 0 ∧ (letI := zgR h; Irr (of q xs))
structure ByOut (xs : List Int) (r c : Int) : Prop where
 bad : ziC xs ≠ 0 -> r = 0 ∧ c = ziC xs
 yes : ziC xs = 0 -> (2 <= r ∧ r <= 97 ∧ c = 0 ∧ ziF xs r ∧ ∀ q, 2 <= q -> q < r -> ¬ ziF xs q) ∨ (r = 0 ∧ c = 4 ∧ ∀ q, 2 <= q -> q <= 97 -> ¬ ziF xs q)

theorem zab (g : Option Nat) (xs : List Int) (hl : xs.length <= 1000000000) : FnI 8 [.ints g xs] xs := by
 refine zf (za [0, 2, 3, 4, 11]) Tryz.func8 rfl (by decide) Tryz.ntmps8 (lb rfl) λbase => ?_;refine wrs λK hK => ?_;conv=>whnf
 refine hK _ (wrs λK hK => ?_);conv=>whnf
 refine ⟨rfl, ?_⟩;conv=>whnf
 refine ⟨oo, ?_⟩;conv=>whnf
 rw [Int.toNat_natCast];intro b_1 hs_1 hh_1 hf_1;try dsimp only at hh_1 hf_1
 conv=>whnf
 refine hK _ (W.seqK λK1 hK1 => wrs λK hK => ?_);conv=>whnf
 refine hK _ (W.block (W.invA (λm e => ∃ (k b : Nat) (o : List Int), k <= xs.length ∧ o.length = xs.length ∧ (∀ j, cf o j = if j < k then cf xs j else 0) ∧ m = xs.length - k ∧ e = [(0, .v (.ints g xs)), (3, .ownI 2 b o), (4, .v (.int .i64 k))]) ⟨0, b_1, List.replicate xs.length 0, Nat.zero_le _, by simp, λj => by rw [zI, if_neg (by omega)], rfl, rfl⟩ ?_));clear hK;rintro m e ⟨k, b, o, h1, h2, h3, hm, rfl⟩;refine W.seqK λK7 hK7 => wrs λK hK => ?_;conv=>whnf
 refine hK _ (W.cond ⟨λh4 => ?_, λh4 => ?_⟩) <;> clear hK <;> (first | replace h4 := of_decide_eq_true h4 | replace h4 := of_decide_eq_false h4)
 ·refine W.skip (hK7 _ ?_);clear hK7;refine W.seqK λK8 hK8 => W.block ?_;refine wrg ?_;conv=>whnf
  refine ⟨oo, ?_⟩;conv=>whnf
  refine ⟨oo, ?_⟩;conv=>whnf
  rw [Int.toNat_natCast];refine hK8 _ ?_;clear hK8;refine wrg ?_;conv=>whnf
  refine ⟨oo, ?_⟩;conv=>whnf
  exact ze ⟨k + 1, b, o.set k (cf xs k), by omega, by simpa using h2, λj => by rw [yu (by omega), h3]; by_cases hj : j = k; (subst hj; rw [if_pos rfl, if_pos (by omega)]); (rw [if_neg hj]; by_cases hj2 : j < k; (rw [if_pos hj2, if_pos (by omega)]); (rw [if_neg hj2, if_neg (by omega)])), rfl, rfl⟩
 ·obtain rfl : k = xs.length := by omega
  refine W.exit (hK1 _ ?_);clear hK7 hK1;obtain rfl : o = xs := zdy h2 λj hj => by rw [h3, if_pos (by omega)]
  refine W.sw (c' := cxr [0, 2, 3, 4, 11]) (W.rs (zfK _) (by rfl) λK hK => ?_);conv=>whnf
  refine hK _ (W.ret ?_);conv=>whnf
  exact ⟨.ownI 2 _ (o), ⟨rfl, rfl, rfl⟩, trivial, _, rfl⟩

theorem zhv (g g' : Option Nat) (xs : List Int) (hl : xs.length <= 1000000000) : FnV 11 [.ints g xs, .ints g' xs] .tr := by
 refine zf (za [0, 1, 4, 5, 10, 14, 25]) Tryz.func11 rfl (by decide) Tryz.ntmps11 (lb rfl) λbase => ?_;refine wrs λK hK => ?_;conv=>whnf
 refine hK _ (W.seqK λK1 hK1 => wrs λK hK => ?_);conv=>whnf
 refine hK _ (W.cond ⟨λh => ?_, λh => ?_⟩) <;> clear hK
 ·exact absurd rfl (of_decide_eq_true h)
 refine W.skip (hK1 _ ?_);clear hK1;refine W.seqK λK1 hK1 => wrs λK hK => ?_;conv=>whnf
 refine hK _ (W.block (W.invA (λm e => ∃ k : Nat, k <= xs.length ∧ m = xs.length - k ∧ e = [(0, .v (.ints g xs)), (1, .v (.ints g' xs)), (5, .v (.int .i64 k))]) ⟨0, Nat.zero_le _, rfl, rfl⟩ ?_));clear hK;rintro m e ⟨k, h1, hm, rfl⟩;refine W.seqK λK7 hK7 => wrs λK hK => ?_;conv=>whnf
 refine hK _ (W.cond ⟨λh3 => ?_, λh3 => ?_⟩) <;> clear hK <;> (first | replace h3 := of_decide_eq_true h3 | replace h3 := of_decide_eq_false h3)
 ·refine W.skip (hK7 _ ?_);clear hK7;refine W.seqK λK8 hK8 => W.block ?_;refine W.rd (za _) follows (by rfl) λK hK => ?_;conv=>whnf
  refine ⟨oo, ?_⟩;conv=>whnf
  refine ⟨oo, ?_⟩;conv=>whnf
  refine hK _ (W.cond ⟨λh4 => ?_, λh4 => ?_⟩) <;> clear hK
  ·exact absurd rfl (of_decide_eq_true h4)
  ·refine W.skip (hK8 _ ?_);clear hK8;refine wrg ?_;conv=>whnf
   refine ⟨oo, ?_⟩;conv=>whnf
   exact ze ⟨k + 1, by omega, rfl, rfl⟩
 ·obtain rfl : k = xs.length := by omega
  refine W.exit (hK1 _ ?_);clear hK7 hK1;refine wrs λK hK => ?_;conv=>whnf
  refine hK _ (W.ret ?_);conv=>whnf
  exact ⟨.v (.tr), rfl, trivial, rfl⟩

def zhw (k : Int) (n : Nat) : List Int := mkL n λi => k + i
theorem zbj (k : Int) (n : Nat) : (zhw k n).length = n := zT _ _
theorem zl6 (k : Int) (n j : Nat) : cf (zhw k n) j = if j < n then k + j else 0 := xA ..

theorem zhx (el b : Nat) (xs : List Int) (k : Nat) (hk : k <= 1000000000000) (hl : xs.length <= 1000000000) (tb : Tab) :
  MFn Tryz.prog 12 [.nil, .int .i64 k] 0 (.ownI el b xs) (.tab tb) (λ_ av x' t' => av = .v (.int .i64 ((k + xs.length : Nat) : Int)) ∧ x' = .ownI el b (zhw k xs.length) ∧ t' = .tab tb) := by
 refine zbE (cx := cx [0, 1, 4, 5, 9, 1000000, 1000001]) Tryz.func12 rfl (by decide) Tryz.ntmps12 (lb rfl) (lb rfl) rfl rfl λbase hs0 O U hw v0 hb0 => ?_;refine wrs λK hK => ?_;conv=>whnf
 refine hK _ (W.seqK λK1 hK1 => wrs λK hK => ?_);conv=>whnf
 refine hK _ ?_;clear hK;refine W.block (W.invH hs0 hb0 (λm e => ∃ (i : Nat) (o : List Int), i <= xs.length ∧ o.length = xs.length ∧ (∀ j, j < i -> cf o j = k + j) ∧ m = xs.length - i ∧ e = [(0, .ownI el b o), (1, .v (.int .i64 ((k + i : Nat) : Int))), (5, .v (.int .i64 i)), (vt, .tab tb), (vk, .keep O U hw 0 v0)]) _ _ ⟨0, xs, Nat.zero_le _, rfl, λj hj => by omega, rfl, rfl⟩ (by dsimp only; omega) (by repeat' first | refine And.intro ?_ ?_ | exact trivial | rfl | omega | exact λ_ _ h => h) ?_);rintro m e ⟨i, o, h1, h2, h3, hm, rfl⟩;refine W.seqK λK7 hK7 => wrs λK hK => ?_;conv=>whnf
 refine hK _ (W.cond ⟨λh4 => ?_, λh4 => ?_⟩) <;> clear hK <;> (first | replace h4 := of_decide_eq_true h4 | replace h4 := of_decide_eq_false h4)
 ·refine W.skip (hK7 _ ?_);clear hK7;refine W.seqK λK8 hK8 => W.block ?_;refine wrs λK hK => ?_;conv=>whnf
  refine ⟨oo, ?_⟩;conv=>whnf
  rw [Int.toNat_natCast];refine hK _ ?_;clear hK;refine wrg ?_;conv=>whnf
  refine ⟨oo, ?_⟩;conv=>whnf
  refine hK8 _ ?_;clear hK8;refine wrg ?_;conv=>whnf
  refine ⟨oo, ?_⟩;conv=>whnf
  refine ⟨_, _, ⟨i + 1, o.set i ((k + i : Nat) : Int), by omega, by simpa using h2, λj hj => by rw [yu (by omega)]; by_cases h9 : j = i; (subst h9; rw [if_pos rfl]; omega); (rw [if_neg h9]; exact h3 j (by omega)), rfl, rfl⟩, by omega, by dsimp only; omega, ?_⟩
  repeat' first | refine And.intro ?_ ?_ | exact trivial | rfl | omega | exact λ_ _ h => h
 ·obtain rfl : i = xs.length := by omega
  refine W.exit (hK1 _ ?_);clear hK7 hK1;obtain rfl : o = zhw k xs.length := zdy (by rw [h2, zbj]) λj hj => by rw [zl6, if_pos (by omega), h3 j (by omega)]
  refine wrs λK hK => ?_;conv=>whnf
  refine hK _ (W.ret ?_);conv=>whnf
  refine ⟨by dsimp only; omega, ?_⟩;conv=>whnf
  exact ⟨rfl, .v (.int .i64 ((k + xs.length : Nat) : Int)), ⟨rfl, rfl⟩, rfl, trivial, .ownI el b (zhw k xs.length), ⟨rfl, rfl, rfl⟩, .inr ⟨rfl, by show some _ = some _; rw [zbj]⟩, .tab tb, λ_ _ h => h, rfl, rfl, rfl, rfl, rfl⟩

/- fields -/
def szL (n : Nat) : Int := if (1048576 : Int) - n < 0 then -1 else 1048576 - n
theorem zdX (tb : Tab) (b : Nat) {xs : List Int} (h : xs ≠ []) : zm2 tb b xs b = some xs := by
 cases xs with
 | nil => exact absurd rfl h
 | cons x l => exact yf ..


def znU (xs : List Int) : Prop := 0 < xs.length ∧ cf xs (xs.length - 1) = 1

structure IsFld (p : Int) (l : List Int) : Prop where
 mod : kO p l
 mon : znU l
 two : 2 <= l.length
 ord : p ^ (l.length - 1) <= 20000
 irr : ∃ h : p ∈ yX, letI := zgR h; ∃ f : Poly p, f.l = l ∧ Irr f


theorem zl7 (n p : Nat) : ((n : Int)).tmod p = ((n % p : Nat) : Int) := by
 rw [Int.tmod_eq_emod_of_nonneg (by omega)]; exact (Int.natCast_emod n p).symm

/- fields -/

def two (x y : List Int) (i : Nat) : List Int := if i = 0 then x else y



/- powers -/
def R1 (l : List Int) : zbY := λ_ _ x tb => ∃ b : Nat, x = .rf b l.length ∧ (l ≠ [] -> tb b = some l)

/- the program's begin: a field, an element, something more (a value b) -/
/- the reference's: $1 name $2 modulus $3 element $4 $5 their ghosts -/
/- c is not 0 -/
/- what becomes of c = 0 and something not right: code 2 -/







open Go Go.RowKit Go.Proofs Poly Hull

theorem zhy {p u w : Int} (hp : 2 <= p) (hu : u ≠ 0) (hw : u = p * w) : w ≠ 0 ∧ w.natAbs < u.natAbs := by
 have hw0 : w ≠ 0 := λe => hu (by rw [hw, e, Int.mul_zero]);refine ⟨hw0, ?_⟩;rw [hw, Int.natAbs_mul];have h1 : 2 <= p.natAbs := by omega
 have := Nat.mul_le_mul_right w.natAbs h1;omega


theorem zfX (p c : Int) (hp : 2 <= p ∧ p <= 97) (hc : c ≠ 0) (hb : -1000000 <= c ∧ c <= 1000000) : FnV 221 [.int .i64 c, .int .i64 p] (.int .i64 (vl p c : Nat)) := by
 refine zf (za [0, 1, 4, 5, 9]) Tryz.func221 rfl (by decide) Tryz.ntmps221 (lb rfl) λbase => ?_;refine wrs λK hK => ?_;conv=>whnf
 refine hK _ (wrs λK hK => ?_);conv=>whnf
 refine hK _ ?_;clear hK;refine W.seqK λK1 hK1 => W.block (W.invA (λm e => ∃ (j : Nat) (u : Int), c = p ^ j * u ∧ u ≠ 0 ∧ j + u.natAbs <= 1000000 ∧ m = u.natAbs ∧ e = [(0, .v (.int .i64 u)), (1, .v (.int .i64 p)), (5, .v (.int .i64 j))]) ⟨0, c, by simp, hc, by omega, rfl, rfl⟩ ?_);rintro m e ⟨j, u, hcu, hu, hj, hm, rfl⟩;refine W.seqK λK7 hK7 => wrs λK hK => ?_;conv=>whnf
 refine ⟨by omega, ?_⟩;conv=>whnf
 refine hK _ (W.cond ⟨λh => ?_, λh => ?_⟩) <;> clear hK <;> (first | replace h := of_decide_eq_true h | replace h := of_decide_eq_false h)
 ·obtain ⟨w, hw⟩ := Int.dvd_of_tmod_eq_zero h;obtain ⟨hw0, hwl⟩ := zhy hp.1 hu hw;have e1 : u.tdiv p = w := by rw [hw]; exact Int.mul_tdiv_cancel_left w (by omega)
  refine W.skip (hK7 _ (W.block ?_));clear hK7;refine wrs λK hK => ?_;conv=>whnf
  refine ⟨by omega, ?_⟩;conv=>whnf
  rw [e1];refine ⟨oo, ?_⟩;conv=>whnf
  refine hK _ ?_;clear hK;refine wrg ?_;conv=>whnf
  refine ⟨oo, ?_⟩;conv=>whnf
  exact ze ⟨j + 1, w, by rw [hcu, hw, Int.pow_succ, Int.mul_assoc], hw0, by omega, rfl, rfl⟩
 ·have hv : vl p c = j := zlP hp.1 hc ⟨u, hcu, λhd => h (Int.tmod_eq_zero_of_dvd hd)⟩;refine W.exit (hK1 _ ?_);clear hK7 hK1;refine wrs λK hK => ?_;conv=>whnf
  refine hK _ (W.ret ?_);conv=>whnf
  exact ⟨.v (.int .i64 j), ⟨rfl, rfl⟩, trivial, by rw [hv]⟩
theorem kb (p c : Int) (hp : 2 <= p ∧ p <= 97) (hc : c ≠ 0) (hb : -1000000 <= c ∧ c <= 1000000) : FnV 165 [.int .i64 c, .int .i64 p] (.int .i64 (vl p c : Nat)) := by
 refine zf (za [0, 1, 4, 5, 9]) Tryz.func165 rfl (by decide) Tryz.ntmps165 (lb rfl) λbase => ?_;refine wrs λK hK => ?_;conv=>whnf
 refine hK _ (wrs λK hK => ?_);conv=>whnf
 refine hK _ ?_;clear hK;refine W.seqK λK1 hK1 => W.block (W.invA (λm e => ∃ (j : Nat) (u : Int), c = p ^ j * u ∧ u ≠ 0 ∧ j + u.natAbs <= 1000000 ∧ m = u.natAbs ∧ e = [(0, .v (.int .i64 u)), (1, .v (.int .i64 p)), (5, .v (.int .i64 j))]) ⟨0, c, by simp, hc, by omega, rfl, rfl⟩ ?_);rintro m e ⟨j, u, hcu, hu, hj, hm, rfl⟩;refine W.seqK λK7 hK7 => wrs λK hK => ?_;conv=>whnf
 refine ⟨by omega, ?_⟩;conv=>whnf
 refine hK _ (W.cond ⟨λh => ?_, λh => ?_⟩) <;> clear hK <;> (first | replace h := of_decide_eq_true h | replace h := of_decide_eq_false h)
 ·obtain ⟨w, hw⟩ := Int.dvd_of_tmod_eq_zero h;obtain ⟨hw0, hwl⟩ := zhy hp.1 hu hw;have e1 : u.tdiv p = w := by rw [hw]; exact Int.mul_tdiv_cancel_left w (by omega)
  refine W.skip (hK7 _ (W.block ?_));clear hK7;refine wrs λK hK => ?_;conv=>whnf
  refine ⟨by omega, ?_⟩;conv=>whnf
  rw [e1];refine ⟨oo, ?_⟩;conv=>whnf
  refine hK _ ?_;clear hK;refine wrg ?_;conv=>whnf
  refine ⟨oo, ?_⟩;conv=>whnf
  exact ze ⟨j + 1, w, by rw [hcu, hw, Int.pow_succ, Int.mul_assoc], hw0, by omega, rfl, rfl⟩
 ·have hv : vl p c = j := zlP hp.1 hc ⟨u, hcu, λhd => h (Int.tmod_eq_zero_of_dvd hd)⟩;refine W.exit (hK1 _ ?_);clear hK7 hK1;refine wrs λK hK => ?_;conv=>whnf
  refine hK _ (W.ret ?_);conv=>whnf
  exact ⟨.v (.int .i64 j), ⟨rfl, rfl⟩, trivial, by rw [hv]⟩

abbrev vC (x : Int × Int) : V := .agg [.int .i64 x.1, .int .i64 x.2]
abbrev vCs (L : List (Int × Int)) : V := .vals none 2 L.length λj => vC (L.getD j (0, 0))

theorem kP {α : Type} {d x : α} {L : List α} {j : Nat} (h : j < L.length) : (L ++ [x]).getD j d = L.getD j d := by
 rw [List.getD_eq_getElem?_getD, List.getD_eq_getElem?_getD, List.getElem?_append_left h]
theorem kQ {α : Type} {d x : α} {L : List α} : (L ++ [x]).getD L.length d = x := by
 rw [List.getD_eq_getElem?_getD, List.getElem?_append_right (Nat.le_refl _), Nat.sub_self]; rfl

theorem zhz {p : Int} {l : List Int} {i : Nat} (h : cf l i = 0) : yi p l (i + 1) = yi p l i := by rw [yi, if_pos h, List.append_nil]
theorem vT {p : Int} {l : List Int} {i : Nat} (h : cf l i ≠ 0) : yi p l (i + 1) = yi p l i ++ [(((i : Nat) : Int), ((vl p (cf l i) : Nat) : Int))] := by rw [yi, if_neg h]


theorem zkp (p : Int) (g : Option Nat) (l : List Int) (hp : 2 <= p ∧ p <= 97) (hl : l.length <= 100) (hb : ∀ j, -1000000 <= cf l j ∧ cf l j <= 1000000) : FnV 198 [.int .i64 p, .ints g l] (vCs (yi p l l.length)) := by
 refine zf (za [0, 1, 4, 5, 6, 7, 8, 9, 10, 11, 16]) Tryz.func198 rfl (by decide) Tryz.ntmps198 (lb rfl) λbase => ?_;refine wrs λK hK => ?_;conv=>whnf
 refine hK _ (wrs λK hK => ?_);conv=>whnf
 refine hK _ (W.seqK λK1 hK1 => wrs λK hK => ?_);conv=>whnf
 refine hK _ (W.block (W.invA (λm e => ∃ (i b n : Nat) (L : List (Int × Int)), i <= l.length ∧ L = yi p l i ∧ n = L.length ∧ m = l.length - i ∧ e = [(0, .v (.int .i64 p)), (5, .ownV 136 2 b n λj => vC (L.getD j (0, 0))), (8, .v (.ints g l)), (9, .v (.int .i64 l.length)), (10, .v (.int .i64 i))]) ⟨0, 0, 0, [], Nat.zero_le _, rfl, rfl, rfl, rfl⟩ ?_));clear hK;rintro m e ⟨i, b, n, L, hi, hL, hn, hm, rfl⟩;have hLl := jH p l i;rw [<- hL] at hLl;have hbi := hb i;refine wrs λK hK => ?_;conv=>whnf
 refine hK _ ?_;clear hK;refine W.seqK λK7 hK7 => W.cond ⟨λh3 => ?_, λh3 => ?_⟩ <;> (first | replace h3 := of_decide_eq_true h3 | replace h3 := of_decide_eq_false h3)
 ·refine W.skip (hK7 _ ?_);clear hK7;refine W.seqK λK8 hK8 => W.block ?_;refine wrs λK hK => ?_;conv=>whnf
  refine ⟨oo, ?_⟩;conv=>whnf
  rw [Int.toNat_natCast];refine hK _ (wrs λK hK => ?_);conv=>whnf
  refine hK _ (W.cond ⟨λh => ?_, λh => ?_⟩) <;> clear hK
  ·have h : cf l i ≠ 0 := of_decide_eq_true h;have hx := vT (p := p) h;rw [<- hL] at hx;refine wrg ?_;conv=>whnf
   refine zc rfl (zfX p (l.getD i 0) hp h hbi) λhs' hhs => ?_;try dsimp only at hhs
   conv=>whnf
   refine ⟨⟨rfl, by decide, λx hx => by simp at hx; subst hx; exact ⟨rfl, rfl⟩⟩, ?_⟩;conv=>whnf
   intro b_3 hs_3 hh_3 hf_3;try dsimp only at hh_3 hf_3
   conv=>whnf
   refine ⟨by omega, ?_⟩;conv=>whnf
   refine ⟨λj => vC ((L ++ [(((i : Nat) : Int), ((vl p (cf l i) : Nat) : Int))]).getD j (0, 0)), λj hj => by show vC _ = vC _; rw [kP (by omega)], λj hj => by (obtain rfl : j = 0 := (by omega)); show vC ((L ++ [(((i : Nat) : Int), ((vl p (cf l i) : Nat) : Int))]).getD (n + 0) (0, 0)) = _; rw [Nat.add_zero, hn, kQ]; rfl, ?_⟩;intro b_4 hs_4 hh_4 hf_4;try dsimp only at hh_4 hf_4
   conv=>whnf
   refine hK8 _ ?_;clear hK8;refine wrg ?_;conv=>whnf
   refine ⟨oo, ?_⟩;conv=>whnf
   exact ze ⟨i + 1, b_4, n + 1, _, by omega, hx.symm, by rw [List.length_append, <- hn]; rfl, rfl, rfl⟩
  ·have h : cf l i = 0 := by have := of_decide_eq_false h; exact Classical.byContradiction λh' => this h'
   have hx := zhz (p := p) h;rw [<- hL] at hx;refine W.skip (hK8 _ ?_);clear hK8;refine wrg ?_;conv=>whnf
   refine ⟨oo, ?_⟩;conv=>whnf
   exact ze ⟨i + 1, b, n, L, by omega, hx.symm, hn, rfl, rfl⟩
 ·obtain rfl : i = l.length := by omega
  subst hL hn;refine W.exit (hK1 _ ?_);clear hK7 hK1;refine wrs λK hK => ?_;conv=>whnf
  refine hK _ (W.ret ?_);conv=>whnf
  exact ⟨.v (vCs (yi p l l.length)), ⟨rfl, rfl, rfl, λ_ _ => rfl⟩, ⟨trivial, λ_ _ => ⟨trivial, trivial, trivial⟩⟩, rfl⟩

theorem zfY (p : Int) (g : Option Nat) (l : List Int) (hp : 2 <= p ∧ p <= 97) (hl : l.length <= 100) (hb : ∀ j, -1000000 <= cf l j ∧ cf l j <= 1000000) : FnV 200 [.int .i64 p, .ints g l] (vCs (yi p l l.length)) := by
 refine zf (za [0, 1, 4, 5, 6, 11, 18]) Tryz.func200 rfl (by decide) Tryz.ntmps200 (lb rfl) λbase => ?_;refine wrs λK hK => ?_;conv=>whnf
 refine hK _ (wrs λK hK => ?_);conv=>whnf
 refine ⟨⟨rfl, by decide, λx hx => by simp at hx⟩, ?_⟩;conv=>whnf
 intro b_7 hs_7 hh_7 hf_7;try dsimp only at hh_7 hf_7
 conv=>whnf
 refine hK _ (W.seqK λK1 hK1 => wrs λK hK => ?_);conv=>whnf
 refine hK _ (W.block (W.invA (λm e => ∃ (i b n : Nat) (L : List (Int × Int)), i <= l.length ∧ L = yi p l i ∧ n = L.length ∧ m = l.length - i ∧ e = [(0, .v (.int .i64 p)), (1, .v (.ints g l)), (5, .ownV 136 2 b n λj => vC (L.getD j (0, 0))), (6, .v (.int .i64 i))]) ⟨0, b_7, 0, [], Nat.zero_le _, rfl, rfl, rfl, rfl⟩ ?_));clear hK;rintro m e ⟨i, b, n, L, hi, hL, hn, hm, rfl⟩;have hLl := jH p l i;rw [<- hL] at hLl;have hbi := hb i;refine W.seqK λK7 hK7 => wrs λK hK => ?_;conv=>whnf
 refine hK _ (W.cond ⟨λh3 => ?_, λh3 => ?_⟩) <;> clear hK <;> (first | replace h3 := of_decide_eq_true h3 | replace h3 := of_decide_eq_false h3)
 ·refine W.skip (hK7 _ ?_);clear hK7;refine W.seqK λK8 hK8 => W.block ?_;refine wrs λK hK => ?_;conv=>whnf
  refine ⟨oo, ?_⟩;conv=>whnf
  rw [Int.toNat_natCast];refine hK _ (W.cond ⟨λh => ?_, λh => ?_⟩) <;> clear hK
  ·have h : cf l i ≠ 0 := of_decide_eq_true h;have hx := vT (p := p) h;rw [<- hL] at hx;refine wrg ?_;conv=>whnf
   refine ⟨oo, ?_⟩;conv=>whnf
   rw [Int.toNat_natCast];refine zc rfl (kb p (l.getD i 0) hp h hbi) λhs' hhs => ?_;try dsimp only at hhs
   conv=>whnf
   refine ⟨⟨rfl, by decide, λx hx => by simp at hx; subst hx; exact ⟨rfl, rfl⟩⟩, ?_⟩;conv=>whnf
   intro b_3 hs_3 hh_3 hf_3;try dsimp only at hh_3 hf_3
   conv=>whnf
   refine ⟨by omega, ?_⟩;conv=>whnf
   refine ⟨λj => vC ((L ++ [(((i : Nat) : Int), ((vl p (cf l i) : Nat) : Int))]).getD j (0, 0)), λj hj => by show vC _ = vC _; rw [kP (by omega)], λj hj => by (obtain rfl : j = 0 := (by omega)); show vC ((L ++ [(((i : Nat) : Int), ((vl p (cf l i) : Nat) : Int))]).getD (n + 0) (0, 0)) = _; rw [Nat.add_zero, hn, kQ]; rfl, ?_⟩;intro b_4 hs_4 hh_4 hf_4;try dsimp only at hh_4 hf_4
   conv=>whnf
   refine hK8 _ ?_;clear hK8;refine wrg ?_;conv=>whnf
   refine ⟨oo, ?_⟩;conv=>whnf
   exact ze ⟨i + 1, b_4, n + 1, _, by omega, hx.symm, by rw [List.length_append, <- hn]; rfl, rfl, rfl⟩
  ·have h : cf l i = 0 := by have := of_decide_eq_false h; exact Classical.byContradiction λh' => this h'
   have hx := zhz (p := p) h;rw [<- hL] at hx;refine W.skip (hK8 _ ?_);clear hK8;refine wrg ?_;conv=>whnf
   refine ⟨oo, ?_⟩;conv=>whnf
   exact ze ⟨i + 1, b, n, L, by omega, hx.symm, hn, rfl, rfl⟩
 ·obtain rfl : i = l.length := by omega
  subst hL hn;refine W.exit (hK1 _ ?_);clear hK7 hK1;refine wrs λK hK => ?_;conv=>whnf
  refine hK _ (W.ret ?_);conv=>whnf
  exact ⟨.v (vCs (yi p l l.length)), ⟨rfl, rfl, rfl, λ_ _ => rfl⟩, ⟨trivial, λ_ _ => ⟨trivial, trivial, trivial⟩⟩, rfl⟩

open Go Go.RowKit Go.Proofs Poly Hull

abbrev pX (P : List (Int × Int)) (i : Nat) : Int := (P.getD i (0, 0)).1
abbrev pY (P : List (Int × Int)) (i : Nat) : Int := (P.getD i (0, 0)).2
def PtB (P : List (Int × Int)) : Prop := ∀ i, (0 <= pX P i ∧ pX P i <= 100) ∧ 0 <= pY P i ∧ pY P i <= 100
theorem zbS {a b : Int} (ha : -100 <= a ∧ a <= 100) (hb : -100 <= b ∧ b <= 100) : -10000 <= a * b ∧ a * b <= 10000 := by
 have h1 : (a.natAbs * b.natAbs) <= 100 * 100 := Nat.mul_le_mul (by omega) (by omega);rw [<- Int.natAbs_mul] at h1;omega
def cnL (P : List (Int × Int)) (C : List Nat) : List (Int × Int) := C.map λi => P.getD i (0, 0)
theorem kR {P : List (Int × Int)} {C : List Nat} {j : Nat} (h : j < C.length) : (cnL P C).getD j (0, 0) = P.getD (at' C j) (0, 0) := by
 unfold cnL at';rw [yR (by simpa using h), List.getElem_map, yR h]

theorem zfZ {X Y : Nat -> Int} {n : Nat} {C : List Nat} (h : Hul X Y n C) : C.length <= at' C (C.length - 1) + 1 := by
 have key : ∀ i, i < C.length -> i <= at' C i := by
  intro i
  induction i with
  | zero => intro _; omega
  | succ i ih =>
   intro h1;have h2 := (h.next i h1).lt;have := ih (by omega);omega
 have := h.pos;have := key (C.length - 1) (by omega);omega

theorem zek (p : Int) (g : Option Nat) (l : List Int) (hp : 2 <= p ∧ p <= 97) (hl : l.length <= 100) (hb : ∀ j, -1000000 <= cf l j ∧ cf l j <= 1000000) (P : List (Int × Int)) (hP : P = yi p l l.length) (n : Nat) (hn : P.length = n + 1) (hPb : PtB P) (hX : ∀ i j, i < j -> j <= n -> pX P i < pX P j)
  (C : List Nat) (hC : Hul (pX P) (pY P) n C) (hCl : at' C (C.length - 1) = n) : FnV 163 [.int .i64 p, .ints g l] (vCs (cnL P C)) := by
 have hPl := jH p l l.length;rw [<- hP] at hPl;refine zf (za [0, 1, 4, 5, 6, 7, 8, 9, 10, 11, 23, 31, 76]) Tryz.func163 rfl (by decide) Tryz.ntmps163 (lb rfl) λbase => ?_;refine wrs λK hK => ?_;conv=>whnf
 refine hK _ (wrs λK hK => ?_);conv=>whnf
 refine zc rfl (zfY p g l hp hl hb) λhs' hhs => ?_;try dsimp only at hhs
 conv=>whnf
 rw [<- hP];refine hK _ (wrs λK hK => ?_);conv=>whnf
 refine ⟨⟨by decide, by omega⟩, ?_⟩;conv=>whnf
 refine ⟨⟨rfl, by decide, λx hx => by simp at hx; subst hx; exact ⟨rfl, rfl⟩⟩, ?_⟩;conv=>whnf
 intro b_6 hs_6 hh_6 hf_6;try dsimp only at hh_6 hf_6
 conv=>whnf
 refine hK _ (wrs λK hK => ?_);conv=>whnf
 refine hK _ ?_;clear hK;refine W.seqK λK1 hK1 => W.block (W.invA (λm e => ∃ (E : List Nat) (a b nn : Nat), Hul (pX P) (pY P) n E ∧ at' E (E.length - 1) = a ∧ a <= n ∧ nn = E.length ∧ m = n - a ∧ e = [(5, .v (vCs P)), (6, .ownV 136 2 b nn λj => vC (P.getD (at' E j) (0, 0))), (7, .v (.int .i64 a))]) ⟨[0], 0, b_6, 1, Hul.one, rfl, Nat.zero_le _, rfl, rfl, rfl⟩ ?_);rintro m e ⟨E, a, b, nn, hE, ha, han, hnn, hm, rfl⟩;have hEl : at' E (E.length - 1) = a := ha;refine W.seqK λK7 hK7 => wrs λK hK => ?_;conv=>whnf
 refine ⟨oo, ?_⟩;conv=>whnf
 refine hK _ (W.cond ⟨λh3 => ?_, λh3 => ?_⟩) <;> clear hK <;> (first | replace h3 := of_decide_eq_true h3 | replace h3 := of_decide_eq_false h3)
 ·have han2 : a < n := by omega
  refine W.skip (hK7 _ (W.block ?_));clear hK7;refine wrs λK hK => ?_;conv=>whnf
  refine ⟨oo, ?_⟩;conv=>whnf
  refine hK _ (W.seqK λK5 hK5 => wrs λK hK => ?_);conv=>whnf
  refine ⟨oo, ?_⟩;conv=>whnf
  refine hK _ (W.block (W.invA (λm e => ∃ (k x : Nat), a + 2 <= k ∧ k <= n + 1 ∧ Best (pX P) (pY P) a (k - 1) x ∧ m = n + 1 - k ∧ e = [(5, .v (vCs P)), (6, .ownV 136 2 b nn λj => vC (P.getD (at' E j) (0, 0))), (7, .v (.int .i64 a)), (8, .v (.int .i64 x)), (9, .v (.int .i64 k))]) ⟨a + 2, a + 1, Nat.le_refl _, by omega, Best.start a, rfl, rfl⟩ ?_));clear hK;rintro m' e ⟨k, x, hk1, hk2, hB, hm', rfl⟩;have hB1 := hB.lt;have hB2 := hB.le;refine W.seqK λK7 hK7 => wrs λK hK => ?_;conv=>whnf
  refine hK _ (W.cond ⟨λh6 => ?_, λh6 => ?_⟩) <;> clear hK <;> (first | replace h6 := of_decide_eq_true h6 | replace h6 := of_decide_eq_false h6)
  ·have hk3 : k <= n := by omega
   have hcx := hPb x;have hck := hPb k;have hca := hPb a;refine W.skip (hK7 _ ?_);clear hK7;refine W.seqK λK8 hK8 => W.block ?_;refine W.seqK λK9 hK9 => ?_
   have mid : ∀ (bx bz : Nat) (t : S), base <= t.hs -> zB t.env [(5, .v (vCs P)), (6, .ownV 136 2 b nn λj => vC (P.getD (at' E j) (0, 0))), (7, .v (.int .i64 a)), (8, .v (.int .i64 x)), (9, .v (.int .i64 k)), (10, .ownB bx (vC (P.getD x (0, 0)))), (11, .ownB bz (vC (P.getD k (0, 0))))] -> K9 t := by
    intro bx bz t h7 h8;refine hK9 _ (W.weak (t := ⟨[(5, .v (vCs P)), (6, .ownV 136 2 b nn λj => vC (P.getD (at' E j) (0, 0))), (7, .v (.int .i64 a)), (8, .v (.int .i64 x)), (9, .v (.int .i64 k)), (10, .ownB bx (vC (P.getD x (0, 0)))), (11, .ownB bz (vC (P.getD k (0, 0))))], base⟩) ⟨h7, h8⟩ (Nat.le_refl _) ?_);clear hK9;have m1 := zbS (a := pY P k - pY P a) (b := pX P x - pX P a) (by omega) (by omega);have m2 := zbS (a := pY P x - pY P a) (b := pX P k - pX P a) (by omega) (by omega);have c1 : crs (pX P) (pY P) a x k = (pY P k - pY P a) * (pX P x - pX P a) - (pY P x - pY P a) * (pX P k - pX P a) := rfl;refine W.rd (za _) follows (by rfl) λK hK => ?_;conv=>whnf
    refine ⟨oo, ?_⟩;conv=>whnf
    rw [Int.toNat_natCast];refine ⟨by show _ <= pY P k - pY P a ∧ pY P k - pY P a <= _; omega, ?_⟩;conv=>whnf
    refine ⟨oo, ?_⟩;conv=>whnf
    refine ⟨by show _ <= pX P x - pX P a ∧ pX P x - pX P a <= _; omega, ?_⟩;conv=>whnf
    refine ⟨by show _ <= (pY P k - pY P a) * (pX P x - pX P a) ∧ (pY P k - pY P a) * (pX P x - pX P a) <= _; omega, ?_⟩;conv=>whnf
    refine ⟨oo, ?_⟩;conv=>whnf
    refine ⟨by show _ <= pY P x - pY P a ∧ pY P x - pY P a <= _; omega, ?_⟩;conv=>whnf
    refine ⟨oo, ?_⟩;conv=>whnf
    refine ⟨by show _ <= pX P k - pX P a ∧ pX P k - pX P a <= _; omega, ?_⟩;conv=>whnf
    refine ⟨by show _ <= (pY P x - pY P a) * (pX P k - pX P a) ∧ (pY P x - pY P a) * (pX P k - pX P a) <= _; omega, ?_⟩;conv=>whnf
    obtain ⟨q, rfl⟩ : ∃ q, k = q + 1 := ⟨k - 1, by omega⟩
    refine hK _ (W.cond ⟨λh => ?_, λh => ?_⟩) <;> clear hK
    ·have h : (pY P (q + 1) - pY P a) * (pX P x - pX P a) <= (pY P x - pY P a) * (pX P (q + 1) - pX P a) := of_decide_eq_true h;have hB' := Best.turn hX hk3 hB (by show crs _ _ a x (q + 1) <= 0; rw [c1]; exact Int.sub_nonpos_of_le h);refine wrg ?_;conv=>whnf
     refine hK8 _ ?_;clear hK8;refine wrg ?_;conv=>whnf
     refine ⟨oo, ?_⟩;conv=>whnf
     exact ze ⟨q + 1 + 1, q + 1, by omega, by omega, hB', rfl, rfl⟩
    ·have h : ¬ (pY P (q + 1) - pY P a) * (pX P x - pX P a) <= (pY P x - pY P a) * (pX P (q + 1) - pX P a) := of_decide_eq_false h;have hB' := Best.keep hB (by show 0 < crs _ _ a x (q + 1); rw [c1]; exact Int.sub_pos_of_lt (Int.lt_of_not_ge h));refine W.skip (hK8 _ ?_);clear hK8;refine wrg ?_;conv=>whnf
     refine ⟨oo, ?_⟩;conv=>whnf
     exact ze ⟨q + 1 + 1, x, by omega, by omega, hB', rfl, rfl⟩
   refine W.sch follows ?_;refine wt 0 ?_;conv=>whnf
   refine wt 1 ?_;conv=>whnf
   refine wi 2 ?_;conv=>whnf
   refine ⟨oo, ?_⟩;conv=>whnf
   rw [Int.toNat_natCast];refine wt 4 ?_;conv=>whnf
   refine wt 5 ?_;conv=>whnf
   refine wi 6 ?_;conv=>whnf
   refine ⟨oo, ?_⟩;conv=>whnf
   rw [Int.toNat_natCast];refine Wany.all (za []) (by rfl) (rs := [3, 7, 8, 9]) (by kernel_rfl) (by decide) ?_;intro i hi;simp only [List.mem_cons, List.not_mem_nil, or_false] at hi
   rcases hi with rfl | rfl | rfl | rfl <;> refine ⟨_, by rfl, by rfl, ?_⟩ <;> conv=>whnf
   ·refine w3 7 8 9 ?_ ?_ ?_ <;> conv=>whnf
    ·refine w2 8 9 ?_ ?_ <;> conv=>whnf
     ·intro b_x hs_x hh_x hf_x;try dsimp only at hh_x hf_x
      conv=>whnf
      refine w1 9 ?_;conv=>whnf
      intro b_z hs_z hh_z hf_z;try dsimp only at hh_z hf_z
      conv=>whnf
      refine w1 10 ?_;conv=>whnf
      refine ⟨s23, ?_⟩;conv=>whnf
      refine w1 11 ?_;conv=>whnf
      refine ⟨s23, ?_⟩;conv=>whnf
      refine wd1 (mid b_x b_z _ (by dsimp only; omega) ?_);exact cvr
     ·intro b_z hs_z hh_z hf_z;try dsimp only at hh_z hf_z
      conv=>whnf
      refine w1 8 ?_;conv=>whnf
      intro b_x hs_x hh_x hf_x;try dsimp only at hh_x hf_x
      conv=>whnf
      refine w1 10 ?_;conv=>whnf
      refine ⟨s23, ?_⟩;conv=>whnf
      refine w1 11 ?_;conv=>whnf
      refine ⟨s23, ?_⟩;conv=>whnf
      refine wd1 (mid b_x b_z _ (by dsimp only; omega) ?_);exact cvr
    ·intro b_x hs_x hh_x hf_x;try dsimp only at hh_x hf_x
     conv=>whnf
     refine w2 7 9 ?_ ?_ <;> conv=>whnf
     ·refine w1 9 ?_;conv=>whnf
      intro b_z hs_z hh_z hf_z;try dsimp only at hh_z hf_z
      conv=>whnf
      refine w1 10 ?_;conv=>whnf
      refine ⟨s23, ?_⟩;conv=>whnf
      refine w1 11 ?_;conv=>whnf
      refine ⟨s23, ?_⟩;conv=>whnf
      refine wd1 (mid b_x b_z _ (by dsimp only; omega) ?_);exact cvr
     ·intro b_z hs_z hh_z hf_z;try dsimp only at hh_z hf_z
      conv=>whnf
      refine w2 7 10 ?_ ?_ <;> conv=>whnf
      ·refine w1 10 ?_;conv=>whnf
       refine ⟨s23, ?_⟩;conv=>whnf
       refine w1 11 ?_;conv=>whnf
       refine ⟨s23, ?_⟩;conv=>whnf
       refine wd1 (mid b_x b_z _ (by dsimp only; omega) ?_);exact cvr
      ·refine ⟨s23, ?_⟩;conv=>whnf
       refine w1 7 ?_;conv=>whnf
       refine w1 11 ?_;conv=>whnf
       refine ⟨s23, ?_⟩;conv=>whnf
       refine wd1 (mid b_x b_z _ (by dsimp only; omega) ?_);exact cvr
    ·intro b_z hs_z hh_z hf_z;try dsimp only at hh_z hf_z
     conv=>whnf
     refine w2 7 8 ?_ ?_ <;> conv=>whnf
     ·refine w1 8 ?_;conv=>whnf
      intro b_x hs_x hh_x hf_x;try dsimp only at hh_x hf_x
      conv=>whnf
      refine w1 10 ?_;conv=>whnf
      refine ⟨s23, ?_⟩;conv=>whnf
      refine w1 11 ?_;conv=>whnf
      refine ⟨s23, ?_⟩;conv=>whnf
      refine wd1 (mid b_x b_z _ (by dsimp only; omega) ?_);exact cvr
     ·intro b_x hs_x hh_x hf_x;try dsimp only at hh_x hf_x
      conv=>whnf
      refine w2 7 10 ?_ ?_ <;> conv=>whnf
      ·refine w1 10 ?_;conv=>whnf
       refine ⟨s23, ?_⟩;conv=>whnf
       refine w1 11 ?_;conv=>whnf
       refine ⟨s23, ?_⟩;conv=>whnf
       refine wd1 (mid b_x b_z _ (by dsimp only; omega) ?_);exact cvr
      ·refine ⟨s23, ?_⟩;conv=>whnf
       refine w1 7 ?_;conv=>whnf
       refine w1 11 ?_;conv=>whnf
       refine ⟨s23, ?_⟩;conv=>whnf
       refine wd1 (mid b_x b_z _ (by dsimp only; omega) ?_);exact cvr
   ·refine w3 3 8 9 ?_ ?_ ?_ <;> conv=>whnf
    ·refine w2 8 9 ?_ ?_ <;> conv=>whnf
     ·intro b_x hs_x hh_x hf_x;try dsimp only at hh_x hf_x
      conv=>whnf
      refine w1 9 ?_;conv=>whnf
      intro b_z hs_z hh_z hf_z;try dsimp only at hh_z hf_z
      conv=>whnf
      refine w1 10 ?_;conv=>whnf
      refine ⟨s23, ?_⟩;conv=>whnf
      refine w1 11 ?_;conv=>whnf
      refine ⟨s23, ?_⟩;conv=>whnf
      refine wd1 (mid b_x b_z _ (by dsimp only; omega) ?_);exact cvr
     ·intro b_z hs_z hh_z hf_z;try dsimp only at hh_z hf_z
      conv=>whnf
      refine w1 8 ?_;conv=>whnf
      intro b_x hs_x hh_x hf_x;try dsimp only at hh_x hf_x
      conv=>whnf
      refine w1 10 ?_;conv=>whnf
      refine ⟨s23, ?_⟩;conv=>whnf
      refine w1 11 ?_;conv=>whnf
      refine ⟨s23, ?_⟩;conv=>whnf
      refine wd1 (mid b_x b_z _ (by dsimp only; omega) ?_);exact cvr
    ·intro b_x hs_x hh_x hf_x;try dsimp only at hh_x hf_x
     conv=>whnf
     refine w2 3 9 ?_ ?_ <;> conv=>whnf
     ·refine w1 9 ?_;conv=>whnf
      intro b_z hs_z hh_z hf_z;try dsimp only at hh_z hf_z
      conv=>whnf
      refine w1 10 ?_;conv=>whnf
      refine ⟨s23, ?_⟩;conv=>whnf
      refine w1 11 ?_;conv=>whnf
      refine ⟨s23, ?_⟩;conv=>whnf
      refine wd1 (mid b_x b_z _ (by dsimp only; omega) ?_);exact cvr
     ·intro b_z hs_z hh_z hf_z;try dsimp only at hh_z hf_z
      conv=>whnf
      refine w1 3 ?_;conv=>whnf
      refine w1 10 ?_;conv=>whnf
      refine ⟨s23, ?_⟩;conv=>whnf
      refine w1 11 ?_;conv=>whnf
      refine ⟨s23, ?_⟩;conv=>whnf
      refine wd1 (mid b_x b_z _ (by dsimp only; omega) ?_);exact cvr
    ·intro b_z hs_z hh_z hf_z;try dsimp only at hh_z hf_z
     conv=>whnf
     refine w2 3 8 ?_ ?_ <;> conv=>whnf
     ·refine w1 8 ?_;conv=>whnf
      intro b_x hs_x hh_x hf_x;try dsimp only at hh_x hf_x
      conv=>whnf
      refine w1 10 ?_;conv=>whnf
      refine ⟨s23, ?_⟩;conv=>whnf
      refine w1 11 ?_;conv=>whnf
      refine ⟨s23, ?_⟩;conv=>whnf
      refine wd1 (mid b_x b_z _ (by dsimp only; omega) ?_);exact cvr
     ·intro b_x hs_x hh_x hf_x;try dsimp only at hh_x hf_x
      conv=>whnf
      refine w1 3 ?_;conv=>whnf
      refine w1 10 ?_;conv=>whnf
      refine ⟨s23, ?_⟩;conv=>whnf
      refine w1 11 ?_;conv=>whnf
      refine ⟨s23, ?_⟩;conv=>whnf
      refine wd1 (mid b_x b_z _ (by dsimp only; omega) ?_);exact cvr
   ·intro b_x hs_x hh_x hf_x;try dsimp only at hh_x hf_x
    conv=>whnf
    refine w3 3 7 9 ?_ ?_ ?_ <;> conv=>whnf
    ·refine w2 7 9 ?_ ?_ <;> conv=>whnf
     ·refine w1 9 ?_;conv=>whnf
      intro b_z hs_z hh_z hf_z;try dsimp only at hh_z hf_z
      conv=>whnf
      refine w1 10 ?_;conv=>whnf
      refine ⟨s23, ?_⟩;conv=>whnf
      refine w1 11 ?_;conv=>whnf
      refine ⟨s23, ?_⟩;conv=>whnf
      refine wd1 (mid b_x b_z _ (by dsimp only; omega) ?_);exact cvr
     ·intro b_z hs_z hh_z hf_z;try dsimp only at hh_z hf_z
      conv=>whnf
      refine w2 7 10 ?_ ?_ <;> conv=>whnf
      ·refine w1 10 ?_;conv=>whnf
       refine ⟨s23, ?_⟩;conv=>whnf
       refine w1 11 ?_;conv=>whnf
       refine ⟨s23, ?_⟩;conv=>whnf
       refine wd1 (mid b_x b_z _ (by dsimp only; omega) ?_);exact cvr
      ·refine ⟨s23, ?_⟩;conv=>whnf
       refine w1 7 ?_;conv=>whnf
       refine w1 11 ?_;conv=>whnf
       refine ⟨s23, ?_⟩;conv=>whnf
       refine wd1 (mid b_x b_z _ (by dsimp only; omega) ?_);exact cvr
    ·refine w2 3 9 ?_ ?_ <;> conv=>whnf
     ·refine w1 9 ?_;conv=>whnf
      intro b_z hs_z hh_z hf_z;try dsimp only at hh_z hf_z
      conv=>whnf
      refine w1 10 ?_;conv=>whnf
      refine ⟨s23, ?_⟩;conv=>whnf
      refine w1 11 ?_;conv=>whnf
      refine ⟨s23, ?_⟩;conv=>whnf
      refine wd1 (mid b_x b_z _ (by dsimp only; omega) ?_);exact cvr
     ·intro b_z hs_z hh_z hf_z;try dsimp only at hh_z hf_z
      conv=>whnf
      refine w1 3 ?_;conv=>whnf
      refine w1 10 ?_;conv=>whnf
      refine ⟨s23, ?_⟩;conv=>whnf
      refine w1 11 ?_;conv=>whnf
      refine ⟨s23, ?_⟩;conv=>whnf
      refine wd1 (mid b_x b_z _ (by dsimp only; omega) ?_);exact cvr
    ·intro b_z hs_z hh_z hf_z;try dsimp only at hh_z hf_z
     conv=>whnf
     refine w2 3 7 ?_ ?_ <;> conv=>whnf
     ·refine w2 7 10 ?_ ?_ <;> conv=>whnf
      ·refine w1 10 ?_;conv=>whnf
       refine ⟨s23, ?_⟩;conv=>whnf
       refine w1 11 ?_;conv=>whnf
       refine ⟨s23, ?_⟩;conv=>whnf
       refine wd1 (mid b_x b_z _ (by dsimp only; omega) ?_);exact cvr
      ·refine ⟨s23, ?_⟩;conv=>whnf
       refine w1 7 ?_;conv=>whnf
       refine w1 11 ?_;conv=>whnf
       refine ⟨s23, ?_⟩;conv=>whnf
       refine wd1 (mid b_x b_z _ (by dsimp only; omega) ?_);exact cvr
     ·refine w1 3 ?_;conv=>whnf
      refine w1 10 ?_;conv=>whnf
      refine ⟨s23, ?_⟩;conv=>whnf
      refine w1 11 ?_;conv=>whnf
      refine ⟨s23, ?_⟩;conv=>whnf
      refine wd1 (mid b_x b_z _ (by dsimp only; omega) ?_);exact cvr
   ·intro b_z hs_z hh_z hf_z;try dsimp only at hh_z hf_z
    conv=>whnf
    refine w3 3 7 8 ?_ ?_ ?_ <;> conv=>whnf
    ·refine w2 7 8 ?_ ?_ <;> conv=>whnf
     ·refine w1 8 ?_;conv=>whnf
      intro b_x hs_x hh_x hf_x;try dsimp only at hh_x hf_x
      conv=>whnf
      refine w1 10 ?_;conv=>whnf
      refine ⟨s23, ?_⟩;conv=>whnf
      refine w1 11 ?_;conv=>whnf
      refine ⟨s23, ?_⟩;conv=>whnf
      refine wd1 (mid b_x b_z _ (by dsimp only; omega) ?_);exact cvr
     ·intro b_x hs_x hh_x hf_x;try dsimp only at hh_x hf_x
      conv=>whnf
      refine w2 7 10 ?_ ?_ <;> conv=>whnf
      ·refine w1 10 ?_;conv=>whnf
       refine ⟨s23, ?_⟩;conv=>whnf
       refine w1 11 ?_;conv=>whnf
       refine ⟨s23, ?_⟩;conv=>whnf
       refine wd1 (mid b_x b_z _ (by dsimp only; omega) ?_);exact cvr
      ·refine ⟨s23, ?_⟩;conv=>whnf
       refine w1 7 ?_;conv=>whnf
       refine w1 11 ?_;conv=>whnf
       refine ⟨s23, ?_⟩;conv=>whnf
       refine wd1 (mid b_x b_z _ (by dsimp only; omega) ?_);exact cvr
    ·refine w2 3 8 ?_ ?_ <;> conv=>whnf
     ·refine w1 8 ?_;conv=>whnf
      intro b_x hs_x hh_x hf_x;try dsimp only at hh_x hf_x
      conv=>whnf
      refine w1 10 ?_;conv=>whnf
      refine ⟨s23, ?_⟩;conv=>whnf
      refine w1 11 ?_;conv=>whnf
      refine ⟨s23, ?_⟩;conv=>whnf
      refine wd1 (mid b_x b_z _ (by dsimp only; omega) ?_);exact cvr
     ·intro b_x hs_x hh_x hf_x;try dsimp only at hh_x hf_x
      conv=>whnf
      refine w1 3 ?_;conv=>whnf
      refine w1 10 ?_;conv=>whnf
      refine ⟨s23, ?_⟩;conv=>whnf
      refine w1 11 ?_;conv=>whnf
      refine ⟨s23, ?_⟩;conv=>whnf
      refine wd1 (mid b_x b_z _ (by dsimp only; omega) ?_);exact cvr
    ·intro b_x hs_x hh_x hf_x;try dsimp only at hh_x hf_x
     conv=>whnf
     refine w2 3 7 ?_ ?_ <;> conv=>whnf
     ·refine w2 7 10 ?_ ?_ <;> conv=>whnf
      ·refine w1 10 ?_;conv=>whnf
       refine ⟨s23, ?_⟩;conv=>whnf
       refine w1 11 ?_;conv=>whnf
       refine ⟨s23, ?_⟩;conv=>whnf
       refine wd1 (mid b_x b_z _ (by dsimp only; omega) ?_);exact cvr
      ·refine ⟨s23, ?_⟩;conv=>whnf
       refine w1 7 ?_;conv=>whnf
       refine w1 11 ?_;conv=>whnf
       refine ⟨s23, ?_⟩;conv=>whnf
       refine wd1 (mid b_x b_z _ (by dsimp only; omega) ?_);exact cvr
     ·refine w1 3 ?_;conv=>whnf
      refine w1 10 ?_;conv=>whnf
      refine ⟨s23, ?_⟩;conv=>whnf
      refine w1 11 ?_;conv=>whnf
      refine ⟨s23, ?_⟩;conv=>whnf
      refine wd1 (mid b_x b_z _ (by dsimp only; omega) ?_);exact cvr
-- 30 ways
  ·obtain rfl : k = n + 1 := by omega
   have hG : Hull.Good (pX P) (pY P) n a x := Best.good hB;have hE' := hE.snoc (by rw [hEl]; exact hG);have hEln := zfZ hE;refine W.exit (hK5 _ ?_);clear hK7 hK5;refine wrs λK hK => ?_;conv=>whnf
   refine ⟨oo, ?_⟩;conv=>whnf
   rw [Int.toNat_natCast];refine ⟨⟨rfl, by decide, λx hx => by simp at hx; subst hx; exact ⟨rfl, rfl⟩⟩, ?_⟩;conv=>whnf
   intro b_2 hs_2 hh_2 hf_2;try dsimp only at hh_2 hf_2
   conv=>whnf
   refine ⟨by omega, ?_⟩;conv=>whnf
   refine ⟨λj => vC (P.getD (at' (E ++ [x]) j) (0, 0)), λj hj => by show vC _ = vC _; rw [xO, if_pos (by omega)], λj hj => by (obtain rfl : j = 0 := (by omega)); show vC (P.getD (at' (E ++ [x]) (nn + 0)) (0, 0)) = _; rw [Nat.add_zero, xO, if_neg (by omega), if_pos hnn]; rfl, ?_⟩;intro b_3 hs_3 hh_3 hf_3;try dsimp only at hh_3 hf_3
   conv=>whnf
   refine hK _ ?_;clear hK;refine wrg ?_;conv=>whnf
   exact ze ⟨E ++ [x], x, b_3, nn + 1, hE', by rw [List.length_append, xO]; simp, hG.le, by rw [List.length_append, hnn]; rfl, rfl, rfl⟩
 ·obtain rfl : a = n := by omega
  obtain rfl := hE.unique hC ha hCl;have hlen : (cnL P E).length = E.length := by unfold cnL; rw [List.length_map]
  refine W.exit (hK1 _ ?_);clear hK7 hK1;refine wrs λK hK => ?_;conv=>whnf
  refine hK _ (W.ret ?_);conv=>whnf
  exact ⟨.v (vCs (cnL P E)), ⟨rfl, rfl, by omega, λi hi => by show vC _ = vC _; rw [kR (by omega)]⟩, ⟨trivial, λ_ _ => ⟨trivial, trivial, trivial⟩⟩, rfl⟩

open Go Go.RowKit Go.Proofs Poly Hull

theorem ziG (p : Int) (g : Option Nat) (l : List Int) (hp : 2 <= p ∧ p <= 97) (hl : l.length <= 100) (hb : ∀ j, -1000000 <= cf l j ∧ cf l j <= 1000000) (P : List (Int × Int)) (hP : P = yi p l l.length) (n : Nat) (hn : P.length = n + 1) (hPb : PtB P) (hX : ∀ i j, i < j -> j <= n -> pX P i < pX P j)
  (C : List Nat) (hC : Hul (pX P) (pY P) n C) (hCl : at' C (C.length - 1) = n) : FnV 161 [.int .i64 p, .ints g l] (vCs (cnL P C)) := by
 have hPl := jH p l l.length;rw [<- hP] at hPl;refine zf (za [0, 1, 4, 5, 7, 8, 9, 10, 13, 14, 15, 16, 22, 57]) Tryz.func161 rfl (by decide) Tryz.ntmps161 (lb rfl) λbase => ?_;refine wrs λK hK => ?_;conv=>whnf
 refine hK _ (wrs λK hK => ?_);conv=>whnf
 refine hK _ (W.seqK λK1 hK1 => wrs λK hK => ?_);conv=>whnf
 refine zc rfl (zkp p g l hp hl hb) λhs' hhs => ?_;try dsimp only at hhs
 conv=>whnf
 rw [<- hP];refine hK _ (W.block (W.invA (λm e => ∃ (k b nn : Nat) (E : List Nat), k <= n + 1 ∧ (k = 0 -> E = []) ∧ (0 < k -> Hul (pX P) (pY P) (k - 1) E ∧ at' E (E.length - 1) = k - 1) ∧ nn = E.length ∧ m = n + 1 - k ∧ e = [(5, .ownV 136 2 b nn λj => vC (P.getD (at' E j) (0, 0))), (13, .v (vCs P)), (14, .v (.int .i64 P.length)), (15, .v (.int .i64 k))]) ⟨0, 0, 0, [], Nat.zero_le _, λ_ => rfl, λh => absurd h (Nat.lt_irrefl 0), rfl, rfl, rfl⟩ ?_));clear hK;rintro m e ⟨k, b, nn, E, hk, hE0, hE1, hnn, hm, rfl⟩;refine wrs λK hK => ?_;conv=>whnf
 refine hK _ ?_;clear hK;refine W.seqK λK7 hK7 => W.cond ⟨λh3 => ?_, λh3 => ?_⟩ <;> (first | replace h3 := of_decide_eq_true h3 | replace h3 := of_decide_eq_false h3)
 ·have hk2 : k < n + 1 := by omega
  have hEl : nn <= n + 1 := by
   rcases Nat.eq_zero_or_pos k with h | h
   ·have := hE0 h; subst this; simp at hnn; omega
   ·have h1 := hE1 h;have h2 := zfZ h1.1;omega
  refine W.skip (hK7 _ ?_);clear hK7;refine W.seqK λK8 hK8 => W.block ?_;refine wrs λK hK => ?_;conv=>whnf
  refine ⟨oo, ?_⟩;conv=>whnf
  rw [Int.toNat_natCast];intro b_7 hs_7 hh_7 hf_7;try dsimp only at hh_7 hf_7
  conv=>whnf
  refine ⟨s23, ?_⟩;conv=>whnf
  refine hK _ (W.seqK λK5 hK5 => wrs λK hK => ?_);conv=>whnf
  refine hK _ (W.block (W.invA (λm e => ∃ (q b' : Nat), q <= nn ∧ (k = 0 -> q = 0) ∧ (0 < k -> Pop (pX P) (pY P) (k - 1) E q) ∧ m = q ∧ e = [(5, .ownV 136 2 b' q λj => vC (P.getD (at' E j) (0, 0))), (7, .ownB b_7 (vC (P.getD k (0, 0)))), (8, .v (.int .i64 q)), (13, .v (vCs P)), (14, .v (.int .i64 P.length)), (15, .v (.int .i64 k))]) ⟨nn, b, Nat.le_refl _, λh => by have := hE0 h; subst this; exact hnn, λh => by rw [hnn]; exact Pop.start (hE1 h).1 (hE1 h).2, rfl, rfl⟩ ?_));clear hK;rintro m' e ⟨q, b', hq, hq0, hq1, hm', rfl⟩
  have fin : ∀ (q2 b2 : Nat) (t : S), q2 <= nn -> (0 < k -> Hul (pX P) (pY P) k (E.take q2 ++ [k])) -> (k = 0 -> q2 = 0) -> base <= t.hs -> zB t.env [(5, .ownV 136 2 b2 q2 λj => vC (P.getD (at' E j) (0, 0))), (7, .ownB b_7 (vC (P.getD k (0, 0)))), (13, .v (vCs P)), (14, .v (.int .i64 P.length)), (15, .v (.int .i64 k))] -> K5 t := by
   intro q2 b2 t h7 h8 h9 h10 h11;refine hK5 _ (W.weak (t := ⟨[(5, .ownV 136 2 b2 q2 λj => vC (P.getD (at' E j) (0, 0))), (7, .ownB b_7 (vC (P.getD k (0, 0)))), (13, .v (vCs P)), (14, .v (.int .i64 P.length)), (15, .v (.int .i64 k))], base⟩) ⟨h10, h11⟩ (Nat.le_refl _) ?_);clear hK5;have htl : (E.take q2).length = q2 := by rw [List.length_take]; omega
   have hH : Hul (pX P) (pY P) k (E.take q2 ++ [k]) := by
    rcases Nat.eq_zero_or_pos k with h | h
    ·have hq2 := h9 h;subst h hq2;exact Hul.one
    ·exact h8 h
   have hlast : at' (E.take q2 ++ [k]) ((E.take q2 ++ [k]).length - 1) = k := by rw [List.length_append, xO]; simp
   refine wrg ?_;conv=>whnf
   refine ⟨⟨rfl, by decide, λx hx => by simp at hx; subst hx; exact ⟨rfl, rfl⟩⟩, ?_⟩;conv=>whnf
   intro b_2 hs_2 hh_2 hf_2;try dsimp only at hh_2 hf_2
   conv=>whnf
   refine ⟨by omega, ?_⟩;conv=>whnf
   refine ⟨λj => vC (P.getD (at' (E.take q2 ++ [k]) j) (0, 0)), λj hj => by show vC _ = vC _; rw [xO, if_pos (by omega), zcD (by omega)], λj hj => by (obtain rfl : j = 0 := (by omega)); show vC (P.getD (at' (E.take q2 ++ [k]) q2) (0, 0)) = _; rw [xO, if_neg (by omega), if_pos htl.symm]; rfl, ?_⟩;intro b_3 hs_3 hh_3 hf_3;try dsimp only at hh_3 hf_3
   conv=>whnf
   refine hK8 _ ?_;clear hK8;refine wrg ?_;conv=>whnf
   refine ⟨oo, ?_⟩;conv=>whnf
   exact ze ⟨k + 1, b_3, q2 + 1, E.take q2 ++ [k], by omega, λh => absurd h (by omega), λ_ => ⟨hH, hlast⟩, by rw [List.length_append, htl]; rfl, rfl, rfl⟩
  refine W.seqK λK7 hK7 => wrs λK hK => ?_;conv=>whnf
  refine hK _ (W.cond ⟨λh6 => ?_, λh6 => ?_⟩) <;> clear hK <;> (first | replace h6 := of_decide_eq_true h6 | replace h6 := of_decide_eq_false h6)
  ·obtain ⟨r, rfl⟩ : ∃ r, q = r + 2 := ⟨q - 2, by omega⟩
   have hk0 : 0 < k := by
    rcases Nat.eq_zero_or_pos k with h | h
    ·have := hq0 h; omega
    ·exact h
   obtain ⟨k, rfl⟩ : ∃ k', k = k' + 1 := ⟨k - 1, by omega⟩
   have hp1 := hq1 hk0;have b1 := hPb (at' E r);have b2 := hPb (at' E (r + 1));have b3 := hPb (k + 1);have e1 : (((r + 2 : Nat) : Int) - 2).toNat = r := by omega
   have e2 : (((r + 2 : Nat) : Int) - 1).toNat = r + 1 := by omega
   refine W.skip (hK7 _ ?_);clear hK7;refine W.seqK λK9 hK9 => W.block ?_;refine W.seqK λK4 hK4 => ?_
   have mid : ∀ (bx bz : Nat) (t : S), base <= t.hs -> zB t.env [(5, .ownV 136 2 b' (r + 2) λj => vC (P.getD (at' E j) (0, 0))), (7, .ownB b_7 (vC (P.getD (k + 1) (0, 0)))), (8, .v (.int .i64 (r + 2 : Nat))), (9, .ownB bx (vC (P.getD (at' E r) (0, 0)))), (10, .ownB bz (vC (P.getD (at' E (r + 1)) (0, 0)))), (13, .v (vCs P)), (14, .v (.int .i64 P.length)), (15, .v (.int .i64 (k + 1 : Nat)))] -> K4 t := by
    intro bx bz t h7 h8;refine hK4 _ (W.weak (t := ⟨[(5, .ownV 136 2 b' (r + 2) λj => vC (P.getD (at' E j) (0, 0))), (7, .ownB b_7 (vC (P.getD (k + 1) (0, 0)))), (8, .v (.int .i64 (r + 2 : Nat))), (9, .ownB bx (vC (P.getD (at' E r) (0, 0)))), (10, .ownB bz (vC (P.getD (at' E (r + 1)) (0, 0)))), (13, .v (vCs P)), (14, .v (.int .i64 P.length)), (15, .v (.int .i64 (k + 1 : Nat)))], base⟩) ⟨h7, h8⟩ (Nat.le_refl _) ?_);clear hK4;have m1 := zbS (a := pY P (at' E (r + 1)) - pY P (at' E r)) (b := pX P (k + 1) - pX P (at' E r)) (by omega) (by omega);have m2 := zbS (a := pY P (k + 1) - pY P (at' E r)) (b := pX P (at' E (r + 1)) - pX P (at' E r)) (by omega) (by omega);have c1 : crs (pX P) (pY P) (at' E r) (at' E (r + 1)) (k + 1) = (pY P (k + 1) - pY P (at' E r)) * (pX P (at' E (r + 1)) - pX P (at' E r)) - (pY P (at' E (r + 1)) - pY P (at' E r)) * (pX P (k + 1) - pX P (at' E r)) := rfl;refine W.seqK λK6 hK6 => wrs λK hK => ?_;conv=>whnf
    refine ⟨by show _ <= pY P (at' E (r + 1)) - pY P (at' E r) ∧ pY P (at' E (r + 1)) - pY P (at' E r) <= _; omega, ?_⟩;conv=>whnf
    refine ⟨by show _ <= pX P (k + 1) - pX P (at' E r) ∧ pX P (k + 1) - pX P (at' E r) <= _; omega, ?_⟩;conv=>whnf
    refine ⟨⟨Int.le_trans (by decide) m1.1, Int.le_trans m1.2 (by decide)⟩, ?_⟩;conv=>whnf
    refine ⟨by show _ <= pY P (k + 1) - pY P (at' E r) ∧ pY P (k + 1) - pY P (at' E r) <= _; omega, ?_⟩;conv=>whnf
    refine ⟨by show _ <= pX P (at' E (r + 1)) - pX P (at' E r) ∧ pX P (at' E (r + 1)) - pX P (at' E r) <= _; omega, ?_⟩;conv=>whnf
    refine ⟨⟨Int.le_trans (by decide) m2.1, Int.le_trans m2.2 (by decide)⟩, ?_⟩;conv=>whnf
    refine hK _ (W.cond ⟨λh => ?_, λh => ?_⟩) <;> clear hK
    ·have h : (pY P (at' E (r + 1)) - pY P (at' E r)) * (pX P (k + 1) - pX P (at' E r)) < (pY P (k + 1) - pY P (at' E r)) * (pX P (at' E (r + 1)) - pX P (at' E r)) := of_decide_eq_true h;refine W.exit (fin (r + 2) b' _ hq (λ_ => Pop.fin hX (by omega) hp1 (.inr ⟨r, rfl, by show 0 < crs _ _ _ _ (k + 1); rw [c1]; exact Int.sub_pos_of_lt h⟩)) (λh => absurd h (by omega)) (by dsimp only; omega) ?_);exact cvr
    ·have h : ¬ (pY P (at' E (r + 1)) - pY P (at' E r)) * (pX P (k + 1) - pX P (at' E r)) < (pY P (k + 1) - pY P (at' E r)) * (pX P (at' E (r + 1)) - pX P (at' E r)) := of_decide_eq_false h;have hp2 := Pop.step hX (by omega) hp1 (by show crs _ _ _ _ (k + 1) <= 0; rw [c1]; exact Int.sub_nonpos_of_le (Int.not_lt.1 h));refine W.skip (hK6 _ ?_);clear hK6;refine W.sw (c' := cxr [0, 1, 4, 5, 7, 8, 9, 10, 13, 14, 15, 16, 22, 57]) (W.region (zfK _) (by rfl) ?_);conv=>whnf
     refine ⟨oo, ?_⟩;conv=>whnf
     refine ⟨⟨rfl, by omega, by omega⟩, ?_⟩;conv=>whnf
     rw [e2];refine hK9 _ ?_;clear hK9;refine wrg ?_;conv=>whnf
     refine ⟨oo, ?_⟩;conv=>whnf
     rw [show ((r + 2 : Nat) : Int) - 1 = ((r + 1 : Nat) : Int) by omega];exact ze ⟨r + 1, b', by omega, λh => absurd h (by omega), λ_ => hp2, rfl, rfl⟩
   refine W.sch follows ?_;refine wt 0 ?_;conv=>whnf
   refine wt 1 ?_;conv=>whnf
   refine wb 2 ?_;conv=>whnf
   refine ⟨oo, ?_⟩;conv=>whnf
   refine wi 3 ?_;conv=>whnf
   refine ⟨oo, ?_⟩;conv=>whnf
   rw [e1];refine wt 5 ?_;conv=>whnf
   refine wt 6 ?_;conv=>whnf
   refine wb 7 ?_;conv=>whnf
   refine ⟨oo, ?_⟩;conv=>whnf
   refine wi 8 ?_;conv=>whnf
   refine ⟨oo, ?_⟩;conv=>whnf
   rw [e2];refine Wany.all (za []) (by rfl) (rs := [4, 9, 10, 11]) (by kernel_rfl) (by decide) ?_;intro i hi;simp only [List.mem_cons, List.not_mem_nil, or_false] at hi
   rcases hi with rfl | rfl | rfl | rfl <;> refine ⟨_, by rfl, by rfl, ?_⟩ <;> conv=>whnf
   ·refine w3 9 10 11 ?_ ?_ ?_ <;> conv=>whnf
    ·refine w2 10 11 ?_ ?_ <;> conv=>whnf
     ·intro b_x hs_x hh_x hf_x;try dsimp only at hh_x hf_x
      conv=>whnf
      refine w1 11 ?_;conv=>whnf
      intro b_z hs_z hh_z hf_z;try dsimp only at hh_z hf_z
      conv=>whnf
      refine w1 12 ?_;conv=>whnf
      refine ⟨s23, ?_⟩;conv=>whnf
      refine w1 13 ?_;conv=>whnf
      refine ⟨s23, ?_⟩;conv=>whnf
      refine wd1 (mid b_x b_z _ (by dsimp only; omega) ?_);exact cvr
     ·intro b_z hs_z hh_z hf_z;try dsimp only at hh_z hf_z
      conv=>whnf
      refine w1 10 ?_;conv=>whnf
      intro b_x hs_x hh_x hf_x;try dsimp only at hh_x hf_x
      conv=>whnf
      refine w1 12 ?_;conv=>whnf
      refine ⟨s23, ?_⟩;conv=>whnf
      refine w1 13 ?_;conv=>whnf
      refine ⟨s23, ?_⟩;conv=>whnf
      refine wd1 (mid b_x b_z _ (by dsimp only; omega) ?_);exact cvr
    ·intro b_x hs_x hh_x hf_x;try dsimp only at hh_x hf_x
     conv=>whnf
     refine w2 9 11 ?_ ?_ <;> conv=>whnf
     ·refine w1 11 ?_;conv=>whnf
      intro b_z hs_z hh_z hf_z;try dsimp only at hh_z hf_z
      conv=>whnf
      refine w1 12 ?_;conv=>whnf
      refine ⟨s23, ?_⟩;conv=>whnf
      refine w1 13 ?_;conv=>whnf
      refine ⟨s23, ?_⟩;conv=>whnf
      refine wd1 (mid b_x b_z _ (by dsimp only; omega) ?_);exact cvr
     ·intro b_z hs_z hh_z hf_z;try dsimp only at hh_z hf_z
      conv=>whnf
      refine w2 9 12 ?_ ?_ <;> conv=>whnf
      ·refine w1 12 ?_;conv=>whnf
       refine ⟨s23, ?_⟩;conv=>whnf
       refine w1 13 ?_;conv=>whnf
       refine ⟨s23, ?_⟩;conv=>whnf
       refine wd1 (mid b_x b_z _ (by dsimp only; omega) ?_);exact cvr
      ·refine ⟨s23, ?_⟩;conv=>whnf
       refine w1 9 ?_;conv=>whnf
       refine w1 13 ?_;conv=>whnf
       refine ⟨s23, ?_⟩;conv=>whnf
       refine wd1 (mid b_x b_z _ (by dsimp only; omega) ?_);exact cvr
    ·intro b_z hs_z hh_z hf_z;try dsimp only at hh_z hf_z
     conv=>whnf
     refine w2 9 10 ?_ ?_ <;> conv=>whnf
     ·refine w1 10 ?_;conv=>whnf
      intro b_x hs_x hh_x hf_x;try dsimp only at hh_x hf_x
      conv=>whnf
      refine w1 12 ?_;conv=>whnf
      refine ⟨s23, ?_⟩;conv=>whnf
      refine w1 13 ?_;conv=>whnf
      refine ⟨s23, ?_⟩;conv=>whnf
      refine wd1 (mid b_x b_z _ (by dsimp only; omega) ?_);exact cvr
     ·intro b_x hs_x hh_x hf_x;try dsimp only at hh_x hf_x
      conv=>whnf
      refine w2 9 12 ?_ ?_ <;> conv=>whnf
      ·refine w1 12 ?_;conv=>whnf
       refine ⟨s23, ?_⟩;conv=>whnf
       refine w1 13 ?_;conv=>whnf
       refine ⟨s23, ?_⟩;conv=>whnf
       refine wd1 (mid b_x b_z _ (by dsimp only; omega) ?_);exact cvr
      ·refine ⟨s23, ?_⟩;conv=>whnf
       refine w1 9 ?_;conv=>whnf
       refine w1 13 ?_;conv=>whnf
       refine ⟨s23, ?_⟩;conv=>whnf
       refine wd1 (mid b_x b_z _ (by dsimp only; omega) ?_);exact cvr
   ·refine w3 4 10 11 ?_ ?_ ?_ <;> conv=>whnf
    ·refine w2 10 11 ?_ ?_ <;> conv=>whnf
     ·intro b_x hs_x hh_x hf_x;try dsimp only at hh_x hf_x
      conv=>whnf
      refine w1 11 ?_;conv=>whnf
      intro b_z hs_z hh_z hf_z;try dsimp only at hh_z hf_z
      conv=>whnf
      refine w1 12 ?_;conv=>whnf
      refine ⟨s23, ?_⟩;conv=>whnf
      refine w1 13 ?_;conv=>whnf
      refine ⟨s23, ?_⟩;conv=>whnf
      refine wd1 (mid b_x b_z _ (by dsimp only; omega) ?_);exact cvr
     ·intro b_z hs_z hh_z hf_z;try dsimp only at hh_z hf_z
      conv=>whnf
      refine w1 10 ?_;conv=>whnf
      intro b_x hs_x hh_x hf_x;try dsimp only at hh_x hf_x
      conv=>whnf
      refine w1 12 ?_;conv=>whnf
      refine ⟨s23, ?_⟩;conv=>whnf
      refine w1 13 ?_;conv=>whnf
      refine ⟨s23, ?_⟩;conv=>whnf
      refine wd1 (mid b_x b_z _ (by dsimp only; omega) ?_);exact cvr
    ·intro b_x hs_x hh_x hf_x;try dsimp only at hh_x hf_x
     conv=>whnf
     refine w2 4 11 ?_ ?_ <;> conv=>whnf
     ·refine w1 11 ?_;conv=>whnf
      intro b_z hs_z hh_z hf_z;try dsimp only at hh_z hf_z
      conv=>whnf
      refine w1 12 ?_;conv=>whnf
      refine ⟨s23, ?_⟩;conv=>whnf
      refine w1 13 ?_;conv=>whnf
      refine ⟨s23, ?_⟩;conv=>whnf
      refine wd1 (mid b_x b_z _ (by dsimp only; omega) ?_);exact cvr
     ·intro b_z hs_z hh_z hf_z;try dsimp only at hh_z hf_z
      conv=>whnf
      refine w1 4 ?_;conv=>whnf
      refine w1 12 ?_;conv=>whnf
      refine ⟨s23, ?_⟩;conv=>whnf
      refine w1 13 ?_;conv=>whnf
      refine ⟨s23, ?_⟩;conv=>whnf
      refine wd1 (mid b_x b_z _ (by dsimp only; omega) ?_);exact cvr
    ·intro b_z hs_z hh_z hf_z;try dsimp only at hh_z hf_z
     conv=>whnf
     refine w2 4 10 ?_ ?_ <;> conv=>whnf
     ·refine w1 10 ?_;conv=>whnf
      intro b_x hs_x hh_x hf_x;try dsimp only at hh_x hf_x
      conv=>whnf
      refine w1 12 ?_;conv=>whnf
      refine ⟨s23, ?_⟩;conv=>whnf
      refine w1 13 ?_;conv=>whnf
      refine ⟨s23, ?_⟩;conv=>whnf
      refine wd1 (mid b_x b_z _ (by dsimp only; omega) ?_);exact cvr
     ·intro b_x hs_x hh_x hf_x;try dsimp only at hh_x hf_x
      conv=>whnf
      refine w1 4 ?_;conv=>whnf
      refine w1 12 ?_;conv=>whnf
      refine ⟨s23, ?_⟩;conv=>whnf
      refine w1 13 ?_;conv=>whnf
      refine ⟨s23, ?_⟩;conv=>whnf
      refine wd1 (mid b_x b_z _ (by dsimp only; omega) ?_);exact cvr
   ·intro b_x hs_x hh_x hf_x;try dsimp only at hh_x hf_x
    conv=>whnf
    refine w3 4 9 11 ?_ ?_ ?_ <;> conv=>whnf
    ·refine w2 9 11 ?_ ?_ <;> conv=>whnf
     ·refine w1 11 ?_;conv=>whnf
      intro b_z hs_z hh_z hf_z;try dsimp only at hh_z hf_z
      conv=>whnf
      refine w1 12 ?_;conv=>whnf
      refine ⟨s23, ?_⟩;conv=>whnf
      refine w1 13 ?_;conv=>whnf
      refine ⟨s23, ?_⟩;conv=>whnf
      refine wd1 (mid b_x b_z _ (by dsimp only; omega) ?_);exact cvr
     ·intro b_z hs_z hh_z hf_z;try dsimp only at hh_z hf_z
      conv=>whnf
      refine w2 9 12 ?_ ?_ <;> conv=>whnf
      ·refine w1 12 ?_;conv=>whnf
       refine ⟨s23, ?_⟩;conv=>whnf
       refine w1 13 ?_;conv=>whnf
       refine ⟨s23, ?_⟩;conv=>whnf
       refine wd1 (mid b_x b_z _ (by dsimp only; omega) ?_);exact cvr
      ·refine ⟨s23, ?_⟩;conv=>whnf
       refine w1 9 ?_;conv=>whnf
       refine w1 13 ?_;conv=>whnf
       refine ⟨s23, ?_⟩;conv=>whnf
       refine wd1 (mid b_x b_z _ (by dsimp only; omega) ?_);exact cvr
    ·refine w2 4 11 ?_ ?_ <;> conv=>whnf
     ·refine w1 11 ?_;conv=>whnf
      intro b_z hs_z hh_z hf_z;try dsimp only at hh_z hf_z
      conv=>whnf
      refine w1 12 ?_;conv=>whnf
      refine ⟨s23, ?_⟩;conv=>whnf
      refine w1 13 ?_;conv=>whnf
      refine ⟨s23, ?_⟩;conv=>whnf
      refine wd1 (mid b_x b_z _ (by dsimp only; omega) ?_);exact cvr
     ·intro b_z hs_z hh_z hf_z;try dsimp only at hh_z hf_z
      conv=>whnf
      refine w1 4 ?_;conv=>whnf
      refine w1 12 ?_;conv=>whnf
      refine ⟨s23, ?_⟩;conv=>whnf
      refine w1 13 ?_;conv=>whnf
      refine ⟨s23, ?_⟩;conv=>whnf
      refine wd1 (mid b_x b_z _ (by dsimp only; omega) ?_);exact cvr
    ·intro b_z hs_z hh_z hf_z;try dsimp only at hh_z hf_z
     conv=>whnf
     refine w2 4 9 ?_ ?_ <;> conv=>whnf
     ·refine w2 9 12 ?_ ?_ <;> conv=>whnf
      ·refine w1 12 ?_;conv=>whnf
       refine ⟨s23, ?_⟩;conv=>whnf
       refine w1 13 ?_;conv=>whnf
       refine ⟨s23, ?_⟩;conv=>whnf
       refine wd1 (mid b_x b_z _ (by dsimp only; omega) ?_);exact cvr
      ·refine ⟨s23, ?_⟩;conv=>whnf
       refine w1 9 ?_;conv=>whnf
       refine w1 13 ?_;conv=>whnf
       refine ⟨s23, ?_⟩;conv=>whnf
       refine wd1 (mid b_x b_z _ (by dsimp only; omega) ?_);exact cvr
     ·refine w1 4 ?_;conv=>whnf
      refine w1 12 ?_;conv=>whnf
      refine ⟨s23, ?_⟩;conv=>whnf
      refine w1 13 ?_;conv=>whnf
      refine ⟨s23, ?_⟩;conv=>whnf
      refine wd1 (mid b_x b_z _ (by dsimp only; omega) ?_);exact cvr
   ·intro b_z hs_z hh_z hf_z;try dsimp only at hh_z hf_z
    conv=>whnf
    refine w3 4 9 10 ?_ ?_ ?_ <;> conv=>whnf
    ·refine w2 9 10 ?_ ?_ <;> conv=>whnf
     ·refine w1 10 ?_;conv=>whnf
      intro b_x hs_x hh_x hf_x;try dsimp only at hh_x hf_x
      conv=>whnf
      refine w1 12 ?_;conv=>whnf
      refine ⟨s23, ?_⟩;conv=>whnf
      refine w1 13 ?_;conv=>whnf
      refine ⟨s23, ?_⟩;conv=>whnf
      refine wd1 (mid b_x b_z _ (by dsimp only; omega) ?_);exact cvr
     ·intro b_x hs_x hh_x hf_x;try dsimp only at hh_x hf_x
      conv=>whnf
      refine w2 9 12 ?_ ?_ <;> conv=>whnf
      ·refine w1 12 ?_;conv=>whnf
       refine ⟨s23, ?_⟩;conv=>whnf
       refine w1 13 ?_;conv=>whnf
       refine ⟨s23, ?_⟩;conv=>whnf
       refine wd1 (mid b_x b_z _ (by dsimp only; omega) ?_);exact cvr
      ·refine ⟨s23, ?_⟩;conv=>whnf
       refine w1 9 ?_;conv=>whnf
       refine w1 13 ?_;conv=>whnf
       refine ⟨s23, ?_⟩;conv=>whnf
       refine wd1 (mid b_x b_z _ (by dsimp only; omega) ?_);exact cvr
    ·refine w2 4 10 ?_ ?_ <;> conv=>whnf
     ·refine w1 10 ?_;conv=>whnf
      intro b_x hs_x hh_x hf_x;try dsimp only at hh_x hf_x
      conv=>whnf
      refine w1 12 ?_;conv=>whnf
      refine ⟨s23, ?_⟩;conv=>whnf
      refine w1 13 ?_;conv=>whnf
      refine ⟨s23, ?_⟩;conv=>whnf
      refine wd1 (mid b_x b_z _ (by dsimp only; omega) ?_);exact cvr
     ·intro b_x hs_x hh_x hf_x;try dsimp only at hh_x hf_x
      conv=>whnf
      refine w1 4 ?_;conv=>whnf
      refine w1 12 ?_;conv=>whnf
      refine ⟨s23, ?_⟩;conv=>whnf
      refine w1 13 ?_;conv=>whnf
      refine ⟨s23, ?_⟩;conv=>whnf
      refine wd1 (mid b_x b_z _ (by dsimp only; omega) ?_);exact cvr
    ·intro b_x hs_x hh_x hf_x;try dsimp only at hh_x hf_x
     conv=>whnf
     refine w2 4 9 ?_ ?_ <;> conv=>whnf
     ·refine w2 9 12 ?_ ?_ <;> conv=>whnf
      ·refine w1 12 ?_;conv=>whnf
       refine ⟨s23, ?_⟩;conv=>whnf
       refine w1 13 ?_;conv=>whnf
       refine ⟨s23, ?_⟩;conv=>whnf
       refine wd1 (mid b_x b_z _ (by dsimp only; omega) ?_);exact cvr
      ·refine ⟨s23, ?_⟩;conv=>whnf
       refine w1 9 ?_;conv=>whnf
       refine w1 13 ?_;conv=>whnf
       refine ⟨s23, ?_⟩;conv=>whnf
       refine wd1 (mid b_x b_z _ (by dsimp only; omega) ?_);exact cvr
     ·refine w1 4 ?_;conv=>whnf
      refine w1 12 ?_;conv=>whnf
      refine ⟨s23, ?_⟩;conv=>whnf
      refine w1 13 ?_;conv=>whnf
      refine ⟨s23, ?_⟩;conv=>whnf
      refine wd1 (mid b_x b_z _ (by dsimp only; omega) ?_);exact cvr
-- 30 ways
  ·refine W.exit (fin q b' _ hq (λhk0 => ?_) hq0 (by dsimp only; omega) ?_)
   ·obtain ⟨k, rfl⟩ : ∃ k', k = k' + 1 := ⟨k - 1, by omega⟩
    have hp1 := hq1 hk0;have hpos := hp1.pos;exact Pop.fin hX (by omega) hp1 (.inl (by omega))
   ·exact cvr
 ·obtain rfl : k = n + 1 := by omega
  obtain ⟨hE, ha⟩ := hE1 (by omega);obtain rfl := Hul.unique hE hC ha hCl;have hlen : (cnL P E).length = E.length := by unfold cnL; rw [List.length_map]
  refine W.exit (hK1 _ ?_);clear hK7 hK1;refine wrs λK hK => ?_;conv=>whnf
  refine hK _ (W.ret ?_);conv=>whnf
  exact ⟨.v (vCs (cnL P E)), ⟨rfl, rfl, by omega, λi hi => by show vC _ = vC _; rw [kR (by omega)]⟩, ⟨trivial, λ_ _ => ⟨trivial, trivial, trivial⟩⟩, rfl⟩

open Go Go.RowKit Go.Proofs Poly Hull

theorem zmY (n : Int) (hn : -1000000000 <= n ∧ n <= 1000000000) : FnV 199 [.int .i64 n] (.int .i64 n.natAbs) := by
 refine zf (za [0, 2]) Tryz.func199 rfl (by decide) Tryz.ntmps199 (lb rfl) λbase => ?_;refine wrs λK hK => ?_;conv=>whnf
 refine hK _ (wrs λK hK => ?_);conv=>whnf
 refine ⟨oo, ?_⟩;conv=>whnf
 rw [show max n (-n) = n.natAbs by omega];refine hK _ (W.ret ?_);conv=>whnf
 exact ⟨.v (.int .i64 n.natAbs), ⟨rfl, rfl⟩, trivial, rfl⟩
theorem zdY (n : Int) (hn : -1000000000 <= n ∧ n <= 1000000000) : FnV 201 [.int .i64 n] (.int .i64 n.natAbs) := by
 refine zf (za [0, 2]) Tryz.func201 rfl (by decide) Tryz.ntmps201 (lb rfl) λbase => ?_;refine wrs λK hK => ?_;conv=>whnf
 refine hK _ (wrs λK hK => ?_);conv=>whnf
 refine ⟨oo, ?_⟩;conv=>whnf
 rw [show max n (-n) = n.natAbs by omega];refine hK _ (W.ret ?_);conv=>whnf
 exact ⟨.v (.int .i64 n.natAbs), ⟨rfl, rfl⟩, trivial, rfl⟩
theorem zl8 (a b : Int) : Int.gcd b (a.tmod b) = Int.gcd a b := by
 show Nat.gcd b.natAbs (a.tmod b).natAbs = Nat.gcd a.natAbs b.natAbs
 rw [Int.natAbs_tmod, Nat.gcd_comm a.natAbs, Nat.gcd_rec b.natAbs a.natAbs, Nat.gcd_comm]
theorem zl9 (a b : Int) (hb : b ≠ 0) : (a.tmod b).natAbs < b.natAbs := by
 rw [Int.natAbs_tmod]; exact Nat.mod_lt _ (by omega)
theorem zmZ (a b : Int) (ha : -1000000000 <= a ∧ a <= 1000000000) (hb : -1000000000 <= b ∧ b <= 1000000000) : FnV 162 [.int .i64 a, .int .i64 b] (.int .i64 (Int.gcd a b : Nat)) := by
 refine zf (za [0, 1, 4, 6]) Tryz.func162 rfl (by decide) Tryz.ntmps162 (lb rfl) λbase => ?_;refine wrs λK hK => ?_;conv=>whnf
 refine hK _ ?_;clear hK;refine W.seqK λK1 hK1 => W.block (W.invA (λm e => ∃ a' b' : Int, a'.natAbs <= 1000000000 ∧ b'.natAbs <= 1000000000 ∧ Int.gcd a' b' = Int.gcd a b ∧ m = b'.natAbs ∧ e = [(0, .v (.int .i64 a')), (1, .v (.int .i64 b'))]) ⟨a, b, by omega, by omega, rfl, rfl, rfl⟩ ?_);rintro m e ⟨a', b', h1, h2, h3, hm, rfl⟩;refine W.seqK λK7 hK7 => wrs λK hK => ?_;conv=>whnf
 refine hK _ (W.cond ⟨λh => ?_, λh => ?_⟩) <;> clear hK <;> (first | replace h := of_decide_eq_true h | replace h := of_decide_eq_false h)
 ·have hmod := zl9 a' b' h;refine W.skip (hK7 _ (W.block ?_));clear hK7;refine W.draw (za _) follows (by rfl) ?_;conv=>whnf
  refine ⟨by omega, ?_⟩;conv=>whnf
  exact ze ⟨b', a'.tmod b', by omega, by omega, (zl8 a' b').trans h3, rfl, rfl⟩
 ·have h0 : b' = 0 := Classical.byContradiction λh' => h h';subst h0;have h4 : a'.natAbs = Int.gcd a b := by rw [<- h3]; simp [Int.gcd]
  refine W.exit (hK1 _ ?_);clear hK7 hK1;refine wrs λK hK => ?_;conv=>whnf
  refine zc rfl (zmY a' (by omega)) λhs' hhs => ?_;try dsimp only at hhs
  conv=>whnf
  rw [h4];refine hK _ (W.ret ?_);conv=>whnf
  exact ⟨.v (.int .i64 (Int.gcd a b : Nat)), ⟨rfl, rfl⟩, trivial, rfl⟩
theorem ziH (a b : Int) (ha : -1000000000 <= a ∧ a <= 1000000000) (hb : -1000000000 <= b ∧ b <= 1000000000) : FnV 164 [.int .i64 a, .int .i64 b] (.int .i64 (Int.gcd a b : Nat)) := by
 refine zf (za [0, 1, 4, 10]) Tryz.func164 rfl (by decide) Tryz.ntmps164 (lb rfl) λbase => ?_;refine wrs λK hK => ?_;conv=>whnf
 refine hK _ (wrs λK hK => ?_);conv=>whnf
 refine zc rfl (zdY a ha) λhs' hhs => ?_;try dsimp only at hhs
 conv=>whnf
 refine zc rfl (zdY b hb) λhs' hhs => ?_;try dsimp only at hhs
 conv=>whnf
 refine hK _ ?_;clear hK;refine W.seqK λK1 hK1 => W.block (W.invA (λm e => ∃ a' b' : Nat, a' <= 1000000000 ∧ b' <= 1000000000 ∧ Nat.gcd a' b' = Int.gcd a b ∧ m = b' ∧ e = [(0, .v (.int .i64 a')), (1, .v (.int .i64 b'))]) ⟨a.natAbs, b.natAbs, by omega, by omega, rfl, rfl, rfl⟩ ?_);rintro m e ⟨a', b', h1, h2, h3, hm, rfl⟩;refine W.seqK λK7 hK7 => wrs λK hK => ?_;conv=>whnf
 refine hK _ (W.cond ⟨λh => ?_, λh => ?_⟩) <;> clear hK <;> (first | replace h := of_decide_eq_true h | replace h := of_decide_eq_false h)
 ·have hb0 : 0 < b' := by omega
  have hmod := Nat.mod_lt a' hb0;refine W.skip (hK7 _ (W.block ?_));clear hK7;refine W.draw (za _) follows (by rfl) ?_;conv=>whnf
  refine ⟨by omega, ?_⟩;conv=>whnf
  rw [zl7];exact ze ⟨b', a' % b', by omega, by omega, by rw [<- h3, Nat.gcd_comm a' b', Nat.gcd_rec b' a', Nat.gcd_comm], rfl, rfl⟩
 ·obtain rfl : b' = 0 := by omega
  rw [Nat.gcd_zero_right] at h3;subst h3;refine W.exit (hK1 _ ?_);clear hK7 hK1;refine wrs λK hK => ?_;conv=>whnf
  refine hK _ (W.ret ?_);conv=>whnf
  exact ⟨.v (.int .i64 (Int.gcd a b : Nat)), ⟨rfl, rfl⟩, trivial, rfl⟩

def sl (a b : Int × Int) : Int × Int × Int := ((b.2 - a.2).tdiv (Int.gcd (b.1 - a.1) (b.2 - a.2) : Nat), (b.1 - a.1).tdiv (Int.gcd (b.1 - a.1) (b.2 - a.2) : Nat), b.1 - a.1)
def slT (L : List (Int × Int)) : Nat -> List (Int × Int × Int)
 | 0 => []
 | k + 1 => slT L k ++ [sl (L.getD k (0, 0)) (L.getD (k + 1) (0, 0))]
theorem jc (L : List (Int × Int)) : ∀ k, (slT L k).length = k
 | 0 => rfl
 | k + 1 => by rw [slT, List.length_append, jc L k]; rfl
abbrev vS (x : Int × Int × Int) : V := .agg [.int .i64 x.1, .int .i64 x.2.1, .int .i64 x.2.2]
abbrev vSs (L : List (Int × Int × Int)) : V := .vals none 3 L.length λj => vS (L.getD j (0, 0, 0))
theorem vV {a b : Int} (ha : -100 <= a ∧ a <= 100) : -100 <= a.tdiv b ∧ a.tdiv b <= 100 := by
 have h : (a.tdiv b).natAbs <= a.natAbs := by rw [Int.natAbs_tdiv]; exact Nat.div_le_self _ _
 omega

structure Crn (L : List (Int × Int)) : Prop where
 pos : 1 <= L.length
 few : L.length <= 101
 bd : ∀ j, (0 <= pX L j ∧ pX L j <= 100) ∧ 0 <= pY L j ∧ pY L j <= 100
 lt : ∀ j, j + 1 < L.length -> pX L j < pX L (j + 1)
theorem Crn.gcd {L : List (Int × Int)} (h : Crn L) {j : Nat} (hj : j + 1 < L.length) : Int.gcd (pX L (j + 1) - pX L j) (pY L (j + 1) - pY L j) ≠ 0 := λe => by
 have h1 := h.lt j hj;rw [Int.gcd_eq_zero_iff] at e;omega

theorem znx {X Y : Nat -> Int} {n : Nat} {C : List Nat} (h : Hul X Y n C) : ∀ j, j < C.length -> at' C j <= n
 | 0, _ => by rw [h.first]; exact Nat.zero_le _
 | j + 1, hj => (h.next j hj).le
theorem zny {P : List (Int × Int)} {n : Nat} {C : List Nat} (hPb : PtB P) (hX : ∀ i j, i < j -> j <= n -> pX P i < pX P j) (hC : Hul (pX P) (pY P) n C) (hCl : at' C (C.length - 1) = n) (hn : n <= 100) : Crn (cnL P C) := by
 have hlen : (cnL P C).length = C.length := by unfold cnL; rw [List.length_map]
 have h1 := zfZ hC;have h2 := hC.pos;refine ⟨by omega, by omega, λj => ?_, λj hj => ?_⟩
 ·by_cases hj : j < C.length
  ·unfold pX pY;rw [kR hj];exact hPb _
  ·unfold pX pY;rw [List.getD_eq_getElem?_getD, List.getElem?_eq_none (by omega)];exact ⟨⟨by decide, by decide⟩, by decide, by decide⟩
 ·rw [hlen] at hj;have h3 := hC.next j hj;unfold pX;rw [kR hj, kR (by omega)];exact hX _ _ h3.lt h3.le

theorem zbk (p : Int) (g : Option Nat) (l : List Int) (L : List (Int × Int)) (hL : Crn L) (hpol : FnV 163 [.int .i64 p, .ints g l] (vCs L)) : FnV 107 [.int .i64 p, .ints g l] (vSs (slT L (L.length - 1))) := by
 have h1 := hL.pos;have h2 := hL.few;refine zf (za [0, 1, 4, 5, 6, 7, 8, 9, 10, 18]) Tryz.func107 rfl (by decide) Tryz.ntmps107 (lb rfl) λbase => ?_;refine wrs λK hK => ?_;conv=>whnf
 refine hK _ (wrs λK hK => ?_);conv=>whnf
 refine zc rfl (hpol) λhs' hhs => ?_;try dsimp only at hhs
 conv=>whnf
 refine hK _ (wrs λK hK => ?_);conv=>whnf
 refine ⟨⟨rfl, by decide, λx hx => by simp at hx⟩, ?_⟩;conv=>whnf
 intro b_6 hs_6 hh_6 hf_6;try dsimp only at hh_6 hf_6
 conv=>whnf
 refine hK _ (W.seqK λK1 hK1 => wrs λK hK => ?_);conv=>whnf
 refine hK _ (W.block (W.invA (λm e => ∃ (k b n : Nat) (S : List (Int × Int × Int)), k + 1 <= L.length ∧ S = slT L k ∧ n = S.length ∧ m = L.length - k ∧ e = [(5, .v (vCs L)), (6, .ownV 100 3 b n λj => vS (S.getD j (0, 0, 0))), (7, .v (.int .i64 (k + 1 : Nat)))]) ⟨0, b_6, 0, [], h1, rfl, rfl, rfl, rfl⟩ ?_));clear hK;rintro m e ⟨k, b, n, S, hk, hS, hn, hm, rfl⟩;have hSl : S.length = k := by rw [hS, jc]
 refine W.seqK λK7 hK7 => wrs λK hK => ?_;conv=>whnf
 refine hK _ (W.cond ⟨λh3 => ?_, λh3 => ?_⟩) <;> clear hK <;> (first | replace h3 := of_decide_eq_true h3 | replace h3 := of_decide_eq_false h3)
 ·have hk2 : k + 1 < L.length := by omega
  have b1 := hL.bd k;have b2 := hL.bd (k + 1);have hg := hL.gcd hk2;have hnx : slT L (k + 1) = S ++ [sl (L.getD k (0, 0)) (L.getD (k + 1) (0, 0))] := by rw [slT, hS]
  have e1 : (((k + 1 : Nat) : Int) - 1).toNat = k := by omega
  have t1 := vV (a := pY L (k + 1) - pY L k) (b := (Int.gcd (pX L (k + 1) - pX L k) (pY L (k + 1) - pY L k) : Nat)) (by omega);have t2 := vV (a := pX L (k + 1) - pX L k) (b := (Int.gcd (pX L (k + 1) - pX L k) (pY L (k + 1) - pY L k) : Nat)) (by omega);refine W.skip (hK7 _ ?_);clear hK7;refine W.seqK λK8 hK8 => W.block ?_;refine W.rd (za _) follows (by rfl) λK hK => ?_;conv=>whnf
  refine ⟨oo, ?_⟩;conv=>whnf
  refine ⟨oo, ?_⟩;conv=>whnf
  refine ⟨oo, ?_⟩;conv=>whnf
  rw [e1, Int.toNat_natCast];refine ⟨by show _ <= pX L (k + 1) - pX L k ∧ pX L (k + 1) - pX L k <= _; omega, ?_⟩;conv=>whnf
  refine ⟨oo, ?_⟩;conv=>whnf
  refine ⟨oo, ?_⟩;conv=>whnf
  refine ⟨oo, ?_⟩;conv=>whnf
  rw [e1, Int.toNat_natCast];refine ⟨by show _ <= pY L (k + 1) - pY L k ∧ pY L (k + 1) - pY L k <= _; omega, ?_⟩;conv=>whnf
  refine hK _ (wrs λK hK => ?_);conv=>whnf
  refine zc rfl (ziH (pX L (k + 1) - pX L k) (pY L (k + 1) - pY L k) (by omega) (by omega)) λhs' hhs => ?_;try dsimp only at hhs
  conv=>whnf
  refine hK _ ?_;clear hK;refine W.sch follows ?_;refine wt 0 ?_;conv=>whnf
  refine wt 1 ?_;conv=>whnf
  refine wt 2 ?_;conv=>whnf
  refine wb 3 ?_;conv=>whnf
  refine ⟨by omega, ?_⟩;conv=>whnf
  refine ⟨⟨Int.le_trans (by decide) t1.1, Int.le_trans t1.2 (by decide)⟩, ?_⟩;conv=>whnf
  refine wt 4 ?_;conv=>whnf
  refine wt 5 ?_;conv=>whnf
  refine wb 6 ?_;conv=>whnf
  refine ⟨by omega, ?_⟩;conv=>whnf
  refine ⟨⟨Int.le_trans (by decide) t2.1, Int.le_trans t2.2 (by decide)⟩, ?_⟩;conv=>whnf
  refine wt 7 ?_;conv=>whnf
  refine wt 8 ?_;conv=>whnf
  refine w1 9 ?_;conv=>whnf
  refine ⟨⟨rfl, by decide, λx hx => by simp at hx; subst hx; exact ⟨rfl, rfl⟩⟩, ?_⟩;conv=>whnf
  intro b_3 hs_3 hh_3 hf_3;try dsimp only at hh_3 hf_3
  conv=>whnf
  refine w1 10 ?_;conv=>whnf
  refine ⟨by omega, ?_⟩;conv=>whnf
  refine ⟨λj => vS ((S ++ [sl (L.getD k (0, 0)) (L.getD (k + 1) (0, 0))]).getD j (0, 0, 0)), λj hj => by show vS _ = vS _; rw [kP (by omega)], λj hj => by (obtain rfl : j = 0 := (by omega)); show vS ((S ++ [sl (L.getD k (0, 0)) (L.getD (k + 1) (0, 0))]).getD n (0, 0, 0)) = _; rw [hn, kQ]; rfl, ?_⟩;intro b_4 hs_4 hh_4 hf_4;try dsimp only at hh_4 hf_4
  conv=>whnf
  refine w1 11 ?_;conv=>whnf
  refine wd1 (hK8 _ ?_);clear hK8;refine wrg ?_;conv=>whnf
  refine ⟨oo, ?_⟩;conv=>whnf
  exact ze ⟨k + 1, b_4, n + 1, _, by omega, hnx.symm, by rw [List.length_append, <- hn]; rfl, rfl, rfl⟩
-- 1 ways
 ·obtain rfl : k = L.length - 1 := by omega
  subst hS hn;refine W.exit (hK1 _ ?_);clear hK7 hK1;refine wrs λK hK => ?_;conv=>whnf
  refine hK _ (W.ret ?_);conv=>whnf
  exact ⟨.v (vSs (slT L (L.length - 1))), ⟨rfl, rfl, rfl, λ_ _ => rfl⟩, ⟨trivial, λ_ _ => ⟨trivial, trivial, trivial, trivial⟩⟩, rfl⟩

open Go Go.RowKit Go.Proofs Poly Hull

theorem ze0 (p : Int) (g : Option Nat) (l : List Int) (L : List (Int × Int)) (hL : Crn L) (hpol : FnV 161 [.int .i64 p, .ints g l] (vCs L)) : FnV 104 [.int .i64 p, .ints g l] (vSs (slT L (L.length - 1))) := by
 have h1 := hL.pos;have h2 := hL.few;refine zf (za [0, 1, 4, 5, 6, 7, 8, 9, 10, 17]) Tryz.func104 rfl (by decide) Tryz.ntmps104 (lb rfl) λbase => ?_;refine wrs λK hK => ?_;conv=>whnf
 refine hK _ (wrs λK hK => ?_);conv=>whnf
 refine zc rfl (hpol) λhs' hhs => ?_;try dsimp only at hhs
 conv=>whnf
 refine hK _ (wrs λK hK => ?_);conv=>whnf
 refine hK _ (W.seqK λK1 hK1 => wrs λK hK => ?_);conv=>whnf
 refine hK _ (W.block (W.invA (λm e => ∃ (k b n : Nat) (S : List (Int × Int × Int)), k + 1 <= L.length ∧ S = slT L k ∧ n = S.length ∧ m = L.length - k ∧ e = [(5, .v (vCs L)), (6, .ownV 100 3 b n λj => vS (S.getD j (0, 0, 0))), (7, .v (.int .i64 (k + 1 : Nat)))]) ⟨0, 0, 0, [], h1, rfl, rfl, rfl, rfl⟩ ?_));clear hK;rintro m e ⟨k, b, n, S, hk, hS, hn, hm, rfl⟩;have hSl : S.length = k := by rw [hS, jc]
 refine W.seqK λK7 hK7 => wrs λK hK => ?_;conv=>whnf
 refine hK _ (W.cond ⟨λh3 => ?_, λh3 => ?_⟩) <;> clear hK <;> (first | replace h3 := of_decide_eq_true h3 | replace h3 := of_decide_eq_false h3)
 ·have hk2 : k + 1 < L.length := by omega
  have b1 := hL.bd k;have b2 := hL.bd (k + 1);have hg := hL.gcd hk2;have hnx : slT L (k + 1) = S ++ [sl (L.getD k (0, 0)) (L.getD (k + 1) (0, 0))] := by rw [slT, hS]
  have e1 : (((k + 1 : Nat) : Int) - 1).toNat = k := by omega
  have t1 := vV (a := pY L (k + 1) - pY L k) (b := (Int.gcd (pX L (k + 1) - pX L k) (pY L (k + 1) - pY L k) : Nat)) (by omega);have t2 := vV (a := pX L (k + 1) - pX L k) (b := (Int.gcd (pX L (k + 1) - pX L k) (pY L (k + 1) - pY L k) : Nat)) (by omega);refine W.skip (hK7 _ ?_);clear hK7;refine W.seqK λK8 hK8 => W.block ?_;refine W.rd (za _) follows (by rfl) λK hK => ?_;conv=>whnf
  refine ⟨oo, ?_⟩;conv=>whnf
  refine ⟨oo, ?_⟩;conv=>whnf
  refine ⟨oo, ?_⟩;conv=>whnf
  rw [e1, Int.toNat_natCast];refine ⟨by show _ <= pY L (k + 1) - pY L k ∧ pY L (k + 1) - pY L k <= _; omega, ?_⟩;conv=>whnf
  refine ⟨oo, ?_⟩;conv=>whnf
  refine ⟨oo, ?_⟩;conv=>whnf
  refine ⟨oo, ?_⟩;conv=>whnf
  rw [e1, Int.toNat_natCast];refine ⟨by show _ <= pX L (k + 1) - pX L k ∧ pX L (k + 1) - pX L k <= _; omega, ?_⟩;conv=>whnf
  refine hK _ (wrs λK hK => ?_);conv=>whnf
  refine zc rfl (zmZ (pY L (k + 1) - pY L k) (pX L (k + 1) - pX L k) (by omega) (by omega)) λhs' hhs => ?_;try dsimp only at hhs
  conv=>whnf
  rw [Int.gcd_comm];refine hK _ ?_;clear hK;refine W.sch follows ?_;refine wt 0 ?_;conv=>whnf
  refine wt 1 ?_;conv=>whnf
  refine wt 2 ?_;conv=>whnf
  refine wb 3 ?_;conv=>whnf
  refine ⟨by omega, ?_⟩;conv=>whnf
  refine ⟨⟨Int.le_trans (by decide) t1.1, Int.le_trans t1.2 (by decide)⟩, ?_⟩;conv=>whnf
  refine wt 4 ?_;conv=>whnf
  refine wt 5 ?_;conv=>whnf
  refine wb 6 ?_;conv=>whnf
  refine ⟨by omega, ?_⟩;conv=>whnf
  refine ⟨⟨Int.le_trans (by decide) t2.1, Int.le_trans t2.2 (by decide)⟩, ?_⟩;conv=>whnf
  refine wt 7 ?_;conv=>whnf
  refine wt 8 ?_;conv=>whnf
  refine w1 9 ?_;conv=>whnf
  refine ⟨⟨rfl, by decide, λx hx => by simp at hx; subst hx; exact ⟨rfl, rfl⟩⟩, ?_⟩;conv=>whnf
  intro b_3 hs_3 hh_3 hf_3;try dsimp only at hh_3 hf_3
  conv=>whnf
  refine w1 10 ?_;conv=>whnf
  refine ⟨by omega, ?_⟩;conv=>whnf
  refine ⟨λj => vS ((S ++ [sl (L.getD k (0, 0)) (L.getD (k + 1) (0, 0))]).getD j (0, 0, 0)), λj hj => by show vS _ = vS _; rw [kP (by omega)], λj hj => by (obtain rfl : j = 0 := (by omega)); show vS ((S ++ [sl (L.getD k (0, 0)) (L.getD (k + 1) (0, 0))]).getD n (0, 0, 0)) = _; rw [hn, kQ]; rfl, ?_⟩;intro b_4 hs_4 hh_4 hf_4;try dsimp only at hh_4 hf_4
  conv=>whnf
  refine w1 11 ?_;conv=>whnf
  refine wd1 (hK8 _ ?_);clear hK8;refine wrg ?_;conv=>whnf
  refine ⟨oo, ?_⟩;conv=>whnf
  exact ze ⟨k + 1, b_4, n + 1, _, by omega, hnx.symm, by rw [List.length_append, <- hn]; rfl, rfl, rfl⟩
-- 1 ways
 ·obtain rfl : k = L.length - 1 := by omega
  subst hS hn;refine W.exit (hK1 _ ?_);clear hK7 hK1;refine wrs λK hK => ?_;conv=>whnf
  refine hK _ (W.ret ?_);conv=>whnf
  exact ⟨.v (vSs (slT L (L.length - 1))), ⟨rfl, rfl, rfl, λ_ _ => rfl⟩, ⟨trivial, λ_ _ => ⟨trivial, trivial, trivial, trivial⟩⟩, rfl⟩

end Go.Proofs.YtffhmebkkbfaeaaGreat
