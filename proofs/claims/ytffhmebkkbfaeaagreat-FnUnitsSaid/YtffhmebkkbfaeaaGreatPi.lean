/- What the program's functions and the reference's return. No conditions. -/
import Derived.Test.YtffhmebkkbfaeaaGreatPg
import Derived.Test.YtffhmebkkbfaeaaGreatPh
namespace Go.Proofs.YtffhmebkkbfaeaaGreat
open Go Go.RowKit Go.Proofs

theorem zkA (x : Int) (h0 : 0 <= x) (h1 : x <= 9223372036854775807) : Fn Tryz.prog 226 [.int .u64 x] (λ_ _ a => ∃ r : Int, a = .v (.int .i64 r)) := by
 refine ⟨⟨_, Tryz.func226, rfl, by decide⟩, λD w vs hD hsz hrep => ?_⟩
 obtain ⟨v, rfl⟩ : ∃ v, vs = #[v] := by
  refine ⟨vs.getD 0 undef, Array.ext (by simpa using hsz) λi h1 h2 => ?_⟩;obtain rfl : i = 0 := by simpa using h2
  simp [Array.getD, h1]
 have hv := yl (hrep 0 (by simp));have hv : v = .int .u64 x := hv;subst hv;refine (bitsLen_calls x w h0 (by omega)).mono ?_;rintro e w' ⟨rfl, rfl⟩;refine ⟨_, .v (.int .i64 (Lib.bitLen x.toNat)), w'.heap.size, rfl, Nat.le_refl _, ⟨_, rfl⟩, ?_, rfl, .int _ _, λb hb => hb.elim⟩;exact Below.refl _ _

open Go Go.RowKit Go.Proofs Poly
set_option maxRecDepth 100000
set_option maxHeartbeats 8000000

variable {p : Int} [SP p]
theorem zkB (bk n : Nat) (lim : Int) (h0 : Nat -> Poly p × Nat) (hn : n <= 12) (hd : ∀ i, i < n -> dg (h0 i).1 <= 1000000) (hdis : ∀ i j, i < n -> j < n -> (h0 i).1 = (h0 j).1 -> i = j) :
  MFn Tryz.prog 225 [.nil, .int .i64 0, .int .i64 n, .int .i64 lim, .func 210 []] 0 (.ownV 145 2 bk n λj => vF (h0 j)) .dead
   (λ_ av x' t' => av = .v (.tup []) ∧ t' = .dead ∧ ∃ h : Nat -> Poly p × Nat, Mix n h0 h ∧ Ord h n ∧ x' = .ownV 145 2 bk n λj => vF (h j)) := by
 refine zeI (cx := cx [0, 1, 2, 3, 4, 10, 11, 12, 13, 14, 15, 16, 17, 18, 19, 20, 25, 32, 39, 56, 75, 80, 97, 125, 1000000, 1000001]) Tryz.func225 rfl (by decide) Tryz.ntmps225 (lb rfl) (lb rfl) rfl rfl λbase hs0 O U hw v0 hb0 => ?_;refine wrs λK hK => ?_;conv=>whnf
 refine hK _ (wrs λK hK => ?_);conv=>whnf
 refine hK _ (W.block (W.invH hs0 hb0 (λm e => m = 0 ∧ e = [(0, .ownV 145 2 bk n λj => vF (h0 j)), (1, .v (.int .i64 0)), (2, .v (.int .i64 n)), (3, .v (.int .i64 lim)), (4, .v (.func 210 [])), (vt, .dead), (vk, .keep O U hw 0 v0)]) _ _ (⟨rfl, rfl⟩) (by dsimp only; omega) (by repeat' first | refine And.intro ?_ ?_ | exact trivial | rfl | omega | exact .inl rfl | exact λ_ _ => rfl | exact λ_ _ h => h | assumption | exact λi hi => (by obtain rfl : i = 0 := (by omega); rfl)) ?_));clear hK;rintro m e ⟨rfl, rfl⟩;refine W.block ?_;refine wrs λK hK => ?_;conv=>whnf
 refine ⟨oo, ?_⟩;conv=>whnf
 refine hK _ (W.seqK λK1 hK1 => wrs λK hK => ?_);conv=>whnf
 refine hK _ (W.cond ⟨λh => ?_, λh => ?_⟩) <;> clear hK
 ·refine wrs λK hK => ?_;conv=>whnf
  refine ⟨⟨rfl, rfl⟩, ?_⟩;conv=>whnf
  refine ⟨rfl, _, zdc bk n h0 (by omega) hd hdis, ?_⟩;rintro hs' av x' t' hh ⟨rfl, rfl, h, hM, hO, rfl⟩ _ _ _;conv=>whnf
  refine hK _ (W.ret ?_);conv=>whnf
  refine ⟨by dsimp only; omega, ?_⟩;conv=>whnf
  exact ⟨.ownV 145 2 bk n λj => vF (h j), ⟨rfl, rfl, rfl, rfl, λ_ _ => rfl⟩, .inr ⟨rfl, rfl⟩, .dead, trivial, rfl, rfl, rfl, rfl, h, hM, hO, rfl⟩
 ·exact absurd (of_decide_eq_false h) (by omega)

theorem zjn (bk n : Nat) (h0 : Nat -> Poly p × Nat) (hn : n <= 12) (hd : ∀ i, i < n -> dg (h0 i).1 <= 1000000) (hdis : ∀ i j, i < n -> j < n -> (h0 i).1 = (h0 j).1 -> i = j) :
  MFn Tryz.prog 209 [.nil, .func 210 []] 0 (.ownV 145 2 bk n λj => vF (h0 j)) .dead
   (λ_ av x' t' => av = .v (.tup []) ∧ t' = .dead ∧ ∃ h : Nat -> Poly p × Nat, Mix n h0 h ∧ Ord h n ∧ x' = .ownV 145 2 bk n λj => vF (h j)) := by
 refine zeI (cx := cx [0, 1, 4, 1000000, 1000001]) Tryz.func209 rfl (by decide) Tryz.ntmps209 (lb rfl) (lb rfl) rfl rfl λbase hs0 O U hw v0 hb0 => ?_;refine wrs λK hK => ?_;conv=>whnf
 refine hK _ ?_;clear hK;refine wrg ?_;conv=>whnf
 refine ⟨⟨by omega, by constructor <;> omega⟩, ?_⟩;conv=>whnf
 refine y7 rfl (zkA n (by omega) (by omega)) ?_;rintro lo hi hi' z h1 h2 h3 ⟨r, rfl⟩ _;try dsimp only at h1
 conv=>whnf
 refine ⟨⟨rfl, rfl⟩, ?_⟩;conv=>whnf
 refine ⟨rfl, _, zkB bk n r h0 hn hd hdis, ?_⟩;rintro hs' av x' t' hh ⟨rfl, rfl, h, hM, hO, rfl⟩ _ _ _;conv=>whnf
 refine ⟨by dsimp only; omega, ?_⟩;conv=>whnf
 exact ⟨.ownV 145 2 bk n λj => vF (h j), ⟨rfl, rfl, rfl, rfl, λ_ _ => rfl⟩, .inr ⟨rfl, rfl⟩, .dead, trivial, rfl, rfl, rfl, rfl, h, hM, hO, rfl⟩


def vFs {p : Int} [SP p] (F : List (Poly p × Nat)) : V := .vals none 2 F.length λj => vF (F.getD j (0, 0))

theorem zlC (g : Option Nat) (xs : List Int) : FnV 136 [.ints g xs] (.int .i64 xs.length) := by
 refine ze (za [0, 2]) Tryz.func136 rfl (by decide) Tryz.ntmps136 (lb rfl) λbase => ?_;refine wrs λK hK => ?_;conv=>whnf
 refine hK _ (wrs λK hK => ?_);conv=>whnf
 refine hK _ (W.ret ?_);conv=>whnf
 exact ⟨.v (.int .i64 xs.length), ⟨rfl, rfl⟩, trivial, rfl⟩

theorem zjo {p : Int} [SP p] {f : Poly p} {G : List (Poly p × Nat)} (hG : kt f G) {h : Nat -> Poly p × Nat} (hM : Mix G.length (λj => G.getD j (0, 0)) h) (hO : Ord h G.length) :
  jO f ((List.range G.length).map h) := by
 refine ⟨?_, λx => ?_⟩
 ·rw [List.pairwise_map];exact List.pairwise_lt_range.imp_of_mem (λ{a b} ha hb hab => hO a b hab (List.mem_range.1 hb))
 ·rw [<- hG.2, List.mem_map]
  constructor
  ·rintro ⟨i, hi, rfl⟩;obtain ⟨j, hj, e⟩ := (hM.mem (h i)).1 ⟨i, List.mem_range.1 hi, rfl⟩;have e : G.getD j (0, 0) = h i := e;rw [<- e, List.getD_eq_getElem?_getD, List.getElem?_eq_getElem hj];exact List.getElem_mem hj
  ·intro hx;obtain ⟨j, hj, e⟩ := List.getElem_of_mem hx;obtain ⟨i, hi, e'⟩ := (hM.mem x).2 ⟨j, hj, by show G.getD j (0, 0) = x; rw [List.getD_eq_getElem?_getD, List.getElem?_eq_getElem hj]; exact e⟩;exact ⟨i, List.mem_range.2 hi, e'⟩
theorem zoA {p : Int} [SP p] {f : Poly p} {G : List (Poly p × Nat)} (hG : kt f G) : ∀ i j, i < G.length -> j < G.length -> (G.getD i (0, 0)).1 = (G.getD j (0, 0)).1 -> i = j := by
 intro i j hi hj e;have h1 := zbV hG.1 (i := i) (j := j) (by simpa using hi) (by simpa using hj);refine h1 ?_;simp only [List.getD_eq_getElem?_getD, List.getElem?_map, List.getElem?_eq_getElem hi, List.getElem?_eq_getElem hj] at e ⊢
 exact e
theorem zfv {α : Type} (h : Nat -> α) (d : α) {n i : Nat} (hi : i < n) : ((List.range n).map h).getD i d = h i := by
 simp [List.getD_eq_getElem?_getD, hi]

theorem zdB {α : Type} {d x : α} {L : List α} {j : Nat} (h : j < L.length) : (L ++ [x]).getD j d = L.getD j d := by rw [zc3, if_pos h]
theorem zdC {α : Type} {d x : α} {L : List α} : (L ++ [x]).getD (L.length + 0) d = x := by rw [Nat.add_zero, zc3, if_neg (by omega), if_pos rfl]

theorem zcC (p : Int) [SP p] : ∀ (d : Nat) (g : Option Nat) (f : Poly p), dg f <= d -> d <= 13 -> f ≠ 0 -> Fn Tryz.prog 175 [.int .i64 p, .ints g f.l] (λ_ _ z => ∃ F, jO f F ∧ z = .v (vFs F))
 | 0, g, f, hd, _, hf0 => absurd (zd.1 (by omega)) hf0
 | d + 1, g, f, hd, hd13, hf0 => by
  have ih := zcC p d;have hp := Pr.two (p := p);have hp2 := SP.le (p := p);have hm := j6 hf0;have hmd : dg (mnc f) <= dg f := zP (ya f).1 hf0;generalize hr0 : mnc f = r0 at hm hmd;have hrl : r0.l.length = dg r0 := rfl;refine ze (za [0, 1, 4, 5, 6, 7, 8, 11, 12, 13, 14, 15, 16, 18, 28, 41, 42, 43, 44, 58, 78, 82, 95, 96, 97, 98]) Tryz.func175 rfl (by decide) Tryz.ntmps175 (lb rfl) λbase => ?_;refine wrs λK hK => ?_;conv=>whnf
  refine hK _ (wrs λK hK => ?_);conv=>whnf
  refine hK _ (wrs λK hK => ?_);conv=>whnf
  refine zr rfl (zjl p g f (by omega)) λhs_1 b_1 hh_1 hf_1 => ?_;try dsimp only at hh_1 hf_1
  conv=>whnf
  rw [hr0];refine hK _ ?_;clear hK;refine W.seqK λK1 hK1 => ?_
  -- what is left, and the factors found
  have fin : ∀ (r : Poly p) (L : List (Poly p × Nat)) (bL : Nat) (s : S), Mon r -> dg r <= dg r0 -> der r = 0 -> L.length <= 12 -> (∀ F, kt r F -> kt r0 (L ++ F)) -> base <= s.hs ->
    zB s.env [(0, .v (.int .i64 p)), (4, .v .nil), (5, .ownV 145 2 bL L.length λj => vF (L.getD j (0, 0))), (6, .v (.ints none r.l))] -> K1 s := by
   intro r L bL s hrm hrd hder hL12 hfac h5 h6;refine hK1 _ (W.weak (t := ⟨[(0, .v (.int .i64 p)), (4, .v .nil), (5, .ownV 145 2 bL L.length λj => vF (L.getD j (0, 0))), (6, .v (.ints none r.l))], base⟩) ⟨h5, h6⟩ (Nat.le_refl _) ?_);clear hK1 h5 h6 s;have hrl : r.l.length = dg r := rfl;have hr1 : dg r ≠ 0 := λe => hrm.1 (zd.1 e);refine W.seqK λK1 hK1 => ?_
   -- the end: all factors are in the list
   have fin2 : ∀ (G : List (Poly p × Nat)) (bG : Nat) (s : S), kt r0 G -> base <= s.hs -> zB s.env [(0, .v (.int .i64 p)), (4, .v .nil), (5, .ownV 145 2 bG G.length λj => vF (G.getD j (0, 0)))] -> K1 s := by
    intro G bG s hG h5 h6;refine hK1 _ (W.weak (t := ⟨[(0, .v (.int .i64 p)), (4, .v .nil), (5, .ownV 145 2 bG G.length λj => vF (G.getD j (0, 0)))], base⟩) ⟨h5, h6⟩ (Nat.le_refl _) ?_);clear hK1 h5 h6 s;have hfew := hG.few hm.1;refine wrs λK hK => ?_;conv=>whnf
    refine ⟨⟨rfl, rfl⟩, ?_⟩;conv=>whnf
    refine ⟨rfl, _, zjn bG G.length (λj => G.getD j (0, 0)) (by omega) (λi hi => ?_) (zoA hG), ?_⟩
    ·have h7 : G.getD i (0, 0) ∈ G := by rw [List.getD_eq_getElem?_getD, List.getElem?_eq_getElem hi]; exact List.getElem_mem hi
     obtain ⟨a1, a2, a3, a4⟩ := (hG.2 _).1 h7;have := zP (a4.dvd a3) hm.1;show dg (G.getD i (0, 0)).1 <= 1000000
     omega
    rintro hs' av x' t' hh ⟨rfl, rfl, h, hM, hO, rfl⟩ _ _ _;try dsimp only at hh
    conv=>whnf
    refine hK _ (wrs λK hK => ?_);conv=>whnf
    refine hK _ (W.ret ?_);conv=>whnf
    exact ⟨.v (vFs ((List.range G.length).map h)), ⟨rfl, rfl, by simp, λi hi => congrArg vF (zfv h (0, 0) hi).symm⟩, ⟨trivial, λ_ _ => ⟨trivial, trivial, trivial⟩⟩, _, zjo (kt.mnc hf0 (hr0 ▸ hG)) hM hO, rfl⟩
   clear hK1;refine wrs λK hK => ?_;conv=>whnf
   rw [hrl];refine hK _ (W.cond ⟨λh7 => ?_, λh7 => ?_⟩) <;> clear hK
   ·have h7 := of_decide_eq_true h7;refine wrs λK hK => ?_;conv=>whnf
    refine hK _ (W.seqK λK3 hK3 => wrs λK hK => ?_);conv=>whnf
    refine hK _ (W.block (W.invE (λm e => ∃ (k bR : Nat), (m = dg r + p.toNat - k * p.toNat) ∧ k * p.toNat < dg r + p.toNat ∧ e = [(0, .v (.int .i64 p)), (4, .v .nil), (5, .ownV 145 2 bL L.length λj => vF (L.getD j (0, 0))), (6, .v (.ints none r.l)), (15, .ownI 2 bR (mkL k λi => cf r.l (i * p.toNat))), (16, .v (.int .i64 ((k * p.toNat : Nat) : Int)))]) _ _ ⟨0, 0, rfl, by omega, rfl⟩ (by dsimp only; omega) (by repeat' first | refine And.intro ?_ ?_ | exact trivial | rfl | omega | assumption | exact .inl rfl | exact .inr rfl | exact λ_ _ => rfl) ?_));clear hK;rintro m e ⟨k, bR, hm', hk, rfl⟩;have hpn : ((p.toNat : Nat) : Int) = p := by omega
    have hk1 : (k + 1) * p.toNat = k * p.toNat + p.toNat := Nat.succ_mul _ _;have hk2 : (((k + 1) * p.toNat : Nat) : Int) = ((k * p.toNat : Nat) : Int) + p := by omega
    have hcfk : cf r.l (k * p.toNat) = cf r.l (k * p.toNat) := rfl;generalize hkp : k * p.toNat = kp at hm' hk hk1 hk2 hcfk;refine W.seqK λK7 hK7 => wrs λK hK => ?_;conv=>whnf
    refine zb rfl (zlC none r.l) λhs' hhs => ?_;try dsimp only at hhs
    conv=>whnf
    rw [hrl];refine hK _ (W.cond ⟨λh8 => ?_, λh8 => ?_⟩) <;> clear hK
    ·have h8 := of_decide_eq_true h8;refine W.skip (hK7 _ ?_);clear hK7;refine W.seqK λK8 hK8 => W.block ?_;refine wrg ?_;conv=>whnf
     refine ⟨oo, ?_⟩;conv=>whnf
     rw [Int.toNat_natCast];have hkk : k <= kp := by rw [<- hkp]; exact Nat.le_mul_of_pos_right k (by omega)
     have hml : (mkL k λi => cf r.l (i * p.toNat)).length = k := zH _ _;have hms : mkL (k + 1) (λi => cf r.l (i * p.toNat)) = mkL k (λi => cf r.l (i * p.toNat)) ++ [r.l.getD kp 0] := by rw [zcn, hkp]; rfl
     refine ⟨⟨rfl, by decide⟩, ?_⟩;conv=>whnf
     intro b_4 hs_4 hh_4 hf_4;try dsimp only at hh_4 hf_4
     conv=>whnf
     refine ⟨by dsimp only [List.length]; omega, ?_⟩;conv=>whnf
     intro b_6 hs_6 hh_6 hf_6;try dsimp only at hh_6 hf_6
     conv=>whnf
     refine hK8 _ ?_;clear hK8;refine wrg ?_;conv=>whnf
     refine ⟨oo, ?_⟩;conv=>whnf
     refine ⟨_, _, ⟨k + 1, b_6, rfl, by omega, rfl⟩, by omega, by dsimp only; omega, ?_⟩;rw [hms];exact cvr
    ·have h8 := of_decide_eq_false h8;obtain ⟨R, hR1, hR2, hR3, hR4, hR5⟩ := zgI (f := r) hrm hder (l := mkL k λi => cf r.l (i * p.toNat)) (n := k) (zH _ _) (λi hi => by rw [y0, if_pos hi]) (by omega) (by omega);rw [<- hR1];have hRf0 := hR2.1;have hRd := hR5 (by omega);refine W.exit (hK3 _ ?_);clear hK7 hK3;refine wrs λK hK => ?_;conv=>whnf
     refine y7 rfl (ih _ R (by omega) (by omega) hRf0) ?_;rintro lo hi hi' z hl1 hl2 hl3 ⟨F, hF, rfl⟩ _;try dsimp only at hl1 hl2
     have hFf := hF.facs.few hRf0;have hG := hfac _ (kt.up hRf0 (n := p.toNat) (by omega) hR3 hF.facs);have hGl := hG.few hm.1;conv=>whnf
     refine hK _ (W.block (W.invE (λm e => ∃ (j bG : Nat), j <= F.length ∧ m = F.length - j ∧ e = [(0, .v (.int .i64 p)), (4, .v .nil), (5, .ownV 145 2 bG (L ++ (up p.toNat F).take j).length λi => vF ((L ++ (up p.toNat F).take j).getD i (0, 0))), (95, .v (vFs F)), (96, .v (.int .i64 F.length)), (97, .v (.int .i64 j))]) _ _ ⟨0, bL, Nat.zero_le _, rfl, rfl⟩ (by dsimp only; omega) (by
      have e3 : L ++ (up p.toNat F).take 0 = L := List.append_nil _;rw [e3]
      repeat' first | refine And.intro ?_ ?_ | exact trivial | rfl | omega | assumption | exact .inl rfl | exact λ_ _ => rfl) ?_))
     clear hK;rintro m e ⟨j, bG, hj, hm', rfl⟩;have hul : (up p.toNat F).length = F.length := List.length_map ..;refine wrs λK hK => ?_;conv=>whnf
     refine hK _ ?_;clear hK;refine W.seqK λK7 hK7 => W.cond ⟨λh9 => ?_, λh9 => ?_⟩ <;> (first | replace h9 := of_decide_eq_true h9 | replace h9 := of_decide_eq_false h9)
     ·have h9 : j < F.length := by omega
      have hxm : F.getD j (0, 0) ∈ F := by rw [List.getD_eq_getElem?_getD, List.getElem?_eq_getElem h9]; exact List.getElem_mem h9
      have hxu : (up p.toNat F).take (j + 1) = (up p.toNat F).take j ++ [((F.getD j (0, 0)).1, p.toNat * (F.getD j (0, 0)).2)] := by
       rw [List.take_add_one, List.getElem?_eq_getElem (by omega)];unfold up;simp [List.getElem_map, List.getD_eq_getElem?_getD, List.getElem?_eq_getElem h9]
      obtain ⟨a1, a2, a3, a4⟩ := (hF.2 _).1 hxm
      have hx2 : (F.getD j (0, 0)).2 < 14 := by
       obtain ⟨u, h5, h6⟩ := a4;have h10 := zeX a1.1 (F.getD j (0, 0)).2;have h11 := zP (⟨u, h5⟩ : _ ∣ R) hRf0;omega
      generalize hx : F.getD j (0, 0) = x at hxm hxu a1 a2 a3 a4 hx2;have hpx : ((p.toNat * x.2 : Nat) : Int) = p * (x.2 : Int) := by rw [Int.natCast_mul, show ((p.toNat : Nat) : Int) = p by omega]
      have hpx2 : 0 <= p * (x.2 : Int) ∧ p * (x.2 : Int) <= 97 * 13 := ⟨Int.mul_nonneg (by omega) (by omega), Int.mul_le_mul (by omega) (by omega) (by omega) (by omega)⟩
      refine W.skip (hK7 _ ?_);clear hK7;refine W.seqK λK8 hK8 => W.block ?_;refine wrs λK hK => ?_;conv=>whnf
      refine ⟨oo, ?_⟩;conv=>whnf
      rw [Int.toNat_natCast, hx];intro b_7 hs_7 hh_7 hf_7;try dsimp only at hh_7 hf_7
      conv=>whnf
      refine ⟨s23, ?_⟩;conv=>whnf
      refine hK _ ?_;clear hK;refine wrg ?_;conv=>whnf
      refine ⟨oo, ?_⟩;conv=>whnf
      rw [<- hpx];refine ⟨⟨rfl, by decide, λx hx => by simp at hx; subst hx; exact ⟨rfl, rfl⟩⟩, ?_⟩;conv=>whnf
      intro b_8 hs_8 hh_8 hf_8;try dsimp only at hh_8 hf_8
      conv=>whnf
      have hAl : (L ++ (up p.toNat F).take j).length <= 26 := by rw [List.length_append, List.length_take]; omega
      refine ⟨by omega, ?_⟩;conv=>whnf
      refine ⟨λi => vF ((L ++ (up p.toNat F).take j ++ [(x.1, p.toNat * x.2)]).getD i (0, 0)), λi hi => congrArg vF (zdB hi), λi hi => ?_, ?_⟩
      ·obtain rfl : i = 0 := by omega
       exact congrArg vF zdC
      intro b_9 hs_9 hh_9 hf_9;try dsimp only at hh_9 hf_9
      conv=>whnf
      refine hK8 _ ?_;clear hK8;refine wrg ?_;conv=>whnf
      refine ⟨oo, ?_⟩;conv=>whnf
      refine ⟨_, _, ⟨j + 1, b_9, by omega, rfl, rfl⟩, by omega, by dsimp only; omega, ?_⟩;rw [hxu, <- List.append_assoc, List.length_append (bs := [_])];exact cvr
     ·obtain rfl : j = F.length := by omega
      rw [List.take_of_length_le (by omega)];refine W.exit (fin2 _ bG _ hG (by dsimp only; omega) ?_);clear fin2 hK7;exact cvr
   ·have h7 := of_decide_eq_false h7;have hu := hfac [] (kt.unit (by omega));rw [List.append_nil] at hu;refine W.skip (fin2 L bL _ hu (by dsimp only; omega) ?_);clear fin2;exact cvr
  clear hK1;refine wrs λK hK => ?_;conv=>whnf
  refine zb rfl (zbx _ r0.l ((jT r0).le (by omega)) (by omega)) λhs' hhs => ?_;try dsimp only at hhs
  conv=>whnf
  refine zr rfl (zG p (by omega) (by omega) none (mkL (r0.l.length - 1) (dv (cf r0.l))) (λj => by rw [y0]; split; (rename_i hj; have hc := jP r0 (j + 1); have h8 := Int.mul_nonneg (by omega : (0 : Int) <= (j : Int) + 1) hc.1; have h9 := Int.mul_le_mul (by omega : (j : Int) + 1 <= 13) (by omega : cf r0.l (j + 1) <= 97) hc.1 (by omega); unfold dv; omega); omega) (by rw [zH]; omega)) λhs_2 b_2 hh_2 hf_2 => ?_;try dsimp only at hh_2 hf_2
  conv=>whnf
  rw [zi2];refine hK _ (wrs λK hK => ?_);conv=>whnf
  have hdl : (der r0).l.length = dg (der r0) := rfl;rw [hdl];refine hK _ (W.cond ⟨λh => ?_, λh => ?_⟩) <;> clear hK
  ·have h := of_decide_eq_true h;have hd0 : der r0 ≠ 0 := λe => by rw [e, zy] at h; omega
   obtain ⟨s1, s2, s3, s4, s5, s6, s7⟩ := zlp hm hd0;refine wrs λK hK => ?_;conv=>whnf
   refine zr rfl (zgN p _ _ r0 (der r0) (by omega) (by have := zbS hm.1; omega)) λhs_3 b_3 hh_3 hf_3 => ?_;try dsimp only at hh_3 hf_3
   conv=>whnf
   refine zb rfl (jv p _ _ r0 (gcd r0 (der r0)) (by omega) (by have := zP s6 hd0; have := zbS hm.1; omega) s7) λhs' hhs => ?_;try dsimp only at hhs
   conv=>whnf
   generalize hq : quo r0 (gcd r0 (der r0)) = q at s1 s2 s3 s4 s5;generalize gcd r0 (der r0) = c at s1 s6 s7;refine hK _ (wrs λK hK => ?_);conv=>whnf
   refine y7 rfl (zoz p q s2 s3 s4 (by omega)) ?_;rintro lo hi hi' z hl1 hl2 hl3 ⟨P, hP, rfl⟩ _;have hPf := hP.few (f := q) s2.1;try dsimp only at hl1 hl2
   conv=>whnf
   refine hK _ (W.block (W.invE (λm e => ∃ (k bL : Nat) (r : Poly p) (L : List (Poly p × Nat)), Peel r0 P k r L ∧ dg r <= dg r0 ∧ m = P.length - k ∧ e = [(0, .v (.int .i64 p)), (4, .v .nil), (5, .ownV 145 2 bL L.length λj => vF (L.getD j (0, 0))), (6, .v (.ints none r.l)), (41, .v (vPs P)), (42, .v (.int .i64 P.length)), (43, .v (.int .i64 k))]) _ _ ⟨0, 0, r0, [], Peel.start hm P, Nat.le_refl _, rfl, rfl⟩ (by dsimp only; omega) (by repeat' first | refine And.intro ?_ ?_ | exact trivial | rfl | omega | assumption | exact .inl rfl | exact .inr rfl | exact λ_ _ => rfl) ?_));clear hK;rintro m e ⟨k, bL, r, L, hpe, hrd, hm', rfl⟩;refine wrs λK hK => ?_;conv=>whnf
   refine hK _ ?_;clear hK;refine W.seqK λK7 hK7 => W.cond ⟨λh2 => ?_, λh2 => ?_⟩ <;> (first | replace h2 := of_decide_eq_true h2 | replace h2 := of_decide_eq_false h2)
   ·have h2 : k < P.length := by omega
    have hmem : P.getD k 0 ∈ P := by rw [List.getD_eq_getElem?_getD, List.getElem?_eq_getElem h2]; exact List.getElem_mem h2
    obtain ⟨hgi, hgm, hgd⟩ := (hP.2 _).1 hmem;have hgd0 : P.getD k 0 ∣ r0 := zw hgd ⟨c, s1⟩;have hgdg := zP hgd0 hm.1;have step := λn r' he hn => hpe.step (n := n) (r' := r') hP.1 h2 hgi hgm hgd0 he hn;generalize hgq : P.getD k 0 = q1 at hgi hgm hgd hgd0 hgdg step;have hlen := hpe.len;refine W.skip (hK7 _ ?_);clear hK7;refine W.seqK λK8 hK8 => W.block ?_;refine wrs λK hK => ?_;conv=>whnf
    refine ⟨oo, ?_⟩;conv=>whnf
    have e1 : (λj => V.ints none (P.getD j 0).l) (k : Int).toNat = .ints none q1.l := by rw [Int.toNat_natCast]; show V.ints none (P.getD k 0).l = _; rw [hgq]
    rw [e1];conv=>whnf
    refine hK _ (wrs λK hK => ?_);conv=>whnf
    intro b_9 hs_9 hh_9 hf_9;try dsimp only at hh_9 hf_9
    conv=>whnf
    refine ⟨s23, ?_⟩;conv=>whnf
    refine hK _ ?_;clear hK
    have hpow : ∀ {n : Nat} {rc : Poly p}, r = q1 ^ n * rc -> n < 14 ∧ rc ≠ 0 ∧ dg rc <= dg r := λ{n rc} he => by
     have h5 := zeX hgi.1 n;have h6 := zP (⟨rc, he⟩ : q1 ^ n ∣ r) hpe.mon.1;have h7 : rc ∣ r := ⟨q1 ^ n, by rw [he]; exact js _ _⟩
     exact ⟨by omega, zeR h7 hpe.mon.1, zP h7 hpe.mon.1⟩
    refine W.seqK λK2 hK2 => wrs λK hK => ?_;conv=>whnf
    refine zb rfl (jv p _ _ r q1 (by omega) (by omega) hgi.ne) λhs' hhs => ?_;try dsimp only at hhs
    conv=>whnf
    refine hK _ (W.block (W.invE (λm e => ∃ (n : Nat) (rc : Poly p), r = q1 ^ n * rc ∧ m = dg rc ∧ e = [(0, .v (.int .i64 p)), (4, .v .nil), (5, .ownV 145 2 bL L.length λj => vF (L.getD j (0, 0))), (6, .v (.ints none rc.l)), (11, .v (.ints none q1.l)), (12, .ownB b_9 (.agg [.ints none q1.l, .int .i64 n])), (13, .v (.ints none (quo rc q1).l)), (14, .v (.ints none (rem rc q1).l)), (41, .v (vPs P)), (42, .v (.int .i64 P.length)), (43, .v (.int .i64 k))]) _ _ ⟨0, r, by rw [zv]; exact zh [r] (by rfl), rfl, rfl⟩ (by dsimp only; omega) (by repeat' first | refine And.intro ?_ ?_ | exact trivial | rfl | omega | assumption | exact .inl rfl | exact .inr rfl | exact λ_ _ => rfl) ?_));clear hK;rintro m2 e ⟨n, rc, he, hm2, rfl⟩;obtain ⟨hn14, hrc0, hrcd⟩ := hpow he;have hreml : (rem rc q1).l.length = dg (rem rc q1) := rfl;refine W.seqK λK7 hK7 => wrs λK hK => ?_;conv=>whnf
    refine hK _ (W.cond ⟨λh3 => ?_, λh3 => ?_⟩) <;> clear hK <;> (first | replace h3 := of_decide_eq_true h3 | replace h3 := of_decide_eq_false h3)
    ·have hrem : rem rc q1 = 0 := zd.1 (by omega)
     have hdiv : rc = quo rc q1 * q1 := by
      have h5 := ve rc q1;rw [hrem] at h5;have e : ∀ a : Poly p, a + 0 = a := λa => by exact zh [a] (by rfl)
      rw [e] at h5; exact h5
     have hq0 : quo rc q1 ≠ 0 := λe => hrc0 (by rw [hdiv, e]; exact zh [q1] (by rfl));have hdgq := yS hq0 hgi.ne;rw [<- hdiv] at hdgq;have hg2 := hgi.1;refine W.skip (hK7 _ ?_);clear hK7;refine W.seqK λK8 hK8 => W.block ?_;refine wrs λK hK => ?_;conv=>whnf
     refine hK _ ?_;clear hK;refine wrg ?_;conv=>whnf
     refine ⟨oo, ?_⟩;conv=>whnf
     refine ⟨⟨(by show 1 + 1 <= 2; omega), rfl⟩, ?_⟩;conv=>whnf
     refine hK8 _ ?_;clear hK8;refine wrg ?_;conv=>whnf
     refine zb rfl (jv p _ _ (quo rc q1) q1 (by omega) (by omega) hgi.ne) λhs' hhs => ?_;try dsimp only at hhs
     conv=>whnf
     exact zk ⟨n + 1, quo rc q1, by rw [he, zi]; exact comb (q1 ^ n) hdiv (zh [rc, q1, quo rc q1, q1 ^ n] (by rfl)), rfl, rfl⟩
    ·have hnd : ¬ q1 ∣ rc := λhd => by
      have := (j5 hgi.ne).1 hd;have : dg (rem rc q1) = 0 := by rw [this]; exact zy
      omega
     refine W.exit (hK2 _ ?_);clear hK7 hK2;refine wrg ?_;conv=>whnf
     refine ⟨⟨rfl, by decide, λx hx => by simp at hx; subst hx; exact ⟨rfl, rfl⟩⟩, ?_⟩;conv=>whnf
     intro b_5 hs_5 hh_5 hf_5;try dsimp only at hh_5 hf_5
     conv=>whnf
     refine ⟨by omega, ?_⟩;conv=>whnf
     refine ⟨λi => vF ((L ++ [(q1, n)]).getD i (0, 0)), λi hi => congrArg vF (zdB hi), λi hi => ?_, ?_⟩
     ·obtain rfl : i = 0 := by omega
      exact congrArg vF zdC
     intro b_6 hs_6 hh_6 hf_6;try dsimp only at hh_6 hf_6
     conv=>whnf
     refine hK8 _ ?_;clear hK8;refine wrg ?_;conv=>whnf
     refine ⟨oo, ?_⟩;conv=>whnf
     refine ⟨_, _, ⟨k + 1, b_6, rc, L ++ [(q1, n)], step n rc he hnd, by omega, rfl, rfl⟩, by omega, by dsimp only; omega, ?_⟩;rw [List.length_append (bs := [_])];exact cvr
   ·obtain rfl : k = P.length := by have := hpe.le; omega
    refine W.exit (fin r L bL _ hpe.mon hrd (hpe.fin hm hP s1 s6).1 (by have := hpe.len; omega) (λF hF => hpe.facs hm hP s1 s6 hF) (by dsimp only; omega) ?_);clear fin hK7;exact cvr
  ·have h := of_decide_eq_false h;have hd0 : der r0 = 0 := zd.1 (by omega);refine W.skip (fin r0 [] 0 _ hm (Nat.le_refl _) hd0 (by simp) (λF hF => hF) (by dsimp only; omega) ?_);clear fin;exact cvr


def zbo {p : Int} [SP p] (F : List (Poly p × Nat)) : Bool := bif decide ((F.length : Int) = 1) then decide (((F.getD 0 (0, 0)).2 : Int) = 1) else false

theorem zdd (p : Int) [SP p] (g : Option Nat) (f : Poly p) (hf : dg f <= 13) (hf0 : f ≠ 0) : Fn Tryz.prog 172 [.int .i64 p, .ints g f.l] (λ_ _ z => ∃ F, jO f F ∧ z = .v (.bool (zbo F))) := by
 refine ze (za [0, 1, 4, 5]) Tryz.func172 rfl (by decide) Tryz.ntmps172 (lb rfl) λbase => ?_;refine wrs λK hK => ?_;conv=>whnf
 refine hK _ (wrs λK hK => ?_);conv=>whnf
 refine y7 rfl (zcC p _ g f hf (Nat.le_refl _) hf0) ?_;rintro lo hi hi' z hl1 hl2 hl3 ⟨F, hF, rfl⟩ _;try dsimp only at hl1 hl2
 have hlen := hF.facs.few hf0;conv=>whnf
 refine hK _ (wrs λK hK => ?_);conv=>whnf
 refine ⟨λh => ?_, λh => ?_⟩ <;> conv=>whnf
 ·refine ⟨⟨by omega, by have := of_decide_eq_true h; omega⟩, ?_⟩;conv=>whnf
  refine hK _ (W.ret ?_);conv=>whnf
  exact ⟨.v (.bool (zbo F)), (by show decide _ = zbo F; unfold zbo; rw [h]; rfl), trivial, F, hF, rfl⟩
 ·refine hK _ (W.ret ?_);conv=>whnf
  exact ⟨.v (.bool (zbo F)), (by show zbo F = false; unfold zbo; rw [h]; rfl), trivial, F, hF, rfl⟩


structure MatR (tb : Nat -> Option (List Int)) (bl : Nat -> Nat) (n m : Nat) (R : Nat -> Nat -> Int) : Prop where
 inj : ∀ i j, i < n -> j < n -> bl i = bl j -> i = j
 row : ∀ i, i < n -> ∃ l, tb (bl i) = some l ∧ l.length = m ∧ ∀ x, x < m -> cf l x = R i x
theorem MatR.store {tb : Nat -> Option (List Int)} {bl : Nat -> Nat} {n m : Nat} {R : Nat -> Nat -> Int} (h : MatR tb bl n m R) {i x : Nat} (hi : i < n) (hx : x < m) {l : List Int} (hl : tb (bl i) = some l) (v : Int) :
  MatR (yJ tb (bl i) (l.set x v)) bl n m (λa y => if a = i ∧ y = x then v else R a y) := by
 refine ⟨h.inj, λa ha => ?_⟩;obtain ⟨l1, h1, h2, h3⟩ := h.row a ha
 by_cases he : a = i
 ·subst he;rw [hl] at h1;cases h1
  refine ⟨l.set x v, y8 _ _ _, by simpa using h2, λy hy => ?_⟩;rw [z6 (by omega)]
  by_cases hyx : y = x
  ·simp [hyx]
  ·simp [hyx, h3 y hy]
 ·have hne : bl a ≠ bl i := λe => he (h.inj a i ha hi e);refine ⟨l1, by rw [xA _ _ hne]; exact h1, h2, λy hy => ?_⟩;simp [he, h3 y hy]
theorem MatR.congr {tb : Nat -> Option (List Int)} {bl : Nat -> Nat} {n m : Nat} {R R' : Nat -> Nat -> Int} (h : MatR tb bl n m R) (he : ∀ i x, i < n -> x < m -> R i x = R' i x) : MatR tb bl n m R' :=
 ⟨h.inj, λi hi => by obtain ⟨l, h1, h2, h3⟩ := h.row i hi; exact ⟨l, h1, h2, λx hx => by rw [h3 x hx, he i x hi hx]⟩⟩

def vU (b : Bool) : V := bif b then .tr else .bool false
theorem Half.used {p : Int} {n : Nat} {M : Nat -> Nat -> Int} {col : Nat} {u u' : Nat -> Prop} {L T : Nat -> Nat -> Int} (h : Half p n M col u L T) (e : ∀ k, u k ↔ u' k) : Half p n M col u' L T :=
 (funext λk => propext (e k) : u = u') ▸ h
def vu (p : Int) (R : Nat -> Nat -> Int) (q : Nat -> Int) (a i k x : Nat) : Int := if k < i ∧ k ≠ a then (R k x - q k * R a x) % p else R k x
noncomputable def zax {p : Int} [SP p] (f : Poly p) (n : Nat) (i x : Nat) : Int := if x < n then cf (zaP f i).l x else if x = n + i then 1 else 0

theorem zhL (p : Int) [SP p] (g : Option Nat) (f : Poly p) (n : Nat) (hf : dg f = n + 1) (hn0 : 1 <= n) (hn : n <= 400) :
   Fn Tryz.prog 250 [.int .i64 p, .ints g f.l] (λ_ _ z => ∃ v : Poly p, z = .v (.ints none v.l) ∧ ((2 <= dg v ∧ dg v <= n ∧ Ber f v) ∨ (v = 0 ∧ ∀ w, dg w <= n -> Ber f w -> dg w <= 1))) := by
 have hp := Pr.two (p := p);have hp2 := SP.le (p := p);have hfl : f.l.length = n + 1 := hf;have hf0 : f ≠ 0 := λe => by rw [e, zy] at hf; omega
 have e2n : (2 : Int) * (n : Int) = ((2 * n : Nat) : Int) := by omega
 refine ze (zo [0, 1, 4, 5, 6, 7, 8, 9, 10, 11, 12, 13, 14, 15, 16, 17, 18, 19, 20, 27, 43, 76, 81, 98, 101, 116, 131, 146, 176, 195, 1000000]) Tryz.func250 rfl (by decide) Tryz.ntmps250 (lb rfl) λbase => ?_;refine W.tab0 rfl ?_;refine W.rs (zo _) (by rfl) λK hK => ?_;conv=>whnf
 refine hK _ ?_;clear hK;refine W.rs (zo _) (by rfl) λK hK => ?_;conv=>whnf
 rw [hfl];refine ⟨oo, ?_⟩;conv=>whnf
 have e0 : (((n + 1 : Nat) : Int) - 1) = n := by omega
 rw [e0];refine hK _ ?_;clear hK;refine W.rs (zo _) (by rfl) λK hK => ?_;conv=>whnf
 refine ⟨⟨rfl, by decide, λx hx => by simp at hx⟩, ?_⟩;conv=>whnf
 intro b_0 hs_0 hh_0 hf_0;try dsimp only at hh_0 hf_0
 conv=>whnf
 refine hK _ ?_;clear hK;refine W.seqK λK1 hK1 => ?_;refine W.rs (zo _) (by rfl) λK hK => ?_;conv=>whnf
 refine hK _ (W.block (W.inv (λm s => ∃ (i hs ba : Nat) (bl : Nat -> Nat) (tb : Nat -> Option (List Int)), i <= n ∧ base <= hs ∧ (∀ j, j < i -> bl j < hs) ∧ MatR tb bl i (2 * n) (zax f n) ∧ m = n - i ∧
   s = ⟨[(0, .v (.int .i64 p)), (1, .v (.ints g f.l)), (5, .v (.int .i64 n)), (6, .ownV 22 1 ba i λj => .rf (bl j) (2 * n)), (7, .v (.int .i64 i)), (vt, .tab tb)], hs⟩) _ _
   ⟨0, base, b_0, λ_ => 0, λ_ => none, Nat.zero_le _, Nat.le_refl _, λj hj => by omega, ⟨λi j hi => by omega, λi hi => by omega⟩, rfl, rfl⟩ ⟨by dsimp only; omega, by repeat' first | refine And.intro ?_ ?_ | exact trivial | rfl | omega | assumption | exact λ_ _ => rfl | exact λ_ _ h => h | exact λi hi => absurd hi (by omega)⟩
   (by rintro m s ⟨_, _, _, _, _, _, h, _, _, _, rfl⟩; exact h) ?_))
 clear hK hh_0 hf_0;rintro m s ⟨i, hs, ba, bl, tb, hi, hhs, hlt, hM, hm, rfl⟩;refine W.seqK λK7 hK7 => ?_;refine W.rs (zo _) (by rfl) λK hK => ?_;conv=>whnf
 refine hK _ (W.cond ⟨λh2 => ?_, λh2 => ?_⟩) <;> clear hK
 · have h2 : i < n := by have := of_decide_eq_true h2; omega
   have epi : (i : Int) * p = ((p.toNat * i : Nat) : Int) := by rw [Int.natCast_mul, Int.mul_comm]; congr 1; omega
   have hpi : p.toNat * i <= 97 * 400 := Nat.mul_le_mul (by omega) (by omega);have hWl : (rem (X p ^ (p.toNat * i)) f).l.length = dg (rem (X p ^ (p.toNat * i)) f) := rfl;have hWd := zO (X p ^ (p.toNat * i)) hf0;refine W.skip (hK7 _ ?_);clear hK7;refine W.seqK λK8 hK8 => W.block ?_;refine W.rs (zo _) (by rfl) λK hK => ?_;conv=>whnf
   refine ⟨oo, ?_⟩;conv=>whnf
   rw [e2n];refine ⟨rfl, ?_⟩;conv=>whnf
   refine ⟨oo, ?_⟩;conv=>whnf
   rw [Int.toNat_natCast];intro b_8 hs_8 hh_8 hf_8;try dsimp only at hh_8 hf_8
   conv=>whnf
   refine hK _ ?_;clear hK;refine W.rs (zo _) (by rfl) λK hK => ?_;conv=>whnf
   refine ⟨⟨rfl, by decide⟩, ?_⟩;conv=>whnf
   intro b_x hs_x hh_x hf_x;try dsimp only at hh_x hf_x
   conv=>whnf
   refine ⟨by rw [epi]; constructor <;> omega, ?_⟩;conv=>whnf
   rw [epi];have ex : [(0 : Int), 1] = (X p).l := X_l.symm;rw [ex]
   have hXd : dg (X p) <= 1000000 := by
     have : (X p).l.length = 2 := by rw [X_l]; rfl
     show (X p).l.length <= _
     omega
   refine zb rfl (zdz p _ g (X p) f (p.toNat * i) (by omega) hXd (by omega) hf0) λhs' hhs => ?_;try dsimp only at hhs
   conv=>whnf
   generalize hW : rem (X p ^ (p.toNat * i)) f = Wp at *;refine hK _ ?_;clear hK;have hb8 := hf_8 (by omega);refine W.seqK λK2 hK2 => ?_;refine W.rs (zo _) (by rfl) λK hK => ?_;conv=>whnf
   refine hK _ (W.block (W.invH hs_8 (by omega) (λm e => ∃ (k : Nat) (l : List Int), k <= dg Wp ∧ l.length = 2 * n ∧ (∀ x, cf l x = if x < k then cf Wp.l x else 0) ∧ m = dg Wp - k ∧ e = [(0, .v (.int .i64 p)), (1, .v (.ints g f.l)), (5, .v (.int .i64 n)), (6, .ownV 22 1 ba i λj => .rf (bl j) (2 * n)), (7, .v (.int .i64 i)), (8, .ownI 2 b_8 l), (9, .v (.ints none Wp.l)), (10, .v (.int .i64 k)), (vt, .tab tb)]) _ _ ⟨0, List.replicate (2 * n) 0, Nat.zero_le _, by simp, λx => by rw [if_neg (by omega), zD], rfl, rfl⟩ (by dsimp only; omega) (by repeat' first | refine And.intro ?_ ?_ | exact trivial | rfl | omega | assumption | exact .inl rfl | exact λ_ _ => rfl | exact λ_ _ h => h) ?_));clear hK;rintro m2 e ⟨k, l, hk, hll, hlc, hm2, rfl⟩;refine W.seqK λK7 hK7 => ?_;refine W.rs (zo _) (by rfl) λK hK => ?_;conv=>whnf
   rw [hWl];refine hK _ (W.cond ⟨λh3 => ?_, λh3 => ?_⟩) <;> clear hK
   · have h3 : k < dg Wp := by have := of_decide_eq_true h3; omega
     refine W.skip (hK7 _ ?_);clear hK7;refine W.seqK λK9 hK9 => W.block ?_;refine W.region (zo _) (by rfl) ?_;conv=>whnf
     refine ⟨oo, ?_⟩;conv=>whnf
     rw [Int.toNat_natCast];refine ⟨oo, ?_⟩;conv=>whnf
     refine hK9 _ ?_;clear hK9;refine W.region (zo _) (by rfl) ?_;conv=>whnf
     refine ⟨oo, ?_⟩;conv=>whnf
     have h4 : ∀ x, cf (l.set k (Wp.l.getD k 0)) x = if x < k + 1 then cf Wp.l x else 0 := λx => by
       rw [z6 (by omega)]
       by_cases c1 : x = k
       · subst c1; rw [if_pos rfl, if_pos (by omega)]; rfl
       · rw [if_neg c1, hlc]
         by_cases c2 : x < k
         · rw [if_pos c2, if_pos (by omega)]
         · rw [if_neg c2, if_neg (by omega)]
     exact zk ⟨k + 1, l.set k (Wp.l.getD k 0), by omega, by simpa using hll, h4, rfl, rfl⟩
   · have h3 : k = dg Wp := by have := of_decide_eq_false h3; omega
     subst h3;refine W.exit (hK2 _ ?_);clear hK7 hK2
     have hlw : ∀ x, cf l x = cf Wp.l x := λx => by
       rw [hlc]; split
       · rfl
       · rw [z5 (by omega)]
     have hrc := jP Wp i;have e1 : l.getD i 0 = cf Wp.l i := hlw i;refine W.rs (zo _) (by rfl) λK hK => ?_;conv=>whnf
     refine ⟨oo, ?_⟩;conv=>whnf
     rw [Int.toNat_natCast, e1];refine ⟨oo, ?_⟩;conv=>whnf
     refine zb rfl (vH _ p (by omega) (by omega) (by omega)) λhs' hhs => ?_;try dsimp only at hhs
     conv=>whnf
     refine ⟨oo, ?_⟩;conv=>whnf
     refine hK _ ?_;clear hK;refine W.rs (zo _) (by rfl) λK hK => ?_;conv=>whnf
     refine ⟨oo, ?_⟩;conv=>whnf
     have e2 : (n : Int) + (i : Int) = ((n + i : Nat) : Int) := by omega
     rw [e2];refine ⟨⟨by omega, by simp; omega⟩, ?_⟩;conv=>whnf
     refine hK _ ?_;clear hK
     have hl2c : ∀ x, x < 2 * n -> cf ((l.set i ((cf Wp.l i - 1) % p)).set (n + i) 1) x = zax f n i x := λx hx => by
       rw [z6 (by simp; omega), z6 (by omega)];unfold zax;have hke : ∀ a, cf (zaP f i).l a = (cf Wp.l a - if a = i then 1 else 0) % p := λa => by have := zhp f a i; rw [hW] at this; exact this
       by_cases c1 : x < n
       · rw [if_pos c1, if_neg (by omega), hke]
         by_cases c2 : x = i
         · subst c2; rw [if_pos rfl, if_pos rfl]
         · rw [if_neg c2, if_neg c2, Int.sub_zero, xz, hlw]
       · rw [if_neg c1]
         by_cases c2 : x = n + i
         · rw [if_pos c2, if_pos c2]
         · rw [if_neg c2, if_neg c2, if_neg (by omega), hlw, z5 (by omega)]
     have hl2l : ((l.set i ((cf Wp.l i - 1) % p)).set (n + i) 1).length = 2 * n := by simpa using hll
     refine W.region (zo _) (by rfl) ?_;conv=>whnf
     rw [Int.toNat_natCast, Int.toNat_natCast];generalize (l.set i ((cf Wp.l i - 1) % p)).set (n + i) 1 = l2 at hl2c hl2l;refine ⟨by omega, ?_⟩;conv=>whnf
     rw [hl2l];refine ⟨⟨rfl, by decide, λx hx => by simp at hx; subst hx; exact ⟨rfl, rfl⟩⟩, ?_⟩;conv=>whnf
     intro b_9 hs_9 hh_9 hf_9;try dsimp only at hh_9 hf_9
     conv=>whnf
     refine ⟨by omega, ?_⟩;conv=>whnf
     refine ⟨λj => .rf (if j < i then bl j else b_8) (2 * n), λj hj => by show V.rf (if j < i then bl j else b_8) (2 * n) = V.rf (bl j) (2 * n); rw [if_pos hj], λj hj => ?_, ?_⟩
     · obtain rfl : j = 0 := by omega
       show V.rf (if i + 0 < i then bl (i + 0) else b_8) (2 * n) = _
       rw [if_neg (by omega)]; rfl
     intro b_10 hs_10 hh_10 hf_10;try dsimp only at hh_10 hf_10
     conv=>whnf
     refine hK8 _ ?_;clear hK8;refine W.region (zo _) (by rfl) ?_;conv=>whnf
     refine ⟨oo, ?_⟩;conv=>whnf
     have hM' : MatR (yJ tb b_8 l2) (λj => if j < i then bl j else b_8) (i + 1) (2 * n) (zax f n) := by
       refine ⟨λj k hj hk he => ?_, λj hj => ?_⟩
       · have he' : (if j < i then bl j else b_8) = (if k < i then bl k else b_8) := he
         split at he' <;> split at he'
         · exact hM.inj j k (by assumption) (by assumption) he'
         · have := hlt j (by assumption); omega
         · have := hlt k (by assumption); omega
         · omega
       · show ∃ l, yJ tb b_8 l2 (if j < i then bl j else b_8) = some l ∧ _
         by_cases c1 : j < i
         · have := hlt j c1
           rw [if_pos c1, xA _ _ (by omega)]; exact hM.row j c1
         · obtain rfl : j = i := by omega
           rw [if_neg c1];exact ⟨l2, y8 _ _ _, hl2l, hl2c⟩
     refine ⟨_, _, ⟨i + 1, hs_8, b_10, λj => if j < i then bl j else b_8, yJ tb b_8 l2, by omega, by omega, λj hj => ?_, hM', rfl, rfl⟩, by omega, by dsimp only; omega, ?_⟩
     · show (if j < i then bl j else b_8) < hs_8
       split
       · have := hlt j (by assumption); omega
       · omega
     repeat' first | refine And.intro ?_ ?_ | exact trivial | rfl | omega | exact λ_ _ => rfl | exact λ_ _ h => h
 · obtain rfl : n = i := by have := of_decide_eq_false h2; omega
   refine W.exit (hK1 _ ?_);clear hK7 hK1;refine W.weak (t := ⟨[(0, .v (.int .i64 p)), (1, .v (.ints g f.l)), (5, .v (.int .i64 n)), (6, .ownV 22 1 ba n λj => .rf (bl j) (2 * n)), (vt, .tab tb)], base⟩) ⟨by dsimp only; omega, ?_⟩ (Nat.le_refl _) ?_
   · repeat' first | refine And.intro ?_ ?_ | exact trivial | rfl | omega | assumption | exact λ_ _ => rfl | exact λ_ _ h => h
   clear hlt hhs hs
   have hS0 : ∀ i x, i < n -> x < 2 * n -> 0 <= zax f n i x ∧ zax f n i x < p := λi x _ _ => by
     unfold zax;have := jP (zaP f i) x
     split
     · exact this
     · split <;> omega
   have hH0 : Half p n (zax f n) 0 (λk => (λ_ => false : Nat -> Bool) k = true) (zax f n) (λi j => zax f n i (n + j)) := by
     have := Half.start p n (zax f n) (λi j => zax f n i (n + j)) (λi hi j hj => by
       show zax f n i (n + j) = _
       unfold zax;rw [if_neg (by omega)]
       by_cases c1 : i = j
       · rw [if_pos (by omega), if_pos c1]
       · rw [if_neg (by omega), if_neg c1])
     exact this.used λk => ⟨λh => h.elim, λh => by cases h⟩
   refine W.rs (zo _) (by rfl) λK hK => ?_;conv=>whnf
   refine ⟨rfl, ?_⟩;conv=>whnf
   refine ⟨oo, ?_⟩;conv=>whnf
   rw [Int.toNat_natCast];intro b_11 hs_11 hh_11 hf_11;try dsimp only at hh_11 hf_11
   conv=>whnf
   refine hK _ ?_;clear hK;refine W.seqK λK1 hK1 => ?_;refine W.rs (zo _) (by rfl) λK hK => ?_;conv=>whnf
   refine hK _ (W.block (W.invE (λm e => ∃ (c bu : Nat) (tb : Nat -> Option (List Int)) (R : Nat -> Nat -> Int) (U : Nat -> Bool), c <= n ∧ MatR tb bl n (2 * n) R ∧ (∀ i x, i < n -> x < 2 * n -> 0 <= R i x ∧ R i x < p) ∧ Half p n (zax f n) c (λk => U k = true) R (λi j => R i (n + j)) ∧ m = n - c ∧ e = [(0, .v (.int .i64 p)), (1, .v (.ints g f.l)), (5, .v (.int .i64 n)), (6, .ownV 22 1 ba n λj => .rf (bl j) (2 * n)), (11, .ownV 4 1 bu n λj => vU (U j)), (12, .v (.int .i64 c)), (vt, .tab tb)]) _ _ ⟨0, b_11, tb, zax f n, λ_ => false, Nat.zero_le _, hM, hS0, hH0, rfl, rfl⟩ (by dsimp only; omega) (by repeat' first | refine And.intro ?_ ?_ | exact trivial | rfl | omega | assumption | exact .inl rfl | exact λ_ _ => rfl | exact λ_ _ h => h) ?_));clear hK hM hH0 tb;rintro m e ⟨c, bu, tb, R, U, hc, hM, hR, hH, hm, rfl⟩;refine W.seqK λK7 hK7 => ?_;refine W.rs (zo _) (by rfl) λK hK => ?_;conv=>whnf
   refine hK _ (W.cond ⟨λh2 => ?_, λh2 => ?_⟩) <;> clear hK
   · have h2 : c < n := by have := of_decide_eq_true h2; omega
     refine W.skip (hK7 _ ?_);clear hK7;refine W.seqK λK8 hK8 => W.block ?_;refine W.rs (zo _) (by rfl) λK hK => ?_;conv=>whnf
     refine hK _ ?_;clear hK;refine W.seqK λK3 hK3 => ?_;refine W.rs (zo _) (by rfl) λK hK => ?_;conv=>whnf
     refine hK _ (W.block (W.invE (λm e => ∃ (i : Nat), i <= n ∧ (∀ j, j < i -> U j = true ∨ R j c = 0) ∧ m = n - i ∧ e = [(0, .v (.int .i64 p)), (1, .v (.ints g f.l)), (5, .v (.int .i64 n)), (6, .ownV 22 1 ba n λj => .rf (bl j) (2 * n)), (11, .ownV 4 1 bu n λj => vU (U j)), (12, .v (.int .i64 c)), (13, .v (.int .i64 (-1))), (14, .v (.int .i64 i)), (vt, .tab tb)]) _ _ ⟨0, Nat.zero_le _, λj hj => by omega, rfl, rfl⟩ (by dsimp only; omega) (by repeat' first | refine And.intro ?_ ?_ | exact trivial | rfl | omega | assumption | exact .inl rfl | exact λ_ _ => rfl | exact λ_ _ h => h) ?_));clear hK;rintro m2 e ⟨i, hi, hno, hm2, rfl⟩
     -- what the search tells
     have fin : ∀ (t : Int) (s : S), ((t = -1 ∧ ∀ j, j < n -> U j = true ∨ R j c = 0) ∨ ∃ a : Nat, t = a ∧ a < n ∧ U a = false ∧ R a c ≠ 0) -> base <= s.hs -> zB s.env [(0, .v (.int .i64 p)), (1, .v (.ints g f.l)), (5, .v (.int .i64 n)), (6, .ownV 22 1 ba n λj => .rf (bl j) (2 * n)), (11, .ownV 4 1 bu n λj => vU (U j)), (12, .v (.int .i64 c)), (13, .v (.int .i64 t)), (vt, .tab tb)] -> K3 s := by
       intro t s ht h5 h6;refine hK3 _ (W.weak (t := ⟨[(0, .v (.int .i64 p)), (1, .v (.ints g f.l)), (5, .v (.int .i64 n)), (6, .ownV 22 1 ba n λj => .rf (bl j) (2 * n)), (11, .ownV 4 1 bu n λj => vU (U j)), (12, .v (.int .i64 c)), (13, .v (.int .i64 t)), (vt, .tab tb)], base⟩) ⟨h5, h6⟩ (Nat.le_refl _) ?_);clear hK3 h5 h6 s hno;refine W.seqK λK4 hK4 => ?_;refine W.rs (zo _) (by rfl) λK hK => ?_;conv=>whnf
       rcases ht with ⟨rfl, hz⟩ | ⟨a, rfl, ha, hUa, hne⟩
       · refine hK _ (W.cond ⟨λ_ => W.exit (hK8 _ ?_), λh => absurd h (by decide)⟩)
         clear hK hK4 hK8;refine W.region (zo _) (by rfl) ?_;conv=>whnf
         refine ⟨oo, ?_⟩;conv=>whnf
         exact zk ⟨c + 1, bu, tb, R, U, by omega, hM, hR, hH.skip (λk hk hu => by rw [(hz k hk).resolve_left hu]; simp), rfl, rfl⟩
       · refine hK _ (W.cond ⟨λh => absurd (of_decide_eq_true h) (by omega), λ_ => W.skip (hK4 _ ?_)⟩)
         clear hK hK4;obtain ⟨la, hla1, hla2, hla3⟩ := hM.row a ha;have e1 : la.getD c 0 = R a c := hla3 c (by omega);have hrc := hR a c ha (by omega);have hmod : R a c % p ≠ 0 := by rw [Int.emod_eq_of_lt hrc.1 hrc.2]; exact hne
         obtain ⟨hi1, hi2, hi3⟩ := xr hmod;refine W.rs (zo _) (by rfl) λK hK => ?_;conv=>whnf
         refine ⟨oo, ?_⟩;conv=>whnf
         rw [Int.toNat_natCast];refine ⟨⟨by show 0 + 1 <= 1; omega, rfl⟩, λj => vU (if j = a then true else U j), by show vU (if a = a then true else U a) = yg (vU (U a)) 0 V.tr; rw [if_pos rfl, hUa]; rfl, λj _ hj => by show vU (if j = a then true else U j) = vU (U j); rw [if_neg hj], ?_⟩;conv=>whnf
         refine hK _ ?_;clear hK;refine W.rs (zo _) (by rfl) λK hK => ?_;conv=>whnf
         refine ⟨oo, ?_⟩;conv=>whnf
         rw [Int.toNat_natCast];refine ⟨oo, ?_⟩;conv=>whnf
         rw [Int.toNat_natCast];refine ⟨la, hla1, by omega, ?_⟩;conv=>whnf
         rw [e1];refine zb rfl (ku p (R a c) hrc hmod) λhs' hhs => ?_;try dsimp only at hhs
         conv=>whnf
         generalize hiv : yA p (R a c) = iv at hi1 hi2 hi3;refine hK _ ?_;clear hK;clear hla1 hla2 hla3 e1 la
         -- how often the row at a is taken from a row
         have hqf : ∃ qf : Nat -> Int, qf a = 0 ∧ (∀ i, i ≠ a -> qf i = R i c * iv % p) := ⟨λi => if i = a then 0 else R i c * iv % p, if_pos rfl, λi hi => if_neg hi⟩
         obtain ⟨qf, hq0, hq1⟩ := hqf
         have hqb : ∀ i, 0 <= qf i ∧ qf i < p := λi => by
           by_cases c1 : i = a
           · rw [c1, hq0]; omega
           · rw [hq1 i c1]; exact ⟨Int.emod_nonneg _ (by omega), Int.emod_lt_of_pos _ (by omega)⟩
         have hpiv := hH.pivot (L' := λk x => if k = a then R k x else (R k x - qf k * R a x) % p) (T' := λk x => if k = a then R k (n + x) else (R k (n + x) - qf k * R a (n + x)) % p) (q := qf) h2 ha (by rw [hUa]; decide) hmod hq0 (λi hi hia => by
             rw [hq1 i hia, Int.mul_comm, Int.mul_emod, Int.emod_emod_of_dvd _ (Int.dvd_refl p), <- Int.mul_emod];have : R a c * (R i c * iv) = R i c * (R a c * iv) := by rw [Int.mul_left_comm]
             rw [this, Int.mul_emod, hi3, Int.mul_one, Int.emod_emod_of_dvd _ (Int.dvd_refl p)])
           (λi hi x hx => by
             show (if i = a then R i x else (R i x - qf i * R a x) % p) % p = _
             split
             · rename_i c1; rw [c1, hq0]; simp
             · exact Int.emod_emod_of_dvd _ (Int.dvd_refl p))
           (λi hi x hx => by
             show (if i = a then R i (n + x) else (R i (n + x) - qf i * R a (n + x)) % p) % p = _
             split
             · rename_i c1; rw [c1, hq0]; simp
             · exact Int.emod_emod_of_dvd _ (Int.dvd_refl p))
         refine W.rs (zo _) (by rfl) λK hK => ?_;conv=>whnf
         refine hK _ (W.block (W.invE (λm e => ∃ (i : Nat) (tb : Nat -> Option (List Int)), i <= n ∧ MatR tb bl n (2 * n) (vu p R qf a i) ∧ m = n - i ∧ e = [(0, .v (.int .i64 p)), (1, .v (.ints g f.l)), (5, .v (.int .i64 n)), (6, .ownV 22 1 ba n λj => .rf (bl j) (2 * n)), (11, .ownV 4 1 bu n λj => vU (if j = a then true else U j)), (12, .v (.int .i64 c)), (13, .v (.int .i64 a)), (15, .v (.int .i64 iv)), (16, .v (.int .i64 i)), (vt, .tab tb)]) _ _ ⟨0, tb, Nat.zero_le _, hM.congr λk x _ _ => by unfold vu; rw [if_neg (by omega)], rfl, rfl⟩ (by dsimp only; omega) (by repeat' first | refine And.intro ?_ ?_ | exact trivial | rfl | omega | assumption | exact .inl rfl | exact λ_ _ => rfl | exact λ_ _ h => h) ?_));clear hK hM tb;rintro m e ⟨i, tb, hi, hM, hm, rfl⟩;refine W.seqK λK7 hK7 => ?_;refine W.rs (zo _) (by rfl) λK hK => ?_;conv=>whnf
         refine hK _ (W.cond ⟨λh3 => ?_, λh3 => ?_⟩) <;> clear hK
         · have h3 : i < n := by have := of_decide_eq_true h3; omega
           refine W.skip (hK7 _ ?_);clear hK7;refine W.seqK λK9 hK9 => W.block ?_
           have fin9 : ∀ (tb' : Nat -> Option (List Int)) (s : S), MatR tb' bl n (2 * n) (vu p R qf a (i + 1)) -> base <= s.hs -> zB s.env [(0, .v (.int .i64 p)), (1, .v (.ints g f.l)), (5, .v (.int .i64 n)), (6, .ownV 22 1 ba n λj => .rf (bl j) (2 * n)), (11, .ownV 4 1 bu n λj => vU (if j = a then true else U j)), (12, .v (.int .i64 c)), (13, .v (.int .i64 a)), (15, .v (.int .i64 iv)), (16, .v (.int .i64 i)), (vt, .tab tb')] -> K9 s := by
             intro tb' s h4 h6 h7;refine hK9 _ (W.weak (t := ⟨[(0, .v (.int .i64 p)), (1, .v (.ints g f.l)), (5, .v (.int .i64 n)), (6, .ownV 22 1 ba n λj => .rf (bl j) (2 * n)), (11, .ownV 4 1 bu n λj => vU (if j = a then true else U j)), (12, .v (.int .i64 c)), (13, .v (.int .i64 a)), (15, .v (.int .i64 iv)), (16, .v (.int .i64 i)), (vt, .tab tb')], base⟩) ⟨h6, h7⟩ (Nat.le_refl _) ?_);clear hK9 h6 h7;refine W.region (zo _) (by rfl) ?_;conv=>whnf
             refine ⟨oo, ?_⟩;conv=>whnf
             exact zk ⟨i + 1, tb', by omega, h4, rfl, rfl⟩
           clear hK9;obtain ⟨la, hla1, hla2, hla3⟩ := hM.row i h3;have e1 : la.getD c 0 = R i c := by have := hla3 c (by omega); unfold vu at this; rw [if_neg (by omega)] at this; exact this
           have hrci := hR i c h3 (by omega);refine W.seqK λK4 hK4 => ?_;refine W.rs (zo _) (by rfl) λK hK => ?_;conv=>whnf
           refine ⟨λh4 => ?_, λh4 => ?_⟩ <;> conv=>whnf
           · have h4 : i = a := by have := of_decide_eq_true h4; omega
             refine hK _ (W.condT rfl (W.exit (fin9 tb _ (hM.congr λk x hk hx => ?_) (by dsimp only; omega) ?_)))
             · unfold vu
               by_cases c1 : k < i ∧ k ≠ a
               · rw [if_pos c1, if_pos (by omega)]
               · rw [if_neg c1, if_neg (by omega)]
             · clear hK hK4 fin9
               repeat' first | refine And.intro ?_ ?_ | exact trivial | rfl | omega | assumption | exact .inl rfl | exact λ_ _ => rfl | exact λ_ _ h => h
           · have h4 : i ≠ a := by have := of_decide_eq_false h4; omega
             refine ⟨oo, ?_⟩;conv=>whnf
             rw [Int.toNat_natCast];refine ⟨oo, ?_⟩;conv=>whnf
             rw [Int.toNat_natCast];refine ⟨la, hla1, by omega, ?_⟩;conv=>whnf
             rw [e1];refine hK _ (W.cond ⟨λh5 => ?_, λh5 => ?_⟩) <;> clear hK
             · have h5 : R i c = 0 := of_decide_eq_true h5
               refine W.exit (fin9 tb _ (hM.congr λk x hk hx => ?_) (by dsimp only; omega) ?_)
               · unfold vu
                 by_cases c1 : k < i ∧ k ≠ a
                 · rw [if_pos c1, if_pos (by omega)]
                 · rw [if_neg c1]
                   by_cases c2 : k = i
                   · subst c2
                     have := hR k x hk hx;rw [if_pos (by omega), hq1 k h4, h5, Int.zero_mul, Int.zero_emod, Int.zero_mul, Int.sub_zero, Int.emod_eq_of_lt this.1 this.2]
                   · rw [if_neg (by omega)]
               · clear hK4 fin9
                 repeat' first | refine And.intro ?_ ?_ | exact trivial | rfl | omega | assumption | exact .inl rfl | exact λ_ _ => rfl | exact λ_ _ h => h
             · have h5 : ¬ R i c = 0 := of_decide_eq_false h5
               have hml : 0 <= R i c * iv ∧ R i c * iv <= 97 * 97 := ⟨Int.mul_nonneg hrci.1 hi1, Int.mul_le_mul (by omega) (by omega) hi1 (by omega)⟩
               refine W.skip (hK4 _ ?_);clear hK4;refine W.rs (zo _) (by rfl) λK hK => ?_;conv=>whnf
               refine ⟨oo, ?_⟩;conv=>whnf
               rw [Int.toNat_natCast];refine ⟨oo, ?_⟩;conv=>whnf
               rw [Int.toNat_natCast];refine ⟨la, hla1, by omega, ?_⟩;conv=>whnf
               rw [e1];refine ⟨oo, ?_⟩;conv=>whnf
               refine ⟨by omega, ?_⟩;conv=>whnf
               rw [Int.tmod_eq_emod_of_nonneg hml.1, <- hq1 i h4];have hqi := hqb i;refine hK _ ?_;clear hK;refine W.rs (zo _) (by rfl) λK hK => ?_;conv=>whnf
               refine hK _ (W.block (W.invE (λm e => ∃ (j : Nat) (tb2 : Nat -> Option (List Int)), j <= 2 * n ∧ MatR tb2 bl n (2 * n) (λk x => if k = i ∧ x < j then (R i x - qf i * R a x) % p else vu p R qf a i k x) ∧ m = 2 * n - j ∧ e = [(0, .v (.int .i64 p)), (1, .v (.ints g f.l)), (5, .v (.int .i64 n)), (6, .ownV 22 1 ba n λj => .rf (bl j) (2 * n)), (11, .ownV 4 1 bu n λj => vU (if j = a then true else U j)), (12, .v (.int .i64 c)), (13, .v (.int .i64 a)), (15, .v (.int .i64 iv)), (16, .v (.int .i64 i)), (17, .v (.int .i64 (qf i))), (18, .v (.int .i64 j)), (vt, .tab tb2)]) _ _ ⟨0, tb, Nat.zero_le _, hM.congr λk x _ _ => by show _ = if k = i ∧ x < 0 then _ else _; rw [if_neg (by omega)], rfl, rfl⟩ (by dsimp only; omega) (by repeat' first | refine And.intro ?_ ?_ | exact trivial | rfl | omega | assumption | exact .inl rfl | exact λ_ _ => rfl | exact λ_ _ h => h) ?_));clear hK hM hla1 hla2 hla3 e1 la tb;rintro m e ⟨j, tb, hj, hM, hm, rfl⟩;refine W.seqK λK7 hK7 => ?_;refine W.rs (zo _) (by rfl) λK hK => ?_;conv=>whnf
               refine ⟨oo, ?_⟩;conv=>whnf
               refine hK _ (W.cond ⟨λh6 => ?_, λh6 => ?_⟩) <;> clear hK
               · have h6 : j < 2 * n := by have := of_decide_eq_true h6; omega
                 clear fin9;obtain ⟨la, hla1, hla2, hla3⟩ := hM.row i h3;obtain ⟨lb, hlb1, hlb2, hlb3⟩ := hM.row a ha
                 have e1 : la.getD j 0 = R i j := by
                   have := hla3 j h6;have this : cf la j = if i = i ∧ j < j then (R i j - qf i * R a j) % p else vu p R qf a i i j := this
                   unfold vu at this;rw [if_neg (by omega), if_neg (by omega)] at this; exact this
                 have e2 : lb.getD j 0 = R a j := by
                   have := hlb3 j h6;have this : cf lb j = if a = i ∧ j < j then (R i j - qf i * R a j) % p else vu p R qf a i a j := this
                   unfold vu at this;rw [if_neg (by omega), if_neg (by omega)] at this; exact this
                 have hr1 := hR i j h3 h6;have hr2 := hR a j ha h6;have hmq : 0 <= qf i * R a j ∧ qf i * R a j <= 97 * 97 := ⟨Int.mul_nonneg hqi.1 hr2.1, Int.mul_le_mul (by omega) (by omega) hr2.1 (by omega)⟩
                 refine W.skip (hK7 _ ?_);clear hK7;refine W.seqK λK9 hK9 => W.block ?_;refine W.draw (zo _) follows (by rfl) ?_;conv=>whnf
                 refine ⟨oo, ?_⟩;conv=>whnf
                 refine ⟨oo, ?_⟩;conv=>whnf
                 refine ⟨oo, ?_⟩;conv=>whnf
                 rw [Int.toNat_natCast, Int.toNat_natCast];refine ⟨la, hla1, by omega, ?_⟩;conv=>whnf
                 refine ⟨oo, ?_⟩;conv=>whnf
                 refine ⟨oo, ?_⟩;conv=>whnf
                 rw [Int.toNat_natCast];refine ⟨lb, hlb1, by omega, ?_⟩;conv=>whnf
                 rw [Int.toNat_natCast, e1, e2];refine ⟨oo, ?_⟩;conv=>whnf
                 refine ⟨oo, ?_⟩;conv=>whnf
                 refine ⟨_, cxmF (vH _ p (by omega) (by omega) (by omega)), ?_⟩;conv=>whnf
                 refine ⟨oo, ?_⟩;conv=>whnf
                 refine ⟨la, hla1, by omega, ?_⟩;conv=>whnf
                 refine hK9 _ ?_;clear hK9;refine W.region (zo _) (by rfl) ?_;conv=>whnf
                 refine ⟨oo, ?_⟩;conv=>whnf
                 have h7 := (hM.store h3 h6 hla1 ((R i j - qf i * R a j) % p)).congr (R' := λk x => if k = i ∧ x < j + 1 then (R i x - qf i * R a x) % p else vu p R qf a i k x) λk x hk hx => by
                   show (if k = i ∧ x = j then (R i j - qf i * R a j) % p else if k = i ∧ x < j then (R i x - qf i * R a x) % p else vu p R qf a i k x) = _
                   by_cases c1 : k = i
                   · by_cases c2 : x = j
                     · subst c2; rw [if_pos ⟨c1, rfl⟩, if_pos ⟨c1, by omega⟩]
                     · by_cases c3 : x < j
                       · rw [if_neg (by omega), if_pos ⟨c1, c3⟩, if_pos ⟨c1, by omega⟩]
                       · rw [if_neg (by omega), if_neg (by omega), if_neg (by omega)]
                   · rw [if_neg (by omega), if_neg (by omega), if_neg (by omega)]
                 exact zk ⟨j + 1, _, by omega, h7, rfl, rfl⟩
               · have h6 : j = 2 * n := by have := of_decide_eq_false h6; omega
                 subst h6;refine W.exit (fin9 tb _ (hM.congr λk x hk hx => ?_) (by dsimp only; omega) ?_)
                 · show (if k = i ∧ x < 2 * n then (R i x - qf i * R a x) % p else vu p R qf a i k x) = _
                   by_cases c1 : k = i
                   · rw [if_pos ⟨c1, hx⟩]
                     unfold vu;rw [if_pos (by omega), c1]
                   · rw [if_neg (by omega)]
                     unfold vu
                     by_cases c2 : k < i ∧ k ≠ a
                     · rw [if_pos c2, if_pos (by omega)]
                     · rw [if_neg c2, if_neg (by omega)]
                 · clear fin9 hK7
                   repeat' first | refine And.intro ?_ ?_ | exact trivial | rfl | omega | assumption | exact .inl rfl | exact λ_ _ => rfl | exact λ_ _ h => h
         · obtain rfl : n = i := by have := of_decide_eq_false h3; omega
           have hM2 := hM.congr (R' := λk x => if k = a then R k x else (R k x - qf k * R a x) % p) λk x hk hx => by
             show vu p R qf a n k x = if k = a then R k x else (R k x - qf k * R a x) % p
             unfold vu
             by_cases c1 : k = a
             · rw [if_neg (by omega), if_pos c1]
             · rw [if_pos ⟨hk, c1⟩, if_neg c1]
           have hR2 : ∀ i x, i < n -> x < 2 * n -> 0 <= (if i = a then R i x else (R i x - qf i * R a x) % p) ∧ (if i = a then R i x else (R i x - qf i * R a x) % p) < p := λi x hi hx => by
             by_cases c1 : i = a
             · rw [if_pos c1]; exact hR i x hi hx
             · rw [if_neg c1]; exact ⟨Int.emod_nonneg _ (by omega), Int.emod_lt_of_pos _ (by omega)⟩
           have hH2 := hpiv.used (u' := λk => (if k = a then true else U k) = true) λk => by
             by_cases c1 : k = a
             · simp [c1]
             · simp [c1]
           refine W.exit (hK8 _ ?_);clear hK7 hK8;refine W.region (zo _) (by rfl) ?_;conv=>whnf
           refine ⟨oo, ?_⟩;conv=>whnf
           exact zk ⟨c + 1, bu, tb, _, λj => if j = a then true else U j, by omega, hM2, hR2, hH2, rfl, rfl⟩
     clear hK3;refine W.seqK λK7 hK7 => ?_;refine W.rs (zo _) (by rfl) λK hK => ?_;conv=>whnf
     refine hK _ (W.cond ⟨λh3 => ?_, λh3 => ?_⟩) <;> clear hK
     · have h3 : i < n := by have := of_decide_eq_true h3; omega
       obtain ⟨la, hla1, hla2, hla3⟩ := hM.row i h3;refine W.skip (hK7 _ ?_);clear hK7;refine W.seqK λK9 hK9 => W.block ?_
       -- the round's end
       have fin9 : (U i = true ∨ R i c = 0) -> ∀ s : S, base <= s.hs -> zB s.env [(0, .v (.int .i64 p)), (1, .v (.ints g f.l)), (5, .v (.int .i64 n)), (6, .ownV 22 1 ba n λj => .rf (bl j) (2 * n)), (11, .ownV 4 1 bu n λj => vU (U j)), (12, .v (.int .i64 c)), (13, .v (.int .i64 (-1))), (14, .v (.int .i64 i)), (vt, .tab tb)] -> K9 s := by
         intro h5 s h6 h7;refine hK9 _ (W.weak (t := ⟨[(0, .v (.int .i64 p)), (1, .v (.ints g f.l)), (5, .v (.int .i64 n)), (6, .ownV 22 1 ba n λj => .rf (bl j) (2 * n)), (11, .ownV 4 1 bu n λj => vU (U j)), (12, .v (.int .i64 c)), (13, .v (.int .i64 (-1))), (14, .v (.int .i64 i)), (vt, .tab tb)], base⟩) ⟨h6, h7⟩ (Nat.le_refl _) ?_);clear hK9 h6 h7;refine W.region (zo _) (by rfl) ?_;conv=>whnf
         refine ⟨oo, ?_⟩;conv=>whnf
         have h8 : ∀ j, j < i + 1 -> U j = true ∨ R j c = 0 := λj hj => by
           by_cases hji : j = i
           · subst hji; exact h5
           · exact hno j (by omega)
         exact zk ⟨i + 1, by omega, h8, rfl, rfl⟩
       clear hK9;refine W.rs (zo _) (by rfl) λK hK => ?_;conv=>whnf
       refine ⟨oo, ?_⟩;conv=>whnf
       have eU : (λj => vU (U j)) (i : Int).toNat = vU (U i) := by rw [Int.toNat_natCast]
       rw [eU];cases hU : U i
       · conv=>whnf
         refine ⟨λ_ => ?_, λh => absurd h (by decide)⟩;conv=>whnf
         refine ⟨oo, ?_⟩;conv=>whnf
         rw [Int.toNat_natCast];refine ⟨oo, ?_⟩;conv=>whnf
         rw [Int.toNat_natCast];refine ⟨la, hla1, by omega, ?_⟩;conv=>whnf
         have e1 : la.getD c 0 = R i c := hla3 c (by omega);rw [e1];refine hK _ (W.cond ⟨λh4 => ?_, λh4 => ?_⟩) <;> clear hK
         · have h4 : R i c ≠ 0 := of_decide_eq_true h4
           clear fin9;refine W.rs (zo _) (by rfl) λK hK => ?_;conv=>whnf
           refine hK _ ?_;clear hK;refine W.exit (fin i _ (.inr ⟨i, rfl, h3, hU, h4⟩) (by dsimp only; omega) ?_);clear fin;exact cvr
         · have h4 : ¬ R i c ≠ 0 := of_decide_eq_false h4
           refine W.skip (fin9 (.inr (by omega)) _ (by dsimp only; omega) ?_);clear fin9 fin;exact cvr
       · conv=>whnf
         refine hK _ (W.condF rfl (W.skip (fin9 (.inl hU) _ (by dsimp only; omega) ?_)));clear hK fin9 fin;exact cvr
     · obtain rfl : n = i := by have := of_decide_eq_false h3; omega
       refine W.exit (fin (-1) _ (.inl ⟨rfl, hno⟩) (by dsimp only; omega) ?_);clear fin hK7;exact cvr
   · obtain rfl : n = c := by have := of_decide_eq_false h2; omega
     refine W.exit (hK1 _ ?_);clear hK7 hK1
     have hrows : ∃ rows : Nat -> List Int, ∀ j, j < n -> tb (bl j) = some (rows j) ∧ (rows j).length = 2 * n ∧ ∀ x, x < 2 * n -> cf (rows j) x = R j x := ⟨λj => (tb (bl j)).getD [], λj hj => by
       obtain ⟨l, h3, h4, h5⟩ := hM.row j hj;exact ⟨by simp only [h3, Option.getD_some], by show ((tb (bl j)).getD []).length = _; rw [h3]; exact h4, by show ∀ x, x < 2 * n -> cf ((tb (bl j)).getD []) x = _; rw [h3]; exact h5⟩⟩
     obtain ⟨rows, hrows⟩ := hrows;refine W.thaw (i := 6) bl rows rfl rfl (λj hj => ⟨by rw [(hrows j hj).2.1], (hrows j hj).1⟩) ?_;refine W.weak (t := ⟨[(0, .v (.int .i64 p)), (1, .v (.ints g f.l)), (5, .v (.int .i64 n)), (6, .ownV 22 1 ba n λj => .ints none (rows j)), (11, .ownV 4 1 bu n λj => vU (U j)), (vt, .tab λ_ => none)], base⟩) ⟨by dsimp only; omega, by repeat' first | refine And.intro ?_ ?_ | exact trivial | rfl | omega | assumption | exact λ_ _ => rfl | exact λ_ _ h => h⟩ (Nat.le_refl _) ?_
     have hvk : ∀ k, k < n -> zu ((rows k).drop n) = (of p (mkL n λj => R k (n + j))).l := λk hk => by
       refine yw (xg _) (of p _).ok.2 λj => ?_;rw [yC, zpy, zM, y0]
       by_cases c1 : j < n
       · have := hR k (n + j) hk (by omega)
         rw [if_pos c1, (hrows k hk).2.2 _ (by omega), Int.emod_eq_of_lt this.1 this.2]
       · rw [if_neg c1, zT (by have := (hrows k hk).2.1; omega)]; simp
     have hvd : ∀ k, dg (of p (mkL n λj => R k (n + j))) <= n := λk => by have := jJ (p := p) (mkL n λj => R k (n + j)); rw [zH] at this; exact this
     have hsm : ∀ (w : Nat -> Int) x, x < n -> zI (λj => w j * zax f n j x) n = zI (λj => cf (zaP f j).l x * w j) n := λw x hx => xO λj _ => by
       unfold zax;rw [if_pos hx, Int.mul_comm]
     have hvb : ∀ k, k < n -> U k = false -> Ber f (of p (mkL n λj => R k (n + j))) := λk hk hu => by
       rw [zhm hf (hvd k)];intro x hx;rw [<- hsm _ x hx];have h3 := hH.free hk (by rw [hu]; decide) x hx;rw [<- h3];refine y2 p λj hj => ?_;rw [zM, y0, if_pos hj, Int.mul_emod, Int.emod_emod_of_dvd _ (Int.dvd_refl p), <- Int.mul_emod]
     have hend : (∀ k, k < n -> U k = true ∨ dg (of p (mkL n λj => R k (n + j))) <= 1) -> ∀ w : Poly p, dg w <= n -> Ber f w -> dg w <= 1 := λh3 w hw hb => by
       refine j3 λj hj => ?_
       by_cases c1 : j < n
       · have h4 := hH.all (w := cf w.l) (λx hx => by rw [hsm _ x hx]; exact (zhm hf hw).1 hb x hx) c1 (λk hk hu => by
           have h5 := (h3 k hk).resolve_left hu;have h6 : cf (of p (mkL n λj => R k (n + j))).l j = 0 := z5 (by omega);rw [zM, y0, if_pos c1] at h6; exact h6)
         rw [xz] at h4; exact h4
       · exact z5 (by omega)
     refine W.seqK λK1 hK1 => ?_;refine W.rs (zo _) (by rfl) λK hK => ?_;conv=>whnf
     refine hK _ (W.block (W.invE (λm e => ∃ (i : Nat), i <= n ∧ (∀ k, k < i -> U k = true ∨ dg (of p (mkL n λj => R k (n + j))) <= 1) ∧ m = n - i ∧ e = [(0, .v (.int .i64 p)), (5, .v (.int .i64 n)), (6, .ownV 22 1 ba n λj => .ints none (rows j)), (11, .ownV 4 1 bu n λj => vU (U j)), (19, .v (.int .i64 i)), (vt, .tab λ_ => none)]) _ _ ⟨0, Nat.zero_le _, λj hj => by omega, rfl, rfl⟩ (by dsimp only; omega) (by repeat' first | refine And.intro ?_ ?_ | exact trivial | rfl | omega | assumption | exact .inl rfl | exact λ_ _ => rfl | exact λ_ _ h => h) ?_));clear hK;rintro m2 e ⟨i, hi, hno, hm2, rfl⟩;refine W.seqK λK7 hK7 => ?_;refine W.rs (zo _) (by rfl) λK hK => ?_;conv=>whnf
     refine hK _ (W.cond ⟨λh3 => ?_, λh3 => ?_⟩) <;> clear hK
     · have h3 : i < n := by have := of_decide_eq_true h3; omega
       refine W.skip (hK7 _ ?_);clear hK7;refine W.seqK λK9 hK9 => W.block ?_;refine W.rs (zo _) (by rfl) λK hK => ?_;conv=>whnf
       refine ⟨oo, ?_⟩;conv=>whnf
       rw [Int.toNat_natCast];have hrl := (hrows i h3).2.1;refine ⟨⟨by omega, by omega, by omega⟩, ?_⟩;conv=>whnf
       rw [Int.toNat_natCast, Int.toNat_natCast, List.take_length];refine zr rfl (yy none ((rows i).drop n) (by rw [List.length_drop]; omega)) λhs_20 b_20 hh_20 hf_20 => ?_;try dsimp only at hh_20 hf_20
       conv=>whnf
       rw [hvk i h3];have hber := hvb i h3;have hvd' := hvd i;generalize hv : of p (mkL n λj => R i (n + j)) = v at hber hvd';have hvl : v.l.length = dg v := rfl;refine hK _ ?_;clear hK
       -- the round's end
       have fin9 : (U i = true ∨ dg v <= 1) -> ∀ s : S, base <= s.hs -> zB s.env [(0, .v (.int .i64 p)), (5, .v (.int .i64 n)), (6, .ownV 22 1 ba n λj => .ints none (rows j)), (11, .ownV 4 1 bu n λj => vU (U j)), (19, .v (.int .i64 i)), (vt, .tab λ_ => none)] -> K9 s := by
         intro h5 s h6 h7;refine hK9 _ (W.weak (t := ⟨[(0, .v (.int .i64 p)), (5, .v (.int .i64 n)), (6, .ownV 22 1 ba n λj => .ints none (rows j)), (11, .ownV 4 1 bu n λj => vU (U j)), (19, .v (.int .i64 i)), (vt, .tab λ_ => none)], base⟩) ⟨h6, h7⟩ (Nat.le_refl _) ?_);clear hK9 h6 h7;refine W.region (zo _) (by rfl) ?_;conv=>whnf
         refine ⟨oo, ?_⟩;conv=>whnf
         have h8 : ∀ k, k < i + 1 -> U k = true ∨ dg (of p (mkL n λj => R k (n + j))) <= 1 := λk hk => by
           by_cases c1 : k = i
           · subst c1; rw [hv]; exact h5
           · exact hno k (by omega)
         exact zk ⟨i + 1, by omega, h8, rfl, rfl⟩
       clear hK9;refine W.rs (zo _) (by rfl) λK hK => ?_;conv=>whnf
       refine ⟨oo, ?_⟩;conv=>whnf
       have eU : (λj => vU (U j)) (i : Int).toNat = vU (U i) := by rw [Int.toNat_natCast]
       rw [eU];cases hU : U i
       · conv=>whnf
         refine ⟨λ_ => ?_, λh => absurd h (by decide)⟩;conv=>whnf
         rw [hvl];refine hK _ (W.cond ⟨λh4 => ?_, λh4 => ?_⟩) <;> clear hK
         · have h4 := of_decide_eq_true h4
           clear fin9;refine W.weak (t := ⟨[(20, .v (.ints none v.l)), (vt, .tab λ_ => none)], base⟩) ⟨by dsimp only; omega, by repeat' first | refine And.intro ?_ ?_ | exact trivial | rfl | omega | assumption | exact .inl rfl | exact λ_ _ h => h⟩ (Nat.le_refl _) ?_;refine W.rs (zo _) (by rfl) λK hK => ?_;conv=>whnf
           refine hK _ (W.ret ?_);conv=>whnf
           exact ⟨.v (.ints none v.l), ⟨rfl, rfl⟩, trivial, v, rfl, .inl ⟨by omega, hvd', hber hU⟩⟩
         · have h4 := of_decide_eq_false h4
           refine W.skip (fin9 (.inr (by omega)) _ (by dsimp only; omega) ?_);clear fin9;exact cvr
       · conv=>whnf
         refine hK _ (W.condF rfl (W.skip (fin9 (.inl hU) _ (by dsimp only; omega) ?_)));clear hK fin9;exact cvr
     · obtain rfl : n = i := by have := of_decide_eq_false h3; omega
       refine W.exit (hK1 _ ?_);clear hK7 hK1;refine W.rs (zo _) (by rfl) λK hK => ?_;conv=>whnf
       refine hK _ (W.ret ?_);conv=>whnf
       exact ⟨.v (.ints none (0 : Poly p).l), rfl, trivial, 0, rfl, .inr ⟨rfl, hend hno⟩⟩


theorem zoB {α : Type} {d : α} {L M : List α} {j : Nat} (h : j < L.length) : (L ++ M).getD j d = L.getD j d := by
 simp [List.getD_eq_getElem?_getD, List.getElem?_append, h]
theorem zoC {α : Type} {d : α} {L M : List α} {j : Nat} : (L ++ M).getD (L.length + j) d = M.getD j d := by
 rw [List.getD_eq_getElem?_getD, List.getD_eq_getElem?_getD, List.getElem?_append_right (by omega), Nat.add_sub_cancel_left]

theorem zdD (p : Int) [SP p] : ∀ (d : Nat) (f : Poly p), dg f <= d -> d <= 400 -> Mon f -> Sqf f -> 2 <= dg f -> Fn Tryz.prog 234 [.int .i64 p, .ints none f.l] (λ_ _ z => ∃ P : List (Poly p), zbT f P ∧ z = .v (vPs P))
 | 0, f, hd, _, _, _, h2 => absurd h2 (by omega)
 | d + 1, f, hd, hd4, hm, hs, h2 => by
  have ih := zdD p d;have hp := Pr.two (p := p);have hp2 := SP.le (p := p);obtain ⟨n, hf⟩ : ∃ n, dg f = n + 1 := ⟨dg f - 1, by omega⟩
  refine ze (za [0, 1, 4, 5, 6, 7, 8, 14, 20, 34]) Tryz.func234 rfl (by decide) Tryz.ntmps234 (lb rfl) λbase => ?_;refine wrs λK hK => ?_;conv=>whnf
  refine hK _ (wrs λK hK => ?_);conv=>whnf
  refine y7 rfl (zhL p none f n hf (by omega) (by omega)) ?_;rintro lo hi hi' z hl1 hl2 hl3 ⟨v, rfl, hv⟩ _;try dsimp only at hl1 hl2
  have hvl : v.l.length = dg v := rfl;conv=>whnf
  refine hK _ (W.seqK λK1 hK1 => wrs λK hK => ?_);conv=>whnf
  rw [hvl];refine hK _ (W.cond ⟨λh => ?_, λh => ?_⟩) <;> clear hK
  ·have h := of_decide_eq_true h;obtain ⟨rfl, hv2⟩ := hv.resolve_left (by omega)
   have hirr : Irr f := ziR hm.1 hs (dvd_refl f) h2 λw hw hb => ⟨cf w.l 0, by
    have := zhh (hv2 w (by omega) hb);rw [<- this];have e : w - w = 0 := by exact zh [w] (by rfl)
    rw [e]; exact dvd_zero f⟩
   have hP : zbT f [f] := ⟨by simp, λq => by
    rw [List.mem_singleton];exact ⟨λe => by rw [e]; exact ⟨hirr, hm, dvd_refl f⟩, λ⟨a, b, c⟩ => zbO a hirr b hm c⟩⟩
   refine wrs λK hK => ?_;conv=>whnf
   refine ⟨⟨rfl, by decide, λx hx => by simp at hx; subst hx; exact ⟨rfl, rfl⟩⟩, ?_⟩;conv=>whnf
   intro b_2 hs_2 hh_2 hf_2;try dsimp only at hh_2 hf_2
   conv=>whnf
   refine hK _ (W.ret ?_);conv=>whnf
   exact ⟨.v (vPs [f]), ⟨.inl rfl, rfl, rfl, λi hi => by obtain rfl : i = 0 := (by omega); rfl⟩, ⟨trivial, λ_ _ => trivial⟩, [f], hP, rfl⟩
  ·have h := of_decide_eq_false h;obtain ⟨hv1, hv2, hv3⟩ := hv.resolve_right λe => by have h9 : dg v = 0 := (by rw [e.1]; exact zy); omega
   refine W.skip (hK1 _ ?_);clear hK1;refine wrs λK hK => ?_;conv=>whnf
   refine ⟨⟨rfl, by decide, λx hx => by simp at hx⟩, ?_⟩;conv=>whnf
   intro b_2 hs_2 hh_2 hf_2;try dsimp only at hh_2 hf_2
   conv=>whnf
   refine hK _ (W.seqK λK1 hK1 => wrs λK hK => ?_);conv=>whnf
   refine hK _ (W.block (W.invE (λm e => ∃ (s bO : Nat) (O : List (Poly p)), s <= p.toNat ∧ O.length <= s * 400 ∧ zcs f v s O ∧ m = p.toNat - s ∧ e = [(0, .v (.int .i64 p)), (1, .v (.ints none f.l)), (5, .v (.ints none v.l)), (6, .ownV 22 1 bO O.length λj => .ints none (O.getD j 0).l), (7, .v (.int .i64 s))]) _ _ ⟨0, b_2, [], Nat.zero_le _, by simp, zcs.start f v, rfl, rfl⟩ (by dsimp only; omega) (by repeat' first | refine And.intro ?_ ?_ | exact trivial | rfl | omega | assumption | exact .inl rfl | exact λ_ _ => rfl | exact λi hi => absurd hi (by omega)) ?_));clear hK;rintro m e ⟨s, bO, O, hs1, hOl, hO, hm', rfl⟩;refine W.seqK λK7 hK7 => wrs λK hK => ?_;conv=>whnf
   refine hK _ (W.cond ⟨λh3 => ?_, λh3 => ?_⟩) <;> clear hK
   ·have h3 : (s : Int) < p := of_decide_eq_true h3;have hless := zn2 hf hv1 hv2 (s : Int);have hgm := zck (f := f) (g := v - con p (s : Int)) (.inl hm.1);have hgs := hs.dvd (vg f (v - con p (s : Int)));have hst := λhd P hP => hO.step (P := P) h3 hd hP;have hsk := hO.skip
    have hsub : dg (v - con p (s : Int)) <= 1000 := by
     have := vG v (con p (s : Int));have := v9 (p := p) (s : Int);omega
    have hb1 : Bd 97 [(s : Int)] := λi => by
     cases i with
     | zero => rw [zA]; omega
     | succ i => rw [zm, zS]; omega
    refine W.skip (hK7 _ ?_);clear hK7;refine W.seqK λK8 hK8 => W.block ?_;refine wrs λK hK => ?_;conv=>whnf
    refine ⟨⟨rfl, by decide⟩, ?_⟩;conv=>whnf
    intro b_3 hs_3 hh_3 hf_3;try dsimp only at hh_3 hf_3
    conv=>whnf
    refine zr rfl (zmz none _ v.l [(s : Int)] (-1) (by omega) ((jT v).le (by omega)) (hb1.le (by omega)) (by omega) (by simp)) λhs_4 b_4 hh_4 hf_4 => ?_;try dsimp only at hh_4 hf_4
    conv=>whnf
    have esm : zU (-1) [(s : Int)] = [-(s : Int)] := by simp [zU]
    rw [esm]
    have hb2 : Bd 97 [-(s : Int)] := λi => by
     cases i with
     | zero => rw [zA]; omega
     | succ i => rw [zm, zS]; omega
    refine zr rfl (xt p (by omega) (by omega) _ (zu (yr v.l [-(s : Int)])) (Bd.trim λi => by rw [y1]; have := jT v i; have := hb2 i; omega) (Nat.le_trans (zW _) (by rw [yr, zH]; simp; omega))) λhs_5 b_5 hh_5 hf_5 => ?_;try dsimp only at hh_5 hf_5
    conv=>whnf
    rw [zgG];refine zr rfl (zcz p none _ f (v - con p (s : Int)) (by omega) hsub) λhs_6 b_6 hh_6 hf_6 => ?_;try dsimp only at hh_6 hf_6
    conv=>whnf
    generalize gcd f (v - con p (s : Int)) = w at hless hgm hgs hst hsk;have hwl : w.l.length = dg w := rfl;refine hK _ ?_;clear hK
    have fin9 : ∀ (O' : List (Poly p)) (bO' : Nat) (s' : S), zcs f v (s + 1) O' -> O'.length <= (s + 1) * 400 -> base <= s'.hs -> zB s'.env [(0, .v (.int .i64 p)), (1, .v (.ints none f.l)), (5, .v (.ints none v.l)), (6, .ownV 22 1 bO' O'.length λj => .ints none (O'.getD j 0).l), (7, .v (.int .i64 s))] -> K8 s' := by
     intro O' bO' s' h5 h55 h6 h7;refine hK8 _ (W.weak (t := ⟨[(0, .v (.int .i64 p)), (1, .v (.ints none f.l)), (5, .v (.ints none v.l)), (6, .ownV 22 1 bO' O'.length λj => .ints none (O'.getD j 0).l), (7, .v (.int .i64 s))], base⟩) ⟨h6, h7⟩ (Nat.le_refl _) ?_);clear hK8 h6 h7;refine wrg ?_;conv=>whnf
     refine ⟨oo, ?_⟩;conv=>whnf
     exact zk ⟨s + 1, bO', O', by omega, h55, h5, rfl, rfl⟩
    clear hK8;refine wrs λK hK => ?_;conv=>whnf
    rw [hwl];refine hK _ (W.cond ⟨λh4 => ?_, λh4 => ?_⟩) <;> clear hK
    ·have h4 := of_decide_eq_true h4;refine W.weak (t := ⟨[(0, .v (.int .i64 p)), (1, .v (.ints none f.l)), (5, .v (.ints none v.l)), (6, .ownV 22 1 bO O.length λj => .ints none (O.getD j 0).l), (7, .v (.int .i64 s)), (8, .v (.ints none w.l))], base⟩) ⟨by dsimp only; omega, by repeat' first | refine And.intro ?_ ?_ | exact trivial | rfl | omega | assumption | exact .inl rfl | exact λ_ _ => rfl⟩ (Nat.le_refl _) ?_;refine wrg ?_;conv=>whnf
     refine y7 rfl (ih w (by omega) (by omega) hgm hgs (by omega)) ?_;rintro lo hi hi' z hl1 hl2 hl3 ⟨P, hP, rfl⟩ _;try dsimp only at hl1 hl2
     conv=>whnf
     have hPf := hP.few hgm.1;refine ⟨by omega, ?_⟩;conv=>whnf
     refine ⟨λj => .ints none ((O ++ P).getD j 0).l, λi hi => congrArg (λq : Poly p => V.ints none q.l) (zoB hi), λj hj => congrArg (λq : Poly p => V.ints none q.l) zoC, ?_⟩;intro b_7 hs_7 hh_7 hf_7;try dsimp only at hh_7 hf_7
     conv=>whnf
     refine fin9 (O ++ P) b_7 _ (hst (by omega) P hP) (by rw [List.length_append]; omega) (by dsimp only; omega) ?_;clear fin9;rw [List.length_append];exact cvr
    ·have h4 := of_decide_eq_false h4;refine W.skip (fin9 O bO _ (hsk (by omega)) (by omega) (by dsimp only; omega) ?_);clear fin9;exact cvr
   ·obtain rfl : s = p.toNat := by have := of_decide_eq_false h3; omega
    refine W.exit (hK1 _ ?_);clear hK7 hK1;refine wrs λK hK => ?_;conv=>whnf
    refine hK _ (W.ret ?_);conv=>whnf
    exact ⟨.v (vPs O), ⟨rfl, rfl, rfl, λ_ _ => rfl⟩, ⟨trivial, λ_ _ => trivial⟩, O, hO.fin hm h2 hv3, rfl⟩


theorem zmE (p : Int) [SP p] (g : Option Nat) (G : List (Poly p × Nat)) (f : Poly p) (n : Nat) (hG : G.length <= 1000) (hGd : ∀ x ∈ G, dg x.1 <= 1000000) (hf : dg f <= 1000000) :
  Fn Tryz.prog 235 [.vals g 2 G.length λj => vF (G.getD j (0, 0)), .ints none f.l, .int .i64 n] (λ_ _ z => ∃ k b, k <= G.length ∧ (∀ j, j < k -> ltP (G.getD j (0, 0)).1 f) ∧ (k = G.length ∨ ¬ ltP (G.getD k (0, 0)).1 f) ∧
   z = .ownV 145 2 b (G.length + 1) λj => vF ((yc G k (f, n)).getD j (0, 0))) := by
 refine ze (za [0, 1, 2, 6, 7, 21]) Tryz.func235 rfl (by decide) Tryz.ntmps235 (lb rfl) λbase => ?_;refine wrs λK hK => ?_;conv=>whnf
 refine hK _ (wrs λK hK => ?_);conv=>whnf
 refine hK _ ?_;clear hK;refine W.seqK λK1 hK1 => W.block (W.invA (λm e => ∃ k, k <= G.length ∧ (∀ j, j < k -> ltP (G.getD j (0, 0)).1 f) ∧ m = G.length - k ∧ e = [(0, .v (.vals g 2 G.length λj => vF (G.getD j (0, 0)))), (1, .v (.ints none f.l)), (2, .v (.int .i64 n)), (7, .v (.int .i64 k))]) ⟨0, Nat.zero_le _, λj hj => by omega, rfl, rfl⟩ ?_);rintro m e ⟨k, h1, h2, hm, rfl⟩
 have fin : ∀ s : S, base <= s.hs -> (k = G.length ∨ ¬ ltP (G.getD k (0, 0)).1 f) -> zB s.env [(0, .v (.vals g 2 G.length λj => vF (G.getD j (0, 0)))), (1, .v (.ints none f.l)), (2, .v (.int .i64 n)), (7, .v (.int .i64 k))] -> K1 s := by
  intro s h5 h6 h7;refine hK1 _ (W.weak (t := ⟨[(0, .v (.vals g 2 G.length λj => vF (G.getD j (0, 0)))), (1, .v (.ints none f.l)), (2, .v (.int .i64 n)), (7, .v (.int .i64 k))], base⟩) ⟨h5, h7⟩ (Nat.le_refl _) ?_);clear hK1 h5 h7;refine W.seqK λK2 hK2 => W.sch follows ?_;refine wt 1 ?_;conv=>whnf
  refine wt 2 ?_;conv=>whnf
  refine wt 3 ?_;conv=>whnf
  refine ⟨⟨by omega, by omega, by omega⟩, ?_⟩;conv=>whnf
  refine wt 5 ?_;conv=>whnf
  refine wt 6 ?_;conv=>whnf
  refine wt 7 ?_;conv=>whnf
  refine wt 10 ?_;conv=>whnf
  refine wt 11 ?_;conv=>whnf
  refine wt 12 ?_;conv=>whnf
  refine ⟨⟨by omega, by omega, by omega⟩, ?_⟩;conv=>whnf
  refine Wany.all (za []) (by rfl) (rs := [0, 8]) (by kernel_rfl) (by decide) ?_;intro i hi;simp only [List.mem_cons, List.not_mem_nil, or_false] at hi
  rcases hi with rfl | rfl <;> refine ⟨_, by rfl, by rfl, ?_⟩ <;> conv=>whnf
  ·refine ⟨⟨rfl, by decide, λx hx => by simp at hx⟩, ?_⟩;conv=>whnf
   intro b_0 hs_0 hh_0 hf_0;try dsimp only at hh_0 hf_0
   conv=>whnf
   refine Wany.all (za []) (by rfl) (rs := [4, 8]) (by kernel_rfl) (by decide) ?_;intro i hi;simp only [List.mem_cons, List.not_mem_nil, or_false] at hi
   rcases hi with rfl | rfl <;> refine ⟨_, by rfl, by rfl, ?_⟩ <;> conv=>whnf
   ·refine ⟨by omega, ?_⟩;conv=>whnf
    refine ⟨λj => vF ((yc G k (f, n)).getD j (0, 0)), λi hi => absurd hi (by omega), λj hj => congrArg vF ((congrArg (λi => (yc G k (f, n)).getD i (0, 0)) (by omega : 0 + j = j)).trans ((ze9 h1 (by omega)).trans (congrArg (λi => G.getD i (0, 0)) (by omega)))), ?_⟩;intro b_4 hs_4 hh_4 hf_4;try dsimp only at hh_4 hf_4
    conv=>whnf
    refine Wany.all (za []) (by rfl) (rs := [8]) (by kernel_rfl) (by decide) ?_;intro i hi;simp only [List.mem_cons, List.not_mem_nil, or_false] at hi
    rcases hi with rfl <;> refine ⟨_, by rfl, by rfl, ?_⟩ <;> conv=>whnf
    refine ⟨⟨rfl, by decide, λx hx => by simp at hx; subst hx; exact ⟨rfl, rfl⟩⟩, ?_⟩;conv=>whnf
    intro b_8 hs_8 hh_8 hf_8;try dsimp only at hh_8 hf_8
    conv=>whnf
    refine Wany.all (za []) (by rfl) (rs := [9]) (by kernel_rfl) (by decide) ?_;intro i hi;simp only [List.mem_cons, List.not_mem_nil, or_false] at hi
    rcases hi with rfl <;> refine ⟨_, by rfl, by rfl, ?_⟩ <;> conv=>whnf
    refine ⟨by omega, ?_⟩;conv=>whnf
    refine ⟨λj => vF ((yc G k (f, n)).getD j (0, 0)), λi hi => rfl, λj hj => (congrArg vF ((congrArg (λi => (yc G k (f, n)).getD i (0, 0)) (by omega : 0 + ((k : Int) - 0).toNat + j = k)).trans (zfa h1))).trans (by obtain rfl : j = 0 := (by omega); rfl), ?_⟩;intro b_9 hs_9 hh_9 hf_9;try dsimp only at hh_9 hf_9
    conv=>whnf
    refine Wany.all (za []) (by rfl) (rs := [13]) (by kernel_rfl) (by decide) ?_;intro i hi;simp only [List.mem_cons, List.not_mem_nil, or_false] at hi
    rcases hi with rfl <;> refine ⟨_, by rfl, by rfl, ?_⟩ <;> conv=>whnf
    refine ⟨by omega, ?_⟩;conv=>whnf
    refine ⟨λj => vF ((yc G k (f, n)).getD j (0, 0)), λi hi => rfl, λj hj => congrArg vF ((congrArg (λi => (yc G k (f, n)).getD i (0, 0)) (by omega : 0 + ((k : Int) - 0).toNat + 1 + j = k + 1 + j)).trans ((zfb h1).trans (congrArg (λi => G.getD i (0, 0)) (by omega)))), ?_⟩;intro b_13 hs_13 hh_13 hf_13;try dsimp only at hh_13 hf_13
    conv=>whnf
    refine Wany.all (za []) (by rfl) (rs := [14]) (by kernel_rfl) (by decide) ?_;intro i hi;simp only [List.mem_cons, List.not_mem_nil, or_false] at hi
    rcases hi with rfl <;> refine ⟨_, by rfl, by rfl, ?_⟩ <;> conv=>whnf
    refine wd1 (hK2 _ ?_);clear hK2;refine W.ret ?_;conv=>whnf
    exact ⟨.ownV 145 2 _ (G.length + 1) λj => vF ((yc G k (f, n)).getD j (0, 0)), ⟨rfl, rfl, rfl, by omega, λ_ _ => rfl⟩, λ_ _ => ⟨trivial, trivial, trivial⟩, k, _, h1, h2, h6, rfl⟩
   ·refine ⟨⟨rfl, by decide, λx hx => by simp at hx; subst hx; exact ⟨rfl, rfl⟩⟩, ?_⟩;conv=>whnf
    intro b_8 hs_8 hh_8 hf_8;try dsimp only at hh_8 hf_8
    conv=>whnf
    refine Wany.all (za []) (by rfl) (rs := [4]) (by kernel_rfl) (by decide) ?_;intro i hi;simp only [List.mem_cons, List.not_mem_nil, or_false] at hi
    rcases hi with rfl <;> refine ⟨_, by rfl, by rfl, ?_⟩ <;> conv=>whnf
    refine ⟨by omega, ?_⟩;conv=>whnf
    refine ⟨λj => vF ((yc G k (f, n)).getD j (0, 0)), λi hi => absurd hi (by omega), λj hj => congrArg vF ((congrArg (λi => (yc G k (f, n)).getD i (0, 0)) (by omega : 0 + j = j)).trans ((ze9 h1 (by omega)).trans (congrArg (λi => G.getD i (0, 0)) (by omega)))), ?_⟩;intro b_4 hs_4 hh_4 hf_4;try dsimp only at hh_4 hf_4
    conv=>whnf
    refine Wany.all (za []) (by rfl) (rs := [9]) (by kernel_rfl) (by decide) ?_;intro i hi;simp only [List.mem_cons, List.not_mem_nil, or_false] at hi
    rcases hi with rfl <;> refine ⟨_, by rfl, by rfl, ?_⟩ <;> conv=>whnf
    refine ⟨by omega, ?_⟩;conv=>whnf
    refine ⟨λj => vF ((yc G k (f, n)).getD j (0, 0)), λi hi => rfl, λj hj => (congrArg vF ((congrArg (λi => (yc G k (f, n)).getD i (0, 0)) (by omega : 0 + ((k : Int) - 0).toNat + j = k)).trans (zfa h1))).trans (by obtain rfl : j = 0 := (by omega); rfl), ?_⟩;intro b_9 hs_9 hh_9 hf_9;try dsimp only at hh_9 hf_9
    conv=>whnf
    refine Wany.all (za []) (by rfl) (rs := [13]) (by kernel_rfl) (by decide) ?_;intro i hi;simp only [List.mem_cons, List.not_mem_nil, or_false] at hi
    rcases hi with rfl <;> refine ⟨_, by rfl, by rfl, ?_⟩ <;> conv=>whnf
    refine ⟨by omega, ?_⟩;conv=>whnf
    refine ⟨λj => vF ((yc G k (f, n)).getD j (0, 0)), λi hi => rfl, λj hj => congrArg vF ((congrArg (λi => (yc G k (f, n)).getD i (0, 0)) (by omega : 0 + ((k : Int) - 0).toNat + 1 + j = k + 1 + j)).trans ((zfb h1).trans (congrArg (λi => G.getD i (0, 0)) (by omega)))), ?_⟩;intro b_13 hs_13 hh_13 hf_13;try dsimp only at hh_13 hf_13
    conv=>whnf
    refine Wany.all (za []) (by rfl) (rs := [14]) (by kernel_rfl) (by decide) ?_;intro i hi;simp only [List.mem_cons, List.not_mem_nil, or_false] at hi
    rcases hi with rfl <;> refine ⟨_, by rfl, by rfl, ?_⟩ <;> conv=>whnf
    refine wd1 (hK2 _ ?_);clear hK2;refine W.ret ?_;conv=>whnf
    exact ⟨.ownV 145 2 _ (G.length + 1) λj => vF ((yc G k (f, n)).getD j (0, 0)), ⟨rfl, rfl, rfl, by omega, λ_ _ => rfl⟩, λ_ _ => ⟨trivial, trivial, trivial⟩, k, _, h1, h2, h6, rfl⟩
  ·refine ⟨⟨rfl, by decide, λx hx => by simp at hx; subst hx; exact ⟨rfl, rfl⟩⟩, ?_⟩;conv=>whnf
   intro b_8 hs_8 hh_8 hf_8;try dsimp only at hh_8 hf_8
   conv=>whnf
   refine Wany.all (za []) (by rfl) (rs := [0]) (by kernel_rfl) (by decide) ?_;intro i hi;simp only [List.mem_cons, List.not_mem_nil, or_false] at hi
   rcases hi with rfl <;> refine ⟨_, by rfl, by rfl, ?_⟩ <;> conv=>whnf
   refine ⟨⟨rfl, by decide, λx hx => by simp at hx⟩, ?_⟩;conv=>whnf
   intro b_0 hs_0 hh_0 hf_0;try dsimp only at hh_0 hf_0
   conv=>whnf
   refine Wany.all (za []) (by rfl) (rs := [4]) (by kernel_rfl) (by decide) ?_;intro i hi;simp only [List.mem_cons, List.not_mem_nil, or_false] at hi
   rcases hi with rfl <;> refine ⟨_, by rfl, by rfl, ?_⟩ <;> conv=>whnf
   refine ⟨by omega, ?_⟩;conv=>whnf
   refine ⟨λj => vF ((yc G k (f, n)).getD j (0, 0)), λi hi => absurd hi (by omega), λj hj => congrArg vF ((congrArg (λi => (yc G k (f, n)).getD i (0, 0)) (by omega : 0 + j = j)).trans ((ze9 h1 (by omega)).trans (congrArg (λi => G.getD i (0, 0)) (by omega)))), ?_⟩;intro b_4 hs_4 hh_4 hf_4;try dsimp only at hh_4 hf_4
   conv=>whnf
   refine Wany.all (za []) (by rfl) (rs := [9]) (by kernel_rfl) (by decide) ?_;intro i hi;simp only [List.mem_cons, List.not_mem_nil, or_false] at hi
   rcases hi with rfl <;> refine ⟨_, by rfl, by rfl, ?_⟩ <;> conv=>whnf
   refine ⟨by omega, ?_⟩;conv=>whnf
   refine ⟨λj => vF ((yc G k (f, n)).getD j (0, 0)), λi hi => rfl, λj hj => (congrArg vF ((congrArg (λi => (yc G k (f, n)).getD i (0, 0)) (by omega : 0 + ((k : Int) - 0).toNat + j = k)).trans (zfa h1))).trans (by obtain rfl : j = 0 := (by omega); rfl), ?_⟩;intro b_9 hs_9 hh_9 hf_9;try dsimp only at hh_9 hf_9
   conv=>whnf
   refine Wany.all (za []) (by rfl) (rs := [13]) (by kernel_rfl) (by decide) ?_;intro i hi;simp only [List.mem_cons, List.not_mem_nil, or_false] at hi
   rcases hi with rfl <;> refine ⟨_, by rfl, by rfl, ?_⟩ <;> conv=>whnf
   refine ⟨by omega, ?_⟩;conv=>whnf
   refine ⟨λj => vF ((yc G k (f, n)).getD j (0, 0)), λi hi => rfl, λj hj => congrArg vF ((congrArg (λi => (yc G k (f, n)).getD i (0, 0)) (by omega : 0 + ((k : Int) - 0).toNat + 1 + j = k + 1 + j)).trans ((zfb h1).trans (congrArg (λi => G.getD i (0, 0)) (by omega)))), ?_⟩;intro b_13 hs_13 hh_13 hf_13;try dsimp only at hh_13 hf_13
   conv=>whnf
   refine Wany.all (za []) (by rfl) (rs := [14]) (by kernel_rfl) (by decide) ?_;intro i hi;simp only [List.mem_cons, List.not_mem_nil, or_false] at hi
   rcases hi with rfl <;> refine ⟨_, by rfl, by rfl, ?_⟩ <;> conv=>whnf
   refine wd1 (hK2 _ ?_);clear hK2;refine W.ret ?_;conv=>whnf
   exact ⟨.ownV 145 2 _ (G.length + 1) λj => vF ((yc G k (f, n)).getD j (0, 0)), ⟨rfl, rfl, rfl, by omega, λ_ _ => rfl⟩, λ_ _ => ⟨trivial, trivial, trivial⟩, k, _, h1, h2, h6, rfl⟩
 refine W.seqK λK7 hK7 => wrs λK hK => ?_;conv=>whnf
 refine ⟨λh3 => ?_, λh3 => ?_⟩ <;> conv=>whnf
 ·have h3 := of_decide_eq_true h3;have hx : (G.getD k (0, 0)) ∈ G := by rw [List.getD_eq_getElem?_getD, List.getElem?_eq_getElem (by omega)]; exact List.getElem_mem (by omega)
  have hx2 := hGd _ hx;refine ⟨oo, ?_⟩;conv=>whnf
  rw [Int.toNat_natCast];refine zb rfl (zf4 none none (G.getD k (0, 0)).1.l f.l hx2 hf) λhs' hhs => ?_;try dsimp only at hhs
  conv=>whnf
  refine hK _ (W.cond ⟨λh => ?_, λh => ?_⟩) <;> clear hK
  ·have h := (zd4 _ _).1 (of_decide_eq_true h);refine W.skip (hK7 _ (W.block ?_));clear hK7 fin;refine wrg ?_;conv=>whnf
   refine ⟨oo, ?_⟩;conv=>whnf
   exact zk ⟨k + 1, by omega, λj hj => by by_cases h9 : j = k; (subst h9; exact h); exact h2 j (by omega), rfl, rfl⟩
  ·have h := λh9 => of_decide_eq_false h ((zd4 _ _).2 h9);refine W.exit (fin _ (by dsimp only; omega) (.inr h) ?_);clear fin hK7;exact cvr
 ·have h3 := of_decide_eq_false h3;refine hK _ (W.condF rfl ?_);clear hK;refine W.exit (fin _ (by dsimp only; omega) (.inl (by omega)) ?_);clear fin hK7;exact cvr


theorem zq5 {p : Int} [SP p] (f : Poly p) (hf : dg f <= 1000) : Bd 4611686018427387904 (mkL (f.l.length - 1) (dv (cf f.l))) := λj => by
 have hp2 := SP.le (p := p);rw [y0]
 split
 ·rename_i hj
  have hfl : f.l.length = dg f := rfl;have hc := jP f (j + 1);have h8 := Int.mul_nonneg (by omega : (0 : Int) <= (j : Int) + 1) hc.1;have h9 := Int.mul_le_mul (by omega : (j : Int) + 1 <= 1000) (by omega : cf f.l (j + 1) <= 97) hc.1 (by omega);unfold dv;omega
 ·omega

theorem zde (p : Int) [SP p] (g : Option Nat) (f : Poly p) (hf : dg f <= 1000) : FnI 197 [.int .i64 p, .ints g f.l] (der f).l := by
 have hp := Pr.two (p := p);have hp2 := SP.le (p := p);have hfl : f.l.length = dg f := rfl;refine ze (za [0, 1, 4]) Tryz.func197 rfl (by decide) Tryz.ntmps197 (lb rfl) λbase => ?_;refine wrs λK hK => ?_;conv=>whnf
 refine hK _ (wrs λK hK => ?_);conv=>whnf
 refine zb rfl (kR _ f.l ((jT f).le (by omega)) (by omega)) λhs' hhs => ?_;try dsimp only at hhs
 conv=>whnf
 refine zr rfl (xt p (by omega) (by omega) none (mkL (f.l.length - 1) (dv (cf f.l))) (zq5 f hf) (by rw [zH]; omega)) λhs_2 b_2 hh_2 hf_2 => ?_;try dsimp only at hh_2 hf_2
 conv=>whnf
 rw [zi2];refine hK _ (W.ret ?_);conv=>whnf
 exact ⟨.ownI 2 _ ((der f).l), ⟨rfl, rfl, rfl⟩, trivial, _, rfl⟩

theorem zcD (p : Int) [SP p] : ∀ (d : Nat) (g : Option Nat) (f : Poly p) (t : Nat) (G : List (Poly p × Nat)), dg f <= d -> d <= 13 -> Mon f -> t <= 13 ^ (13 - d) -> Srt G -> (∀ x ∈ G, ¬ x.1 ∣ f ∧ dg x.1 <= 13) -> G.length + 20 * d <= 600 ->
  Fn Tryz.prog 223 [.int .i64 p, .ints g f.l, .int .i64 t, .vals none 2 G.length λj => vF (G.getD j (0, 0))] (λ_ _ z => ∃ G', PutOf f t G G' ∧ z = .v (vFs G'))
 | 0, g, f, t, G, hd, _, hm, _, _, _, _ => absurd (zd.1 (by omega)) hm.1
 | d + 1, g, f, t, G, hd, hd13, hm, ht, hS, hG, hl => by
  have ih := zcD p d;have hp := Pr.two (p := p);have hp2 := SP.le (p := p);have hfl : f.l.length = dg f := rfl;have hf0 : dg f ≠ 0 := λe => hm.1 (zd.1 e);have htb : t <= 13 ^ 13 := Nat.le_trans ht (Nat.pow_le_pow_right (by omega) (by omega))
  have ht2 : 13 * t <= 13 ^ (13 - d) := by
   have e : 13 - d = (13 - (d + 1)) + 1 := by omega
   rw [e, Nat.pow_succ, Nat.mul_comm];exact Nat.mul_le_mul_right _ ht
  have htb : t <= 302875106592253 := htb;refine ze (za [0, 1, 2, 3, 8, 9, 10, 11, 12, 14, 15, 16, 17, 18, 21, 28, 33, 67, 82]) Tryz.func223 rfl (by decide) Tryz.ntmps223 (lb rfl) λbase => ?_;refine wrs λK hK => ?_;conv=>whnf
  refine hK _ (W.seqK λK1 hK1 => wrs λK hK => ?_);conv=>whnf
  rw [hfl];refine hK _ (W.cond ⟨λh => ?_, λh => ?_⟩) <;> clear hK
  ·have h := of_decide_eq_true h;refine wrs λK hK => ?_;conv=>whnf
   refine hK _ (W.ret ?_);conv=>whnf
   exact ⟨.v (vFs G), ⟨rfl, rfl, rfl, λ_ _ => rfl⟩, ⟨trivial, λ_ _ => ⟨trivial, trivial, trivial⟩⟩, G, PutOf.unit (by omega) hS, rfl⟩
  have h := of_decide_eq_false h;refine W.skip (hK1 _ ?_);clear hK1;refine wrs λK hK => ?_;conv=>whnf
  refine zr rfl (zde p g f (by omega)) λhs_1 b_1 hh_1 hf_1 => ?_;try dsimp only at hh_1 hf_1
  conv=>whnf
  refine hK _ ?_;clear hK;refine W.seqK λK1 hK1 => ?_;have hdl : (der f).l.length = dg (der f) := rfl;refine wrs λK hK => ?_;conv=>whnf
  rw [hdl];refine hK _ (W.cond ⟨λh1 => ?_, λh1 => ?_⟩) <;> clear hK
  ·have h1 := of_decide_eq_true h1;have hder : der f = 0 := zd.1 (by omega);refine wrs λK hK => ?_;conv=>whnf
   refine ⟨⟨rfl, by decide⟩, ?_⟩;conv=>whnf
   intro b_2 hs_2 hh_2 hf_2;try dsimp only at hh_2 hf_2
   conv=>whnf
   refine hK _ (W.seqK λK3 hK3 => wrs λK hK => ?_);conv=>whnf
   refine hK _ (W.block (W.invE (λm e => ∃ (k bR : Nat), (m = dg f + p.toNat - k * p.toNat) ∧ k * p.toNat < dg f + p.toNat ∧ e = [(0, .v (.int .i64 p)), (1, .v (.ints g f.l)), (2, .v (.int .i64 t)), (3, .v (.vals none 2 G.length λj => vF (G.getD j (0, 0)))), (10, .ownI 2 bR (mkL k λi => cf f.l (i * p.toNat))), (11, .v (.int .i64 ((k * p.toNat : Nat) : Int)))]) _ _ ⟨0, b_2, rfl, by omega, rfl⟩ (by dsimp only; omega) (by repeat' first | refine And.intro ?_ ?_ | exact trivial | rfl | omega | assumption | exact .inl rfl | exact .inr rfl | exact λ_ _ => rfl) ?_));clear hK;rintro m e ⟨k, bR, hm', hk, rfl⟩;have hpn : ((p.toNat : Nat) : Int) = p := by omega
   have hk1 : (k + 1) * p.toNat = k * p.toNat + p.toNat := Nat.succ_mul _ _;have hk2 : (((k + 1) * p.toNat : Nat) : Int) = ((k * p.toNat : Nat) : Int) + p := by omega
   have hcfk : cf f.l (k * p.toNat) = cf f.l (k * p.toNat) := rfl;generalize hkp : k * p.toNat = kp at hm' hk hk1 hk2 hcfk;refine W.seqK λK7 hK7 => wrs λK hK => ?_;conv=>whnf
   rw [hfl];refine hK _ (W.cond ⟨λh8 => ?_, λh8 => ?_⟩) <;> clear hK
   ·have h8 := of_decide_eq_true h8;refine W.skip (hK7 _ ?_);clear hK7;refine W.seqK λK8 hK8 => W.block ?_;refine wrg ?_;conv=>whnf
    refine ⟨oo, ?_⟩;conv=>whnf
    rw [Int.toNat_natCast];have hkk : k <= kp := by rw [<- hkp]; exact Nat.le_mul_of_pos_right k (by omega)
    have hml : (mkL k λi => cf f.l (i * p.toNat)).length = k := zH _ _;have hms : mkL (k + 1) (λi => cf f.l (i * p.toNat)) = mkL k (λi => cf f.l (i * p.toNat)) ++ [f.l.getD kp 0] := by rw [zcn, hkp]; rfl
    refine ⟨⟨rfl, by decide⟩, ?_⟩;conv=>whnf
    intro b_4 hs_4 hh_4 hf_4;try dsimp only at hh_4 hf_4
    conv=>whnf
    refine ⟨by dsimp only [List.length]; omega, ?_⟩;conv=>whnf
    intro b_6 hs_6 hh_6 hf_6;try dsimp only at hh_6 hf_6
    conv=>whnf
    refine hK8 _ ?_;clear hK8;refine wrg ?_;conv=>whnf
    refine ⟨oo, ?_⟩;conv=>whnf
    refine ⟨_, _, ⟨k + 1, b_6, rfl, by omega, rfl⟩, by omega, by dsimp only; omega, ?_⟩;rw [hms];exact cvr
   ·have h8 := of_decide_eq_false h8;obtain ⟨R, hR1, hR2, hR3, hR4, hR5⟩ := zgI (f := f) hm hder (l := mkL k λi => cf f.l (i * p.toNat)) (n := k) (zH _ _) (λi hi => by rw [y0, if_pos hi]) (by omega) (by omega);rw [<- hR1];have hRd := hR5 (by omega);have hpf := zn3 hR2 hR3 (by omega);have hpt : ((p.toNat * t : Nat) : Int) = p * (t : Int) := by rw [Int.natCast_mul, hpn]
    have hpt1 : p.toNat * t <= 13 * t := Nat.mul_le_mul_right _ (by omega);refine W.exit (hK3 _ ?_);clear hK7 hK3;refine W.weak (t := ⟨[(0, .v (.int .i64 p)), (2, .v (.int .i64 t)), (3, .v (.vals none 2 G.length λj => vF (G.getD j (0, 0)))), (10, .v (.ints none R.l))], base⟩) ⟨by dsimp only; omega, by repeat' first | refine And.intro ?_ ?_ | exact trivial | rfl | omega | assumption | exact .inl rfl | exact .inr rfl | exact λ_ _ => rfl⟩ (Nat.le_refl _) ?_;refine wrs λK hK => ?_;conv=>whnf
    rw [<- hpt];refine ⟨oo, ?_⟩;conv=>whnf
    refine y7 rfl (ih none R (p.toNat * t) G (by omega) (by omega) hR2 (by omega) hS (λx hx => ⟨λhd9 => (hG x hx).1 (zw hd9 (by rw [<- hR3]; exact zi3 (by omega))), (hG x hx).2⟩) (by omega)) ?_;rintro lo hi hi' z hl1 hl2 hl3 ⟨G', hG', rfl⟩ _;try dsimp only at hl1 hl2
    conv=>whnf
    refine hK _ (W.ret ?_);conv=>whnf
    exact ⟨.v (vFs G'), ⟨rfl, rfl, rfl, λ_ _ => rfl⟩, ⟨trivial, λ_ _ => ⟨trivial, trivial, trivial⟩⟩, G', PutOf.root hR2.1 (by omega) hR3 hG', rfl⟩
  ·have h1 := of_decide_eq_false h1;refine W.skip (hK1 _ ?_);clear hK1;have hd0 : der f ≠ 0 := λe => by rw [e, zy] at h1; omega
   obtain ⟨s1, s2, s3, s4, s5, s6, s7⟩ := zlp hm hd0;refine wrs λK hK => ?_;conv=>whnf
   refine zr rfl (zcz p _ _ f (der f) (by omega) (by have := zbS hm.1; omega)) λhs_3 b_3 hh_3 hf_3 => ?_;try dsimp only at hh_3 hf_3
   conv=>whnf
   refine zb rfl (jm p _ _ f (gcd f (der f)) (by omega) (by have := zP s6 hd0; have := zbS hm.1; omega) s7) λhs' hhs => ?_;try dsimp only at hhs
   conv=>whnf
   generalize hq : quo f (gcd f (der f)) = q at s1 s2 s3 s4 s5;generalize gcd f (der f) = c at s1 s6 s7;refine hK _ (wrs λK hK => ?_);conv=>whnf
   refine y7 rfl (zdD p 400 q (by omega) (by omega) s2 s3 s4) ?_;rintro lo hi hi' z hl1 hl2 hl3 ⟨P, hP, rfl⟩ _;have hPf := hP.few (f := q) s2.1;try dsimp only at hl1 hl2
   conv=>whnf
   refine hK _ (W.seqK λK1 hK1 => wrs λK hK => ?_);conv=>whnf
   refine hK _ (W.block (W.invE (λm e => ∃ (k : Nat) (g1 : Option Nat) (r : Poly p) (L H : List (Poly p × Nat)), Putting f P t G k r L H ∧ dg r <= dg f ∧ m = P.length - k ∧ (∀ x ∈ H, dg x.1 <= 13) ∧ e = [(0, .v (.int .i64 p)), (1, .v (.ints g1 r.l)), (2, .v (.int .i64 t)), (3, .v (.vals none 2 H.length λj => vF (H.getD j (0, 0)))), (14, .v (vPs P)), (15, .v (.int .i64 k))]) _ _ ⟨0, g, f, [], G, Putting.start hm P t hS, Nat.le_refl _, rfl, λx hx => (hG x hx).2, rfl⟩ (by dsimp only; omega) (by repeat' first | refine And.intro ?_ ?_ | exact trivial | rfl | omega | assumption | exact .inl rfl | exact .inr rfl | exact λ_ _ => rfl) ?_));clear hK;rintro m e ⟨k, g1, r, L, H, hpu, hrd, hm', hH, rfl⟩;have hpe := hpu.peel;have hkl := hpe.le;have hlen := hpu.len;refine W.seqK λK7 hK7 => wrs λK hK => ?_;conv=>whnf
   refine hK _ (W.cond ⟨λh2 => ?_, λh2 => ?_⟩) <;> clear hK <;> (first | replace h2 := of_decide_eq_true h2 | replace h2 := of_decide_eq_false h2)
   ·have hmem : P.getD k 0 ∈ P := by rw [List.getD_eq_getElem?_getD, List.getElem?_eq_getElem (by omega)]; exact List.getElem_mem (by omega)
    obtain ⟨hgi, hgm, hgd⟩ := (hP.2 _).1 hmem;have hgd0 : P.getD k 0 ∣ f := zw hgd ⟨c, s1⟩;have hgdg := zP hgd0 hm.1;have step := λn i r' he hn => hpu.step (n := n) (i := i) (r' := r') (λx hx => (hG x hx).1) hP.1 (by omega) hgi hgm hgd0 he hn;generalize hgq : P.getD k 0 = q1 at hgi hgm hgd hgd0 hgdg step;refine W.skip (hK7 _ ?_);clear hK7;refine W.seqK λK8 hK8 => W.block ?_;refine wrs λK hK => ?_;conv=>whnf
    refine hK _ ?_;clear hK
    have hpow : ∀ {n : Nat} {rc : Poly p}, r = q1 ^ n * rc -> n < 14 ∧ rc ≠ 0 ∧ dg rc <= dg r := λ{n rc} he => by
     have h5 := zeX hgi.1 n;have h6 := zP (⟨rc, he⟩ : q1 ^ n ∣ r) hpe.mon.1;have h7 : rc ∣ r := ⟨q1 ^ n, by rw [he]; exact js _ _⟩
     exact ⟨by omega, zeR h7 hpe.mon.1, zP h7 hpe.mon.1⟩
    refine W.seqK λK2 hK2 => ?_;refine W.block (W.invE (λm e => ∃ (n : Nat) (g2 : Option Nat) (rc : Poly p), r = q1 ^ n * rc ∧ m = dg rc ∧ e = [(0, .v (.int .i64 p)), (1, .v (.ints g2 rc.l)), (2, .v (.int .i64 t)), (3, .v (.vals none 2 H.length λj => vF (H.getD j (0, 0)))), (14, .v (vPs P)), (15, .v (.int .i64 k)), (16, .v (.int .i64 n))]) _ _ ⟨0, g1, r, by rw [zv]; exact zh [r] (by rfl), rfl, rfl⟩ (by dsimp only; omega) (by repeat' first | refine And.intro ?_ ?_ | exact trivial | rfl | omega | assumption | exact .inl rfl | exact .inr rfl | exact λ_ _ => rfl) ?_);rintro m2 e ⟨n, g2, rc, he, hm2, rfl⟩;obtain ⟨hn14, hrc0, hrcd⟩ := hpow he;have hreml : (rem rc q1).l.length = dg (rem rc q1) := rfl;refine W.block ?_;refine wrs λK hK => ?_;conv=>whnf
    refine ⟨oo, ?_⟩;conv=>whnf
    have e1 : (λj => V.ints none (P.getD j 0).l) (k : Int).toNat = .ints none q1.l := by rw [Int.toNat_natCast]; show V.ints none (P.getD k 0).l = _; rw [hgq]
    rw [e1];refine zb rfl (jm p _ _ rc q1 (by omega) (by omega) hgi.ne) λhs' hhs => ?_;try dsimp only at hhs
    conv=>whnf
    refine hK _ (W.seqK λK9 hK9 => wrs λK hK => ?_);conv=>whnf
    rw [hreml];refine hK _ (W.cond ⟨λh3 => ?_, λh3 => ?_⟩) <;> clear hK
    ·have h3 := of_decide_eq_true h3
     have hnd : ¬ q1 ∣ rc := λhd => by
      have := (j5 hgi.ne).1 hd;have : dg (rem rc q1) = 0 := by rw [this]; exact zy
      omega
     refine W.exit (hK2 _ ?_);clear hK2 hK9;have hnt : ((n * t : Nat) : Int) = (n : Int) * (t : Int) := Int.natCast_mul _ _;have hnt1 : n * t <= 13 * t := Nat.mul_le_mul_right _ (by omega);have hnt2 : 13 * t <= 3937376385699289 := by omega
     refine wrg ?_;conv=>whnf
     refine ⟨oo, ?_⟩;conv=>whnf
     rw [e1];rw [<- hnt];refine ⟨oo, ?_⟩;conv=>whnf
     refine y7 rfl (zmE p none H q1 (n * t) (by omega) (λx hx => by have := hH x hx; omega) (by omega)) ?_;rintro lo hi hi' z hl1 hl2 hl3 ⟨i, b, hi1, hi2, hi3, rfl⟩ _;try dsimp only at hl1 hl2
     conv=>whnf
     refine hK8 _ ?_;clear hK8;refine wrg ?_;conv=>whnf
     refine ⟨oo, ?_⟩;conv=>whnf
     have hpl : (yc H i (q1, n * t)).length = H.length + 1 := zct hi1;refine ⟨_, _, ⟨k + 1, g2, rc, L ++ [(q1, n)], yc H i (q1, n * t), step n i rc he hnd hi1 hi2 hi3, by omega, rfl, λx hx => ?_, rfl⟩, by omega, by dsimp only; omega, ?_⟩
     ·rcases zgJ.1 hx with rfl | hx
      ·show dg q1 <= 13
       omega
      ·exact hH x hx
     rw [hpl];exact cvr
    ·have h3 := of_decide_eq_false h3;have hrem : rem rc q1 = 0 := zd.1 (by omega)
     have hdiv : rc = quo rc q1 * q1 := by
      have h5 := ve rc q1;rw [hrem] at h5;have e : ∀ a : Poly p, a + 0 = a := λa => by exact zh [a] (by rfl)
      rw [e] at h5; exact h5
     have hq0 : quo rc q1 ≠ 0 := λe => hrc0 (by rw [hdiv, e]; exact zh [q1] (by rfl));have hdgq := yS hq0 hgi.ne;rw [<- hdiv] at hdgq;have hg2 := hgi.1;refine W.skip (hK9 _ ?_);clear hK9;refine wrs λK hK => ?_;conv=>whnf
     refine hK _ ?_;clear hK;refine wrg ?_;conv=>whnf
     refine ⟨oo, ?_⟩;conv=>whnf
     exact zk ⟨n + 1, none, quo rc q1, by rw [he, zi]; exact comb (q1 ^ n) hdiv (zh [rc, q1, quo rc q1, q1 ^ n] (by rfl)), rfl, rfl⟩
   ·obtain rfl : k = P.length := by omega
    have hrl := hpe.less hm hP s1 s4;refine W.exit (hK1 _ ?_);clear hK7 hK1;refine wrs λK hK => ?_;conv=>whnf
    refine y7 rfl (ih g1 r t H (by omega) (by omega) hpe.mon (by omega) hpu.srt (λx hx => ⟨hpu.apart (λx hx => (hG x hx).1) x hx, hH x hx⟩) (by omega)) ?_;rintro lo hi hi' z hl1 hl2 hl3 ⟨G', hG', rfl⟩ _;try dsimp only at hl1 hl2
    conv=>whnf
    refine hK _ (W.ret ?_);conv=>whnf
    exact ⟨.v (vFs G'), ⟨rfl, rfl, rfl, λ_ _ => rfl⟩, ⟨trivial, λ_ _ => ⟨trivial, trivial, trivial⟩⟩, G', hpu.fin hm hP s1 s6 hG', rfl⟩

theorem Fn.args {P : Program} {f : Nat} {xs ys : List V} {post : zhX} (h : Fn P f ys post) (hl : xs.length = ys.length)
  (hr : ∀ j, j < xs.length -> ∀ (D : Nat -> Prop) (n : Nat) (hp : Array Obj) (v : Value), Rep (okF D (λ_ => False) n) hp (xs.getD j .nil) v -> Rep (okF D (λ_ => False) n) hp (ys.getD j .nil) v) : Fn P f xs post :=
 ⟨h.1, λD w vs hD hs hv => h.2 D w vs hD (hs.trans hl) λj hj => hr j (by omega) _ _ _ _ (hv j (by omega))⟩
theorem Rep.vals0 {ok : OkB} {hp : Array Obj} {g g' : Option Nat} {sz : Nat} {f f' : Nat -> V} {v : Value} (h : Rep ok hp (.vals g sz 0 f) v) : Rep ok hp (.vals g' sz 0 f') v := by
 cases h with
 | vals _ _ _ _ a cap hc hm hl hf c hx hr => exact .vals g' sz 0 f' a cap hc hm (λi hi => by omega) (λi hi => by omega) c (λi j hi => by omega) (λi j hi => by omega)

theorem zmF (p : Int) [SP p] (g : Option Nat) (f : Poly p) (hf : dg f <= 13) (hf0 : f ≠ 0) : Fn Tryz.prog 206 [.int .i64 p, .ints g f.l] (λ_ _ z => ∃ F, jO f F ∧ z = .v (vFs F)) := by
 have hmd : dg (mnc f) <= dg f := zP (ya f).1 hf0;refine ze (za [0, 1, 4]) Tryz.func206 rfl (by decide) Tryz.ntmps206 (lb rfl) λbase => ?_;refine wrs λK hK => ?_;conv=>whnf
 refine hK _ (wrs λK hK => ?_);conv=>whnf
 refine zr rfl (zdy p g f (by omega)) λhs_1 b_1 hh_1 hf_1 => ?_;try dsimp only at hh_1 hf_1
 conv=>whnf
 refine ⟨⟨rfl, by decide, λx hx => by simp at hx⟩, ?_⟩;conv=>whnf
 intro b_2 hs_2 hh_2 hf_2;try dsimp only at hh_2 hf_2
 conv=>whnf
 refine y7 rfl (Fn.args (ys := [.int .i64 p, .ints (some b_1) (mnc f).l, .int .i64 ((1 : Nat) : Int), .vals none 2 0 λj => vF ((([] : List (Poly p × Nat))).getD j (0, 0))]) (zcD p 13 (some b_1) (mnc f) 1 [] (by omega) (Nat.le_refl _) (j6 hf0) (by decide) List.Pairwise.nil (λx hx => by simp at hx) (by simp)) rfl λj hj D n hp v hv => ?_) ?_
 ·match j, hj with
  | 0, _ => exact hv
  | 1, _ => exact hv
  | 2, _ => exact hv
  | 3, _ => exact hv.vals0
 rintro lo hi hi' z hl1 hl2 hl3 ⟨F, hF, rfl⟩ _;try dsimp only at hl1 hl2
 conv=>whnf
 refine hK _ (W.ret ?_);conv=>whnf
 exact ⟨.v (vFs F), ⟨rfl, rfl, rfl, λ_ _ => rfl⟩, ⟨trivial, λ_ _ => ⟨trivial, trivial, trivial⟩⟩, F, ⟨hF.fac.1, λx => (hF.fac.2 x).trans (zgH hf0 x)⟩, rfl⟩

theorem zcE (p : Int) [SP p] (g : Option Nat) (f : Poly p) (hf : dg f <= 13) (hf0 : f ≠ 0) : Fn Tryz.prog 189 [.int .i64 p, .ints g f.l] (λ_ _ z => ∃ F, jO f F ∧ z = .v (.bool (zbo F))) := by
 refine ze (za [0, 1, 4, 5]) Tryz.func189 rfl (by decide) Tryz.ntmps189 (lb rfl) λbase => ?_;refine wrs λK hK => ?_;conv=>whnf
 refine hK _ (wrs λK hK => ?_);conv=>whnf
 refine y7 rfl (zmF p g f hf hf0) ?_;rintro lo hi hi' z hl1 hl2 hl3 ⟨F, hF, rfl⟩ _;try dsimp only at hl1 hl2
 have hlen := hF.facs.few hf0;conv=>whnf
 refine hK _ (wrs λK hK => ?_);conv=>whnf
 refine ⟨λh => ?_, λh => ?_⟩ <;> conv=>whnf
 ·refine ⟨⟨by omega, by have := of_decide_eq_true h; omega⟩, ?_⟩;conv=>whnf
  refine hK _ (W.ret ?_);conv=>whnf
  exact ⟨.v (.bool (zbo F)), (by show decide _ = zbo F; unfold zbo; rw [h]; rfl), trivial, F, hF, rfl⟩
 ·refine hK _ (W.ret ?_);conv=>whnf
  exact ⟨.v (.bool (zbo F)), (by show zbo F = false; unfold zbo; rw [h]; rfl), trivial, F, hF, rfl⟩


noncomputable def bP (P : Prop) : Bool := @decide P (Classical.propDecidable P)
theorem zdf {P : Prop} : bP P = true ↔ P := @decide_eq_true_iff P (Classical.propDecidable P)
theorem zj {P : Prop} (h : P) : bP P = true := zdf.2 h
theorem zf {P : Prop} (h : ¬ P) : bP P = false := by
 cases hb : bP P with
 | false => rfl
 | true => exact absurd (zdf.1 hb) h
theorem zkC {P : Prop} (h : bP P = false) : ¬ P := λhp => by rw [zj hp] at h; cases h
theorem zhM {P : Prop} [Decidable P] (h : (!(decide P)) = true) : ¬ P := λhp => by rw [decide_eq_true hp] at h; cases h
theorem zfw {P : Prop} [Decidable P] (h : (!(decide P)) = false) : P := Classical.byContradiction λhp => by rw [decide_eq_false hp] at h; cases h
theorem zcF {P Q : Prop} (h : P ↔ Q) : bP P = bP Q := by rw [propext h]

theorem zhN (g : Option Nat) (xs : List Int) (f : Nat) (caps : List V) (q : Nat -> Bool) (hl : xs.length <= 100000000) (hf : ∀ i, i < xs.length -> FnV f ([.int .i64 (cf xs i)] ++ caps) (.bool (q i))) :
  Fn Tryz.prog 167 [.ints g xs, .func f caps] (λ_ _ z => ∃ r : Int, z = .v (.int .i64 r) ∧ (0 <= r ↔ ∃ i, i < xs.length ∧ q i = true)) := by
 refine ze (za [0, 1, 4, 5, 7, 8, 9, 16]) Tryz.func167 rfl (by decide) Tryz.ntmps167 (lb rfl) λbase => ?_;refine wrs λK hK => ?_;conv=>whnf
 refine hK _ (W.seqK λK1 hK1 => wrs λK hK => ?_);conv=>whnf
 refine hK _ (W.block (W.invA (λm e => ∃ i : Nat, i <= xs.length ∧ (∀ j, j < i -> q j = false) ∧ m = xs.length - i ∧ e = [(0, .v (.ints g xs)), (1, .v (.func f caps)), (7, .v (.int .i64 xs.length)), (8, .v (.int .i64 i))]) ⟨0, Nat.zero_le _, λj hj => by omega, rfl, rfl⟩ ?_));clear hK;rintro m e ⟨i, h1, h2, hm, rfl⟩;refine wrs λK hK => ?_;conv=>whnf
 refine hK _ ?_;clear hK;refine W.seqK λK7 hK7 => W.cond ⟨λh => ?_, λh => ?_⟩ <;> (first | replace h := of_decide_eq_true h | replace h := of_decide_eq_false h)
 ·refine W.skip (hK7 _ ?_);clear hK7;refine W.seqK λK8 hK8 => W.block ?_;refine wrs λK hK => ?_;conv=>whnf
  refine hK _ (wrs λK hK => ?_);conv=>whnf
  refine ⟨oo, ?_⟩;conv=>whnf
  rw [Int.toNat_natCast];refine zb rfl (hf i (by omega)) λhs' hhs => ?_;try dsimp only at hhs
  conv=>whnf
  refine hK _ (W.cond ⟨λh3 => ?_, λh3 => ?_⟩) <;> clear hK
  ·refine wrs λK hK => ?_;conv=>whnf
   refine hK _ (W.ret ?_);conv=>whnf
   exact ⟨.v (.int .i64 i), ⟨rfl, rfl⟩, trivial, i, rfl, λ_ => ⟨i, by omega, h3⟩, λ_ => by omega⟩
  ·refine W.skip (hK8 _ ?_);clear hK8;refine wrg ?_;conv=>whnf
   refine ⟨oo, ?_⟩;conv=>whnf
   have h4 : ∀ j, j < i + 1 -> q j = false := λj hj => by
    by_cases hji : j = i
    ·subst hji; exact h3
    ·exact h2 j (by omega)
   exact zk ⟨i + 1, by omega, h4, rfl, rfl⟩
 ·refine W.exit (hK1 _ ?_);clear hK7 hK1;refine wrs λK hK => ?_;conv=>whnf
  refine hK _ (W.ret ?_);conv=>whnf
  refine ⟨.v (.int .i64 (-1)), ⟨rfl, rfl⟩, trivial, -1, rfl, λh => by omega, λ⟨j, hj, he⟩ => ?_⟩;rw [h2 j (by omega)] at he; cases he

theorem zat (g : Option Nat) (xs : List Int) (f : Nat) (caps : List V) (q : Nat -> Bool) (hl : xs.length <= 100000000) (hf : ∀ i, i < xs.length -> FnV f ([.int .i64 (cf xs i)] ++ caps) (.bool (q i))) :
  FnV 110 [.ints g xs, .func f caps] (.bool (bP (∃ i, i < xs.length ∧ q i = true))) := by
 refine ze (za [0, 1, 4]) Tryz.func110 rfl (by decide) Tryz.ntmps110 (lb rfl) λbase => ?_;refine wrs λK hK => ?_;conv=>whnf
 refine hK _ (wrs λK hK => ?_);conv=>whnf
 refine y7 rfl (zhN g xs f caps q hl hf) ?_;rintro lo hi hi' z h1 h2 h3 ⟨r, rfl, hr⟩ _;conv=>whnf
 refine hK _ (W.ret ?_);conv=>whnf
 exact ⟨.v (.bool (bP (∃ i, i < xs.length ∧ q i = true))), (by show decide _ = bP _; by_cases h : 0 <= r; (rw [zj (hr.1 h)]; exact decide_eq_true h); (rw [zf λh' => h (hr.2 h')]; exact decide_eq_false h)), trivial, rfl⟩

theorem zf5 (g : Option Nat) (n : Nat) (xs : Nat -> V) (f : Nat) (caps : List V) (q : Nat -> Bool) (hl : n <= 100000000) (hc : ∀ i, i < n -> ∃ g l, xs i = .ints g l) (hf : ∀ i, i < n -> FnV f ([xs i] ++ caps) (.bool (q i))) :
  Fn Tryz.prog 181 [.vals g 1 n xs, .func f caps] (λ_ _ z => ∃ r : Int, z = .v (.int .i64 r) ∧ (0 <= r ↔ ∃ i, i < n ∧ q i = true)) := by
 refine ze (za [0, 1, 4, 5, 7, 8, 9, 16]) Tryz.func181 rfl (by decide) Tryz.ntmps181 (lb rfl) λbase => ?_;refine wrs λK hK => ?_;conv=>whnf
 refine hK _ (W.seqK λK1 hK1 => wrs λK hK => ?_);conv=>whnf
 refine hK _ (W.block (W.invA (λm e => ∃ i : Nat, i <= n ∧ (∀ j, j < i -> q j = false) ∧ m = n - i ∧ e = [(0, .v (.vals g 1 n xs)), (1, .v (.func f caps)), (7, .v (.int .i64 n)), (8, .v (.int .i64 i))]) ⟨0, Nat.zero_le _, λj hj => by omega, rfl, rfl⟩ ?_));clear hK;rintro m e ⟨i, h1, h2, hm, rfl⟩;refine wrs λK hK => ?_;conv=>whnf
 refine hK _ ?_;clear hK;refine W.seqK λK7 hK7 => W.cond ⟨λh => ?_, λh => ?_⟩ <;> (first | replace h := of_decide_eq_true h | replace h := of_decide_eq_false h)
 ·have hi : i < n := by omega
  have hfi := hf i hi;obtain ⟨gi, l, hx⟩ := hc i hi;rw [hx] at hfi;refine W.skip (hK7 _ ?_);clear hK7;refine W.seqK λK8 hK8 => W.block ?_;refine wrs λK hK => ?_;conv=>whnf
  refine hK _ (wrs λK hK => ?_);conv=>whnf
  refine ⟨oo, ?_⟩;conv=>whnf
  rw [Int.toNat_natCast, hx];refine zb rfl (hfi) λhs' hhs => ?_;try dsimp only at hhs
  conv=>whnf
  refine hK _ (W.cond ⟨λh3 => ?_, λh3 => ?_⟩) <;> clear hK
  ·refine wrs λK hK => ?_;conv=>whnf
   refine hK _ (W.ret ?_);conv=>whnf
   exact ⟨.v (.int .i64 i), ⟨rfl, rfl⟩, trivial, i, rfl, λ_ => ⟨i, by omega, h3⟩, λ_ => by omega⟩
  ·refine W.skip (hK8 _ ?_);clear hK8;refine wrg ?_;conv=>whnf
   refine ⟨oo, ?_⟩;conv=>whnf
   have h4 : ∀ j, j < i + 1 -> q j = false := λj hj => by
    by_cases hji : j = i
    ·subst hji; exact h3
    ·exact h2 j (by omega)
   exact zk ⟨i + 1, by omega, h4, rfl, rfl⟩
 ·refine W.exit (hK1 _ ?_);clear hK7 hK1;refine wrs λK hK => ?_;conv=>whnf
  refine hK _ (W.ret ?_);conv=>whnf
  refine ⟨.v (.int .i64 (-1)), ⟨rfl, rfl⟩, trivial, -1, rfl, λh => by omega, λ⟨j, hj, he⟩ => ?_⟩;rw [h2 j (by omega)] at he; cases he

theorem kS (g : Option Nat) (n : Nat) (xs : Nat -> V) (f : Nat) (caps : List V) (q : Nat -> Bool) (hl : n <= 100000000) (hc : ∀ i, i < n -> ∃ g l, xs i = .ints g l) (hf : ∀ i, i < n -> FnV f ([xs i] ++ caps) (.bool (q i))) :
  FnV 123 [.vals g 1 n xs, .func f caps] (.bool (bP (∃ i, i < n ∧ q i = true))) := by
 refine ze (za [0, 1, 4]) Tryz.func123 rfl (by decide) Tryz.ntmps123 (lb rfl) λbase => ?_;refine wrs λK hK => ?_;conv=>whnf
 refine hK _ (wrs λK hK => ?_);conv=>whnf
 refine y7 rfl (zf5 g n xs f caps q hl hc hf) ?_;rintro lo hi hi' z h1 h2 h3 ⟨r, rfl, hr⟩ _;conv=>whnf
 refine hK _ (W.ret ?_);conv=>whnf
 exact ⟨.v (.bool (bP (∃ i, i < n ∧ q i = true))), (by show decide _ = bP _; by_cases h : 0 <= r; (rw [zj (hr.1 h)]; exact decide_eq_true h); (rw [zf λh' => h (hr.2 h')]; exact decide_eq_false h)), trivial, rfl⟩

def zf6 (a b : Int) (xs : List Int) : Prop := ∀ j, j < xs.length -> a <= cf xs j ∧ cf xs j <= b
def zlD (xs : List Int) : Prop := xs.length = 0 ∨ cf xs (xs.length - 1) ≠ 0
def zoD (xs : List Int) : Prop := xs.length <= 9 ∧ zf6 (-1000000) 1000000 xs ∧ zlD xs
def IsSm (xs : List Int) : Prop := zoD xs ∧ 2 <= xs.length ∧ xs.length <= 5 ∧ zf6 (-60) 60 xs
def vm (p : Int) (xs : List Int) : Prop := isP p = true ∧ xs.length <= 9 ∧ zf6 0 (p - 1) xs ∧ zlD xs

theorem zd5 {a b : Int} {xs : List Int} : (∃ i, i < xs.length ∧ (!(decide (a <= cf xs i ∧ cf xs i <= b))) = true) ↔ ¬ zf6 a b xs := by
 constructor
 ·rintro ⟨i, hi, h⟩ hA;rw [decide_eq_true (hA i hi)] at h; cases h
 ·intro h;refine Classical.byContradiction λh' => h λj hj => ?_;refine Classical.byContradiction λh'' => h' ⟨j, hj, ?_⟩;rw [decide_eq_false h'']; rfl

theorem jw (g : Option Nat) (xs : List Int) (hl : xs.length <= 1000000000) : FnV 68 [.ints g xs] (.int .i64 ((xs.length : Int) - 1)) := by
 refine ze (za [0, 2]) Tryz.func68 rfl (by decide) Tryz.ntmps68 (lb rfl) λbase => ?_;refine wrs λK hK => ?_;conv=>whnf
 refine hK _ (wrs λK hK => ?_);conv=>whnf
 refine zb rfl (zlC g xs) λhs' hhs => ?_;try dsimp only at hhs
 conv=>whnf
 refine ⟨oo, ?_⟩;conv=>whnf
 refine hK _ (W.ret ?_);conv=>whnf
 exact ⟨.v (.int .i64 ((xs.length : Int) - 1)), ⟨rfl, rfl⟩, trivial, rfl⟩

noncomputable def zkD (xs : List Int) : Int := bif bP (zoD xs) then (bif bP (IsSm xs) then 0 else 2) else 1

theorem zpK (g : Option Nat) (p n : Int) (hp : 0 <= p ∧ p <= 97) : FnV 111 [.int .i64 n, .box g (.int .i64 p)] (.bool (!(decide (0 <= n ∧ n <= p - 1)))) := by
 refine ze (za [0, 1, 3]) Tryz.func111 rfl (by decide) Tryz.ntmps111 (lb rfl) λbase => ?_;refine wrs λK hK => ?_;conv=>whnf
 refine hK _ (wrs λK hK => ?_);conv=>whnf
 refine ⟨oo, ?_⟩;conv=>whnf
 refine zb rfl (zbl _ _ _) λhs' hhs => ?_;try dsimp only at hhs
 conv=>whnf
 refine hK _ (W.ret ?_);conv=>whnf
 exact ⟨.v (.bool (!(decide (0 <= n ∧ n <= p - 1)))), rfl, trivial, rfl⟩

theorem zaj {p : Int} (h : isP p = true) : 2 <= p ∧ p <= 97 := yU (of_decide_eq_true h)

theorem vn (g : Option Nat) (p : Int) (xs : List Int) : FnV 46 [.int .i64 p, .ints g xs] (.bool (bP (vm p xs))) := by
 refine ze (za [0, 1, 2, 4, 17]) Tryz.func46 rfl (by decide) Tryz.ntmps46 (lb rfl) λbase => ?_;refine wrs λK hK => ?_;conv=>whnf
 refine ⟨rfl, ?_⟩;conv=>whnf
 intro b_1 hs_1 hh_1 hf_1;try dsimp only at hh_1 hf_1
 conv=>whnf
 refine hK _ (W.seqK λK1 hK1 => wrs λK hK => ?_);conv=>whnf
 refine zb rfl (zas p) λhs' hhs => ?_;try dsimp only at hhs
 conv=>whnf
 refine ⟨λh => ?_, λh => ?_⟩ <;> conv=>whnf
 ·have h : isP p = false := by simpa using h
  refine hK _ (W.condT rfl ?_);clear hK;refine wrs λK hK => ?_;conv=>whnf
  refine hK _ (W.ret ?_);conv=>whnf
  exact ⟨.v (.bool (bP (vm p xs))), (by show bP _ = false; exact zf λhh => by rw [hh.1] at h; cases h), trivial, rfl⟩
 have h : isP p = true := by simpa using h
 have hp := zaj h;refine ⟨λh0 => ?_, λh0 => ?_⟩ <;> conv=>whnf
 ·have h0 := of_decide_eq_true h0;refine hK _ (W.condT rfl ?_);clear hK;refine wrs λK hK => ?_;conv=>whnf
  refine hK _ (W.ret ?_);conv=>whnf
  exact ⟨.v (.bool (bP (vm p xs))), (by show bP _ = false; exact zf λhh => by have := hh.2.1; omega), trivial, rfl⟩
 have h0 := of_decide_eq_false h0;refine zb rfl (zat g xs 111 [.box none (.int .i64 p)] (λi => !(decide (0 <= cf xs i ∧ cf xs i <= p - 1))) (by omega) (λi hi => zpK _ p _ (by omega))) λhs' hhs => ?_;try dsimp only at hhs
 conv=>whnf
 refine hK _ (W.cond ⟨λh1 => ?_, λh1 => ?_⟩) <;> clear hK
 ·have h1 := zd5.1 (zdf.1 h1);refine wrs λK hK => ?_;conv=>whnf
  refine hK _ (W.ret ?_);conv=>whnf
  exact ⟨.v (.bool (bP (vm p xs))), (by show bP _ = false; exact zf λhh => h1 hh.2.2.1), trivial, rfl⟩
 have h1 : zf6 0 (p - 1) xs := Classical.byContradiction λh' => zkC h1 (zd5.2 h');refine W.skip (hK1 _ ?_);clear hK1;refine wrs λK hK => ?_;conv=>whnf
 refine ⟨λh2 => ?_, λh2 => ?_⟩ <;> conv=>whnf
 ·have h2 := of_decide_eq_true h2;refine hK _ (W.ret ?_);conv=>whnf
  exact ⟨.v (.bool (bP (vm p xs))), (by show bP _ = true; exact zj ⟨h, by omega, h1, .inl (by omega)⟩), trivial, rfl⟩
 ·have h2 := of_decide_eq_false h2;have e1 : ((xs.length : Int) - 1).toNat = xs.length - 1 := by omega
  refine ⟨oo, ?_⟩;conv=>whnf
  refine ⟨oo, ?_⟩;conv=>whnf
  rw [e1];refine hK _ (W.ret ?_);conv=>whnf
  exact ⟨.v (.bool (bP (vm p xs))), (by show decide _ = bP _; by_cases h3 : cf xs (xs.length - 1) = 0; (rw [zf λhh => hh.2.2.2.elim (by omega) λh' => h' h3]; exact decide_eq_false λh' => h' h3); (rw [zj ⟨h, by omega, h1, .inr h3⟩]; exact decide_eq_true h3)), trivial, rfl⟩

theorem zbm (g : Option Nat) (p : Int) (xs : List Int) (hl : xs.length <= 1000000000) : FnV 188 [.int .i64 p, .ints g xs] (.bool (bP (vm p xs))) := by
 refine ze (za [0, 1, 4, 5, 13, 17, 27]) Tryz.func188 rfl (by decide) Tryz.ntmps188 (lb rfl) λbase => ?_;refine wrs λK hK => ?_;conv=>whnf
 refine hK _ (W.seqK λK0 hK0 => wrs λK hK => ?_);conv=>whnf
 refine zb rfl (vW p) λhs' hhs => ?_;try dsimp only at hhs
 conv=>whnf
 refine ⟨λh => ?_, λh => ?_⟩ <;> conv=>whnf
 ·have h : isP p = false := by simpa using h
  refine hK _ (W.condT rfl ?_);clear hK;refine wrs λK hK => ?_;conv=>whnf
  refine hK _ (W.ret ?_);conv=>whnf
  exact ⟨.v (.bool (bP (vm p xs))), (by show bP _ = false; exact zf λhh => by rw [hh.1] at h; cases h), trivial, rfl⟩
 have h : isP p = true := by simpa using h
 have hp := zaj h;refine hK _ (W.cond ⟨λh0 => ?_, λh0 => ?_⟩) <;> clear hK
 ·have h0 := of_decide_eq_true h0;refine wrs λK hK => ?_;conv=>whnf
  refine hK _ (W.ret ?_);conv=>whnf
  exact ⟨.v (.bool (bP (vm p xs))), (by show bP _ = false; exact zf λhh => by have := hh.2.1; omega), trivial, rfl⟩
 have h0 := of_decide_eq_false h0;refine W.skip (hK0 _ ?_);clear hK0;refine W.seqK λK1 hK1 => wrs λK hK => ?_;conv=>whnf
 refine hK _ (W.block (W.invA (λm e => ∃ k : Nat, k <= xs.length ∧ (∀ j, j < k -> 0 <= cf xs j ∧ cf xs j <= p - 1) ∧ m = xs.length - k ∧ e = [(0, .v (.int .i64 p)), (1, .v (.ints g xs)), (5, .v (.int .i64 k))]) ⟨0, Nat.zero_le _, λj hj => by omega, rfl, rfl⟩ ?_));clear hK;rintro m e ⟨k, h1, h2, hm, rfl⟩;refine W.seqK λK7 hK7 => wrs λK hK => ?_;conv=>whnf
 refine hK _ (W.cond ⟨λh3 => ?_, λh3 => ?_⟩) <;> clear hK <;> (first | replace h3 := of_decide_eq_true h3 | replace h3 := of_decide_eq_false h3)
 ·refine W.skip (hK7 _ ?_);clear hK7;refine W.seqK λK8 hK8 => W.block ?_;refine wrs λK hK => ?_;conv=>whnf
  refine ⟨oo, ?_⟩;conv=>whnf
  refine ⟨oo, ?_⟩;conv=>whnf
  rw [Int.toNat_natCast];refine zb rfl (kQ _ _ _) λhs' hhs => ?_;try dsimp only at hhs
  conv=>whnf
  refine hK _ (W.cond ⟨λh4 => ?_, λh4 => ?_⟩) <;> clear hK
  ·have h4 : ¬ (0 <= cf xs k ∧ cf xs k <= p - 1) := zhM h4;refine wrs λK hK => ?_;conv=>whnf
   refine hK _ (W.ret ?_);conv=>whnf
   exact ⟨.v (.bool (bP (vm p xs))), (by show bP _ = false; exact zf λhh => h4 (hh.2.2.1 k (by omega))), trivial, rfl⟩
  ·have h4 : 0 <= cf xs k ∧ cf xs k <= p - 1 := zfw h4;refine W.skip (hK8 _ ?_);clear hK8;refine wrg ?_;conv=>whnf
   refine ⟨oo, ?_⟩;conv=>whnf
   exact zk ⟨k + 1, by omega, λj hj => by by_cases h9 : j = k; (subst h9; exact h4); exact h2 j (by omega), rfl, rfl⟩
 ·obtain rfl : k = xs.length := by omega
  refine W.exit (hK1 _ ?_);clear hK7 hK1;have h1 : zf6 0 (p - 1) xs := h2;refine wrs λK hK => ?_;conv=>whnf
  refine ⟨λh2 => ?_, λh2 => ?_⟩ <;> conv=>whnf
  ·have h2 := of_decide_eq_true h2;refine hK _ (W.ret ?_);conv=>whnf
   exact ⟨.v (.bool (bP (vm p xs))), (by show bP _ = true; exact zj ⟨h, by omega, h1, .inl (by omega)⟩), trivial, rfl⟩
  ·have h2 := of_decide_eq_false h2;have e1 : ((xs.length : Int) - 1).toNat = xs.length - 1 := by omega
   refine ⟨oo, ?_⟩;conv=>whnf
   refine ⟨oo, ?_⟩;conv=>whnf
   rw [e1];refine hK _ (W.ret ?_);conv=>whnf
   exact ⟨.v (.bool (bP (vm p xs))), (by show decide _ = bP _; by_cases h3 : cf xs (xs.length - 1) = 0; (rw [zf λhh => hh.2.2.2.elim (by omega) λh' => h' h3]; exact decide_eq_false λh' => h' h3); (rw [zj ⟨h, by omega, h1, .inr h3⟩]; exact decide_eq_true h3)), trivial, rfl⟩

theorem zlE {p : Int} {xs : List Int} (h : vm p xs) : ∃ hp : p ∈ zY, letI := yL hp; ∃ f : Poly p, f.l = xs := by
 have hp : p ∈ zY := of_decide_eq_true h.1;refine ⟨hp, ?_⟩;letI := yL hp;refine ⟨⟨xs, ⟨λx hx => ?_, λn hn => ?_⟩⟩, rfl⟩
 ·obtain ⟨i, hi, rfl⟩ := List.getElem_of_mem hx;have h1 := h.2.2.1 i hi;rw [yK hi] at h1; omega
 ·rcases h.2.2.2 with h0 | h0
  ·omega
  ·rw [hn] at h0; exact h0


theorem zjp {p : Int} [SP p] {f : Poly p} (hf : f ≠ 0) {F : List (Poly p × Nat)} (hF : jO f F) : zbo F = bP (Irr f) := by
 by_cases h : Irr f
 ·rw [zj h, hF.unique (zkq h)]; rfl
 ·rw [zf h]
  match F, hF with
  | [], _ => rfl
  | [(h', 1)], hF => exact absurd (zkp hf hF) h
  | [(h', 0)], _ => rfl
  | [(h', n + 2)], _ =>
   show decide (((n + 2 : Nat) : Int) = 1) = false
   exact decide_eq_false (by omega)
  | _ :: _ :: l, _ =>
   unfold zbo;rw [decide_eq_false (by simp only [List.length_cons]; omega)]; rfl

theorem zdO (p : Int) [SP p] (g : Option Nat) (f : Poly p) (hf : dg f <= 13) (hf0 : f ≠ 0) : FnV 172 [.int .i64 p, .ints g f.l] (.bool (bP (Irr f))) :=
 (zdd p g f hf hf0).mono λ_ _ a ⟨F, hF, h⟩ => by rw [h, zjp hf0 hF]
theorem kT (p : Int) [SP p] (g : Option Nat) (f : Poly p) (hf : dg f <= 13) (hf0 : f ≠ 0) : FnV 189 [.int .i64 p, .ints g f.l] (.bool (bP (Irr f))) :=
 (zcE p g f hf hf0).mono λ_ _ a ⟨F, hF, h⟩ => by rw [h, zjp hf0 hF]

def zkE (xs : List Int) (q : Int) : Prop := ∃ h : q ∈ zY, cf xs (xs.length - 1) % q ≠ 0 ∧ (letI := yL h; Irr (of q xs))
structure ByOut (xs : List Int) (r c : Int) : Prop where
 bad : zkD xs ≠ 0 -> r = 0 ∧ c = zkD xs
 yes : zkD xs = 0 -> (2 <= r ∧ r <= 97 ∧ c = 0 ∧ zkE xs r ∧ ∀ q, 2 <= q -> q < r -> ¬ zkE xs q) ∨ (r = 0 ∧ c = 4 ∧ ∀ q, 2 <= q -> q <= 97 -> ¬ zkE xs q)

def marks (k : Int) (n : Nat) : List Int := mkL n λi => k + i
/- fields -/
abbrev vK (p : Int) (g : Option Nat) (l : List Int) : V := .agg [.int .i64 p, .ints g l]

def szL (n : Nat) : Int := if (1048576 : Int) - n < 0 then -1 else 1048576 - n
theorem zJ (tb : Tab) (b : Nat) {xs : List Int} (h : xs ≠ []) : zhW tb b xs b = some xs := by
 cases xs with
 | nil => exact absurd rfl h
 | cons x l => exact y8 ..

theorem zfx (tb : Tab) (b : Nat) {xs : List Int} {c : Nat} (h : xs = [] ∨ c ≠ b) : zhW tb b xs c = tb c := by
 cases xs with
 | nil => rfl
 | cons x l => exact xA _ _ (h.resolve_left (by simp))


def jh (xs : List Int) : Prop := 0 < xs.length ∧ cf xs (xs.length - 1) = 1

theorem zak (g : Option Nat) (xs : List Int) (hl : xs.length <= 1000000000) : FnV 116 [.ints g xs] (.bool (bP (jh xs))) := by
 refine ze (za [0, 2]) Tryz.func116 rfl (by decide) Tryz.ntmps116 (lb rfl) λbase => ?_;refine wrs λK hK => ?_;conv=>whnf
 refine hK _ (wrs λK hK => ?_);conv=>whnf
 refine ⟨λh => ?_, λh => ?_⟩ <;> conv=>whnf
 ·have h := of_decide_eq_true h;have e1 : ((xs.length : Int) - 1).toNat = xs.length - 1 := by omega
  refine ⟨oo, ?_⟩;conv=>whnf
  refine ⟨oo, ?_⟩;conv=>whnf
  rw [e1];refine hK _ (W.ret ?_);conv=>whnf
  refine ⟨.v (.bool (bP (jh xs))), ?_, trivial, rfl⟩;show decide (cf xs (xs.length - 1) = 1) = bP (jh xs)
  by_cases hc : cf xs (xs.length - 1) = 1
  ·rw [decide_eq_true hc, zj ⟨by omega, hc⟩]
  ·rw [decide_eq_false hc, zf λh' => hc h'.2]
 ·have h := of_decide_eq_false h;refine hK _ (W.ret ?_);conv=>whnf
  exact ⟨.v (.bool (bP (jh xs))), zf λh' => h (by have := h'.1; omega), trivial, rfl⟩

theorem ke (g : Option Nat) (xs : List Int) (hl : xs.length <= 1000000000) : FnV 145 [.ints g xs] (.bool (bP (jh xs))) := by
 refine ze (za [0, 2]) Tryz.func145 rfl (by decide) Tryz.ntmps145 (lb rfl) λbase => ?_;refine wrs λK hK => ?_;conv=>whnf
 refine hK _ (wrs λK hK => ?_);conv=>whnf
 refine ⟨λh => ?_, λh => ?_⟩ <;> conv=>whnf
 ·have h := of_decide_eq_true h;have e1 : ((xs.length : Int) - 1).toNat = xs.length - 1 := by omega
  refine ⟨oo, ?_⟩;conv=>whnf
  refine ⟨oo, ?_⟩;conv=>whnf
  rw [e1];refine hK _ (W.ret ?_);conv=>whnf
  refine ⟨.v (.bool (bP (jh xs))), ?_, trivial, rfl⟩;show decide (cf xs (xs.length - 1) = 1) = bP (jh xs)
  by_cases hc : cf xs (xs.length - 1) = 1
  ·rw [decide_eq_true hc, zj ⟨by omega, hc⟩]
  ·rw [decide_eq_false hc, zf λh' => hc h'.2]
 ·have h := of_decide_eq_false h;refine hK _ (W.ret ?_);conv=>whnf
  exact ⟨.v (.bool (bP (jh xs))), zf λh' => h (by have := h'.1; omega), trivial, rfl⟩

theorem zfy {p : Int} (h2 : 2 <= p) (h97 : p <= 97) {k : Nat} (hk : k <= 8) : 1 <= p ^ k ∧ p ^ k <= 7837433594376961 := by
 obtain ⟨n, rfl⟩ : ∃ n : Nat, p = n := ⟨p.toNat, by omega⟩
 have e : ((n : Int) ^ k) = ((n ^ k : Nat) : Int) := by simp
 rw [e];have h1 : n ^ k <= 97 ^ k := Nat.pow_le_pow_left (by omega) k;have h3 : 97 ^ k <= 97 ^ 8 := Nat.pow_le_pow_right (by omega) hk;have h4 : 0 < n ^ k := Nat.pow_pos (by omega);have h5 : (97 : Nat) ^ 8 = 7837433594376961 := by decide
 omega
theorem zpL {p : Int} (h2 : 2 <= p) (h97 : p <= 97) {k : Nat} (hk : k <= 8) : inR (p ^ k) := by
 have := zfy h2 h97 hk
 constructor <;> omega

theorem zjq (p : Int) (g : Option Nat) (l : List Int) (h2 : 2 <= p) (h97 : p <= 97) (hl : l.length <= 9) (hl1 : 1 <= l.length) : FnV 81 [vK p g l] (.int .i64 (p ^ (l.length - 1))) := by
 have e1 : ((l.length : Int) - 1) = ((l.length - 1 : Nat) : Int) := by omega
 refine ze (za [0, 1, 2]) Tryz.func81 rfl (by decide) Tryz.ntmps81 (lb rfl) λbase => ?_;refine wrs λK hK => ?_;conv=>whnf
 refine ⟨rfl, ?_⟩;conv=>whnf
 intro b_1 hs_1 hh_1 hf_1;try dsimp only at hh_1 hf_1
 conv=>whnf
 refine hK _ ?_;clear hK;refine W.rd (za _) follows (by rfl) λK hK => ?_;conv=>whnf
 refine ⟨_, cxF (jw g l (by omega)), ?_⟩;conv=>whnf
 rw [e1];refine ⟨_, cxF (zfo p (l.length - 1) (λk hk => zpL h2 h97 (by omega)) (by omega)), ?_⟩;conv=>whnf
 refine hK _ (W.ret ?_);conv=>whnf
 exact ⟨.v (.int .i64 (p ^ (l.length - 1))), ⟨rfl, rfl⟩, trivial, rfl⟩

def zfz (p : Int) (n : Nat) : Int := if p ^ n <= 20000 then p ^ n else 0

theorem zdE (p : Int) (n : Nat) (h2 : 2 <= p) (h97 : p <= 1000000) (hn : n <= 1000000) : FnV 143 [.int .i64 p, .int .i64 n] (.int .i64 (zfz p n)) := by
 refine ze (za [0, 1, 4, 5, 7, 14]) Tryz.func143 rfl (by decide) Tryz.ntmps143 (lb rfl) λbase => ?_;refine wrs λK hK => ?_;conv=>whnf
 refine hK _ (wrs λK hK => ?_);conv=>whnf
 refine hK _ ?_;clear hK;have hp0 : (1 : Int) = p ^ 0 := (Int.pow_zero p).symm
 have pmono : ∀ a b : Nat, a <= b -> p ^ a <= p ^ b := λa b hab => by
  obtain ⟨q, rfl⟩ : ∃ q : Nat, p = q := ⟨p.toNat, by omega⟩
  have h1 : q ^ a <= q ^ b := Nat.pow_le_pow_right (by omega) hab;have e : ∀ c : Nat, ((q : Int) ^ c) = ((q ^ c : Nat) : Int) := λc => by simp
  rw [e, e]; omega
 refine W.seqK λK1 hK1 => W.block (W.invA (λm e => ∃ k : Nat, k <= n ∧ p ^ k <= 20000 ∧ 1 <= p ^ k ∧ m = n - k ∧ e = [(0, .v (.int .i64 p)), (1, .v (.int .i64 ((n - k : Nat) : Int))), (5, .v (.int .i64 (p ^ k)))]) ⟨0, Nat.zero_le _, by simp, by simp, rfl, rfl⟩ ?_);rintro m e ⟨k, h1, h3, h4, hm, rfl⟩;refine W.seqK λK7 hK7 => wrs λK hK => ?_;conv=>whnf
 refine hK _ (W.cond ⟨λh5 => ?_, λh5 => ?_⟩) <;> clear hK <;> (first | replace h5 := of_decide_eq_true h5 | replace h5 := of_decide_eq_false h5)
 ·have hs : p ^ (k + 1) = p ^ k * p := Int.pow_succ ..;have hb : 0 <= p ^ k * p ∧ p ^ k * p <= 20000 * 1000000 := ⟨Int.mul_nonneg (by omega) (by omega), Int.mul_le_mul h3 h97 (by omega) (by omega)⟩
  have hb2 : p ^ k * 2 <= p ^ k * p := Int.mul_le_mul_of_nonneg_left h2 (by omega);refine W.skip (hK7 _ ?_);clear hK7;refine W.seqK λK8 hK8 => W.block ?_;refine wrs λK hK => ?_;conv=>whnf
  refine ⟨oo, ?_⟩;conv=>whnf
  refine hK _ (wrs λK hK => ?_);conv=>whnf
  refine hK _ (W.cond ⟨λh6 => ?_, λh6 => ?_⟩) <;> clear hK
  ·have h6 : 20000 < p ^ k * p := of_decide_eq_true h6;have h7 := pmono (k + 1) n (by omega);refine wrs λK hK => ?_;conv=>whnf
   refine hK _ (W.ret ?_);conv=>whnf
   exact ⟨.v (.int .i64 (zfz p n)), ⟨rfl, by unfold zfz; rw [if_neg (by omega)]⟩, trivial, rfl⟩
  ·have h6 : ¬ 20000 < p ^ k * p := of_decide_eq_false h6;refine W.skip (hK8 _ ?_);clear hK8;refine wrg ?_;conv=>whnf
   refine ⟨oo, ?_⟩;conv=>whnf
   refine ⟨_, _, ⟨k + 1, by omega, by omega, by omega, rfl, rfl⟩, by omega, by dsimp only; omega, ?_⟩;rw [hs];exact cvr
 ·obtain rfl : k = n := by omega
  refine W.exit (hK1 _ ?_);clear hK7 hK1;refine wrs λK hK => ?_;conv=>whnf
  refine hK _ (W.ret ?_);conv=>whnf
  exact ⟨.v (.int .i64 (zfz p k)), ⟨rfl, by unfold zfz; rw [if_pos h3]⟩, trivial, rfl⟩

structure IsFld (p : Int) (l : List Int) : Prop where
 mod : vm p l
 mon : jh l
 two : 2 <= l.length
 ord : p ^ (l.length - 1) <= 20000
 irr : ∃ h : p ∈ zY, letI := yL h; ∃ f : Poly p, f.l = l ∧ Irr f

theorem zlF {p : Int} [SP p] {f : Poly p} (hm : vm p f.l) (h2 : jh f.l) (h3 : 2 <= f.l.length) (h4 : p ^ (f.l.length - 1) <= 20000) : bP (IsFld p f.l) = bP (Irr f) := by
 refine zcF ⟨λh => ?_, λh => ⟨hm, h2, h3, h4, of_decide_eq_true hm.1, f, rfl, h⟩⟩;obtain ⟨h5, f', h6, h7⟩ := h.irr;have : f' = f := by cases f'; cases f; simp_all
 rw [<- this]; exact h7

theorem zbY (p : Int) (g : Option Nat) (l : List Int) (hl : l.length <= 1000000000) : FnV 117 [vK p g l] (.bool (bP (IsFld p l))) := by
 by_cases hm : vm p l
 case neg =>
  refine ze (za [0, 1, 2, 20]) Tryz.func117 rfl (by decide) Tryz.ntmps117 (lb rfl) λbase => ?_;refine wrs λK hK => ?_;conv=>whnf
  refine ⟨rfl, ?_⟩;conv=>whnf
  intro b_1 hs_1 hh_1 hf_1;try dsimp only at hh_1 hf_1
  conv=>whnf
  refine hK _ (W.seqK λK1 hK1 => wrs λK hK => ?_);conv=>whnf
  refine zb rfl ((vn g p l).fa (zf hm)) λhs' hhs => ?_;try dsimp only at hhs
  conv=>whnf
  refine hK _ (W.condT rfl ?_);clear hK;refine wrs λK hK => ?_;conv=>whnf
  refine hK _ (W.ret ?_);conv=>whnf
  exact ⟨.v (.bool (bP (IsFld p l))), zf λh => hm h.mod, trivial, rfl⟩
 by_cases h2 : jh l
 case neg =>
  refine ze (za [0, 1, 2, 20]) Tryz.func117 rfl (by decide) Tryz.ntmps117 (lb rfl) λbase => ?_;refine wrs λK hK => ?_;conv=>whnf
  refine ⟨rfl, ?_⟩;conv=>whnf
  intro b_1 hs_1 hh_1 hf_1;try dsimp only at hh_1 hf_1
  conv=>whnf
  refine hK _ (W.seqK λK1 hK1 => wrs λK hK => ?_);conv=>whnf
  refine zb rfl ((vn g p l).tr (zj hm)) λhs' hhs => ?_;try dsimp only at hhs
  conv=>whnf
  refine zb rfl ((zak g l hl).fa (zf h2)) λhs' hhs => ?_;try dsimp only at hhs
  conv=>whnf
  refine hK _ (W.condT rfl ?_);clear hK;refine wrs λK hK => ?_;conv=>whnf
  refine hK _ (W.ret ?_);conv=>whnf
  exact ⟨.v (.bool (bP (IsFld p l))), zf λh => h2 h.mon, trivial, rfl⟩
 obtain ⟨hp, f, rfl⟩ := zlE hm;letI := yL hp;have hple := yU hp;have hl9 := hm.2.1;have h1 := h2.1;have hfl : f.l.length = dg f := rfl;refine ze (za [0, 1, 2, 20]) Tryz.func117 rfl (by decide) Tryz.ntmps117 (lb rfl) λbase => ?_;refine wrs λK hK => ?_;conv=>whnf
 refine ⟨rfl, ?_⟩;conv=>whnf
 intro b_1 hs_1 hh_1 hf_1;try dsimp only at hh_1 hf_1
 conv=>whnf
 refine hK _ (W.seqK λK1 hK1 => wrs λK hK => ?_);conv=>whnf
 refine zb rfl ((vn g p f.l).tr (zj hm)) λhs' hhs => ?_;try dsimp only at hhs
 conv=>whnf
 refine zb rfl ((zak g f.l hl).tr (zj h2)) λhs' hhs => ?_;try dsimp only at hhs
 conv=>whnf
 refine zb rfl (jw g f.l (by omega)) λhs' hhs => ?_;try dsimp only at hhs
 conv=>whnf
 refine hK _ (W.cond ⟨λh3 => ?_, λh3 => ?_⟩) <;> clear hK
 ·have h3 := of_decide_eq_true h3;refine wrs λK hK => ?_;conv=>whnf
  refine hK _ (W.ret ?_);conv=>whnf
  exact ⟨.v (.bool (bP (IsFld p f.l))), zf λh => absurd h.two (by omega), trivial, rfl⟩
 have h3 := of_decide_eq_false h3;refine W.skip (hK1 _ ?_);clear hK1;refine wrs λK hK => ?_;conv=>whnf
 refine zb rfl (zjq p g f.l (by omega) (by omega) (by omega) (by omega)) λhs' hhs => ?_;try dsimp only at hhs
 conv=>whnf
 refine ⟨λh4 => ?_, λh4 => ?_⟩ <;> conv=>whnf
 ·have h4 := of_decide_eq_true h4;refine zb rfl (zdO p g f (by omega) (λe => by have := zd.2 e; omega)) λhs' hhs => ?_;try dsimp only at hhs
  conv=>whnf
  refine hK _ (W.ret ?_);conv=>whnf
  exact ⟨.v (.bool (bP (IsFld p f.l))), (zlF hm h2 (by omega) h4).symm, trivial, rfl⟩
 ·have h4 := of_decide_eq_false h4;refine hK _ (W.ret ?_);conv=>whnf
  exact ⟨.v (.bool (bP (IsFld p f.l))), zf λh => h4 h.ord, trivial, rfl⟩

theorem zjr (p : Int) (g : Option Nat) (l : List Int) (hl : l.length <= 1000000000) : FnV 146 [vK p g l] (.bool (bP (IsFld p l))) := by
 by_cases hm : vm p l
 case neg =>
  refine ze (za [0, 1, 2]) Tryz.func146 rfl (by decide) Tryz.ntmps146 (lb rfl) λbase => ?_;refine wrs λK hK => ?_;conv=>whnf
  refine ⟨rfl, ?_⟩;conv=>whnf
  intro b_1 hs_1 hh_1 hf_1;try dsimp only at hh_1 hf_1
  conv=>whnf
  refine hK _ (wrs λK hK => ?_);conv=>whnf
  refine zb rfl ((zbm g p l hl).fa (zf hm)) λhs' hhs => ?_;try dsimp only at hhs
  conv=>whnf
  refine hK _ (W.ret ?_);conv=>whnf
  exact ⟨.v (.bool (bP (IsFld p l))), zf λh => hm h.mod, trivial, rfl⟩
 by_cases h2 : 1 < (l.length : Int)
 case neg =>
  refine ze (za [0, 1, 2]) Tryz.func146 rfl (by decide) Tryz.ntmps146 (lb rfl) λbase => ?_;refine wrs λK hK => ?_;conv=>whnf
  refine ⟨rfl, ?_⟩;conv=>whnf
  intro b_1 hs_1 hh_1 hf_1;try dsimp only at hh_1 hf_1
  conv=>whnf
  refine hK _ (wrs λK hK => ?_);conv=>whnf
  refine zb rfl ((zbm g p l hl).tr (zj hm)) λhs' hhs => ?_;try dsimp only at hhs
  conv=>whnf
  refine ⟨λh3 => ?_, λh3 => ?_⟩ <;> conv=>whnf
  ·exact absurd (of_decide_eq_true h3) h2
  refine hK _ (W.ret ?_);conv=>whnf
  exact ⟨.v (.bool (bP (IsFld p l))), zf λh => h2 (by have := h.two; omega), trivial, rfl⟩
 by_cases h3 : jh l
 case neg =>
  refine ze (za [0, 1, 2]) Tryz.func146 rfl (by decide) Tryz.ntmps146 (lb rfl) λbase => ?_;refine wrs λK hK => ?_;conv=>whnf
  refine ⟨rfl, ?_⟩;conv=>whnf
  intro b_1 hs_1 hh_1 hf_1;try dsimp only at hh_1 hf_1
  conv=>whnf
  refine hK _ (wrs λK hK => ?_);conv=>whnf
  refine zb rfl ((zbm g p l hl).tr (zj hm)) λhs' hhs => ?_;try dsimp only at hhs
  conv=>whnf
  refine ⟨λh4 => ?_, λh4 => ?_⟩ <;> conv=>whnf
  ·refine zb rfl ((ke g l hl).fa (zf h3)) λhs' hhs => ?_;try dsimp only at hhs
   conv=>whnf
   refine hK _ (W.ret ?_);conv=>whnf
   exact ⟨.v (.bool (bP (IsFld p l))), zf λh => h3 h.mon, trivial, rfl⟩
  ·exact absurd h2 (of_decide_eq_false h4)
 obtain ⟨hp, f, rfl⟩ := zlE hm;letI := yL hp;have hple := yU hp;have hl9 := hm.2.1;have hfl : f.l.length = dg f := rfl;have e1 : ((f.l.length : Int) - 1) = ((f.l.length - 1 : Nat) : Int) := by omega
 refine ze (za [0, 1, 2]) Tryz.func146 rfl (by decide) Tryz.ntmps146 (lb rfl) λbase => ?_;refine wrs λK hK => ?_;conv=>whnf
 refine ⟨rfl, ?_⟩;conv=>whnf
 intro b_1 hs_1 hh_1 hf_1;try dsimp only at hh_1 hf_1
 conv=>whnf
 refine hK _ (wrs λK hK => ?_);conv=>whnf
 refine zb rfl ((zbm g p f.l hl).tr (zj hm)) λhs' hhs => ?_;try dsimp only at hhs
 conv=>whnf
 refine ⟨λh4 => ?_, λh4 => ?_⟩ <;> conv=>whnf
 ·refine zb rfl ((ke g f.l hl).tr (zj h3)) λhs' hhs => ?_;try dsimp only at hhs
  conv=>whnf
  refine ⟨oo, ?_⟩;conv=>whnf
  rw [e1];refine zb rfl (zdE p (f.l.length - 1) (by omega) (by omega) (by omega)) λhs' hhs => ?_;try dsimp only at hhs
  conv=>whnf
  refine ⟨λh5 => ?_, λh5 => ?_⟩ <;> conv=>whnf
  ·have h5 : 0 < zfz p (f.l.length - 1) := of_decide_eq_true h5
   have h6 : p ^ (f.l.length - 1) <= 20000 := by
    unfold zfz at h5
    by_cases h7 : p ^ (f.l.length - 1) <= 20000
    ·exact h7
    ·rw [if_neg h7] at h5; omega
   refine zb rfl (kT p g f (by omega) (λe => by have := zd.2 e; omega)) λhs' hhs => ?_;try dsimp only at hhs
   conv=>whnf
   refine hK _ (W.ret ?_);conv=>whnf
   exact ⟨.v (.bool (bP (IsFld p f.l))), (zlF hm h3 (by omega) h6).symm, trivial, rfl⟩
  ·have h5 : ¬ 0 < zfz p (f.l.length - 1) := of_decide_eq_false h5
   have h6 : ¬ p ^ (f.l.length - 1) <= 20000 := λh7 => by
    unfold zfz at h5;rw [if_pos h7] at h5;have := (zfy (p := p) (by omega) (by omega) (k := f.l.length - 1) (by omega)).1;omega
   refine hK _ (W.ret ?_);conv=>whnf
   exact ⟨.v (.bool (bP (IsFld p f.l))), zf λh => h6 h.ord, trivial, rfl⟩
 ·exact absurd h2 (of_decide_eq_false h4)


def zal (Q : Nat -> Prop) (a b : Nat) : Option Nat -> Prop
 | some m => a <= m ∧ m < b ∧ Q m ∧ ∀ k, a <= k -> k < m -> ¬ Q k
 | none => ∀ k, a <= k -> k < b -> ¬ Q k
theorem zal.unique {Q : Nat -> Prop} {a b : Nat} {r r' : Option Nat} (h : zal Q a b r) (h' : zal Q a b r') : r = r' := by
 cases r with
 | none => cases r' with
  | none => rfl
  | some m => exact absurd h'.2.2.1 (h m h'.1 h'.2.1)
 | some m => cases r' with
  | none => exact absurd h.2.2.1 (h' m h.1 h.2.1)
  | some m' =>
   obtain ⟨h1, h2, h3, h4⟩ := h;obtain ⟨k1, k2, k3, k4⟩ := h';rcases Nat.lt_trichotomy m m' with h5 | h5 | h5
   ·exact absurd h3 (k4 m h1 h5)
   ·rw [h5]
   ·exact absurd k3 (h4 m' k1 h5)
theorem zcG (Q : Nat -> Prop) (a b : Nat) : ∃ r, zal Q a b r := by
 have go : ∀ n, (∀ k, a <= k -> k < a + n -> k < b -> ¬ Q k) ∨ ∃ m, a <= m ∧ m < b ∧ Q m ∧ ∀ k, a <= k -> k < m -> ¬ Q k := by
  intro n
  induction n with
  | zero => exact .inl λk h1 h2 _ => by omega
  | succ n ih =>
   rcases ih with h | h
   ·by_cases hq : a + n < b ∧ Q (a + n)
    ·exact .inr ⟨a + n, by omega, hq.1, hq.2, λk h1 h2 => h k h1 h2 (by omega)⟩
    ·exact .inl λk h1 h2 h3 hk => by
      by_cases h4 : k = a + n
      ·subst h4; exact hq ⟨h3, hk⟩
      ·exact h k h1 (by omega) h3 hk
   ·exact .inr h
 rcases go b with h | ⟨m, h⟩
 ·exact ⟨none, λk h1 h2 => h k h1 (by omega) h2⟩
 ·exact ⟨some m, h⟩
def zjs (p : Nat) : Option Nat -> List Int
 | some m => dig p m
 | none => []

theorem zfA (p n a b : Int) : FnV 222 [.int .i64 p, .int .i64 n, .int .i64 a, .int .i64 b] (.int .i64 (if isP p = true then (if a <= n ∧ n <= b then 0 else 2) else 1)) := by
 refine ze (za [0, 1, 2, 3, 8, 11, 16]) Tryz.func222 rfl (by decide) Tryz.ntmps222 (lb rfl) λbase => ?_;refine wrs λK hK => ?_;conv=>whnf
 refine hK _ (W.seqK λK1 hK1 => wrs λK hK => ?_);conv=>whnf
 refine zb rfl (vW p) λhs' hhs => ?_;try dsimp only at hhs
 conv=>whnf
 refine hK _ (W.cond ⟨λh => ?_, λh => ?_⟩) <;> clear hK
 ·have h : ¬ isP p = true := by simpa using h
  refine wrs λK hK => ?_;conv=>whnf
  refine hK _ (W.ret ?_);conv=>whnf
  exact ⟨.v (.int .i64 (if isP p = true then (if a <= n ∧ n <= b then 0 else 2) else 1)), ⟨rfl, by rw [if_neg h]⟩, trivial, rfl⟩
 have h : isP p = true := by simpa using h
 refine W.skip (hK1 _ ?_);clear hK1;refine W.seqK λK1 hK1 => wrs λK hK => ?_;conv=>whnf
 refine zb rfl (kQ _ _ _) λhs' hhs => ?_;try dsimp only at hhs
 conv=>whnf
 refine hK _ (W.cond ⟨λh2 => ?_, λh2 => ?_⟩) <;> clear hK
 ·have h2 := zhM h2;refine wrs λK hK => ?_;conv=>whnf
  refine hK _ (W.ret ?_);conv=>whnf
  exact ⟨.v (.int .i64 (if isP p = true then (if a <= n ∧ n <= b then 0 else 2) else 1)), ⟨rfl, by rw [if_pos h, if_neg h2]⟩, trivial, rfl⟩
 have h2 := zfw h2;refine W.skip (hK1 _ ?_);clear hK1;refine wrs λK hK => ?_;conv=>whnf
 refine hK _ (W.ret ?_);conv=>whnf
 exact ⟨.v (.int .i64 (if isP p = true then (if a <= n ∧ n <= b then 0 else 2) else 1)), ⟨rfl, by rw [if_pos h, if_pos h2]⟩, trivial, rfl⟩

theorem zfB (p : Int) [SP p] (g : Option Nat) (d k : Nat) (hd1 : 1 <= d) (hd : d <= 4) (hk1 : p.toNat ^ d <= k) (hk2 : k < 2 * p.toNat ^ d) (r : Option Nat) (hr : zal (λn => Irr (xv p n)) k (2 * p.toNat ^ d) r) :
  FnV 202 [.int .i64 p, .ints g (dig p.toNat k)] (.ints none (zjs p.toNat r)) := by
 have hp := Pr.two (p := p);have hp2 := SP.le (p := p);have hpn : ((p.toNat : Nat) : Int) = p := by omega
 have htop := λn h1 h2 => zn5 (p := p.toNat) (d := d) (k := n) (by omega) h1 h2;have htl := λn h1 h2 => (htop n h1 h2).len;have hbp : 0 < p.toNat ^ d := Nat.pow_pos (by omega);generalize hB : p.toNat ^ d = B at hk1 hk2 hr htop htl hbp;refine ze (za [0, 1, 4, 5, 6, 11, 26, 36]) Tryz.func202 rfl (by decide) Tryz.ntmps202 (lb rfl) λbase => ?_;refine wrs λK hK => ?_;conv=>whnf
 refine hK _ (wrs λK hK => ?_);conv=>whnf
 refine zr rfl (zdb g (dig p.toNat k) (by rw [htl k hk1 hk2]; omega)) λhs_1 b_1 hh_1 hf_1 => ?_;try dsimp only at hh_1 hf_1
 conv=>whnf
 refine hK _ ?_;clear hK;refine W.block (W.invE (λm e => ∃ n b : Nat, k <= n ∧ n < 2 * B ∧ (∀ j, k <= j -> j < n -> ¬ Irr (xv p j)) ∧ m = 2 * B - n ∧ e = [(0, .v (.int .i64 p)), (5, .ownI 2 b (dig p.toNat n))]) _ _ ⟨k, b_1, Nat.le_refl _, hk2, λj h1 h2 => by omega, rfl, rfl⟩ (by dsimp only; omega) (by repeat' first | refine And.intro ?_ ?_ | exact trivial | rfl | omega) ?_);rintro m e ⟨n, b, hn1, hn2, hn3, hm, rfl⟩;have hT := htop n (by omega) hn2;have hl := hT.len;have hnum : num p.toNat (dig p.toNat n) = n := zhr (by omega) n;have hN : dig p.toNat n = (xv p n).l := (zbk n).symm;have hNd : (xv p n).l.length = dg (xv p n) := rfl
 have hcd : ∀ j, j < d + 1 -> 0 <= cf (dig p.toNat n) j ∧ cf (dig p.toNat n) j < p := λj hj => by
  have := hT.digs _ (List.getElem_mem (l := dig p.toNat n) (n := j) (by omega));rw [<- yK (by omega), hpn] at this; exact this
 generalize hl0 : dig p.toNat n = l at hT hl hnum hN hcd;refine W.block ?_;refine W.seqK λK2 hK2 => wrs λK hK => ?_;conv=>whnf
 rw [hN];refine zb rfl (kT p _ (xv p n) (by rw [hN] at hl; omega) (zi6 (by omega))) λhs' hhs => ?_;try dsimp only at hhs
 conv=>whnf
 refine hK _ (W.cond ⟨λh => ?_, λh => ?_⟩) <;> clear hK
 ·have h := zdf.1 h;obtain rfl := hr.unique (r' := some n) ⟨hn1, hn2, h, hn3⟩;have ho : zjs p.toNat (some n) = (xv p n).l := by show dig p.toNat n = _; rw [hl0, hN]
  rw [ho];refine wrs λK hK => ?_;conv=>whnf
  refine hK _ (W.ret ?_);conv=>whnf
  exact ⟨.v (.ints none (xv p n).l), ⟨rfl, rfl⟩, trivial, rfl⟩
 have h := zkC h;rw [<- hN];refine W.skip (hK2 _ ?_);clear hK2;refine wrs λK hK => ?_;conv=>whnf
 refine hK _ ?_;clear hK;refine W.seqK λK1 hK1 => W.block (W.invA (λm e => ∃ (i b : Nat) (o : List Int), i <= d ∧ (∀ j, j < i -> cf l j = p - 1) ∧ o.length = d + 1 ∧ (∀ j, cf o j = if j < i then 0 else cf l j) ∧ m = d - i ∧ e = [(0, .v (.int .i64 p)), (5, .ownI 2 b o), (6, .v (.int .i64 i))]) ⟨0, b, l, Nat.zero_le _, λj hj => by omega, hl, λj => by rw [if_neg (by omega)], rfl, rfl⟩ ?_);clear b hl0;rintro m2 e ⟨i, b, o, hi, h9, hol, ho, hm2, rfl⟩
 -- the carry is at its end
 have fin : ∀ s : S, base <= s.hs -> (i < d -> cf l i < p - 1) -> zB s.env [(0, .v (.int .i64 p)), (5, .ownI 2 b o), (6, .v (.int .i64 i))] -> K1 s := by
  intro s h5 h6 h7;refine hK1 _ (W.weak (t := ⟨[(0, .v (.int .i64 p)), (5, .ownI 2 b o), (6, .v (.int .i64 i))], base⟩) ⟨h5, h7⟩ (Nat.le_refl _) ?_);clear hK1;refine W.seqK λK1 hK1 => wrs λK hK => ?_;conv=>whnf
  rw [hol];refine ⟨oo, ?_⟩;conv=>whnf
  refine hK _ (W.cond ⟨λh8 => ?_, λh8 => ?_⟩) <;> clear hK
  ·have h8 := of_decide_eq_true h8;obtain rfl : i = d := by omega
   have ht := zn7 (p := p.toNat) (by omega) hT (λj hj => by rw [hpn]; exact h9 j hj);rw [hB, hnum] at ht
   obtain rfl := hr.unique (r' := none) λj h1 h2 => by
    by_cases h3 : j = n
    ·subst h3; exact h
    ·exact hn3 j h1 (by omega)
   refine wrs λK hK => ?_;conv=>whnf
   refine hK _ (W.ret ?_);conv=>whnf
   exact ⟨.v (.ints none []), rfl, trivial, rfl⟩
  ·have h8 := of_decide_eq_false h8;have hid : i < d := by omega
   have hci := hcd i (by omega);have hoi : o.getD i 0 = cf l i := by have := ho i; rw [if_neg (by omega)] at this; exact this
   obtain ⟨hT', hn'⟩ := zn6 (p := p.toNat) (by omega) hT (i := i) hid (λj hj => by rw [hpn]; exact h9 j hj) (by rw [hpn]; exact h6 hid) (o := o.set i (cf l i + 1)) (by simpa using hol) (λj => by
    rw [z6 (by omega), ho]
    by_cases h3 : j = i
    ·subst h3; rw [if_pos rfl, if_neg (by omega), if_pos rfl]
    ·rw [if_neg h3]; by_cases h4 : j < i
     ·rw [if_pos h4, if_pos h4]
     ·rw [if_neg h4, if_neg h4, if_neg h3])
   have hr' := hT'.range (by omega);rw [hn', hnum, hB] at hr';have hdo : dig p.toNat (n + 1) = o.set i (cf l i + 1) := by rw [<- hnum, <- hn']; exact hT'.dig (by omega)
   refine W.skip (hK1 _ ?_);clear hK1;refine wrg ?_;conv=>whnf
   refine ⟨oo, ?_⟩;conv=>whnf
   rw [Int.toNat_natCast, hoi];refine ⟨oo, ?_⟩;conv=>whnf
   refine ⟨oo, ?_⟩;conv=>whnf
   rw [Int.toNat_natCast, <- hdo];exact zk ⟨n + 1, b, by omega, by omega, λj h1 h2 => by by_cases h3 : j = n; (subst h3; exact h); exact hn3 j h1 (by omega), rfl, rfl⟩
 clear hK1;refine W.seqK λK7 hK7 => wrs λK hK => ?_;conv=>whnf
 rw [hol];refine ⟨oo, ?_⟩;conv=>whnf
 refine ⟨λh3 => ?_, λh3 => ?_⟩ <;> conv=>whnf
 ·have h3 := of_decide_eq_true h3;have hci := hcd i (by omega);have hoi : o.getD i 0 = cf l i := by have := ho i; rw [if_neg (by omega)] at this; exact this
  refine ⟨oo, ?_⟩;conv=>whnf
  rw [Int.toNat_natCast, hoi];refine ⟨oo, ?_⟩;conv=>whnf
  refine hK _ (W.cond ⟨λh4 => ?_, λh4 => ?_⟩) <;> clear hK
  ·have h4 : cf l i = p - 1 := of_decide_eq_true h4;clear fin;refine W.skip (hK7 _ (W.block ?_));clear hK7;refine wrs λK hK => ?_;conv=>whnf
   refine ⟨oo, ?_⟩;conv=>whnf
   rw [Int.toNat_natCast];refine hK _ ?_;clear hK;refine wrg ?_;conv=>whnf
   refine ⟨oo, ?_⟩;conv=>whnf
   exact zk ⟨i + 1, b, o.set i 0, by omega, λj hj => by by_cases h5 : j = i; (subst h5; omega); exact h9 j (by omega), by simpa using hol, λj => by rw [z6 (by omega), ho]; by_cases h5 : j = i; (subst h5; rw [if_pos rfl, if_pos (by omega)]); (rw [if_neg h5]; by_cases h6 : j < i; (rw [if_pos h6, if_pos (by omega)]); (rw [if_neg h6, if_neg (by omega)])), rfl, rfl⟩
  ·have h4 : ¬ cf l i = p - 1 := of_decide_eq_false h4;refine W.exit (fin _ (by dsimp only; omega) (λ_ => by omega) ?_);clear fin hK7;exact cvr
 ·have h3 := of_decide_eq_false h3;refine hK _ (W.condF rfl ?_);clear hK;refine W.exit (fin _ (by dsimp only; omega) (λh5 => by omega) ?_);clear fin hK7;exact cvr


theorem zoE (p : Int) [SP p] (g g' : Option Nat) (F G : Poly p) (hF : dg F <= 1000000) (hG : dg G <= 1000000) (hG0 : G ≠ 0) : FnT Tryz.prog 182 [.int .i64 p, .ints g F.l, .ints g' G.l]
  (λ_ _ x tb => ∃ b0 b1 : Nat, x = .tup [.rf b0 (quo F G).l.length, .rf b1 (rem F G).l.length] ∧ ((quo F G).l ≠ [] -> tb b0 = some (quo F G).l) ∧ ((rem F G).l ≠ [] -> tb b1 = some (rem F G).l) ∧ ((quo F G).l ≠ [] -> (rem F G).l ≠ [] -> b0 ≠ b1)) := by
 have hp := Pr.two (p := p);have hp2 := SP.le (p := p);have hFl : F.l.length = dg F := rfl;have hGl : G.l.length = dg G := rfl;have hm0 : dg G ≠ 0 := λe => hG0 (zd.1 e);have hlead : cf G.l (dg G - 1) % p ≠ 0 := ym (yM (by omega));have hmx : (max (0 : Int) ((dg F : Int) - dg G + 1)) = ((dg F + 1 - dg G : Nat) : Int) := by omega
 have hiv := xr hlead;refine y6 (zg [] [0, 1, 2, 6, 7, 8, 9, 10, 11, 12, 13, 36, 54, 55, 56, 57, 1000000]) Tryz.func182 rfl (by decide) Tryz.ntmps182 (lb rfl) (λbase => ?_) (lb rfl);refine W.sw (c' := cx [0, 1, 2, 6, 7, 8, 9, 10, 11, 12, 13, 36, 54, 55, 56, 57, 1000000]) ?_;refine wrs λK hK => ?_;conv=>whnf
 refine hK _ (wrs λK hK => ?_);conv=>whnf
 refine zr rfl (zaY _ _ (by omega)) λhs_0 b_0 hh_0 hf_0 => ?_;try dsimp only at hh_0 hf_0
 conv=>whnf
 refine hK _ (wrs λK hK => ?_);conv=>whnf
 rw [hFl, hGl];refine ⟨oo, ?_⟩;conv=>whnf
 refine ⟨oo, ?_⟩;conv=>whnf
 rw [hmx];refine ⟨rfl, ?_⟩;conv=>whnf
 refine ⟨oo, ?_⟩;conv=>whnf
 generalize hnq : dg F + 1 - dg G = nq;rw [Int.toNat_natCast];intro b_q hs_q hh_q hf_q;try dsimp only at hh_q hf_q
 conv=>whnf
 refine hK _ (wrs λK hK => ?_);conv=>whnf
 rw [hGl];refine ⟨oo, ?_⟩;conv=>whnf
 refine ⟨oo, ?_⟩;conv=>whnf
 have e0 : ((dg G : Int) - 1).toNat = dg G - 1 := by omega
 rw [e0];refine zb rfl (vj p _ (by have := jT G (dg G - 1); show _ <= cf G.l (dg G - 1) ∧ cf G.l (dg G - 1) <= _; omega) hlead) λhs' hhs => ?_;try dsimp only at hhs
 conv=>whnf
 generalize hlast : yA p (cf G.l (dg G - 1)) = last at hiv;refine hK _ (W.seqK λK1 hK1 => wrs λK hK => ?_);conv=>whnf
 rw [List.length_replicate];refine ⟨oo, ?_⟩;conv=>whnf
 refine hK _ (W.block (W.invA (λm e => ∃ (k b b' : Nat) (r q : List Int), k <= nq ∧ DivI p F G nq k r q ∧ m = k ∧ e = [(vt, .tab λ_ => none), (0, .v (.int .i64 p)), (2, .v (.ints g' G.l)), (8, .ownI 2 b r), (9, .ownI 2 b' q), (10, .v (.int .i64 last)), (11, .v (.int .i64 ((k : Int) - 1)))]) ⟨nq, b_0, b_q, F.l, List.replicate nq 0, Nat.le_refl _, DivI.start F G (by omega), rfl, rfl⟩ ?_));clear hK;rintro m e ⟨k', b, b', r, q, hk, hd, hm, rfl⟩;refine W.seqK λK7 hK7 => wrs λK hK => ?_;conv=>whnf
 refine hK _ (W.cond ⟨λh => ?_, λh => ?_⟩) <;> clear hK <;> (first | replace h := of_decide_eq_true h | replace h := of_decide_eq_false h)
 ·refine W.skip (hK7 _ ?_);clear hK7;refine W.seqK λK8 hK8 => W.block ?_;obtain ⟨k, rfl⟩ : ∃ k, k' = k + 1 := ⟨k' - 1, by omega⟩
  have hrl := hd.rl;have hql := hd.ql;have e1 : (((k + 1 : Nat) : Int) - 1) = k := by omega
  have e2 : ((k : Int) + dg G - 1).toNat = k + dg G - 1 := by omega
  rw [e1];have h1 := hd.rr (k + dg G - 1);generalize hc : cf r (k + dg G - 1) * last % p = c;have hcr : 0 <= c ∧ c < p := by rw [<- hc]; exact ⟨Int.emod_nonneg _ (by omega), Int.emod_lt_of_pos _ (by omega)⟩
  have h2 := zdx (a := cf r (k + dg G - 1)) (b := last) (by omega) (by omega);have h3 : 0 <= cf r (k + dg G - 1) * last := Int.mul_nonneg (by omega) (by omega);have hcm : (cf r (k + dg G - 1) * last).tmod p = c := by rw [<- hc]; exact Int.tmod_eq_emod_of_nonneg h3
  refine wrs λK hK => ?_;conv=>whnf
  rw [hGl];refine ⟨oo, ?_⟩;conv=>whnf
  refine ⟨oo, ?_⟩;conv=>whnf
  refine ⟨oo, ?_⟩;conv=>whnf
  rw [e2];refine ⟨by show _ <= cf r (k + dg G - 1) * last ∧ cf r (k + dg G - 1) * last <= _; omega, ?_⟩;conv=>whnf
  refine ⟨by omega, ?_⟩;conv=>whnf
  refine ⟨oo, ?_⟩;conv=>whnf
  have e3 : (r.getD (k + dg G - 1) 0 * last).tmod p = c := hcm;rw [Int.toNat_natCast, e3];refine hK _ (wrs λK hK => ?_);conv=>whnf
  rw [hGl];refine hK _ (W.block (W.invE (λm e => ∃ (i b : Nat) (o : List Int), i <= dg G ∧ o.length = dg F ∧ (∀ j, cf o j = if k <= j ∧ j < k + i then (cf r j - c * cf G.l (j - k)) % p else cf r j) ∧ m = dg G - i ∧ e = [(vt, .tab λ_ => none), (0, .v (.int .i64 p)), (2, .v (.ints g' G.l)), (8, .ownI 2 b o), (9, .ownI 2 b' (q.set k c)), (10, .v (.int .i64 last)), (11, .v (.int .i64 k)), (54, .v (.ints g' G.l)), (55, .v (.int .i64 (dg G))), (56, .v (.int .i64 i))]) _ _ ⟨0, b, r, Nat.zero_le _, hrl, λj => by rw [if_neg (by omega)], rfl, rfl⟩ (by dsimp only; omega) (by repeat' first | refine And.intro ?_ ?_ | exact trivial | rfl | omega | assumption | exact λ_ _ h => h) ?_));clear hK b;rintro m' e ⟨i, b, o, h5, h6, h7, hm', rfl⟩;refine wrs λK hK => ?_;conv=>whnf
  refine hK _ ?_;clear hK;refine W.seqK λK7 hK7 => W.cond ⟨λh8 => ?_, λh8 => ?_⟩ <;> (first | replace h8 := of_decide_eq_true h8 | replace h8 := of_decide_eq_false h8)
  ·refine W.skip (hK7 _ ?_);clear hK7;refine W.seqK λK9 hK9 => W.block ?_;have h8 : i < dg G := by omega
   refine wrs λK hK => ?_;conv=>whnf
   refine ⟨oo, ?_⟩;conv=>whnf
   rw [Int.toNat_natCast];refine hK _ ?_;clear hK;obtain ⟨h9, h10⟩ := zaS (p := p) (c := c) (g := cf G.l) (r := r) (o := o) (k := k) (i := i) h6 (by omega) h7;have h11 := hd.rr (k + i);have h12 := jT G i;have h13 := zdx (a := c) (b := cf G.l i) (by omega) h12;have e4 : ((k : Int) + i).toNat = k + i := by omega
   have e5 : (q.set k c).getD k 0 = c := by
    have := z6 (l := q) (i := k) (by omega) c k;rw [if_pos rfl] at this; exact this
   refine W.draw (za _) follows (by rfl) ?_;conv=>whnf
   refine ⟨oo, ?_⟩;conv=>whnf
   refine ⟨oo, ?_⟩;conv=>whnf
   refine ⟨oo, ?_⟩;conv=>whnf
   rw [e4];refine ⟨⟨by omega, by simp; omega⟩, ?_⟩;conv=>whnf
   rw [Int.toNat_natCast, e5];refine ⟨by show _ <= c * cf G.l i ∧ c * cf G.l i <= _; omega, ?_⟩;conv=>whnf
   refine ⟨by show _ <= cf o (k + i) - c * cf G.l i ∧ cf o (k + i) - c * cf G.l i <= _; omega, ?_⟩;conv=>whnf
   refine ⟨_, cxF (zah _ p (by omega) (by show _ <= cf o (k + i) - c * cf G.l i ∧ cf o (k + i) - c * cf G.l i <= _; omega) (by omega)), ?_⟩;conv=>whnf
   refine ⟨oo, ?_⟩;conv=>whnf
   refine hK9 _ ?_;clear hK9;refine wrg ?_;conv=>whnf
   refine ⟨oo, ?_⟩;conv=>whnf
   exact zk ⟨i + 1, b, o.set (k + i) ((cf o (k + i) - c * cf G.l i) % p), by omega, by simpa using h6, h10, rfl, rfl⟩
  ·obtain rfl : i = dg G := by omega
   refine W.exit (hK8 _ ?_);clear hK7 hK8;refine wrg ?_;conv=>whnf
   refine ⟨oo, ?_⟩;conv=>whnf
   exact zk ⟨k, b, b', o, q.set k c, by omega, hd.step hG0 (by omega) c (by rw [hlast]; exact hc.symm) (by omega) h7, rfl, rfl⟩
 ·refine W.exit (hK1 _ ?_);clear hK7 hK1;obtain rfl : k' = 0 := by omega
  obtain ⟨h1, h2⟩ := hd.fin hG0;have hrl := hd.rl;have hql := hd.ql;refine wrs λK hK => ?_;conv=>whnf
  refine zr rfl (vN _ _ (by omega)) λhs_1 b_1 hh_1 hf_1 => ?_;try dsimp only at hh_1 hf_1
  conv=>whnf
  refine zr rfl (vN _ _ (by omega)) λhs_2 b_2 hh_2 hf_2 => ?_;try dsimp only at hh_2 hf_2
  conv=>whnf
  refine hK _ ?_;clear hK;rw [h1, h2];have hf_1 := hf_1;rw [h1] at hf_1;rw [h2] at hf_2;have hd : (quo F G).l ≠ [] -> (rem F G).l ≠ [] -> b_1 ≠ b_2 := λe1 e2 => by have := hf_1 e1; have := hf_2 e2; omega
  refine W.give 6 λK hK => ?_;conv=>whnf
  refine hK _ ?_;clear hK;refine W.give 7 λK hK => ?_;conv=>whnf
  refine hK _ (W.ret ?_);conv=>whnf
  refine ⟨.v (.rf b_1 (quo F G).l.length), rfl, trivial, .v (.rf b_2 (rem F G).l.length), rfl, trivial, b_1, b_2, rfl, λh => ?_, λh => zJ _ _ h, hd⟩
  by_cases h3 : (rem F G).l = []
  ·rw [h3]; exact zJ _ _ h
  ·exact (zfx _ _ (.inr (hd h h3))).trans (zJ _ _ h)

theorem zdF (p : Int) [SP p] (g g' : Option Nat) (F G : Poly p) (hF : dg F <= 1000000) (hG : dg G <= 1000000) (hG0 : G ≠ 0) : FnT Tryz.prog 152 [.int .i64 p, .ints g F.l, .ints g' G.l]
  (λ_ _ x tb => ∃ b : Nat, x = .rf b (rem F G).l.length ∧ ((rem F G).l ≠ [] -> tb b = some (rem F G).l)) := by
 refine y6 (zg [182] [0, 1, 2, 6, 8, 1000000]) Tryz.func152 rfl (by decide) Tryz.ntmps152 (lb rfl) (λbase => ?_) (lb rfl);refine W.rs (zg _ _) (by rfl) λK hK => ?_;conv=>whnf
 refine hK _ ?_;clear hK;refine W.rs (zg _ _) (by rfl) λK hK => ?_;conv=>whnf
 refine ⟨_, cxT (zoE p g g' F G hF hG hG0), λlo_q hi_q hs_q x_q tn_q tb_q hl1_q hl2_q _ hp_q hf_q hn_q ho_q => ?_⟩;try dsimp only at hl1_q hl2_q
 obtain ⟨b0, b1, rfl, hq0, hq1, _⟩ := hp_q;conv=>whnf
 refine hK _ ?_;clear hK;refine W.rs (zg _ _) (by rfl) λK hK => ?_;conv=>whnf
 refine hK _ (W.ret ?_);conv=>whnf
 exact ⟨.v (.rf b1 (rem F G).l.length), rfl, trivial, b1, rfl, λh => hn_q _ _ (hq1 h)⟩

theorem zmG (p : Int) [SP p] (g g' : Option Nat) (a f : Poly p) (n0 : Nat) (hn : n0 <= 1000000000000) (ha : dg a <= 1000000) (hf : dg f <= 500) (hf0 : f ≠ 0) : FnT Tryz.prog 185 [.int .i64 p, .ints g a.l, .int .i64 n0, .ints g' f.l]
  (λ_ _ x tb => ∃ b : Nat, x = .rf b (rem (a ^ n0) f).l.length ∧ ((rem (a ^ n0) f).l ≠ [] -> tb b = some (rem (a ^ n0) f).l)) := by
 have hfd : dg f ≠ 0 := λe => hf0 (zd.1 e);refine y6 (zg [152] [0, 1, 2, 3, 8, 9, 19, 24, 1000000]) Tryz.func185 rfl (by decide) Tryz.ntmps185 (lb rfl) (λbase => ?_) (lb rfl);refine W.rs (zg _ _) (by rfl) λK hK => ?_;conv=>whnf
 refine hK _ ?_;clear hK;refine W.rs (zg _ _) (by rfl) λK hK => ?_;conv=>whnf
 refine ⟨⟨rfl, by decide⟩, ?_⟩;conv=>whnf
 intro b_1 hs_1 hh_1 hf_1;try dsimp only at hh_1 hf_1
 conv=>whnf
 have e1 : [(1 : Int)] = (1 : Poly p).l := ziZ.symm;rw [e1];refine ⟨_, cxT (zdF p _ g' 1 f (by rw [yT]; omega) (by omega) hf0), λlo_o hi_o hs_o x_o tn_o tb_o hl1_o hl2_o _ hp_o hf_o hn_o ho_o => ?_⟩;try dsimp only at hl1_o hl2_o
 obtain ⟨bo, rfl, ho⟩ := hp_o;conv=>whnf
 refine hK _ ?_;clear hK;refine W.sw (c' := cxt [] [0, 1, 2, 3, 8, 9, 19, 24, 1000000]) ?_;refine W.rs (zg _ _) (by rfl) λK hK => ?_;conv=>whnf
 refine zb rfl (yG p g g' a f ha (by omega) hf0) λhs' hhs => ?_;try dsimp only at hhs
 conv=>whnf
 refine hK _ ?_;clear hK;refine W.seqK λK1 hK1 => W.block (W.invA (λm e => ∃ (n : Nat) (B O : Poly p) (b : Nat) (tb : Tab), n <= 1000000000000 ∧ rem (O * B ^ n) f = rem (a ^ n0) f ∧ dg B < dg f ∧ dg O < dg f ∧ (O.l ≠ [] -> tb b = some O.l) ∧ m = n ∧ e = [(vt, .tab tb), (0, .v (.int .i64 p)), (1, .v (.ints none B.l)), (2, .v (.int .i64 n)), (3, .v (.ints g' f.l)), (9, .v (.rf b O.l.length))]) ⟨n0, rem a f, rem 1 f, bo, tb_o, hn, by rw [yF hf0, CR.one_mul, zcq hf0], zO _ hf0, zO _ hf0, λh => hn_o _ _ (ho h), rfl, rfl⟩ ?_);rintro m e ⟨n, B, O, b, tb, hn1, h1, h2, h3, hO, hm, rfl⟩;have hmul : ∀ A B : Poly p, dg A < dg f -> dg B < dg f -> dg (A * B) <= 1000000 := λA B h h' => by have := yR A B; omega
 refine W.seqK λK7 hK7 => W.rs (zg _ _) (by rfl) λK hK => ?_;conv=>whnf
 refine hK _ (W.cond ⟨λh => ?_, λh => ?_⟩) <;> clear hK <;> (first | replace h := of_decide_eq_true h | replace h := of_decide_eq_false h)
 ·refine W.skip (hK7 _ ?_);clear hK7;refine W.seqK λK8 hK8 => W.block ?_;refine W.seqK λK9 hK9 => ?_
  have fin : ∀ (O' : Poly p) (b' : Nat) (tb' : Tab) (s : S), dg O' < dg f -> O' = (if n % 2 = 1 then rem (O * B) f else O) -> (O'.l ≠ [] -> tb' b' = some O'.l) -> base <= s.hs ->
    zB s.env [(vt, .tab tb'), (0, .v (.int .i64 p)), (1, .v (.ints none B.l)), (2, .v (.int .i64 n)), (3, .v (.ints g' f.l)), (9, .v (.rf b' O'.l.length))] -> K9 s := by
   intro O' b' tb' s h4 h5 hO' h6 h7;refine hK9 _ (W.weak (t := ⟨[(vt, .tab tb'), (0, .v (.int .i64 p)), (1, .v (.ints none B.l)), (2, .v (.int .i64 n)), (3, .v (.ints g' f.l)), (9, .v (.rf b' O'.l.length))], base⟩) ⟨h6, h7⟩ (Nat.le_refl _) ?_);clear hK9;refine W.region (zg _ _) (by rfl) ?_;conv=>whnf
   refine zr rfl (vX p _ _ B B (by omega) (by omega)) λhs_2 b_2 hh_2 hf_2 => ?_;try dsimp only at hh_2 hf_2
   conv=>whnf
   refine zb rfl (yG p _ _ (B * B) f (hmul _ _ h2 h2) (by omega) hf0) λhs' hhs => ?_;try dsimp only at hhs
   conv=>whnf
   refine hK8 _ ?_;clear hK8;refine W.region (zg _ _) (by rfl) ?_;conv=>whnf
   refine ⟨⟨by omega, rfl⟩, ?_⟩;conv=>whnf
   exact zk ⟨n / 2, rem (B * B) f, O', b', tb', by omega, by rw [h5]; exact ze4 hf0 h1, zO _ hf0, h4, hO', rfl, rfl⟩
  clear hK9;refine W.rs (zg _ _) (by rfl) λK hK => ?_;conv=>whnf
  refine ⟨⟨by omega, by omega, rfl⟩, ?_⟩;conv=>whnf
  refine hK _ (W.cond ⟨λh4 => ?_, λh4 => ?_⟩) <;> clear hK
  ·have h4 := of_decide_eq_true h4;refine W.sw (c' := cxt [152] [0, 1, 2, 3, 8, 9, 19, 24, 1000000]) ?_;refine W.region (zg _ _) (by rfl) ?_;conv=>whnf
   refine ⟨O.l, ⟨rfl, hO⟩, ?_⟩;conv=>whnf
   refine zr rfl (vX p _ _ O B (by omega) (by omega)) λhs_2 b_2 hh_2 hf_2 => ?_;try dsimp only at hh_2 hf_2
   conv=>whnf
   refine ⟨_, cxT (zdF p _ _ (O * B) f (hmul _ _ h3 h2) (by omega) hf0), λlo_r hi_r hs_r x_r tn_r tb_r hl1_r hl2_r _ hp_r hf_r hn_r ho_r => ?_⟩;try dsimp only at hl1_r hl2_r
   obtain ⟨br, rfl, hr⟩ := hp_r;conv=>whnf
   refine fin (rem (O * B) f) br tb_r _ (zO _ hf0) (by rw [if_pos (by omega)]) (λh => hn_r _ _ (hr h)) (by dsimp only; omega) ?_;exact cvr
  ·have h4 := of_decide_eq_false h4;refine W.skip (fin O b tb _ h3 (by rw [if_neg (by omega)]) hO (by dsimp only; omega) ?_);exact cvr
 ·refine W.exit (hK1 _ ?_);clear hK7 hK1;obtain rfl : n = 0 := by omega
  refine W.rs (zg _ _) (by rfl) λK hK => ?_;conv=>whnf
  refine hK _ ?_;clear hK
  have e2 : O = rem (a ^ n0) f := by
   rw [<- h1, zv, CR.mul_one, jt h3]
  rw [<- e2];refine W.ret ?_;conv=>whnf
  exact ⟨.v (.rf b O.l.length), rfl, trivial, b, rfl, hO⟩

/- fields -/
theorem zmH (p : Int) [SP p] (g g1 g2 : Option Nat) (f X Y : Poly p) (hX : dg X <= 1000) (hY : dg Y <= 1000) (hf : dg f <= 1000) (hf0 : f ≠ 0) : FnV 90 [vK p g f.l, .ints g1 X.l, .ints g2 Y.l] (.ints none (rem (X * Y) f).l) := by
 have := yR X Y;refine ze (za [0, 1, 2, 3, 6]) Tryz.func90 rfl (by decide) Tryz.ntmps90 (lb rfl) λbase => ?_;refine wrs λK hK => ?_;conv=>whnf
 refine ⟨rfl, ?_⟩;conv=>whnf
 intro b_1 hs_1 hh_1 hf_1;try dsimp only at hh_1 hf_1
 conv=>whnf
 refine hK _ ?_;clear hK;refine W.rd (za _) follows (by rfl) λK hK => ?_;conv=>whnf
 refine ⟨_, cxF ((vX p _ _ X Y hX hY).toV), ?_⟩;conv=>whnf
 refine ⟨_, cxF (yG p _ _ (X * Y) f (by omega) (by omega) hf0), ?_⟩;conv=>whnf
 refine hK _ (W.ret ?_);conv=>whnf
 exact ⟨.v (.ints none (rem (X * Y) f).l), ⟨rfl, rfl⟩, trivial, rfl⟩


def Has (p : Int) (l x : List Int) : Prop := vm p x ∧ x.length < l.length

theorem zqC (p : Int) (g g' : Option Nat) (l x : List Int) : FnV 151 [vK p g l, .ints g' x] (.bool (bP (Has p l x))) := by
 by_cases hm : vm p x
 ·refine ze (za [0, 1, 2, 4]) Tryz.func151 rfl (by decide) Tryz.ntmps151 (lb rfl) λbase => ?_;refine wrs λK hK => ?_;conv=>whnf
  refine ⟨rfl, ?_⟩;conv=>whnf
  intro b_1 hs_1 hh_1 hf_1;try dsimp only at hh_1 hf_1
  conv=>whnf
  refine hK _ (wrs λK hK => ?_);conv=>whnf
  refine zb rfl ((vn g' p x).tr (zj hm)) λhs' hhs => ?_;try dsimp only at hhs
  conv=>whnf
  refine hK _ (W.ret ?_);conv=>whnf
  exact ⟨.v (.bool (bP (Has p l x))), (by show decide ((x.length : Int) < l.length) = bP _; by_cases h : x.length < l.length; (rw [decide_eq_true (by omega), zj ⟨hm, h⟩]); (rw [decide_eq_false (by omega), zf λh' => h h'.2])), trivial, rfl⟩
 ·refine ze (za [0, 1, 2, 4]) Tryz.func151 rfl (by decide) Tryz.ntmps151 (lb rfl) λbase => ?_;refine wrs λK hK => ?_;conv=>whnf
  refine ⟨rfl, ?_⟩;conv=>whnf
  intro b_1 hs_1 hh_1 hf_1;try dsimp only at hh_1 hf_1
  conv=>whnf
  refine hK _ (wrs λK hK => ?_);conv=>whnf
  refine zb rfl ((vn g' p x).fa (zf hm)) λhs' hhs => ?_;try dsimp only at hhs
  conv=>whnf
  refine hK _ (W.ret ?_);conv=>whnf
  exact ⟨.v (.bool (bP (Has p l x))), zf λh => hm h.1, trivial, rfl⟩

theorem zpM (p : Int) (g g' gb : Option Nat) (l x : List Int) : FnV 150 [.ints g' x, .box gb (vK p g l)] (.bool (!(bP (Has p l x)))) := by
 refine ze (za [0, 1, 3]) Tryz.func150 rfl (by decide) Tryz.ntmps150 (lb rfl) λbase => ?_;refine wrs λK hK => ?_;conv=>whnf
 refine hK _ (wrs λK hK => ?_);conv=>whnf
 refine zb rfl (zqC p g g' l x) λhs' hhs => ?_;try dsimp only at hhs
 conv=>whnf
 refine hK _ (W.ret ?_);conv=>whnf
 exact ⟨.v (.bool (!(bP (Has p l x)))), rfl, trivial, rfl⟩

noncomputable def jc (p : Int) (l : List Int) (fine : Bool) (n : Nat) (X : Nat -> List Int) : Int :=
 bif bP (IsFld p l) then (bif fine && bP (∀ i, i < n -> Has p l (X i)) then 0 else 2) else 1

theorem zpN {p : Int} {l : List Int} {n : Nat} {X : Nat -> List Int} : bP (∃ i, i < n ∧ (λi => !(bP (Has p l (X i)))) i = true) = !(bP (∀ i, i < n -> Has p l (X i))) := by
 by_cases h : ∀ i, i < n -> Has p l (X i)
 ·rw [zj h];refine zf ?_;rintro ⟨i, hi, h2⟩;have h2 : (!(bP (Has p l (X i)))) = true := h2;rw [zj (h i hi)] at h2; cases h2
 ·rw [zf h];refine zj (Classical.byContradiction λh2 => h λi hi => Classical.byContradiction λh3 => h2 ⟨i, hi, ?_⟩);show (!(bP (Has p l (X i)))) = true
  rw [zf h3]; rfl

theorem zdG (p : Int) (g gs : Option Nat) (l : List Int) (n : Nat) (f : Nat -> V) (X : Nat -> List Int) (hn : n <= 100000000) (hl : l.length <= 1000000000) (hf : ∀ i, i < n -> ∃ g', f i = .ints g' (X i)) :
  FnV 88 [vK p g l, .tr, .vals gs 1 n f] (.int .i64 (jc p l true n X)) := by
 by_cases hk : IsFld p l
 case neg =>
  refine ze (za [0, 1, 2, 3, 6, 7, 11]) Tryz.func88 rfl (by decide) Tryz.ntmps88 (lb rfl) λbase => ?_;refine wrs λK hK => ?_;conv=>whnf
  refine ⟨rfl, ?_⟩;conv=>whnf
  intro b_1 hs_1 hh_1 hf_1;try dsimp only at hh_1 hf_1
  conv=>whnf
  refine hK _ ?_;clear hK;refine W.seqK λK1 hK1 => W.block ?_;refine wrs λK hK => ?_;conv=>whnf
  refine zb rfl ((zbY p g l hl).fa (zf hk)) λhs' hhs => ?_;try dsimp only at hhs
  conv=>whnf
  refine hK _ (W.condT rfl ?_);clear hK;refine wrs λK hK => ?_;conv=>whnf
  refine hK _ (W.ret ?_);conv=>whnf
  exact ⟨.v (.int .i64 (jc p l true n X)), ⟨rfl, by unfold jc; rw [zf hk]; rfl⟩, trivial, rfl⟩
 refine ze (za [0, 1, 2, 3, 6, 7, 11]) Tryz.func88 rfl (by decide) Tryz.ntmps88 (lb rfl) λbase => ?_;refine wrs λK hK => ?_;conv=>whnf
 refine ⟨rfl, ?_⟩;conv=>whnf
 intro b_1 hs_1 hh_1 hf_1;try dsimp only at hh_1 hf_1
 conv=>whnf
 refine hK _ ?_;clear hK;refine W.seqK λK1 hK1 => W.block ?_;refine wrs λK hK => ?_;conv=>whnf
 refine zb rfl ((zbY p g l hl).tr (zj hk)) λhs' hhs => ?_;try dsimp only at hhs
 conv=>whnf
 refine hK _ (W.condF rfl ?_);clear hK;refine wrs λK hK => ?_;conv=>whnf
 refine zb rfl (kS gs n f 150 [.box none (vK p g l)] (λi => !(bP (Has p l (X i)))) hn (λi hi => by obtain ⟨g', h⟩ := hf i hi; exact ⟨_, _, h⟩) (λi hi => by obtain ⟨g', h⟩ := hf i hi; rw [h]; exact zpM p g g' none l (X i))) λhs' hhs => ?_;try dsimp only at hhs
 conv=>whnf
 rw [zpN];refine hK _ (W.cond ⟨λh => ?_, λh => ?_⟩) <;> clear hK
 ·refine wrs λK hK => ?_;conv=>whnf
  refine hK _ (W.ret ?_);conv=>whnf
  exact ⟨.v (.int .i64 (jc p l true n X)), ⟨rfl, by unfold jc; rw [zj hk]; simp only [cond_true, Bool.true_and]; rw [show bP (∀ i, i < n -> Has p l (X i)) = false by simpa using h]; rfl⟩, trivial, rfl⟩
 refine W.skip (hK1 _ ?_);clear hK1;refine wrs λK hK => ?_;conv=>whnf
 refine hK _ (W.ret ?_);conv=>whnf
 exact ⟨.v (.int .i64 (jc p l true n X)), ⟨rfl, by unfold jc; rw [zj hk]; simp only [cond_true, Bool.true_and]; rw [show bP (∀ i, i < n -> Has p l (X i)) = true by simpa using h]; rfl⟩, trivial, rfl⟩

def two (x y : List Int) (i : Nat) : List Int := if i = 0 then x else y

theorem zfC (p : Int) (g : Option Nat) (l : List Int) (hk : IsFld p l) : FnV 84 [vK p g l] (.int .i64 (p ^ (l.length - 1))) := by
 have h2 := zaj hk.mod.1;have h9 := hk.mod.2.1;have hl2 := hk.two;have e1 : ((l.length : Int) - 1) = ((l.length - 1 : Nat) : Int) := by omega
 have e2 : zfz p (l.length - 1) = p ^ (l.length - 1) := by unfold zfz; rw [if_pos hk.ord]
 refine ze (za [0, 1, 2]) Tryz.func84 rfl (by decide) Tryz.ntmps84 (lb rfl) λbase => ?_;refine wrs λK hK => ?_;conv=>whnf
 refine ⟨rfl, ?_⟩;conv=>whnf
 intro b_1 hs_1 hh_1 hf_1;try dsimp only at hh_1 hf_1
 conv=>whnf
 refine hK _ (wrs λK hK => ?_);conv=>whnf
 refine ⟨oo, ?_⟩;conv=>whnf
 rw [e1];refine zb rfl (zdE p (l.length - 1) (by omega) (by omega) (by omega)) λhs' hhs => ?_;try dsimp only at hhs
 conv=>whnf
 rw [e2];refine hK _ (W.ret ?_);conv=>whnf
 exact ⟨.v (.int .i64 (p ^ (l.length - 1))), ⟨rfl, rfl⟩, trivial, rfl⟩

theorem zoF {p : Int} {l : List Int} (hk : IsFld p l) : ∃ hp : p ∈ zY, letI := yL hp; ∃ f : Poly p, f.l = l ∧ Irr f ∧ Mon f ∧ 2 <= dg f ∧ dg f <= 9 := by
 obtain ⟨hp, f, hf, hi⟩ := hk.irr;refine ⟨hp, ?_⟩;letI := yL hp;subst hf;have h1 : f.l.length = dg f := rfl;have h2 := hk.two;have h3 := hk.mod.2.1;exact ⟨f, rfl, hi, ⟨hi.ne, hk.mon.2⟩, by omega, by omega⟩

def RT (l : List Int) (c : Int) : kw := λ_ _ x tb => ∃ b : Nat, x = .tup [.rf b l.length, .int .i64 c] ∧ (l ≠ [] -> tb b = some l)
abbrev RV (l : List Int) (c : Int) : V := .tup [.ints none l, .int .i64 c]
theorem zq6 {p : Int} [SP p] (X Y : Poly p) : nrm p (zu (yr X.l Y.l)) = (X + Y).l := yE _ _

theorem zjt (l : List Int) : zU 1 l = l := zaQ (by simp [zU]) λj _ => by rw [va]; omega
theorem els2 (g1 g2 : Option Nat) (x y : List Int) : ∀ i, i < 2 -> ∃ g', nth [.ints g1 x, .ints g2 y] i = .ints g' (two x y i) := λi hi => match i, hi with
 | 0, _ => ⟨g1, rfl⟩
 | 1, _ => ⟨g2, rfl⟩
theorem zp7 {p : Int} [SP p] (X : Poly p) : Bd 2305843009213693951 X.l := (jT X).le (by omega)


noncomputable def zoG (p : Int) (l x : List Int) : Int := jc p l true 1 (λ_ => x)
theorem zfD (g1 : Option Nat) (x : List Int) : ∀ i, i < 1 -> ∃ g', nth [.ints g1 x] i = .ints g' ((λ_ => x) i) := λi hi => match i, hi with
 | 0, _ => ⟨g1, rfl⟩
/- powers -/
theorem zmI (p : Int) [SP p] (g g1 : Option Nat) (f X : Poly p) (n : Nat) (hn : n <= 1000000000000) (hX : dg X <= 1000000) (hf : dg f <= 500) (hf0 : f ≠ 0) : FnV 134 [vK p g f.l, .ints g1 X.l, .int .i64 n] (.ints none (rem (X ^ n) f).l) := by
 refine ze (za [0, 1, 2, 3, 6]) Tryz.func134 rfl (by decide) Tryz.ntmps134 (lb rfl) λbase => ?_;refine wrs λK hK => ?_;conv=>whnf
 refine ⟨rfl, ?_⟩;conv=>whnf
 intro b_1 hs_1 hh_1 hf_1;try dsimp only at hh_1 hf_1
 conv=>whnf
 refine hK _ (wrs λK hK => ?_);conv=>whnf
 refine zb rfl (zfs p g1 g X f n hn hX hf hf0) λhs' hhs => ?_;try dsimp only at hhs
 conv=>whnf
 refine hK _ (W.ret ?_);conv=>whnf
 exact ⟨.v (.ints none (rem (X ^ n) f).l), ⟨rfl, rfl⟩, trivial, rfl⟩
theorem zdH (p : Int) [SP p] (g g1 : Option Nat) (f X : Poly p) (n : Nat) (hn : n <= 1000000000000) (hX : dg X <= 1000000) (hf : dg f <= 500) (hf0 : f ≠ 0) : FnV 133 [vK p g f.l, .ints g1 X.l, .int .i64 n] (.ints none (rem (X ^ n) f).l) := by
 refine ze (za [0, 1, 2, 3, 6]) Tryz.func133 rfl (by decide) Tryz.ntmps133 (lb rfl) λbase => ?_;refine wrs λK hK => ?_;conv=>whnf
 refine ⟨rfl, ?_⟩;conv=>whnf
 intro b_1 hs_1 hh_1 hf_1;try dsimp only at hh_1 hf_1
 conv=>whnf
 refine hK _ (wrs λK hK => ?_);conv=>whnf
 refine zb rfl (zdz p g1 g X f n hn hX hf hf0) λhs' hhs => ?_;try dsimp only at hhs
 conv=>whnf
 refine hK _ (W.ret ?_);conv=>whnf
 exact ⟨.v (.ints none (rem (X ^ n) f).l), ⟨rfl, rfl⟩, trivial, rfl⟩
def R1 (l : List Int) : kw := λ_ _ x tb => ∃ b : Nat, x = .rf b l.length ∧ (l ≠ [] -> tb b = some l)
theorem zoH (p : Int) [SP p] (g g1 : Option Nat) (f X : Poly p) (n : Nat) (hn : n <= 1000000000000) (hX : dg X <= 1000000) (hf : dg f <= 500) (hf0 : f ≠ 0) : FnT Tryz.prog 134 [vK p g f.l, .ints g1 X.l, .int .i64 n] (R1 (rem (X ^ n) f).l) := by
 refine y6 (zg [] [0, 1, 2, 3, 6, 1000000]) Tryz.func134 rfl (by decide) Tryz.ntmps134 (lb rfl) (λbase => ?_) (lb rfl);refine W.rs (zg _ _) (by rfl) λK hK => ?_;conv=>whnf
 refine ⟨rfl, ?_⟩;conv=>whnf
 intro b_1 hs_1 hh_1 hf_1;try dsimp only at hh_1 hf_1
 conv=>whnf
 refine hK _ ?_;clear hK;refine W.sw (c' := cxt [185] [0, 1, 2, 3, 6, 1000000]) ?_;refine W.rs (zg _ _) (by rfl) λK hK => ?_;conv=>whnf
 refine ⟨_, cxT (zmG p g1 g X f n hn hX hf hf0), λlo_r hi_r hs_r x_r tn_r tb_r hl1_r hl2_r _ hp_r hf_r hn_r ho_r => ?_⟩;try dsimp only at hl1_r hl2_r
 obtain ⟨br, rfl, hr⟩ := hp_r;conv=>whnf
 refine hK _ (W.ret ?_);conv=>whnf
 exact ⟨.v (.rf br (rem (X ^ n) f).l.length), rfl, trivial, br, rfl, λh => hn_r _ _ (hr h)⟩

theorem zkF (p : Int) [SP p] (g g1 : Option Nat) (f X : Poly p) (hX : dg X <= 1000000) (hf : dg f <= 500) (hf0 : f ≠ 0) : FnV 134 [vK p g f.l, .ints g1 X.l, .int .i64 p] (.ints none (rem (X ^ p.toNat) f).l) := by
 have hp := Pr.two (p := p);have hp2 := SP.le (p := p);have h := zmI p g g1 f X p.toNat (by omega) hX hf hf0
 rwa [Int.toNat_of_nonneg (by omega)] at h
theorem zhO (p : Int) [SP p] (g g1 : Option Nat) (f X : Poly p) (hX : dg X <= 1000000) (hf : dg f <= 500) (hf0 : f ≠ 0) : FnV 133 [vK p g f.l, .ints g1 X.l, .int .i64 p] (.ints none (rem (X ^ p.toNat) f).l) := by
 have hp := Pr.two (p := p);have hp2 := SP.le (p := p);have h := zdH p g g1 f X p.toNat (by omega) hX hf hf0
 rwa [Int.toNat_of_nonneg (by omega)] at h
theorem zmJ (p : Int) [SP p] (g g1 : Option Nat) (f X : Poly p) (hX : dg X <= 1000000) (hf : dg f <= 500) (hf0 : f ≠ 0) : FnT Tryz.prog 134 [vK p g f.l, .ints g1 X.l, .int .i64 p] (R1 (rem (X ^ p.toNat) f).l) := by
 have hp := Pr.two (p := p);have hp2 := SP.le (p := p);have h := zoH p g g1 f X p.toNat (by omega) hX hf hf0
 rwa [Int.toNat_of_nonneg (by omega)] at h
theorem zju (p : Int) [SP p] (g g1 : Option Nat) (f X : Poly p) (hX : dg X <= 1000000) (hf : dg f <= 500) (hf0 : f ≠ 0) : FnV 89 [vK p g f.l, .ints g1 X.l] (.ints none (rem (X ^ p.toNat) f).l) := by
 refine ze (za [0, 1, 2, 4]) Tryz.func89 rfl (by decide) Tryz.ntmps89 (lb rfl) λbase => ?_;refine wrs λK hK => ?_;conv=>whnf
 refine ⟨rfl, ?_⟩;conv=>whnf
 intro b_1 hs_1 hh_1 hf_1;try dsimp only at hh_1 hf_1
 conv=>whnf
 refine hK _ (wrs λK hK => ?_);conv=>whnf
 refine zb rfl (zkF p g g1 f X hX hf hf0) λhs' hhs => ?_;try dsimp only at hhs
 conv=>whnf
 refine hK _ (W.ret ?_);conv=>whnf
 exact ⟨.v (.ints none (rem (X ^ p.toNat) f).l), ⟨rfl, rfl⟩, trivial, rfl⟩

theorem kf (g : Option Nat) (l : List Int) (hl : l.length <= 1000000000) : FnV 72 [.ints g l] (.int .i64 (cf l 0)) := by
 refine ze (za [0, 2, 5]) Tryz.func72 rfl (by decide) Tryz.ntmps72 (lb rfl) λbase => ?_;refine wrs λK hK => ?_;conv=>whnf
 refine hK _ (W.seqK λK1 hK1 => wrs λK hK => ?_);conv=>whnf
 refine hK _ (W.cond ⟨λh => ?_, λh => ?_⟩) <;> clear hK
 ·have h := of_decide_eq_true h;obtain rfl : l = [] := List.eq_nil_of_length_eq_zero (by omega);refine wrs λK hK => ?_;conv=>whnf
  refine hK _ (W.ret ?_);conv=>whnf
  exact ⟨.v (.int .i64 (cf [] 0)), ⟨rfl, rfl⟩, trivial, rfl⟩
 ·have h := of_decide_eq_false h;refine W.skip (hK1 _ ?_);clear hK1;refine wrs λK hK => ?_;conv=>whnf
  refine ⟨oo, ?_⟩;conv=>whnf
  refine hK _ (W.ret ?_);conv=>whnf
  exact ⟨.v (.int .i64 (cf l 0)), ⟨rfl, rfl⟩, trivial, rfl⟩
theorem za1 (g : Option Nat) (l : List Int) (hl : l.length <= 1000000000) : FnV 76 [.ints g l] (.int .i64 (cf l 0)) := by
 refine ze (za [0, 2, 5]) Tryz.func76 rfl (by decide) Tryz.ntmps76 (lb rfl) λbase => ?_;refine wrs λK hK => ?_;conv=>whnf
 refine hK _ (W.seqK λK1 hK1 => wrs λK hK => ?_);conv=>whnf
 refine hK _ (W.cond ⟨λh => ?_, λh => ?_⟩) <;> clear hK
 ·have h := of_decide_eq_true h;obtain rfl : l = [] := List.eq_nil_of_length_eq_zero (by omega);refine wrs λK hK => ?_;conv=>whnf
  refine hK _ (W.ret ?_);conv=>whnf
  exact ⟨.v (.int .i64 (cf [] 0)), ⟨rfl, rfl⟩, trivial, rfl⟩
 ·have h := of_decide_eq_false h;refine W.skip (hK1 _ ?_);clear hK1;refine wrs λK hK => ?_;conv=>whnf
  refine ⟨oo, ?_⟩;conv=>whnf
  refine hK _ (W.ret ?_);conv=>whnf
  exact ⟨.v (.int .i64 (cf l 0)), ⟨rfl, rfl⟩, trivial, rfl⟩

theorem zqD (l : List Int) (h : l.length = 1) : l = [cf l 0] := zaQ (by simpa using h) λj hj => by
 obtain rfl : j = 0 := by omega
 rfl
theorem zjv (g : Option Nat) (l : List Int) : FnV 128 [.ints g l] (.bool (decide (l = [1]))) := by
 refine ze (za [0, 2]) Tryz.func128 rfl (by decide) Tryz.ntmps128 (lb rfl) λbase => ?_;refine wrs λK hK => ?_;conv=>whnf
 refine hK _ (wrs λK hK => ?_);conv=>whnf
 refine ⟨λh => ?_, λh => ?_⟩ <;> conv=>whnf
 ·have h := of_decide_eq_true h;have h1 := zqD l (by omega);refine ⟨oo, ?_⟩;conv=>whnf
  refine hK _ (W.ret ?_);conv=>whnf
  exact ⟨.v (.bool (decide (l = [1]))), (by show decide (cf l 0 = 1) = _; rw [h1]; exact decide_eq_decide.2 ⟨λh => by rw [show cf [cf l 0] 0 = cf l 0 from rfl] at h; rw [h], λh => by rw [h]; rfl⟩), trivial, rfl⟩
 ·have h := of_decide_eq_false h;refine hK _ (W.ret ?_);conv=>whnf
  exact ⟨.v (.bool (decide (l = [1]))), decide_eq_false λe => h (by rw [e]; rfl), trivial, rfl⟩
noncomputable def trN {p : Int} [SP p] (f X : Poly p) : Nat -> Poly p
 | 0 => 0
 | k + 1 => trN f X k + frN f X k
theorem zoI {p : Int} [SP p] {f X : Poly p} (hf : f ≠ 0) (hX : dg X < dg f) : ∀ k, dg (trN f X k) < dg f
 | 0 => by show dg (0 : Poly p) < _; rw [zy]; omega
 | k + 1 => by
  have h1 := zoI hf hX k;have h2 := zku hf hX k;have h3 := zc0 (trN f X k) (frN f X k);show dg (trN f X k + frN f X k) < _; omega
noncomputable def nrN {p : Int} [SP p] (f X : Poly p) : Nat -> Poly p
 | 0 => 1
 | k + 1 => rem (nrN f X k * frN f X k) f
theorem zqE {p : Int} [SP p] {f X : Poly p} (hf : f ≠ 0) (h2 : 2 <= dg f) : ∀ k, dg (nrN f X k) < dg f
 | 0 => by show dg (1 : Poly p) < _; rw [yT]; omega
 | _ + 1 => zO _ hf



/- the program's begin: a field, an element, something more (a value b) -/
/- the reference's: $1 name $2 modulus $3 element $4 $5 their ghosts -/
/- c is not 0 -/
/- what becomes of c = 0 and something not right: code 2 -/




theorem zp8 {p : Int} [SP p] {f : Poly p} (hk : IsFld p f.l) {d : Nat} (hd : dg f = d + 1) : (p ^ (f.l.length - 1) : Int) = ((p.toNat ^ d : Nat) : Int) ∧ p.toNat ^ d <= 20000 ∧ 2 <= p.toNat ^ d := by
 have h2 := Pr.two (p := p);have h1 : f.l.length - 1 = d := by have : f.l.length = dg f := rfl; omega
 have h3 : (p ^ (f.l.length - 1) : Int) = ((p.toNat ^ d : Nat) : Int) := by rw [h1, Int.natCast_pow, Int.toNat_of_nonneg (by omega)]
 have h4 := hk.ord;have h5 := hk.two;have h6 : p.toNat ^ 1 <= p.toNat ^ d := Nat.pow_le_pow_right (by omega) (by omega);rw [Nat.pow_one] at h6;exact ⟨h3, by omega, by omega⟩




theorem zmK {ys : List Int} {i : Nat} (h : i < ys.length) : zU (-1) (ys.take (i + 1)) = zU (-1) (ys.take i) ++ [-(cf ys i)] := by
 have h1 := kr (λx => (-1) * x) h;have e : ys.getD i 0 = cf ys i := rfl;rw [e] at h1;unfold zU;rw [h1]; congr 2; omega
theorem zkG (g g' : Option Nat) (xs ys : List Int) (hx : Bd 9223372036854775807 xs) (hy : Bd 9223372036854775807 ys) (hs : ∀ j, -9223372036854775807 <= cf xs j - cf ys j ∧ cf xs j - cf ys j <= 9223372036854775807) (hxl : xs.length <= 1000000) (hyl : ys.length <= 1000000) : FnI 129 [.ints g xs, .ints g' ys] (zu (yr xs (zU (-1) ys))) := by
 refine ze (za [0, 1, 4, 5, 7, 8, 9, 10, 11]) Tryz.func129 rfl (by decide) Tryz.ntmps129 (lb rfl) λbase => ?_;refine wrs λK hK => ?_;conv=>whnf
 refine hK _ (wrs λK hK => ?_);conv=>whnf
 refine hK _ (W.seqK λK1 hK1 => wrs λK hK => ?_);conv=>whnf
 refine hK _ (W.block (W.invA (λm e => ∃ i b : Nat, i <= ys.length ∧ m = ys.length - i ∧ e = [(0, .v (.ints g xs)), (5, .ownI 2 b (zU (-1) (ys.take i))), (8, .v (.ints g' ys)), (9, .v (.int .i64 ys.length)), (10, .v (.int .i64 i))]) ⟨0, 0, Nat.zero_le _, rfl, rfl⟩ ?_));clear hK;rintro m e ⟨i, b, hi, hm, rfl⟩;refine wrs λK hK => ?_;conv=>whnf
 refine hK _ ?_;clear hK;refine W.seqK λK7 hK7 => W.cond ⟨λh => ?_, λh => ?_⟩ <;> (first | replace h := of_decide_eq_true h | replace h := of_decide_eq_false h)
 ·have hi2 : i < ys.length := by omega
  have hyi := hy i;have hst := zmK hi2;have hsl : (zU (-1) (ys.take i)).length = i := by simp [zU]; omega
  refine W.skip (hK7 _ ?_);clear hK7;refine W.seqK λK8 hK8 => W.block ?_;refine wrs λK hK => ?_;conv=>whnf
  refine ⟨oo, ?_⟩;conv=>whnf
  rw [Int.toNat_natCast];refine hK _ ?_;clear hK;refine wrg ?_;conv=>whnf
  refine ⟨by show _ <= -(cf ys i) ∧ -(cf ys i) <= _; omega, ?_⟩;conv=>whnf
  refine ⟨⟨rfl, by decide⟩, ?_⟩;conv=>whnf
  intro b_1 hs_1 hh_1 hf_1;try dsimp only at hh_1 hf_1
  conv=>whnf
  refine ⟨by dsimp only [List.length]; omega, ?_⟩;conv=>whnf
  intro b_2 hs_2 hh_2 hf_2;try dsimp only at hh_2 hf_2
  conv=>whnf
  refine hK8 _ ?_;clear hK8;refine wrg ?_;conv=>whnf
  refine ⟨oo, ?_⟩;conv=>whnf
  exact zk ⟨i + 1, b_2, by omega, rfl, by rw [hst]⟩
 ·obtain rfl : i = ys.length := by omega
  rw [List.take_length];have hsl : (zU (-1) ys).length = ys.length := by simp [zU]
  refine W.exit (hK1 _ ?_);clear hK7 hK1;refine wrs λK hK => ?_;conv=>whnf
  refine zr rfl (zfq g (some b) xs (zU (-1) ys) hx (λj => by rw [va]; have := hs j; omega) (by omega) (by omega)) λhs_3 b_3 hh_3 hf_3 => ?_;try dsimp only at hh_3 hf_3
  conv=>whnf
  refine hK _ (W.ret ?_);conv=>whnf
  exact ⟨.ownI 2 _ (zu (yr xs (zU (-1) ys))), ⟨rfl, rfl, rfl⟩, trivial, _, rfl⟩

theorem zfE (g g' : Option Nat) (xs ys : List Int) (hx : Bd 1000000000000 xs) (hy : Bd 1000000000000 ys) (hxl : xs.length <= 1000000) (hyl : ys.length <= 1000000) : FnI 129 [.ints g xs, .ints g' ys] (zu (yr xs (zU (-1) ys))) :=
 zkG g g' xs ys (hx.le (by omega)) (hy.le (by omega)) (λj => by have := hx j; have := hy j; omega) hxl hyl

theorem zq8 {p : Int} [SP p] (X Y : Poly p) : nrm p (zu (yr X.l (zU (-1) Y.l))) = (X - Y).l := yE _ _

theorem zjw (p : Int) [SP p] (g g' : Option Nat) (h f U : Poly p) (hf : dg f <= 500) (hh : dg h <= 500) (h2 : 2 <= dg f) (hU : dg U < dg f) (hU2 : f ∣ h * U - 1) : FnI 127 [.int .i64 p, .ints g h.l, .ints g' f.l] U.l := by
 have hp := Pr.two (p := p);have hp2 := SP.le (p := p);have hf0 : f ≠ 0 := λe => by rw [e, zy] at h2; omega
 have hfl : f.l.length = dg f := rfl
 have hcop : Cop f h := by
  obtain ⟨q, hq⟩ := hU2;exact ⟨-q, U, comb 1 hq (zh [f, h, U, q] (by rfl))⟩
 refine ze (za [0, 1, 2, 6, 7, 8, 9, 10, 11, 12, 21]) Tryz.func127 rfl (by decide) Tryz.ntmps127 (lb rfl) λbase => ?_;refine wrs λK hK => ?_;conv=>whnf
 refine hK _ (wrs λK hK => ?_);conv=>whnf
 refine zb rfl (yG p g g' h f (by omega) (by omega) hf0) λhs' hhs => ?_;try dsimp only at hhs
 conv=>whnf
 refine hK _ (wrs λK hK => ?_);conv=>whnf
 refine ⟨⟨rfl, by decide⟩, ?_⟩;conv=>whnf
 intro b_1 hs_1 hh_1 hf_1;try dsimp only at hh_1 hf_1
 conv=>whnf
 refine hK _ ?_;clear hK;refine W.seqK λK1 hK1 => W.block (W.invA (λm e => ∃ (a b u v : Poly p) (ga : Option Nat) (su sv : List Int), CofI f h a b u v ∧ su = u.l ∧ sv = v.l ∧ m = dg b ∧ e = [(0, .v (.int .i64 p)), (7, .v (.ints ga a.l)), (8, .v (.ints none b.l)), (9, .v (.ints none su)), (10, .v (.ints none sv))]) ⟨f, rem h f, 0, 1, g', [], [1], CofI.start hf0 hcop, ko.symm, ziZ.symm, rfl, rfl⟩ ?_);rintro m e ⟨a, b, u, v, ga, su, sv, hI, rfl, rfl, hm, rfl⟩;obtain ⟨hu, hv, ha, hb⟩ := hI.few;have hbl : b.l.length = dg b := rfl;have hul : u.l.length = dg u := rfl;refine W.seqK λK7 hK7 => wrs λK hK => ?_;conv=>whnf
 refine hK _ (W.cond ⟨λh1 => ?_, λh1 => ?_⟩) <;> clear hK <;> (first | replace h1 := of_decide_eq_true h1 | replace h1 := of_decide_eq_false h1)
 ·have hb0 : b ≠ 0 := λe => by have := zd.2 e; omega
  have hn := hI.step hb0;have hlt := zO a hb0;have hqd := zod hI.a0 hb0 (Nat.le_of_lt hI.lt);have hqv := yR (quo a b) v;have hqvl : (quo a b * v).l.length = dg (quo a b * v) := rfl;refine W.skip (hK7 _ (W.block ?_));clear hK7;refine wrs λK hK => ?_;conv=>whnf
  refine zb rfl (jv p ga none a b (by omega) (by omega) hb0) λhs' hhs => ?_;try dsimp only at hhs
  conv=>whnf
  refine hK _ (wrs λK hK => ?_);conv=>whnf
  refine hK _ ?_;clear hK;refine wrg ?_;conv=>whnf
  refine zr rfl (vX p none none (quo a b) v (by omega) (by omega)) λhs_2 b_2 hh_2 hf_2 => ?_;try dsimp only at hh_2 hf_2
  conv=>whnf
  refine zr rfl (zfE none (some b_2) u.l (quo a b * v).l ((jT u).le (by omega)) ((jT _).le (by omega)) (by omega) (by omega)) λhs_3 b_3 hh_3 hf_3 => ?_;try dsimp only at hh_3 hf_3
  conv=>whnf
  refine zr rfl (zG p (by omega) (by omega) (some b_3) (zu (yr u.l (zU (-1) (quo a b * v).l))) (λi => by rw [yC, y1, va]; have := jP u i; have := jP (quo a b * v) i; omega) (by have := zW (yr u.l (zU (-1) (quo a b * v).l)); unfold yr zU at *; rw [zH, List.length_map] at *; omega)) λhs_4 b_4 hh_4 hf_4 => ?_;try dsimp only at hh_4 hf_4
  conv=>whnf
  rw [zq8];exact zk ⟨b, rem a b, v, u - quo a b * v, none, _, _, hn, rfl, rfl, rfl, rfl⟩
 ·have hb0 : b = 0 := zd.1 (by omega);subst hb0;have ha1 := hI.cop.unit;have hal : a.l.length = dg a := rfl;have hc0 : cf a.l 0 % p ≠ 0 := ym (yM (by omega));obtain ⟨i1, i2, i3⟩ := xr hc0;obtain ⟨f1, f2⟩ := hI.fin i3
  have hU3 : u * con p (yA p (cf a.l 0)) = U := by
   have h3 := dvd_sub f2 hU2;rw [show h * (u * con p (yA p (cf a.l 0))) - 1 - (h * U - 1) = h * (u * con p (yA p (cf a.l 0)) - U) from zh [h, u, con p (yA p (cf a.l 0)), U] (by rfl)] at h3;have h4 := hcop.dvd h3;exact zfg (Classical.byContradiction λh0 => xP h0 (by have := vG (u * con p (yA p (cf a.l 0))) U; omega) h4)
  have i4 : yA p (cf a.l 0) ≠ 0 := λe => by rw [e] at i3; simp at i3
  have hcl := zlm (p := p) (c := yA p (cf a.l 0)) (by omega) i2;have hcd := v9 (p := p) (yA p (cf a.l 0));refine W.exit (hK1 _ ?_);clear hK7 hK1;refine wrs λK hK => ?_;conv=>whnf
  refine ⟨oo, ?_⟩;conv=>whnf
  refine zb rfl (vj p _ (by have := jT a 0; show _ <= cf a.l 0 ∧ cf a.l 0 <= _; omega) hc0) λhs' hhs => ?_;try dsimp only at hhs
  conv=>whnf
  refine ⟨⟨rfl, by decide⟩, ?_⟩;conv=>whnf
  intro b_2 hs_2 hh_2 hf_2;try dsimp only at hh_2 hf_2
  conv=>whnf
  have e9 : [yA p (cf a.l 0)] = (con p (yA p (cf a.l 0))).l := hcl.symm;have e8 : [yA p (a.l.getD (Int.toNat 0) 0)] = (con p (yA p (cf a.l 0))).l := e9;rw [e8];refine zr rfl (vX p none _ u (con p (yA p (cf a.l 0))) (by omega) (by omega)) λhs_3 b_3 hh_3 hf_3 => ?_;try dsimp only at hh_3 hf_3
  conv=>whnf
  rw [hU3];refine hK _ (W.ret ?_);conv=>whnf
  exact ⟨.ownI 2 _ (U.l), ⟨rfl, rfl, rfl⟩, trivial, _, rfl⟩




end Go.Proofs.YtffhmebkkbfaeaaGreat
