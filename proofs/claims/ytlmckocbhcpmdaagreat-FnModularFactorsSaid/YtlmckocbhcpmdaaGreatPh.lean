/- What the program's functions and the reference's return. No conditions. -/
import Derived.Test.YtlmckocbhcpmdaaGreatPf
import Derived.Test.YtlmckocbhcpmdaaGreatPg
import Derived.Test.YtlmckocbhcpmdaaGreatRows
namespace Go.Proofs.YtlmckocbhcpmdaaGreat
open Go Go.RowKit Go.Proofs

theorem zhA (x : Int) (h0 : 0 <= x) (h1 : x <= 9223372036854775807) : Fn Tryz.prog 373 [.int .u64 x] (fun _ _ a => ∃ r : Int, a = .v (.int .i64 r)) := by
 refine ⟨⟨_, Tryz.func373, rfl, by decide⟩, fun D w vs hD hsz hrep => ?_⟩
 obtain ⟨v, rfl⟩ : ∃ v, vs = #[v] := by
  refine ⟨vs.getD 0 undef, Array.ext (by simpa using hsz) fun i h1 h2 => ?_⟩;obtain rfl : i = 0 := by simpa using h2
  simp [Array.getD, h1]
 have hv := zV (hrep 0 (by simp));have hv : v = .int .u64 x := hv;subst hv;refine (bitsLen_calls x w h0 (by omega)).mono ?_;rintro e w' ⟨rfl, rfl⟩;refine ⟨_, .v (.int .i64 (Lib.bitLen x.toNat)), w'.heap.size, rfl, Nat.le_refl _, ⟨_, rfl⟩, ?_, rfl, .int _ _, fun b hb => hb.elim⟩;exact Below.refl _ _

open Go Go.RowKit Go.Proofs Poly
set_option maxRecDepth 100000
set_option maxHeartbeats 8000000

variable {p : Int} [SP p]
theorem zhB (bk n : Nat) (lim : Int) (h0 : Nat -> Poly p × Nat) (hn : n <= 12) (hd : ∀ i, i < n -> dg (h0 i).1 <= 1000000) (hdis : ∀ i j, i < n -> j < n -> (h0 i).1 = (h0 j).1 -> i = j) :
  MFn Tryz.prog 372 [.nil, .int .i64 0, .int .i64 n, .int .i64 lim, .func 327 []] 0 (.ownV 68 2 bk n fun j => vF (h0 j)) .dead
   (fun _ av x' t' => av = .v (.tup []) ∧ t' = .dead ∧ ∃ h : Nat -> Poly p × Nat, Mix n h0 h ∧ Ord h n ∧ x' = .ownV 68 2 bk n fun j => vF (h j)) := by
 refine zcS (cx := cx [0, 1, 2, 3, 4, 10, 11, 12, 13, 14, 15, 16, 17, 18, 19, 20, 25, 32, 39, 56, 75, 80, 97, 125, 1000000, 1000001]) Tryz.func372 rfl (by decide) Tryz.ntmps372 (Nat.le_of_ble_eq_true rfl) (Nat.le_of_ble_eq_true rfl) rfl rfl fun base hs0 O U hw v0 hb0 => ?_;refine wrs fun K hK => ?_;conv => whnf
 refine hK _ ?_;clear hK K;refine wrs fun K hK => ?_;conv => whnf
 refine hK _ (W.block (W.invH hs0 hb0 (fun m e => m = 0 ∧ e = [(0, .ownV 68 2 bk n fun j => vF (h0 j)), (1, .v (.int .i64 0)), (2, .v (.int .i64 n)), (3, .v (.int .i64 lim)), (4, .v (.func 327 [])), (vt, .dead), (vk, .keep O U hw 0 v0)]) _ _ (⟨rfl, rfl⟩) (by dsimp only; omega) (by repeat' first | refine And.intro ?_ ?_ | exact trivial | rfl | omega | exact .inl rfl | exact fun _ _ => rfl | exact fun _ _ h => h | assumption | exact fun i hi => (by obtain rfl : i = 0 := (by omega); rfl)) ?_));clear hK K;rintro m e ⟨rfl, rfl⟩;refine W.block ?_;refine wrs fun K hK => ?_;conv => whnf
 refine ⟨oo, ?_⟩;conv => whnf
 refine hK _ ?_;clear hK K;refine W.seqK fun K1 hK1 => wrs fun K hK => ?_;conv => whnf
 refine hK _ (W.cond ⟨fun h => ?_, fun h => ?_⟩) <;> clear hK K
 ·refine wrs fun K hK => ?_;conv => whnf
  refine ⟨⟨rfl, rfl⟩, ?_⟩;conv => whnf
  refine ⟨rfl, _, zbr bk n h0 (by omega) hd hdis, ?_⟩;rintro hs' av x' t' hh ⟨rfl, rfl, h, hM, hO, rfl⟩ _ _ _;conv => whnf
  refine hK _ ?_;clear hK K;refine W.ret ?_;conv => whnf
  refine ⟨by dsimp only; omega, ?_⟩;conv => whnf
  exact ⟨.ownV 68 2 bk n fun j => vF (h j), ⟨rfl, rfl, rfl, rfl, fun _ _ => rfl⟩, .inr ⟨rfl, rfl⟩, .dead, trivial, rfl, rfl, rfl, rfl, h, hM, hO, rfl⟩
 ·exact absurd (of_decide_eq_false h) (by omega)

theorem zgE (bk n : Nat) (h0 : Nat -> Poly p × Nat) (hn : n <= 12) (hd : ∀ i, i < n -> dg (h0 i).1 <= 1000000) (hdis : ∀ i j, i < n -> j < n -> (h0 i).1 = (h0 j).1 -> i = j) :
  MFn Tryz.prog 326 [.nil, .func 327 []] 0 (.ownV 68 2 bk n fun j => vF (h0 j)) .dead
   (fun _ av x' t' => av = .v (.tup []) ∧ t' = .dead ∧ ∃ h : Nat -> Poly p × Nat, Mix n h0 h ∧ Ord h n ∧ x' = .ownV 68 2 bk n fun j => vF (h j)) := by
 refine zcS (cx := cx [0, 1, 4, 1000000, 1000001]) Tryz.func326 rfl (by decide) Tryz.ntmps326 (Nat.le_of_ble_eq_true rfl) (Nat.le_of_ble_eq_true rfl) rfl rfl fun base hs0 O U hw v0 hb0 => ?_;refine wrs fun K hK => ?_;conv => whnf
 refine hK _ ?_;clear hK K;refine wrg ?_;conv => whnf
 refine ⟨⟨by omega, by constructor <;> omega⟩, ?_⟩;conv => whnf
 refine yq rfl (zhA n (by omega) (by omega)) ?_;rintro lo hi hi' z h1 h2 h3 ⟨r, rfl⟩ _;try dsimp only at h1
 conv => whnf
 refine ⟨⟨rfl, rfl⟩, ?_⟩;conv => whnf
 refine ⟨rfl, _, zhB bk n r h0 hn hd hdis, ?_⟩;rintro hs' av x' t' hh ⟨rfl, rfl, h, hM, hO, rfl⟩ _ _ _;conv => whnf
 refine ⟨by dsimp only; omega, ?_⟩;conv => whnf
 exact ⟨.ownV 68 2 bk n fun j => vF (h j), ⟨rfl, rfl, rfl, rfl, fun _ _ => rfl⟩, .inr ⟨rfl, rfl⟩, .dead, trivial, rfl, rfl, rfl, rfl, h, hM, hO, rfl⟩


def vFs {p : Int} [SP p] (F : List (Poly p × Nat)) : V := .vals none 2 F.length fun j => vF (F.getD j (0, 0))

theorem zih (g : Option Nat) (xs : List Int) : FnV 320 [.ints g xs] (.int .i64 xs.length) := by
 refine zj (za [0, 2]) Tryz.func320 rfl (by decide) Tryz.ntmps320 (Nat.le_of_ble_eq_true rfl) fun base => ?_;refine wrs fun K hK => ?_;conv => whnf
 refine hK _ ?_;clear hK K;refine wrs fun K hK => ?_;conv => whnf
 refine hK _ ?_;clear hK K;refine W.ret ?_;conv => whnf
 exact ⟨.v (.int .i64 xs.length), ⟨rfl, rfl⟩, trivial, rfl⟩

theorem zgF {p : Int} [SP p] {f : Poly p} {G : List (Poly p × Nat)} (hG : v6 f G) {h : Nat -> Poly p × Nat} (hM : Mix G.length (fun j => G.getD j (0, 0)) h) (hO : Ord h G.length) :
  yg f ((List.range G.length).map h) := by
 refine ⟨?_, fun x => ?_⟩
 ·rw [List.pairwise_map];exact List.pairwise_lt_range.imp_of_mem (fun {a b} ha hb hab => hO a b hab (List.mem_range.1 hb))
 ·rw [<- hG.2, List.mem_map]
  constructor
  ·rintro ⟨i, hi, rfl⟩;obtain ⟨j, hj, e⟩ := (hM.mem (h i)).1 ⟨i, List.mem_range.1 hi, rfl⟩;have e : G.getD j (0, 0) = h i := e;rw [<- e, List.getD_eq_getElem?_getD, List.getElem?_eq_getElem hj];exact List.getElem_mem hj
  ·intro hx;obtain ⟨j, hj, e⟩ := List.getElem_of_mem hx;obtain ⟨i, hi, e'⟩ := (hM.mem x).2 ⟨j, hj, by show G.getD j (0, 0) = x; rw [List.getD_eq_getElem?_getD, List.getElem?_eq_getElem hj]; exact e⟩;exact ⟨i, List.mem_range.2 hi, e'⟩
theorem zkH {p : Int} [SP p] {f : Poly p} {G : List (Poly p × Nat)} (hG : v6 f G) : ∀ i j, i < G.length -> j < G.length -> (G.getD i (0, 0)).1 = (G.getD j (0, 0)).1 -> i = j := by
 intro i j hi hj e;have h1 := zah hG.1 (i := i) (j := j) (by simpa using hi) (by simpa using hj);refine h1 ?_;simp only [List.getD_eq_getElem?_getD, List.getElem?_map, List.getElem?_eq_getElem hi, List.getElem?_eq_getElem hj] at e ⊢
 exact e
theorem zdw {α : Type} (h : Nat -> α) (d : α) {n i : Nat} (hi : i < n) : ((List.range n).map h).getD i d = h i := by
 simp [List.getD_eq_getElem?_getD, hi]

theorem zbQ {α : Type} {d x : α} {L : List α} {j : Nat} (h : j < L.length) : (L ++ [x]).getD j d = L.getD j d := by rw [zbm, if_pos h]
theorem zbR {α : Type} {d x : α} {L : List α} : (L ++ [x]).getD (L.length + 0) d = x := by rw [Nat.add_zero, zbm, if_neg (by omega), if_pos rfl]

theorem jL (p : Int) [SP p] : ∀ (d : Nat) (g : Option Nat) (f : Poly p), dg f <= d -> d <= 13 -> f ≠ 0 -> Fn Tryz.prog 204 [.int .i64 p, .ints g f.l] (fun _ _ z => ∃ F, yg f F ∧ z = .v (vFs F))
 | 0, g, f, hd, _, hf0 => absurd (zc.1 (by omega)) hf0
 | d + 1, g, f, hd, hd13, hf0 => by
  have ih := jL p d;have hp := Pr.two (p := p);have hp2 := SP.le (p := p);have hm := vR hf0;have hmd : dg (mnc f) <= dg f := zC (zL f).1 hf0;generalize hr0 : mnc f = r0 at hm hmd;have hrl : r0.l.length = dg r0 := rfl;refine zj (za [0, 1, 4, 5, 6, 7, 8, 11, 12, 13, 14, 15, 16, 18, 28, 41, 42, 43, 44, 58, 78, 82, 95, 96, 97, 98]) Tryz.func204 rfl (by decide) Tryz.ntmps204 (Nat.le_of_ble_eq_true rfl) fun base => ?_;refine wrs fun K hK => ?_;conv => whnf
  refine hK _ ?_;clear hK K;refine wrs fun K hK => ?_;conv => whnf
  refine hK _ ?_;clear hK K;refine wrs fun K hK => ?_;conv => whnf
  refine zB rfl (zgB p g f (by omega)) fun hs_1 b_1 hh_1 hf_1 => ?_;try dsimp only at hh_1 hf_1
  conv => whnf
  rw [hr0];refine hK _ ?_;clear hK K;refine W.seqK fun K1 hK1 => ?_
  -- what is left, and the factors found
  have fin : ∀ (r : Poly p) (L : List (Poly p × Nat)) (bL : Nat) (s : S), Mon r -> dg r <= dg r0 -> der r = 0 -> L.length <= 12 -> (∀ F, v6 r F -> v6 r0 (L ++ F)) -> base <= s.hs ->
    zy s.env [(0, .v (.int .i64 p)), (4, .v .nil), (5, .ownV 68 2 bL L.length fun j => vF (L.getD j (0, 0))), (6, .v (.ints none r.l))] -> K1 s := by
   intro r L bL s hrm hrd hder hL12 hfac h5 h6;refine hK1 _ (W.weak (t := ⟨[(0, .v (.int .i64 p)), (4, .v .nil), (5, .ownV 68 2 bL L.length fun j => vF (L.getD j (0, 0))), (6, .v (.ints none r.l))], base⟩) ⟨h5, h6⟩ (Nat.le_refl _) ?_);clear hK1 h5 h6 s K1;have hrl : r.l.length = dg r := rfl;have hr1 : dg r ≠ 0 := fun e => hrm.1 (zc.1 e);refine W.seqK fun K1 hK1 => ?_
   -- the end: all factors are in the list
   have fin2 : ∀ (G : List (Poly p × Nat)) (bG : Nat) (s : S), v6 r0 G -> base <= s.hs -> zy s.env [(0, .v (.int .i64 p)), (4, .v .nil), (5, .ownV 68 2 bG G.length fun j => vF (G.getD j (0, 0)))] -> K1 s := by
    intro G bG s hG h5 h6;refine hK1 _ (W.weak (t := ⟨[(0, .v (.int .i64 p)), (4, .v .nil), (5, .ownV 68 2 bG G.length fun j => vF (G.getD j (0, 0)))], base⟩) ⟨h5, h6⟩ (Nat.le_refl _) ?_);clear hK1 h5 h6 s K1;have hfew := hG.few hm.1;refine wrs fun K hK => ?_;conv => whnf
    refine ⟨⟨rfl, rfl⟩, ?_⟩;conv => whnf
    refine ⟨rfl, _, zgE bG G.length (fun j => G.getD j (0, 0)) (by omega) (fun i hi => ?_) (zkH hG), ?_⟩
    ·have h7 : G.getD i (0, 0) ∈ G := by rw [List.getD_eq_getElem?_getD, List.getElem?_eq_getElem hi]; exact List.getElem_mem hi
     obtain ⟨a1, a2, a3, a4⟩ := (hG.2 _).1 h7;have := zC (a4.dvd a3) hm.1;show dg (G.getD i (0, 0)).1 <= 1000000
     omega
    rintro hs' av x' t' hh ⟨rfl, rfl, h, hM, hO, rfl⟩ _ _ _;try dsimp only at hh
    conv => whnf
    refine hK _ ?_;clear hK K;refine wrs fun K hK => ?_;conv => whnf
    refine hK _ ?_;clear hK K;refine W.ret ?_;conv => whnf
    exact ⟨.v (vFs ((List.range G.length).map h)), ⟨rfl, rfl, by simp, fun i hi => congrArg vF (zdw h (0, 0) hi).symm⟩, ⟨trivial, fun _ _ => ⟨trivial, trivial, trivial⟩⟩, _, zgF (v6.mnc hf0 (hr0 ▸ hG)) hM hO, rfl⟩
   clear hK1;refine wrs fun K hK => ?_;conv => whnf
   rw [hrl];refine hK _ (W.cond ⟨fun h7 => ?_, fun h7 => ?_⟩) <;> clear hK K
   ·have h7 := of_decide_eq_true h7;refine wrs fun K hK => ?_;conv => whnf
    refine hK _ ?_;clear hK K;refine W.seqK fun K3 hK3 => ?_;refine wrs fun K hK => ?_;conv => whnf
    refine hK _ (W.block (W.invE (fun m e => ∃ (k bR : Nat), (m = dg r + p.toNat - k * p.toNat) ∧ k * p.toNat < dg r + p.toNat ∧ e = [(0, .v (.int .i64 p)), (4, .v .nil), (5, .ownV 68 2 bL L.length fun j => vF (L.getD j (0, 0))), (6, .v (.ints none r.l)), (15, .ownI 2 bR (mkL k fun i => cf r.l (i * p.toNat))), (16, .v (.int .i64 ((k * p.toNat : Nat) : Int)))]) _ _ ⟨0, 0, rfl, by omega, rfl⟩ (by dsimp only; omega) (by repeat' first | refine And.intro ?_ ?_ | exact trivial | rfl | omega | assumption | exact .inl rfl | exact .inr rfl | exact fun _ _ => rfl) ?_));clear hK K;rintro m e ⟨k, bR, hm', hk, rfl⟩;have hpn : ((p.toNat : Nat) : Int) = p := by omega
    have hk1 : (k + 1) * p.toNat = k * p.toNat + p.toNat := Nat.succ_mul _ _;have hk2 : (((k + 1) * p.toNat : Nat) : Int) = ((k * p.toNat : Nat) : Int) + p := by omega
    have hcfk : cf r.l (k * p.toNat) = cf r.l (k * p.toNat) := rfl;generalize hkp : k * p.toNat = kp at hm' hk hk1 hk2 hcfk;refine W.seqK fun K7 hK7 => ?_;refine wrs fun K hK => ?_;conv => whnf
    refine zg rfl (zih none r.l) fun hs' hhs => ?_;try dsimp only at hhs
    conv => whnf
    rw [hrl];refine hK _ (W.cond ⟨fun h8 => ?_, fun h8 => ?_⟩) <;> clear hK K
    ·have h8 := of_decide_eq_true h8;refine W.skip (hK7 _ ?_);clear hK7 K7;refine W.seqK fun K8 hK8 => W.block ?_;refine wrg ?_;conv => whnf
     refine ⟨oo, ?_⟩;conv => whnf
     rw [Int.toNat_natCast];have hkk : k <= kp := by rw [<- hkp]; exact Nat.le_mul_of_pos_right k (by omega)
     have hml : (mkL k fun i => cf r.l (i * p.toNat)).length = k := z4 _ _;have hms : mkL (k + 1) (fun i => cf r.l (i * p.toNat)) = mkL k (fun i => cf r.l (i * p.toNat)) ++ [r.l.getD kp 0] := by rw [zaL, hkp]; rfl
     refine ⟨⟨rfl, by decide⟩, ?_⟩;conv => whnf
     intro b_4 hs_4 hh_4 hf_4;try dsimp only at hh_4 hf_4
     conv => whnf
     refine ⟨by dsimp only [List.length]; omega, ?_⟩;conv => whnf
     intro b_6 hs_6 hh_6 hf_6;try dsimp only at hh_6 hf_6
     conv => whnf
     refine hK8 _ ?_;clear hK8 K8;refine wrg ?_;conv => whnf
     refine ⟨oo, ?_⟩;conv => whnf
     refine ⟨_, _, ⟨k + 1, b_6, rfl, by omega, rfl⟩, by omega, by dsimp only; omega, ?_⟩;rw [hms];exact cvr
    ·have h8 := of_decide_eq_false h8;obtain ⟨R, hR1, hR2, hR3, hR4, hR5⟩ := zen (f := r) hrm hder (l := mkL k fun i => cf r.l (i * p.toNat)) (n := k) (z4 _ _) (fun i hi => by rw [xI, if_pos hi]) (by omega) (by omega);rw [<- hR1];have hRf0 := hR2.1;have hRd := hR5 (by omega);refine W.exit (hK3 _ ?_);clear hK7 K7 hK3 K3;refine wrs fun K hK => ?_;conv => whnf
     refine yq rfl (ih _ R (by omega) (by omega) hRf0) ?_;rintro lo hi hi' z hl1 hl2 hl3 ⟨F, hF, rfl⟩ _;try dsimp only at hl1 hl2
     have hFf := hF.facs.few hRf0;have hG := hfac _ (v6.up hRf0 (n := p.toNat) (by omega) hR3 hF.facs);have hGl := hG.few hm.1;conv => whnf
     refine hK _ (W.block (W.invE (fun m e => ∃ (j bG : Nat), j <= F.length ∧ m = F.length - j ∧ e = [(0, .v (.int .i64 p)), (4, .v .nil), (5, .ownV 68 2 bG (L ++ (up p.toNat F).take j).length fun i => vF ((L ++ (up p.toNat F).take j).getD i (0, 0))), (95, .v (vFs F)), (96, .v (.int .i64 F.length)), (97, .v (.int .i64 j))]) _ _ ⟨0, bL, Nat.zero_le _, rfl, rfl⟩ (by dsimp only; omega) (by
      have e3 : L ++ (up p.toNat F).take 0 = L := List.append_nil _;rw [e3]
      repeat' first | refine And.intro ?_ ?_ | exact trivial | rfl | omega | assumption | exact .inl rfl | exact fun _ _ => rfl) ?_))
     clear hK K;rintro m e ⟨j, bG, hj, hm', rfl⟩;have hul : (up p.toNat F).length = F.length := List.length_map ..;refine wrs fun K hK => ?_;conv => whnf
     refine hK _ ?_;clear hK K;refine W.seqK fun K7 hK7 => W.cond ⟨fun h9 => ?_, fun h9 => ?_⟩ <;> (first | replace h9 := of_decide_eq_true h9 | replace h9 := of_decide_eq_false h9)
     ·have h9 : j < F.length := by omega
      have hxm : F.getD j (0, 0) ∈ F := by rw [List.getD_eq_getElem?_getD, List.getElem?_eq_getElem h9]; exact List.getElem_mem h9
      have hxu : (up p.toNat F).take (j + 1) = (up p.toNat F).take j ++ [((F.getD j (0, 0)).1, p.toNat * (F.getD j (0, 0)).2)] := by
       rw [List.take_add_one, List.getElem?_eq_getElem (by omega)];unfold up;simp [List.getElem_map, List.getD_eq_getElem?_getD, List.getElem?_eq_getElem h9]
      obtain ⟨a1, a2, a3, a4⟩ := (hF.2 _).1 hxm
      have hx2 : (F.getD j (0, 0)).2 < 14 := by
       obtain ⟨u, h5, h6⟩ := a4;have h10 := zbi a1.1 (F.getD j (0, 0)).2;have h11 := zC (⟨u, h5⟩ : _ ∣ R) hRf0;omega
      generalize hx : F.getD j (0, 0) = x at hxm hxu a1 a2 a3 a4 hx2;have hpx : ((p.toNat * x.2 : Nat) : Int) = p * (x.2 : Int) := by rw [Int.natCast_mul, show ((p.toNat : Nat) : Int) = p by omega]
      have hpx2 : 0 <= p * (x.2 : Int) ∧ p * (x.2 : Int) <= 97 * 13 := ⟨Int.mul_nonneg (by omega) (by omega), Int.mul_le_mul (by omega) (by omega) (by omega) (by omega)⟩
      refine W.skip (hK7 _ ?_);clear hK7 K7;refine W.seqK fun K8 hK8 => W.block ?_;refine wrs fun K hK => ?_;conv => whnf
      refine ⟨oo, ?_⟩;conv => whnf
      rw [Int.toNat_natCast, hx];intro b_7 hs_7 hh_7 hf_7;try dsimp only at hh_7 hf_7
      conv => whnf
      refine ⟨s23, ?_⟩;conv => whnf
      refine hK _ ?_;clear hK K;refine wrg ?_;conv => whnf
      refine ⟨oo, ?_⟩;conv => whnf
      rw [<- hpx];refine ⟨⟨rfl, by decide, fun x hx => by simp at hx; subst hx; exact ⟨rfl, rfl⟩⟩, ?_⟩;conv => whnf
      intro b_8 hs_8 hh_8 hf_8;try dsimp only at hh_8 hf_8
      conv => whnf
      have hAl : (L ++ (up p.toNat F).take j).length <= 26 := by rw [List.length_append, List.length_take]; omega
      refine ⟨by omega, ?_⟩;conv => whnf
      refine ⟨fun i => vF ((L ++ (up p.toNat F).take j ++ [(x.1, p.toNat * x.2)]).getD i (0, 0)), fun i hi => congrArg vF (zbQ hi), fun i hi => ?_, ?_⟩
      ·obtain rfl : i = 0 := by omega
       exact congrArg vF zbR
      intro b_9 hs_9 hh_9 hf_9;try dsimp only at hh_9 hf_9
      conv => whnf
      refine hK8 _ ?_;clear hK8 K8;refine wrg ?_;conv => whnf
      refine ⟨oo, ?_⟩;conv => whnf
      refine ⟨_, _, ⟨j + 1, b_9, by omega, rfl, rfl⟩, by omega, by dsimp only; omega, ?_⟩;rw [hxu, <- List.append_assoc, List.length_append (bs := [_])];exact cvr
     ·obtain rfl : j = F.length := by omega
      rw [List.take_of_length_le (by omega)];refine W.exit (fin2 _ bG _ hG (by dsimp only; omega) ?_);clear fin2 hK7 K7;exact cvr
   ·have h7 := of_decide_eq_false h7;have hu := hfac [] (v6.unit (by omega));rw [List.append_nil] at hu;refine W.skip (fin2 L bL _ hu (by dsimp only; omega) ?_);clear fin2;exact cvr
  clear hK1;refine wrs fun K hK => ?_;conv => whnf
  refine zg rfl (zdK _ r0.l ((kL r0).le (by omega)) (by omega)) fun hs' hhs => ?_;try dsimp only at hhs
  conv => whnf
  refine zB rfl (zbp p (by omega) (by omega) none (mkL (r0.l.length - 1) (dv (cf r0.l))) (fun j => by rw [xI]; split; (rename_i hj; have hc := jS r0 (j + 1); have h8 := Int.mul_nonneg (by omega : (0 : Int) <= (j : Int) + 1) hc.1; have h9 := Int.mul_le_mul (by omega : (j : Int) + 1 <= 13) (by omega : cf r0.l (j + 1) <= 97) hc.1 (by omega); unfold dv; omega); omega) (by rw [z4]; omega)) fun hs_2 b_2 hh_2 hf_2 => ?_;try dsimp only at hh_2 hf_2
  conv => whnf
  rw [zlE];refine hK _ ?_;clear hK K;refine wrs fun K hK => ?_;conv => whnf
  have hdl : (der r0).l.length = dg (der r0) := rfl;rw [hdl];refine hK _ (W.cond ⟨fun h => ?_, fun h => ?_⟩) <;> clear hK K
  ·have h := of_decide_eq_true h;have hd0 : der r0 ≠ 0 := fun e => by rw [e, zq] at h; omega
   obtain ⟨s1, s2, s3, s4, s5, s6, s7⟩ := zid hm hd0;refine wrs fun K hK => ?_;conv => whnf
   refine zB rfl (zeq p _ _ r0 (der r0) (by omega) (by have := zbh hm.1; omega)) fun hs_3 b_3 hh_3 hf_3 => ?_;try dsimp only at hh_3 hf_3
   conv => whnf
   refine zg rfl (jq p _ _ r0 (gcd r0 (der r0)) (by omega) (by have := zC s6 hd0; have := zbh hm.1; omega) s7) fun hs' hhs => ?_;try dsimp only at hhs
   conv => whnf
   generalize hq : quo r0 (gcd r0 (der r0)) = q at s1 s2 s3 s4 s5;generalize gcd r0 (der r0) = c at s1 s6 s7;refine hK _ ?_;clear hK K;refine wrs fun K hK => ?_;conv => whnf
   refine yq rfl (zkG p q s2 s3 s4 (by omega)) ?_;rintro lo hi hi' z hl1 hl2 hl3 ⟨P, hP, rfl⟩ _;have hPf := hP.few (f := q) s2.1;try dsimp only at hl1 hl2
   conv => whnf
   refine hK _ (W.block (W.invE (fun m e => ∃ (k bL : Nat) (r : Poly p) (L : List (Poly p × Nat)), Peel r0 P k r L ∧ dg r <= dg r0 ∧ m = P.length - k ∧ e = [(0, .v (.int .i64 p)), (4, .v .nil), (5, .ownV 68 2 bL L.length fun j => vF (L.getD j (0, 0))), (6, .v (.ints none r.l)), (41, .v (vPs P)), (42, .v (.int .i64 P.length)), (43, .v (.int .i64 k))]) _ _ ⟨0, 0, r0, [], Peel.start hm P, Nat.le_refl _, rfl, rfl⟩ (by dsimp only; omega) (by repeat' first | refine And.intro ?_ ?_ | exact trivial | rfl | omega | assumption | exact .inl rfl | exact .inr rfl | exact fun _ _ => rfl) ?_));clear hK K;rintro m e ⟨k, bL, r, L, hpe, hrd, hm', rfl⟩;refine wrs fun K hK => ?_;conv => whnf
   refine hK _ ?_;clear hK K;refine W.seqK fun K7 hK7 => W.cond ⟨fun h2 => ?_, fun h2 => ?_⟩ <;> (first | replace h2 := of_decide_eq_true h2 | replace h2 := of_decide_eq_false h2)
   ·have h2 : k < P.length := by omega
    have hmem : P.getD k 0 ∈ P := by rw [List.getD_eq_getElem?_getD, List.getElem?_eq_getElem h2]; exact List.getElem_mem h2
    obtain ⟨hgi, hgm, hgd⟩ := (hP.2 _).1 hmem;have hgd0 : P.getD k 0 ∣ r0 := zp hgd ⟨c, s1⟩;have hgdg := zC hgd0 hm.1;have step := fun n r' he hn => hpe.step (n := n) (r' := r') hP.1 h2 hgi hgm hgd0 he hn;generalize hgq : P.getD k 0 = q1 at hgi hgm hgd hgd0 hgdg step;have hlen := hpe.len;refine W.skip (hK7 _ ?_);clear hK7 K7;refine W.seqK fun K8 hK8 => W.block ?_;refine wrs fun K hK => ?_;conv => whnf
    refine ⟨oo, ?_⟩;conv => whnf
    have e1 : (fun j => V.ints none (P.getD j 0).l) (k : Int).toNat = .ints none q1.l := by rw [Int.toNat_natCast]; show V.ints none (P.getD k 0).l = _; rw [hgq]
    rw [e1];conv => whnf
    refine hK _ ?_;clear hK K;refine wrs fun K hK => ?_;conv => whnf
    intro b_9 hs_9 hh_9 hf_9;try dsimp only at hh_9 hf_9
    conv => whnf
    refine ⟨s23, ?_⟩;conv => whnf
    refine hK _ ?_;clear hK K
    have hpow : ∀ {n : Nat} {rc : Poly p}, r = q1 ^ n * rc -> n < 14 ∧ rc ≠ 0 ∧ dg rc <= dg r := fun {n rc} he => by
     have h5 := zbi hgi.1 n;have h6 := zC (⟨rc, he⟩ : q1 ^ n ∣ r) hpe.mon.1;have h7 : rc ∣ r := ⟨q1 ^ n, by rw [he]; exact vh _ _⟩
     exact ⟨by omega, zc1 h7 hpe.mon.1, zC h7 hpe.mon.1⟩
    refine W.seqK fun K2 hK2 => ?_;refine wrs fun K hK => ?_;conv => whnf
    refine zg rfl (jq p _ _ r q1 (by omega) (by omega) hgi.ne) fun hs' hhs => ?_;try dsimp only at hhs
    conv => whnf
    refine hK _ (W.block (W.invE (fun m e => ∃ (n : Nat) (rc : Poly p), r = q1 ^ n * rc ∧ m = dg rc ∧ e = [(0, .v (.int .i64 p)), (4, .v .nil), (5, .ownV 68 2 bL L.length fun j => vF (L.getD j (0, 0))), (6, .v (.ints none rc.l)), (11, .v (.ints none q1.l)), (12, .ownB b_9 (.agg [.ints none q1.l, .int .i64 n])), (13, .v (.ints none (quo rc q1).l)), (14, .v (.ints none (rem rc q1).l)), (41, .v (vPs P)), (42, .v (.int .i64 P.length)), (43, .v (.int .i64 k))]) _ _ ⟨0, r, by rw [zo]; exact zf [r] (by rfl), rfl, rfl⟩ (by dsimp only; omega) (by repeat' first | refine And.intro ?_ ?_ | exact trivial | rfl | omega | assumption | exact .inl rfl | exact .inr rfl | exact fun _ _ => rfl) ?_));clear hK K;rintro m2 e ⟨n, rc, he, hm2, rfl⟩;obtain ⟨hn14, hrc0, hrcd⟩ := hpow he;have hreml : (rem rc q1).l.length = dg (rem rc q1) := rfl;refine W.seqK fun K7 hK7 => wrs fun K hK => ?_;conv => whnf
    refine hK _ (W.cond ⟨fun h3 => ?_, fun h3 => ?_⟩) <;> clear hK K <;> (first | replace h3 := of_decide_eq_true h3 | replace h3 := of_decide_eq_false h3)
    ·have hrem : rem rc q1 = 0 := zc.1 (by omega)
     have hdiv : rc = quo rc q1 * q1 := by
      have h5 := v3 rc q1;rw [hrem] at h5;have e : ∀ a : Poly p, a + 0 = a := fun a => by exact zf [a] (by rfl)
      rw [e] at h5; exact h5
     have hq0 : quo rc q1 ≠ 0 := fun e => hrc0 (by rw [hdiv, e]; exact zf [q1] (by rfl));have hdgq := yv hq0 hgi.ne;rw [<- hdiv] at hdgq;have hg2 := hgi.1;refine W.skip (hK7 _ ?_);clear hK7 K7;refine W.seqK fun K8 hK8 => W.block ?_;refine wrs fun K hK => ?_;conv => whnf
     refine hK _ ?_;clear hK K;refine wrg ?_;conv => whnf
     refine ⟨oo, ?_⟩;conv => whnf
     refine ⟨⟨(by show 1 + 1 <= 2; omega), rfl⟩, ?_⟩;conv => whnf
     refine hK8 _ ?_;clear hK8 K8;refine wrg ?_;conv => whnf
     refine zg rfl (jq p _ _ (quo rc q1) q1 (by omega) (by omega) hgi.ne) fun hs' hhs => ?_;try dsimp only at hhs
     conv => whnf
     exact zm ⟨n + 1, quo rc q1, by rw [he, zd]; exact comb (q1 ^ n) hdiv (zf [rc, q1, quo rc q1, q1 ^ n] (by rfl)), rfl, rfl⟩
    ·have hnd : ¬ q1 ∣ rc := fun hd => by
      have := (ko hgi.ne).1 hd;have : dg (rem rc q1) = 0 := by rw [this]; exact zq
      omega
     refine W.exit (hK2 _ ?_);clear hK7 K7 hK2 K2;refine wrg ?_;conv => whnf
     refine ⟨⟨rfl, by decide, fun x hx => by simp at hx; subst hx; exact ⟨rfl, rfl⟩⟩, ?_⟩;conv => whnf
     intro b_5 hs_5 hh_5 hf_5;try dsimp only at hh_5 hf_5
     conv => whnf
     refine ⟨by omega, ?_⟩;conv => whnf
     refine ⟨fun i => vF ((L ++ [(q1, n)]).getD i (0, 0)), fun i hi => congrArg vF (zbQ hi), fun i hi => ?_, ?_⟩
     ·obtain rfl : i = 0 := by omega
      exact congrArg vF zbR
     intro b_6 hs_6 hh_6 hf_6;try dsimp only at hh_6 hf_6
     conv => whnf
     refine hK8 _ ?_;clear hK8 K8;refine wrg ?_;conv => whnf
     refine ⟨oo, ?_⟩;conv => whnf
     refine ⟨_, _, ⟨k + 1, b_6, rc, L ++ [(q1, n)], step n rc he hnd, by omega, rfl, rfl⟩, by omega, by dsimp only; omega, ?_⟩;rw [List.length_append (bs := [_])];exact cvr
   ·obtain rfl : k = P.length := by have := hpe.le; omega
    refine W.exit (fin r L bL _ hpe.mon hrd (hpe.fin hm hP s1 s6).1 (by have := hpe.len; omega) (fun F hF => hpe.facs hm hP s1 s6 hF) (by dsimp only; omega) ?_);clear fin hK7 K7;exact cvr
  ·have h := of_decide_eq_false h;have hd0 : der r0 = 0 := zc.1 (by omega);refine W.skip (fin r0 [] 0 _ hm (Nat.le_refl _) hd0 (by simp) (fun F hF => hF) (by dsimp only; omega) ?_);clear fin;exact cvr


def zff {p : Int} [SP p] (F : List (Poly p × Nat)) : Bool := bif decide ((F.length : Int) = 1) then decide (((F.getD 0 (0, 0)).2 : Int) = 1) else false

theorem zbs (p : Int) [SP p] (g : Option Nat) (f : Poly p) (hf : dg f <= 13) (hf0 : f ≠ 0) : Fn Tryz.prog 199 [.int .i64 p, .ints g f.l] (fun _ _ z => ∃ F, yg f F ∧ z = .v (.bool (zff F))) := by
 refine zj (za [0, 1, 4, 5]) Tryz.func199 rfl (by decide) Tryz.ntmps199 (Nat.le_of_ble_eq_true rfl) fun base => ?_;refine wrs fun K hK => ?_;conv => whnf
 refine hK _ ?_;clear hK K;refine wrs fun K hK => ?_;conv => whnf
 refine yq rfl (jL p _ g f hf (Nat.le_refl _) hf0) ?_;rintro lo hi hi' z hl1 hl2 hl3 ⟨F, hF, rfl⟩ _;try dsimp only at hl1 hl2
 have hlen := hF.facs.few hf0;conv => whnf
 refine hK _ ?_;clear hK K;refine wrs fun K hK => ?_;conv => whnf
 refine ⟨fun h => ?_, fun h => ?_⟩ <;> conv => whnf
 ·refine ⟨⟨by omega, by have := of_decide_eq_true h; omega⟩, ?_⟩;conv => whnf
  refine hK _ ?_;clear hK K;refine W.ret ?_;conv => whnf
  exact ⟨.v (.bool (zff F)), (by show decide _ = zff F; unfold zff; rw [h]; rfl), trivial, F, hF, rfl⟩
 ·refine hK _ ?_;clear hK K;refine W.ret ?_;conv => whnf
  exact ⟨.v (.bool (zff F)), (by show zff F = false; unfold zff; rw [h]; rfl), trivial, F, hF, rfl⟩


structure MatR (tb : Nat -> Option (List Int)) (bl : Nat -> Nat) (n m : Nat) (R : Nat -> Nat -> Int) : Prop where
 inj : ∀ i j, i < n -> j < n -> bl i = bl j -> i = j
 row : ∀ i, i < n -> ∃ l, tb (bl i) = some l ∧ l.length = m ∧ ∀ x, x < m -> cf l x = R i x
theorem MatR.store {tb : Nat -> Option (List Int)} {bl : Nat -> Nat} {n m : Nat} {R : Nat -> Nat -> Int} (h : MatR tb bl n m R) {i x : Nat} (hi : i < n) (hx : x < m) {l : List Int} (hl : tb (bl i) = some l) (v : Int) :
  MatR (yk tb (bl i) (l.set x v)) bl n m (fun a y => if a = i ∧ y = x then v else R a y) := by
 refine ⟨h.inj, fun a ha => ?_⟩;obtain ⟨l1, h1, h2, h3⟩ := h.row a ha
 by_cases he : a = i
 ·subst he;rw [hl] at h1;cases h1
  refine ⟨l.set x v, yD _ _ _, by simpa using h2, fun y hy => ?_⟩;rw [yN (by omega)]
  by_cases hyx : y = x
  ·simp [hyx]
  ·simp [hyx, h3 y hy]
 ·have hne : bl a ≠ bl i := fun e => he (h.inj a i ha hi e);refine ⟨l1, by rw [xk _ _ hne]; exact h1, h2, fun y hy => ?_⟩;simp [he, h3 y hy]
theorem MatR.congr {tb : Nat -> Option (List Int)} {bl : Nat -> Nat} {n m : Nat} {R R' : Nat -> Nat -> Int} (h : MatR tb bl n m R) (he : ∀ i x, i < n -> x < m -> R i x = R' i x) : MatR tb bl n m R' :=
 ⟨h.inj, fun i hi => by obtain ⟨l, h1, h2, h3⟩ := h.row i hi; exact ⟨l, h1, h2, fun x hx => by rw [h3 x hx, he i x hi hx]⟩⟩

def vU (b : Bool) : V := bif b then .tr else .bool false
theorem Half.used {p : Int} {n : Nat} {M : Nat -> Nat -> Int} {col : Nat} {u u' : Nat -> Prop} {L T : Nat -> Nat -> Int} (h : Half p n M col u L T) (e : ∀ k, u k ↔ u' k) : Half p n M col u' L T :=
 (funext fun k => propext (e k) : u = u') ▸ h
def xA (p : Int) (R : Nat -> Nat -> Int) (q : Nat -> Int) (a i k x : Nat) : Int := if k < i ∧ k ≠ a then (R k x - q k * R a x) % p else R k x
noncomputable def jW {p : Int} [SP p] (f : Poly p) (n : Nat) (i x : Nat) : Int := if x < n then cf (kq f i).l x else if x = n + i then 1 else 0

theorem zfg (p : Int) [SP p] (g : Option Nat) (f : Poly p) (n : Nat) (hf : dg f = n + 1) (hn0 : 1 <= n) (hn : n <= 400) :
    Fn Tryz.prog 403 [.int .i64 p, .ints g f.l] (fun _ _ z => ∃ v : Poly p, z = .v (.ints none v.l) ∧ ((2 <= dg v ∧ dg v <= n ∧ Ber f v) ∨ (v = 0 ∧ ∀ w, dg w <= n -> Ber f w -> dg w <= 1))) := by
  have hp := Pr.two (p := p);have hp2 := SP.le (p := p);have hfl : f.l.length = n + 1 := hf;have hf0 : f ≠ 0 := fun e => by rw [e, zq] at hf; omega
  have e2n : (2 : Int) * (n : Int) = ((2 * n : Nat) : Int) := by omega
  refine zj (zi [0, 1, 4, 5, 6, 7, 8, 9, 10, 11, 12, 13, 14, 15, 16, 17, 18, 19, 20, 27, 43, 76, 81, 98, 101, 116, 131, 146, 176, 195, 1000000]) Tryz.func403 rfl (by decide) Tryz.ntmps403 (Nat.le_of_ble_eq_true rfl) fun base => ?_;refine W.tab0 rfl ?_;refine W.rs (zi _) (by rfl) fun K hK => ?_;conv => whnf
  refine hK _ ?_;clear hK K;refine W.rs (zi _) (by rfl) fun K hK => ?_;conv => whnf
  rw [hfl];refine ⟨oo, ?_⟩;conv => whnf
  have e0 : (((n + 1 : Nat) : Int) - 1) = n := by omega
  rw [e0];refine hK _ ?_;clear hK K;refine W.rs (zi _) (by rfl) fun K hK => ?_;conv => whnf
  refine ⟨⟨rfl, by decide, fun x hx => by simp at hx⟩, ?_⟩;conv => whnf
  intro b_0 hs_0 hh_0 hf_0;try dsimp only at hh_0 hf_0
  conv => whnf
  refine hK _ ?_;clear hK K;refine W.seqK fun K1 hK1 => ?_;refine W.rs (zi _) (by rfl) fun K hK => ?_;conv => whnf
  refine hK _ (W.block (W.inv (fun m s => ∃ (i hs ba : Nat) (bl : Nat -> Nat) (tb : Nat -> Option (List Int)), i <= n ∧ base <= hs ∧ (∀ j, j < i -> bl j < hs) ∧ MatR tb bl i (2 * n) (jW f n) ∧ m = n - i ∧
    s = ⟨[(0, .v (.int .i64 p)), (1, .v (.ints g f.l)), (5, .v (.int .i64 n)), (6, .ownV 24 1 ba i fun j => .rf (bl j) (2 * n)), (7, .v (.int .i64 i)), (vt, .tab tb)], hs⟩) _ _
    ⟨0, base, b_0, fun _ => 0, fun _ => none, Nat.zero_le _, Nat.le_refl _, fun j hj => by omega, ⟨fun i j hi => by omega, fun i hi => by omega⟩, rfl, rfl⟩ ⟨by dsimp only; omega, by repeat' first | refine And.intro ?_ ?_ | exact trivial | rfl | omega | assumption | exact fun _ _ => rfl | exact fun _ _ h => h | exact fun i hi => absurd hi (by omega)⟩
    (by rintro m s ⟨_, _, _, _, _, _, h, _, _, _, rfl⟩; exact h) ?_))
  clear hK K hh_0 hf_0;rintro m s ⟨i, hs, ba, bl, tb, hi, hhs, hlt, hM, hm, rfl⟩;refine W.seqK fun K7 hK7 => ?_;refine W.rs (zi _) (by rfl) fun K hK => ?_;conv => whnf
  refine hK _ (W.cond ⟨fun h2 => ?_, fun h2 => ?_⟩) <;> clear hK K
  · have h2 : i < n := by have := of_decide_eq_true h2; omega
    have epi : (i : Int) * p = ((p.toNat * i : Nat) : Int) := by rw [Int.natCast_mul, Int.mul_comm]; congr 1; omega
    have hpi : p.toNat * i <= 97 * 400 := Nat.mul_le_mul (by omega) (by omega);have hWl : (rem (X p ^ (p.toNat * i)) f).l.length = dg (rem (X p ^ (p.toNat * i)) f) := rfl;have hWd := yB (X p ^ (p.toNat * i)) hf0;refine W.skip (hK7 _ ?_);clear hK7 K7;refine W.seqK fun K8 hK8 => W.block ?_;refine W.rs (zi _) (by rfl) fun K hK => ?_;conv => whnf
    refine ⟨oo, ?_⟩;conv => whnf
    rw [e2n];refine ⟨rfl, ?_⟩;conv => whnf
    refine ⟨oo, ?_⟩;conv => whnf
    rw [Int.toNat_natCast];intro b_8 hs_8 hh_8 hf_8;try dsimp only at hh_8 hf_8
    conv => whnf
    refine hK _ ?_;clear hK K;refine W.rs (zi _) (by rfl) fun K hK => ?_;conv => whnf
    refine ⟨⟨rfl, by decide⟩, ?_⟩;conv => whnf
    intro b_x hs_x hh_x hf_x;try dsimp only at hh_x hf_x
    conv => whnf
    refine ⟨by rw [epi]; constructor <;> omega, ?_⟩;conv => whnf
    rw [epi];have ex : [(0 : Int), 1] = (X p).l := X_l.symm;rw [ex]
    have hXd : dg (X p) <= 1000000 := by
      have : (X p).l.length = 2 := by rw [X_l]; rfl
      show (X p).l.length <= _
      omega
    refine zg rfl (zgC p _ g (X p) f (p.toNat * i) (by omega) hXd (by omega) hf0) fun hs' hhs => ?_;try dsimp only at hhs
    conv => whnf
    generalize hW : rem (X p ^ (p.toNat * i)) f = Wp at *;refine hK _ ?_;clear hK K;have hb8 := hf_8 (by omega);refine W.seqK fun K2 hK2 => ?_;refine W.rs (zi _) (by rfl) fun K hK => ?_;conv => whnf
    refine hK _ (W.block (W.invH hs_8 (by omega) (fun m e => ∃ (k : Nat) (l : List Int), k <= dg Wp ∧ l.length = 2 * n ∧ (∀ x, cf l x = if x < k then cf Wp.l x else 0) ∧ m = dg Wp - k ∧ e = [(0, .v (.int .i64 p)), (1, .v (.ints g f.l)), (5, .v (.int .i64 n)), (6, .ownV 24 1 ba i fun j => .rf (bl j) (2 * n)), (7, .v (.int .i64 i)), (8, .ownI 2 b_8 l), (9, .v (.ints none Wp.l)), (10, .v (.int .i64 k)), (vt, .tab tb)]) _ _ ⟨0, List.replicate (2 * n) 0, Nat.zero_le _, by simp, fun x => by rw [if_neg (by omega), zR], rfl, rfl⟩ (by dsimp only; omega) (by repeat' first | refine And.intro ?_ ?_ | exact trivial | rfl | omega | assumption | exact .inl rfl | exact fun _ _ => rfl | exact fun _ _ h => h) ?_));clear hK K;rintro m2 e ⟨k, l, hk, hll, hlc, hm2, rfl⟩;refine W.seqK fun K7 hK7 => ?_;refine W.rs (zi _) (by rfl) fun K hK => ?_;conv => whnf
    rw [hWl];refine hK _ (W.cond ⟨fun h3 => ?_, fun h3 => ?_⟩) <;> clear hK K
    · have h3 : k < dg Wp := by have := of_decide_eq_true h3; omega
      refine W.skip (hK7 _ ?_);clear hK7 K7;refine W.seqK fun K9 hK9 => W.block ?_;refine W.region (zi _) (by rfl) ?_;conv => whnf
      refine ⟨oo, ?_⟩;conv => whnf
      rw [Int.toNat_natCast];refine ⟨oo, ?_⟩;conv => whnf
      refine hK9 _ ?_;clear hK9 K9;refine W.region (zi _) (by rfl) ?_;conv => whnf
      refine ⟨oo, ?_⟩;conv => whnf
      have h4 : ∀ x, cf (l.set k (Wp.l.getD k 0)) x = if x < k + 1 then cf Wp.l x else 0 := fun x => by
        rw [yN (by omega)]
        by_cases c1 : x = k
        · subst c1; rw [if_pos rfl, if_pos (by omega)]; rfl
        · rw [if_neg c1, hlc]
          by_cases c2 : x < k
          · rw [if_pos c2, if_pos (by omega)]
          · rw [if_neg c2, if_neg (by omega)]
      exact zm ⟨k + 1, l.set k (Wp.l.getD k 0), by omega, by simpa using hll, h4, rfl, rfl⟩
    · have h3 : k = dg Wp := by have := of_decide_eq_false h3; omega
      subst h3;refine W.exit (hK2 _ ?_);clear hK7 K7 hK2 K2
      have hlw : ∀ x, cf l x = cf Wp.l x := fun x => by
        rw [hlc]; split
        · rfl
        · rw [yl (by omega)]
      have hrc := jS Wp i;have e1 : l.getD i 0 = cf Wp.l i := hlw i;refine W.rs (zi _) (by rfl) fun K hK => ?_;conv => whnf
      refine ⟨oo, ?_⟩;conv => whnf
      rw [Int.toNat_natCast, e1];refine ⟨oo, ?_⟩;conv => whnf
      refine zg rfl (jp _ p (by omega) (by omega) (by omega)) fun hs' hhs => ?_;try dsimp only at hhs
      conv => whnf
      refine ⟨oo, ?_⟩;conv => whnf
      refine hK _ ?_;clear hK K;refine W.rs (zi _) (by rfl) fun K hK => ?_;conv => whnf
      refine ⟨oo, ?_⟩;conv => whnf
      have e2 : (n : Int) + (i : Int) = ((n + i : Nat) : Int) := by omega
      rw [e2];refine ⟨⟨by omega, by simp; omega⟩, ?_⟩;conv => whnf
      refine hK _ ?_;clear hK K
      have hl2c : ∀ x, x < 2 * n -> cf ((l.set i ((cf Wp.l i - 1) % p)).set (n + i) 1) x = jW f n i x := fun x hx => by
        rw [yN (by simp; omega), yN (by omega)];unfold jW;have hke : ∀ a, cf (kq f i).l a = (cf Wp.l a - if a = i then 1 else 0) % p := fun a => by have := ze3 f a i; rw [hW] at this; exact this
        by_cases c1 : x < n
        · rw [if_pos c1, if_neg (by omega), hke]
          by_cases c2 : x = i
          · subst c2; rw [if_pos rfl, if_pos rfl]
          · rw [if_neg c2, if_neg c2, Int.sub_zero, vZ, hlw]
        · rw [if_neg c1]
          by_cases c2 : x = n + i
          · rw [if_pos c2, if_pos c2]
          · rw [if_neg c2, if_neg c2, if_neg (by omega), hlw, yl (by omega)]
      have hl2l : ((l.set i ((cf Wp.l i - 1) % p)).set (n + i) 1).length = 2 * n := by simpa using hll
      refine W.region (zi _) (by rfl) ?_;conv => whnf
      rw [Int.toNat_natCast, Int.toNat_natCast];generalize (l.set i ((cf Wp.l i - 1) % p)).set (n + i) 1 = l2 at hl2c hl2l;refine ⟨by omega, ?_⟩;conv => whnf
      rw [hl2l];refine ⟨⟨rfl, by decide, fun x hx => by simp at hx; subst hx; exact ⟨rfl, rfl⟩⟩, ?_⟩;conv => whnf
      intro b_9 hs_9 hh_9 hf_9;try dsimp only at hh_9 hf_9
      conv => whnf
      refine ⟨by omega, ?_⟩;conv => whnf
      refine ⟨fun j => .rf (if j < i then bl j else b_8) (2 * n), fun j hj => by show V.rf (if j < i then bl j else b_8) (2 * n) = V.rf (bl j) (2 * n); rw [if_pos hj], fun j hj => ?_, ?_⟩
      · obtain rfl : j = 0 := by omega
        show V.rf (if i + 0 < i then bl (i + 0) else b_8) (2 * n) = _
        rw [if_neg (by omega)]; rfl
      intro b_10 hs_10 hh_10 hf_10;try dsimp only at hh_10 hf_10
      conv => whnf
      refine hK8 _ ?_;clear hK8 K8;refine W.region (zi _) (by rfl) ?_;conv => whnf
      refine ⟨oo, ?_⟩;conv => whnf
      have hM' : MatR (yk tb b_8 l2) (fun j => if j < i then bl j else b_8) (i + 1) (2 * n) (jW f n) := by
        refine ⟨fun j k hj hk he => ?_, fun j hj => ?_⟩
        · have he' : (if j < i then bl j else b_8) = (if k < i then bl k else b_8) := he
          split at he' <;> split at he'
          · exact hM.inj j k (by assumption) (by assumption) he'
          · have := hlt j (by assumption); omega
          · have := hlt k (by assumption); omega
          · omega
        · show ∃ l, yk tb b_8 l2 (if j < i then bl j else b_8) = some l ∧ _
          by_cases c1 : j < i
          · have := hlt j c1
            rw [if_pos c1, xk _ _ (by omega)]; exact hM.row j c1
          · obtain rfl : j = i := by omega
            rw [if_neg c1];exact ⟨l2, yD _ _ _, hl2l, hl2c⟩
      refine ⟨_, _, ⟨i + 1, hs_8, b_10, fun j => if j < i then bl j else b_8, yk tb b_8 l2, by omega, by omega, fun j hj => ?_, hM', rfl, rfl⟩, by omega, by dsimp only; omega, ?_⟩
      · show (if j < i then bl j else b_8) < hs_8
        split
        · have := hlt j (by assumption); omega
        · omega
      repeat' first | refine And.intro ?_ ?_ | exact trivial | rfl | omega | exact fun _ _ => rfl | exact fun _ _ h => h
  · obtain rfl : n = i := by have := of_decide_eq_false h2; omega
    refine W.exit (hK1 _ ?_);clear hK7 K7 hK1 K1;refine W.weak (t := ⟨[(0, .v (.int .i64 p)), (1, .v (.ints g f.l)), (5, .v (.int .i64 n)), (6, .ownV 24 1 ba n fun j => .rf (bl j) (2 * n)), (vt, .tab tb)], base⟩) ⟨by dsimp only; omega, ?_⟩ (Nat.le_refl _) ?_
    · repeat' first | refine And.intro ?_ ?_ | exact trivial | rfl | omega | assumption | exact fun _ _ => rfl | exact fun _ _ h => h
    clear hlt hhs hs
    have hS0 : ∀ i x, i < n -> x < 2 * n -> 0 <= jW f n i x ∧ jW f n i x < p := fun i x _ _ => by
      unfold jW;have := jS (kq f i) x
      split
      · exact this
      · split <;> omega
    have hH0 : Half p n (jW f n) 0 (fun k => (fun _ => false : Nat -> Bool) k = true) (jW f n) (fun i j => jW f n i (n + j)) := by
      have := Half.start p n (jW f n) (fun i j => jW f n i (n + j)) (fun i hi j hj => by
        show jW f n i (n + j) = _
        unfold jW;rw [if_neg (by omega)]
        by_cases c1 : i = j
        · rw [if_pos (by omega), if_pos c1]
        · rw [if_neg (by omega), if_neg c1])
      exact this.used fun k => ⟨fun h => h.elim, fun h => by cases h⟩
    refine W.rs (zi _) (by rfl) fun K hK => ?_;conv => whnf
    refine ⟨rfl, ?_⟩;conv => whnf
    refine ⟨oo, ?_⟩;conv => whnf
    rw [Int.toNat_natCast];intro b_11 hs_11 hh_11 hf_11;try dsimp only at hh_11 hf_11
    conv => whnf
    refine hK _ ?_;clear hK K;refine W.seqK fun K1 hK1 => ?_;refine W.rs (zi _) (by rfl) fun K hK => ?_;conv => whnf
    refine hK _ (W.block (W.invE (fun m e => ∃ (c bu : Nat) (tb : Nat -> Option (List Int)) (R : Nat -> Nat -> Int) (U : Nat -> Bool), c <= n ∧ MatR tb bl n (2 * n) R ∧ (∀ i x, i < n -> x < 2 * n -> 0 <= R i x ∧ R i x < p) ∧ Half p n (jW f n) c (fun k => U k = true) R (fun i j => R i (n + j)) ∧ m = n - c ∧ e = [(0, .v (.int .i64 p)), (1, .v (.ints g f.l)), (5, .v (.int .i64 n)), (6, .ownV 24 1 ba n fun j => .rf (bl j) (2 * n)), (11, .ownV 4 1 bu n fun j => vU (U j)), (12, .v (.int .i64 c)), (vt, .tab tb)]) _ _ ⟨0, b_11, tb, jW f n, fun _ => false, Nat.zero_le _, hM, hS0, hH0, rfl, rfl⟩ (by dsimp only; omega) (by repeat' first | refine And.intro ?_ ?_ | exact trivial | rfl | omega | assumption | exact .inl rfl | exact fun _ _ => rfl | exact fun _ _ h => h) ?_));clear hK K hM hH0 tb;rintro m e ⟨c, bu, tb, R, U, hc, hM, hR, hH, hm, rfl⟩;refine W.seqK fun K7 hK7 => ?_;refine W.rs (zi _) (by rfl) fun K hK => ?_;conv => whnf
    refine hK _ (W.cond ⟨fun h2 => ?_, fun h2 => ?_⟩) <;> clear hK K
    · have h2 : c < n := by have := of_decide_eq_true h2; omega
      refine W.skip (hK7 _ ?_);clear hK7 K7;refine W.seqK fun K8 hK8 => W.block ?_;refine W.rs (zi _) (by rfl) fun K hK => ?_;conv => whnf
      refine hK _ ?_;clear hK K;refine W.seqK fun K3 hK3 => ?_;refine W.rs (zi _) (by rfl) fun K hK => ?_;conv => whnf
      refine hK _ (W.block (W.invE (fun m e => ∃ (i : Nat), i <= n ∧ (∀ j, j < i -> U j = true ∨ R j c = 0) ∧ m = n - i ∧ e = [(0, .v (.int .i64 p)), (1, .v (.ints g f.l)), (5, .v (.int .i64 n)), (6, .ownV 24 1 ba n fun j => .rf (bl j) (2 * n)), (11, .ownV 4 1 bu n fun j => vU (U j)), (12, .v (.int .i64 c)), (13, .v (.int .i64 (-1))), (14, .v (.int .i64 i)), (vt, .tab tb)]) _ _ ⟨0, Nat.zero_le _, fun j hj => by omega, rfl, rfl⟩ (by dsimp only; omega) (by repeat' first | refine And.intro ?_ ?_ | exact trivial | rfl | omega | assumption | exact .inl rfl | exact fun _ _ => rfl | exact fun _ _ h => h) ?_));clear hK K;rintro m2 e ⟨i, hi, hno, hm2, rfl⟩
      -- what the search tells
      have fin : ∀ (t : Int) (s : S), ((t = -1 ∧ ∀ j, j < n -> U j = true ∨ R j c = 0) ∨ ∃ a : Nat, t = a ∧ a < n ∧ U a = false ∧ R a c ≠ 0) -> base <= s.hs -> zy s.env [(0, .v (.int .i64 p)), (1, .v (.ints g f.l)), (5, .v (.int .i64 n)), (6, .ownV 24 1 ba n fun j => .rf (bl j) (2 * n)), (11, .ownV 4 1 bu n fun j => vU (U j)), (12, .v (.int .i64 c)), (13, .v (.int .i64 t)), (vt, .tab tb)] -> K3 s := by
        intro t s ht h5 h6;refine hK3 _ (W.weak (t := ⟨[(0, .v (.int .i64 p)), (1, .v (.ints g f.l)), (5, .v (.int .i64 n)), (6, .ownV 24 1 ba n fun j => .rf (bl j) (2 * n)), (11, .ownV 4 1 bu n fun j => vU (U j)), (12, .v (.int .i64 c)), (13, .v (.int .i64 t)), (vt, .tab tb)], base⟩) ⟨h5, h6⟩ (Nat.le_refl _) ?_);clear hK3 h5 h6 s K3 hno;refine W.seqK fun K4 hK4 => ?_;refine W.rs (zi _) (by rfl) fun K hK => ?_;conv => whnf
        rcases ht with ⟨rfl, hz⟩ | ⟨a, rfl, ha, hUa, hne⟩
        · refine hK _ (W.cond ⟨fun _ => W.exit (hK8 _ ?_), fun h => absurd h (by decide)⟩)
          clear hK K hK4 K4 hK8 K8;refine W.region (zi _) (by rfl) ?_;conv => whnf
          refine ⟨oo, ?_⟩;conv => whnf
          exact zm ⟨c + 1, bu, tb, R, U, by omega, hM, hR, hH.skip (fun k hk hu => by rw [(hz k hk).resolve_left hu]; simp), rfl, rfl⟩
        · refine hK _ (W.cond ⟨fun h => absurd (of_decide_eq_true h) (by omega), fun _ => W.skip (hK4 _ ?_)⟩)
          clear hK K hK4 K4;obtain ⟨la, hla1, hla2, hla3⟩ := hM.row a ha;have e1 : la.getD c 0 = R a c := hla3 c (by omega);have hrc := hR a c ha (by omega);have hmod : R a c % p ≠ 0 := by rw [Int.emod_eq_of_lt hrc.1 hrc.2]; exact hne
          obtain ⟨hi1, hi2, hi3⟩ := xJ hmod;refine W.rs (zi _) (by rfl) fun K hK => ?_;conv => whnf
          refine ⟨oo, ?_⟩;conv => whnf
          rw [Int.toNat_natCast];refine ⟨⟨by show 0 + 1 <= 1; omega, rfl⟩, fun j => vU (if j = a then true else U j), by show vU (if a = a then true else U a) = zS (vU (U a)) 0 V.tr; rw [if_pos rfl, hUa]; rfl, fun j _ hj => by show vU (if j = a then true else U j) = vU (U j); rw [if_neg hj], ?_⟩;conv => whnf
          refine hK _ ?_;clear hK K;refine W.rs (zi _) (by rfl) fun K hK => ?_;conv => whnf
          refine ⟨oo, ?_⟩;conv => whnf
          rw [Int.toNat_natCast];refine ⟨oo, ?_⟩;conv => whnf
          rw [Int.toNat_natCast];refine ⟨la, hla1, by omega, ?_⟩;conv => whnf
          rw [e1];refine zg rfl (v7 p (R a c) hrc hmod) fun hs' hhs => ?_;try dsimp only at hhs
          conv => whnf
          generalize hiv : xe p (R a c) = iv at hi1 hi2 hi3;refine hK _ ?_;clear hK K;clear hla1 hla2 hla3 e1 la
          -- how often the row at a is taken from a row
          have hqf : ∃ qf : Nat -> Int, qf a = 0 ∧ (∀ i, i ≠ a -> qf i = R i c * iv % p) := ⟨fun i => if i = a then 0 else R i c * iv % p, if_pos rfl, fun i hi => if_neg hi⟩
          obtain ⟨qf, hq0, hq1⟩ := hqf
          have hqb : ∀ i, 0 <= qf i ∧ qf i < p := fun i => by
            by_cases c1 : i = a
            · rw [c1, hq0]; omega
            · rw [hq1 i c1]; exact ⟨Int.emod_nonneg _ (by omega), Int.emod_lt_of_pos _ (by omega)⟩
          have hpiv := hH.pivot (L' := fun k x => if k = a then R k x else (R k x - qf k * R a x) % p) (T' := fun k x => if k = a then R k (n + x) else (R k (n + x) - qf k * R a (n + x)) % p) (q := qf) h2 ha (by rw [hUa]; decide) hmod hq0 (fun i hi hia => by
              rw [hq1 i hia, Int.mul_comm, Int.mul_emod, Int.emod_emod_of_dvd _ (Int.dvd_refl p), <- Int.mul_emod];have : R a c * (R i c * iv) = R i c * (R a c * iv) := by rw [Int.mul_left_comm]
              rw [this, Int.mul_emod, hi3, Int.mul_one, Int.emod_emod_of_dvd _ (Int.dvd_refl p)])
            (fun i hi x hx => by
              show (if i = a then R i x else (R i x - qf i * R a x) % p) % p = _
              split
              · rename_i c1; rw [c1, hq0]; simp
              · exact Int.emod_emod_of_dvd _ (Int.dvd_refl p))
            (fun i hi x hx => by
              show (if i = a then R i (n + x) else (R i (n + x) - qf i * R a (n + x)) % p) % p = _
              split
              · rename_i c1; rw [c1, hq0]; simp
              · exact Int.emod_emod_of_dvd _ (Int.dvd_refl p))
          refine W.rs (zi _) (by rfl) fun K hK => ?_;conv => whnf
          refine hK _ (W.block (W.invE (fun m e => ∃ (i : Nat) (tb : Nat -> Option (List Int)), i <= n ∧ MatR tb bl n (2 * n) (xA p R qf a i) ∧ m = n - i ∧ e = [(0, .v (.int .i64 p)), (1, .v (.ints g f.l)), (5, .v (.int .i64 n)), (6, .ownV 24 1 ba n fun j => .rf (bl j) (2 * n)), (11, .ownV 4 1 bu n fun j => vU (if j = a then true else U j)), (12, .v (.int .i64 c)), (13, .v (.int .i64 a)), (15, .v (.int .i64 iv)), (16, .v (.int .i64 i)), (vt, .tab tb)]) _ _ ⟨0, tb, Nat.zero_le _, hM.congr fun k x _ _ => by unfold xA; rw [if_neg (by omega)], rfl, rfl⟩ (by dsimp only; omega) (by repeat' first | refine And.intro ?_ ?_ | exact trivial | rfl | omega | assumption | exact .inl rfl | exact fun _ _ => rfl | exact fun _ _ h => h) ?_));clear hK K hM tb;rintro m e ⟨i, tb, hi, hM, hm, rfl⟩;refine W.seqK fun K7 hK7 => ?_;refine W.rs (zi _) (by rfl) fun K hK => ?_;conv => whnf
          refine hK _ (W.cond ⟨fun h3 => ?_, fun h3 => ?_⟩) <;> clear hK K
          · have h3 : i < n := by have := of_decide_eq_true h3; omega
            refine W.skip (hK7 _ ?_);clear hK7 K7;refine W.seqK fun K9 hK9 => W.block ?_
            have fin9 : ∀ (tb' : Nat -> Option (List Int)) (s : S), MatR tb' bl n (2 * n) (xA p R qf a (i + 1)) -> base <= s.hs -> zy s.env [(0, .v (.int .i64 p)), (1, .v (.ints g f.l)), (5, .v (.int .i64 n)), (6, .ownV 24 1 ba n fun j => .rf (bl j) (2 * n)), (11, .ownV 4 1 bu n fun j => vU (if j = a then true else U j)), (12, .v (.int .i64 c)), (13, .v (.int .i64 a)), (15, .v (.int .i64 iv)), (16, .v (.int .i64 i)), (vt, .tab tb')] -> K9 s := by
              intro tb' s h4 h6 h7;refine hK9 _ (W.weak (t := ⟨[(0, .v (.int .i64 p)), (1, .v (.ints g f.l)), (5, .v (.int .i64 n)), (6, .ownV 24 1 ba n fun j => .rf (bl j) (2 * n)), (11, .ownV 4 1 bu n fun j => vU (if j = a then true else U j)), (12, .v (.int .i64 c)), (13, .v (.int .i64 a)), (15, .v (.int .i64 iv)), (16, .v (.int .i64 i)), (vt, .tab tb')], base⟩) ⟨h6, h7⟩ (Nat.le_refl _) ?_);clear hK9 K9 h6 h7;refine W.region (zi _) (by rfl) ?_;conv => whnf
              refine ⟨oo, ?_⟩;conv => whnf
              exact zm ⟨i + 1, tb', by omega, h4, rfl, rfl⟩
            clear hK9;obtain ⟨la, hla1, hla2, hla3⟩ := hM.row i h3;have e1 : la.getD c 0 = R i c := by have := hla3 c (by omega); unfold xA at this; rw [if_neg (by omega)] at this; exact this
            have hrci := hR i c h3 (by omega);refine W.seqK fun K4 hK4 => ?_;refine W.rs (zi _) (by rfl) fun K hK => ?_;conv => whnf
            refine ⟨fun h4 => ?_, fun h4 => ?_⟩ <;> conv => whnf
            · have h4 : i = a := by have := of_decide_eq_true h4; omega
              refine hK _ (W.condT rfl (W.exit (fin9 tb _ (hM.congr fun k x hk hx => ?_) (by dsimp only; omega) ?_)))
              · unfold xA
                by_cases c1 : k < i ∧ k ≠ a
                · rw [if_pos c1, if_pos (by omega)]
                · rw [if_neg c1, if_neg (by omega)]
              · clear hK K hK4 K4 fin9
                repeat' first | refine And.intro ?_ ?_ | exact trivial | rfl | omega | assumption | exact .inl rfl | exact fun _ _ => rfl | exact fun _ _ h => h
            · have h4 : i ≠ a := by have := of_decide_eq_false h4; omega
              refine ⟨oo, ?_⟩;conv => whnf
              rw [Int.toNat_natCast];refine ⟨oo, ?_⟩;conv => whnf
              rw [Int.toNat_natCast];refine ⟨la, hla1, by omega, ?_⟩;conv => whnf
              rw [e1];refine hK _ (W.cond ⟨fun h5 => ?_, fun h5 => ?_⟩) <;> clear hK K
              · have h5 : R i c = 0 := of_decide_eq_true h5
                refine W.exit (fin9 tb _ (hM.congr fun k x hk hx => ?_) (by dsimp only; omega) ?_)
                · unfold xA
                  by_cases c1 : k < i ∧ k ≠ a
                  · rw [if_pos c1, if_pos (by omega)]
                  · rw [if_neg c1]
                    by_cases c2 : k = i
                    · subst c2
                      have := hR k x hk hx;rw [if_pos (by omega), hq1 k h4, h5, Int.zero_mul, Int.zero_emod, Int.zero_mul, Int.sub_zero, Int.emod_eq_of_lt this.1 this.2]
                    · rw [if_neg (by omega)]
                · clear hK4 K4 fin9
                  repeat' first | refine And.intro ?_ ?_ | exact trivial | rfl | omega | assumption | exact .inl rfl | exact fun _ _ => rfl | exact fun _ _ h => h
              · have h5 : ¬ R i c = 0 := of_decide_eq_false h5
                have hml : 0 <= R i c * iv ∧ R i c * iv <= 97 * 97 := ⟨Int.mul_nonneg hrci.1 hi1, Int.mul_le_mul (by omega) (by omega) hi1 (by omega)⟩
                refine W.skip (hK4 _ ?_);clear hK4 K4;refine W.rs (zi _) (by rfl) fun K hK => ?_;conv => whnf
                refine ⟨oo, ?_⟩;conv => whnf
                rw [Int.toNat_natCast];refine ⟨oo, ?_⟩;conv => whnf
                rw [Int.toNat_natCast];refine ⟨la, hla1, by omega, ?_⟩;conv => whnf
                rw [e1];refine ⟨oo, ?_⟩;conv => whnf
                refine ⟨by omega, ?_⟩;conv => whnf
                rw [Int.tmod_eq_emod_of_nonneg hml.1, <- hq1 i h4];have hqi := hqb i;refine hK _ ?_;clear hK K;refine W.rs (zi _) (by rfl) fun K hK => ?_;conv => whnf
                refine hK _ (W.block (W.invE (fun m e => ∃ (j : Nat) (tb2 : Nat -> Option (List Int)), j <= 2 * n ∧ MatR tb2 bl n (2 * n) (fun k x => if k = i ∧ x < j then (R i x - qf i * R a x) % p else xA p R qf a i k x) ∧ m = 2 * n - j ∧ e = [(0, .v (.int .i64 p)), (1, .v (.ints g f.l)), (5, .v (.int .i64 n)), (6, .ownV 24 1 ba n fun j => .rf (bl j) (2 * n)), (11, .ownV 4 1 bu n fun j => vU (if j = a then true else U j)), (12, .v (.int .i64 c)), (13, .v (.int .i64 a)), (15, .v (.int .i64 iv)), (16, .v (.int .i64 i)), (17, .v (.int .i64 (qf i))), (18, .v (.int .i64 j)), (vt, .tab tb2)]) _ _ ⟨0, tb, Nat.zero_le _, hM.congr fun k x _ _ => by show _ = if k = i ∧ x < 0 then _ else _; rw [if_neg (by omega)], rfl, rfl⟩ (by dsimp only; omega) (by repeat' first | refine And.intro ?_ ?_ | exact trivial | rfl | omega | assumption | exact .inl rfl | exact fun _ _ => rfl | exact fun _ _ h => h) ?_));clear hK K hM hla1 hla2 hla3 e1 la tb;rintro m e ⟨j, tb, hj, hM, hm, rfl⟩;refine W.seqK fun K7 hK7 => ?_;refine W.rs (zi _) (by rfl) fun K hK => ?_;conv => whnf
                refine ⟨oo, ?_⟩;conv => whnf
                refine hK _ (W.cond ⟨fun h6 => ?_, fun h6 => ?_⟩) <;> clear hK K
                · have h6 : j < 2 * n := by have := of_decide_eq_true h6; omega
                  clear fin9;obtain ⟨la, hla1, hla2, hla3⟩ := hM.row i h3;obtain ⟨lb, hlb1, hlb2, hlb3⟩ := hM.row a ha
                  have e1 : la.getD j 0 = R i j := by
                    have := hla3 j h6;have this : cf la j = if i = i ∧ j < j then (R i j - qf i * R a j) % p else xA p R qf a i i j := this
                    unfold xA at this;rw [if_neg (by omega), if_neg (by omega)] at this; exact this
                  have e2 : lb.getD j 0 = R a j := by
                    have := hlb3 j h6;have this : cf lb j = if a = i ∧ j < j then (R i j - qf i * R a j) % p else xA p R qf a i a j := this
                    unfold xA at this;rw [if_neg (by omega), if_neg (by omega)] at this; exact this
                  have hr1 := hR i j h3 h6;have hr2 := hR a j ha h6;have hmq : 0 <= qf i * R a j ∧ qf i * R a j <= 97 * 97 := ⟨Int.mul_nonneg hqi.1 hr2.1, Int.mul_le_mul (by omega) (by omega) hr2.1 (by omega)⟩
                  refine W.skip (hK7 _ ?_);clear hK7 K7;refine W.seqK fun K9 hK9 => W.block ?_;refine W.draw (zi _) follows (by rfl) ?_;conv => whnf
                  refine ⟨oo, ?_⟩;conv => whnf
                  refine ⟨oo, ?_⟩;conv => whnf
                  refine ⟨oo, ?_⟩;conv => whnf
                  rw [Int.toNat_natCast, Int.toNat_natCast];refine ⟨la, hla1, by omega, ?_⟩;conv => whnf
                  refine ⟨oo, ?_⟩;conv => whnf
                  refine ⟨oo, ?_⟩;conv => whnf
                  rw [Int.toNat_natCast];refine ⟨lb, hlb1, by omega, ?_⟩;conv => whnf
                  rw [Int.toNat_natCast, e1, e2];refine ⟨oo, ?_⟩;conv => whnf
                  refine ⟨oo, ?_⟩;conv => whnf
                  refine ⟨_, cxmF (jp _ p (by omega) (by omega) (by omega)), ?_⟩;conv => whnf
                  refine ⟨oo, ?_⟩;conv => whnf
                  refine ⟨la, hla1, by omega, ?_⟩;conv => whnf
                  refine hK9 _ ?_;clear hK9 K9;refine W.region (zi _) (by rfl) ?_;conv => whnf
                  refine ⟨oo, ?_⟩;conv => whnf
                  have h7 := (hM.store h3 h6 hla1 ((R i j - qf i * R a j) % p)).congr (R' := fun k x => if k = i ∧ x < j + 1 then (R i x - qf i * R a x) % p else xA p R qf a i k x) fun k x hk hx => by
                    show (if k = i ∧ x = j then (R i j - qf i * R a j) % p else if k = i ∧ x < j then (R i x - qf i * R a x) % p else xA p R qf a i k x) = _
                    by_cases c1 : k = i
                    · by_cases c2 : x = j
                      · subst c2; rw [if_pos ⟨c1, rfl⟩, if_pos ⟨c1, by omega⟩]
                      · by_cases c3 : x < j
                        · rw [if_neg (by omega), if_pos ⟨c1, c3⟩, if_pos ⟨c1, by omega⟩]
                        · rw [if_neg (by omega), if_neg (by omega), if_neg (by omega)]
                    · rw [if_neg (by omega), if_neg (by omega), if_neg (by omega)]
                  exact zm ⟨j + 1, _, by omega, h7, rfl, rfl⟩
                · have h6 : j = 2 * n := by have := of_decide_eq_false h6; omega
                  subst h6;refine W.exit (fin9 tb _ (hM.congr fun k x hk hx => ?_) (by dsimp only; omega) ?_)
                  · show (if k = i ∧ x < 2 * n then (R i x - qf i * R a x) % p else xA p R qf a i k x) = _
                    by_cases c1 : k = i
                    · rw [if_pos ⟨c1, hx⟩]
                      unfold xA;rw [if_pos (by omega), c1]
                    · rw [if_neg (by omega)]
                      unfold xA
                      by_cases c2 : k < i ∧ k ≠ a
                      · rw [if_pos c2, if_pos (by omega)]
                      · rw [if_neg c2, if_neg (by omega)]
                  · clear fin9 hK7 K7
                    repeat' first | refine And.intro ?_ ?_ | exact trivial | rfl | omega | assumption | exact .inl rfl | exact fun _ _ => rfl | exact fun _ _ h => h
          · obtain rfl : n = i := by have := of_decide_eq_false h3; omega
            have hM2 := hM.congr (R' := fun k x => if k = a then R k x else (R k x - qf k * R a x) % p) fun k x hk hx => by
              show xA p R qf a n k x = if k = a then R k x else (R k x - qf k * R a x) % p
              unfold xA
              by_cases c1 : k = a
              · rw [if_neg (by omega), if_pos c1]
              · rw [if_pos ⟨hk, c1⟩, if_neg c1]
            have hR2 : ∀ i x, i < n -> x < 2 * n -> 0 <= (if i = a then R i x else (R i x - qf i * R a x) % p) ∧ (if i = a then R i x else (R i x - qf i * R a x) % p) < p := fun i x hi hx => by
              by_cases c1 : i = a
              · rw [if_pos c1]; exact hR i x hi hx
              · rw [if_neg c1]; exact ⟨Int.emod_nonneg _ (by omega), Int.emod_lt_of_pos _ (by omega)⟩
            have hH2 := hpiv.used (u' := fun k => (if k = a then true else U k) = true) fun k => by
              by_cases c1 : k = a
              · simp [c1]
              · simp [c1]
            refine W.exit (hK8 _ ?_);clear hK7 K7 hK8 K8;refine W.region (zi _) (by rfl) ?_;conv => whnf
            refine ⟨oo, ?_⟩;conv => whnf
            exact zm ⟨c + 1, bu, tb, _, fun j => if j = a then true else U j, by omega, hM2, hR2, hH2, rfl, rfl⟩
      clear hK3;refine W.seqK fun K7 hK7 => ?_;refine W.rs (zi _) (by rfl) fun K hK => ?_;conv => whnf
      refine hK _ (W.cond ⟨fun h3 => ?_, fun h3 => ?_⟩) <;> clear hK K
      · have h3 : i < n := by have := of_decide_eq_true h3; omega
        obtain ⟨la, hla1, hla2, hla3⟩ := hM.row i h3;refine W.skip (hK7 _ ?_);clear hK7 K7;refine W.seqK fun K9 hK9 => W.block ?_
        -- the round's end
        have fin9 : (U i = true ∨ R i c = 0) -> ∀ s : S, base <= s.hs -> zy s.env [(0, .v (.int .i64 p)), (1, .v (.ints g f.l)), (5, .v (.int .i64 n)), (6, .ownV 24 1 ba n fun j => .rf (bl j) (2 * n)), (11, .ownV 4 1 bu n fun j => vU (U j)), (12, .v (.int .i64 c)), (13, .v (.int .i64 (-1))), (14, .v (.int .i64 i)), (vt, .tab tb)] -> K9 s := by
          intro h5 s h6 h7;refine hK9 _ (W.weak (t := ⟨[(0, .v (.int .i64 p)), (1, .v (.ints g f.l)), (5, .v (.int .i64 n)), (6, .ownV 24 1 ba n fun j => .rf (bl j) (2 * n)), (11, .ownV 4 1 bu n fun j => vU (U j)), (12, .v (.int .i64 c)), (13, .v (.int .i64 (-1))), (14, .v (.int .i64 i)), (vt, .tab tb)], base⟩) ⟨h6, h7⟩ (Nat.le_refl _) ?_);clear hK9 K9 h6 h7;refine W.region (zi _) (by rfl) ?_;conv => whnf
          refine ⟨oo, ?_⟩;conv => whnf
          have h8 : ∀ j, j < i + 1 -> U j = true ∨ R j c = 0 := fun j hj => by
            by_cases hji : j = i
            · subst hji; exact h5
            · exact hno j (by omega)
          exact zm ⟨i + 1, by omega, h8, rfl, rfl⟩
        clear hK9;refine W.rs (zi _) (by rfl) fun K hK => ?_;conv => whnf
        refine ⟨oo, ?_⟩;conv => whnf
        have eU : (fun j => vU (U j)) (i : Int).toNat = vU (U i) := by rw [Int.toNat_natCast]
        rw [eU];cases hU : U i
        · conv => whnf
          refine ⟨fun _ => ?_, fun h => absurd h (by decide)⟩;conv => whnf
          refine ⟨oo, ?_⟩;conv => whnf
          rw [Int.toNat_natCast];refine ⟨oo, ?_⟩;conv => whnf
          rw [Int.toNat_natCast];refine ⟨la, hla1, by omega, ?_⟩;conv => whnf
          have e1 : la.getD c 0 = R i c := hla3 c (by omega);rw [e1];refine hK _ (W.cond ⟨fun h4 => ?_, fun h4 => ?_⟩) <;> clear hK K
          · have h4 : R i c ≠ 0 := of_decide_eq_true h4
            clear fin9;refine W.rs (zi _) (by rfl) fun K hK => ?_;conv => whnf
            refine hK _ ?_;clear hK K;refine W.exit (fin i _ (.inr ⟨i, rfl, h3, hU, h4⟩) (by dsimp only; omega) ?_);clear fin;exact cvr
          · have h4 : ¬ R i c ≠ 0 := of_decide_eq_false h4
            refine W.skip (fin9 (.inr (by omega)) _ (by dsimp only; omega) ?_);clear fin9 fin;exact cvr
        · conv => whnf
          refine hK _ (W.condF rfl (W.skip (fin9 (.inl hU) _ (by dsimp only; omega) ?_)));clear hK K fin9 fin;exact cvr
      · obtain rfl : n = i := by have := of_decide_eq_false h3; omega
        refine W.exit (fin (-1) _ (.inl ⟨rfl, hno⟩) (by dsimp only; omega) ?_);clear fin hK7 K7;exact cvr
    · obtain rfl : n = c := by have := of_decide_eq_false h2; omega
      refine W.exit (hK1 _ ?_);clear hK7 K7 hK1 K1
      have hrows : ∃ rows : Nat -> List Int, ∀ j, j < n -> tb (bl j) = some (rows j) ∧ (rows j).length = 2 * n ∧ ∀ x, x < 2 * n -> cf (rows j) x = R j x := ⟨fun j => (tb (bl j)).getD [], fun j hj => by
        obtain ⟨l, h3, h4, h5⟩ := hM.row j hj;exact ⟨by simp only [h3, Option.getD_some], by show ((tb (bl j)).getD []).length = _; rw [h3]; exact h4, by show ∀ x, x < 2 * n -> cf ((tb (bl j)).getD []) x = _; rw [h3]; exact h5⟩⟩
      obtain ⟨rows, hrows⟩ := hrows;refine W.thaw (i := 6) bl rows rfl rfl (fun j hj => ⟨by rw [(hrows j hj).2.1], (hrows j hj).1⟩) ?_;refine W.weak (t := ⟨[(0, .v (.int .i64 p)), (1, .v (.ints g f.l)), (5, .v (.int .i64 n)), (6, .ownV 24 1 ba n fun j => .ints none (rows j)), (11, .ownV 4 1 bu n fun j => vU (U j)), (vt, .tab fun _ => none)], base⟩) ⟨by dsimp only; omega, by repeat' first | refine And.intro ?_ ?_ | exact trivial | rfl | omega | assumption | exact fun _ _ => rfl | exact fun _ _ h => h⟩ (Nat.le_refl _) ?_
      have hvk : ∀ k, k < n -> zv ((rows k).drop n) = (of p (mkL n fun j => R k (n + j))).l := fun k hk => by
        refine yK (xH _) (of p _).ok.2 fun j => ?_;rw [xR, zlk, yo, xI]
        by_cases c1 : j < n
        · have := hR k (n + j) hk (by omega)
          rw [if_pos c1, (hrows k hk).2.2 _ (by omega), Int.emod_eq_of_lt this.1 this.2]
        · rw [if_neg c1, zY (by have := (hrows k hk).2.1; omega)]; simp
      have hvd : ∀ k, dg (of p (mkL n fun j => R k (n + j))) <= n := fun k => by have := zaF (p := p) (mkL n fun j => R k (n + j)); rw [z4] at this; exact this
      have hsm : ∀ (w : Nat -> Int) x, x < n -> zw (fun j => w j * jW f n j x) n = zw (fun j => cf (kq f j).l x * w j) n := fun w x hx => xd fun j _ => by
        unfold jW;rw [if_pos hx, Int.mul_comm]
      have hvb : ∀ k, k < n -> U k = false -> Ber f (of p (mkL n fun j => R k (n + j))) := fun k hk hu => by
        rw [zeY hf (hvd k)];intro x hx;rw [<- hsm _ x hx];have h3 := hH.free hk (by rw [hu]; decide) x hx;rw [<- h3];refine yw p fun j hj => ?_;rw [yo, xI, if_pos hj, Int.mul_emod, Int.emod_emod_of_dvd _ (Int.dvd_refl p), <- Int.mul_emod]
      have hend : (∀ k, k < n -> U k = true ∨ dg (of p (mkL n fun j => R k (n + j))) <= 1) -> ∀ w : Poly p, dg w <= n -> Ber f w -> dg w <= 1 := fun h3 w hw hb => by
        refine kP fun j hj => ?_
        by_cases c1 : j < n
        · have h4 := hH.all (w := cf w.l) (fun x hx => by rw [hsm _ x hx]; exact (zeY hf hw).1 hb x hx) c1 (fun k hk hu => by
            have h5 := (h3 k hk).resolve_left hu;have h6 : cf (of p (mkL n fun j => R k (n + j))).l j = 0 := yl (by omega);rw [yo, xI, if_pos c1] at h6; exact h6)
          rw [vZ] at h4; exact h4
        · exact yl (by omega)
      refine W.seqK fun K1 hK1 => ?_;refine W.rs (zi _) (by rfl) fun K hK => ?_;conv => whnf
      refine hK _ (W.block (W.invE (fun m e => ∃ (i : Nat), i <= n ∧ (∀ k, k < i -> U k = true ∨ dg (of p (mkL n fun j => R k (n + j))) <= 1) ∧ m = n - i ∧ e = [(0, .v (.int .i64 p)), (5, .v (.int .i64 n)), (6, .ownV 24 1 ba n fun j => .ints none (rows j)), (11, .ownV 4 1 bu n fun j => vU (U j)), (19, .v (.int .i64 i)), (vt, .tab fun _ => none)]) _ _ ⟨0, Nat.zero_le _, fun j hj => by omega, rfl, rfl⟩ (by dsimp only; omega) (by repeat' first | refine And.intro ?_ ?_ | exact trivial | rfl | omega | assumption | exact .inl rfl | exact fun _ _ => rfl | exact fun _ _ h => h) ?_));clear hK K;rintro m2 e ⟨i, hi, hno, hm2, rfl⟩;refine W.seqK fun K7 hK7 => ?_;refine W.rs (zi _) (by rfl) fun K hK => ?_;conv => whnf
      refine hK _ (W.cond ⟨fun h3 => ?_, fun h3 => ?_⟩) <;> clear hK K
      · have h3 : i < n := by have := of_decide_eq_true h3; omega
        refine W.skip (hK7 _ ?_);clear hK7 K7;refine W.seqK fun K9 hK9 => W.block ?_;refine W.rs (zi _) (by rfl) fun K hK => ?_;conv => whnf
        refine ⟨oo, ?_⟩;conv => whnf
        rw [Int.toNat_natCast];have hrl := (hrows i h3).2.1;refine ⟨⟨by omega, by omega, by omega⟩, ?_⟩;conv => whnf
        rw [Int.toNat_natCast, Int.toNat_natCast, List.take_length];refine zB rfl (xK none ((rows i).drop n) (by rw [List.length_drop]; omega)) fun hs_20 b_20 hh_20 hf_20 => ?_;try dsimp only at hh_20 hf_20
        conv => whnf
        rw [hvk i h3];have hber := hvb i h3;have hvd' := hvd i;generalize hv : of p (mkL n fun j => R i (n + j)) = v at hber hvd';have hvl : v.l.length = dg v := rfl;refine hK _ ?_;clear hK K
        -- the round's end
        have fin9 : (U i = true ∨ dg v <= 1) -> ∀ s : S, base <= s.hs -> zy s.env [(0, .v (.int .i64 p)), (5, .v (.int .i64 n)), (6, .ownV 24 1 ba n fun j => .ints none (rows j)), (11, .ownV 4 1 bu n fun j => vU (U j)), (19, .v (.int .i64 i)), (vt, .tab fun _ => none)] -> K9 s := by
          intro h5 s h6 h7;refine hK9 _ (W.weak (t := ⟨[(0, .v (.int .i64 p)), (5, .v (.int .i64 n)), (6, .ownV 24 1 ba n fun j => .ints none (rows j)), (11, .ownV 4 1 bu n fun j => vU (U j)), (19, .v (.int .i64 i)), (vt, .tab fun _ => none)], base⟩) ⟨h6, h7⟩ (Nat.le_refl _) ?_);clear hK9 K9 h6 h7;refine W.region (zi _) (by rfl) ?_;conv => whnf
          refine ⟨oo, ?_⟩;conv => whnf
          have h8 : ∀ k, k < i + 1 -> U k = true ∨ dg (of p (mkL n fun j => R k (n + j))) <= 1 := fun k hk => by
            by_cases c1 : k = i
            · subst c1; rw [hv]; exact h5
            · exact hno k (by omega)
          exact zm ⟨i + 1, by omega, h8, rfl, rfl⟩
        clear hK9;refine W.rs (zi _) (by rfl) fun K hK => ?_;conv => whnf
        refine ⟨oo, ?_⟩;conv => whnf
        have eU : (fun j => vU (U j)) (i : Int).toNat = vU (U i) := by rw [Int.toNat_natCast]
        rw [eU];cases hU : U i
        · conv => whnf
          refine ⟨fun _ => ?_, fun h => absurd h (by decide)⟩;conv => whnf
          rw [hvl];refine hK _ (W.cond ⟨fun h4 => ?_, fun h4 => ?_⟩) <;> clear hK K
          · have h4 := of_decide_eq_true h4
            clear fin9;refine W.weak (t := ⟨[(20, .v (.ints none v.l)), (vt, .tab fun _ => none)], base⟩) ⟨by dsimp only; omega, by repeat' first | refine And.intro ?_ ?_ | exact trivial | rfl | omega | assumption | exact .inl rfl | exact fun _ _ h => h⟩ (Nat.le_refl _) ?_;refine W.rs (zi _) (by rfl) fun K hK => ?_;conv => whnf
            refine hK _ ?_;clear hK K;refine W.ret ?_;conv => whnf
            exact ⟨.v (.ints none v.l), ⟨rfl, rfl⟩, trivial, v, rfl, .inl ⟨by omega, hvd', hber hU⟩⟩
          · have h4 := of_decide_eq_false h4
            refine W.skip (fin9 (.inr (by omega)) _ (by dsimp only; omega) ?_);clear fin9;exact cvr
        · conv => whnf
          refine hK _ (W.condF rfl (W.skip (fin9 (.inl hU) _ (by dsimp only; omega) ?_)));clear hK K fin9;exact cvr
      · obtain rfl : n = i := by have := of_decide_eq_false h3; omega
        refine W.exit (hK1 _ ?_);clear hK7 K7 hK1 K1;refine W.rs (zi _) (by rfl) fun K hK => ?_;conv => whnf
        refine hK _ ?_;clear hK K;refine W.ret ?_;conv => whnf
        exact ⟨.v (.ints none (0 : Poly p).l), rfl, trivial, 0, rfl, .inr ⟨rfl, hend hno⟩⟩


theorem zkI {α : Type} {d : α} {L M : List α} {j : Nat} (h : j < L.length) : (L ++ M).getD j d = L.getD j d := by
 simp [List.getD_eq_getElem?_getD, List.getElem?_append, h]
theorem zkJ {α : Type} {d : α} {L M : List α} {j : Nat} : (L ++ M).getD (L.length + j) d = M.getD j d := by
 rw [List.getD_eq_getElem?_getD, List.getD_eq_getElem?_getD, List.getElem?_append_right (by omega), Nat.add_sub_cancel_left]

theorem zbS (p : Int) [SP p] : ∀ (d : Nat) (f : Poly p), dg f <= d -> d <= 400 -> Mon f -> Sqf f -> 2 <= dg f -> Fn Tryz.prog 376 [.int .i64 p, .ints none f.l] (fun _ _ z => ∃ P : List (Poly p), zag f P ∧ z = .v (vPs P))
 | 0, f, hd, _, _, _, h2 => absurd h2 (by omega)
 | d + 1, f, hd, hd4, hm, hs, h2 => by
  have ih := zbS p d;have hp := Pr.two (p := p);have hp2 := SP.le (p := p);obtain ⟨n, hf⟩ : ∃ n, dg f = n + 1 := ⟨dg f - 1, by omega⟩
  refine zj (za [0, 1, 4, 5, 6, 7, 8, 14, 20, 34]) Tryz.func376 rfl (by decide) Tryz.ntmps376 (Nat.le_of_ble_eq_true rfl) fun base => ?_;refine wrs fun K hK => ?_;conv => whnf
  refine hK _ ?_;clear hK K;refine wrs fun K hK => ?_;conv => whnf
  refine yq rfl (zfg p none f n hf (by omega) (by omega)) ?_;rintro lo hi hi' z hl1 hl2 hl3 ⟨v, rfl, hv⟩ _;try dsimp only at hl1 hl2
  have hvl : v.l.length = dg v := rfl;conv => whnf
  refine hK _ ?_;clear hK K;refine W.seqK fun K1 hK1 => ?_;refine wrs fun K hK => ?_;conv => whnf
  rw [hvl];refine hK _ (W.cond ⟨fun h => ?_, fun h => ?_⟩) <;> clear hK K
  ·have h := of_decide_eq_true h;obtain ⟨rfl, hv2⟩ := hv.resolve_left (by omega)
   have hirr : Irr f := zgg hm.1 hs (dvd_refl f) h2 fun w hw hb => ⟨cf w.l 0, by
    have := zeS (hv2 w (by omega) hb);rw [<- this];have e : w - w = 0 := by exact zf [w] (by rfl)
    rw [e]; exact dvd_zero f⟩
   have hP : zag f [f] := ⟨by simp, fun q => by
    rw [List.mem_singleton];exact ⟨fun e => by rw [e]; exact ⟨hirr, hm, dvd_refl f⟩, fun ⟨a, b, c⟩ => jD a hirr b hm c⟩⟩
   refine wrs fun K hK => ?_;conv => whnf
   refine ⟨⟨rfl, by decide, fun x hx => by simp at hx; subst hx; exact ⟨rfl, rfl⟩⟩, ?_⟩;conv => whnf
   intro b_2 hs_2 hh_2 hf_2;try dsimp only at hh_2 hf_2
   conv => whnf
   refine hK _ ?_;clear hK K;refine W.ret ?_;conv => whnf
   exact ⟨.v (vPs [f]), ⟨.inl rfl, rfl, rfl, fun i hi => by obtain rfl : i = 0 := (by omega); rfl⟩, ⟨trivial, fun _ _ => trivial⟩, [f], hP, rfl⟩
  ·have h := of_decide_eq_false h;obtain ⟨hv1, hv2, hv3⟩ := hv.resolve_right fun e => by have h9 : dg v = 0 := (by rw [e.1]; exact zq); omega
   refine W.skip (hK1 _ ?_);clear hK1 K1;refine wrs fun K hK => ?_;conv => whnf
   refine ⟨⟨rfl, by decide, fun x hx => by simp at hx⟩, ?_⟩;conv => whnf
   intro b_2 hs_2 hh_2 hf_2;try dsimp only at hh_2 hf_2
   conv => whnf
   refine hK _ ?_;clear hK K;refine W.seqK fun K1 hK1 => ?_;refine wrs fun K hK => ?_;conv => whnf
   refine hK _ (W.block (W.invE (fun m e => ∃ (s bO : Nat) (O : List (Poly p)), s <= p.toNat ∧ O.length <= s * 400 ∧ zaO f v s O ∧ m = p.toNat - s ∧ e = [(0, .v (.int .i64 p)), (1, .v (.ints none f.l)), (5, .v (.ints none v.l)), (6, .ownV 24 1 bO O.length fun j => .ints none (O.getD j 0).l), (7, .v (.int .i64 s))]) _ _ ⟨0, b_2, [], Nat.zero_le _, by simp, zaO.start f v, rfl, rfl⟩ (by dsimp only; omega) (by repeat' first | refine And.intro ?_ ?_ | exact trivial | rfl | omega | assumption | exact .inl rfl | exact fun _ _ => rfl | exact fun i hi => absurd hi (by omega)) ?_));clear hK K;rintro m e ⟨s, bO, O, hs1, hOl, hO, hm', rfl⟩;refine W.seqK fun K7 hK7 => ?_;refine wrs fun K hK => ?_;conv => whnf
   refine hK _ (W.cond ⟨fun h3 => ?_, fun h3 => ?_⟩) <;> clear hK K
   ·have h3 : (s : Int) < p := of_decide_eq_true h3;have hless := zks hf hv1 hv2 (s : Int);have hgm := zaH (f := f) (g := v - con p (s : Int)) (.inl hm.1);have hgs := hs.dvd (xu f (v - con p (s : Int)));have hst := fun hd P hP => hO.step (P := P) h3 hd hP;have hsk := hO.skip
    have hsub : dg (v - con p (s : Int)) <= 1000 := by
     have := zcZ v (con p (s : Int));have := v4 (p := p) (s : Int);omega
    have hb1 : Bd 97 [(s : Int)] := fun i => by
     cases i with
     | zero => rw [yu]; omega
     | succ i => rw [zx, yJ]; omega
    refine W.skip (hK7 _ ?_);clear hK7 K7;refine W.seqK fun K8 hK8 => W.block ?_;refine wrs fun K hK => ?_;conv => whnf
    refine ⟨⟨rfl, by decide⟩, ?_⟩;conv => whnf
    intro b_3 hs_3 hh_3 hf_3;try dsimp only at hh_3 hf_3
    conv => whnf
    refine zB rfl (zi5 none _ v.l [(s : Int)] (-1) (by omega) ((kL v).le (by omega)) (hb1.le (by omega)) (by omega) (by simp)) fun hs_4 b_4 hh_4 hf_4 => ?_;try dsimp only at hh_4 hf_4
    conv => whnf
    have esm : km (-1) [(s : Int)] = [-(s : Int)] := by simp [km]
    rw [esm]
    have hb2 : Bd 97 [-(s : Int)] := fun i => by
     cases i with
     | zero => rw [yu]; omega
     | succ i => rw [zx, yJ]; omega
    refine zB rfl (jJ p (by omega) (by omega) _ (zv (kj v.l [-(s : Int)])) (Bd.trim fun i => by rw [vP]; have := kL v i; have := hb2 i; omega) (Nat.le_trans (x8 _) (by rw [kj, z4]; simp; omega))) fun hs_5 b_5 hh_5 hf_5 => ?_;try dsimp only at hh_5 hf_5
    conv => whnf
    rw [zel];refine zB rfl (zaR p none _ f (v - con p (s : Int)) (by omega) hsub) fun hs_6 b_6 hh_6 hf_6 => ?_;try dsimp only at hh_6 hf_6
    conv => whnf
    generalize gcd f (v - con p (s : Int)) = w at hless hgm hgs hst hsk;have hwl : w.l.length = dg w := rfl;refine hK _ ?_;clear hK K
    have fin9 : ∀ (O' : List (Poly p)) (bO' : Nat) (s' : S), zaO f v (s + 1) O' -> O'.length <= (s + 1) * 400 -> base <= s'.hs -> zy s'.env [(0, .v (.int .i64 p)), (1, .v (.ints none f.l)), (5, .v (.ints none v.l)), (6, .ownV 24 1 bO' O'.length fun j => .ints none (O'.getD j 0).l), (7, .v (.int .i64 s))] -> K8 s' := by
     intro O' bO' s' h5 h55 h6 h7;refine hK8 _ (W.weak (t := ⟨[(0, .v (.int .i64 p)), (1, .v (.ints none f.l)), (5, .v (.ints none v.l)), (6, .ownV 24 1 bO' O'.length fun j => .ints none (O'.getD j 0).l), (7, .v (.int .i64 s))], base⟩) ⟨h6, h7⟩ (Nat.le_refl _) ?_);clear hK8 K8 h6 h7;refine wrg ?_;conv => whnf
     refine ⟨oo, ?_⟩;conv => whnf
     exact zm ⟨s + 1, bO', O', by omega, h55, h5, rfl, rfl⟩
    clear hK8;refine wrs fun K hK => ?_;conv => whnf
    rw [hwl];refine hK _ (W.cond ⟨fun h4 => ?_, fun h4 => ?_⟩) <;> clear hK K
    ·have h4 := of_decide_eq_true h4;refine W.weak (t := ⟨[(0, .v (.int .i64 p)), (1, .v (.ints none f.l)), (5, .v (.ints none v.l)), (6, .ownV 24 1 bO O.length fun j => .ints none (O.getD j 0).l), (7, .v (.int .i64 s)), (8, .v (.ints none w.l))], base⟩) ⟨by dsimp only; omega, by repeat' first | refine And.intro ?_ ?_ | exact trivial | rfl | omega | assumption | exact .inl rfl | exact fun _ _ => rfl⟩ (Nat.le_refl _) ?_;refine wrg ?_;conv => whnf
     refine yq rfl (ih w (by omega) (by omega) hgm hgs (by omega)) ?_;rintro lo hi hi' z hl1 hl2 hl3 ⟨P, hP, rfl⟩ _;try dsimp only at hl1 hl2
     conv => whnf
     have hPf := hP.few hgm.1;refine ⟨by omega, ?_⟩;conv => whnf
     refine ⟨fun j => .ints none ((O ++ P).getD j 0).l, fun i hi => congrArg (fun q : Poly p => V.ints none q.l) (zkI hi), fun j hj => congrArg (fun q : Poly p => V.ints none q.l) zkJ, ?_⟩;intro b_7 hs_7 hh_7 hf_7;try dsimp only at hh_7 hf_7
     conv => whnf
     refine fin9 (O ++ P) b_7 _ (hst (by omega) P hP) (by rw [List.length_append]; omega) (by dsimp only; omega) ?_;clear fin9;rw [List.length_append];exact cvr
    ·have h4 := of_decide_eq_false h4;refine W.skip (fin9 O bO _ (hsk (by omega)) (by omega) (by dsimp only; omega) ?_);clear fin9;exact cvr
   ·obtain rfl : s = p.toNat := by have := of_decide_eq_false h3; omega
    refine W.exit (hK1 _ ?_);clear hK7 K7 hK1 K1;refine wrs fun K hK => ?_;conv => whnf
    refine hK _ ?_;clear hK K;refine W.ret ?_;conv => whnf
    exact ⟨.v (vPs O), ⟨rfl, rfl, rfl, fun _ _ => rfl⟩, ⟨trivial, fun _ _ => trivial⟩, O, hO.fin hm h2 hv3, rfl⟩


theorem zja (p : Int) [SP p] (g : Option Nat) (G : List (Poly p × Nat)) (f : Poly p) (n : Nat) (hG : G.length <= 1000) (hGd : ∀ x ∈ G, dg x.1 <= 1000000) (hf : dg f <= 1000000) :
  Fn Tryz.prog 377 [.vals g 2 G.length fun j => vF (G.getD j (0, 0)), .ints none f.l, .int .i64 n] (fun _ _ z => ∃ k b, k <= G.length ∧ (∀ j, j < k -> ltP (G.getD j (0, 0)).1 f) ∧ (k = G.length ∨ ¬ ltP (G.getD k (0, 0)).1 f) ∧
   z = .ownV 68 2 b (G.length + 1) fun j => vF ((zJ G k (f, n)).getD j (0, 0))) := by
 refine zj (za [0, 1, 2, 6, 7, 21]) Tryz.func377 rfl (by decide) Tryz.ntmps377 (Nat.le_of_ble_eq_true rfl) fun base => ?_;refine wrs fun K hK => ?_;conv => whnf
 refine hK _ ?_;clear hK K;refine wrs fun K hK => ?_;conv => whnf
 refine hK _ ?_;clear hK K;refine W.seqK fun K1 hK1 => W.block (W.invA (fun m e => ∃ k, k <= G.length ∧ (∀ j, j < k -> ltP (G.getD j (0, 0)).1 f) ∧ m = G.length - k ∧ e = [(0, .v (.vals g 2 G.length fun j => vF (G.getD j (0, 0)))), (1, .v (.ints none f.l)), (2, .v (.int .i64 n)), (7, .v (.int .i64 k))]) ⟨0, Nat.zero_le _, fun j hj => by omega, rfl, rfl⟩ ?_);rintro m e ⟨k, h1, h2, hm, rfl⟩
 have fin : ∀ s : S, base <= s.hs -> (k = G.length ∨ ¬ ltP (G.getD k (0, 0)).1 f) -> zy s.env [(0, .v (.vals g 2 G.length fun j => vF (G.getD j (0, 0)))), (1, .v (.ints none f.l)), (2, .v (.int .i64 n)), (7, .v (.int .i64 k))] -> K1 s := by
  intro s h5 h6 h7;refine hK1 _ (W.weak (t := ⟨[(0, .v (.vals g 2 G.length fun j => vF (G.getD j (0, 0)))), (1, .v (.ints none f.l)), (2, .v (.int .i64 n)), (7, .v (.int .i64 k))], base⟩) ⟨h5, h7⟩ (Nat.le_refl _) ?_);clear hK1 K1 h5 h7;refine W.seqK fun K2 hK2 => W.sch follows ?_;refine wt 1 ?_;conv => whnf
  refine wt 2 ?_;conv => whnf
  refine wt 3 ?_;conv => whnf
  refine ⟨⟨by omega, by omega, by omega⟩, ?_⟩;conv => whnf
  refine wt 5 ?_;conv => whnf
  refine wt 6 ?_;conv => whnf
  refine wt 7 ?_;conv => whnf
  refine wt 10 ?_;conv => whnf
  refine wt 11 ?_;conv => whnf
  refine wt 12 ?_;conv => whnf
  refine ⟨⟨by omega, by omega, by omega⟩, ?_⟩;conv => whnf
  refine Wany.all (za []) (by rfl) (rs := [0, 8]) (by kernel_rfl) (by decide) ?_;intro i hi;simp only [List.mem_cons, List.not_mem_nil, or_false] at hi
  rcases hi with rfl | rfl <;> refine ⟨_, by rfl, by rfl, ?_⟩ <;> conv => whnf
  ·refine ⟨⟨rfl, by decide, fun x hx => by simp at hx⟩, ?_⟩;conv => whnf
   intro b_0 hs_0 hh_0 hf_0;try dsimp only at hh_0 hf_0
   conv => whnf
   refine Wany.all (za []) (by rfl) (rs := [4, 8]) (by kernel_rfl) (by decide) ?_;intro i hi;simp only [List.mem_cons, List.not_mem_nil, or_false] at hi
   rcases hi with rfl | rfl <;> refine ⟨_, by rfl, by rfl, ?_⟩ <;> conv => whnf
   ·refine ⟨by omega, ?_⟩;conv => whnf
    refine ⟨fun j => vF ((zJ G k (f, n)).getD j (0, 0)), fun i hi => absurd hi (by omega), fun j hj => congrArg vF ((congrArg (fun i => (zJ G k (f, n)).getD i (0, 0)) (by omega : 0 + j = j)).trans ((zdj h1 (by omega)).trans (congrArg (fun i => G.getD i (0, 0)) (by omega)))), ?_⟩;intro b_4 hs_4 hh_4 hf_4;try dsimp only at hh_4 hf_4
    conv => whnf
    refine Wany.all (za []) (by rfl) (rs := [8]) (by kernel_rfl) (by decide) ?_;intro i hi;simp only [List.mem_cons, List.not_mem_nil, or_false] at hi
    rcases hi with rfl <;> refine ⟨_, by rfl, by rfl, ?_⟩ <;> conv => whnf
    refine ⟨⟨rfl, by decide, fun x hx => by simp at hx; subst hx; exact ⟨rfl, rfl⟩⟩, ?_⟩;conv => whnf
    intro b_8 hs_8 hh_8 hf_8;try dsimp only at hh_8 hf_8
    conv => whnf
    refine Wany.all (za []) (by rfl) (rs := [9]) (by kernel_rfl) (by decide) ?_;intro i hi;simp only [List.mem_cons, List.not_mem_nil, or_false] at hi
    rcases hi with rfl <;> refine ⟨_, by rfl, by rfl, ?_⟩ <;> conv => whnf
    refine ⟨by omega, ?_⟩;conv => whnf
    refine ⟨fun j => vF ((zJ G k (f, n)).getD j (0, 0)), fun i hi => rfl, fun j hj => (congrArg vF ((congrArg (fun i => (zJ G k (f, n)).getD i (0, 0)) (by omega : 0 + ((k : Int) - 0).toNat + j = k)).trans (zdk h1))).trans (by obtain rfl : j = 0 := (by omega); rfl), ?_⟩;intro b_9 hs_9 hh_9 hf_9;try dsimp only at hh_9 hf_9
    conv => whnf
    refine Wany.all (za []) (by rfl) (rs := [13]) (by kernel_rfl) (by decide) ?_;intro i hi;simp only [List.mem_cons, List.not_mem_nil, or_false] at hi
    rcases hi with rfl <;> refine ⟨_, by rfl, by rfl, ?_⟩ <;> conv => whnf
    refine ⟨by omega, ?_⟩;conv => whnf
    refine ⟨fun j => vF ((zJ G k (f, n)).getD j (0, 0)), fun i hi => rfl, fun j hj => congrArg vF ((congrArg (fun i => (zJ G k (f, n)).getD i (0, 0)) (by omega : 0 + ((k : Int) - 0).toNat + 1 + j = k + 1 + j)).trans ((zdl h1).trans (congrArg (fun i => G.getD i (0, 0)) (by omega)))), ?_⟩;intro b_13 hs_13 hh_13 hf_13;try dsimp only at hh_13 hf_13
    conv => whnf
    refine Wany.all (za []) (by rfl) (rs := [14]) (by kernel_rfl) (by decide) ?_;intro i hi;simp only [List.mem_cons, List.not_mem_nil, or_false] at hi
    rcases hi with rfl <;> refine ⟨_, by rfl, by rfl, ?_⟩ <;> conv => whnf
    refine wd1 (hK2 _ ?_);clear hK2 K2;refine W.ret ?_;conv => whnf
    exact ⟨.ownV 68 2 _ (G.length + 1) fun j => vF ((zJ G k (f, n)).getD j (0, 0)), ⟨rfl, rfl, rfl, by omega, fun _ _ => rfl⟩, fun _ _ => ⟨trivial, trivial, trivial⟩, k, _, h1, h2, h6, rfl⟩
   ·refine ⟨⟨rfl, by decide, fun x hx => by simp at hx; subst hx; exact ⟨rfl, rfl⟩⟩, ?_⟩;conv => whnf
    intro b_8 hs_8 hh_8 hf_8;try dsimp only at hh_8 hf_8
    conv => whnf
    refine Wany.all (za []) (by rfl) (rs := [4]) (by kernel_rfl) (by decide) ?_;intro i hi;simp only [List.mem_cons, List.not_mem_nil, or_false] at hi
    rcases hi with rfl <;> refine ⟨_, by rfl, by rfl, ?_⟩ <;> conv => whnf
    refine ⟨by omega, ?_⟩;conv => whnf
    refine ⟨fun j => vF ((zJ G k (f, n)).getD j (0, 0)), fun i hi => absurd hi (by omega), fun j hj => congrArg vF ((congrArg (fun i => (zJ G k (f, n)).getD i (0, 0)) (by omega : 0 + j = j)).trans ((zdj h1 (by omega)).trans (congrArg (fun i => G.getD i (0, 0)) (by omega)))), ?_⟩;intro b_4 hs_4 hh_4 hf_4;try dsimp only at hh_4 hf_4
    conv => whnf
    refine Wany.all (za []) (by rfl) (rs := [9]) (by kernel_rfl) (by decide) ?_;intro i hi;simp only [List.mem_cons, List.not_mem_nil, or_false] at hi
    rcases hi with rfl <;> refine ⟨_, by rfl, by rfl, ?_⟩ <;> conv => whnf
    refine ⟨by omega, ?_⟩;conv => whnf
    refine ⟨fun j => vF ((zJ G k (f, n)).getD j (0, 0)), fun i hi => rfl, fun j hj => (congrArg vF ((congrArg (fun i => (zJ G k (f, n)).getD i (0, 0)) (by omega : 0 + ((k : Int) - 0).toNat + j = k)).trans (zdk h1))).trans (by obtain rfl : j = 0 := (by omega); rfl), ?_⟩;intro b_9 hs_9 hh_9 hf_9;try dsimp only at hh_9 hf_9
    conv => whnf
    refine Wany.all (za []) (by rfl) (rs := [13]) (by kernel_rfl) (by decide) ?_;intro i hi;simp only [List.mem_cons, List.not_mem_nil, or_false] at hi
    rcases hi with rfl <;> refine ⟨_, by rfl, by rfl, ?_⟩ <;> conv => whnf
    refine ⟨by omega, ?_⟩;conv => whnf
    refine ⟨fun j => vF ((zJ G k (f, n)).getD j (0, 0)), fun i hi => rfl, fun j hj => congrArg vF ((congrArg (fun i => (zJ G k (f, n)).getD i (0, 0)) (by omega : 0 + ((k : Int) - 0).toNat + 1 + j = k + 1 + j)).trans ((zdl h1).trans (congrArg (fun i => G.getD i (0, 0)) (by omega)))), ?_⟩;intro b_13 hs_13 hh_13 hf_13;try dsimp only at hh_13 hf_13
    conv => whnf
    refine Wany.all (za []) (by rfl) (rs := [14]) (by kernel_rfl) (by decide) ?_;intro i hi;simp only [List.mem_cons, List.not_mem_nil, or_false] at hi
    rcases hi with rfl <;> refine ⟨_, by rfl, by rfl, ?_⟩ <;> conv => whnf
    refine wd1 (hK2 _ ?_);clear hK2 K2;refine W.ret ?_;conv => whnf
    exact ⟨.ownV 68 2 _ (G.length + 1) fun j => vF ((zJ G k (f, n)).getD j (0, 0)), ⟨rfl, rfl, rfl, by omega, fun _ _ => rfl⟩, fun _ _ => ⟨trivial, trivial, trivial⟩, k, _, h1, h2, h6, rfl⟩
  ·refine ⟨⟨rfl, by decide, fun x hx => by simp at hx; subst hx; exact ⟨rfl, rfl⟩⟩, ?_⟩;conv => whnf
   intro b_8 hs_8 hh_8 hf_8;try dsimp only at hh_8 hf_8
   conv => whnf
   refine Wany.all (za []) (by rfl) (rs := [0]) (by kernel_rfl) (by decide) ?_;intro i hi;simp only [List.mem_cons, List.not_mem_nil, or_false] at hi
   rcases hi with rfl <;> refine ⟨_, by rfl, by rfl, ?_⟩ <;> conv => whnf
   refine ⟨⟨rfl, by decide, fun x hx => by simp at hx⟩, ?_⟩;conv => whnf
   intro b_0 hs_0 hh_0 hf_0;try dsimp only at hh_0 hf_0
   conv => whnf
   refine Wany.all (za []) (by rfl) (rs := [4]) (by kernel_rfl) (by decide) ?_;intro i hi;simp only [List.mem_cons, List.not_mem_nil, or_false] at hi
   rcases hi with rfl <;> refine ⟨_, by rfl, by rfl, ?_⟩ <;> conv => whnf
   refine ⟨by omega, ?_⟩;conv => whnf
   refine ⟨fun j => vF ((zJ G k (f, n)).getD j (0, 0)), fun i hi => absurd hi (by omega), fun j hj => congrArg vF ((congrArg (fun i => (zJ G k (f, n)).getD i (0, 0)) (by omega : 0 + j = j)).trans ((zdj h1 (by omega)).trans (congrArg (fun i => G.getD i (0, 0)) (by omega)))), ?_⟩;intro b_4 hs_4 hh_4 hf_4;try dsimp only at hh_4 hf_4
   conv => whnf
   refine Wany.all (za []) (by rfl) (rs := [9]) (by kernel_rfl) (by decide) ?_;intro i hi;simp only [List.mem_cons, List.not_mem_nil, or_false] at hi
   rcases hi with rfl <;> refine ⟨_, by rfl, by rfl, ?_⟩ <;> conv => whnf
   refine ⟨by omega, ?_⟩;conv => whnf
   refine ⟨fun j => vF ((zJ G k (f, n)).getD j (0, 0)), fun i hi => rfl, fun j hj => (congrArg vF ((congrArg (fun i => (zJ G k (f, n)).getD i (0, 0)) (by omega : 0 + ((k : Int) - 0).toNat + j = k)).trans (zdk h1))).trans (by obtain rfl : j = 0 := (by omega); rfl), ?_⟩;intro b_9 hs_9 hh_9 hf_9;try dsimp only at hh_9 hf_9
   conv => whnf
   refine Wany.all (za []) (by rfl) (rs := [13]) (by kernel_rfl) (by decide) ?_;intro i hi;simp only [List.mem_cons, List.not_mem_nil, or_false] at hi
   rcases hi with rfl <;> refine ⟨_, by rfl, by rfl, ?_⟩ <;> conv => whnf
   refine ⟨by omega, ?_⟩;conv => whnf
   refine ⟨fun j => vF ((zJ G k (f, n)).getD j (0, 0)), fun i hi => rfl, fun j hj => congrArg vF ((congrArg (fun i => (zJ G k (f, n)).getD i (0, 0)) (by omega : 0 + ((k : Int) - 0).toNat + 1 + j = k + 1 + j)).trans ((zdl h1).trans (congrArg (fun i => G.getD i (0, 0)) (by omega)))), ?_⟩;intro b_13 hs_13 hh_13 hf_13;try dsimp only at hh_13 hf_13
   conv => whnf
   refine Wany.all (za []) (by rfl) (rs := [14]) (by kernel_rfl) (by decide) ?_;intro i hi;simp only [List.mem_cons, List.not_mem_nil, or_false] at hi
   rcases hi with rfl <;> refine ⟨_, by rfl, by rfl, ?_⟩ <;> conv => whnf
   refine wd1 (hK2 _ ?_);clear hK2 K2;refine W.ret ?_;conv => whnf
   exact ⟨.ownV 68 2 _ (G.length + 1) fun j => vF ((zJ G k (f, n)).getD j (0, 0)), ⟨rfl, rfl, rfl, by omega, fun _ _ => rfl⟩, fun _ _ => ⟨trivial, trivial, trivial⟩, k, _, h1, h2, h6, rfl⟩
 refine W.seqK fun K7 hK7 => ?_;refine wrs fun K hK => ?_;conv => whnf
 refine ⟨fun h3 => ?_, fun h3 => ?_⟩ <;> conv => whnf
 ·have h3 := of_decide_eq_true h3;have hx : (G.getD k (0, 0)) ∈ G := by rw [List.getD_eq_getElem?_getD, List.getElem?_eq_getElem (by omega)]; exact List.getElem_mem (by omega)
  have hx2 := hGd _ hx;refine ⟨oo, ?_⟩;conv => whnf
  rw [Int.toNat_natCast];refine zg rfl (zdM none none (G.getD k (0, 0)).1.l f.l hx2 hf) fun hs' hhs => ?_;try dsimp only at hhs
  conv => whnf
  refine hK _ (W.cond ⟨fun h => ?_, fun h => ?_⟩) <;> clear hK K
  ·have h := (zaS _ _).1 (of_decide_eq_true h);refine W.skip (hK7 _ (W.block ?_));clear hK7 K7 fin;refine wrg ?_;conv => whnf
   refine ⟨oo, ?_⟩;conv => whnf
   exact zm ⟨k + 1, by omega, fun j hj => by by_cases h9 : j = k; (subst h9; exact h); exact h2 j (by omega), rfl, rfl⟩
  ·have h := fun h9 => of_decide_eq_false h ((zaS _ _).2 h9);refine W.exit (fin _ (by dsimp only; omega) (.inr h) ?_);clear fin hK7 K7;exact cvr
 ·have h3 := of_decide_eq_false h3;refine hK _ (W.condF rfl ?_);clear hK K;refine W.exit (fin _ (by dsimp only; omega) (.inl (by omega)) ?_);clear fin hK7 K7;exact cvr


theorem zmn {p : Int} [SP p] (f : Poly p) (hf : dg f <= 1000) : Bd 4611686018427387904 (mkL (f.l.length - 1) (dv (cf f.l))) := fun j => by
 have hp2 := SP.le (p := p);rw [xI]
 split
 ·rename_i hj
  have hfl : f.l.length = dg f := rfl;have hc := jS f (j + 1);have h8 := Int.mul_nonneg (by omega : (0 : Int) <= (j : Int) + 1) hc.1;have h9 := Int.mul_le_mul (by omega : (j : Int) + 1 <= 1000) (by omega : cf f.l (j + 1) <= 97) hc.1 (by omega);unfold dv;omega
 ·omega

theorem zbt (p : Int) [SP p] (g : Option Nat) (f : Poly p) (hf : dg f <= 1000) : FnI 374 [.int .i64 p, .ints g f.l] (der f).l := by
 have hp := Pr.two (p := p);have hp2 := SP.le (p := p);have hfl : f.l.length = dg f := rfl;refine zj (za [0, 1, 4]) Tryz.func374 rfl (by decide) Tryz.ntmps374 (Nat.le_of_ble_eq_true rfl) fun base => ?_;refine wrs fun K hK => ?_;conv => whnf
 refine hK _ ?_;clear hK K;refine wrs fun K hK => ?_;conv => whnf
 refine zg rfl (zbq _ f.l ((kL f).le (by omega)) (by omega)) fun hs' hhs => ?_;try dsimp only at hhs
 conv => whnf
 refine zB rfl (jJ p (by omega) (by omega) none (mkL (f.l.length - 1) (dv (cf f.l))) (zmn f hf) (by rw [z4]; omega)) fun hs_2 b_2 hh_2 hf_2 => ?_;try dsimp only at hh_2 hf_2
 conv => whnf
 rw [zlE];refine hK _ ?_;clear hK K;refine W.ret ?_;conv => whnf
 exact ⟨.ownI 2 _ ((der f).l), ⟨rfl, rfl, rfl⟩, trivial, _, rfl⟩

theorem zaV (p : Int) [SP p] : ∀ (d : Nat) (g : Option Nat) (f : Poly p) (t : Nat) (G : List (Poly p × Nat)), dg f <= d -> d <= 13 -> Mon f -> t <= 13 ^ (13 - d) -> Srt G -> (∀ x ∈ G, ¬ x.1 ∣ f ∧ dg x.1 <= 13) -> G.length + 20 * d <= 600 ->
  Fn Tryz.prog 329 [.int .i64 p, .ints g f.l, .int .i64 t, .vals none 2 G.length fun j => vF (G.getD j (0, 0))] (fun _ _ z => ∃ G', PutOf f t G G' ∧ z = .v (vFs G'))
 | 0, g, f, t, G, hd, _, hm, _, _, _, _ => absurd (zc.1 (by omega)) hm.1
 | d + 1, g, f, t, G, hd, hd13, hm, ht, hS, hG, hl => by
  have ih := zaV p d;have hp := Pr.two (p := p);have hp2 := SP.le (p := p);have hfl : f.l.length = dg f := rfl;have hf0 : dg f ≠ 0 := fun e => hm.1 (zc.1 e);have htb : t <= 13 ^ 13 := Nat.le_trans ht (Nat.pow_le_pow_right (by omega) (by omega))
  have ht2 : 13 * t <= 13 ^ (13 - d) := by
   have e : 13 - d = (13 - (d + 1)) + 1 := by omega
   rw [e, Nat.pow_succ, Nat.mul_comm];exact Nat.mul_le_mul_right _ ht
  have htb : t <= 302875106592253 := htb;refine zj (za [0, 1, 2, 3, 8, 9, 10, 11, 12, 14, 15, 16, 17, 18, 21, 28, 33, 67, 82]) Tryz.func329 rfl (by decide) Tryz.ntmps329 (Nat.le_of_ble_eq_true rfl) fun base => ?_;refine wrs fun K hK => ?_;conv => whnf
  refine hK _ ?_;clear hK K;refine W.seqK fun K1 hK1 => ?_;refine wrs fun K hK => ?_;conv => whnf
  rw [hfl];refine hK _ (W.cond ⟨fun h => ?_, fun h => ?_⟩) <;> clear hK K
  ·have h := of_decide_eq_true h;refine wrs fun K hK => ?_;conv => whnf
   refine hK _ ?_;clear hK K;refine W.ret ?_;conv => whnf
   exact ⟨.v (vFs G), ⟨rfl, rfl, rfl, fun _ _ => rfl⟩, ⟨trivial, fun _ _ => ⟨trivial, trivial, trivial⟩⟩, G, PutOf.unit (by omega) hS, rfl⟩
  have h := of_decide_eq_false h;refine W.skip (hK1 _ ?_);clear hK1 K1;refine wrs fun K hK => ?_;conv => whnf
  refine zB rfl (zbt p g f (by omega)) fun hs_1 b_1 hh_1 hf_1 => ?_;try dsimp only at hh_1 hf_1
  conv => whnf
  refine hK _ ?_;clear hK K;refine W.seqK fun K1 hK1 => ?_;have hdl : (der f).l.length = dg (der f) := rfl;refine wrs fun K hK => ?_;conv => whnf
  rw [hdl];refine hK _ (W.cond ⟨fun h1 => ?_, fun h1 => ?_⟩) <;> clear hK K
  ·have h1 := of_decide_eq_true h1;have hder : der f = 0 := zc.1 (by omega);refine wrs fun K hK => ?_;conv => whnf
   refine ⟨⟨rfl, by decide⟩, ?_⟩;conv => whnf
   intro b_2 hs_2 hh_2 hf_2;try dsimp only at hh_2 hf_2
   conv => whnf
   refine hK _ ?_;clear hK K;refine W.seqK fun K3 hK3 => ?_;refine wrs fun K hK => ?_;conv => whnf
   refine hK _ (W.block (W.invE (fun m e => ∃ (k bR : Nat), (m = dg f + p.toNat - k * p.toNat) ∧ k * p.toNat < dg f + p.toNat ∧ e = [(0, .v (.int .i64 p)), (1, .v (.ints g f.l)), (2, .v (.int .i64 t)), (3, .v (.vals none 2 G.length fun j => vF (G.getD j (0, 0)))), (10, .ownI 2 bR (mkL k fun i => cf f.l (i * p.toNat))), (11, .v (.int .i64 ((k * p.toNat : Nat) : Int)))]) _ _ ⟨0, b_2, rfl, by omega, rfl⟩ (by dsimp only; omega) (by repeat' first | refine And.intro ?_ ?_ | exact trivial | rfl | omega | assumption | exact .inl rfl | exact .inr rfl | exact fun _ _ => rfl) ?_));clear hK K;rintro m e ⟨k, bR, hm', hk, rfl⟩;have hpn : ((p.toNat : Nat) : Int) = p := by omega
   have hk1 : (k + 1) * p.toNat = k * p.toNat + p.toNat := Nat.succ_mul _ _;have hk2 : (((k + 1) * p.toNat : Nat) : Int) = ((k * p.toNat : Nat) : Int) + p := by omega
   have hcfk : cf f.l (k * p.toNat) = cf f.l (k * p.toNat) := rfl;generalize hkp : k * p.toNat = kp at hm' hk hk1 hk2 hcfk;refine W.seqK fun K7 hK7 => ?_;refine wrs fun K hK => ?_;conv => whnf
   rw [hfl];refine hK _ (W.cond ⟨fun h8 => ?_, fun h8 => ?_⟩) <;> clear hK K
   ·have h8 := of_decide_eq_true h8;refine W.skip (hK7 _ ?_);clear hK7 K7;refine W.seqK fun K8 hK8 => W.block ?_;refine wrg ?_;conv => whnf
    refine ⟨oo, ?_⟩;conv => whnf
    rw [Int.toNat_natCast];have hkk : k <= kp := by rw [<- hkp]; exact Nat.le_mul_of_pos_right k (by omega)
    have hml : (mkL k fun i => cf f.l (i * p.toNat)).length = k := z4 _ _;have hms : mkL (k + 1) (fun i => cf f.l (i * p.toNat)) = mkL k (fun i => cf f.l (i * p.toNat)) ++ [f.l.getD kp 0] := by rw [zaL, hkp]; rfl
    refine ⟨⟨rfl, by decide⟩, ?_⟩;conv => whnf
    intro b_4 hs_4 hh_4 hf_4;try dsimp only at hh_4 hf_4
    conv => whnf
    refine ⟨by dsimp only [List.length]; omega, ?_⟩;conv => whnf
    intro b_6 hs_6 hh_6 hf_6;try dsimp only at hh_6 hf_6
    conv => whnf
    refine hK8 _ ?_;clear hK8 K8;refine wrg ?_;conv => whnf
    refine ⟨oo, ?_⟩;conv => whnf
    refine ⟨_, _, ⟨k + 1, b_6, rfl, by omega, rfl⟩, by omega, by dsimp only; omega, ?_⟩;rw [hms];exact cvr
   ·have h8 := of_decide_eq_false h8;obtain ⟨R, hR1, hR2, hR3, hR4, hR5⟩ := zen (f := f) hm hder (l := mkL k fun i => cf f.l (i * p.toNat)) (n := k) (z4 _ _) (fun i hi => by rw [xI, if_pos hi]) (by omega) (by omega);rw [<- hR1];have hRd := hR5 (by omega);have hpf := zkt hR2 hR3 (by omega);have hpt : ((p.toNat * t : Nat) : Int) = p * (t : Int) := by rw [Int.natCast_mul, hpn]
    have hpt1 : p.toNat * t <= 13 * t := Nat.mul_le_mul_right _ (by omega);refine W.exit (hK3 _ ?_);clear hK7 K7 hK3 K3;refine W.weak (t := ⟨[(0, .v (.int .i64 p)), (2, .v (.int .i64 t)), (3, .v (.vals none 2 G.length fun j => vF (G.getD j (0, 0)))), (10, .v (.ints none R.l))], base⟩) ⟨by dsimp only; omega, by repeat' first | refine And.intro ?_ ?_ | exact trivial | rfl | omega | assumption | exact .inl rfl | exact .inr rfl | exact fun _ _ => rfl⟩ (Nat.le_refl _) ?_;refine wrs fun K hK => ?_;conv => whnf
    rw [<- hpt];refine ⟨oo, ?_⟩;conv => whnf
    refine yq rfl (ih none R (p.toNat * t) G (by omega) (by omega) hR2 (by omega) hS (fun x hx => ⟨fun hd9 => (hG x hx).1 (zp hd9 (by rw [<- hR3]; exact zgv (by omega))), (hG x hx).2⟩) (by omega)) ?_;rintro lo hi hi' z hl1 hl2 hl3 ⟨G', hG', rfl⟩ _;try dsimp only at hl1 hl2
    conv => whnf
    refine hK _ ?_;clear hK K;refine W.ret ?_;conv => whnf
    exact ⟨.v (vFs G'), ⟨rfl, rfl, rfl, fun _ _ => rfl⟩, ⟨trivial, fun _ _ => ⟨trivial, trivial, trivial⟩⟩, G', PutOf.root hR2.1 (by omega) hR3 hG', rfl⟩
  ·have h1 := of_decide_eq_false h1;refine W.skip (hK1 _ ?_);clear hK1 K1;have hd0 : der f ≠ 0 := fun e => by rw [e, zq] at h1; omega
   obtain ⟨s1, s2, s3, s4, s5, s6, s7⟩ := zid hm hd0;refine wrs fun K hK => ?_;conv => whnf
   refine zB rfl (zaR p _ _ f (der f) (by omega) (by have := zbh hm.1; omega)) fun hs_3 b_3 hh_3 hf_3 => ?_;try dsimp only at hh_3 hf_3
   conv => whnf
   refine zg rfl (x9 p _ _ f (gcd f (der f)) (by omega) (by have := zC s6 hd0; have := zbh hm.1; omega) s7) fun hs' hhs => ?_;try dsimp only at hhs
   conv => whnf
   generalize hq : quo f (gcd f (der f)) = q at s1 s2 s3 s4 s5;generalize gcd f (der f) = c at s1 s6 s7;refine hK _ ?_;clear hK K;refine wrs fun K hK => ?_;conv => whnf
   refine yq rfl (zbS p 400 q (by omega) (by omega) s2 s3 s4) ?_;rintro lo hi hi' z hl1 hl2 hl3 ⟨P, hP, rfl⟩ _;have hPf := hP.few (f := q) s2.1;try dsimp only at hl1 hl2
   conv => whnf
   refine hK _ ?_;clear hK K;refine W.seqK fun K1 hK1 => ?_;refine wrs fun K hK => ?_;conv => whnf
   refine hK _ (W.block (W.invE (fun m e => ∃ (k : Nat) (g1 : Option Nat) (r : Poly p) (L H : List (Poly p × Nat)), Putting f P t G k r L H ∧ dg r <= dg f ∧ m = P.length - k ∧ (∀ x ∈ H, dg x.1 <= 13) ∧ e = [(0, .v (.int .i64 p)), (1, .v (.ints g1 r.l)), (2, .v (.int .i64 t)), (3, .v (.vals none 2 H.length fun j => vF (H.getD j (0, 0)))), (14, .v (vPs P)), (15, .v (.int .i64 k))]) _ _ ⟨0, g, f, [], G, Putting.start hm P t hS, Nat.le_refl _, rfl, fun x hx => (hG x hx).2, rfl⟩ (by dsimp only; omega) (by repeat' first | refine And.intro ?_ ?_ | exact trivial | rfl | omega | assumption | exact .inl rfl | exact .inr rfl | exact fun _ _ => rfl) ?_));clear hK K;rintro m e ⟨k, g1, r, L, H, hpu, hrd, hm', hH, rfl⟩;have hpe := hpu.peel;have hkl := hpe.le;have hlen := hpu.len;refine W.seqK fun K7 hK7 => wrs fun K hK => ?_;conv => whnf
   refine hK _ (W.cond ⟨fun h2 => ?_, fun h2 => ?_⟩) <;> clear hK K <;> (first | replace h2 := of_decide_eq_true h2 | replace h2 := of_decide_eq_false h2)
   ·have hmem : P.getD k 0 ∈ P := by rw [List.getD_eq_getElem?_getD, List.getElem?_eq_getElem (by omega)]; exact List.getElem_mem (by omega)
    obtain ⟨hgi, hgm, hgd⟩ := (hP.2 _).1 hmem;have hgd0 : P.getD k 0 ∣ f := zp hgd ⟨c, s1⟩;have hgdg := zC hgd0 hm.1;have step := fun n i r' he hn => hpu.step (n := n) (i := i) (r' := r') (fun x hx => (hG x hx).1) hP.1 (by omega) hgi hgm hgd0 he hn;generalize hgq : P.getD k 0 = q1 at hgi hgm hgd hgd0 hgdg step;refine W.skip (hK7 _ ?_);clear hK7 K7;refine W.seqK fun K8 hK8 => W.block ?_;refine wrs fun K hK => ?_;conv => whnf
    refine hK _ ?_;clear hK K
    have hpow : ∀ {n : Nat} {rc : Poly p}, r = q1 ^ n * rc -> n < 14 ∧ rc ≠ 0 ∧ dg rc <= dg r := fun {n rc} he => by
     have h5 := zbi hgi.1 n;have h6 := zC (⟨rc, he⟩ : q1 ^ n ∣ r) hpe.mon.1;have h7 : rc ∣ r := ⟨q1 ^ n, by rw [he]; exact vh _ _⟩
     exact ⟨by omega, zc1 h7 hpe.mon.1, zC h7 hpe.mon.1⟩
    refine W.seqK fun K2 hK2 => ?_;refine W.block (W.invE (fun m e => ∃ (n : Nat) (g2 : Option Nat) (rc : Poly p), r = q1 ^ n * rc ∧ m = dg rc ∧ e = [(0, .v (.int .i64 p)), (1, .v (.ints g2 rc.l)), (2, .v (.int .i64 t)), (3, .v (.vals none 2 H.length fun j => vF (H.getD j (0, 0)))), (14, .v (vPs P)), (15, .v (.int .i64 k)), (16, .v (.int .i64 n))]) _ _ ⟨0, g1, r, by rw [zo]; exact zf [r] (by rfl), rfl, rfl⟩ (by dsimp only; omega) (by repeat' first | refine And.intro ?_ ?_ | exact trivial | rfl | omega | assumption | exact .inl rfl | exact .inr rfl | exact fun _ _ => rfl) ?_);rintro m2 e ⟨n, g2, rc, he, hm2, rfl⟩;obtain ⟨hn14, hrc0, hrcd⟩ := hpow he;have hreml : (rem rc q1).l.length = dg (rem rc q1) := rfl;refine W.block ?_;refine wrs fun K hK => ?_;conv => whnf
    refine ⟨oo, ?_⟩;conv => whnf
    have e1 : (fun j => V.ints none (P.getD j 0).l) (k : Int).toNat = .ints none q1.l := by rw [Int.toNat_natCast]; show V.ints none (P.getD k 0).l = _; rw [hgq]
    rw [e1];refine zg rfl (x9 p _ _ rc q1 (by omega) (by omega) hgi.ne) fun hs' hhs => ?_;try dsimp only at hhs
    conv => whnf
    refine hK _ ?_;clear hK K;refine W.seqK fun K9 hK9 => ?_;refine wrs fun K hK => ?_;conv => whnf
    rw [hreml];refine hK _ (W.cond ⟨fun h3 => ?_, fun h3 => ?_⟩) <;> clear hK K
    ·have h3 := of_decide_eq_true h3
     have hnd : ¬ q1 ∣ rc := fun hd => by
      have := (ko hgi.ne).1 hd;have : dg (rem rc q1) = 0 := by rw [this]; exact zq
      omega
     refine W.exit (hK2 _ ?_);clear hK2 K2 hK9 K9;have hnt : ((n * t : Nat) : Int) = (n : Int) * (t : Int) := Int.natCast_mul _ _;have hnt1 : n * t <= 13 * t := Nat.mul_le_mul_right _ (by omega);have hnt2 : 13 * t <= 3937376385699289 := by omega
     refine wrg ?_;conv => whnf
     refine ⟨oo, ?_⟩;conv => whnf
     rw [e1];rw [<- hnt];refine ⟨oo, ?_⟩;conv => whnf
     refine yq rfl (zja p none H q1 (n * t) (by omega) (fun x hx => by have := hH x hx; omega) (by omega)) ?_;rintro lo hi hi' z hl1 hl2 hl3 ⟨i, b, hi1, hi2, hi3, rfl⟩ _;try dsimp only at hl1 hl2
     conv => whnf
     refine hK8 _ ?_;clear hK8 K8;refine wrg ?_;conv => whnf
     refine ⟨oo, ?_⟩;conv => whnf
     have hpl : (zJ H i (q1, n * t)).length = H.length + 1 := zaP hi1;refine ⟨_, _, ⟨k + 1, g2, rc, L ++ [(q1, n)], zJ H i (q1, n * t), step n i rc he hnd hi1 hi2 hi3, by omega, rfl, fun x hx => ?_, rfl⟩, by omega, by dsimp only; omega, ?_⟩
     ·rcases zbo.1 hx with rfl | hx
      ·show dg q1 <= 13
       omega
      ·exact hH x hx
     rw [hpl];exact cvr
    ·have h3 := of_decide_eq_false h3;have hrem : rem rc q1 = 0 := zc.1 (by omega)
     have hdiv : rc = quo rc q1 * q1 := by
      have h5 := v3 rc q1;rw [hrem] at h5;have e : ∀ a : Poly p, a + 0 = a := fun a => by exact zf [a] (by rfl)
      rw [e] at h5; exact h5
     have hq0 : quo rc q1 ≠ 0 := fun e => hrc0 (by rw [hdiv, e]; exact zf [q1] (by rfl));have hdgq := yv hq0 hgi.ne;rw [<- hdiv] at hdgq;have hg2 := hgi.1;refine W.skip (hK9 _ ?_);clear hK9 K9;refine wrs fun K hK => ?_;conv => whnf
     refine hK _ ?_;clear hK K;refine wrg ?_;conv => whnf
     refine ⟨oo, ?_⟩;conv => whnf
     exact zm ⟨n + 1, none, quo rc q1, by rw [he, zd]; exact comb (q1 ^ n) hdiv (zf [rc, q1, quo rc q1, q1 ^ n] (by rfl)), rfl, rfl⟩
   ·obtain rfl : k = P.length := by omega
    have hrl := hpe.less hm hP s1 s4;refine W.exit (hK1 _ ?_);clear hK7 K7 hK1 K1;refine wrs fun K hK => ?_;conv => whnf
    refine yq rfl (ih g1 r t H (by omega) (by omega) hpe.mon (by omega) hpu.srt (fun x hx => ⟨hpu.apart (fun x hx => (hG x hx).1) x hx, hH x hx⟩) (by omega)) ?_;rintro lo hi hi' z hl1 hl2 hl3 ⟨G', hG', rfl⟩ _;try dsimp only at hl1 hl2
    conv => whnf
    refine hK _ ?_;clear hK K;refine W.ret ?_;conv => whnf
    exact ⟨.v (vFs G'), ⟨rfl, rfl, rfl, fun _ _ => rfl⟩, ⟨trivial, fun _ _ => ⟨trivial, trivial, trivial⟩⟩, G', hpu.fin hm hP s1 s6 hG', rfl⟩

theorem Fn.args {P : Program} {f : Nat} {xs ys : List V} {post : zfo} (h : Fn P f ys post) (hl : xs.length = ys.length)
  (hr : ∀ j, j < xs.length -> ∀ (D : Nat -> Prop) (n : Nat) (hp : Array Obj) (v : Value), Rep (okF D (fun _ => False) n) hp (xs.getD j .nil) v -> Rep (okF D (fun _ => False) n) hp (ys.getD j .nil) v) : Fn P f xs post :=
 ⟨h.1, fun D w vs hD hs hv => h.2 D w vs hD (hs.trans hl) fun j hj => hr j (by omega) _ _ _ _ (hv j (by omega))⟩
theorem Rep.vals0 {ok : OkB} {hp : Array Obj} {g g' : Option Nat} {sz : Nat} {f f' : Nat -> V} {v : Value} (h : Rep ok hp (.vals g sz 0 f) v) : Rep ok hp (.vals g' sz 0 f') v := by
 cases h with
 | vals _ _ _ _ a cap hc hm hl hf c hx hr => exact .vals g' sz 0 f' a cap hc hm (fun i hi => by omega) (fun i hi => by omega) c (fun i j hi => by omega) (fun i j hi => by omega)

theorem zjb (p : Int) [SP p] (g : Option Nat) (f : Poly p) (hf : dg f <= 13) (hf0 : f ≠ 0) : Fn Tryz.prog 206 [.int .i64 p, .ints g f.l] (fun _ _ z => ∃ F, yg f F ∧ z = .v (vFs F)) := by
 have hmd : dg (mnc f) <= dg f := zC (zL f).1 hf0;refine zj (za [0, 1, 4]) Tryz.func206 rfl (by decide) Tryz.ntmps206 (Nat.le_of_ble_eq_true rfl) fun base => ?_;refine wrs fun K hK => ?_;conv => whnf
 refine hK _ ?_;clear hK K;refine wrs fun K hK => ?_;conv => whnf
 refine zB rfl (zbO p g f (by omega)) fun hs_1 b_1 hh_1 hf_1 => ?_;try dsimp only at hh_1 hf_1
 conv => whnf
 refine ⟨⟨rfl, by decide, fun x hx => by simp at hx⟩, ?_⟩;conv => whnf
 intro b_2 hs_2 hh_2 hf_2;try dsimp only at hh_2 hf_2
 conv => whnf
 refine yq rfl (Fn.args (ys := [.int .i64 p, .ints (some b_1) (mnc f).l, .int .i64 ((1 : Nat) : Int), .vals none 2 0 fun j => vF ((([] : List (Poly p × Nat))).getD j (0, 0))]) (zaV p 13 (some b_1) (mnc f) 1 [] (by omega) (Nat.le_refl _) (vR hf0) (by decide) List.Pairwise.nil (fun x hx => by simp at hx) (by simp)) rfl fun j hj D n hp v hv => ?_) ?_
 ·match j, hj with
  | 0, _ => exact hv
  | 1, _ => exact hv
  | 2, _ => exact hv
  | 3, _ => exact hv.vals0
 rintro lo hi hi' z hl1 hl2 hl3 ⟨F, hF, rfl⟩ _;try dsimp only at hl1 hl2
 conv => whnf
 refine hK _ ?_;clear hK K;refine W.ret ?_;conv => whnf
 exact ⟨.v (vFs F), ⟨rfl, rfl, rfl, fun _ _ => rfl⟩, ⟨trivial, fun _ _ => ⟨trivial, trivial, trivial⟩⟩, F, ⟨hF.fac.1, fun x => (hF.fac.2 x).trans (zem hf0 x)⟩, rfl⟩


noncomputable def bP (P : Prop) : Bool := @decide P (Classical.propDecidable P)
theorem zfh {P : Prop} : bP P = true ↔ P := @decide_eq_true_iff P (Classical.propDecidable P)
theorem zW {P : Prop} (h : P) : bP P = true := zfh.2 h
theorem z5 {P : Prop} (h : ¬ P) : bP P = false := by
 cases hb : bP P with
 | false => rfl
 | true => exact absurd (zfh.1 hb) h
theorem zlY {P : Prop} (h : bP P = false) : ¬ P := fun hp => by rw [zW hp] at h; cases h
theorem zlp {P : Prop} [Decidable P] (h : (!(decide P)) = true) : ¬ P := fun hp => by rw [decide_eq_true hp] at h; cases h
theorem zkK {P : Prop} [Decidable P] (h : (!(decide P)) = false) : P := Classical.byContradiction fun hp => by rw [decide_eq_false hp] at h; cases h
theorem zfi (g : Option Nat) (xs : List Int) (f : Nat) (caps : List V) (q : Nat -> Bool) (hl : xs.length <= 100000000) (hf : ∀ i, i < xs.length -> FnV f ([.int .i64 (cf xs i)] ++ caps) (.bool (q i))) :
  Fn Tryz.prog 366 [.ints g xs, .func f caps] (fun _ _ z => ∃ r : Int, z = .v (.int .i64 r) ∧ (0 <= r ↔ ∃ i, i < xs.length ∧ q i = true)) := by
 refine zj (za [0, 1, 4, 5, 7, 8, 9, 16]) Tryz.func366 rfl (by decide) Tryz.ntmps366 (Nat.le_of_ble_eq_true rfl) fun base => ?_;refine wrs fun K hK => ?_;conv => whnf
 refine hK _ ?_;clear hK K;refine W.seqK fun K1 hK1 => wrs fun K hK => ?_;conv => whnf
 refine hK _ (W.block (W.invA (fun m e => ∃ i : Nat, i <= xs.length ∧ (∀ j, j < i -> q j = false) ∧ m = xs.length - i ∧ e = [(0, .v (.ints g xs)), (1, .v (.func f caps)), (7, .v (.int .i64 xs.length)), (8, .v (.int .i64 i))]) ⟨0, Nat.zero_le _, fun j hj => by omega, rfl, rfl⟩ ?_));clear hK K;rintro m e ⟨i, h1, h2, hm, rfl⟩;refine wrs fun K hK => ?_;conv => whnf
 refine hK _ ?_;clear hK K;refine W.seqK fun K7 hK7 => W.cond ⟨fun h => ?_, fun h => ?_⟩ <;> (first | replace h := of_decide_eq_true h | replace h := of_decide_eq_false h)
 ·refine W.skip (hK7 _ ?_);clear hK7 K7;refine W.seqK fun K8 hK8 => W.block ?_;refine wrs fun K hK => ?_;conv => whnf
  refine hK _ ?_;clear hK K;refine wrs fun K hK => ?_;conv => whnf
  refine ⟨oo, ?_⟩;conv => whnf
  rw [Int.toNat_natCast];refine zg rfl (hf i (by omega)) fun hs' hhs => ?_;try dsimp only at hhs
  conv => whnf
  refine hK _ (W.cond ⟨fun h3 => ?_, fun h3 => ?_⟩) <;> clear hK K
  ·refine wrs fun K hK => ?_;conv => whnf
   refine hK _ ?_;clear hK K;refine W.ret ?_;conv => whnf
   exact ⟨.v (.int .i64 i), ⟨rfl, rfl⟩, trivial, i, rfl, fun _ => ⟨i, by omega, h3⟩, fun _ => by omega⟩
  ·refine W.skip (hK8 _ ?_);clear hK8 K8;refine wrg ?_;conv => whnf
   refine ⟨oo, ?_⟩;conv => whnf
   have h4 : ∀ j, j < i + 1 -> q j = false := fun j hj => by
    by_cases hji : j = i
    ·subst hji; exact h3
    ·exact h2 j (by omega)
   exact zm ⟨i + 1, by omega, h4, rfl, rfl⟩
 ·refine W.exit (hK1 _ ?_);clear hK7 K7 hK1 K1;refine wrs fun K hK => ?_;conv => whnf
  refine hK _ ?_;clear hK K;refine W.ret ?_;conv => whnf
  refine ⟨.v (.int .i64 (-1)), ⟨rfl, rfl⟩, trivial, -1, rfl, fun h => by omega, fun ⟨j, hj, he⟩ => ?_⟩;rw [h2 j (by omega)] at he; cases he

theorem zb0 (g : Option Nat) (xs : List Int) (f : Nat) (caps : List V) (q : Nat -> Bool) (hl : xs.length <= 100000000) (hf : ∀ i, i < xs.length -> FnV f ([.int .i64 (cf xs i)] ++ caps) (.bool (q i))) :
  FnV 303 [.ints g xs, .func f caps] (.bool (bP (∃ i, i < xs.length ∧ q i = true))) := by
 refine zj (za [0, 1, 4]) Tryz.func303 rfl (by decide) Tryz.ntmps303 (Nat.le_of_ble_eq_true rfl) fun base => ?_;refine wrs fun K hK => ?_;conv => whnf
 refine hK _ ?_;clear hK K;refine wrs fun K hK => ?_;conv => whnf
 refine yq rfl (zfi g xs f caps q hl hf) ?_;rintro lo hi hi' z h1 h2 h3 ⟨r, rfl, hr⟩ _;conv => whnf
 refine hK _ ?_;clear hK K;refine W.ret ?_;conv => whnf
 exact ⟨.v (.bool (bP (∃ i, i < xs.length ∧ q i = true))), (by show decide _ = bP _; by_cases h : 0 <= r; (rw [zW (hr.1 h)]; exact decide_eq_true h); (rw [z5 fun h' => h (hr.2 h')]; exact decide_eq_false h)), trivial, rfl⟩

def zjc (a b : Int) (xs : List Int) : Prop := ∀ j, j < xs.length -> a <= cf xs j ∧ cf xs j <= b
def zlF (xs : List Int) : Prop := xs.length = 0 ∨ cf xs (xs.length - 1) ≠ 0
def zkL (xs : List Int) : Prop := xs.length <= 9 ∧ zjc (-1000000) 1000000 xs ∧ zlF xs
def IsSm (xs : List Int) : Prop := zkL xs ∧ 2 <= xs.length ∧ xs.length <= 5 ∧ zjc (-60) 60 xs
def zF (p : Int) (xs : List Int) : Prop := isP p = true ∧ xs.length <= 9 ∧ zjc 0 (p - 1) xs ∧ zlF xs

theorem zii {a b : Int} {xs : List Int} : (∃ i, i < xs.length ∧ (!(decide (a <= cf xs i ∧ cf xs i <= b))) = true) ↔ ¬ zjc a b xs := by
 constructor
 ·rintro ⟨i, hi, h⟩ hA;rw [decide_eq_true (hA i hi)] at h; cases h
 ·intro h;refine Classical.byContradiction fun h' => h fun j hj => ?_;refine Classical.byContradiction fun h'' => h' ⟨j, hj, ?_⟩;rw [decide_eq_false h'']; rfl

theorem zjd (g : Option Nat) (xs : List Int) (hl : xs.length <= 1000000000) : FnV 192 [.ints g xs] (.int .i64 ((xs.length : Int) - 1)) := by
 refine zj (za [0, 2]) Tryz.func192 rfl (by decide) Tryz.ntmps192 (Nat.le_of_ble_eq_true rfl) fun base => ?_;refine wrs fun K hK => ?_;conv => whnf
 refine hK _ ?_;clear hK K;refine wrs fun K hK => ?_;conv => whnf
 refine zg rfl (zih g xs) fun hs' hhs => ?_;try dsimp only at hhs
 conv => whnf
 refine ⟨oo, ?_⟩;conv => whnf
 refine hK _ ?_;clear hK K;refine W.ret ?_;conv => whnf
 exact ⟨.v (.int .i64 ((xs.length : Int) - 1)), ⟨rfl, rfl⟩, trivial, rfl⟩

noncomputable def zhC (xs : List Int) : Int := bif bP (zkL xs) then (bif bP (IsSm xs) then 0 else 2) else 1

theorem zlq (g : Option Nat) (p n : Int) (hp : 0 <= p ∧ p <= 97) : FnV 304 [.int .i64 n, .box g (.int .i64 p)] (.bool (!(decide (0 <= n ∧ n <= p - 1)))) := by
 refine zj (za [0, 1, 3]) Tryz.func304 rfl (by decide) Tryz.ntmps304 (Nat.le_of_ble_eq_true rfl) fun base => ?_;refine wrs fun K hK => ?_;conv => whnf
 refine hK _ ?_;clear hK K;refine wrs fun K hK => ?_;conv => whnf
 refine ⟨oo, ?_⟩;conv => whnf
 refine zg rfl (kJ _ _ _) fun hs' hhs => ?_;try dsimp only at hhs
 conv => whnf
 refine hK _ ?_;clear hK K;refine W.ret ?_;conv => whnf
 exact ⟨.v (.bool (!(decide (0 <= n ∧ n <= p - 1)))), rfl, trivial, rfl⟩

theorem zfj {p : Int} (h : isP p = true) : 2 <= p ∧ p <= 97 := jm (of_decide_eq_true h)

theorem yW (g : Option Nat) (p : Int) (xs : List Int) : FnV 151 [.int .i64 p, .ints g xs] (.bool (bP (zF p xs))) := by
 refine zj (za [0, 1, 2, 4, 17]) Tryz.func151 rfl (by decide) Tryz.ntmps151 (Nat.le_of_ble_eq_true rfl) fun base => ?_;refine wrs fun K hK => ?_;conv => whnf
 refine ⟨rfl, ?_⟩;conv => whnf
 intro b_1 hs_1 hh_1 hf_1;try dsimp only at hh_1 hf_1
 conv => whnf
 refine hK _ ?_;clear hK K;refine W.seqK fun K1 hK1 => ?_;refine wrs fun K hK => ?_;conv => whnf
 refine zg rfl (jT p) fun hs' hhs => ?_;try dsimp only at hhs
 conv => whnf
 refine ⟨fun h => ?_, fun h => ?_⟩ <;> conv => whnf
 ·have h : isP p = false := by simpa using h
  refine hK _ (W.condT rfl ?_);clear hK K;refine wrs fun K hK => ?_;conv => whnf
  refine hK _ ?_;clear hK K;refine W.ret ?_;conv => whnf
  exact ⟨.v (.bool (bP (zF p xs))), (by show bP _ = false; exact z5 fun hh => by rw [hh.1] at h; cases h), trivial, rfl⟩
 have h : isP p = true := by simpa using h
 have hp := zfj h;refine ⟨fun h0 => ?_, fun h0 => ?_⟩ <;> conv => whnf
 ·have h0 := of_decide_eq_true h0;refine hK _ (W.condT rfl ?_);clear hK K;refine wrs fun K hK => ?_;conv => whnf
  refine hK _ ?_;clear hK K;refine W.ret ?_;conv => whnf
  exact ⟨.v (.bool (bP (zF p xs))), (by show bP _ = false; exact z5 fun hh => by have := hh.2.1; omega), trivial, rfl⟩
 have h0 := of_decide_eq_false h0;refine zg rfl (zb0 g xs 304 [.box none (.int .i64 p)] (fun i => !(decide (0 <= cf xs i ∧ cf xs i <= p - 1))) (by omega) (fun i hi => zlq _ p _ (by omega))) fun hs' hhs => ?_;try dsimp only at hhs
 conv => whnf
 refine hK _ (W.cond ⟨fun h1 => ?_, fun h1 => ?_⟩) <;> clear hK K
 ·have h1 := zii.1 (zfh.1 h1);refine wrs fun K hK => ?_;conv => whnf
  refine hK _ ?_;clear hK K;refine W.ret ?_;conv => whnf
  exact ⟨.v (.bool (bP (zF p xs))), (by show bP _ = false; exact z5 fun hh => h1 hh.2.2.1), trivial, rfl⟩
 have h1 : zjc 0 (p - 1) xs := Classical.byContradiction fun h' => zlY h1 (zii.2 h');refine W.skip (hK1 _ ?_);clear hK1 K1;refine wrs fun K hK => ?_;conv => whnf
 refine ⟨fun h2 => ?_, fun h2 => ?_⟩ <;> conv => whnf
 ·have h2 := of_decide_eq_true h2;refine hK _ ?_;clear hK K;refine W.ret ?_;conv => whnf
  exact ⟨.v (.bool (bP (zF p xs))), (by show bP _ = true; exact zW ⟨h, by omega, h1, .inl (by omega)⟩), trivial, rfl⟩
 ·have h2 := of_decide_eq_false h2;have e1 : ((xs.length : Int) - 1).toNat = xs.length - 1 := by omega
  refine ⟨oo, ?_⟩;conv => whnf
  refine ⟨oo, ?_⟩;conv => whnf
  rw [e1];refine hK _ ?_;clear hK K;refine W.ret ?_;conv => whnf
  exact ⟨.v (.bool (bP (zF p xs))), (by show decide _ = bP _; by_cases h3 : cf xs (xs.length - 1) = 0; (rw [z5 fun hh => hh.2.2.2.elim (by omega) fun h' => h' h3]; exact decide_eq_false fun h' => h' h3); (rw [zW ⟨h, by omega, h1, .inr h3⟩]; exact decide_eq_true h3)), trivial, rfl⟩

noncomputable def z9 (p : Int) (xs : List Int) : Int := bif bP (zF p xs) then (if xs.length < 2 then 2 else 0) else 1

theorem v9 (g : Option Nat) (p : Int) (xs : List Int) : FnV 198 [.int .i64 p, .ints g xs] (.int .i64 (z9 p xs)) := by
 refine zj (za [0, 1, 4, 5, 10]) Tryz.func198 rfl (by decide) Tryz.ntmps198 (Nat.le_of_ble_eq_true rfl) fun base => ?_;refine wrs fun K hK => ?_;conv => whnf
 refine hK _ ?_;clear hK K;refine W.seqK fun K1 hK1 => W.block ?_;refine wrs fun K hK => ?_;conv => whnf
 refine zg rfl (yW g p xs) fun hs' hhs => ?_;try dsimp only at hhs
 conv => whnf
 refine hK _ (W.cond ⟨fun h => ?_, fun h => ?_⟩) <;> clear hK K
 ·have h : bP (zF p xs) = false := by simpa using h
  refine wrs fun K hK => ?_;conv => whnf
  refine hK _ ?_;clear hK K;refine W.ret ?_;conv => whnf
  exact ⟨.v (.int .i64 (z9 p xs)), ⟨rfl, by unfold z9; rw [h]; rfl⟩, trivial, rfl⟩
 have h : bP (zF p xs) = true := by simpa using h
 have hl := (zfh.1 h).2.1;refine wrs fun K hK => ?_;conv => whnf
 refine zg rfl (zjd g xs (by omega)) fun hs' hhs => ?_;try dsimp only at hhs
 conv => whnf
 refine hK _ (W.cond ⟨fun h1 => ?_, fun h1 => ?_⟩) <;> clear hK K
 ·have h1 := of_decide_eq_true h1;refine wrs fun K hK => ?_;conv => whnf
  refine hK _ ?_;clear hK K;refine W.ret ?_;conv => whnf
  exact ⟨.v (.int .i64 (z9 p xs)), ⟨rfl, by unfold z9; rw [h, if_pos (by omega)]; rfl⟩, trivial, rfl⟩
 have h1 := of_decide_eq_false h1;refine W.skip (hK1 _ ?_);clear hK1 K1;refine wrs fun K hK => ?_;conv => whnf
 refine hK _ ?_;clear hK K;refine W.ret ?_;conv => whnf
 exact ⟨.v (.int .i64 (z9 p xs)), ⟨rfl, by unfold z9; rw [h, if_neg (by omega)]; rfl⟩, trivial, rfl⟩

theorem zes (g : Option Nat) (p : Int) (xs : List Int) (hl : xs.length <= 1000000000) : FnV 184 [.int .i64 p, .ints g xs] (.bool (bP (zF p xs))) := by
 refine zj (za [0, 1, 4, 5, 13, 17, 27]) Tryz.func184 rfl (by decide) Tryz.ntmps184 (Nat.le_of_ble_eq_true rfl) fun base => ?_;refine wrs fun K hK => ?_;conv => whnf
 refine hK _ ?_;clear hK K;refine W.seqK fun K0 hK0 => ?_;refine wrs fun K hK => ?_;conv => whnf
 refine zg rfl (vV p) fun hs' hhs => ?_;try dsimp only at hhs
 conv => whnf
 refine ⟨fun h => ?_, fun h => ?_⟩ <;> conv => whnf
 ·have h : isP p = false := by simpa using h
  refine hK _ (W.condT rfl ?_);clear hK K;refine wrs fun K hK => ?_;conv => whnf
  refine hK _ ?_;clear hK K;refine W.ret ?_;conv => whnf
  exact ⟨.v (.bool (bP (zF p xs))), (by show bP _ = false; exact z5 fun hh => by rw [hh.1] at h; cases h), trivial, rfl⟩
 have h : isP p = true := by simpa using h
 have hp := zfj h;refine hK _ (W.cond ⟨fun h0 => ?_, fun h0 => ?_⟩) <;> clear hK K
 ·have h0 := of_decide_eq_true h0;refine wrs fun K hK => ?_;conv => whnf
  refine hK _ ?_;clear hK K;refine W.ret ?_;conv => whnf
  exact ⟨.v (.bool (bP (zF p xs))), (by show bP _ = false; exact z5 fun hh => by have := hh.2.1; omega), trivial, rfl⟩
 have h0 := of_decide_eq_false h0;refine W.skip (hK0 _ ?_);clear hK0 K0;refine W.seqK fun K1 hK1 => ?_;refine wrs fun K hK => ?_;conv => whnf
 refine hK _ (W.block (W.invA (fun m e => ∃ k : Nat, k <= xs.length ∧ (∀ j, j < k -> 0 <= cf xs j ∧ cf xs j <= p - 1) ∧ m = xs.length - k ∧ e = [(0, .v (.int .i64 p)), (1, .v (.ints g xs)), (5, .v (.int .i64 k))]) ⟨0, Nat.zero_le _, fun j hj => by omega, rfl, rfl⟩ ?_));clear hK K;rintro m e ⟨k, h1, h2, hm, rfl⟩;refine W.seqK fun K7 hK7 => wrs fun K hK => ?_;conv => whnf
 refine hK _ (W.cond ⟨fun h3 => ?_, fun h3 => ?_⟩) <;> clear hK K <;> (first | replace h3 := of_decide_eq_true h3 | replace h3 := of_decide_eq_false h3)
 ·refine W.skip (hK7 _ ?_);clear hK7 K7;refine W.seqK fun K8 hK8 => W.block ?_;refine wrs fun K hK => ?_;conv => whnf
  refine ⟨oo, ?_⟩;conv => whnf
  refine ⟨oo, ?_⟩;conv => whnf
  rw [Int.toNat_natCast];refine zg rfl (zdo _ _ _) fun hs' hhs => ?_;try dsimp only at hhs
  conv => whnf
  refine hK _ (W.cond ⟨fun h4 => ?_, fun h4 => ?_⟩) <;> clear hK K
  ·have h4 : ¬ (0 <= cf xs k ∧ cf xs k <= p - 1) := zlp h4;refine wrs fun K hK => ?_;conv => whnf
   refine hK _ ?_;clear hK K;refine W.ret ?_;conv => whnf
   exact ⟨.v (.bool (bP (zF p xs))), (by show bP _ = false; exact z5 fun hh => h4 (hh.2.2.1 k (by omega))), trivial, rfl⟩
  ·have h4 : 0 <= cf xs k ∧ cf xs k <= p - 1 := zkK h4;refine W.skip (hK8 _ ?_);clear hK8 K8;refine wrg ?_;conv => whnf
   refine ⟨oo, ?_⟩;conv => whnf
   exact zm ⟨k + 1, by omega, fun j hj => by by_cases h9 : j = k; (subst h9; exact h4); exact h2 j (by omega), rfl, rfl⟩
 ·obtain rfl : k = xs.length := by omega
  refine W.exit (hK1 _ ?_);clear hK7 K7 hK1 K1;have h1 : zjc 0 (p - 1) xs := h2;refine wrs fun K hK => ?_;conv => whnf
  refine ⟨fun h2 => ?_, fun h2 => ?_⟩ <;> conv => whnf
  ·have h2 := of_decide_eq_true h2;refine hK _ ?_;clear hK K;refine W.ret ?_;conv => whnf
   exact ⟨.v (.bool (bP (zF p xs))), (by show bP _ = true; exact zW ⟨h, by omega, h1, .inl (by omega)⟩), trivial, rfl⟩
  ·have h2 := of_decide_eq_false h2;have e1 : ((xs.length : Int) - 1).toNat = xs.length - 1 := by omega
   refine ⟨oo, ?_⟩;conv => whnf
   refine ⟨oo, ?_⟩;conv => whnf
   rw [e1];refine hK _ ?_;clear hK K;refine W.ret ?_;conv => whnf
   exact ⟨.v (.bool (bP (zF p xs))), (by show decide _ = bP _; by_cases h3 : cf xs (xs.length - 1) = 0; (rw [z5 fun hh => hh.2.2.2.elim (by omega) fun h' => h' h3]; exact decide_eq_false fun h' => h' h3); (rw [zW ⟨h, by omega, h1, .inr h3⟩]; exact decide_eq_true h3)), trivial, rfl⟩

theorem zdx (g : Option Nat) (p : Int) (xs : List Int) (hl : xs.length <= 1000000000) : FnV 202 [.int .i64 p, .ints g xs] (.int .i64 (z9 p xs)) := by
 refine zj (za [0, 1, 4, 8, 11]) Tryz.func202 rfl (by decide) Tryz.ntmps202 (Nat.le_of_ble_eq_true rfl) fun base => ?_;refine wrs fun K hK => ?_;conv => whnf
 refine hK _ ?_;clear hK K;refine W.seqK fun K1 hK1 => ?_;refine wrs fun K hK => ?_;conv => whnf
 refine zg rfl (zes g p xs hl) fun hs' hhs => ?_;try dsimp only at hhs
 conv => whnf
 refine hK _ (W.cond ⟨fun h => ?_, fun h => ?_⟩) <;> clear hK K
 ·have h : bP (zF p xs) = false := by simpa using h
  refine wrs fun K hK => ?_;conv => whnf
  refine hK _ ?_;clear hK K;refine W.ret ?_;conv => whnf
  exact ⟨.v (.int .i64 (z9 p xs)), ⟨rfl, by unfold z9; rw [h]; rfl⟩, trivial, rfl⟩
 have h : bP (zF p xs) = true := by simpa using h
 refine W.skip (hK1 _ ?_);clear hK1 K1;refine W.seqK fun K1 hK1 => ?_;refine wrs fun K hK => ?_;conv => whnf
 refine hK _ (W.cond ⟨fun h1 => ?_, fun h1 => ?_⟩) <;> clear hK K
 ·have h1 := of_decide_eq_true h1;refine wrs fun K hK => ?_;conv => whnf
  refine hK _ ?_;clear hK K;refine W.ret ?_;conv => whnf
  exact ⟨.v (.int .i64 (z9 p xs)), ⟨rfl, by unfold z9; rw [h, if_pos (by omega)]; rfl⟩, trivial, rfl⟩
 have h1 := of_decide_eq_false h1;refine W.skip (hK1 _ ?_);clear hK1 K1;refine wrs fun K hK => ?_;conv => whnf
 refine hK _ ?_;clear hK K;refine W.ret ?_;conv => whnf
 exact ⟨.v (.int .i64 (z9 p xs)), ⟨rfl, by unfold z9; rw [h, if_neg (by omega)]; rfl⟩, trivial, rfl⟩

theorem zje {p : Int} {xs : List Int} (h : z9 p xs = 0) : zF p xs ∧ 2 <= xs.length := by
 unfold z9 at h
 by_cases h1 : zF p xs
 ·rw [zW h1] at h
  by_cases h2 : xs.length < 2
  ·rw [if_pos h2] at h; cases h
  ·exact ⟨h1, by omega⟩
 ·rw [z5 h1] at h; cases h
theorem zce {p : Int} {xs : List Int} (h : zF p xs) : ∃ hp : p ∈ yj, letI := xw hp; ∃ f : Poly p, f.l = xs := by
 have hp : p ∈ yj := of_decide_eq_true h.1;refine ⟨hp, ?_⟩;letI := xw hp;refine ⟨⟨xs, ⟨fun x hx => ?_, fun n hn => ?_⟩⟩, rfl⟩
 ·obtain ⟨i, hi, rfl⟩ := List.getElem_of_mem hx;have h1 := h.2.2.1 i hi;rw [vB hi] at h1; omega
 ·rcases h.2.2.2 with h0 | h0
  ·omega
  ·rw [hn] at h0; exact h0


theorem zkM {p : Int} [SP p] {f : Poly p} (hf : f ≠ 0) {F : List (Poly p × Nat)} (hF : yg f F) : zff F = bP (Irr f) := by
 by_cases h : Irr f
 ·rw [zW h, hF.unique (zhr h)]; rfl
 ·rw [z5 h]
  match F, hF with
  | [], _ => rfl
  | [(h', 1)], hF => exact absurd (zhq hf hF) h
  | [(h', 0)], _ => rfl
  | [(h', n + 2)], _ =>
   show decide (((n + 2 : Nat) : Int) = 1) = false
   exact decide_eq_false (by omega)
  | _ :: _ :: l, _ =>
   unfold zff;rw [decide_eq_false (by simp only [List.length_cons]; omega)]; rfl

theorem zb1 (p : Int) [SP p] (g : Option Nat) (f : Poly p) (hf : dg f <= 13) (hf0 : f ≠ 0) : FnV 199 [.int .i64 p, .ints g f.l] (.bool (bP (Irr f))) :=
 (zbs p g f hf hf0).mono fun _ _ a ⟨F, hF, h⟩ => by rw [h, zkM hf0 hF]
def zhD (xs : List Int) (q : Int) : Prop := ∃ h : q ∈ yj, cf xs (xs.length - 1) % q ≠ 0 ∧ (letI := xw h; Irr (of q xs))
structure ByOut (xs : List Int) (r c : Int) : Prop where
 bad : zhC xs ≠ 0 -> r = 0 ∧ c = zhC xs
 yes : zhC xs = 0 -> (2 <= r ∧ r <= 97 ∧ c = 0 ∧ zhD xs r ∧ ∀ q, 2 <= q -> q < r -> ¬ zhD xs q) ∨ (r = 0 ∧ c = 4 ∧ ∀ q, 2 <= q -> q <= 97 -> ¬ zhD xs q)

def marks (k : Int) (n : Nat) : List Int := mkL n fun i => k + i
/- fields -/
def szL (n : Nat) : Int := if (1048576 : Int) - n < 0 then -1 else 1048576 - n
theorem zhE (tb : Tab) (b : Nat) {xs : List Int} (h : xs ≠ []) : zlv tb b xs b = some xs := by
 cases xs with
 | nil => exact absurd rfl h
 | cons x l => exact yD ..


def zmo (xs : List Int) : Prop := 0 < xs.length ∧ cf xs (xs.length - 1) = 1

structure IsFld (p : Int) (l : List Int) : Prop where
 mod : zF p l
 mon : zmo l
 two : 2 <= l.length
 ord : p ^ (l.length - 1) <= 20000
 irr : ∃ h : p ∈ yj, letI := xw h; ∃ f : Poly p, f.l = l ∧ Irr f


def zfk (Q : Nat -> Prop) (a b : Nat) : Option Nat -> Prop
 | some m => a <= m ∧ m < b ∧ Q m ∧ ∀ k, a <= k -> k < m -> ¬ Q k
 | none => ∀ k, a <= k -> k < b -> ¬ Q k
theorem zfk.unique {Q : Nat -> Prop} {a b : Nat} {r r' : Option Nat} (h : zfk Q a b r) (h' : zfk Q a b r') : r = r' := by
 cases r with
 | none => cases r' with
  | none => rfl
  | some m => exact absurd h'.2.2.1 (h m h'.1 h'.2.1)
 | some m => cases r' with
  | none => exact absurd h.2.2.1 (h' m h.1 h.2.1)
  | some m' =>
   obtain ⟨h1, h2, h3, h4⟩ := h;obtain ⟨k1, k2, k3, k4⟩ := h';rcases Nat.lt_trichotomy m m' with h5 | h5 | h5
   ·exact absurd h3 (k4 m h1 h5)
   ·rw [h5]
   ·exact absurd k3 (h4 m' k1 h5)

/- fields -/

def two (x y : List Int) (i : Nat) : List Int := if i = 0 then x else y


def RT (l : List Int) (c : Int) : zao := fun _ _ x tb => ∃ b : Nat, x = .tup [.rf b l.length, .int .i64 c] ∧ (l ≠ [] -> tb b = some l)

/- powers -/
def R1 (l : List Int) : zao := fun _ _ x tb => ∃ b : Nat, x = .rf b l.length ∧ (l ≠ [] -> tb b = some l)

/- the program's begin: a field, an element, something more (a value b) -/
/- the reference's: $1 name $2 modulus $3 element $4 $5 their ghosts -/
/- c is not 0 -/
/- what becomes of c = 0 and something not right: code 2 -/





def Prim {p : Int} [SP p] (f X : Poly p) : Prop := zml f X (p.toNat ^ (dg f - 1) - 1)



/- how many are primitive -/


abbrev vLL (L : List (List Int)) : V := .vals none 1 L.length fun j => .ints none (L.getD j [])
abbrev vRF (L : List (List Int)) (bs : Nat -> Nat) : V := .vals none 1 L.length fun j => .rf (bs j) (L.getD j []).length
def RTS (L : List (List Int)) (c : Int) : zao := fun _ _ x tb => ∃ bs : Nat -> Nat, x = .tup [.vals none 1 L.length (fun j => .rf (bs j) (L.getD j []).length), .int .i64 c] ∧
 (∀ j, j < L.length -> L.getD j [] ≠ [] -> tb (bs j) = some (L.getD j [])) ∧ (∀ i j, i < L.length -> j < L.length -> i ≠ j -> L.getD i [] ≠ [] -> L.getD j [] ≠ [] -> bs i ≠ bs j)

/- degrees -/




theorem zdy {n : Nat} {c : Nat -> Int} (hc : Byt n c) : zkA 186 [] n c (fun r => ∃ q : Int, r = .int .i64 q ∧ q ∈ ([1, 4, 0, 97, 101, -3, 9, 2, 3, 5, 7, 11, 13, 17, 31] : List Int)) := by
 rintro b x hx;refine zaB (cx := cxt [] [0, 2, 5, 1000000, 1000001]) (zaj [] [0, 2, 5, 1000000, 1000001]) Tryz.func186 rfl (by decide) Tryz.ntmps186 (Nat.le_of_ble_eq_true rfl) (Nat.le_of_ble_eq_true rfl) rfl rfl fun base hs0 O U hw v0 hb0 => ?_;refine W.sw (c' := cx [0, 2, 5, 1000000, 1000001]) ?_;refine wrs fun K hK => ?_;conv => whnf
 refine hK _ ?_;clear hK K;refine W.seqK fun K1 hK1 => ?_;refine wrs fun K hK => ?_;conv => whnf
 refine ⟨⟨rfl, rfl⟩, ?_⟩;conv => whnf
 refine ⟨rfl, _, (zM hc 24 (by constructor <;> decide) b x hx), ?_⟩;rintro hs_ms1 av x' t' hh_ms1 ⟨rfl, ⟨x1, hx1, rfl⟩, _, rfl, ⟨q, rfl, q0, q1, q2⟩⟩ _ _ _;try dsimp only at hh_ms1
 conv => whnf
 refine hK _ (W.cond ⟨fun h => ?_, fun h => ?_⟩) <;> clear hK K
 ·refine wrs fun K hK => ?_;conv => whnf
  refine ⟨⟨rfl, by decide⟩, ?_⟩;conv => whnf
  intro b_7 hs_7 hh_7 hf_7;try dsimp only at hh_7 hf_7
  conv => whnf
  refine ⟨⟨rfl, rfl⟩, ?_⟩;conv => whnf
  refine ⟨rfl, _, (vj hc none [1, 4, 0, 97, 101, -3, 9] ⟨by decide, by decide⟩ b x1 hx1), ?_⟩;rintro hs_ms2 av x' t' hh_ms2 ⟨rfl, ⟨x2, hx2, rfl⟩, _, rfl, ⟨r, rfl, hr⟩⟩ _ _ _;try dsimp only at hh_ms2
  conv => whnf
  refine hK _ ?_;clear hK K
  have hr2 : r ∈ ([1, 4, 0, 97, 101, -3, 9, 2, 3, 5, 7, 11, 13, 17, 31] : List Int) := by
   simp only [List.mem_cons, List.not_mem_nil, or_false] at hr ⊢
   omega
  refine W.ret ?_;conv => whnf
  refine ⟨by dsimp only; omega, ?_⟩;conv => whnf
  refine ⟨rfl, ?_⟩;conv => whnf
  refine ⟨.int .i64 r, ⟨rfl, rfl⟩, ?_⟩;conv => whnf
  exact ⟨.ownB b (x2), ⟨rfl, rfl⟩, .inr ⟨rfl, rfl⟩, .dead, trivial, rfl, rfl, rfl, ⟨x2, hx2, rfl⟩, _, rfl, ⟨r, rfl, hr2⟩⟩
 refine W.skip (hK1 _ ?_);clear hK1 K1;refine wrs fun K hK => ?_;conv => whnf
 refine ⟨⟨rfl, by decide⟩, ?_⟩;conv => whnf
 intro b_7 hs_7 hh_7 hf_7;try dsimp only at hh_7 hf_7
 conv => whnf
 refine ⟨⟨rfl, rfl⟩, ?_⟩;conv => whnf
 refine ⟨rfl, _, (vj hc none [2, 3, 5, 7, 2, 3, 5, 11, 13, 17, 31] ⟨by decide, by decide⟩ b x1 hx1), ?_⟩;rintro hs_ms2 av x' t' hh_ms2 ⟨rfl, ⟨x2, hx2, rfl⟩, _, rfl, ⟨r, rfl, hr⟩⟩ _ _ _;try dsimp only at hh_ms2
 conv => whnf
 refine hK _ ?_;clear hK K
 have hr2 : r ∈ ([1, 4, 0, 97, 101, -3, 9, 2, 3, 5, 7, 11, 13, 17, 31] : List Int) := by
  simp only [List.mem_cons, List.not_mem_nil, or_false] at hr ⊢
  omega
 refine W.ret ?_;conv => whnf
 refine ⟨by dsimp only; omega, ?_⟩;conv => whnf
 refine ⟨rfl, ?_⟩;conv => whnf
 refine ⟨.int .i64 r, ⟨rfl, rfl⟩, ?_⟩;conv => whnf
 exact ⟨.ownB b (x2), ⟨rfl, rfl⟩, .inr ⟨rfl, rfl⟩, .dead, trivial, rfl, rfl, rfl, ⟨x2, hx2, rfl⟩, _, rfl, ⟨r, rfl, hr2⟩⟩

def zlZ (p : Int) (d : Nat) (L : List Int) : Prop := 1 <= L.length ∧ L.length <= d + 1 ∧ (∀ j, 0 <= cf L j ∧ cf L j < p) ∧ cf L (L.length - 1) ≠ 0



theorem kw {n : Nat} {c : Nat -> Int} (hc : Byt n c) : zkA 223 [] n c (fun r => ∃ q : Int, r = .int .i64 q ∧ q ∈ ([1, 4, 0, 97, 101, -3, 9, 2, 3, 5, 7, 11, 13, 17, 31] : List Int)) := by
 rintro b x hx;refine zaB (cx := cxt [] [0, 2, 5, 1000000, 1000001]) (zaj [] [0, 2, 5, 1000000, 1000001]) Tryz.func223 rfl (by decide) Tryz.ntmps223 (Nat.le_of_ble_eq_true rfl) (Nat.le_of_ble_eq_true rfl) rfl rfl fun base hs0 O U hw v0 hb0 => ?_;refine W.sw (c' := cx [0, 2, 5, 1000000, 1000001]) ?_;refine wrs fun K hK => ?_;conv => whnf
 refine hK _ ?_;clear hK K;refine W.seqK fun K1 hK1 => ?_;refine wrs fun K hK => ?_;conv => whnf
 refine ⟨⟨rfl, rfl⟩, ?_⟩;conv => whnf
 refine ⟨rfl, _, (zM hc 30 (by constructor <;> decide) b x hx), ?_⟩;rintro hs_ms1 av x' t' hh_ms1 ⟨rfl, ⟨x1, hx1, rfl⟩, _, rfl, ⟨q, rfl, q0, q1, q2⟩⟩ _ _ _;try dsimp only at hh_ms1
 conv => whnf
 refine hK _ (W.cond ⟨fun h => ?_, fun h => ?_⟩) <;> clear hK K
 ·refine wrs fun K hK => ?_;conv => whnf
  refine ⟨⟨rfl, rfl⟩, ?_⟩;conv => whnf
  refine ⟨rfl, _, (zdy hc b x1 hx1), ?_⟩;rintro hs_ms2 av x' t' hh_ms2 ⟨rfl, ⟨x2, hx2, rfl⟩, _, rfl, ⟨r, rfl, hr⟩⟩ _ _ _;try dsimp only at hh_ms2
  conv => whnf
  refine hK _ ?_;clear hK K;refine W.ret ?_;conv => whnf
  refine ⟨by dsimp only; omega, ?_⟩;conv => whnf
  refine ⟨rfl, ?_⟩;conv => whnf
  refine ⟨.int .i64 r, ⟨rfl, rfl⟩, ?_⟩;conv => whnf
  exact ⟨.ownB b (x2), ⟨rfl, rfl⟩, .inr ⟨rfl, rfl⟩, .dead, trivial, rfl, rfl, rfl, ⟨x2, hx2, rfl⟩, _, rfl, ⟨r, rfl, hr⟩⟩
 refine W.skip (hK1 _ ?_);clear hK1 K1;refine wrs fun K hK => ?_;conv => whnf
 refine ⟨⟨rfl, by decide⟩, ?_⟩;conv => whnf
 intro b_7 hs_7 hh_7 hf_7;try dsimp only at hh_7 hf_7
 conv => whnf
 refine ⟨⟨rfl, rfl⟩, ?_⟩;conv => whnf
 refine ⟨rfl, _, (vj hc none [2, 3, 5, 7, 2, 3, 13] ⟨by decide, by decide⟩ b x1 hx1), ?_⟩;rintro hs_ms2 av x' t' hh_ms2 ⟨rfl, ⟨x2, hx2, rfl⟩, _, rfl, ⟨r, rfl, hr⟩⟩ _ _ _;try dsimp only at hh_ms2
 conv => whnf
 refine hK _ ?_;clear hK K
 have hr2 : r ∈ ([1, 4, 0, 97, 101, -3, 9, 2, 3, 5, 7, 11, 13, 17, 31] : List Int) := by
  simp only [List.mem_cons, List.not_mem_nil, or_false] at hr ⊢
  omega
 refine W.ret ?_;conv => whnf
 refine ⟨by dsimp only; omega, ?_⟩;conv => whnf
 refine ⟨rfl, ?_⟩;conv => whnf
 refine ⟨.int .i64 r, ⟨rfl, rfl⟩, ?_⟩;conv => whnf
 exact ⟨.ownB b (x2), ⟨rfl, rfl⟩, .inr ⟨rfl, rfl⟩, .dead, trivial, rfl, rfl, rfl, ⟨x2, hx2, rfl⟩, _, rfl, ⟨r, rfl, hr2⟩⟩


def zmp (f : Nat) (xs : List V) (n : Nat) (c : Nat -> Int) (Q : List Int -> Prop) : Prop :=
 ∀ (b : Nat) (x : V), kR n c x -> MFn Tryz.prog f (.nil :: xs) 0 (.ownB b x) .dead (fun _ av x' t' => t' = .dead ∧ (∃ x1, kR n c x1 ∧ x' = .ownB b x1) ∧ ∃ bo L, av = .ownI 2 bo L ∧ Q L)

theorem W.invS {P : Program} {c : Cx} {N base : Nat} {x : Code} {QQ : Exit -> S -> Prop} {s : S} (I : Nat -> Env -> Nat -> Prop) (m0 : Nat) (e0 : Env) (h0 : Nat) (hi : I m0 e0 h0) (hb : ∀ m e h, I m e h -> base <= h) (hh : h0 <= s.hs) (hc : zy s.env e0)
  (round : ∀ m e h, I m e h -> W P c N base x (Ex (fun s' => ∃ m' e' h', I m' e' h' ∧ m' < m ∧ h' <= s'.hs ∧ zy s'.env e') QQ) ⟨e, h⟩) : W P c N base (.loop x) QQ s :=
 W.inv (fun m s => I m s.env s.hs) m0 ⟨e0, h0⟩ hi ⟨hh, hc⟩ (fun m s h => hb _ _ _ h) fun m s h => by
  obtain ⟨e, hs⟩ := s;refine (round m e hs h).mono fun ex s' hq => ?_;cases ex with
  | normal => obtain ⟨m', e', h', h1, h2, h3, h4⟩ := hq; exact ⟨m', ⟨e', h'⟩, h1, h2, h3, h4⟩
  | _ => exact hq


theorem jM {n : Nat} {c : Nat -> Int} (hc : Byt n c) (p : Int) (hp : 2 <= p ∧ p <= 1000) (d : Nat) (hd : d <= 100) : zmp 190 [.int .i64 p, .int .i64 d] n c (fun L => zlZ p d L) := by
 rintro b x hx;refine zcS (cx := cx [0, 1, 2, 6, 7, 8, 15, 1000000, 1000001]) Tryz.func190 rfl (by decide) Tryz.ntmps190 (Nat.le_of_ble_eq_true rfl) (Nat.le_of_ble_eq_true rfl) rfl rfl fun base hs0 O U hw v0 hb0 => ?_;refine wrs fun K hK => ?_;conv => whnf
 refine hK _ ?_;clear hK K;refine wrs fun K hK => ?_;conv => whnf
 refine ⟨⟨rfl, by decide⟩, ?_⟩;conv => whnf
 intro b_7 hs_7 hh_7 hf_7;try dsimp only at hh_7 hf_7
 conv => whnf
 refine hK _ ?_;clear hK K;refine W.seqK fun K1 hK1 => wrs fun K hK => ?_;conv => whnf
 refine ⟨oo, ?_⟩;conv => whnf
 refine ⟨⟨rfl, rfl⟩, ?_⟩;conv => whnf
 refine ⟨rfl, _, (zM hc ((d : Int) + 1) (by constructor <;> omega) b x hx), ?_⟩;rintro hs_ms1 av x' t' hh_ms1 ⟨rfl, ⟨x1, hx1, rfl⟩, _, rfl, ⟨q, rfl, q0, q1, q2⟩⟩ _ _ _;try dsimp only at hh_ms1
 conv => whnf
 have hq : q <= d := by
  by_cases h : d = 0
  ·have := q2 (by omega); omega
  ·have := q1 (by omega); omega
 refine hK _ (W.block (W.invS (fun m e hs => hs0 <= hs ∧ ∃ (k bo : Nat) (y : V) (L : List Int), k <= d ∧ kR n c y ∧ L.length + k <= d ∧ (∀ j, 0 <= cf L j ∧ cf L j < p) ∧ (hs0 <= bo ∧ bo < hs) ∧ m = k ∧ e = [(vt, .dead), (vk, .keep O U hw 0 v0), (0, .ownB b y), (1, .v (.int .i64 p)), (2, .v (.int .i64 d)), (7, .ownI 2 bo L), (8, .v (.int .i64 k))]) _ _ hs_7
  ⟨by omega, q.toNat, b_7, x1, [], by omega, hx1, by simp; omega, fun j => by rw [yJ]; omega, (by have := hf_7 (by decide); omega), rfl, by rw [Int.toNat_of_nonneg q0]⟩ (fun m e hs h => Nat.le_trans hb0 h.1) (by dsimp only; omega) (by repeat' first | refine And.intro ?_ ?_ | exact trivial | rfl | omega | exact .inl rfl | assumption) ?_))
 clear hK K;rintro m e hs ⟨hsl, k, bo, y, L, h1, hy, h2, h3, hbo, hm, rfl⟩;refine W.seqK fun K7 hK7 => wrs fun K hK => ?_;conv => whnf
 refine hK _ (W.cond ⟨fun h5 => ?_, fun h5 => ?_⟩) <;> clear hK K <;> (first | replace h5 := of_decide_eq_true h5 | replace h5 := of_decide_eq_false h5)
 ·have hk : 1 <= k := by omega
  refine W.skip (hK7 _ (W.seqK fun K8 hK8 => W.block ?_));clear hK7 K7;refine wrg ?_;conv => whnf
  refine ⟨⟨rfl, rfl⟩, ?_⟩;conv => whnf
  refine ⟨rfl, _, (zM hc p (by constructor <;> omega) b y hy), ?_⟩;rintro hs_ms2 av x' t' hh_ms2 ⟨rfl, ⟨x2, hx2, rfl⟩, _, rfl, ⟨r1, rfl, r10, r11, _⟩⟩ _ _ _;try dsimp only at hh_ms2
  conv => whnf
  refine ⟨⟨rfl, rfl⟩, ?_⟩;conv => whnf
  refine ⟨rfl, _, (zM hc p (by constructor <;> omega) b x2 hx2), ?_⟩;rintro hs_ms3 av x' t' hh_ms3 ⟨rfl, ⟨x3, hx3, rfl⟩, _, rfl, ⟨r2, rfl, r20, r21, _⟩⟩ _ _ _;try dsimp only at hh_ms3
  conv => whnf
  have h11 := r11 (by omega);have h21 := r21 (by omega);refine ⟨⟨rfl, by decide⟩, ?_⟩;conv => whnf
  intro b_1 hs_1 hh_1 hf_1;try dsimp only at hh_1 hf_1
  conv => whnf
  refine ⟨⟨rfl, rfl⟩, ?_⟩;conv => whnf
  refine ⟨rfl, _, (vj hc none [r1, 0, r2] ⟨(by show 1 <= 3; omega), (by show 3 <= 1000; omega)⟩ b x3 hx3), ?_⟩;rintro hs_ms4 av x' t' hh_ms4 ⟨rfl, ⟨x4, hx4, rfl⟩, _, rfl, ⟨r, rfl, hr⟩⟩ _ _ _;try dsimp only at hh_ms4
  conv => whnf
  have hr : 0 <= r ∧ r < p := by
   simp only [List.mem_cons, List.not_mem_nil, or_false] at hr
   omega
  refine ⟨⟨rfl, by decide⟩, ?_⟩;conv => whnf
  intro b_2 hs_2 hh_2 hf_2;try dsimp only at hh_2 hf_2
  conv => whnf
  refine ⟨by simp; omega, ?_⟩;conv => whnf
  intro b_3 hs_3 hh_3 hf_3;try dsimp only at hh_3 hf_3
  conv => whnf
  refine hK8 _ ?_;clear hK8 K8;refine wrg ?_;conv => whnf
  refine ⟨oo, ?_⟩;conv => whnf
  have hL : ∀ j, 0 <= cf (L ++ [r]) j ∧ cf (L ++ [r]) j < p := fun j => by
   unfold cf;rw [List.getD_eq_getElem?_getD];rcases Nat.lt_trichotomy j L.length with hj | hj | hj
   ·rw [List.getElem?_append_left hj, <- List.getD_eq_getElem?_getD]; exact h3 j
   ·rw [List.getElem?_append_right (by omega), hj, Nat.sub_self]; exact hr
   ·rw [List.getElem?_eq_none (by simp; omega)]; show (0 : Int) <= 0 ∧ (0 : Int) < p; omega
  rw [show ((k : Int) - 1) = ((k - 1 : Nat) : Int) by omega];refine ⟨_, _, hs_3, ⟨by omega, k - 1, b_3, x4, L ++ [r], by omega, hx4, by simp; omega, hL, ?_, rfl, rfl⟩, by omega, by dsimp only; omega, ?_⟩
  ·rcases hf_3 (by simp) with h | h
   ·injection h with h
    omega
   ·omega
  ·exact cvr
 ·obtain rfl : k = 0 := by omega
  refine W.exit (hK1 _ ?_);clear hK7 K7 hK1 K1;refine wrs fun K hK => ?_;conv => whnf
  refine ⟨oo, ?_⟩;conv => whnf
  refine ⟨⟨rfl, rfl⟩, ?_⟩;conv => whnf
  refine ⟨rfl, _, (zM hc (p - 1) (by constructor <;> omega) b y hy), ?_⟩;rintro hs_ms2 av x' t' hh_ms2 ⟨rfl, ⟨x2, hx2, rfl⟩, _, rfl, ⟨r1, rfl, r10, r11, r12⟩⟩ _ _ _;try dsimp only at hh_ms2
  conv => whnf
  refine ⟨⟨rfl, rfl⟩, ?_⟩;conv => whnf
  refine ⟨rfl, _, (zM hc 2 (by constructor <;> decide) b x2 hx2), ?_⟩;rintro hs_ms3 av x' t' hh_ms3 ⟨rfl, ⟨x3, hx3, rfl⟩, _, rfl, ⟨r2, rfl, r20, r21, _⟩⟩ _ _ _;try dsimp only at hh_ms3
  conv => whnf
  have h11 : r1 <= p - 2 := by
   by_cases h : 1 < p - 1
   ·have := r11 h; omega
   ·have := r12 (by omega); omega
  have h21 := r21 (by omega)
  have hmul : 0 <= r1 * r2 ∧ r1 * r2 <= p - 2 := by
   have : r2 = 0 ∨ r2 = 1 := by omega
   rcases this with rfl | rfl <;> simp <;> omega
  refine ⟨by show _ <= r1 * r2 ∧ r1 * r2 <= _; omega, ?_⟩;conv => whnf
  refine ⟨by show _ <= 1 + r1 * r2 ∧ 1 + r1 * r2 <= _; omega, ?_⟩;conv => whnf
  refine ⟨⟨rfl, by decide⟩, ?_⟩;conv => whnf
  intro b_1 hs_1 hh_1 hf_1;try dsimp only at hh_1 hf_1
  conv => whnf
  refine ⟨by simp; omega, ?_⟩;conv => whnf
  intro b_2 hs_2 hh_2 hf_2;try dsimp only at hh_2 hf_2
  conv => whnf
  refine hK _ ?_;clear hK K
  have hL : zlZ p d (L ++ [1 + r1 * r2]) := by
   have hlen : (L ++ [1 + r1 * r2]).length = L.length + 1 := by simp
   refine ⟨by omega, by omega, fun j => ?_, ?_⟩
   ·unfold cf;rw [List.getD_eq_getElem?_getD];rcases Nat.lt_trichotomy j L.length with hj | hj | hj
    ·rw [List.getElem?_append_left hj, <- List.getD_eq_getElem?_getD]; exact h3 j
    ·rw [List.getElem?_append_right (by omega), hj, Nat.sub_self]; show (0 : Int) <= 1 + r1 * r2 ∧ 1 + r1 * r2 < p; omega
    ·rw [List.getElem?_eq_none (by omega)]; show (0 : Int) <= 0 ∧ (0 : Int) < p; omega
   ·rw [hlen];unfold cf;rw [List.getD_eq_getElem?_getD, List.getElem?_append_right (by omega), show L.length + 1 - 1 - L.length = 0 by omega];show (1 + r1 * r2 : Int) ≠ 0
    omega
  refine W.ret ?_;conv => whnf
  refine ⟨by dsimp only; omega, ?_⟩;conv => whnf
  refine ⟨rfl, ?_⟩;conv => whnf
  refine ⟨.ownI 2 b_2 (L ++ [1 + r1 * r2]), ⟨rfl, rfl, rfl⟩, rfl, fun _ => ?_, ?_⟩
  ·rcases hf_2 (by simp) with h | h
   ·injection h with h
    dsimp only
    omega
   ·dsimp only
    omega
  conv => whnf
  exact ⟨.ownB b x3, ⟨rfl, rfl⟩, .inr ⟨rfl, rfl⟩, .dead, trivial, rfl, rfl, rfl, ⟨x3, hx3, rfl⟩, _, _, rfl, hL⟩

theorem zgG {p : Int} {d : Nat} {L : List Int} (hp : isP p = true) (hd : d <= 8) (h : zlZ p d L) : zF p L :=
 ⟨hp, by have := h.2.1; omega, fun j _ => by have := h.2.2.1 j; omega, .inr h.2.2.2⟩

theorem zet {n : Nat} {c : Nat -> Int} (hc : Byt n c) (p : Int) (_hp : inR p) : zkA 220 [.int .i64 p] n c (fun r => ∃ L, r = .ints none L ∧ L.length <= 20) := by
 rintro b x hx;refine zaB (cx := cxt [] [0, 1, 4, 5, 8, 14, 15, 24, 27, 32, 1000000, 1000001]) (zaj [] [0, 1, 4, 5, 8, 14, 15, 24, 27, 32, 1000000, 1000001]) Tryz.func220 rfl (by decide) Tryz.ntmps220 (Nat.le_of_ble_eq_true rfl) (Nat.le_of_ble_eq_true rfl) rfl rfl fun base hs0 O U hw v0 hb0 => ?_;refine W.sw (c' := cx [0, 1, 4, 5, 8, 14, 15, 24, 27, 32, 1000000, 1000001]) ?_;refine wrs fun K hK => ?_;conv => whnf
 refine hK _ ?_;clear hK K;refine W.seqK fun K1 hK1 => ?_;refine wrs fun K hK => ?_;conv => whnf
 refine zg rfl (vV p) fun hs' hhs => ?_;try dsimp only at hhs
 conv => whnf
 refine hK _ (W.cond ⟨fun h => ?_, fun h => ?_⟩) <;> clear hK K
 ·refine wrs fun K hK => ?_;conv => whnf
  refine ⟨⟨rfl, by decide⟩, ?_⟩;conv => whnf
  intro b_4 hs_4 hh_4 hf_4;try dsimp only at hh_4 hf_4
  conv => whnf
  refine hK _ ?_;clear hK K;refine W.ret ?_;conv => whnf
  refine ⟨by dsimp only; omega, ?_⟩;conv => whnf
  refine ⟨rfl, ?_⟩;conv => whnf
  refine ⟨.ints none [1, 1], ⟨.inl rfl, rfl⟩, ?_⟩;conv => whnf
  exact ⟨.ownB b (x), ⟨rfl, rfl⟩, .inr ⟨rfl, rfl⟩, .dead, trivial, rfl, rfl, rfl, ⟨x, hx, rfl⟩, _, rfl, ⟨_, rfl, by decide⟩⟩
 have hP : isP p = true := by simpa using h
 have hp2 := zfj hP;refine W.skip (hK1 _ ?_);clear hK1 K1;refine wrs fun K hK => ?_;conv => whnf
 refine ⟨⟨rfl, rfl⟩, ?_⟩;conv => whnf
 refine ⟨rfl, _, (jM hc p (by omega) 4 (by omega) b x hx), ?_⟩;rintro hs_ms1 av x' t' hh_ms1 ⟨rfl, ⟨x1, hx1, rfl⟩, bo1, L1, rfl, hL1⟩ _ _ hf_ms1
 replace hf_ms1 := hf_ms1 (by simp)
 try dsimp only at hh_ms1
 conv => whnf
 refine hK _ ?_;clear hK K;have hl1 := hL1.2.1;refine W.seqK fun K1 hK1 => ?_;refine wrs fun K hK => ?_;conv => whnf
 refine ⟨⟨rfl, rfl⟩, ?_⟩;conv => whnf
 refine ⟨rfl, _, (zM hc 24 (by constructor <;> decide) b x1 hx1), ?_⟩;rintro hs_ms2 av x' t' hh_ms2 ⟨rfl, ⟨x2, hx2, rfl⟩, _, rfl, ⟨q, rfl, q0, q1, _⟩⟩ _ _ _;try dsimp only at hh_ms2
 conv => whnf
 refine hK _ (W.block ?_);clear hK K
 have fin : ∀ (bo : Nat) (L : List Int) (x2 : V) (t : S), L.length <= 20 -> kR n c x2 -> hs0 <= t.hs -> zy t.env [(vt, .dead), (vk, .keep O U hw 0 v0), (0, .ownB b x2), (5, .ownI 2 bo L)] -> K1 t := by
  intro bo L x2 t hL hx2 h9 h10;refine hK1 _ (W.weak (t := ⟨[(vt, .dead), (vk, .keep O U hw 0 v0), (0, .ownB b x2), (5, .ownI 2 bo L)], hs0⟩) ⟨h9, h10⟩ hb0 ?_);clear hK1 K1;refine wrs fun K hK => ?_;conv => whnf
  refine hK _ ?_;clear hK K;refine W.ret ?_;conv => whnf
  refine ⟨by dsimp only; omega, ?_⟩;conv => whnf
  refine ⟨rfl, ?_⟩;conv => whnf
  refine ⟨.ints none L, ⟨rfl, rfl⟩, ?_⟩;conv => whnf
  exact ⟨.ownB b (x2), ⟨rfl, rfl⟩, .inr ⟨rfl, rfl⟩, .dead, trivial, rfl, rfl, rfl, ⟨x2, hx2, rfl⟩, _, rfl, ⟨_, rfl, hL⟩⟩
 refine wrs fun K hK => ?_;conv => whnf
 refine hK _ (W.cond ⟨fun h => ?_, fun h => ?_⟩) <;> clear hK K
 ·refine wrg ?_;conv => whnf
  refine ⟨⟨rfl, by decide⟩, ?_⟩;conv => whnf
  intro b_6 hs_6 hh_6 hf_6;try dsimp only at hh_6 hf_6
  conv => whnf
  refine ⟨⟨rfl, rfl⟩, ?_⟩;conv => whnf
  refine ⟨rfl, _, (vj hc none [0, p, -1] ⟨(by show 1 <= 3; omega), (by show 3 <= 1000; omega)⟩ b x2 hx2), ?_⟩;rintro hs_ms3 av x' t' hh_ms3 ⟨rfl, ⟨x3, hx3, rfl⟩, _, rfl, ⟨r, rfl, hr⟩⟩ _ _ _;try dsimp only at hh_ms3
  conv => whnf
  refine ⟨⟨rfl, by decide⟩, ?_⟩;conv => whnf
  intro b_7 hs_7 hh_7 hf_7;try dsimp only at hh_7 hf_7
  conv => whnf
  refine ⟨by simp; omega, ?_⟩;conv => whnf
  intro b_8 hs_8 hh_8 hf_8;try dsimp only at hh_8 hf_8
  conv => whnf
  refine fin b_8 (L1 ++ [r]) x3 _ (by simp; omega) hx3 (by dsimp only; omega) ?_;exact cvr
 refine wrs fun K hK => ?_;conv => whnf
 refine hK _ (W.cond ⟨fun h1 => ?_, fun h1 => ?_⟩) <;> clear hK K
 ·refine wrs fun K hK => ?_;conv => whnf
  refine ⟨⟨rfl, by decide⟩, ?_⟩;conv => whnf
  intro b_4 hs_4 hh_4 hf_4;try dsimp only at hh_4 hf_4
  conv => whnf
  refine hK _ ?_;clear hK K;refine W.ret ?_;conv => whnf
  refine ⟨by dsimp only; omega, ?_⟩;conv => whnf
  refine ⟨rfl, ?_⟩;conv => whnf
  refine ⟨.ints none [], ⟨.inl rfl, rfl⟩, ?_⟩;conv => whnf
  exact ⟨.ownB b (x2), ⟨rfl, rfl⟩, .inr ⟨rfl, rfl⟩, .dead, trivial, rfl, rfl, rfl, ⟨x2, hx2, rfl⟩, _, rfl, ⟨_, rfl, by decide⟩⟩
 refine wrs fun K hK => ?_;conv => whnf
 refine hK _ (W.cond ⟨fun h2 => ?_, fun h2 => ?_⟩) <;> clear hK K
 ·refine wrs fun K hK => ?_;conv => whnf
  refine ⟨⟨rfl, rfl⟩, ?_⟩;conv => whnf
  refine ⟨rfl, _, (jM hc p (by omega) 8 (by omega) b x2 hx2), ?_⟩;rintro hs_ms3 av x' t' hh_ms3 ⟨rfl, ⟨x3, hx3, rfl⟩, bo3, L3, rfl, hL3⟩ _ _ hf_ms3
  replace hf_ms3 := hf_ms3 (by simp)
  try dsimp only at hh_ms3
  conv => whnf
  refine hK _ ?_;clear hK K;refine W.ret ?_;conv => whnf
  refine ⟨by dsimp only; omega, ?_⟩;conv => whnf
  refine ⟨rfl, ?_⟩;conv => whnf
  refine ⟨.ints none L3, ⟨.inl rfl, rfl⟩, ?_⟩;conv => whnf
  exact ⟨.ownB b (x3), ⟨rfl, rfl⟩, .inr ⟨rfl, rfl⟩, .dead, trivial, rfl, rfl, rfl, ⟨x3, hx3, rfl⟩, _, rfl, ⟨_, rfl, by have := hL3.2.1; omega⟩⟩
 refine wrs fun K hK => ?_;conv => whnf
 refine hK _ (W.cond ⟨fun h3 => ?_, fun h3 => ?_⟩) <;> clear hK K
 ·refine wrs fun K hK => ?_;conv => whnf
  refine ⟨⟨rfl, rfl⟩, ?_⟩;conv => whnf
  refine ⟨rfl, _, (jM hc p (by omega) 2 (by omega) b x2 hx2), ?_⟩;rintro hs_ms3 av x' t' hh_ms3 ⟨rfl, ⟨x3, hx3, rfl⟩, bo3, L3, rfl, hL3⟩ _ _ hf_ms3
  replace hf_ms3 := hf_ms3 (by simp)
  try dsimp only at hh_ms3
  conv => whnf
  refine hK _ ?_;clear hK K;obtain ⟨hpr, f, hf⟩ := zce (zgG hP (by omega) hL3);letI := xw hpr;have hfl : dg f <= 3 := by show f.l.length <= 3; rw [hf]; exact hL3.2.1
  rw [<- hf];refine wrs fun K hK => ?_;conv => whnf
  refine zB rfl (yp p _ _ f f (by omega) (by omega)) fun hs_9 b_9 hh_9 hf_9 => ?_;try dsimp only at hh_9 hf_9
  conv => whnf
  refine hK _ ?_;clear hK K;refine W.ret ?_;conv => whnf
  refine ⟨by dsimp only; omega, ?_⟩;conv => whnf
  refine ⟨rfl, ?_⟩;conv => whnf
  refine ⟨.ints none (f * f).l, ⟨.inl rfl, rfl⟩, ?_⟩;conv => whnf
  exact ⟨.ownB b (x3), ⟨rfl, rfl⟩, .inr ⟨rfl, rfl⟩, .dead, trivial, rfl, rfl, rfl, ⟨x3, hx3, rfl⟩, _, rfl, ⟨_, rfl, by have := yy f f; show dg (f * f) <= 20; omega⟩⟩
 refine W.skip (fin bo1 L1 x2 _ (by omega) hx2 (by dsimp only; omega) ?_);exact cvr



theorem RT.toV {f : Nat} {xs : List V} {l : List Int} {c : Int} (h : FnT Tryz.prog f xs (RT l c)) : FnV f xs (.tup [.ints none l, .int .i64 c]) :=
 FnT.toV h fun _ _ x tb hx => by
  obtain ⟨b, rfl, hb⟩ := hx;refine ⟨_, rfl, rfl, fun j hj => ?_⟩
  match j, hj with
  | 0, _ => exact ⟨l, rfl, hb, rfl⟩
  | 1, _ => rfl

def vG (x : List Int × Int) : V := .agg [.ints none x.1, .int .i64 x.2]
def gd (F : List (List Int × Int)) (j : Nat) : List Int × Int := F.getD j ([], 0)
def vGs (F : List (List Int × Int)) : V := .vals none 2 F.length fun j => vG (gd F j)
noncomputable def zbu (p : Int) (x : List Int × Int) : Bool := if bP (zF p x.1) = true then !decide (1 <= x.2 ∧ x.2 <= 8) else true
theorem zaW {p : Int} {x : List Int × Int} (h : zbu p x = false) : zF p x.1 ∧ 1 <= x.2 ∧ x.2 <= 8 := by
 unfold zbu at h
 by_cases hm : zF p x.1
 ·rw [if_pos (zW hm)] at h;exact ⟨hm, of_decide_eq_true (by simpa using h)⟩
 ·rw [z5 hm, if_neg (by simp)] at h; cases h
def toG {p : Int} [SP p] (x : Poly p × Nat) : List Int × Int := (x.1.l, x.2)
theorem zam {p : Int} [SP p] (F : List (Poly p × Nat)) (j : Nat) : gd (F.map toG) j = toG (F.getD j (0, 0)) := by
 unfold gd;rw [List.getD_eq_getElem?_getD, List.getD_eq_getElem?_getD, List.getElem?_map];cases F[j]? with
 | none => simp only [Option.map_none, Option.getD_none, toG, kn]; rfl
 | some x => rfl
theorem zaX {p : Int} [SP p] (F : List (Poly p × Nat)) : vFs F = vGs (F.map toG) := by
 unfold vFs vGs;rw [List.length_map]
 congr 1
 funext j
 rw [zam]; rfl

theorem zl0 (p : Int) (x : List Int × Int) (g1 : Option Nat) : FnV 224 [.agg [.ints none x.1, .int .i64 x.2], .box g1 (.int .i64 p)] (.bool (zbu p x)) := by
 have hb : zbu p x = if bP (zF p x.1) = true then !decide (1 <= x.2 ∧ x.2 <= 8) else true := rfl
 generalize zbu p x = r at hb;refine zj (za [0, 1, 2, 3]) Tryz.func224 rfl (by decide) Tryz.ntmps224 (Nat.le_of_ble_eq_true rfl) fun base => ?_;refine wrs fun K hK => ?_;conv => whnf
 refine ⟨rfl, ?_⟩;conv => whnf
 intro b_2 hs_2 hh_2 hf_2;try dsimp only at hh_2 hf_2
 conv => whnf
 refine hK _ ?_;clear hK K;refine wrs fun K hK => ?_;conv => whnf
 refine zg rfl (yW none p x.1) fun hs' hhs => ?_;try dsimp only at hhs
 conv => whnf
 refine ⟨fun h => ?_, fun h => ?_⟩
 ·conv => whnf
  refine hK _ ?_;clear hK K;refine W.ret ?_;conv => whnf
  exact ⟨.v (.bool r), (by subst hb; cases hm : bP (zF p x.1); (rw [if_neg (by simp)]; rfl); (rw [hm] at h; cases h)), trivial, rfl⟩
 ·conv => whnf
  refine zg rfl (kJ _ _ _) fun hs' hhs => ?_;try dsimp only at hhs
  conv => whnf
  refine hK _ ?_;clear hK K;refine W.ret ?_;conv => whnf
  exact ⟨.v (.bool r), (by subst hb; cases hm : bP (zF p x.1); (rw [hm] at h; cases h); (rw [if_pos rfl]; rfl)), trivial, rfl⟩
theorem zl1 (x : List Int × Int) : FnV 227 [.agg [.ints none x.1, .int .i64 x.2]] (.bool (decide ((x.1.length : Int) = 0))) := by
 refine zj (za [0, 1, 2]) Tryz.func227 rfl (by decide) Tryz.ntmps227 (Nat.le_of_ble_eq_true rfl) fun base => ?_;refine wrs fun K hK => ?_;conv => whnf
 refine ⟨rfl, ?_⟩;conv => whnf
 intro b_1 hs_1 hh_1 hf_1;try dsimp only at hh_1 hf_1
 conv => whnf
 refine hK _ ?_;clear hK K;refine wrs fun K hK => ?_;conv => whnf
 refine hK _ ?_;clear hK K;refine W.ret ?_;conv => whnf
 exact ⟨.v (.bool (decide ((x.1.length : Int) = 0))), rfl, trivial, rfl⟩

theorem zdN (n : Nat) (xs : Nat -> V) (f : Nat) (caps : List V) (q : Nat -> Bool) (hl : n <= 100000000) (hc : ∀ i, i < n -> ∃ l e, xs i = .agg [.ints none l, .int .i64 e]) (hf : ∀ i, i < n -> FnV f ([xs i] ++ caps) (.bool (q i))) :
  Fn Tryz.prog 334 [.vals none 2 n xs, .func f caps] (fun _ _ z => ∃ r : Int, z = .v (.int .i64 r) ∧ (0 <= r ↔ ∃ i, i < n ∧ q i = true)) := by
 refine zj (za [0, 1, 4, 5, 7, 8, 9, 16]) Tryz.func334 rfl (by decide) Tryz.ntmps334 (Nat.le_of_ble_eq_true rfl) fun base => ?_;refine wrs fun K hK => ?_;conv => whnf
 refine hK _ ?_;clear hK K;refine W.seqK fun K1 hK1 => wrs fun K hK => ?_;conv => whnf
 refine hK _ (W.block (W.invA (fun m e => ∃ i : Nat, i <= n ∧ (∀ j, j < i -> q j = false) ∧ m = n - i ∧ e = [(0, .v (.vals none 2 n xs)), (1, .v (.func f caps)), (7, .v (.int .i64 n)), (8, .v (.int .i64 i))]) ⟨0, Nat.zero_le _, fun j hj => by omega, rfl, rfl⟩ ?_));clear hK K;rintro m e ⟨i, h1, h2, hm, rfl⟩;refine wrs fun K hK => ?_;conv => whnf
 refine hK _ ?_;clear hK K;refine W.seqK fun K7 hK7 => W.cond ⟨fun h => ?_, fun h => ?_⟩ <;> (first | replace h := of_decide_eq_true h | replace h := of_decide_eq_false h)
 ·have hi : i < n := by omega
  have hfi := hf i hi;obtain ⟨gi, l, hx⟩ := hc i hi;rw [hx] at hfi;refine W.skip (hK7 _ ?_);clear hK7 K7;refine W.seqK fun K8 hK8 => W.block ?_;refine wrs fun K hK => ?_;conv => whnf
  refine hK _ ?_;clear hK K;refine wrs fun K hK => ?_;conv => whnf
  refine ⟨oo, ?_⟩;conv => whnf
  rw [Int.toNat_natCast, hx];refine zg rfl (hfi) fun hs' hhs => ?_;try dsimp only at hhs
  conv => whnf
  refine hK _ (W.cond ⟨fun h3 => ?_, fun h3 => ?_⟩) <;> clear hK K
  ·refine wrs fun K hK => ?_;conv => whnf
   refine hK _ ?_;clear hK K;refine W.ret ?_;conv => whnf
   exact ⟨.v (.int .i64 i), ⟨rfl, rfl⟩, trivial, i, rfl, fun _ => ⟨i, by omega, h3⟩, fun _ => by omega⟩
  ·refine W.skip (hK8 _ ?_);clear hK8 K8;refine wrg ?_;conv => whnf
   refine ⟨oo, ?_⟩;conv => whnf
   have h4 : ∀ j, j < i + 1 -> q j = false := fun j hj => by
    by_cases hji : j = i
    ·subst hji; exact h3
    ·exact h2 j (by omega)
   exact zm ⟨i + 1, by omega, h4, rfl, rfl⟩
 ·refine W.exit (hK1 _ ?_);clear hK7 K7 hK1 K1;refine wrs fun K hK => ?_;conv => whnf
  refine hK _ ?_;clear hK K;refine W.ret ?_;conv => whnf
  refine ⟨.v (.int .i64 (-1)), ⟨rfl, rfl⟩, trivial, -1, rfl, fun h => by omega, fun ⟨j, hj, he⟩ => ?_⟩;rw [h2 j (by omega)] at he; cases he

theorem jr (n : Nat) (xs : Nat -> V) (f : Nat) (caps : List V) (q : Nat -> Bool) (hl : n <= 100000000) (hc : ∀ i, i < n -> ∃ l e, xs i = .agg [.ints none l, .int .i64 e]) (hf : ∀ i, i < n -> FnV f ([xs i] ++ caps) (.bool (q i))) :
  FnV 226 [.vals none 2 n xs, .func f caps] (.bool (bP (∃ i, i < n ∧ q i = true))) := by
 refine zj (za [0, 1, 4]) Tryz.func226 rfl (by decide) Tryz.ntmps226 (Nat.le_of_ble_eq_true rfl) fun base => ?_;refine wrs fun K hK => ?_;conv => whnf
 refine hK _ ?_;clear hK K;refine wrs fun K hK => ?_;conv => whnf
 refine yq rfl (zdN n xs f caps q hl hc hf) ?_;rintro lo hi hi' z h1 h2 h3 ⟨r, rfl, hr⟩ _;conv => whnf
 refine hK _ ?_;clear hK K;refine W.ret ?_;conv => whnf
 exact ⟨.v (.bool (bP (∃ i, i < n ∧ q i = true))), (by show decide _ = bP _; by_cases h : 0 <= r; (rw [zW (hr.1 h)]; exact decide_eq_true h); (rw [z5 fun h' => h (hr.2 h')]; exact decide_eq_false h)), trivial, rfl⟩

theorem zcf {p : Int} [SP p] {g : Poly p} (h : dg g <= 9) : ∀ t : Nat, dg (g ^ t) <= 1 + 8 * t
 | 0 => by rw [zo, yA]; omega
 | t + 1 => by
  have := yy (g ^ t) g;have := zcf h t;rw [zd]; omega
theorem zdz {p : Int} [SP p] {G : List (Poly p × Nat)} (h : ∀ j, j < G.length -> dg (G.getD j (0, 0)).1 <= 9 ∧ (G.getD j (0, 0)).2 <= 8) : ∀ k, k <= G.length -> dg (z8 G k) <= 1 + 64 * k
 | 0, _ => by rw [z8, yA]; omega
 | k + 1, hk => by
  obtain ⟨h1, h2⟩ := h k (by omega);have := yy (z8 G k) ((G.getD k (0, 0)).1 ^ (G.getD k (0, 0)).2);have := zdz h k (by omega);have := zcf h1 (G.getD k (0, 0)).2;rw [z8]; omega
def okG (p : Int) (F : List (List Int × Int)) : Prop := isP p = true ∧ ∀ j, j < F.length -> zbu p (gd F j) = false
theorem zlr {p : Int} {F : List (List Int × Int)} (h : okG p F) : ∃ hp : p ∈ yj, letI := xw hp; ∃ G : List (Poly p × Nat), F = G.map toG := by
 have hp : p ∈ yj := of_decide_eq_true h.1;letI := xw hp;refine ⟨hp, ?_⟩;obtain ⟨_, h⟩ := h
 induction F with
 | nil => exact ⟨[], rfl⟩
 | cons x F ih =>
  obtain ⟨G, hG⟩ := ih fun j hj => h (j + 1) (by simp; omega);obtain ⟨h1, h2, h3⟩ := zaW (h 0 (by simp));obtain ⟨_, f, hf⟩ := zce h1;refine ⟨(f, x.2.toNat) :: G, ?_⟩;rw [List.map_cons, <- hG]
  congr 1
  obtain ⟨x1, x2⟩ := x;have h4 : (1 : Int) <= x2 := h2;show (x1, x2) = (f.l, ((x2.toNat : Nat) : Int))
  rw [hf, show ((x2.toNat : Nat) : Int) = x2 by omega]; rfl
def PoA (p : Int) (F : List (List Int × Int)) (r0 : List Int) (r1 : Int) : Prop := (¬ okG p F -> r0 = [] ∧ r1 = 1) ∧ (okG p F -> 8 < F.length -> r0 = [] ∧ r1 = 3) ∧
 (okG p F -> F.length <= 8 -> ∃ hp : p ∈ yj, letI := xw hp; ∃ G : List (Poly p × Nat), F = G.map toG ∧ r0 = (if 9 < dg (z8 G G.length) then [] else (z8 G G.length).l) ∧ r1 = if 9 < dg (z8 G G.length) then 3 else 0)
theorem PoA.ex (p : Int) (F : List (List Int × Int)) : ∃ r0 r1, PoA p F r0 r1 := by
 by_cases ho : okG p F
 ·by_cases h8 : 8 < F.length
  ·exact ⟨[], 3, fun h => absurd ho h, fun _ _ => ⟨rfl, rfl⟩, fun _ h => absurd h8 (by omega)⟩
  ·obtain ⟨hp, G, hG⟩ := zlr ho;letI := xw hp;exact ⟨_, _, fun h => absurd ho h, fun _ h => absurd h h8, fun _ _ => ⟨hp, G, hG, rfl, rfl⟩⟩
 ·exact ⟨[], 1, fun _ => ⟨rfl, rfl⟩, fun h => absurd h ho, fun h => absurd h ho⟩

theorem zl2 (p : Int) (F : List (List Int × Int)) (r0 : List Int) (r1 : Int) (h : PoA p F r0 r1) (hl : F.length <= 1000000) (hlx : ∀ j, (gd F j).1.length <= 1000000000) : FnV 76 [.int .i64 p, vGs F] (.tup [.ints none r0, .int .i64 r1]) := by
 obtain ⟨h1, h2, h3⟩ := h;refine zj (za [0, 1, 4, 5, 6, 7, 8, 9, 12, 16, 35, 38, 43, 52, 65]) Tryz.func76 rfl (by decide) Tryz.ntmps76 (Nat.le_of_ble_eq_true rfl) fun base => ?_;refine wrs fun K hK => ?_;conv => whnf
 refine hK _ ?_;clear hK K;refine W.seqK fun K1 hK1 => ?_;refine wrs fun K hK => ?_;conv => whnf
 refine zg rfl (vV p) fun hs' hhs => ?_;try dsimp only at hhs
 conv => whnf
 refine hK _ (W.cond ⟨fun h => ?_, fun h => ?_⟩) <;> clear hK K
 ·obtain ⟨rfl, rfl⟩ := h1 fun ho => by rw [ho.1] at h; cases h
  refine wrs fun K hK => ?_;conv => whnf
  refine hK _ ?_;clear hK K;refine W.ret ?_;conv => whnf
  exact ⟨.v (.ints none []), rfl, trivial, .v (.int .i64 1), ⟨rfl, rfl⟩, trivial, rfl⟩
 have hP : isP p = true := by cases hq : isP p; (rw [hq] at h; cases h); rfl
 clear h;refine W.skip (hK1 _ ?_);clear hK1 K1;refine W.seqK fun K1 hK1 => ?_;refine wrs fun K hK => ?_;conv => whnf
 refine hK _ (W.block (W.invA (fun m e => ∃ i : Nat, i <= F.length ∧ (∀ j, j < i -> zbu p (gd F j) = false) ∧ m = F.length - i ∧ e = [(0, .v (.int .i64 p)), (1, .v (vGs F)), (6, .v (.int .i64 i))]) ⟨0, Nat.zero_le _, fun j hj => absurd hj (Nat.not_lt_zero j), rfl, rfl⟩ ?_));clear hK K;rintro m e ⟨i, hi, hbd, hm, rfl⟩;refine W.seqK fun K7 hK7 => wrs fun K hK => ?_;conv => whnf
 refine hK _ (W.cond ⟨fun h4 => ?_, fun h4 => ?_⟩) <;> clear hK K <;> (first | replace h4 := of_decide_eq_true h4 | replace h4 := of_decide_eq_false h4)
 ·have hlt : i < F.length := by omega
  refine W.skip (hK7 _ ?_);clear hK7 K7;refine W.seqK fun K8 hK8 => W.block ?_;refine wrs fun K hK => ?_;conv => whnf
  refine ⟨oo, ?_⟩;conv => whnf
  rw [Int.toNat_natCast];refine zg rfl (zes none p (gd F i).1 (hlx i)) fun hs' hhs => ?_;try dsimp only at hhs
  conv => whnf
  refine ⟨fun h5 => ?_, fun h5 => ?_⟩
  ·conv => whnf
   refine hK _ (W.condT rfl ?_);clear hK K
   obtain ⟨rfl, rfl⟩ := h1 fun ho => by
    have h6 := (zaW (ho.2 i hlt)).1;rw [zW h6] at h5; cases h5
   refine wrs fun K hK => ?_;conv => whnf
   refine hK _ ?_;clear hK K;refine W.ret ?_;conv => whnf
   exact ⟨.v (.ints none []), rfl, trivial, .v (.int .i64 1), ⟨rfl, rfl⟩, trivial, rfl⟩
  ·conv => whnf
   refine ⟨oo, ?_⟩;conv => whnf
   rw [Int.toNat_natCast];refine zg rfl (zdo _ _ _) fun hs' hhs => ?_;try dsimp only at hhs
   conv => whnf
   refine hK _ (W.cond ⟨fun h6 => ?_, fun h6 => ?_⟩) <;> clear hK K
   ·obtain ⟨rfl, rfl⟩ := h1 fun ho => by
     have h7 := (zaW (ho.2 i hlt)).2;rw [decide_eq_true h7] at h6; cases h6
    refine wrs fun K hK => ?_;conv => whnf
    refine hK _ ?_;clear hK K;refine W.ret ?_;conv => whnf
    exact ⟨.v (.ints none []), rfl, trivial, .v (.int .i64 1), ⟨rfl, rfl⟩, trivial, rfl⟩
   ·refine W.skip (hK8 _ ?_);clear hK8 K8
    have h7 : zbu p (gd F i) = false := by
     have h5 : bP (zF p (gd F i).1) = true := by cases hq : bP (zF p (gd F i).1); (rw [hq] at h5; cases h5); rfl
     unfold zbu;rw [if_pos h5]; exact h6
    refine wrg ?_;conv => whnf
    refine ⟨oo, ?_⟩;conv => whnf
    exact zm ⟨i + 1, by omega, fun j hj => by by_cases hji : j = i; (subst hji; exact h7); exact hbd j (by omega), rfl, rfl⟩
 ·obtain rfl : i = F.length := by omega
  have ho : okG p F := ⟨hP, hbd⟩
  refine W.exit (hK1 _ ?_);clear hK7 K7 hK1 K1;refine W.seqK fun K1 hK1 => ?_;refine wrs fun K hK => ?_;conv => whnf
  refine hK _ (W.cond ⟨fun h5 => ?_, fun h5 => ?_⟩) <;> clear hK K
  ·have h5 := of_decide_eq_true h5;obtain ⟨rfl, rfl⟩ := h2 ho (by omega);refine wrs fun K hK => ?_;conv => whnf
   refine hK _ ?_;clear hK K;refine W.ret ?_;conv => whnf
   exact ⟨.v (.ints none []), rfl, trivial, .v (.int .i64 3), ⟨rfl, rfl⟩, trivial, rfl⟩
  have h5 := of_decide_eq_false h5;refine W.skip (hK1 _ ?_);clear hK1 K1;obtain ⟨hp, G, rfl, rfl, rfl⟩ := h3 ho (by omega);letI := xw hp;rw [List.length_map] at h5
  have hG : ∀ j, j < G.length -> dg (G.getD j (0, 0)).1 <= 9 ∧ (G.getD j (0, 0)).2 <= 8 := fun j hj => by
   obtain ⟨h6, h7, h8⟩ := zaW (ho.2 j (by rw [List.length_map]; exact hj));rw [zam] at h6 h8;have h9 : (((G.getD j (0, 0)).2 : Nat) : Int) <= 8 := h8;exact ⟨h6.2.1, by omega⟩
  have hpd := zdz hG;rw [<- zaX];clear h1 h2 h3 hbd;refine wrs fun K hK => ?_;conv => whnf
  refine ⟨⟨rfl, by decide⟩, ?_⟩;conv => whnf
  intro b_1 hs_1 hh_1 hf_1;try dsimp only at hh_1 hf_1
  conv => whnf
  refine hK _ ?_;clear hK K;refine W.seqK fun K1 hK1 => ?_;refine wrs fun K hK => ?_;conv => whnf
  refine hK _ (W.block (W.invA (fun m e => ∃ k b : Nat, k <= G.length ∧ m = G.length - k ∧ e = [(0, .v (.int .i64 p)), (1, .v (vFs G)), (7, .ownI 2 b (z8 G k).l), (8, .v (.int .i64 k))]) ⟨0, b_1, Nat.zero_le _, rfl, by rw [z8, zgs]⟩ ?_));clear hK K;rintro m e ⟨k, b, hk, hm, rfl⟩;refine W.seqK fun K7 hK7 => wrs fun K hK => ?_;conv => whnf
  refine hK _ (W.cond ⟨fun h3 => ?_, fun h3 => ?_⟩) <;> clear hK K <;> (first | replace h3 := of_decide_eq_true h3 | replace h3 := of_decide_eq_false h3)
  ·obtain ⟨hx1, hx2⟩ := hG k (by omega);have hpk := hpd k (by omega);have hpt := zcf hx1;have hpm := fun t : Nat => yy (z8 G k) ((G.getD k (0, 0)).1 ^ t);refine W.skip (hK7 _ ?_);clear hK7 K7;refine W.seqK fun K8 hK8 => W.block ?_;refine wrs fun K hK => ?_;conv => whnf
   refine hK _ (W.block (W.invE (fun m e => ∃ (t b : Nat), t <= (G.getD k (0, 0)).2 ∧ m = (G.getD k (0, 0)).2 - t ∧ e = [(0, .v (.int .i64 p)), (1, .v (vFs G)), (7, .ownI 2 b (z8 G k * (G.getD k (0, 0)).1 ^ t).l), (8, .v (.int .i64 k)), (9, .v (.int .i64 t))]) _ _ ⟨0, b, Nat.zero_le _, rfl, by rw [zo, CR.mul_comm, CR.one_mul]⟩ (by dsimp only; omega) (by repeat' first | refine And.intro ?_ ?_ | exact trivial | rfl | omega | exact fun _ _ => rfl) ?_));clear hK K b;rintro m' e ⟨t, b, ht, hm', rfl⟩;have hptt := hpt t;have hpmt := hpm t;refine W.seqK fun K7 hK7 => ?_;refine wrs fun K hK => ?_;conv => whnf
   refine ⟨oo, ?_⟩;conv => whnf
   rw [Int.toNat_natCast];refine hK _ (W.cond ⟨fun h => ?_, fun h => ?_⟩) <;> clear hK K
   ·have h : (t : Int) < ((G.getD k (0, 0)).2 : Nat) := of_decide_eq_true h;refine W.skip (hK7 _ ?_);clear hK7 K7;refine W.seqK fun K6 hK6 => W.block ?_;refine wrg ?_;conv => whnf
    refine ⟨oo, ?_⟩;conv => whnf
    rw [Int.toNat_natCast];refine zB rfl (yp p _ _ (z8 G k * (G.getD k (0, 0)).1 ^ t) (G.getD k (0, 0)).1 (by omega) (by omega)) fun hs_4 b_4 hh_4 hf_4 => ?_;try dsimp only at hh_4 hf_4
    conv => whnf
    refine hK6 _ ?_;clear hK6 K6;refine wrg ?_;conv => whnf
    refine ⟨oo, ?_⟩;conv => whnf
    rw [zab, <- zd];exact zm ⟨t + 1, b_4, by omega, rfl, rfl⟩
   ·have h : ¬ (t : Int) < ((G.getD k (0, 0)).2 : Nat) := of_decide_eq_false h;obtain rfl : t = (G.getD k (0, 0)).2 := by omega
    refine W.exit (hK8 _ ?_);clear hK7 K7 hK8 K8;refine wrg ?_;conv => whnf
    refine ⟨oo, ?_⟩;conv => whnf
    exact zm ⟨k + 1, b, by omega, rfl, rfl⟩
  ·obtain rfl : k = G.length := by omega
   have hpk := hpd G.length (Nat.le_refl _);have hpl : (z8 G G.length).l.length = dg (z8 G G.length) := rfl;refine W.exit (hK1 _ ?_);clear hK7 K7 hK1 K1;refine W.seqK fun K1 hK1 => ?_;refine wrs fun K hK => ?_;conv => whnf
   refine hK _ (W.cond ⟨fun h => ?_, fun h => ?_⟩) <;> clear hK K
   ·have h := of_decide_eq_true h;have hn : 9 < dg (z8 G G.length) := by omega
    rw [if_pos hn, if_pos hn];refine wrs fun K hK => ?_;conv => whnf
    refine hK _ ?_;clear hK K;refine W.ret ?_;conv => whnf
    exact ⟨.v (.ints none []), rfl, trivial, .v (.int .i64 3), ⟨rfl, rfl⟩, trivial, rfl⟩
   have h := of_decide_eq_false h;have hn : ¬ 9 < dg (z8 G G.length) := by omega
   refine W.skip (hK1 _ ?_);clear hK1 K1;rw [if_neg hn, if_neg hn];refine wrs fun K hK => ?_;conv => whnf
   refine hK _ ?_;clear hK K;refine W.ret ?_;conv => whnf
   exact ⟨.v (.ints none (z8 G G.length).l), ⟨rfl, rfl⟩, trivial, .v (.int .i64 0), ⟨rfl, rfl⟩, trivial, rfl⟩

theorem zjf {p : Int} [SP p] {G : List (Poly p × Nat)} {j : Nat} (hj : j < G.length) (h0 : (G.getD j (0, 0)).1 = 0) (he : 1 <= (G.getD j (0, 0)).2) : z8 G G.length = 0 := by
 have h := zdn (F := G) hj;rw [h0] at h;obtain ⟨n, hn⟩ : ∃ n, (G.getD j (0, 0)).2 = n + 1 := ⟨(G.getD j (0, 0)).2 - 1, by omega⟩
 rw [hn, zd] at h;obtain ⟨u, hu⟩ := h;rw [hu];exact zf [(0 : Poly p) ^ n, u] (by rfl)
theorem zl3 (p : Int) (F : List (List Int × Int)) (r0 : List Int) (r1 : Int) (h : PoA p F r0 r1) (hl : F.length <= 1000000) (hlx : ∀ j, (gd F j).1.length <= 1000000000) : FnT Tryz.prog 75 [.int .i64 p, vGs F] (RT r0 r1) := by
 obtain ⟨h1, h2, h3⟩ := h;have hcs : ∀ i, i < F.length -> ∃ l e, vG (gd F i) = .agg [.ints none l, .int .i64 e] := fun i _ => ⟨_, _, rfl⟩
 refine zlO (zaj [] [0, 1, 2, 4, 5, 6, 7, 9, 11, 20, 24, 28, 29, 30, 31, 35, 36, 37, 47, 1000000]) Tryz.func75 rfl (by decide) Tryz.ntmps75 (Nat.le_of_ble_eq_true rfl) (fun base => ?_) (Nat.le_of_ble_eq_true rfl);refine W.sw (c' := cx [0, 1, 2, 4, 5, 6, 7, 9, 11, 20, 24, 28, 29, 30, 31, 35, 36, 37, 47, 1000000]) ?_;refine wrs fun K hK => ?_;conv => whnf
 refine ⟨rfl, ?_⟩;conv => whnf
 intro b_9 hs_9 hh_9 hf_9;try dsimp only at hh_9 hf_9
 conv => whnf
 refine hK _ ?_;clear hK K;refine wrs fun K hK => ?_;conv => whnf
 refine hK _ ?_;clear hK K;refine W.seqK fun K1 hK1 => W.block ?_;refine wrs fun K hK => ?_;conv => whnf
 refine zg rfl (jT p) fun hs' hhs => ?_;try dsimp only at hhs
 conv => whnf
 refine ⟨fun h => ?_, fun h => ?_⟩
 ·conv => whnf
  refine hK _ (W.condT rfl ?_);clear hK K;obtain ⟨rfl, rfl⟩ := h1 fun ho => by rw [ho.1] at h; cases h
  refine wrs fun K hK => ?_;conv => whnf
  refine hK _ ?_;clear hK K;refine W.ret ?_;conv => whnf
  exact ⟨.v (.rf 0 0), rfl, trivial, .v (.int .i64 (1)), ⟨rfl, rfl⟩, trivial, 0, rfl, fun hne => absurd rfl hne⟩
 have hP : isP p = true := by cases hq : isP p; (rw [hq] at h; cases h); rfl
 clear h;conv => whnf
 refine zg rfl (jr F.length _ _ _ (fun i => zbu p (gd F i)) (by omega) hcs (fun i hi => zl0 p (gd F i) _)) fun hs' hhs => ?_;try dsimp only at hhs
 conv => whnf
 refine hK _ (W.cond ⟨fun h => ?_, fun h => ?_⟩) <;> clear hK K
 ·obtain ⟨rfl, rfl⟩ := h1 fun ho => by
   rw [z5] at h
   ·cases h
   ·rintro ⟨i, h6, h7⟩;rw [ho.2 i h6] at h7; cases h7
  refine wrs fun K hK => ?_;conv => whnf
  refine hK _ ?_;clear hK K;refine W.ret ?_;conv => whnf
  exact ⟨.v (.rf 0 0), rfl, trivial, .v (.int .i64 (1)), ⟨rfl, rfl⟩, trivial, 0, rfl, fun hne => absurd rfl hne⟩
 have hbd : ∀ j, j < F.length -> zbu p (gd F j) = false := fun j hj => by
  cases hq : zbu p (gd F j)
  ·rfl
  ·rw [zW ⟨j, hj, hq⟩] at h; cases h
 have ho : okG p F := ⟨hP, hbd⟩
 clear h;refine wrs fun K hK => ?_;conv => whnf
 refine hK _ (W.cond ⟨fun h5 => ?_, fun h5 => ?_⟩) <;> clear hK K
 ·have h5 := of_decide_eq_true h5;obtain ⟨rfl, rfl⟩ := h2 ho (by omega);refine wrs fun K hK => ?_;conv => whnf
  refine hK _ ?_;clear hK K;refine W.ret ?_;conv => whnf
  exact ⟨.v (.rf 0 0), rfl, trivial, .v (.int .i64 (3)), ⟨rfl, rfl⟩, trivial, 0, rfl, fun hne => absurd rfl hne⟩
 have h5 := of_decide_eq_false h5;obtain ⟨hp, G, rfl, rfl, rfl⟩ := h3 ho (by omega);letI := xw hp;rw [List.length_map] at h5
 have hG : ∀ j, j < G.length -> dg (G.getD j (0, 0)).1 <= 9 ∧ 1 <= (G.getD j (0, 0)).2 ∧ (G.getD j (0, 0)).2 <= 8 := fun j hj => by
  obtain ⟨h6, h7, h8⟩ := zaW (ho.2 j (by rw [List.length_map]; exact hj));rw [zam] at h6 h7 h8;have h9 : (((G.getD j (0, 0)).2 : Nat) : Int) <= 8 := h8;have h9 : (1 : Int) <= (((G.getD j (0, 0)).2 : Nat) : Int) := h7;exact ⟨h6.2.1, by omega⟩
 have hpd := zdz fun j hj => ⟨(hG j hj).1, (hG j hj).2.2⟩
 refine wrs fun K hK => ?_;conv => whnf
 refine zg rfl (jr _ _ _ _ (fun i => decide (((gd (G.map toG) i).1.length : Int) = 0)) (by omega) hcs (fun i hi => zl1 (gd (G.map toG) i))) fun hs' hhs => ?_;try dsimp only at hhs
 conv => whnf
 refine hK _ (W.cond ⟨fun h => ?_, fun h => ?_⟩) <;> clear hK K
 ·have hz : z8 G G.length = 0 := by
   refine Classical.byContradiction fun hn => ?_;rw [z5] at h
   ·cases h
   ·rintro ⟨i, h6, h7⟩;rw [List.length_map] at h6;have h7 := of_decide_eq_true h7;rw [zam] at h7;have h8 : ((dg (G.getD i (0, 0)).1 : Nat) : Int) = 0 := h7;exact hn (zjf h6 (zc.1 (by omega)) (hG i h6).2.1)
  have e0 : (if 9 < dg (z8 G G.length) then [] else (z8 G G.length).l) = [] := by rw [hz, kn]; split <;> rfl
  have e1 : (if 9 < dg (z8 G G.length) then (3 : Int) else 0) = 0 := by rw [hz, zq]; rfl
  rw [e0, e1];refine wrs fun K hK => ?_;conv => whnf
  refine hK _ ?_;clear hK K;refine W.ret ?_;conv => whnf
  exact ⟨.v (.rf 0 0), rfl, trivial, .v (.int .i64 (0)), ⟨rfl, rfl⟩, trivial, 0, rfl, fun hne => absurd rfl hne⟩
 have hnz : ∀ j, j < G.length -> (G.getD j (0, 0)).1 ≠ 0 := fun j hj h0 => by
  rw [zW] at h
  ·cases h
  ·refine ⟨j, by rw [List.length_map]; exact hj, ?_⟩;rw [zam];show decide (((G.getD j (0, 0)).1.l.length : Int) = 0) = true
   rw [h0, kn]; rfl
 clear h;refine W.skip (hK1 _ ?_);clear hK1 K1;rw [<- zaX];clear h1 h2 h3 hbd;refine wrs fun K hK => ?_;conv => whnf
 refine ⟨⟨rfl, by decide⟩, ?_⟩;conv => whnf
 intro b_1 hs_1 hh_1 hf_1;try dsimp only at hh_1 hf_1
 conv => whnf
 refine hK _ ?_;clear hK K;refine W.seqK fun K1 hK1 => ?_;refine wrs fun K hK => ?_;conv => whnf
 refine hK _ (W.block (W.invA (fun m e => ∃ k b : Nat, k <= G.length ∧ m = G.length - k ∧ e = [(vt, .tab fun _ => none), (2, .v (.box none (.int .i64 p))), (7, .ownI 2 b (z8 G k).l), (28, .v (vFs G)), (29, .v (.int .i64 G.length)), (30, .v (.int .i64 k))]) ⟨0, b_1, Nat.zero_le _, rfl, by rw [z8, zgs]⟩ ?_));clear hK K;rintro m e ⟨k, b, hk, hm, rfl⟩;refine wrs fun K hK => ?_;conv => whnf
 refine hK _ ?_;clear hK K;refine W.seqK fun K7 hK7 => W.cond ⟨fun h3 => ?_, fun h3 => ?_⟩ <;> (first | replace h3 := of_decide_eq_true h3 | replace h3 := of_decide_eq_false h3)
 ·obtain ⟨hx1, hx0, hx2⟩ := hG k (by omega);have hpk := hpd k (by omega);have hpt := zcf hx1;have hpm := fun t : Nat => yy (z8 G k) ((G.getD k (0, 0)).1 ^ t);generalize hxx : G.getD k (0, 0) = x at *;refine W.skip (hK7 _ ?_);clear hK7 K7;refine W.seqK fun K8 hK8 => W.block ?_;refine wrs fun K hK => ?_;conv => whnf
  refine ⟨oo, ?_⟩;conv => whnf
  rw [Int.toNat_natCast, hxx];intro b_2 hs_2 hh_2 hf_2;try dsimp only at hh_2 hf_2
  conv => whnf
  refine ⟨s23, ?_⟩;conv => whnf
  refine hK _ ?_;clear hK K;refine wrs fun K hK => ?_;conv => whnf
  refine hK _ (W.block (W.invE (fun m e => ∃ (t b : Nat), t <= x.2 ∧ m = x.2 - t ∧ e = [(vt, .tab fun _ => none), (2, .v (.box none (.int .i64 p))), (7, .ownI 2 b (z8 G k * x.1 ^ t).l), (9, .ownB b_2 (vF x)), (28, .v (vFs G)), (29, .v (.int .i64 G.length)), (30, .v (.int .i64 k)), (35, .v (.int .i64 x.2)), (36, .v (.int .i64 t))]) _ _ ⟨0, b, Nat.zero_le _, rfl, by rw [zo, CR.mul_comm, CR.one_mul]⟩ (by dsimp only; omega) (by repeat' first | refine And.intro ?_ ?_ | exact trivial | rfl | omega | exact fun _ _ h => h | exact fun _ _ => rfl) ?_));clear hK K b;rintro m' e ⟨t, b, ht, hm', rfl⟩;have hptt := hpt t;have hpmt := hpm t;refine wrs fun K hK => ?_;conv => whnf
  refine hK _ ?_;clear hK K;refine W.seqK fun K7 hK7 => W.cond ⟨fun h6 => ?_, fun h6 => ?_⟩ <;> (first | replace h6 := of_decide_eq_true h6 | replace h6 := of_decide_eq_false h6)
  ·refine W.skip (hK7 _ ?_);clear hK7 K7;refine W.seqK fun K9 hK9 => W.block ?_;refine wrg ?_;conv => whnf
   refine zB rfl (ku p _ _ (z8 G k * x.1 ^ t) x.1 (by omega) (by omega)) fun hs_4 b_4 hh_4 hf_4 => ?_;try dsimp only at hh_4 hf_4
   conv => whnf
   refine hK9 _ ?_;clear hK9 K9;refine wrg ?_;conv => whnf
   refine ⟨oo, ?_⟩;conv => whnf
   rw [zab, <- zd];exact zm ⟨t + 1, b_4, by omega, rfl, rfl⟩
  ·obtain rfl : t = x.2 := by omega
   subst hxx;refine W.exit (hK8 _ ?_);clear hK7 K7 hK8 K8;refine wrg ?_;conv => whnf
   refine ⟨oo, ?_⟩;conv => whnf
   exact zm ⟨k + 1, b, by omega, rfl, rfl⟩
 ·obtain rfl : k = G.length := by omega
  have hpk := hpd G.length (Nat.le_refl _);have hpl : (z8 G G.length).l.length = dg (z8 G G.length) := rfl;refine W.exit (hK1 _ ?_);clear hK7 K7 hK1 K1;refine W.seqK fun K1 hK1 => ?_;refine wrs fun K hK => ?_;conv => whnf
  refine hK _ (W.cond ⟨fun h => ?_, fun h => ?_⟩) <;> clear hK K
  ·have h := of_decide_eq_true h;have hn : 9 < dg (z8 G G.length) := by omega
   rw [if_pos hn, if_pos hn];refine wrs fun K hK => ?_;conv => whnf
   refine hK _ ?_;clear hK K;refine W.ret ?_;conv => whnf
   exact ⟨.v (.rf 0 0), rfl, trivial, .v (.int .i64 (3)), ⟨rfl, rfl⟩, trivial, 0, rfl, fun hne => absurd rfl hne⟩
  have h := of_decide_eq_false h;have hn : ¬ 9 < dg (z8 G G.length) := by omega
  refine W.skip (hK1 _ ?_);clear hK1 K1;rw [if_neg hn, if_neg hn];refine W.sw (c' := cxt [] [0, 1, 2, 4, 5, 6, 7, 9, 11, 20, 24, 28, 29, 30, 31, 35, 36, 37, 47, 1000000]) ?_;refine W.rs (zaj _ _) (by rfl) fun K hK => ?_;conv => whnf
  refine hK _ ?_;clear hK K;refine W.ret ?_;conv => whnf
  exact ⟨.v (.rf b _), rfl, trivial, .v (.int .i64 (0)), ⟨rfl, rfl⟩, trivial, b, rfl, fun hne => zhE _ _ hne⟩


theorem jX (p : Int) (g g' : Option Nat) (f h : List Int) (hf : zF p f) (hh : zF p h) : FnV 40 [.int .i64 p, .ints g f, .ints g' h] (.tup [.int .i64 (xL f h), .int .i64 0]) := by
 have h1 := hf.2.1;have h2 := hh.2.1;refine zj (za [0, 1, 2, 6, 7, 17]) Tryz.func40 rfl (by decide) Tryz.ntmps40 (Nat.le_of_ble_eq_true rfl) fun base => ?_;refine wrs fun K hK => ?_;conv => whnf
 refine hK _ ?_;clear hK K;refine W.seqK fun K1 hK1 => ?_;refine wrs fun K hK => ?_;conv => whnf
 refine zg rfl ((yW g p f).tr (zW hf)) fun hs' hhs => ?_;try dsimp only at hhs
 conv => whnf
 refine zg rfl ((yW g' p h).tr (zW hh)) fun hs' hhs => ?_;try dsimp only at hhs
 conv => whnf
 refine hK _ (W.condF rfl (W.skip (hK1 _ ?_)));clear hK K hK1 K1;refine wrs fun K hK => ?_;conv => whnf
 refine zg rfl (xz g g' f h (by omega) (by omega)) fun hs' hhs => ?_;try dsimp only at hhs
 conv => whnf
 refine hK _ ?_;clear hK K;refine W.ret ?_;conv => whnf
 exact ⟨.v (.int .i64 (xL f h)), ⟨rfl, rfl⟩, trivial, .v (.int .i64 0), ⟨rfl, rfl⟩, trivial, rfl⟩

theorem zbv (p : Int) [SP p] (g : Option Nat) (f : Poly p) (hm : zF p f.l) (h2 : 2 <= dg f) : FnV 41 [.int .i64 p, .ints g f.l] (.tup [.bool (bP (Irr f)), .int .i64 0]) := by
 have hl : f.l.length = dg f := rfl;have h9 := hm.2.1;have hc : z9 p f.l = 0 := by unfold z9; rw [zW hm, if_neg (by omega)]; rfl
 refine zj (za [0, 1, 4, 5, 6, 11]) Tryz.func41 rfl (by decide) Tryz.ntmps41 (Nat.le_of_ble_eq_true rfl) fun base => ?_;refine wrs fun K hK => ?_;conv => whnf
 refine hK _ ?_;clear hK K;refine W.seqK fun K1 hK1 => ?_;refine wrs fun K hK => ?_;conv => whnf
 refine zg rfl (v9 g p f.l) fun hs' hhs => ?_;try dsimp only at hhs
 conv => whnf
 rw [hc];refine hK _ ?_;clear hK K;refine wrs fun K hK => ?_;conv => whnf
 refine hK _ (W.cond ⟨fun hcc => absurd rfl (of_decide_eq_true hcc), fun _ => W.skip (hK1 _ ?_)⟩);clear hK K hK1 K1;refine wrs fun K hK => ?_;conv => whnf
 refine zg rfl (zb1 p g f (by omega) (fun e => by rw [e, zq] at h2; omega)) fun hs' hhs => ?_;try dsimp only at hhs
 conv => whnf
 refine hK _ ?_;clear hK K;refine W.ret ?_;conv => whnf
 exact ⟨.v (.bool (bP (Irr f))), rfl, trivial, .v (.int .i64 0), ⟨rfl, rfl⟩, trivial, rfl⟩

open Go Go.RowKit Go.ChangeShapes Go.WideShapes Go.ChangeAt Go.Proofs Go.Proofs.YtlmckocbhcpmdaaGreat

theorem zkN {P : Program} {f : Nat} {xs : List V} {r : V} {w : World} {vs : Array Value} (h : Fn P f xs (fun _ _ a => a = .v r)) (hl : vs.size = xs.length)
  (hr : ∀ j, j < xs.length -> Rep (zed w) w.heap (xs.getD j .nil) (vs.getD j undef)) :
  Calls P f vs w fun e w' => ∃ v, e = .returned v ∧ Below w.heap.size w w' ∧ Rep (okR (fun _ => False) w'.heap.size) w'.heap r v := by
 refine (h.2 (fun _ => False) w vs (fun _ h => h.elim) hl hr).mono fun e w' ⟨v, av, hi, h1, h2, h3, h4, h5⟩ => ?_;subst h3;obtain ⟨_, h6, _⟩ := h5;refine ⟨v, h1, h4, ?_⟩;exact Rep.mono h6 fun g b hb => ⟨⟨hb.1, fun h => h.elim, hb.2.2⟩, rfl⟩

theorem ownP : ownKnob Tryz.prog.godebug = none := by kernel_rfl
theorem zkO : laidOutB Tryz.prog = true := by kernel_rfl
open Go Go.RowKit Go.ChangeShapes Go.WideShapes Go.ChangeAt Go.Proofs Go.Proofs.YtlmckocbhcpmdaaGreat

section
variable {H : Type} {enc : TypeId × Value -> H} {P : Program} {w : World}
def zl4 (xs : List V) : Prop := ∃ n : Int, xs = [.int .u8 n] ∧ 0 <= n ∧ n <= 255
theorem zmq {n : Int} (h : (Lit.int .u8 n).wf = true) : 0 <= n ∧ n <= 255 := by
 simp only [Lit.wf, Bool.and_eq_true, decide_eq_true_eq] at h
 have h1 : IntKind.u8.min = 0 := rfl;have h2 : IntKind.u8.max = 255 := rfl;omega
theorem zkP {t : TypeId} (ht : P.underlying t = some (.int .u8)) : zf0 enc P w t 1 zl4 := by
 intro fuel cs d ps h;obtain ⟨n, hc, hx, hw⟩ := DataW.trod_int ht h;subst hc;refine ⟨rfl, _, ⟨n, rfl, zmq hw⟩, rfl, by simp [V.isCell], fun j hj => ?_⟩;obtain rfl : j = 0 := by omega
 exact .int _ _
theorem zkQ {xs : List V} (h : zg9 1 zcV zl4 xs) : ∃ (n : Nat) (c : Nat -> Int), (∀ i, 0 <= c i ∧ c i <= 255) ∧ xs.length = 1 ∧ ∀ ok h' v, Rep ok h' (xs.getD 0 .nil) v -> Rep ok h' (vBy n c) v := by
 obtain ⟨n, f, rfl, _, hf⟩ := h
 have hf2 : ∀ i, ∃ z : Int, (0 <= z ∧ z <= 255) ∧ (i < n -> f i = .int .u8 z) := by
  intro i
  by_cases hi : i < n
  ·obtain ⟨ys, ⟨z, rfl, hz⟩, e⟩ := hf i hi;exact ⟨z, hz, fun _ => e⟩
  ·exact ⟨0, by omega, fun h => absurd h hi⟩
 refine ⟨n, fun i => Classical.choose (hf2 i), fun i => (Classical.choose_spec (hf2 i)).1, rfl, fun ok h' v r => zd1 (x := .vals none 1 n f) ⟨rfl, rfl, rfl, fun i hi => (Classical.choose_spec (hf2 i)).2 hi⟩ r⟩
end
theorem zkR {P : Program} {f : Nat} {xs : List V} {w : World} {vs : Array Value} (h : Fn P f xs (fun _ _ a => a = .v (.bool true))) (hl : vs.size = xs.length)
  (hr : ∀ j, j < xs.length -> Rep (zed w) w.heap (xs.getD j .nil) (vs.getD j undef)) :
  Calls P f vs w fun e w' => e = .returned (.bool true) ∧ Below w.heap.size w w' :=
 (zkN h hl hr).mono fun e w' ⟨v, h1, h2, h3⟩ => by
  cases h3
  exact ⟨h1, h2⟩
theorem zls : Tryz.prog.cellsOf 5 = 1 := by kernel_rfl
theorem zhF {H : Type} {enc : TypeId × Value -> H} {W : World} : zf0 enc Tryz.prog W 22 1 (zg9 1 zcV zl4) :=
 zf2 Tryz.underlying22 zls (fun xs h1 h2 => zk9 xs h1 h2) (zkP Tryz.underlying5)


theorem zhG {n : Nat} {c : Nat -> Int} (hc : Byt n c) : Fn Tryz.prog 200 [vBy n c] (fun _ _ z => ∃ (p : Int) (L : List Int), z = .v (.tup [.int .i64 p, .ints none L]) ∧ (-1000 <= p ∧ p <= 1000) ∧ L.length <= 20) := by
 refine zj (za [0, 2, 3, 4, 5, 6, 7, 21, 26]) Tryz.func200 rfl (by decide) Tryz.ntmps200 (Nat.le_of_ble_eq_true rfl) fun base => ?_;refine wrs fun K hK => ?_;conv => whnf
 refine hK _ ?_;clear hK K;refine wrs fun K hK => ?_;conv => whnf
 refine yq rfl (zdq hc) ?_;rintro lo hi hi' z hl1 hl2 hl3 ⟨b, x, hx, rfl⟩ _;try dsimp only at hl1 hl2
 conv => whnf
 refine hK _ ?_;clear hK K;refine wrs fun K hK => ?_;conv => whnf
 refine ⟨⟨rfl, rfl⟩, ?_⟩;conv => whnf
 refine ⟨rfl, _, (kw hc b x hx), ?_⟩;rintro hs_ms1 av x' t' hh_ms1 ⟨rfl, ⟨x1, hx1, rfl⟩, _, rfl, ⟨p, rfl, hp⟩⟩ _ _ _;try dsimp only at hh_ms1
 conv => whnf
 refine hK _ ?_;clear hK K;have hp2 : -1000 <= p ∧ p <= 1000 := by (simp only [List.mem_cons, List.not_mem_nil, or_false] at hp; omega)
 refine wrs fun K hK => ?_;conv => whnf
 refine ⟨⟨rfl, rfl⟩, ?_⟩;conv => whnf
 refine ⟨rfl, _, (zet hc p (by constructor <;> omega) b x1 hx1), ?_⟩;rintro hs_ms2 av x' t' hh_ms2 ⟨rfl, ⟨x2, hx2, rfl⟩, _, rfl, ⟨L, rfl, hL⟩⟩ _ _ _;try dsimp only at hh_ms2
 conv => whnf
 refine hK _ ?_;clear hK K;refine W.seqK fun K1 hK1 => ?_
 have fin : ∀ (L : List Int) (t : S), L.length <= 20 -> base <= t.hs -> zy t.env [(5, .v (.int .i64 p)), (6, .v (.ints none L))] -> K1 t := by
  intro L t hL h9 h10;refine hK1 _ (W.weak (t := ⟨[(5, .v (.int .i64 p)), (6, .v (.ints none L))], base⟩) ⟨h9, h10⟩ (Nat.le_refl _) ?_);clear hK1 K1;refine wrs fun K hK => ?_;conv => whnf
  refine hK _ ?_;clear hK K;refine W.ret ?_;conv => whnf
  exact ⟨.v (.int .i64 p), ⟨rfl, rfl⟩, trivial, .v (.ints none L), ⟨rfl, rfl⟩, trivial, p, L, rfl, hp2, hL⟩
 refine wrs fun K hK => ?_;conv => whnf
 refine zg rfl (vV p) fun hs' hhs => ?_;try dsimp only at hhs
 conv => whnf
 refine ⟨fun hP => ?_, fun hP => ?_⟩
 ·conv => whnf
  have hp97 := zfj hP;letI := xw (of_decide_eq_true hP);refine ⟨⟨rfl, rfl⟩, ?_⟩;conv => whnf
  refine ⟨rfl, _, (zM hc 2 (by constructor <;> decide) b x2 hx2), ?_⟩;rintro hs_ms3 av x' t' hh_ms3 ⟨rfl, ⟨x3, hx3, rfl⟩, _, rfl, ⟨q, rfl, q0, q1, _⟩⟩ _ _ _;try dsimp only at hh_ms3
  conv => whnf
  refine hK _ (W.cond ⟨fun h => ?_, fun h => ?_⟩) <;> clear hK K
  ·refine wrs fun K hK => ?_;conv => whnf
   refine ⟨⟨rfl, by decide⟩, ?_⟩;conv => whnf
   intro b_6 hs_6 hh_6 hf_6;try dsimp only at hh_6 hf_6
   conv => whnf
   refine hK _ ?_;clear hK K;refine wrs fun K hK => ?_;conv => whnf
   refine ⟨⟨rfl, rfl⟩, ?_⟩;conv => whnf
   refine ⟨rfl, _, (zM hc 4 (by constructor <;> decide) b x3 hx3), ?_⟩;rintro hs_ms4 av x' t' hh_ms4 ⟨rfl, ⟨x4, hx4, rfl⟩, _, rfl, ⟨u, rfl, u0, u1, _⟩⟩ _ _ _;try dsimp only at hh_ms4
   conv => whnf
   have u4 := u1 (by decide);obtain ⟨f0, hf0⟩ : ∃ f : Poly p, f.l = [1] := ⟨1, zgs⟩
   refine hK _ (W.block (W.invA (fun m e => ∃ (i bo : Nat) (y : V) (f : Poly p), i <= 4 ∧ kR n c y ∧ dg f <= 1 + 2 * (4 - i) ∧ m = i ∧ e = [(4, .ownB b y), (5, .v (.int .i64 p)), (6, .ownI 2 bo f.l), (7, .v (.int .i64 ((i : Int) - 1)))]) ⟨u.toNat + 1, b_6, x4, f0, by omega, hx4, (by show f0.l.length <= _; rw [hf0]; simp <;> omega), rfl, (by rw [hf0, show ((u.toNat + 1 : Nat) : Int) - 1 = u by omega])⟩ ?_));clear hK K;rintro m e ⟨i, bo, y, f, hi, hy, hfl, hm, rfl⟩;refine W.seqK fun K7 hK7 => wrs fun K hK => ?_;conv => whnf
   refine hK _ (W.cond ⟨fun h5 => ?_, fun h5 => ?_⟩) <;> clear hK K <;> (first | replace h5 := of_decide_eq_true h5 | replace h5 := of_decide_eq_false h5)
   ·have hi1 : 1 <= i := by omega
    refine W.skip (hK7 _ (W.seqK fun K8 hK8 => W.block ?_));clear hK7 K7;refine wrg ?_;conv => whnf
    refine ⟨⟨rfl, rfl⟩, ?_⟩;conv => whnf
    refine ⟨rfl, _, (jM hc p (by omega) 2 (by omega) b y hy), ?_⟩;rintro hs_ms5 av x' t' hh_ms5 ⟨rfl, ⟨x5, hx5, rfl⟩, bo5, L5, rfl, hL5⟩ _ _ hf_ms5
    replace hf_ms5 := hf_ms5 (by simp)
    try dsimp only at hh_ms5
    conv => whnf
    obtain ⟨_, g, rfl⟩ := zce (zgG hP (by omega) hL5);have hgl : dg g <= 3 := hL5.2.1;refine zB rfl (yp p _ _ f g (by omega) (by omega)) fun hs_9 b_9 hh_9 hf_9 => ?_;try dsimp only at hh_9 hf_9
    conv => whnf
    refine hK8 _ ?_;clear hK8 K8;refine wrg ?_;conv => whnf
    refine ⟨oo, ?_⟩;conv => whnf
    have hmul := yy f g;rw [show ((i : Int) - 1 - 1) = ((i - 1 : Nat) : Int) - 1 by omega];exact zm ⟨i - 1, b_9, x5, f * g, by omega, hx5, by omega, rfl, rfl⟩
   ·refine W.exit (fin f.l _ (by show dg f <= 20; omega) (by dsimp only; omega) ?_);exact cvr
  ·refine W.skip (fin L _ hL (by dsimp only; omega) ?_);exact cvr
 ·conv => whnf
  refine hK _ (W.condF rfl (W.skip (fin L _ hL (by dsimp only; omega) ?_)));exact cvr

theorem kz {n : Nat} {c : Nat -> Int} (hc : Byt n c) : Fn Tryz.prog 71 [vBy n c] (fun _ _ z => ∃ (p : Int) (L : List Int), z = .v (.tup [.int .i64 p, .ints none L]) ∧ (-1000 <= p ∧ p <= 1000) ∧ L.length <= 20) := by
 refine zj (za [0, 2, 3]) Tryz.func71 rfl (by decide) Tryz.ntmps71 (Nat.le_of_ble_eq_true rfl) fun base => ?_;refine wrs fun K hK => ?_;conv => whnf
 refine hK _ ?_;clear hK K;refine wrs fun K hK => ?_;conv => whnf
 refine yq rfl (zhG hc) ?_;rintro lo hi hi' z hl1 hl2 hl3 ⟨p, L, rfl, hp, hL⟩ _;try dsimp only at hl1 hl2
 conv => whnf
 refine hK _ ?_;clear hK K;refine W.ret ?_;conv => whnf
 exact ⟨.v (.int .i64 p), ⟨rfl, rfl⟩, trivial, .v (.ints none L), ⟨rfl, rfl⟩, trivial, p, L, rfl, hp, hL⟩


theorem zl5 {G : List (List Int × Int)} {x : List Int × Int} {j : Nat} (h : j < G.length) : gd (G ++ [x]) j = gd G j := by
 unfold gd;rw [List.getD_eq_getElem?_getD, List.getD_eq_getElem?_getD, List.getElem?_append_left h]
theorem zl6 {G : List (List Int × Int)} {x : List Int × Int} : gd (G ++ [x]) G.length = x := by
 unfold gd;rw [List.getD_eq_getElem?_getD, List.getElem?_append_right (Nat.le_refl _), Nat.sub_self]; rfl
def zfl (G : List (List Int × Int)) : Prop := ∀ x ∈ G, x.1.length <= 20
theorem zfl.snoc {G : List (List Int × Int)} {x : List Int × Int} (h : zfl G) (hx : x.1.length <= 20) : zfl (G ++ [x]) := fun y hy => by
 rcases List.mem_append.1 hy with hy | hy
 ·exact h y hy
 ·obtain rfl := List.mem_singleton.1 hy; exact hx
theorem zfl.len {G : List (List Int × Int)} (h : zfl G) (j : Nat) : (gd G j).1.length <= 20 := by
 unfold gd
 by_cases hj : j < G.length
 ·rw [List.getD_eq_getElem?_getD, List.getElem?_eq_getElem hj]; exact h _ (List.getElem_mem hj)
 ·rw [List.getD_eq_getElem?_getD, List.getElem?_eq_none (by omega)]; simp

theorem zbw {n : Nat} {c : Nat -> Int} (hc : Byt n c) : Fn Tryz.prog 74 [vBy n c] (fun _ _ z => ∃ (p : Int) (G : List (List Int × Int)), z = .v (.tup [.int .i64 p, vGs G]) ∧ (-1000 <= p ∧ p <= 1000) ∧ G.length <= 20 ∧ zfl G) := by
 refine zj (za [0, 2, 3, 4, 5, 6, 7, 16, 30, 31, 38, 44]) Tryz.func74 rfl (by decide) Tryz.ntmps74 (Nat.le_of_ble_eq_true rfl) fun base => ?_;refine wrs fun K hK => ?_;conv => whnf
 refine hK _ ?_;clear hK K;refine wrs fun K hK => ?_;conv => whnf
 refine yq rfl (zdq hc) ?_;rintro lo hi hi' z hl1 hl2 hl3 ⟨b, x, hx, rfl⟩ _;try dsimp only at hl1 hl2
 conv => whnf
 refine hK _ ?_;clear hK K;refine wrs fun K hK => ?_;conv => whnf
 refine ⟨⟨rfl, rfl⟩, ?_⟩;conv => whnf
 refine ⟨rfl, _, (kw hc b x hx), ?_⟩;rintro hs_ms1 av x' t' hh_ms1 ⟨rfl, ⟨x1, hx1, rfl⟩, _, rfl, ⟨p, rfl, hp⟩⟩ _ _ _;try dsimp only at hh_ms1
 conv => whnf
 refine hK _ ?_;clear hK K;have hp2 : -1000 <= p ∧ p <= 1000 := by (simp only [List.mem_cons, List.not_mem_nil, or_false] at hp; omega)
 clear hp;refine wrs fun K hK => ?_;conv => whnf
 refine ⟨⟨rfl, by decide, fun x hx => by simp at hx⟩, ?_⟩;conv => whnf
 intro b_6 hs_6 hh_6 hf_6;try dsimp only at hh_6 hf_6
 conv => whnf
 refine hK _ ?_;clear hK K;refine W.seqK fun K1 hK1 => ?_;refine wrs fun K hK => ?_;conv => whnf
 refine ⟨⟨rfl, rfl⟩, ?_⟩;conv => whnf
 refine ⟨rfl, _, (zM hc 4 (by constructor <;> decide) b x1 hx1), ?_⟩;rintro hs_ms3 av x' t' hh_ms3 ⟨rfl, ⟨x3, hx3, rfl⟩, _, rfl, ⟨u, rfl, u0, u1, _⟩⟩ _ _ _;try dsimp only at hh_ms3
 conv => whnf
 have u4 := u1 (by decide);refine hK _ (W.block (W.invA (fun m e => ∃ (i bo : Nat) (y : V) (G : List (List Int × Int)), i <= 4 ∧ kR n c y ∧ G.length <= 4 - i ∧ zfl G ∧ m = i ∧ e = [(4, .ownB b y), (5, .v (.int .i64 p)), (6, .ownV 68 2 bo G.length fun j => vG (gd G j)), (7, .v (.int .i64 ((i : Int) - 1)))]) ⟨u.toNat + 1, b_6, x3, [], by omega, hx3, Nat.zero_le _, (fun _ h => by cases h), rfl, (by rw [show ((u.toNat + 1 : Nat) : Int) - 1 = u by omega])⟩ ?_));clear hK K;rintro m e ⟨i, bo, y, G, hi, hy, hGl, hG, hm, rfl⟩;refine W.seqK fun K7 hK7 => wrs fun K hK => ?_;conv => whnf
 refine hK _ (W.cond ⟨fun h5 => ?_, fun h5 => ?_⟩) <;> clear hK K <;> (first | replace h5 := of_decide_eq_true h5 | replace h5 := of_decide_eq_false h5)
 ·have hi1 : 1 <= i := by omega
  refine W.skip (hK7 _ (W.seqK fun K8 hK8 => W.block ?_));clear hK7 K7;refine wrg ?_;conv => whnf
  refine ⟨⟨rfl, rfl⟩, ?_⟩;conv => whnf
  refine ⟨rfl, _, (zet hc p (by constructor <;> omega) b y hy), ?_⟩;rintro hs_ms4 av x' t' hh_ms4 ⟨rfl, ⟨x4, hx4, rfl⟩, _, rfl, ⟨L, rfl, hL⟩⟩ _ _ _;try dsimp only at hh_ms4
  conv => whnf
  refine ⟨⟨rfl, rfl⟩, ?_⟩;conv => whnf
  refine ⟨rfl, _, (zM hc 2 (by constructor <;> decide) b x4 hx4), ?_⟩;rintro hs_ms5 av x' t' hh_ms5 ⟨rfl, ⟨x5, hx5, rfl⟩, _, rfl, ⟨q, rfl, q0, q1, _⟩⟩ _ _ _;try dsimp only at hh_ms5
  conv => whnf
  have q2 := q1 (by decide);refine ⟨oo, ?_⟩;conv => whnf
  refine ⟨⟨rfl, by decide, fun x hx => by simp at hx; subst hx; exact ⟨rfl, rfl⟩⟩, ?_⟩;conv => whnf
  intro b_7 hs_7 hh_7 hf_7;try dsimp only at hh_7 hf_7
  conv => whnf
  refine ⟨by omega, ?_⟩;conv => whnf
  refine ⟨fun j => vG (gd (G ++ [(L, 1 + q)]) j), fun j hj => congrArg vG (zl5 hj), fun j hj => ?_, ?_⟩
  ·obtain rfl : j = 0 := by omega
   exact congrArg vG zl6
  intro b_8 hs_8 hh_8 hf_8;try dsimp only at hh_8 hf_8
  conv => whnf
  refine hK8 _ ?_;clear hK8 K8;refine wrg ?_;conv => whnf
  refine ⟨oo, ?_⟩;conv => whnf
  rw [show ((i : Int) - 1 - 1) = ((i - 1 : Nat) : Int) - 1 by omega];refine ⟨_, _, ⟨i - 1, b_8, x5, G ++ [(L, 1 + q)], by omega, hx5, by rw [List.length_append (bs := [_])]; (show G.length + 1 <= _); omega, hG.snoc hL, rfl, rfl⟩, by omega, by dsimp only; omega, ?_⟩;rw [List.length_append (bs := [_])];exact cvr
 ·refine W.exit (hK1 _ ?_);clear hK7 K7 hK1 K1;refine W.seqK fun K1 hK1 => ?_
  have fin : ∀ (bo : Nat) (G : List (List Int × Int)) (t : S), G.length <= 20 -> zfl G -> base <= t.hs -> zy t.env [(5, .v (.int .i64 p)), (6, .ownV 68 2 bo G.length fun j => vG (gd G j))] -> K1 t := by
   intro bo G t hGl hG h9 h10;refine hK1 _ (W.weak (t := ⟨[(5, .v (.int .i64 p)), (6, .ownV 68 2 bo G.length fun j => vG (gd G j))], base⟩) ⟨h9, h10⟩ (Nat.le_refl _) ?_);clear hK1 K1;refine wrs fun K hK => ?_;conv => whnf
   refine hK _ ?_;clear hK K;refine W.ret ?_;conv => whnf
   exact ⟨.v (.int .i64 p), ⟨rfl, rfl⟩, trivial, .v (vGs G), ⟨rfl, rfl, rfl, fun _ _ => rfl⟩, ⟨trivial, fun _ _ => ⟨trivial, trivial, trivial⟩⟩, p, G, rfl, hp2, hGl, hG⟩
  clear hK1;refine wrs fun K hK => ?_;conv => whnf
  refine ⟨⟨rfl, rfl⟩, ?_⟩;conv => whnf
  refine ⟨rfl, _, (zM hc 24 (by constructor <;> decide) b y hy), ?_⟩;rintro hs_ms4 av x' t' hh_ms4 ⟨rfl, ⟨x4, hx4, rfl⟩, _, rfl, ⟨q, rfl, q0, q1, _⟩⟩ _ _ _;try dsimp only at hh_ms4
  conv => whnf
  refine hK _ (W.block ?_);clear hK K;refine wrs fun K hK => ?_;conv => whnf
  refine hK _ (W.cond ⟨fun h => ?_, fun h => ?_⟩) <;> clear hK K
  ·refine W.block (W.invE (fun m e => ∃ (bo : Nat) (y : V) (G : List (List Int × Int)), G.length <= 9 ∧ kR n c y ∧ zfl G ∧ m = 9 - G.length ∧ e = [(4, .ownB b y), (5, .v (.int .i64 p)), (6, .ownV 68 2 bo G.length fun j => vG (gd G j))]) _ _ ⟨bo, x4, G, by omega, hx4, hG, rfl, rfl⟩ (by dsimp only; omega) (by repeat' first | refine And.intro ?_ ?_ | exact trivial | rfl | omega | exact fun _ _ => rfl) ?_);rintro m e ⟨bo, y, G, hGl, hy, hG, hm, rfl⟩;refine W.seqK fun K7 hK7 => ?_;refine wrs fun K hK => ?_;conv => whnf
   refine ⟨⟨rfl, rfl⟩, ?_⟩;conv => whnf
   refine ⟨rfl, _, (zM hc 2 (by constructor <;> decide) b y hy), ?_⟩;rintro hs_ms5 av x' t' hh_ms5 ⟨rfl, ⟨x5, hx5, rfl⟩, _, rfl, ⟨q', rfl, q0', q1', _⟩⟩ _ _ _;try dsimp only at hh_ms5
   conv => whnf
   have q2 := q1' (by decide);refine ⟨oo, ?_⟩;conv => whnf
   refine hK _ (W.cond ⟨fun h => ?_, fun h => ?_⟩) <;> clear hK K
   ·have h := of_decide_eq_true h;refine W.skip (hK7 _ (W.block ?_));clear hK7 K7;refine wrg ?_;conv => whnf
    refine ⟨⟨rfl, by decide⟩, ?_⟩;conv => whnf
    intro b_6 hs_6 hh_6 hf_6;try dsimp only at hh_6 hf_6
    conv => whnf
    refine ⟨⟨rfl, by decide, fun x hx => by simp at hx; subst hx; exact ⟨rfl, rfl⟩⟩, ?_⟩;conv => whnf
    intro b_7 hs_7 hh_7 hf_7;try dsimp only at hh_7 hf_7
    conv => whnf
    refine ⟨by omega, ?_⟩;conv => whnf
    refine ⟨fun j => vG (gd (G ++ [([1], 1)]) j), fun j hj => congrArg vG (zl5 hj), fun j hj => ?_, ?_⟩
    ·obtain rfl : j = 0 := by omega
     exact congrArg vG zl6
    intro b_8 hs_8 hh_8 hf_8;try dsimp only at hh_8 hf_8
    conv => whnf
    have hlen : (G ++ [(([1], 1) : List Int × Int)]).length = G.length + 1 := List.length_append (bs := [_]);refine ⟨_, _, ⟨b_8, x5, G ++ [([1], 1)], by rw [hlen]; omega, hx5, hG.snoc (by simp), rfl, rfl⟩, by rw [hlen]; omega, by dsimp only; omega, ?_⟩;rw [hlen];exact cvr
   ·refine W.exit (fin bo G _ (by omega) hG (by dsimp only; omega) ?_);exact cvr
  ·refine wrs fun K hK => ?_;conv => whnf
   refine hK _ (W.cond ⟨fun h => ?_, fun h => ?_⟩) <;> clear hK K
   ·refine wrg ?_;conv => whnf
    refine ⟨⟨rfl, by decide⟩, ?_⟩;conv => whnf
    intro b_6 hs_6 hh_6 hf_6;try dsimp only at hh_6 hf_6
    conv => whnf
    refine ⟨⟨rfl, by decide⟩, ?_⟩;conv => whnf
    intro b_7 hs_7 hh_7 hf_7;try dsimp only at hh_7 hf_7
    conv => whnf
    refine ⟨⟨rfl, rfl⟩, ?_⟩;conv => whnf
    refine ⟨rfl, _, (vj hc none [0, 8, 9] ⟨(by show 1 <= 3; omega), (by show 3 <= 1000; omega)⟩ b x4 hx4), ?_⟩;rintro hs_ms5 av x' t' hh_ms5 ⟨rfl, ⟨x5, hx5, rfl⟩, _, rfl, ⟨q', rfl, hq⟩⟩ _ _ _;try dsimp only at hh_ms5
    conv => whnf
    refine ⟨⟨rfl, by decide, fun x hx => by simp at hx; subst hx; exact ⟨rfl, rfl⟩⟩, ?_⟩;conv => whnf
    intro b_9 hs_9 hh_9 hf_9;try dsimp only at hh_9 hf_9
    conv => whnf
    refine ⟨by omega, ?_⟩;conv => whnf
    refine ⟨fun j => vG (gd (G ++ [([1], q')]) j), fun j hj => congrArg vG (zl5 hj), fun j hj => ?_, ?_⟩
    ·obtain rfl : j = 0 := by omega
     exact congrArg vG zl6
    intro b_8 hs_8 hh_8 hf_8;try dsimp only at hh_8 hf_8
    conv => whnf
    have hlen : (G ++ [(([1], q') : List Int × Int)]).length = G.length + 1 := List.length_append (bs := [_]);refine fin b_8 (G ++ [([1], q')]) _ (by rw [hlen]; omega) (hG.snoc (by simp)) (by dsimp only; omega) ?_;rw [hlen];exact cvr
   ·refine W.skip (fin bo G _ (by omega) hG (by dsimp only; omega) ?_);exact cvr


open Go Go.RowKit Go.ChangeShapes Go.WideShapes Go.ChangeAt Go.Proofs Go.Proofs.YtlmckocbhcpmdaaGreat

def zmr : List Char := [104, 97, 114, 110, 101, 115, 115, 32, 48, 57, 56, 100, 53, 97, 99, 53, 56, 52, 54, 50, 51, 98, 100, 54, 52, 56, 97, 51, 53, 53, 49, 100, 101, 98, 98, 54, 102, 54, 101, 101, 55, 55, 53, 52, 97, 52, 102, 97, 55, 50, 97, 54, 56, 54, 52, 48, 101, 56, 97, 48, 50, 50, 48, 55, 51, 54, 97, 56, 50, 51, 53, 49, 32, 99, 117, 116, 32, 97, 116, 32, 108, 111, 111, 112, 46, 101, 120, 97, 109, 112, 108, 101, 47, 103, 48, 49, 48, 48, 48, 47, 108, 97, 119, 115, 46, 70, 110, 69, 108, 101, 109, 101, 110, 116, 115, 32, 108, 111, 111, 112, 46, 101, 120, 97, 109, 112, 108, 101, 47, 103, 48, 49, 48, 48, 48, 47, 108, 97, 119, 115, 46, 70, 110, 78, 117, 109, 98, 101, 114, 101, 100, 32, 108, 111, 111, 112, 46, 101, 120, 97, 109, 112, 108, 101, 47, 103, 48, 49, 48, 48, 48, 47, 108, 97, 119, 115, 46, 70, 110, 68, 101, 103, 114, 101, 101, 115, 32, 108, 111, 111, 112, 46, 101, 120, 97, 109, 112, 108, 101, 47, 103, 48, 49, 48, 48, 48, 47, 108, 97, 119, 115, 46, 70, 110, 77, 105, 110, 105, 109, 97, 108, 32, 108, 111, 111, 112, 46, 101, 120, 97, 109, 112, 108, 101, 47, 103, 48, 49, 48, 48, 48, 47, 108, 97, 119, 115, 46, 70, 110, 77, 111, 100, 117, 108, 97, 114, 70, 97, 99, 116, 111, 114, 115, 32, 108, 111, 111, 112, 46, 101, 120, 97, 109, 112, 108, 101, 47, 103, 48, 49, 48, 48, 48, 47, 108, 97, 119, 115, 46, 70, 110, 76, 111, 103, 115, 32, 108, 111, 111, 112, 46, 101, 120, 97, 109, 112, 108, 101, 47, 103, 48, 49, 48, 48, 48, 47, 108, 97, 119, 115, 46, 70, 110, 80, 114, 105, 109, 105, 116, 105, 118, 101, 32, 108, 111, 111, 112, 46, 101, 120, 97, 109, 112, 108, 101, 47, 103, 48, 49, 48, 48, 48, 47, 108, 97, 119, 115, 46, 70, 110, 76, 105, 102, 116, 101, 100, 70, 97, 99, 116, 111, 114, 115, 32, 108, 111, 111, 112, 46, 101, 120, 97, 109, 112, 108, 101, 47, 103, 48, 49, 48, 48, 48, 47, 108, 97, 119, 115, 46, 70, 110, 69, 120, 116, 101, 110, 115, 105, 111, 110, 115, 32, 108, 111, 111, 112, 46, 101, 120, 97, 109, 112, 108, 101, 47, 103, 48, 49, 48, 48, 48, 47, 108, 97, 119, 115, 46, 70, 110, 85, 110, 105, 116, 115, 32, 108, 111, 111, 112, 46, 101, 120, 97, 109, 112, 108, 101, 47, 103, 48, 49, 48, 48, 48, 47, 108, 97, 119, 115, 46, 70, 110, 82, 101, 115, 105, 100, 117, 97, 108, 70, 97, 99, 116, 111, 114, 115, 32, 108, 111, 111, 112, 46, 101, 120, 97, 109, 112, 108, 101, 47, 103, 48, 49, 48, 48, 48, 47, 108, 97, 119, 115, 46, 70, 110, 69, 120, 97, 99, 116, 83, 112, 108, 105, 116, 116, 105, 110, 103, 115, 79, 102].map Char.ofNat
def zkS : List Char := [99, 117, 116].map Char.ofNat
def zkT : List (List Char) := [[97, 116], [108, 111, 111, 112, 46, 101, 120, 97, 109, 112, 108, 101, 47, 103, 48, 49, 48, 48, 48, 47, 108, 97, 119, 115, 46, 70, 110, 69, 108, 101, 109, 101, 110, 116, 115], [108, 111, 111, 112, 46, 101, 120, 97, 109, 112, 108, 101, 47, 103, 48, 49, 48, 48, 48, 47, 108, 97, 119, 115, 46, 70, 110, 78, 117, 109, 98, 101, 114, 101, 100], [108, 111, 111, 112, 46, 101, 120, 97, 109, 112, 108, 101, 47, 103, 48, 49, 48, 48, 48, 47, 108, 97, 119, 115, 46, 70, 110, 68, 101, 103, 114, 101, 101, 115], [108, 111, 111, 112, 46, 101, 120, 97, 109, 112, 108, 101, 47, 103, 48, 49, 48, 48, 48, 47, 108, 97, 119, 115, 46, 70, 110, 77, 105, 110, 105, 109, 97, 108], [108, 111, 111, 112, 46, 101, 120, 97, 109, 112, 108, 101, 47, 103, 48, 49, 48, 48, 48, 47, 108, 97, 119, 115, 46, 70, 110, 77, 111, 100, 117, 108, 97, 114, 70, 97, 99, 116, 111, 114, 115], [108, 111, 111, 112, 46, 101, 120, 97, 109, 112, 108, 101, 47, 103, 48, 49, 48, 48, 48, 47, 108, 97, 119, 115, 46, 70, 110, 76, 111, 103, 115], [108, 111, 111, 112, 46, 101, 120, 97, 109, 112, 108, 101, 47, 103, 48, 49, 48, 48, 48, 47, 108, 97, 119, 115, 46, 70, 110, 80, 114, 105, 109, 105, 116, 105, 118, 101], [108, 111, 111, 112, 46, 101, 120, 97, 109, 112, 108, 101, 47, 103, 48, 49, 48, 48, 48, 47, 108, 97, 119, 115, 46, 70, 110, 76, 105, 102, 116, 101, 100, 70, 97, 99, 116, 111, 114, 115], [108, 111, 111, 112, 46, 101, 120, 97, 109, 112, 108, 101, 47, 103, 48, 49, 48, 48, 48, 47, 108, 97, 119, 115, 46, 70, 110, 69, 120, 116, 101, 110, 115, 105, 111, 110, 115], [108, 111, 111, 112, 46, 101, 120, 97, 109, 112, 108, 101, 47, 103, 48, 49, 48, 48, 48, 47, 108, 97, 119, 115, 46, 70, 110, 85, 110, 105, 116, 115], [108, 111, 111, 112, 46, 101, 120, 97, 109, 112, 108, 101, 47, 103, 48, 49, 48, 48, 48, 47, 108, 97, 119, 115, 46, 70, 110, 82, 101, 115, 105, 100, 117, 97, 108, 70, 97, 99, 116, 111, 114, 115], [108, 111, 111, 112, 46, 101, 120, 97, 109, 112, 108, 101, 47, 103, 48, 49, 48, 48, 48, 47, 108, 97, 119, 115, 46, 70, 110, 69, 120, 97, 99, 116, 83, 112, 108, 105, 116, 116, 105, 110, 103, 115, 79, 102]].map fun w => w.map Char.ofNat
theorem zms : Tryz.checked.prog.initOrder = String.ofList zmr := by kernel_rfl
theorem zij : behindMainWord (wordsSigns Tryz.checked.prog.initOrder.toList) = zkS :: zkT := by rw [zms, String.toList_ofList]; kernel_rfl
theorem zgH {P : Program} {c : List Char} {rest : List (List Char)} (h0 : behindMainWord (wordsSigns P.initOrder.toList) = c :: rest) (h1 : (stripLifts liftWords (c :: rest)) = ([], c :: rest)) (h2 : (c == "cut".toList) = true)
  (h3 : P.laysLater = false) (h4 : P.bearsReflect = false) (h5 : P.doorFits [] = true) : P.mayEnter = true := by
 unfold Program.mayEnter;rw [h0];have e : (some c == some "cut".toList) = true := h2
 refine (Bool.or_eq_true _ _).mpr (.inr ?_);rw [h1, h3, h4, h5];show ((some c == some "cut".toList) && _ && _ && _ && _) = true
 rw [e]
 rfl
theorem zkU : stripLifts liftWords (zkS :: zkT) = ([], zkS :: zkT) := by kernel_rfl
theorem zl7 : Tryz.checked.prog.mayEnter = true := zgH zij zkU (by kernel_rfl) (by kernel_rfl) (by kernel_rfl) (by kernel_rfl)
theorem zfm {P : Program} {c : List Char} {rest : List (List Char)} (h0 : behindMainWord (wordsSigns P.initOrder.toList) = c :: rest) (h1 : stripLifts liftWords (c :: rest) = ([], c :: rest)) : P.headLifts = [] := by
 unfold Program.headLifts;rw [h0, h1];dsimp only
 split <;> rfl
theorem zdO {P : Program} {c : List Char} {rest : List (List Char)} (h0 : behindMainWord (wordsSigns P.initOrder.toList) = c :: rest) (hh : P.headLifts = []) (h2 : (c == "carried".toList) = false) : P.liftsFinal = false := by
 have e : (some c == some "carried".toList) = false := h2
 unfold Program.liftsFinal;rw [h0, hh];show (((some c == some "carried".toList) && _) || _) = false
 rw [e]
 rfl
theorem zlt {P : Program} {c : List Char} {rest : List (List Char)} (h0 : behindMainWord (wordsSigns P.initOrder.toList) = c :: rest) (h1 : (c == "gc".toList) = false) (h2 : (c == "spec".toList) = false) (h3 : (c == "cut".toList) = true) : P.make = some .cut := by
 unfold Program.make;rw [h0];dsimp only
 rw [h1, h2, h3]
 rfl
theorem zmt : Tryz.checked.prog.headLifts = [] := zfm zij zkU
theorem zmu : Tryz.checked.prog.liftsFinal = false := zdO zij zmt (by kernel_rfl)
theorem zmv : Tryz.checked.prog.make = some .cut := zlt zij (by kernel_rfl) (by kernel_rfl) (by kernel_rfl)

end Go.Proofs.YtlmckocbhcpmdaaGreat
