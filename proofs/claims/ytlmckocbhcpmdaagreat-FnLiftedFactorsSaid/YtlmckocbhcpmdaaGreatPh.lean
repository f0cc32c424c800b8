/- What the program's functions and the reference's return. No conditions. -/
import Derived.Test.YtlmckocbhcpmdaaGreatPf
import Derived.Test.YtlmckocbhcpmdaaGreatPg
namespace Go.Proofs.YtlmckocbhcpmdaaGreat
open Go Go.RowKit Go.Proofs

theorem zi6 (x : Int) (h0 : 0 <= x) (h1 : x <= 9223372036854775807) : Fn Tryz.prog 373 [.int .u64 x] (fun _ _ a => ∃ r : Int, a = .v (.int .i64 r)) := by
 refine ⟨⟨_, Tryz.func373, rfl, by decide⟩, fun D w vs hD hsz hrep => ?_⟩
 obtain ⟨v, rfl⟩ : ∃ v, vs = #[v] := by
  refine ⟨vs.getD 0 undef, Array.ext (by simpa using hsz) fun i h1 h2 => ?_⟩;obtain rfl : i = 0 := by simpa using h2
  simp [Array.getD, h1]
 have hv := yf (hrep 0 (by simp));have hv : v = .int .u64 x := hv;subst hv;refine (bitsLen_calls x w h0 (by omega)).mono ?_;rintro e w' ⟨rfl, rfl⟩;refine ⟨_, .v (.int .i64 (Lib.bitLen x.toNat)), w'.heap.size, rfl, Nat.le_refl _, ⟨_, rfl⟩, ?_, rfl, .int _ _, fun b hb => hb.elim⟩;exact Below.refl _ _

open Go Go.RowKit Go.Proofs Poly
set_option maxRecDepth 100000
set_option maxHeartbeats 8000000

variable {p : Int} [SP p]
theorem zi7 (bk n : Nat) (lim : Int) (h0 : Nat -> Poly p × Nat) (hn : n <= 12) (hd : ∀ i, i < n -> dg (h0 i).1 <= 1000000) (hdis : ∀ i j, i < n -> j < n -> (h0 i).1 = (h0 j).1 -> i = j) :
  MFn Tryz.prog 372 [.nil, .int .i64 0, .int .i64 n, .int .i64 lim, .func 327 []] 0 (.ownV 68 2 bk n fun j => vF (h0 j)) .dead
   (fun _ av x' t' => av = .v (.tup []) ∧ t' = .dead ∧ ∃ h : Nat -> Poly p × Nat, Mix n h0 h ∧ Ord h n ∧ x' = .ownV 68 2 bk n fun j => vF (h j)) := by
 refine zdV (cx := cx [0, 1, 2, 3, 4, 10, 11, 12, 13, 14, 15, 16, 17, 18, 19, 20, 25, 32, 39, 56, 75, 80, 97, 125, 1000000, 1000001]) Tryz.func372 rfl (by decide) Tryz.ntmps372 (Nat.le_of_ble_eq_true rfl) (Nat.le_of_ble_eq_true rfl) rfl rfl fun base hs0 O U hw v0 hb0 => ?_;refine wrs fun K hK => ?_;conv => whnf
 refine hK _ ?_;clear hK K;refine wrs fun K hK => ?_;conv => whnf
 refine hK _ (W.block (W.invH hs0 hb0 (fun m e => m = 0 ∧ e = [(0, .ownV 68 2 bk n fun j => vF (h0 j)), (1, .v (.int .i64 0)), (2, .v (.int .i64 n)), (3, .v (.int .i64 lim)), (4, .v (.func 327 [])), (vt, .dead), (vk, .keep O U hw 0 v0)]) _ _ (⟨rfl, rfl⟩) (by dsimp only; omega) (by repeat' first | refine And.intro ?_ ?_ | exact trivial | rfl | omega | exact .inl rfl | exact fun _ _ => rfl | exact fun _ _ h => h | assumption | exact fun i hi => (by obtain rfl : i = 0 := (by omega); rfl)) ?_));clear hK K;rintro m e ⟨rfl, rfl⟩;refine W.block ?_;refine wrs fun K hK => ?_;conv => whnf
 refine ⟨oo, ?_⟩;conv => whnf
 refine hK _ ?_;clear hK K;refine W.seqK fun K1 hK1 => wrs fun K hK => ?_;conv => whnf
 refine hK _ (W.cond ⟨fun h => ?_, fun h => ?_⟩) <;> clear hK K
 ·refine wrs fun K hK => ?_;conv => whnf
  refine ⟨⟨rfl, rfl⟩, ?_⟩;conv => whnf
  refine ⟨rfl, _, zct bk n h0 (by omega) hd hdis, ?_⟩;rintro hs' av x' t' hh ⟨rfl, rfl, h, hM, hO, rfl⟩ _ _ _;conv => whnf
  refine hK _ ?_;clear hK K;refine W.ret ?_;conv => whnf
  refine ⟨by dsimp only; omega, ?_⟩;conv => whnf
  exact ⟨.ownV 68 2 bk n fun j => vF (h j), ⟨rfl, rfl, rfl, rfl, fun _ _ => rfl⟩, .inr ⟨rfl, rfl⟩, .dead, trivial, rfl, rfl, rfl, rfl, h, hM, hO, rfl⟩
 ·exact absurd (of_decide_eq_false h) (by omega)

theorem zh3 (bk n : Nat) (h0 : Nat -> Poly p × Nat) (hn : n <= 12) (hd : ∀ i, i < n -> dg (h0 i).1 <= 1000000) (hdis : ∀ i j, i < n -> j < n -> (h0 i).1 = (h0 j).1 -> i = j) :
  MFn Tryz.prog 326 [.nil, .func 327 []] 0 (.ownV 68 2 bk n fun j => vF (h0 j)) .dead
   (fun _ av x' t' => av = .v (.tup []) ∧ t' = .dead ∧ ∃ h : Nat -> Poly p × Nat, Mix n h0 h ∧ Ord h n ∧ x' = .ownV 68 2 bk n fun j => vF (h j)) := by
 refine zdV (cx := cx [0, 1, 4, 1000000, 1000001]) Tryz.func326 rfl (by decide) Tryz.ntmps326 (Nat.le_of_ble_eq_true rfl) (Nat.le_of_ble_eq_true rfl) rfl rfl fun base hs0 O U hw v0 hb0 => ?_;refine wrs fun K hK => ?_;conv => whnf
 refine hK _ ?_;clear hK K;refine wrg ?_;conv => whnf
 refine ⟨⟨by omega, by constructor <;> omega⟩, ?_⟩;conv => whnf
 refine yR rfl (zi6 n (by omega) (by omega)) ?_;rintro lo hi hi' z h1 h2 h3 ⟨r, rfl⟩ _;try dsimp only at h1
 conv => whnf
 refine ⟨⟨rfl, rfl⟩, ?_⟩;conv => whnf
 refine ⟨rfl, _, zi7 bk n r h0 hn hd hdis, ?_⟩;rintro hs' av x' t' hh ⟨rfl, rfl, h, hM, hO, rfl⟩ _ _ _;conv => whnf
 refine ⟨by dsimp only; omega, ?_⟩;conv => whnf
 exact ⟨.ownV 68 2 bk n fun j => vF (h j), ⟨rfl, rfl, rfl, rfl, fun _ _ => rfl⟩, .inr ⟨rfl, rfl⟩, .dead, trivial, rfl, rfl, rfl, rfl, h, hM, hO, rfl⟩


def vFs {p : Int} [SP p] (F : List (Poly p × Nat)) : V := .vals none 2 F.length fun j => vF (F.getD j (0, 0))

theorem zjZ (g : Option Nat) (xs : List Int) : FnV 320 [.ints g xs] (.int .i64 xs.length) := by
 refine zf (zb [0, 2]) Tryz.func320 rfl (by decide) Tryz.ntmps320 (Nat.le_of_ble_eq_true rfl) fun base => ?_;refine wrs fun K hK => ?_;conv => whnf
 refine hK _ ?_;clear hK K;refine wrs fun K hK => ?_;conv => whnf
 refine hK _ ?_;clear hK K;refine W.ret ?_;conv => whnf
 exact ⟨.v (.int .i64 xs.length), ⟨rfl, rfl⟩, trivial, rfl⟩

theorem zh4 {p : Int} [SP p] {f : Poly p} {G : List (Poly p × Nat)} (hG : j1 f G) {h : Nat -> Poly p × Nat} (hM : Mix G.length (fun j => G.getD j (0, 0)) h) (hO : Ord h G.length) :
  zJ f ((List.range G.length).map h) := by
 refine ⟨?_, fun x => ?_⟩
 ·rw [List.pairwise_map];exact List.pairwise_lt_range.imp_of_mem (fun {a b} ha hb hab => hO a b hab (List.mem_range.1 hb))
 ·rw [<- hG.2, List.mem_map]
  constructor
  ·rintro ⟨i, hi, rfl⟩;obtain ⟨j, hj, e⟩ := (hM.mem (h i)).1 ⟨i, List.mem_range.1 hi, rfl⟩;have e : G.getD j (0, 0) = h i := e;rw [<- e, List.getD_eq_getElem?_getD, List.getElem?_eq_getElem hj];exact List.getElem_mem hj
  ·intro hx;obtain ⟨j, hj, e⟩ := List.getElem_of_mem hx;obtain ⟨i, hi, e'⟩ := (hM.mem x).2 ⟨j, hj, by show G.getD j (0, 0) = x; rw [List.getD_eq_getElem?_getD, List.getElem?_eq_getElem hj]; exact e⟩;exact ⟨i, List.mem_range.2 hi, e'⟩
theorem zmt {p : Int} [SP p] {f : Poly p} {G : List (Poly p × Nat)} (hG : j1 f G) : ∀ i j, i < G.length -> j < G.length -> (G.getD i (0, 0)).1 = (G.getD j (0, 0)).1 -> i = j := by
 intro i j hi hj e;have h1 := zbe hG.1 (i := i) (j := j) (by simpa using hi) (by simpa using hj);refine h1 ?_;simp only [List.getD_eq_getElem?_getD, List.getElem?_map, List.getElem?_eq_getElem hi, List.getElem?_eq_getElem hj] at e ⊢
 exact e
theorem zez {α : Type} (h : Nat -> α) (d : α) {n i : Nat} (hi : i < n) : ((List.range n).map h).getD i d = h i := by
 simp [List.getD_eq_getElem?_getD, hi]

theorem zcU {α : Type} {d x : α} {L : List α} {j : Nat} (h : j < L.length) : (L ++ [x]).getD j d = L.getD j d := by rw [zcn, if_pos h]
theorem zcV {α : Type} {d x : α} {L : List α} : (L ++ [x]).getD (L.length + 0) d = x := by rw [Nat.add_zero, zcn, if_neg (by omega), if_pos rfl]

theorem kL (p : Int) [SP p] : ∀ (d : Nat) (g : Option Nat) (f : Poly p), dg f <= d -> d <= 13 -> f ≠ 0 -> Fn Tryz.prog 204 [.int .i64 p, .ints g f.l] (fun _ _ z => ∃ F, zJ f F ∧ z = .v (vFs F))
 | 0, g, f, hd, _, hf0 => absurd (ze.1 (by omega)) hf0
 | d + 1, g, f, hd, hd13, hf0 => by
  have ih := kL p d;have hp := Pr.two (p := p);have hp2 := SP.le (p := p);have hm := jO hf0;have hmd : dg (mnc f) <= dg f := zF (yg f).1 hf0;generalize hr0 : mnc f = r0 at hm hmd;have hrl : r0.l.length = dg r0 := rfl;refine zf (zb [0, 1, 4, 5, 6, 7, 8, 11, 12, 13, 14, 15, 16, 18, 28, 41, 42, 43, 44, 58, 78, 82, 95, 96, 97, 98]) Tryz.func204 rfl (by decide) Tryz.ntmps204 (Nat.le_of_ble_eq_true rfl) fun base => ?_;refine wrs fun K hK => ?_;conv => whnf
  refine hK _ ?_;clear hK K;refine wrs fun K hK => ?_;conv => whnf
  refine hK _ ?_;clear hK K;refine wrs fun K hK => ?_;conv => whnf
  refine zh rfl (zh0 p g f (by omega)) fun hs_1 b_1 hh_1 hf_1 => ?_;try dsimp only at hh_1 hf_1
  conv => whnf
  rw [hr0];refine hK _ ?_;clear hK K;refine W.seqK fun K1 hK1 => ?_
  -- what is left, and the factors found
  have fin : ∀ (r : Poly p) (L : List (Poly p × Nat)) (bL : Nat) (s : S), Mon r -> dg r <= dg r0 -> der r = 0 -> L.length <= 12 -> (∀ F, j1 r F -> j1 r0 (L ++ F)) -> base <= s.hs ->
    zC s.env [(0, .v (.int .i64 p)), (4, .v .nil), (5, .ownV 68 2 bL L.length fun j => vF (L.getD j (0, 0))), (6, .v (.ints none r.l))] -> K1 s := by
   intro r L bL s hrm hrd hder hL12 hfac h5 h6;refine hK1 _ (W.weak (t := ⟨[(0, .v (.int .i64 p)), (4, .v .nil), (5, .ownV 68 2 bL L.length fun j => vF (L.getD j (0, 0))), (6, .v (.ints none r.l))], base⟩) ⟨h5, h6⟩ (Nat.le_refl _) ?_);clear hK1 h5 h6 s K1;have hrl : r.l.length = dg r := rfl;have hr1 : dg r ≠ 0 := fun e => hrm.1 (ze.1 e);refine W.seqK fun K1 hK1 => ?_
   -- the end: all factors are in the list
   have fin2 : ∀ (G : List (Poly p × Nat)) (bG : Nat) (s : S), j1 r0 G -> base <= s.hs -> zC s.env [(0, .v (.int .i64 p)), (4, .v .nil), (5, .ownV 68 2 bG G.length fun j => vF (G.getD j (0, 0)))] -> K1 s := by
    intro G bG s hG h5 h6;refine hK1 _ (W.weak (t := ⟨[(0, .v (.int .i64 p)), (4, .v .nil), (5, .ownV 68 2 bG G.length fun j => vF (G.getD j (0, 0)))], base⟩) ⟨h5, h6⟩ (Nat.le_refl _) ?_);clear hK1 h5 h6 s K1;have hfew := hG.few hm.1;refine wrs fun K hK => ?_;conv => whnf
    refine ⟨⟨rfl, rfl⟩, ?_⟩;conv => whnf
    refine ⟨rfl, _, zh3 bG G.length (fun j => G.getD j (0, 0)) (by omega) (fun i hi => ?_) (zmt hG), ?_⟩
    ·have h7 : G.getD i (0, 0) ∈ G := by rw [List.getD_eq_getElem?_getD, List.getElem?_eq_getElem hi]; exact List.getElem_mem hi
     obtain ⟨a1, a2, a3, a4⟩ := (hG.2 _).1 h7;have := zF (a4.dvd a3) hm.1;show dg (G.getD i (0, 0)).1 <= 1000000
     omega
    rintro hs' av x' t' hh ⟨rfl, rfl, h, hM, hO, rfl⟩ _ _ _;try dsimp only at hh
    conv => whnf
    refine hK _ ?_;clear hK K;refine wrs fun K hK => ?_;conv => whnf
    refine hK _ ?_;clear hK K;refine W.ret ?_;conv => whnf
    exact ⟨.v (vFs ((List.range G.length).map h)), ⟨rfl, rfl, by simp, fun i hi => congrArg vF (zez h (0, 0) hi).symm⟩, ⟨trivial, fun _ _ => ⟨trivial, trivial, trivial⟩⟩, _, zh4 (j1.mnc hf0 (hr0 ▸ hG)) hM hO, rfl⟩
   clear hK1;refine wrs fun K hK => ?_;conv => whnf
   rw [hrl];refine hK _ (W.cond ⟨fun h7 => ?_, fun h7 => ?_⟩) <;> clear hK K
   ·have h7 := of_decide_eq_true h7;refine wrs fun K hK => ?_;conv => whnf
    refine hK _ ?_;clear hK K;refine W.seqK fun K3 hK3 => ?_;refine wrs fun K hK => ?_;conv => whnf
    refine hK _ (W.block (W.invE (fun m e => ∃ (k bR : Nat), (m = dg r + p.toNat - k * p.toNat) ∧ k * p.toNat < dg r + p.toNat ∧ e = [(0, .v (.int .i64 p)), (4, .v .nil), (5, .ownV 68 2 bL L.length fun j => vF (L.getD j (0, 0))), (6, .v (.ints none r.l)), (15, .ownI 2 bR (mkL k fun i => cf r.l (i * p.toNat))), (16, .v (.int .i64 ((k * p.toNat : Nat) : Int)))]) _ _ ⟨0, 0, rfl, by omega, rfl⟩ (by dsimp only; omega) (by repeat' first | refine And.intro ?_ ?_ | exact trivial | rfl | omega | assumption | exact .inl rfl | exact .inr rfl | exact fun _ _ => rfl) ?_));clear hK K;rintro m e ⟨k, bR, hm', hk, rfl⟩;have hpn : ((p.toNat : Nat) : Int) = p := by omega
    have hk1 : (k + 1) * p.toNat = k * p.toNat + p.toNat := Nat.succ_mul _ _;have hk2 : (((k + 1) * p.toNat : Nat) : Int) = ((k * p.toNat : Nat) : Int) + p := by omega
    have hcfk : cf r.l (k * p.toNat) = cf r.l (k * p.toNat) := rfl;generalize hkp : k * p.toNat = kp at hm' hk hk1 hk2 hcfk;refine W.seqK fun K7 hK7 => ?_;refine wrs fun K hK => ?_;conv => whnf
    refine zd rfl (zjZ none r.l) fun hs' hhs => ?_;try dsimp only at hhs
    conv => whnf
    rw [hrl];refine hK _ (W.cond ⟨fun h8 => ?_, fun h8 => ?_⟩) <;> clear hK K
    ·have h8 := of_decide_eq_true h8;refine W.skip (hK7 _ ?_);clear hK7 K7;refine W.seqK fun K8 hK8 => W.block ?_;refine wrg ?_;conv => whnf
     refine ⟨oo, ?_⟩;conv => whnf
     rw [Int.toNat_natCast];have hkk : k <= kp := by rw [<- hkp]; exact Nat.le_mul_of_pos_right k (by omega)
     have hml : (mkL k fun i => cf r.l (i * p.toNat)).length = k := zS _ _;have hms : mkL (k + 1) (fun i => cf r.l (i * p.toNat)) = mkL k (fun i => cf r.l (i * p.toNat)) ++ [r.l.getD kp 0] := by rw [zbM, hkp]; rfl
     refine ⟨⟨rfl, by decide⟩, ?_⟩;conv => whnf
     intro b_4 hs_4 hh_4 hf_4;try dsimp only at hh_4 hf_4
     conv => whnf
     refine ⟨by dsimp only [List.length]; omega, ?_⟩;conv => whnf
     intro b_6 hs_6 hh_6 hf_6;try dsimp only at hh_6 hf_6
     conv => whnf
     refine hK8 _ ?_;clear hK8 K8;refine wrg ?_;conv => whnf
     refine ⟨oo, ?_⟩;conv => whnf
     refine ⟨_, _, ⟨k + 1, b_6, rfl, by omega, rfl⟩, by omega, by dsimp only; omega, ?_⟩;rw [hms];exact cvr
    ·have h8 := of_decide_eq_false h8;obtain ⟨R, hR1, hR2, hR3, hR4, hR5⟩ := zfJ (f := r) hrm hder (l := mkL k fun i => cf r.l (i * p.toNat)) (n := k) (zS _ _) (fun i hi => by rw [vI, if_pos hi]) (by omega) (by omega);rw [<- hR1];have hRf0 := hR2.1;have hRd := hR5 (by omega);refine W.exit (hK3 _ ?_);clear hK7 K7 hK3 K3;refine wrs fun K hK => ?_;conv => whnf
     refine yR rfl (ih _ R (by omega) (by omega) hRf0) ?_;rintro lo hi hi' z hl1 hl2 hl3 ⟨F, hF, rfl⟩ _;try dsimp only at hl1 hl2
     have hFf := hF.facs.few hRf0;have hG := hfac _ (j1.up hRf0 (n := p.toNat) (by omega) hR3 hF.facs);have hGl := hG.few hm.1;conv => whnf
     refine hK _ (W.block (W.invE (fun m e => ∃ (j bG : Nat), j <= F.length ∧ m = F.length - j ∧ e = [(0, .v (.int .i64 p)), (4, .v .nil), (5, .ownV 68 2 bG (L ++ (up p.toNat F).take j).length fun i => vF ((L ++ (up p.toNat F).take j).getD i (0, 0))), (95, .v (vFs F)), (96, .v (.int .i64 F.length)), (97, .v (.int .i64 j))]) _ _ ⟨0, bL, Nat.zero_le _, rfl, rfl⟩ (by dsimp only; omega) (by
      have e3 : L ++ (up p.toNat F).take 0 = L := List.append_nil _;rw [e3]
      repeat' first | refine And.intro ?_ ?_ | exact trivial | rfl | omega | assumption | exact .inl rfl | exact fun _ _ => rfl) ?_))
     clear hK K;rintro m e ⟨j, bG, hj, hm', rfl⟩;have hul : (up p.toNat F).length = F.length := List.length_map ..;refine wrs fun K hK => ?_;conv => whnf
     refine hK _ ?_;clear hK K;refine W.seqK fun K7 hK7 => W.cond ⟨fun h9 => ?_, fun h9 => ?_⟩ <;> (first | replace h9 := of_decide_eq_true h9 | replace h9 := of_decide_eq_false h9)
     ·have h9 : j < F.length := by omega
      have hxm : F.getD j (0, 0) ∈ F := by rw [List.getD_eq_getElem?_getD, List.getElem?_eq_getElem h9]; exact List.getElem_mem h9
      have hxu : (up p.toNat F).take (j + 1) = (up p.toNat F).take j ++ [((F.getD j (0, 0)).1, p.toNat * (F.getD j (0, 0)).2)] := by
       rw [List.take_add_one, List.getElem?_eq_getElem (by omega)];unfold up;simp [List.getElem_map, List.getD_eq_getElem?_getD, List.getElem?_eq_getElem h9]
      obtain ⟨a1, a2, a3, a4⟩ := (hF.2 _).1 hxm
      have hx2 : (F.getD j (0, 0)).2 < 14 := by
       obtain ⟨u, h5, h6⟩ := a4;have h10 := zck a1.1 (F.getD j (0, 0)).2;have h11 := zF (⟨u, h5⟩ : _ ∣ R) hRf0;omega
      generalize hx : F.getD j (0, 0) = x at hxm hxu a1 a2 a3 a4 hx2;have hpx : ((p.toNat * x.2 : Nat) : Int) = p * (x.2 : Int) := by rw [Int.natCast_mul, show ((p.toNat : Nat) : Int) = p by omega]
      have hpx2 : 0 <= p * (x.2 : Int) ∧ p * (x.2 : Int) <= 97 * 13 := ⟨Int.mul_nonneg (by omega) (by omega), Int.mul_le_mul (by omega) (by omega) (by omega) (by omega)⟩
      refine W.skip (hK7 _ ?_);clear hK7 K7;refine W.seqK fun K8 hK8 => W.block ?_;refine wrs fun K hK => ?_;conv => whnf
      refine ⟨oo, ?_⟩;conv => whnf
      rw [Int.toNat_natCast, hx];intro b_7 hs_7 hh_7 hf_7;try dsimp only at hh_7 hf_7
      conv => whnf
      refine ⟨s23, ?_⟩;conv => whnf
      refine hK _ ?_;clear hK K;refine wrg ?_;conv => whnf
      refine ⟨oo, ?_⟩;conv => whnf
      rw [<- hpx];refine ⟨⟨rfl, by decide, fun x hx => by simp at hx; subst hx; exact ⟨rfl, rfl⟩⟩, ?_⟩;conv => whnf
      intro b_8 hs_8 hh_8 hf_8;try dsimp only at hh_8 hf_8
      conv => whnf
      have hAl : (L ++ (up p.toNat F).take j).length <= 26 := by rw [List.length_append, List.length_take]; omega
      refine ⟨by omega, ?_⟩;conv => whnf
      refine ⟨fun i => vF ((L ++ (up p.toNat F).take j ++ [(x.1, p.toNat * x.2)]).getD i (0, 0)), fun i hi => congrArg vF (zcU hi), fun i hi => ?_, ?_⟩
      ·obtain rfl : i = 0 := by omega
       exact congrArg vF zcV
      intro b_9 hs_9 hh_9 hf_9;try dsimp only at hh_9 hf_9
      conv => whnf
      refine hK8 _ ?_;clear hK8 K8;refine wrg ?_;conv => whnf
      refine ⟨oo, ?_⟩;conv => whnf
      refine ⟨_, _, ⟨j + 1, b_9, by omega, rfl, rfl⟩, by omega, by dsimp only; omega, ?_⟩;rw [hxu, <- List.append_assoc, List.length_append (bs := [_])];exact cvr
     ·obtain rfl : j = F.length := by omega
      rw [List.take_of_length_le (by omega)];refine W.exit (fin2 _ bG _ hG (by dsimp only; omega) ?_);clear fin2 hK7 K7;exact cvr
   ·have h7 := of_decide_eq_false h7;have hu := hfac [] (j1.unit (by omega));rw [List.append_nil] at hu;refine W.skip (fin2 L bL _ hu (by dsimp only; omega) ?_);clear fin2;exact cvr
  clear hK1;refine wrs fun K hK => ?_;conv => whnf
  refine zd rfl (zeZ _ r0.l ((yV r0).le (by omega)) (by omega)) fun hs' hhs => ?_;try dsimp only at hhs
  conv => whnf
  refine zh rfl (zq p (by omega) (by omega) none (mkL (r0.l.length - 1) (dv (cf r0.l))) (fun j => by rw [vI]; split; (rename_i hj; have hc := kn r0 (j + 1); have h8 := Int.mul_nonneg (by omega : (0 : Int) <= (j : Int) + 1) hc.1; have h9 := Int.mul_le_mul (by omega : (j : Int) + 1 <= 13) (by omega : cf r0.l (j + 1) <= 97) hc.1 (by omega); unfold dv; omega); omega) (by rw [zS]; omega)) fun hs_2 b_2 hh_2 hf_2 => ?_;try dsimp only at hh_2 hf_2
  conv => whnf
  rw [znB];refine hK _ ?_;clear hK K;refine wrs fun K hK => ?_;conv => whnf
  have hdl : (der r0).l.length = dg (der r0) := rfl;rw [hdl];refine hK _ (W.cond ⟨fun h => ?_, fun h => ?_⟩) <;> clear hK K
  ·have h := of_decide_eq_true h;have hd0 : der r0 ≠ 0 := fun e => by rw [e, zr] at h; omega
   obtain ⟨s1, s2, s3, s4, s5, s6, s7⟩ := zjS hm hd0;refine wrs fun K hK => ?_;conv => whnf
   refine zh rfl (zfN p _ _ r0 (der r0) (by omega) (by have := zcj hm.1; omega)) fun hs_3 b_3 hh_3 hf_3 => ?_;try dsimp only at hh_3 hf_3
   conv => whnf
   refine zd rfl (xZ p _ _ r0 (gcd r0 (der r0)) (by omega) (by have := zF s6 hd0; have := zcj hm.1; omega) s7) fun hs' hhs => ?_;try dsimp only at hhs
   conv => whnf
   generalize hq : quo r0 (gcd r0 (der r0)) = q at s1 s2 s3 s4 s5;generalize gcd r0 (der r0) = c at s1 s6 s7;refine hK _ ?_;clear hK K;refine wrs fun K hK => ?_;conv => whnf
   refine yR rfl (zms p q s2 s3 s4 (by omega)) ?_;rintro lo hi hi' z hl1 hl2 hl3 ⟨P, hP, rfl⟩ _;have hPf := hP.few (f := q) s2.1;try dsimp only at hl1 hl2
   conv => whnf
   refine hK _ (W.block (W.invE (fun m e => ∃ (k bL : Nat) (r : Poly p) (L : List (Poly p × Nat)), Peel r0 P k r L ∧ dg r <= dg r0 ∧ m = P.length - k ∧ e = [(0, .v (.int .i64 p)), (4, .v .nil), (5, .ownV 68 2 bL L.length fun j => vF (L.getD j (0, 0))), (6, .v (.ints none r.l)), (41, .v (vPs P)), (42, .v (.int .i64 P.length)), (43, .v (.int .i64 k))]) _ _ ⟨0, 0, r0, [], Peel.start hm P, Nat.le_refl _, rfl, rfl⟩ (by dsimp only; omega) (by repeat' first | refine And.intro ?_ ?_ | exact trivial | rfl | omega | assumption | exact .inl rfl | exact .inr rfl | exact fun _ _ => rfl) ?_));clear hK K;rintro m e ⟨k, bL, r, L, hpe, hrd, hm', rfl⟩;refine wrs fun K hK => ?_;conv => whnf
   refine hK _ ?_;clear hK K;refine W.seqK fun K7 hK7 => W.cond ⟨fun h2 => ?_, fun h2 => ?_⟩ <;> (first | replace h2 := of_decide_eq_true h2 | replace h2 := of_decide_eq_false h2)
   ·have h2 : k < P.length := by omega
    have hmem : P.getD k 0 ∈ P := by rw [List.getD_eq_getElem?_getD, List.getElem?_eq_getElem h2]; exact List.getElem_mem h2
    obtain ⟨hgi, hgm, hgd⟩ := (hP.2 _).1 hmem;have hgd0 : P.getD k 0 ∣ r0 := dvd_trans hgd ⟨c, s1⟩;have hgdg := zF hgd0 hm.1;have step := fun n r' he hn => hpe.step (n := n) (r' := r') hP.1 h2 hgi hgm hgd0 he hn;generalize hgq : P.getD k 0 = q1 at hgi hgm hgd hgd0 hgdg step;have hlen := hpe.len;refine W.skip (hK7 _ ?_);clear hK7 K7;refine W.seqK fun K8 hK8 => W.block ?_;refine wrs fun K hK => ?_;conv => whnf
    refine ⟨oo, ?_⟩;conv => whnf
    have e1 : (fun j => V.ints none (P.getD j 0).l) (k : Int).toNat = .ints none q1.l := by rw [Int.toNat_natCast]; show V.ints none (P.getD k 0).l = _; rw [hgq]
    rw [e1];conv => whnf
    refine hK _ ?_;clear hK K;refine wrs fun K hK => ?_;conv => whnf
    intro b_9 hs_9 hh_9 hf_9;try dsimp only at hh_9 hf_9
    conv => whnf
    refine ⟨s23, ?_⟩;conv => whnf
    refine hK _ ?_;clear hK K
    have hpow : ∀ {n : Nat} {rc : Poly p}, r = q1 ^ n * rc -> n < 14 ∧ rc ≠ 0 ∧ dg rc <= dg r := fun {n rc} he => by
     have h5 := zck hgi.1 n;have h6 := zF (⟨rc, he⟩ : q1 ^ n ∣ r) hpe.mon.1;have h7 : rc ∣ r := ⟨q1 ^ n, by rw [he]; exact ji _ _⟩
     exact ⟨by omega, zd2 h7 hpe.mon.1, zF h7 hpe.mon.1⟩
    refine W.seqK fun K2 hK2 => ?_;refine wrs fun K hK => ?_;conv => whnf
    refine zd rfl (xZ p _ _ r q1 (by omega) (by omega) hgi.ne) fun hs' hhs => ?_;try dsimp only at hhs
    conv => whnf
    refine hK _ (W.block (W.invE (fun m e => ∃ (n : Nat) (rc : Poly p), r = q1 ^ n * rc ∧ m = dg rc ∧ e = [(0, .v (.int .i64 p)), (4, .v .nil), (5, .ownV 68 2 bL L.length fun j => vF (L.getD j (0, 0))), (6, .v (.ints none rc.l)), (11, .v (.ints none q1.l)), (12, .ownB b_9 (.agg [.ints none q1.l, .int .i64 n])), (13, .v (.ints none (quo rc q1).l)), (14, .v (.ints none (rem rc q1).l)), (41, .v (vPs P)), (42, .v (.int .i64 P.length)), (43, .v (.int .i64 k))]) _ _ ⟨0, r, by rw [zw]; exact zg [r] (by rfl), rfl, rfl⟩ (by dsimp only; omega) (by repeat' first | refine And.intro ?_ ?_ | exact trivial | rfl | omega | assumption | exact .inl rfl | exact .inr rfl | exact fun _ _ => rfl) ?_));clear hK K;rintro m2 e ⟨n, rc, he, hm2, rfl⟩;obtain ⟨hn14, hrc0, hrcd⟩ := hpow he;have hreml : (rem rc q1).l.length = dg (rem rc q1) := rfl;refine W.seqK fun K7 hK7 => wrs fun K hK => ?_;conv => whnf
    refine hK _ (W.cond ⟨fun h3 => ?_, fun h3 => ?_⟩) <;> clear hK K <;> (first | replace h3 := of_decide_eq_true h3 | replace h3 := of_decide_eq_false h3)
    ·have hrem : rem rc q1 = 0 := ze.1 (by omega)
     have hdiv : rc = quo rc q1 * q1 := by
      have h5 := vK rc q1;rw [hrem] at h5;have e : ∀ a : Poly p, a + 0 = a := fun a => by exact zg [a] (by rfl)
      rw [e] at h5; exact h5
     have hq0 : quo rc q1 ≠ 0 := fun e => hrc0 (by rw [hdiv, e]; exact zg [q1] (by rfl));have hdgq := yQ hq0 hgi.ne;rw [<- hdiv] at hdgq;have hg2 := hgi.1;refine W.skip (hK7 _ ?_);clear hK7 K7;refine W.seqK fun K8 hK8 => W.block ?_;refine wrs fun K hK => ?_;conv => whnf
     refine hK _ ?_;clear hK K;refine wrg ?_;conv => whnf
     refine ⟨oo, ?_⟩;conv => whnf
     refine ⟨⟨(by show 1 + 1 <= 2; omega), rfl⟩, ?_⟩;conv => whnf
     refine hK8 _ ?_;clear hK8 K8;refine wrg ?_;conv => whnf
     refine zd rfl (xZ p _ _ (quo rc q1) q1 (by omega) (by omega) hgi.ne) fun hs' hhs => ?_;try dsimp only at hhs
     conv => whnf
     exact zo ⟨n + 1, quo rc q1, by rw [he, zi]; exact comb (q1 ^ n) hdiv (zg [rc, q1, quo rc q1, q1 ^ n] (by rfl)), rfl, rfl⟩
    ·have hnd : ¬ q1 ∣ rc := fun hd => by
      have := (zal hgi.ne).1 hd;have : dg (rem rc q1) = 0 := by rw [this]; exact zr
      omega
     refine W.exit (hK2 _ ?_);clear hK7 K7 hK2 K2;refine wrg ?_;conv => whnf
     refine ⟨⟨rfl, by decide, fun x hx => by simp at hx; subst hx; exact ⟨rfl, rfl⟩⟩, ?_⟩;conv => whnf
     intro b_5 hs_5 hh_5 hf_5;try dsimp only at hh_5 hf_5
     conv => whnf
     refine ⟨by omega, ?_⟩;conv => whnf
     refine ⟨fun i => vF ((L ++ [(q1, n)]).getD i (0, 0)), fun i hi => congrArg vF (zcU hi), fun i hi => ?_, ?_⟩
     ·obtain rfl : i = 0 := by omega
      exact congrArg vF zcV
     intro b_6 hs_6 hh_6 hf_6;try dsimp only at hh_6 hf_6
     conv => whnf
     refine hK8 _ ?_;clear hK8 K8;refine wrg ?_;conv => whnf
     refine ⟨oo, ?_⟩;conv => whnf
     refine ⟨_, _, ⟨k + 1, b_6, rc, L ++ [(q1, n)], step n rc he hnd, by omega, rfl, rfl⟩, by omega, by dsimp only; omega, ?_⟩;rw [List.length_append (bs := [_])];exact cvr
   ·obtain rfl : k = P.length := by have := hpe.le; omega
    refine W.exit (fin r L bL _ hpe.mon hrd (hpe.fin hm hP s1 s6).1 (by have := hpe.len; omega) (fun F hF => hpe.facs hm hP s1 s6 hF) (by dsimp only; omega) ?_);clear fin hK7 K7;exact cvr
  ·have h := of_decide_eq_false h;have hd0 : der r0 = 0 := ze.1 (by omega);refine W.skip (fin r0 [] 0 _ hm (Nat.le_refl _) hd0 (by simp) (fun F hF => hF) (by dsimp only; omega) ?_);clear fin;exact cvr



structure MatR (tb : Nat -> Option (List Int)) (bl : Nat -> Nat) (n m : Nat) (R : Nat -> Nat -> Int) : Prop where
 inj : ∀ i j, i < n -> j < n -> bl i = bl j -> i = j
 row : ∀ i, i < n -> ∃ l, tb (bl i) = some l ∧ l.length = m ∧ ∀ x, x < m -> cf l x = R i x
theorem MatR.store {tb : Nat -> Option (List Int)} {bl : Nat -> Nat} {n m : Nat} {R : Nat -> Nat -> Int} (h : MatR tb bl n m R) {i x : Nat} (hi : i < n) (hx : x < m) {l : List Int} (hl : tb (bl i) = some l) (v : Int) :
  MatR (yJ tb (bl i) (l.set x v)) bl n m (fun a y => if a = i ∧ y = x then v else R a y) := by
 refine ⟨h.inj, fun a ha => ?_⟩;obtain ⟨l1, h1, h2, h3⟩ := h.row a ha
 by_cases he : a = i
 ·subst he;rw [hl] at h1;cases h1
  refine ⟨l.set x v, xa _ _ _, by simpa using h2, fun y hy => ?_⟩;rw [yH (by omega)]
  by_cases hyx : y = x
  ·simp [hyx]
  ·simp [hyx, h3 y hy]
 ·have hne : bl a ≠ bl i := fun e => he (h.inj a i ha hi e);refine ⟨l1, by rw [xA _ _ hne]; exact h1, h2, fun y hy => ?_⟩;simp [he, h3 y hy]
theorem MatR.congr {tb : Nat -> Option (List Int)} {bl : Nat -> Nat} {n m : Nat} {R R' : Nat -> Nat -> Int} (h : MatR tb bl n m R) (he : ∀ i x, i < n -> x < m -> R i x = R' i x) : MatR tb bl n m R' :=
 ⟨h.inj, fun i hi => by obtain ⟨l, h1, h2, h3⟩ := h.row i hi; exact ⟨l, h1, h2, fun x hx => by rw [h3 x hx, he i x hi hx]⟩⟩

def vU (b : Bool) : V := bif b then .tr else .bool false
theorem Half.used {p : Int} {n : Nat} {M : Nat -> Nat -> Int} {col : Nat} {u u' : Nat -> Prop} {L T : Nat -> Nat -> Int} (h : Half p n M col u L T) (e : ∀ k, u k ↔ u' k) : Half p n M col u' L T :=
 (funext fun k => propext (e k) : u = u') ▸ h
def vz (p : Int) (R : Nat -> Nat -> Int) (q : Nat -> Int) (a i k x : Nat) : Int := if k < i ∧ k ≠ a then (R k x - q k * R a x) % p else R k x
noncomputable def kV {p : Int} [SP p] (f : Poly p) (n : Nat) (i x : Nat) : Int := if x < n then cf (zam f i).l x else if x = n + i then 1 else 0

theorem zgI (p : Int) [SP p] (g : Option Nat) (f : Poly p) (n : Nat) (hf : dg f = n + 1) (hn0 : 1 <= n) (hn : n <= 400) :
    Fn Tryz.prog 403 [.int .i64 p, .ints g f.l] (fun _ _ z => ∃ v : Poly p, z = .v (.ints none v.l) ∧ ((2 <= dg v ∧ dg v <= n ∧ Ber f v) ∨ (v = 0 ∧ ∀ w, dg w <= n -> Ber f w -> dg w <= 1))) := by
  have hp := Pr.two (p := p);have hp2 := SP.le (p := p);have hfl : f.l.length = n + 1 := hf;have hf0 : f ≠ 0 := fun e => by rw [e, zr] at hf; omega
  have e2n : (2 : Int) * (n : Int) = ((2 * n : Nat) : Int) := by omega
  refine zf (zm [0, 1, 4, 5, 6, 7, 8, 9, 10, 11, 12, 13, 14, 15, 16, 17, 18, 19, 20, 27, 43, 76, 81, 98, 101, 116, 131, 146, 176, 195, 1000000]) Tryz.func403 rfl (by decide) Tryz.ntmps403 (Nat.le_of_ble_eq_true rfl) fun base => ?_;refine W.tab0 rfl ?_;refine W.rs (zm _) (by rfl) fun K hK => ?_;conv => whnf
  refine hK _ ?_;clear hK K;refine W.rs (zm _) (by rfl) fun K hK => ?_;conv => whnf
  rw [hfl];refine ⟨oo, ?_⟩;conv => whnf
  have e0 : (((n + 1 : Nat) : Int) - 1) = n := by omega
  rw [e0];refine hK _ ?_;clear hK K;refine W.rs (zm _) (by rfl) fun K hK => ?_;conv => whnf
  refine ⟨⟨rfl, by decide, fun x hx => by simp at hx⟩, ?_⟩;conv => whnf
  intro b_0 hs_0 hh_0 hf_0;try dsimp only at hh_0 hf_0
  conv => whnf
  refine hK _ ?_;clear hK K;refine W.seqK fun K1 hK1 => ?_;refine W.rs (zm _) (by rfl) fun K hK => ?_;conv => whnf
  refine hK _ (W.block (W.inv (fun m s => ∃ (i hs ba : Nat) (bl : Nat -> Nat) (tb : Nat -> Option (List Int)), i <= n ∧ base <= hs ∧ (∀ j, j < i -> bl j < hs) ∧ MatR tb bl i (2 * n) (kV f n) ∧ m = n - i ∧
    s = ⟨[(0, .v (.int .i64 p)), (1, .v (.ints g f.l)), (5, .v (.int .i64 n)), (6, .ownV 24 1 ba i fun j => .rf (bl j) (2 * n)), (7, .v (.int .i64 i)), (vt, .tab tb)], hs⟩) _ _
    ⟨0, base, b_0, fun _ => 0, fun _ => none, Nat.zero_le _, Nat.le_refl _, fun j hj => by omega, ⟨fun i j hi => by omega, fun i hi => by omega⟩, rfl, rfl⟩ ⟨by dsimp only; omega, by repeat' first | refine And.intro ?_ ?_ | exact trivial | rfl | omega | assumption | exact fun _ _ => rfl | exact fun _ _ h => h | exact fun i hi => absurd hi (by omega)⟩
    (by rintro m s ⟨_, _, _, _, _, _, h, _, _, _, rfl⟩; exact h) ?_))
  clear hK K hh_0 hf_0;rintro m s ⟨i, hs, ba, bl, tb, hi, hhs, hlt, hM, hm, rfl⟩;refine W.seqK fun K7 hK7 => ?_;refine W.rs (zm _) (by rfl) fun K hK => ?_;conv => whnf
  refine hK _ (W.cond ⟨fun h2 => ?_, fun h2 => ?_⟩) <;> clear hK K
  · have h2 : i < n := by have := of_decide_eq_true h2; omega
    have epi : (i : Int) * p = ((p.toNat * i : Nat) : Int) := by rw [Int.natCast_mul, Int.mul_comm]; congr 1; omega
    have hpi : p.toNat * i <= 97 * 400 := Nat.mul_le_mul (by omega) (by omega);have hWl : (rem (X p ^ (p.toNat * i)) f).l.length = dg (rem (X p ^ (p.toNat * i)) f) := rfl;have hWd := zI (X p ^ (p.toNat * i)) hf0;refine W.skip (hK7 _ ?_);clear hK7 K7;refine W.seqK fun K8 hK8 => W.block ?_;refine W.rs (zm _) (by rfl) fun K hK => ?_;conv => whnf
    refine ⟨oo, ?_⟩;conv => whnf
    rw [e2n];refine ⟨rfl, ?_⟩;conv => whnf
    refine ⟨oo, ?_⟩;conv => whnf
    rw [Int.toNat_natCast];intro b_8 hs_8 hh_8 hf_8;try dsimp only at hh_8 hf_8
    conv => whnf
    refine hK _ ?_;clear hK K;refine W.rs (zm _) (by rfl) fun K hK => ?_;conv => whnf
    refine ⟨⟨rfl, by decide⟩, ?_⟩;conv => whnf
    intro b_x hs_x hh_x hf_x;try dsimp only at hh_x hf_x
    conv => whnf
    refine ⟨by rw [epi]; constructor <;> omega, ?_⟩;conv => whnf
    rw [epi];have ex : [(0 : Int), 1] = (X p).l := X_l.symm;rw [ex]
    have hXd : dg (X p) <= 1000000 := by
      have : (X p).l.length = 2 := by rw [X_l]; rfl
      show (X p).l.length <= _
      omega
    refine zd rfl (zh1 p _ g (X p) f (p.toNat * i) (by omega) hXd (by omega) hf0) fun hs' hhs => ?_;try dsimp only at hhs
    conv => whnf
    generalize hW : rem (X p ^ (p.toNat * i)) f = Wp at *;refine hK _ ?_;clear hK K;have hb8 := hf_8 (by omega);refine W.seqK fun K2 hK2 => ?_;refine W.rs (zm _) (by rfl) fun K hK => ?_;conv => whnf
    refine hK _ (W.block (W.invH hs_8 (by omega) (fun m e => ∃ (k : Nat) (l : List Int), k <= dg Wp ∧ l.length = 2 * n ∧ (∀ x, cf l x = if x < k then cf Wp.l x else 0) ∧ m = dg Wp - k ∧ e = [(0, .v (.int .i64 p)), (1, .v (.ints g f.l)), (5, .v (.int .i64 n)), (6, .ownV 24 1 ba i fun j => .rf (bl j) (2 * n)), (7, .v (.int .i64 i)), (8, .ownI 2 b_8 l), (9, .v (.ints none Wp.l)), (10, .v (.int .i64 k)), (vt, .tab tb)]) _ _ ⟨0, List.replicate (2 * n) 0, Nat.zero_le _, by simp, fun x => by rw [if_neg (by omega), zP], rfl, rfl⟩ (by dsimp only; omega) (by repeat' first | refine And.intro ?_ ?_ | exact trivial | rfl | omega | assumption | exact .inl rfl | exact fun _ _ => rfl | exact fun _ _ h => h) ?_));clear hK K;rintro m2 e ⟨k, l, hk, hll, hlc, hm2, rfl⟩;refine W.seqK fun K7 hK7 => ?_;refine W.rs (zm _) (by rfl) fun K hK => ?_;conv => whnf
    rw [hWl];refine hK _ (W.cond ⟨fun h3 => ?_, fun h3 => ?_⟩) <;> clear hK K
    · have h3 : k < dg Wp := by have := of_decide_eq_true h3; omega
      refine W.skip (hK7 _ ?_);clear hK7 K7;refine W.seqK fun K9 hK9 => W.block ?_;refine W.region (zm _) (by rfl) ?_;conv => whnf
      refine ⟨oo, ?_⟩;conv => whnf
      rw [Int.toNat_natCast];refine ⟨oo, ?_⟩;conv => whnf
      refine hK9 _ ?_;clear hK9 K9;refine W.region (zm _) (by rfl) ?_;conv => whnf
      refine ⟨oo, ?_⟩;conv => whnf
      have h4 : ∀ x, cf (l.set k (Wp.l.getD k 0)) x = if x < k + 1 then cf Wp.l x else 0 := fun x => by
        rw [yH (by omega)]
        by_cases c1 : x = k
        · subst c1; rw [if_pos rfl, if_pos (by omega)]; rfl
        · rw [if_neg c1, hlc]
          by_cases c2 : x < k
          · rw [if_pos c2, if_pos (by omega)]
          · rw [if_neg c2, if_neg (by omega)]
      exact zo ⟨k + 1, l.set k (Wp.l.getD k 0), by omega, by simpa using hll, h4, rfl, rfl⟩
    · have h3 : k = dg Wp := by have := of_decide_eq_false h3; omega
      subst h3;refine W.exit (hK2 _ ?_);clear hK7 K7 hK2 K2
      have hlw : ∀ x, cf l x = cf Wp.l x := fun x => by
        rw [hlc]; split
        · rfl
        · rw [zY (by omega)]
      have hrc := kn Wp i;have e1 : l.getD i 0 = cf Wp.l i := hlw i;refine W.rs (zm _) (by rfl) fun K hK => ?_;conv => whnf
      refine ⟨oo, ?_⟩;conv => whnf
      rw [Int.toNat_natCast, e1];refine ⟨oo, ?_⟩;conv => whnf
      refine zd rfl (jl _ p (by omega) (by omega) (by omega)) fun hs' hhs => ?_;try dsimp only at hhs
      conv => whnf
      refine ⟨oo, ?_⟩;conv => whnf
      refine hK _ ?_;clear hK K;refine W.rs (zm _) (by rfl) fun K hK => ?_;conv => whnf
      refine ⟨oo, ?_⟩;conv => whnf
      have e2 : (n : Int) + (i : Int) = ((n + i : Nat) : Int) := by omega
      rw [e2];refine ⟨⟨by omega, by simp; omega⟩, ?_⟩;conv => whnf
      refine hK _ ?_;clear hK K
      have hl2c : ∀ x, x < 2 * n -> cf ((l.set i ((cf Wp.l i - 1) % p)).set (n + i) 1) x = kV f n i x := fun x hx => by
        rw [yH (by simp; omega), yH (by omega)];unfold kV;have hke : ∀ a, cf (zam f i).l a = (cf Wp.l a - if a = i then 1 else 0) % p := fun a => by have := zgv f a i; rw [hW] at this; exact this
        by_cases c1 : x < n
        · rw [if_pos c1, if_neg (by omega), hke]
          by_cases c2 : x = i
          · subst c2; rw [if_pos rfl, if_pos rfl]
          · rw [if_neg c2, if_neg c2, Int.sub_zero, xy, hlw]
        · rw [if_neg c1]
          by_cases c2 : x = n + i
          · rw [if_pos c2, if_pos c2]
          · rw [if_neg c2, if_neg c2, if_neg (by omega), hlw, zY (by omega)]
      have hl2l : ((l.set i ((cf Wp.l i - 1) % p)).set (n + i) 1).length = 2 * n := by simpa using hll
      refine W.region (zm _) (by rfl) ?_;conv => whnf
      rw [Int.toNat_natCast, Int.toNat_natCast];generalize (l.set i ((cf Wp.l i - 1) % p)).set (n + i) 1 = l2 at hl2c hl2l;refine ⟨by omega, ?_⟩;conv => whnf
      rw [hl2l];refine ⟨⟨rfl, by decide, fun x hx => by simp at hx; subst hx; exact ⟨rfl, rfl⟩⟩, ?_⟩;conv => whnf
      intro b_9 hs_9 hh_9 hf_9;try dsimp only at hh_9 hf_9
      conv => whnf
      refine ⟨by omega, ?_⟩;conv => whnf
      refine ⟨fun j => .rf (if j < i then bl j else b_8) (2 * n), fun j hj => by show V.rf (if j < i then bl j else b_8) (2 * n) = V.rf (bl j) (2 * n); rw [if_pos hj], fun j hj => ?_, ?_⟩
      · obtain rfl : j = 0 := by omega
        show V.rf (if i + 0 < i then bl (i + 0) else b_8) (2 * n) = _
        rw [if_neg (by omega)]; rfl
      intro b_10 hs_10 hh_10 hf_10;try dsimp only at hh_10 hf_10
      conv => whnf
      refine hK8 _ ?_;clear hK8 K8;refine W.region (zm _) (by rfl) ?_;conv => whnf
      refine ⟨oo, ?_⟩;conv => whnf
      have hM' : MatR (yJ tb b_8 l2) (fun j => if j < i then bl j else b_8) (i + 1) (2 * n) (kV f n) := by
        refine ⟨fun j k hj hk he => ?_, fun j hj => ?_⟩
        · have he' : (if j < i then bl j else b_8) = (if k < i then bl k else b_8) := he
          split at he' <;> split at he'
          · exact hM.inj j k (by assumption) (by assumption) he'
          · have := hlt j (by assumption); omega
          · have := hlt k (by assumption); omega
          · omega
        · show ∃ l, yJ tb b_8 l2 (if j < i then bl j else b_8) = some l ∧ _
          by_cases c1 : j < i
          · have := hlt j c1
            rw [if_pos c1, xA _ _ (by omega)]; exact hM.row j c1
          · obtain rfl : j = i := by omega
            rw [if_neg c1];exact ⟨l2, xa _ _ _, hl2l, hl2c⟩
      refine ⟨_, _, ⟨i + 1, hs_8, b_10, fun j => if j < i then bl j else b_8, yJ tb b_8 l2, by omega, by omega, fun j hj => ?_, hM', rfl, rfl⟩, by omega, by dsimp only; omega, ?_⟩
      · show (if j < i then bl j else b_8) < hs_8
        split
        · have := hlt j (by assumption); omega
        · omega
      repeat' first | refine And.intro ?_ ?_ | exact trivial | rfl | omega | exact fun _ _ => rfl | exact fun _ _ h => h
  · obtain rfl : n = i := by have := of_decide_eq_false h2; omega
    refine W.exit (hK1 _ ?_);clear hK7 K7 hK1 K1;refine W.weak (t := ⟨[(0, .v (.int .i64 p)), (1, .v (.ints g f.l)), (5, .v (.int .i64 n)), (6, .ownV 24 1 ba n fun j => .rf (bl j) (2 * n)), (vt, .tab tb)], base⟩) ⟨by dsimp only; omega, ?_⟩ (Nat.le_refl _) ?_
    · repeat' first | refine And.intro ?_ ?_ | exact trivial | rfl | omega | assumption | exact fun _ _ => rfl | exact fun _ _ h => h
    clear hlt hhs hs
    have hS0 : ∀ i x, i < n -> x < 2 * n -> 0 <= kV f n i x ∧ kV f n i x < p := fun i x _ _ => by
      unfold kV;have := kn (zam f i) x
      split
      · exact this
      · split <;> omega
    have hH0 : Half p n (kV f n) 0 (fun k => (fun _ => false : Nat -> Bool) k = true) (kV f n) (fun i j => kV f n i (n + j)) := by
      have := Half.start p n (kV f n) (fun i j => kV f n i (n + j)) (fun i hi j hj => by
        show kV f n i (n + j) = _
        unfold kV;rw [if_neg (by omega)]
        by_cases c1 : i = j
        · rw [if_pos (by omega), if_pos c1]
        · rw [if_neg (by omega), if_neg c1])
      exact this.used fun k => ⟨fun h => h.elim, fun h => by cases h⟩
    refine W.rs (zm _) (by rfl) fun K hK => ?_;conv => whnf
    refine ⟨rfl, ?_⟩;conv => whnf
    refine ⟨oo, ?_⟩;conv => whnf
    rw [Int.toNat_natCast];intro b_11 hs_11 hh_11 hf_11;try dsimp only at hh_11 hf_11
    conv => whnf
    refine hK _ ?_;clear hK K;refine W.seqK fun K1 hK1 => ?_;refine W.rs (zm _) (by rfl) fun K hK => ?_;conv => whnf
    refine hK _ (W.block (W.invE (fun m e => ∃ (c bu : Nat) (tb : Nat -> Option (List Int)) (R : Nat -> Nat -> Int) (U : Nat -> Bool), c <= n ∧ MatR tb bl n (2 * n) R ∧ (∀ i x, i < n -> x < 2 * n -> 0 <= R i x ∧ R i x < p) ∧ Half p n (kV f n) c (fun k => U k = true) R (fun i j => R i (n + j)) ∧ m = n - c ∧ e = [(0, .v (.int .i64 p)), (1, .v (.ints g f.l)), (5, .v (.int .i64 n)), (6, .ownV 24 1 ba n fun j => .rf (bl j) (2 * n)), (11, .ownV 4 1 bu n fun j => vU (U j)), (12, .v (.int .i64 c)), (vt, .tab tb)]) _ _ ⟨0, b_11, tb, kV f n, fun _ => false, Nat.zero_le _, hM, hS0, hH0, rfl, rfl⟩ (by dsimp only; omega) (by repeat' first | refine And.intro ?_ ?_ | exact trivial | rfl | omega | assumption | exact .inl rfl | exact fun _ _ => rfl | exact fun _ _ h => h) ?_));clear hK K hM hH0 tb;rintro m e ⟨c, bu, tb, R, U, hc, hM, hR, hH, hm, rfl⟩;refine W.seqK fun K7 hK7 => ?_;refine W.rs (zm _) (by rfl) fun K hK => ?_;conv => whnf
    refine hK _ (W.cond ⟨fun h2 => ?_, fun h2 => ?_⟩) <;> clear hK K
    · have h2 : c < n := by have := of_decide_eq_true h2; omega
      refine W.skip (hK7 _ ?_);clear hK7 K7;refine W.seqK fun K8 hK8 => W.block ?_;refine W.rs (zm _) (by rfl) fun K hK => ?_;conv => whnf
      refine hK _ ?_;clear hK K;refine W.seqK fun K3 hK3 => ?_;refine W.rs (zm _) (by rfl) fun K hK => ?_;conv => whnf
      refine hK _ (W.block (W.invE (fun m e => ∃ (i : Nat), i <= n ∧ (∀ j, j < i -> U j = true ∨ R j c = 0) ∧ m = n - i ∧ e = [(0, .v (.int .i64 p)), (1, .v (.ints g f.l)), (5, .v (.int .i64 n)), (6, .ownV 24 1 ba n fun j => .rf (bl j) (2 * n)), (11, .ownV 4 1 bu n fun j => vU (U j)), (12, .v (.int .i64 c)), (13, .v (.int .i64 (-1))), (14, .v (.int .i64 i)), (vt, .tab tb)]) _ _ ⟨0, Nat.zero_le _, fun j hj => by omega, rfl, rfl⟩ (by dsimp only; omega) (by repeat' first | refine And.intro ?_ ?_ | exact trivial | rfl | omega | assumption | exact .inl rfl | exact fun _ _ => rfl | exact fun _ _ h => h) ?_));clear hK K;rintro m2 e ⟨i, hi, hno, hm2, rfl⟩
      -- what the search tells
      have fin : ∀ (t : Int) (s : S), ((t = -1 ∧ ∀ j, j < n -> U j = true ∨ R j c = 0) ∨ ∃ a : Nat, t = a ∧ a < n ∧ U a = false ∧ R a c ≠ 0) -> base <= s.hs -> zC s.env [(0, .v (.int .i64 p)), (1, .v (.ints g f.l)), (5, .v (.int .i64 n)), (6, .ownV 24 1 ba n fun j => .rf (bl j) (2 * n)), (11, .ownV 4 1 bu n fun j => vU (U j)), (12, .v (.int .i64 c)), (13, .v (.int .i64 t)), (vt, .tab tb)] -> K3 s := by
        intro t s ht h5 h6;refine hK3 _ (W.weak (t := ⟨[(0, .v (.int .i64 p)), (1, .v (.ints g f.l)), (5, .v (.int .i64 n)), (6, .ownV 24 1 ba n fun j => .rf (bl j) (2 * n)), (11, .ownV 4 1 bu n fun j => vU (U j)), (12, .v (.int .i64 c)), (13, .v (.int .i64 t)), (vt, .tab tb)], base⟩) ⟨h5, h6⟩ (Nat.le_refl _) ?_);clear hK3 h5 h6 s K3 hno;refine W.seqK fun K4 hK4 => ?_;refine W.rs (zm _) (by rfl) fun K hK => ?_;conv => whnf
        rcases ht with ⟨rfl, hz⟩ | ⟨a, rfl, ha, hUa, hne⟩
        · refine hK _ (W.cond ⟨fun _ => W.exit (hK8 _ ?_), fun h => absurd h (by decide)⟩)
          clear hK K hK4 K4 hK8 K8;refine W.region (zm _) (by rfl) ?_;conv => whnf
          refine ⟨oo, ?_⟩;conv => whnf
          exact zo ⟨c + 1, bu, tb, R, U, by omega, hM, hR, hH.skip (fun k hk hu => by rw [(hz k hk).resolve_left hu]; simp), rfl, rfl⟩
        · refine hK _ (W.cond ⟨fun h => absurd (of_decide_eq_true h) (by omega), fun _ => W.skip (hK4 _ ?_)⟩)
          clear hK K hK4 K4;obtain ⟨la, hla1, hla2, hla3⟩ := hM.row a ha;have e1 : la.getD c 0 = R a c := hla3 c (by omega);have hrc := hR a c ha (by omega);have hmod : R a c % p ≠ 0 := by rw [Int.emod_eq_of_lt hrc.1 hrc.2]; exact hne
          obtain ⟨hi1, hi2, hi3⟩ := y5 hmod;refine W.rs (zm _) (by rfl) fun K hK => ?_;conv => whnf
          refine ⟨oo, ?_⟩;conv => whnf
          rw [Int.toNat_natCast];refine ⟨⟨by show 0 + 1 <= 1; omega, rfl⟩, fun j => vU (if j = a then true else U j), by show vU (if a = a then true else U a) = ya (vU (U a)) 0 V.tr; rw [if_pos rfl, hUa]; rfl, fun j _ hj => by show vU (if j = a then true else U j) = vU (U j); rw [if_neg hj], ?_⟩;conv => whnf
          refine hK _ ?_;clear hK K;refine W.rs (zm _) (by rfl) fun K hK => ?_;conv => whnf
          refine ⟨oo, ?_⟩;conv => whnf
          rw [Int.toNat_natCast];refine ⟨oo, ?_⟩;conv => whnf
          rw [Int.toNat_natCast];refine ⟨la, hla1, by omega, ?_⟩;conv => whnf
          rw [e1];refine zd rfl (vQ p (R a c) hrc hmod) fun hs' hhs => ?_;try dsimp only at hhs
          conv => whnf
          generalize hiv : yd p (R a c) = iv at hi1 hi2 hi3;refine hK _ ?_;clear hK K;clear hla1 hla2 hla3 e1 la
          -- how often the row at a is taken from a row
          have hqf : ∃ qf : Nat -> Int, qf a = 0 ∧ (∀ i, i ≠ a -> qf i = R i c * iv % p) := ⟨fun i => if i = a then 0 else R i c * iv % p, if_pos rfl, fun i hi => if_neg hi⟩
          obtain ⟨qf, hq0, hq1⟩ := hqf
          have hqb : ∀ i, 0 <= qf i ∧ qf i < p := fun i => by
            by_cases c1 : i = a
            · rw [c1, hq0]; omega
            · rw [hq1 i c1]; exact ⟨Int.emod_nonneg _ (by omega), Int.emod_lt_of_pos _ (by omega)⟩
          have hpiv := hH.pivot (L' := fun k x => if k = a then R k x else (R k x - qf k * R a x) % p) (T' := fun k x => if k = a then R k (n + x) else (R k (n + x) - qf k * R a (n + x)) % p) (q := qf) h2 ha (by rw [hUa]; decide) hmod hq0 (fun i hi hia => by
              rw [hq1 i hia, Int.mul_comm, Int.mul_emod, Int.emod_emod_of_dvd _ (Int.dvd_refl p), <- Int.mul_emod];have : R a c * (R i c * iv) = R i c * (R a c * iv) := by rw [Int.mul_left_comm]
              rw [this, Int.mul_emod, hi3, Int.mul_one, Int.emod_emod_of_dvd _ (Int.dvd_refl p)])
            (fun i hi x hx => by
              show (if i = a then R i x else (R i x - qf i * R a x) % p) % p = _
              split
              · rename_i c1; rw [c1, hq0]; simp
              · exact Int.emod_emod_of_dvd _ (Int.dvd_refl p))
            (fun i hi x hx => by
              show (if i = a then R i (n + x) else (R i (n + x) - qf i * R a (n + x)) % p) % p = _
              split
              · rename_i c1; rw [c1, hq0]; simp
              · exact Int.emod_emod_of_dvd _ (Int.dvd_refl p))
          refine W.rs (zm _) (by rfl) fun K hK => ?_;conv => whnf
          refine hK _ (W.block (W.invE (fun m e => ∃ (i : Nat) (tb : Nat -> Option (List Int)), i <= n ∧ MatR tb bl n (2 * n) (vz p R qf a i) ∧ m = n - i ∧ e = [(0, .v (.int .i64 p)), (1, .v (.ints g f.l)), (5, .v (.int .i64 n)), (6, .ownV 24 1 ba n fun j => .rf (bl j) (2 * n)), (11, .ownV 4 1 bu n fun j => vU (if j = a then true else U j)), (12, .v (.int .i64 c)), (13, .v (.int .i64 a)), (15, .v (.int .i64 iv)), (16, .v (.int .i64 i)), (vt, .tab tb)]) _ _ ⟨0, tb, Nat.zero_le _, hM.congr fun k x _ _ => by unfold vz; rw [if_neg (by omega)], rfl, rfl⟩ (by dsimp only; omega) (by repeat' first | refine And.intro ?_ ?_ | exact trivial | rfl | omega | assumption | exact .inl rfl | exact fun _ _ => rfl | exact fun _ _ h => h) ?_));clear hK K hM tb;rintro m e ⟨i, tb, hi, hM, hm, rfl⟩;refine W.seqK fun K7 hK7 => ?_;refine W.rs (zm _) (by rfl) fun K hK => ?_;conv => whnf
          refine hK _ (W.cond ⟨fun h3 => ?_, fun h3 => ?_⟩) <;> clear hK K
          · have h3 : i < n := by have := of_decide_eq_true h3; omega
            refine W.skip (hK7 _ ?_);clear hK7 K7;refine W.seqK fun K9 hK9 => W.block ?_
            have fin9 : ∀ (tb' : Nat -> Option (List Int)) (s : S), MatR tb' bl n (2 * n) (vz p R qf a (i + 1)) -> base <= s.hs -> zC s.env [(0, .v (.int .i64 p)), (1, .v (.ints g f.l)), (5, .v (.int .i64 n)), (6, .ownV 24 1 ba n fun j => .rf (bl j) (2 * n)), (11, .ownV 4 1 bu n fun j => vU (if j = a then true else U j)), (12, .v (.int .i64 c)), (13, .v (.int .i64 a)), (15, .v (.int .i64 iv)), (16, .v (.int .i64 i)), (vt, .tab tb')] -> K9 s := by
              intro tb' s h4 h6 h7;refine hK9 _ (W.weak (t := ⟨[(0, .v (.int .i64 p)), (1, .v (.ints g f.l)), (5, .v (.int .i64 n)), (6, .ownV 24 1 ba n fun j => .rf (bl j) (2 * n)), (11, .ownV 4 1 bu n fun j => vU (if j = a then true else U j)), (12, .v (.int .i64 c)), (13, .v (.int .i64 a)), (15, .v (.int .i64 iv)), (16, .v (.int .i64 i)), (vt, .tab tb')], base⟩) ⟨h6, h7⟩ (Nat.le_refl _) ?_);clear hK9 K9 h6 h7;refine W.region (zm _) (by rfl) ?_;conv => whnf
              refine ⟨oo, ?_⟩;conv => whnf
              exact zo ⟨i + 1, tb', by omega, h4, rfl, rfl⟩
            clear hK9;obtain ⟨la, hla1, hla2, hla3⟩ := hM.row i h3;have e1 : la.getD c 0 = R i c := by have := hla3 c (by omega); unfold vz at this; rw [if_neg (by omega)] at this; exact this
            have hrci := hR i c h3 (by omega);refine W.seqK fun K4 hK4 => ?_;refine W.rs (zm _) (by rfl) fun K hK => ?_;conv => whnf
            refine ⟨fun h4 => ?_, fun h4 => ?_⟩ <;> conv => whnf
            · have h4 : i = a := by have := of_decide_eq_true h4; omega
              refine hK _ (W.condT rfl (W.exit (fin9 tb _ (hM.congr fun k x hk hx => ?_) (by dsimp only; omega) ?_)))
              · unfold vz
                by_cases c1 : k < i ∧ k ≠ a
                · rw [if_pos c1, if_pos (by omega)]
                · rw [if_neg c1, if_neg (by omega)]
              · clear hK K hK4 K4 fin9
                repeat' first | refine And.intro ?_ ?_ | exact trivial | rfl | omega | assumption | exact .inl rfl | exact fun _ _ => rfl | exact fun _ _ h => h
            · have h4 : i ≠ a := by have := of_decide_eq_false h4; omega
              refine ⟨oo, ?_⟩;conv => whnf
              rw [Int.toNat_natCast];refine ⟨oo, ?_⟩;conv => whnf
              rw [Int.toNat_natCast];refine ⟨la, hla1, by omega, ?_⟩;conv => whnf
              rw [e1];refine hK _ (W.cond ⟨fun h5 => ?_, fun h5 => ?_⟩) <;> clear hK K
              · have h5 : R i c = 0 := of_decide_eq_true h5
                refine W.exit (fin9 tb _ (hM.congr fun k x hk hx => ?_) (by dsimp only; omega) ?_)
                · unfold vz
                  by_cases c1 : k < i ∧ k ≠ a
                  · rw [if_pos c1, if_pos (by omega)]
                  · rw [if_neg c1]
                    by_cases c2 : k = i
                    · subst c2
                      have := hR k x hk hx;rw [if_pos (by omega), hq1 k h4, h5, Int.zero_mul, Int.zero_emod, Int.zero_mul, Int.sub_zero, Int.emod_eq_of_lt this.1 this.2]
                    · rw [if_neg (by omega)]
                · clear hK4 K4 fin9
                  repeat' first | refine And.intro ?_ ?_ | exact trivial | rfl | omega | assumption | exact .inl rfl | exact fun _ _ => rfl | exact fun _ _ h => h
              · have h5 : ¬ R i c = 0 := of_decide_eq_false h5
                have hml : 0 <= R i c * iv ∧ R i c * iv <= 97 * 97 := ⟨Int.mul_nonneg hrci.1 hi1, Int.mul_le_mul (by omega) (by omega) hi1 (by omega)⟩
                refine W.skip (hK4 _ ?_);clear hK4 K4;refine W.rs (zm _) (by rfl) fun K hK => ?_;conv => whnf
                refine ⟨oo, ?_⟩;conv => whnf
                rw [Int.toNat_natCast];refine ⟨oo, ?_⟩;conv => whnf
                rw [Int.toNat_natCast];refine ⟨la, hla1, by omega, ?_⟩;conv => whnf
                rw [e1];refine ⟨oo, ?_⟩;conv => whnf
                refine ⟨by omega, ?_⟩;conv => whnf
                rw [Int.tmod_eq_emod_of_nonneg hml.1, <- hq1 i h4];have hqi := hqb i;refine hK _ ?_;clear hK K;refine W.rs (zm _) (by rfl) fun K hK => ?_;conv => whnf
                refine hK _ (W.block (W.invE (fun m e => ∃ (j : Nat) (tb2 : Nat -> Option (List Int)), j <= 2 * n ∧ MatR tb2 bl n (2 * n) (fun k x => if k = i ∧ x < j then (R i x - qf i * R a x) % p else vz p R qf a i k x) ∧ m = 2 * n - j ∧ e = [(0, .v (.int .i64 p)), (1, .v (.ints g f.l)), (5, .v (.int .i64 n)), (6, .ownV 24 1 ba n fun j => .rf (bl j) (2 * n)), (11, .ownV 4 1 bu n fun j => vU (if j = a then true else U j)), (12, .v (.int .i64 c)), (13, .v (.int .i64 a)), (15, .v (.int .i64 iv)), (16, .v (.int .i64 i)), (17, .v (.int .i64 (qf i))), (18, .v (.int .i64 j)), (vt, .tab tb2)]) _ _ ⟨0, tb, Nat.zero_le _, hM.congr fun k x _ _ => by show _ = if k = i ∧ x < 0 then _ else _; rw [if_neg (by omega)], rfl, rfl⟩ (by dsimp only; omega) (by repeat' first | refine And.intro ?_ ?_ | exact trivial | rfl | omega | assumption | exact .inl rfl | exact fun _ _ => rfl | exact fun _ _ h => h) ?_));clear hK K hM hla1 hla2 hla3 e1 la tb;rintro m e ⟨j, tb, hj, hM, hm, rfl⟩;refine W.seqK fun K7 hK7 => ?_;refine W.rs (zm _) (by rfl) fun K hK => ?_;conv => whnf
                refine ⟨oo, ?_⟩;conv => whnf
                refine hK _ (W.cond ⟨fun h6 => ?_, fun h6 => ?_⟩) <;> clear hK K
                · have h6 : j < 2 * n := by have := of_decide_eq_true h6; omega
                  clear fin9;obtain ⟨la, hla1, hla2, hla3⟩ := hM.row i h3;obtain ⟨lb, hlb1, hlb2, hlb3⟩ := hM.row a ha
                  have e1 : la.getD j 0 = R i j := by
                    have := hla3 j h6;have this : cf la j = if i = i ∧ j < j then (R i j - qf i * R a j) % p else vz p R qf a i i j := this
                    unfold vz at this;rw [if_neg (by omega), if_neg (by omega)] at this; exact this
                  have e2 : lb.getD j 0 = R a j := by
                    have := hlb3 j h6;have this : cf lb j = if a = i ∧ j < j then (R i j - qf i * R a j) % p else vz p R qf a i a j := this
                    unfold vz at this;rw [if_neg (by omega), if_neg (by omega)] at this; exact this
                  have hr1 := hR i j h3 h6;have hr2 := hR a j ha h6;have hmq : 0 <= qf i * R a j ∧ qf i * R a j <= 97 * 97 := ⟨Int.mul_nonneg hqi.1 hr2.1, Int.mul_le_mul (by omega) (by omega) hr2.1 (by omega)⟩
                  refine W.skip (hK7 _ ?_);clear hK7 K7;refine W.seqK fun K9 hK9 => W.block ?_;refine W.draw (zm _) follows (by rfl) ?_;conv => whnf
                  refine ⟨oo, ?_⟩;conv => whnf
                  refine ⟨oo, ?_⟩;conv => whnf
                  refine ⟨oo, ?_⟩;conv => whnf
                  rw [Int.toNat_natCast, Int.toNat_natCast];refine ⟨la, hla1, by omega, ?_⟩;conv => whnf
                  refine ⟨oo, ?_⟩;conv => whnf
                  refine ⟨oo, ?_⟩;conv => whnf
                  rw [Int.toNat_natCast];refine ⟨lb, hlb1, by omega, ?_⟩;conv => whnf
                  rw [Int.toNat_natCast, e1, e2];refine ⟨oo, ?_⟩;conv => whnf
                  refine ⟨oo, ?_⟩;conv => whnf
                  refine ⟨_, cxmF (jl _ p (by omega) (by omega) (by omega)), ?_⟩;conv => whnf
                  refine ⟨oo, ?_⟩;conv => whnf
                  refine ⟨la, hla1, by omega, ?_⟩;conv => whnf
                  refine hK9 _ ?_;clear hK9 K9;refine W.region (zm _) (by rfl) ?_;conv => whnf
                  refine ⟨oo, ?_⟩;conv => whnf
                  have h7 := (hM.store h3 h6 hla1 ((R i j - qf i * R a j) % p)).congr (R' := fun k x => if k = i ∧ x < j + 1 then (R i x - qf i * R a x) % p else vz p R qf a i k x) fun k x hk hx => by
                    show (if k = i ∧ x = j then (R i j - qf i * R a j) % p else if k = i ∧ x < j then (R i x - qf i * R a x) % p else vz p R qf a i k x) = _
                    by_cases c1 : k = i
                    · by_cases c2 : x = j
                      · subst c2; rw [if_pos ⟨c1, rfl⟩, if_pos ⟨c1, by omega⟩]
                      · by_cases c3 : x < j
                        · rw [if_neg (by omega), if_pos ⟨c1, c3⟩, if_pos ⟨c1, by omega⟩]
                        · rw [if_neg (by omega), if_neg (by omega), if_neg (by omega)]
                    · rw [if_neg (by omega), if_neg (by omega), if_neg (by omega)]
                  exact zo ⟨j + 1, _, by omega, h7, rfl, rfl⟩
                · have h6 : j = 2 * n := by have := of_decide_eq_false h6; omega
                  subst h6;refine W.exit (fin9 tb _ (hM.congr fun k x hk hx => ?_) (by dsimp only; omega) ?_)
                  · show (if k = i ∧ x < 2 * n then (R i x - qf i * R a x) % p else vz p R qf a i k x) = _
                    by_cases c1 : k = i
                    · rw [if_pos ⟨c1, hx⟩]
                      unfold vz;rw [if_pos (by omega), c1]
                    · rw [if_neg (by omega)]
                      unfold vz
                      by_cases c2 : k < i ∧ k ≠ a
                      · rw [if_pos c2, if_pos (by omega)]
                      · rw [if_neg c2, if_neg (by omega)]
                  · clear fin9 hK7 K7
                    repeat' first | refine And.intro ?_ ?_ | exact trivial | rfl | omega | assumption | exact .inl rfl | exact fun _ _ => rfl | exact fun _ _ h => h
          · obtain rfl : n = i := by have := of_decide_eq_false h3; omega
            have hM2 := hM.congr (R' := fun k x => if k = a then R k x else (R k x - qf k * R a x) % p) fun k x hk hx => by
              show vz p R qf a n k x = if k = a then R k x else (R k x - qf k * R a x) % p
              unfold vz
              by_cases c1 : k = a
              · rw [if_neg (by omega), if_pos c1]
              · rw [if_pos ⟨hk, c1⟩, if_neg c1]
            have hR2 : ∀ i x, i < n -> x < 2 * n -> 0 <= (if i = a then R i x else (R i x - qf i * R a x) % p) ∧ (if i = a then R i x else (R i x - qf i * R a x) % p) < p := fun i x hi hx => by
              by_cases c1 : i = a
              · rw [if_pos c1]; exact hR i x hi hx
              · rw [if_neg c1]; exact ⟨Int.emod_nonneg _ (by omega), Int.emod_lt_of_pos _ (by omega)⟩
            have hH2 := hpiv.used (u' := fun k => (if k = a then true else U k) = true) fun k => by
              by_cases c1 : k = a
              · simp [c1]
              · simp [c1]
            refine W.exit (hK8 _ ?_);clear hK7 K7 hK8 K8;refine W.region (zm _) (by rfl) ?_;conv => whnf
            refine ⟨oo, ?_⟩;conv => whnf
            exact zo ⟨c + 1, bu, tb, _, fun j => if j = a then true else U j, by omega, hM2, hR2, hH2, rfl, rfl⟩
      clear hK3;refine W.seqK fun K7 hK7 => ?_;refine W.rs (zm _) (by rfl) fun K hK => ?_;conv => whnf
      refine hK _ (W.cond ⟨fun h3 => ?_, fun h3 => ?_⟩) <;> clear hK K
      · have h3 : i < n := by have := of_decide_eq_true h3; omega
        obtain ⟨la, hla1, hla2, hla3⟩ := hM.row i h3;refine W.skip (hK7 _ ?_);clear hK7 K7;refine W.seqK fun K9 hK9 => W.block ?_
        -- the round's end
        have fin9 : (U i = true ∨ R i c = 0) -> ∀ s : S, base <= s.hs -> zC s.env [(0, .v (.int .i64 p)), (1, .v (.ints g f.l)), (5, .v (.int .i64 n)), (6, .ownV 24 1 ba n fun j => .rf (bl j) (2 * n)), (11, .ownV 4 1 bu n fun j => vU (U j)), (12, .v (.int .i64 c)), (13, .v (.int .i64 (-1))), (14, .v (.int .i64 i)), (vt, .tab tb)] -> K9 s := by
          intro h5 s h6 h7;refine hK9 _ (W.weak (t := ⟨[(0, .v (.int .i64 p)), (1, .v (.ints g f.l)), (5, .v (.int .i64 n)), (6, .ownV 24 1 ba n fun j => .rf (bl j) (2 * n)), (11, .ownV 4 1 bu n fun j => vU (U j)), (12, .v (.int .i64 c)), (13, .v (.int .i64 (-1))), (14, .v (.int .i64 i)), (vt, .tab tb)], base⟩) ⟨h6, h7⟩ (Nat.le_refl _) ?_);clear hK9 K9 h6 h7;refine W.region (zm _) (by rfl) ?_;conv => whnf
          refine ⟨oo, ?_⟩;conv => whnf
          have h8 : ∀ j, j < i + 1 -> U j = true ∨ R j c = 0 := fun j hj => by
            by_cases hji : j = i
            · subst hji; exact h5
            · exact hno j (by omega)
          exact zo ⟨i + 1, by omega, h8, rfl, rfl⟩
        clear hK9;refine W.rs (zm _) (by rfl) fun K hK => ?_;conv => whnf
        refine ⟨oo, ?_⟩;conv => whnf
        have eU : (fun j => vU (U j)) (i : Int).toNat = vU (U i) := by rw [Int.toNat_natCast]
        rw [eU];cases hU : U i
        · conv => whnf
          refine ⟨fun _ => ?_, fun h => absurd h (by decide)⟩;conv => whnf
          refine ⟨oo, ?_⟩;conv => whnf
          rw [Int.toNat_natCast];refine ⟨oo, ?_⟩;conv => whnf
          rw [Int.toNat_natCast];refine ⟨la, hla1, by omega, ?_⟩;conv => whnf
          have e1 : la.getD c 0 = R i c := hla3 c (by omega);rw [e1];refine hK _ (W.cond ⟨fun h4 => ?_, fun h4 => ?_⟩) <;> clear hK K
          · have h4 : R i c ≠ 0 := of_decide_eq_true h4
            clear fin9;refine W.rs (zm _) (by rfl) fun K hK => ?_;conv => whnf
            refine hK _ ?_;clear hK K;refine W.exit (fin i _ (.inr ⟨i, rfl, h3, hU, h4⟩) (by dsimp only; omega) ?_);clear fin;exact cvr
          · have h4 : ¬ R i c ≠ 0 := of_decide_eq_false h4
            refine W.skip (fin9 (.inr (by omega)) _ (by dsimp only; omega) ?_);clear fin9 fin;exact cvr
        · conv => whnf
          refine hK _ (W.condF rfl (W.skip (fin9 (.inl hU) _ (by dsimp only; omega) ?_)));clear hK K fin9 fin;exact cvr
      · obtain rfl : n = i := by have := of_decide_eq_false h3; omega
        refine W.exit (fin (-1) _ (.inl ⟨rfl, hno⟩) (by dsimp only; omega) ?_);clear fin hK7 K7;exact cvr
    · obtain rfl : n = c := by have := of_decide_eq_false h2; omega
      refine W.exit (hK1 _ ?_);clear hK7 K7 hK1 K1
      have hrows : ∃ rows : Nat -> List Int, ∀ j, j < n -> tb (bl j) = some (rows j) ∧ (rows j).length = 2 * n ∧ ∀ x, x < 2 * n -> cf (rows j) x = R j x := ⟨fun j => (tb (bl j)).getD [], fun j hj => by
        obtain ⟨l, h3, h4, h5⟩ := hM.row j hj;exact ⟨by simp only [h3, Option.getD_some], by show ((tb (bl j)).getD []).length = _; rw [h3]; exact h4, by show ∀ x, x < 2 * n -> cf ((tb (bl j)).getD []) x = _; rw [h3]; exact h5⟩⟩
      obtain ⟨rows, hrows⟩ := hrows;refine W.thaw (i := 6) bl rows rfl rfl (fun j hj => ⟨by rw [(hrows j hj).2.1], (hrows j hj).1⟩) ?_;refine W.weak (t := ⟨[(0, .v (.int .i64 p)), (1, .v (.ints g f.l)), (5, .v (.int .i64 n)), (6, .ownV 24 1 ba n fun j => .ints none (rows j)), (11, .ownV 4 1 bu n fun j => vU (U j)), (vt, .tab fun _ => none)], base⟩) ⟨by dsimp only; omega, by repeat' first | refine And.intro ?_ ?_ | exact trivial | rfl | omega | assumption | exact fun _ _ => rfl | exact fun _ _ h => h⟩ (Nat.le_refl _) ?_
      have hvk : ∀ k, k < n -> zj ((rows k).drop n) = (of p (mkL n fun j => R k (n + j))).l := fun k hk => by
        refine yc (yU _) (of p _).ok.2 fun j => ?_;rw [yj, znf, zT, vI]
        by_cases c1 : j < n
        · have := hR k (n + j) hk (by omega)
          rw [if_pos c1, (hrows k hk).2.2 _ (by omega), Int.emod_eq_of_lt this.1 this.2]
        · rw [if_neg c1, zE (by have := (hrows k hk).2.1; omega)]; simp
      have hvd : ∀ k, dg (of p (mkL n fun j => R k (n + j))) <= n := fun k => by have := jA (p := p) (mkL n fun j => R k (n + j)); rw [zS] at this; exact this
      have hsm : ∀ (w : Nat -> Int) x, x < n -> zG (fun j => w j * kV f n j x) n = zG (fun j => cf (zam f j).l x * w j) n := fun w x hx => xT fun j _ => by
        unfold kV;rw [if_pos hx, Int.mul_comm]
      have hvb : ∀ k, k < n -> U k = false -> Ber f (of p (mkL n fun j => R k (n + j))) := fun k hk hu => by
        rw [zgq hf (hvd k)];intro x hx;rw [<- hsm _ x hx];have h3 := hH.free hk (by rw [hu]; decide) x hx;rw [<- h3];refine yZ p fun j hj => ?_;rw [zT, vI, if_pos hj, Int.mul_emod, Int.emod_emod_of_dvd _ (Int.dvd_refl p), <- Int.mul_emod]
      have hend : (∀ k, k < n -> U k = true ∨ dg (of p (mkL n fun j => R k (n + j))) <= 1) -> ∀ w : Poly p, dg w <= n -> Ber f w -> dg w <= 1 := fun h3 w hw hb => by
        refine kg fun j hj => ?_
        by_cases c1 : j < n
        · have h4 := hH.all (w := cf w.l) (fun x hx => by rw [hsm _ x hx]; exact (zgq hf hw).1 hb x hx) c1 (fun k hk hu => by
            have h5 := (h3 k hk).resolve_left hu;have h6 : cf (of p (mkL n fun j => R k (n + j))).l j = 0 := zY (by omega);rw [zT, vI, if_pos c1] at h6; exact h6)
          rw [xy] at h4; exact h4
        · exact zY (by omega)
      refine W.seqK fun K1 hK1 => ?_;refine W.rs (zm _) (by rfl) fun K hK => ?_;conv => whnf
      refine hK _ (W.block (W.invE (fun m e => ∃ (i : Nat), i <= n ∧ (∀ k, k < i -> U k = true ∨ dg (of p (mkL n fun j => R k (n + j))) <= 1) ∧ m = n - i ∧ e = [(0, .v (.int .i64 p)), (5, .v (.int .i64 n)), (6, .ownV 24 1 ba n fun j => .ints none (rows j)), (11, .ownV 4 1 bu n fun j => vU (U j)), (19, .v (.int .i64 i)), (vt, .tab fun _ => none)]) _ _ ⟨0, Nat.zero_le _, fun j hj => by omega, rfl, rfl⟩ (by dsimp only; omega) (by repeat' first | refine And.intro ?_ ?_ | exact trivial | rfl | omega | assumption | exact .inl rfl | exact fun _ _ => rfl | exact fun _ _ h => h) ?_));clear hK K;rintro m2 e ⟨i, hi, hno, hm2, rfl⟩;refine W.seqK fun K7 hK7 => ?_;refine W.rs (zm _) (by rfl) fun K hK => ?_;conv => whnf
      refine hK _ (W.cond ⟨fun h3 => ?_, fun h3 => ?_⟩) <;> clear hK K
      · have h3 : i < n := by have := of_decide_eq_true h3; omega
        refine W.skip (hK7 _ ?_);clear hK7 K7;refine W.seqK fun K9 hK9 => W.block ?_;refine W.rs (zm _) (by rfl) fun K hK => ?_;conv => whnf
        refine ⟨oo, ?_⟩;conv => whnf
        rw [Int.toNat_natCast];have hrl := (hrows i h3).2.1;refine ⟨⟨by omega, by omega, by omega⟩, ?_⟩;conv => whnf
        rw [Int.toNat_natCast, Int.toNat_natCast, List.take_length];refine zh rfl (yW none ((rows i).drop n) (by rw [List.length_drop]; omega)) fun hs_20 b_20 hh_20 hf_20 => ?_;try dsimp only at hh_20 hf_20
        conv => whnf
        rw [hvk i h3];have hber := hvb i h3;have hvd' := hvd i;generalize hv : of p (mkL n fun j => R i (n + j)) = v at hber hvd';have hvl : v.l.length = dg v := rfl;refine hK _ ?_;clear hK K
        -- the round's end
        have fin9 : (U i = true ∨ dg v <= 1) -> ∀ s : S, base <= s.hs -> zC s.env [(0, .v (.int .i64 p)), (5, .v (.int .i64 n)), (6, .ownV 24 1 ba n fun j => .ints none (rows j)), (11, .ownV 4 1 bu n fun j => vU (U j)), (19, .v (.int .i64 i)), (vt, .tab fun _ => none)] -> K9 s := by
          intro h5 s h6 h7;refine hK9 _ (W.weak (t := ⟨[(0, .v (.int .i64 p)), (5, .v (.int .i64 n)), (6, .ownV 24 1 ba n fun j => .ints none (rows j)), (11, .ownV 4 1 bu n fun j => vU (U j)), (19, .v (.int .i64 i)), (vt, .tab fun _ => none)], base⟩) ⟨h6, h7⟩ (Nat.le_refl _) ?_);clear hK9 K9 h6 h7;refine W.region (zm _) (by rfl) ?_;conv => whnf
          refine ⟨oo, ?_⟩;conv => whnf
          have h8 : ∀ k, k < i + 1 -> U k = true ∨ dg (of p (mkL n fun j => R k (n + j))) <= 1 := fun k hk => by
            by_cases c1 : k = i
            · subst c1; rw [hv]; exact h5
            · exact hno k (by omega)
          exact zo ⟨i + 1, by omega, h8, rfl, rfl⟩
        clear hK9;refine W.rs (zm _) (by rfl) fun K hK => ?_;conv => whnf
        refine ⟨oo, ?_⟩;conv => whnf
        have eU : (fun j => vU (U j)) (i : Int).toNat = vU (U i) := by rw [Int.toNat_natCast]
        rw [eU];cases hU : U i
        · conv => whnf
          refine ⟨fun _ => ?_, fun h => absurd h (by decide)⟩;conv => whnf
          rw [hvl];refine hK _ (W.cond ⟨fun h4 => ?_, fun h4 => ?_⟩) <;> clear hK K
          · have h4 := of_decide_eq_true h4
            clear fin9;refine W.weak (t := ⟨[(20, .v (.ints none v.l)), (vt, .tab fun _ => none)], base⟩) ⟨by dsimp only; omega, by repeat' first | refine And.intro ?_ ?_ | exact trivial | rfl | omega | assumption | exact .inl rfl | exact fun _ _ h => h⟩ (Nat.le_refl _) ?_;refine W.rs (zm _) (by rfl) fun K hK => ?_;conv => whnf
            refine hK _ ?_;clear hK K;refine W.ret ?_;conv => whnf
            exact ⟨.v (.ints none v.l), ⟨rfl, rfl⟩, trivial, v, rfl, .inl ⟨by omega, hvd', hber hU⟩⟩
          · have h4 := of_decide_eq_false h4
            refine W.skip (fin9 (.inr (by omega)) _ (by dsimp only; omega) ?_);clear fin9;exact cvr
        · conv => whnf
          refine hK _ (W.condF rfl (W.skip (fin9 (.inl hU) _ (by dsimp only; omega) ?_)));clear hK K fin9;exact cvr
      · obtain rfl : n = i := by have := of_decide_eq_false h3; omega
        refine W.exit (hK1 _ ?_);clear hK7 K7 hK1 K1;refine W.rs (zm _) (by rfl) fun K hK => ?_;conv => whnf
        refine hK _ ?_;clear hK K;refine W.ret ?_;conv => whnf
        exact ⟨.v (.ints none (0 : Poly p).l), rfl, trivial, 0, rfl, .inr ⟨rfl, hend hno⟩⟩


theorem zmu {α : Type} {d : α} {L M : List α} {j : Nat} (h : j < L.length) : (L ++ M).getD j d = L.getD j d := by
 simp [List.getD_eq_getElem?_getD, List.getElem?_append, h]
theorem zmv {α : Type} {d : α} {L M : List α} {j : Nat} : (L ++ M).getD (L.length + j) d = M.getD j d := by
 rw [List.getD_eq_getElem?_getD, List.getD_eq_getElem?_getD, List.getElem?_append_right (by omega), Nat.add_sub_cancel_left]

theorem zcW (p : Int) [SP p] : ∀ (d : Nat) (f : Poly p), dg f <= d -> d <= 400 -> Mon f -> Sqf f -> 2 <= dg f -> Fn Tryz.prog 376 [.int .i64 p, .ints none f.l] (fun _ _ z => ∃ P : List (Poly p), zbc f P ∧ z = .v (vPs P))
 | 0, f, hd, _, _, _, h2 => absurd h2 (by omega)
 | d + 1, f, hd, hd4, hm, hs, h2 => by
  have ih := zcW p d;have hp := Pr.two (p := p);have hp2 := SP.le (p := p);obtain ⟨n, hf⟩ : ∃ n, dg f = n + 1 := ⟨dg f - 1, by omega⟩
  refine zf (zb [0, 1, 4, 5, 6, 7, 8, 14, 20, 34]) Tryz.func376 rfl (by decide) Tryz.ntmps376 (Nat.le_of_ble_eq_true rfl) fun base => ?_;refine wrs fun K hK => ?_;conv => whnf
  refine hK _ ?_;clear hK K;refine wrs fun K hK => ?_;conv => whnf
  refine yR rfl (zgI p none f n hf (by omega) (by omega)) ?_;rintro lo hi hi' z hl1 hl2 hl3 ⟨v, rfl, hv⟩ _;try dsimp only at hl1 hl2
  have hvl : v.l.length = dg v := rfl;conv => whnf
  refine hK _ ?_;clear hK K;refine W.seqK fun K1 hK1 => ?_;refine wrs fun K hK => ?_;conv => whnf
  rw [hvl];refine hK _ (W.cond ⟨fun h => ?_, fun h => ?_⟩) <;> clear hK K
  ·have h := of_decide_eq_true h;obtain ⟨rfl, hv2⟩ := hv.resolve_left (by omega)
   have hirr : Irr f := zhI hm.1 hs (dvd_refl f) h2 fun w hw hb => ⟨cf w.l 0, by
    have := zch (hv2 w (by omega) hb);rw [<- this];have e : w - w = 0 := by exact zg [w] (by rfl)
    rw [e]; exact dvd_zero f⟩
   have hP : zbc f [f] := ⟨by simp, fun q => by
    rw [List.mem_singleton];exact ⟨fun e => by rw [e]; exact ⟨hirr, hm, dvd_refl f⟩, fun ⟨a, b, c⟩ => jB a hirr b hm c⟩⟩
   refine wrs fun K hK => ?_;conv => whnf
   refine ⟨⟨rfl, by decide, fun x hx => by simp at hx; subst hx; exact ⟨rfl, rfl⟩⟩, ?_⟩;conv => whnf
   intro b_2 hs_2 hh_2 hf_2;try dsimp only at hh_2 hf_2
   conv => whnf
   refine hK _ ?_;clear hK K;refine W.ret ?_;conv => whnf
   exact ⟨.v (vPs [f]), ⟨.inl rfl, rfl, rfl, fun i hi => by obtain rfl : i = 0 := (by omega); rfl⟩, ⟨trivial, fun _ _ => trivial⟩, [f], hP, rfl⟩
  ·have h := of_decide_eq_false h;obtain ⟨hv1, hv2, hv3⟩ := hv.resolve_right fun e => by have h9 : dg v = 0 := (by rw [e.1]; exact zr); omega
   refine W.skip (hK1 _ ?_);clear hK1 K1;refine wrs fun K hK => ?_;conv => whnf
   refine ⟨⟨rfl, by decide, fun x hx => by simp at hx⟩, ?_⟩;conv => whnf
   intro b_2 hs_2 hh_2 hf_2;try dsimp only at hh_2 hf_2
   conv => whnf
   refine hK _ ?_;clear hK K;refine W.seqK fun K1 hK1 => ?_;refine wrs fun K hK => ?_;conv => whnf
   refine hK _ (W.block (W.invE (fun m e => ∃ (s bO : Nat) (O : List (Poly p)), s <= p.toNat ∧ O.length <= s * 400 ∧ zbQ f v s O ∧ m = p.toNat - s ∧ e = [(0, .v (.int .i64 p)), (1, .v (.ints none f.l)), (5, .v (.ints none v.l)), (6, .ownV 24 1 bO O.length fun j => .ints none (O.getD j 0).l), (7, .v (.int .i64 s))]) _ _ ⟨0, b_2, [], Nat.zero_le _, by simp, zbQ.start f v, rfl, rfl⟩ (by dsimp only; omega) (by repeat' first | refine And.intro ?_ ?_ | exact trivial | rfl | omega | assumption | exact .inl rfl | exact fun _ _ => rfl | exact fun i hi => absurd hi (by omega)) ?_));clear hK K;rintro m e ⟨s, bO, O, hs1, hOl, hO, hm', rfl⟩;refine W.seqK fun K7 hK7 => ?_;refine wrs fun K hK => ?_;conv => whnf
   refine hK _ (W.cond ⟨fun h3 => ?_, fun h3 => ?_⟩) <;> clear hK K
   ·have h3 : (s : Int) < p := of_decide_eq_true h3;have hless := zmc hf hv1 hv2 (s : Int);have hgm := zbH (f := f) (g := v - con p (s : Int)) (.inl hm.1);have hgs := hs.dvd (vo f (v - con p (s : Int)));have hst := fun hd P hP => hO.step (P := P) h3 hd hP;have hsk := hO.skip
    have hsub : dg (v - con p (s : Int)) <= 1000 := by
     have := vJ v (con p (s : Int));have := vL (p := p) (s : Int);omega
    have hb1 : Bd 97 [(s : Int)] := fun i => by
     cases i with
     | zero => rw [zV]; omega
     | succ i => rw [zv, yq]; omega
    refine W.skip (hK7 _ ?_);clear hK7 K7;refine W.seqK fun K8 hK8 => W.block ?_;refine wrs fun K hK => ?_;conv => whnf
    refine ⟨⟨rfl, by decide⟩, ?_⟩;conv => whnf
    intro b_3 hs_3 hh_3 hf_3;try dsimp only at hh_3 hf_3
    conv => whnf
    refine zh rfl (zfL none _ v.l [(s : Int)] (-1) (by omega) ((yV v).le (by omega)) (hb1.le (by omega)) (by omega) (by simp)) fun hs_4 b_4 hh_4 hf_4 => ?_;try dsimp only at hh_4 hf_4
    conv => whnf
    have esm : zQ (-1) [(s : Int)] = [-(s : Int)] := by simp [zQ]
    rw [esm]
    have hb2 : Bd 97 [-(s : Int)] := fun i => by
     cases i with
     | zero => rw [zV]; omega
     | succ i => rw [zv, yq]; omega
    refine zh rfl (xr p (by omega) (by omega) _ (zj (yu v.l [-(s : Int)])) (Bd.trim fun i => by rw [yK]; have := yV v i; have := hb2 i; omega) (Nat.le_trans (yA _) (by rw [yu, zS]; simp; omega))) fun hs_5 b_5 hh_5 hf_5 => ?_;try dsimp only at hh_5 hf_5
    conv => whnf
    rw [zfH];refine zh rfl (zbT p none _ f (v - con p (s : Int)) (by omega) hsub) fun hs_6 b_6 hh_6 hf_6 => ?_;try dsimp only at hh_6 hf_6
    conv => whnf
    generalize gcd f (v - con p (s : Int)) = w at hless hgm hgs hst hsk;have hwl : w.l.length = dg w := rfl;refine hK _ ?_;clear hK K
    have fin9 : ∀ (O' : List (Poly p)) (bO' : Nat) (s' : S), zbQ f v (s + 1) O' -> O'.length <= (s + 1) * 400 -> base <= s'.hs -> zC s'.env [(0, .v (.int .i64 p)), (1, .v (.ints none f.l)), (5, .v (.ints none v.l)), (6, .ownV 24 1 bO' O'.length fun j => .ints none (O'.getD j 0).l), (7, .v (.int .i64 s))] -> K8 s' := by
     intro O' bO' s' h5 h55 h6 h7;refine hK8 _ (W.weak (t := ⟨[(0, .v (.int .i64 p)), (1, .v (.ints none f.l)), (5, .v (.ints none v.l)), (6, .ownV 24 1 bO' O'.length fun j => .ints none (O'.getD j 0).l), (7, .v (.int .i64 s))], base⟩) ⟨h6, h7⟩ (Nat.le_refl _) ?_);clear hK8 K8 h6 h7;refine wrg ?_;conv => whnf
     refine ⟨oo, ?_⟩;conv => whnf
     exact zo ⟨s + 1, bO', O', by omega, h55, h5, rfl, rfl⟩
    clear hK8;refine wrs fun K hK => ?_;conv => whnf
    rw [hwl];refine hK _ (W.cond ⟨fun h4 => ?_, fun h4 => ?_⟩) <;> clear hK K
    ·have h4 := of_decide_eq_true h4;refine W.weak (t := ⟨[(0, .v (.int .i64 p)), (1, .v (.ints none f.l)), (5, .v (.ints none v.l)), (6, .ownV 24 1 bO O.length fun j => .ints none (O.getD j 0).l), (7, .v (.int .i64 s)), (8, .v (.ints none w.l))], base⟩) ⟨by dsimp only; omega, by repeat' first | refine And.intro ?_ ?_ | exact trivial | rfl | omega | assumption | exact .inl rfl | exact fun _ _ => rfl⟩ (Nat.le_refl _) ?_;refine wrg ?_;conv => whnf
     refine yR rfl (ih w (by omega) (by omega) hgm hgs (by omega)) ?_;rintro lo hi hi' z hl1 hl2 hl3 ⟨P, hP, rfl⟩ _;try dsimp only at hl1 hl2
     conv => whnf
     have hPf := hP.few hgm.1;refine ⟨by omega, ?_⟩;conv => whnf
     refine ⟨fun j => .ints none ((O ++ P).getD j 0).l, fun i hi => congrArg (fun q : Poly p => V.ints none q.l) (zmu hi), fun j hj => congrArg (fun q : Poly p => V.ints none q.l) zmv, ?_⟩;intro b_7 hs_7 hh_7 hf_7;try dsimp only at hh_7 hf_7
     conv => whnf
     refine fin9 (O ++ P) b_7 _ (hst (by omega) P hP) (by rw [List.length_append]; omega) (by dsimp only; omega) ?_;clear fin9;rw [List.length_append];exact cvr
    ·have h4 := of_decide_eq_false h4;refine W.skip (fin9 O bO _ (hsk (by omega)) (by omega) (by dsimp only; omega) ?_);clear fin9;exact cvr
   ·obtain rfl : s = p.toNat := by have := of_decide_eq_false h3; omega
    refine W.exit (hK1 _ ?_);clear hK7 K7 hK1 K1;refine wrs fun K hK => ?_;conv => whnf
    refine hK _ ?_;clear hK K;refine W.ret ?_;conv => whnf
    exact ⟨.v (vPs O), ⟨rfl, rfl, rfl, fun _ _ => rfl⟩, ⟨trivial, fun _ _ => trivial⟩, O, hO.fin hm h2 hv3, rfl⟩


theorem zkV (p : Int) [SP p] (g : Option Nat) (G : List (Poly p × Nat)) (f : Poly p) (n : Nat) (hG : G.length <= 1000) (hGd : ∀ x ∈ G, dg x.1 <= 1000000) (hf : dg f <= 1000000) :
  Fn Tryz.prog 377 [.vals g 2 G.length fun j => vF (G.getD j (0, 0)), .ints none f.l, .int .i64 n] (fun _ _ z => ∃ k b, k <= G.length ∧ (∀ j, j < k -> ltP (G.getD j (0, 0)).1 f) ∧ (k = G.length ∨ ¬ ltP (G.getD k (0, 0)).1 f) ∧
   z = .ownV 68 2 b (G.length + 1) fun j => vF ((z3 G k (f, n)).getD j (0, 0))) := by
 refine zf (zb [0, 1, 2, 6, 7, 21]) Tryz.func377 rfl (by decide) Tryz.ntmps377 (Nat.le_of_ble_eq_true rfl) fun base => ?_;refine wrs fun K hK => ?_;conv => whnf
 refine hK _ ?_;clear hK K;refine wrs fun K hK => ?_;conv => whnf
 refine hK _ ?_;clear hK K;refine W.seqK fun K1 hK1 => W.block (W.invA (fun m e => ∃ k, k <= G.length ∧ (∀ j, j < k -> ltP (G.getD j (0, 0)).1 f) ∧ m = G.length - k ∧ e = [(0, .v (.vals g 2 G.length fun j => vF (G.getD j (0, 0)))), (1, .v (.ints none f.l)), (2, .v (.int .i64 n)), (7, .v (.int .i64 k))]) ⟨0, Nat.zero_le _, fun j hj => by omega, rfl, rfl⟩ ?_);rintro m e ⟨k, h1, h2, hm, rfl⟩
 have fin : ∀ s : S, base <= s.hs -> (k = G.length ∨ ¬ ltP (G.getD k (0, 0)).1 f) -> zC s.env [(0, .v (.vals g 2 G.length fun j => vF (G.getD j (0, 0)))), (1, .v (.ints none f.l)), (2, .v (.int .i64 n)), (7, .v (.int .i64 k))] -> K1 s := by
  intro s h5 h6 h7;refine hK1 _ (W.weak (t := ⟨[(0, .v (.vals g 2 G.length fun j => vF (G.getD j (0, 0)))), (1, .v (.ints none f.l)), (2, .v (.int .i64 n)), (7, .v (.int .i64 k))], base⟩) ⟨h5, h7⟩ (Nat.le_refl _) ?_);clear hK1 K1 h5 h7;refine W.seqK fun K2 hK2 => W.sch follows ?_;refine wt 1 ?_;conv => whnf
  refine wt 2 ?_;conv => whnf
  refine wt 3 ?_;conv => whnf
  refine ⟨⟨by omega, by omega, by omega⟩, ?_⟩;conv => whnf
  refine wt 5 ?_;conv => whnf
  refine wt 6 ?_;conv => whnf
  refine wt 7 ?_;conv => whnf
  refine wt 10 ?_;conv => whnf
  refine wt 11 ?_;conv => whnf
  refine wt 12 ?_;conv => whnf
  refine ⟨⟨by omega, by omega, by omega⟩, ?_⟩;conv => whnf
  refine Wany.all (zb []) (by rfl) (rs := [0, 8]) (by kernel_rfl) (by decide) ?_;intro i hi;simp only [List.mem_cons, List.not_mem_nil, or_false] at hi
  rcases hi with rfl | rfl <;> refine ⟨_, by rfl, by rfl, ?_⟩ <;> conv => whnf
  ·refine ⟨⟨rfl, by decide, fun x hx => by simp at hx⟩, ?_⟩;conv => whnf
   intro b_0 hs_0 hh_0 hf_0;try dsimp only at hh_0 hf_0
   conv => whnf
   refine Wany.all (zb []) (by rfl) (rs := [4, 8]) (by kernel_rfl) (by decide) ?_;intro i hi;simp only [List.mem_cons, List.not_mem_nil, or_false] at hi
   rcases hi with rfl | rfl <;> refine ⟨_, by rfl, by rfl, ?_⟩ <;> conv => whnf
   ·refine ⟨by omega, ?_⟩;conv => whnf
    refine ⟨fun j => vF ((z3 G k (f, n)).getD j (0, 0)), fun i hi => absurd hi (by omega), fun j hj => congrArg vF ((congrArg (fun i => (z3 G k (f, n)).getD i (0, 0)) (by omega : 0 + j = j)).trans ((zek h1 (by omega)).trans (congrArg (fun i => G.getD i (0, 0)) (by omega)))), ?_⟩;intro b_4 hs_4 hh_4 hf_4;try dsimp only at hh_4 hf_4
    conv => whnf
    refine Wany.all (zb []) (by rfl) (rs := [8]) (by kernel_rfl) (by decide) ?_;intro i hi;simp only [List.mem_cons, List.not_mem_nil, or_false] at hi
    rcases hi with rfl <;> refine ⟨_, by rfl, by rfl, ?_⟩ <;> conv => whnf
    refine ⟨⟨rfl, by decide, fun x hx => by simp at hx; subst hx; exact ⟨rfl, rfl⟩⟩, ?_⟩;conv => whnf
    intro b_8 hs_8 hh_8 hf_8;try dsimp only at hh_8 hf_8
    conv => whnf
    refine Wany.all (zb []) (by rfl) (rs := [9]) (by kernel_rfl) (by decide) ?_;intro i hi;simp only [List.mem_cons, List.not_mem_nil, or_false] at hi
    rcases hi with rfl <;> refine ⟨_, by rfl, by rfl, ?_⟩ <;> conv => whnf
    refine ⟨by omega, ?_⟩;conv => whnf
    refine ⟨fun j => vF ((z3 G k (f, n)).getD j (0, 0)), fun i hi => rfl, fun j hj => (congrArg vF ((congrArg (fun i => (z3 G k (f, n)).getD i (0, 0)) (by omega : 0 + ((k : Int) - 0).toNat + j = k)).trans (zel h1))).trans (by obtain rfl : j = 0 := (by omega); rfl), ?_⟩;intro b_9 hs_9 hh_9 hf_9;try dsimp only at hh_9 hf_9
    conv => whnf
    refine Wany.all (zb []) (by rfl) (rs := [13]) (by kernel_rfl) (by decide) ?_;intro i hi;simp only [List.mem_cons, List.not_mem_nil, or_false] at hi
    rcases hi with rfl <;> refine ⟨_, by rfl, by rfl, ?_⟩ <;> conv => whnf
    refine ⟨by omega, ?_⟩;conv => whnf
    refine ⟨fun j => vF ((z3 G k (f, n)).getD j (0, 0)), fun i hi => rfl, fun j hj => congrArg vF ((congrArg (fun i => (z3 G k (f, n)).getD i (0, 0)) (by omega : 0 + ((k : Int) - 0).toNat + 1 + j = k + 1 + j)).trans ((zem h1).trans (congrArg (fun i => G.getD i (0, 0)) (by omega)))), ?_⟩;intro b_13 hs_13 hh_13 hf_13;try dsimp only at hh_13 hf_13
    conv => whnf
    refine Wany.all (zb []) (by rfl) (rs := [14]) (by kernel_rfl) (by decide) ?_;intro i hi;simp only [List.mem_cons, List.not_mem_nil, or_false] at hi
    rcases hi with rfl <;> refine ⟨_, by rfl, by rfl, ?_⟩ <;> conv => whnf
    refine wd1 (hK2 _ ?_);clear hK2 K2;refine W.ret ?_;conv => whnf
    exact ⟨.ownV 68 2 _ (G.length + 1) fun j => vF ((z3 G k (f, n)).getD j (0, 0)), ⟨rfl, rfl, rfl, by omega, fun _ _ => rfl⟩, fun _ _ => ⟨trivial, trivial, trivial⟩, k, _, h1, h2, h6, rfl⟩
   ·refine ⟨⟨rfl, by decide, fun x hx => by simp at hx; subst hx; exact ⟨rfl, rfl⟩⟩, ?_⟩;conv => whnf
    intro b_8 hs_8 hh_8 hf_8;try dsimp only at hh_8 hf_8
    conv => whnf
    refine Wany.all (zb []) (by rfl) (rs := [4]) (by kernel_rfl) (by decide) ?_;intro i hi;simp only [List.mem_cons, List.not_mem_nil, or_false] at hi
    rcases hi with rfl <;> refine ⟨_, by rfl, by rfl, ?_⟩ <;> conv => whnf
    refine ⟨by omega, ?_⟩;conv => whnf
    refine ⟨fun j => vF ((z3 G k (f, n)).getD j (0, 0)), fun i hi => absurd hi (by omega), fun j hj => congrArg vF ((congrArg (fun i => (z3 G k (f, n)).getD i (0, 0)) (by omega : 0 + j = j)).trans ((zek h1 (by omega)).trans (congrArg (fun i => G.getD i (0, 0)) (by omega)))), ?_⟩;intro b_4 hs_4 hh_4 hf_4;try dsimp only at hh_4 hf_4
    conv => whnf
    refine Wany.all (zb []) (by rfl) (rs := [9]) (by kernel_rfl) (by decide) ?_;intro i hi;simp only [List.mem_cons, List.not_mem_nil, or_false] at hi
    rcases hi with rfl <;> refine ⟨_, by rfl, by rfl, ?_⟩ <;> conv => whnf
    refine ⟨by omega, ?_⟩;conv => whnf
    refine ⟨fun j => vF ((z3 G k (f, n)).getD j (0, 0)), fun i hi => rfl, fun j hj => (congrArg vF ((congrArg (fun i => (z3 G k (f, n)).getD i (0, 0)) (by omega : 0 + ((k : Int) - 0).toNat + j = k)).trans (zel h1))).trans (by obtain rfl : j = 0 := (by omega); rfl), ?_⟩;intro b_9 hs_9 hh_9 hf_9;try dsimp only at hh_9 hf_9
    conv => whnf
    refine Wany.all (zb []) (by rfl) (rs := [13]) (by kernel_rfl) (by decide) ?_;intro i hi;simp only [List.mem_cons, List.not_mem_nil, or_false] at hi
    rcases hi with rfl <;> refine ⟨_, by rfl, by rfl, ?_⟩ <;> conv => whnf
    refine ⟨by omega, ?_⟩;conv => whnf
    refine ⟨fun j => vF ((z3 G k (f, n)).getD j (0, 0)), fun i hi => rfl, fun j hj => congrArg vF ((congrArg (fun i => (z3 G k (f, n)).getD i (0, 0)) (by omega : 0 + ((k : Int) - 0).toNat + 1 + j = k + 1 + j)).trans ((zem h1).trans (congrArg (fun i => G.getD i (0, 0)) (by omega)))), ?_⟩;intro b_13 hs_13 hh_13 hf_13;try dsimp only at hh_13 hf_13
    conv => whnf
    refine Wany.all (zb []) (by rfl) (rs := [14]) (by kernel_rfl) (by decide) ?_;intro i hi;simp only [List.mem_cons, List.not_mem_nil, or_false] at hi
    rcases hi with rfl <;> refine ⟨_, by rfl, by rfl, ?_⟩ <;> conv => whnf
    refine wd1 (hK2 _ ?_);clear hK2 K2;refine W.ret ?_;conv => whnf
    exact ⟨.ownV 68 2 _ (G.length + 1) fun j => vF ((z3 G k (f, n)).getD j (0, 0)), ⟨rfl, rfl, rfl, by omega, fun _ _ => rfl⟩, fun _ _ => ⟨trivial, trivial, trivial⟩, k, _, h1, h2, h6, rfl⟩
  ·refine ⟨⟨rfl, by decide, fun x hx => by simp at hx; subst hx; exact ⟨rfl, rfl⟩⟩, ?_⟩;conv => whnf
   intro b_8 hs_8 hh_8 hf_8;try dsimp only at hh_8 hf_8
   conv => whnf
   refine Wany.all (zb []) (by rfl) (rs := [0]) (by kernel_rfl) (by decide) ?_;intro i hi;simp only [List.mem_cons, List.not_mem_nil, or_false] at hi
   rcases hi with rfl <;> refine ⟨_, by rfl, by rfl, ?_⟩ <;> conv => whnf
   refine ⟨⟨rfl, by decide, fun x hx => by simp at hx⟩, ?_⟩;conv => whnf
   intro b_0 hs_0 hh_0 hf_0;try dsimp only at hh_0 hf_0
   conv => whnf
   refine Wany.all (zb []) (by rfl) (rs := [4]) (by kernel_rfl) (by decide) ?_;intro i hi;simp only [List.mem_cons, List.not_mem_nil, or_false] at hi
   rcases hi with rfl <;> refine ⟨_, by rfl, by rfl, ?_⟩ <;> conv => whnf
   refine ⟨by omega, ?_⟩;conv => whnf
   refine ⟨fun j => vF ((z3 G k (f, n)).getD j (0, 0)), fun i hi => absurd hi (by omega), fun j hj => congrArg vF ((congrArg (fun i => (z3 G k (f, n)).getD i (0, 0)) (by omega : 0 + j = j)).trans ((zek h1 (by omega)).trans (congrArg (fun i => G.getD i (0, 0)) (by omega)))), ?_⟩;intro b_4 hs_4 hh_4 hf_4;try dsimp only at hh_4 hf_4
   conv => whnf
   refine Wany.all (zb []) (by rfl) (rs := [9]) (by kernel_rfl) (by decide) ?_;intro i hi;simp only [List.mem_cons, List.not_mem_nil, or_false] at hi
   rcases hi with rfl <;> refine ⟨_, by rfl, by rfl, ?_⟩ <;> conv => whnf
   refine ⟨by omega, ?_⟩;conv => whnf
   refine ⟨fun j => vF ((z3 G k (f, n)).getD j (0, 0)), fun i hi => rfl, fun j hj => (congrArg vF ((congrArg (fun i => (z3 G k (f, n)).getD i (0, 0)) (by omega : 0 + ((k : Int) - 0).toNat + j = k)).trans (zel h1))).trans (by obtain rfl : j = 0 := (by omega); rfl), ?_⟩;intro b_9 hs_9 hh_9 hf_9;try dsimp only at hh_9 hf_9
   conv => whnf
   refine Wany.all (zb []) (by rfl) (rs := [13]) (by kernel_rfl) (by decide) ?_;intro i hi;simp only [List.mem_cons, List.not_mem_nil, or_false] at hi
   rcases hi with rfl <;> refine ⟨_, by rfl, by rfl, ?_⟩ <;> conv => whnf
   refine ⟨by omega, ?_⟩;conv => whnf
   refine ⟨fun j => vF ((z3 G k (f, n)).getD j (0, 0)), fun i hi => rfl, fun j hj => congrArg vF ((congrArg (fun i => (z3 G k (f, n)).getD i (0, 0)) (by omega : 0 + ((k : Int) - 0).toNat + 1 + j = k + 1 + j)).trans ((zem h1).trans (congrArg (fun i => G.getD i (0, 0)) (by omega)))), ?_⟩;intro b_13 hs_13 hh_13 hf_13;try dsimp only at hh_13 hf_13
   conv => whnf
   refine Wany.all (zb []) (by rfl) (rs := [14]) (by kernel_rfl) (by decide) ?_;intro i hi;simp only [List.mem_cons, List.not_mem_nil, or_false] at hi
   rcases hi with rfl <;> refine ⟨_, by rfl, by rfl, ?_⟩ <;> conv => whnf
   refine wd1 (hK2 _ ?_);clear hK2 K2;refine W.ret ?_;conv => whnf
   exact ⟨.ownV 68 2 _ (G.length + 1) fun j => vF ((z3 G k (f, n)).getD j (0, 0)), ⟨rfl, rfl, rfl, by omega, fun _ _ => rfl⟩, fun _ _ => ⟨trivial, trivial, trivial⟩, k, _, h1, h2, h6, rfl⟩
 refine W.seqK fun K7 hK7 => ?_;refine wrs fun K hK => ?_;conv => whnf
 refine ⟨fun h3 => ?_, fun h3 => ?_⟩ <;> conv => whnf
 ·have h3 := of_decide_eq_true h3;have hx : (G.getD k (0, 0)) ∈ G := by rw [List.getD_eq_getElem?_getD, List.getElem?_eq_getElem (by omega)]; exact List.getElem_mem (by omega)
  have hx2 := hGd _ hx;refine ⟨oo, ?_⟩;conv => whnf
  rw [Int.toNat_natCast];refine zd rfl (ze1 none none (G.getD k (0, 0)).1.l f.l hx2 hf) fun hs' hhs => ?_;try dsimp only at hhs
  conv => whnf
  refine hK _ (W.cond ⟨fun h => ?_, fun h => ?_⟩) <;> clear hK K
  ·have h := (zdh _ _).1 (of_decide_eq_true h);refine W.skip (hK7 _ (W.block ?_));clear hK7 K7 fin;refine wrg ?_;conv => whnf
   refine ⟨oo, ?_⟩;conv => whnf
   exact zo ⟨k + 1, by omega, fun j hj => by by_cases h9 : j = k; (subst h9; exact h); exact h2 j (by omega), rfl, rfl⟩
  ·have h := fun h9 => of_decide_eq_false h ((zdh _ _).2 h9);refine W.exit (fin _ (by dsimp only; omega) (.inr h) ?_);clear fin hK7 K7;exact cvr
 ·have h3 := of_decide_eq_false h3;refine hK _ (W.condF rfl ?_);clear hK K;refine W.exit (fin _ (by dsimp only; omega) (.inl (by omega)) ?_);clear fin hK7 K7;exact cvr


theorem zov {p : Int} [SP p] (f : Poly p) (hf : dg f <= 1000) : Bd 4611686018427387904 (mkL (f.l.length - 1) (dv (cf f.l))) := fun j => by
 have hp2 := SP.le (p := p);rw [vI]
 split
 ·rename_i hj
  have hfl : f.l.length = dg f := rfl;have hc := kn f (j + 1);have h8 := Int.mul_nonneg (by omega : (0 : Int) <= (j : Int) + 1) hc.1;have h9 := Int.mul_le_mul (by omega : (j : Int) + 1 <= 1000) (by omega : cf f.l (j + 1) <= 97) hc.1 (by omega);unfold dv;omega
 ·omega

theorem zcu (p : Int) [SP p] (g : Option Nat) (f : Poly p) (hf : dg f <= 1000) : FnI 374 [.int .i64 p, .ints g f.l] (der f).l := by
 have hp := Pr.two (p := p);have hp2 := SP.le (p := p);have hfl : f.l.length = dg f := rfl;refine zf (zb [0, 1, 4]) Tryz.func374 rfl (by decide) Tryz.ntmps374 (Nat.le_of_ble_eq_true rfl) fun base => ?_;refine wrs fun K hK => ?_;conv => whnf
 refine hK _ ?_;clear hK K;refine wrs fun K hK => ?_;conv => whnf
 refine zd rfl (zcs _ f.l ((yV f).le (by omega)) (by omega)) fun hs' hhs => ?_;try dsimp only at hhs
 conv => whnf
 refine zh rfl (xr p (by omega) (by omega) none (mkL (f.l.length - 1) (dv (cf f.l))) (zov f hf) (by rw [zS]; omega)) fun hs_2 b_2 hh_2 hf_2 => ?_;try dsimp only at hh_2 hf_2
 conv => whnf
 rw [znB];refine hK _ ?_;clear hK K;refine W.ret ?_;conv => whnf
 exact ⟨.ownI 2 _ ((der f).l), ⟨rfl, rfl, rfl⟩, trivial, _, rfl⟩

theorem zbW (p : Int) [SP p] : ∀ (d : Nat) (g : Option Nat) (f : Poly p) (t : Nat) (G : List (Poly p × Nat)), dg f <= d -> d <= 13 -> Mon f -> t <= 13 ^ (13 - d) -> Srt G -> (∀ x ∈ G, ¬ x.1 ∣ f ∧ dg x.1 <= 13) -> G.length + 20 * d <= 600 ->
  Fn Tryz.prog 329 [.int .i64 p, .ints g f.l, .int .i64 t, .vals none 2 G.length fun j => vF (G.getD j (0, 0))] (fun _ _ z => ∃ G', PutOf f t G G' ∧ z = .v (vFs G'))
 | 0, g, f, t, G, hd, _, hm, _, _, _, _ => absurd (ze.1 (by omega)) hm.1
 | d + 1, g, f, t, G, hd, hd13, hm, ht, hS, hG, hl => by
  have ih := zbW p d;have hp := Pr.two (p := p);have hp2 := SP.le (p := p);have hfl : f.l.length = dg f := rfl;have hf0 : dg f ≠ 0 := fun e => hm.1 (ze.1 e);have htb : t <= 13 ^ 13 := Nat.le_trans ht (Nat.pow_le_pow_right (by omega) (by omega))
  have ht2 : 13 * t <= 13 ^ (13 - d) := by
   have e : 13 - d = (13 - (d + 1)) + 1 := by omega
   rw [e, Nat.pow_succ, Nat.mul_comm];exact Nat.mul_le_mul_right _ ht
  have htb : t <= 302875106592253 := htb;refine zf (zb [0, 1, 2, 3, 8, 9, 10, 11, 12, 14, 15, 16, 17, 18, 21, 28, 33, 67, 82]) Tryz.func329 rfl (by decide) Tryz.ntmps329 (Nat.le_of_ble_eq_true rfl) fun base => ?_;refine wrs fun K hK => ?_;conv => whnf
  refine hK _ ?_;clear hK K;refine W.seqK fun K1 hK1 => ?_;refine wrs fun K hK => ?_;conv => whnf
  rw [hfl];refine hK _ (W.cond ⟨fun h => ?_, fun h => ?_⟩) <;> clear hK K
  ·have h := of_decide_eq_true h;refine wrs fun K hK => ?_;conv => whnf
   refine hK _ ?_;clear hK K;refine W.ret ?_;conv => whnf
   exact ⟨.v (vFs G), ⟨rfl, rfl, rfl, fun _ _ => rfl⟩, ⟨trivial, fun _ _ => ⟨trivial, trivial, trivial⟩⟩, G, PutOf.unit (by omega) hS, rfl⟩
  have h := of_decide_eq_false h;refine W.skip (hK1 _ ?_);clear hK1 K1;refine wrs fun K hK => ?_;conv => whnf
  refine zh rfl (zcu p g f (by omega)) fun hs_1 b_1 hh_1 hf_1 => ?_;try dsimp only at hh_1 hf_1
  conv => whnf
  refine hK _ ?_;clear hK K;refine W.seqK fun K1 hK1 => ?_;have hdl : (der f).l.length = dg (der f) := rfl;refine wrs fun K hK => ?_;conv => whnf
  rw [hdl];refine hK _ (W.cond ⟨fun h1 => ?_, fun h1 => ?_⟩) <;> clear hK K
  ·have h1 := of_decide_eq_true h1;have hder : der f = 0 := ze.1 (by omega);refine wrs fun K hK => ?_;conv => whnf
   refine ⟨⟨rfl, by decide⟩, ?_⟩;conv => whnf
   intro b_2 hs_2 hh_2 hf_2;try dsimp only at hh_2 hf_2
   conv => whnf
   refine hK _ ?_;clear hK K;refine W.seqK fun K3 hK3 => ?_;refine wrs fun K hK => ?_;conv => whnf
   refine hK _ (W.block (W.invE (fun m e => ∃ (k bR : Nat), (m = dg f + p.toNat - k * p.toNat) ∧ k * p.toNat < dg f + p.toNat ∧ e = [(0, .v (.int .i64 p)), (1, .v (.ints g f.l)), (2, .v (.int .i64 t)), (3, .v (.vals none 2 G.length fun j => vF (G.getD j (0, 0)))), (10, .ownI 2 bR (mkL k fun i => cf f.l (i * p.toNat))), (11, .v (.int .i64 ((k * p.toNat : Nat) : Int)))]) _ _ ⟨0, b_2, rfl, by omega, rfl⟩ (by dsimp only; omega) (by repeat' first | refine And.intro ?_ ?_ | exact trivial | rfl | omega | assumption | exact .inl rfl | exact .inr rfl | exact fun _ _ => rfl) ?_));clear hK K;rintro m e ⟨k, bR, hm', hk, rfl⟩;have hpn : ((p.toNat : Nat) : Int) = p := by omega
   have hk1 : (k + 1) * p.toNat = k * p.toNat + p.toNat := Nat.succ_mul _ _;have hk2 : (((k + 1) * p.toNat : Nat) : Int) = ((k * p.toNat : Nat) : Int) + p := by omega
   have hcfk : cf f.l (k * p.toNat) = cf f.l (k * p.toNat) := rfl;generalize hkp : k * p.toNat = kp at hm' hk hk1 hk2 hcfk;refine W.seqK fun K7 hK7 => ?_;refine wrs fun K hK => ?_;conv => whnf
   rw [hfl];refine hK _ (W.cond ⟨fun h8 => ?_, fun h8 => ?_⟩) <;> clear hK K
   ·have h8 := of_decide_eq_true h8;refine W.skip (hK7 _ ?_);clear hK7 K7;refine W.seqK fun K8 hK8 => W.block ?_;refine wrg ?_;conv => whnf
    refine ⟨oo, ?_⟩;conv => whnf
    rw [Int.toNat_natCast];have hkk : k <= kp := by rw [<- hkp]; exact Nat.le_mul_of_pos_right k (by omega)
    have hml : (mkL k fun i => cf f.l (i * p.toNat)).length = k := zS _ _;have hms : mkL (k + 1) (fun i => cf f.l (i * p.toNat)) = mkL k (fun i => cf f.l (i * p.toNat)) ++ [f.l.getD kp 0] := by rw [zbM, hkp]; rfl
    refine ⟨⟨rfl, by decide⟩, ?_⟩;conv => whnf
    intro b_4 hs_4 hh_4 hf_4;try dsimp only at hh_4 hf_4
    conv => whnf
    refine ⟨by dsimp only [List.length]; omega, ?_⟩;conv => whnf
    intro b_6 hs_6 hh_6 hf_6;try dsimp only at hh_6 hf_6
    conv => whnf
    refine hK8 _ ?_;clear hK8 K8;refine wrg ?_;conv => whnf
    refine ⟨oo, ?_⟩;conv => whnf
    refine ⟨_, _, ⟨k + 1, b_6, rfl, by omega, rfl⟩, by omega, by dsimp only; omega, ?_⟩;rw [hms];exact cvr
   ·have h8 := of_decide_eq_false h8;obtain ⟨R, hR1, hR2, hR3, hR4, hR5⟩ := zfJ (f := f) hm hder (l := mkL k fun i => cf f.l (i * p.toNat)) (n := k) (zS _ _) (fun i hi => by rw [vI, if_pos hi]) (by omega) (by omega);rw [<- hR1];have hRd := hR5 (by omega);have hpf := zmd hR2 hR3 (by omega);have hpt : ((p.toNat * t : Nat) : Int) = p * (t : Int) := by rw [Int.natCast_mul, hpn]
    have hpt1 : p.toNat * t <= 13 * t := Nat.mul_le_mul_right _ (by omega);refine W.exit (hK3 _ ?_);clear hK7 K7 hK3 K3;refine W.weak (t := ⟨[(0, .v (.int .i64 p)), (2, .v (.int .i64 t)), (3, .v (.vals none 2 G.length fun j => vF (G.getD j (0, 0)))), (10, .v (.ints none R.l))], base⟩) ⟨by dsimp only; omega, by repeat' first | refine And.intro ?_ ?_ | exact trivial | rfl | omega | assumption | exact .inl rfl | exact .inr rfl | exact fun _ _ => rfl⟩ (Nat.le_refl _) ?_;refine wrs fun K hK => ?_;conv => whnf
    rw [<- hpt];refine ⟨oo, ?_⟩;conv => whnf
    refine yR rfl (ih none R (p.toNat * t) G (by omega) (by omega) hR2 (by omega) hS (fun x hx => ⟨fun hd9 => (hG x hx).1 (dvd_trans hd9 (by rw [<- hR3]; exact zcO (by omega))), (hG x hx).2⟩) (by omega)) ?_;rintro lo hi hi' z hl1 hl2 hl3 ⟨G', hG', rfl⟩ _;try dsimp only at hl1 hl2
    conv => whnf
    refine hK _ ?_;clear hK K;refine W.ret ?_;conv => whnf
    exact ⟨.v (vFs G'), ⟨rfl, rfl, rfl, fun _ _ => rfl⟩, ⟨trivial, fun _ _ => ⟨trivial, trivial, trivial⟩⟩, G', PutOf.root hR2.1 (by omega) hR3 hG', rfl⟩
  ·have h1 := of_decide_eq_false h1;refine W.skip (hK1 _ ?_);clear hK1 K1;have hd0 : der f ≠ 0 := fun e => by rw [e, zr] at h1; omega
   obtain ⟨s1, s2, s3, s4, s5, s6, s7⟩ := zjS hm hd0;refine wrs fun K hK => ?_;conv => whnf
   refine zh rfl (zbT p _ _ f (der f) (by omega) (by have := zcj hm.1; omega)) fun hs_3 b_3 hh_3 hf_3 => ?_;try dsimp only at hh_3 hf_3
   conv => whnf
   refine zd rfl (xt p _ _ f (gcd f (der f)) (by omega) (by have := zF s6 hd0; have := zcj hm.1; omega) s7) fun hs' hhs => ?_;try dsimp only at hhs
   conv => whnf
   generalize hq : quo f (gcd f (der f)) = q at s1 s2 s3 s4 s5;generalize gcd f (der f) = c at s1 s6 s7;refine hK _ ?_;clear hK K;refine wrs fun K hK => ?_;conv => whnf
   refine yR rfl (zcW p 400 q (by omega) (by omega) s2 s3 s4) ?_;rintro lo hi hi' z hl1 hl2 hl3 ⟨P, hP, rfl⟩ _;have hPf := hP.few (f := q) s2.1;try dsimp only at hl1 hl2
   conv => whnf
   refine hK _ ?_;clear hK K;refine W.seqK fun K1 hK1 => ?_;refine wrs fun K hK => ?_;conv => whnf
   refine hK _ (W.block (W.invE (fun m e => ∃ (k : Nat) (g1 : Option Nat) (r : Poly p) (L H : List (Poly p × Nat)), Putting f P t G k r L H ∧ dg r <= dg f ∧ m = P.length - k ∧ (∀ x ∈ H, dg x.1 <= 13) ∧ e = [(0, .v (.int .i64 p)), (1, .v (.ints g1 r.l)), (2, .v (.int .i64 t)), (3, .v (.vals none 2 H.length fun j => vF (H.getD j (0, 0)))), (14, .v (vPs P)), (15, .v (.int .i64 k))]) _ _ ⟨0, g, f, [], G, Putting.start hm P t hS, Nat.le_refl _, rfl, fun x hx => (hG x hx).2, rfl⟩ (by dsimp only; omega) (by repeat' first | refine And.intro ?_ ?_ | exact trivial | rfl | omega | assumption | exact .inl rfl | exact .inr rfl | exact fun _ _ => rfl) ?_));clear hK K;rintro m e ⟨k, g1, r, L, H, hpu, hrd, hm', hH, rfl⟩;have hpe := hpu.peel;have hkl := hpe.le;have hlen := hpu.len;refine W.seqK fun K7 hK7 => wrs fun K hK => ?_;conv => whnf
   refine hK _ (W.cond ⟨fun h2 => ?_, fun h2 => ?_⟩) <;> clear hK K <;> (first | replace h2 := of_decide_eq_true h2 | replace h2 := of_decide_eq_false h2)
   ·have hmem : P.getD k 0 ∈ P := by rw [List.getD_eq_getElem?_getD, List.getElem?_eq_getElem (by omega)]; exact List.getElem_mem (by omega)
    obtain ⟨hgi, hgm, hgd⟩ := (hP.2 _).1 hmem;have hgd0 : P.getD k 0 ∣ f := dvd_trans hgd ⟨c, s1⟩;have hgdg := zF hgd0 hm.1;have step := fun n i r' he hn => hpu.step (n := n) (i := i) (r' := r') (fun x hx => (hG x hx).1) hP.1 (by omega) hgi hgm hgd0 he hn;generalize hgq : P.getD k 0 = q1 at hgi hgm hgd hgd0 hgdg step;refine W.skip (hK7 _ ?_);clear hK7 K7;refine W.seqK fun K8 hK8 => W.block ?_;refine wrs fun K hK => ?_;conv => whnf
    refine hK _ ?_;clear hK K
    have hpow : ∀ {n : Nat} {rc : Poly p}, r = q1 ^ n * rc -> n < 14 ∧ rc ≠ 0 ∧ dg rc <= dg r := fun {n rc} he => by
     have h5 := zck hgi.1 n;have h6 := zF (⟨rc, he⟩ : q1 ^ n ∣ r) hpe.mon.1;have h7 : rc ∣ r := ⟨q1 ^ n, by rw [he]; exact ji _ _⟩
     exact ⟨by omega, zd2 h7 hpe.mon.1, zF h7 hpe.mon.1⟩
    refine W.seqK fun K2 hK2 => ?_;refine W.block (W.invE (fun m e => ∃ (n : Nat) (g2 : Option Nat) (rc : Poly p), r = q1 ^ n * rc ∧ m = dg rc ∧ e = [(0, .v (.int .i64 p)), (1, .v (.ints g2 rc.l)), (2, .v (.int .i64 t)), (3, .v (.vals none 2 H.length fun j => vF (H.getD j (0, 0)))), (14, .v (vPs P)), (15, .v (.int .i64 k)), (16, .v (.int .i64 n))]) _ _ ⟨0, g1, r, by rw [zw]; exact zg [r] (by rfl), rfl, rfl⟩ (by dsimp only; omega) (by repeat' first | refine And.intro ?_ ?_ | exact trivial | rfl | omega | assumption | exact .inl rfl | exact .inr rfl | exact fun _ _ => rfl) ?_);rintro m2 e ⟨n, g2, rc, he, hm2, rfl⟩;obtain ⟨hn14, hrc0, hrcd⟩ := hpow he;have hreml : (rem rc q1).l.length = dg (rem rc q1) := rfl;refine W.block ?_;refine wrs fun K hK => ?_;conv => whnf
    refine ⟨oo, ?_⟩;conv => whnf
    have e1 : (fun j => V.ints none (P.getD j 0).l) (k : Int).toNat = .ints none q1.l := by rw [Int.toNat_natCast]; show V.ints none (P.getD k 0).l = _; rw [hgq]
    rw [e1];refine zd rfl (xt p _ _ rc q1 (by omega) (by omega) hgi.ne) fun hs' hhs => ?_;try dsimp only at hhs
    conv => whnf
    refine hK _ ?_;clear hK K;refine W.seqK fun K9 hK9 => ?_;refine wrs fun K hK => ?_;conv => whnf
    rw [hreml];refine hK _ (W.cond ⟨fun h3 => ?_, fun h3 => ?_⟩) <;> clear hK K
    ·have h3 := of_decide_eq_true h3
     have hnd : ¬ q1 ∣ rc := fun hd => by
      have := (zal hgi.ne).1 hd;have : dg (rem rc q1) = 0 := by rw [this]; exact zr
      omega
     refine W.exit (hK2 _ ?_);clear hK2 K2 hK9 K9;have hnt : ((n * t : Nat) : Int) = (n : Int) * (t : Int) := Int.natCast_mul _ _;have hnt1 : n * t <= 13 * t := Nat.mul_le_mul_right _ (by omega);have hnt2 : 13 * t <= 3937376385699289 := by omega
     refine wrg ?_;conv => whnf
     refine ⟨oo, ?_⟩;conv => whnf
     rw [e1];rw [<- hnt];refine ⟨oo, ?_⟩;conv => whnf
     refine yR rfl (zkV p none H q1 (n * t) (by omega) (fun x hx => by have := hH x hx; omega) (by omega)) ?_;rintro lo hi hi' z hl1 hl2 hl3 ⟨i, b, hi1, hi2, hi3, rfl⟩ _;try dsimp only at hl1 hl2
     conv => whnf
     refine hK8 _ ?_;clear hK8 K8;refine wrg ?_;conv => whnf
     refine ⟨oo, ?_⟩;conv => whnf
     have hpl : (z3 H i (q1, n * t)).length = H.length + 1 := zbR hi1;refine ⟨_, _, ⟨k + 1, g2, rc, L ++ [(q1, n)], z3 H i (q1, n * t), step n i rc he hnd hi1 hi2 hi3, by omega, rfl, fun x hx => ?_, rfl⟩, by omega, by dsimp only; omega, ?_⟩
     ·rcases zcp.1 hx with rfl | hx
      ·show dg q1 <= 13
       omega
      ·exact hH x hx
     rw [hpl];exact cvr
    ·have h3 := of_decide_eq_false h3;have hrem : rem rc q1 = 0 := ze.1 (by omega)
     have hdiv : rc = quo rc q1 * q1 := by
      have h5 := vK rc q1;rw [hrem] at h5;have e : ∀ a : Poly p, a + 0 = a := fun a => by exact zg [a] (by rfl)
      rw [e] at h5; exact h5
     have hq0 : quo rc q1 ≠ 0 := fun e => hrc0 (by rw [hdiv, e]; exact zg [q1] (by rfl));have hdgq := yQ hq0 hgi.ne;rw [<- hdiv] at hdgq;have hg2 := hgi.1;refine W.skip (hK9 _ ?_);clear hK9 K9;refine wrs fun K hK => ?_;conv => whnf
     refine hK _ ?_;clear hK K;refine wrg ?_;conv => whnf
     refine ⟨oo, ?_⟩;conv => whnf
     exact zo ⟨n + 1, none, quo rc q1, by rw [he, zi]; exact comb (q1 ^ n) hdiv (zg [rc, q1, quo rc q1, q1 ^ n] (by rfl)), rfl, rfl⟩
   ·obtain rfl : k = P.length := by omega
    have hrl := hpe.less hm hP s1 s4;refine W.exit (hK1 _ ?_);clear hK7 K7 hK1 K1;refine wrs fun K hK => ?_;conv => whnf
    refine yR rfl (ih g1 r t H (by omega) (by omega) hpe.mon (by omega) hpu.srt (fun x hx => ⟨hpu.apart (fun x hx => (hG x hx).1) x hx, hH x hx⟩) (by omega)) ?_;rintro lo hi hi' z hl1 hl2 hl3 ⟨G', hG', rfl⟩ _;try dsimp only at hl1 hl2
    conv => whnf
    refine hK _ ?_;clear hK K;refine W.ret ?_;conv => whnf
    exact ⟨.v (vFs G'), ⟨rfl, rfl, rfl, fun _ _ => rfl⟩, ⟨trivial, fun _ _ => ⟨trivial, trivial, trivial⟩⟩, G', hpu.fin hm hP s1 s6 hG', rfl⟩

theorem Fn.args {P : Program} {f : Nat} {xs ys : List V} {post : zgP} (h : Fn P f ys post) (hl : xs.length = ys.length)
  (hr : ∀ j, j < xs.length -> ∀ (D : Nat -> Prop) (n : Nat) (hp : Array Obj) (v : Value), Rep (okF D (fun _ => False) n) hp (xs.getD j .nil) v -> Rep (okF D (fun _ => False) n) hp (ys.getD j .nil) v) : Fn P f xs post :=
 ⟨h.1, fun D w vs hD hs hv => h.2 D w vs hD (hs.trans hl) fun j hj => hr j (by omega) _ _ _ _ (hv j (by omega))⟩
theorem Rep.vals0 {ok : OkB} {hp : Array Obj} {g g' : Option Nat} {sz : Nat} {f f' : Nat -> V} {v : Value} (h : Rep ok hp (.vals g sz 0 f) v) : Rep ok hp (.vals g' sz 0 f') v := by
 cases h with
 | vals _ _ _ _ a cap hc hm hl hf c hx hr => exact .vals g' sz 0 f' a cap hc hm (fun i hi => by omega) (fun i hi => by omega) c (fun i j hi => by omega) (fun i j hi => by omega)

theorem zcv (p : Int) [SP p] (g : Option Nat) (f : Poly p) (hf : dg f <= 13) (hf0 : f ≠ 0) : Fn Tryz.prog 206 [.int .i64 p, .ints g f.l] (fun _ _ z => ∃ F, zJ f F ∧ z = .v (vFs F)) := by
 have hmd : dg (mnc f) <= dg f := zF (yg f).1 hf0;refine zf (zb [0, 1, 4]) Tryz.func206 rfl (by decide) Tryz.ntmps206 (Nat.le_of_ble_eq_true rfl) fun base => ?_;refine wrs fun K hK => ?_;conv => whnf
 refine hK _ ?_;clear hK K;refine wrs fun K hK => ?_;conv => whnf
 refine zh rfl (zcS p g f (by omega)) fun hs_1 b_1 hh_1 hf_1 => ?_;try dsimp only at hh_1 hf_1
 conv => whnf
 refine ⟨⟨rfl, by decide, fun x hx => by simp at hx⟩, ?_⟩;conv => whnf
 intro b_2 hs_2 hh_2 hf_2;try dsimp only at hh_2 hf_2
 conv => whnf
 refine yR rfl (Fn.args (ys := [.int .i64 p, .ints (some b_1) (mnc f).l, .int .i64 ((1 : Nat) : Int), .vals none 2 0 fun j => vF ((([] : List (Poly p × Nat))).getD j (0, 0))]) (zbW p 13 (some b_1) (mnc f) 1 [] (by omega) (Nat.le_refl _) (jO hf0) (by decide) List.Pairwise.nil (fun x hx => by simp at hx) (by simp)) rfl fun j hj D n hp v hv => ?_) ?_
 ·match j, hj with
  | 0, _ => exact hv
  | 1, _ => exact hv
  | 2, _ => exact hv
  | 3, _ => exact hv.vals0
 rintro lo hi hi' z hl1 hl2 hl3 ⟨F, hF, rfl⟩ _;try dsimp only at hl1 hl2
 conv => whnf
 refine hK _ ?_;clear hK K;refine W.ret ?_;conv => whnf
 exact ⟨.v (vFs F), ⟨rfl, rfl, rfl, fun _ _ => rfl⟩, ⟨trivial, fun _ _ => ⟨trivial, trivial, trivial⟩⟩, F, ⟨hF.fac.1, fun x => (hF.fac.2 x).trans (zfI hf0 x)⟩, rfl⟩


noncomputable def bP (P : Prop) : Bool := @decide P (Classical.propDecidable P)
theorem zcw {P : Prop} : bP P = true ↔ P := @decide_eq_true_iff P (Classical.propDecidable P)
theorem zx {P : Prop} (h : P) : bP P = true := zcw.2 h
theorem zu {P : Prop} (h : ¬ P) : bP P = false := by
 cases hb : bP P with
 | false => rfl
 | true => exact absurd (zcw.1 hb) h
theorem zmw {P : Prop} (h : bP P = false) : ¬ P := fun hp => by rw [zx hp] at h; cases h
theorem zj0 {P : Prop} [Decidable P] (h : (!(decide P)) = true) : ¬ P := fun hp => by rw [decide_eq_true hp] at h; cases h
theorem zh5 {P : Prop} [Decidable P] (h : (!(decide P)) = false) : P := Classical.byContradiction fun hp => by rw [decide_eq_false hp] at h; cases h
theorem zgJ (g : Option Nat) (xs : List Int) (f : Nat) (caps : List V) (q : Nat -> Bool) (hl : xs.length <= 100000000) (hf : ∀ i, i < xs.length -> FnV f ([.int .i64 (cf xs i)] ++ caps) (.bool (q i))) :
  Fn Tryz.prog 366 [.ints g xs, .func f caps] (fun _ _ z => ∃ r : Int, z = .v (.int .i64 r) ∧ (0 <= r ↔ ∃ i, i < xs.length ∧ q i = true)) := by
 refine zf (zb [0, 1, 4, 5, 7, 8, 9, 16]) Tryz.func366 rfl (by decide) Tryz.ntmps366 (Nat.le_of_ble_eq_true rfl) fun base => ?_;refine wrs fun K hK => ?_;conv => whnf
 refine hK _ ?_;clear hK K;refine W.seqK fun K1 hK1 => wrs fun K hK => ?_;conv => whnf
 refine hK _ (W.block (W.invA (fun m e => ∃ i : Nat, i <= xs.length ∧ (∀ j, j < i -> q j = false) ∧ m = xs.length - i ∧ e = [(0, .v (.ints g xs)), (1, .v (.func f caps)), (7, .v (.int .i64 xs.length)), (8, .v (.int .i64 i))]) ⟨0, Nat.zero_le _, fun j hj => by omega, rfl, rfl⟩ ?_));clear hK K;rintro m e ⟨i, h1, h2, hm, rfl⟩;refine wrs fun K hK => ?_;conv => whnf
 refine hK _ ?_;clear hK K;refine W.seqK fun K7 hK7 => W.cond ⟨fun h => ?_, fun h => ?_⟩ <;> (first | replace h := of_decide_eq_true h | replace h := of_decide_eq_false h)
 ·refine W.skip (hK7 _ ?_);clear hK7 K7;refine W.seqK fun K8 hK8 => W.block ?_;refine wrs fun K hK => ?_;conv => whnf
  refine hK _ ?_;clear hK K;refine wrs fun K hK => ?_;conv => whnf
  refine ⟨oo, ?_⟩;conv => whnf
  rw [Int.toNat_natCast];refine zd rfl (hf i (by omega)) fun hs' hhs => ?_;try dsimp only at hhs
  conv => whnf
  refine hK _ (W.cond ⟨fun h3 => ?_, fun h3 => ?_⟩) <;> clear hK K
  ·refine wrs fun K hK => ?_;conv => whnf
   refine hK _ ?_;clear hK K;refine W.ret ?_;conv => whnf
   exact ⟨.v (.int .i64 i), ⟨rfl, rfl⟩, trivial, i, rfl, fun _ => ⟨i, by omega, h3⟩, fun _ => by omega⟩
  ·refine W.skip (hK8 _ ?_);clear hK8 K8;refine wrg ?_;conv => whnf
   refine ⟨oo, ?_⟩;conv => whnf
   have h4 : ∀ j, j < i + 1 -> q j = false := fun j hj => by
    by_cases hji : j = i
    ·subst hji; exact h3
    ·exact h2 j (by omega)
   exact zo ⟨i + 1, by omega, h4, rfl, rfl⟩
 ·refine W.exit (hK1 _ ?_);clear hK7 K7 hK1 K1;refine wrs fun K hK => ?_;conv => whnf
  refine hK _ ?_;clear hK K;refine W.ret ?_;conv => whnf
  refine ⟨.v (.int .i64 (-1)), ⟨rfl, rfl⟩, trivial, -1, rfl, fun h => by omega, fun ⟨j, hj, he⟩ => ?_⟩;rw [h2 j (by omega)] at he; cases he

theorem kR (g : Option Nat) (xs : List Int) (f : Nat) (caps : List V) (q : Nat -> Bool) (hl : xs.length <= 100000000) (hf : ∀ i, i < xs.length -> FnV f ([.int .i64 (cf xs i)] ++ caps) (.bool (q i))) :
  FnV 303 [.ints g xs, .func f caps] (.bool (bP (∃ i, i < xs.length ∧ q i = true))) := by
 refine zf (zb [0, 1, 4]) Tryz.func303 rfl (by decide) Tryz.ntmps303 (Nat.le_of_ble_eq_true rfl) fun base => ?_;refine wrs fun K hK => ?_;conv => whnf
 refine hK _ ?_;clear hK K;refine wrs fun K hK => ?_;conv => whnf
 refine yR rfl (zgJ g xs f caps q hl hf) ?_;rintro lo hi hi' z h1 h2 h3 ⟨r, rfl, hr⟩ _;conv => whnf
 refine hK _ ?_;clear hK K;refine W.ret ?_;conv => whnf
 exact ⟨.v (.bool (bP (∃ i, i < xs.length ∧ q i = true))), (by show decide _ = bP _; by_cases h : 0 <= r; (rw [zx (hr.1 h)]; exact decide_eq_true h); (rw [zu fun h' => h (hr.2 h')]; exact decide_eq_false h)), trivial, rfl⟩

def ze2 (a b : Int) (xs : List Int) : Prop := ∀ j, j < xs.length -> a <= cf xs j ∧ cf xs j <= b
def zj1 (xs : List Int) : Prop := xs.length = 0 ∨ cf xs (xs.length - 1) ≠ 0
def zmx (xs : List Int) : Prop := xs.length <= 9 ∧ ze2 (-1000000) 1000000 xs ∧ zj1 xs
def IsSm (xs : List Int) : Prop := zmx xs ∧ 2 <= xs.length ∧ xs.length <= 5 ∧ ze2 (-60) 60 xs
def y8 (p : Int) (xs : List Int) : Prop := isP p = true ∧ xs.length <= 9 ∧ ze2 0 (p - 1) xs ∧ zj1 xs

theorem zdi {a b : Int} {xs : List Int} : (∃ i, i < xs.length ∧ (!(decide (a <= cf xs i ∧ cf xs i <= b))) = true) ↔ ¬ ze2 a b xs := by
 constructor
 ·rintro ⟨i, hi, h⟩ hA;rw [decide_eq_true (hA i hi)] at h; cases h
 ·intro h;refine Classical.byContradiction fun h' => h fun j hj => ?_;refine Classical.byContradiction fun h'' => h' ⟨j, hj, ?_⟩;rw [decide_eq_false h'']; rfl

theorem zcx (g : Option Nat) (xs : List Int) (hl : xs.length <= 1000000000) : FnV 192 [.ints g xs] (.int .i64 ((xs.length : Int) - 1)) := by
 refine zf (zb [0, 2]) Tryz.func192 rfl (by decide) Tryz.ntmps192 (Nat.le_of_ble_eq_true rfl) fun base => ?_;refine wrs fun K hK => ?_;conv => whnf
 refine hK _ ?_;clear hK K;refine wrs fun K hK => ?_;conv => whnf
 refine zd rfl (zjZ g xs) fun hs' hhs => ?_;try dsimp only at hhs
 conv => whnf
 refine ⟨oo, ?_⟩;conv => whnf
 refine hK _ ?_;clear hK K;refine W.ret ?_;conv => whnf
 exact ⟨.v (.int .i64 ((xs.length : Int) - 1)), ⟨rfl, rfl⟩, trivial, rfl⟩

noncomputable def zi8 (xs : List Int) : Int := bif bP (zmx xs) then (bif bP (IsSm xs) then 0 else 2) else 1

theorem znm (g : Option Nat) (p n : Int) (hp : 0 <= p ∧ p <= 97) : FnV 304 [.int .i64 n, .box g (.int .i64 p)] (.bool (!(decide (0 <= n ∧ n <= p - 1)))) := by
 refine zf (zb [0, 1, 3]) Tryz.func304 rfl (by decide) Tryz.ntmps304 (Nat.le_of_ble_eq_true rfl) fun base => ?_;refine wrs fun K hK => ?_;conv => whnf
 refine hK _ ?_;clear hK K;refine wrs fun K hK => ?_;conv => whnf
 refine ⟨oo, ?_⟩;conv => whnf
 refine zd rfl (zaM _ _ _) fun hs' hhs => ?_;try dsimp only at hhs
 conv => whnf
 refine hK _ ?_;clear hK K;refine W.ret ?_;conv => whnf
 exact ⟨.v (.bool (!(decide (0 <= n ∧ n <= p - 1)))), rfl, trivial, rfl⟩

theorem zeA {p : Int} (h : isP p = true) : 2 <= p ∧ p <= 97 := kj (of_decide_eq_true h)

theorem zgK (g : Option Nat) (p : Int) (xs : List Int) : FnV 151 [.int .i64 p, .ints g xs] (.bool (bP (y8 p xs))) := by
 refine zf (zb [0, 1, 2, 4, 17]) Tryz.func151 rfl (by decide) Tryz.ntmps151 (Nat.le_of_ble_eq_true rfl) fun base => ?_;refine wrs fun K hK => ?_;conv => whnf
 refine ⟨rfl, ?_⟩;conv => whnf
 intro b_1 hs_1 hh_1 hf_1;try dsimp only at hh_1 hf_1
 conv => whnf
 refine hK _ ?_;clear hK K;refine W.seqK fun K1 hK1 => ?_;refine wrs fun K hK => ?_;conv => whnf
 refine zd rfl (kQ p) fun hs' hhs => ?_;try dsimp only at hhs
 conv => whnf
 refine ⟨fun h => ?_, fun h => ?_⟩ <;> conv => whnf
 ·have h : isP p = false := by simpa using h
  refine hK _ (W.condT rfl ?_);clear hK K;refine wrs fun K hK => ?_;conv => whnf
  refine hK _ ?_;clear hK K;refine W.ret ?_;conv => whnf
  exact ⟨.v (.bool (bP (y8 p xs))), (by show bP _ = false; exact zu fun hh => by rw [hh.1] at h; cases h), trivial, rfl⟩
 have h : isP p = true := by simpa using h
 have hp := zeA h;refine ⟨fun h0 => ?_, fun h0 => ?_⟩ <;> conv => whnf
 ·have h0 := of_decide_eq_true h0;refine hK _ (W.condT rfl ?_);clear hK K;refine wrs fun K hK => ?_;conv => whnf
  refine hK _ ?_;clear hK K;refine W.ret ?_;conv => whnf
  exact ⟨.v (.bool (bP (y8 p xs))), (by show bP _ = false; exact zu fun hh => by have := hh.2.1; omega), trivial, rfl⟩
 have h0 := of_decide_eq_false h0;refine zd rfl (kR g xs 304 [.box none (.int .i64 p)] (fun i => !(decide (0 <= cf xs i ∧ cf xs i <= p - 1))) (by omega) (fun i hi => znm _ p _ (by omega))) fun hs' hhs => ?_;try dsimp only at hhs
 conv => whnf
 refine hK _ (W.cond ⟨fun h1 => ?_, fun h1 => ?_⟩) <;> clear hK K
 ·have h1 := zdi.1 (zcw.1 h1);refine wrs fun K hK => ?_;conv => whnf
  refine hK _ ?_;clear hK K;refine W.ret ?_;conv => whnf
  exact ⟨.v (.bool (bP (y8 p xs))), (by show bP _ = false; exact zu fun hh => h1 hh.2.2.1), trivial, rfl⟩
 have h1 : ze2 0 (p - 1) xs := Classical.byContradiction fun h' => zmw h1 (zdi.2 h');refine W.skip (hK1 _ ?_);clear hK1 K1;refine wrs fun K hK => ?_;conv => whnf
 refine ⟨fun h2 => ?_, fun h2 => ?_⟩ <;> conv => whnf
 ·have h2 := of_decide_eq_true h2;refine hK _ ?_;clear hK K;refine W.ret ?_;conv => whnf
  exact ⟨.v (.bool (bP (y8 p xs))), (by show bP _ = true; exact zx ⟨h, by omega, h1, .inl (by omega)⟩), trivial, rfl⟩
 ·have h2 := of_decide_eq_false h2;have e1 : ((xs.length : Int) - 1).toNat = xs.length - 1 := by omega
  refine ⟨oo, ?_⟩;conv => whnf
  refine ⟨oo, ?_⟩;conv => whnf
  rw [e1];refine hK _ ?_;clear hK K;refine W.ret ?_;conv => whnf
  exact ⟨.v (.bool (bP (y8 p xs))), (by show decide _ = bP _; by_cases h3 : cf xs (xs.length - 1) = 0; (rw [zu fun hh => hh.2.2.2.elim (by omega) fun h' => h' h3]; exact decide_eq_false fun h' => h' h3); (rw [zx ⟨h, by omega, h1, .inr h3⟩]; exact decide_eq_true h3)), trivial, rfl⟩

noncomputable def yt (p : Int) (xs : List Int) : Int := bif bP (y8 p xs) then (if xs.length < 2 then 2 else 0) else 1

theorem zaT (g : Option Nat) (p : Int) (xs : List Int) : FnV 198 [.int .i64 p, .ints g xs] (.int .i64 (yt p xs)) := by
 refine zf (zb [0, 1, 4, 5, 10]) Tryz.func198 rfl (by decide) Tryz.ntmps198 (Nat.le_of_ble_eq_true rfl) fun base => ?_;refine wrs fun K hK => ?_;conv => whnf
 refine hK _ ?_;clear hK K;refine W.seqK fun K1 hK1 => W.block ?_;refine wrs fun K hK => ?_;conv => whnf
 refine zd rfl (zgK g p xs) fun hs' hhs => ?_;try dsimp only at hhs
 conv => whnf
 refine hK _ (W.cond ⟨fun h => ?_, fun h => ?_⟩) <;> clear hK K
 ·have h : bP (y8 p xs) = false := by simpa using h
  refine wrs fun K hK => ?_;conv => whnf
  refine hK _ ?_;clear hK K;refine W.ret ?_;conv => whnf
  exact ⟨.v (.int .i64 (yt p xs)), ⟨rfl, by unfold yt; rw [h]; rfl⟩, trivial, rfl⟩
 have h : bP (y8 p xs) = true := by simpa using h
 have hl := (zcw.1 h).2.1;refine wrs fun K hK => ?_;conv => whnf
 refine zd rfl (zcx g xs (by omega)) fun hs' hhs => ?_;try dsimp only at hhs
 conv => whnf
 refine hK _ (W.cond ⟨fun h1 => ?_, fun h1 => ?_⟩) <;> clear hK K
 ·have h1 := of_decide_eq_true h1;refine wrs fun K hK => ?_;conv => whnf
  refine hK _ ?_;clear hK K;refine W.ret ?_;conv => whnf
  exact ⟨.v (.int .i64 (yt p xs)), ⟨rfl, by unfold yt; rw [h, if_pos (by omega)]; rfl⟩, trivial, rfl⟩
 have h1 := of_decide_eq_false h1;refine W.skip (hK1 _ ?_);clear hK1 K1;refine wrs fun K hK => ?_;conv => whnf
 refine hK _ ?_;clear hK K;refine W.ret ?_;conv => whnf
 exact ⟨.v (.int .i64 (yt p xs)), ⟨rfl, by unfold yt; rw [h, if_neg (by omega)]; rfl⟩, trivial, rfl⟩

theorem zkW (g : Option Nat) (p : Int) (xs : List Int) (hl : xs.length <= 1000000000) : FnV 184 [.int .i64 p, .ints g xs] (.bool (bP (y8 p xs))) := by
 refine zf (zb [0, 1, 4, 5, 13, 17, 27]) Tryz.func184 rfl (by decide) Tryz.ntmps184 (Nat.le_of_ble_eq_true rfl) fun base => ?_;refine wrs fun K hK => ?_;conv => whnf
 refine hK _ ?_;clear hK K;refine W.seqK fun K0 hK0 => ?_;refine wrs fun K hK => ?_;conv => whnf
 refine zd rfl (jQ p) fun hs' hhs => ?_;try dsimp only at hhs
 conv => whnf
 refine ⟨fun h => ?_, fun h => ?_⟩ <;> conv => whnf
 ·have h : isP p = false := by simpa using h
  refine hK _ (W.condT rfl ?_);clear hK K;refine wrs fun K hK => ?_;conv => whnf
  refine hK _ ?_;clear hK K;refine W.ret ?_;conv => whnf
  exact ⟨.v (.bool (bP (y8 p xs))), (by show bP _ = false; exact zu fun hh => by rw [hh.1] at h; cases h), trivial, rfl⟩
 have h : isP p = true := by simpa using h
 have hp := zeA h;refine hK _ (W.cond ⟨fun h0 => ?_, fun h0 => ?_⟩) <;> clear hK K
 ·have h0 := of_decide_eq_true h0;refine wrs fun K hK => ?_;conv => whnf
  refine hK _ ?_;clear hK K;refine W.ret ?_;conv => whnf
  exact ⟨.v (.bool (bP (y8 p xs))), (by show bP _ = false; exact zu fun hh => by have := hh.2.1; omega), trivial, rfl⟩
 have h0 := of_decide_eq_false h0;refine W.skip (hK0 _ ?_);clear hK0 K0;refine W.seqK fun K1 hK1 => ?_;refine wrs fun K hK => ?_;conv => whnf
 refine hK _ (W.block (W.invA (fun m e => ∃ k : Nat, k <= xs.length ∧ (∀ j, j < k -> 0 <= cf xs j ∧ cf xs j <= p - 1) ∧ m = xs.length - k ∧ e = [(0, .v (.int .i64 p)), (1, .v (.ints g xs)), (5, .v (.int .i64 k))]) ⟨0, Nat.zero_le _, fun j hj => by omega, rfl, rfl⟩ ?_));clear hK K;rintro m e ⟨k, h1, h2, hm, rfl⟩;refine W.seqK fun K7 hK7 => wrs fun K hK => ?_;conv => whnf
 refine hK _ (W.cond ⟨fun h3 => ?_, fun h3 => ?_⟩) <;> clear hK K <;> (first | replace h3 := of_decide_eq_true h3 | replace h3 := of_decide_eq_false h3)
 ·refine W.skip (hK7 _ ?_);clear hK7 K7;refine W.seqK fun K8 hK8 => W.block ?_;refine wrs fun K hK => ?_;conv => whnf
  refine ⟨oo, ?_⟩;conv => whnf
  refine ⟨oo, ?_⟩;conv => whnf
  rw [Int.toNat_natCast];refine zd rfl (zar _ _ _) fun hs' hhs => ?_;try dsimp only at hhs
  conv => whnf
  refine hK _ (W.cond ⟨fun h4 => ?_, fun h4 => ?_⟩) <;> clear hK K
  ·have h4 : ¬ (0 <= cf xs k ∧ cf xs k <= p - 1) := zj0 h4;refine wrs fun K hK => ?_;conv => whnf
   refine hK _ ?_;clear hK K;refine W.ret ?_;conv => whnf
   exact ⟨.v (.bool (bP (y8 p xs))), (by show bP _ = false; exact zu fun hh => h4 (hh.2.2.1 k (by omega))), trivial, rfl⟩
  ·have h4 : 0 <= cf xs k ∧ cf xs k <= p - 1 := zh5 h4;refine W.skip (hK8 _ ?_);clear hK8 K8;refine wrg ?_;conv => whnf
   refine ⟨oo, ?_⟩;conv => whnf
   exact zo ⟨k + 1, by omega, fun j hj => by by_cases h9 : j = k; (subst h9; exact h4); exact h2 j (by omega), rfl, rfl⟩
 ·obtain rfl : k = xs.length := by omega
  refine W.exit (hK1 _ ?_);clear hK7 K7 hK1 K1;have h1 : ze2 0 (p - 1) xs := h2;refine wrs fun K hK => ?_;conv => whnf
  refine ⟨fun h2 => ?_, fun h2 => ?_⟩ <;> conv => whnf
  ·have h2 := of_decide_eq_true h2;refine hK _ ?_;clear hK K;refine W.ret ?_;conv => whnf
   exact ⟨.v (.bool (bP (y8 p xs))), (by show bP _ = true; exact zx ⟨h, by omega, h1, .inl (by omega)⟩), trivial, rfl⟩
  ·have h2 := of_decide_eq_false h2;have e1 : ((xs.length : Int) - 1).toNat = xs.length - 1 := by omega
   refine ⟨oo, ?_⟩;conv => whnf
   refine ⟨oo, ?_⟩;conv => whnf
   rw [e1];refine hK _ ?_;clear hK K;refine W.ret ?_;conv => whnf
   exact ⟨.v (.bool (bP (y8 p xs))), (by show decide _ = bP _; by_cases h3 : cf xs (xs.length - 1) = 0; (rw [zu fun hh => hh.2.2.2.elim (by omega) fun h' => h' h3]; exact decide_eq_false fun h' => h' h3); (rw [zx ⟨h, by omega, h1, .inr h3⟩]; exact decide_eq_true h3)), trivial, rfl⟩

theorem zeB (g : Option Nat) (p : Int) (xs : List Int) (hl : xs.length <= 1000000000) : FnV 202 [.int .i64 p, .ints g xs] (.int .i64 (yt p xs)) := by
 refine zf (zb [0, 1, 4, 8, 11]) Tryz.func202 rfl (by decide) Tryz.ntmps202 (Nat.le_of_ble_eq_true rfl) fun base => ?_;refine wrs fun K hK => ?_;conv => whnf
 refine hK _ ?_;clear hK K;refine W.seqK fun K1 hK1 => ?_;refine wrs fun K hK => ?_;conv => whnf
 refine zd rfl (zkW g p xs hl) fun hs' hhs => ?_;try dsimp only at hhs
 conv => whnf
 refine hK _ (W.cond ⟨fun h => ?_, fun h => ?_⟩) <;> clear hK K
 ·have h : bP (y8 p xs) = false := by simpa using h
  refine wrs fun K hK => ?_;conv => whnf
  refine hK _ ?_;clear hK K;refine W.ret ?_;conv => whnf
  exact ⟨.v (.int .i64 (yt p xs)), ⟨rfl, by unfold yt; rw [h]; rfl⟩, trivial, rfl⟩
 have h : bP (y8 p xs) = true := by simpa using h
 refine W.skip (hK1 _ ?_);clear hK1 K1;refine W.seqK fun K1 hK1 => ?_;refine wrs fun K hK => ?_;conv => whnf
 refine hK _ (W.cond ⟨fun h1 => ?_, fun h1 => ?_⟩) <;> clear hK K
 ·have h1 := of_decide_eq_true h1;refine wrs fun K hK => ?_;conv => whnf
  refine hK _ ?_;clear hK K;refine W.ret ?_;conv => whnf
  exact ⟨.v (.int .i64 (yt p xs)), ⟨rfl, by unfold yt; rw [h, if_pos (by omega)]; rfl⟩, trivial, rfl⟩
 have h1 := of_decide_eq_false h1;refine W.skip (hK1 _ ?_);clear hK1 K1;refine wrs fun K hK => ?_;conv => whnf
 refine hK _ ?_;clear hK K;refine W.ret ?_;conv => whnf
 exact ⟨.v (.int .i64 (yt p xs)), ⟨rfl, by unfold yt; rw [h, if_neg (by omega)]; rfl⟩, trivial, rfl⟩

theorem zkX {p : Int} {xs : List Int} (h : yt p xs = 0) : y8 p xs ∧ 2 <= xs.length := by
 unfold yt at h
 by_cases h1 : y8 p xs
 ·rw [zx h1] at h
  by_cases h2 : xs.length < 2
  ·rw [if_pos h2] at h; cases h
  ·exact ⟨h1, by omega⟩
 ·rw [zu h1] at h; cases h
theorem znn {p : Int} {xs : List Int} (h : y8 p xs) : ∃ hp : p ∈ yx, letI := jC hp; ∃ f : Poly p, f.l = xs := by
 have hp : p ∈ yx := of_decide_eq_true h.1;refine ⟨hp, ?_⟩;letI := jC hp;refine ⟨⟨xs, ⟨fun x hx => ?_, fun n hn => ?_⟩⟩, rfl⟩
 ·obtain ⟨i, hi, rfl⟩ := List.getElem_of_mem hx;have h1 := h.2.2.1 i hi;rw [vT hi] at h1; omega
 ·rcases h.2.2.2 with h0 | h0
  ·omega
  ·rw [hn] at h0; exact h0


def zi9 (xs : List Int) (q : Int) : Prop := ∃ h : q ∈ yx, cf xs (xs.length - 1) % q ≠ 0 ∧ (letI := jC h; Irr (of q xs))
structure ByOut (xs : List Int) (r c : Int) : Prop where
 bad : zi8 xs ≠ 0 -> r = 0 ∧ c = zi8 xs
 yes : zi8 xs = 0 -> (2 <= r ∧ r <= 97 ∧ c = 0 ∧ zi9 xs r ∧ ∀ q, 2 <= q -> q < r -> ¬ zi9 xs q) ∨ (r = 0 ∧ c = 4 ∧ ∀ q, 2 <= q -> q <= 97 -> ¬ zi9 xs q)

def marks (k : Int) (n : Nat) : List Int := mkL n fun i => k + i
/- fields -/
def szL (n : Nat) : Int := if (1048576 : Int) - n < 0 then -1 else 1048576 - n
theorem yI (tb : Tab) (b : Nat) {xs : List Int} (h : xs ≠ []) : kW tb b xs b = some xs := by
 cases xs with
 | nil => exact absurd rfl h
 | cons x l => exact xa ..

theorem xK (tb : Tab) (b : Nat) {xs : List Int} {c : Nat} (h : xs = [] ∨ c ≠ b) : kW tb b xs c = tb c := by
 cases xs with
 | nil => rfl
 | cons x l => exact xA _ _ (h.resolve_left (by simp))


def xL (xs : List Int) : Prop := 0 < xs.length ∧ cf xs (xs.length - 1) = 1

theorem zbk (g : Option Nat) (xs : List Int) (hl : xs.length <= 1000000000) : FnV 191 [.ints g xs] (.bool (bP (xL xs))) := by
 refine zf (zb [0, 2]) Tryz.func191 rfl (by decide) Tryz.ntmps191 (Nat.le_of_ble_eq_true rfl) fun base => ?_;refine wrs fun K hK => ?_;conv => whnf
 refine hK _ ?_;clear hK K;refine wrs fun K hK => ?_;conv => whnf
 refine ⟨fun h => ?_, fun h => ?_⟩ <;> conv => whnf
 ·have h := of_decide_eq_true h;have e1 : ((xs.length : Int) - 1).toNat = xs.length - 1 := by omega
  refine ⟨oo, ?_⟩;conv => whnf
  refine ⟨oo, ?_⟩;conv => whnf
  rw [e1];refine hK _ ?_;clear hK K;refine W.ret ?_;conv => whnf
  refine ⟨.v (.bool (bP (xL xs))), ?_, trivial, rfl⟩;show decide (cf xs (xs.length - 1) = 1) = bP (xL xs)
  by_cases hc : cf xs (xs.length - 1) = 1
  ·rw [decide_eq_true hc, zx ⟨by omega, hc⟩]
  ·rw [decide_eq_false hc, zu fun h' => hc h'.2]
 ·have h := of_decide_eq_false h;refine hK _ ?_;clear hK K;refine W.ret ?_;conv => whnf
  exact ⟨.v (.bool (bP (xL xs))), zu fun h' => h (by have := h'.1; omega), trivial, rfl⟩

theorem xj (g : Option Nat) (xs : List Int) (hl : xs.length <= 1000000000) : FnV 255 [.ints g xs] (.bool (bP (xL xs))) := by
 refine zf (zb [0, 2]) Tryz.func255 rfl (by decide) Tryz.ntmps255 (Nat.le_of_ble_eq_true rfl) fun base => ?_;refine wrs fun K hK => ?_;conv => whnf
 refine hK _ ?_;clear hK K;refine wrs fun K hK => ?_;conv => whnf
 refine ⟨fun h => ?_, fun h => ?_⟩ <;> conv => whnf
 ·have h := of_decide_eq_true h;have e1 : ((xs.length : Int) - 1).toNat = xs.length - 1 := by omega
  refine ⟨oo, ?_⟩;conv => whnf
  refine ⟨oo, ?_⟩;conv => whnf
  rw [e1];refine hK _ ?_;clear hK K;refine W.ret ?_;conv => whnf
  refine ⟨.v (.bool (bP (xL xs))), ?_, trivial, rfl⟩;show decide (cf xs (xs.length - 1) = 1) = bP (xL xs)
  by_cases hc : cf xs (xs.length - 1) = 1
  ·rw [decide_eq_true hc, zx ⟨by omega, hc⟩]
  ·rw [decide_eq_false hc, zu fun h' => hc h'.2]
 ·have h := of_decide_eq_false h;refine hK _ ?_;clear hK K;refine W.ret ?_;conv => whnf
  exact ⟨.v (.bool (bP (xL xs))), zu fun h' => h (by have := h'.1; omega), trivial, rfl⟩

structure IsFld (p : Int) (l : List Int) : Prop where
 mod : y8 p l
 mon : xL l
 two : 2 <= l.length
 ord : p ^ (l.length - 1) <= 20000
 irr : ∃ h : p ∈ yx, letI := jC h; ∃ f : Poly p, f.l = l ∧ Irr f


def zgL (Q : Nat -> Prop) (a b : Nat) : Option Nat -> Prop
 | some m => a <= m ∧ m < b ∧ Q m ∧ ∀ k, a <= k -> k < m -> ¬ Q k
 | none => ∀ k, a <= k -> k < b -> ¬ Q k
theorem zgL.unique {Q : Nat -> Prop} {a b : Nat} {r r' : Option Nat} (h : zgL Q a b r) (h' : zgL Q a b r') : r = r' := by
 cases r with
 | none => cases r' with
  | none => rfl
  | some m => exact absurd h'.2.2.1 (h m h'.1 h'.2.1)
 | some m => cases r' with
  | none => exact absurd h.2.2.1 (h' m h.1 h.2.1)
  | some m' =>
   obtain ⟨h1, h2, h3, h4⟩ := h;obtain ⟨k1, k2, k3, k4⟩ := h';rcases Nat.lt_trichotomy m m' with h5 | h5 | h5
   ·exact absurd h3 (k4 m h1 h5)
   ·rw [h5]
   ·exact absurd k3 (h4 m' k1 h5)

theorem zeC (p : Int) [SP p] (g g' : Option Nat) (F G : Poly p) (hF : dg F <= 1000000) (hG : dg G <= 1000000) (hG0 : G ≠ 0) : FnT Tryz.prog 211 [.int .i64 p, .ints g F.l, .ints g' G.l]
  (fun _ _ x tb => ∃ b0 b1 : Nat, x = .tup [.rf b0 (quo F G).l.length, .rf b1 (rem F G).l.length] ∧ ((quo F G).l ≠ [] -> tb b0 = some (quo F G).l) ∧ ((rem F G).l ≠ [] -> tb b1 = some (rem F G).l) ∧ ((quo F G).l ≠ [] -> (rem F G).l ≠ [] -> b0 ≠ b1)) := by
 have hp := Pr.two (p := p);have hp2 := SP.le (p := p);have hFl : F.l.length = dg F := rfl;have hGl : G.l.length = dg G := rfl;have hm0 : dg G ≠ 0 := fun e => hG0 (ze.1 e);have hlead : cf G.l (dg G - 1) % p ≠ 0 := z5 (yL (by omega));have hmx : (max (0 : Int) ((dg F : Int) - dg G + 1)) = ((dg F + 1 - dg G : Nat) : Int) := by omega
 have hiv := y5 hlead;refine za7 (za [] [0, 1, 2, 6, 7, 8, 9, 10, 11, 12, 13, 36, 54, 55, 56, 57, 1000000]) Tryz.func211 rfl (by decide) Tryz.ntmps211 (Nat.le_of_ble_eq_true rfl) (fun base => ?_) (Nat.le_of_ble_eq_true rfl);refine W.sw (c' := cx [0, 1, 2, 6, 7, 8, 9, 10, 11, 12, 13, 36, 54, 55, 56, 57, 1000000]) ?_;refine wrs fun K hK => ?_;conv => whnf
 refine hK _ ?_;clear hK K;refine wrs fun K hK => ?_;conv => whnf
 refine zh rfl (zas _ _ (by omega)) fun hs_0 b_0 hh_0 hf_0 => ?_;try dsimp only at hh_0 hf_0
 conv => whnf
 refine hK _ ?_;clear hK K;refine wrs fun K hK => ?_;conv => whnf
 rw [hFl, hGl];refine ⟨oo, ?_⟩;conv => whnf
 refine ⟨oo, ?_⟩;conv => whnf
 rw [hmx];refine ⟨rfl, ?_⟩;conv => whnf
 refine ⟨oo, ?_⟩;conv => whnf
 generalize hnq : dg F + 1 - dg G = nq;rw [Int.toNat_natCast];intro b_q hs_q hh_q hf_q;try dsimp only at hh_q hf_q
 conv => whnf
 refine hK _ ?_;clear hK K;refine wrs fun K hK => ?_;conv => whnf
 rw [hGl];refine ⟨oo, ?_⟩;conv => whnf
 refine ⟨oo, ?_⟩;conv => whnf
 have e0 : ((dg G : Int) - 1).toNat = dg G - 1 := by omega
 rw [e0];refine zd rfl (vr p _ (by have := yV G (dg G - 1); show _ <= cf G.l (dg G - 1) ∧ cf G.l (dg G - 1) <= _; omega) hlead) fun hs' hhs => ?_;try dsimp only at hhs
 conv => whnf
 generalize hlast : yd p (cf G.l (dg G - 1)) = last at hiv;refine hK _ ?_;clear hK K;refine W.seqK fun K1 hK1 => wrs fun K hK => ?_;conv => whnf
 rw [List.length_replicate];refine ⟨oo, ?_⟩;conv => whnf
 refine hK _ (W.block (W.invA (fun m e => ∃ (k b b' : Nat) (r q : List Int), k <= nq ∧ DivI p F G nq k r q ∧ m = k ∧ e = [(vt, .tab fun _ => none), (0, .v (.int .i64 p)), (2, .v (.ints g' G.l)), (8, .ownI 2 b r), (9, .ownI 2 b' q), (10, .v (.int .i64 last)), (11, .v (.int .i64 ((k : Int) - 1)))]) ⟨nq, b_0, b_q, F.l, List.replicate nq 0, Nat.le_refl _, DivI.start F G (by omega), rfl, rfl⟩ ?_));clear hK K;rintro m e ⟨k', b, b', r, q, hk, hd, hm, rfl⟩;refine W.seqK fun K7 hK7 => wrs fun K hK => ?_;conv => whnf
 refine hK _ (W.cond ⟨fun h => ?_, fun h => ?_⟩) <;> clear hK K <;> (first | replace h := of_decide_eq_true h | replace h := of_decide_eq_false h)
 ·refine W.skip (hK7 _ ?_);clear hK7 K7;refine W.seqK fun K8 hK8 => W.block ?_;obtain ⟨k, rfl⟩ : ∃ k, k' = k + 1 := ⟨k' - 1, by omega⟩
  have hrl := hd.rl;have hql := hd.ql;have e1 : (((k + 1 : Nat) : Int) - 1) = k := by omega
  have e2 : ((k : Int) + dg G - 1).toNat = k + dg G - 1 := by omega
  rw [e1];have h1 := hd.rr (k + dg G - 1);generalize hc : cf r (k + dg G - 1) * last % p = c;have hcr : 0 <= c ∧ c < p := by rw [<- hc]; exact ⟨Int.emod_nonneg _ (by omega), Int.emod_lt_of_pos _ (by omega)⟩
  have h2 := zcR (a := cf r (k + dg G - 1)) (b := last) (by omega) (by omega);have h3 : 0 <= cf r (k + dg G - 1) * last := Int.mul_nonneg (by omega) (by omega);have hcm : (cf r (k + dg G - 1) * last).tmod p = c := by rw [<- hc]; exact Int.tmod_eq_emod_of_nonneg h3
  refine wrs fun K hK => ?_;conv => whnf
  rw [hGl];refine ⟨oo, ?_⟩;conv => whnf
  refine ⟨oo, ?_⟩;conv => whnf
  refine ⟨oo, ?_⟩;conv => whnf
  rw [e2];refine ⟨by show _ <= cf r (k + dg G - 1) * last ∧ cf r (k + dg G - 1) * last <= _; omega, ?_⟩;conv => whnf
  refine ⟨by omega, ?_⟩;conv => whnf
  refine ⟨oo, ?_⟩;conv => whnf
  have e3 : (r.getD (k + dg G - 1) 0 * last).tmod p = c := hcm;rw [Int.toNat_natCast, e3];refine hK _ ?_;clear hK K;refine wrs fun K hK => ?_;conv => whnf
  rw [hGl];refine hK _ (W.block (W.invE (fun m e => ∃ (i b : Nat) (o : List Int), i <= dg G ∧ o.length = dg F ∧ (∀ j, cf o j = if k <= j ∧ j < k + i then (cf r j - c * cf G.l (j - k)) % p else cf r j) ∧ m = dg G - i ∧ e = [(vt, .tab fun _ => none), (0, .v (.int .i64 p)), (2, .v (.ints g' G.l)), (8, .ownI 2 b o), (9, .ownI 2 b' (q.set k c)), (10, .v (.int .i64 last)), (11, .v (.int .i64 k)), (54, .v (.ints g' G.l)), (55, .v (.int .i64 (dg G))), (56, .v (.int .i64 i))]) _ _ ⟨0, b, r, Nat.zero_le _, hrl, fun j => by rw [if_neg (by omega)], rfl, rfl⟩ (by dsimp only; omega) (by repeat' first | refine And.intro ?_ ?_ | exact trivial | rfl | omega | assumption | exact fun _ _ h => h) ?_));clear hK K b;rintro m' e ⟨i, b, o, h5, h6, h7, hm', rfl⟩;refine wrs fun K hK => ?_;conv => whnf
  refine hK _ ?_;clear hK K;refine W.seqK fun K7 hK7 => W.cond ⟨fun h8 => ?_, fun h8 => ?_⟩ <;> (first | replace h8 := of_decide_eq_true h8 | replace h8 := of_decide_eq_false h8)
  ·refine W.skip (hK7 _ ?_);clear hK7 K7;refine W.seqK fun K9 hK9 => W.block ?_;have h8 : i < dg G := by omega
   refine wrs fun K hK => ?_;conv => whnf
   refine ⟨oo, ?_⟩;conv => whnf
   rw [Int.toNat_natCast];refine hK _ ?_;clear hK K;obtain ⟨h9, h10⟩ := zef (p := p) (c := c) (g := cf G.l) (r := r) (o := o) (k := k) (i := i) h6 (by omega) h7;have h11 := hd.rr (k + i);have h12 := yV G i;have h13 := zcR (a := c) (b := cf G.l i) (by omega) h12;have e4 : ((k : Int) + i).toNat = k + i := by omega
   have e5 : (q.set k c).getD k 0 = c := by
    have := yH (l := q) (i := k) (by omega) c k;rw [if_pos rfl] at this; exact this
   refine W.draw (zb _) follows (by rfl) ?_;conv => whnf
   refine ⟨oo, ?_⟩;conv => whnf
   refine ⟨oo, ?_⟩;conv => whnf
   refine ⟨oo, ?_⟩;conv => whnf
   rw [e4];refine ⟨⟨by omega, by simp; omega⟩, ?_⟩;conv => whnf
   rw [Int.toNat_natCast, e5];refine ⟨by show _ <= c * cf G.l i ∧ c * cf G.l i <= _; omega, ?_⟩;conv => whnf
   refine ⟨by show _ <= cf o (k + i) - c * cf G.l i ∧ cf o (k + i) - c * cf G.l i <= _; omega, ?_⟩;conv => whnf
   refine ⟨_, cxF (zaq _ p (by omega) (by show _ <= cf o (k + i) - c * cf G.l i ∧ cf o (k + i) - c * cf G.l i <= _; omega) (by omega)), ?_⟩;conv => whnf
   refine ⟨oo, ?_⟩;conv => whnf
   refine hK9 _ ?_;clear hK9 K9;refine wrg ?_;conv => whnf
   refine ⟨oo, ?_⟩;conv => whnf
   exact zo ⟨i + 1, b, o.set (k + i) ((cf o (k + i) - c * cf G.l i) % p), by omega, by simpa using h6, h10, rfl, rfl⟩
  ·obtain rfl : i = dg G := by omega
   refine W.exit (hK8 _ ?_);clear hK7 K7 hK8 K8;refine wrg ?_;conv => whnf
   refine ⟨oo, ?_⟩;conv => whnf
   exact zo ⟨k, b, b', o, q.set k c, by omega, hd.step hG0 (by omega) c (by rw [hlast]; exact hc.symm) (by omega) h7, rfl, rfl⟩
 ·refine W.exit (hK1 _ ?_);clear hK7 K7 hK1 K1;obtain rfl : k' = 0 := by omega
  obtain ⟨h1, h2⟩ := hd.fin hG0;have hrl := hd.rl;have hql := hd.ql;refine wrs fun K hK => ?_;conv => whnf
  refine zh rfl (jR _ _ (by omega)) fun hs_1 b_1 hh_1 hf_1 => ?_;try dsimp only at hh_1 hf_1
  conv => whnf
  refine zh rfl (jR _ _ (by omega)) fun hs_2 b_2 hh_2 hf_2 => ?_;try dsimp only at hh_2 hf_2
  conv => whnf
  refine hK _ ?_;clear hK K;rw [h1, h2];have hf_1 := hf_1;rw [h1] at hf_1;rw [h2] at hf_2;have hd : (quo F G).l ≠ [] -> (rem F G).l ≠ [] -> b_1 ≠ b_2 := fun e1 e2 => by have := hf_1 e1; have := hf_2 e2; omega
  refine W.give 6 fun K hK => ?_;conv => whnf
  refine hK _ ?_;clear hK K;refine W.give 7 fun K hK => ?_;conv => whnf
  refine hK _ ?_;clear hK K;refine W.ret ?_;conv => whnf
  refine ⟨.v (.rf b_1 (quo F G).l.length), rfl, trivial, .v (.rf b_2 (rem F G).l.length), rfl, trivial, b_1, b_2, rfl, fun h => ?_, fun h => yI _ _ h, hd⟩
  by_cases h3 : (rem F G).l = []
  ·rw [h3]; exact yI _ _ h
  ·exact (xK _ _ (.inr (hd h h3))).trans (yI _ _ h)

/- fields -/

def two (x y : List Int) (i : Nat) : List Int := if i = 0 then x else y


def RT (l : List Int) (c : Int) : kX := fun _ _ x tb => ∃ b : Nat, x = .tup [.rf b l.length, .int .i64 c] ∧ (l ≠ [] -> tb b = some l)

/- powers -/
def R1 (l : List Int) : kX := fun _ _ x tb => ∃ b : Nat, x = .rf b l.length ∧ (l ≠ [] -> tb b = some l)

/- the program's begin: a field, an element, something more (a value b) -/
/- the reference's: $1 name $2 modulus $3 element $4 $5 their ghosts -/
/- c is not 0 -/
/- what becomes of c = 0 and something not right: code 2 -/





def Prim {p : Int} [SP p] (f X : Poly p) : Prop := zon f X (p.toNat ^ (dg f - 1) - 1)



theorem zkY {ys : List Int} {i : Nat} (h : i < ys.length) : zQ (-1) (ys.take (i + 1)) = zQ (-1) (ys.take i) ++ [-(cf ys i)] := by
 have h1 := y6 (fun x => (-1) * x) h;have e : ys.getD i 0 = cf ys i := rfl;rw [e] at h1;unfold zQ;rw [h1]; congr 2; omega
theorem zbl (g g' : Option Nat) (xs ys : List Int) (hx : Bd 9223372036854775807 xs) (hy : Bd 9223372036854775807 ys) (hs : ∀ j, -9223372036854775807 <= cf xs j - cf ys j ∧ cf xs j - cf ys j <= 9223372036854775807) (hxl : xs.length <= 1000000) (hyl : ys.length <= 1000000) : FnI 213 [.ints g xs, .ints g' ys] (zj (yu xs (zQ (-1) ys))) := by
 refine zf (zb [0, 1, 4, 5, 7, 8, 9, 10, 11]) Tryz.func213 rfl (by decide) Tryz.ntmps213 (Nat.le_of_ble_eq_true rfl) fun base => ?_;refine wrs fun K hK => ?_;conv => whnf
 refine hK _ ?_;clear hK K;refine wrs fun K hK => ?_;conv => whnf
 refine hK _ ?_;clear hK K;refine W.seqK fun K1 hK1 => ?_;refine wrs fun K hK => ?_;conv => whnf
 refine hK _ (W.block (W.invA (fun m e => ∃ i b : Nat, i <= ys.length ∧ m = ys.length - i ∧ e = [(0, .v (.ints g xs)), (5, .ownI 2 b (zQ (-1) (ys.take i))), (8, .v (.ints g' ys)), (9, .v (.int .i64 ys.length)), (10, .v (.int .i64 i))]) ⟨0, 0, Nat.zero_le _, rfl, rfl⟩ ?_));clear hK K;rintro m e ⟨i, b, hi, hm, rfl⟩;refine wrs fun K hK => ?_;conv => whnf
 refine hK _ ?_;clear hK K;refine W.seqK fun K7 hK7 => W.cond ⟨fun h => ?_, fun h => ?_⟩ <;> (first | replace h := of_decide_eq_true h | replace h := of_decide_eq_false h)
 ·have hi2 : i < ys.length := by omega
  have hyi := hy i;have hst := zkY hi2;have hsl : (zQ (-1) (ys.take i)).length = i := by simp [zQ]; omega
  refine W.skip (hK7 _ ?_);clear hK7 K7;refine W.seqK fun K8 hK8 => W.block ?_;refine wrs fun K hK => ?_;conv => whnf
  refine ⟨oo, ?_⟩;conv => whnf
  rw [Int.toNat_natCast];refine hK _ ?_;clear hK K;refine wrg ?_;conv => whnf
  refine ⟨by show _ <= -(cf ys i) ∧ -(cf ys i) <= _; omega, ?_⟩;conv => whnf
  refine ⟨⟨rfl, by decide⟩, ?_⟩;conv => whnf
  intro b_1 hs_1 hh_1 hf_1;try dsimp only at hh_1 hf_1
  conv => whnf
  refine ⟨by dsimp only [List.length]; omega, ?_⟩;conv => whnf
  intro b_2 hs_2 hh_2 hf_2;try dsimp only at hh_2 hf_2
  conv => whnf
  refine hK8 _ ?_;clear hK8 K8;refine wrg ?_;conv => whnf
  refine ⟨oo, ?_⟩;conv => whnf
  exact zo ⟨i + 1, b_2, by omega, rfl, by rw [hst]⟩
 ·obtain rfl : i = ys.length := by omega
  rw [List.take_length];have hsl : (zQ (-1) ys).length = ys.length := by simp [zQ]
  refine W.exit (hK1 _ ?_);clear hK7 K7 hK1 K1;refine wrs fun K hK => ?_;conv => whnf
  refine zh rfl (zew g (some b) xs (zQ (-1) ys) hx (fun j => by rw [xF]; have := hs j; omega) (by omega) (by omega)) fun hs_3 b_3 hh_3 hf_3 => ?_;try dsimp only at hh_3 hf_3
  conv => whnf
  refine hK _ ?_;clear hK K;refine W.ret ?_;conv => whnf
  exact ⟨.ownI 2 _ (zj (yu xs (zQ (-1) ys))), ⟨rfl, rfl, rfl⟩, trivial, _, rfl⟩

theorem zeD (g g' : Option Nat) (xs ys : List Int) (hx : Bd 1000000000000 xs) (hy : Bd 1000000000000 ys) (hxl : xs.length <= 1000000) (hyl : ys.length <= 1000000) : FnI 213 [.ints g xs, .ints g' ys] (zj (yu xs (zQ (-1) ys))) :=
 zbl g g' xs ys (hx.le (by omega)) (hy.le (by omega)) (fun j => by have := hx j; have := hy j; omega) hxl hyl

theorem zow {p : Int} [SP p] (X Y : Poly p) : nrm p (zj (yu X.l (zQ (-1) Y.l))) = (X - Y).l := vq _ _

theorem zcX (p : Int) [SP p] (g g' : Option Nat) (h f U : Poly p) (hf : dg f <= 500) (hh : dg h <= 500) (h2 : 2 <= dg f) (hU : dg U < dg f) (hU2 : f ∣ h * U - 1) : FnI 343 [.int .i64 p, .ints g h.l, .ints g' f.l] U.l := by
 have hp := Pr.two (p := p);have hp2 := SP.le (p := p);have hf0 : f ≠ 0 := fun e => by rw [e, zr] at h2; omega
 have hfl : f.l.length = dg f := rfl
 have hcop : Cop f h := by
  obtain ⟨q, hq⟩ := hU2;exact ⟨-q, U, comb 1 hq (zg [f, h, U, q] (by rfl))⟩
 refine zf (zb [0, 1, 2, 6, 7, 8, 9, 10, 11, 12, 21]) Tryz.func343 rfl (by decide) Tryz.ntmps343 (Nat.le_of_ble_eq_true rfl) fun base => ?_;refine wrs fun K hK => ?_;conv => whnf
 refine hK _ ?_;clear hK K;refine wrs fun K hK => ?_;conv => whnf
 refine zd rfl (yX p g g' h f (by omega) (by omega) hf0) fun hs' hhs => ?_;try dsimp only at hhs
 conv => whnf
 refine hK _ ?_;clear hK K;refine wrs fun K hK => ?_;conv => whnf
 refine ⟨⟨rfl, by decide⟩, ?_⟩;conv => whnf
 intro b_1 hs_1 hh_1 hf_1;try dsimp only at hh_1 hf_1
 conv => whnf
 refine hK _ ?_;clear hK K;refine W.seqK fun K1 hK1 => W.block (W.invA (fun m e => ∃ (a b u v : Poly p) (ga : Option Nat) (su sv : List Int), CofI f h a b u v ∧ su = u.l ∧ sv = v.l ∧ m = dg b ∧ e = [(0, .v (.int .i64 p)), (7, .v (.ints ga a.l)), (8, .v (.ints none b.l)), (9, .v (.ints none su)), (10, .v (.ints none sv))]) ⟨f, rem h f, 0, 1, g', [], [1], CofI.start hf0 hcop, jz.symm, zfG.symm, rfl, rfl⟩ ?_);rintro m e ⟨a, b, u, v, ga, su, sv, hI, rfl, rfl, hm, rfl⟩;obtain ⟨hu, hv, ha, hb⟩ := hI.few;have hbl : b.l.length = dg b := rfl;have hul : u.l.length = dg u := rfl;refine W.seqK fun K7 hK7 => wrs fun K hK => ?_;conv => whnf
 refine hK _ (W.cond ⟨fun h1 => ?_, fun h1 => ?_⟩) <;> clear hK K <;> (first | replace h1 := of_decide_eq_true h1 | replace h1 := of_decide_eq_false h1)
 ·have hb0 : b ≠ 0 := fun e => by have := ze.2 e; omega
  have hn := hI.step hb0;have hlt := zI a hb0;have hqd := ziV hI.a0 hb0 (Nat.le_of_lt hI.lt);have hqv := zM (quo a b) v;have hqvl : (quo a b * v).l.length = dg (quo a b * v) := rfl;refine W.skip (hK7 _ (W.block ?_));clear hK7 K7;refine wrs fun K hK => ?_;conv => whnf
  refine zd rfl (xZ p ga none a b (by omega) (by omega) hb0) fun hs' hhs => ?_;try dsimp only at hhs
  conv => whnf
  refine hK _ ?_;clear hK K;refine wrs fun K hK => ?_;conv => whnf
  refine hK _ ?_;clear hK K;refine wrg ?_;conv => whnf
  refine zh rfl (xI p none none (quo a b) v (by omega) (by omega)) fun hs_2 b_2 hh_2 hf_2 => ?_;try dsimp only at hh_2 hf_2
  conv => whnf
  refine zh rfl (zeD none (some b_2) u.l (quo a b * v).l ((yV u).le (by omega)) ((yV _).le (by omega)) (by omega) (by omega)) fun hs_3 b_3 hh_3 hf_3 => ?_;try dsimp only at hh_3 hf_3
  conv => whnf
  refine zh rfl (zq p (by omega) (by omega) (some b_3) (zj (yu u.l (zQ (-1) (quo a b * v).l))) (fun i => by rw [yj, yK, xF]; have := kn u i; have := kn (quo a b * v) i; omega) (by have := yA (yu u.l (zQ (-1) (quo a b * v).l)); unfold yu zQ at *; rw [zS, List.length_map] at *; omega)) fun hs_4 b_4 hh_4 hf_4 => ?_;try dsimp only at hh_4 hf_4
  conv => whnf
  rw [zow];exact zo ⟨b, rem a b, v, u - quo a b * v, none, _, _, hn, rfl, rfl, rfl, rfl⟩
 ·have hb0 : b = 0 := ze.1 (by omega);subst hb0;have ha1 := hI.cop.unit;have hal : a.l.length = dg a := rfl;have hc0 : cf a.l 0 % p ≠ 0 := z5 (yL (by omega));obtain ⟨i1, i2, i3⟩ := y5 hc0;obtain ⟨f1, f2⟩ := hI.fin i3
  have hU3 : u * con p (yd p (cf a.l 0)) = U := by
   have h3 := dvd_sub f2 hU2;rw [show h * (u * con p (yd p (cf a.l 0))) - 1 - (h * U - 1) = h * (u * con p (yd p (cf a.l 0)) - U) from zg [h, u, con p (yd p (cf a.l 0)), U] (by rfl)] at h3;have h4 := hcop.dvd h3;exact zbi (Classical.byContradiction fun h0 => zbh h0 (by have := vJ (u * con p (yd p (cf a.l 0))) U; omega) h4)
  have i4 : yd p (cf a.l 0) ≠ 0 := fun e => by rw [e] at i3; simp at i3
  have hcl := zhQ (p := p) (c := yd p (cf a.l 0)) (by omega) i2;have hcd := vL (p := p) (yd p (cf a.l 0));refine W.exit (hK1 _ ?_);clear hK7 K7 hK1 K1;refine wrs fun K hK => ?_;conv => whnf
  refine ⟨oo, ?_⟩;conv => whnf
  refine zd rfl (vr p _ (by have := yV a 0; show _ <= cf a.l 0 ∧ cf a.l 0 <= _; omega) hc0) fun hs' hhs => ?_;try dsimp only at hhs
  conv => whnf
  refine ⟨⟨rfl, by decide⟩, ?_⟩;conv => whnf
  intro b_2 hs_2 hh_2 hf_2;try dsimp only at hh_2 hf_2
  conv => whnf
  have e9 : [yd p (cf a.l 0)] = (con p (yd p (cf a.l 0))).l := hcl.symm;have e8 : [yd p (a.l.getD (Int.toNat 0) 0)] = (con p (yd p (cf a.l 0))).l := e9;rw [e8];refine zh rfl (xI p none _ u (con p (yd p (cf a.l 0))) (by omega) (by omega)) fun hs_3 b_3 hh_3 hf_3 => ?_;try dsimp only at hh_3 hf_3
  conv => whnf
  rw [hU3];refine hK _ ?_;clear hK K;refine W.ret ?_;conv => whnf
  exact ⟨.ownI 2 _ (U.l), ⟨rfl, rfl, rfl⟩, trivial, _, rfl⟩



/- how many are primitive -/


abbrev vR (p k : Int) : V := .agg [.int .i64 p, .int .i64 k]
def y9 (p k : Int) : Prop := isP p = true ∧ 1 <= k ∧ p ^ k.toNat <= 1000000000
theorem vZ {p : Int} (hp : 1 <= p) {a b : Nat} (h : a <= b) : p ^ a <= p ^ b := by
 obtain ⟨q, rfl⟩ : ∃ q : Nat, p = q := ⟨p.toNat, by omega⟩
 have h1 : q ^ a <= q ^ b := Nat.pow_le_pow_right (by omega) h;rw [<- Int.natCast_pow, <- Int.natCast_pow]; omega
theorem zaw {p : Int} (hp : 1 <= p) (a : Nat) : 1 <= p ^ a := by
 have := vZ hp (Nat.zero_le a)
 rwa [Int.pow_zero] at this
theorem zmy {p : Int} (hp : 2 <= p) {a : Nat} (h : p ^ a <= 1000000000) : a < 30 := by
 refine Nat.lt_of_not_le fun h1 => ?_;obtain ⟨q, rfl⟩ : ∃ q : Nat, p = q := ⟨p.toNat, by omega⟩
 have h2 := vZ (p := (q : Int)) (by omega) h1;have h3 : 2 ^ 30 <= q ^ 30 := Nat.pow_le_pow_left (by omega) 30;rw [<- Int.natCast_pow] at h2;omega
theorem y9.small {p k : Int} (h : y9 p k) : 2 <= p ∧ p <= 97 ∧ 1 <= k ∧ k < 30 ∧ 2 <= p ^ k.toNat ∧ p ^ k.toNat <= 1000000000 := by
 have h1 := zeA h.1;have h2 := zmy (by omega) h.2.2;have h3 := vZ (p := p) (by omega) (a := 1) (b := k.toNat) (by have := h.2.1; omega);rw [Int.pow_one] at h3;have := h.2.1;have := h.2.2;omega

theorem zfP (p k : Int) : FnV 347 [vR p k] (.bool (bP (y9 p k))) := by
 refine zf (zb [0, 1, 2, 3, 12, 15, 16, 17, 23]) Tryz.func347 rfl (by decide) Tryz.ntmps347 (Nat.le_of_ble_eq_true rfl) fun base => ?_;refine wrs fun K hK => ?_;conv => whnf
 refine ⟨rfl, ?_⟩;conv => whnf
 intro b_1 hs_1 hh_1 hf_1;try dsimp only at hh_1 hf_1
 conv => whnf
 refine hK _ ?_;clear hK K;refine W.seqK fun K1 hK1 => ?_;refine wrs fun K hK => ?_;conv => whnf
 refine zd rfl (kQ p) fun hs' hhs => ?_;try dsimp only at hhs
 conv => whnf
 refine ⟨fun h => ?_, fun h => ?_⟩ <;> conv => whnf
 ·have h : isP p = false := by simpa using h
  refine hK _ (W.condT rfl ?_);clear hK K;refine wrs fun K hK => ?_;conv => whnf
  refine hK _ ?_;clear hK K;refine W.ret ?_;conv => whnf
  exact ⟨.v (.bool (bP (y9 p k))), (zu fun h' => by rw [h'.1] at h; cases h), trivial, rfl⟩
 have h : isP p = true := by simpa using h
 have hp := zeA h;refine hK _ (W.cond ⟨fun h1 => ?_, fun h1 => ?_⟩) <;> clear hK K
 ·have h1 := of_decide_eq_true h1;refine wrs fun K hK => ?_;conv => whnf
  refine hK _ ?_;clear hK K;refine W.ret ?_;conv => whnf
  exact ⟨.v (.bool (bP (y9 p k))), zu fun h' => by have := h'.2.1; omega, trivial, rfl⟩
 have h1 := of_decide_eq_false h1;refine W.skip (hK1 _ ?_);clear hK1 K1;refine wrs fun K hK => ?_;conv => whnf
 refine hK _ ?_;clear hK K;refine W.seqK fun K1 hK1 => ?_;refine wrs fun K hK => ?_;conv => whnf
 refine hK _ (W.block (W.invA (fun m e => ∃ j : Nat, (j : Int) <= min k 40 ∧ p ^ j <= 1000000000 ∧ m = 40 - j ∧ e = [(1, .ownB b_1 (vR p k)), (3, .v (.int .i64 (p ^ j))), (15, .v (.int .i64 (min k 40))), (16, .v (.int .i64 j))]) ⟨0, by omega, by rw [Int.pow_zero]; omega, rfl, by rw [Int.pow_zero] <;> rfl⟩ ?_));clear hK K;rintro m e ⟨j, hj, hpj, hm, rfl⟩;have hpos := zaw (p := p) (by omega) j;have hs : p ^ (j + 1) = p ^ j * p := Int.pow_succ ..;have hb : 0 <= p ^ j * p ∧ p ^ j * p <= 1000000000 * 97 := ⟨Int.mul_nonneg (by omega) (by omega), Int.mul_le_mul hpj (by omega) (by omega) (by omega)⟩
 refine wrs fun K hK => ?_;conv => whnf
 refine hK _ ?_;clear hK K;refine W.seqK fun K7 hK7 => W.cond ⟨fun h2 => ?_, fun h2 => ?_⟩ <;> (first | replace h2 := of_decide_eq_true h2 | replace h2 := of_decide_eq_false h2)
 ·refine W.skip (hK7 _ ?_);clear hK7 K7;refine W.seqK fun K8 hK8 => W.block ?_;refine wrs fun K hK => ?_;conv => whnf
  refine ⟨oo, ?_⟩;conv => whnf
  refine hK _ ?_;clear hK K;refine wrs fun K hK => ?_;conv => whnf
  refine hK _ (W.cond ⟨fun h3 => ?_, fun h3 => ?_⟩) <;> clear hK K
  ·have h3 : 1000000000 < p ^ j * p := of_decide_eq_true h3;have h4 := vZ (p := p) (by omega) (a := j + 1) (b := k.toNat) (by omega);refine wrs fun K hK => ?_;conv => whnf
   refine hK _ ?_;clear hK K;refine W.ret ?_;conv => whnf
   exact ⟨.v (.bool (bP (y9 p k))), zu fun h' => by have := h'.2.2; omega, trivial, rfl⟩
  ·have h3 : ¬ 1000000000 < p ^ j * p := of_decide_eq_false h3;refine W.skip (hK8 _ ?_);clear hK8 K8;refine wrg ?_;conv => whnf
   refine ⟨oo, ?_⟩;conv => whnf
   refine ⟨_, _, ⟨j + 1, by omega, by omega, rfl, rfl⟩, by omega, by dsimp only; omega, ?_⟩;rw [hs];exact cvr
 ·have h4 := zmy (by omega) hpj;have h5 : k.toNat = j := by omega
  refine W.exit (hK1 _ ?_);clear hK7 K7 hK1 K1;refine wrs fun K hK => ?_;conv => whnf
  refine hK _ ?_;clear hK K;refine W.ret ?_;conv => whnf
  exact ⟨.v (.bool (bP (y9 p k))), zx ⟨h, by omega, by rw [h5]; exact hpj⟩, trivial, rfl⟩

def ze3 (p : Int) (n : Nat) : Int := if p ^ n <= 1000000000 then p ^ n else 0
theorem j2 (p : Int) (n : Nat) (h2 : 2 <= p) (h97 : p <= 97) (hn : n <= 1000000) : FnV 340 [.int .i64 p, .int .i64 n] (.int .i64 (ze3 p n)) := by
 refine zf (zb [0, 1, 4, 5, 7, 14]) Tryz.func340 rfl (by decide) Tryz.ntmps340 (Nat.le_of_ble_eq_true rfl) fun base => ?_;refine wrs fun K hK => ?_;conv => whnf
 refine hK _ ?_;clear hK K;refine wrs fun K hK => ?_;conv => whnf
 refine hK _ ?_;clear hK K;refine W.seqK fun K1 hK1 => W.block (W.invA (fun m e => ∃ k : Nat, k <= n ∧ p ^ k <= 1000000000 ∧ m = n - k ∧ e = [(0, .v (.int .i64 p)), (1, .v (.int .i64 ((n - k : Nat) : Int))), (5, .v (.int .i64 (p ^ k)))]) ⟨0, Nat.zero_le _, by rw [Int.pow_zero]; omega, rfl, by rw [Int.pow_zero] <;> rfl⟩ ?_);rintro m e ⟨k, h1, h3, hm, rfl⟩;have hpos := zaw (p := p) (by omega) k;have hs : p ^ (k + 1) = p ^ k * p := Int.pow_succ ..;have hb : 0 <= p ^ k * p ∧ p ^ k * p <= 1000000000 * 97 := ⟨Int.mul_nonneg (by omega) (by omega), Int.mul_le_mul h3 (by omega) (by omega) (by omega)⟩
 refine W.seqK fun K7 hK7 => wrs fun K hK => ?_;conv => whnf
 refine hK _ (W.cond ⟨fun h5 => ?_, fun h5 => ?_⟩) <;> clear hK K <;> (first | replace h5 := of_decide_eq_true h5 | replace h5 := of_decide_eq_false h5)
 ·refine W.skip (hK7 _ ?_);clear hK7 K7;refine W.seqK fun K8 hK8 => W.block ?_;refine wrs fun K hK => ?_;conv => whnf
  refine ⟨oo, ?_⟩;conv => whnf
  refine hK _ ?_;clear hK K;refine wrs fun K hK => ?_;conv => whnf
  refine hK _ (W.cond ⟨fun h6 => ?_, fun h6 => ?_⟩) <;> clear hK K
  ·have h6 : 1000000000 < p ^ k * p := of_decide_eq_true h6;have h7 := vZ (p := p) (by omega) (a := k + 1) (b := n) (by omega);refine wrs fun K hK => ?_;conv => whnf
   refine hK _ ?_;clear hK K;refine W.ret ?_;conv => whnf
   exact ⟨.v (.int .i64 (ze3 p n)), ⟨rfl, by unfold ze3; rw [if_neg (by omega)]⟩, trivial, rfl⟩
  ·have h6 : ¬ 1000000000 < p ^ k * p := of_decide_eq_false h6;refine W.skip (hK8 _ ?_);clear hK8 K8;refine wrg ?_;conv => whnf
   refine ⟨oo, ?_⟩;conv => whnf
   refine ⟨_, _, ⟨k + 1, by omega, by omega, rfl, rfl⟩, by omega, by dsimp only; omega, ?_⟩;rw [hs];exact cvr
 ·obtain rfl : k = n := by omega
  refine W.exit (hK1 _ ?_);clear hK7 K7 hK1 K1;refine wrs fun K hK => ?_;conv => whnf
  refine hK _ ?_;clear hK K;refine W.ret ?_;conv => whnf
  exact ⟨.v (.int .i64 (ze3 p k)), ⟨rfl, by unfold ze3; rw [if_pos h3]⟩, trivial, rfl⟩

theorem zbm (p k : Int) : FnV 339 [vR p k] (.bool (bP (y9 p k))) := by
 by_cases h : isP p = true
 case neg =>
  refine zf (zb [0, 1, 2]) Tryz.func339 rfl (by decide) Tryz.ntmps339 (Nat.le_of_ble_eq_true rfl) fun base => ?_;refine wrs fun K hK => ?_;conv => whnf
  refine ⟨rfl, ?_⟩;conv => whnf
  intro b_1 hs_1 hh_1 hf_1;try dsimp only at hh_1 hf_1
  conv => whnf
  refine hK _ ?_;clear hK K;refine wrs fun K hK => ?_;conv => whnf
  refine zd rfl (jQ p) fun hs' hhs => ?_;try dsimp only at hhs
  conv => whnf
  refine ⟨fun h1 => ?_, fun h1 => ?_⟩ <;> conv => whnf
  ·exact absurd h1 h
  refine hK _ ?_;clear hK K;refine W.ret ?_;conv => whnf
  exact ⟨.v (.bool (bP (y9 p k))), zu fun h' => h h'.1, trivial, rfl⟩
 have hp := zeA h
 by_cases hk : 1 <= k ∧ k <= 40
 case neg =>
  have hn : ¬ y9 p k := fun h' => by have := h'.small; omega
  refine zf (zb [0, 1, 2]) Tryz.func339 rfl (by decide) Tryz.ntmps339 (Nat.le_of_ble_eq_true rfl) fun base => ?_;refine wrs fun K hK => ?_;conv => whnf
  refine ⟨rfl, ?_⟩;conv => whnf
  intro b_1 hs_1 hh_1 hf_1;try dsimp only at hh_1 hf_1
  conv => whnf
  refine hK _ ?_;clear hK K;refine wrs fun K hK => ?_;conv => whnf
  refine zd rfl (jQ p) fun hs' hhs => ?_;try dsimp only at hhs
  conv => whnf
  refine ⟨fun h1 => ?_, fun h1 => ?_⟩ <;> conv => whnf
  ·refine zd rfl ((zar k 1 40).fa (decide_eq_false hk)) fun hs' hhs => ?_;try dsimp only at hhs
   conv => whnf
   refine hK _ ?_;clear hK K;refine W.ret ?_;conv => whnf
   exact ⟨.v (.bool (bP (y9 p k))), zu hn, trivial, rfl⟩
  ·exact absurd h (by rw [h1]; decide)
 obtain ⟨n, rfl⟩ : ∃ n : Nat, k = n := ⟨k.toNat, by omega⟩
 have hpos := zaw (p := p) (by omega) n
 have e1 : decide (0 < ze3 p n) = bP (y9 p n) := by
  unfold ze3
  by_cases h3 : p ^ n <= 1000000000
  ·rw [if_pos h3, zx ⟨h, hk.1, by rw [Int.toNat_natCast]; exact h3⟩]; exact decide_eq_true (by omega)
  ·rw [if_neg h3, zu fun h' => h3 (by have := h'.2.2; rwa [Int.toNat_natCast] at this)]; decide
 refine zf (zb [0, 1, 2]) Tryz.func339 rfl (by decide) Tryz.ntmps339 (Nat.le_of_ble_eq_true rfl) fun base => ?_;refine wrs fun K hK => ?_;conv => whnf
 refine ⟨rfl, ?_⟩;conv => whnf
 intro b_1 hs_1 hh_1 hf_1;try dsimp only at hh_1 hf_1
 conv => whnf
 refine hK _ ?_;clear hK K;refine wrs fun K hK => ?_;conv => whnf
 refine zd rfl (jQ p) fun hs' hhs => ?_;try dsimp only at hhs
 conv => whnf
 refine ⟨fun h1 => ?_, fun h1 => ?_⟩ <;> conv => whnf
 ·refine zd rfl ((zar (n : Nat) 1 40).tr (decide_eq_true hk)) fun hs' hhs => ?_;try dsimp only at hhs
  conv => whnf
  refine zd rfl (j2 p n (by omega) (by omega) (by omega)) fun hs' hhs => ?_;try dsimp only at hhs
  conv => whnf
  refine hK _ ?_;clear hK K;refine W.ret ?_;conv => whnf
  exact ⟨.v (.bool (bP (y9 p n))), e1, trivial, rfl⟩
 ·exact absurd h (by rw [h1]; decide)

theorem zeE (p k : Int) (h : y9 p k) : FnV 280 [vR p k] (.int .i64 (p ^ k.toNat)) := by
 obtain ⟨h1, h2, h3, h4, h5, h6⟩ := h.small;obtain ⟨n, rfl⟩ : ∃ n : Nat, k = n := ⟨k.toNat, by omega⟩
 rw [Int.toNat_natCast] at *;refine zf (zb [0, 1, 2]) Tryz.func280 rfl (by decide) Tryz.ntmps280 (Nat.le_of_ble_eq_true rfl) fun base => ?_;refine wrs fun K hK => ?_;conv => whnf
 refine ⟨rfl, ?_⟩;conv => whnf
 intro b_1 hs_1 hh_1 hf_1;try dsimp only at hh_1 hf_1
 conv => whnf
 refine hK _ ?_;clear hK K;refine wrs fun K hK => ?_;conv => whnf
 refine zd rfl (zhZ p n (fun j hj => by have := vZ (p := p) (by omega) hj; have := zaw (p := p) (by omega) j; constructor <;> omega) (by omega)) fun hs' hhs => ?_;try dsimp only at hhs
 conv => whnf
 refine hK _ ?_;clear hK K;refine W.ret ?_;conv => whnf
 exact ⟨.v (.int .i64 (p ^ n)), ⟨rfl, rfl⟩, trivial, rfl⟩
theorem zh6 (p k c : Int) (h : y9 p k) : FnV 349 [vR p k, .int .i64 c] (.bool (decide (0 <= c ∧ c <= p ^ k.toNat - 1))) := by
 obtain ⟨h1, h2, h3, h4, h5, h6⟩ := h.small;refine zf (zb [0, 1, 2, 4]) Tryz.func349 rfl (by decide) Tryz.ntmps349 (Nat.le_of_ble_eq_true rfl) fun base => ?_;refine wrs fun K hK => ?_;conv => whnf
 refine ⟨rfl, ?_⟩;conv => whnf
 intro b_1 hs_1 hh_1 hf_1;try dsimp only at hh_1 hf_1
 conv => whnf
 refine hK _ ?_;clear hK K;refine wrs fun K hK => ?_;conv => whnf
 refine zd rfl (zeE p k h) fun hs' hhs => ?_;try dsimp only at hhs
 conv => whnf
 refine ⟨oo, ?_⟩;conv => whnf
 refine zd rfl (zaM _ _ _) fun hs' hhs => ?_;try dsimp only at hhs
 conv => whnf
 refine hK _ ?_;clear hK K;refine W.ret ?_;conv => whnf
 exact ⟨.v (.bool (decide (0 <= c ∧ c <= p ^ k.toNat - 1))), rfl, trivial, rfl⟩
theorem zmz (p k c : Int) (g : Option Nat) (h : y9 p k) : FnV 348 [.int .i64 c, .box g (vR p k)] (.bool (!(decide (0 <= c ∧ c <= p ^ k.toNat - 1)))) := by
 refine zf (zb [0, 1, 3]) Tryz.func348 rfl (by decide) Tryz.ntmps348 (Nat.le_of_ble_eq_true rfl) fun base => ?_;refine wrs fun K hK => ?_;conv => whnf
 refine hK _ ?_;clear hK K;refine wrs fun K hK => ?_;conv => whnf
 refine zd rfl (zh6 p k c h) fun hs' hhs => ?_;try dsimp only at hhs
 conv => whnf
 refine hK _ ?_;clear hK K;refine W.ret ?_;conv => whnf
 exact ⟨.v (.bool (!(decide (0 <= c ∧ c <= p ^ k.toNat - 1)))), rfl, trivial, rfl⟩

def xz (p k : Int) (xs : List Int) : Prop := y9 p k ∧ xs.length <= 9 ∧ ze2 0 (p ^ k.toNat - 1) xs ∧ zj1 xs

theorem xk (p k : Int) (g : Option Nat) (xs : List Int) (hl : xs.length <= 1000000000) : FnV 261 [vR p k, .ints g xs] (.bool (bP (xz p k xs))) := by
 by_cases hr : y9 p k
 case neg =>
  refine zf (zb [0, 1, 2, 4, 17]) Tryz.func261 rfl (by decide) Tryz.ntmps261 (Nat.le_of_ble_eq_true rfl) fun base => ?_;refine wrs fun K hK => ?_;conv => whnf
  refine ⟨rfl, ?_⟩;conv => whnf
  intro b_1 hs_1 hh_1 hf_1;try dsimp only at hh_1 hf_1
  conv => whnf
  refine hK _ ?_;clear hK K;refine W.seqK fun K1 hK1 => ?_;refine wrs fun K hK => ?_;conv => whnf
  refine zd rfl ((zfP p k).fa (zu hr)) fun hs' hhs => ?_;try dsimp only at hhs
  conv => whnf
  refine hK _ (W.condT rfl ?_);clear hK K;refine wrs fun K hK => ?_;conv => whnf
  refine hK _ ?_;clear hK K;refine W.ret ?_;conv => whnf
  exact ⟨.v (.bool (bP (xz p k xs))), zu fun h => hr h.1, trivial, rfl⟩
 have hs := hr.small;refine zf (zb [0, 1, 2, 4, 17]) Tryz.func261 rfl (by decide) Tryz.ntmps261 (Nat.le_of_ble_eq_true rfl) fun base => ?_;refine wrs fun K hK => ?_;conv => whnf
 refine ⟨rfl, ?_⟩;conv => whnf
 intro b_1 hs_1 hh_1 hf_1;try dsimp only at hh_1 hf_1
 conv => whnf
 refine hK _ ?_;clear hK K;refine W.seqK fun K1 hK1 => ?_;refine wrs fun K hK => ?_;conv => whnf
 refine zd rfl ((zfP p k).tr (zx hr)) fun hs' hhs => ?_;try dsimp only at hhs
 conv => whnf
 refine ⟨fun h0 => ?_, fun h0 => ?_⟩ <;> conv => whnf
 ·have h0 := of_decide_eq_true h0;refine hK _ (W.condT rfl ?_);clear hK K;refine wrs fun K hK => ?_;conv => whnf
  refine hK _ ?_;clear hK K;refine W.ret ?_;conv => whnf
  exact ⟨.v (.bool (bP (xz p k xs))), zu fun h => by have := h.2.1; omega, trivial, rfl⟩
 have h0 := of_decide_eq_false h0;refine zd rfl (kR g xs 348 [.box none (vR p k)] (fun i => !(decide (0 <= cf xs i ∧ cf xs i <= p ^ k.toNat - 1))) (by omega) (fun i hi => zmz p k _ none hr)) fun hs' hhs => ?_;try dsimp only at hhs
 conv => whnf
 refine hK _ (W.cond ⟨fun h1 => ?_, fun h1 => ?_⟩) <;> clear hK K
 ·have h1 := zdi.1 (zcw.1 h1);refine wrs fun K hK => ?_;conv => whnf
  refine hK _ ?_;clear hK K;refine W.ret ?_;conv => whnf
  exact ⟨.v (.bool (bP (xz p k xs))), zu fun h => h1 h.2.2.1, trivial, rfl⟩
 have h1 : ze2 0 (p ^ k.toNat - 1) xs := Classical.byContradiction fun h' => zmw h1 (zdi.2 h');refine W.skip (hK1 _ ?_);clear hK1 K1;refine wrs fun K hK => ?_;conv => whnf
 refine ⟨fun h2 => ?_, fun h2 => ?_⟩ <;> conv => whnf
 ·have h2 := of_decide_eq_true h2;refine hK _ ?_;clear hK K;refine W.ret ?_;conv => whnf
  exact ⟨.v (.bool (bP (xz p k xs))), (by show bP _ = true; exact zx ⟨hr, by omega, h1, .inl (by omega)⟩), trivial, rfl⟩
 ·have h2 := of_decide_eq_false h2;have e1 : ((xs.length : Int) - 1).toNat = xs.length - 1 := by omega
  refine ⟨oo, ?_⟩;conv => whnf
  refine ⟨oo, ?_⟩;conv => whnf
  rw [e1];refine hK _ ?_;clear hK K;refine W.ret ?_;conv => whnf
  refine ⟨.v (.bool (bP (xz p k xs))), ?_, trivial, rfl⟩;show decide (cf xs (xs.length - 1) ≠ 0) = bP (xz p k xs)
  by_cases hc : cf xs (xs.length - 1) ≠ 0
  ·rw [decide_eq_true hc, zx ⟨hr, by omega, h1, .inr hc⟩]
  ·rw [decide_eq_false hc, zu fun h => h.2.2.2.elim (fun h3 => h2 (by omega)) hc]

theorem ym (p k : Int) (g : Option Nat) (xs : List Int) (hl : xs.length <= 1000000000) : FnV 254 [vR p k, .ints g xs] (.bool (bP (xz p k xs))) := by
 by_cases hr : y9 p k
 case neg =>
  refine zf (zb [0, 1, 2, 4, 5, 6, 14, 23, 33]) Tryz.func254 rfl (by decide) Tryz.ntmps254 (Nat.le_of_ble_eq_true rfl) fun base => ?_;refine wrs fun K hK => ?_;conv => whnf
  refine ⟨rfl, ?_⟩;conv => whnf
  intro b_1 hs_1 hh_1 hf_1;try dsimp only at hh_1 hf_1
  conv => whnf
  refine hK _ ?_;clear hK K;refine W.seqK fun K1 hK1 => ?_;refine wrs fun K hK => ?_;conv => whnf
  refine zd rfl ((zbm p k).fa (zu hr)) fun hs' hhs => ?_;try dsimp only at hhs
  conv => whnf
  refine hK _ (W.condT rfl ?_);clear hK K;refine wrs fun K hK => ?_;conv => whnf
  refine hK _ ?_;clear hK K;refine W.ret ?_;conv => whnf
  exact ⟨.v (.bool (bP (xz p k xs))), zu fun h => hr h.1, trivial, rfl⟩
 obtain ⟨s1, s2, s3, s4, s5, s6⟩ := hr.small;obtain ⟨n, rfl⟩ : ∃ n : Nat, k = n := ⟨k.toNat, by omega⟩
 rw [Int.toNat_natCast] at s5 s6;have hmS : ze3 p n = p ^ n := if_pos s6;have hR : ∀ {a : Prop}, (xz p n xs ↔ y9 p n ∧ xs.length <= 9 ∧ ze2 0 (p ^ n - 1) xs ∧ zj1 xs) := fun {_} => by unfold xz; rw [Int.toNat_natCast]
 have hR := @hR True;refine zf (zb [0, 1, 2, 4, 5, 6, 14, 23, 33]) Tryz.func254 rfl (by decide) Tryz.ntmps254 (Nat.le_of_ble_eq_true rfl) fun base => ?_;refine wrs fun K hK => ?_;conv => whnf
 refine ⟨rfl, ?_⟩;conv => whnf
 intro b_1 hs_1 hh_1 hf_1;try dsimp only at hh_1 hf_1
 conv => whnf
 refine hK _ ?_;clear hK K;refine W.seqK fun K1 hK1 => ?_;refine wrs fun K hK => ?_;conv => whnf
 refine zd rfl ((zbm p n).tr (zx hr)) fun hs' hhs => ?_;try dsimp only at hhs
 conv => whnf
 refine hK _ (W.cond ⟨fun h0 => ?_, fun h0 => ?_⟩) <;> clear hK K
 ·have h0 := of_decide_eq_true h0;refine wrs fun K hK => ?_;conv => whnf
  refine hK _ ?_;clear hK K;refine W.ret ?_;conv => whnf
  exact ⟨.v (.bool (bP (xz p n xs))), zu fun h => by have := h.2.1; omega, trivial, rfl⟩
 have h0 := of_decide_eq_false h0;refine W.skip (hK1 _ ?_);clear hK1 K1;refine wrs fun K hK => ?_;conv => whnf
 refine zd rfl (j2 p n (by omega) (by omega) (by omega)) fun hs' hhs => ?_;try dsimp only at hhs
 conv => whnf
 rw [hmS];refine hK _ ?_;clear hK K;refine W.seqK fun K1 hK1 => ?_;refine wrs fun K hK => ?_;conv => whnf
 refine hK _ (W.block (W.invA (fun m e => ∃ i : Nat, i <= xs.length ∧ (∀ j, j < i -> 0 <= cf xs j ∧ cf xs j <= p ^ n - 1) ∧ m = xs.length - i ∧ e = [(1, .v (.ints g xs)), (5, .v (.int .i64 (p ^ n))), (6, .v (.int .i64 i))]) ⟨0, Nat.zero_le _, fun j hj => by omega, rfl, rfl⟩ ?_));clear hK K;rintro m e ⟨i, hi, h1, hm, rfl⟩;refine W.seqK fun K7 hK7 => wrs fun K hK => ?_;conv => whnf
 refine hK _ (W.cond ⟨fun h2 => ?_, fun h2 => ?_⟩) <;> clear hK K <;> (first | replace h2 := of_decide_eq_true h2 | replace h2 := of_decide_eq_false h2)
 ·refine W.skip (hK7 _ ?_);clear hK7 K7;refine W.seqK fun K8 hK8 => W.block ?_;refine wrs fun K hK => ?_;conv => whnf
  refine ⟨oo, ?_⟩;conv => whnf
  rw [Int.toNat_natCast];refine ⟨oo, ?_⟩;conv => whnf
  refine zd rfl (zar _ _ _) fun hs' hhs => ?_;try dsimp only at hhs
  conv => whnf
  refine hK _ (W.cond ⟨fun h3 => ?_, fun h3 => ?_⟩) <;> clear hK K
  ·have h3 : ¬ (0 <= cf xs i ∧ cf xs i <= p ^ n - 1) := zj0 h3;refine wrs fun K hK => ?_;conv => whnf
   refine hK _ ?_;clear hK K;refine W.ret ?_;conv => whnf
   exact ⟨.v (.bool (bP (xz p n xs))), zu fun h => h3 ((hR.1 h).2.2.1 i (by omega)), trivial, rfl⟩
  ·have h3 : 0 <= cf xs i ∧ cf xs i <= p ^ n - 1 := zh5 h3;refine W.skip (hK8 _ ?_);clear hK8 K8;refine wrg ?_;conv => whnf
   refine ⟨oo, ?_⟩;conv => whnf
   exact zo ⟨i + 1, by omega, fun j hj => by by_cases h9 : j = i; (subst h9; exact h3); exact h1 j (by omega), rfl, rfl⟩
 ·obtain rfl : i = xs.length := by omega
  have h1 : ze2 0 (p ^ n - 1) xs := h1;refine W.exit (hK1 _ ?_);clear hK7 K7 hK1 K1;refine wrs fun K hK => ?_;conv => whnf
  refine ⟨fun h2 => ?_, fun h2 => ?_⟩ <;> conv => whnf
  ·have h2 := of_decide_eq_true h2;refine hK _ ?_;clear hK K;refine W.ret ?_;conv => whnf
   exact ⟨.v (.bool (bP (xz p n xs))), (by show bP _ = true; exact zx (hR.2 ⟨hr, by omega, h1, .inl (by omega)⟩)), trivial, rfl⟩
  ·have h2 := of_decide_eq_false h2;have e1 : ((xs.length : Int) - 1).toNat = xs.length - 1 := by omega
   refine ⟨oo, ?_⟩;conv => whnf
   refine ⟨oo, ?_⟩;conv => whnf
   rw [e1];refine hK _ ?_;clear hK K;refine W.ret ?_;conv => whnf
   refine ⟨.v (.bool (bP (xz p n xs))), ?_, trivial, rfl⟩;show decide (cf xs (xs.length - 1) ≠ 0) = bP (xz p n xs)
   by_cases hc : cf xs (xs.length - 1) ≠ 0
   ·rw [decide_eq_true hc, zx (hR.2 ⟨hr, by omega, h1, .inr hc⟩)]
   ·rw [decide_eq_false hc, zu fun h => (hR.1 h).2.2.2.elim (fun h3 => h2 (by omega)) hc]

/- extensions -/

structure ExtP (p k M : Int) [SP p] [Pos M] (f : Poly M) (n : Nat) : Prop where
 rn : xz p k f.l
 hm : p ^ k.toNat = M
 mn : Mn f n
 n1 : 1 <= n
 n8 : n <= 8
 fld : IsFld p (im p f).l
 irr : Irr (im p f)
 pm : p ∣ M
 ple : p <= M
 m2 : 2 <= M
 m9 : M <= 1000000000

theorem zno {p k M : Int} [Pos M] (hm : p ^ k.toNat = M) {x : List Int} (h : xz p k x) : ∃ X : Poly M, X.l = x := by
 refine ⟨⟨x, ⟨fun c hx => ?_, fun n hn => ?_⟩⟩, rfl⟩
 ·obtain ⟨i, hi, rfl⟩ := List.getElem_of_mem hx;have h1 := h.2.2.1 i hi;rw [vT hi, hm] at h1; omega
 ·rcases h.2.2.2 with h0 | h0
  ·omega
  ·rw [hn] at h0; exact h0

section
variable {p k M : Int} [SP p] [Pos M] {f : Poly M} {n : Nat}

theorem yn (hm : M <= 1000000000) (X : Poly M) : Bd 999999999 X.l := fun j => by have := xU X j; omega
theorem znp (hm : M <= 1000000000) (X Y : Poly M) (hX : dg X <= 8) : Bd 9223372036854775807 (zj (z0 X.l Y.l)) := by
 refine Bd.trim fun j => ?_;rw [vP];have := zhM (A := 999999999) (B := 999999999) (by omega) (by omega) (n := dg X) (cf X.l) (cf Y.l) (yn hm X) (fun j hj => zY hj) (yn hm Y) j;have h2 : (dg X : Int) * (999999999 * 999999999) <= 8 * (999999999 * 999999999) := Int.mul_le_mul_of_nonneg_right (by omega) (by omega);omega

theorem zcy {p M : Int} (h : y9 p k) (hm : p ^ k.toNat = M) : FnV 280 [vR p k] (.int .i64 M) := (zeE p k h).mono (by rw [hm])
theorem mulR {a b : Int} (ha : 0 <= a ∧ a <= 999999999) (hb : 0 <= b ∧ b <= 999999999) : 0 <= a * b ∧ a * b <= 999999998000000001 :=
 ⟨Int.mul_nonneg ha.1 hb.1, by have := Int.mul_le_mul ha.2 hb.2 hb.1 (by omega : (0 : Int) <= 999999999); omega⟩

/- the same in the reference -/
theorem zja {M : Int} {f h : List Int} {o : List Int} {i k : Nat} (hn : o.length + 1 = f.length + h.length) (hi : i < f.length) (hk : k < h.length) (h3 : ∀ j, cf o j = part (cf f) (cf h) i k j % M) :
  i + k < o.length ∧ ∀ j, cf (o.set (i + k) ((cf o (i + k) + cf f i * cf h k) % M)) j = part (cf f) (cf h) i (k + 1) j % M := by
 refine ⟨by omega, fun j => ?_⟩;rw [yH (by omega), zaJ]
 split
 ·rename_i hj; subst hj; rw [h3, Int.emod_add_emod]
 ·exact h3 j
theorem zkZ {f h : Poly M} {o : List Int} (ho : ∀ j, cf o j = cv (cf f.l) (cf h.l) j % M) : zj o = (f * h).l := by
 refine yc (yU _) (f * h).ok.2 fun i => ?_;rw [yj, ho, yG]

theorem zax (m9 : M <= 1000000000) (g g' : Option Nat) (F H : Poly M) (hF : dg F <= 1000) (hH : dg H <= 1000) : FnI 342 [.ints g F.l, .ints g' H.l, .int .i64 M] (F * H).l := by
 have hp := Pos.pos (p := M);have hFl : F.l.length = dg F := rfl;have hHl : H.l.length = dg H := rfl
 have hz : (dg F = 0 ∨ dg H = 0) -> (F * H).l = [] := fun h => by
  have h1 : F * H = 0 := h.elim (fun h => by rw [ze.1 h]; exact zg [H] (by rfl)) fun h => by rw [ze.1 h]; exact zg [F] (by rfl)
  rw [h1]; exact jz
 refine zf (zb [0, 1, 2, 6, 7, 8, 9, 17, 29, 35]) Tryz.func342 rfl (by decide) Tryz.ntmps342 (Nat.le_of_ble_eq_true rfl) fun base => ?_;refine wrs fun K hK => ?_;conv => whnf
 refine hK _ ?_;clear hK K;refine W.seqK fun K1 hK1 => wrs fun K hK => ?_;conv => whnf
 refine ⟨fun h0 => ?_, fun h0 => ?_⟩ <;> conv => whnf
 ·have h0 := of_decide_eq_true h0;refine hK _ (W.condT rfl ?_);clear hK K;refine wrs fun K hK => ?_;conv => whnf
  refine ⟨⟨rfl, by decide⟩, ?_⟩;conv => whnf
  intro b_0 hs_0 hh_0 hf_0;try dsimp only at hh_0 hf_0
  conv => whnf
  refine hK _ ?_;clear hK K;refine W.ret ?_;conv => whnf
  exact ⟨.ownI 2 b_0 [], ⟨rfl, rfl, rfl⟩, trivial, _, by rw [hz (.inl (by omega))]⟩
 have h0 := of_decide_eq_false h0;refine hK _ (W.cond ⟨fun h0' => ?_, fun h0' => ?_⟩) <;> clear hK K
 ·have h0' := of_decide_eq_true h0';refine wrs fun K hK => ?_;conv => whnf
  refine ⟨⟨rfl, by decide⟩, ?_⟩;conv => whnf
  intro b_0 hs_0 hh_0 hf_0;try dsimp only at hh_0 hf_0
  conv => whnf
  refine hK _ ?_;clear hK K;refine W.ret ?_;conv => whnf
  exact ⟨.ownI 2 b_0 [], ⟨rfl, rfl, rfl⟩, trivial, _, by rw [hz (.inr (by omega))]⟩
 have h0' := of_decide_eq_false h0';clear hz;refine W.skip (hK1 _ ?_);clear hK1 K1;refine wrs fun K hK => ?_;conv => whnf
 refine ⟨oo, ?_⟩;conv => whnf
 refine ⟨oo, ?_⟩;conv => whnf
 refine ⟨rfl, ?_⟩;conv => whnf
 refine ⟨oo, ?_⟩;conv => whnf
 have hn : ((F.l.length : Int) + H.l.length - 1).toNat + 1 = F.l.length + H.l.length := by omega
 generalize hnn : ((F.l.length : Int) + H.l.length - 1).toNat = n at hn;intro b_0 hs_0 hh_0 hf_0;try dsimp only at hh_0 hf_0
 conv => whnf
 refine hK _ ?_;clear hK K;refine W.seqK fun K1 hK1 => wrs fun K hK => ?_;conv => whnf
 refine hK _ (W.block (W.invA (fun m e => ∃ (i b : Nat) (o : List Int), i <= F.l.length ∧ o.length = n ∧ (∀ j, cf o j = part (cf F.l) (cf H.l) i 0 j % M) ∧ m = F.l.length - i ∧ e = [(0, .v (.ints g F.l)), (1, .v (.ints g' H.l)), (2, .v (.int .i64 M)), (7, .ownI 2 b o), (8, .v (.int .i64 i))]) ⟨0, b_0, List.replicate n 0, Nat.zero_le _, by simp, fun j => by rw [zP, zbd]; rfl, rfl, rfl⟩ ?_));clear hK K;rintro m e ⟨i, b, o, h1, h2, h3, hm, rfl⟩;refine W.seqK fun K7 hK7 => wrs fun K hK => ?_;conv => whnf
 refine hK _ (W.cond ⟨fun h4 => ?_, fun h4 => ?_⟩) <;> clear hK K <;> (first | replace h4 := of_decide_eq_true h4 | replace h4 := of_decide_eq_false h4)
 ·refine W.skip (hK7 _ ?_);clear hK7 K7;refine W.seqK fun K8 hK8 => W.block ?_;have h4 : i < F.l.length := by omega
  refine wrs fun K hK => ?_;conv => whnf
  refine hK _ (W.block (W.invE (fun m e => ∃ (k b : Nat) (o : List Int), k <= H.l.length ∧ o.length = n ∧ (∀ j, cf o j = part (cf F.l) (cf H.l) i k j % M) ∧ m = H.l.length - k ∧ e = [(0, .v (.ints g F.l)), (1, .v (.ints g' H.l)), (2, .v (.int .i64 M)), (7, .ownI 2 b o), (8, .v (.int .i64 i)), (9, .v (.int .i64 k))]) _ _ ⟨0, b, o, Nat.zero_le _, h2, h3, rfl, rfl⟩ (by dsimp only; omega) (by repeat' first | refine And.intro ?_ ?_ | exact trivial | rfl | omega | assumption) ?_));clear hK K;clear h3 h2 b o;rintro m' e ⟨k, b, o, h5, h2, h3, hm', rfl⟩;refine W.seqK fun K7 hK7 => wrs fun K hK => ?_;conv => whnf
  refine hK _ (W.cond ⟨fun h6 => ?_, fun h6 => ?_⟩) <;> clear hK K <;> (first | replace h6 := of_decide_eq_true h6 | replace h6 := of_decide_eq_false h6)
  ·refine W.skip (hK7 _ ?_);clear hK7 K7;refine W.seqK fun K10 hK10 => W.block ?_;have h7 := zja (o := o) (by omega) h4 (by omega : k < H.l.length) h3;have h8 : 0 <= cf o (i + k) ∧ cf o (i + k) < M := by rw [h3]; exact ⟨Int.emod_nonneg _ (by omega), Int.emod_lt_of_pos _ (by omega)⟩
   have h9 := xU F i;have h10 := xU H k;have h11 := mulR (a := cf F.l i) (b := cf H.l k) (by omega) (by omega);have e1 : ((i : Int) + k).toNat = i + k := by omega
   have e2 : (cf o (i + k) + cf F.l i * cf H.l k).tmod M = (cf o (i + k) + cf F.l i * cf H.l k) % M := Int.tmod_eq_emod_of_nonneg (by omega);have e3 : (o.getD (i + k) 0 + F.l.getD i 0 * H.l.getD k 0).tmod M = (cf o (i + k) + cf F.l i * cf H.l k) % M := e2;refine W.draw (zb _) follows (by rfl) ?_;conv => whnf
   refine ⟨oo, ?_⟩;conv => whnf
   refine ⟨oo, ?_⟩;conv => whnf
   refine ⟨oo, ?_⟩;conv => whnf
   refine ⟨oo, ?_⟩;conv => whnf
   refine ⟨oo, ?_⟩;conv => whnf
   rw [e1, Int.toNat_natCast, Int.toNat_natCast];refine ⟨by show _ <= cf F.l i * cf H.l k ∧ cf F.l i * cf H.l k <= _; omega, ?_⟩;conv => whnf
   refine ⟨by show _ <= cf o (i + k) + cf F.l i * cf H.l k ∧ cf o (i + k) + cf F.l i * cf H.l k <= _; omega, ?_⟩;conv => whnf
   refine ⟨by omega, ?_⟩;conv => whnf
   rw [e3];refine ⟨oo, ?_⟩;conv => whnf
   refine hK10 _ ?_;clear hK10 K10;refine wrg ?_;conv => whnf
   refine ⟨oo, ?_⟩;conv => whnf
   exact zo ⟨k + 1, b, o.set (i + k) ((cf o (i + k) + cf F.l i * cf H.l k) % M), by omega, by simpa using h2, h7.2, rfl, rfl⟩
  ·obtain rfl : k = H.l.length := by omega
   refine W.exit (hK8 _ ?_);clear hK7 K7 hK8 K8;refine wrg ?_;conv => whnf
   refine ⟨oo, ?_⟩;conv => whnf
   exact zo ⟨i + 1, b, o, by omega, h2, fun j => by rw [h3 j]; congr 1; exact zed (fun j hj => zE hj) i j, rfl, rfl⟩
 ·refine W.exit (hK1 _ ?_);clear hK7 K7 hK1 K1;obtain rfl : i = F.l.length := by omega
  refine wrs fun K hK => ?_;conv => whnf
  refine zh rfl (yW _ _ (by omega)) fun hs_1 b_1 hh_1 hf_1 => ?_;try dsimp only at hh_1 hf_1
  conv => whnf
  refine hK _ ?_;clear hK K;refine W.ret ?_;conv => whnf
  exact ⟨.ownI 2 _ ((F * H).l), ⟨rfl, rfl, zkZ fun j => by rw [h3 j]; congr 1; exact zee (fun j hj => zE hj) j⟩, trivial, _, rfl⟩

def RgL (M : Int) (l : List Int) : Prop := ∀ j, 0 <= cf l j ∧ cf l j < M
theorem zn4 {s c : Int} (hs : s = 1 ∨ s = -1) (hc : 0 <= c ∧ c <= 999999999) : -999999999 <= s * c ∧ s * c <= 999999999 := by rcases hs with rfl | rfl <;> omega
theorem zay (m9 : M <= 1000000000) (g g' : Option Nat) (xs ys : List Int) (s : Int) (hx : RgL M xs) (hsy : ∀ j, -999999999999999 <= s * cf ys j ∧ s * cf ys j <= 999999999999999) (hxl : xs.length <= 1000) (hyl : ys.length <= 1000) : FnI 282 [.ints g xs, .ints g' ys, .int .i64 s, .int .i64 M] (nrm M (yu xs (zQ s ys))) := by
 have hp := Pos.pos (p := M);have hmx : (max (xs.length : Int) (ys.length : Int)) = ((max xs.length ys.length : Nat) : Int) := by omega
 refine zf (zb [0, 1, 2, 3, 8, 9, 10, 20, 26, 37]) Tryz.func282 rfl (by decide) Tryz.ntmps282 (Nat.le_of_ble_eq_true rfl) fun base => ?_;refine wrs fun K hK => ?_;conv => whnf
 refine hK _ ?_;clear hK K;refine wrs fun K hK => ?_;conv => whnf
 rw [hmx];refine ⟨rfl, ?_⟩;conv => whnf
 refine ⟨oo, ?_⟩;conv => whnf
 rw [Int.toNat_natCast];have hx2 : xs.length <= max xs.length ys.length := by omega
 have hy2 : ys.length <= max xs.length ys.length := by omega
 have hN : max xs.length ys.length <= 1000 := by omega
 generalize max xs.length ys.length = N at hx2 hy2 hN;intro b_0 hs_0 hh_0 hf_0;try dsimp only at hh_0 hf_0
 conv => whnf
 refine hK _ ?_;clear hK K;refine W.seqK fun K1 hK1 => wrs fun K hK => ?_;conv => whnf
 refine hK _ (W.block (W.invA (fun m e => ∃ (i b : Nat) (o : List Int), i <= N ∧ o.length = N ∧ (∀ j, cf o j = if j < i then (cf xs j + s * cf ys j) % M else 0) ∧ m = N - i ∧ e = [(0, .v (.ints g xs)), (1, .v (.ints g' ys)), (2, .v (.int .i64 s)), (3, .v (.int .i64 M)), (9, .ownI 2 b o), (10, .v (.int .i64 i))]) ⟨0, b_0, List.replicate N 0, Nat.zero_le _, by simp, fun j => by rw [zP, if_neg (by omega)], rfl, rfl⟩ ?_));clear hK K;rintro m e ⟨i, b, o, h1, h2, h3, hm, rfl⟩;refine W.seqK fun K7 hK7 => wrs fun K hK => ?_;conv => whnf
 refine hK _ (W.cond ⟨fun h4 => ?_, fun h4 => ?_⟩) <;> clear hK K <;> (first | replace h4 := of_decide_eq_true h4 | replace h4 := of_decide_eq_false h4)
 ·refine W.skip (hK7 _ ?_);clear hK7 K7;refine W.seqK fun K8 hK8 => W.block ?_;have hxi := hx i;have hmi := hsy i;refine W.seqK fun K9 hK9 => ?_
  have fin : ∀ (o' : List Int) (b' : Nat) (t : S), o'.length = N -> (∀ j, cf o' j = if j < i + 1 then (cf xs j + s * cf ys j) % M else 0) -> base <= t.hs ->
    zC t.env [(0, .v (.ints g xs)), (1, .v (.ints g' ys)), (2, .v (.int .i64 s)), (3, .v (.int .i64 M)), (9, .ownI 2 b' o'), (10, .v (.int .i64 i))] -> K8 t := by
   intro o' b' t h5 h6 h7 h8;refine hK8 _ (W.weak (t := ⟨[(0, .v (.ints g xs)), (1, .v (.ints g' ys)), (2, .v (.int .i64 s)), (3, .v (.int .i64 M)), (9, .ownI 2 b' o'), (10, .v (.int .i64 i))], base⟩) ⟨h7, h8⟩ (Nat.le_refl _) ?_);clear hK9 K9 hK8 K8;refine wrg ?_;conv => whnf
   refine ⟨oo, ?_⟩;conv => whnf
   exact zo ⟨i + 1, b', o', by omega, h5, h6, rfl, rfl⟩
  have mid : ∀ (o1 : List Int) (b1 : Nat) (t : S), o1.length = N -> (∀ j, cf o1 j = if j < i then (cf xs j + s * cf ys j) % M else if j = i then cf xs j else 0) -> base <= t.hs ->
    zC t.env [(0, .v (.ints g xs)), (1, .v (.ints g' ys)), (2, .v (.int .i64 s)), (3, .v (.int .i64 M)), (9, .ownI 2 b1 o1), (10, .v (.int .i64 i))] -> K9 t := by
   intro o1 b1 t h5 h6 h7 h8;refine hK9 _ (W.weak (t := ⟨[(0, .v (.ints g xs)), (1, .v (.ints g' ys)), (2, .v (.int .i64 s)), (3, .v (.int .i64 M)), (9, .ownI 2 b1 o1), (10, .v (.int .i64 i))], base⟩) ⟨h7, h8⟩ (Nat.le_refl _) ?_);clear hK9 K9 hK8 h3;have hoi : cf o1 i = cf xs i := by rw [h6, if_neg (by omega), if_pos rfl]
   refine wrs fun K hK => ?_;conv => whnf
   refine hK _ (W.cond ⟨fun h9 => ?_, fun h9 => ?_⟩) <;> clear hK K
   ·have h9 := of_decide_eq_true h9;refine W.draw (zb _) follows (by rfl) ?_;conv => whnf
    refine ⟨oo, ?_⟩;conv => whnf
    refine ⟨oo, ?_⟩;conv => whnf
    rw [Int.toNat_natCast];refine ⟨by show _ <= s * cf ys i ∧ s * cf ys i <= _; omega, ?_⟩;conv => whnf
    refine ⟨by show _ <= cf o1 i + s * cf ys i ∧ cf o1 i + s * cf ys i <= _; omega, ?_⟩;conv => whnf
    refine ⟨_, cxF (jl _ M (by omega) (by show _ <= cf o1 i + s * cf ys i ∧ cf o1 i + s * cf ys i <= _; omega) (by omega)), ?_⟩;conv => whnf
    refine ⟨oo, ?_⟩;conv => whnf
    refine fin (o1.set i ((cf o1 i + s * cf ys i) % M)) b1 _ (by simpa using h5) (fun j => ?_) (by dsimp only; omega) ?_
    ·rw [yH (by omega), h6 j]
     by_cases h10 : j = i
     ·subst h10; rw [if_pos rfl, if_pos (by omega), hoi]
     ·rw [if_neg h10]
      by_cases h11 : j < i
      ·rw [if_pos h11, if_pos (by omega)]
      ·rw [if_neg h11, if_neg h10, if_neg (by omega)]
    ·exact cvr
   ·have h9 := of_decide_eq_false h9;refine W.skip (fin o1 b1 _ h5 (fun j => ?_) (by dsimp only; omega) ?_)
    ·rw [h6 j]
     by_cases h10 : j = i
     ·subst h10; rw [if_neg (by omega), if_pos rfl, if_pos (by omega), zE (l := ys) (by omega), Int.mul_zero, Int.add_zero, Int.emod_eq_of_lt hxi.1 hxi.2]
     ·by_cases h11 : j < i
      ·rw [if_pos h11, if_pos (by omega)]
      ·rw [if_neg h11, if_neg h10, if_neg (by omega)]
    ·exact cvr
  clear hK9 fin;refine wrs fun K hK => ?_;conv => whnf
  refine hK _ (W.cond ⟨fun h9 => ?_, fun h9 => ?_⟩) <;> clear hK K
  ·have h9 := of_decide_eq_true h9;refine wrg ?_;conv => whnf
   refine ⟨oo, ?_⟩;conv => whnf
   refine ⟨oo, ?_⟩;conv => whnf
   rw [Int.toNat_natCast];refine mid (o.set i (cf xs i)) b _ (by simpa using h2) (fun j => ?_) (by dsimp only; omega) ?_
   ·rw [yH (by omega), h3 j]
    by_cases h10 : j = i
    ·subst h10; rw [if_pos rfl, if_neg (by omega), if_pos rfl]
    ·rw [if_neg h10]
     by_cases h11 : j < i
     ·rw [if_pos h11, if_pos h11]
     ·rw [if_neg h11, if_neg h11, if_neg h10]
   ·exact cvr
  ·have h9 := of_decide_eq_false h9;refine W.skip (mid o b _ h2 (fun j => ?_) (by dsimp only; omega) ?_)
   ·rw [h3 j]
    by_cases h10 : j = i
    ·subst h10; rw [if_neg (by omega), if_neg (by omega), if_pos rfl, zE (l := xs) (by omega)]
    ·by_cases h11 : j < i
     ·rw [if_pos h11, if_pos h11]
     ·rw [if_neg h11, if_neg h11, if_neg h10]
   ·exact cvr
 ·obtain rfl : i = N := by omega
  refine W.exit (hK1 _ ?_);clear hK7 K7 hK1 K1;refine wrs fun K hK => ?_;conv => whnf
  refine zh rfl (yW _ _ (by omega)) fun hs_1 b_1 hh_1 hf_1 => ?_;try dsimp only at hh_1 hf_1
  conv => whnf
  refine hK _ ?_;clear hK K;refine W.ret ?_;conv => whnf
  refine ⟨.ownI 2 b_1 (zj o), ⟨rfl, rfl, rfl⟩, trivial, b_1, ?_⟩
  congr 1
  refine yc (yU _) (yY _ _) fun j => ?_;rw [yj, h3, v8, yK, xF]
  split
  ·rfl
  ·rw [zE (l := xs) (by omega), zE (l := ys) (by omega)]; simp
theorem zk0 (m9 : M <= 1000000000) (g g' : Option Nat) (xs ys : List Int) (s : Int) (hs : s = 1 ∨ s = -1) (hx : RgL M xs) (hy : RgL M ys) (hxl : xs.length <= 1000) (hyl : ys.length <= 1000) : FnI 282 [.ints g xs, .ints g' ys, .int .i64 s, .int .i64 M] (nrm M (yu xs (zQ s ys))) :=
 zay m9 g g' xs ys s hx (fun j => by have := zn4 hs (c := cf ys j) (by have := hy j; omega); omega) hxl hyl


end





section
variable {p k M : Int} [SP p] [Pos M] {f : Poly M} {n : Nat}

theorem znq (c : Int) (j : Nat) : cf [c] j = if j = 0 then c else 0 := by
 cases j with
 | zero => rfl
 | succ j => rw [zv, yq, if_neg (by omega)]
theorem bdc1 {c B : Int} (h : -B <= c ∧ c <= B) : Bd B [c] := fun j => by rw [znq]; split <;> omega
theorem znr (X : Poly M) : RgL M X.l := xU X
theorem zgM {B : Int} {xs ys : List Int} {A C : Int} (hx : Bd A xs) (hy : Bd C ys) (h : A + C <= B) : Bd B (zj (yu xs ys)) := fun i => by
 rw [yj, yK]; have := hx i; have := hy i; omega
theorem zeF {B : Int} {xs ys : List Int} {A C : Int} (hx : Bd A xs) (hy : Bd C ys) (h : A + C <= B) : Bd B (zj (yu xs (zQ (-1) ys))) := fun i => by
 rw [yj, yK, xF]; have := hx i; have := hy i; omega
theorem zbX (xs ys : List Int) : (zj (yu xs ys)).length <= max xs.length ys.length := by
 have := yA (yu xs ys); unfold yu at *; rw [zS] at *; exact this
theorem zbY (xs ys : List Int) : (zj (yu xs (zQ (-1) ys))).length <= max xs.length ys.length := by
 have := zbX xs (zQ (-1) ys); unfold zQ at *; rwa [List.length_map] at this

/- values -/
theorem zn5 (X Y : Poly M) : nrm M (yu X.l (zQ (-1) Y.l)) = (X - Y).l := by rw [<- vq, ziW]
/- inverses -/
end


abbrev vLL (L : List (List Int)) : V := .vals none 1 L.length fun j => .ints none (L.getD j [])
abbrev vRF (L : List (List Int)) (bs : Nat -> Nat) : V := .vals none 1 L.length fun j => .rf (bs j) (L.getD j []).length
def RTS (L : List (List Int)) (c : Int) : kX := fun _ _ x tb => ∃ bs : Nat -> Nat, x = .tup [.vals none 1 L.length (fun j => .rf (bs j) (L.getD j []).length), .int .i64 c] ∧
 (∀ j, j < L.length -> L.getD j [] ≠ [] -> tb (bs j) = some (L.getD j [])) ∧ (∀ i j, i < L.length -> j < L.length -> i ≠ j -> L.getD i [] ≠ [] -> L.getD j [] ≠ [] -> bs i ≠ bs j)

theorem zj2 {p : Int} [SP p] (X Y : Poly p) (hX : dg X <= 500) : Bd 10000000 (zj (z0 X.l Y.l)) := by
 refine Bd.trim fun j => ?_;rw [vP];have := zhM (A := 97) (B := 97) (by omega) (by omega) (n := dg X) (cf X.l) (cf Y.l) (yV X) (fun j hj => zY hj) (yV Y) j;omega
theorem jH (xs ys : List Int) : (zj (z0 xs ys)).length <= xs.length + ys.length := by
 have := yA (z0 xs ys); rw [z0, zS] at *; omega

theorem zaU (p : Int) [SP p] (g g' : Option Nat) (h f U : Poly p) (hf : dg f <= 500) (hh : dg h <= 500) (h2 : 2 <= dg f) (hU : dg U < dg f) (hU2 : f ∣ h * U - 1) : FnV 346 [.int .i64 p, .ints g h.l, .ints g' f.l] (.ints none U.l) := by
 have hp := Pr.two (p := p);have hp2 := SP.le (p := p);have hf0 : f ≠ 0 := fun e => by rw [e, zr] at h2; omega
 have hcop : Cop f h := by
  obtain ⟨q, hq⟩ := hU2;exact ⟨-q, U, comb 1 hq (zg [f, h, U, q] (by rfl))⟩
 have hst := CofI.start hf0 hcop;refine zf (zb [0, 1, 2, 6, 7, 8, 9, 10, 11, 12, 13, 23]) Tryz.func346 rfl (by decide) Tryz.ntmps346 (Nat.le_of_ble_eq_true rfl) fun base => ?_;refine wrs fun K hK => ?_;conv => whnf
 refine hK _ ?_;clear hK K;refine wrs fun K hK => ?_;conv => whnf
 refine zd rfl (xi p g g' h f (by omega) (by omega) hf0) fun hs' hhs => ?_;try dsimp only at hhs
 conv => whnf
 refine hK _ ?_;clear hK K;refine wrs fun K hK => ?_;conv => whnf
 refine ⟨⟨rfl, by decide⟩, ?_⟩;conv => whnf
 intro b_1 hs_1 hh_1 hf_1;try dsimp only at hh_1 hf_1
 conv => whnf
 refine ⟨⟨rfl, by decide⟩, ?_⟩;conv => whnf
 intro b_2 hs_2 hh_2 hf_2;try dsimp only at hh_2 hf_2
 conv => whnf
 refine hK _ ?_;clear hK K;refine W.seqK fun K1 hK1 => W.block (W.invA (fun m e => ∃ (a b u v : Poly p) (ga : Option Nat) (su sv : List Int), CofI f h a b u v ∧ b ≠ 0 ∧ su = u.l ∧ sv = v.l ∧ m = dg b ∧ e = [(0, .v (.int .i64 p)), (2, .v (.ints g' f.l)), (7, .v (.ints ga a.l)), (8, .v (.ints none b.l)), (9, .v (.ints none su)), (10, .v (.ints none sv))]) ⟨f, rem h f, 0, 1, g', [], [1], hst, hst.stay h2, jz.symm, zfG.symm, rfl, rfl⟩ ?_);rintro m e ⟨a, b, u, v, ga, su, sv, hI, hb0, rfl, rfl, hm, rfl⟩;obtain ⟨hu, hv, ha, hb⟩ := hI.few;have hbl : b.l.length = dg b := rfl;have hul : u.l.length = dg u := rfl;refine W.seqK fun K7 hK7 => wrs fun K hK => ?_;conv => whnf
 refine hK _ (W.cond ⟨fun h1 => ?_, fun h1 => ?_⟩) <;> clear hK K <;> (first | replace h1 := of_decide_eq_true h1 | replace h1 := of_decide_eq_false h1)
 ·have hn := hI.step hb0;have hn0 := hn.stay (by omega);have hlt := zI a hb0;have hqd := ziV hI.a0 hb0 (Nat.le_of_lt hI.lt);have hql : (quo a b).l.length = dg (quo a b) := rfl;have hvl : v.l.length = dg v := rfl;have hml := jH (quo a b).l v.l;have hsl := zbY u.l (zj (z0 (quo a b).l v.l));refine W.skip (hK7 _ (W.block ?_));clear hK7 K7;refine wrs fun K hK => ?_;conv => whnf
  refine zd rfl (xt p ga none a b (by omega) (by omega) hb0) fun hs' hhs => ?_;try dsimp only at hhs
  conv => whnf
  refine hK _ ?_;clear hK K;refine wrs fun K hK => ?_;conv => whnf
  refine zh rfl (zau none none (quo a b).l v.l 97 97 (by omega) (by omega) (yV _) (yV v) (by omega) (by omega) (by omega)) fun hs_2 b_2 hh_2 hf_2 => ?_;try dsimp only at hh_2 hf_2
  conv => whnf
  refine zh rfl (zfL none (some b_2) u.l (zj (z0 (quo a b).l v.l)) (-1) (by omega) ((yV u).le (by omega)) ((zj2 (quo a b) v (by omega)).le (by omega)) (by omega) (by omega)) fun hs_3 b_3 hh_3 hf_3 => ?_;try dsimp only at hh_3 hf_3
  conv => whnf
  refine zh rfl (xr p (by omega) (by omega) (some b_3) (zj (yu u.l (zQ (-1) (zj (z0 (quo a b).l v.l))))) (zeF (yV u) (zj2 (quo a b) v (by omega)) (by omega)) (by omega)) fun hs_4 b_4 hh_4 hf_4 => ?_;try dsimp only at hh_4 hf_4
  conv => whnf
  rw [zcr];refine hK _ ?_;clear hK K;refine wrs fun K hK => ?_;conv => whnf
  refine hK _ ?_;clear hK K;refine wrs fun K hK => ?_;conv => whnf
  refine hK _ ?_;clear hK K;refine wrs fun K hK => ?_;conv => whnf
  refine hK _ ?_;clear hK K;refine wrg ?_;conv => whnf
  exact zo ⟨b, rem a b, v, u - quo a b * v, none, _, _, hn, hn0, rfl, rfl, rfl, rfl⟩
 ·have hb1 : dg b = 1 := by
   have : dg b ≠ 0 := fun e => hb0 (ze.1 e);omega
  have hc0 : cf b.l 0 % p ≠ 0 := z5 (yL hb1);obtain ⟨i1, i2, i3⟩ := y5 hc0;have hW := zn0 hcop hf0 hU hU2 (hI.fin2 hb1 i3);have hcr := xU b 0;have i4 : yd p (cf b.l 0) ≠ 0 := fun e => by rw [e] at i3; simp at i3
  have hcl := zhQ (p := p) (c := yd p (cf b.l 0)) (by omega) i2;have hcd := vL (p := p) (yd p (cf b.l 0));have hwd := zM v (con p (yd p (cf b.l 0)));refine W.exit (hK1 _ ?_);clear hK7 K7 hK1 K1;refine wrs fun K hK => ?_;conv => whnf
  refine ⟨oo, ?_⟩;conv => whnf
  refine zd rfl (vQ p _ hcr hc0) fun hs' hhs => ?_;try dsimp only at hhs
  conv => whnf
  refine ⟨⟨rfl, by decide⟩, ?_⟩;conv => whnf
  intro b_2 hs_2 hh_2 hf_2;try dsimp only at hh_2 hf_2
  conv => whnf
  have e8 : [yd p (b.l.getD (Int.toNat 0) 0)] = (con p (yd p (cf b.l 0))).l := hcl.symm;rw [e8];refine zh rfl (yr p none _ v (con p (yd p (cf b.l 0))) (by omega) (by omega)) fun hs_3 b_3 hh_3 hf_3 => ?_;try dsimp only at hh_3 hf_3
  conv => whnf
  refine zd rfl (xi p _ g' (v * con p (yd p (cf b.l 0))) f (by omega) (by omega) hf0) fun hs' hhs => ?_;try dsimp only at hhs
  conv => whnf
  rw [hW];refine hK _ ?_;clear hK K;refine W.ret ?_;conv => whnf
  exact ⟨.v (.ints none U.l), ⟨rfl, rfl⟩, trivial, rfl⟩

theorem zcz {p : Int} (h2 : 2 <= p) {j k : Nat} (h : j + 1 < k) : p ^ (j + 1) * p = p ^ (j + 1 + 1) ∧ p ^ (j + 1) * p <= p ^ k ∧ 2 * p ^ (j + 1) <= p ^ (j + 1) * p ∧ 1 <= p ^ (j + 1) := by
 have h1 := zaw (p := p) (by omega) (j + 1);have h3 : p ^ (j + 1) * 2 <= p ^ (j + 1) * p := Int.mul_le_mul_of_nonneg_left h2 (by omega);have h4 := vZ (p := p) (by omega) (a := j + 1 + 1) (b := k) (by omega);rw [Int.pow_succ p (j + 1)] at h4;exact ⟨(Int.pow_succ p (j + 1)).symm, h4, by omega, h1⟩
theorem zn6 {q c : Int} (hq : 0 <= q ∧ q <= 1000000000) (hc : 0 <= c ∧ c <= 97) : 0 <= q * c ∧ q * c <= 97000000000 :=
 ⟨Int.mul_nonneg hq.1 hc.1, by have := Int.mul_le_mul hq.2 hc.2 hc.1 (by omega : (0 : Int) <= 1000000000); omega⟩
theorem zmA {q c : Int} (hq : 1 <= q) (hc : 0 <= c) : 0 <= c / q ∧ c / q <= c := ⟨Int.ediv_nonneg hc (by omega), Int.ediv_le_self q hc⟩

section
variable {p k M : Int} [SP p] [Pos M] {f : Poly M} {a b : Nat} {g0 h0 S T : Poly p} {G H : Poly M}

theorem zdj {p M : Int} (h : y9 p k) (hm : p ^ k.toNat = M) : FnV 340 [.int .i64 p, .int .i64 k] (.int .i64 M) := by
 obtain ⟨s1, s2, s3, s4, s5, s6⟩ := h.small;obtain ⟨j, rfl⟩ : ∃ j : Nat, k = j := ⟨k.toNat, by omega⟩
 rw [Int.toNat_natCast] at hm s6;have hmS : ze3 p j = M := by unfold ze3; rw [if_pos s6, hm]
 exact (j2 p j (by omega) (by omega) (by omega)).mono (by rw [hmS])

theorem zjb (hr : y9 p k) (hm : p ^ k.toNat = M) (hP : Pair f a b g0 h0 S T) (h9 : a + b <= 8) (hL : LAt f a b g0 h0 S T (k.toNat - 1) G H) (g g1 g2 : Option Nat) :
  FnV 260 [vR p k, .ints g f.l, .ints g1 g0.l, .ints g2 h0.l] (.tup [.ints none G.l, .ints none H.l]) := by
 obtain ⟨s1, s2, s3, s4, s5, s6⟩ := hr.small;have hp := Pr.two (p := p);have hp2 := SP.le (p := p);have hpM := Pos.pos (p := M);have m9 : M <= 1000000000 := by omega
 have hg1 := hP.mg.1;have hh1 := hP.mh.1;have hf1 := hP.mf.1;have hg0 : g0 ≠ 0 := fun e => by rw [e, zr] at hg1; omega
 have hh0 : h0 ≠ 0 := fun e => by rw [e, zr] at hh1; omega
 have ha1 := hP.a1;have hb1 := hP.b1;have hS := hP.s1;have hT := hP.t1;have hfl : f.l.length = dg f := rfl;have hgl : g0.l.length = dg g0 := rfl;have hhl : h0.l.length = dg h0 := rfl;refine zf (zb [0, 1, 2, 3, 4, 8, 9, 10, 11, 12, 13, 14, 15, 16, 17, 18, 19, 20, 21, 44, 59]) Tryz.func260 rfl (by decide) Tryz.ntmps260 (Nat.le_of_ble_eq_true rfl) fun base => ?_;refine wrs fun K hK => ?_;conv => whnf
 refine ⟨rfl, ?_⟩;conv => whnf
 intro b_4 hs_4 hh_4 hf_4;try dsimp only at hh_4 hf_4
 conv => whnf
 refine hK _ ?_;clear hK K;refine W.rd (zb _) follows (by rfl) fun K hK => ?_;conv => whnf
 refine ⟨_, cxF (zdj hr hm), ?_⟩;conv => whnf
 refine hK _ ?_;clear hK K;refine wrs fun K hK => ?_;conv => whnf
 refine zd rfl (zaU p g2 g1 h0 g0 S (by omega) (by omega) (by omega) hS hP.s2) fun hs' hhs => ?_;try dsimp only at hhs
 conv => whnf
 refine hK _ ?_;clear hK K;refine wrs fun K hK => ?_;conv => whnf
 refine zd rfl (zaU p g1 g2 g0 h0 T (by omega) (by omega) (by omega) hT hP.t2) fun hs' hhs => ?_;try dsimp only at hhs
 conv => whnf
 refine hK _ ?_;clear hK K;refine wrs fun K hK => ?_;conv => whnf
 refine zh rfl (zeu g1 g0.l (by omega)) fun hs_1 b_1 hh_1 hf_1 => ?_;try dsimp only at hh_1 hf_1
 conv => whnf
 refine zh rfl (zeu g2 h0.l (by omega)) fun hs_2 b_2 hh_2 hf_2 => ?_;try dsimp only at hh_2 hf_2
 conv => whnf
 refine hK _ ?_;clear hK K;refine W.seqK fun K1 hK1 => wrs fun K hK => ?_;conv => whnf
 refine hK _ (W.block (W.invA (fun m e => ∃ (j : Nat) (q : Int) (X Y : Poly M) (su sv : List Int), LAt f a b g0 h0 S T j X Y ∧ j + 1 <= k.toNat ∧ q = p ^ (j + 1) ∧ su = X.l ∧ sv = Y.l ∧ m = k.toNat - j ∧ e = [(1, .v (.ints g f.l)), (2, .v (.ints g1 g0.l)), (3, .v (.ints g2 h0.l)), (10, .v (.int .i64 M)), (11, .v (.int .i64 p)), (12, .v (.ints none S.l)), (13, .v (.ints none T.l)), (14, .v (.ints none su)), (15, .v (.ints none sv)), (16, .v (.int .i64 q))]) ⟨0, p, lft M g0, lft M h0, g0.l, h0.l, LAt.start hP, by omega, (by rw [Int.pow_succ, Int.pow_zero, Int.one_mul]), (zcQ hP.ple _).symm, (zcQ hP.ple _).symm, rfl, rfl⟩ ?_));clear hK K;rintro m e ⟨j, q, X, Y, su, sv, hI, hj, hq, rfl, rfl, hmm, rfl⟩;have hX1 := hI.inv.mg.1;have hY1 := hI.inv.mh.1;have hXl : X.l.length = dg X := rfl;have hYl : Y.l.length = dg Y := rfl;refine W.seqK fun K7 hK7 => wrs fun K hK => ?_;conv => whnf
 refine hK _ (W.cond ⟨fun h5 => ?_, fun h5 => ?_⟩) <;> clear hK K <;> (first | replace h5 := of_decide_eq_true h5 | replace h5 := of_decide_eq_false h5)
 ·have hj2 : j + 1 < k.toNat := Classical.byContradiction fun h => by
   have e : j + 1 = k.toNat := by omega
   rw [hq, e, hm] at h5; omega
  obtain ⟨q1, q2, q3, q4⟩ := zcz hp hj2;have hc := hI.cdg hP (by omega) q;have hn := hI.step hP hq;rw [<- hq] at q1 q2 q3 q4;rw [hm] at q2;obtain ⟨D, hD⟩ : ∃ D, f - X * Y = D := ⟨_, rfl⟩
  rw [hD] at hc hn;have hXY := zM X Y;have hXYl : (X * Y).l.length = dg (X * Y) := rfl;have hDl : D.l.length = dg D := rfl;have hx := zI (dgt p q D * S) hg0;have hy := zI (dgt p q D * T) hh0;have hxl : (rem (dgt p q D * S) g0).l.length = dg (rem (dgt p q D * S) g0) := rfl;have hyl : (rem (dgt p q D * T) h0).l.length = dg (rem (dgt p q D * T) h0) := rfl;have hCS := zM (dgt p q D) S;have hCT := zM (dgt p q D) T;refine W.skip (hK7 _ ?_);clear hK7 K7;refine W.seqK fun K8 hK8 => W.block ?_;refine wrs fun K hK => ?_;conv => whnf
  refine zh rfl (zax m9 none none X Y (by omega) (by omega)) fun hs_2 b_2 hh_2 hf_2 => ?_;try dsimp only at hh_2 hf_2
  conv => whnf
  refine zh rfl (zk0 m9 g (some b_2) f.l (X * Y).l (-1) (.inr rfl) (znr _) (znr _) (by omega) (by omega)) fun hs_3 b_3 hh_3 hf_3 => ?_;try dsimp only at hh_3 hf_3
  conv => whnf
  rw [zn5, hD];refine hK _ ?_;clear hK K;refine wrs fun K hK => ?_;conv => whnf
  refine ⟨⟨rfl, by decide⟩, ?_⟩;conv => whnf
  intro b_4 hs_4 hh_4 hf_4;try dsimp only at hh_4 hf_4
  conv => whnf
  refine hK _ ?_;clear hK K;refine W.seqK fun K5 hK5 => wrs fun K hK => ?_;conv => whnf
  refine hK _ (W.block (W.invA (fun m e => ∃ (i b' : Nat) (o : List Int), i <= dg D ∧ o = (D.l.take i).map (fun x => x / q % p) ∧ m = dg D - i ∧ e = [(1, .v (.ints g f.l)), (2, .v (.ints g1 g0.l)), (3, .v (.ints g2 h0.l)), (10, .v (.int .i64 M)), (11, .v (.int .i64 p)), (12, .v (.ints none S.l)), (13, .v (.ints none T.l)), (14, .v (.ints none X.l)), (15, .v (.ints none Y.l)), (16, .v (.int .i64 q)), (17, .v (.ints none D.l)), (18, .ownI 2 b' o), (19, .v (.int .i64 i))]) ⟨0, b_4, [], Nat.zero_le _, rfl, rfl, rfl⟩ ?_));clear hK K;rintro m' e ⟨i, b', o, hi, rfl, hm', rfl⟩;refine W.seqK fun K7 hK7 => wrs fun K hK => ?_;conv => whnf
  refine hK _ (W.cond ⟨fun h6 => ?_, fun h6 => ?_⟩) <;> clear hK K <;> (first | replace h6 := of_decide_eq_true h6 | replace h6 := of_decide_eq_false h6)
  ·have hi2 : i < D.l.length := by omega
   have hst := y6 (fun x => x / q % p) hi2;have hci := xU D i;have hdq := zmA (q := q) (c := cf D.l i) (by omega) hci.1;have e1 : (D.l.getD i 0).tdiv q = cf D.l i / q := Int.tdiv_eq_ediv_of_nonneg hci.1;have e2 : (cf D.l i / q).tmod p = cf D.l i / q % p := Int.tmod_eq_emod_of_nonneg hdq.1;have hol : ((D.l.take i).map fun x => x / q % p).length = i := by rw [List.length_map, List.length_take]; omega
   refine W.skip (hK7 _ ?_);clear hK7 K7;refine W.seqK fun K9 hK9 => W.block ?_;refine wrg ?_;conv => whnf
   refine ⟨oo, ?_⟩;conv => whnf
   rw [Int.toNat_natCast];refine ⟨by omega, ?_⟩;conv => whnf
   rw [e1];refine ⟨oo, ?_⟩;conv => whnf
   refine ⟨by omega, ?_⟩;conv => whnf
   rw [e2];refine ⟨⟨rfl, by decide⟩, ?_⟩;conv => whnf
   intro b_6 hs_6 hh_6 hf_6;try dsimp only at hh_6 hf_6
   conv => whnf
   refine ⟨by dsimp only [List.length]; omega, ?_⟩;conv => whnf
   intro b_7 hs_7 hh_7 hf_7;try dsimp only at hh_7 hf_7
   conv => whnf
   refine hK9 _ ?_;clear hK9 K9;refine wrg ?_;conv => whnf
   refine ⟨oo, ?_⟩;conv => whnf
   exact zo ⟨i + 1, b_7, _, by omega, hst.symm, rfl, rfl⟩
  ·obtain rfl : i = D.l.length := by omega
   rw [List.take_length];have hcl : (dgt p q D).l.length = dg (dgt p q D) := rfl;refine W.exit (hK5 _ ?_);clear hK7 K7 hK5 K5;refine wrs fun K hK => ?_;conv => whnf
   refine zh rfl (yW _ _ (by rw [List.length_map]; omega)) fun hs_8 b_8 hh_8 hf_8 => ?_;try dsimp only at hh_8 hf_8
   conv => whnf
   rw [zn1];refine hK _ ?_;clear hK K;refine wrs fun K hK => ?_;conv => whnf
   refine zh rfl (yr p (some b_8) none (dgt p q D) S (by omega) (by omega)) fun hs_9 b_9 hh_9 hf_9 => ?_;try dsimp only at hh_9 hf_9
   conv => whnf
   refine zd rfl (xi p (some b_9) g1 (dgt p q D * S) g0 (by omega) (by omega) hg0) fun hs' hhs => ?_;try dsimp only at hhs
   conv => whnf
   refine hK _ ?_;clear hK K;refine wrs fun K hK => ?_;conv => whnf
   refine zh rfl (yr p (some b_8) none (dgt p q D) T (by omega) (by omega)) fun hs_10 b_10 hh_10 hf_10 => ?_;try dsimp only at hh_10 hf_10
   conv => whnf
   refine zd rfl (xi p (some b_10) g2 (dgt p q D * T) h0 (by omega) (by omega) hh0) fun hs' hhs => ?_;try dsimp only at hhs
   conv => whnf
   refine hK _ ?_;clear hK K;refine wrs fun K hK => ?_;conv => whnf
   refine zh rfl (zay m9 none none X.l (rem (dgt p q D * S) g0).l q (znr _) (fun j => by have := zn6 (q := q) (c := cf (rem (dgt p q D * S) g0).l j) (by omega) (by have := xU (rem (dgt p q D * S) g0) j; omega); omega) (by omega) (by omega)) fun hs_11 b_11 hh_11 hf_11 => ?_;try dsimp only at hh_11 hf_11
   conv => whnf
   rw [zer];refine hK _ ?_;clear hK K;refine wrg ?_;conv => whnf
   refine zh rfl (zay m9 none none Y.l (rem (dgt p q D * T) h0).l q (znr _) (fun j => by have := zn6 (q := q) (c := cf (rem (dgt p q D * T) h0).l j) (by omega) (by have := xU (rem (dgt p q D * T) h0) j; omega); omega) (by omega) (by omega)) fun hs_12 b_12 hh_12 hf_12 => ?_;try dsimp only at hh_12 hf_12
   conv => whnf
   rw [zer];refine hK8 _ ?_;clear hK8 K8;refine wrg ?_;conv => whnf
   refine ⟨oo, ?_⟩;conv => whnf
   exact zo ⟨j + 1, q * p, _, _, _, _, hn, by omega, q1, rfl, rfl, rfl, rfl⟩
 ·have hj2 : j = k.toNat - 1 := Classical.byContradiction fun h => by
   obtain ⟨q1, q2, q3, q4⟩ := zcz hp (j := j) (k := k.toNat) (by omega);rw [<- hq] at q2 q3 q4;rw [hm] at q2; omega
  subst hj2;obtain ⟨rfl, rfl⟩ := hI.uniq hL;refine W.exit (hK1 _ ?_);clear hK7 K7 hK1 K1;refine wrs fun K hK => ?_;conv => whnf
  refine hK _ ?_;clear hK K;refine W.ret ?_;conv => whnf
  exact ⟨.v (.ints none X.l), ⟨rfl, rfl⟩, trivial, .v (.ints none Y.l), ⟨rfl, rfl⟩, trivial, rfl⟩
end

end Go.Proofs.YtlmckocbhcpmdaaGreat
