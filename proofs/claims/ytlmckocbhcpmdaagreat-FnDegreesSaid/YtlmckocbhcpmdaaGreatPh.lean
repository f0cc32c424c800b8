/- What the program's functions and the reference's return. No conditions. -/
import Derived.Test.YtlmckocbhcpmdaaGreatPf
import Derived.Test.YtlmckocbhcpmdaaGreatPg
import Derived.Test.YtlmckocbhcpmdaaGreatRows
namespace Go.Proofs.YtlmckocbhcpmdaaGreat
open Go Go.RowKit Go.Proofs

theorem bitsLen_fn (x : Int) (h0 : 0 ≤ x) (h1 : x ≤ 9223372036854775807) : Fn Tryz.prog 373 [.int .u64 x] (fun _ _ a => ∃ r : Int, a = .v (.int .i64 r)) := by
 refine ⟨⟨_, Tryz.func373, rfl, by decide⟩, fun D w vs hD hsz hrep => ?_⟩
 obtain ⟨v, rfl⟩ : ∃ v, vs = #[v] := by
  refine ⟨vs.getD 0 undef, Array.ext (by simpa using hsz) fun i h1 h2 => ?_⟩
  obtain rfl : i = 0 := by simpa using h2
  simp [Array.getD, h1]
 have hv := rep_int (hrep 0 (by simp))
 have hv : v = .int .u64 x := hv
 subst hv
 refine (bitsLen_calls x w h0 (by omega)).mono ?_
 rintro e w' ⟨rfl, rfl⟩
 refine ⟨_, .v (.int .i64 (Lib.bitLen x.toNat)), w'.heap.size, rfl, Nat.le_refl _, ⟨_, rfl⟩, ?_, rfl, .int _ _, fun b hb => hb.elim⟩
 exact Below.refl _ _

open Go Go.RowKit Go.Proofs Poly
set_option maxRecDepth 100000
set_option maxHeartbeats 8000000

variable {p : Int} [SP p]
theorem pdqsort_fn (bk n : Nat) (lim : Int) (h0 : Nat → Poly p × Nat) (hn : n ≤ 12) (hd : ∀ i, i < n → dg (h0 i).1 ≤ 1000000) (hdis : ∀ i j, i < n → j < n → (h0 i).1 = (h0 j).1 → i = j) :
  MFn Tryz.prog 372 [.nil, .int .i64 0, .int .i64 n, .int .i64 lim, .func 327 []] 0 (.ownV 68 2 bk n fun j => vF (h0 j)) .dead
   (fun _ av x' t' => av = .v (.tup []) ∧ t' = .dead ∧ ∃ h : Nat → Poly p × Nat, Mix n h0 h ∧ Ord h n ∧ x' = .ownV 68 2 bk n fun j => vF (h j)) := by
 refine mfn_of (cx := cx [0, 1, 2, 3, 4, 10, 11, 12, 13, 14, 15, 16, 17, 18, 19, 20, 25, 32, 39, 56, 75, 80, 97, 125, 1000000, 1000001]) Tryz.func372 rfl (by decide) Tryz.ntmps372 (Nat.le_of_ble_eq_true rfl) (Nat.le_of_ble_eq_true rfl) rfl rfl fun base hs0 O U hw v0 hb0 => ?_
 refine wrs fun K hK => ?_
 conv => whnf
 refine hK _ ?_
 clear hK K
 refine wrs fun K hK => ?_
 conv => whnf
 refine hK _ (W.block (W.invH hs0 hb0 (fun m e => m = 0 ∧ e = [(0, .ownV 68 2 bk n fun j => vF (h0 j)), (1, .v (.int .i64 0)), (2, .v (.int .i64 n)), (3, .v (.int .i64 lim)), (4, .v (.func 327 [])), (vt, .dead), (vk, .keep O U hw 0 v0)]) _ _ (⟨rfl, rfl⟩) (by dsimp only; omega) (by repeat' first | refine And.intro ?_ ?_ | exact trivial | rfl | omega | exact .inl rfl | exact fun _ _ => rfl | exact fun _ _ h => h | assumption | exact fun i hi => (by obtain rfl : i = 0 := (by omega); rfl)) ?_))
 clear hK K
 rintro m e ⟨rfl, rfl⟩
 refine W.block ?_
 refine wrs fun K hK => ?_
 conv => whnf
 refine ⟨oo, ?_⟩
 conv => whnf
 refine hK _ ?_
 clear hK K
 refine W.seqK fun K1 hK1 => wrs fun K hK => ?_
 conv => whnf
 refine hK _ (W.cond ⟨fun h => ?_, fun h => ?_⟩) <;> clear hK K
 ·refine wrs fun K hK => ?_
  conv => whnf
  refine ⟨⟨rfl, rfl⟩, ?_⟩
  conv => whnf
  refine ⟨rfl, _, insertionSort_fn bk n h0 (by omega) hd hdis, ?_⟩
  rintro hs' av x' t' hh ⟨rfl, rfl, h, hM, hO, rfl⟩ _ _ _
  conv => whnf
  refine hK _ ?_
  clear hK K
  refine W.ret ?_
  conv => whnf
  refine ⟨by dsimp only; omega, ?_⟩
  conv => whnf
  exact ⟨.ownV 68 2 bk n fun j => vF (h j), ⟨rfl, rfl, rfl, rfl, fun _ _ => rfl⟩, .inr ⟨rfl, rfl⟩, .dead, trivial, rfl, rfl, rfl, rfl, h, hM, hO, rfl⟩
 ·exact absurd (of_decide_eq_false h) (by omega)

theorem sortFunc_fn (bk n : Nat) (h0 : Nat → Poly p × Nat) (hn : n ≤ 12) (hd : ∀ i, i < n → dg (h0 i).1 ≤ 1000000) (hdis : ∀ i j, i < n → j < n → (h0 i).1 = (h0 j).1 → i = j) :
  MFn Tryz.prog 326 [.nil, .func 327 []] 0 (.ownV 68 2 bk n fun j => vF (h0 j)) .dead
   (fun _ av x' t' => av = .v (.tup []) ∧ t' = .dead ∧ ∃ h : Nat → Poly p × Nat, Mix n h0 h ∧ Ord h n ∧ x' = .ownV 68 2 bk n fun j => vF (h j)) := by
 refine mfn_of (cx := cx [0, 1, 4, 1000000, 1000001]) Tryz.func326 rfl (by decide) Tryz.ntmps326 (Nat.le_of_ble_eq_true rfl) (Nat.le_of_ble_eq_true rfl) rfl rfl fun base hs0 O U hw v0 hb0 => ?_
 refine wrs fun K hK => ?_
 conv => whnf
 refine hK _ ?_
 clear hK K
 refine wrg ?_
 conv => whnf
 refine ⟨⟨by omega, by constructor <;> omega⟩, ?_⟩
 conv => whnf
 refine callP rfl (bitsLen_fn n (by omega) (by omega)) ?_
 rintro lo hi hi' z h1 h2 h3 ⟨r, rfl⟩ _
 try dsimp only at h1
 conv => whnf
 refine ⟨⟨rfl, rfl⟩, ?_⟩
 conv => whnf
 refine ⟨rfl, _, pdqsort_fn bk n r h0 hn hd hdis, ?_⟩
 rintro hs' av x' t' hh ⟨rfl, rfl, h, hM, hO, rfl⟩ _ _ _
 conv => whnf
 refine ⟨by dsimp only; omega, ?_⟩
 conv => whnf
 exact ⟨.ownV 68 2 bk n fun j => vF (h j), ⟨rfl, rfl, rfl, rfl, fun _ _ => rfl⟩, .inr ⟨rfl, rfl⟩, .dead, trivial, rfl, rfl, rfl, rfl, h, hM, hO, rfl⟩

open Go Go.RowKit Go.Proofs Poly
set_option maxRecDepth 100000
set_option maxHeartbeats 8000000

def vFs {p : Int} [SP p] (F : List (Poly p × Nat)) : V := .vals none 2 F.length fun j => vF (F.getD j (0, 0))

theorem size_fn (g : Option Nat) (xs : List Int) : FnV 320 [.ints g xs] (.int .i64 xs.length) := by
 refine fn_of (cx_ok [0, 2]) Tryz.func320 rfl (by decide) Tryz.ntmps320 (Nat.le_of_ble_eq_true rfl) fun base => ?_
 refine wrs fun K hK => ?_
 conv => whnf
 refine hK _ ?_
 clear hK K
 refine wrs fun K hK => ?_
 conv => whnf
 refine hK _ ?_
 clear hK K
 refine W.ret ?_
 conv => whnf
 exact ⟨.v (.int .i64 xs.length), ⟨rfl, rfl⟩, trivial, rfl⟩

theorem sorted_facs {p : Int} [SP p] {f : Poly p} {G : List (Poly p × Nat)} (hG : Facs f G) {h : Nat → Poly p × Nat} (hM : Mix G.length (fun j => G.getD j (0, 0)) h) (hO : Ord h G.length) :
  FacOf f ((List.range G.length).map h) := by
 refine ⟨?_, fun x => ?_⟩
 ·rw [List.pairwise_map]
  exact List.pairwise_lt_range.imp_of_mem (fun {a b} ha hb hab => hO a b hab (List.mem_range.1 hb))
 ·rw [← hG.2, List.mem_map]
  constructor
  ·rintro ⟨i, hi, rfl⟩
   obtain ⟨j, hj, e⟩ := (hM.mem (h i)).1 ⟨i, List.mem_range.1 hi, rfl⟩
   have e : G.getD j (0, 0) = h i := e
   rw [← e, List.getD_eq_getElem?_getD, List.getElem?_eq_getElem hj]
   exact List.getElem_mem hj
  ·intro hx
   obtain ⟨j, hj, e⟩ := List.getElem_of_mem hx
   obtain ⟨i, hi, e'⟩ := (hM.mem x).2 ⟨j, hj, by show G.getD j (0, 0) = x; rw [List.getD_eq_getElem?_getD, List.getElem?_eq_getElem hj]; exact e⟩
   exact ⟨i, List.mem_range.2 hi, e'⟩
theorem facs_dis {p : Int} [SP p] {f : Poly p} {G : List (Poly p × Nat)} (hG : Facs f G) : ∀ i j, i < G.length → j < G.length → (G.getD i (0, 0)).1 = (G.getD j (0, 0)).1 → i = j := by
 intro i j hi hj e
 have h1 := nodup_getD hG.1 (i := i) (j := j) (by simpa using hi) (by simpa using hj)
 refine h1 ?_
 simp only [List.getD_eq_getElem?_getD, List.getElem?_map, List.getElem?_eq_getElem hi, List.getElem?_eq_getElem hj] at e ⊢
 exact e
theorem getD_map_range {α : Type} (h : Nat → α) (d : α) {n i : Nat} (hi : i < n) : ((List.range n).map h).getD i d = h i := by
 simp [List.getD_eq_getElem?_getD, hi]

theorem getD_snoc_l {α : Type} {d x : α} {L : List α} {j : Nat} (h : j < L.length) : (L ++ [x]).getD j d = L.getD j d := by rw [getD_snoc, if_pos h]
theorem getD_snoc_r {α : Type} {d x : α} {L : List α} : (L ++ [x]).getD (L.length + 0) d = x := by rw [Nat.add_zero, getD_snoc, if_neg (by omega), if_pos rfl]

theorem factorsBy_fn (p : Int) [SP p] : ∀ (d : Nat) (g : Option Nat) (f : Poly p), dg f ≤ d → d ≤ 13 → f ≠ 0 → Fn Tryz.prog 204 [.int .i64 p, .ints g f.l] (fun _ _ z => ∃ F, FacOf f F ∧ z = .v (vFs F))
 | 0, g, f, hd, _, hf0 => absurd (dg_eq_zero.1 (by omega)) hf0
 | d + 1, g, f, hd, hd13, hf0 => by
  have ih := factorsBy_fn p d
  have hp := Pr.two (p := p)
  have hp2 := SP.le (p := p)
  have hm := mnc_mon hf0
  have hmd : dg (mnc f) ≤ dg f := dvd_dg (mnc_assoc f).1 hf0
  generalize hr0 : mnc f = r0 at hm hmd
  have hrl : r0.l.length = dg r0 := rfl
  refine fn_of (cx_ok [0, 1, 4, 5, 6, 7, 8, 11, 12, 13, 14, 15, 16, 18, 28, 41, 42, 43, 44, 58, 78, 82, 95, 96, 97, 98]) Tryz.func204 rfl (by decide) Tryz.ntmps204 (Nat.le_of_ble_eq_true rfl) fun base => ?_
  refine wrs fun K hK => ?_
  conv => whnf
  refine hK _ ?_
  clear hK K
  refine wrs fun K hK => ?_
  conv => whnf
  refine hK _ ?_
  clear hK K
  refine wrs fun K hK => ?_
  conv => whnf
  refine callI rfl (monic_fn p g f (by omega)) fun hs_1 b_1 hh_1 hf_1 => ?_
  try dsimp only at hh_1 hf_1
  conv => whnf
  rw [hr0]
  refine hK _ ?_
  clear hK K
  refine W.seqK fun K1 hK1 => ?_
  -- what is left, and the factors found
  have fin : ∀ (r : Poly p) (L : List (Poly p × Nat)) (bL : Nat) (s : S), Mon r → dg r ≤ dg r0 → der r = 0 → L.length ≤ 12 → (∀ F, Facs r F → Facs r0 (L ++ F)) → base ≤ s.hs →
    coverK s.env [(0, .v (.int .i64 p)), (4, .v .nil), (5, .ownV 68 2 bL L.length fun j => vF (L.getD j (0, 0))), (6, .v (.ints none r.l))] → K1 s := by
   intro r L bL s hrm hrd hder hL12 hfac h5 h6
   refine hK1 _ (W.weak (t := ⟨[(0, .v (.int .i64 p)), (4, .v .nil), (5, .ownV 68 2 bL L.length fun j => vF (L.getD j (0, 0))), (6, .v (.ints none r.l))], base⟩) ⟨h5, h6⟩ (Nat.le_refl _) ?_)
   clear hK1 h5 h6 s K1
   have hrl : r.l.length = dg r := rfl
   have hr1 : dg r ≠ 0 := fun e => hrm.1 (dg_eq_zero.1 e)
   refine W.seqK fun K1 hK1 => ?_
   -- the end: all factors are in the list
   have fin2 : ∀ (G : List (Poly p × Nat)) (bG : Nat) (s : S), Facs r0 G → base ≤ s.hs → coverK s.env [(0, .v (.int .i64 p)), (4, .v .nil), (5, .ownV 68 2 bG G.length fun j => vF (G.getD j (0, 0)))] → K1 s := by
    intro G bG s hG h5 h6
    refine hK1 _ (W.weak (t := ⟨[(0, .v (.int .i64 p)), (4, .v .nil), (5, .ownV 68 2 bG G.length fun j => vF (G.getD j (0, 0)))], base⟩) ⟨h5, h6⟩ (Nat.le_refl _) ?_)
    clear hK1 h5 h6 s K1
    have hfew := hG.few hm.1
    refine wrs fun K hK => ?_
    conv => whnf
    refine ⟨⟨rfl, rfl⟩, ?_⟩
    conv => whnf
    refine ⟨rfl, _, sortFunc_fn bG G.length (fun j => G.getD j (0, 0)) (by omega) (fun i hi => ?_) (facs_dis hG), ?_⟩
    ·have h7 : G.getD i (0, 0) ∈ G := by rw [List.getD_eq_getElem?_getD, List.getElem?_eq_getElem hi]; exact List.getElem_mem hi
     obtain ⟨a1, a2, a3, a4⟩ := (hG.2 _).1 h7
     have := dvd_dg (a4.dvd a3) hm.1
     show dg (G.getD i (0, 0)).1 ≤ 1000000
     omega
    rintro hs' av x' t' hh ⟨rfl, rfl, h, hM, hO, rfl⟩ _ _ _
    try dsimp only at hh
    conv => whnf
    refine hK _ ?_
    clear hK K
    refine wrs fun K hK => ?_
    conv => whnf
    refine hK _ ?_
    clear hK K
    refine W.ret ?_
    conv => whnf
    exact ⟨.v (vFs ((List.range G.length).map h)), ⟨rfl, rfl, by simp, fun i hi => congrArg vF (getD_map_range h (0, 0) hi).symm⟩, ⟨trivial, fun _ _ => ⟨trivial, trivial, trivial⟩⟩, _, sorted_facs (Facs.mnc hf0 (hr0 ▸ hG)) hM hO, rfl⟩
   clear hK1
   refine wrs fun K hK => ?_
   conv => whnf
   rw [hrl]
   refine hK _ (W.cond ⟨fun h7 => ?_, fun h7 => ?_⟩) <;> clear hK K
   ·have h7 := of_decide_eq_true h7
    refine wrs fun K hK => ?_
    conv => whnf
    refine hK _ ?_
    clear hK K
    refine W.seqK fun K3 hK3 => ?_
    refine wrs fun K hK => ?_
    conv => whnf
    refine hK _ (W.block (W.invE (fun m e => ∃ (k bR : Nat), (m = dg r + p.toNat - k * p.toNat) ∧ k * p.toNat < dg r + p.toNat ∧ e = [(0, .v (.int .i64 p)), (4, .v .nil), (5, .ownV 68 2 bL L.length fun j => vF (L.getD j (0, 0))), (6, .v (.ints none r.l)), (15, .ownI 2 bR (mkL k fun i => cf r.l (i * p.toNat))), (16, .v (.int .i64 ((k * p.toNat : Nat) : Int)))]) _ _ ⟨0, 0, rfl, by omega, rfl⟩ (by dsimp only; omega) (by repeat' first | refine And.intro ?_ ?_ | exact trivial | rfl | omega | assumption | exact .inl rfl | exact .inr rfl | exact fun _ _ => rfl) ?_))
    clear hK K
    rintro m e ⟨k, bR, hm', hk, rfl⟩
    have hpn : ((p.toNat : Nat) : Int) = p := by omega
    have hk1 : (k + 1) * p.toNat = k * p.toNat + p.toNat := Nat.succ_mul _ _
    have hk2 : (((k + 1) * p.toNat : Nat) : Int) = ((k * p.toNat : Nat) : Int) + p := by omega
    have hcfk : cf r.l (k * p.toNat) = cf r.l (k * p.toNat) := rfl
    generalize hkp : k * p.toNat = kp at hm' hk hk1 hk2 hcfk
    refine W.seqK fun K7 hK7 => ?_
    refine wrs fun K hK => ?_
    conv => whnf
    refine callV rfl (size_fn none r.l) fun hs' hhs => ?_
    try dsimp only at hhs
    conv => whnf
    rw [hrl]
    refine hK _ (W.cond ⟨fun h8 => ?_, fun h8 => ?_⟩) <;> clear hK K
    ·have h8 := of_decide_eq_true h8
     refine W.skip (hK7 _ ?_)
     clear hK7 K7
     refine W.seqK fun K8 hK8 => W.block ?_
     refine wrg ?_
     conv => whnf
     refine ⟨oo, ?_⟩
     conv => whnf
     rw [Int.toNat_natCast]
     have hkk : k ≤ kp := by rw [← hkp]; exact Nat.le_mul_of_pos_right k (by omega)
     have hml : (mkL k fun i => cf r.l (i * p.toNat)).length = k := mkL_length _ _
     have hms : mkL (k + 1) (fun i => cf r.l (i * p.toNat)) = mkL k (fun i => cf r.l (i * p.toNat)) ++ [r.l.getD kp 0] := by rw [mkL_succ, hkp]; rfl
     refine ⟨⟨rfl, by decide⟩, ?_⟩
     conv => whnf
     intro b_4 hs_4 hh_4 hf_4
     try dsimp only at hh_4 hf_4
     conv => whnf
     refine ⟨by dsimp only [List.length]; omega, ?_⟩
     conv => whnf
     intro b_6 hs_6 hh_6 hf_6
     try dsimp only at hh_6 hf_6
     conv => whnf
     refine hK8 _ ?_
     clear hK8 K8
     refine wrg ?_
     conv => whnf
     refine ⟨oo, ?_⟩
     conv => whnf
     refine ⟨_, _, ⟨k + 1, b_6, rfl, by omega, rfl⟩, by omega, by dsimp only; omega, ?_⟩
     rw [hms]
     exact cvr
    ·have h8 := of_decide_eq_false h8
     obtain ⟨R, hR1, hR2, hR3, hR4, hR5⟩ := root_spec (f := r) hrm hder (l := mkL k fun i => cf r.l (i * p.toNat)) (n := k) (mkL_length _ _) (fun i hi => by rw [cf_mkL, if_pos hi]) (by omega) (by omega)
     rw [← hR1]
     have hRf0 := hR2.1
     have hRd := hR5 (by omega)
     refine W.exit (hK3 _ ?_)
     clear hK7 K7 hK3 K3
     refine wrs fun K hK => ?_
     conv => whnf
     refine callP rfl (ih _ R (by omega) (by omega) hRf0) ?_
     rintro lo hi hi' z hl1 hl2 hl3 ⟨F, hF, rfl⟩ _
     try dsimp only at hl1 hl2
     have hFf := hF.facs.few hRf0
     have hG := hfac _ (Facs.up hRf0 (n := p.toNat) (by omega) hR3 hF.facs)
     have hGl := hG.few hm.1
     conv => whnf
     refine hK _ (W.block (W.invE (fun m e => ∃ (j bG : Nat), j ≤ F.length ∧ m = F.length - j ∧ e = [(0, .v (.int .i64 p)), (4, .v .nil), (5, .ownV 68 2 bG (L ++ (up p.toNat F).take j).length fun i => vF ((L ++ (up p.toNat F).take j).getD i (0, 0))), (95, .v (vFs F)), (96, .v (.int .i64 F.length)), (97, .v (.int .i64 j))]) _ _ ⟨0, bL, Nat.zero_le _, rfl, rfl⟩ (by dsimp only; omega) (by
      have e3 : L ++ (up p.toNat F).take 0 = L := List.append_nil _
      rw [e3]
      repeat' first | refine And.intro ?_ ?_ | exact trivial | rfl | omega | assumption | exact .inl rfl | exact fun _ _ => rfl) ?_))
     clear hK K
     rintro m e ⟨j, bG, hj, hm', rfl⟩
     have hul : (up p.toNat F).length = F.length := List.length_map ..
     refine wrs fun K hK => ?_
     conv => whnf
     refine hK _ ?_
     clear hK K
     refine W.seqK fun K7 hK7 => W.cond ⟨fun h9 => ?_, fun h9 => ?_⟩ <;> (first | replace h9 := of_decide_eq_true h9 | replace h9 := of_decide_eq_false h9)
     ·have h9 : j < F.length := by omega
      have hxm : F.getD j (0, 0) ∈ F := by rw [List.getD_eq_getElem?_getD, List.getElem?_eq_getElem h9]; exact List.getElem_mem h9
      have hxu : (up p.toNat F).take (j + 1) = (up p.toNat F).take j ++ [((F.getD j (0, 0)).1, p.toNat * (F.getD j (0, 0)).2)] := by
       rw [List.take_add_one, List.getElem?_eq_getElem (by omega)]
       unfold up
       simp [List.getElem_map, List.getD_eq_getElem?_getD, List.getElem?_eq_getElem h9]
      obtain ⟨a1, a2, a3, a4⟩ := (hF.2 _).1 hxm
      have hx2 : (F.getD j (0, 0)).2 < 14 := by
       obtain ⟨u, h5, h6⟩ := a4
       have h10 := pow_dg a1.1 (F.getD j (0, 0)).2
       have h11 := dvd_dg (⟨u, h5⟩ : _ ∣ R) hRf0
       omega
      generalize hx : F.getD j (0, 0) = x at hxm hxu a1 a2 a3 a4 hx2
      have hpx : ((p.toNat * x.2 : Nat) : Int) = p * (x.2 : Int) := by rw [Int.natCast_mul, show ((p.toNat : Nat) : Int) = p by omega]
      have hpx2 : 0 ≤ p * (x.2 : Int) ∧ p * (x.2 : Int) ≤ 97 * 13 := ⟨Int.mul_nonneg (by omega) (by omega), Int.mul_le_mul (by omega) (by omega) (by omega) (by omega)⟩
      refine W.skip (hK7 _ ?_)
      clear hK7 K7
      refine W.seqK fun K8 hK8 => W.block ?_
      refine wrs fun K hK => ?_
      conv => whnf
      refine ⟨oo, ?_⟩
      conv => whnf
      rw [Int.toNat_natCast, hx]
      intro b_7 hs_7 hh_7 hf_7
      try dsimp only at hh_7 hf_7
      conv => whnf
      refine ⟨s23, ?_⟩
      conv => whnf
      refine hK _ ?_
      clear hK K
      refine wrg ?_
      conv => whnf
      refine ⟨oo, ?_⟩
      conv => whnf
      rw [← hpx]
      refine ⟨⟨rfl, by decide, fun x hx => by simp at hx; subst hx; exact ⟨rfl, rfl⟩⟩, ?_⟩
      conv => whnf
      intro b_8 hs_8 hh_8 hf_8
      try dsimp only at hh_8 hf_8
      conv => whnf
      have hAl : (L ++ (up p.toNat F).take j).length ≤ 26 := by rw [List.length_append, List.length_take]; omega
      refine ⟨by omega, ?_⟩
      conv => whnf
      refine ⟨fun i => vF ((L ++ (up p.toNat F).take j ++ [(x.1, p.toNat * x.2)]).getD i (0, 0)), fun i hi => congrArg vF (getD_snoc_l hi), fun i hi => ?_, ?_⟩
      ·obtain rfl : i = 0 := by omega
       exact congrArg vF getD_snoc_r
      intro b_9 hs_9 hh_9 hf_9
      try dsimp only at hh_9 hf_9
      conv => whnf
      refine hK8 _ ?_
      clear hK8 K8
      refine wrg ?_
      conv => whnf
      refine ⟨oo, ?_⟩
      conv => whnf
      refine ⟨_, _, ⟨j + 1, b_9, by omega, rfl, rfl⟩, by omega, by dsimp only; omega, ?_⟩
      rw [hxu, ← List.append_assoc, List.length_append (bs := [_])]
      exact cvr
     ·obtain rfl : j = F.length := by omega
      rw [List.take_of_length_le (by omega)]
      refine W.exit (fin2 _ bG _ hG (by dsimp only; omega) ?_)
      clear fin2 hK7 K7
      exact cvr
   ·have h7 := of_decide_eq_false h7
    have hu := hfac [] (Facs.unit (by omega))
    rw [List.append_nil] at hu
    refine W.skip (fin2 L bL _ hu (by dsimp only; omega) ?_)
    clear fin2
    exact cvr
  clear hK1
  refine wrs fun K hK => ?_
  conv => whnf
  refine callV rfl (derivative_fn _ r0.l ((l_bd r0).le (by omega)) (by omega)) fun hs' hhs => ?_
  try dsimp only at hhs
  conv => whnf
  refine callI rfl (reduce_fn p (by omega) (by omega) none (mkL (r0.l.length - 1) (dv (cf r0.l))) (fun j => by rw [cf_mkL]; split; (rename_i hj; have hc := cf_bd r0 (j + 1); have h8 := Int.mul_nonneg (by omega : (0 : Int) ≤ (j : Int) + 1) hc.1; have h9 := Int.mul_le_mul (by omega : (j : Int) + 1 ≤ 13) (by omega : cf r0.l (j + 1) ≤ 97) hc.1 (by omega); unfold dv; omega); omega) (by rw [mkL_length]; omega)) fun hs_2 b_2 hh_2 hf_2 => ?_
  try dsimp only at hh_2 hf_2
  conv => whnf
  rw [der_l]
  refine hK _ ?_
  clear hK K
  refine wrs fun K hK => ?_
  conv => whnf
  have hdl : (der r0).l.length = dg (der r0) := rfl
  rw [hdl]
  refine hK _ (W.cond ⟨fun h => ?_, fun h => ?_⟩) <;> clear hK K
  ·have h := of_decide_eq_true h
   have hd0 : der r0 ≠ 0 := fun e => by rw [e, dg_zero] at h; omega
   obtain ⟨s1, s2, s3, s4, s5, s6, s7⟩ := sqf_quo hm hd0
   refine wrs fun K hK => ?_
   conv => whnf
   refine callI rfl (common_fn p _ _ r0 (der r0) (by omega) (by have := der_dg hm.1; omega)) fun hs_3 b_3 hh_3 hf_3 => ?_
   try dsimp only at hh_3 hf_3
   conv => whnf
   refine callV rfl (divide_fn p _ _ r0 (gcd r0 (der r0)) (by omega) (by have := dvd_dg s6 hd0; have := der_dg hm.1; omega) s7) fun hs' hhs => ?_
   try dsimp only at hhs
   conv => whnf
   generalize hq : quo r0 (gcd r0 (der r0)) = q at s1 s2 s3 s4 s5
   generalize gcd r0 (der r0) = c at s1 s6 s7
   refine hK _ ?_
   clear hK K
   refine wrs fun K hK => ?_
   conv => whnf
   refine callP rfl (split_fn p q s2 s3 s4 (by omega)) ?_
   rintro lo hi hi' z hl1 hl2 hl3 ⟨P, hP, rfl⟩ _
   have hPf := hP.few (f := q) s2.1
   try dsimp only at hl1 hl2
   conv => whnf
   refine hK _ (W.block (W.invE (fun m e => ∃ (k bL : Nat) (r : Poly p) (L : List (Poly p × Nat)), Peel r0 P k r L ∧ dg r ≤ dg r0 ∧ m = P.length - k ∧ e = [(0, .v (.int .i64 p)), (4, .v .nil), (5, .ownV 68 2 bL L.length fun j => vF (L.getD j (0, 0))), (6, .v (.ints none r.l)), (41, .v (vPs P)), (42, .v (.int .i64 P.length)), (43, .v (.int .i64 k))]) _ _ ⟨0, 0, r0, [], Peel.start hm P, Nat.le_refl _, rfl, rfl⟩ (by dsimp only; omega) (by repeat' first | refine And.intro ?_ ?_ | exact trivial | rfl | omega | assumption | exact .inl rfl | exact .inr rfl | exact fun _ _ => rfl) ?_))
   clear hK K
   rintro m e ⟨k, bL, r, L, hpe, hrd, hm', rfl⟩
   refine wrs fun K hK => ?_
   conv => whnf
   refine hK _ ?_
   clear hK K
   refine W.seqK fun K7 hK7 => W.cond ⟨fun h2 => ?_, fun h2 => ?_⟩ <;> (first | replace h2 := of_decide_eq_true h2 | replace h2 := of_decide_eq_false h2)
   ·have h2 : k < P.length := by omega
    have hmem : P.getD k 0 ∈ P := by rw [List.getD_eq_getElem?_getD, List.getElem?_eq_getElem h2]; exact List.getElem_mem h2
    obtain ⟨hgi, hgm, hgd⟩ := (hP.2 _).1 hmem
    have hgd0 : P.getD k 0 ∣ r0 := dvd_trans hgd ⟨c, s1⟩
    have hgdg := dvd_dg hgd0 hm.1
    have step := fun n r' he hn => hpe.step (n := n) (r' := r') hP.1 h2 hgi hgm hgd0 he hn
    generalize hgq : P.getD k 0 = q1 at hgi hgm hgd hgd0 hgdg step
    have hlen := hpe.len
    refine W.skip (hK7 _ ?_)
    clear hK7 K7
    refine W.seqK fun K8 hK8 => W.block ?_
    refine wrs fun K hK => ?_
    conv => whnf
    refine ⟨oo, ?_⟩
    conv => whnf
    have e1 : (fun j => V.ints none (P.getD j 0).l) (k : Int).toNat = .ints none q1.l := by rw [Int.toNat_natCast]; show V.ints none (P.getD k 0).l = _; rw [hgq]
    rw [e1]
    conv => whnf
    refine hK _ ?_
    clear hK K
    refine wrs fun K hK => ?_
    conv => whnf
    intro b_9 hs_9 hh_9 hf_9
    try dsimp only at hh_9 hf_9
    conv => whnf
    refine ⟨s23, ?_⟩
    conv => whnf
    refine hK _ ?_
    clear hK K
    have hpow : ∀ {n : Nat} {rc : Poly p}, r = q1 ^ n * rc → n < 14 ∧ rc ≠ 0 ∧ dg rc ≤ dg r := fun {n rc} he => by
     have h5 := pow_dg hgi.1 n
     have h6 := dvd_dg (⟨rc, he⟩ : q1 ^ n ∣ r) hpe.mon.1
     have h7 : rc ∣ r := ⟨q1 ^ n, by rw [he]; exact mul_comm' _ _⟩
     exact ⟨by omega, dvd_ne h7 hpe.mon.1, dvd_dg h7 hpe.mon.1⟩
    refine W.seqK fun K2 hK2 => ?_
    refine wrs fun K hK => ?_
    conv => whnf
    refine callV rfl (divide_fn p _ _ r q1 (by omega) (by omega) hgi.ne) fun hs' hhs => ?_
    try dsimp only at hhs
    conv => whnf
    refine hK _ (W.block (W.invE (fun m e => ∃ (n : Nat) (rc : Poly p), r = q1 ^ n * rc ∧ m = dg rc ∧ e = [(0, .v (.int .i64 p)), (4, .v .nil), (5, .ownV 68 2 bL L.length fun j => vF (L.getD j (0, 0))), (6, .v (.ints none rc.l)), (11, .v (.ints none q1.l)), (12, .ownB b_9 (.agg [.ints none q1.l, .int .i64 n])), (13, .v (.ints none (quo rc q1).l)), (14, .v (.ints none (rem rc q1).l)), (41, .v (vPs P)), (42, .v (.int .i64 P.length)), (43, .v (.int .i64 k))]) _ _ ⟨0, r, by rw [pow_zero']; exact ring [r] (by rfl), rfl, rfl⟩ (by dsimp only; omega) (by repeat' first | refine And.intro ?_ ?_ | exact trivial | rfl | omega | assumption | exact .inl rfl | exact .inr rfl | exact fun _ _ => rfl) ?_))
    clear hK K
    rintro m2 e ⟨n, rc, he, hm2, rfl⟩
    obtain ⟨hn14, hrc0, hrcd⟩ := hpow he
    have hreml : (rem rc q1).l.length = dg (rem rc q1) := rfl
    refine W.seqK fun K7 hK7 => wrs fun K hK => ?_
    conv => whnf
    refine hK _ (W.cond ⟨fun h3 => ?_, fun h3 => ?_⟩) <;> clear hK K <;> (first | replace h3 := of_decide_eq_true h3 | replace h3 := of_decide_eq_false h3)
    ·have hrem : rem rc q1 = 0 := dg_eq_zero.1 (by omega)
     have hdiv : rc = quo rc q1 * q1 := by
      have h5 := div_eq rc q1
      rw [hrem] at h5
      have e : ∀ a : Poly p, a + 0 = a := fun a => by exact ring [a] (by rfl)
      rw [e] at h5; exact h5
     have hq0 : quo rc q1 ≠ 0 := fun e => hrc0 (by rw [hdiv, e]; exact ring [q1] (by rfl))
     have hdgq := dg_mul hq0 hgi.ne
     rw [← hdiv] at hdgq
     have hg2 := hgi.1
     refine W.skip (hK7 _ ?_)
     clear hK7 K7
     refine W.seqK fun K8 hK8 => W.block ?_
     refine wrs fun K hK => ?_
     conv => whnf
     refine hK _ ?_
     clear hK K
     refine wrg ?_
     conv => whnf
     refine ⟨oo, ?_⟩
     conv => whnf
     refine ⟨⟨(by show 1 + 1 ≤ 2; omega), rfl⟩, ?_⟩
     conv => whnf
     refine hK8 _ ?_
     clear hK8 K8
     refine wrg ?_
     conv => whnf
     refine callV rfl (divide_fn p _ _ (quo rc q1) q1 (by omega) (by omega) hgi.ne) fun hs' hhs => ?_
     try dsimp only at hhs
     conv => whnf
     exact againA ⟨n + 1, quo rc q1, by rw [he, pow_succ']; exact comb (q1 ^ n) hdiv (ring [rc, q1, quo rc q1, q1 ^ n] (by rfl)), rfl, rfl⟩
    ·have hnd : ¬ q1 ∣ rc := fun hd => by
      have := (dvd_iff_rem hgi.ne).1 hd
      have : dg (rem rc q1) = 0 := by rw [this]; exact dg_zero
      omega
     refine W.exit (hK2 _ ?_)
     clear hK7 K7 hK2 K2
     refine wrg ?_
     conv => whnf
     refine ⟨⟨rfl, by decide, fun x hx => by simp at hx; subst hx; exact ⟨rfl, rfl⟩⟩, ?_⟩
     conv => whnf
     intro b_5 hs_5 hh_5 hf_5
     try dsimp only at hh_5 hf_5
     conv => whnf
     refine ⟨by omega, ?_⟩
     conv => whnf
     refine ⟨fun i => vF ((L ++ [(q1, n)]).getD i (0, 0)), fun i hi => congrArg vF (getD_snoc_l hi), fun i hi => ?_, ?_⟩
     ·obtain rfl : i = 0 := by omega
      exact congrArg vF getD_snoc_r
     intro b_6 hs_6 hh_6 hf_6
     try dsimp only at hh_6 hf_6
     conv => whnf
     refine hK8 _ ?_
     clear hK8 K8
     refine wrg ?_
     conv => whnf
     refine ⟨oo, ?_⟩
     conv => whnf
     refine ⟨_, _, ⟨k + 1, b_6, rc, L ++ [(q1, n)], step n rc he hnd, by omega, rfl, rfl⟩, by omega, by dsimp only; omega, ?_⟩
     rw [List.length_append (bs := [_])]
     exact cvr
   ·obtain rfl : k = P.length := by have := hpe.le; omega
    refine W.exit (fin r L bL _ hpe.mon hrd (hpe.fin hm hP s1 s6).1 (by have := hpe.len; omega) (fun F hF => hpe.facs hm hP s1 s6 hF) (by dsimp only; omega) ?_)
    clear fin hK7 K7
    exact cvr
  ·have h := of_decide_eq_false h
   have hd0 : der r0 = 0 := dg_eq_zero.1 (by omega)
   refine W.skip (fin r0 [] 0 _ hm (Nat.le_refl _) hd0 (by simp) (fun F hF => hF) (by dsimp only; omega) ?_)
   clear fin
   exact cvr

open Go Go.RowKit Go.Proofs Poly
set_option maxRecDepth 100000
set_option maxHeartbeats 8000000

def oneF {p : Int} [SP p] (F : List (Poly p × Nat)) : Bool := bif decide ((F.length : Int) = 1) then decide (((F.getD 0 (0, 0)).2 : Int) = 1) else false

theorem isIrreducible_fn (p : Int) [SP p] (g : Option Nat) (f : Poly p) (hf : dg f ≤ 13) (hf0 : f ≠ 0) : Fn Tryz.prog 199 [.int .i64 p, .ints g f.l] (fun _ _ z => ∃ F, FacOf f F ∧ z = .v (.bool (oneF F))) := by
 refine fn_of (cx_ok [0, 1, 4, 5]) Tryz.func199 rfl (by decide) Tryz.ntmps199 (Nat.le_of_ble_eq_true rfl) fun base => ?_
 refine wrs fun K hK => ?_
 conv => whnf
 refine hK _ ?_
 clear hK K
 refine wrs fun K hK => ?_
 conv => whnf
 refine callP rfl (factorsBy_fn p _ g f hf (Nat.le_refl _) hf0) ?_
 rintro lo hi hi' z hl1 hl2 hl3 ⟨F, hF, rfl⟩ _
 try dsimp only at hl1 hl2
 have hlen := hF.facs.few hf0
 conv => whnf
 refine hK _ ?_
 clear hK K
 refine wrs fun K hK => ?_
 conv => whnf
 refine ⟨fun h => ?_, fun h => ?_⟩ <;> conv => whnf
 ·refine ⟨⟨by omega, by have := of_decide_eq_true h; omega⟩, ?_⟩
  conv => whnf
  refine hK _ ?_
  clear hK K
  refine W.ret ?_
  conv => whnf
  exact ⟨.v (.bool (oneF F)), (by show decide _ = oneF F; unfold oneF; rw [h]; rfl), trivial, F, hF, rfl⟩
 ·refine hK _ ?_
  clear hK K
  refine W.ret ?_
  conv => whnf
  exact ⟨.v (.bool (oneF F)), (by show oneF F = false; unfold oneF; rw [h]; rfl), trivial, F, hF, rfl⟩

open Go Go.RowKit Go.Proofs Poly
set_option maxRecDepth 100000
set_option maxHeartbeats 8000000

structure MatR (tb : Nat → Option (List Int)) (bl : Nat → Nat) (n m : Nat) (R : Nat → Nat → Int) : Prop where
 inj : ∀ i j, i < n → j < n → bl i = bl j → i = j
 row : ∀ i, i < n → ∃ l, tb (bl i) = some l ∧ l.length = m ∧ ∀ x, x < m → cf l x = R i x
theorem MatR.store {tb : Nat → Option (List Int)} {bl : Nat → Nat} {n m : Nat} {R : Nat → Nat → Int} (h : MatR tb bl n m R) {i x : Nat} (hi : i < n) (hx : x < m) {l : List Int} (hl : tb (bl i) = some l) (v : Int) :
  MatR (tbSet tb (bl i) (l.set x v)) bl n m (fun a y => if a = i ∧ y = x then v else R a y) := by
 refine ⟨h.inj, fun a ha => ?_⟩
 obtain ⟨l1, h1, h2, h3⟩ := h.row a ha
 by_cases he : a = i
 ·subst he
  rw [hl] at h1
  cases h1
  refine ⟨l.set x v, tbSet_self _ _ _, by simpa using h2, fun y hy => ?_⟩
  rw [cf_set (by omega)]
  by_cases hyx : y = x
  ·simp [hyx]
  ·simp [hyx, h3 y hy]
 ·have hne : bl a ≠ bl i := fun e => he (h.inj a i ha hi e)
  refine ⟨l1, by rw [tbSet_ne _ _ hne]; exact h1, h2, fun y hy => ?_⟩
  simp [he, h3 y hy]
theorem MatR.congr {tb : Nat → Option (List Int)} {bl : Nat → Nat} {n m : Nat} {R R' : Nat → Nat → Int} (h : MatR tb bl n m R) (he : ∀ i x, i < n → x < m → R i x = R' i x) : MatR tb bl n m R' :=
 ⟨h.inj, fun i hi => by obtain ⟨l, h1, h2, h3⟩ := h.row i hi; exact ⟨l, h1, h2, fun x hx => by rw [h3 x hx, he i x hi hx]⟩⟩

def vU (b : Bool) : V := bif b then .tr else .bool false
theorem Half.used {p : Int} {n : Nat} {M : Nat → Nat → Int} {col : Nat} {u u' : Nat → Prop} {L T : Nat → Nat → Int} (h : Half p n M col u L T) (e : ∀ k, u k ↔ u' k) : Half p n M col u' L T :=
 (funext fun k => propext (e k) : u = u') ▸ h
def rowsU (p : Int) (R : Nat → Nat → Int) (q : Nat → Int) (a i k x : Nat) : Int := if k < i ∧ k ≠ a then (R k x - q k * R a x) % p else R k x
noncomputable def smat {p : Int} [SP p] (f : Poly p) (n : Nat) (i x : Nat) : Int := if x < n then cf (kcol f i).l x else if x = n + i then 1 else 0

theorem l09Kernel_fn (p : Int) [SP p] (g : Option Nat) (f : Poly p) (n : Nat) (hf : dg f = n + 1) (hn0 : 1 ≤ n) (hn : n ≤ 400) :
    Fn Tryz.prog 403 [.int .i64 p, .ints g f.l] (fun _ _ z => ∃ v : Poly p, z = .v (.ints none v.l) ∧ ((2 ≤ dg v ∧ dg v ≤ n ∧ Ber f v) ∨ (v = 0 ∧ ∀ w, dg w ≤ n → Ber f w → dg w ≤ 1))) := by
  have hp := Pr.two (p := p)
  have hp2 := SP.le (p := p)
  have hfl : f.l.length = n + 1 := hf
  have hf0 : f ≠ 0 := fun e => by rw [e, dg_zero] at hf; omega
  have e2n : (2 : Int) * (n : Int) = ((2 * n : Nat) : Int) := by omega
  refine fn_of (cxm_ok [0, 1, 4, 5, 6, 7, 8, 9, 10, 11, 12, 13, 14, 15, 16, 17, 18, 19, 20, 27, 43, 76, 81, 98, 101, 116, 131, 146, 176, 195, 1000000]) Tryz.func403 rfl (by decide) Tryz.ntmps403 (Nat.le_of_ble_eq_true rfl) fun base => ?_
  refine W.tab0 rfl ?_
  refine W.rs (cxm_ok _) (by rfl) fun K hK => ?_
  conv => whnf
  refine hK _ ?_
  clear hK K
  refine W.rs (cxm_ok _) (by rfl) fun K hK => ?_
  conv => whnf
  rw [hfl]
  refine ⟨oo, ?_⟩
  conv => whnf
  have e0 : (((n + 1 : Nat) : Int) - 1) = n := by omega
  rw [e0]
  refine hK _ ?_
  clear hK K
  refine W.rs (cxm_ok _) (by rfl) fun K hK => ?_
  conv => whnf
  refine ⟨⟨rfl, by decide, fun x hx => by simp at hx⟩, ?_⟩
  conv => whnf
  intro b_0 hs_0 hh_0 hf_0
  try dsimp only at hh_0 hf_0
  conv => whnf
  refine hK _ ?_
  clear hK K
  refine W.seqK fun K1 hK1 => ?_
  refine W.rs (cxm_ok _) (by rfl) fun K hK => ?_
  conv => whnf
  refine hK _ (W.block (W.inv (fun m s => ∃ (i hs ba : Nat) (bl : Nat → Nat) (tb : Nat → Option (List Int)), i ≤ n ∧ base ≤ hs ∧ (∀ j, j < i → bl j < hs) ∧ MatR tb bl i (2 * n) (smat f n) ∧ m = n - i ∧
    s = ⟨[(0, .v (.int .i64 p)), (1, .v (.ints g f.l)), (5, .v (.int .i64 n)), (6, .ownV 24 1 ba i fun j => .rf (bl j) (2 * n)), (7, .v (.int .i64 i)), (vt, .tab tb)], hs⟩) _ _
    ⟨0, base, b_0, fun _ => 0, fun _ => none, Nat.zero_le _, Nat.le_refl _, fun j hj => by omega, ⟨fun i j hi => by omega, fun i hi => by omega⟩, rfl, rfl⟩ ⟨by dsimp only; omega, by repeat' first | refine And.intro ?_ ?_ | exact trivial | rfl | omega | assumption | exact fun _ _ => rfl | exact fun _ _ h => h | exact fun i hi => absurd hi (by omega)⟩
    (by rintro m s ⟨_, _, _, _, _, _, h, _, _, _, rfl⟩; exact h) ?_))
  clear hK K hh_0 hf_0
  rintro m s ⟨i, hs, ba, bl, tb, hi, hhs, hlt, hM, hm, rfl⟩
  refine W.seqK fun K7 hK7 => ?_
  refine W.rs (cxm_ok _) (by rfl) fun K hK => ?_
  conv => whnf
  refine hK _ (W.cond ⟨fun h2 => ?_, fun h2 => ?_⟩) <;> clear hK K
  · have h2 : i < n := by have := of_decide_eq_true h2; omega
    have epi : (i : Int) * p = ((p.toNat * i : Nat) : Int) := by rw [Int.natCast_mul, Int.mul_comm]; congr 1; omega
    have hpi : p.toNat * i ≤ 97 * 400 := Nat.mul_le_mul (by omega) (by omega)
    have hWl : (rem (X p ^ (p.toNat * i)) f).l.length = dg (rem (X p ^ (p.toNat * i)) f) := rfl
    have hWd := rem_lt (X p ^ (p.toNat * i)) hf0
    refine W.skip (hK7 _ ?_)
    clear hK7 K7
    refine W.seqK fun K8 hK8 => W.block ?_
    refine W.rs (cxm_ok _) (by rfl) fun K hK => ?_
    conv => whnf
    refine ⟨oo, ?_⟩
    conv => whnf
    rw [e2n]
    refine ⟨rfl, ?_⟩
    conv => whnf
    refine ⟨oo, ?_⟩
    conv => whnf
    rw [Int.toNat_natCast]
    intro b_8 hs_8 hh_8 hf_8
    try dsimp only at hh_8 hf_8
    conv => whnf
    refine hK _ ?_
    clear hK K
    refine W.rs (cxm_ok _) (by rfl) fun K hK => ?_
    conv => whnf
    refine ⟨⟨rfl, by decide⟩, ?_⟩
    conv => whnf
    intro b_x hs_x hh_x hf_x
    try dsimp only at hh_x hf_x
    conv => whnf
    refine ⟨by rw [epi]; constructor <;> omega, ?_⟩
    conv => whnf
    rw [epi]
    have ex : [(0 : Int), 1] = (X p).l := X_l.symm
    rw [ex]
    have hXd : dg (X p) ≤ 1000000 := by
      have : (X p).l.length = 2 := by rw [X_l]; rfl
      show (X p).l.length ≤ _
      omega
    refine callV rfl (l08Power_fn p _ g (X p) f (p.toNat * i) (by omega) hXd (by omega) hf0) fun hs' hhs => ?_
    try dsimp only at hhs
    conv => whnf
    generalize hW : rem (X p ^ (p.toNat * i)) f = Wp at *
    refine hK _ ?_
    clear hK K
    have hb8 := hf_8 (by omega)
    refine W.seqK fun K2 hK2 => ?_
    refine W.rs (cxm_ok _) (by rfl) fun K hK => ?_
    conv => whnf
    refine hK _ (W.block (W.invH hs_8 (by omega) (fun m e => ∃ (k : Nat) (l : List Int), k ≤ dg Wp ∧ l.length = 2 * n ∧ (∀ x, cf l x = if x < k then cf Wp.l x else 0) ∧ m = dg Wp - k ∧ e = [(0, .v (.int .i64 p)), (1, .v (.ints g f.l)), (5, .v (.int .i64 n)), (6, .ownV 24 1 ba i fun j => .rf (bl j) (2 * n)), (7, .v (.int .i64 i)), (8, .ownI 2 b_8 l), (9, .v (.ints none Wp.l)), (10, .v (.int .i64 k)), (vt, .tab tb)]) _ _ ⟨0, List.replicate (2 * n) 0, Nat.zero_le _, by simp, fun x => by rw [if_neg (by omega), cf_replicate], rfl, rfl⟩ (by dsimp only; omega) (by repeat' first | refine And.intro ?_ ?_ | exact trivial | rfl | omega | assumption | exact .inl rfl | exact fun _ _ => rfl | exact fun _ _ h => h) ?_))
    clear hK K
    rintro m2 e ⟨k, l, hk, hll, hlc, hm2, rfl⟩
    refine W.seqK fun K7 hK7 => ?_
    refine W.rs (cxm_ok _) (by rfl) fun K hK => ?_
    conv => whnf
    rw [hWl]
    refine hK _ (W.cond ⟨fun h3 => ?_, fun h3 => ?_⟩) <;> clear hK K
    · have h3 : k < dg Wp := by have := of_decide_eq_true h3; omega
      refine W.skip (hK7 _ ?_)
      clear hK7 K7
      refine W.seqK fun K9 hK9 => W.block ?_
      refine W.region (cxm_ok _) (by rfl) ?_
      conv => whnf
      refine ⟨oo, ?_⟩
      conv => whnf
      rw [Int.toNat_natCast]
      refine ⟨oo, ?_⟩
      conv => whnf
      refine hK9 _ ?_
      clear hK9 K9
      refine W.region (cxm_ok _) (by rfl) ?_
      conv => whnf
      refine ⟨oo, ?_⟩
      conv => whnf
      have h4 : ∀ x, cf (l.set k (Wp.l.getD k 0)) x = if x < k + 1 then cf Wp.l x else 0 := fun x => by
        rw [cf_set (by omega)]
        by_cases c1 : x = k
        · subst c1; rw [if_pos rfl, if_pos (by omega)]; rfl
        · rw [if_neg c1, hlc]
          by_cases c2 : x < k
          · rw [if_pos c2, if_pos (by omega)]
          · rw [if_neg c2, if_neg (by omega)]
      exact againA ⟨k + 1, l.set k (Wp.l.getD k 0), by omega, by simpa using hll, h4, rfl, rfl⟩
    · have h3 : k = dg Wp := by have := of_decide_eq_false h3; omega
      subst h3
      refine W.exit (hK2 _ ?_)
      clear hK7 K7 hK2 K2
      have hlw : ∀ x, cf l x = cf Wp.l x := fun x => by
        rw [hlc]; split
        · rfl
        · rw [cf_dg (by omega)]
      have hrc := cf_bd Wp i
      have e1 : l.getD i 0 = cf Wp.l i := hlw i
      refine W.rs (cxm_ok _) (by rfl) fun K hK => ?_
      conv => whnf
      refine ⟨oo, ?_⟩
      conv => whnf
      rw [Int.toNat_natCast, e1]
      refine ⟨oo, ?_⟩
      conv => whnf
      refine callV rfl (l01Mod_fn _ p (by omega) (by omega) (by omega)) fun hs' hhs => ?_
      try dsimp only at hhs
      conv => whnf
      refine ⟨oo, ?_⟩
      conv => whnf
      refine hK _ ?_
      clear hK K
      refine W.rs (cxm_ok _) (by rfl) fun K hK => ?_
      conv => whnf
      refine ⟨oo, ?_⟩
      conv => whnf
      have e2 : (n : Int) + (i : Int) = ((n + i : Nat) : Int) := by omega
      rw [e2]
      refine ⟨⟨by omega, by simp; omega⟩, ?_⟩
      conv => whnf
      refine hK _ ?_
      clear hK K
      have hl2c : ∀ x, x < 2 * n → cf ((l.set i ((cf Wp.l i - 1) % p)).set (n + i) 1) x = smat f n i x := fun x hx => by
        rw [cf_set (by simp; omega), cf_set (by omega)]
        unfold smat
        have hke : ∀ a, cf (kcol f i).l a = (cf Wp.l a - if a = i then 1 else 0) % p := fun a => by have := kmat_eq f a i; rw [hW] at this; exact this
        by_cases c1 : x < n
        · rw [if_pos c1, if_neg (by omega), hke]
          by_cases c2 : x = i
          · subst c2; rw [if_pos rfl, if_pos rfl]
          · rw [if_neg c2, if_neg c2, Int.sub_zero, mod_cf, hlw]
        · rw [if_neg c1]
          by_cases c2 : x = n + i
          · rw [if_pos c2, if_pos c2]
          · rw [if_neg c2, if_neg c2, if_neg (by omega), hlw, cf_dg (by omega)]
      have hl2l : ((l.set i ((cf Wp.l i - 1) % p)).set (n + i) 1).length = 2 * n := by simpa using hll
      refine W.region (cxm_ok _) (by rfl) ?_
      conv => whnf
      rw [Int.toNat_natCast, Int.toNat_natCast]
      generalize (l.set i ((cf Wp.l i - 1) % p)).set (n + i) 1 = l2 at hl2c hl2l
      refine ⟨by omega, ?_⟩
      conv => whnf
      rw [hl2l]
      refine ⟨⟨rfl, by decide, fun x hx => by simp at hx; subst hx; exact ⟨rfl, rfl⟩⟩, ?_⟩
      conv => whnf
      intro b_9 hs_9 hh_9 hf_9
      try dsimp only at hh_9 hf_9
      conv => whnf
      refine ⟨by omega, ?_⟩
      conv => whnf
      refine ⟨fun j => .rf (if j < i then bl j else b_8) (2 * n), fun j hj => by show V.rf (if j < i then bl j else b_8) (2 * n) = V.rf (bl j) (2 * n); rw [if_pos hj], fun j hj => ?_, ?_⟩
      · obtain rfl : j = 0 := by omega
        show V.rf (if i + 0 < i then bl (i + 0) else b_8) (2 * n) = _
        rw [if_neg (by omega)]; rfl
      intro b_10 hs_10 hh_10 hf_10
      try dsimp only at hh_10 hf_10
      conv => whnf
      refine hK8 _ ?_
      clear hK8 K8
      refine W.region (cxm_ok _) (by rfl) ?_
      conv => whnf
      refine ⟨oo, ?_⟩
      conv => whnf
      have hM' : MatR (tbSet tb b_8 l2) (fun j => if j < i then bl j else b_8) (i + 1) (2 * n) (smat f n) := by
        refine ⟨fun j k hj hk he => ?_, fun j hj => ?_⟩
        · have he' : (if j < i then bl j else b_8) = (if k < i then bl k else b_8) := he
          split at he' <;> split at he'
          · exact hM.inj j k (by assumption) (by assumption) he'
          · have := hlt j (by assumption); omega
          · have := hlt k (by assumption); omega
          · omega
        · show ∃ l, tbSet tb b_8 l2 (if j < i then bl j else b_8) = some l ∧ _
          by_cases c1 : j < i
          · have := hlt j c1
            rw [if_pos c1, tbSet_ne _ _ (by omega)]; exact hM.row j c1
          · obtain rfl : j = i := by omega
            rw [if_neg c1]
            exact ⟨l2, tbSet_self _ _ _, hl2l, hl2c⟩
      refine ⟨_, _, ⟨i + 1, hs_8, b_10, fun j => if j < i then bl j else b_8, tbSet tb b_8 l2, by omega, by omega, fun j hj => ?_, hM', rfl, rfl⟩, by omega, by dsimp only; omega, ?_⟩
      · show (if j < i then bl j else b_8) < hs_8
        split
        · have := hlt j (by assumption); omega
        · omega
      repeat' first | refine And.intro ?_ ?_ | exact trivial | rfl | omega | exact fun _ _ => rfl | exact fun _ _ h => h
  · obtain rfl : n = i := by have := of_decide_eq_false h2; omega
    refine W.exit (hK1 _ ?_)
    clear hK7 K7 hK1 K1
    refine W.weak (t := ⟨[(0, .v (.int .i64 p)), (1, .v (.ints g f.l)), (5, .v (.int .i64 n)), (6, .ownV 24 1 ba n fun j => .rf (bl j) (2 * n)), (vt, .tab tb)], base⟩) ⟨by dsimp only; omega, ?_⟩ (Nat.le_refl _) ?_
    · repeat' first | refine And.intro ?_ ?_ | exact trivial | rfl | omega | assumption | exact fun _ _ => rfl | exact fun _ _ h => h
    clear hlt hhs hs
    have hS0 : ∀ i x, i < n → x < 2 * n → 0 ≤ smat f n i x ∧ smat f n i x < p := fun i x _ _ => by
      unfold smat
      have := cf_bd (kcol f i) x
      split
      · exact this
      · split <;> omega
    have hH0 : Half p n (smat f n) 0 (fun k => (fun _ => false : Nat → Bool) k = true) (smat f n) (fun i j => smat f n i (n + j)) := by
      have := Half.start p n (smat f n) (fun i j => smat f n i (n + j)) (fun i hi j hj => by
        show smat f n i (n + j) = _
        unfold smat
        rw [if_neg (by omega)]
        by_cases c1 : i = j
        · rw [if_pos (by omega), if_pos c1]
        · rw [if_neg (by omega), if_neg c1])
      exact this.used fun k => ⟨fun h => h.elim, fun h => by cases h⟩
    refine W.rs (cxm_ok _) (by rfl) fun K hK => ?_
    conv => whnf
    refine ⟨rfl, ?_⟩
    conv => whnf
    refine ⟨oo, ?_⟩
    conv => whnf
    rw [Int.toNat_natCast]
    intro b_11 hs_11 hh_11 hf_11
    try dsimp only at hh_11 hf_11
    conv => whnf
    refine hK _ ?_
    clear hK K
    refine W.seqK fun K1 hK1 => ?_
    refine W.rs (cxm_ok _) (by rfl) fun K hK => ?_
    conv => whnf
    refine hK _ (W.block (W.invE (fun m e => ∃ (c bu : Nat) (tb : Nat → Option (List Int)) (R : Nat → Nat → Int) (U : Nat → Bool), c ≤ n ∧ MatR tb bl n (2 * n) R ∧ (∀ i x, i < n → x < 2 * n → 0 ≤ R i x ∧ R i x < p) ∧ Half p n (smat f n) c (fun k => U k = true) R (fun i j => R i (n + j)) ∧ m = n - c ∧ e = [(0, .v (.int .i64 p)), (1, .v (.ints g f.l)), (5, .v (.int .i64 n)), (6, .ownV 24 1 ba n fun j => .rf (bl j) (2 * n)), (11, .ownV 4 1 bu n fun j => vU (U j)), (12, .v (.int .i64 c)), (vt, .tab tb)]) _ _ ⟨0, b_11, tb, smat f n, fun _ => false, Nat.zero_le _, hM, hS0, hH0, rfl, rfl⟩ (by dsimp only; omega) (by repeat' first | refine And.intro ?_ ?_ | exact trivial | rfl | omega | assumption | exact .inl rfl | exact fun _ _ => rfl | exact fun _ _ h => h) ?_))
    clear hK K hM hH0 tb
    rintro m e ⟨c, bu, tb, R, U, hc, hM, hR, hH, hm, rfl⟩
    refine W.seqK fun K7 hK7 => ?_
    refine W.rs (cxm_ok _) (by rfl) fun K hK => ?_
    conv => whnf
    refine hK _ (W.cond ⟨fun h2 => ?_, fun h2 => ?_⟩) <;> clear hK K
    · have h2 : c < n := by have := of_decide_eq_true h2; omega
      refine W.skip (hK7 _ ?_)
      clear hK7 K7
      refine W.seqK fun K8 hK8 => W.block ?_
      refine W.rs (cxm_ok _) (by rfl) fun K hK => ?_
      conv => whnf
      refine hK _ ?_
      clear hK K
      refine W.seqK fun K3 hK3 => ?_
      refine W.rs (cxm_ok _) (by rfl) fun K hK => ?_
      conv => whnf
      refine hK _ (W.block (W.invE (fun m e => ∃ (i : Nat), i ≤ n ∧ (∀ j, j < i → U j = true ∨ R j c = 0) ∧ m = n - i ∧ e = [(0, .v (.int .i64 p)), (1, .v (.ints g f.l)), (5, .v (.int .i64 n)), (6, .ownV 24 1 ba n fun j => .rf (bl j) (2 * n)), (11, .ownV 4 1 bu n fun j => vU (U j)), (12, .v (.int .i64 c)), (13, .v (.int .i64 (-1))), (14, .v (.int .i64 i)), (vt, .tab tb)]) _ _ ⟨0, Nat.zero_le _, fun j hj => by omega, rfl, rfl⟩ (by dsimp only; omega) (by repeat' first | refine And.intro ?_ ?_ | exact trivial | rfl | omega | assumption | exact .inl rfl | exact fun _ _ => rfl | exact fun _ _ h => h) ?_))
      clear hK K
      rintro m2 e ⟨i, hi, hno, hm2, rfl⟩
      -- what the search tells
      have fin : ∀ (t : Int) (s : S), ((t = -1 ∧ ∀ j, j < n → U j = true ∨ R j c = 0) ∨ ∃ a : Nat, t = a ∧ a < n ∧ U a = false ∧ R a c ≠ 0) → base ≤ s.hs → coverK s.env [(0, .v (.int .i64 p)), (1, .v (.ints g f.l)), (5, .v (.int .i64 n)), (6, .ownV 24 1 ba n fun j => .rf (bl j) (2 * n)), (11, .ownV 4 1 bu n fun j => vU (U j)), (12, .v (.int .i64 c)), (13, .v (.int .i64 t)), (vt, .tab tb)] → K3 s := by
        intro t s ht h5 h6
        refine hK3 _ (W.weak (t := ⟨[(0, .v (.int .i64 p)), (1, .v (.ints g f.l)), (5, .v (.int .i64 n)), (6, .ownV 24 1 ba n fun j => .rf (bl j) (2 * n)), (11, .ownV 4 1 bu n fun j => vU (U j)), (12, .v (.int .i64 c)), (13, .v (.int .i64 t)), (vt, .tab tb)], base⟩) ⟨h5, h6⟩ (Nat.le_refl _) ?_)
        clear hK3 h5 h6 s K3 hno
        refine W.seqK fun K4 hK4 => ?_
        refine W.rs (cxm_ok _) (by rfl) fun K hK => ?_
        conv => whnf
        rcases ht with ⟨rfl, hz⟩ | ⟨a, rfl, ha, hUa, hne⟩
        · refine hK _ (W.cond ⟨fun _ => W.exit (hK8 _ ?_), fun h => absurd h (by decide)⟩)
          clear hK K hK4 K4 hK8 K8
          refine W.region (cxm_ok _) (by rfl) ?_
          conv => whnf
          refine ⟨oo, ?_⟩
          conv => whnf
          exact againA ⟨c + 1, bu, tb, R, U, by omega, hM, hR, hH.skip (fun k hk hu => by rw [(hz k hk).resolve_left hu]; simp), rfl, rfl⟩
        · refine hK _ (W.cond ⟨fun h => absurd (of_decide_eq_true h) (by omega), fun _ => W.skip (hK4 _ ?_)⟩)
          clear hK K hK4 K4
          obtain ⟨la, hla1, hla2, hla3⟩ := hM.row a ha
          have e1 : la.getD c 0 = R a c := hla3 c (by omega)
          have hrc := hR a c ha (by omega)
          have hmod : R a c % p ≠ 0 := by rw [Int.emod_eq_of_lt hrc.1 hrc.2]; exact hne
          obtain ⟨hi1, hi2, hi3⟩ := invm_spec hmod
          refine W.rs (cxm_ok _) (by rfl) fun K hK => ?_
          conv => whnf
          refine ⟨oo, ?_⟩
          conv => whnf
          rw [Int.toNat_natCast]
          refine ⟨⟨by show 0 + 1 ≤ 1; omega, rfl⟩, fun j => vU (if j = a then true else U j), by show vU (if a = a then true else U a) = setCells (vU (U a)) 0 V.tr; rw [if_pos rfl, hUa]; rfl, fun j _ hj => by show vU (if j = a then true else U j) = vU (U j); rw [if_neg hj], ?_⟩
          conv => whnf
          refine hK _ ?_
          clear hK K
          refine W.rs (cxm_ok _) (by rfl) fun K hK => ?_
          conv => whnf
          refine ⟨oo, ?_⟩
          conv => whnf
          rw [Int.toNat_natCast]
          refine ⟨oo, ?_⟩
          conv => whnf
          rw [Int.toNat_natCast]
          refine ⟨la, hla1, by omega, ?_⟩
          conv => whnf
          rw [e1]
          refine callV rfl (l02Inverse_fn p (R a c) hrc hmod) fun hs' hhs => ?_
          try dsimp only at hhs
          conv => whnf
          generalize hiv : invm p (R a c) = iv at hi1 hi2 hi3
          refine hK _ ?_
          clear hK K
          clear hla1 hla2 hla3 e1 la
          -- how often the row at a is taken from a row
          have hqf : ∃ qf : Nat → Int, qf a = 0 ∧ (∀ i, i ≠ a → qf i = R i c * iv % p) := ⟨fun i => if i = a then 0 else R i c * iv % p, if_pos rfl, fun i hi => if_neg hi⟩
          obtain ⟨qf, hq0, hq1⟩ := hqf
          have hqb : ∀ i, 0 ≤ qf i ∧ qf i < p := fun i => by
            by_cases c1 : i = a
            · rw [c1, hq0]; omega
            · rw [hq1 i c1]; exact ⟨Int.emod_nonneg _ (by omega), Int.emod_lt_of_pos _ (by omega)⟩
          have hpiv := hH.pivot (L' := fun k x => if k = a then R k x else (R k x - qf k * R a x) % p) (T' := fun k x => if k = a then R k (n + x) else (R k (n + x) - qf k * R a (n + x)) % p) (q := qf) h2 ha (by rw [hUa]; decide) hmod hq0 (fun i hi hia => by
              rw [hq1 i hia, Int.mul_comm, Int.mul_emod, Int.emod_emod_of_dvd _ (Int.dvd_refl p), ← Int.mul_emod]
              have : R a c * (R i c * iv) = R i c * (R a c * iv) := by rw [Int.mul_left_comm]
              rw [this, Int.mul_emod, hi3, Int.mul_one, Int.emod_emod_of_dvd _ (Int.dvd_refl p)])
            (fun i hi x hx => by
              show (if i = a then R i x else (R i x - qf i * R a x) % p) % p = _
              split
              · rename_i c1; rw [c1, hq0]; simp
              · exact Int.emod_emod_of_dvd _ (Int.dvd_refl p))
            (fun i hi x hx => by
              show (if i = a then R i (n + x) else (R i (n + x) - qf i * R a (n + x)) % p) % p = _
              split
              · rename_i c1; rw [c1, hq0]; simp
              · exact Int.emod_emod_of_dvd _ (Int.dvd_refl p))
          refine W.rs (cxm_ok _) (by rfl) fun K hK => ?_
          conv => whnf
          refine hK _ (W.block (W.invE (fun m e => ∃ (i : Nat) (tb : Nat → Option (List Int)), i ≤ n ∧ MatR tb bl n (2 * n) (rowsU p R qf a i) ∧ m = n - i ∧ e = [(0, .v (.int .i64 p)), (1, .v (.ints g f.l)), (5, .v (.int .i64 n)), (6, .ownV 24 1 ba n fun j => .rf (bl j) (2 * n)), (11, .ownV 4 1 bu n fun j => vU (if j = a then true else U j)), (12, .v (.int .i64 c)), (13, .v (.int .i64 a)), (15, .v (.int .i64 iv)), (16, .v (.int .i64 i)), (vt, .tab tb)]) _ _ ⟨0, tb, Nat.zero_le _, hM.congr fun k x _ _ => by unfold rowsU; rw [if_neg (by omega)], rfl, rfl⟩ (by dsimp only; omega) (by repeat' first | refine And.intro ?_ ?_ | exact trivial | rfl | omega | assumption | exact .inl rfl | exact fun _ _ => rfl | exact fun _ _ h => h) ?_))
          clear hK K hM tb
          rintro m e ⟨i, tb, hi, hM, hm, rfl⟩
          refine W.seqK fun K7 hK7 => ?_
          refine W.rs (cxm_ok _) (by rfl) fun K hK => ?_
          conv => whnf
          refine hK _ (W.cond ⟨fun h3 => ?_, fun h3 => ?_⟩) <;> clear hK K
          · have h3 : i < n := by have := of_decide_eq_true h3; omega
            refine W.skip (hK7 _ ?_)
            clear hK7 K7
            refine W.seqK fun K9 hK9 => W.block ?_
            have fin9 : ∀ (tb' : Nat → Option (List Int)) (s : S), MatR tb' bl n (2 * n) (rowsU p R qf a (i + 1)) → base ≤ s.hs → coverK s.env [(0, .v (.int .i64 p)), (1, .v (.ints g f.l)), (5, .v (.int .i64 n)), (6, .ownV 24 1 ba n fun j => .rf (bl j) (2 * n)), (11, .ownV 4 1 bu n fun j => vU (if j = a then true else U j)), (12, .v (.int .i64 c)), (13, .v (.int .i64 a)), (15, .v (.int .i64 iv)), (16, .v (.int .i64 i)), (vt, .tab tb')] → K9 s := by
              intro tb' s h4 h6 h7
              refine hK9 _ (W.weak (t := ⟨[(0, .v (.int .i64 p)), (1, .v (.ints g f.l)), (5, .v (.int .i64 n)), (6, .ownV 24 1 ba n fun j => .rf (bl j) (2 * n)), (11, .ownV 4 1 bu n fun j => vU (if j = a then true else U j)), (12, .v (.int .i64 c)), (13, .v (.int .i64 a)), (15, .v (.int .i64 iv)), (16, .v (.int .i64 i)), (vt, .tab tb')], base⟩) ⟨h6, h7⟩ (Nat.le_refl _) ?_)
              clear hK9 K9 h6 h7
              refine W.region (cxm_ok _) (by rfl) ?_
              conv => whnf
              refine ⟨oo, ?_⟩
              conv => whnf
              exact againA ⟨i + 1, tb', by omega, h4, rfl, rfl⟩
            clear hK9
            obtain ⟨la, hla1, hla2, hla3⟩ := hM.row i h3
            have e1 : la.getD c 0 = R i c := by have := hla3 c (by omega); unfold rowsU at this; rw [if_neg (by omega)] at this; exact this
            have hrci := hR i c h3 (by omega)
            refine W.seqK fun K4 hK4 => ?_
            refine W.rs (cxm_ok _) (by rfl) fun K hK => ?_
            conv => whnf
            refine ⟨fun h4 => ?_, fun h4 => ?_⟩ <;> conv => whnf
            · have h4 : i = a := by have := of_decide_eq_true h4; omega
              refine hK _ (W.condT rfl (W.exit (fin9 tb _ (hM.congr fun k x hk hx => ?_) (by dsimp only; omega) ?_)))
              · unfold rowsU
                by_cases c1 : k < i ∧ k ≠ a
                · rw [if_pos c1, if_pos (by omega)]
                · rw [if_neg c1, if_neg (by omega)]
              · clear hK K hK4 K4 fin9
                repeat' first | refine And.intro ?_ ?_ | exact trivial | rfl | omega | assumption | exact .inl rfl | exact fun _ _ => rfl | exact fun _ _ h => h
            · have h4 : i ≠ a := by have := of_decide_eq_false h4; omega
              refine ⟨oo, ?_⟩
              conv => whnf
              rw [Int.toNat_natCast]
              refine ⟨oo, ?_⟩
              conv => whnf
              rw [Int.toNat_natCast]
              refine ⟨la, hla1, by omega, ?_⟩
              conv => whnf
              rw [e1]
              refine hK _ (W.cond ⟨fun h5 => ?_, fun h5 => ?_⟩) <;> clear hK K
              · have h5 : R i c = 0 := of_decide_eq_true h5
                refine W.exit (fin9 tb _ (hM.congr fun k x hk hx => ?_) (by dsimp only; omega) ?_)
                · unfold rowsU
                  by_cases c1 : k < i ∧ k ≠ a
                  · rw [if_pos c1, if_pos (by omega)]
                  · rw [if_neg c1]
                    by_cases c2 : k = i
                    · subst c2
                      have := hR k x hk hx
                      rw [if_pos (by omega), hq1 k h4, h5, Int.zero_mul, Int.zero_emod, Int.zero_mul, Int.sub_zero, Int.emod_eq_of_lt this.1 this.2]
                    · rw [if_neg (by omega)]
                · clear hK4 K4 fin9
                  repeat' first | refine And.intro ?_ ?_ | exact trivial | rfl | omega | assumption | exact .inl rfl | exact fun _ _ => rfl | exact fun _ _ h => h
              · have h5 : ¬ R i c = 0 := of_decide_eq_false h5
                have hml : 0 ≤ R i c * iv ∧ R i c * iv ≤ 97 * 97 := ⟨Int.mul_nonneg hrci.1 hi1, Int.mul_le_mul (by omega) (by omega) hi1 (by omega)⟩
                refine W.skip (hK4 _ ?_)
                clear hK4 K4
                refine W.rs (cxm_ok _) (by rfl) fun K hK => ?_
                conv => whnf
                refine ⟨oo, ?_⟩
                conv => whnf
                rw [Int.toNat_natCast]
                refine ⟨oo, ?_⟩
                conv => whnf
                rw [Int.toNat_natCast]
                refine ⟨la, hla1, by omega, ?_⟩
                conv => whnf
                rw [e1]
                refine ⟨oo, ?_⟩
                conv => whnf
                refine ⟨by omega, ?_⟩
                conv => whnf
                rw [Int.tmod_eq_emod_of_nonneg hml.1, ← hq1 i h4]
                have hqi := hqb i
                refine hK _ ?_
                clear hK K
                refine W.rs (cxm_ok _) (by rfl) fun K hK => ?_
                conv => whnf
                refine hK _ (W.block (W.invE (fun m e => ∃ (j : Nat) (tb2 : Nat → Option (List Int)), j ≤ 2 * n ∧ MatR tb2 bl n (2 * n) (fun k x => if k = i ∧ x < j then (R i x - qf i * R a x) % p else rowsU p R qf a i k x) ∧ m = 2 * n - j ∧ e = [(0, .v (.int .i64 p)), (1, .v (.ints g f.l)), (5, .v (.int .i64 n)), (6, .ownV 24 1 ba n fun j => .rf (bl j) (2 * n)), (11, .ownV 4 1 bu n fun j => vU (if j = a then true else U j)), (12, .v (.int .i64 c)), (13, .v (.int .i64 a)), (15, .v (.int .i64 iv)), (16, .v (.int .i64 i)), (17, .v (.int .i64 (qf i))), (18, .v (.int .i64 j)), (vt, .tab tb2)]) _ _ ⟨0, tb, Nat.zero_le _, hM.congr fun k x _ _ => by show _ = if k = i ∧ x < 0 then _ else _; rw [if_neg (by omega)], rfl, rfl⟩ (by dsimp only; omega) (by repeat' first | refine And.intro ?_ ?_ | exact trivial | rfl | omega | assumption | exact .inl rfl | exact fun _ _ => rfl | exact fun _ _ h => h) ?_))
                clear hK K hM hla1 hla2 hla3 e1 la tb
                rintro m e ⟨j, tb, hj, hM, hm, rfl⟩
                refine W.seqK fun K7 hK7 => ?_
                refine W.rs (cxm_ok _) (by rfl) fun K hK => ?_
                conv => whnf
                refine ⟨oo, ?_⟩
                conv => whnf
                refine hK _ (W.cond ⟨fun h6 => ?_, fun h6 => ?_⟩) <;> clear hK K
                · have h6 : j < 2 * n := by have := of_decide_eq_true h6; omega
                  clear fin9
                  obtain ⟨la, hla1, hla2, hla3⟩ := hM.row i h3
                  obtain ⟨lb, hlb1, hlb2, hlb3⟩ := hM.row a ha
                  have e1 : la.getD j 0 = R i j := by
                    have := hla3 j h6
                    have this : cf la j = if i = i ∧ j < j then (R i j - qf i * R a j) % p else rowsU p R qf a i i j := this
                    unfold rowsU at this
                    rw [if_neg (by omega), if_neg (by omega)] at this; exact this
                  have e2 : lb.getD j 0 = R a j := by
                    have := hlb3 j h6
                    have this : cf lb j = if a = i ∧ j < j then (R i j - qf i * R a j) % p else rowsU p R qf a i a j := this
                    unfold rowsU at this
                    rw [if_neg (by omega), if_neg (by omega)] at this; exact this
                  have hr1 := hR i j h3 h6
                  have hr2 := hR a j ha h6
                  have hmq : 0 ≤ qf i * R a j ∧ qf i * R a j ≤ 97 * 97 := ⟨Int.mul_nonneg hqi.1 hr2.1, Int.mul_le_mul (by omega) (by omega) hr2.1 (by omega)⟩
                  refine W.skip (hK7 _ ?_)
                  clear hK7 K7
                  refine W.seqK fun K9 hK9 => W.block ?_
                  refine W.draw (cxm_ok _) follows (by rfl) ?_
                  conv => whnf
                  refine ⟨oo, ?_⟩
                  conv => whnf
                  refine ⟨oo, ?_⟩
                  conv => whnf
                  refine ⟨oo, ?_⟩
                  conv => whnf
                  rw [Int.toNat_natCast, Int.toNat_natCast]
                  refine ⟨la, hla1, by omega, ?_⟩
                  conv => whnf
                  refine ⟨oo, ?_⟩
                  conv => whnf
                  refine ⟨oo, ?_⟩
                  conv => whnf
                  rw [Int.toNat_natCast]
                  refine ⟨lb, hlb1, by omega, ?_⟩
                  conv => whnf
                  rw [Int.toNat_natCast, e1, e2]
                  refine ⟨oo, ?_⟩
                  conv => whnf
                  refine ⟨oo, ?_⟩
                  conv => whnf
                  refine ⟨_, cxmF (l01Mod_fn _ p (by omega) (by omega) (by omega)), ?_⟩
                  conv => whnf
                  refine ⟨oo, ?_⟩
                  conv => whnf
                  refine ⟨la, hla1, by omega, ?_⟩
                  conv => whnf
                  refine hK9 _ ?_
                  clear hK9 K9
                  refine W.region (cxm_ok _) (by rfl) ?_
                  conv => whnf
                  refine ⟨oo, ?_⟩
                  conv => whnf
                  have h7 := (hM.store h3 h6 hla1 ((R i j - qf i * R a j) % p)).congr (R' := fun k x => if k = i ∧ x < j + 1 then (R i x - qf i * R a x) % p else rowsU p R qf a i k x) fun k x hk hx => by
                    show (if k = i ∧ x = j then (R i j - qf i * R a j) % p else if k = i ∧ x < j then (R i x - qf i * R a x) % p else rowsU p R qf a i k x) = _
                    by_cases c1 : k = i
                    · by_cases c2 : x = j
                      · subst c2; rw [if_pos ⟨c1, rfl⟩, if_pos ⟨c1, by omega⟩]
                      · by_cases c3 : x < j
                        · rw [if_neg (by omega), if_pos ⟨c1, c3⟩, if_pos ⟨c1, by omega⟩]
                        · rw [if_neg (by omega), if_neg (by omega), if_neg (by omega)]
                    · rw [if_neg (by omega), if_neg (by omega), if_neg (by omega)]
                  exact againA ⟨j + 1, _, by omega, h7, rfl, rfl⟩
                · have h6 : j = 2 * n := by have := of_decide_eq_false h6; omega
                  subst h6
                  refine W.exit (fin9 tb _ (hM.congr fun k x hk hx => ?_) (by dsimp only; omega) ?_)
                  · show (if k = i ∧ x < 2 * n then (R i x - qf i * R a x) % p else rowsU p R qf a i k x) = _
                    by_cases c1 : k = i
                    · rw [if_pos ⟨c1, hx⟩]
                      unfold rowsU
                      rw [if_pos (by omega), c1]
                    · rw [if_neg (by omega)]
                      unfold rowsU
                      by_cases c2 : k < i ∧ k ≠ a
                      · rw [if_pos c2, if_pos (by omega)]
                      · rw [if_neg c2, if_neg (by omega)]
                  · clear fin9 hK7 K7
                    repeat' first | refine And.intro ?_ ?_ | exact trivial | rfl | omega | assumption | exact .inl rfl | exact fun _ _ => rfl | exact fun _ _ h => h
          · obtain rfl : n = i := by have := of_decide_eq_false h3; omega
            have hM2 := hM.congr (R' := fun k x => if k = a then R k x else (R k x - qf k * R a x) % p) fun k x hk hx => by
              show rowsU p R qf a n k x = if k = a then R k x else (R k x - qf k * R a x) % p
              unfold rowsU
              by_cases c1 : k = a
              · rw [if_neg (by omega), if_pos c1]
              · rw [if_pos ⟨hk, c1⟩, if_neg c1]
            have hR2 : ∀ i x, i < n → x < 2 * n → 0 ≤ (if i = a then R i x else (R i x - qf i * R a x) % p) ∧ (if i = a then R i x else (R i x - qf i * R a x) % p) < p := fun i x hi hx => by
              by_cases c1 : i = a
              · rw [if_pos c1]; exact hR i x hi hx
              · rw [if_neg c1]; exact ⟨Int.emod_nonneg _ (by omega), Int.emod_lt_of_pos _ (by omega)⟩
            have hH2 := hpiv.used (u' := fun k => (if k = a then true else U k) = true) fun k => by
              by_cases c1 : k = a
              · simp [c1]
              · simp [c1]
            refine W.exit (hK8 _ ?_)
            clear hK7 K7 hK8 K8
            refine W.region (cxm_ok _) (by rfl) ?_
            conv => whnf
            refine ⟨oo, ?_⟩
            conv => whnf
            exact againA ⟨c + 1, bu, tb, _, fun j => if j = a then true else U j, by omega, hM2, hR2, hH2, rfl, rfl⟩
      clear hK3
      refine W.seqK fun K7 hK7 => ?_
      refine W.rs (cxm_ok _) (by rfl) fun K hK => ?_
      conv => whnf
      refine hK _ (W.cond ⟨fun h3 => ?_, fun h3 => ?_⟩) <;> clear hK K
      · have h3 : i < n := by have := of_decide_eq_true h3; omega
        obtain ⟨la, hla1, hla2, hla3⟩ := hM.row i h3
        refine W.skip (hK7 _ ?_)
        clear hK7 K7
        refine W.seqK fun K9 hK9 => W.block ?_
        -- the round's end
        have fin9 : (U i = true ∨ R i c = 0) → ∀ s : S, base ≤ s.hs → coverK s.env [(0, .v (.int .i64 p)), (1, .v (.ints g f.l)), (5, .v (.int .i64 n)), (6, .ownV 24 1 ba n fun j => .rf (bl j) (2 * n)), (11, .ownV 4 1 bu n fun j => vU (U j)), (12, .v (.int .i64 c)), (13, .v (.int .i64 (-1))), (14, .v (.int .i64 i)), (vt, .tab tb)] → K9 s := by
          intro h5 s h6 h7
          refine hK9 _ (W.weak (t := ⟨[(0, .v (.int .i64 p)), (1, .v (.ints g f.l)), (5, .v (.int .i64 n)), (6, .ownV 24 1 ba n fun j => .rf (bl j) (2 * n)), (11, .ownV 4 1 bu n fun j => vU (U j)), (12, .v (.int .i64 c)), (13, .v (.int .i64 (-1))), (14, .v (.int .i64 i)), (vt, .tab tb)], base⟩) ⟨h6, h7⟩ (Nat.le_refl _) ?_)
          clear hK9 K9 h6 h7
          refine W.region (cxm_ok _) (by rfl) ?_
          conv => whnf
          refine ⟨oo, ?_⟩
          conv => whnf
          have h8 : ∀ j, j < i + 1 → U j = true ∨ R j c = 0 := fun j hj => by
            by_cases hji : j = i
            · subst hji; exact h5
            · exact hno j (by omega)
          exact againA ⟨i + 1, by omega, h8, rfl, rfl⟩
        clear hK9
        refine W.rs (cxm_ok _) (by rfl) fun K hK => ?_
        conv => whnf
        refine ⟨oo, ?_⟩
        conv => whnf
        have eU : (fun j => vU (U j)) (i : Int).toNat = vU (U i) := by rw [Int.toNat_natCast]
        rw [eU]
        cases hU : U i
        · conv => whnf
          refine ⟨fun _ => ?_, fun h => absurd h (by decide)⟩
          conv => whnf
          refine ⟨oo, ?_⟩
          conv => whnf
          rw [Int.toNat_natCast]
          refine ⟨oo, ?_⟩
          conv => whnf
          rw [Int.toNat_natCast]
          refine ⟨la, hla1, by omega, ?_⟩
          conv => whnf
          have e1 : la.getD c 0 = R i c := hla3 c (by omega)
          rw [e1]
          refine hK _ (W.cond ⟨fun h4 => ?_, fun h4 => ?_⟩) <;> clear hK K
          · have h4 : R i c ≠ 0 := of_decide_eq_true h4
            clear fin9
            refine W.rs (cxm_ok _) (by rfl) fun K hK => ?_
            conv => whnf
            refine hK _ ?_
            clear hK K
            refine W.exit (fin i _ (.inr ⟨i, rfl, h3, hU, h4⟩) (by dsimp only; omega) ?_)
            clear fin
            exact cvr
          · have h4 : ¬ R i c ≠ 0 := of_decide_eq_false h4
            refine W.skip (fin9 (.inr (by omega)) _ (by dsimp only; omega) ?_)
            clear fin9 fin
            exact cvr
        · conv => whnf
          refine hK _ (W.condF rfl (W.skip (fin9 (.inl hU) _ (by dsimp only; omega) ?_)))
          clear hK K fin9 fin
          exact cvr
      · obtain rfl : n = i := by have := of_decide_eq_false h3; omega
        refine W.exit (fin (-1) _ (.inl ⟨rfl, hno⟩) (by dsimp only; omega) ?_)
        clear fin hK7 K7
        exact cvr
    · obtain rfl : n = c := by have := of_decide_eq_false h2; omega
      refine W.exit (hK1 _ ?_)
      clear hK7 K7 hK1 K1
      have hrows : ∃ rows : Nat → List Int, ∀ j, j < n → tb (bl j) = some (rows j) ∧ (rows j).length = 2 * n ∧ ∀ x, x < 2 * n → cf (rows j) x = R j x := ⟨fun j => (tb (bl j)).getD [], fun j hj => by
        obtain ⟨l, h3, h4, h5⟩ := hM.row j hj
        exact ⟨by simp only [h3, Option.getD_some], by show ((tb (bl j)).getD []).length = _; rw [h3]; exact h4, by show ∀ x, x < 2 * n → cf ((tb (bl j)).getD []) x = _; rw [h3]; exact h5⟩⟩
      obtain ⟨rows, hrows⟩ := hrows
      refine W.thaw (i := 6) bl rows rfl rfl (fun j hj => ⟨by rw [(hrows j hj).2.1], (hrows j hj).1⟩) ?_
      refine W.weak (t := ⟨[(0, .v (.int .i64 p)), (1, .v (.ints g f.l)), (5, .v (.int .i64 n)), (6, .ownV 24 1 ba n fun j => .ints none (rows j)), (11, .ownV 4 1 bu n fun j => vU (U j)), (vt, .tab fun _ => none)], base⟩) ⟨by dsimp only; omega, by repeat' first | refine And.intro ?_ ?_ | exact trivial | rfl | omega | assumption | exact fun _ _ => rfl | exact fun _ _ h => h⟩ (Nat.le_refl _) ?_
      have hvk : ∀ k, k < n → trimZ ((rows k).drop n) = (of p (mkL n fun j => R k (n + j))).l := fun k hk => by
        refine eq_of_cf (trimZ_last _) (of p _).ok.2 fun j => ?_
        rw [cf_trimZ, cf_drop, cf_of, cf_mkL]
        by_cases c1 : j < n
        · have := hR k (n + j) hk (by omega)
          rw [if_pos c1, (hrows k hk).2.2 _ (by omega), Int.emod_eq_of_lt this.1 this.2]
        · rw [if_neg c1, cf_ge (by have := (hrows k hk).2.1; omega)]; simp
      have hvd : ∀ k, dg (of p (mkL n fun j => R k (n + j))) ≤ n := fun k => by have := dg_of_le (p := p) (mkL n fun j => R k (n + j)); rw [mkL_length] at this; exact this
      have hsm : ∀ (w : Nat → Int) x, x < n → sumN (fun j => w j * smat f n j x) n = sumN (fun j => cf (kcol f j).l x * w j) n := fun w x hx => sumN_congr fun j _ => by
        unfold smat
        rw [if_pos hx, Int.mul_comm]
      have hvb : ∀ k, k < n → U k = false → Ber f (of p (mkL n fun j => R k (n + j))) := fun k hk hu => by
        rw [ber_iff hf (hvd k)]
        intro x hx
        rw [← hsm _ x hx]
        have h3 := hH.free hk (by rw [hu]; decide) x hx
        rw [← h3]
        refine sumN_mod p fun j hj => ?_
        rw [cf_of, cf_mkL, if_pos hj, Int.mul_emod, Int.emod_emod_of_dvd _ (Int.dvd_refl p), ← Int.mul_emod]
      have hend : (∀ k, k < n → U k = true ∨ dg (of p (mkL n fun j => R k (n + j))) ≤ 1) → ∀ w : Poly p, dg w ≤ n → Ber f w → dg w ≤ 1 := fun h3 w hw hb => by
        refine dg_le fun j hj => ?_
        by_cases c1 : j < n
        · have h4 := hH.all (w := cf w.l) (fun x hx => by rw [hsm _ x hx]; exact (ber_iff hf hw).1 hb x hx) c1 (fun k hk hu => by
            have h5 := (h3 k hk).resolve_left hu
            have h6 : cf (of p (mkL n fun j => R k (n + j))).l j = 0 := cf_dg (by omega)
            rw [cf_of, cf_mkL, if_pos c1] at h6; exact h6)
          rw [mod_cf] at h4; exact h4
        · exact cf_dg (by omega)
      refine W.seqK fun K1 hK1 => ?_
      refine W.rs (cxm_ok _) (by rfl) fun K hK => ?_
      conv => whnf
      refine hK _ (W.block (W.invE (fun m e => ∃ (i : Nat), i ≤ n ∧ (∀ k, k < i → U k = true ∨ dg (of p (mkL n fun j => R k (n + j))) ≤ 1) ∧ m = n - i ∧ e = [(0, .v (.int .i64 p)), (5, .v (.int .i64 n)), (6, .ownV 24 1 ba n fun j => .ints none (rows j)), (11, .ownV 4 1 bu n fun j => vU (U j)), (19, .v (.int .i64 i)), (vt, .tab fun _ => none)]) _ _ ⟨0, Nat.zero_le _, fun j hj => by omega, rfl, rfl⟩ (by dsimp only; omega) (by repeat' first | refine And.intro ?_ ?_ | exact trivial | rfl | omega | assumption | exact .inl rfl | exact fun _ _ => rfl | exact fun _ _ h => h) ?_))
      clear hK K
      rintro m2 e ⟨i, hi, hno, hm2, rfl⟩
      refine W.seqK fun K7 hK7 => ?_
      refine W.rs (cxm_ok _) (by rfl) fun K hK => ?_
      conv => whnf
      refine hK _ (W.cond ⟨fun h3 => ?_, fun h3 => ?_⟩) <;> clear hK K
      · have h3 : i < n := by have := of_decide_eq_true h3; omega
        refine W.skip (hK7 _ ?_)
        clear hK7 K7
        refine W.seqK fun K9 hK9 => W.block ?_
        refine W.rs (cxm_ok _) (by rfl) fun K hK => ?_
        conv => whnf
        refine ⟨oo, ?_⟩
        conv => whnf
        rw [Int.toNat_natCast]
        have hrl := (hrows i h3).2.1
        refine ⟨⟨by omega, by omega, by omega⟩, ?_⟩
        conv => whnf
        rw [Int.toNat_natCast, Int.toNat_natCast, List.take_length]
        refine callI rfl (l06Trim_fn none ((rows i).drop n) (by rw [List.length_drop]; omega)) fun hs_20 b_20 hh_20 hf_20 => ?_
        try dsimp only at hh_20 hf_20
        conv => whnf
        rw [hvk i h3]
        have hber := hvb i h3
        have hvd' := hvd i
        generalize hv : of p (mkL n fun j => R i (n + j)) = v at hber hvd'
        have hvl : v.l.length = dg v := rfl
        refine hK _ ?_
        clear hK K
        -- the round's end
        have fin9 : (U i = true ∨ dg v ≤ 1) → ∀ s : S, base ≤ s.hs → coverK s.env [(0, .v (.int .i64 p)), (5, .v (.int .i64 n)), (6, .ownV 24 1 ba n fun j => .ints none (rows j)), (11, .ownV 4 1 bu n fun j => vU (U j)), (19, .v (.int .i64 i)), (vt, .tab fun _ => none)] → K9 s := by
          intro h5 s h6 h7
          refine hK9 _ (W.weak (t := ⟨[(0, .v (.int .i64 p)), (5, .v (.int .i64 n)), (6, .ownV 24 1 ba n fun j => .ints none (rows j)), (11, .ownV 4 1 bu n fun j => vU (U j)), (19, .v (.int .i64 i)), (vt, .tab fun _ => none)], base⟩) ⟨h6, h7⟩ (Nat.le_refl _) ?_)
          clear hK9 K9 h6 h7
          refine W.region (cxm_ok _) (by rfl) ?_
          conv => whnf
          refine ⟨oo, ?_⟩
          conv => whnf
          have h8 : ∀ k, k < i + 1 → U k = true ∨ dg (of p (mkL n fun j => R k (n + j))) ≤ 1 := fun k hk => by
            by_cases c1 : k = i
            · subst c1; rw [hv]; exact h5
            · exact hno k (by omega)
          exact againA ⟨i + 1, by omega, h8, rfl, rfl⟩
        clear hK9
        refine W.rs (cxm_ok _) (by rfl) fun K hK => ?_
        conv => whnf
        refine ⟨oo, ?_⟩
        conv => whnf
        have eU : (fun j => vU (U j)) (i : Int).toNat = vU (U i) := by rw [Int.toNat_natCast]
        rw [eU]
        cases hU : U i
        · conv => whnf
          refine ⟨fun _ => ?_, fun h => absurd h (by decide)⟩
          conv => whnf
          rw [hvl]
          refine hK _ (W.cond ⟨fun h4 => ?_, fun h4 => ?_⟩) <;> clear hK K
          · have h4 := of_decide_eq_true h4
            clear fin9
            refine W.weak (t := ⟨[(20, .v (.ints none v.l)), (vt, .tab fun _ => none)], base⟩) ⟨by dsimp only; omega, by repeat' first | refine And.intro ?_ ?_ | exact trivial | rfl | omega | assumption | exact .inl rfl | exact fun _ _ h => h⟩ (Nat.le_refl _) ?_
            refine W.rs (cxm_ok _) (by rfl) fun K hK => ?_
            conv => whnf
            refine hK _ ?_
            clear hK K
            refine W.ret ?_
            conv => whnf
            exact ⟨.v (.ints none v.l), ⟨rfl, rfl⟩, trivial, v, rfl, .inl ⟨by omega, hvd', hber hU⟩⟩
          · have h4 := of_decide_eq_false h4
            refine W.skip (fin9 (.inr (by omega)) _ (by dsimp only; omega) ?_)
            clear fin9
            exact cvr
        · conv => whnf
          refine hK _ (W.condF rfl (W.skip (fin9 (.inl hU) _ (by dsimp only; omega) ?_)))
          clear hK K fin9
          exact cvr
      · obtain rfl : n = i := by have := of_decide_eq_false h3; omega
        refine W.exit (hK1 _ ?_)
        clear hK7 K7 hK1 K1
        refine W.rs (cxm_ok _) (by rfl) fun K hK => ?_
        conv => whnf
        refine hK _ ?_
        clear hK K
        refine W.ret ?_
        conv => whnf
        exact ⟨.v (.ints none (0 : Poly p).l), rfl, trivial, 0, rfl, .inr ⟨rfl, hend hno⟩⟩

open Go Go.RowKit Go.Proofs Poly
set_option maxRecDepth 100000
set_option maxHeartbeats 8000000

theorem getD_apl {α : Type} {d : α} {L M : List α} {j : Nat} (h : j < L.length) : (L ++ M).getD j d = L.getD j d := by
 simp [List.getD_eq_getElem?_getD, List.getElem?_append, h]
theorem getD_apr {α : Type} {d : α} {L M : List α} {j : Nat} : (L ++ M).getD (L.length + j) d = M.getD j d := by
 rw [List.getD_eq_getElem?_getD, List.getD_eq_getElem?_getD, List.getElem?_append_right (by omega), Nat.add_sub_cancel_left]

theorem l09Split_fn (p : Int) [SP p] : ∀ (d : Nat) (f : Poly p), dg f ≤ d → d ≤ 400 → Mon f → Sqf f → 2 ≤ dg f → Fn Tryz.prog 376 [.int .i64 p, .ints none f.l] (fun _ _ z => ∃ P : List (Poly p), Irrs f P ∧ z = .v (vPs P))
 | 0, f, hd, _, _, _, h2 => absurd h2 (by omega)
 | d + 1, f, hd, hd4, hm, hs, h2 => by
  have ih := l09Split_fn p d
  have hp := Pr.two (p := p)
  have hp2 := SP.le (p := p)
  obtain ⟨n, hf⟩ : ∃ n, dg f = n + 1 := ⟨dg f - 1, by omega⟩
  refine fn_of (cx_ok [0, 1, 4, 5, 6, 7, 8, 14, 20, 34]) Tryz.func376 rfl (by decide) Tryz.ntmps376 (Nat.le_of_ble_eq_true rfl) fun base => ?_
  refine wrs fun K hK => ?_
  conv => whnf
  refine hK _ ?_
  clear hK K
  refine wrs fun K hK => ?_
  conv => whnf
  refine callP rfl (l09Kernel_fn p none f n hf (by omega) (by omega)) ?_
  rintro lo hi hi' z hl1 hl2 hl3 ⟨v, rfl, hv⟩ _
  try dsimp only at hl1 hl2
  have hvl : v.l.length = dg v := rfl
  conv => whnf
  refine hK _ ?_
  clear hK K
  refine W.seqK fun K1 hK1 => ?_
  refine wrs fun K hK => ?_
  conv => whnf
  rw [hvl]
  refine hK _ (W.cond ⟨fun h => ?_, fun h => ?_⟩) <;> clear hK K
  ·have h := of_decide_eq_true h
   obtain ⟨rfl, hv2⟩ := hv.resolve_left (by omega)
   have hirr : Irr f := part_irr hm.1 hs (dvd_refl f) h2 fun w hw hb => ⟨cf w.l 0, by
    have := is_con (hv2 w (by omega) hb)
    rw [← this]
    have e : w - w = 0 := by exact ring [w] (by rfl)
    rw [e]; exact dvd_zero f⟩
   have hP : Irrs f [f] := ⟨by simp, fun q => by
    rw [List.mem_singleton]
    exact ⟨fun e => by rw [e]; exact ⟨hirr, hm, dvd_refl f⟩, fun ⟨a, b, c⟩ => irr_eq a hirr b hm c⟩⟩
   refine wrs fun K hK => ?_
   conv => whnf
   refine ⟨⟨rfl, by decide, fun x hx => by simp at hx; subst hx; exact ⟨rfl, rfl⟩⟩, ?_⟩
   conv => whnf
   intro b_2 hs_2 hh_2 hf_2
   try dsimp only at hh_2 hf_2
   conv => whnf
   refine hK _ ?_
   clear hK K
   refine W.ret ?_
   conv => whnf
   exact ⟨.v (vPs [f]), ⟨.inl rfl, rfl, rfl, fun i hi => by obtain rfl : i = 0 := (by omega); rfl⟩, ⟨trivial, fun _ _ => trivial⟩, [f], hP, rfl⟩
  ·have h := of_decide_eq_false h
   obtain ⟨hv1, hv2, hv3⟩ := hv.resolve_right fun e => by have h9 : dg v = 0 := (by rw [e.1]; exact dg_zero); omega
   refine W.skip (hK1 _ ?_)
   clear hK1 K1
   refine wrs fun K hK => ?_
   conv => whnf
   refine ⟨⟨rfl, by decide, fun x hx => by simp at hx⟩, ?_⟩
   conv => whnf
   intro b_2 hs_2 hh_2 hf_2
   try dsimp only at hh_2 hf_2
   conv => whnf
   refine hK _ ?_
   clear hK K
   refine W.seqK fun K1 hK1 => ?_
   refine wrs fun K hK => ?_
   conv => whnf
   refine hK _ (W.block (W.invE (fun m e => ∃ (s bO : Nat) (O : List (Poly p)), s ≤ p.toNat ∧ O.length ≤ s * 400 ∧ IrrC f v s O ∧ m = p.toNat - s ∧ e = [(0, .v (.int .i64 p)), (1, .v (.ints none f.l)), (5, .v (.ints none v.l)), (6, .ownV 24 1 bO O.length fun j => .ints none (O.getD j 0).l), (7, .v (.int .i64 s))]) _ _ ⟨0, b_2, [], Nat.zero_le _, by simp, IrrC.start f v, rfl, rfl⟩ (by dsimp only; omega) (by repeat' first | refine And.intro ?_ ?_ | exact trivial | rfl | omega | assumption | exact .inl rfl | exact fun _ _ => rfl | exact fun i hi => absurd hi (by omega)) ?_))
   clear hK K
   rintro m e ⟨s, bO, O, hs1, hOl, hO, hm', rfl⟩
   refine W.seqK fun K7 hK7 => ?_
   refine wrs fun K hK => ?_
   conv => whnf
   refine hK _ (W.cond ⟨fun h3 => ?_, fun h3 => ?_⟩) <;> clear hK K
   ·have h3 : (s : Int) < p := of_decide_eq_true h3
    have hless := cut_less hf hv1 hv2 (s : Int)
    have hgm := gcd_mon (f := f) (g := v - con p (s : Int)) (.inl hm.1)
    have hgs := hs.dvd (gcd_left f (v - con p (s : Int)))
    have hst := fun hd P hP => hO.step (P := P) h3 hd hP
    have hsk := hO.skip
    have hsub : dg (v - con p (s : Int)) ≤ 1000 := by
     have := dg_sub v (con p (s : Int))
     have := con_dg (p := p) (s : Int)
     omega
    have hb1 : Bd 97 [(s : Int)] := fun i => by
     cases i with
     | zero => rw [cf_cons_zero]; omega
     | succ i => rw [cf_cons_succ, cf_nil]; omega
    refine W.skip (hK7 _ ?_)
    clear hK7 K7
    refine W.seqK fun K8 hK8 => W.block ?_
    refine wrs fun K hK => ?_
    conv => whnf
    refine ⟨⟨rfl, by decide⟩, ?_⟩
    conv => whnf
    intro b_3 hs_3 hh_3 hf_3
    try dsimp only at hh_3 hf_3
    conv => whnf
    refine callI rfl (l06Add_fn none _ v.l [(s : Int)] (-1) (by omega) ((l_bd v).le (by omega)) (hb1.le (by omega)) (by omega) (by simp)) fun hs_4 b_4 hh_4 hf_4 => ?_
    try dsimp only at hh_4 hf_4
    conv => whnf
    have esm : smulL (-1) [(s : Int)] = [-(s : Int)] := by simp [smulL]
    rw [esm]
    have hb2 : Bd 97 [-(s : Int)] := fun i => by
     cases i with
     | zero => rw [cf_cons_zero]; omega
     | succ i => rw [cf_cons_succ, cf_nil]; omega
    refine callI rfl (l08Reduce_fn p (by omega) (by omega) _ (trimZ (addL v.l [-(s : Int)])) (Bd.trim fun i => by rw [cf_addL]; have := l_bd v i; have := hb2 i; omega) (Nat.le_trans (trimZ_length _) (by rw [addL, mkL_length]; simp; omega))) fun hs_5 b_5 hh_5 hf_5 => ?_
    try dsimp only at hh_5 hf_5
    conv => whnf
    rw [sub_con_l]
    refine callI rfl (l08Common_fn p none _ f (v - con p (s : Int)) (by omega) hsub) fun hs_6 b_6 hh_6 hf_6 => ?_
    try dsimp only at hh_6 hf_6
    conv => whnf
    generalize gcd f (v - con p (s : Int)) = w at hless hgm hgs hst hsk
    have hwl : w.l.length = dg w := rfl
    refine hK _ ?_
    clear hK K
    have fin9 : ∀ (O' : List (Poly p)) (bO' : Nat) (s' : S), IrrC f v (s + 1) O' → O'.length ≤ (s + 1) * 400 → base ≤ s'.hs → coverK s'.env [(0, .v (.int .i64 p)), (1, .v (.ints none f.l)), (5, .v (.ints none v.l)), (6, .ownV 24 1 bO' O'.length fun j => .ints none (O'.getD j 0).l), (7, .v (.int .i64 s))] → K8 s' := by
     intro O' bO' s' h5 h55 h6 h7
     refine hK8 _ (W.weak (t := ⟨[(0, .v (.int .i64 p)), (1, .v (.ints none f.l)), (5, .v (.ints none v.l)), (6, .ownV 24 1 bO' O'.length fun j => .ints none (O'.getD j 0).l), (7, .v (.int .i64 s))], base⟩) ⟨h6, h7⟩ (Nat.le_refl _) ?_)
     clear hK8 K8 h6 h7
     refine wrg ?_
     conv => whnf
     refine ⟨oo, ?_⟩
     conv => whnf
     exact againA ⟨s + 1, bO', O', by omega, h55, h5, rfl, rfl⟩
    clear hK8
    refine wrs fun K hK => ?_
    conv => whnf
    rw [hwl]
    refine hK _ (W.cond ⟨fun h4 => ?_, fun h4 => ?_⟩) <;> clear hK K
    ·have h4 := of_decide_eq_true h4
     refine W.weak (t := ⟨[(0, .v (.int .i64 p)), (1, .v (.ints none f.l)), (5, .v (.ints none v.l)), (6, .ownV 24 1 bO O.length fun j => .ints none (O.getD j 0).l), (7, .v (.int .i64 s)), (8, .v (.ints none w.l))], base⟩) ⟨by dsimp only; omega, by repeat' first | refine And.intro ?_ ?_ | exact trivial | rfl | omega | assumption | exact .inl rfl | exact fun _ _ => rfl⟩ (Nat.le_refl _) ?_
     refine wrg ?_
     conv => whnf
     refine callP rfl (ih w (by omega) (by omega) hgm hgs (by omega)) ?_
     rintro lo hi hi' z hl1 hl2 hl3 ⟨P, hP, rfl⟩ _
     try dsimp only at hl1 hl2
     conv => whnf
     have hPf := hP.few hgm.1
     refine ⟨by omega, ?_⟩
     conv => whnf
     refine ⟨fun j => .ints none ((O ++ P).getD j 0).l, fun i hi => congrArg (fun q : Poly p => V.ints none q.l) (getD_apl hi), fun j hj => congrArg (fun q : Poly p => V.ints none q.l) getD_apr, ?_⟩
     intro b_7 hs_7 hh_7 hf_7
     try dsimp only at hh_7 hf_7
     conv => whnf
     refine fin9 (O ++ P) b_7 _ (hst (by omega) P hP) (by rw [List.length_append]; omega) (by dsimp only; omega) ?_
     clear fin9
     rw [List.length_append]
     exact cvr
    ·have h4 := of_decide_eq_false h4
     refine W.skip (fin9 O bO _ (hsk (by omega)) (by omega) (by dsimp only; omega) ?_)
     clear fin9
     exact cvr
   ·obtain rfl : s = p.toNat := by have := of_decide_eq_false h3; omega
    refine W.exit (hK1 _ ?_)
    clear hK7 K7 hK1 K1
    refine wrs fun K hK => ?_
    conv => whnf
    refine hK _ ?_
    clear hK K
    refine W.ret ?_
    conv => whnf
    exact ⟨.v (vPs O), ⟨rfl, rfl, rfl, fun _ _ => rfl⟩, ⟨trivial, fun _ _ => trivial⟩, O, hO.fin hm h2 hv3, rfl⟩

open Go Go.RowKit Go.Proofs Poly
set_option maxRecDepth 100000
set_option maxHeartbeats 8000000

theorem l09Put_fn (p : Int) [SP p] (g : Option Nat) (G : List (Poly p × Nat)) (f : Poly p) (n : Nat) (hG : G.length ≤ 1000) (hGd : ∀ x ∈ G, dg x.1 ≤ 1000000) (hf : dg f ≤ 1000000) :
  Fn Tryz.prog 377 [.vals g 2 G.length fun j => vF (G.getD j (0, 0)), .ints none f.l, .int .i64 n] (fun _ _ z => ∃ k b, k ≤ G.length ∧ (∀ j, j < k → ltP (G.getD j (0, 0)).1 f) ∧ (k = G.length ∨ ¬ ltP (G.getD k (0, 0)).1 f) ∧
   z = .ownV 68 2 b (G.length + 1) fun j => vF ((putAt G k (f, n)).getD j (0, 0))) := by
 refine fn_of (cx_ok [0, 1, 2, 6, 7, 21]) Tryz.func377 rfl (by decide) Tryz.ntmps377 (Nat.le_of_ble_eq_true rfl) fun base => ?_
 refine wrs fun K hK => ?_
 conv => whnf
 refine hK _ ?_
 clear hK K
 refine wrs fun K hK => ?_
 conv => whnf
 refine hK _ ?_
 clear hK K
 refine W.seqK fun K1 hK1 => W.block (W.invA (fun m e => ∃ k, k ≤ G.length ∧ (∀ j, j < k → ltP (G.getD j (0, 0)).1 f) ∧ m = G.length - k ∧ e = [(0, .v (.vals g 2 G.length fun j => vF (G.getD j (0, 0)))), (1, .v (.ints none f.l)), (2, .v (.int .i64 n)), (7, .v (.int .i64 k))]) ⟨0, Nat.zero_le _, fun j hj => by omega, rfl, rfl⟩ ?_)
 rintro m e ⟨k, h1, h2, hm, rfl⟩
 have fin : ∀ s : S, base ≤ s.hs → (k = G.length ∨ ¬ ltP (G.getD k (0, 0)).1 f) → coverK s.env [(0, .v (.vals g 2 G.length fun j => vF (G.getD j (0, 0)))), (1, .v (.ints none f.l)), (2, .v (.int .i64 n)), (7, .v (.int .i64 k))] → K1 s := by
  intro s h5 h6 h7
  refine hK1 _ (W.weak (t := ⟨[(0, .v (.vals g 2 G.length fun j => vF (G.getD j (0, 0)))), (1, .v (.ints none f.l)), (2, .v (.int .i64 n)), (7, .v (.int .i64 k))], base⟩) ⟨h5, h7⟩ (Nat.le_refl _) ?_)
  clear hK1 K1 h5 h7
  refine W.seqK fun K2 hK2 => W.sch follows ?_
  refine wt 1 ?_
  conv => whnf
  refine wt 2 ?_
  conv => whnf
  refine wt 3 ?_
  conv => whnf
  refine ⟨⟨by omega, by omega, by omega⟩, ?_⟩
  conv => whnf
  refine wt 5 ?_
  conv => whnf
  refine wt 6 ?_
  conv => whnf
  refine wt 7 ?_
  conv => whnf
  refine wt 10 ?_
  conv => whnf
  refine wt 11 ?_
  conv => whnf
  refine wt 12 ?_
  conv => whnf
  refine ⟨⟨by omega, by omega, by omega⟩, ?_⟩
  conv => whnf
  refine Wany.all (cx_ok []) (by rfl) (rs := [0, 8]) (by kernel_rfl) (by decide) ?_
  intro i hi
  simp only [List.mem_cons, List.not_mem_nil, or_false] at hi
  rcases hi with rfl | rfl <;> refine ⟨_, by rfl, by rfl, ?_⟩ <;> conv => whnf
  ·refine ⟨⟨rfl, by decide, fun x hx => by simp at hx⟩, ?_⟩
   conv => whnf
   intro b_0 hs_0 hh_0 hf_0
   try dsimp only at hh_0 hf_0
   conv => whnf
   refine Wany.all (cx_ok []) (by rfl) (rs := [4, 8]) (by kernel_rfl) (by decide) ?_
   intro i hi
   simp only [List.mem_cons, List.not_mem_nil, or_false] at hi
   rcases hi with rfl | rfl <;> refine ⟨_, by rfl, by rfl, ?_⟩ <;> conv => whnf
   ·refine ⟨by omega, ?_⟩
    conv => whnf
    refine ⟨fun j => vF ((putAt G k (f, n)).getD j (0, 0)), fun i hi => absurd hi (by omega), fun j hj => congrArg vF ((congrArg (fun i => (putAt G k (f, n)).getD i (0, 0)) (by omega : 0 + j = j)).trans ((putAt_lt h1 (by omega)).trans (congrArg (fun i => G.getD i (0, 0)) (by omega)))), ?_⟩
    intro b_4 hs_4 hh_4 hf_4
    try dsimp only at hh_4 hf_4
    conv => whnf
    refine Wany.all (cx_ok []) (by rfl) (rs := [8]) (by kernel_rfl) (by decide) ?_
    intro i hi
    simp only [List.mem_cons, List.not_mem_nil, or_false] at hi
    rcases hi with rfl <;> refine ⟨_, by rfl, by rfl, ?_⟩ <;> conv => whnf
    refine ⟨⟨rfl, by decide, fun x hx => by simp at hx; subst hx; exact ⟨rfl, rfl⟩⟩, ?_⟩
    conv => whnf
    intro b_8 hs_8 hh_8 hf_8
    try dsimp only at hh_8 hf_8
    conv => whnf
    refine Wany.all (cx_ok []) (by rfl) (rs := [9]) (by kernel_rfl) (by decide) ?_
    intro i hi
    simp only [List.mem_cons, List.not_mem_nil, or_false] at hi
    rcases hi with rfl <;> refine ⟨_, by rfl, by rfl, ?_⟩ <;> conv => whnf
    refine ⟨by omega, ?_⟩
    conv => whnf
    refine ⟨fun j => vF ((putAt G k (f, n)).getD j (0, 0)), fun i hi => rfl, fun j hj => (congrArg vF ((congrArg (fun i => (putAt G k (f, n)).getD i (0, 0)) (by omega : 0 + ((k : Int) - 0).toNat + j = k)).trans (putAt_eq h1))).trans (by obtain rfl : j = 0 := (by omega); rfl), ?_⟩
    intro b_9 hs_9 hh_9 hf_9
    try dsimp only at hh_9 hf_9
    conv => whnf
    refine Wany.all (cx_ok []) (by rfl) (rs := [13]) (by kernel_rfl) (by decide) ?_
    intro i hi
    simp only [List.mem_cons, List.not_mem_nil, or_false] at hi
    rcases hi with rfl <;> refine ⟨_, by rfl, by rfl, ?_⟩ <;> conv => whnf
    refine ⟨by omega, ?_⟩
    conv => whnf
    refine ⟨fun j => vF ((putAt G k (f, n)).getD j (0, 0)), fun i hi => rfl, fun j hj => congrArg vF ((congrArg (fun i => (putAt G k (f, n)).getD i (0, 0)) (by omega : 0 + ((k : Int) - 0).toNat + 1 + j = k + 1 + j)).trans ((putAt_gt h1).trans (congrArg (fun i => G.getD i (0, 0)) (by omega)))), ?_⟩
    intro b_13 hs_13 hh_13 hf_13
    try dsimp only at hh_13 hf_13
    conv => whnf
    refine Wany.all (cx_ok []) (by rfl) (rs := [14]) (by kernel_rfl) (by decide) ?_
    intro i hi
    simp only [List.mem_cons, List.not_mem_nil, or_false] at hi
    rcases hi with rfl <;> refine ⟨_, by rfl, by rfl, ?_⟩ <;> conv => whnf
    refine wd1 (hK2 _ ?_)
    clear hK2 K2
    refine W.ret ?_
    conv => whnf
    exact ⟨.ownV 68 2 _ (G.length + 1) fun j => vF ((putAt G k (f, n)).getD j (0, 0)), ⟨rfl, rfl, rfl, by omega, fun _ _ => rfl⟩, fun _ _ => ⟨trivial, trivial, trivial⟩, k, _, h1, h2, h6, rfl⟩
   ·refine ⟨⟨rfl, by decide, fun x hx => by simp at hx; subst hx; exact ⟨rfl, rfl⟩⟩, ?_⟩
    conv => whnf
    intro b_8 hs_8 hh_8 hf_8
    try dsimp only at hh_8 hf_8
    conv => whnf
    refine Wany.all (cx_ok []) (by rfl) (rs := [4]) (by kernel_rfl) (by decide) ?_
    intro i hi
    simp only [List.mem_cons, List.not_mem_nil, or_false] at hi
    rcases hi with rfl <;> refine ⟨_, by rfl, by rfl, ?_⟩ <;> conv => whnf
    refine ⟨by omega, ?_⟩
    conv => whnf
    refine ⟨fun j => vF ((putAt G k (f, n)).getD j (0, 0)), fun i hi => absurd hi (by omega), fun j hj => congrArg vF ((congrArg (fun i => (putAt G k (f, n)).getD i (0, 0)) (by omega : 0 + j = j)).trans ((putAt_lt h1 (by omega)).trans (congrArg (fun i => G.getD i (0, 0)) (by omega)))), ?_⟩
    intro b_4 hs_4 hh_4 hf_4
    try dsimp only at hh_4 hf_4
    conv => whnf
    refine Wany.all (cx_ok []) (by rfl) (rs := [9]) (by kernel_rfl) (by decide) ?_
    intro i hi
    simp only [List.mem_cons, List.not_mem_nil, or_false] at hi
    rcases hi with rfl <;> refine ⟨_, by rfl, by rfl, ?_⟩ <;> conv => whnf
    refine ⟨by omega, ?_⟩
    conv => whnf
    refine ⟨fun j => vF ((putAt G k (f, n)).getD j (0, 0)), fun i hi => rfl, fun j hj => (congrArg vF ((congrArg (fun i => (putAt G k (f, n)).getD i (0, 0)) (by omega : 0 + ((k : Int) - 0).toNat + j = k)).trans (putAt_eq h1))).trans (by obtain rfl : j = 0 := (by omega); rfl), ?_⟩
    intro b_9 hs_9 hh_9 hf_9
    try dsimp only at hh_9 hf_9
    conv => whnf
    refine Wany.all (cx_ok []) (by rfl) (rs := [13]) (by kernel_rfl) (by decide) ?_
    intro i hi
    simp only [List.mem_cons, List.not_mem_nil, or_false] at hi
    rcases hi with rfl <;> refine ⟨_, by rfl, by rfl, ?_⟩ <;> conv => whnf
    refine ⟨by omega, ?_⟩
    conv => whnf
    refine ⟨fun j => vF ((putAt G k (f, n)).getD j (0, 0)), fun i hi => rfl, fun j hj => congrArg vF ((congrArg (fun i => (putAt G k (f, n)).getD i (0, 0)) (by omega : 0 + ((k : Int) - 0).toNat + 1 + j = k + 1 + j)).trans ((putAt_gt h1).trans (congrArg (fun i => G.getD i (0, 0)) (by omega)))), ?_⟩
    intro b_13 hs_13 hh_13 hf_13
    try dsimp only at hh_13 hf_13
    conv => whnf
    refine Wany.all (cx_ok []) (by rfl) (rs := [14]) (by kernel_rfl) (by decide) ?_
    intro i hi
    simp only [List.mem_cons, List.not_mem_nil, or_false] at hi
    rcases hi with rfl <;> refine ⟨_, by rfl, by rfl, ?_⟩ <;> conv => whnf
    refine wd1 (hK2 _ ?_)
    clear hK2 K2
    refine W.ret ?_
    conv => whnf
    exact ⟨.ownV 68 2 _ (G.length + 1) fun j => vF ((putAt G k (f, n)).getD j (0, 0)), ⟨rfl, rfl, rfl, by omega, fun _ _ => rfl⟩, fun _ _ => ⟨trivial, trivial, trivial⟩, k, _, h1, h2, h6, rfl⟩
  ·refine ⟨⟨rfl, by decide, fun x hx => by simp at hx; subst hx; exact ⟨rfl, rfl⟩⟩, ?_⟩
   conv => whnf
   intro b_8 hs_8 hh_8 hf_8
   try dsimp only at hh_8 hf_8
   conv => whnf
   refine Wany.all (cx_ok []) (by rfl) (rs := [0]) (by kernel_rfl) (by decide) ?_
   intro i hi
   simp only [List.mem_cons, List.not_mem_nil, or_false] at hi
   rcases hi with rfl <;> refine ⟨_, by rfl, by rfl, ?_⟩ <;> conv => whnf
   refine ⟨⟨rfl, by decide, fun x hx => by simp at hx⟩, ?_⟩
   conv => whnf
   intro b_0 hs_0 hh_0 hf_0
   try dsimp only at hh_0 hf_0
   conv => whnf
   refine Wany.all (cx_ok []) (by rfl) (rs := [4]) (by kernel_rfl) (by decide) ?_
   intro i hi
   simp only [List.mem_cons, List.not_mem_nil, or_false] at hi
   rcases hi with rfl <;> refine ⟨_, by rfl, by rfl, ?_⟩ <;> conv => whnf
   refine ⟨by omega, ?_⟩
   conv => whnf
   refine ⟨fun j => vF ((putAt G k (f, n)).getD j (0, 0)), fun i hi => absurd hi (by omega), fun j hj => congrArg vF ((congrArg (fun i => (putAt G k (f, n)).getD i (0, 0)) (by omega : 0 + j = j)).trans ((putAt_lt h1 (by omega)).trans (congrArg (fun i => G.getD i (0, 0)) (by omega)))), ?_⟩
   intro b_4 hs_4 hh_4 hf_4
   try dsimp only at hh_4 hf_4
   conv => whnf
   refine Wany.all (cx_ok []) (by rfl) (rs := [9]) (by kernel_rfl) (by decide) ?_
   intro i hi
   simp only [List.mem_cons, List.not_mem_nil, or_false] at hi
   rcases hi with rfl <;> refine ⟨_, by rfl, by rfl, ?_⟩ <;> conv => whnf
   refine ⟨by omega, ?_⟩
   conv => whnf
   refine ⟨fun j => vF ((putAt G k (f, n)).getD j (0, 0)), fun i hi => rfl, fun j hj => (congrArg vF ((congrArg (fun i => (putAt G k (f, n)).getD i (0, 0)) (by omega : 0 + ((k : Int) - 0).toNat + j = k)).trans (putAt_eq h1))).trans (by obtain rfl : j = 0 := (by omega); rfl), ?_⟩
   intro b_9 hs_9 hh_9 hf_9
   try dsimp only at hh_9 hf_9
   conv => whnf
   refine Wany.all (cx_ok []) (by rfl) (rs := [13]) (by kernel_rfl) (by decide) ?_
   intro i hi
   simp only [List.mem_cons, List.not_mem_nil, or_false] at hi
   rcases hi with rfl <;> refine ⟨_, by rfl, by rfl, ?_⟩ <;> conv => whnf
   refine ⟨by omega, ?_⟩
   conv => whnf
   refine ⟨fun j => vF ((putAt G k (f, n)).getD j (0, 0)), fun i hi => rfl, fun j hj => congrArg vF ((congrArg (fun i => (putAt G k (f, n)).getD i (0, 0)) (by omega : 0 + ((k : Int) - 0).toNat + 1 + j = k + 1 + j)).trans ((putAt_gt h1).trans (congrArg (fun i => G.getD i (0, 0)) (by omega)))), ?_⟩
   intro b_13 hs_13 hh_13 hf_13
   try dsimp only at hh_13 hf_13
   conv => whnf
   refine Wany.all (cx_ok []) (by rfl) (rs := [14]) (by kernel_rfl) (by decide) ?_
   intro i hi
   simp only [List.mem_cons, List.not_mem_nil, or_false] at hi
   rcases hi with rfl <;> refine ⟨_, by rfl, by rfl, ?_⟩ <;> conv => whnf
   refine wd1 (hK2 _ ?_)
   clear hK2 K2
   refine W.ret ?_
   conv => whnf
   exact ⟨.ownV 68 2 _ (G.length + 1) fun j => vF ((putAt G k (f, n)).getD j (0, 0)), ⟨rfl, rfl, rfl, by omega, fun _ _ => rfl⟩, fun _ _ => ⟨trivial, trivial, trivial⟩, k, _, h1, h2, h6, rfl⟩
 refine W.seqK fun K7 hK7 => ?_
 refine wrs fun K hK => ?_
 conv => whnf
 refine ⟨fun h3 => ?_, fun h3 => ?_⟩ <;> conv => whnf
 ·have h3 := of_decide_eq_true h3
  have hx : (G.getD k (0, 0)) ∈ G := by rw [List.getD_eq_getElem?_getD, List.getElem?_eq_getElem (by omega)]; exact List.getElem_mem (by omega)
  have hx2 := hGd _ hx
  refine ⟨oo, ?_⟩
  conv => whnf
  rw [Int.toNat_natCast]
  refine callV rfl (l09Compare_fn none none (G.getD k (0, 0)).1.l f.l hx2 hf) fun hs' hhs => ?_
  try dsimp only at hhs
  conv => whnf
  refine hK _ (W.cond ⟨fun h => ?_, fun h => ?_⟩) <;> clear hK K
  ·have h := (cmpP_lt _ _).1 (of_decide_eq_true h)
   refine W.skip (hK7 _ (W.block ?_))
   clear hK7 K7 fin
   refine wrg ?_
   conv => whnf
   refine ⟨oo, ?_⟩
   conv => whnf
   exact againA ⟨k + 1, by omega, fun j hj => by by_cases h9 : j = k; (subst h9; exact h); exact h2 j (by omega), rfl, rfl⟩
  ·have h := fun h9 => of_decide_eq_false h ((cmpP_lt _ _).2 h9)
   refine W.exit (fin _ (by dsimp only; omega) (.inr h) ?_)
   clear fin hK7 K7
   exact cvr
 ·have h3 := of_decide_eq_false h3
  refine hK _ (W.condF rfl ?_)
  clear hK K
  refine W.exit (fin _ (by dsimp only; omega) (.inl (by omega)) ?_)
  clear fin hK7 K7
  exact cvr

open Go Go.RowKit Go.Proofs Poly
set_option maxRecDepth 100000
set_option maxHeartbeats 8000000

theorem dv_bd {p : Int} [SP p] (f : Poly p) (hf : dg f ≤ 1000) : Bd 4611686018427387904 (mkL (f.l.length - 1) (dv (cf f.l))) := fun j => by
 have hp2 := SP.le (p := p)
 rw [cf_mkL]
 split
 ·rename_i hj
  have hfl : f.l.length = dg f := rfl
  have hc := cf_bd f (j + 1)
  have h8 := Int.mul_nonneg (by omega : (0 : Int) ≤ (j : Int) + 1) hc.1
  have h9 := Int.mul_le_mul (by omega : (j : Int) + 1 ≤ 1000) (by omega : cf f.l (j + 1) ≤ 97) hc.1 (by omega)
  unfold dv
  omega
 ·omega

theorem l08Derivative_fn (p : Int) [SP p] (g : Option Nat) (f : Poly p) (hf : dg f ≤ 1000) : FnI 374 [.int .i64 p, .ints g f.l] (der f).l := by
 have hp := Pr.two (p := p)
 have hp2 := SP.le (p := p)
 have hfl : f.l.length = dg f := rfl
 refine fn_of (cx_ok [0, 1, 4]) Tryz.func374 rfl (by decide) Tryz.ntmps374 (Nat.le_of_ble_eq_true rfl) fun base => ?_
 refine wrs fun K hK => ?_
 conv => whnf
 refine hK _ ?_
 clear hK K
 refine wrs fun K hK => ?_
 conv => whnf
 refine callV rfl (l06Derivative_fn _ f.l ((l_bd f).le (by omega)) (by omega)) fun hs' hhs => ?_
 try dsimp only at hhs
 conv => whnf
 refine callI rfl (l08Reduce_fn p (by omega) (by omega) none (mkL (f.l.length - 1) (dv (cf f.l))) (dv_bd f hf) (by rw [mkL_length]; omega)) fun hs_2 b_2 hh_2 hf_2 => ?_
 try dsimp only at hh_2 hf_2
 conv => whnf
 rw [der_l]
 refine hK _ ?_
 clear hK K
 refine W.ret ?_
 conv => whnf
 exact ⟨.ownI 2 _ ((der f).l), ⟨rfl, rfl, rfl⟩, trivial, _, rfl⟩

theorem l09Factor_fn (p : Int) [SP p] : ∀ (d : Nat) (g : Option Nat) (f : Poly p) (t : Nat) (G : List (Poly p × Nat)), dg f ≤ d → d ≤ 13 → Mon f → t ≤ 13 ^ (13 - d) → Srt G → (∀ x ∈ G, ¬ x.1 ∣ f ∧ dg x.1 ≤ 13) → G.length + 20 * d ≤ 600 →
  Fn Tryz.prog 329 [.int .i64 p, .ints g f.l, .int .i64 t, .vals none 2 G.length fun j => vF (G.getD j (0, 0))] (fun _ _ z => ∃ G', PutOf f t G G' ∧ z = .v (vFs G'))
 | 0, g, f, t, G, hd, _, hm, _, _, _, _ => absurd (dg_eq_zero.1 (by omega)) hm.1
 | d + 1, g, f, t, G, hd, hd13, hm, ht, hS, hG, hl => by
  have ih := l09Factor_fn p d
  have hp := Pr.two (p := p)
  have hp2 := SP.le (p := p)
  have hfl : f.l.length = dg f := rfl
  have hf0 : dg f ≠ 0 := fun e => hm.1 (dg_eq_zero.1 e)
  have htb : t ≤ 13 ^ 13 := Nat.le_trans ht (Nat.pow_le_pow_right (by omega) (by omega))
  have ht2 : 13 * t ≤ 13 ^ (13 - d) := by
   have e : 13 - d = (13 - (d + 1)) + 1 := by omega
   rw [e, Nat.pow_succ, Nat.mul_comm]
   exact Nat.mul_le_mul_right _ ht
  have htb : t ≤ 302875106592253 := htb
  refine fn_of (cx_ok [0, 1, 2, 3, 8, 9, 10, 11, 12, 14, 15, 16, 17, 18, 21, 28, 33, 67, 82]) Tryz.func329 rfl (by decide) Tryz.ntmps329 (Nat.le_of_ble_eq_true rfl) fun base => ?_
  refine wrs fun K hK => ?_
  conv => whnf
  refine hK _ ?_
  clear hK K
  refine W.seqK fun K1 hK1 => ?_
  refine wrs fun K hK => ?_
  conv => whnf
  rw [hfl]
  refine hK _ (W.cond ⟨fun h => ?_, fun h => ?_⟩) <;> clear hK K
  ·have h := of_decide_eq_true h
   refine wrs fun K hK => ?_
   conv => whnf
   refine hK _ ?_
   clear hK K
   refine W.ret ?_
   conv => whnf
   exact ⟨.v (vFs G), ⟨rfl, rfl, rfl, fun _ _ => rfl⟩, ⟨trivial, fun _ _ => ⟨trivial, trivial, trivial⟩⟩, G, PutOf.unit (by omega) hS, rfl⟩
  have h := of_decide_eq_false h
  refine W.skip (hK1 _ ?_)
  clear hK1 K1
  refine wrs fun K hK => ?_
  conv => whnf
  refine callI rfl (l08Derivative_fn p g f (by omega)) fun hs_1 b_1 hh_1 hf_1 => ?_
  try dsimp only at hh_1 hf_1
  conv => whnf
  refine hK _ ?_
  clear hK K
  refine W.seqK fun K1 hK1 => ?_
  have hdl : (der f).l.length = dg (der f) := rfl
  refine wrs fun K hK => ?_
  conv => whnf
  rw [hdl]
  refine hK _ (W.cond ⟨fun h1 => ?_, fun h1 => ?_⟩) <;> clear hK K
  ·have h1 := of_decide_eq_true h1
   have hder : der f = 0 := dg_eq_zero.1 (by omega)
   refine wrs fun K hK => ?_
   conv => whnf
   refine ⟨⟨rfl, by decide⟩, ?_⟩
   conv => whnf
   intro b_2 hs_2 hh_2 hf_2
   try dsimp only at hh_2 hf_2
   conv => whnf
   refine hK _ ?_
   clear hK K
   refine W.seqK fun K3 hK3 => ?_
   refine wrs fun K hK => ?_
   conv => whnf
   refine hK _ (W.block (W.invE (fun m e => ∃ (k bR : Nat), (m = dg f + p.toNat - k * p.toNat) ∧ k * p.toNat < dg f + p.toNat ∧ e = [(0, .v (.int .i64 p)), (1, .v (.ints g f.l)), (2, .v (.int .i64 t)), (3, .v (.vals none 2 G.length fun j => vF (G.getD j (0, 0)))), (10, .ownI 2 bR (mkL k fun i => cf f.l (i * p.toNat))), (11, .v (.int .i64 ((k * p.toNat : Nat) : Int)))]) _ _ ⟨0, b_2, rfl, by omega, rfl⟩ (by dsimp only; omega) (by repeat' first | refine And.intro ?_ ?_ | exact trivial | rfl | omega | assumption | exact .inl rfl | exact .inr rfl | exact fun _ _ => rfl) ?_))
   clear hK K
   rintro m e ⟨k, bR, hm', hk, rfl⟩
   have hpn : ((p.toNat : Nat) : Int) = p := by omega
   have hk1 : (k + 1) * p.toNat = k * p.toNat + p.toNat := Nat.succ_mul _ _
   have hk2 : (((k + 1) * p.toNat : Nat) : Int) = ((k * p.toNat : Nat) : Int) + p := by omega
   have hcfk : cf f.l (k * p.toNat) = cf f.l (k * p.toNat) := rfl
   generalize hkp : k * p.toNat = kp at hm' hk hk1 hk2 hcfk
   refine W.seqK fun K7 hK7 => ?_
   refine wrs fun K hK => ?_
   conv => whnf
   rw [hfl]
   refine hK _ (W.cond ⟨fun h8 => ?_, fun h8 => ?_⟩) <;> clear hK K
   ·have h8 := of_decide_eq_true h8
    refine W.skip (hK7 _ ?_)
    clear hK7 K7
    refine W.seqK fun K8 hK8 => W.block ?_
    refine wrg ?_
    conv => whnf
    refine ⟨oo, ?_⟩
    conv => whnf
    rw [Int.toNat_natCast]
    have hkk : k ≤ kp := by rw [← hkp]; exact Nat.le_mul_of_pos_right k (by omega)
    have hml : (mkL k fun i => cf f.l (i * p.toNat)).length = k := mkL_length _ _
    have hms : mkL (k + 1) (fun i => cf f.l (i * p.toNat)) = mkL k (fun i => cf f.l (i * p.toNat)) ++ [f.l.getD kp 0] := by rw [mkL_succ, hkp]; rfl
    refine ⟨⟨rfl, by decide⟩, ?_⟩
    conv => whnf
    intro b_4 hs_4 hh_4 hf_4
    try dsimp only at hh_4 hf_4
    conv => whnf
    refine ⟨by dsimp only [List.length]; omega, ?_⟩
    conv => whnf
    intro b_6 hs_6 hh_6 hf_6
    try dsimp only at hh_6 hf_6
    conv => whnf
    refine hK8 _ ?_
    clear hK8 K8
    refine wrg ?_
    conv => whnf
    refine ⟨oo, ?_⟩
    conv => whnf
    refine ⟨_, _, ⟨k + 1, b_6, rfl, by omega, rfl⟩, by omega, by dsimp only; omega, ?_⟩
    rw [hms]
    exact cvr
   ·have h8 := of_decide_eq_false h8
    obtain ⟨R, hR1, hR2, hR3, hR4, hR5⟩ := root_spec (f := f) hm hder (l := mkL k fun i => cf f.l (i * p.toNat)) (n := k) (mkL_length _ _) (fun i hi => by rw [cf_mkL, if_pos hi]) (by omega) (by omega)
    rw [← hR1]
    have hRd := hR5 (by omega)
    have hpf := root_few hR2 hR3 (by omega)
    have hpt : ((p.toNat * t : Nat) : Int) = p * (t : Int) := by rw [Int.natCast_mul, hpn]
    have hpt1 : p.toNat * t ≤ 13 * t := Nat.mul_le_mul_right _ (by omega)
    refine W.exit (hK3 _ ?_)
    clear hK7 K7 hK3 K3
    refine W.weak (t := ⟨[(0, .v (.int .i64 p)), (2, .v (.int .i64 t)), (3, .v (.vals none 2 G.length fun j => vF (G.getD j (0, 0)))), (10, .v (.ints none R.l))], base⟩) ⟨by dsimp only; omega, by repeat' first | refine And.intro ?_ ?_ | exact trivial | rfl | omega | assumption | exact .inl rfl | exact .inr rfl | exact fun _ _ => rfl⟩ (Nat.le_refl _) ?_
    refine wrs fun K hK => ?_
    conv => whnf
    rw [← hpt]
    refine ⟨oo, ?_⟩
    conv => whnf
    refine callP rfl (ih none R (p.toNat * t) G (by omega) (by omega) hR2 (by omega) hS (fun x hx => ⟨fun hd9 => (hG x hx).1 (dvd_trans hd9 (by rw [← hR3]; exact dvd_pow_pos (by omega))), (hG x hx).2⟩) (by omega)) ?_
    rintro lo hi hi' z hl1 hl2 hl3 ⟨G', hG', rfl⟩ _
    try dsimp only at hl1 hl2
    conv => whnf
    refine hK _ ?_
    clear hK K
    refine W.ret ?_
    conv => whnf
    exact ⟨.v (vFs G'), ⟨rfl, rfl, rfl, fun _ _ => rfl⟩, ⟨trivial, fun _ _ => ⟨trivial, trivial, trivial⟩⟩, G', PutOf.root hR2.1 (by omega) hR3 hG', rfl⟩
  ·have h1 := of_decide_eq_false h1
   refine W.skip (hK1 _ ?_)
   clear hK1 K1
   have hd0 : der f ≠ 0 := fun e => by rw [e, dg_zero] at h1; omega
   obtain ⟨s1, s2, s3, s4, s5, s6, s7⟩ := sqf_quo hm hd0
   refine wrs fun K hK => ?_
   conv => whnf
   refine callI rfl (l08Common_fn p _ _ f (der f) (by omega) (by have := der_dg hm.1; omega)) fun hs_3 b_3 hh_3 hf_3 => ?_
   try dsimp only at hh_3 hf_3
   conv => whnf
   refine callV rfl (l08Divide_fn p _ _ f (gcd f (der f)) (by omega) (by have := dvd_dg s6 hd0; have := der_dg hm.1; omega) s7) fun hs' hhs => ?_
   try dsimp only at hhs
   conv => whnf
   generalize hq : quo f (gcd f (der f)) = q at s1 s2 s3 s4 s5
   generalize gcd f (der f) = c at s1 s6 s7
   refine hK _ ?_
   clear hK K
   refine wrs fun K hK => ?_
   conv => whnf
   refine callP rfl (l09Split_fn p 400 q (by omega) (by omega) s2 s3 s4) ?_
   rintro lo hi hi' z hl1 hl2 hl3 ⟨P, hP, rfl⟩ _
   have hPf := hP.few (f := q) s2.1
   try dsimp only at hl1 hl2
   conv => whnf
   refine hK _ ?_
   clear hK K
   refine W.seqK fun K1 hK1 => ?_
   refine wrs fun K hK => ?_
   conv => whnf
   refine hK _ (W.block (W.invE (fun m e => ∃ (k : Nat) (g1 : Option Nat) (r : Poly p) (L H : List (Poly p × Nat)), Putting f P t G k r L H ∧ dg r ≤ dg f ∧ m = P.length - k ∧ (∀ x ∈ H, dg x.1 ≤ 13) ∧ e = [(0, .v (.int .i64 p)), (1, .v (.ints g1 r.l)), (2, .v (.int .i64 t)), (3, .v (.vals none 2 H.length fun j => vF (H.getD j (0, 0)))), (14, .v (vPs P)), (15, .v (.int .i64 k))]) _ _ ⟨0, g, f, [], G, Putting.start hm P t hS, Nat.le_refl _, rfl, fun x hx => (hG x hx).2, rfl⟩ (by dsimp only; omega) (by repeat' first | refine And.intro ?_ ?_ | exact trivial | rfl | omega | assumption | exact .inl rfl | exact .inr rfl | exact fun _ _ => rfl) ?_))
   clear hK K
   rintro m e ⟨k, g1, r, L, H, hpu, hrd, hm', hH, rfl⟩
   have hpe := hpu.peel
   have hkl := hpe.le
   have hlen := hpu.len
   refine W.seqK fun K7 hK7 => wrs fun K hK => ?_
   conv => whnf
   refine hK _ (W.cond ⟨fun h2 => ?_, fun h2 => ?_⟩) <;> clear hK K <;> (first | replace h2 := of_decide_eq_true h2 | replace h2 := of_decide_eq_false h2)
   ·have hmem : P.getD k 0 ∈ P := by rw [List.getD_eq_getElem?_getD, List.getElem?_eq_getElem (by omega)]; exact List.getElem_mem (by omega)
    obtain ⟨hgi, hgm, hgd⟩ := (hP.2 _).1 hmem
    have hgd0 : P.getD k 0 ∣ f := dvd_trans hgd ⟨c, s1⟩
    have hgdg := dvd_dg hgd0 hm.1
    have step := fun n i r' he hn => hpu.step (n := n) (i := i) (r' := r') (fun x hx => (hG x hx).1) hP.1 (by omega) hgi hgm hgd0 he hn
    generalize hgq : P.getD k 0 = q1 at hgi hgm hgd hgd0 hgdg step
    refine W.skip (hK7 _ ?_)
    clear hK7 K7
    refine W.seqK fun K8 hK8 => W.block ?_
    refine wrs fun K hK => ?_
    conv => whnf
    refine hK _ ?_
    clear hK K
    have hpow : ∀ {n : Nat} {rc : Poly p}, r = q1 ^ n * rc → n < 14 ∧ rc ≠ 0 ∧ dg rc ≤ dg r := fun {n rc} he => by
     have h5 := pow_dg hgi.1 n
     have h6 := dvd_dg (⟨rc, he⟩ : q1 ^ n ∣ r) hpe.mon.1
     have h7 : rc ∣ r := ⟨q1 ^ n, by rw [he]; exact mul_comm' _ _⟩
     exact ⟨by omega, dvd_ne h7 hpe.mon.1, dvd_dg h7 hpe.mon.1⟩
    refine W.seqK fun K2 hK2 => ?_
    refine W.block (W.invE (fun m e => ∃ (n : Nat) (g2 : Option Nat) (rc : Poly p), r = q1 ^ n * rc ∧ m = dg rc ∧ e = [(0, .v (.int .i64 p)), (1, .v (.ints g2 rc.l)), (2, .v (.int .i64 t)), (3, .v (.vals none 2 H.length fun j => vF (H.getD j (0, 0)))), (14, .v (vPs P)), (15, .v (.int .i64 k)), (16, .v (.int .i64 n))]) _ _ ⟨0, g1, r, by rw [pow_zero']; exact ring [r] (by rfl), rfl, rfl⟩ (by dsimp only; omega) (by repeat' first | refine And.intro ?_ ?_ | exact trivial | rfl | omega | assumption | exact .inl rfl | exact .inr rfl | exact fun _ _ => rfl) ?_)
    rintro m2 e ⟨n, g2, rc, he, hm2, rfl⟩
    obtain ⟨hn14, hrc0, hrcd⟩ := hpow he
    have hreml : (rem rc q1).l.length = dg (rem rc q1) := rfl
    refine W.block ?_
    refine wrs fun K hK => ?_
    conv => whnf
    refine ⟨oo, ?_⟩
    conv => whnf
    have e1 : (fun j => V.ints none (P.getD j 0).l) (k : Int).toNat = .ints none q1.l := by rw [Int.toNat_natCast]; show V.ints none (P.getD k 0).l = _; rw [hgq]
    rw [e1]
    refine callV rfl (l08Divide_fn p _ _ rc q1 (by omega) (by omega) hgi.ne) fun hs' hhs => ?_
    try dsimp only at hhs
    conv => whnf
    refine hK _ ?_
    clear hK K
    refine W.seqK fun K9 hK9 => ?_
    refine wrs fun K hK => ?_
    conv => whnf
    rw [hreml]
    refine hK _ (W.cond ⟨fun h3 => ?_, fun h3 => ?_⟩) <;> clear hK K
    ·have h3 := of_decide_eq_true h3
     have hnd : ¬ q1 ∣ rc := fun hd => by
      have := (dvd_iff_rem hgi.ne).1 hd
      have : dg (rem rc q1) = 0 := by rw [this]; exact dg_zero
      omega
     refine W.exit (hK2 _ ?_)
     clear hK2 K2 hK9 K9
     have hnt : ((n * t : Nat) : Int) = (n : Int) * (t : Int) := Int.natCast_mul _ _
     have hnt1 : n * t ≤ 13 * t := Nat.mul_le_mul_right _ (by omega)
     have hnt2 : 13 * t ≤ 3937376385699289 := by omega
     refine wrg ?_
     conv => whnf
     refine ⟨oo, ?_⟩
     conv => whnf
     rw [e1]
     rw [← hnt]
     refine ⟨oo, ?_⟩
     conv => whnf
     refine callP rfl (l09Put_fn p none H q1 (n * t) (by omega) (fun x hx => by have := hH x hx; omega) (by omega)) ?_
     rintro lo hi hi' z hl1 hl2 hl3 ⟨i, b, hi1, hi2, hi3, rfl⟩ _
     try dsimp only at hl1 hl2
     conv => whnf
     refine hK8 _ ?_
     clear hK8 K8
     refine wrg ?_
     conv => whnf
     refine ⟨oo, ?_⟩
     conv => whnf
     have hpl : (putAt H i (q1, n * t)).length = H.length + 1 := putAt_length hi1
     refine ⟨_, _, ⟨k + 1, g2, rc, L ++ [(q1, n)], putAt H i (q1, n * t), step n i rc he hnd hi1 hi2 hi3, by omega, rfl, fun x hx => ?_, rfl⟩, by omega, by dsimp only; omega, ?_⟩
     ·rcases mem_putAt.1 hx with rfl | hx
      ·show dg q1 ≤ 13
       omega
      ·exact hH x hx
     rw [hpl]
     exact cvr
    ·have h3 := of_decide_eq_false h3
     have hrem : rem rc q1 = 0 := dg_eq_zero.1 (by omega)
     have hdiv : rc = quo rc q1 * q1 := by
      have h5 := div_eq rc q1
      rw [hrem] at h5
      have e : ∀ a : Poly p, a + 0 = a := fun a => by exact ring [a] (by rfl)
      rw [e] at h5; exact h5
     have hq0 : quo rc q1 ≠ 0 := fun e => hrc0 (by rw [hdiv, e]; exact ring [q1] (by rfl))
     have hdgq := dg_mul hq0 hgi.ne
     rw [← hdiv] at hdgq
     have hg2 := hgi.1
     refine W.skip (hK9 _ ?_)
     clear hK9 K9
     refine wrs fun K hK => ?_
     conv => whnf
     refine hK _ ?_
     clear hK K
     refine wrg ?_
     conv => whnf
     refine ⟨oo, ?_⟩
     conv => whnf
     exact againA ⟨n + 1, none, quo rc q1, by rw [he, pow_succ']; exact comb (q1 ^ n) hdiv (ring [rc, q1, quo rc q1, q1 ^ n] (by rfl)), rfl, rfl⟩
   ·obtain rfl : k = P.length := by omega
    have hrl := hpe.less hm hP s1 s4
    refine W.exit (hK1 _ ?_)
    clear hK7 K7 hK1 K1
    refine wrs fun K hK => ?_
    conv => whnf
    refine callP rfl (ih g1 r t H (by omega) (by omega) hpe.mon (by omega) hpu.srt (fun x hx => ⟨hpu.apart (fun x hx => (hG x hx).1) x hx, hH x hx⟩) (by omega)) ?_
    rintro lo hi hi' z hl1 hl2 hl3 ⟨G', hG', rfl⟩ _
    try dsimp only at hl1 hl2
    conv => whnf
    refine hK _ ?_
    clear hK K
    refine W.ret ?_
    conv => whnf
    exact ⟨.v (vFs G'), ⟨rfl, rfl, rfl, fun _ _ => rfl⟩, ⟨trivial, fun _ _ => ⟨trivial, trivial, trivial⟩⟩, G', hpu.fin hm hP s1 s6 hG', rfl⟩

theorem Fn.args {P : Program} {f : Nat} {xs ys : List V} {post : Post} (h : Fn P f ys post) (hl : xs.length = ys.length)
  (hr : ∀ j, j < xs.length → ∀ (D : Nat → Prop) (n : Nat) (hp : Array Obj) (v : Value), Rep (okF D (fun _ => False) n) hp (xs.getD j .nil) v → Rep (okF D (fun _ => False) n) hp (ys.getD j .nil) v) : Fn P f xs post :=
 ⟨h.1, fun D w vs hD hs hv => h.2 D w vs hD (hs.trans hl) fun j hj => hr j (by omega) _ _ _ _ (hv j (by omega))⟩
theorem Rep.vals0 {ok : OkB} {hp : Array Obj} {g g' : Option Nat} {sz : Nat} {f f' : Nat → V} {v : Value} (h : Rep ok hp (.vals g sz 0 f) v) : Rep ok hp (.vals g' sz 0 f') v := by
 cases h with
 | vals _ _ _ _ a cap hc hm hl hf c hx hr => exact .vals g' sz 0 f' a cap hc hm (fun i hi => by omega) (fun i hi => by omega) c (fun i j hi => by omega) (fun i j hi => by omega)

theorem l09All_fn (p : Int) [SP p] (g : Option Nat) (f : Poly p) (hf : dg f ≤ 13) (hf0 : f ≠ 0) : Fn Tryz.prog 206 [.int .i64 p, .ints g f.l] (fun _ _ z => ∃ F, FacOf f F ∧ z = .v (vFs F)) := by
 have hmd : dg (mnc f) ≤ dg f := dvd_dg (mnc_assoc f).1 hf0
 refine fn_of (cx_ok [0, 1, 4]) Tryz.func206 rfl (by decide) Tryz.ntmps206 (Nat.le_of_ble_eq_true rfl) fun base => ?_
 refine wrs fun K hK => ?_
 conv => whnf
 refine hK _ ?_
 clear hK K
 refine wrs fun K hK => ?_
 conv => whnf
 refine callI rfl (l08Monic_fn p g f (by omega)) fun hs_1 b_1 hh_1 hf_1 => ?_
 try dsimp only at hh_1 hf_1
 conv => whnf
 refine ⟨⟨rfl, by decide, fun x hx => by simp at hx⟩, ?_⟩
 conv => whnf
 intro b_2 hs_2 hh_2 hf_2
 try dsimp only at hh_2 hf_2
 conv => whnf
 refine callP rfl (Fn.args (ys := [.int .i64 p, .ints (some b_1) (mnc f).l, .int .i64 ((1 : Nat) : Int), .vals none 2 0 fun j => vF ((([] : List (Poly p × Nat))).getD j (0, 0))]) (l09Factor_fn p 13 (some b_1) (mnc f) 1 [] (by omega) (Nat.le_refl _) (mnc_mon hf0) (by decide) List.Pairwise.nil (fun x hx => by simp at hx) (by simp)) rfl fun j hj D n hp v hv => ?_) ?_
 ·match j, hj with
  | 0, _ => exact hv
  | 1, _ => exact hv
  | 2, _ => exact hv
  | 3, _ => exact hv.vals0
 rintro lo hi hi' z hl1 hl2 hl3 ⟨F, hF, rfl⟩ _
 try dsimp only at hl1 hl2
 conv => whnf
 refine hK _ ?_
 clear hK K
 refine W.ret ?_
 conv => whnf
 exact ⟨.v (vFs F), ⟨rfl, rfl, rfl, fun _ _ => rfl⟩, ⟨trivial, fun _ _ => ⟨trivial, trivial, trivial⟩⟩, F, ⟨hF.fac.1, fun x => (hF.fac.2 x).trans (isFac_mnc hf0 x)⟩, rfl⟩

theorem l09Irreducible_fn (p : Int) [SP p] (g : Option Nat) (f : Poly p) (hf : dg f ≤ 13) (hf0 : f ≠ 0) : Fn Tryz.prog 208 [.int .i64 p, .ints g f.l] (fun _ _ z => ∃ F, FacOf f F ∧ z = .v (.bool (oneF F))) := by
 refine fn_of (cx_ok [0, 1, 4, 5]) Tryz.func208 rfl (by decide) Tryz.ntmps208 (Nat.le_of_ble_eq_true rfl) fun base => ?_
 refine wrs fun K hK => ?_
 conv => whnf
 refine hK _ ?_
 clear hK K
 refine wrs fun K hK => ?_
 conv => whnf
 refine callP rfl (l09All_fn p g f hf hf0) ?_
 rintro lo hi hi' z hl1 hl2 hl3 ⟨F, hF, rfl⟩ _
 try dsimp only at hl1 hl2
 have hlen := hF.facs.few hf0
 conv => whnf
 refine hK _ ?_
 clear hK K
 refine wrs fun K hK => ?_
 conv => whnf
 refine ⟨fun h => ?_, fun h => ?_⟩ <;> conv => whnf
 ·refine ⟨⟨by omega, by have := of_decide_eq_true h; omega⟩, ?_⟩
  conv => whnf
  refine hK _ ?_
  clear hK K
  refine W.ret ?_
  conv => whnf
  exact ⟨.v (.bool (oneF F)), (by show decide _ = oneF F; unfold oneF; rw [h]; rfl), trivial, F, hF, rfl⟩
 ·refine hK _ ?_
  clear hK K
  refine W.ret ?_
  conv => whnf
  exact ⟨.v (.bool (oneF F)), (by show oneF F = false; unfold oneF; rw [h]; rfl), trivial, F, hF, rfl⟩

open Go Go.RowKit Go.Proofs Poly
set_option maxRecDepth 100000
set_option maxHeartbeats 8000000

noncomputable def bP (P : Prop) : Bool := @decide P (Classical.propDecidable P)
theorem bP_iff {P : Prop} : bP P = true ↔ P := @decide_eq_true_iff P (Classical.propDecidable P)
theorem bP_true {P : Prop} (h : P) : bP P = true := bP_iff.2 h
theorem bP_false {P : Prop} (h : ¬ P) : bP P = false := by
 cases hb : bP P with
 | false => rfl
 | true => exact absurd (bP_iff.1 hb) h
theorem bP_not {P : Prop} (h : bP P = false) : ¬ P := fun hp => by rw [bP_true hp] at h; cases h
theorem nd_true {P : Prop} [Decidable P] (h : (!(decide P)) = true) : ¬ P := fun hp => by rw [decide_eq_true hp] at h; cases h
theorem nd_false {P : Prop} [Decidable P] (h : (!(decide P)) = false) : P := Classical.byContradiction fun hp => by rw [decide_eq_false hp] at h; cases h
theorem indexFunc_fn (g : Option Nat) (xs : List Int) (f : Nat) (caps : List V) (q : Nat → Bool) (hl : xs.length ≤ 100000000) (hf : ∀ i, i < xs.length → FnV f ([.int .i64 (cf xs i)] ++ caps) (.bool (q i))) :
  Fn Tryz.prog 366 [.ints g xs, .func f caps] (fun _ _ z => ∃ r : Int, z = .v (.int .i64 r) ∧ (0 ≤ r ↔ ∃ i, i < xs.length ∧ q i = true)) := by
 refine fn_of (cx_ok [0, 1, 4, 5, 7, 8, 9, 16]) Tryz.func366 rfl (by decide) Tryz.ntmps366 (Nat.le_of_ble_eq_true rfl) fun base => ?_
 refine wrs fun K hK => ?_
 conv => whnf
 refine hK _ ?_
 clear hK K
 refine W.seqK fun K1 hK1 => wrs fun K hK => ?_
 conv => whnf
 refine hK _ (W.block (W.invA (fun m e => ∃ i : Nat, i ≤ xs.length ∧ (∀ j, j < i → q j = false) ∧ m = xs.length - i ∧ e = [(0, .v (.ints g xs)), (1, .v (.func f caps)), (7, .v (.int .i64 xs.length)), (8, .v (.int .i64 i))]) ⟨0, Nat.zero_le _, fun j hj => by omega, rfl, rfl⟩ ?_))
 clear hK K
 rintro m e ⟨i, h1, h2, hm, rfl⟩
 refine wrs fun K hK => ?_
 conv => whnf
 refine hK _ ?_
 clear hK K
 refine W.seqK fun K7 hK7 => W.cond ⟨fun h => ?_, fun h => ?_⟩ <;> (first | replace h := of_decide_eq_true h | replace h := of_decide_eq_false h)
 ·refine W.skip (hK7 _ ?_)
  clear hK7 K7
  refine W.seqK fun K8 hK8 => W.block ?_
  refine wrs fun K hK => ?_
  conv => whnf
  refine hK _ ?_
  clear hK K
  refine wrs fun K hK => ?_
  conv => whnf
  refine ⟨oo, ?_⟩
  conv => whnf
  rw [Int.toNat_natCast]
  refine callV rfl (hf i (by omega)) fun hs' hhs => ?_
  try dsimp only at hhs
  conv => whnf
  refine hK _ (W.cond ⟨fun h3 => ?_, fun h3 => ?_⟩) <;> clear hK K
  ·refine wrs fun K hK => ?_
   conv => whnf
   refine hK _ ?_
   clear hK K
   refine W.ret ?_
   conv => whnf
   exact ⟨.v (.int .i64 i), ⟨rfl, rfl⟩, trivial, i, rfl, fun _ => ⟨i, by omega, h3⟩, fun _ => by omega⟩
  ·refine W.skip (hK8 _ ?_)
   clear hK8 K8
   refine wrg ?_
   conv => whnf
   refine ⟨oo, ?_⟩
   conv => whnf
   have h4 : ∀ j, j < i + 1 → q j = false := fun j hj => by
    by_cases hji : j = i
    ·subst hji; exact h3
    ·exact h2 j (by omega)
   exact againA ⟨i + 1, by omega, h4, rfl, rfl⟩
 ·refine W.exit (hK1 _ ?_)
  clear hK7 K7 hK1 K1
  refine wrs fun K hK => ?_
  conv => whnf
  refine hK _ ?_
  clear hK K
  refine W.ret ?_
  conv => whnf
  refine ⟨.v (.int .i64 (-1)), ⟨rfl, rfl⟩, trivial, -1, rfl, fun h => by omega, fun ⟨j, hj, he⟩ => ?_⟩
  rw [h2 j (by omega)] at he; cases he

theorem containsFunc_fn (g : Option Nat) (xs : List Int) (f : Nat) (caps : List V) (q : Nat → Bool) (hl : xs.length ≤ 100000000) (hf : ∀ i, i < xs.length → FnV f ([.int .i64 (cf xs i)] ++ caps) (.bool (q i))) :
  FnV 303 [.ints g xs, .func f caps] (.bool (bP (∃ i, i < xs.length ∧ q i = true))) := by
 refine fn_of (cx_ok [0, 1, 4]) Tryz.func303 rfl (by decide) Tryz.ntmps303 (Nat.le_of_ble_eq_true rfl) fun base => ?_
 refine wrs fun K hK => ?_
 conv => whnf
 refine hK _ ?_
 clear hK K
 refine wrs fun K hK => ?_
 conv => whnf
 refine callP rfl (indexFunc_fn g xs f caps q hl hf) ?_
 rintro lo hi hi' z h1 h2 h3 ⟨r, rfl, hr⟩ _
 conv => whnf
 refine hK _ ?_
 clear hK K
 refine W.ret ?_
 conv => whnf
 exact ⟨.v (.bool (bP (∃ i, i < xs.length ∧ q i = true))), (by show decide _ = bP _; by_cases h : 0 ≤ r; (rw [bP_true (hr.1 h)]; exact decide_eq_true h); (rw [bP_false fun h' => h (hr.2 h')]; exact decide_eq_false h)), trivial, rfl⟩

def AllR (a b : Int) (xs : List Int) : Prop := ∀ j, j < xs.length → a ≤ cf xs j ∧ cf xs j ≤ b
def LastN (xs : List Int) : Prop := xs.length = 0 ∨ cf xs (xs.length - 1) ≠ 0
def IsPoly (xs : List Int) : Prop := xs.length ≤ 9 ∧ AllR (-1000000) 1000000 xs ∧ LastN xs
def IsSm (xs : List Int) : Prop := IsPoly xs ∧ 2 ≤ xs.length ∧ xs.length ≤ 5 ∧ AllR (-60) 60 xs
def IsMod (p : Int) (xs : List Int) : Prop := isP p = true ∧ xs.length ≤ 9 ∧ AllR 0 (p - 1) xs ∧ LastN xs

theorem not_all {a b : Int} {xs : List Int} : (∃ i, i < xs.length ∧ (!(decide (a ≤ cf xs i ∧ cf xs i ≤ b))) = true) ↔ ¬ AllR a b xs := by
 constructor
 ·rintro ⟨i, hi, h⟩ hA
  rw [decide_eq_true (hA i hi)] at h; cases h
 ·intro h
  refine Classical.byContradiction fun h' => h fun j hj => ?_
  refine Classical.byContradiction fun h'' => h' ⟨j, hj, ?_⟩
  rw [decide_eq_false h'']; rfl

theorem degree_fn (g : Option Nat) (xs : List Int) (hl : xs.length ≤ 1000000000) : FnV 192 [.ints g xs] (.int .i64 ((xs.length : Int) - 1)) := by
 refine fn_of (cx_ok [0, 2]) Tryz.func192 rfl (by decide) Tryz.ntmps192 (Nat.le_of_ble_eq_true rfl) fun base => ?_
 refine wrs fun K hK => ?_
 conv => whnf
 refine hK _ ?_
 clear hK K
 refine wrs fun K hK => ?_
 conv => whnf
 refine callV rfl (size_fn g xs) fun hs' hhs => ?_
 try dsimp only at hhs
 conv => whnf
 refine ⟨oo, ?_⟩
 conv => whnf
 refine hK _ ?_
 clear hK K
 refine W.ret ?_
 conv => whnf
 exact ⟨.v (.int .i64 ((xs.length : Int) - 1)), ⟨rfl, rfl⟩, trivial, rfl⟩

noncomputable def codeSm (xs : List Int) : Int := bif bP (IsPoly xs) then (bif bP (IsSm xs) then 0 else 2) else 1

theorem modC_fn (g : Option Nat) (p n : Int) (hp : 0 ≤ p ∧ p ≤ 97) : FnV 304 [.int .i64 n, .box g (.int .i64 p)] (.bool (!(decide (0 ≤ n ∧ n ≤ p - 1)))) := by
 refine fn_of (cx_ok [0, 1, 3]) Tryz.func304 rfl (by decide) Tryz.ntmps304 (Nat.le_of_ble_eq_true rfl) fun base => ?_
 refine wrs fun K hK => ?_
 conv => whnf
 refine hK _ ?_
 clear hK K
 refine wrs fun K hK => ?_
 conv => whnf
 refine ⟨oo, ?_⟩
 conv => whnf
 refine callV rfl (within_fn _ _ _) fun hs' hhs => ?_
 try dsimp only at hhs
 conv => whnf
 refine hK _ ?_
 clear hK K
 refine W.ret ?_
 conv => whnf
 exact ⟨.v (.bool (!(decide (0 ≤ n ∧ n ≤ p - 1)))), rfl, trivial, rfl⟩

theorem isP_le {p : Int} (h : isP p = true) : 2 ≤ p ∧ p ≤ 97 := primes_le (of_decide_eq_true h)

theorem isModular_fn (g : Option Nat) (p : Int) (xs : List Int) : FnV 151 [.int .i64 p, .ints g xs] (.bool (bP (IsMod p xs))) := by
 refine fn_of (cx_ok [0, 1, 2, 4, 17]) Tryz.func151 rfl (by decide) Tryz.ntmps151 (Nat.le_of_ble_eq_true rfl) fun base => ?_
 refine wrs fun K hK => ?_
 conv => whnf
 refine ⟨rfl, ?_⟩
 conv => whnf
 intro b_1 hs_1 hh_1 hf_1
 try dsimp only at hh_1 hf_1
 conv => whnf
 refine hK _ ?_
 clear hK K
 refine W.seqK fun K1 hK1 => ?_
 refine wrs fun K hK => ?_
 conv => whnf
 refine callV rfl (isSmallPrime_fn p) fun hs' hhs => ?_
 try dsimp only at hhs
 conv => whnf
 refine ⟨fun h => ?_, fun h => ?_⟩ <;> conv => whnf
 ·have h : isP p = false := by simpa using h
  refine hK _ (W.condT rfl ?_)
  clear hK K
  refine wrs fun K hK => ?_
  conv => whnf
  refine hK _ ?_
  clear hK K
  refine W.ret ?_
  conv => whnf
  exact ⟨.v (.bool (bP (IsMod p xs))), (by show bP _ = false; exact bP_false fun hh => by rw [hh.1] at h; cases h), trivial, rfl⟩
 have h : isP p = true := by simpa using h
 have hp := isP_le h
 refine ⟨fun h0 => ?_, fun h0 => ?_⟩ <;> conv => whnf
 ·have h0 := of_decide_eq_true h0
  refine hK _ (W.condT rfl ?_)
  clear hK K
  refine wrs fun K hK => ?_
  conv => whnf
  refine hK _ ?_
  clear hK K
  refine W.ret ?_
  conv => whnf
  exact ⟨.v (.bool (bP (IsMod p xs))), (by show bP _ = false; exact bP_false fun hh => by have := hh.2.1; omega), trivial, rfl⟩
 have h0 := of_decide_eq_false h0
 refine callV rfl (containsFunc_fn g xs 304 [.box none (.int .i64 p)] (fun i => !(decide (0 ≤ cf xs i ∧ cf xs i ≤ p - 1))) (by omega) (fun i hi => modC_fn _ p _ (by omega))) fun hs' hhs => ?_
 try dsimp only at hhs
 conv => whnf
 refine hK _ (W.cond ⟨fun h1 => ?_, fun h1 => ?_⟩) <;> clear hK K
 ·have h1 := not_all.1 (bP_iff.1 h1)
  refine wrs fun K hK => ?_
  conv => whnf
  refine hK _ ?_
  clear hK K
  refine W.ret ?_
  conv => whnf
  exact ⟨.v (.bool (bP (IsMod p xs))), (by show bP _ = false; exact bP_false fun hh => h1 hh.2.2.1), trivial, rfl⟩
 have h1 : AllR 0 (p - 1) xs := Classical.byContradiction fun h' => bP_not h1 (not_all.2 h')
 refine W.skip (hK1 _ ?_)
 clear hK1 K1
 refine wrs fun K hK => ?_
 conv => whnf
 refine ⟨fun h2 => ?_, fun h2 => ?_⟩ <;> conv => whnf
 ·have h2 := of_decide_eq_true h2
  refine hK _ ?_
  clear hK K
  refine W.ret ?_
  conv => whnf
  exact ⟨.v (.bool (bP (IsMod p xs))), (by show bP _ = true; exact bP_true ⟨h, by omega, h1, .inl (by omega)⟩), trivial, rfl⟩
 ·have h2 := of_decide_eq_false h2
  have e1 : ((xs.length : Int) - 1).toNat = xs.length - 1 := by omega
  refine ⟨oo, ?_⟩
  conv => whnf
  refine ⟨oo, ?_⟩
  conv => whnf
  rw [e1]
  refine hK _ ?_
  clear hK K
  refine W.ret ?_
  conv => whnf
  exact ⟨.v (.bool (bP (IsMod p xs))), (by show decide _ = bP _; by_cases h3 : cf xs (xs.length - 1) = 0; (rw [bP_false fun hh => hh.2.2.2.elim (by omega) fun h' => h' h3]; exact decide_eq_false fun h' => h' h3); (rw [bP_true ⟨h, by omega, h1, .inr h3⟩]; exact decide_eq_true h3)), trivial, rfl⟩

noncomputable def codeFa (p : Int) (xs : List Int) : Int := bif bP (IsMod p xs) then (if xs.length < 2 then 2 else 0) else 1

theorem factorable_fn (g : Option Nat) (p : Int) (xs : List Int) : FnV 198 [.int .i64 p, .ints g xs] (.int .i64 (codeFa p xs)) := by
 refine fn_of (cx_ok [0, 1, 4, 5, 10]) Tryz.func198 rfl (by decide) Tryz.ntmps198 (Nat.le_of_ble_eq_true rfl) fun base => ?_
 refine wrs fun K hK => ?_
 conv => whnf
 refine hK _ ?_
 clear hK K
 refine W.seqK fun K1 hK1 => W.block ?_
 refine wrs fun K hK => ?_
 conv => whnf
 refine callV rfl (isModular_fn g p xs) fun hs' hhs => ?_
 try dsimp only at hhs
 conv => whnf
 refine hK _ (W.cond ⟨fun h => ?_, fun h => ?_⟩) <;> clear hK K
 ·have h : bP (IsMod p xs) = false := by simpa using h
  refine wrs fun K hK => ?_
  conv => whnf
  refine hK _ ?_
  clear hK K
  refine W.ret ?_
  conv => whnf
  exact ⟨.v (.int .i64 (codeFa p xs)), ⟨rfl, by unfold codeFa; rw [h]; rfl⟩, trivial, rfl⟩
 have h : bP (IsMod p xs) = true := by simpa using h
 have hl := (bP_iff.1 h).2.1
 refine wrs fun K hK => ?_
 conv => whnf
 refine callV rfl (degree_fn g xs (by omega)) fun hs' hhs => ?_
 try dsimp only at hhs
 conv => whnf
 refine hK _ (W.cond ⟨fun h1 => ?_, fun h1 => ?_⟩) <;> clear hK K
 ·have h1 := of_decide_eq_true h1
  refine wrs fun K hK => ?_
  conv => whnf
  refine hK _ ?_
  clear hK K
  refine W.ret ?_
  conv => whnf
  exact ⟨.v (.int .i64 (codeFa p xs)), ⟨rfl, by unfold codeFa; rw [h, if_pos (by omega)]; rfl⟩, trivial, rfl⟩
 have h1 := of_decide_eq_false h1
 refine W.skip (hK1 _ ?_)
 clear hK1 K1
 refine wrs fun K hK => ?_
 conv => whnf
 refine hK _ ?_
 clear hK K
 refine W.ret ?_
 conv => whnf
 exact ⟨.v (.int .i64 (codeFa p xs)), ⟨rfl, by unfold codeFa; rw [h, if_neg (by omega)]; rfl⟩, trivial, rfl⟩

theorem isModS_fn (g : Option Nat) (p : Int) (xs : List Int) (hl : xs.length ≤ 1000000000) : FnV 184 [.int .i64 p, .ints g xs] (.bool (bP (IsMod p xs))) := by
 refine fn_of (cx_ok [0, 1, 4, 5, 13, 17, 27]) Tryz.func184 rfl (by decide) Tryz.ntmps184 (Nat.le_of_ble_eq_true rfl) fun base => ?_
 refine wrs fun K hK => ?_
 conv => whnf
 refine hK _ ?_
 clear hK K
 refine W.seqK fun K0 hK0 => ?_
 refine wrs fun K hK => ?_
 conv => whnf
 refine callV rfl (l01Small_fn p) fun hs' hhs => ?_
 try dsimp only at hhs
 conv => whnf
 refine ⟨fun h => ?_, fun h => ?_⟩ <;> conv => whnf
 ·have h : isP p = false := by simpa using h
  refine hK _ (W.condT rfl ?_)
  clear hK K
  refine wrs fun K hK => ?_
  conv => whnf
  refine hK _ ?_
  clear hK K
  refine W.ret ?_
  conv => whnf
  exact ⟨.v (.bool (bP (IsMod p xs))), (by show bP _ = false; exact bP_false fun hh => by rw [hh.1] at h; cases h), trivial, rfl⟩
 have h : isP p = true := by simpa using h
 have hp := isP_le h
 refine hK _ (W.cond ⟨fun h0 => ?_, fun h0 => ?_⟩) <;> clear hK K
 ·have h0 := of_decide_eq_true h0
  refine wrs fun K hK => ?_
  conv => whnf
  refine hK _ ?_
  clear hK K
  refine W.ret ?_
  conv => whnf
  exact ⟨.v (.bool (bP (IsMod p xs))), (by show bP _ = false; exact bP_false fun hh => by have := hh.2.1; omega), trivial, rfl⟩
 have h0 := of_decide_eq_false h0
 refine W.skip (hK0 _ ?_)
 clear hK0 K0
 refine W.seqK fun K1 hK1 => ?_
 refine wrs fun K hK => ?_
 conv => whnf
 refine hK _ (W.block (W.invA (fun m e => ∃ k : Nat, k ≤ xs.length ∧ (∀ j, j < k → 0 ≤ cf xs j ∧ cf xs j ≤ p - 1) ∧ m = xs.length - k ∧ e = [(0, .v (.int .i64 p)), (1, .v (.ints g xs)), (5, .v (.int .i64 k))]) ⟨0, Nat.zero_le _, fun j hj => by omega, rfl, rfl⟩ ?_))
 clear hK K
 rintro m e ⟨k, h1, h2, hm, rfl⟩
 refine W.seqK fun K7 hK7 => wrs fun K hK => ?_
 conv => whnf
 refine hK _ (W.cond ⟨fun h3 => ?_, fun h3 => ?_⟩) <;> clear hK K <;> (first | replace h3 := of_decide_eq_true h3 | replace h3 := of_decide_eq_false h3)
 ·refine W.skip (hK7 _ ?_)
  clear hK7 K7
  refine W.seqK fun K8 hK8 => W.block ?_
  refine wrs fun K hK => ?_
  conv => whnf
  refine ⟨oo, ?_⟩
  conv => whnf
  refine ⟨oo, ?_⟩
  conv => whnf
  rw [Int.toNat_natCast]
  refine callV rfl (l01In_fn _ _ _) fun hs' hhs => ?_
  try dsimp only at hhs
  conv => whnf
  refine hK _ (W.cond ⟨fun h4 => ?_, fun h4 => ?_⟩) <;> clear hK K
  ·have h4 : ¬ (0 ≤ cf xs k ∧ cf xs k ≤ p - 1) := nd_true h4
   refine wrs fun K hK => ?_
   conv => whnf
   refine hK _ ?_
   clear hK K
   refine W.ret ?_
   conv => whnf
   exact ⟨.v (.bool (bP (IsMod p xs))), (by show bP _ = false; exact bP_false fun hh => h4 (hh.2.2.1 k (by omega))), trivial, rfl⟩
  ·have h4 : 0 ≤ cf xs k ∧ cf xs k ≤ p - 1 := nd_false h4
   refine W.skip (hK8 _ ?_)
   clear hK8 K8
   refine wrg ?_
   conv => whnf
   refine ⟨oo, ?_⟩
   conv => whnf
   exact againA ⟨k + 1, by omega, fun j hj => by by_cases h9 : j = k; (subst h9; exact h4); exact h2 j (by omega), rfl, rfl⟩
 ·obtain rfl : k = xs.length := by omega
  refine W.exit (hK1 _ ?_)
  clear hK7 K7 hK1 K1
  have h1 : AllR 0 (p - 1) xs := h2
  refine wrs fun K hK => ?_
  conv => whnf
  refine ⟨fun h2 => ?_, fun h2 => ?_⟩ <;> conv => whnf
  ·have h2 := of_decide_eq_true h2
   refine hK _ ?_
   clear hK K
   refine W.ret ?_
   conv => whnf
   exact ⟨.v (.bool (bP (IsMod p xs))), (by show bP _ = true; exact bP_true ⟨h, by omega, h1, .inl (by omega)⟩), trivial, rfl⟩
  ·have h2 := of_decide_eq_false h2
   have e1 : ((xs.length : Int) - 1).toNat = xs.length - 1 := by omega
   refine ⟨oo, ?_⟩
   conv => whnf
   refine ⟨oo, ?_⟩
   conv => whnf
   rw [e1]
   refine hK _ ?_
   clear hK K
   refine W.ret ?_
   conv => whnf
   exact ⟨.v (.bool (bP (IsMod p xs))), (by show decide _ = bP _; by_cases h3 : cf xs (xs.length - 1) = 0; (rw [bP_false fun hh => hh.2.2.2.elim (by omega) fun h' => h' h3]; exact decide_eq_false fun h' => h' h3); (rw [bP_true ⟨h, by omega, h1, .inr h3⟩]; exact decide_eq_true h3)), trivial, rfl⟩

theorem l09Code_fn (g : Option Nat) (p : Int) (xs : List Int) (hl : xs.length ≤ 1000000000) : FnV 202 [.int .i64 p, .ints g xs] (.int .i64 (codeFa p xs)) := by
 refine fn_of (cx_ok [0, 1, 4, 8, 11]) Tryz.func202 rfl (by decide) Tryz.ntmps202 (Nat.le_of_ble_eq_true rfl) fun base => ?_
 refine wrs fun K hK => ?_
 conv => whnf
 refine hK _ ?_
 clear hK K
 refine W.seqK fun K1 hK1 => ?_
 refine wrs fun K hK => ?_
 conv => whnf
 refine callV rfl (isModS_fn g p xs hl) fun hs' hhs => ?_
 try dsimp only at hhs
 conv => whnf
 refine hK _ (W.cond ⟨fun h => ?_, fun h => ?_⟩) <;> clear hK K
 ·have h : bP (IsMod p xs) = false := by simpa using h
  refine wrs fun K hK => ?_
  conv => whnf
  refine hK _ ?_
  clear hK K
  refine W.ret ?_
  conv => whnf
  exact ⟨.v (.int .i64 (codeFa p xs)), ⟨rfl, by unfold codeFa; rw [h]; rfl⟩, trivial, rfl⟩
 have h : bP (IsMod p xs) = true := by simpa using h
 refine W.skip (hK1 _ ?_)
 clear hK1 K1
 refine W.seqK fun K1 hK1 => ?_
 refine wrs fun K hK => ?_
 conv => whnf
 refine hK _ (W.cond ⟨fun h1 => ?_, fun h1 => ?_⟩) <;> clear hK K
 ·have h1 := of_decide_eq_true h1
  refine wrs fun K hK => ?_
  conv => whnf
  refine hK _ ?_
  clear hK K
  refine W.ret ?_
  conv => whnf
  exact ⟨.v (.int .i64 (codeFa p xs)), ⟨rfl, by unfold codeFa; rw [h, if_pos (by omega)]; rfl⟩, trivial, rfl⟩
 have h1 := of_decide_eq_false h1
 refine W.skip (hK1 _ ?_)
 clear hK1 K1
 refine wrs fun K hK => ?_
 conv => whnf
 refine hK _ ?_
 clear hK K
 refine W.ret ?_
 conv => whnf
 exact ⟨.v (.int .i64 (codeFa p xs)), ⟨rfl, by unfold codeFa; rw [h, if_neg (by omega)]; rfl⟩, trivial, rfl⟩

theorem codeFa_ok {p : Int} {xs : List Int} (h : codeFa p xs = 0) : IsMod p xs ∧ 2 ≤ xs.length := by
 unfold codeFa at h
 by_cases h1 : IsMod p xs
 ·rw [bP_true h1] at h
  by_cases h2 : xs.length < 2
  ·rw [if_pos h2] at h; cases h
  ·exact ⟨h1, by omega⟩
 ·rw [bP_false h1] at h; cases h
theorem poly_of {p : Int} {xs : List Int} (h : IsMod p xs) : ∃ hp : p ∈ primes, letI := sp_of hp; ∃ f : Poly p, f.l = xs := by
 have hp : p ∈ primes := of_decide_eq_true h.1
 refine ⟨hp, ?_⟩
 letI := sp_of hp
 refine ⟨⟨xs, ⟨fun x hx => ?_, fun n hn => ?_⟩⟩, rfl⟩
 ·obtain ⟨i, hi, rfl⟩ := List.getElem_of_mem hx
  have h1 := h.2.2.1 i hi
  rw [cf_lt hi] at h1; omega
 ·rcases h.2.2.2 with h0 | h0
  ·omega
  ·rw [hn] at h0; exact h0

open Go Go.RowKit Go.Proofs Poly
set_option maxRecDepth 100000
set_option maxHeartbeats 8000000

theorem oneF_irr {p : Int} [SP p] {f : Poly p} (hf : f ≠ 0) {F : List (Poly p × Nat)} (hF : FacOf f F) : oneF F = bP (Irr f) := by
 by_cases h : Irr f
 ·rw [bP_true h, hF.unique (one_of_irr h)]; rfl
 ·rw [bP_false h]
  match F, hF with
  | [], _ => rfl
  | [(h', 1)], hF => exact absurd (irr_of_one hf hF) h
  | [(h', 0)], _ => rfl
  | [(h', n + 2)], _ =>
   show decide (((n + 2 : Nat) : Int) = 1) = false
   exact decide_eq_false (by omega)
  | _ :: _ :: l, _ =>
   unfold oneF
   rw [decide_eq_false (by simp only [List.length_cons]; omega)]; rfl

theorem isIrreducible_V (p : Int) [SP p] (g : Option Nat) (f : Poly p) (hf : dg f ≤ 13) (hf0 : f ≠ 0) : FnV 199 [.int .i64 p, .ints g f.l] (.bool (bP (Irr f))) :=
 (isIrreducible_fn p g f hf hf0).mono fun _ _ a ⟨F, hF, h⟩ => by rw [h, oneF_irr hf0 hF]
theorem l09Irreducible_V (p : Int) [SP p] (g : Option Nat) (f : Poly p) (hf : dg f ≤ 13) (hf0 : f ≠ 0) : FnV 208 [.int .i64 p, .ints g f.l] (.bool (bP (Irr f))) :=
 (l09Irreducible_fn p g f hf hf0).mono fun _ _ a ⟨F, hF, h⟩ => by rw [h, oneF_irr hf0 hF]

def GoodBy (xs : List Int) (q : Int) : Prop := ∃ h : q ∈ primes, cf xs (xs.length - 1) % q ≠ 0 ∧ (letI := sp_of h; Irr (of q xs))
structure ByOut (xs : List Int) (r c : Int) : Prop where
 bad : codeSm xs ≠ 0 → r = 0 ∧ c = codeSm xs
 yes : codeSm xs = 0 → (2 ≤ r ∧ r ≤ 97 ∧ c = 0 ∧ GoodBy xs r ∧ ∀ q, 2 ≤ q → q < r → ¬ GoodBy xs q) ∨ (r = 0 ∧ c = 4 ∧ ∀ q, 2 ≤ q → q ≤ 97 → ¬ GoodBy xs q)
theorem ByOut.unique {xs : List Int} {r c r' c' : Int} (h : ByOut xs r c) (h' : ByOut xs r' c') : r = r' ∧ c = c' := by
 by_cases h0 : codeSm xs = 0
 ·rcases h.yes h0 with ⟨a1, a2, a3, a4, a5⟩ | ⟨a1, a2, a3⟩ <;> rcases h'.yes h0 with ⟨b1, b2, b3, b4, b5⟩ | ⟨b1, b2, b3⟩
  ·rcases Int.lt_trichotomy r r' with h1 | h1 | h1
   ·exact absurd a4 (b5 r a1 h1)
   ·omega
   ·exact absurd b4 (a5 r' b1 h1)
  ·exact absurd a4 (b3 r a1 a2)
  ·exact absurd b4 (a3 r' b1 b2)
  ·omega
 ·have := h.bad h0; have := h'.bad h0; omega

theorem IsSm.bd {xs : List Int} (h : IsSm xs) : Bd 60 xs := fun j => by
 by_cases hj : j < xs.length
 ·have := h.2.2.2 j hj; omega
 ·rw [cf_ge (by omega)]; omega

open Go Go.RowKit Go.Proofs Poly
set_option maxRecDepth 100000
set_option maxHeartbeats 8000000

/- fields -/
def szL (n : Nat) : Int := if (1048576 : Int) - n < 0 then -1 else 1048576 - n
theorem tbAdd_self (tb : Tab) (b : Nat) {xs : List Int} (h : xs ≠ []) : tbAdd tb b xs b = some xs := by
 cases xs with
 | nil => exact absurd rfl h
 | cons x l => exact tbSet_self ..

open Go Go.RowKit Go.Proofs Poly
set_option maxRecDepth 100000
set_option maxHeartbeats 8000000

def IsMon (xs : List Int) : Prop := 0 < xs.length ∧ cf xs (xs.length - 1) = 1

structure IsFld (p : Int) (l : List Int) : Prop where
 mod : IsMod p l
 mon : IsMon l
 two : 2 ≤ l.length
 ord : p ^ (l.length - 1) ≤ 20000
 irr : ∃ h : p ∈ primes, letI := sp_of h; ∃ f : Poly p, f.l = l ∧ Irr f

open Go Go.RowKit Go.Proofs Poly
set_option maxRecDepth 100000
set_option maxHeartbeats 8000000

def IsFirst (Q : Nat → Prop) (a b : Nat) : Option Nat → Prop
 | some m => a ≤ m ∧ m < b ∧ Q m ∧ ∀ k, a ≤ k → k < m → ¬ Q k
 | none => ∀ k, a ≤ k → k < b → ¬ Q k
theorem IsFirst.unique {Q : Nat → Prop} {a b : Nat} {r r' : Option Nat} (h : IsFirst Q a b r) (h' : IsFirst Q a b r') : r = r' := by
 cases r with
 | none => cases r' with
  | none => rfl
  | some m => exact absurd h'.2.2.1 (h m h'.1 h'.2.1)
 | some m => cases r' with
  | none => exact absurd h.2.2.1 (h' m h.1 h.2.1)
  | some m' =>
   obtain ⟨h1, h2, h3, h4⟩ := h
   obtain ⟨k1, k2, k3, k4⟩ := h'
   rcases Nat.lt_trichotomy m m' with h5 | h5 | h5
   ·exact absurd h3 (k4 m h1 h5)
   ·rw [h5]
   ·exact absurd k3 (h4 m' k1 h5)
open Go Go.RowKit Go.Proofs Poly
set_option maxRecDepth 100000
set_option maxHeartbeats 8000000

/- fields -/
open Go Go.RowKit Go.Proofs Poly
set_option maxRecDepth 100000
set_option maxHeartbeats 8000000

def two (x y : List Int) (i : Nat) : List Int := if i = 0 then x else y

open Go Go.RowKit Go.Proofs Poly
set_option maxRecDepth 100000
set_option maxHeartbeats 8000000

def RT (l : List Int) (c : Int) : PostT := fun _ _ x tb => ∃ b : Nat, x = .tup [.rf b l.length, .int .i64 c] ∧ (l ≠ [] → tb b = some l)
abbrev RV (l : List Int) (c : Int) : V := .tup [.ints none l, .int .i64 c]
open Go Go.RowKit Go.Proofs Poly
set_option maxRecDepth 100000
set_option maxHeartbeats 8000000

/- powers -/
def R1 (l : List Int) : PostT := fun _ _ x tb => ∃ b : Nat, x = .rf b l.length ∧ (l ≠ [] → tb b = some l)
open Go Go.RowKit Go.Proofs Poly
set_option maxRecDepth 100000
set_option maxHeartbeats 8000000

/- the program's begin: a field, an element, something more (a value b) -/
/- the reference's: $1 name $2 modulus $3 element $4 $5 their ghosts -/
/- c is not 0 -/
/- what becomes of c = 0 and something not right: code 2 -/

open Go Go.RowKit Go.Proofs Poly
set_option maxRecDepth 100000
set_option maxHeartbeats 8000000

open Go Go.RowKit Go.Proofs Poly
set_option maxRecDepth 100000
set_option maxHeartbeats 8000000

open Go Go.RowKit Go.Proofs Poly
set_option maxRecDepth 100000
set_option maxHeartbeats 8000000

open Go Go.RowKit Go.Proofs Poly
set_option maxRecDepth 100000
set_option maxHeartbeats 8000000

def Prim {p : Int} [SP p] (f X : Poly p) : Prop := IsOrd f X (p.toNat ^ (dg f - 1) - 1)
theorem Prim.ne {p : Int} [SP p] {f X : Poly p} (hi : Irr f) (h : Prim f X) : X ≠ 0 := ndvd_ne (h.ndvd hi)
open Go Go.RowKit Go.Proofs Poly
set_option maxRecDepth 100000
set_option maxHeartbeats 8000000

open Go Go.RowKit Go.Proofs Poly
set_option maxRecDepth 100000
set_option maxHeartbeats 8000000

open Go Go.RowKit Go.Proofs Poly
set_option maxRecDepth 100000
set_option maxHeartbeats 8000000

/- how many are primitive -/
open Go Go.RowKit Go.Proofs Poly
set_option maxRecDepth 100000
set_option maxHeartbeats 8000000

theorem mul64_fn (a b : Nat) (ha : a ≤ 1000) (hb : b ≤ 1000000) : FnV 391 [.int .u64 a, .int .u64 b] (.tup [.int .u64 0, .int .u64 (a * b : Nat)]) := by
 have hab : a * b ≤ 1000 * 1000000 := Nat.mul_le_mul ha hb
 have p32 : (2 : Int) ^ Int.toNat 32 = 4294967296 := rfl
 have ea : (a : Int) % (4294967295 + 1) = a := by omega
 have eb : (b : Int) % (4294967295 + 1) = b := by omega
 have da : (a : Int) / 2 ^ Int.toNat 32 = 0 := by rw [p32]; omega
 have db : (b : Int) / 2 ^ Int.toNat 32 = 0 := by rw [p32]; omega
 have em : (a : Int) * b % 18446744073709551616 = ((a * b : Nat) : Int) := by rw [← Int.natCast_mul]; omega
 have dm : ((a * b : Nat) : Int) / 2 ^ Int.toNat 32 = 0 := by rw [p32]; omega
 refine fn_of (cx_ok [0, 1, 4, 5, 6, 7, 8, 9, 10, 11, 12, 13]) Tryz.func391 rfl (by decide) Tryz.ntmps391 (Nat.le_of_ble_eq_true rfl) fun base => ?_
 refine wrs fun K hK => ?_
 conv => whnf
 refine hK _ ?_
 clear hK K
 refine wrs fun K hK => ?_
 conv => whnf
 refine ⟨⟨⟨by omega, by omega⟩, .inl rfl⟩, ?_⟩
 conv => whnf
 rw [ea]
 refine hK _ ?_
 clear hK K
 refine wrs fun K hK => ?_
 conv => whnf
 refine ⟨⟨by omega, by decide, by decide⟩, ?_⟩
 conv => whnf
 rw [da]
 refine hK _ ?_
 clear hK K
 refine wrs fun K hK => ?_
 conv => whnf
 refine ⟨⟨⟨by omega, by omega⟩, .inl rfl⟩, ?_⟩
 conv => whnf
 rw [eb]
 refine hK _ ?_
 clear hK K
 refine wrs fun K hK => ?_
 conv => whnf
 refine ⟨⟨by omega, by decide, by decide⟩, ?_⟩
 conv => whnf
 rw [db]
 refine hK _ ?_
 clear hK K
 refine wrs fun K hK => ?_
 conv => whnf
 rw [em]
 refine hK _ ?_
 clear hK K
 refine wrs fun K hK => ?_
 conv => whnf
 refine ⟨⟨by omega, by decide, by decide⟩, ?_⟩
 conv => whnf
 rw [dm, show ((0 : Int) * b % 18446744073709551616 + 0) % 18446744073709551616 = 0 by omega]
 refine hK _ ?_
 clear hK K
 refine wrs fun K hK => ?_
 conv => whnf
 refine ⟨⟨⟨by decide, by decide⟩, .inl rfl⟩, ?_⟩
 conv => whnf
 rw [show (0 : Int) % (4294967295 + 1) = 0 by decide]
 refine hK _ ?_
 clear hK K
 refine wrs fun K hK => ?_
 conv => whnf
 refine ⟨⟨by decide, by decide, by decide⟩, ?_⟩
 conv => whnf
 rw [show (0 : Int) / 2 ^ Int.toNat 32 = 0 from rfl]
 refine hK _ ?_
 clear hK K
 refine wrs fun K hK => ?_
 conv => whnf
 rw [show ((0 : Int) + (a : Int) * 0 % 18446744073709551616) % 18446744073709551616 = 0 by omega]
 refine hK _ ?_
 clear hK K
 refine wrs fun K hK => ?_
 conv => whnf
 refine ⟨⟨by decide, by decide, by decide⟩, ?_⟩
 conv => whnf
 rw [show (0 : Int) / 2 ^ Int.toNat 32 = 0 from rfl, show (((0 : Int) * 0 % 18446744073709551616 + 0) % 18446744073709551616 + 0) % 18446744073709551616 = 0 by decide]
 refine hK _ ?_
 clear hK K
 refine wrs fun K hK => ?_
 conv => whnf
 rw [em]
 refine hK _ ?_
 clear hK K
 refine W.ret ?_
 conv => whnf
 exact ⟨.v (.int .u64 0), ⟨rfl, rfl⟩, trivial, .v (.int .u64 (a * b : Nat)), ⟨rfl, rfl⟩, trivial, rfl⟩

theorem mul_fn (a b : Nat) (ha : a ≤ 1000) (hb : b ≤ 1000000) : FnV 370 [.int .u64 a, .int .u64 b] (.tup [.int .u64 0, .int .u64 (a * b : Nat)]) := by
 refine fn_of (cx_ok [0, 1, 4, 5, 6, 7, 8, 9]) Tryz.func370 rfl (by decide) Tryz.ntmps370 (Nat.le_of_ble_eq_true rfl) fun base => ?_
 refine wrs fun K hK => ?_
 conv => whnf
 refine hK _ ?_
 clear hK K
 refine W.seqK fun K1 hK1 => ?_
 refine W.cond (W.skip (cx := cx []) (hK1 _ ?_))
 clear hK1 K1
 refine wrs fun K hK => ?_
 conv => whnf
 refine callV rfl (mul64_fn a b ha hb) fun hs' hhs => ?_
 try dsimp only at hhs
 conv => whnf
 refine hK _ ?_
 clear hK K
 refine wrs fun K hK => ?_
 conv => whnf
 refine hK _ ?_
 clear hK K
 refine W.ret ?_
 conv => whnf
 exact ⟨.v (.int .u64 0), ⟨rfl, rfl⟩, trivial, .v (.int .u64 (a * b : Nat)), ⟨rfl, rfl⟩, trivial, rfl⟩

def fillL (c : Int) (n k : Nat) : List Int := List.replicate k c ++ List.replicate (n - k) 0
theorem fillL_length {c : Int} {n k : Nat} (h : k ≤ n) : (fillL c n k).length = n := by simp [fillL]; omega
theorem fillL_all (c : Int) (n : Nat) : fillL c n n = List.replicate n c := by simp [fillL]
theorem fillL_none (c : Int) (n : Nat) : List.replicate n 0 = fillL c n 0 := by simp [fillL]

theorem fillL_first (c : Int) {n : Nat} (h : 1 ≤ n) : putL (fillL c n 0) 0 n [c] = fillL c n 1 := by
 unfold putL fillL
 have h1 : min n ([c] : List Int).length = 1 := by simp; omega
 have h2 : ([c] : List Int).take n = [c] := List.take_of_length_le (by simpa using h)
 rw [h1, h2]
 simp
theorem fillL_src {c : Int} {n k : Nat} (_ : k ≤ n) : ((fillL c n k).drop 0).take k = List.replicate k c := by simp [fillL]
theorem fillL_put' {c : Int} {n k : Nat} (h : k ≤ n) : putL (fillL c n k) k (n - k) (List.replicate k c) = fillL c n (min n (k + k)) := by
 unfold putL fillL
 rw [List.length_replicate, List.take_replicate]
 have e1 : (List.replicate k c ++ List.replicate (n - k) 0).take k = List.replicate k c := by simp
 have e2 : (List.replicate k c ++ List.replicate (n - k) (0 : Int)).drop (k + min (n - k) k) = List.replicate (n - min n (k + k)) 0 := by
  rw [List.drop_append]; simp; omega
 rw [e1, e2, List.replicate_append_replicate]
 congr 2
 omega

def R1r (l : List Int) : PostT := fun _ _ x tb => ∃ b : Nat, x = .rf b l.length ∧ (l ≠ [] → tb b = some l)

theorem repeat_T (g : Option Nat) (c : Int) (n : Nat) (hn : 1 ≤ n) (hn2 : n ≤ 1000000) : FnT Tryz.prog 323 [.ints g [c], .int .i64 n] (R1r (List.replicate n c)) := by
 have e1 : ([c] : List Int).length = 1 := rfl
 refine fnt_of (cxt_ok [] [0, 1, 4, 5, 6, 7, 8, 10, 26, 37, 1000000]) Tryz.func323 rfl (by decide) Tryz.ntmps323 (Nat.le_of_ble_eq_true rfl) (fun base => ?_) (Nat.le_of_ble_eq_true rfl)
 refine W.sw (c' := cx [0, 1, 4, 5, 6, 7, 8, 10, 26, 37, 1000000]) ?_
 refine wrs fun K hK => ?_
 conv => whnf
 refine hK _ ?_
 clear hK K
 refine W.seqK fun K1 hK1 => ?_
 refine wrs fun K hK => ?_
 conv => whnf
 refine hK _ (W.cond ⟨fun h => absurd (of_decide_eq_true h) (by omega), fun _ => W.skip (hK1 _ ?_)⟩)
 clear hK K hK1 K1
 refine wrs fun K hK => ?_
 conv => whnf
 rw [e1]
 refine ⟨⟨by decide, by decide, by decide⟩, ?_⟩
 conv => whnf
 refine ⟨⟨by omega, by omega, by omega⟩, ?_⟩
 conv => whnf
 refine callV rfl (mul_fn 1 n (by omega) hn2) fun hs' hhs => ?_
 try dsimp only at hhs
 conv => whnf
 rw [Nat.one_mul]
 refine hK _ ?_
 clear hK K
 refine W.seqK fun K1 hK1 => ?_
 refine wrs fun K hK => ?_
 conv => whnf
 refine ⟨fun h => ?_, fun h => ?_⟩ <;> conv => whnf
 ·exact absurd (of_decide_eq_true h) (by decide)
 refine hK _ (W.cond ⟨fun h => absurd (of_decide_eq_true h) (by omega), fun _ => W.skip (hK1 _ ?_)⟩)
 clear hK K hK1 K1
 refine wrs fun K hK => ?_
 conv => whnf
 refine ⟨⟨by omega, by omega, by omega⟩, ?_⟩
 conv => whnf
 refine ⟨rfl, ?_⟩
 conv => whnf
 refine ⟨oo, ?_⟩
 conv => whnf
 rw [Int.toNat_natCast]
 intro b_2 hs_2 hh_2 hf_2
 try dsimp only at hh_2 hf_2
 conv => whnf
 refine hK _ ?_
 clear hK K
 refine W.give 7 fun K hK => ?_
 conv => whnf
 refine hK _ ?_
 clear hK K
 rw [List.length_replicate]
 have hne : List.replicate n (0 : Int) ≠ [] := fun e => by have := congrArg List.length e; simp at this; omega
 have htb0 := tbAdd_self (fun _ => none) b_2 (xs := List.replicate n (0 : Int)) hne
 rw [fillL_none c n] at htb0
 refine wrs fun K hK => ?_
 conv => whnf
 refine ⟨by omega, ?_⟩
 conv => whnf
 refine ⟨by simp, ?_⟩
 conv => whnf
 refine ⟨_, htb0, by rw [fillL_length (by omega)]; omega, ?_⟩
 conv => whnf
 rw [e1, fillL_first c hn, show min n 1 = 1 by omega]
 refine hK _ ?_
 clear hK K
 refine W.seqK fun K1 hK1 => W.block (W.invA (fun m e => ∃ (k : Nat) (tb : Tab), 1 ≤ k ∧ k ≤ n ∧ tb b_2 = some (fillL c n k) ∧ m = n - k ∧ e = [(vt, .tab tb), (7, .v (.rf b_2 n)), (8, .v (.int .i64 k))]) ⟨1, _, Nat.le_refl _, hn, tbSet_self _ _ _, rfl, rfl⟩ ?_)
 rintro m e ⟨k, tb, hk1, hk2, htb, hm, rfl⟩
 have hfl : (fillL c n k).length = n := fillL_length hk2
 refine W.seqK fun K7 hK7 => wrs fun K hK => ?_
 conv => whnf
 refine hK _ (W.cond ⟨fun h => ?_, fun h => ?_⟩) <;> clear hK K <;> (first | replace h := of_decide_eq_true h | replace h := of_decide_eq_false h)
 ·refine W.skip (hK7 _ (W.block ?_))
  clear hK7 K7
  refine W.sch follows ?_
  refine wt 0 ?_
  conv => whnf
  refine wt 1 ?_
  conv => whnf
  refine wt 2 ?_
  conv => whnf
  refine wt 3 ?_
  conv => whnf
  refine ⟨⟨by omega, by omega, by omega⟩, ?_⟩
  conv => whnf
  rw [Int.toNat_natCast, Int.toNat_natCast]
  refine wt 4 ?_
  conv => whnf
  refine wt 5 ?_
  conv => whnf
  refine wt 6 ?_
  conv => whnf
  refine ⟨⟨by decide, by omega, by omega⟩, ?_⟩
  conv => whnf
  rw [Int.toNat_natCast, show Int.toNat 0 = 0 from rfl, Nat.sub_zero]
  refine w1 7 ?_
  conv => whnf
  refine ⟨_, htb, by rw [hfl]; omega, ?_⟩
  conv => whnf
  refine ⟨_, htb, by rw [hfl]; omega, ?_⟩
  rw [fillL_src hk2, fillL_put' hk2, List.length_replicate]
  conv => whnf
  refine w1 8 ?_
  conv => whnf
  refine ⟨oo, ?_⟩
  conv => whnf
  refine w1 9 ?_
  conv => whnf
  refine Wany.done (by kernel_rfl) ?_
  conv => whnf
  refine ⟨_, _, ⟨min n (k + k), tbSet tb b_2 (fillL c n (min n (k + k))), by omega, by omega, tbSet_self _ _ _, rfl, rfl⟩, by omega, by dsimp only; omega, ?_⟩
  repeat' first | refine And.intro ?_ ?_ | exact trivial | rfl | omega | exact fun _ _ h => h
-- 1 ways
 ·obtain rfl : k = n := by omega
  refine W.exit (hK1 _ ?_)
  clear hK7 K7 hK1 K1
  rw [fillL_all] at htb
  refine wrs fun K hK => ?_
  conv => whnf
  refine hK _ ?_
  clear hK K
  refine W.ret ?_
  conv => whnf
  refine ⟨.v (.rf b_2 k), rfl, trivial, b_2, by rw [List.length_replicate], fun _ => htb⟩

theorem repeat_fn (g : Option Nat) (c : Int) (n : Nat) (hn : 1 ≤ n) (hn2 : n ≤ 1000000) : FnV 323 [.ints g [c], .int .i64 n] (.ints none (List.replicate n c)) :=
 (repeat_T g c n hn hn2).toV fun _ _ _ _ ⟨_, hx, hb⟩ => by subst hx; exact ⟨List.replicate n c, rfl, hb, rfl⟩

/- degrees -/
theorem repl_snoc {α : Type} (n : Nat) (a : α) : List.replicate n a ++ [a] = List.replicate (n + 1) a := by
 rw [List.replicate_succ']
def degT {p : Int} [SP p] (F : List (Poly p × Nat)) : Nat → List Int
 | 0 => []
 | k + 1 => degT F k ++ List.replicate (F.getD k (0, 0)).2 (((F.getD k (0, 0)).1.l.length : Int) - 1)
theorem degT_len {p : Int} [SP p] {F : List (Poly p × Nat)} (h : ∀ j, j < F.length → (F.getD j (0, 0)).2 ≤ 13) : ∀ k, k ≤ F.length → (degT F k).length ≤ 13 * k
 | 0, _ => Nat.le_refl _
 | k + 1, hk => by
  have h1 := degT_len h k (by omega)
  have h2 := h k (by omega)
  rw [degT, List.length_append, List.length_replicate]; omega
theorem _root_.Go.Proofs.YtlmckocbhcpmdaaGreat.Poly.FacOf.fac {p : Int} [SP p] {f : Poly p} {F : List (Poly p × Nat)} (h : FacOf f F) (hf0 : f ≠ 0) (hf : dg f ≤ 13) : ∀ j, j < F.length → dg (F.getD j (0, 0)).1 ≤ 13 ∧ 2 ≤ dg (F.getD j (0, 0)).1 ∧ 1 ≤ (F.getD j (0, 0)).2 ∧ (F.getD j (0, 0)).2 ≤ 13 := fun j hj => by
 obtain ⟨h3, _, h1, h2⟩ := (h.2 (F.getD j (0, 0))).1 (by rw [getD_lt hj]; exact List.getElem_mem hj)
 have h4 := dvd_dg (h2.dvd h1) hf0
 have h5 := pow_dg h3.1 (F.getD j (0, 0)).2
 obtain ⟨u, hu, _⟩ := h2
 have h6 := dvd_dg (⟨u, hu⟩ : (F.getD j (0, 0)).1 ^ (F.getD j (0, 0)).2 ∣ f) hf0
 exact ⟨by omega, h3.1, h1, by omega⟩

theorem degreesOf_T (p : Int) [SP p] (g : Option Nat) (f : Poly p) (F : List (Poly p × Nat)) (hF : FacOf f F) (hf0 : f ≠ 0) (h9 : dg f ≤ 13) : FnT Tryz.prog 201 [.int .i64 p, .ints g f.l] (R1r (degT F F.length)) := by
 have hfl : f.l.length = dg f := rfl
 have hFs := hF.fac hf0 h9
 have hFl := hF.facs.few hf0
 have hdl := degT_len (fun j hj => (hFs j hj).2.2.2)
 refine fnt_of (cxt_ok [] [0, 1, 4, 5, 7, 10, 11, 12, 13, 1000000]) Tryz.func201 rfl (by decide) Tryz.ntmps201 (Nat.le_of_ble_eq_true rfl) (fun base => ?_) (Nat.le_of_ble_eq_true rfl)
 refine W.sw (c' := cx [0, 1, 4, 5, 7, 10, 11, 12, 13, 1000000]) ?_
 refine wrs fun K hK => ?_
 conv => whnf
 refine hK _ ?_
 clear hK K
 refine wrs fun K hK => ?_
 conv => whnf
 refine hK _ ?_
 clear hK K
 refine W.seqK fun K1 hK1 => ?_
 refine wrs fun K hK => ?_
 conv => whnf
 refine callP rfl (factorsBy_fn p _ g f (Nat.le_refl _) (by omega) hf0) ?_
 rintro lo hi hi' z hl1 hl2 hl3 ⟨F', hF', rfl⟩ _
 obtain rfl := hF.unique hF'
 try dsimp only at hl1 hl2
 conv => whnf
 refine hK _ (W.block (W.invA (fun m e => ∃ (k b : Nat) (o : List Int), k ≤ F.length ∧ o = degT F k ∧ m = F.length - k ∧ e = [(vt, .tab fun _ => none), (5, .ownI 2 b o), (10, .v (vFs F)), (11, .v (.int .i64 F.length)), (12, .v (.int .i64 k))]) ⟨0, 0, [], Nat.zero_le _, rfl, rfl, rfl⟩ ?_))
 clear hK K
 rintro m e ⟨k, b, o, hk, rfl, hm, rfl⟩
 refine wrs fun K hK => ?_
 conv => whnf
 refine hK _ ?_
 clear hK K
 refine W.seqK fun K7 hK7 => W.cond ⟨fun h3 => ?_, fun h3 => ?_⟩ <;> (first | replace h3 := of_decide_eq_true h3 | replace h3 := of_decide_eq_false h3)
 ·obtain ⟨hx1, hx2, hx3, hx4⟩ := hFs k (by omega)
  have hol := hdl k (by omega)
  have hxl : (F.getD k (0, 0)).1.l.length = dg (F.getD k (0, 0)).1 := rfl
  refine W.skip (hK7 _ ?_)
  clear hK7 K7
  refine W.seqK fun K8 hK8 => W.block ?_
  refine wrs fun K hK => ?_
  conv => whnf
  refine ⟨oo, ?_⟩
  conv => whnf
  rw [Int.toNat_natCast]
  intro b_2 hs_2 hh_2 hf_2
  try dsimp only at hh_2 hf_2
  conv => whnf
  refine ⟨s23, ?_⟩
  conv => whnf
  refine hK _ ?_
  clear hK K
  refine W.drawS 8 (cx_ok _) follows (by rfl) ?_
  conv => whnf
  refine ⟨_, cxF (degree_fn none _ (by omega)), ?_⟩
  conv => whnf
  refine ⟨⟨rfl, by decide⟩, ?_⟩
  conv => whnf
  refine ⟨_, cxF (repeat_fn none _ _ hx3 (by omega)), ?_⟩
  conv => whnf
  refine ⟨by rw [List.length_replicate]; omega, ?_⟩
  conv => whnf
  intro b_6 hs_6 hh_6 hf_6
  try dsimp only at hh_6 hf_6
  conv => whnf
  refine hK8 _ ?_
  clear hK8 K8
  refine wrg ?_
  conv => whnf
  refine ⟨oo, ?_⟩
  conv => whnf
  exact againA ⟨k + 1, b_6, _, by omega, rfl, rfl, rfl⟩
 ·obtain rfl : k = F.length := by omega
  refine W.exit (hK1 _ ?_)
  clear hK7 K7 hK1 K1
  refine W.sw (c' := cxt [] [0, 1, 4, 5, 7, 10, 11, 12, 13, 1000000]) ?_
  refine W.rs (cxt_ok _ _) (by rfl) fun K hK => ?_
  conv => whnf
  refine hK _ ?_
  clear hK K
  refine W.ret ?_
  conv => whnf
  exact ⟨.v (.rf b (degT F F.length).length), rfl, trivial, b, rfl, fun h => tbAdd_self _ _ h⟩
theorem degreesOf_fn (p : Int) [SP p] (g : Option Nat) (f : Poly p) (F : List (Poly p × Nat)) (hF : FacOf f F) (hf0 : f ≠ 0) (h9 : dg f ≤ 13) : FnV 201 [.int .i64 p, .ints g f.l] (.ints none (degT F F.length)) :=
 (degreesOf_T p g f F hF hf0 h9).toV fun _ _ _ _ ⟨_, hx, hb⟩ => by subst hx; exact ⟨degT F F.length, rfl, hb, rfl⟩

theorem l09Degrees_fn (p : Int) [SP p] (g : Option Nat) (f : Poly p) (F : List (Poly p × Nat)) (hF : FacOf f F) (hf0 : f ≠ 0) (h9 : dg f ≤ 13) : FnV 203 [.int .i64 p, .ints g f.l] (.ints none (degT F F.length)) := by
 have hfl : f.l.length = dg f := rfl
 have hFs := hF.fac hf0 h9
 have hFl := hF.facs.few hf0
 have hdl := degT_len (fun j hj => (hFs j hj).2.2.2)
 refine fn_of (cx_ok [0, 1, 4, 5, 6, 7, 8, 16, 25]) Tryz.func203 rfl (by decide) Tryz.ntmps203 (Nat.le_of_ble_eq_true rfl) fun base => ?_
 refine wrs fun K hK => ?_
 conv => whnf
 refine hK _ ?_
 clear hK K
 refine wrs fun K hK => ?_
 conv => whnf
 refine ⟨⟨rfl, by decide⟩, ?_⟩
 conv => whnf
 intro b_1 hs_1 hh_1 hf_1
 try dsimp only at hh_1 hf_1
 conv => whnf
 refine hK _ ?_
 clear hK K
 refine wrs fun K hK => ?_
 conv => whnf
 refine callP rfl (l09All_fn p g f (by omega) hf0) ?_
 rintro lo hi hi' z hl1 hl2 hl3 ⟨F', hF', rfl⟩ _
 obtain rfl := hF.unique hF'
 try dsimp only at hl1 hl2
 conv => whnf
 refine hK _ ?_
 clear hK K
 refine W.seqK fun K1 hK1 => ?_
 refine wrs fun K hK => ?_
 conv => whnf
 refine hK _ (W.block (W.invA (fun m e => ∃ (k b : Nat) (o : List Int), k ≤ F.length ∧ o = degT F k ∧ m = F.length - k ∧ e = [(5, .ownI 2 b o), (6, .v (vFs F)), (7, .v (.int .i64 k))]) ⟨0, b_1, [], Nat.zero_le _, rfl, rfl, rfl⟩ ?_))
 clear hK K
 rintro m e ⟨k, b, o, hk, rfl, hm, rfl⟩
 refine W.seqK fun K7 hK7 => wrs fun K hK => ?_
 conv => whnf
 refine hK _ (W.cond ⟨fun h3 => ?_, fun h3 => ?_⟩) <;> clear hK K <;> (first | replace h3 := of_decide_eq_true h3 | replace h3 := of_decide_eq_false h3)
 ·obtain ⟨hx1, hx2, hx3, hx4⟩ := hFs k (by omega)
  have hol := hdl k (by omega)
  have hxl : (F.getD k (0, 0)).1.l.length = dg (F.getD k (0, 0)).1 := rfl
  refine W.skip (hK7 _ ?_)
  clear hK7 K7
  refine W.seqK fun K8 hK8 => W.block ?_
  refine wrs fun K hK => ?_
  conv => whnf
  refine hK _ (W.block (W.invE (fun m e => ∃ (j b : Nat) (o : List Int), j ≤ (F.getD k (0, 0)).2 ∧ o = degT F k ++ List.replicate j (((F.getD k (0, 0)).1.l.length : Int) - 1) ∧ m = (F.getD k (0, 0)).2 - j ∧ e = [(5, .ownI 2 b o), (6, .v (vFs F)), (7, .v (.int .i64 k)), (8, .v (.int .i64 j))]) _ _ ⟨0, b, degT F k, Nat.zero_le _, by simp, rfl, rfl⟩ (by dsimp only; omega) (by repeat' first | refine And.intro ?_ ?_ | exact trivial | rfl | omega | exact fun _ _ => rfl) ?_))
  clear hK K b
  rintro m' e ⟨j, b, o, hj, rfl, hm', rfl⟩
  refine W.seqK fun K7 hK7 => ?_
  refine wrs fun K hK => ?_
  conv => whnf
  refine ⟨oo, ?_⟩
  conv => whnf
  rw [Int.toNat_natCast]
  refine hK _ (W.cond ⟨fun h => ?_, fun h => ?_⟩) <;> clear hK K
  ·have h : (j : Int) < ((F.getD k (0, 0)).2 : Nat) := of_decide_eq_true h
   refine W.skip (hK7 _ ?_)
   clear hK7 K7
   refine W.seqK fun K6 hK6 => W.block ?_
   refine wrg ?_
   conv => whnf
   refine ⟨oo, ?_⟩
   conv => whnf
   rw [Int.toNat_natCast]
   refine ⟨oo, ?_⟩
   conv => whnf
   refine ⟨⟨rfl, by decide⟩, ?_⟩
   conv => whnf
   intro b_2 hs_2 hh_2 hf_2
   try dsimp only at hh_2 hf_2
   conv => whnf
   refine ⟨by simp; omega, ?_⟩
   conv => whnf
   intro b_3 hs_3 hh_3 hf_3
   try dsimp only at hh_3 hf_3
   conv => whnf
   refine hK6 _ ?_
   clear hK6 K6
   refine wrg ?_
   conv => whnf
   refine ⟨oo, ?_⟩
   conv => whnf
   exact againA ⟨j + 1, b_3, _, by omega, by rw [← repl_snoc, ← List.append_assoc], rfl, rfl⟩
  ·have h : ¬ (j : Int) < ((F.getD k (0, 0)).2 : Nat) := of_decide_eq_false h
   obtain rfl : j = (F.getD k (0, 0)).2 := by omega
   refine W.exit (hK8 _ ?_)
   clear hK7 K7 hK8 K8
   refine wrg ?_
   conv => whnf
   refine ⟨oo, ?_⟩
   conv => whnf
   exact againA ⟨k + 1, b, _, by omega, rfl, rfl, rfl⟩
 ·obtain rfl : k = F.length := by omega
  refine W.exit (hK1 _ ?_)
  clear hK7 K7 hK1 K1
  refine wrs fun K hK => ?_
  conv => whnf
  refine hK _ ?_
  clear hK K
  refine W.ret ?_
  conv => whnf
  exact ⟨.v (.ints none (degT F F.length)), ⟨rfl, rfl⟩, trivial, rfl⟩

theorem DegreesOf_E (p : Int) (f : List Int) (_ : inR p) (h : f.length ≤ 1048576) : ∃ (r0 : List Int) (r1 : Int), (∀ g1 : Option Nat, FnV 44 [.int .i64 p, .ints g1 f] (.tup [.ints none r0, .int .i64 r1])) ∧
  (∀ g1 : Option Nat, FnT Tryz.prog 43 [.int .i64 p, .ints g1 f] (fun _ _ x tb => ∃ rb0 : Nat, x = .tup [.rf rb0 r0.length, .int .i64 r1] ∧ (r0 ≠ [] → tb rb0 = some r0))) ∧ r0.length ≤ 1000000 ∧ r1 = codeFa p f ∧
  (∀ hp : p ∈ primes, letI := sp_of hp; ∀ (φ : Poly p) (F : List (Poly p × Nat)), φ.l = f → codeFa p f = 0 → FacOf φ F → r0 = degT F F.length) := by
 by_cases hc : codeFa p f = 0
 case neg =>
  refine ⟨[], codeFa p f, fun g => ?_, fun g => ?_, by simp, rfl, fun _ _ _ _ h0 _ => absurd h0 hc⟩
  ·refine fn_of (cx_ok [0, 1, 4, 5, 6, 11]) Tryz.func44 rfl (by decide) Tryz.ntmps44 (Nat.le_of_ble_eq_true rfl) fun base => ?_
   refine wrs fun K hK => ?_
   conv => whnf
   refine hK _ ?_
   clear hK K
   refine wrs fun K hK => ?_
   conv => whnf
   refine callV rfl (l09Code_fn g p f (by omega)) fun hs' hhs => ?_
   try dsimp only at hhs
   conv => whnf
   refine hK _ ?_
   clear hK K
   refine W.seqK fun K1 hK1 => ?_
   refine wrs fun K hK => ?_
   conv => whnf
   refine hK _ (W.cond ⟨fun _ => ?_, fun hcc => absurd hc (of_decide_eq_false hcc)⟩)
   clear hK K
   refine wrs fun K hK => ?_
   conv => whnf
   refine hK _ ?_
   clear hK K
   refine W.ret ?_
   conv => whnf
   exact ⟨.v (.ints none []), rfl, trivial, .v (.int .i64 (codeFa p f)), ⟨rfl, rfl⟩, trivial, rfl⟩
  ·refine fnt_of (cxt_ok [] [0, 1, 4, 5, 6, 11, 1000000]) Tryz.func43 rfl (by decide) Tryz.ntmps43 (Nat.le_of_ble_eq_true rfl) (fun base => ?_) (Nat.le_of_ble_eq_true rfl)
   refine W.sw (c' := cx [0, 1, 4, 5, 6, 11, 1000000]) ?_
   refine wrs fun K hK => ?_
   conv => whnf
   refine hK _ ?_
   clear hK K
   refine W.seqK fun K1 hK1 => ?_
   refine wrs fun K hK => ?_
   conv => whnf
   refine callV rfl (factorable_fn g p f) fun hs' hhs => ?_
   try dsimp only at hhs
   conv => whnf
   refine hK _ ?_
   clear hK K
   refine wrs fun K hK => ?_
   conv => whnf
   refine hK _ (W.cond ⟨fun _ => ?_, fun hcc => absurd hc (of_decide_eq_false hcc)⟩)
   clear hK K
   refine wrs fun K hK => ?_
   conv => whnf
   refine hK _ ?_
   clear hK K
   refine W.ret ?_
   conv => whnf
   exact ⟨.v (.rf 0 0), rfl, trivial, .v (.int .i64 (codeFa p f)), ⟨rfl, rfl⟩, trivial, 0, rfl, fun hne => absurd rfl hne⟩
 obtain ⟨hm, h2⟩ := codeFa_ok hc
 obtain ⟨hp, f, rfl⟩ := poly_of hm
 letI := sp_of hp
 have h9 := hm.2.1
 have hfl : f.l.length = dg f := rfl
 have hf0 : f ≠ 0 := fun e => by have := dg_eq_zero.2 e; omega
 obtain ⟨F, hF⟩ := exists_fac hf0
 have hFl := hF.facs.few hf0
 have hdl := degT_len (fun j hj => (hF.fac hf0 (by omega) j hj).2.2.2) F.length (Nat.le_refl _)
 refine ⟨degT F F.length, 0, fun g => ?_, fun g => ?_, by omega, hc.symm, fun _ φ G e _ hG => (by obtain rfl := ext_l e; rw [hF.unique hG])⟩
 ·refine fn_of (cx_ok [0, 1, 4, 5, 6, 11]) Tryz.func44 rfl (by decide) Tryz.ntmps44 (Nat.le_of_ble_eq_true rfl) fun base => ?_
  refine wrs fun K hK => ?_
  conv => whnf
  refine hK _ ?_
  clear hK K
  refine wrs fun K hK => ?_
  conv => whnf
  refine callV rfl (l09Code_fn g p f.l (by omega)) fun hs' hhs => ?_
  try dsimp only at hhs
  conv => whnf
  rw [hc]
  refine hK _ ?_
  clear hK K
  refine W.seqK fun K1 hK1 => ?_
  refine wrs fun K hK => ?_
  conv => whnf
  refine hK _ (W.cond ⟨fun hcc => absurd rfl (of_decide_eq_true hcc), fun _ => W.skip (hK1 _ ?_)⟩)
  clear hK K hK1 K1
  refine wrs fun K hK => ?_
  conv => whnf
  refine callV rfl (l09Degrees_fn p g f F hF hf0 (by omega)) fun hs' hhs => ?_
  try dsimp only at hhs
  conv => whnf
  refine hK _ ?_
  clear hK K
  refine W.ret ?_
  conv => whnf
  exact ⟨.v (.ints none (degT F F.length)), ⟨rfl, rfl⟩, trivial, .v (.int .i64 0), ⟨rfl, rfl⟩, trivial, rfl⟩
 ·refine fnt_of (cxt_ok [] [0, 1, 4, 5, 6, 11, 1000000]) Tryz.func43 rfl (by decide) Tryz.ntmps43 (Nat.le_of_ble_eq_true rfl) (fun base => ?_) (Nat.le_of_ble_eq_true rfl)
  refine W.sw (c' := cx [0, 1, 4, 5, 6, 11, 1000000]) ?_
  refine wrs fun K hK => ?_
  conv => whnf
  refine hK _ ?_
  clear hK K
  refine W.seqK fun K1 hK1 => ?_
  refine wrs fun K hK => ?_
  conv => whnf
  refine callV rfl (factorable_fn g p f.l) fun hs' hhs => ?_
  try dsimp only at hhs
  conv => whnf
  rw [hc]
  refine hK _ ?_
  clear hK K
  refine wrs fun K hK => ?_
  conv => whnf
  refine hK _ (W.cond ⟨fun hcc => absurd rfl (of_decide_eq_true hcc), fun _ => W.skip (hK1 _ ?_)⟩)
  clear hK K hK1 K1
  refine W.sw (c' := cxt [201] [0, 1, 4, 5, 6, 11, 1000000]) ?_
  refine W.rs (cxt_ok _ _) (by rfl) fun K hK => ?_
  conv => whnf
  refine ⟨_, cxT (degreesOf_T p g f F hF hf0 (by omega)), fun lo_t hi_t hs_t x_t tn_t tb_t hl1_t hl2_t _ hp_t hf_t hn_t ho_t => ?_⟩
  try dsimp only at hl1_t hl2_t
  obtain ⟨bt, rfl, ht⟩ := hp_t
  conv => whnf
  refine hK _ ?_
  clear hK K
  refine W.ret ?_
  conv => whnf
  exact ⟨.v (.rf bt (degT F F.length).length), rfl, trivial, .v (.int .i64 0), ⟨rfl, rfl⟩, trivial, bt, rfl, fun h => hn_t _ _ (ht h)⟩

def rootT {p : Int} [SP p] (F : List (Poly p × Nat)) : Nat → Nat
 | 0 => 0
 | k + 1 => if (F.getD k (0, 0)).1.l.length = 2 then rootT F k + (F.getD k (0, 0)).2 else rootT F k
theorem rootT_count {p : Int} [SP p] (F : List (Poly p × Nat)) : ∀ k, (degT F k).count 1 = rootT F k
 | 0 => rfl
 | k + 1 => by
  rw [degT, rootT, List.count_append, rootT_count F k, List.count_replicate]
  by_cases h : (F.getD k (0, 0)).1.l.length = 2
  ·rw [if_pos h, if_pos (by rw [h]; rfl)]
  ·rw [if_neg h, if_neg (by rw [beq_iff_eq]; omega), Nat.add_zero]
theorem rootT_le {p : Int} [SP p] (F : List (Poly p × Nat)) (k : Nat) : rootT F k ≤ (degT F k).length := by rw [← rootT_count]; exact List.count_le_length
theorem count_take {l : List Int} {k : Nat} (h : k < l.length) : (l.take (k + 1)).count 1 = (l.take k).count 1 + if l.getD k 0 = 1 then 1 else 0 := by
 rw [List.take_add_one, List.getElem?_eq_getElem h, List.count_append]
 have e : l.getD k 0 = l[k] := by rw [List.getD_eq_getElem?_getD, List.getElem?_eq_getElem h]; rfl
 rw [e]
 congr 1
 by_cases h1 : l[k] = 1
 ·rw [if_pos h1, h1]; rfl
 ·rw [if_neg h1]; simp [h1]

theorem CountRoots_E (p : Int) (f : List Int) (_ : inR p) (h : f.length ≤ 1048576) : ∃ r0 r1 : Int, (∀ g1 : Option Nat, FnV 50 [.int .i64 p, .ints g1 f] (.tup [.int .i64 r0, .int .i64 r1])) ∧
  (∀ g1 : Option Nat, FnV 49 [.int .i64 p, .ints g1 f] (.tup [.int .i64 r0, .int .i64 r1])) ∧ r1 = codeFa p f ∧
  (∀ hp : p ∈ primes, letI := sp_of hp; ∀ (φ : Poly p) (F : List (Poly p × Nat)), φ.l = f → codeFa p f = 0 → FacOf φ F → r0 = (rootT F F.length : Nat)) := by
 by_cases hc : codeFa p f = 0
 case neg =>
  refine ⟨0, codeFa p f, fun g => ?_, fun g => ?_, rfl, fun _ _ _ _ h0 _ => absurd h0 hc⟩
  ·refine fn_of (cx_ok [0, 1, 4, 5, 6, 7, 8, 9, 14, 22, 31]) Tryz.func50 rfl (by decide) Tryz.ntmps50 (Nat.le_of_ble_eq_true rfl) fun base => ?_
   refine wrs fun K hK => ?_
   conv => whnf
   refine hK _ ?_
   clear hK K
   refine wrs fun K hK => ?_
   conv => whnf
   refine callV rfl (l09Code_fn g p f (by omega)) fun hs' hhs => ?_
   try dsimp only at hhs
   conv => whnf
   refine hK _ ?_
   clear hK K
   refine W.seqK fun K1 hK1 => ?_
   refine wrs fun K hK => ?_
   conv => whnf
   refine hK _ (W.cond ⟨fun _ => ?_, fun hcc => absurd hc (of_decide_eq_false hcc)⟩)
   clear hK K
   refine wrs fun K hK => ?_
   conv => whnf
   refine hK _ ?_
   clear hK K
   refine W.ret ?_
   conv => whnf
   exact ⟨.v (.int .i64 0), ⟨rfl, rfl⟩, trivial, .v (.int .i64 (codeFa p f)), ⟨rfl, rfl⟩, trivial, rfl⟩
  ·refine fn_of (cx_ok [0, 1, 4, 5, 6, 7, 9, 14, 18, 19, 20, 21, 25]) Tryz.func49 rfl (by decide) Tryz.ntmps49 (Nat.le_of_ble_eq_true rfl) fun base => ?_
   refine wrs fun K hK => ?_
   conv => whnf
   refine hK _ ?_
   clear hK K
   refine W.seqK fun K1 hK1 => ?_
   refine wrs fun K hK => ?_
   conv => whnf
   refine callV rfl (factorable_fn g p f) fun hs' hhs => ?_
   try dsimp only at hhs
   conv => whnf
   refine hK _ ?_
   clear hK K
   refine wrs fun K hK => ?_
   conv => whnf
   refine hK _ (W.cond ⟨fun _ => ?_, fun hcc => absurd hc (of_decide_eq_false hcc)⟩)
   clear hK K
   refine wrs fun K hK => ?_
   conv => whnf
   refine hK _ ?_
   clear hK K
   refine W.ret ?_
   conv => whnf
   exact ⟨.v (.int .i64 0), ⟨rfl, rfl⟩, trivial, .v (.int .i64 (codeFa p f)), ⟨rfl, rfl⟩, trivial, rfl⟩
 obtain ⟨hm, h2⟩ := codeFa_ok hc
 obtain ⟨hp, f, rfl⟩ := poly_of hm
 letI := sp_of hp
 have h9 := hm.2.1
 have hfl : f.l.length = dg f := rfl
 have hf0 : f ≠ 0 := fun e => by have := dg_eq_zero.2 e; omega
 obtain ⟨F, hF⟩ := exists_fac hf0
 have hFs := hF.fac hf0 (by omega)
 have hFl := hF.facs.few hf0
 have hdl := degT_len (fun j hj => (hFs j hj).2.2.2)
 have hrl := rootT_le F
 have hdf := hdl F.length (Nat.le_refl _)
 refine ⟨rootT F F.length, 0, fun g => ?_, fun g => ?_, hc.symm, fun _ φ G e _ hG => (by obtain rfl := ext_l e; rw [hF.unique hG])⟩
 ·refine fn_of (cx_ok [0, 1, 4, 5, 6, 7, 8, 9, 14, 22, 31]) Tryz.func50 rfl (by decide) Tryz.ntmps50 (Nat.le_of_ble_eq_true rfl) fun base => ?_
  refine wrs fun K hK => ?_
  conv => whnf
  refine hK _ ?_
  clear hK K
  refine wrs fun K hK => ?_
  conv => whnf
  refine callV rfl (l09Code_fn g p f.l (by omega)) fun hs' hhs => ?_
  try dsimp only at hhs
  conv => whnf
  rw [hc]
  refine hK _ ?_
  clear hK K
  refine W.seqK fun K1 hK1 => ?_
  refine wrs fun K hK => ?_
  conv => whnf
  refine hK _ (W.cond ⟨fun hcc => absurd rfl (of_decide_eq_true hcc), fun _ => W.skip (hK1 _ ?_)⟩)
  clear hK K hK1 K1
  refine wrs fun K hK => ?_
  conv => whnf
  refine hK _ ?_
  clear hK K
  refine wrs fun K hK => ?_
  conv => whnf
  refine callP rfl (l09All_fn p g f (by omega) hf0) ?_
  rintro lo hi hi' z hl1 hl2 hl3 ⟨F', hF', rfl⟩ _
  obtain rfl := hF.unique hF'
  try dsimp only at hl1 hl2
  conv => whnf
  refine hK _ ?_
  clear hK K
  refine W.seqK fun K1 hK1 => ?_
  refine wrs fun K hK => ?_
  conv => whnf
  refine hK _ (W.block (W.invA (fun m e => ∃ k : Nat, k ≤ F.length ∧ m = F.length - k ∧ e = [(7, .v (.int .i64 (rootT F k : Nat))), (8, .v (vFs F)), (9, .v (.int .i64 k))]) ⟨0, Nat.zero_le _, rfl, rfl⟩ ?_))
  clear hK K
  rintro m e ⟨k, hk, hm, rfl⟩
  refine W.seqK fun K7 hK7 => wrs fun K hK => ?_
  conv => whnf
  refine hK _ (W.cond ⟨fun h3 => ?_, fun h3 => ?_⟩) <;> clear hK K <;> (first | replace h3 := of_decide_eq_true h3 | replace h3 := of_decide_eq_false h3)
  ·obtain ⟨hx1, hx2, hx3, hx4⟩ := hFs k (by omega)
   have hrk := hrl k
   have hdk := hdl k (by omega)
   refine W.skip (hK7 _ ?_)
   clear hK7 K7
   refine W.seqK fun K8 hK8 => W.block ?_
   have mid : ∀ (t : S), base ≤ t.hs → coverK t.env [(7, .v (.int .i64 (rootT F (k + 1) : Nat))), (8, .v (vFs F)), (9, .v (.int .i64 k))] → K8 t := by
    intro t h7 h8
    refine hK8 _ (W.weak (t := ⟨[(7, .v (.int .i64 (rootT F (k + 1) : Nat))), (8, .v (vFs F)), (9, .v (.int .i64 k))], base⟩) ⟨h7, h8⟩ (Nat.le_refl _) ?_)
    clear hK8 K8
    refine wrg ?_
    conv => whnf
    refine ⟨oo, ?_⟩
    conv => whnf
    exact againA ⟨k + 1, by omega, rfl, rfl⟩
   clear hK8
   refine wrs fun K hK => ?_
   conv => whnf
   refine ⟨oo, ?_⟩
   conv => whnf
   rw [Int.toNat_natCast]
   refine hK _ (W.cond ⟨fun h5 => ?_, fun h5 => ?_⟩) <;> clear hK K
   ·have h5 : ((F.getD k (0, 0)).1.l.length : Int) = 2 := of_decide_eq_true h5
    have e5 : rootT F (k + 1) = rootT F k + (F.getD k (0, 0)).2 := by rw [rootT, if_pos (by omega)]
    refine wrg ?_
    conv => whnf
    refine ⟨oo, ?_⟩
    conv => whnf
    rw [Int.toNat_natCast]
    refine ⟨oo, ?_⟩
    conv => whnf
    refine mid _ (by dsimp only; omega) ?_
    rw [e5]
    exact cvr
   ·have h5 : ¬ ((F.getD k (0, 0)).1.l.length : Int) = 2 := of_decide_eq_false h5
    have e5 : rootT F (k + 1) = rootT F k := by rw [rootT, if_neg (by omega)]
    refine W.skip (mid _ (by dsimp only; omega) ?_)
    rw [e5]
    exact cvr
  ·obtain rfl : k = F.length := by omega
   refine W.exit (hK1 _ ?_)
   clear hK7 K7 hK1 K1
   refine wrs fun K hK => ?_
   conv => whnf
   refine hK _ ?_
   clear hK K
   refine W.ret ?_
   conv => whnf
   exact ⟨.v (.int .i64 (rootT F F.length : Nat)), ⟨rfl, rfl⟩, trivial, .v (.int .i64 0), ⟨rfl, rfl⟩, trivial, rfl⟩
 ·refine fn_of (cx_ok [0, 1, 4, 5, 6, 7, 9, 14, 18, 19, 20, 21, 25]) Tryz.func49 rfl (by decide) Tryz.ntmps49 (Nat.le_of_ble_eq_true rfl) fun base => ?_
  refine wrs fun K hK => ?_
  conv => whnf
  refine hK _ ?_
  clear hK K
  refine W.seqK fun K1 hK1 => ?_
  refine wrs fun K hK => ?_
  conv => whnf
  refine callV rfl (factorable_fn g p f.l) fun hs' hhs => ?_
  try dsimp only at hhs
  conv => whnf
  rw [hc]
  refine hK _ ?_
  clear hK K
  refine wrs fun K hK => ?_
  conv => whnf
  refine hK _ (W.cond ⟨fun hcc => absurd rfl (of_decide_eq_true hcc), fun _ => W.skip (hK1 _ ?_)⟩)
  clear hK K hK1 K1
  refine wrs fun K hK => ?_
  conv => whnf
  refine hK _ ?_
  clear hK K
  refine W.seqK fun K1 hK1 => ?_
  refine wrs fun K hK => ?_
  conv => whnf
  refine callV rfl (degreesOf_fn p g f F hF hf0 (by omega)) fun hs' hhs => ?_
  try dsimp only at hhs
  conv => whnf
  refine hK _ (W.block (W.invA (fun m e => ∃ k : Nat, k ≤ (degT F F.length).length ∧ m = (degT F F.length).length - k ∧ e = [(7, .v (.int .i64 (((degT F F.length).take k).count 1 : Nat))), (18, .v (.ints none (degT F F.length))), (19, .v (.int .i64 (degT F F.length).length)), (20, .v (.int .i64 k))]) ⟨0, Nat.zero_le _, rfl, rfl⟩ ?_))
  clear hK K
  rintro m e ⟨k, hk, hm, rfl⟩
  have hck : ((degT F F.length).take k).count 1 ≤ k := Nat.le_trans List.count_le_length (by simp; omega)
  refine wrs fun K hK => ?_
  conv => whnf
  refine hK _ ?_
  clear hK K
  refine W.seqK fun K7 hK7 => W.cond ⟨fun h3 => ?_, fun h3 => ?_⟩ <;> (first | replace h3 := of_decide_eq_true h3 | replace h3 := of_decide_eq_false h3)
  ·have hct := count_take (l := degT F F.length) (k := k) (by omega)
   refine W.skip (hK7 _ ?_)
   clear hK7 K7
   refine W.seqK fun K8 hK8 => W.block ?_
   refine wrs fun K hK => ?_
   conv => whnf
   refine ⟨oo, ?_⟩
   conv => whnf
   rw [Int.toNat_natCast]
   refine hK _ ?_
   clear hK K
   have mid : ∀ (t : S), base ≤ t.hs → coverK t.env [(7, .v (.int .i64 (((degT F F.length).take (k + 1)).count 1 : Nat))), (18, .v (.ints none (degT F F.length))), (19, .v (.int .i64 (degT F F.length).length)), (20, .v (.int .i64 k))] → K8 t := by
    intro t h7 h8
    refine hK8 _ (W.weak (t := ⟨[(7, .v (.int .i64 (((degT F F.length).take (k + 1)).count 1 : Nat))), (18, .v (.ints none (degT F F.length))), (19, .v (.int .i64 (degT F F.length).length)), (20, .v (.int .i64 k))], base⟩) ⟨h7, h8⟩ (Nat.le_refl _) ?_)
    clear hK8 K8
    refine wrg ?_
    conv => whnf
    refine ⟨oo, ?_⟩
    conv => whnf
    exact againA ⟨k + 1, by omega, rfl, rfl⟩
   clear hK8
   refine wrs fun K hK => ?_
   conv => whnf
   refine hK _ (W.cond ⟨fun h5 => ?_, fun h5 => ?_⟩) <;> clear hK K
   ·have h5 : (degT F F.length).getD k 0 = 1 := of_decide_eq_true h5
    rw [if_pos h5] at hct
    refine wrg ?_
    conv => whnf
    refine ⟨oo, ?_⟩
    conv => whnf
    refine mid _ (by dsimp only; omega) ?_
    rw [hct]
    exact cvr
   ·have h5 : ¬ (degT F F.length).getD k 0 = 1 := of_decide_eq_false h5
    rw [if_neg h5] at hct
    refine W.skip (mid _ (by dsimp only; omega) ?_)
    rw [hct]
    exact cvr
  ·obtain rfl : k = (degT F F.length).length := by omega
   have hfin : ((degT F F.length).take (degT F F.length).length).count 1 = rootT F F.length := by rw [List.take_length, rootT_count]
   refine W.exit (hK1 _ ?_)
   clear hK7 K7 hK1 K1
   rw [hfin]
   refine wrs fun K hK => ?_
   conv => whnf
   refine hK _ ?_
   clear hK K
   refine W.ret ?_
   conv => whnf
   exact ⟨.v (.int .i64 (rootT F F.length : Nat)), ⟨rfl, rfl⟩, trivial, .v (.int .i64 0), ⟨rfl, rfl⟩, trivial, rfl⟩

open Go Go.RowKit Go.Proofs Poly
set_option maxRecDepth 100000
set_option maxHeartbeats 8000000

open Go Go.RowKit Go.Proofs Poly
set_option maxRecDepth 100000
set_option maxHeartbeats 8000000


theorem l01DrawPrime_m {n : Nat} {c : Nat → Int} (hc : Byt n c) : MSrc 186 [] n c (fun r => ∃ q : Int, r = .int .i64 q ∧ q ∈ ([1, 4, 0, 97, 101, -3, 9, 2, 3, 5, 7, 11, 13, 17, 31] : List Int)) := by
 rintro b x hx
 refine mfn_ofV (cx := cxt [] [0, 2, 5, 1000000, 1000001]) (cxt_ok [] [0, 2, 5, 1000000, 1000001]) Tryz.func186 rfl (by decide) Tryz.ntmps186 (Nat.le_of_ble_eq_true rfl) (Nat.le_of_ble_eq_true rfl) rfl rfl fun base hs0 O U hw v0 hb0 => ?_
 refine W.sw (c' := cx [0, 2, 5, 1000000, 1000001]) ?_
 refine wrs fun K hK => ?_
 conv => whnf
 refine hK _ ?_
 clear hK K
 refine W.seqK fun K1 hK1 => ?_
 refine wrs fun K hK => ?_
 conv => whnf
 refine ⟨⟨rfl, rfl⟩, ?_⟩
 conv => whnf
 refine ⟨rfl, _, (l01Next_m hc 24 (by constructor <;> decide) b x hx), ?_⟩
 rintro hs_ms1 av x' t' hh_ms1 ⟨rfl, ⟨x1, hx1, rfl⟩, _, rfl, ⟨q, rfl, q0, q1, q2⟩⟩ _ _ _
 try dsimp only at hh_ms1
 conv => whnf
 refine hK _ (W.cond ⟨fun h => ?_, fun h => ?_⟩) <;> clear hK K
 ·refine wrs fun K hK => ?_
  conv => whnf
  refine ⟨⟨rfl, by decide⟩, ?_⟩
  conv => whnf
  intro b_7 hs_7 hh_7 hf_7
  try dsimp only at hh_7 hf_7
  conv => whnf
  refine ⟨⟨rfl, rfl⟩, ?_⟩
  conv => whnf
  refine ⟨rfl, _, (l01Pick_m hc none [1, 4, 0, 97, 101, -3, 9] ⟨by decide, by decide⟩ b x1 hx1), ?_⟩
  rintro hs_ms2 av x' t' hh_ms2 ⟨rfl, ⟨x2, hx2, rfl⟩, _, rfl, ⟨r, rfl, hr⟩⟩ _ _ _
  try dsimp only at hh_ms2
  conv => whnf
  refine hK _ ?_
  clear hK K
  have hr2 : r ∈ ([1, 4, 0, 97, 101, -3, 9, 2, 3, 5, 7, 11, 13, 17, 31] : List Int) := by
   simp only [List.mem_cons, List.not_mem_nil, or_false] at hr ⊢
   omega
  refine W.ret ?_
  conv => whnf
  refine ⟨by dsimp only; omega, ?_⟩
  conv => whnf
  refine ⟨rfl, ?_⟩
  conv => whnf
  refine ⟨.int .i64 r, ⟨rfl, rfl⟩, ?_⟩
  conv => whnf
  exact ⟨.ownB b (x2), ⟨rfl, rfl⟩, .inr ⟨rfl, rfl⟩, .dead, trivial, rfl, rfl, rfl, ⟨x2, hx2, rfl⟩, _, rfl, ⟨r, rfl, hr2⟩⟩
 refine W.skip (hK1 _ ?_)
 clear hK1 K1
 refine wrs fun K hK => ?_
 conv => whnf
 refine ⟨⟨rfl, by decide⟩, ?_⟩
 conv => whnf
 intro b_7 hs_7 hh_7 hf_7
 try dsimp only at hh_7 hf_7
 conv => whnf
 refine ⟨⟨rfl, rfl⟩, ?_⟩
 conv => whnf
 refine ⟨rfl, _, (l01Pick_m hc none [2, 3, 5, 7, 2, 3, 5, 11, 13, 17, 31] ⟨by decide, by decide⟩ b x1 hx1), ?_⟩
 rintro hs_ms2 av x' t' hh_ms2 ⟨rfl, ⟨x2, hx2, rfl⟩, _, rfl, ⟨r, rfl, hr⟩⟩ _ _ _
 try dsimp only at hh_ms2
 conv => whnf
 refine hK _ ?_
 clear hK K
 have hr2 : r ∈ ([1, 4, 0, 97, 101, -3, 9, 2, 3, 5, 7, 11, 13, 17, 31] : List Int) := by
  simp only [List.mem_cons, List.not_mem_nil, or_false] at hr ⊢
  omega
 refine W.ret ?_
 conv => whnf
 refine ⟨by dsimp only; omega, ?_⟩
 conv => whnf
 refine ⟨rfl, ?_⟩
 conv => whnf
 refine ⟨.int .i64 r, ⟨rfl, rfl⟩, ?_⟩
 conv => whnf
 exact ⟨.ownB b (x2), ⟨rfl, rfl⟩, .inr ⟨rfl, rfl⟩, .dead, trivial, rfl, rfl, rfl, ⟨x2, hx2, rfl⟩, _, rfl, ⟨r, rfl, hr2⟩⟩

def PolL (p : Int) (d : Nat) (L : List Int) : Prop := 1 ≤ L.length ∧ L.length ≤ d + 1 ∧ (∀ j, 0 ≤ cf L j ∧ cf L j < p) ∧ cf L (L.length - 1) ≠ 0

open Go Go.RowKit Go.Proofs Poly
set_option maxRecDepth 100000
set_option maxHeartbeats 8000000


theorem l08DrawPrime_m {n : Nat} {c : Nat → Int} (hc : Byt n c) : MSrc 223 [] n c (fun r => ∃ q : Int, r = .int .i64 q ∧ q ∈ ([1, 4, 0, 97, 101, -3, 9, 2, 3, 5, 7, 11, 13, 17, 31] : List Int)) := by
 rintro b x hx
 refine mfn_ofV (cx := cxt [] [0, 2, 5, 1000000, 1000001]) (cxt_ok [] [0, 2, 5, 1000000, 1000001]) Tryz.func223 rfl (by decide) Tryz.ntmps223 (Nat.le_of_ble_eq_true rfl) (Nat.le_of_ble_eq_true rfl) rfl rfl fun base hs0 O U hw v0 hb0 => ?_
 refine W.sw (c' := cx [0, 2, 5, 1000000, 1000001]) ?_
 refine wrs fun K hK => ?_
 conv => whnf
 refine hK _ ?_
 clear hK K
 refine W.seqK fun K1 hK1 => ?_
 refine wrs fun K hK => ?_
 conv => whnf
 refine ⟨⟨rfl, rfl⟩, ?_⟩
 conv => whnf
 refine ⟨rfl, _, (l01Next_m hc 30 (by constructor <;> decide) b x hx), ?_⟩
 rintro hs_ms1 av x' t' hh_ms1 ⟨rfl, ⟨x1, hx1, rfl⟩, _, rfl, ⟨q, rfl, q0, q1, q2⟩⟩ _ _ _
 try dsimp only at hh_ms1
 conv => whnf
 refine hK _ (W.cond ⟨fun h => ?_, fun h => ?_⟩) <;> clear hK K
 ·refine wrs fun K hK => ?_
  conv => whnf
  refine ⟨⟨rfl, rfl⟩, ?_⟩
  conv => whnf
  refine ⟨rfl, _, (l01DrawPrime_m hc b x1 hx1), ?_⟩
  rintro hs_ms2 av x' t' hh_ms2 ⟨rfl, ⟨x2, hx2, rfl⟩, _, rfl, ⟨r, rfl, hr⟩⟩ _ _ _
  try dsimp only at hh_ms2
  conv => whnf
  refine hK _ ?_
  clear hK K
  refine W.ret ?_
  conv => whnf
  refine ⟨by dsimp only; omega, ?_⟩
  conv => whnf
  refine ⟨rfl, ?_⟩
  conv => whnf
  refine ⟨.int .i64 r, ⟨rfl, rfl⟩, ?_⟩
  conv => whnf
  exact ⟨.ownB b (x2), ⟨rfl, rfl⟩, .inr ⟨rfl, rfl⟩, .dead, trivial, rfl, rfl, rfl, ⟨x2, hx2, rfl⟩, _, rfl, ⟨r, rfl, hr⟩⟩
 refine W.skip (hK1 _ ?_)
 clear hK1 K1
 refine wrs fun K hK => ?_
 conv => whnf
 refine ⟨⟨rfl, by decide⟩, ?_⟩
 conv => whnf
 intro b_7 hs_7 hh_7 hf_7
 try dsimp only at hh_7 hf_7
 conv => whnf
 refine ⟨⟨rfl, rfl⟩, ?_⟩
 conv => whnf
 refine ⟨rfl, _, (l01Pick_m hc none [2, 3, 5, 7, 2, 3, 13] ⟨by decide, by decide⟩ b x1 hx1), ?_⟩
 rintro hs_ms2 av x' t' hh_ms2 ⟨rfl, ⟨x2, hx2, rfl⟩, _, rfl, ⟨r, rfl, hr⟩⟩ _ _ _
 try dsimp only at hh_ms2
 conv => whnf
 refine hK _ ?_
 clear hK K
 have hr2 : r ∈ ([1, 4, 0, 97, 101, -3, 9, 2, 3, 5, 7, 11, 13, 17, 31] : List Int) := by
  simp only [List.mem_cons, List.not_mem_nil, or_false] at hr ⊢
  omega
 refine W.ret ?_
 conv => whnf
 refine ⟨by dsimp only; omega, ?_⟩
 conv => whnf
 refine ⟨rfl, ?_⟩
 conv => whnf
 refine ⟨.int .i64 r, ⟨rfl, rfl⟩, ?_⟩
 conv => whnf
 exact ⟨.ownB b (x2), ⟨rfl, rfl⟩, .inr ⟨rfl, rfl⟩, .dead, trivial, rfl, rfl, rfl, ⟨x2, hx2, rfl⟩, _, rfl, ⟨r, rfl, hr2⟩⟩

open Go Go.RowKit Go.Proofs Poly
set_option maxRecDepth 100000
set_option maxHeartbeats 8000000

def MSrcO (f : Nat) (xs : List V) (n : Nat) (c : Nat → Int) (Q : List Int → Prop) : Prop :=
 ∀ (b : Nat) (x : V), OkSrc n c x → MFn Tryz.prog f (.nil :: xs) 0 (.ownB b x) .dead (fun _ av x' t' => t' = .dead ∧ (∃ x1, OkSrc n c x1 ∧ x' = .ownB b x1) ∧ ∃ bo L, av = .ownI 2 bo L ∧ Q L)

theorem W.invS {P : Program} {c : Cx} {N base : Nat} {x : Code} {QQ : Exit → S → Prop} {s : S} (I : Nat → Env → Nat → Prop) (m0 : Nat) (e0 : Env) (h0 : Nat) (hi : I m0 e0 h0) (hb : ∀ m e h, I m e h → base ≤ h) (hh : h0 ≤ s.hs) (hc : coverK s.env e0)
  (round : ∀ m e h, I m e h → W P c N base x (Ex (fun s' => ∃ m' e' h', I m' e' h' ∧ m' < m ∧ h' ≤ s'.hs ∧ coverK s'.env e') QQ) ⟨e, h⟩) : W P c N base (.loop x) QQ s :=
 W.inv (fun m s => I m s.env s.hs) m0 ⟨e0, h0⟩ hi ⟨hh, hc⟩ (fun m s h => hb _ _ _ h) fun m s h => by
  obtain ⟨e, hs⟩ := s
  refine (round m e hs h).mono fun ex s' hq => ?_
  cases ex with
  | normal => obtain ⟨m', e', h', h1, h2, h3, h4⟩ := hq; exact ⟨m', ⟨e', h'⟩, h1, h2, h3, h4⟩
  | _ => exact hq


theorem l08Valid_o {n : Nat} {c : Nat → Int} (hc : Byt n c) (p : Int) (hp : 2 ≤ p ∧ p ≤ 1000) (d : Nat) (hd : d ≤ 100) : MSrcO 190 [.int .i64 p, .int .i64 d] n c (fun L => PolL p d L) := by
 rintro b x hx
 refine mfn_of (cx := cx [0, 1, 2, 6, 7, 8, 15, 1000000, 1000001]) Tryz.func190 rfl (by decide) Tryz.ntmps190 (Nat.le_of_ble_eq_true rfl) (Nat.le_of_ble_eq_true rfl) rfl rfl fun base hs0 O U hw v0 hb0 => ?_
 refine wrs fun K hK => ?_
 conv => whnf
 refine hK _ ?_
 clear hK K
 refine wrs fun K hK => ?_
 conv => whnf
 refine ⟨⟨rfl, by decide⟩, ?_⟩
 conv => whnf
 intro b_7 hs_7 hh_7 hf_7
 try dsimp only at hh_7 hf_7
 conv => whnf
 refine hK _ ?_
 clear hK K
 refine W.seqK fun K1 hK1 => wrs fun K hK => ?_
 conv => whnf
 refine ⟨oo, ?_⟩
 conv => whnf
 refine ⟨⟨rfl, rfl⟩, ?_⟩
 conv => whnf
 refine ⟨rfl, _, (l01Next_m hc ((d : Int) + 1) (by constructor <;> omega) b x hx), ?_⟩
 rintro hs_ms1 av x' t' hh_ms1 ⟨rfl, ⟨x1, hx1, rfl⟩, _, rfl, ⟨q, rfl, q0, q1, q2⟩⟩ _ _ _
 try dsimp only at hh_ms1
 conv => whnf
 have hq : q ≤ d := by
  by_cases h : d = 0
  ·have := q2 (by omega); omega
  ·have := q1 (by omega); omega
 refine hK _ (W.block (W.invS (fun m e hs => hs0 ≤ hs ∧ ∃ (k bo : Nat) (y : V) (L : List Int), k ≤ d ∧ OkSrc n c y ∧ L.length + k ≤ d ∧ (∀ j, 0 ≤ cf L j ∧ cf L j < p) ∧ (hs0 ≤ bo ∧ bo < hs) ∧ m = k ∧ e = [(vt, .dead), (vk, .keep O U hw 0 v0), (0, .ownB b y), (1, .v (.int .i64 p)), (2, .v (.int .i64 d)), (7, .ownI 2 bo L), (8, .v (.int .i64 k))]) _ _ hs_7
  ⟨by omega, q.toNat, b_7, x1, [], by omega, hx1, by simp; omega, fun j => by rw [cf_nil]; omega, (by have := hf_7 (by decide); omega), rfl, by rw [Int.toNat_of_nonneg q0]⟩ (fun m e hs h => Nat.le_trans hb0 h.1) (by dsimp only; omega) (by repeat' first | refine And.intro ?_ ?_ | exact trivial | rfl | omega | exact .inl rfl | assumption) ?_))
 clear hK K
 rintro m e hs ⟨hsl, k, bo, y, L, h1, hy, h2, h3, hbo, hm, rfl⟩
 refine W.seqK fun K7 hK7 => wrs fun K hK => ?_
 conv => whnf
 refine hK _ (W.cond ⟨fun h5 => ?_, fun h5 => ?_⟩) <;> clear hK K <;> (first | replace h5 := of_decide_eq_true h5 | replace h5 := of_decide_eq_false h5)
 ·have hk : 1 ≤ k := by omega
  refine W.skip (hK7 _ (W.seqK fun K8 hK8 => W.block ?_))
  clear hK7 K7
  refine wrg ?_
  conv => whnf
  refine ⟨⟨rfl, rfl⟩, ?_⟩
  conv => whnf
  refine ⟨rfl, _, (l01Next_m hc p (by constructor <;> omega) b y hy), ?_⟩
  rintro hs_ms2 av x' t' hh_ms2 ⟨rfl, ⟨x2, hx2, rfl⟩, _, rfl, ⟨r1, rfl, r10, r11, _⟩⟩ _ _ _
  try dsimp only at hh_ms2
  conv => whnf
  refine ⟨⟨rfl, rfl⟩, ?_⟩
  conv => whnf
  refine ⟨rfl, _, (l01Next_m hc p (by constructor <;> omega) b x2 hx2), ?_⟩
  rintro hs_ms3 av x' t' hh_ms3 ⟨rfl, ⟨x3, hx3, rfl⟩, _, rfl, ⟨r2, rfl, r20, r21, _⟩⟩ _ _ _
  try dsimp only at hh_ms3
  conv => whnf
  have h11 := r11 (by omega)
  have h21 := r21 (by omega)
  refine ⟨⟨rfl, by decide⟩, ?_⟩
  conv => whnf
  intro b_1 hs_1 hh_1 hf_1
  try dsimp only at hh_1 hf_1
  conv => whnf
  refine ⟨⟨rfl, rfl⟩, ?_⟩
  conv => whnf
  refine ⟨rfl, _, (l01Pick_m hc none [r1, 0, r2] ⟨(by show 1 ≤ 3; omega), (by show 3 ≤ 1000; omega)⟩ b x3 hx3), ?_⟩
  rintro hs_ms4 av x' t' hh_ms4 ⟨rfl, ⟨x4, hx4, rfl⟩, _, rfl, ⟨r, rfl, hr⟩⟩ _ _ _
  try dsimp only at hh_ms4
  conv => whnf
  have hr : 0 ≤ r ∧ r < p := by
   simp only [List.mem_cons, List.not_mem_nil, or_false] at hr
   omega
  refine ⟨⟨rfl, by decide⟩, ?_⟩
  conv => whnf
  intro b_2 hs_2 hh_2 hf_2
  try dsimp only at hh_2 hf_2
  conv => whnf
  refine ⟨by simp; omega, ?_⟩
  conv => whnf
  intro b_3 hs_3 hh_3 hf_3
  try dsimp only at hh_3 hf_3
  conv => whnf
  refine hK8 _ ?_
  clear hK8 K8
  refine wrg ?_
  conv => whnf
  refine ⟨oo, ?_⟩
  conv => whnf
  have hL : ∀ j, 0 ≤ cf (L ++ [r]) j ∧ cf (L ++ [r]) j < p := fun j => by
   unfold cf
   rw [List.getD_eq_getElem?_getD]
   rcases Nat.lt_trichotomy j L.length with hj | hj | hj
   ·rw [List.getElem?_append_left hj, ← List.getD_eq_getElem?_getD]; exact h3 j
   ·rw [List.getElem?_append_right (by omega), hj, Nat.sub_self]; exact hr
   ·rw [List.getElem?_eq_none (by simp; omega)]; show (0 : Int) ≤ 0 ∧ (0 : Int) < p; omega
  rw [show ((k : Int) - 1) = ((k - 1 : Nat) : Int) by omega]
  refine ⟨_, _, hs_3, ⟨by omega, k - 1, b_3, x4, L ++ [r], by omega, hx4, by simp; omega, hL, ?_, rfl, rfl⟩, by omega, by dsimp only; omega, ?_⟩
  ·rcases hf_3 (by simp) with h | h
   ·injection h with h
    omega
   ·omega
  ·exact cvr
 ·obtain rfl : k = 0 := by omega
  refine W.exit (hK1 _ ?_)
  clear hK7 K7 hK1 K1
  refine wrs fun K hK => ?_
  conv => whnf
  refine ⟨oo, ?_⟩
  conv => whnf
  refine ⟨⟨rfl, rfl⟩, ?_⟩
  conv => whnf
  refine ⟨rfl, _, (l01Next_m hc (p - 1) (by constructor <;> omega) b y hy), ?_⟩
  rintro hs_ms2 av x' t' hh_ms2 ⟨rfl, ⟨x2, hx2, rfl⟩, _, rfl, ⟨r1, rfl, r10, r11, r12⟩⟩ _ _ _
  try dsimp only at hh_ms2
  conv => whnf
  refine ⟨⟨rfl, rfl⟩, ?_⟩
  conv => whnf
  refine ⟨rfl, _, (l01Next_m hc 2 (by constructor <;> decide) b x2 hx2), ?_⟩
  rintro hs_ms3 av x' t' hh_ms3 ⟨rfl, ⟨x3, hx3, rfl⟩, _, rfl, ⟨r2, rfl, r20, r21, _⟩⟩ _ _ _
  try dsimp only at hh_ms3
  conv => whnf
  have h11 : r1 ≤ p - 2 := by
   by_cases h : 1 < p - 1
   ·have := r11 h; omega
   ·have := r12 (by omega); omega
  have h21 := r21 (by omega)
  have hmul : 0 ≤ r1 * r2 ∧ r1 * r2 ≤ p - 2 := by
   have : r2 = 0 ∨ r2 = 1 := by omega
   rcases this with rfl | rfl <;> simp <;> omega
  refine ⟨by show _ ≤ r1 * r2 ∧ r1 * r2 ≤ _; omega, ?_⟩
  conv => whnf
  refine ⟨by show _ ≤ 1 + r1 * r2 ∧ 1 + r1 * r2 ≤ _; omega, ?_⟩
  conv => whnf
  refine ⟨⟨rfl, by decide⟩, ?_⟩
  conv => whnf
  intro b_1 hs_1 hh_1 hf_1
  try dsimp only at hh_1 hf_1
  conv => whnf
  refine ⟨by simp; omega, ?_⟩
  conv => whnf
  intro b_2 hs_2 hh_2 hf_2
  try dsimp only at hh_2 hf_2
  conv => whnf
  refine hK _ ?_
  clear hK K
  have hL : PolL p d (L ++ [1 + r1 * r2]) := by
   have hlen : (L ++ [1 + r1 * r2]).length = L.length + 1 := by simp
   refine ⟨by omega, by omega, fun j => ?_, ?_⟩
   ·unfold cf
    rw [List.getD_eq_getElem?_getD]
    rcases Nat.lt_trichotomy j L.length with hj | hj | hj
    ·rw [List.getElem?_append_left hj, ← List.getD_eq_getElem?_getD]; exact h3 j
    ·rw [List.getElem?_append_right (by omega), hj, Nat.sub_self]; show (0 : Int) ≤ 1 + r1 * r2 ∧ 1 + r1 * r2 < p; omega
    ·rw [List.getElem?_eq_none (by omega)]; show (0 : Int) ≤ 0 ∧ (0 : Int) < p; omega
   ·rw [hlen]
    unfold cf
    rw [List.getD_eq_getElem?_getD, List.getElem?_append_right (by omega), show L.length + 1 - 1 - L.length = 0 by omega]
    show (1 + r1 * r2 : Int) ≠ 0
    omega
  refine W.ret ?_
  conv => whnf
  refine ⟨by dsimp only; omega, ?_⟩
  conv => whnf
  refine ⟨rfl, ?_⟩
  conv => whnf
  refine ⟨.ownI 2 b_2 (L ++ [1 + r1 * r2]), ⟨rfl, rfl, rfl⟩, rfl, fun _ => ?_, ?_⟩
  ·rcases hf_2 (by simp) with h | h
   ·injection h with h
    dsimp only
    omega
   ·dsimp only
    omega
  conv => whnf
  exact ⟨.ownB b x3, ⟨rfl, rfl⟩, .inr ⟨rfl, rfl⟩, .dead, trivial, rfl, rfl, rfl, ⟨x3, hx3, rfl⟩, _, _, rfl, hL⟩

theorem polL_mod {p : Int} {d : Nat} {L : List Int} (hp : isP p = true) (hd : d ≤ 8) (h : PolL p d L) : IsMod p L :=
 ⟨hp, by have := h.2.1; omega, fun j _ => by have := h.2.2.1 j; omega, .inr h.2.2.2⟩

theorem l08Draw_m {n : Nat} {c : Nat → Int} (hc : Byt n c) (p : Int) (_hp : inR p) : MSrc 220 [.int .i64 p] n c (fun r => ∃ L, r = .ints none L ∧ L.length ≤ 20) := by
 rintro b x hx
 refine mfn_ofV (cx := cxt [] [0, 1, 4, 5, 8, 14, 15, 24, 27, 32, 1000000, 1000001]) (cxt_ok [] [0, 1, 4, 5, 8, 14, 15, 24, 27, 32, 1000000, 1000001]) Tryz.func220 rfl (by decide) Tryz.ntmps220 (Nat.le_of_ble_eq_true rfl) (Nat.le_of_ble_eq_true rfl) rfl rfl fun base hs0 O U hw v0 hb0 => ?_
 refine W.sw (c' := cx [0, 1, 4, 5, 8, 14, 15, 24, 27, 32, 1000000, 1000001]) ?_
 refine wrs fun K hK => ?_
 conv => whnf
 refine hK _ ?_
 clear hK K
 refine W.seqK fun K1 hK1 => ?_
 refine wrs fun K hK => ?_
 conv => whnf
 refine callV rfl (l01Small_fn p) fun hs' hhs => ?_
 try dsimp only at hhs
 conv => whnf
 refine hK _ (W.cond ⟨fun h => ?_, fun h => ?_⟩) <;> clear hK K
 ·refine wrs fun K hK => ?_
  conv => whnf
  refine ⟨⟨rfl, by decide⟩, ?_⟩
  conv => whnf
  intro b_4 hs_4 hh_4 hf_4
  try dsimp only at hh_4 hf_4
  conv => whnf
  refine hK _ ?_
  clear hK K
  refine W.ret ?_
  conv => whnf
  refine ⟨by dsimp only; omega, ?_⟩
  conv => whnf
  refine ⟨rfl, ?_⟩
  conv => whnf
  refine ⟨.ints none [1, 1], ⟨.inl rfl, rfl⟩, ?_⟩
  conv => whnf
  exact ⟨.ownB b (x), ⟨rfl, rfl⟩, .inr ⟨rfl, rfl⟩, .dead, trivial, rfl, rfl, rfl, ⟨x, hx, rfl⟩, _, rfl, ⟨_, rfl, by decide⟩⟩
 have hP : isP p = true := by simpa using h
 have hp2 := isP_le hP
 refine W.skip (hK1 _ ?_)
 clear hK1 K1
 refine wrs fun K hK => ?_
 conv => whnf
 refine ⟨⟨rfl, rfl⟩, ?_⟩
 conv => whnf
 refine ⟨rfl, _, (l08Valid_o hc p (by omega) 4 (by omega) b x hx), ?_⟩
 rintro hs_ms1 av x' t' hh_ms1 ⟨rfl, ⟨x1, hx1, rfl⟩, bo1, L1, rfl, hL1⟩ _ _ hf_ms1
 replace hf_ms1 := hf_ms1 (by simp)
 try dsimp only at hh_ms1
 conv => whnf
 refine hK _ ?_
 clear hK K
 have hl1 := hL1.2.1
 refine W.seqK fun K1 hK1 => ?_
 refine wrs fun K hK => ?_
 conv => whnf
 refine ⟨⟨rfl, rfl⟩, ?_⟩
 conv => whnf
 refine ⟨rfl, _, (l01Next_m hc 24 (by constructor <;> decide) b x1 hx1), ?_⟩
 rintro hs_ms2 av x' t' hh_ms2 ⟨rfl, ⟨x2, hx2, rfl⟩, _, rfl, ⟨q, rfl, q0, q1, _⟩⟩ _ _ _
 try dsimp only at hh_ms2
 conv => whnf
 refine hK _ (W.block ?_)
 clear hK K
 have fin : ∀ (bo : Nat) (L : List Int) (x2 : V) (t : S), L.length ≤ 20 → OkSrc n c x2 → hs0 ≤ t.hs → coverK t.env [(vt, .dead), (vk, .keep O U hw 0 v0), (0, .ownB b x2), (5, .ownI 2 bo L)] → K1 t := by
  intro bo L x2 t hL hx2 h9 h10
  refine hK1 _ (W.weak (t := ⟨[(vt, .dead), (vk, .keep O U hw 0 v0), (0, .ownB b x2), (5, .ownI 2 bo L)], hs0⟩) ⟨h9, h10⟩ hb0 ?_)
  clear hK1 K1
  refine wrs fun K hK => ?_
  conv => whnf
  refine hK _ ?_
  clear hK K
  refine W.ret ?_
  conv => whnf
  refine ⟨by dsimp only; omega, ?_⟩
  conv => whnf
  refine ⟨rfl, ?_⟩
  conv => whnf
  refine ⟨.ints none L, ⟨rfl, rfl⟩, ?_⟩
  conv => whnf
  exact ⟨.ownB b (x2), ⟨rfl, rfl⟩, .inr ⟨rfl, rfl⟩, .dead, trivial, rfl, rfl, rfl, ⟨x2, hx2, rfl⟩, _, rfl, ⟨_, rfl, hL⟩⟩
 refine wrs fun K hK => ?_
 conv => whnf
 refine hK _ (W.cond ⟨fun h => ?_, fun h => ?_⟩) <;> clear hK K
 ·refine wrg ?_
  conv => whnf
  refine ⟨⟨rfl, by decide⟩, ?_⟩
  conv => whnf
  intro b_6 hs_6 hh_6 hf_6
  try dsimp only at hh_6 hf_6
  conv => whnf
  refine ⟨⟨rfl, rfl⟩, ?_⟩
  conv => whnf
  refine ⟨rfl, _, (l01Pick_m hc none [0, p, -1] ⟨(by show 1 ≤ 3; omega), (by show 3 ≤ 1000; omega)⟩ b x2 hx2), ?_⟩
  rintro hs_ms3 av x' t' hh_ms3 ⟨rfl, ⟨x3, hx3, rfl⟩, _, rfl, ⟨r, rfl, hr⟩⟩ _ _ _
  try dsimp only at hh_ms3
  conv => whnf
  refine ⟨⟨rfl, by decide⟩, ?_⟩
  conv => whnf
  intro b_7 hs_7 hh_7 hf_7
  try dsimp only at hh_7 hf_7
  conv => whnf
  refine ⟨by simp; omega, ?_⟩
  conv => whnf
  intro b_8 hs_8 hh_8 hf_8
  try dsimp only at hh_8 hf_8
  conv => whnf
  refine fin b_8 (L1 ++ [r]) x3 _ (by simp; omega) hx3 (by dsimp only; omega) ?_
  exact cvr
 refine wrs fun K hK => ?_
 conv => whnf
 refine hK _ (W.cond ⟨fun h1 => ?_, fun h1 => ?_⟩) <;> clear hK K
 ·refine wrs fun K hK => ?_
  conv => whnf
  refine ⟨⟨rfl, by decide⟩, ?_⟩
  conv => whnf
  intro b_4 hs_4 hh_4 hf_4
  try dsimp only at hh_4 hf_4
  conv => whnf
  refine hK _ ?_
  clear hK K
  refine W.ret ?_
  conv => whnf
  refine ⟨by dsimp only; omega, ?_⟩
  conv => whnf
  refine ⟨rfl, ?_⟩
  conv => whnf
  refine ⟨.ints none [], ⟨.inl rfl, rfl⟩, ?_⟩
  conv => whnf
  exact ⟨.ownB b (x2), ⟨rfl, rfl⟩, .inr ⟨rfl, rfl⟩, .dead, trivial, rfl, rfl, rfl, ⟨x2, hx2, rfl⟩, _, rfl, ⟨_, rfl, by decide⟩⟩
 refine wrs fun K hK => ?_
 conv => whnf
 refine hK _ (W.cond ⟨fun h2 => ?_, fun h2 => ?_⟩) <;> clear hK K
 ·refine wrs fun K hK => ?_
  conv => whnf
  refine ⟨⟨rfl, rfl⟩, ?_⟩
  conv => whnf
  refine ⟨rfl, _, (l08Valid_o hc p (by omega) 8 (by omega) b x2 hx2), ?_⟩
  rintro hs_ms3 av x' t' hh_ms3 ⟨rfl, ⟨x3, hx3, rfl⟩, bo3, L3, rfl, hL3⟩ _ _ hf_ms3
  replace hf_ms3 := hf_ms3 (by simp)
  try dsimp only at hh_ms3
  conv => whnf
  refine hK _ ?_
  clear hK K
  refine W.ret ?_
  conv => whnf
  refine ⟨by dsimp only; omega, ?_⟩
  conv => whnf
  refine ⟨rfl, ?_⟩
  conv => whnf
  refine ⟨.ints none L3, ⟨.inl rfl, rfl⟩, ?_⟩
  conv => whnf
  exact ⟨.ownB b (x3), ⟨rfl, rfl⟩, .inr ⟨rfl, rfl⟩, .dead, trivial, rfl, rfl, rfl, ⟨x3, hx3, rfl⟩, _, rfl, ⟨_, rfl, by have := hL3.2.1; omega⟩⟩
 refine wrs fun K hK => ?_
 conv => whnf
 refine hK _ (W.cond ⟨fun h3 => ?_, fun h3 => ?_⟩) <;> clear hK K
 ·refine wrs fun K hK => ?_
  conv => whnf
  refine ⟨⟨rfl, rfl⟩, ?_⟩
  conv => whnf
  refine ⟨rfl, _, (l08Valid_o hc p (by omega) 2 (by omega) b x2 hx2), ?_⟩
  rintro hs_ms3 av x' t' hh_ms3 ⟨rfl, ⟨x3, hx3, rfl⟩, bo3, L3, rfl, hL3⟩ _ _ hf_ms3
  replace hf_ms3 := hf_ms3 (by simp)
  try dsimp only at hh_ms3
  conv => whnf
  refine hK _ ?_
  clear hK K
  obtain ⟨hpr, f, hf⟩ := poly_of (polL_mod hP (by omega) hL3)
  letI := sp_of hpr
  have hfl : dg f ≤ 3 := by show f.l.length ≤ 3; rw [hf]; exact hL3.2.1
  rw [← hf]
  refine wrs fun K hK => ?_
  conv => whnf
  refine callI rfl (l08Multiply_fn p _ _ f f (by omega) (by omega)) fun hs_9 b_9 hh_9 hf_9 => ?_
  try dsimp only at hh_9 hf_9
  conv => whnf
  refine hK _ ?_
  clear hK K
  refine W.ret ?_
  conv => whnf
  refine ⟨by dsimp only; omega, ?_⟩
  conv => whnf
  refine ⟨rfl, ?_⟩
  conv => whnf
  refine ⟨.ints none (f * f).l, ⟨.inl rfl, rfl⟩, ?_⟩
  conv => whnf
  exact ⟨.ownB b (x3), ⟨rfl, rfl⟩, .inr ⟨rfl, rfl⟩, .dead, trivial, rfl, rfl, rfl, ⟨x3, hx3, rfl⟩, _, rfl, ⟨_, rfl, by have := dg_mul_le f f; show dg (f * f) ≤ 20; omega⟩⟩
 refine W.skip (fin bo1 L1 x2 _ (by omega) hx2 (by dsimp only; omega) ?_)
 exact cvr

theorem DrawIsModular_fn {n : Nat} {c : Nat → Int} (hc : Byt n c) : Fn Tryz.prog 181 [vBy n c] (fun _ _ z => ∃ (p : Int) (L : List Int), z = .v (.tup [.int .i64 p, .ints none L]) ∧ (-1000 ≤ p ∧ p ≤ 1000) ∧ L.length ≤ 20) := by
 refine fn_of (cx_ok [0, 2, 3, 4, 5]) Tryz.func181 rfl (by decide) Tryz.ntmps181 (Nat.le_of_ble_eq_true rfl) fun base => ?_
 refine wrs fun K hK => ?_
 conv => whnf
 refine hK _ ?_
 clear hK K
 refine wrs fun K hK => ?_
 conv => whnf
 refine callP rfl (l01From_fn hc) ?_
 rintro lo hi hi' z hl1 hl2 hl3 ⟨b, x, hx, rfl⟩ _
 try dsimp only at hl1 hl2
 conv => whnf
 refine hK _ ?_
 clear hK K
 refine wrs fun K hK => ?_
 conv => whnf
 refine ⟨⟨rfl, rfl⟩, ?_⟩
 conv => whnf
 refine ⟨rfl, _, (l08DrawPrime_m hc b x hx), ?_⟩
 rintro hs_ms1 av x' t' hh_ms1 ⟨rfl, ⟨x1, hx1, rfl⟩, _, rfl, ⟨p, rfl, hp⟩⟩ _ _ _
 try dsimp only at hh_ms1
 conv => whnf
 refine hK _ ?_
 clear hK K
 have hp2 : -1000 ≤ p ∧ p ≤ 1000 := by (simp only [List.mem_cons, List.not_mem_nil, or_false] at hp; omega)
 refine wrs fun K hK => ?_
 conv => whnf
 refine ⟨⟨rfl, rfl⟩, ?_⟩
 conv => whnf
 refine ⟨rfl, _, (l08Draw_m hc p (by constructor <;> omega) b x1 hx1), ?_⟩
 rintro hs_ms2 av x' t' hh_ms2 ⟨rfl, ⟨x2, hx2, rfl⟩, _, rfl, ⟨L, rfl, hL⟩⟩ _ _ _
 try dsimp only at hh_ms2
 conv => whnf
 refine hK _ ?_
 clear hK K
 refine W.ret ?_
 conv => whnf
 exact ⟨.v (.int .i64 p), ⟨rfl, rfl⟩, trivial, .v (.ints none L), ⟨rfl, rfl⟩, trivial, p, L, rfl, hp2, hL⟩

open Go Go.RowKit Go.Proofs Poly
set_option maxRecDepth 100000
set_option maxHeartbeats 8000000

theorem prodT_dg {p : Int} [SP p] {F : List (Poly p × Nat)} (h : ∀ j, j < F.length → dg (F.getD j (0, 0)).1 ≤ 13) : ∀ k, k ≤ F.length → dg (prodT F k) ≤ 13 * k + 1
 | 0, _ => by rw [prodT, dg_one]; omega
 | k + 1, hk => by
  have h1 := prodT_dg h k (by omega)
  have h2 := dg_mul_le (prodT F k) (F.getD k (0, 0)).1
  have h3 := h k (by omega)
  rw [prodT]; omega

theorem _root_.Go.Proofs.YtlmckocbhcpmdaaGreat.Poly.FacOf.small {p : Int} [SP p] {f : Poly p} {F : List (Poly p × Nat)} (h : FacOf f F) (hf0 : f ≠ 0) (hf : dg f ≤ 13) : ∀ j, j < F.length → dg (F.getD j (0, 0)).1 ≤ 13 := fun j hj => by
 obtain ⟨_, _, h1, h2⟩ := (h.2 (F.getD j (0, 0))).1 (by rw [getD_lt hj]; exact List.getElem_mem hj)
 have := dvd_dg (h2.dvd h1) hf0
 omega

theorem sqfS_bad (g : Option Nat) (p : Int) (xs : List Int) (hl : xs.length ≤ 1000000000) (h : codeFa p xs ≠ 0) : FnV 46 [.int .i64 p, .ints g xs] (RV [] (codeFa p xs)) := by
 refine fn_of (cx_ok [0, 1, 4, 5, 6, 7, 8, 9, 14, 23]) Tryz.func46 rfl (by decide) Tryz.ntmps46 (Nat.le_of_ble_eq_true rfl) fun base => ?_
 refine wrs fun K hK => ?_
 conv => whnf
 refine hK _ ?_
 clear hK K
 refine wrs fun K hK => ?_
 conv => whnf
 refine callV rfl (l09Code_fn g p xs hl) fun hs' hhs => ?_
 try dsimp only at hhs
 conv => whnf
 refine hK _ ?_
 clear hK K
 refine W.seqK fun K1 hK1 => ?_
 refine wrs fun K hK => ?_
 conv => whnf
 refine hK _ (W.cond ⟨fun h1 => ?_, fun h1 => ?_⟩) <;> clear hK K
 ·refine wrs fun K hK => ?_
  conv => whnf
  refine hK _ ?_
  clear hK K
  refine W.ret ?_
  conv => whnf
  exact ⟨.v (.ints none []), rfl, trivial, .v (.int .i64 (codeFa p xs)), ⟨rfl, rfl⟩, trivial, rfl⟩
 ·exact absurd (of_decide_eq_false h1) (by simpa using h)

theorem sqf_bad (g : Option Nat) (p : Int) (xs : List Int) (h : codeFa p xs ≠ 0) : FnT Tryz.prog 45 [.int .i64 p, .ints g xs] (RT [] (codeFa p xs)) := by
 refine fnt_of (cxt_ok [] [0, 1, 4, 5, 6, 7, 9, 14, 19, 20, 21, 22, 1000000]) Tryz.func45 rfl (by decide) Tryz.ntmps45 (Nat.le_of_ble_eq_true rfl) (fun base => ?_) (Nat.le_of_ble_eq_true rfl)
 refine W.rs (cxt_ok _ _) (by rfl) fun K hK => ?_
 conv => whnf
 refine hK _ ?_
 clear hK K
 refine W.seqK fun K1 hK1 => ?_
 refine W.rs (cxt_ok _ _) (by rfl) fun K hK => ?_
 conv => whnf
 refine callV rfl (factorable_fn g p xs) fun hs' hhs => ?_
 try dsimp only at hhs
 conv => whnf
 refine hK _ ?_
 clear hK K
 refine W.rs (cxt_ok _ _) (by rfl) fun K hK => ?_
 conv => whnf
 refine hK _ (W.cond ⟨fun h1 => ?_, fun h1 => ?_⟩) <;> clear hK K
 ·refine W.rs (cxt_ok _ _) (by rfl) fun K hK => ?_
  conv => whnf
  refine hK _ ?_
  clear hK K
  refine W.ret ?_
  conv => whnf
  exact ⟨.v (.rf 0 0), rfl, trivial, .v (.int .i64 (codeFa p xs)), ⟨rfl, rfl⟩, trivial, 0, rfl, fun hne => absurd rfl hne⟩
 ·exact absurd (of_decide_eq_false h1) (by simpa using h)

theorem sqfS_ok (p : Int) [SP p] (g : Option Nat) (f : Poly p) (hc : codeFa p f.l = 0) (F : List (Poly p × Nat)) (hF : FacOf f F) (h2 : 2 ≤ dg f) (h9 : dg f ≤ 9) : FnV 46 [.int .i64 p, .ints g f.l] (RV (prodT F F.length).l 0) := by
 have hf0 : f ≠ 0 := fun e => by rw [e, dg_zero] at h2; omega
 have hfl : f.l.length = dg f := rfl
 have hFs := hF.small hf0 (by omega)
 have hFl := hF.facs.few hf0
 have hpd := prodT_dg hFs
 refine fn_of (cx_ok [0, 1, 4, 5, 6, 7, 8, 9, 14, 23]) Tryz.func46 rfl (by decide) Tryz.ntmps46 (Nat.le_of_ble_eq_true rfl) fun base => ?_
 refine wrs fun K hK => ?_
 conv => whnf
 refine hK _ ?_
 clear hK K
 refine wrs fun K hK => ?_
 conv => whnf
 refine callV rfl (l09Code_fn g p f.l (by omega)) fun hs' hhs => ?_
 try dsimp only at hhs
 conv => whnf
 rw [hc]
 refine hK _ ?_
 clear hK K
 refine W.seqK fun K1 hK1 => ?_
 refine wrs fun K hK => ?_
 conv => whnf
 refine hK _ (W.cond ⟨fun h1 => ?_, fun h1 => ?_⟩) <;> clear hK K
 ·exact absurd rfl (of_decide_eq_true h1)
 refine W.skip (hK1 _ ?_)
 clear hK1 K1
 refine wrs fun K hK => ?_
 conv => whnf
 refine ⟨⟨rfl, by decide⟩, ?_⟩
 conv => whnf
 intro b_1 hs_1 hh_1 hf_1
 try dsimp only at hh_1 hf_1
 conv => whnf
 refine hK _ ?_
 clear hK K
 refine wrs fun K hK => ?_
 conv => whnf
 refine callP rfl (l09All_fn p g f (by omega) hf0) ?_
 rintro lo hi hi' z hl1 hl2 hl3 ⟨F', hF', rfl⟩ _
 obtain rfl := hF.unique hF'
 try dsimp only at hl1 hl2
 conv => whnf
 refine hK _ ?_
 clear hK K
 refine W.seqK fun K1 hK1 => ?_
 refine wrs fun K hK => ?_
 conv => whnf
 refine hK _ (W.block (W.invA (fun m e => ∃ k b : Nat, k ≤ F.length ∧ m = F.length - k ∧ e = [(0, .v (.int .i64 p)), (7, .ownI 2 b (prodT F k).l), (8, .v (vFs F)), (9, .v (.int .i64 k))]) ⟨0, b_1, Nat.zero_le _, rfl, by rw [prodT, one_l]⟩ ?_))
 clear hK K
 rintro m e ⟨k, b, hk, hm, rfl⟩
 refine W.seqK fun K7 hK7 => wrs fun K hK => ?_
 conv => whnf
 refine hK _ (W.cond ⟨fun h3 => ?_, fun h3 => ?_⟩) <;> clear hK K <;> (first | replace h3 := of_decide_eq_true h3 | replace h3 := of_decide_eq_false h3)
 ·have hxs := hFs k (by omega)
  have hps := hpd k (by omega)
  refine W.skip (hK7 _ ?_)
  clear hK7 K7
  refine W.seqK fun K8 hK8 => W.block ?_
  refine wrg ?_
  conv => whnf
  refine ⟨oo, ?_⟩
  conv => whnf
  rw [Int.toNat_natCast]
  refine callI rfl (l08Multiply_fn p _ _ (prodT F k) (F.getD k (0, 0)).1 (by omega) (by omega)) fun hs_4 b_4 hh_4 hf_4 => ?_
  try dsimp only at hh_4 hf_4
  conv => whnf
  refine hK8 _ ?_
  clear hK8 K8
  refine wrg ?_
  conv => whnf
  refine ⟨oo, ?_⟩
  conv => whnf
  exact againA ⟨k + 1, b_4, by omega, rfl, rfl⟩
 ·obtain rfl : k = F.length := by omega
  refine W.exit (hK1 _ ?_)
  clear hK7 K7 hK1 K1
  refine wrs fun K hK => ?_
  conv => whnf
  refine hK _ ?_
  clear hK K
  refine W.ret ?_
  conv => whnf
  exact ⟨.v (.ints none (prodT F F.length).l), ⟨rfl, rfl⟩, trivial, .v (.int .i64 0), ⟨rfl, rfl⟩, trivial, rfl⟩

theorem sqf_ok (p : Int) [SP p] (g : Option Nat) (f : Poly p) (hc : codeFa p f.l = 0) (F : List (Poly p × Nat)) (hF : FacOf f F) (h2 : 2 ≤ dg f) (h9 : dg f ≤ 9) : FnT Tryz.prog 45 [.int .i64 p, .ints g f.l] (RT (prodT F F.length).l 0) := by
 have hf0 : f ≠ 0 := fun e => by rw [e, dg_zero] at h2; omega
 have hfl : f.l.length = dg f := rfl
 have hFs := hF.small hf0 (by omega)
 have hFl := hF.facs.few hf0
 have hpd := prodT_dg hFs
 refine fnt_of (cxt_ok [] [0, 1, 4, 5, 6, 7, 9, 14, 19, 20, 21, 22, 1000000]) Tryz.func45 rfl (by decide) Tryz.ntmps45 (Nat.le_of_ble_eq_true rfl) (fun base => ?_) (Nat.le_of_ble_eq_true rfl)
 refine W.rs (cxt_ok _ _) (by rfl) fun K hK => ?_
 conv => whnf
 refine hK _ ?_
 clear hK K
 refine W.seqK fun K1 hK1 => ?_
 refine W.rs (cxt_ok _ _) (by rfl) fun K hK => ?_
 conv => whnf
 refine callV rfl (factorable_fn g p f.l) fun hs' hhs => ?_
 try dsimp only at hhs
 conv => whnf
 rw [hc]
 refine hK _ ?_
 clear hK K
 refine W.rs (cxt_ok _ _) (by rfl) fun K hK => ?_
 conv => whnf
 refine hK _ (W.cond ⟨fun h1 => ?_, fun h1 => ?_⟩) <;> clear hK K
 ·exact absurd rfl (of_decide_eq_true h1)
 refine W.skip (hK1 _ ?_)
 clear hK1 K1
 refine W.rs (cxt_ok _ _) (by rfl) fun K hK => ?_
 conv => whnf
 refine ⟨⟨rfl, by decide⟩, ?_⟩
 conv => whnf
 intro b_1 hs_1 hh_1 hf_1
 try dsimp only at hh_1 hf_1
 conv => whnf
 refine hK _ ?_
 clear hK K
 refine W.seqK fun K1 hK1 => ?_
 refine W.rs (cxt_ok _ _) (by rfl) fun K hK => ?_
 conv => whnf
 refine callP rfl (factorsBy_fn p _ g f (by omega) (Nat.le_refl _) hf0) ?_
 rintro lo hi hi' z hl1 hl2 hl3 ⟨F', hF', rfl⟩ _
 obtain rfl := hF.unique hF'
 try dsimp only at hl1 hl2
 conv => whnf
 refine hK _ (W.block (W.invA (fun m e => ∃ k b : Nat, k ≤ F.length ∧ m = F.length - k ∧ e = [(vt, .tab fun _ => none), (0, .v (.int .i64 p)), (7, .ownI 2 b (prodT F k).l), (19, .v (vFs F)), (20, .v (.int .i64 F.length)), (21, .v (.int .i64 k))]) ⟨0, b_1, Nat.zero_le _, rfl, by rw [prodT, one_l]⟩ ?_))
 clear hK K
 rintro m e ⟨k, b, hk, hm, rfl⟩
 refine W.rs (cxt_ok _ _) (by rfl) fun K hK => ?_
 conv => whnf
 refine hK _ ?_
 clear hK K
 refine W.seqK fun K7 hK7 => W.cond ⟨fun h3 => ?_, fun h3 => ?_⟩ <;> (first | replace h3 := of_decide_eq_true h3 | replace h3 := of_decide_eq_false h3)
 ·have hxs := hFs k (by omega)
  have hps := hpd k (by omega)
  refine W.skip (hK7 _ ?_)
  clear hK7 K7
  refine W.seqK fun K8 hK8 => W.block ?_
  refine W.rs (cxt_ok _ _) (by rfl) fun K hK => ?_
  conv => whnf
  refine ⟨oo, ?_⟩
  conv => whnf
  rw [Int.toNat_natCast]
  intro b_2 hs_2 hh_2 hf_2
  try dsimp only at hh_2 hf_2
  conv => whnf
  refine ⟨s23, ?_⟩
  conv => whnf
  refine hK _ ?_
  clear hK K
  refine W.region (cxt_ok _ _) (by rfl) ?_
  conv => whnf
  refine callI rfl (times_fn p _ _ (prodT F k) (F.getD k (0, 0)).1 (by omega) (by omega)) fun hs_4 b_4 hh_4 hf_4 => ?_
  try dsimp only at hh_4 hf_4
  conv => whnf
  refine hK8 _ ?_
  clear hK8 K8
  refine W.region (cxt_ok _ _) (by rfl) ?_
  conv => whnf
  refine ⟨oo, ?_⟩
  conv => whnf
  exact againA ⟨k + 1, b_4, by omega, rfl, rfl⟩
 ·obtain rfl : k = F.length := by omega
  refine W.exit (hK1 _ ?_)
  clear hK7 K7 hK1 K1
  refine W.rs (cxt_ok _ _) (by rfl) fun K hK => ?_
  conv => whnf
  refine hK _ ?_
  clear hK K
  refine W.ret ?_
  conv => whnf
  exact ⟨.v (.rf b _), rfl, trivial, .v (.int .i64 (0)), ⟨rfl, rfl⟩, trivial, b, rfl, fun hne => tbAdd_self _ _ hne⟩

theorem SquareFreePart_E (p : Int) (f : List Int) (_ : inR p) (h : f.length ≤ 1048576) : ∃ (r0 : List Int) (r1 : Int), (∀ g1 : Option Nat, FnV 46 [.int .i64 p, .ints g1 f] (.tup [.ints none r0, .int .i64 r1])) ∧
  (∀ g1 : Option Nat, FnT Tryz.prog 45 [.int .i64 p, .ints g1 f] (fun _ _ x tb => ∃ rb0 : Nat, x = .tup [.rf rb0 r0.length, .int .i64 r1] ∧ (r0 ≠ [] → tb rb0 = some r0))) ∧ r0.length ≤ 1000000 ∧ r1 = codeFa p f ∧
  (∀ hp : p ∈ primes, letI := sp_of hp; ∀ (φ : Poly p) (F : List (Poly p × Nat)), φ.l = f → codeFa p f = 0 → FacOf φ F → r0 = (prodT F F.length).l) := by
 by_cases hc : codeFa p f = 0
 ·obtain ⟨hm, h2⟩ := codeFa_ok hc
  obtain ⟨hp, f, rfl⟩ := poly_of hm
  letI := sp_of hp
  have h9 := hm.2.1
  have hfl : f.l.length = dg f := rfl
  have hf0 : f ≠ 0 := fun e => by have := dg_eq_zero.2 e; omega
  obtain ⟨F, hF⟩ := exists_fac hf0
  have hFl := hF.facs.few hf0
  have := prodT_dg (hF.small hf0 (by omega)) F.length (Nat.le_refl _)
  exact ⟨_, _, fun g => sqfS_ok p g f hc F hF (by omega) (by omega), fun g => sqf_ok p g f hc F hF (by omega) (by omega), by show dg _ ≤ _; omega, hc.symm, fun _ φ G e _ hG => by obtain rfl := ext_l e; rw [hF.unique hG]⟩
 ·exact ⟨[], codeFa p f, fun g => sqfS_bad g p f (by omega) hc, fun g => sqf_bad g p f hc, by simp, rfl, fun _ _ _ _ h0 _ => absurd h0 hc⟩

open Go Go.RowKit Go.Proofs Poly
set_option maxRecDepth 100000
set_option maxHeartbeats 8000000

theorem RT.toV {f : Nat} {xs : List V} {l : List Int} {c : Int} (h : FnT Tryz.prog f xs (RT l c)) : FnV f xs (.tup [.ints none l, .int .i64 c]) :=
 FnT.toV h fun _ _ x tb hx => by
  obtain ⟨b, rfl, hb⟩ := hx
  refine ⟨_, rfl, rfl, fun j hj => ?_⟩
  match j, hj with
  | 0, _ => exact ⟨l, rfl, hb, rfl⟩
  | 1, _ => rfl
open Go Go.RowKit Go.ChangeShapes Go.WideShapes Go.ChangeAt Go.Proofs Go.Proofs.YtlmckocbhcpmdaaGreat

theorem fn_calls {P : Program} {f : Nat} {xs : List V} {r : V} {w : World} {vs : Array Value} (h : Fn P f xs (fun _ _ a => a = .v r)) (hl : vs.size = xs.length)
  (hr : ∀ j, j < xs.length → Rep (okAll w) w.heap (xs.getD j .nil) (vs.getD j undef)) :
  Calls P f vs w fun e w' => ∃ v, e = .returned v ∧ Below w.heap.size w w' ∧ Rep (okR (fun _ => False) w'.heap.size) w'.heap r v := by
 refine (h.2 (fun _ => False) w vs (fun _ h => h.elim) hl hr).mono fun e w' ⟨v, av, hi, h1, h2, h3, h4, h5⟩ => ?_
 subst h3
 obtain ⟨_, h6, _⟩ := h5
 refine ⟨v, h1, h4, ?_⟩
 exact Rep.mono h6 fun g b hb => ⟨⟨hb.1, fun h => h.elim, hb.2.2⟩, rfl⟩

theorem ownP : ownKnob Tryz.prog.godebug = none := by kernel_rfl
theorem laidOutP : laidOutB Tryz.prog = true := by kernel_rfl
open Go Go.RowKit Go.ChangeShapes Go.WideShapes Go.ChangeAt Go.Proofs Go.Proofs.YtlmckocbhcpmdaaGreat

section
variable {H : Type} {enc : TypeId × Value → H} {P : Program} {w : World}
def TyU8 (xs : List V) : Prop := ∃ n : Int, xs = [.int .u8 n] ∧ 0 ≤ n ∧ n ≤ 255
theorem wf_u8 {n : Int} (h : (Lit.int .u8 n).wf = true) : 0 ≤ n ∧ n ≤ 255 := by
 simp only [Lit.wf, Bool.and_eq_true, decide_eq_true_eq] at h
 have h1 : IntKind.u8.min = 0 := rfl
 have h2 : IntKind.u8.max = 255 := rfl
 omega
theorem reads_u8 {t : TypeId} (ht : P.underlying t = some (.int .u8)) : Reads enc P w t 1 TyU8 := by
 intro fuel cs d ps h
 obtain ⟨n, hc, hx, hw⟩ := DataW.trod_int ht h
 subst hc
 refine ⟨rfl, _, ⟨n, rfl, wf_u8 hw⟩, rfl, by simp [V.isCell], fun j hj => ?_⟩
 obtain rfl : j = 0 := by omega
 exact .int _ _
theorem bytes_of {xs : List V} (h : TyVals 1 mkHead TyU8 xs) : ∃ (n : Nat) (c : Nat → Int), (∀ i, 0 ≤ c i ∧ c i ≤ 255) ∧ xs.length = 1 ∧ ∀ ok h' v, Rep ok h' (xs.getD 0 .nil) v → Rep ok h' (vBy n c) v := by
 obtain ⟨n, f, rfl, _, hf⟩ := h
 have hf2 : ∀ i, ∃ z : Int, (0 ≤ z ∧ z ≤ 255) ∧ (i < n → f i = .int .u8 z) := by
  intro i
  by_cases hi : i < n
  ·obtain ⟨ys, ⟨z, rfl, hz⟩, e⟩ := hf i hi
   exact ⟨z, hz, fun _ => e⟩
  ·exact ⟨0, by omega, fun h => absurd h hi⟩
 refine ⟨n, fun i => Classical.choose (hf2 i), fun i => (Classical.choose_spec (hf2 i)).1, rfl, fun ok h' v r => leV_sound (x := .vals none 1 n f) ⟨rfl, rfl, rfl, fun i hi => (Classical.choose_spec (hf2 i)).2 hi⟩ r⟩
end
theorem fn_trueB {P : Program} {f : Nat} {xs : List V} {w : World} {vs : Array Value} (h : Fn P f xs (fun _ _ a => a = .v (.bool true))) (hl : vs.size = xs.length)
  (hr : ∀ j, j < xs.length → Rep (okAll w) w.heap (xs.getD j .nil) (vs.getD j undef)) :
  Calls P f vs w fun e w' => e = .returned (.bool true) ∧ Below w.heap.size w w' :=
 (fn_calls h hl hr).mono fun e w' ⟨v, h1, h2, h3⟩ => by
  cases h3
  exact ⟨h1, h2⟩
theorem cellsU8 : Tryz.prog.cellsOf 5 = 1 := by kernel_rfl
theorem readsBytes {H : Type} {enc : TypeId × Value → H} {W : World} : Reads enc Tryz.prog W 22 1 (TyVals 1 mkHead TyU8) :=
 reads_slice Tryz.underlying22 cellsU8 (fun xs h1 h2 => mk_head xs h1 h2) (reads_u8 Tryz.underlying5)

open Go Go.RowKit Go.Proofs Poly
set_option maxRecDepth 100000
set_option maxHeartbeats 8000000

theorem l09Draw_fn {n : Nat} {c : Nat → Int} (hc : Byt n c) : Fn Tryz.prog 200 [vBy n c] (fun _ _ z => ∃ (p : Int) (L : List Int), z = .v (.tup [.int .i64 p, .ints none L]) ∧ (-1000 ≤ p ∧ p ≤ 1000) ∧ L.length ≤ 20) := by
 refine fn_of (cx_ok [0, 2, 3, 4, 5, 6, 7, 21, 26]) Tryz.func200 rfl (by decide) Tryz.ntmps200 (Nat.le_of_ble_eq_true rfl) fun base => ?_
 refine wrs fun K hK => ?_
 conv => whnf
 refine hK _ ?_
 clear hK K
 refine wrs fun K hK => ?_
 conv => whnf
 refine callP rfl (l01From_fn hc) ?_
 rintro lo hi hi' z hl1 hl2 hl3 ⟨b, x, hx, rfl⟩ _
 try dsimp only at hl1 hl2
 conv => whnf
 refine hK _ ?_
 clear hK K
 refine wrs fun K hK => ?_
 conv => whnf
 refine ⟨⟨rfl, rfl⟩, ?_⟩
 conv => whnf
 refine ⟨rfl, _, (l08DrawPrime_m hc b x hx), ?_⟩
 rintro hs_ms1 av x' t' hh_ms1 ⟨rfl, ⟨x1, hx1, rfl⟩, _, rfl, ⟨p, rfl, hp⟩⟩ _ _ _
 try dsimp only at hh_ms1
 conv => whnf
 refine hK _ ?_
 clear hK K
 have hp2 : -1000 ≤ p ∧ p ≤ 1000 := by (simp only [List.mem_cons, List.not_mem_nil, or_false] at hp; omega)
 refine wrs fun K hK => ?_
 conv => whnf
 refine ⟨⟨rfl, rfl⟩, ?_⟩
 conv => whnf
 refine ⟨rfl, _, (l08Draw_m hc p (by constructor <;> omega) b x1 hx1), ?_⟩
 rintro hs_ms2 av x' t' hh_ms2 ⟨rfl, ⟨x2, hx2, rfl⟩, _, rfl, ⟨L, rfl, hL⟩⟩ _ _ _
 try dsimp only at hh_ms2
 conv => whnf
 refine hK _ ?_
 clear hK K
 refine W.seqK fun K1 hK1 => ?_
 have fin : ∀ (L : List Int) (t : S), L.length ≤ 20 → base ≤ t.hs → coverK t.env [(5, .v (.int .i64 p)), (6, .v (.ints none L))] → K1 t := by
  intro L t hL h9 h10
  refine hK1 _ (W.weak (t := ⟨[(5, .v (.int .i64 p)), (6, .v (.ints none L))], base⟩) ⟨h9, h10⟩ (Nat.le_refl _) ?_)
  clear hK1 K1
  refine wrs fun K hK => ?_
  conv => whnf
  refine hK _ ?_
  clear hK K
  refine W.ret ?_
  conv => whnf
  exact ⟨.v (.int .i64 p), ⟨rfl, rfl⟩, trivial, .v (.ints none L), ⟨rfl, rfl⟩, trivial, p, L, rfl, hp2, hL⟩
 refine wrs fun K hK => ?_
 conv => whnf
 refine callV rfl (l01Small_fn p) fun hs' hhs => ?_
 try dsimp only at hhs
 conv => whnf
 refine ⟨fun hP => ?_, fun hP => ?_⟩
 ·conv => whnf
  have hp97 := isP_le hP
  letI := sp_of (of_decide_eq_true hP)
  refine ⟨⟨rfl, rfl⟩, ?_⟩
  conv => whnf
  refine ⟨rfl, _, (l01Next_m hc 2 (by constructor <;> decide) b x2 hx2), ?_⟩
  rintro hs_ms3 av x' t' hh_ms3 ⟨rfl, ⟨x3, hx3, rfl⟩, _, rfl, ⟨q, rfl, q0, q1, _⟩⟩ _ _ _
  try dsimp only at hh_ms3
  conv => whnf
  refine hK _ (W.cond ⟨fun h => ?_, fun h => ?_⟩) <;> clear hK K
  ·refine wrs fun K hK => ?_
   conv => whnf
   refine ⟨⟨rfl, by decide⟩, ?_⟩
   conv => whnf
   intro b_6 hs_6 hh_6 hf_6
   try dsimp only at hh_6 hf_6
   conv => whnf
   refine hK _ ?_
   clear hK K
   refine wrs fun K hK => ?_
   conv => whnf
   refine ⟨⟨rfl, rfl⟩, ?_⟩
   conv => whnf
   refine ⟨rfl, _, (l01Next_m hc 4 (by constructor <;> decide) b x3 hx3), ?_⟩
   rintro hs_ms4 av x' t' hh_ms4 ⟨rfl, ⟨x4, hx4, rfl⟩, _, rfl, ⟨u, rfl, u0, u1, _⟩⟩ _ _ _
   try dsimp only at hh_ms4
   conv => whnf
   have u4 := u1 (by decide)
   obtain ⟨f0, hf0⟩ : ∃ f : Poly p, f.l = [1] := ⟨1, one_l⟩
   refine hK _ (W.block (W.invA (fun m e => ∃ (i bo : Nat) (y : V) (f : Poly p), i ≤ 4 ∧ OkSrc n c y ∧ dg f ≤ 1 + 2 * (4 - i) ∧ m = i ∧ e = [(4, .ownB b y), (5, .v (.int .i64 p)), (6, .ownI 2 bo f.l), (7, .v (.int .i64 ((i : Int) - 1)))]) ⟨u.toNat + 1, b_6, x4, f0, by omega, hx4, (by show f0.l.length ≤ _; rw [hf0]; simp <;> omega), rfl, (by rw [hf0, show ((u.toNat + 1 : Nat) : Int) - 1 = u by omega])⟩ ?_))
   clear hK K
   rintro m e ⟨i, bo, y, f, hi, hy, hfl, hm, rfl⟩
   refine W.seqK fun K7 hK7 => wrs fun K hK => ?_
   conv => whnf
   refine hK _ (W.cond ⟨fun h5 => ?_, fun h5 => ?_⟩) <;> clear hK K <;> (first | replace h5 := of_decide_eq_true h5 | replace h5 := of_decide_eq_false h5)
   ·have hi1 : 1 ≤ i := by omega
    refine W.skip (hK7 _ (W.seqK fun K8 hK8 => W.block ?_))
    clear hK7 K7
    refine wrg ?_
    conv => whnf
    refine ⟨⟨rfl, rfl⟩, ?_⟩
    conv => whnf
    refine ⟨rfl, _, (l08Valid_o hc p (by omega) 2 (by omega) b y hy), ?_⟩
    rintro hs_ms5 av x' t' hh_ms5 ⟨rfl, ⟨x5, hx5, rfl⟩, bo5, L5, rfl, hL5⟩ _ _ hf_ms5
    replace hf_ms5 := hf_ms5 (by simp)
    try dsimp only at hh_ms5
    conv => whnf
    obtain ⟨_, g, rfl⟩ := poly_of (polL_mod hP (by omega) hL5)
    have hgl : dg g ≤ 3 := hL5.2.1
    refine callI rfl (l08Multiply_fn p _ _ f g (by omega) (by omega)) fun hs_9 b_9 hh_9 hf_9 => ?_
    try dsimp only at hh_9 hf_9
    conv => whnf
    refine hK8 _ ?_
    clear hK8 K8
    refine wrg ?_
    conv => whnf
    refine ⟨oo, ?_⟩
    conv => whnf
    have hmul := dg_mul_le f g
    rw [show ((i : Int) - 1 - 1) = ((i - 1 : Nat) : Int) - 1 by omega]
    exact againA ⟨i - 1, b_9, x5, f * g, by omega, hx5, by omega, rfl, rfl⟩
   ·refine W.exit (fin f.l _ (by show dg f ≤ 20; omega) (by dsimp only; omega) ?_)
    exact cvr
  ·refine W.skip (fin L _ hL (by dsimp only; omega) ?_)
   exact cvr
 ·conv => whnf
  refine hK _ (W.condF rfl (W.skip (fin L _ hL (by dsimp only; omega) ?_)))
  exact cvr

theorem DrawDegreesOf_fn {n : Nat} {c : Nat → Int} (hc : Byt n c) : Fn Tryz.prog 42 [vBy n c] (fun _ _ z => ∃ (p : Int) (L : List Int), z = .v (.tup [.int .i64 p, .ints none L]) ∧ (-1000 ≤ p ∧ p ≤ 1000) ∧ L.length ≤ 20) := by
 refine fn_of (cx_ok [0, 2, 3]) Tryz.func42 rfl (by decide) Tryz.ntmps42 (Nat.le_of_ble_eq_true rfl) fun base => ?_
 refine wrs fun K hK => ?_
 conv => whnf
 refine hK _ ?_
 clear hK K
 refine wrs fun K hK => ?_
 conv => whnf
 refine callP rfl (l09Draw_fn hc) ?_
 rintro lo hi hi' z hl1 hl2 hl3 ⟨p, L, rfl, hp, hL⟩ _
 try dsimp only at hl1 hl2
 conv => whnf
 refine hK _ ?_
 clear hK K
 refine W.ret ?_
 conv => whnf
 exact ⟨.v (.int .i64 p), ⟨rfl, rfl⟩, trivial, .v (.ints none L), ⟨rfl, rfl⟩, trivial, p, L, rfl, hp, hL⟩
theorem DrawIsIrreducible_fn {n : Nat} {c : Nat → Int} (hc : Byt n c) : Fn Tryz.prog 51 [vBy n c] (fun _ _ z => ∃ (p : Int) (L : List Int), z = .v (.tup [.int .i64 p, .ints none L]) ∧ (-1000 ≤ p ∧ p ≤ 1000) ∧ L.length ≤ 20) := by
 refine fn_of (cx_ok [0, 2, 3]) Tryz.func51 rfl (by decide) Tryz.ntmps51 (Nat.le_of_ble_eq_true rfl) fun base => ?_
 refine wrs fun K hK => ?_
 conv => whnf
 refine hK _ ?_
 clear hK K
 refine wrs fun K hK => ?_
 conv => whnf
 refine callP rfl (DrawIsModular_fn hc) ?_
 rintro lo hi hi' z hl1 hl2 hl3 ⟨p, L, rfl, hp, hL⟩ _
 try dsimp only at hl1 hl2
 conv => whnf
 refine hK _ ?_
 clear hK K
 refine W.ret ?_
 conv => whnf
 exact ⟨.v (.int .i64 p), ⟨rfl, rfl⟩, trivial, .v (.ints none L), ⟨rfl, rfl⟩, trivial, p, L, rfl, hp, hL⟩

end Go.Proofs.YtlmckocbhcpmdaaGreat
