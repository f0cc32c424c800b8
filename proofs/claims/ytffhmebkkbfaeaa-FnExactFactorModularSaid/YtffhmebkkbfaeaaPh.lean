/- What the program's functions and the reference's return. No conditions. -/
import Derived.Test.YtffhmebkkbfaeaaPf
import Derived.Test.YtffhmebkkbfaeaaPg
import Derived.Test.YtffhmebkkbfaeaaRows
namespace Go.Proofs.Ytffhmebkkbfaeaa
open Go Go.RowKit Go.Proofs

theorem zgM (x : Int) (h0 : 0 <= x) (h1 : x <= 9223372036854775807) : Fn Try.prog 54 [.int .u64 x] (λ_ _ a => ∃ r : Int, a = .v (.int .i64 r)) := by
 refine ⟨⟨_, Try.func54, rfl, by decide⟩, λD w vs hD hsz hrep => ?_⟩
 obtain ⟨v, rfl⟩ : ∃ v, vs = #[v] := by
  refine ⟨vs.getD 0 undef, Array.ext (by simpa using hsz) λi h1 h2 => ?_⟩;obtain rfl : i = 0 := by simpa using h2
  simp [Array.getD, h1]
 have hv := zJ (hrep 0 (by simp));have hv : v = .int .u64 x := hv;subst hv;refine (bitsLen_calls x w h0 (by omega)).mono ?_;rintro e w' ⟨rfl, rfl⟩;refine ⟨_, .v (.int .i64 (Lib.bitLen x.toNat)), w'.heap.size, rfl, Nat.le_refl _, ⟨_, rfl⟩, ?_, rfl, .int _ _, λb hb => hb.elim⟩;exact Below.refl _ _

open Go Go.RowKit Go.Proofs Poly
set_option maxRecDepth 100000
set_option maxHeartbeats 8000000

variable {p : Int} [SP p]
theorem zgN (B : Poly p -> Nat) (bk n : Nat) (lim : Int) (h0 : Nat -> Poly p × Nat) (hn : n <= 12) (hd : ∀ i, i < n -> dg (h0 i).1 <= 1000000) (hdis : ∀ i j, i < n -> j < n -> (h0 i).1 = (h0 j).1 -> i = j) :
  MFn Try.prog 53 [.nil, .int .i64 0, .int .i64 n, .int .i64 lim, .func 31 []] 0 (.ownV 36 2 bk n λj => vFb B (h0 j)) .dead
   (λ_ av x' t' => av = .v (.tup []) ∧ t' = .dead ∧ ∃ h : Nat -> Poly p × Nat, Mix n h0 h ∧ Ord h n ∧ x' = .ownV 36 2 bk n λj => vFb B (h j)) := by
 refine kv (cx := cx [0, 1, 2, 3, 4, 10, 11, 12, 13, 14, 15, 16, 17, 18, 19, 20, 25, 32, 39, 56, 75, 80, 97, 125, 1000000, 1000001]) Try.func53 rfl (by decide) Try.ntmps53 (Nat.le_of_ble_eq_true rfl) (Nat.le_of_ble_eq_true rfl) rfl rfl λbase hs0 O U hw v0 hb0 => ?_;refine W.rs (za _) (by rfl) λK hK => ?_;conv=>whnf
 refine hK _ ?_;clear hK;refine W.rs (za _) (by rfl) λK hK => ?_;conv=>whnf
 refine hK _ (W.block (W.invH hs0 hb0 (λm e => m = 0 ∧ e = [(0, .ownV 36 2 bk n λj => vFb B (h0 j)), (1, .v (.int .i64 0)), (2, .v (.int .i64 n)), (3, .v (.int .i64 lim)), (4, .v (.func 31 [])), (vt, .dead), (vk, .keep O U hw 0 v0)]) _ _ (⟨rfl, rfl⟩) (by dsimp only; omega) (by repeat' first | refine And.intro ?_ ?_ | exact trivial | rfl | omega | exact .inl rfl | exact λ_ _ => rfl | exact λ_ _ h => h | assumption | exact λi hi => (by obtain rfl : i = 0 := (by omega); rfl)) ?_));clear hK;rintro m e ⟨rfl, rfl⟩;refine W.block ?_;refine W.rs (za _) (by rfl) λK hK => ?_;conv=>whnf
 refine ⟨by constructor <;> omega, ?_⟩;conv=>whnf
 refine hK _ ?_;clear hK;refine W.seqK λK1 hK1 => W.rs (za _) (by rfl) λK hK => ?_;conv=>whnf
 refine hK _ (W.cond ⟨λh => ?_, λh => ?_⟩) <;> clear hK
 ·refine W.rs (za _) (by rfl) λK hK => ?_;conv=>whnf
  refine ⟨⟨rfl, rfl⟩, ?_⟩;conv=>whnf
  refine ⟨rfl, _, zaS B bk n h0 (by omega) hd hdis, ?_⟩;rintro hs' av x' t' hh ⟨rfl, rfl, h, hM, hO, rfl⟩ _ _ _;conv=>whnf
  refine hK _ (W.ret ?_);conv=>whnf
  refine ⟨by dsimp only; omega, ?_⟩;conv=>whnf
  exact ⟨.ownV 36 2 bk n λj => vFb B (h j), ⟨rfl, rfl, rfl, rfl, λ_ _ => rfl⟩, .inr ⟨rfl, rfl⟩, .dead, trivial, rfl, rfl, rfl, rfl, h, hM, hO, rfl⟩
 ·exact absurd (of_decide_eq_false h) (by omega)

theorem zfQ (B : Poly p -> Nat) (bk n : Nat) (h0 : Nat -> Poly p × Nat) (hn : n <= 12) (hd : ∀ i, i < n -> dg (h0 i).1 <= 1000000) (hdis : ∀ i j, i < n -> j < n -> (h0 i).1 = (h0 j).1 -> i = j) :
  MFn Try.prog 30 [.nil, .func 31 []] 0 (.ownV 36 2 bk n λj => vFb B (h0 j)) .dead
   (λ_ av x' t' => av = .v (.tup []) ∧ t' = .dead ∧ ∃ h : Nat -> Poly p × Nat, Mix n h0 h ∧ Ord h n ∧ x' = .ownV 36 2 bk n λj => vFb B (h j)) := by
 refine kv (cx := cx [0, 1, 4, 1000000, 1000001]) Try.func30 rfl (by decide) Try.ntmps30 (Nat.le_of_ble_eq_true rfl) (Nat.le_of_ble_eq_true rfl) rfl rfl λbase hs0 O U hw v0 hb0 => ?_;refine W.rs (za _) (by rfl) λK hK => ?_;conv=>whnf
 refine hK _ ?_;clear hK;refine W.region (za _) (by rfl) ?_;conv=>whnf
 refine ⟨⟨by omega, by constructor <;> omega⟩, ?_⟩;conv=>whnf
 refine xc rfl (zgM n (by omega) (by omega)) ?_;rintro lo hi hi' z h1 h2 h3 ⟨r, rfl⟩ _;try dsimp only at h1
 conv=>whnf
 refine ⟨⟨rfl, rfl⟩, ?_⟩;conv=>whnf
 refine ⟨rfl, _, zgN B bk n r h0 hn hd hdis, ?_⟩;rintro hs' av x' t' hh ⟨rfl, rfl, h, hM, hO, rfl⟩ _ _ _;conv=>whnf
 refine ⟨by dsimp only; omega, ?_⟩;conv=>whnf
 exact ⟨.ownV 36 2 bk n λj => vFb B (h j), ⟨rfl, rfl, rfl, rfl, λ_ _ => rfl⟩, .inr ⟨rfl, rfl⟩, .dead, trivial, rfl, rfl, rfl, rfl, h, hM, hO, rfl⟩


def vFs {p : Int} [SP p] (F : List (Poly p × Nat)) : V := .vals none 2 F.length λj => vF (F.getD j (0, 0))

theorem zhr (g : Option Nat) (xs : List Int) : FnV 29 [.ints g xs] (.int .i64 xs.length) := by
 refine zm (za [0, 2]) Try.func29 rfl (by decide) Try.ntmps29 (Nat.le_of_ble_eq_true rfl) λbase => ?_;refine W.rs (za _) (by rfl) λK hK => ?_;conv=>whnf
 refine hK _ ?_;clear hK;refine W.rs (za _) (by rfl) λK hK => ?_;conv=>whnf
 refine hK _ (W.ret ?_);conv=>whnf
 exact ⟨.v (.int .i64 xs.length), ⟨rfl, rfl⟩, trivial, rfl⟩

theorem zfR {p : Int} [SP p] {f : Poly p} {G : List (Poly p × Nat)} (hG : vD f G) {h : Nat -> Poly p × Nat} (hM : Mix G.length (λj => G.getD j (0, 0)) h) (hO : Ord h G.length) :
  jN f ((List.range G.length).map h) := by
 refine ⟨?_, λx => ?_⟩
 ·rw [List.pairwise_map];exact List.pairwise_lt_range.imp_of_mem (λ{a b} ha hb hab => hO a b hab (List.mem_range.1 hb))
 ·rw [<- hG.2, List.mem_map]
  constructor
  ·rintro ⟨i, hi, rfl⟩;obtain ⟨j, hj, e⟩ := (hM.mem (h i)).1 ⟨i, List.mem_range.1 hi, rfl⟩;have e : G.getD j (0, 0) = h i := e;rw [<- e, List.getD_eq_getElem?_getD, List.getElem?_eq_getElem hj];exact List.getElem_mem hj
  ·intro hx;obtain ⟨j, hj, e⟩ := List.getElem_of_mem hx;obtain ⟨i, hi, e'⟩ := (hM.mem x).2 ⟨j, hj, by show G.getD j (0, 0) = x; rw [List.getD_eq_getElem?_getD, List.getElem?_eq_getElem hj]; exact e⟩;exact ⟨i, List.mem_range.2 hi, e'⟩
theorem zjT {p : Int} [SP p] {f : Poly p} {G : List (Poly p × Nat)} (hG : vD f G) : ∀ i j, i < G.length -> j < G.length -> (G.getD i (0, 0)).1 = (G.getD j (0, 0)).1 -> i = j := by
 intro i j hi hj e;have h1 := kG hG.1 (i := i) (j := j) (by simpa using hi) (by simpa using hj);refine h1 ?_;simp only [List.getD_eq_getElem?_getD, List.getElem?_map, List.getElem?_eq_getElem hi, List.getElem?_eq_getElem hj] at e ⊢
 exact e
theorem zcO {α : Type} (h : Nat -> α) (d : α) {n i : Nat} (hi : i < n) : ((List.range n).map h).getD i d = h i := by
 simp [List.getD_eq_getElem?_getD, hi]

theorem zbc {α : Type} {d x : α} {L : List α} {j : Nat} (h : j < L.length) : (L ++ [x]).getD j d = L.getD j d := by rw [zaM, if_pos h]
theorem zbd {α : Type} {d x : α} {L : List α} : (L ++ [x]).getD (L.length + 0) d = x := by rw [Nat.add_zero, zaM, if_neg (by omega), if_pos rfl]

def Dj (lo hi n : Nat) (c : Nat -> Nat) : Prop := (∀ j, j < n -> lo <= c j ∧ c j < hi) ∧ ∀ i j, i < n -> j < n -> c i = c j -> i = j
theorem Frs.dj {lo hi n : Nat} {c : Nat -> Nat} (h : Frs lo hi n c) : Dj lo hi n c := ⟨λj hj => (h j hj).1, h.inj⟩
theorem Dj.mono {lo lo' hi hi' n : Nat} {c : Nat -> Nat} (h : Dj lo hi n c) (h1 : lo' <= lo) (h2 : hi <= hi') : Dj lo' hi' n c := ⟨λj hj => by have := h.1 j hj; omega, h.2⟩
theorem Dj.app {lo mid hi n m : Nat} {c d : Nat -> Nat} (h : Dj lo mid n c) (h' : Dj mid hi m d) (hl : lo <= mid) (hh : mid <= hi) : Dj lo hi (n + m) (λi => if i < n then c i else d (i - n)) := by
 refine ⟨λj hj => ?_, λi j hi hj e => ?_⟩
 ·dsimp only
  split
  ·rename_i h1; have := h.1 j h1; omega
  ·rename_i h1; have h2 := h'.1 (j - n) (by omega); omega
 ·dsimp only at e
  by_cases h1 : i < n <;> by_cases h2 : j < n
  ·rw [if_pos h1, if_pos h2] at e; exact h.2 i j h1 h2 e
  ·rw [if_pos h1, if_neg h2] at e; have h3 := h.1 i h1; have h4 := h'.1 (j - n) (by omega); omega
  ·rw [if_neg h1, if_pos h2] at e; have h3 := h.1 j h2; have h4 := h'.1 (i - n) (by omega); omega
  ·rw [if_neg h1, if_neg h2] at e; have := h'.2 _ _ (by omega) (by omega) e; omega
open Classical in
noncomputable def zal {p : Int} [SP p] (G : List (Poly p × Nat)) (bl : Nat -> Nat) (q : Poly p) : Nat := if h : ∃ j, j < G.length ∧ (G.getD j (0, 0)).1 = q then bl (Classical.choose h) else 0
theorem zfS {p : Int} [SP p] {G : List (Poly p × Nat)} {bl : Nat -> Nat} (hd : ∀ i j, i < G.length -> j < G.length -> (G.getD i (0, 0)).1 = (G.getD j (0, 0)).1 -> i = j) {j : Nat} (hj : j < G.length) : zal G bl (G.getD j (0, 0)).1 = bl j := by
 have hex : ∃ k, k < G.length ∧ (G.getD k (0, 0)).1 = (G.getD j (0, 0)).1 := ⟨j, hj, rfl⟩
 have hs := Classical.choose_spec hex;unfold zal;rw [dif_pos hex, hd _ _ hs.1 hj hs.2]
theorem zk6 {p : Int} [SP p] {G : List (Poly p × Nat)} {bl : Nat -> Nat} {lo hi : Nat} {h : Nat -> Poly p × Nat} (hd : ∀ i j, i < G.length -> j < G.length -> (G.getD i (0, 0)).1 = (G.getD j (0, 0)).1 -> i = j) (hM : Mix G.length (λj => G.getD j (0, 0)) h) (hb : Dj lo hi G.length bl) : Dj lo hi G.length (λj => zal G bl (h j).1) := by
 have key : ∀ j, j < G.length -> ∃ i, i < G.length ∧ G.getD i (0, 0) = h j ∧ zal G bl (h j).1 = bl i := λj hj => by
  obtain ⟨i, h1, h2⟩ := (hM.mem (h j)).1 ⟨j, hj, rfl⟩;have h2 : G.getD i (0, 0) = h j := h2;exact ⟨i, h1, h2, by rw [<- h2]; exact zfS hd h1⟩
 refine ⟨λj hj => ?_, λi j hi hj e => ?_⟩
 ·obtain ⟨i, h1, _, h3⟩ := key j hj;dsimp only
  rw [h3]; exact hb.1 i h1
 ·obtain ⟨i', h1, h2, h3⟩ := key i hi;obtain ⟨j', h4, h5, h6⟩ := key j hj;dsimp only at e
  rw [h3, h6] at e;have h7 := hb.2 i' j' h1 h4 e;subst h7;exact hM.dis i j hi hj (by rw [<- h2, <- h5])

theorem zbe (p : Int) [SP p] : ∀ (d : Nat) (g : Option Nat) (f : Poly p), dg f <= d -> d <= 13 -> f ≠ 0 -> Fn Try.prog 15 [.int .i64 p, .ints g f.l] (λlo hi z => ∃ (F : List (Poly p × Nat)) (c : Nat -> Nat) (b : Nat), jN f F ∧ Dj lo hi F.length c ∧ z = .ownV 36 2 b F.length λj => vFw (c j) (F.getD j (0, 0)))
 | 0, g, f, hd, _, hf0 => absurd (zc.1 (by omega)) hf0
 | d + 1, g, f, hd, hd13, hf0 => by
  have ih := zbe p d;have hp := Pr.two (p := p);have hp2 := SP.le (p := p);have hm := vo hf0;have hmd : dg (mnc f) <= dg f := zC (zS f).1 hf0;generalize hr0 : mnc f = r0 at hm hmd;have hrl : r0.l.length = dg r0 := rfl;refine zm (za [0, 1, 4, 5, 6, 7, 8, 11, 12, 13, 14, 15, 16, 18, 28, 41, 42, 43, 44, 58, 78, 82, 95, 96, 97, 98]) Try.func15 rfl (by decide) Try.ntmps15 (Nat.le_of_ble_eq_true rfl) λbase => ?_;refine W.rs (za _) (by rfl) λK hK => ?_;conv=>whnf
  refine hK _ ?_;clear hK;refine W.rs (za _) (by rfl) λK hK => ?_;conv=>whnf
  refine hK _ ?_;clear hK;refine W.rs (za _) (by rfl) λK hK => ?_;conv=>whnf
  refine zB rfl (zfN p g f (by omega)) λhs_1 b_1 hh_1 hf_1 => ?_;try dsimp only at hh_1 hf_1
  conv=>whnf
  rw [hr0];refine hK _ ?_;clear hK;refine W.seqK λK1 hK1 => ?_
  -- what is left, and the factors found
  have fin : ∀ (r : Poly p) (L : List (Poly p × Nat)) (bL : Nat) (bl : Nat -> Nat) (hx : Nat) (s : S), Mon r -> dg r <= dg r0 -> der r = 0 -> L.length <= 12 -> (∀ F, vD r F -> vD r0 (L ++ F)) -> base <= hx -> Dj base hx L.length bl -> hx <= s.hs ->
    zD s.env [(0, .v (.int .i64 p)), (4, .v .nil), (5, .ownV 36 2 bL L.length λj => vFw (bl j) (L.getD j (0, 0))), (6, .v (.ints none r.l))] -> K1 s := by
   intro r L bL bl hx s hrm hrd hder hL12 hfac hbx hDL h5 h6;refine hK1 _ (W.weak (t := ⟨[(0, .v (.int .i64 p)), (4, .v .nil), (5, .ownV 36 2 bL L.length λj => vFw (bl j) (L.getD j (0, 0))), (6, .v (.ints none r.l))], hx⟩) ⟨h5, h6⟩ hbx ?_);clear hK1 h5 h6 s;have hrl : r.l.length = dg r := rfl;have hr1 : dg r ≠ 0 := λe => hrm.1 (zc.1 e);refine W.seqK λK1 hK1 => ?_
   -- the end: all factors are in the list
   have fin2 : ∀ (G : List (Poly p × Nat)) (bG : Nat) (bl : Nat -> Nat) (hx : Nat) (s : S), vD r0 G -> base <= hx -> Dj base hx G.length bl -> hx <= s.hs -> zD s.env [(0, .v (.int .i64 p)), (4, .v .nil), (5, .ownV 36 2 bG G.length λj => vFw (bl j) (G.getD j (0, 0)))] -> K1 s := by
    intro G bG bl hx s hG hbx hDG h5 h6;have hdis := zjT hG;refine hK1 _ (W.weak (t := ⟨[(0, .v (.int .i64 p)), (4, .v .nil), (5, .ownV 36 2 bG G.length λj => vFw (bl j) (G.getD j (0, 0)))], hx⟩) ⟨h5, h6⟩ hbx ?_)
    refine W.weak (t := ⟨[(0, .v (.int .i64 p)), (4, .v .nil), (5, .ownV 36 2 bG G.length λj => vFb (zal G bl) (G.getD j (0, 0)))], hx⟩) ⟨Nat.le_refl _, by
     have hcell : ∀ j, j < G.length -> vFw (bl j) (G.getD j (0, 0)) = vFb (zal G bl) (G.getD j (0, 0)) := λj hj => by unfold vFb; rw [zfS hdis hj]
     repeat' first | refine And.intro ?_ ?_ | exact trivial | rfl | exact hcell⟩ hbx ?_
    clear hK1 h5 h6 s;have hfew := hG.few hm.1;refine W.rs (za _) (by rfl) λK hK => ?_;conv=>whnf
    refine ⟨⟨rfl, rfl⟩, ?_⟩;conv=>whnf
    refine ⟨rfl, _, zfQ (zal G bl) bG G.length (λj => G.getD j (0, 0)) (by omega) (λi hi => ?_) hdis, ?_⟩
    ·have h7 : G.getD i (0, 0) ∈ G := by rw [List.getD_eq_getElem?_getD, List.getElem?_eq_getElem hi]; exact List.getElem_mem hi
     obtain ⟨a1, a2, a3, a4⟩ := (hG.2 _).1 h7;have := zC (a4.dvd a3) hm.1;show dg (G.getD i (0, 0)).1 <= 1000000
     omega
    rintro hs' av x' t' hh ⟨rfl, rfl, h, hM, hO, rfl⟩ _ _ _;try dsimp only at hh
    conv=>whnf
    refine hK _ ?_;clear hK;have hDh := zk6 hdis hM hDG;have hfl : ((List.range G.length).map h).length = G.length := by simp
    refine W.sw (c' := cxr [0, 1, 4, 5, 6, 7, 8, 11, 12, 13, 14, 15, 16, 18, 28, 41, 42, 43, 44, 58, 78, 82, 95, 96, 97, 98]) (W.rs (zjL _) (by rfl) λK hK => ?_);conv=>whnf
    refine hK _ (W.ret ?_);conv=>whnf
    exact ⟨.ownV 36 2 bG ((List.range G.length).map h).length λj => vFw (zal G bl (h j).1) (((List.range G.length).map h).getD j (0, 0)), ⟨rfl, rfl, rfl, hfl.symm, λi hi => by show vFb _ _ = vFw _ _; rw [zcO h (0, 0) hi]; rfl⟩, λi hi => ⟨(hDh.1 i (by rw [hfl] at hi; exact hi)).1, trivial, trivial⟩, _, λj => zal G bl (h j).1, bG, zfR (vD.mnc hf0 (hr0 ▸ hG)) hM hO, by rw [hfl]; exact hDh.mono (Nat.le_refl _) (by dsimp only; omega), rfl⟩
   clear hK1;refine W.rs (za _) (by rfl) λK hK => ?_;conv=>whnf
   rw [hrl];refine hK _ (W.cond ⟨λh7 => ?_, λh7 => ?_⟩) <;> clear hK
   ·have h7 := of_decide_eq_true h7;refine W.rs (za _) (by rfl) λK hK => ?_;conv=>whnf
    refine hK _ ?_;clear hK;refine W.seqK λK3 hK3 => ?_;refine W.rs (za _) (by rfl) λK hK => ?_;conv=>whnf
    refine hK _ (W.block (W.invH hx hbx (λm e => ∃ (k bR : Nat), (m = dg r + p.toNat - k * p.toNat) ∧ k * p.toNat < dg r + p.toNat ∧ e = [(0, .v (.int .i64 p)), (4, .v .nil), (5, .ownV 36 2 bL L.length λj => vFw (bl j) (L.getD j (0, 0))), (6, .v (.ints none r.l)), (15, .ownI 2 bR (mkL k λi => cf r.l (i * p.toNat))), (16, .v (.int .i64 ((k * p.toNat : Nat) : Int)))]) _ _ ⟨0, 0, rfl, by omega, rfl⟩ (by dsimp only; omega) (by repeat' first | refine And.intro ?_ ?_ | exact trivial | rfl | omega | assumption | exact .inl rfl | exact .inr rfl | exact λ_ _ => rfl) ?_));clear hK;rintro m e ⟨k, bR, hm', hk, rfl⟩;have hpn : ((p.toNat : Nat) : Int) = p := by omega
    have hk1 : (k + 1) * p.toNat = k * p.toNat + p.toNat := Nat.succ_mul _ _;have hk2 : (((k + 1) * p.toNat : Nat) : Int) = ((k * p.toNat : Nat) : Int) + p := by omega
    have hcfk : cf r.l (k * p.toNat) = cf r.l (k * p.toNat) := rfl;generalize hkp : k * p.toNat = kp at hm' hk hk1 hk2 hcfk;refine W.seqK λK7 hK7 => ?_;refine W.rs (za _) (by rfl) λK hK => ?_;conv=>whnf
    refine zl rfl (zhr none r.l) λhs' hhs => ?_;try dsimp only at hhs
    conv=>whnf
    rw [hrl];refine hK _ (W.cond ⟨λh8 => ?_, λh8 => ?_⟩) <;> clear hK
    ·have h8 := of_decide_eq_true h8;refine W.skip (hK7 _ ?_);clear hK7;refine W.seqK λK8 hK8 => W.block ?_;refine W.region (za _) (by rfl) ?_;conv=>whnf
     refine ⟨⟨by omega, by omega⟩, ?_⟩;conv=>whnf
     rw [Int.toNat_natCast];have hkk : k <= kp := by rw [<- hkp]; exact Nat.le_mul_of_pos_right k (by omega)
     have hml : (mkL k λi => cf r.l (i * p.toNat)).length = k := zT _ _;have hms : mkL (k + 1) (λi => cf r.l (i * p.toNat)) = mkL k (λi => cf r.l (i * p.toNat)) ++ [r.l.getD kp 0] := by rw [zac, hkp]; rfl
     refine ⟨⟨rfl, by decide⟩, ?_⟩;conv=>whnf
     intro b_4 hs_4 hh_4 hf_4;try dsimp only at hh_4 hf_4
     conv=>whnf
     refine ⟨by dsimp only [List.length]; omega, ?_⟩;conv=>whnf
     intro b_6 hs_6 hh_6 hf_6;try dsimp only at hh_6 hf_6
     conv=>whnf
     refine hK8 _ ?_;clear hK8;refine W.region (za _) (by rfl) ?_;conv=>whnf
     refine ⟨by constructor <;> omega, ?_⟩;conv=>whnf
     refine ⟨_, _, ⟨k + 1, b_6, rfl, by omega, rfl⟩, by omega, by dsimp only; omega, ?_⟩;rw [hms]
     repeat' first | refine And.intro ?_ ?_ | exact trivial | rfl | omega | exact .inl rfl | exact λ_ _ => rfl | exact λ_ _ h => h | assumption | exact λi hi => (by obtain rfl : i = 0 := (by omega); rfl)
    ·have h8 := of_decide_eq_false h8;obtain ⟨R, hR1, hR2, hR3, hR4, hR5⟩ := zdD (f := r) hrm hder (l := mkL k λi => cf r.l (i * p.toNat)) (n := k) (zT _ _) (λi hi => by rw [y8, if_pos hi]) (by omega) (by omega);rw [<- hR1];have hRf0 := hR2.1;have hRd := hR5 (by omega);refine W.exit (hK3 _ ?_);clear hK7 hK3;refine W.rs (za _) (by rfl) λK hK => ?_;conv=>whnf
     refine xc rfl (ih _ R (by omega) (by omega) hRf0) ?_;rintro lo hi hi' z hl1 hl2 hl3 ⟨F, c', bF, hF, hDF, rfl⟩ _;try dsimp only at hl1 hl2
     have hDA := hDL.app (hDF.mono (lo' := hx) (hi' := hi') (by omega) hl3) hbx (by omega);have hFf := hF.facs.few hRf0;have hG := hfac _ (vD.up hRf0 (n := p.toNat) (by omega) hR3 hF.facs);have hGl := hG.few hm.1;conv=>whnf
     refine hK _ (W.block (W.invH hi' (by omega) (λm e => ∃ (j bG : Nat), j <= F.length ∧ m = F.length - j ∧ e = [(0, .v (.int .i64 p)), (4, .v .nil), (5, .ownV 36 2 bG (L ++ (up p.toNat F).take j).length λi => vFw (if i < L.length then bl i else c' (i - L.length)) ((L ++ (up p.toNat F).take j).getD i (0, 0))), (95, .ownV 36 2 bF F.length λj => vFw (c' j) (F.getD j (0, 0))), (96, .v (.int .i64 F.length)), (97, .v (.int .i64 j))]) _ _ ⟨0, bL, Nat.zero_le _, rfl, rfl⟩ (by dsimp only; omega) (by
      have e3 : L ++ (up p.toNat F).take 0 = L := List.append_nil _;have hcell : ∀ i, i < L.length -> vFw (bl i) (L.getD i (0, 0)) = vFw (if i < L.length then bl i else c' (i - L.length)) (L.getD i (0, 0)) := λi hi => by rw [if_pos hi]
      rw [e3]
      repeat' first | refine And.intro ?_ ?_ | exact trivial | rfl | omega | exact hcell | assumption | exact .inl rfl | exact λ_ _ => rfl) ?_))
     clear hK;rintro m e ⟨j, bG, hj, hm', rfl⟩;have hul : (up p.toNat F).length = F.length := List.length_map ..;refine W.rs (za _) (by rfl) λK hK => ?_;conv=>whnf
     refine hK _ ?_;clear hK;refine W.seqK λK7 hK7 => W.cond ⟨λh9 => ?_, λh9 => ?_⟩ <;> (first | replace h9 := of_decide_eq_true h9 | replace h9 := of_decide_eq_false h9)
     ·have h9 : j < F.length := by omega
      have hxm : F.getD j (0, 0) ∈ F := by rw [List.getD_eq_getElem?_getD, List.getElem?_eq_getElem h9]; exact List.getElem_mem h9
      have hxu : (up p.toNat F).take (j + 1) = (up p.toNat F).take j ++ [((F.getD j (0, 0)).1, p.toNat * (F.getD j (0, 0)).2)] := by
       rw [List.take_add_one, List.getElem?_eq_getElem (by omega)];unfold up;simp [List.getElem_map, List.getD_eq_getElem?_getD, List.getElem?_eq_getElem h9]
      obtain ⟨a1, a2, a3, a4⟩ := (hF.2 _).1 hxm
      have hx2 : (F.getD j (0, 0)).2 < 14 := by
       obtain ⟨u, h5, h6⟩ := a4;have h10 := zaH a1.1 (F.getD j (0, 0)).2;have h11 := zC (⟨u, h5⟩ : _ ∣ R) hRf0;omega
      generalize hx : F.getD j (0, 0) = x at hxm hxu a1 a2 a3 a4 hx2;have hpx : ((p.toNat * x.2 : Nat) : Int) = p * (x.2 : Int) := by rw [Int.natCast_mul, show ((p.toNat : Nat) : Int) = p by omega]
      have hpx2 : 0 <= p * (x.2 : Int) ∧ p * (x.2 : Int) <= 97 * 13 := ⟨Int.mul_nonneg (by omega) (by omega), Int.mul_le_mul (by omega) (by omega) (by omega) (by omega)⟩
      refine W.skip (hK7 _ ?_);clear hK7;refine W.seqK λK8 hK8 => W.block ?_;refine W.rs (za _) (by rfl) λK hK => ?_;conv=>whnf
      refine ⟨⟨by omega, by omega⟩, ?_⟩;conv=>whnf
      rw [Int.toNat_natCast, hx];intro b_7 hs_7 hh_7 hf_7;try dsimp only at hh_7 hf_7
      conv=>whnf
      refine ⟨⟨(by show 2 <= 2; omega), rfl⟩, ?_⟩;conv=>whnf
      refine hK _ ?_;clear hK;refine W.region (za _) (by rfl) ?_;conv=>whnf
      refine ⟨by constructor <;> omega, ?_⟩;conv=>whnf
      rw [<- hpx];refine ⟨⟨rfl, by decide, λx hx => by simp at hx; subst hx; exact ⟨rfl, rfl⟩⟩, ?_⟩;conv=>whnf
      intro b_8 hs_8 hh_8 hf_8;try dsimp only at hh_8 hf_8
      conv=>whnf
      have hAl : (L ++ (up p.toNat F).take j).length <= 26 := by rw [List.length_append, List.length_take]; omega
      refine ⟨by omega, ?_⟩;conv=>whnf
      have hAj : (L ++ (up p.toNat F).take j).length = L.length + j := by rw [List.length_append, List.length_take, hul]; omega
      refine ⟨λi => vFw (if i < L.length then bl i else c' (i - L.length)) ((L ++ (up p.toNat F).take j ++ [(x.1, p.toNat * x.2)]).getD i (0, 0)), λi hi => congrArg (vFw _) (zbc hi), λi hi => ?_, ?_⟩
      ·obtain rfl : i = 0 := by omega
       show vFw (if _ < L.length then bl _ else c' _) _ = vFw (c' j) (x.1, p.toNat * x.2)
       rw [zbd, hAj, if_neg (by omega), show L.length + j + 0 - L.length = j by omega]
      intro b_9 hs_9 hh_9 hf_9;try dsimp only at hh_9 hf_9
      conv=>whnf
      refine hK8 _ ?_;clear hK8;refine W.region (za _) (by rfl) ?_;conv=>whnf
      refine ⟨by constructor <;> omega, ?_⟩;conv=>whnf
      refine ⟨_, _, ⟨j + 1, b_9, by omega, rfl, rfl⟩, by omega, by dsimp only; omega, ?_⟩;rw [hxu, <- List.append_assoc, List.length_append (bs := [_])]
      repeat' first | refine And.intro ?_ ?_ | exact trivial | rfl | omega | exact .inl rfl | exact λ_ _ => rfl | exact λ_ _ h => h | assumption | exact λi hi => (by obtain rfl : i = 0 := (by omega); rfl)
     ·obtain rfl : j = F.length := by omega
      rw [List.take_of_length_le (by omega)];refine W.exit (fin2 _ bG (λi => if i < L.length then bl i else c' (i - L.length)) hi' _ hG (by omega) (by rw [List.length_append, hul]; exact hDA) (by dsimp only; omega) ?_);clear fin2 hK7
      repeat' first | refine And.intro ?_ ?_ | exact trivial | rfl | omega | exact .inl rfl | exact λ_ _ => rfl | exact λ_ _ h => h | assumption | exact λi hi => (by obtain rfl : i = 0 := (by omega); rfl)
   ·have h7 := of_decide_eq_false h7;have hu := hfac [] (vD.unit (by omega));rw [List.append_nil] at hu;refine W.skip (fin2 L bL bl hx _ hu hbx hDL (by dsimp only; omega) ?_);clear fin2
    repeat' first | refine And.intro ?_ ?_ | exact trivial | rfl | omega | exact .inl rfl | exact λ_ _ => rfl | exact λ_ _ h => h | assumption | exact λi hi => (by obtain rfl : i = 0 := (by omega); rfl)
  clear hK1;refine W.rs (za _) (by rfl) λK hK => ?_;conv=>whnf
  refine zl rfl (zc3 _ r0.l ((j4 r0).le (by omega)) (by omega)) λhs' hhs => ?_;try dsimp only at hhs
  conv=>whnf
  refine zB rfl (zaQ p (by omega) (by omega) none (mkL (r0.l.length - 1) (dv (cf r0.l))) (λj => by rw [y8]; split; (rename_i hj; have hc := zab r0 (j + 1); have h8 := Int.mul_nonneg (by omega : (0 : Int) <= (j : Int) + 1) hc.1; have h9 := Int.mul_le_mul (by omega : (j : Int) + 1 <= 13) (by omega : cf r0.l (j + 1) <= 97) hc.1 (by omega); unfold dv; omega); omega) (by rw [zT]; omega)) λhs_2 b_2 hh_2 hf_2 => ?_;try dsimp only at hh_2 hf_2
  conv=>whnf
  rw [zkQ];refine hK _ ?_;clear hK;refine W.rs (za _) (by rfl) λK hK => ?_;conv=>whnf
  have hdl : (der r0).l.length = dg (der r0) := rfl;rw [hdl];refine hK _ (W.cond ⟨λh => ?_, λh => ?_⟩) <;> clear hK
  ·have h := of_decide_eq_true h;have hd0 : der r0 ≠ 0 := λe => by rw [e, zu] at h; omega
   obtain ⟨s1, s2, s3, s4, s5, s6, s7⟩ := zhp hm hd0;refine W.rs (za _) (by rfl) λK hK => ?_;conv=>whnf
   refine zB rfl (zdG p _ _ r0 (der r0) (by omega) (by have := zaG hm.1; omega)) λhs_3 b_3 hh_3 hf_3 => ?_;try dsimp only at hh_3 hf_3
   conv=>whnf
   refine zl rfl (vY p _ _ r0 (gcd r0 (der r0)) (by omega) (by have := zC s6 hd0; have := zaG hm.1; omega) s7) λhs' hhs => ?_;try dsimp only at hhs
   conv=>whnf
   generalize hq : quo r0 (gcd r0 (der r0)) = q at s1 s2 s3 s4 s5;generalize gcd r0 (der r0) = c at s1 s6 s7;refine hK _ ?_;clear hK;refine W.rs (za _) (by rfl) λK hK => ?_;conv=>whnf
   refine xc rfl (zkw p q s2 s3 s4 (by omega)) ?_;rintro lo hi hi' z hl1 hl2 hl3 ⟨P, cs, hP, hcs, rfl⟩ _;have hPf := hP.few (f := q) s2.1;try dsimp only at hl1 hl2
   conv=>whnf
   have hbi : base <= hi' := by omega
   refine hK _ (W.block (W.invH hi' hbi (λm e => ∃ (k bL : Nat) (r : Poly p) (L : List (Poly p × Nat)), Peel r0 P k r L ∧ L.length = k ∧ dg r <= dg r0 ∧ m = P.length - k ∧ e = [(0, .v (.int .i64 p)), (4, .v .nil), (5, .ownV 36 2 bL L.length λj => vFw (cs j) (L.getD j (0, 0))), (6, .v (.ints none r.l)), (41, .v (vPw cs P)), (42, .v (.int .i64 P.length)), (43, .v (.int .i64 k))]) _ _ ⟨0, 0, r0, [], Peel.start hm P, rfl, Nat.le_refl _, rfl, rfl⟩ (by dsimp only; omega) (by repeat' first | refine And.intro ?_ ?_ | exact trivial | rfl | omega | assumption | exact .inl rfl | exact .inr rfl | exact λ_ _ => rfl) ?_));clear hK;rintro m e ⟨k, bL, r, L, hpe, hLk, hrd, hm', rfl⟩;refine W.rs (za _) (by rfl) λK hK => ?_;conv=>whnf
   refine hK _ ?_;clear hK;refine W.seqK λK7 hK7 => W.cond ⟨λh2 => ?_, λh2 => ?_⟩ <;> (first | replace h2 := of_decide_eq_true h2 | replace h2 := of_decide_eq_false h2)
   ·have h2 : k < P.length := by omega
    have hmem : P.getD k 0 ∈ P := by rw [List.getD_eq_getElem?_getD, List.getElem?_eq_getElem h2]; exact List.getElem_mem h2
    obtain ⟨hgi, hgm, hgd⟩ := (hP.2 _).1 hmem;have hgd0 : P.getD k 0 ∣ r0 := zo hgd ⟨c, s1⟩;have hgdg := zC hgd0 hm.1;have step := λn r' he hn => hpe.step (n := n) (r' := r') hP.1 h2 hgi hgm hgd0 he hn;generalize hgq : P.getD k 0 = q1 at hgi hgm hgd hgd0 hgdg step;have hlen := hpe.len;refine W.skip (hK7 _ ?_);clear hK7;refine W.seqK λK8 hK8 => W.block ?_;refine W.rs (za _) (by rfl) λK hK => ?_;conv=>whnf
    refine ⟨⟨by omega, by omega⟩, ?_⟩;conv=>whnf
    have e1 : (λj => V.wh 2 (cs j) (P.getD j 0).l) (k : Int).toNat = .wh 2 (cs k) q1.l := by rw [Int.toNat_natCast]; show V.wh _ (cs k) (P.getD k 0).l = _; rw [hgq]
    rw [e1];conv=>whnf
    refine hK _ ?_;clear hK;refine W.rs (za _) (by rfl) λK hK => ?_;conv=>whnf
    intro b_9 hs_9 hh_9 hf_9;try dsimp only at hh_9 hf_9
    conv=>whnf
    refine ⟨⟨(by show 2 <= 2; omega), rfl⟩, ?_⟩;conv=>whnf
    refine hK _ ?_;clear hK
    have hpow : ∀ {n : Nat} {rc : Poly p}, r = q1 ^ n * rc -> n < 14 ∧ rc ≠ 0 ∧ dg rc <= dg r := λ{n rc} he => by
     have h5 := zaH hgi.1 n;have h6 := zC (⟨rc, he⟩ : q1 ^ n ∣ r) hpe.mon.1;have h7 : rc ∣ r := ⟨q1 ^ n, by rw [he]; exact xM _ _⟩
     exact ⟨by omega, zcm h7 hpe.mon.1, zC h7 hpe.mon.1⟩
    refine W.seqK λK2 hK2 => ?_;refine W.rs (za _) (by rfl) λK hK => ?_;conv=>whnf
    refine zl rfl (vY p _ _ r q1 (by omega) (by omega) hgi.ne) λhs' hhs => ?_;try dsimp only at hhs
    conv=>whnf
    refine hK _ (W.block (W.invH hi' hbi (λm e => ∃ (n : Nat) (rc : Poly p), r = q1 ^ n * rc ∧ m = dg rc ∧ e = [(0, .v (.int .i64 p)), (4, .v .nil), (5, .ownV 36 2 bL L.length λj => vFw (cs j) (L.getD j (0, 0))), (6, .v (.ints none rc.l)), (11, .v (.wh 2 (cs k) q1.l)), (12, .ownB b_9 (.agg [.wh 2 (cs k) q1.l, .int .i64 n])), (13, .v (.ints none (quo rc q1).l)), (14, .v (.ints none (rem rc q1).l)), (41, .v (vPw cs P)), (42, .v (.int .i64 P.length)), (43, .v (.int .i64 k))]) _ _ ⟨0, r, by rw [zt]; exact zg [r] (by rfl), rfl, rfl⟩ (by dsimp only; omega) (by repeat' first | refine And.intro ?_ ?_ | exact trivial | rfl | omega | assumption | exact .inl rfl | exact .inr rfl | exact λ_ _ => rfl) ?_));clear hK;rintro m2 e ⟨n, rc, he, hm2, rfl⟩;obtain ⟨hn14, hrc0, hrcd⟩ := hpow he;have hreml : (rem rc q1).l.length = dg (rem rc q1) := rfl;refine W.seqK λK7 hK7 => W.rs (za _) (by rfl) λK hK => ?_;conv=>whnf
    refine hK _ (W.cond ⟨λh3 => ?_, λh3 => ?_⟩) <;> clear hK <;> (first | replace h3 := of_decide_eq_true h3 | replace h3 := of_decide_eq_false h3)
    ·have hrem : rem rc q1 = 0 := zc.1 (by omega)
     have hdiv : rc = quo rc q1 * q1 := by
      have h5 := vz rc q1;rw [hrem] at h5;have e : ∀ a : Poly p, a + 0 = a := λa => by exact zg [a] (by rfl)
      rw [e] at h5; exact h5
     have hq0 : quo rc q1 ≠ 0 := λe => hrc0 (by rw [hdiv, e]; exact zg [q1] (by rfl));have hdgq := yW hq0 hgi.ne;rw [<- hdiv] at hdgq;have hg2 := hgi.1;refine W.skip (hK7 _ ?_);clear hK7;refine W.seqK λK8 hK8 => W.block ?_;refine W.rs (za _) (by rfl) λK hK => ?_;conv=>whnf
     refine hK _ ?_;clear hK;refine W.region (za _) (by rfl) ?_;conv=>whnf
     refine ⟨by constructor <;> omega, ?_⟩;conv=>whnf
     refine ⟨⟨(by show 1 + 1 <= 2; omega), rfl⟩, ?_⟩;conv=>whnf
     refine hK8 _ ?_;clear hK8;refine W.region (za _) (by rfl) ?_;conv=>whnf
     refine zl rfl (vY p _ _ (quo rc q1) q1 (by omega) (by omega) hgi.ne) λhs' hhs => ?_;try dsimp only at hhs
     conv=>whnf
     exact zp ⟨n + 1, quo rc q1, by rw [he, ze]; exact comb (q1 ^ n) hdiv (zg [rc, q1, quo rc q1, q1 ^ n] (by rfl)), rfl, rfl⟩
    ·have hnd : ¬ q1 ∣ rc := λhd => by
      have := (jL hgi.ne).1 hd;have : dg (rem rc q1) = 0 := by rw [this]; exact zu
      omega
     refine W.exit (hK2 _ ?_);clear hK7 hK2;refine W.region (za _) (by rfl) ?_;conv=>whnf
     refine ⟨⟨rfl, by decide, λx hx => by simp at hx; subst hx; exact ⟨rfl, rfl⟩⟩, ?_⟩;conv=>whnf
     intro b_5 hs_5 hh_5 hf_5;try dsimp only at hh_5 hf_5
     conv=>whnf
     refine ⟨by omega, ?_⟩;conv=>whnf
     refine ⟨λi => vFw (cs i) ((L ++ [(q1, n)]).getD i (0, 0)), λi hi => congrArg (vFw _) (zbc hi), λi hi => ?_, ?_⟩
     ·obtain rfl : i = 0 := by omega
      show vFw (cs (L.length + 0)) _ = vFw (cs k) (q1, n)
      rw [zbd, Nat.add_zero, hLk]
     intro b_6 hs_6 hh_6 hf_6;try dsimp only at hh_6 hf_6
     conv=>whnf
     refine hK8 _ ?_;clear hK8;refine W.region (za _) (by rfl) ?_;conv=>whnf
     refine ⟨by constructor <;> omega, ?_⟩;conv=>whnf
     refine ⟨_, _, ⟨k + 1, b_6, rc, L ++ [(q1, n)], step n rc he hnd, by rw [List.length_append, hLk]; rfl, by omega, rfl, rfl⟩, by omega, by dsimp only; omega, ?_⟩;rw [List.length_append (bs := [_])]
     repeat' first | refine And.intro ?_ ?_ | exact trivial | rfl | omega | exact .inl rfl | exact λ_ _ => rfl | exact λ_ _ h => h | assumption | exact λi hi => (by obtain rfl : i = 0 := (by omega); rfl)
   ·obtain rfl : k = P.length := by have := hpe.le; omega
    refine W.exit (fin r L bL cs hi' _ hpe.mon hrd (hpe.fin hm hP s1 s6).1 (by have := hpe.len; omega) (λF hF => hpe.facs hm hP s1 s6 hF) hbi (by rw [hLk]; exact hcs.dj.mono (by omega) (by omega)) (by dsimp only; omega) ?_);clear fin hK7
    repeat' first | refine And.intro ?_ ?_ | exact trivial | rfl | omega | exact .inl rfl | exact λ_ _ => rfl | exact λ_ _ h => h | assumption | exact λi hi => (by obtain rfl : i = 0 := (by omega); rfl)
  ·have h := of_decide_eq_false h;have hd0 : der r0 = 0 := zc.1 (by omega);refine W.skip (fin r0 [] 0 (λ_ => 0) base _ hm (Nat.le_refl _) hd0 (by simp) (λF hF => hF) (Nat.le_refl _) ⟨λj hj => absurd hj (Nat.not_lt_zero j), λi j hi => absurd hi (Nat.not_lt_zero i)⟩ (by dsimp only; omega) ?_);clear fin
   repeat' first | refine And.intro ?_ ?_ | exact trivial | rfl | omega | exact .inl rfl | exact λ_ _ => rfl | exact λ_ _ h => h | assumption | exact λi hi => (by obtain rfl : i = 0 := (by omega); rfl)


def vG (x : List Int × Int) : V := .agg [.ints none x.1, .int .i64 x.2]
def gd (F : List (List Int × Int)) (j : Nat) : List Int × Int := F.getD j ([], 0)
def vGs (F : List (List Int × Int)) : V := .vals none 2 F.length λj => vG (gd F j)
def toG {p : Int} [SP p] (x : Poly p × Nat) : List Int × Int := (x.1.l, x.2)
theorem zeq {p : Int} [SP p] (F : List (Poly p × Nat)) (j : Nat) : gd (F.map toG) j = toG (F.getD j (0, 0)) := by
 unfold gd;rw [List.getD_eq_getElem?_getD, List.getD_eq_getElem?_getD, List.getElem?_map];cases F[j]? with
 | none => simp only [Option.map_none, Option.getD_none, toG, zcj]; rfl
 | some x => rfl
theorem zky {p : Int} [SP p] (F : List (Poly p × Nat)) : vFs F = vGs (F.map toG) := by
 unfold vFs vGs;rw [List.length_map]
 congr 1
 funext j
 rw [zeq]; rfl



structure MatR (tb : Nat -> Option (List Int)) (bl : Nat -> Nat) (n m : Nat) (R : Nat -> Nat -> Int) : Prop where
 inj : ∀ i j, i < n -> j < n -> bl i = bl j -> i = j
 row : ∀ i, i < n -> ∃ l, tb (bl i) = some l ∧ l.length = m ∧ ∀ x, x < m -> cf l x = R i x
theorem MatR.store {tb : Nat -> Option (List Int)} {bl : Nat -> Nat} {n m : Nat} {R : Nat -> Nat -> Int} (h : MatR tb bl n m R) {i x : Nat} (hi : i < n) (hx : x < m) {l : List Int} (hl : tb (bl i) = some l) (v : Int) :
  MatR (z2 tb (bl i) (l.set x v)) bl n m (λa y => if a = i ∧ y = x then v else R a y) := by
 refine ⟨h.inj, λa ha => ?_⟩;obtain ⟨l1, h1, h2, h3⟩ := h.row a ha
 by_cases he : a = i
 ·subst he;rw [hl] at h1;cases h1
  refine ⟨l.set x v, yn _ _ _, by simpa using h2, λy hy => ?_⟩;rw [yb (by omega)]
  by_cases hyx : y = x
  ·simp [hyx]
  ·simp [hyx, h3 y hy]
 ·have hne : bl a ≠ bl i := λe => he (h.inj a i ha hi e);refine ⟨l1, by rw [yH _ _ hne]; exact h1, h2, λy hy => ?_⟩;simp [he, h3 y hy]
theorem MatR.congr {tb : Nat -> Option (List Int)} {bl : Nat -> Nat} {n m : Nat} {R R' : Nat -> Nat -> Int} (h : MatR tb bl n m R) (he : ∀ i x, i < n -> x < m -> R i x = R' i x) : MatR tb bl n m R' :=
 ⟨h.inj, λi hi => by obtain ⟨l, h1, h2, h3⟩ := h.row i hi; exact ⟨l, h1, h2, λx hx => by rw [h3 x hx, he i x hi hx]⟩⟩

def vU (b : Bool) : V := bif b then .tr else .bool false
theorem Half.used {p : Int} {n : Nat} {M : Nat -> Nat -> Int} {col : Nat} {u u' : Nat -> Prop} {L T : Nat -> Nat -> Int} (h : Half p n M col u L T) (e : ∀ k, u k ↔ u' k) : Half p n M col u' L T :=
 (funext λk => propext (e k) : u = u') ▸ h
def xe (p : Int) (R : Nat -> Nat -> Int) (q : Nat -> Int) (a i k x : Nat) : Int := if k < i ∧ k ≠ a then (R k x - q k * R a x) % p else R k x
noncomputable def jr {p : Int} [SP p] (f : Poly p) (n : Nat) (i x : Nat) : Int := if x < n then cf (jM f i).l x else if x = n + i then 1 else 0

theorem zer (p : Int) [SP p] (g : Option Nat) (f : Poly p) (n : Nat) (hf : dg f = n + 1) (hn0 : 1 <= n) (hn : n <= 400) :
   Fn Try.prog 63 [.int .i64 p, .ints g f.l] (λ_ _ z => ∃ v : Poly p, z = .v (.ints none v.l) ∧ ((2 <= dg v ∧ dg v <= n ∧ Ber f v) ∨ (v = 0 ∧ ∀ w, dg w <= n -> Ber f w -> dg w <= 1))) := by
 have hp := Pr.two (p := p);have hp2 := SP.le (p := p);have hfl : f.l.length = n + 1 := hf;have hf0 : f ≠ 0 := λe => by rw [e, zu] at hf; omega
 have e2n : (2 : Int) * (n : Int) = ((2 * n : Nat) : Int) := by omega
 refine zm (zi [0, 1, 4, 5, 6, 7, 8, 9, 10, 11, 12, 13, 14, 15, 16, 17, 18, 19, 20, 27, 43, 76, 81, 98, 101, 116, 131, 146, 176, 195, 1000000]) Try.func63 rfl (by decide) Try.ntmps63 (Nat.le_of_ble_eq_true rfl) λbase => ?_;refine W.tab0 rfl ?_;refine W.rs (zi _) (by rfl) λK hK => ?_;conv=>whnf
 refine hK _ ?_;clear hK;refine W.rs (zi _) (by rfl) λK hK => ?_;conv=>whnf
 rw [hfl];refine ⟨by constructor <;> omega, ?_⟩;conv=>whnf
 have e0 : (((n + 1 : Nat) : Int) - 1) = n := by omega
 rw [e0];refine hK _ ?_;clear hK;refine W.rs (zi _) (by rfl) λK hK => ?_;conv=>whnf
 refine ⟨⟨rfl, by decide, λx hx => by simp at hx⟩, ?_⟩;conv=>whnf
 intro b_0 hs_0 hh_0 hf_0;try dsimp only at hh_0 hf_0
 conv=>whnf
 refine hK _ ?_;clear hK;refine W.seqK λK1 hK1 => ?_;refine W.rs (zi _) (by rfl) λK hK => ?_;conv=>whnf
 refine hK _ (W.block (W.inv (λm s => ∃ (i hs ba : Nat) (bl : Nat -> Nat) (tb : Nat -> Option (List Int)), i <= n ∧ base <= hs ∧ (∀ j, j < i -> bl j < hs) ∧ MatR tb bl i (2 * n) (jr f n) ∧ m = n - i ∧
   s = ⟨[(0, .v (.int .i64 p)), (1, .v (.ints g f.l)), (5, .v (.int .i64 n)), (6, .ownV 22 1 ba i λj => .rf (bl j) (2 * n)), (7, .v (.int .i64 i)), (vt, .tab tb)], hs⟩) _ _
   ⟨0, base, b_0, λ_ => 0, λ_ => none, Nat.zero_le _, Nat.le_refl _, λj hj => by omega, ⟨λi j hi => by omega, λi hi => by omega⟩, rfl, rfl⟩ ⟨by dsimp only; omega, by repeat' first | refine And.intro ?_ ?_ | exact trivial | rfl | omega | assumption | exact λ_ _ => rfl | exact λ_ _ h => h | exact λi hi => absurd hi (by omega)⟩
   (by rintro m s ⟨_, _, _, _, _, _, h, _, _, _, rfl⟩; exact h) ?_))
 clear hK hh_0 hf_0;rintro m s ⟨i, hs, ba, bl, tb, hi, hhs, hlt, hM, hm, rfl⟩;refine W.seqK λK7 hK7 => ?_;refine W.rs (zi _) (by rfl) λK hK => ?_;conv=>whnf
 refine hK _ (W.cond ⟨λh2 => ?_, λh2 => ?_⟩) <;> clear hK
 · have h2 : i < n := by have := of_decide_eq_true h2; omega
   have epi : (i : Int) * p = ((p.toNat * i : Nat) : Int) := by rw [Int.natCast_mul, Int.mul_comm]; congr 1; omega
   have hpi : p.toNat * i <= 97 * 400 := Nat.mul_le_mul (by omega) (by omega);have hWl : (rem (X p ^ (p.toNat * i)) f).l.length = dg (rem (X p ^ (p.toNat * i)) f) := rfl;have hWd := yl (X p ^ (p.toNat * i)) hf0;refine W.skip (hK7 _ ?_);clear hK7;refine W.seqK λK8 hK8 => W.block ?_;refine W.rs (zi _) (by rfl) λK hK => ?_;conv=>whnf
   refine ⟨by constructor <;> omega, ?_⟩;conv=>whnf
   rw [e2n];refine ⟨rfl, ?_⟩;conv=>whnf
   refine ⟨⟨by omega, by omega⟩, ?_⟩;conv=>whnf
   rw [Int.toNat_natCast];intro b_8 hs_8 hh_8 hf_8;try dsimp only at hh_8 hf_8
   conv=>whnf
   refine hK _ ?_;clear hK;refine W.rs (zi _) (by rfl) λK hK => ?_;conv=>whnf
   refine ⟨⟨rfl, by decide⟩, ?_⟩;conv=>whnf
   intro b_x hs_x hh_x hf_x;try dsimp only at hh_x hf_x
   conv=>whnf
   refine ⟨by rw [epi]; constructor <;> omega, ?_⟩;conv=>whnf
   rw [epi];have ex : [(0 : Int), 1] = (X p).l := X_l.symm;rw [ex]
   have hXd : dg (X p) <= 1000000 := by
     have : (X p).l.length = 2 := by rw [X_l]; rfl
     show (X p).l.length <= _
     omega
   refine zl rfl (zfO p _ g (X p) f (p.toNat * i) (by omega) hXd (by omega) hf0) λhs' hhs => ?_;try dsimp only at hhs
   conv=>whnf
   generalize hW : rem (X p ^ (p.toNat * i)) f = Wp at *;refine hK _ ?_;clear hK;have hb8 := hf_8 (by omega);refine W.seqK λK2 hK2 => ?_;refine W.rs (zi _) (by rfl) λK hK => ?_;conv=>whnf
   refine hK _ (W.block (W.invH hs_8 (by omega) (λm e => ∃ (k : Nat) (l : List Int), k <= dg Wp ∧ l.length = 2 * n ∧ (∀ x, cf l x = if x < k then cf Wp.l x else 0) ∧ m = dg Wp - k ∧ e = [(0, .v (.int .i64 p)), (1, .v (.ints g f.l)), (5, .v (.int .i64 n)), (6, .ownV 22 1 ba i λj => .rf (bl j) (2 * n)), (7, .v (.int .i64 i)), (8, .ownI 2 b_8 l), (9, .v (.ints none Wp.l)), (10, .v (.int .i64 k)), (vt, .tab tb)]) _ _ ⟨0, List.replicate (2 * n) 0, Nat.zero_le _, by simp, λx => by rw [if_neg (by omega), zF], rfl, rfl⟩ (by dsimp only; omega) (by repeat' first | refine And.intro ?_ ?_ | exact trivial | rfl | omega | assumption | exact .inl rfl | exact λ_ _ => rfl | exact λ_ _ h => h) ?_));clear hK;rintro m2 e ⟨k, l, hk, hll, hlc, hm2, rfl⟩;refine W.seqK λK7 hK7 => ?_;refine W.rs (zi _) (by rfl) λK hK => ?_;conv=>whnf
   rw [hWl];refine hK _ (W.cond ⟨λh3 => ?_, λh3 => ?_⟩) <;> clear hK
   · have h3 : k < dg Wp := by have := of_decide_eq_true h3; omega
     refine W.skip (hK7 _ ?_);clear hK7;refine W.seqK λK9 hK9 => W.block ?_;refine W.region (zi _) (by rfl) ?_;conv=>whnf
     refine ⟨⟨by omega, by omega⟩, ?_⟩;conv=>whnf
     rw [Int.toNat_natCast];refine ⟨⟨by omega, by omega⟩, ?_⟩;conv=>whnf
     refine hK9 _ ?_;clear hK9;refine W.region (zi _) (by rfl) ?_;conv=>whnf
     refine ⟨by constructor <;> omega, ?_⟩;conv=>whnf
     have h4 : ∀ x, cf (l.set k (Wp.l.getD k 0)) x = if x < k + 1 then cf Wp.l x else 0 := λx => by
       rw [yb (by omega)]
       by_cases c1 : x = k
       · subst c1; rw [if_pos rfl, if_pos (by omega)]; rfl
       · rw [if_neg c1, hlc]
         by_cases c2 : x < k
         · rw [if_pos c2, if_pos (by omega)]
         · rw [if_neg c2, if_neg (by omega)]
     exact zp ⟨k + 1, l.set k (Wp.l.getD k 0), by omega, by simpa using hll, h4, rfl, rfl⟩
   · have h3 : k = dg Wp := by have := of_decide_eq_false h3; omega
     subst h3;refine W.exit (hK2 _ ?_);clear hK7 hK2
     have hlw : ∀ x, cf l x = cf Wp.l x := λx => by
       rw [hlc]; split
       · rfl
       · rw [z9 (by omega)]
     have hrc := zab Wp i;have e1 : l.getD i 0 = cf Wp.l i := hlw i;refine W.rs (zi _) (by rfl) λK hK => ?_;conv=>whnf
     refine ⟨⟨by omega, by omega⟩, ?_⟩;conv=>whnf
     rw [Int.toNat_natCast, e1];refine ⟨by constructor <;> omega, ?_⟩;conv=>whnf
     refine zl rfl (vX _ p (by omega) (by omega) (by omega)) λhs' hhs => ?_;try dsimp only at hhs
     conv=>whnf
     refine ⟨⟨by omega, by omega⟩, ?_⟩;conv=>whnf
     refine hK _ ?_;clear hK;refine W.rs (zi _) (by rfl) λK hK => ?_;conv=>whnf
     refine ⟨by constructor <;> omega, ?_⟩;conv=>whnf
     have e2 : (n : Int) + (i : Int) = ((n + i : Nat) : Int) := by omega
     rw [e2];refine ⟨⟨by omega, by simp; omega⟩, ?_⟩;conv=>whnf
     refine hK _ ?_;clear hK
     have hl2c : ∀ x, x < 2 * n -> cf ((l.set i ((cf Wp.l i - 1) % p)).set (n + i) 1) x = jr f n i x := λx hx => by
       rw [yb (by simp; omega), yb (by omega)];unfold jr;have hke : ∀ a, cf (jM f i).l a = (cf Wp.l a - if a = i then 1 else 0) % p := λa => by have := zef f a i; rw [hW] at this; exact this
       by_cases c1 : x < n
       · rw [if_pos c1, if_neg (by omega), hke]
         by_cases c2 : x = i
         · subst c2; rw [if_pos rfl, if_pos rfl]
         · rw [if_neg c2, if_neg c2, Int.sub_zero, vw, hlw]
       · rw [if_neg c1]
         by_cases c2 : x = n + i
         · rw [if_pos c2, if_pos c2]
         · rw [if_neg c2, if_neg c2, if_neg (by omega), hlw, z9 (by omega)]
     have hl2l : ((l.set i ((cf Wp.l i - 1) % p)).set (n + i) 1).length = 2 * n := by simpa using hll
     refine W.region (zi _) (by rfl) ?_;conv=>whnf
     rw [Int.toNat_natCast, Int.toNat_natCast];generalize (l.set i ((cf Wp.l i - 1) % p)).set (n + i) 1 = l2 at hl2c hl2l;refine ⟨by omega, ?_⟩;conv=>whnf
     rw [hl2l];refine ⟨⟨rfl, by decide, λx hx => by simp at hx; subst hx; exact ⟨rfl, rfl⟩⟩, ?_⟩;conv=>whnf
     intro b_9 hs_9 hh_9 hf_9;try dsimp only at hh_9 hf_9
     conv=>whnf
     refine ⟨by omega, ?_⟩;conv=>whnf
     refine ⟨λj => .rf (if j < i then bl j else b_8) (2 * n), λj hj => by show V.rf (if j < i then bl j else b_8) (2 * n) = V.rf (bl j) (2 * n); rw [if_pos hj], λj hj => ?_, ?_⟩
     · obtain rfl : j = 0 := by omega
       show V.rf (if i + 0 < i then bl (i + 0) else b_8) (2 * n) = _
       rw [if_neg (by omega)]; rfl
     intro b_10 hs_10 hh_10 hf_10;try dsimp only at hh_10 hf_10
     conv=>whnf
     refine hK8 _ ?_;clear hK8;refine W.region (zi _) (by rfl) ?_;conv=>whnf
     refine ⟨by constructor <;> omega, ?_⟩;conv=>whnf
     have hM' : MatR (z2 tb b_8 l2) (λj => if j < i then bl j else b_8) (i + 1) (2 * n) (jr f n) := by
       refine ⟨λj k hj hk he => ?_, λj hj => ?_⟩
       · have he' : (if j < i then bl j else b_8) = (if k < i then bl k else b_8) := he
         split at he' <;> split at he'
         · exact hM.inj j k (by assumption) (by assumption) he'
         · have := hlt j (by assumption); omega
         · have := hlt k (by assumption); omega
         · omega
       · show ∃ l, z2 tb b_8 l2 (if j < i then bl j else b_8) = some l ∧ _
         by_cases c1 : j < i
         · have := hlt j c1
           rw [if_pos c1, yH _ _ (by omega)]; exact hM.row j c1
         · obtain rfl : j = i := by omega
           rw [if_neg c1];exact ⟨l2, yn _ _ _, hl2l, hl2c⟩
     refine ⟨_, _, ⟨i + 1, hs_8, b_10, λj => if j < i then bl j else b_8, z2 tb b_8 l2, by omega, by omega, λj hj => ?_, hM', rfl, rfl⟩, by omega, by dsimp only; omega, ?_⟩
     · show (if j < i then bl j else b_8) < hs_8
       split
       · have := hlt j (by assumption); omega
       · omega
     repeat' first | refine And.intro ?_ ?_ | exact trivial | rfl | omega | exact λ_ _ => rfl | exact λ_ _ h => h
 · obtain rfl : n = i := by have := of_decide_eq_false h2; omega
   refine W.exit (hK1 _ ?_);clear hK7 hK1;refine W.weak (t := ⟨[(0, .v (.int .i64 p)), (1, .v (.ints g f.l)), (5, .v (.int .i64 n)), (6, .ownV 22 1 ba n λj => .rf (bl j) (2 * n)), (vt, .tab tb)], base⟩) ⟨by dsimp only; omega, ?_⟩ (Nat.le_refl _) ?_
   · repeat' first | refine And.intro ?_ ?_ | exact trivial | rfl | omega | assumption | exact λ_ _ => rfl | exact λ_ _ h => h
   clear hlt hhs hs
   have hS0 : ∀ i x, i < n -> x < 2 * n -> 0 <= jr f n i x ∧ jr f n i x < p := λi x _ _ => by
     unfold jr;have := zab (jM f i) x
     split
     · exact this
     · split <;> omega
   have hH0 : Half p n (jr f n) 0 (λk => (λ_ => false : Nat -> Bool) k = true) (jr f n) (λi j => jr f n i (n + j)) := by
     have := Half.start p n (jr f n) (λi j => jr f n i (n + j)) (λi hi j hj => by
       show jr f n i (n + j) = _
       unfold jr;rw [if_neg (by omega)]
       by_cases c1 : i = j
       · rw [if_pos (by omega), if_pos c1]
       · rw [if_neg (by omega), if_neg c1])
     exact this.used λk => ⟨λh => h.elim, λh => by cases h⟩
   refine W.rs (zi _) (by rfl) λK hK => ?_;conv=>whnf
   refine ⟨rfl, ?_⟩;conv=>whnf
   refine ⟨⟨by omega, by omega⟩, ?_⟩;conv=>whnf
   rw [Int.toNat_natCast];intro b_11 hs_11 hh_11 hf_11;try dsimp only at hh_11 hf_11
   conv=>whnf
   refine hK _ ?_;clear hK;refine W.seqK λK1 hK1 => ?_;refine W.rs (zi _) (by rfl) λK hK => ?_;conv=>whnf
   refine hK _ (W.block (W.invE (λm e => ∃ (c bu : Nat) (tb : Nat -> Option (List Int)) (R : Nat -> Nat -> Int) (U : Nat -> Bool), c <= n ∧ MatR tb bl n (2 * n) R ∧ (∀ i x, i < n -> x < 2 * n -> 0 <= R i x ∧ R i x < p) ∧ Half p n (jr f n) c (λk => U k = true) R (λi j => R i (n + j)) ∧ m = n - c ∧ e = [(0, .v (.int .i64 p)), (1, .v (.ints g f.l)), (5, .v (.int .i64 n)), (6, .ownV 22 1 ba n λj => .rf (bl j) (2 * n)), (11, .ownV 4 1 bu n λj => vU (U j)), (12, .v (.int .i64 c)), (vt, .tab tb)]) _ _ ⟨0, b_11, tb, jr f n, λ_ => false, Nat.zero_le _, hM, hS0, hH0, rfl, rfl⟩ (by dsimp only; omega) (by repeat' first | refine And.intro ?_ ?_ | exact trivial | rfl | omega | assumption | exact .inl rfl | exact λ_ _ => rfl | exact λ_ _ h => h) ?_));clear hK hM hH0 tb;rintro m e ⟨c, bu, tb, R, U, hc, hM, hR, hH, hm, rfl⟩;refine W.seqK λK7 hK7 => ?_;refine W.rs (zi _) (by rfl) λK hK => ?_;conv=>whnf
   refine hK _ (W.cond ⟨λh2 => ?_, λh2 => ?_⟩) <;> clear hK
   · have h2 : c < n := by have := of_decide_eq_true h2; omega
     refine W.skip (hK7 _ ?_);clear hK7;refine W.seqK λK8 hK8 => W.block ?_;refine W.rs (zi _) (by rfl) λK hK => ?_;conv=>whnf
     refine hK _ ?_;clear hK;refine W.seqK λK3 hK3 => ?_;refine W.rs (zi _) (by rfl) λK hK => ?_;conv=>whnf
     refine hK _ (W.block (W.invE (λm e => ∃ (i : Nat), i <= n ∧ (∀ j, j < i -> U j = true ∨ R j c = 0) ∧ m = n - i ∧ e = [(0, .v (.int .i64 p)), (1, .v (.ints g f.l)), (5, .v (.int .i64 n)), (6, .ownV 22 1 ba n λj => .rf (bl j) (2 * n)), (11, .ownV 4 1 bu n λj => vU (U j)), (12, .v (.int .i64 c)), (13, .v (.int .i64 (-1))), (14, .v (.int .i64 i)), (vt, .tab tb)]) _ _ ⟨0, Nat.zero_le _, λj hj => by omega, rfl, rfl⟩ (by dsimp only; omega) (by repeat' first | refine And.intro ?_ ?_ | exact trivial | rfl | omega | assumption | exact .inl rfl | exact λ_ _ => rfl | exact λ_ _ h => h) ?_));clear hK;rintro m2 e ⟨i, hi, hno, hm2, rfl⟩
     -- what the search tells
     have fin : ∀ (t : Int) (s : S), ((t = -1 ∧ ∀ j, j < n -> U j = true ∨ R j c = 0) ∨ ∃ a : Nat, t = a ∧ a < n ∧ U a = false ∧ R a c ≠ 0) -> base <= s.hs -> zD s.env [(0, .v (.int .i64 p)), (1, .v (.ints g f.l)), (5, .v (.int .i64 n)), (6, .ownV 22 1 ba n λj => .rf (bl j) (2 * n)), (11, .ownV 4 1 bu n λj => vU (U j)), (12, .v (.int .i64 c)), (13, .v (.int .i64 t)), (vt, .tab tb)] -> K3 s := by
       intro t s ht h5 h6;refine hK3 _ (W.weak (t := ⟨[(0, .v (.int .i64 p)), (1, .v (.ints g f.l)), (5, .v (.int .i64 n)), (6, .ownV 22 1 ba n λj => .rf (bl j) (2 * n)), (11, .ownV 4 1 bu n λj => vU (U j)), (12, .v (.int .i64 c)), (13, .v (.int .i64 t)), (vt, .tab tb)], base⟩) ⟨h5, h6⟩ (Nat.le_refl _) ?_);clear hK3 h5 h6 s hno;refine W.seqK λK4 hK4 => ?_;refine W.rs (zi _) (by rfl) λK hK => ?_;conv=>whnf
       rcases ht with ⟨rfl, hz⟩ | ⟨a, rfl, ha, hUa, hne⟩
       · refine hK _ (W.cond ⟨λ_ => W.exit (hK8 _ ?_), λh => absurd h (by decide)⟩)
         clear hK hK4 hK8;refine W.region (zi _) (by rfl) ?_;conv=>whnf
         refine ⟨by constructor <;> omega, ?_⟩;conv=>whnf
         exact zp ⟨c + 1, bu, tb, R, U, by omega, hM, hR, hH.skip (λk hk hu => by rw [(hz k hk).resolve_left hu]; simp), rfl, rfl⟩
       · refine hK _ (W.cond ⟨λh => absurd (of_decide_eq_true h) (by omega), λ_ => W.skip (hK4 _ ?_)⟩)
         clear hK hK4;obtain ⟨la, hla1, hla2, hla3⟩ := hM.row a ha;have e1 : la.getD c 0 = R a c := hla3 c (by omega);have hrc := hR a c ha (by omega);have hmod : R a c % p ≠ 0 := by rw [Int.emod_eq_of_lt hrc.1 hrc.2]; exact hne
         obtain ⟨hi1, hi2, hi3⟩ := xn hmod;refine W.rs (zi _) (by rfl) λK hK => ?_;conv=>whnf
         refine ⟨⟨by omega, by omega⟩, ?_⟩;conv=>whnf
         rw [Int.toNat_natCast];refine ⟨⟨by show 0 + 1 <= 1; omega, rfl⟩, λj => vU (if j = a then true else U j), by show vU (if a = a then true else U a) = zP (vU (U a)) 0 V.tr; rw [if_pos rfl, hUa]; rfl, λj _ hj => by show vU (if j = a then true else U j) = vU (U j); rw [if_neg hj], ?_⟩;conv=>whnf
         refine hK _ ?_;clear hK;refine W.rs (zi _) (by rfl) λK hK => ?_;conv=>whnf
         refine ⟨⟨by omega, by omega⟩, ?_⟩;conv=>whnf
         rw [Int.toNat_natCast];refine ⟨⟨by omega, by omega⟩, ?_⟩;conv=>whnf
         rw [Int.toNat_natCast];refine ⟨la, hla1, by omega, ?_⟩;conv=>whnf
         rw [e1];refine zl rfl (vE p (R a c) hrc hmod) λhs' hhs => ?_;try dsimp only at hhs
         conv=>whnf
         generalize hiv : yZ p (R a c) = iv at hi1 hi2 hi3;refine hK _ ?_;clear hK;clear hla1 hla2 hla3 e1 la
         -- how often the row at a is taken from a row
         have hqf : ∃ qf : Nat -> Int, qf a = 0 ∧ (∀ i, i ≠ a -> qf i = R i c * iv % p) := ⟨λi => if i = a then 0 else R i c * iv % p, if_pos rfl, λi hi => if_neg hi⟩
         obtain ⟨qf, hq0, hq1⟩ := hqf
         have hqb : ∀ i, 0 <= qf i ∧ qf i < p := λi => by
           by_cases c1 : i = a
           · rw [c1, hq0]; omega
           · rw [hq1 i c1]; exact ⟨Int.emod_nonneg _ (by omega), Int.emod_lt_of_pos _ (by omega)⟩
         have hpiv := hH.pivot (L' := λk x => if k = a then R k x else (R k x - qf k * R a x) % p) (T' := λk x => if k = a then R k (n + x) else (R k (n + x) - qf k * R a (n + x)) % p) (q := qf) h2 ha (by rw [hUa]; decide) hmod hq0 (λi hi hia => by
             rw [hq1 i hia, Int.mul_comm, Int.mul_emod, Int.emod_emod_of_dvd _ (Int.dvd_refl p), <- Int.mul_emod];have : R a c * (R i c * iv) = R i c * (R a c * iv) := by rw [Int.mul_left_comm]
             rw [this, Int.mul_emod, hi3, Int.mul_one, Int.emod_emod_of_dvd _ (Int.dvd_refl p)])
           (λi hi x hx => by
             show (if i = a then R i x else (R i x - qf i * R a x) % p) % p = _
             split
             · rename_i c1; rw [c1, hq0]; simp
             · exact Int.emod_emod_of_dvd _ (Int.dvd_refl p))
           (λi hi x hx => by
             show (if i = a then R i (n + x) else (R i (n + x) - qf i * R a (n + x)) % p) % p = _
             split
             · rename_i c1; rw [c1, hq0]; simp
             · exact Int.emod_emod_of_dvd _ (Int.dvd_refl p))
         refine W.rs (zi _) (by rfl) λK hK => ?_;conv=>whnf
         refine hK _ (W.block (W.invE (λm e => ∃ (i : Nat) (tb : Nat -> Option (List Int)), i <= n ∧ MatR tb bl n (2 * n) (xe p R qf a i) ∧ m = n - i ∧ e = [(0, .v (.int .i64 p)), (1, .v (.ints g f.l)), (5, .v (.int .i64 n)), (6, .ownV 22 1 ba n λj => .rf (bl j) (2 * n)), (11, .ownV 4 1 bu n λj => vU (if j = a then true else U j)), (12, .v (.int .i64 c)), (13, .v (.int .i64 a)), (15, .v (.int .i64 iv)), (16, .v (.int .i64 i)), (vt, .tab tb)]) _ _ ⟨0, tb, Nat.zero_le _, hM.congr λk x _ _ => by unfold xe; rw [if_neg (by omega)], rfl, rfl⟩ (by dsimp only; omega) (by repeat' first | refine And.intro ?_ ?_ | exact trivial | rfl | omega | assumption | exact .inl rfl | exact λ_ _ => rfl | exact λ_ _ h => h) ?_));clear hK hM tb;rintro m e ⟨i, tb, hi, hM, hm, rfl⟩;refine W.seqK λK7 hK7 => ?_;refine W.rs (zi _) (by rfl) λK hK => ?_;conv=>whnf
         refine hK _ (W.cond ⟨λh3 => ?_, λh3 => ?_⟩) <;> clear hK
         · have h3 : i < n := by have := of_decide_eq_true h3; omega
           refine W.skip (hK7 _ ?_);clear hK7;refine W.seqK λK9 hK9 => W.block ?_
           have fin9 : ∀ (tb' : Nat -> Option (List Int)) (s : S), MatR tb' bl n (2 * n) (xe p R qf a (i + 1)) -> base <= s.hs -> zD s.env [(0, .v (.int .i64 p)), (1, .v (.ints g f.l)), (5, .v (.int .i64 n)), (6, .ownV 22 1 ba n λj => .rf (bl j) (2 * n)), (11, .ownV 4 1 bu n λj => vU (if j = a then true else U j)), (12, .v (.int .i64 c)), (13, .v (.int .i64 a)), (15, .v (.int .i64 iv)), (16, .v (.int .i64 i)), (vt, .tab tb')] -> K9 s := by
             intro tb' s h4 h6 h7;refine hK9 _ (W.weak (t := ⟨[(0, .v (.int .i64 p)), (1, .v (.ints g f.l)), (5, .v (.int .i64 n)), (6, .ownV 22 1 ba n λj => .rf (bl j) (2 * n)), (11, .ownV 4 1 bu n λj => vU (if j = a then true else U j)), (12, .v (.int .i64 c)), (13, .v (.int .i64 a)), (15, .v (.int .i64 iv)), (16, .v (.int .i64 i)), (vt, .tab tb')], base⟩) ⟨h6, h7⟩ (Nat.le_refl _) ?_);clear hK9 h6 h7;refine W.region (zi _) (by rfl) ?_;conv=>whnf
             refine ⟨by constructor <;> omega, ?_⟩;conv=>whnf
             exact zp ⟨i + 1, tb', by omega, h4, rfl, rfl⟩
           clear hK9;obtain ⟨la, hla1, hla2, hla3⟩ := hM.row i h3;have e1 : la.getD c 0 = R i c := by have := hla3 c (by omega); unfold xe at this; rw [if_neg (by omega)] at this; exact this
           have hrci := hR i c h3 (by omega);refine W.seqK λK4 hK4 => ?_;refine W.rs (zi _) (by rfl) λK hK => ?_;conv=>whnf
           refine ⟨λh4 => ?_, λh4 => ?_⟩ <;> conv=>whnf
           · have h4 : i = a := by have := of_decide_eq_true h4; omega
             refine hK _ (W.condT rfl (W.exit (fin9 tb _ (hM.congr λk x hk hx => ?_) (by dsimp only; omega) ?_)))
             · unfold xe
               by_cases c1 : k < i ∧ k ≠ a
               · rw [if_pos c1, if_pos (by omega)]
               · rw [if_neg c1, if_neg (by omega)]
             · clear hK hK4 fin9
               repeat' first | refine And.intro ?_ ?_ | exact trivial | rfl | omega | assumption | exact .inl rfl | exact λ_ _ => rfl | exact λ_ _ h => h
           · have h4 : i ≠ a := by have := of_decide_eq_false h4; omega
             refine ⟨⟨by omega, by omega⟩, ?_⟩;conv=>whnf
             rw [Int.toNat_natCast];refine ⟨⟨by omega, by omega⟩, ?_⟩;conv=>whnf
             rw [Int.toNat_natCast];refine ⟨la, hla1, by omega, ?_⟩;conv=>whnf
             rw [e1];refine hK _ (W.cond ⟨λh5 => ?_, λh5 => ?_⟩) <;> clear hK
             · have h5 : R i c = 0 := of_decide_eq_true h5
               refine W.exit (fin9 tb _ (hM.congr λk x hk hx => ?_) (by dsimp only; omega) ?_)
               · unfold xe
                 by_cases c1 : k < i ∧ k ≠ a
                 · rw [if_pos c1, if_pos (by omega)]
                 · rw [if_neg c1]
                   by_cases c2 : k = i
                   · subst c2
                     have := hR k x hk hx;rw [if_pos (by omega), hq1 k h4, h5, Int.zero_mul, Int.zero_emod, Int.zero_mul, Int.sub_zero, Int.emod_eq_of_lt this.1 this.2]
                   · rw [if_neg (by omega)]
               · clear hK4 fin9
                 repeat' first | refine And.intro ?_ ?_ | exact trivial | rfl | omega | assumption | exact .inl rfl | exact λ_ _ => rfl | exact λ_ _ h => h
             · have h5 : ¬ R i c = 0 := of_decide_eq_false h5
               have hml : 0 <= R i c * iv ∧ R i c * iv <= 97 * 97 := ⟨Int.mul_nonneg hrci.1 hi1, Int.mul_le_mul (by omega) (by omega) hi1 (by omega)⟩
               refine W.skip (hK4 _ ?_);clear hK4;refine W.rs (zi _) (by rfl) λK hK => ?_;conv=>whnf
               refine ⟨⟨by omega, by omega⟩, ?_⟩;conv=>whnf
               rw [Int.toNat_natCast];refine ⟨⟨by omega, by omega⟩, ?_⟩;conv=>whnf
               rw [Int.toNat_natCast];refine ⟨la, hla1, by omega, ?_⟩;conv=>whnf
               rw [e1];refine ⟨by constructor <;> omega, ?_⟩;conv=>whnf
               refine ⟨by omega, ?_⟩;conv=>whnf
               rw [Int.tmod_eq_emod_of_nonneg hml.1, <- hq1 i h4];have hqi := hqb i;refine hK _ ?_;clear hK;refine W.rs (zi _) (by rfl) λK hK => ?_;conv=>whnf
               refine hK _ (W.block (W.invE (λm e => ∃ (j : Nat) (tb2 : Nat -> Option (List Int)), j <= 2 * n ∧ MatR tb2 bl n (2 * n) (λk x => if k = i ∧ x < j then (R i x - qf i * R a x) % p else xe p R qf a i k x) ∧ m = 2 * n - j ∧ e = [(0, .v (.int .i64 p)), (1, .v (.ints g f.l)), (5, .v (.int .i64 n)), (6, .ownV 22 1 ba n λj => .rf (bl j) (2 * n)), (11, .ownV 4 1 bu n λj => vU (if j = a then true else U j)), (12, .v (.int .i64 c)), (13, .v (.int .i64 a)), (15, .v (.int .i64 iv)), (16, .v (.int .i64 i)), (17, .v (.int .i64 (qf i))), (18, .v (.int .i64 j)), (vt, .tab tb2)]) _ _ ⟨0, tb, Nat.zero_le _, hM.congr λk x _ _ => by show _ = if k = i ∧ x < 0 then _ else _; rw [if_neg (by omega)], rfl, rfl⟩ (by dsimp only; omega) (by repeat' first | refine And.intro ?_ ?_ | exact trivial | rfl | omega | assumption | exact .inl rfl | exact λ_ _ => rfl | exact λ_ _ h => h) ?_));clear hK hM hla1 hla2 hla3 e1 la tb;rintro m e ⟨j, tb, hj, hM, hm, rfl⟩;refine W.seqK λK7 hK7 => ?_;refine W.rs (zi _) (by rfl) λK hK => ?_;conv=>whnf
               refine ⟨by constructor <;> omega, ?_⟩;conv=>whnf
               refine hK _ (W.cond ⟨λh6 => ?_, λh6 => ?_⟩) <;> clear hK
               · have h6 : j < 2 * n := by have := of_decide_eq_true h6; omega
                 clear fin9;obtain ⟨la, hla1, hla2, hla3⟩ := hM.row i h3;obtain ⟨lb, hlb1, hlb2, hlb3⟩ := hM.row a ha
                 have e1 : la.getD j 0 = R i j := by
                   have := hla3 j h6;have this : cf la j = if i = i ∧ j < j then (R i j - qf i * R a j) % p else xe p R qf a i i j := this
                   unfold xe at this;rw [if_neg (by omega), if_neg (by omega)] at this; exact this
                 have e2 : lb.getD j 0 = R a j := by
                   have := hlb3 j h6;have this : cf lb j = if a = i ∧ j < j then (R i j - qf i * R a j) % p else xe p R qf a i a j := this
                   unfold xe at this;rw [if_neg (by omega), if_neg (by omega)] at this; exact this
                 have hr1 := hR i j h3 h6;have hr2 := hR a j ha h6;have hmq : 0 <= qf i * R a j ∧ qf i * R a j <= 97 * 97 := ⟨Int.mul_nonneg hqi.1 hr2.1, Int.mul_le_mul (by omega) (by omega) hr2.1 (by omega)⟩
                 refine W.skip (hK7 _ ?_);clear hK7;refine W.seqK λK9 hK9 => W.block ?_;refine W.draw (zi _) follows (by rfl) ?_;conv=>whnf
                 refine ⟨⟨by omega, by omega⟩, ?_⟩;conv=>whnf
                 refine ⟨⟨by omega, by omega⟩, ?_⟩;conv=>whnf
                 refine ⟨⟨by omega, by omega⟩, ?_⟩;conv=>whnf
                 rw [Int.toNat_natCast, Int.toNat_natCast];refine ⟨la, hla1, by omega, ?_⟩;conv=>whnf
                 refine ⟨⟨by omega, by omega⟩, ?_⟩;conv=>whnf
                 refine ⟨⟨by omega, by omega⟩, ?_⟩;conv=>whnf
                 rw [Int.toNat_natCast];refine ⟨lb, hlb1, by omega, ?_⟩;conv=>whnf
                 rw [Int.toNat_natCast, e1, e2];refine ⟨by constructor <;> omega, ?_⟩;conv=>whnf
                 refine ⟨by constructor <;> omega, ?_⟩;conv=>whnf
                 refine ⟨_, cxmF (vX _ p (by omega) (by omega) (by omega)), ?_⟩;conv=>whnf
                 refine ⟨⟨by omega, by omega⟩, ?_⟩;conv=>whnf
                 refine ⟨la, hla1, by omega, ?_⟩;conv=>whnf
                 refine hK9 _ ?_;clear hK9;refine W.region (zi _) (by rfl) ?_;conv=>whnf
                 refine ⟨by constructor <;> omega, ?_⟩;conv=>whnf
                 have h7 := (hM.store h3 h6 hla1 ((R i j - qf i * R a j) % p)).congr (R' := λk x => if k = i ∧ x < j + 1 then (R i x - qf i * R a x) % p else xe p R qf a i k x) λk x hk hx => by
                   show (if k = i ∧ x = j then (R i j - qf i * R a j) % p else if k = i ∧ x < j then (R i x - qf i * R a x) % p else xe p R qf a i k x) = _
                   by_cases c1 : k = i
                   · by_cases c2 : x = j
                     · subst c2; rw [if_pos ⟨c1, rfl⟩, if_pos ⟨c1, by omega⟩]
                     · by_cases c3 : x < j
                       · rw [if_neg (by omega), if_pos ⟨c1, c3⟩, if_pos ⟨c1, by omega⟩]
                       · rw [if_neg (by omega), if_neg (by omega), if_neg (by omega)]
                   · rw [if_neg (by omega), if_neg (by omega), if_neg (by omega)]
                 exact zp ⟨j + 1, _, by omega, h7, rfl, rfl⟩
               · have h6 : j = 2 * n := by have := of_decide_eq_false h6; omega
                 subst h6;refine W.exit (fin9 tb _ (hM.congr λk x hk hx => ?_) (by dsimp only; omega) ?_)
                 · show (if k = i ∧ x < 2 * n then (R i x - qf i * R a x) % p else xe p R qf a i k x) = _
                   by_cases c1 : k = i
                   · rw [if_pos ⟨c1, hx⟩]
                     unfold xe;rw [if_pos (by omega), c1]
                   · rw [if_neg (by omega)]
                     unfold xe
                     by_cases c2 : k < i ∧ k ≠ a
                     · rw [if_pos c2, if_pos (by omega)]
                     · rw [if_neg c2, if_neg (by omega)]
                 · clear fin9 hK7
                   repeat' first | refine And.intro ?_ ?_ | exact trivial | rfl | omega | assumption | exact .inl rfl | exact λ_ _ => rfl | exact λ_ _ h => h
         · obtain rfl : n = i := by have := of_decide_eq_false h3; omega
           have hM2 := hM.congr (R' := λk x => if k = a then R k x else (R k x - qf k * R a x) % p) λk x hk hx => by
             show xe p R qf a n k x = if k = a then R k x else (R k x - qf k * R a x) % p
             unfold xe
             by_cases c1 : k = a
             · rw [if_neg (by omega), if_pos c1]
             · rw [if_pos ⟨hk, c1⟩, if_neg c1]
           have hR2 : ∀ i x, i < n -> x < 2 * n -> 0 <= (if i = a then R i x else (R i x - qf i * R a x) % p) ∧ (if i = a then R i x else (R i x - qf i * R a x) % p) < p := λi x hi hx => by
             by_cases c1 : i = a
             · rw [if_pos c1]; exact hR i x hi hx
             · rw [if_neg c1]; exact ⟨Int.emod_nonneg _ (by omega), Int.emod_lt_of_pos _ (by omega)⟩
           have hH2 := hpiv.used (u' := λk => (if k = a then true else U k) = true) λk => by
             by_cases c1 : k = a
             · simp [c1]
             · simp [c1]
           refine W.exit (hK8 _ ?_);clear hK7 hK8;refine W.region (zi _) (by rfl) ?_;conv=>whnf
           refine ⟨by constructor <;> omega, ?_⟩;conv=>whnf
           exact zp ⟨c + 1, bu, tb, _, λj => if j = a then true else U j, by omega, hM2, hR2, hH2, rfl, rfl⟩
     clear hK3;refine W.seqK λK7 hK7 => ?_;refine W.rs (zi _) (by rfl) λK hK => ?_;conv=>whnf
     refine hK _ (W.cond ⟨λh3 => ?_, λh3 => ?_⟩) <;> clear hK
     · have h3 : i < n := by have := of_decide_eq_true h3; omega
       obtain ⟨la, hla1, hla2, hla3⟩ := hM.row i h3;refine W.skip (hK7 _ ?_);clear hK7;refine W.seqK λK9 hK9 => W.block ?_
       -- the round's end
       have fin9 : (U i = true ∨ R i c = 0) -> ∀ s : S, base <= s.hs -> zD s.env [(0, .v (.int .i64 p)), (1, .v (.ints g f.l)), (5, .v (.int .i64 n)), (6, .ownV 22 1 ba n λj => .rf (bl j) (2 * n)), (11, .ownV 4 1 bu n λj => vU (U j)), (12, .v (.int .i64 c)), (13, .v (.int .i64 (-1))), (14, .v (.int .i64 i)), (vt, .tab tb)] -> K9 s := by
         intro h5 s h6 h7;refine hK9 _ (W.weak (t := ⟨[(0, .v (.int .i64 p)), (1, .v (.ints g f.l)), (5, .v (.int .i64 n)), (6, .ownV 22 1 ba n λj => .rf (bl j) (2 * n)), (11, .ownV 4 1 bu n λj => vU (U j)), (12, .v (.int .i64 c)), (13, .v (.int .i64 (-1))), (14, .v (.int .i64 i)), (vt, .tab tb)], base⟩) ⟨h6, h7⟩ (Nat.le_refl _) ?_);clear hK9 h6 h7;refine W.region (zi _) (by rfl) ?_;conv=>whnf
         refine ⟨by constructor <;> omega, ?_⟩;conv=>whnf
         have h8 : ∀ j, j < i + 1 -> U j = true ∨ R j c = 0 := λj hj => by
           by_cases hji : j = i
           · subst hji; exact h5
           · exact hno j (by omega)
         exact zp ⟨i + 1, by omega, h8, rfl, rfl⟩
       clear hK9;refine W.rs (zi _) (by rfl) λK hK => ?_;conv=>whnf
       refine ⟨⟨by omega, by omega⟩, ?_⟩;conv=>whnf
       have eU : (λj => vU (U j)) (i : Int).toNat = vU (U i) := by rw [Int.toNat_natCast]
       rw [eU];cases hU : U i
       · conv=>whnf
         refine ⟨λ_ => ?_, λh => absurd h (by decide)⟩;conv=>whnf
         refine ⟨⟨by omega, by omega⟩, ?_⟩;conv=>whnf
         rw [Int.toNat_natCast];refine ⟨⟨by omega, by omega⟩, ?_⟩;conv=>whnf
         rw [Int.toNat_natCast];refine ⟨la, hla1, by omega, ?_⟩;conv=>whnf
         have e1 : la.getD c 0 = R i c := hla3 c (by omega);rw [e1];refine hK _ (W.cond ⟨λh4 => ?_, λh4 => ?_⟩) <;> clear hK
         · have h4 : R i c ≠ 0 := of_decide_eq_true h4
           clear fin9;refine W.rs (zi _) (by rfl) λK hK => ?_;conv=>whnf
           refine hK _ ?_;clear hK;refine W.exit (fin i _ (.inr ⟨i, rfl, h3, hU, h4⟩) (by dsimp only; omega) ?_);clear fin
           repeat' first | refine And.intro ?_ ?_ | exact trivial | rfl | omega | exact .inl rfl | exact λ_ _ => rfl | exact λ_ _ h => h | assumption | exact λi hi => (by obtain rfl : i = 0 := (by omega); rfl)
         · have h4 : ¬ R i c ≠ 0 := of_decide_eq_false h4
           refine W.skip (fin9 (.inr (by omega)) _ (by dsimp only; omega) ?_);clear fin9 fin
           repeat' first | refine And.intro ?_ ?_ | exact trivial | rfl | omega | exact .inl rfl | exact λ_ _ => rfl | exact λ_ _ h => h | assumption | exact λi hi => (by obtain rfl : i = 0 := (by omega); rfl)
       · conv=>whnf
         refine hK _ (W.condF rfl (W.skip (fin9 (.inl hU) _ (by dsimp only; omega) ?_)));clear hK fin9 fin
         repeat' first | refine And.intro ?_ ?_ | exact trivial | rfl | omega | exact .inl rfl | exact λ_ _ => rfl | exact λ_ _ h => h | assumption | exact λi hi => (by obtain rfl : i = 0 := (by omega); rfl)
     · obtain rfl : n = i := by have := of_decide_eq_false h3; omega
       refine W.exit (fin (-1) _ (.inl ⟨rfl, hno⟩) (by dsimp only; omega) ?_);clear fin hK7
       repeat' first | refine And.intro ?_ ?_ | exact trivial | rfl | omega | exact .inl rfl | exact λ_ _ => rfl | exact λ_ _ h => h | assumption | exact λi hi => (by obtain rfl : i = 0 := (by omega); rfl)
   · obtain rfl : n = c := by have := of_decide_eq_false h2; omega
     refine W.exit (hK1 _ ?_);clear hK7 hK1
     have hrows : ∃ rows : Nat -> List Int, ∀ j, j < n -> tb (bl j) = some (rows j) ∧ (rows j).length = 2 * n ∧ ∀ x, x < 2 * n -> cf (rows j) x = R j x := ⟨λj => (tb (bl j)).getD [], λj hj => by
       obtain ⟨l, h3, h4, h5⟩ := hM.row j hj;exact ⟨by simp only [h3, Option.getD_some], by show ((tb (bl j)).getD []).length = _; rw [h3]; exact h4, by show ∀ x, x < 2 * n -> cf ((tb (bl j)).getD []) x = _; rw [h3]; exact h5⟩⟩
     obtain ⟨rows, hrows⟩ := hrows;refine W.thaw (i := 6) bl rows rfl rfl (λj hj => ⟨by rw [(hrows j hj).2.1], (hrows j hj).1⟩) ?_;refine W.weak (t := ⟨[(0, .v (.int .i64 p)), (1, .v (.ints g f.l)), (5, .v (.int .i64 n)), (6, .ownV 22 1 ba n λj => .ints none (rows j)), (11, .ownV 4 1 bu n λj => vU (U j)), (vt, .tab λ_ => none)], base⟩) ⟨by dsimp only; omega, by repeat' first | refine And.intro ?_ ?_ | exact trivial | rfl | omega | assumption | exact λ_ _ => rfl | exact λ_ _ h => h⟩ (Nat.le_refl _) ?_
     have hvk : ∀ k, k < n -> zw ((rows k).drop n) = (of p (mkL n λj => R k (n + j))).l := λk hk => by
       refine yu (xl _) (of p _).ok.2 λj => ?_;rw [xu, zks, ya, y8]
       by_cases c1 : j < n
       · have := hR k (n + j) hk (by omega)
         rw [if_pos c1, (hrows k hk).2.2 _ (by omega), Int.emod_eq_of_lt this.1 this.2]
       · rw [if_neg c1, zV (by have := (hrows k hk).2.1; omega)]; simp
     have hvd : ∀ k, dg (of p (mkL n λj => R k (n + j))) <= n := λk => by have := kY (p := p) (mkL n λj => R k (n + j)); rw [zT] at this; exact this
     have hsm : ∀ (w : Nat -> Int) x, x < n -> zx (λj => w j * jr f n j x) n = zx (λj => cf (jM f j).l x * w j) n := λw x hx => yY λj _ => by
       unfold jr;rw [if_pos hx, Int.mul_comm]
     have hvb : ∀ k, k < n -> U k = false -> Ber f (of p (mkL n λj => R k (n + j))) := λk hk hu => by
       rw [zea hf (hvd k)];intro x hx;rw [<- hsm _ x hx];have h3 := hH.free hk (by rw [hu]; decide) x hx;rw [<- h3];refine yh p λj hj => ?_;rw [ya, y8, if_pos hj, Int.mul_emod, Int.emod_emod_of_dvd _ (Int.dvd_refl p), <- Int.mul_emod]
     have hend : (∀ k, k < n -> U k = true ∨ dg (of p (mkL n λj => R k (n + j))) <= 1) -> ∀ w : Poly p, dg w <= n -> Ber f w -> dg w <= 1 := λh3 w hw hb => by
       refine j8 λj hj => ?_
       by_cases c1 : j < n
       · have h4 := hH.all (w := cf w.l) (λx hx => by rw [hsm _ x hx]; exact (zea hf hw).1 hb x hx) c1 (λk hk hu => by
           have h5 := (h3 k hk).resolve_left hu;have h6 : cf (of p (mkL n λj => R k (n + j))).l j = 0 := z9 (by omega);rw [ya, y8, if_pos c1] at h6; exact h6)
         rw [vw] at h4; exact h4
       · exact z9 (by omega)
     refine W.seqK λK1 hK1 => ?_;refine W.rs (zi _) (by rfl) λK hK => ?_;conv=>whnf
     refine hK _ (W.block (W.invE (λm e => ∃ (i : Nat), i <= n ∧ (∀ k, k < i -> U k = true ∨ dg (of p (mkL n λj => R k (n + j))) <= 1) ∧ m = n - i ∧ e = [(0, .v (.int .i64 p)), (5, .v (.int .i64 n)), (6, .ownV 22 1 ba n λj => .ints none (rows j)), (11, .ownV 4 1 bu n λj => vU (U j)), (19, .v (.int .i64 i)), (vt, .tab λ_ => none)]) _ _ ⟨0, Nat.zero_le _, λj hj => by omega, rfl, rfl⟩ (by dsimp only; omega) (by repeat' first | refine And.intro ?_ ?_ | exact trivial | rfl | omega | assumption | exact .inl rfl | exact λ_ _ => rfl | exact λ_ _ h => h) ?_));clear hK;rintro m2 e ⟨i, hi, hno, hm2, rfl⟩;refine W.seqK λK7 hK7 => ?_;refine W.rs (zi _) (by rfl) λK hK => ?_;conv=>whnf
     refine hK _ (W.cond ⟨λh3 => ?_, λh3 => ?_⟩) <;> clear hK
     · have h3 : i < n := by have := of_decide_eq_true h3; omega
       refine W.skip (hK7 _ ?_);clear hK7;refine W.seqK λK9 hK9 => W.block ?_;refine W.rs (zi _) (by rfl) λK hK => ?_;conv=>whnf
       refine ⟨⟨by omega, by omega⟩, ?_⟩;conv=>whnf
       rw [Int.toNat_natCast];have hrl := (hrows i h3).2.1;refine ⟨⟨by omega, by omega, by omega⟩, ?_⟩;conv=>whnf
       rw [Int.toNat_natCast, Int.toNat_natCast, List.take_length];refine zB rfl (xo none ((rows i).drop n) (by rw [List.length_drop]; omega)) λhs_20 b_20 hh_20 hf_20 => ?_;try dsimp only at hh_20 hf_20
       conv=>whnf
       rw [hvk i h3];have hber := hvb i h3;have hvd' := hvd i;generalize hv : of p (mkL n λj => R i (n + j)) = v at hber hvd';have hvl : v.l.length = dg v := rfl;refine hK _ ?_;clear hK
       -- the round's end
       have fin9 : (U i = true ∨ dg v <= 1) -> ∀ s : S, base <= s.hs -> zD s.env [(0, .v (.int .i64 p)), (5, .v (.int .i64 n)), (6, .ownV 22 1 ba n λj => .ints none (rows j)), (11, .ownV 4 1 bu n λj => vU (U j)), (19, .v (.int .i64 i)), (vt, .tab λ_ => none)] -> K9 s := by
         intro h5 s h6 h7;refine hK9 _ (W.weak (t := ⟨[(0, .v (.int .i64 p)), (5, .v (.int .i64 n)), (6, .ownV 22 1 ba n λj => .ints none (rows j)), (11, .ownV 4 1 bu n λj => vU (U j)), (19, .v (.int .i64 i)), (vt, .tab λ_ => none)], base⟩) ⟨h6, h7⟩ (Nat.le_refl _) ?_);clear hK9 h6 h7;refine W.region (zi _) (by rfl) ?_;conv=>whnf
         refine ⟨by constructor <;> omega, ?_⟩;conv=>whnf
         have h8 : ∀ k, k < i + 1 -> U k = true ∨ dg (of p (mkL n λj => R k (n + j))) <= 1 := λk hk => by
           by_cases c1 : k = i
           · subst c1; rw [hv]; exact h5
           · exact hno k (by omega)
         exact zp ⟨i + 1, by omega, h8, rfl, rfl⟩
       clear hK9;refine W.rs (zi _) (by rfl) λK hK => ?_;conv=>whnf
       refine ⟨⟨by omega, by omega⟩, ?_⟩;conv=>whnf
       have eU : (λj => vU (U j)) (i : Int).toNat = vU (U i) := by rw [Int.toNat_natCast]
       rw [eU];cases hU : U i
       · conv=>whnf
         refine ⟨λ_ => ?_, λh => absurd h (by decide)⟩;conv=>whnf
         rw [hvl];refine hK _ (W.cond ⟨λh4 => ?_, λh4 => ?_⟩) <;> clear hK
         · have h4 := of_decide_eq_true h4
           clear fin9;refine W.weak (t := ⟨[(20, .v (.ints none v.l)), (vt, .tab λ_ => none)], base⟩) ⟨by dsimp only; omega, by repeat' first | refine And.intro ?_ ?_ | exact trivial | rfl | omega | assumption | exact .inl rfl | exact λ_ _ h => h⟩ (Nat.le_refl _) ?_;refine W.rs (zi _) (by rfl) λK hK => ?_;conv=>whnf
           refine hK _ (W.ret ?_);conv=>whnf
           exact ⟨.v (.ints none v.l), ⟨rfl, rfl⟩, trivial, v, rfl, .inl ⟨by omega, hvd', hber hU⟩⟩
         · have h4 := of_decide_eq_false h4
           refine W.skip (fin9 (.inr (by omega)) _ (by dsimp only; omega) ?_);clear fin9
           repeat' first | refine And.intro ?_ ?_ | exact trivial | rfl | omega | exact .inl rfl | exact λ_ _ => rfl | exact λ_ _ h => h | assumption | exact λi hi => (by obtain rfl : i = 0 := (by omega); rfl)
       · conv=>whnf
         refine hK _ (W.condF rfl (W.skip (fin9 (.inl hU) _ (by dsimp only; omega) ?_)));clear hK fin9
         repeat' first | refine And.intro ?_ ?_ | exact trivial | rfl | omega | exact .inl rfl | exact λ_ _ => rfl | exact λ_ _ h => h | assumption | exact λi hi => (by obtain rfl : i = 0 := (by omega); rfl)
     · obtain rfl : n = i := by have := of_decide_eq_false h3; omega
       refine W.exit (hK1 _ ?_);clear hK7 hK1;refine W.rs (zi _) (by rfl) λK hK => ?_;conv=>whnf
       refine hK _ (W.ret ?_);conv=>whnf
       exact ⟨.v (.ints none (0 : Poly p).l), rfl, trivial, 0, rfl, .inr ⟨rfl, hend hno⟩⟩


theorem zjU {α : Type} {d : α} {L M : List α} {j : Nat} (h : j < L.length) : (L ++ M).getD j d = L.getD j d := by
 simp [List.getD_eq_getElem?_getD, List.getElem?_append, h]
theorem zjV {α : Type} {d : α} {L M : List α} {j : Nat} : (L ++ M).getD (L.length + j) d = M.getD j d := by
 rw [List.getD_eq_getElem?_getD, List.getD_eq_getElem?_getD, List.getElem?_append_right (by omega), Nat.add_sub_cancel_left]

theorem zbf (p : Int) [SP p] : ∀ (d : Nat) (f : Poly p), dg f <= d -> d <= 400 -> Mon f -> Sqf f -> 2 <= dg f -> Fn Try.prog 38 [.int .i64 p, .ints none f.l] (λ_ _ z => ∃ P : List (Poly p), kF f P ∧ z = .v (vPs P))
 | 0, f, hd, _, _, _, h2 => absurd h2 (by omega)
 | d + 1, f, hd, hd4, hm, hs, h2 => by
  have ih := zbf p d;have hp := Pr.two (p := p);have hp2 := SP.le (p := p);obtain ⟨n, hf⟩ : ∃ n, dg f = n + 1 := ⟨dg f - 1, by omega⟩
  refine zm (za [0, 1, 4, 5, 6, 7, 8, 14, 20, 34]) Try.func38 rfl (by decide) Try.ntmps38 (Nat.le_of_ble_eq_true rfl) λbase => ?_;refine W.rs (za _) (by rfl) λK hK => ?_;conv=>whnf
  refine hK _ ?_;clear hK;refine W.rs (za _) (by rfl) λK hK => ?_;conv=>whnf
  refine xc rfl (zer p none f n hf (by omega) (by omega)) ?_;rintro lo hi hi' z hl1 hl2 hl3 ⟨v, rfl, hv⟩ _;try dsimp only at hl1 hl2
  have hvl : v.l.length = dg v := rfl;conv=>whnf
  refine hK _ ?_;clear hK;refine W.seqK λK1 hK1 => ?_;refine W.rs (za _) (by rfl) λK hK => ?_;conv=>whnf
  rw [hvl];refine hK _ (W.cond ⟨λh => ?_, λh => ?_⟩) <;> clear hK
  ·have h := of_decide_eq_true h;obtain ⟨rfl, hv2⟩ := hv.resolve_left (by omega)
   have hirr : Irr f := zft hm.1 hs (dvd_refl f) h2 λw hw hb => ⟨cf w.l 0, by
    have := zgu (hv2 w (by omega) hb);rw [<- this];have e : w - w = 0 := by exact zg [w] (by rfl)
    rw [e]; exact dvd_zero f⟩
   have hP : kF f [f] := ⟨by simp, λq => by
    rw [List.mem_singleton];exact ⟨λe => by rw [e]; exact ⟨hirr, hm, dvd_refl f⟩, λ⟨a, b, c⟩ => kB a hirr b hm c⟩⟩
   refine W.rs (za _) (by rfl) λK hK => ?_;conv=>whnf
   refine ⟨⟨rfl, by decide, λx hx => by simp at hx; subst hx; exact ⟨rfl, rfl⟩⟩, ?_⟩;conv=>whnf
   intro b_2 hs_2 hh_2 hf_2;try dsimp only at hh_2 hf_2
   conv=>whnf
   refine hK _ (W.ret ?_);conv=>whnf
   exact ⟨.v (vPs [f]), ⟨.inl rfl, rfl, rfl, λi hi => by obtain rfl : i = 0 := (by omega); rfl⟩, ⟨trivial, λ_ _ => trivial⟩, [f], hP, rfl⟩
  ·have h := of_decide_eq_false h;obtain ⟨hv1, hv2, hv3⟩ := hv.resolve_right λe => by have h9 : dg v = 0 := (by rw [e.1]; exact zu); omega
   refine W.skip (hK1 _ ?_);clear hK1;refine W.rs (za _) (by rfl) λK hK => ?_;conv=>whnf
   refine ⟨⟨rfl, by decide, λx hx => by simp at hx⟩, ?_⟩;conv=>whnf
   intro b_2 hs_2 hh_2 hf_2;try dsimp only at hh_2 hf_2
   conv=>whnf
   refine hK _ ?_;clear hK;refine W.seqK λK1 hK1 => ?_;refine W.rs (za _) (by rfl) λK hK => ?_;conv=>whnf
   refine hK _ (W.block (W.invE (λm e => ∃ (s bO : Nat) (O : List (Poly p)), s <= p.toNat ∧ O.length <= s * 400 ∧ zag f v s O ∧ m = p.toNat - s ∧ e = [(0, .v (.int .i64 p)), (1, .v (.ints none f.l)), (5, .v (.ints none v.l)), (6, .ownV 22 1 bO O.length λj => .ints none (O.getD j 0).l), (7, .v (.int .i64 s))]) _ _ ⟨0, b_2, [], Nat.zero_le _, by simp, zag.start f v, rfl, rfl⟩ (by dsimp only; omega) (by repeat' first | refine And.intro ?_ ?_ | exact trivial | rfl | omega | assumption | exact .inl rfl | exact λ_ _ => rfl | exact λi hi => absurd hi (by omega)) ?_));clear hK;rintro m e ⟨s, bO, O, hs1, hOl, hO, hm', rfl⟩;refine W.seqK λK7 hK7 => ?_;refine W.rs (za _) (by rfl) λK hK => ?_;conv=>whnf
   refine hK _ (W.cond ⟨λh3 => ?_, λh3 => ?_⟩) <;> clear hK
   ·have h3 : (s : Int) < p := of_decide_eq_true h3;have hless := zjJ hf hv1 hv2 (s : Int);have hgm := k0 (f := f) (g := v - con p (s : Int)) (.inl hm.1);have hgs := hs.dvd (y9 f (v - con p (s : Int)));have hst := λhd P hP => hO.step (P := P) h3 hd hP;have hsk := hO.skip
    have hsub : dg (v - con p (s : Int)) <= 1000 := by
     have := zck v (con p (s : Int));have := vB (p := p) (s : Int);omega
    have hb1 : Bd 97 [(s : Int)] := λi => by
     cases i with
     | zero => rw [yg]; omega
     | succ i => rw [zy, yG]; omega
    refine W.skip (hK7 _ ?_);clear hK7;refine W.seqK λK8 hK8 => W.block ?_;refine W.rs (za _) (by rfl) λK hK => ?_;conv=>whnf
    refine ⟨⟨rfl, by decide⟩, ?_⟩;conv=>whnf
    intro b_3 hs_3 hh_3 hf_3;try dsimp only at hh_3 hf_3
    conv=>whnf
    refine zB rfl (zij none _ v.l [(s : Int)] (-1) (by omega) ((j4 v).le (by omega)) (hb1.le (by omega)) (by omega) (by simp)) λhs_4 b_4 hh_4 hf_4 => ?_;try dsimp only at hh_4 hf_4
    conv=>whnf
    have esm : jK (-1) [(s : Int)] = [-(s : Int)] := by simp [jK]
    rw [esm]
    have hb2 : Bd 97 [-(s : Int)] := λi => by
     cases i with
     | zero => rw [yg]; omega
     | succ i => rw [zy, yG]; omega
    refine zB rfl (ji p (by omega) (by omega) _ (zw (jJ v.l [-(s : Int)])) (Bd.trim λi => by rw [vm]; have := j4 v i; have := hb2 i; omega) (Nat.le_trans (xF _) (by rw [jJ, zT]; simp; omega))) λhs_5 b_5 hh_5 hf_5 => ?_;try dsimp only at hh_5 hf_5
    conv=>whnf
    rw [zdB];refine zB rfl (zai p none _ f (v - con p (s : Int)) (by omega) hsub) λhs_6 b_6 hh_6 hf_6 => ?_;try dsimp only at hh_6 hf_6
    conv=>whnf
    generalize gcd f (v - con p (s : Int)) = w at hless hgm hgs hst hsk;have hwl : w.l.length = dg w := rfl;refine hK _ ?_;clear hK
    have fin9 : ∀ (O' : List (Poly p)) (bO' : Nat) (s' : S), zag f v (s + 1) O' -> O'.length <= (s + 1) * 400 -> base <= s'.hs -> zD s'.env [(0, .v (.int .i64 p)), (1, .v (.ints none f.l)), (5, .v (.ints none v.l)), (6, .ownV 22 1 bO' O'.length λj => .ints none (O'.getD j 0).l), (7, .v (.int .i64 s))] -> K8 s' := by
     intro O' bO' s' h5 h55 h6 h7;refine hK8 _ (W.weak (t := ⟨[(0, .v (.int .i64 p)), (1, .v (.ints none f.l)), (5, .v (.ints none v.l)), (6, .ownV 22 1 bO' O'.length λj => .ints none (O'.getD j 0).l), (7, .v (.int .i64 s))], base⟩) ⟨h6, h7⟩ (Nat.le_refl _) ?_);clear hK8 h6 h7;refine W.region (za _) (by rfl) ?_;conv=>whnf
     refine ⟨by constructor <;> omega, ?_⟩;conv=>whnf
     exact zp ⟨s + 1, bO', O', by omega, h55, h5, rfl, rfl⟩
    clear hK8;refine W.rs (za _) (by rfl) λK hK => ?_;conv=>whnf
    rw [hwl];refine hK _ (W.cond ⟨λh4 => ?_, λh4 => ?_⟩) <;> clear hK
    ·have h4 := of_decide_eq_true h4;refine W.weak (t := ⟨[(0, .v (.int .i64 p)), (1, .v (.ints none f.l)), (5, .v (.ints none v.l)), (6, .ownV 22 1 bO O.length λj => .ints none (O.getD j 0).l), (7, .v (.int .i64 s)), (8, .v (.ints none w.l))], base⟩) ⟨by dsimp only; omega, by repeat' first | refine And.intro ?_ ?_ | exact trivial | rfl | omega | assumption | exact .inl rfl | exact λ_ _ => rfl⟩ (Nat.le_refl _) ?_;refine W.region (za _) (by rfl) ?_;conv=>whnf
     refine xc rfl (ih w (by omega) (by omega) hgm hgs (by omega)) ?_;rintro lo hi hi' z hl1 hl2 hl3 ⟨P, hP, rfl⟩ _;try dsimp only at hl1 hl2
     conv=>whnf
     have hPf := hP.few hgm.1;refine ⟨by omega, ?_⟩;conv=>whnf
     refine ⟨λj => .ints none ((O ++ P).getD j 0).l, λi hi => congrArg (λq : Poly p => V.ints none q.l) (zjU hi), λj hj => congrArg (λq : Poly p => V.ints none q.l) zjV, ?_⟩;intro b_7 hs_7 hh_7 hf_7;try dsimp only at hh_7 hf_7
     conv=>whnf
     refine fin9 (O ++ P) b_7 _ (hst (by omega) P hP) (by rw [List.length_append]; omega) (by dsimp only; omega) ?_;clear fin9;rw [List.length_append]
     repeat' first | refine And.intro ?_ ?_ | exact trivial | rfl | omega | exact .inl rfl | exact λ_ _ => rfl | exact λ_ _ h => h | assumption | exact λi hi => (by obtain rfl : i = 0 := (by omega); rfl)
    ·have h4 := of_decide_eq_false h4;refine W.skip (fin9 O bO _ (hsk (by omega)) (by omega) (by dsimp only; omega) ?_);clear fin9
     repeat' first | refine And.intro ?_ ?_ | exact trivial | rfl | omega | exact .inl rfl | exact λ_ _ => rfl | exact λ_ _ h => h | assumption | exact λi hi => (by obtain rfl : i = 0 := (by omega); rfl)
   ·obtain rfl : s = p.toNat := by have := of_decide_eq_false h3; omega
    refine W.exit (hK1 _ ?_);clear hK7 hK1;refine W.rs (za _) (by rfl) λK hK => ?_;conv=>whnf
    refine hK _ (W.ret ?_);conv=>whnf
    exact ⟨.v (vPs O), ⟨rfl, rfl, rfl, λ_ _ => rfl⟩, ⟨trivial, λ_ _ => trivial⟩, O, hO.fin hm h2 hv3, rfl⟩


theorem zio (p : Int) [SP p] (g : Option Nat) (G : List (Poly p × Nat)) (f : Poly p) (n : Nat) (hG : G.length <= 1000) (hGd : ∀ x ∈ G, dg x.1 <= 1000000) (hf : dg f <= 1000000) :
  Fn Try.prog 39 [.vals g 2 G.length λj => vF (G.getD j (0, 0)), .ints none f.l, .int .i64 n] (λ_ _ z => ∃ k b, k <= G.length ∧ (∀ j, j < k -> ltP (G.getD j (0, 0)).1 f) ∧ (k = G.length ∨ ¬ ltP (G.getD k (0, 0)).1 f) ∧
   z = .ownV 36 2 b (G.length + 1) λj => vF ((zL G k (f, n)).getD j (0, 0))) := by
 refine zm (za [0, 1, 2, 6, 7, 21]) Try.func39 rfl (by decide) Try.ntmps39 (Nat.le_of_ble_eq_true rfl) λbase => ?_;refine W.rs (za _) (by rfl) λK hK => ?_;conv=>whnf
 refine hK _ ?_;clear hK;refine W.rs (za _) (by rfl) λK hK => ?_;conv=>whnf
 refine hK _ ?_;clear hK;refine W.seqK λK1 hK1 => W.block (W.invA (λm e => ∃ k, k <= G.length ∧ (∀ j, j < k -> ltP (G.getD j (0, 0)).1 f) ∧ m = G.length - k ∧ e = [(0, .v (.vals g 2 G.length λj => vF (G.getD j (0, 0)))), (1, .v (.ints none f.l)), (2, .v (.int .i64 n)), (7, .v (.int .i64 k))]) ⟨0, Nat.zero_le _, λj hj => by omega, rfl, rfl⟩ ?_);rintro m e ⟨k, h1, h2, hm, rfl⟩
 have fin : ∀ s : S, base <= s.hs -> (k = G.length ∨ ¬ ltP (G.getD k (0, 0)).1 f) -> zD s.env [(0, .v (.vals g 2 G.length λj => vF (G.getD j (0, 0)))), (1, .v (.ints none f.l)), (2, .v (.int .i64 n)), (7, .v (.int .i64 k))] -> K1 s := by
  intro s h5 h6 h7;refine hK1 _ (W.weak (t := ⟨[(0, .v (.vals g 2 G.length λj => vF (G.getD j (0, 0)))), (1, .v (.ints none f.l)), (2, .v (.int .i64 n)), (7, .v (.int .i64 k))], base⟩) ⟨h5, h7⟩ (Nat.le_refl _) ?_);clear hK1 h5 h7;refine W.seqK λK2 hK2 => W.sch follows ?_;refine Wany.take (za []) 1 (by rfl) (by rfl) (λd hd => by injection hd with hd; subst hd; decide) (by kernel_rfl) (by kernel_rfl) (by kernel_rfl) (by rfl) ?_;conv=>whnf
  refine Wany.take (za []) 2 (by rfl) (by rfl) (λd hd => by injection hd with hd; subst hd; decide) (by kernel_rfl) (by kernel_rfl) (by kernel_rfl) (by rfl) ?_;conv=>whnf
  refine Wany.take (za []) 3 (by rfl) (by rfl) (λd hd => by injection hd with hd; subst hd; decide) (by kernel_rfl) (by kernel_rfl) (by kernel_rfl) (by rfl) ?_;conv=>whnf
  refine ⟨⟨by omega, by omega, by omega⟩, ?_⟩;conv=>whnf
  refine Wany.take (za []) 5 (by rfl) (by rfl) (λd hd => by injection hd with hd; subst hd; decide) (by kernel_rfl) (by kernel_rfl) (by kernel_rfl) (by rfl) ?_;conv=>whnf
  refine Wany.take (za []) 6 (by rfl) (by rfl) (λd hd => by injection hd with hd; subst hd; decide) (by kernel_rfl) (by kernel_rfl) (by kernel_rfl) (by rfl) ?_;conv=>whnf
  refine Wany.take (za []) 7 (by rfl) (by rfl) (λd hd => by injection hd with hd; subst hd; decide) (by kernel_rfl) (by kernel_rfl) (by kernel_rfl) (by rfl) ?_;conv=>whnf
  refine Wany.take (za []) 10 (by rfl) (by rfl) (λd hd => by injection hd with hd; subst hd; decide) (by kernel_rfl) (by kernel_rfl) (by kernel_rfl) (by rfl) ?_;conv=>whnf
  refine Wany.take (za []) 11 (by rfl) (by rfl) (λd hd => by injection hd with hd; subst hd; decide) (by kernel_rfl) (by kernel_rfl) (by kernel_rfl) (by rfl) ?_;conv=>whnf
  refine Wany.take (za []) 12 (by rfl) (by rfl) (λd hd => by injection hd with hd; subst hd; decide) (by kernel_rfl) (by kernel_rfl) (by kernel_rfl) (by rfl) ?_;conv=>whnf
  refine ⟨⟨by omega, by omega, by omega⟩, ?_⟩;conv=>whnf
  refine Wany.all (za []) (by rfl) (rs := [0, 8]) (by kernel_rfl) (by decide) ?_;intro i hi;simp only [List.mem_cons, List.not_mem_nil, or_false] at hi
  rcases hi with rfl | rfl <;> refine ⟨_, by rfl, by rfl, ?_⟩ <;> conv=>whnf
  ·refine ⟨⟨rfl, by decide, λx hx => by simp at hx⟩, ?_⟩;conv=>whnf
   intro b_0 hs_0 hh_0 hf_0;try dsimp only at hh_0 hf_0
   conv=>whnf
   refine Wany.all (za []) (by rfl) (rs := [4, 8]) (by kernel_rfl) (by decide) ?_;intro i hi;simp only [List.mem_cons, List.not_mem_nil, or_false] at hi
   rcases hi with rfl | rfl <;> refine ⟨_, by rfl, by rfl, ?_⟩ <;> conv=>whnf
   ·refine ⟨by omega, ?_⟩;conv=>whnf
    refine ⟨λj => vF ((zL G k (f, n)).getD j (0, 0)), λi hi => absurd hi (by omega), λj hj => congrArg vF ((congrArg (λi => (zL G k (f, n)).getD i (0, 0)) (by omega : 0 + j = j)).trans ((zcD h1 (by omega)).trans (congrArg (λi => G.getD i (0, 0)) (by omega)))), ?_⟩;intro b_4 hs_4 hh_4 hf_4;try dsimp only at hh_4 hf_4
    conv=>whnf
    refine Wany.all (za []) (by rfl) (rs := [8]) (by kernel_rfl) (by decide) ?_;intro i hi;simp only [List.mem_cons, List.not_mem_nil, or_false] at hi
    rcases hi with rfl <;> refine ⟨_, by rfl, by rfl, ?_⟩ <;> conv=>whnf
    refine ⟨⟨rfl, by decide, λx hx => by simp at hx; subst hx; exact ⟨rfl, rfl⟩⟩, ?_⟩;conv=>whnf
    intro b_8 hs_8 hh_8 hf_8;try dsimp only at hh_8 hf_8
    conv=>whnf
    refine Wany.all (za []) (by rfl) (rs := [9]) (by kernel_rfl) (by decide) ?_;intro i hi;simp only [List.mem_cons, List.not_mem_nil, or_false] at hi
    rcases hi with rfl <;> refine ⟨_, by rfl, by rfl, ?_⟩ <;> conv=>whnf
    refine ⟨by omega, ?_⟩;conv=>whnf
    refine ⟨λj => vF ((zL G k (f, n)).getD j (0, 0)), λi hi => rfl, λj hj => (congrArg vF ((congrArg (λi => (zL G k (f, n)).getD i (0, 0)) (by omega : 0 + ((k : Int) - 0).toNat + j = k)).trans (zcE h1))).trans (by obtain rfl : j = 0 := (by omega); rfl), ?_⟩;intro b_9 hs_9 hh_9 hf_9;try dsimp only at hh_9 hf_9
    conv=>whnf
    refine Wany.all (za []) (by rfl) (rs := [13]) (by kernel_rfl) (by decide) ?_;intro i hi;simp only [List.mem_cons, List.not_mem_nil, or_false] at hi
    rcases hi with rfl <;> refine ⟨_, by rfl, by rfl, ?_⟩ <;> conv=>whnf
    refine ⟨by omega, ?_⟩;conv=>whnf
    refine ⟨λj => vF ((zL G k (f, n)).getD j (0, 0)), λi hi => rfl, λj hj => congrArg vF ((congrArg (λi => (zL G k (f, n)).getD i (0, 0)) (by omega : 0 + ((k : Int) - 0).toNat + 1 + j = k + 1 + j)).trans ((zcF h1).trans (congrArg (λi => G.getD i (0, 0)) (by omega)))), ?_⟩;intro b_13 hs_13 hh_13 hf_13;try dsimp only at hh_13 hf_13
    conv=>whnf
    refine Wany.all (za []) (by rfl) (rs := [14]) (by kernel_rfl) (by decide) ?_;intro i hi;simp only [List.mem_cons, List.not_mem_nil, or_false] at hi
    rcases hi with rfl <;> refine ⟨_, by rfl, by rfl, ?_⟩ <;> conv=>whnf
    refine Wany.done (by kernel_rfl) (hK2 _ ?_);clear hK2;refine W.ret ?_;conv=>whnf
    exact ⟨.ownV 36 2 _ (G.length + 1) λj => vF ((zL G k (f, n)).getD j (0, 0)), ⟨rfl, rfl, rfl, by omega, λ_ _ => rfl⟩, λ_ _ => ⟨trivial, trivial, trivial⟩, k, _, h1, h2, h6, rfl⟩
   ·refine ⟨⟨rfl, by decide, λx hx => by simp at hx; subst hx; exact ⟨rfl, rfl⟩⟩, ?_⟩;conv=>whnf
    intro b_8 hs_8 hh_8 hf_8;try dsimp only at hh_8 hf_8
    conv=>whnf
    refine Wany.all (za []) (by rfl) (rs := [4]) (by kernel_rfl) (by decide) ?_;intro i hi;simp only [List.mem_cons, List.not_mem_nil, or_false] at hi
    rcases hi with rfl <;> refine ⟨_, by rfl, by rfl, ?_⟩ <;> conv=>whnf
    refine ⟨by omega, ?_⟩;conv=>whnf
    refine ⟨λj => vF ((zL G k (f, n)).getD j (0, 0)), λi hi => absurd hi (by omega), λj hj => congrArg vF ((congrArg (λi => (zL G k (f, n)).getD i (0, 0)) (by omega : 0 + j = j)).trans ((zcD h1 (by omega)).trans (congrArg (λi => G.getD i (0, 0)) (by omega)))), ?_⟩;intro b_4 hs_4 hh_4 hf_4;try dsimp only at hh_4 hf_4
    conv=>whnf
    refine Wany.all (za []) (by rfl) (rs := [9]) (by kernel_rfl) (by decide) ?_;intro i hi;simp only [List.mem_cons, List.not_mem_nil, or_false] at hi
    rcases hi with rfl <;> refine ⟨_, by rfl, by rfl, ?_⟩ <;> conv=>whnf
    refine ⟨by omega, ?_⟩;conv=>whnf
    refine ⟨λj => vF ((zL G k (f, n)).getD j (0, 0)), λi hi => rfl, λj hj => (congrArg vF ((congrArg (λi => (zL G k (f, n)).getD i (0, 0)) (by omega : 0 + ((k : Int) - 0).toNat + j = k)).trans (zcE h1))).trans (by obtain rfl : j = 0 := (by omega); rfl), ?_⟩;intro b_9 hs_9 hh_9 hf_9;try dsimp only at hh_9 hf_9
    conv=>whnf
    refine Wany.all (za []) (by rfl) (rs := [13]) (by kernel_rfl) (by decide) ?_;intro i hi;simp only [List.mem_cons, List.not_mem_nil, or_false] at hi
    rcases hi with rfl <;> refine ⟨_, by rfl, by rfl, ?_⟩ <;> conv=>whnf
    refine ⟨by omega, ?_⟩;conv=>whnf
    refine ⟨λj => vF ((zL G k (f, n)).getD j (0, 0)), λi hi => rfl, λj hj => congrArg vF ((congrArg (λi => (zL G k (f, n)).getD i (0, 0)) (by omega : 0 + ((k : Int) - 0).toNat + 1 + j = k + 1 + j)).trans ((zcF h1).trans (congrArg (λi => G.getD i (0, 0)) (by omega)))), ?_⟩;intro b_13 hs_13 hh_13 hf_13;try dsimp only at hh_13 hf_13
    conv=>whnf
    refine Wany.all (za []) (by rfl) (rs := [14]) (by kernel_rfl) (by decide) ?_;intro i hi;simp only [List.mem_cons, List.not_mem_nil, or_false] at hi
    rcases hi with rfl <;> refine ⟨_, by rfl, by rfl, ?_⟩ <;> conv=>whnf
    refine Wany.done (by kernel_rfl) (hK2 _ ?_);clear hK2;refine W.ret ?_;conv=>whnf
    exact ⟨.ownV 36 2 _ (G.length + 1) λj => vF ((zL G k (f, n)).getD j (0, 0)), ⟨rfl, rfl, rfl, by omega, λ_ _ => rfl⟩, λ_ _ => ⟨trivial, trivial, trivial⟩, k, _, h1, h2, h6, rfl⟩
  ·refine ⟨⟨rfl, by decide, λx hx => by simp at hx; subst hx; exact ⟨rfl, rfl⟩⟩, ?_⟩;conv=>whnf
   intro b_8 hs_8 hh_8 hf_8;try dsimp only at hh_8 hf_8
   conv=>whnf
   refine Wany.all (za []) (by rfl) (rs := [0]) (by kernel_rfl) (by decide) ?_;intro i hi;simp only [List.mem_cons, List.not_mem_nil, or_false] at hi
   rcases hi with rfl <;> refine ⟨_, by rfl, by rfl, ?_⟩ <;> conv=>whnf
   refine ⟨⟨rfl, by decide, λx hx => by simp at hx⟩, ?_⟩;conv=>whnf
   intro b_0 hs_0 hh_0 hf_0;try dsimp only at hh_0 hf_0
   conv=>whnf
   refine Wany.all (za []) (by rfl) (rs := [4]) (by kernel_rfl) (by decide) ?_;intro i hi;simp only [List.mem_cons, List.not_mem_nil, or_false] at hi
   rcases hi with rfl <;> refine ⟨_, by rfl, by rfl, ?_⟩ <;> conv=>whnf
   refine ⟨by omega, ?_⟩;conv=>whnf
   refine ⟨λj => vF ((zL G k (f, n)).getD j (0, 0)), λi hi => absurd hi (by omega), λj hj => congrArg vF ((congrArg (λi => (zL G k (f, n)).getD i (0, 0)) (by omega : 0 + j = j)).trans ((zcD h1 (by omega)).trans (congrArg (λi => G.getD i (0, 0)) (by omega)))), ?_⟩;intro b_4 hs_4 hh_4 hf_4;try dsimp only at hh_4 hf_4
   conv=>whnf
   refine Wany.all (za []) (by rfl) (rs := [9]) (by kernel_rfl) (by decide) ?_;intro i hi;simp only [List.mem_cons, List.not_mem_nil, or_false] at hi
   rcases hi with rfl <;> refine ⟨_, by rfl, by rfl, ?_⟩ <;> conv=>whnf
   refine ⟨by omega, ?_⟩;conv=>whnf
   refine ⟨λj => vF ((zL G k (f, n)).getD j (0, 0)), λi hi => rfl, λj hj => (congrArg vF ((congrArg (λi => (zL G k (f, n)).getD i (0, 0)) (by omega : 0 + ((k : Int) - 0).toNat + j = k)).trans (zcE h1))).trans (by obtain rfl : j = 0 := (by omega); rfl), ?_⟩;intro b_9 hs_9 hh_9 hf_9;try dsimp only at hh_9 hf_9
   conv=>whnf
   refine Wany.all (za []) (by rfl) (rs := [13]) (by kernel_rfl) (by decide) ?_;intro i hi;simp only [List.mem_cons, List.not_mem_nil, or_false] at hi
   rcases hi with rfl <;> refine ⟨_, by rfl, by rfl, ?_⟩ <;> conv=>whnf
   refine ⟨by omega, ?_⟩;conv=>whnf
   refine ⟨λj => vF ((zL G k (f, n)).getD j (0, 0)), λi hi => rfl, λj hj => congrArg vF ((congrArg (λi => (zL G k (f, n)).getD i (0, 0)) (by omega : 0 + ((k : Int) - 0).toNat + 1 + j = k + 1 + j)).trans ((zcF h1).trans (congrArg (λi => G.getD i (0, 0)) (by omega)))), ?_⟩;intro b_13 hs_13 hh_13 hf_13;try dsimp only at hh_13 hf_13
   conv=>whnf
   refine Wany.all (za []) (by rfl) (rs := [14]) (by kernel_rfl) (by decide) ?_;intro i hi;simp only [List.mem_cons, List.not_mem_nil, or_false] at hi
   rcases hi with rfl <;> refine ⟨_, by rfl, by rfl, ?_⟩ <;> conv=>whnf
   refine Wany.done (by kernel_rfl) (hK2 _ ?_);clear hK2;refine W.ret ?_;conv=>whnf
   exact ⟨.ownV 36 2 _ (G.length + 1) λj => vF ((zL G k (f, n)).getD j (0, 0)), ⟨rfl, rfl, rfl, by omega, λ_ _ => rfl⟩, λ_ _ => ⟨trivial, trivial, trivial⟩, k, _, h1, h2, h6, rfl⟩
 refine W.seqK λK7 hK7 => ?_;refine W.rs (za _) (by rfl) λK hK => ?_;conv=>whnf
 refine ⟨λh3 => ?_, λh3 => ?_⟩ <;> conv=>whnf
 ·have h3 := of_decide_eq_true h3;have hx : (G.getD k (0, 0)) ∈ G := by rw [List.getD_eq_getElem?_getD, List.getElem?_eq_getElem (by omega)]; exact List.getElem_mem (by omega)
  have hx2 := hGd _ hx;refine ⟨⟨by omega, by omega⟩, ?_⟩;conv=>whnf
  rw [Int.toNat_natCast];refine zl rfl (zc5 none none (G.getD k (0, 0)).1.l f.l hx2 hf) λhs' hhs => ?_;try dsimp only at hhs
  conv=>whnf
  refine hK _ (W.cond ⟨λh => ?_, λh => ?_⟩) <;> clear hK
  ·have h := (zbB _ _).1 (of_decide_eq_true h);refine W.skip (hK7 _ (W.block ?_));clear hK7 fin;refine W.region (za _) (by rfl) ?_;conv=>whnf
   refine ⟨by constructor <;> omega, ?_⟩;conv=>whnf
   exact zp ⟨k + 1, by omega, λj hj => by by_cases h9 : j = k; (subst h9; exact h); exact h2 j (by omega), rfl, rfl⟩
  ·have h := λh9 => of_decide_eq_false h ((zbB _ _).2 h9);refine W.exit (fin _ (by dsimp only; omega) (.inr h) ?_);clear fin hK7
   repeat' first | refine And.intro ?_ ?_ | exact trivial | rfl | omega | exact .inl rfl | exact λ_ _ => rfl | exact λ_ _ h => h | assumption | exact λi hi => (by obtain rfl : i = 0 := (by omega); rfl)
 ·have h3 := of_decide_eq_false h3;refine hK _ (W.condF rfl ?_);clear hK;refine W.exit (fin _ (by dsimp only; omega) (.inl (by omega)) ?_);clear fin hK7
  repeat' first | refine And.intro ?_ ?_ | exact trivial | rfl | omega | exact .inl rfl | exact λ_ _ => rfl | exact λ_ _ h => h | assumption | exact λi hi => (by obtain rfl : i = 0 := (by omega); rfl)


theorem zlo {p : Int} [SP p] (f : Poly p) (hf : dg f <= 1000) : Bd 4611686018427387904 (mkL (f.l.length - 1) (dv (cf f.l))) := λj => by
 have hp2 := SP.le (p := p);rw [y8]
 split
 ·rename_i hj
  have hfl : f.l.length = dg f := rfl;have hc := zab f (j + 1);have h8 := Int.mul_nonneg (by omega : (0 : Int) <= (j : Int) + 1) hc.1;have h9 := Int.mul_le_mul (by omega : (j : Int) + 1 <= 1000) (by omega : cf f.l (j + 1) <= 97) hc.1 (by omega);unfold dv;omega
 ·omega

theorem zaT (p : Int) [SP p] (g : Option Nat) (f : Poly p) (hf : dg f <= 1000) : FnI 35 [.int .i64 p, .ints g f.l] (der f).l := by
 have hp := Pr.two (p := p);have hp2 := SP.le (p := p);have hfl : f.l.length = dg f := rfl;refine zm (za [0, 1, 4]) Try.func35 rfl (by decide) Try.ntmps35 (Nat.le_of_ble_eq_true rfl) λbase => ?_;refine W.rs (za _) (by rfl) λK hK => ?_;conv=>whnf
 refine hK _ ?_;clear hK;refine W.rs (za _) (by rfl) λK hK => ?_;conv=>whnf
 refine zl rfl (zaR _ f.l ((j4 f).le (by omega)) (by omega)) λhs' hhs => ?_;try dsimp only at hhs
 conv=>whnf
 refine zB rfl (ji p (by omega) (by omega) none (mkL (f.l.length - 1) (dv (cf f.l))) (zlo f hf) (by rw [zT]; omega)) λhs_2 b_2 hh_2 hf_2 => ?_;try dsimp only at hh_2 hf_2
 conv=>whnf
 rw [zkQ];refine hK _ (W.ret ?_);conv=>whnf
 exact ⟨.ownI 2 _ ((der f).l), ⟨rfl, rfl, rfl⟩, trivial, _, rfl⟩

theorem zam (p : Int) [SP p] : ∀ (d : Nat) (g : Option Nat) (f : Poly p) (t : Nat) (G : List (Poly p × Nat)), dg f <= d -> d <= 13 -> Mon f -> t <= 13 ^ (13 - d) -> Srt G -> (∀ x ∈ G, ¬ x.1 ∣ f ∧ dg x.1 <= 13) -> G.length + 20 * d <= 600 ->
  Fn Try.prog 19 [.int .i64 p, .ints g f.l, .int .i64 t, .vals none 2 G.length λj => vF (G.getD j (0, 0))] (λ_ _ z => ∃ G', PutOf f t G G' ∧ z = .v (vFs G'))
 | 0, g, f, t, G, hd, _, hm, _, _, _, _ => absurd (zc.1 (by omega)) hm.1
 | d + 1, g, f, t, G, hd, hd13, hm, ht, hS, hG, hl => by
  have ih := zam p d;have hp := Pr.two (p := p);have hp2 := SP.le (p := p);have hfl : f.l.length = dg f := rfl;have hf0 : dg f ≠ 0 := λe => hm.1 (zc.1 e);have htb : t <= 13 ^ 13 := Nat.le_trans ht (Nat.pow_le_pow_right (by omega) (by omega))
  have ht2 : 13 * t <= 13 ^ (13 - d) := by
   have e : 13 - d = (13 - (d + 1)) + 1 := by omega
   rw [e, Nat.pow_succ, Nat.mul_comm];exact Nat.mul_le_mul_right _ ht
  have htb : t <= 302875106592253 := htb;refine zm (za [0, 1, 2, 3, 8, 9, 10, 11, 12, 14, 15, 16, 17, 18, 21, 28, 33, 67, 82]) Try.func19 rfl (by decide) Try.ntmps19 (Nat.le_of_ble_eq_true rfl) λbase => ?_;refine W.rs (za _) (by rfl) λK hK => ?_;conv=>whnf
  refine hK _ ?_;clear hK;refine W.seqK λK1 hK1 => ?_;refine W.rs (za _) (by rfl) λK hK => ?_;conv=>whnf
  rw [hfl];refine hK _ (W.cond ⟨λh => ?_, λh => ?_⟩) <;> clear hK
  ·have h := of_decide_eq_true h;refine W.rs (za _) (by rfl) λK hK => ?_;conv=>whnf
   refine hK _ (W.ret ?_);conv=>whnf
   exact ⟨.v (vFs G), ⟨rfl, rfl, rfl, λ_ _ => rfl⟩, ⟨trivial, λ_ _ => ⟨trivial, trivial, trivial⟩⟩, G, PutOf.unit (by omega) hS, rfl⟩
  have h := of_decide_eq_false h;refine W.skip (hK1 _ ?_);clear hK1;refine W.rs (za _) (by rfl) λK hK => ?_;conv=>whnf
  refine zB rfl (zaT p g f (by omega)) λhs_1 b_1 hh_1 hf_1 => ?_;try dsimp only at hh_1 hf_1
  conv=>whnf
  refine hK _ ?_;clear hK;refine W.seqK λK1 hK1 => ?_;have hdl : (der f).l.length = dg (der f) := rfl;refine W.rs (za _) (by rfl) λK hK => ?_;conv=>whnf
  rw [hdl];refine hK _ (W.cond ⟨λh1 => ?_, λh1 => ?_⟩) <;> clear hK
  ·have h1 := of_decide_eq_true h1;have hder : der f = 0 := zc.1 (by omega);refine W.rs (za _) (by rfl) λK hK => ?_;conv=>whnf
   refine ⟨⟨rfl, by decide⟩, ?_⟩;conv=>whnf
   intro b_2 hs_2 hh_2 hf_2;try dsimp only at hh_2 hf_2
   conv=>whnf
   refine hK _ ?_;clear hK;refine W.seqK λK3 hK3 => ?_;refine W.rs (za _) (by rfl) λK hK => ?_;conv=>whnf
   refine hK _ (W.block (W.invE (λm e => ∃ (k bR : Nat), (m = dg f + p.toNat - k * p.toNat) ∧ k * p.toNat < dg f + p.toNat ∧ e = [(0, .v (.int .i64 p)), (1, .v (.ints g f.l)), (2, .v (.int .i64 t)), (3, .v (.vals none 2 G.length λj => vF (G.getD j (0, 0)))), (10, .ownI 2 bR (mkL k λi => cf f.l (i * p.toNat))), (11, .v (.int .i64 ((k * p.toNat : Nat) : Int)))]) _ _ ⟨0, b_2, rfl, by omega, rfl⟩ (by dsimp only; omega) (by repeat' first | refine And.intro ?_ ?_ | exact trivial | rfl | omega | assumption | exact .inl rfl | exact .inr rfl | exact λ_ _ => rfl) ?_));clear hK;rintro m e ⟨k, bR, hm', hk, rfl⟩;have hpn : ((p.toNat : Nat) : Int) = p := by omega
   have hk1 : (k + 1) * p.toNat = k * p.toNat + p.toNat := Nat.succ_mul _ _;have hk2 : (((k + 1) * p.toNat : Nat) : Int) = ((k * p.toNat : Nat) : Int) + p := by omega
   have hcfk : cf f.l (k * p.toNat) = cf f.l (k * p.toNat) := rfl;generalize hkp : k * p.toNat = kp at hm' hk hk1 hk2 hcfk;refine W.seqK λK7 hK7 => ?_;refine W.rs (za _) (by rfl) λK hK => ?_;conv=>whnf
   rw [hfl];refine hK _ (W.cond ⟨λh8 => ?_, λh8 => ?_⟩) <;> clear hK
   ·have h8 := of_decide_eq_true h8;refine W.skip (hK7 _ ?_);clear hK7;refine W.seqK λK8 hK8 => W.block ?_;refine W.region (za _) (by rfl) ?_;conv=>whnf
    refine ⟨⟨by omega, by omega⟩, ?_⟩;conv=>whnf
    rw [Int.toNat_natCast];have hkk : k <= kp := by rw [<- hkp]; exact Nat.le_mul_of_pos_right k (by omega)
    have hml : (mkL k λi => cf f.l (i * p.toNat)).length = k := zT _ _;have hms : mkL (k + 1) (λi => cf f.l (i * p.toNat)) = mkL k (λi => cf f.l (i * p.toNat)) ++ [f.l.getD kp 0] := by rw [zac, hkp]; rfl
    refine ⟨⟨rfl, by decide⟩, ?_⟩;conv=>whnf
    intro b_4 hs_4 hh_4 hf_4;try dsimp only at hh_4 hf_4
    conv=>whnf
    refine ⟨by dsimp only [List.length]; omega, ?_⟩;conv=>whnf
    intro b_6 hs_6 hh_6 hf_6;try dsimp only at hh_6 hf_6
    conv=>whnf
    refine hK8 _ ?_;clear hK8;refine W.region (za _) (by rfl) ?_;conv=>whnf
    refine ⟨by constructor <;> omega, ?_⟩;conv=>whnf
    refine ⟨_, _, ⟨k + 1, b_6, rfl, by omega, rfl⟩, by omega, by dsimp only; omega, ?_⟩;rw [hms]
    repeat' first | refine And.intro ?_ ?_ | exact trivial | rfl | omega | exact .inl rfl | exact λ_ _ => rfl | exact λ_ _ h => h | assumption | exact λi hi => (by obtain rfl : i = 0 := (by omega); rfl)
   ·have h8 := of_decide_eq_false h8;obtain ⟨R, hR1, hR2, hR3, hR4, hR5⟩ := zdD (f := f) hm hder (l := mkL k λi => cf f.l (i * p.toNat)) (n := k) (zT _ _) (λi hi => by rw [y8, if_pos hi]) (by omega) (by omega);rw [<- hR1];have hRd := hR5 (by omega);have hpf := zjK hR2 hR3 (by omega);have hpt : ((p.toNat * t : Nat) : Int) = p * (t : Int) := by rw [Int.natCast_mul, hpn]
    have hpt1 : p.toNat * t <= 13 * t := Nat.mul_le_mul_right _ (by omega);refine W.exit (hK3 _ ?_);clear hK7 hK3;refine W.weak (t := ⟨[(0, .v (.int .i64 p)), (2, .v (.int .i64 t)), (3, .v (.vals none 2 G.length λj => vF (G.getD j (0, 0)))), (10, .v (.ints none R.l))], base⟩) ⟨by dsimp only; omega, by repeat' first | refine And.intro ?_ ?_ | exact trivial | rfl | omega | assumption | exact .inl rfl | exact .inr rfl | exact λ_ _ => rfl⟩ (Nat.le_refl _) ?_;refine W.rs (za _) (by rfl) λK hK => ?_;conv=>whnf
    rw [<- hpt];refine ⟨by constructor <;> omega, ?_⟩;conv=>whnf
    refine xc rfl (ih none R (p.toNat * t) G (by omega) (by omega) hR2 (by omega) hS (λx hx => ⟨λhd9 => (hG x hx).1 (zo hd9 (by rw [<- hR3]; exact zfG (by omega))), (hG x hx).2⟩) (by omega)) ?_;rintro lo hi hi' z hl1 hl2 hl3 ⟨G', hG', rfl⟩ _;try dsimp only at hl1 hl2
    conv=>whnf
    refine hK _ (W.ret ?_);conv=>whnf
    exact ⟨.v (vFs G'), ⟨rfl, rfl, rfl, λ_ _ => rfl⟩, ⟨trivial, λ_ _ => ⟨trivial, trivial, trivial⟩⟩, G', PutOf.root hR2.1 (by omega) hR3 hG', rfl⟩
  ·have h1 := of_decide_eq_false h1;refine W.skip (hK1 _ ?_);clear hK1;have hd0 : der f ≠ 0 := λe => by rw [e, zu] at h1; omega
   obtain ⟨s1, s2, s3, s4, s5, s6, s7⟩ := zhp hm hd0;refine W.rs (za _) (by rfl) λK hK => ?_;conv=>whnf
   refine zB rfl (zai p _ _ f (der f) (by omega) (by have := zaG hm.1; omega)) λhs_3 b_3 hh_3 hf_3 => ?_;try dsimp only at hh_3 hf_3
   conv=>whnf
   refine zl rfl (xG p _ _ f (gcd f (der f)) (by omega) (by have := zC s6 hd0; have := zaG hm.1; omega) s7) λhs' hhs => ?_;try dsimp only at hhs
   conv=>whnf
   generalize hq : quo f (gcd f (der f)) = q at s1 s2 s3 s4 s5;generalize gcd f (der f) = c at s1 s6 s7;refine hK _ ?_;clear hK;refine W.rs (za _) (by rfl) λK hK => ?_;conv=>whnf
   refine xc rfl (zbf p 400 q (by omega) (by omega) s2 s3 s4) ?_;rintro lo hi hi' z hl1 hl2 hl3 ⟨P, hP, rfl⟩ _;have hPf := hP.few (f := q) s2.1;try dsimp only at hl1 hl2
   conv=>whnf
   refine hK _ ?_;clear hK;refine W.seqK λK1 hK1 => ?_;refine W.rs (za _) (by rfl) λK hK => ?_;conv=>whnf
   refine hK _ (W.block (W.invE (λm e => ∃ (k : Nat) (g1 : Option Nat) (r : Poly p) (L H : List (Poly p × Nat)), Putting f P t G k r L H ∧ dg r <= dg f ∧ m = P.length - k ∧ (∀ x ∈ H, dg x.1 <= 13) ∧ e = [(0, .v (.int .i64 p)), (1, .v (.ints g1 r.l)), (2, .v (.int .i64 t)), (3, .v (.vals none 2 H.length λj => vF (H.getD j (0, 0)))), (14, .v (vPs P)), (15, .v (.int .i64 k))]) _ _ ⟨0, g, f, [], G, Putting.start hm P t hS, Nat.le_refl _, rfl, λx hx => (hG x hx).2, rfl⟩ (by dsimp only; omega) (by repeat' first | refine And.intro ?_ ?_ | exact trivial | rfl | omega | assumption | exact .inl rfl | exact .inr rfl | exact λ_ _ => rfl) ?_));clear hK;rintro m e ⟨k, g1, r, L, H, hpu, hrd, hm', hH, rfl⟩;have hpe := hpu.peel;have hkl := hpe.le;have hlen := hpu.len;refine W.seqK λK7 hK7 => W.rs (za _) (by rfl) λK hK => ?_;conv=>whnf
   refine hK _ (W.cond ⟨λh2 => ?_, λh2 => ?_⟩) <;> clear hK <;> (first | replace h2 := of_decide_eq_true h2 | replace h2 := of_decide_eq_false h2)
   ·have hmem : P.getD k 0 ∈ P := by rw [List.getD_eq_getElem?_getD, List.getElem?_eq_getElem (by omega)]; exact List.getElem_mem (by omega)
    obtain ⟨hgi, hgm, hgd⟩ := (hP.2 _).1 hmem;have hgd0 : P.getD k 0 ∣ f := zo hgd ⟨c, s1⟩;have hgdg := zC hgd0 hm.1;have step := λn i r' he hn => hpu.step (n := n) (i := i) (r' := r') (λx hx => (hG x hx).1) hP.1 (by omega) hgi hgm hgd0 he hn;generalize hgq : P.getD k 0 = q1 at hgi hgm hgd hgd0 hgdg step;refine W.skip (hK7 _ ?_);clear hK7;refine W.seqK λK8 hK8 => W.block ?_;refine W.rs (za _) (by rfl) λK hK => ?_;conv=>whnf
    refine hK _ ?_;clear hK
    have hpow : ∀ {n : Nat} {rc : Poly p}, r = q1 ^ n * rc -> n < 14 ∧ rc ≠ 0 ∧ dg rc <= dg r := λ{n rc} he => by
     have h5 := zaH hgi.1 n;have h6 := zC (⟨rc, he⟩ : q1 ^ n ∣ r) hpe.mon.1;have h7 : rc ∣ r := ⟨q1 ^ n, by rw [he]; exact xM _ _⟩
     exact ⟨by omega, zcm h7 hpe.mon.1, zC h7 hpe.mon.1⟩
    refine W.seqK λK2 hK2 => ?_;refine W.block (W.invE (λm e => ∃ (n : Nat) (g2 : Option Nat) (rc : Poly p), r = q1 ^ n * rc ∧ m = dg rc ∧ e = [(0, .v (.int .i64 p)), (1, .v (.ints g2 rc.l)), (2, .v (.int .i64 t)), (3, .v (.vals none 2 H.length λj => vF (H.getD j (0, 0)))), (14, .v (vPs P)), (15, .v (.int .i64 k)), (16, .v (.int .i64 n))]) _ _ ⟨0, g1, r, by rw [zt]; exact zg [r] (by rfl), rfl, rfl⟩ (by dsimp only; omega) (by repeat' first | refine And.intro ?_ ?_ | exact trivial | rfl | omega | assumption | exact .inl rfl | exact .inr rfl | exact λ_ _ => rfl) ?_);rintro m2 e ⟨n, g2, rc, he, hm2, rfl⟩;obtain ⟨hn14, hrc0, hrcd⟩ := hpow he;have hreml : (rem rc q1).l.length = dg (rem rc q1) := rfl;refine W.block ?_;refine W.rs (za _) (by rfl) λK hK => ?_;conv=>whnf
    refine ⟨⟨by omega, by omega⟩, ?_⟩;conv=>whnf
    have e1 : (λj => V.ints none (P.getD j 0).l) (k : Int).toNat = .ints none q1.l := by rw [Int.toNat_natCast]; show V.ints none (P.getD k 0).l = _; rw [hgq]
    rw [e1];refine zl rfl (xG p _ _ rc q1 (by omega) (by omega) hgi.ne) λhs' hhs => ?_;try dsimp only at hhs
    conv=>whnf
    refine hK _ ?_;clear hK;refine W.seqK λK9 hK9 => ?_;refine W.rs (za _) (by rfl) λK hK => ?_;conv=>whnf
    rw [hreml];refine hK _ (W.cond ⟨λh3 => ?_, λh3 => ?_⟩) <;> clear hK
    ·have h3 := of_decide_eq_true h3
     have hnd : ¬ q1 ∣ rc := λhd => by
      have := (jL hgi.ne).1 hd;have : dg (rem rc q1) = 0 := by rw [this]; exact zu
      omega
     refine W.exit (hK2 _ ?_);clear hK2 hK9;have hnt : ((n * t : Nat) : Int) = (n : Int) * (t : Int) := Int.natCast_mul _ _;have hnt1 : n * t <= 13 * t := Nat.mul_le_mul_right _ (by omega);have hnt2 : 13 * t <= 3937376385699289 := by omega
     refine W.region (za _) (by rfl) ?_;conv=>whnf
     refine ⟨⟨by omega, by omega⟩, ?_⟩;conv=>whnf
     rw [e1];rw [<- hnt];refine ⟨by constructor <;> omega, ?_⟩;conv=>whnf
     refine xc rfl (zio p none H q1 (n * t) (by omega) (λx hx => by have := hH x hx; omega) (by omega)) ?_;rintro lo hi hi' z hl1 hl2 hl3 ⟨i, b, hi1, hi2, hi3, rfl⟩ _;try dsimp only at hl1 hl2
     conv=>whnf
     refine hK8 _ ?_;clear hK8;refine W.region (za _) (by rfl) ?_;conv=>whnf
     refine ⟨by constructor <;> omega, ?_⟩;conv=>whnf
     have hpl : (zL H i (q1, n * t)).length = H.length + 1 := zah hi1;refine ⟨_, _, ⟨k + 1, g2, rc, L ++ [(q1, n)], zL H i (q1, n * t), step n i rc he hnd hi1 hi2 hi3, by omega, rfl, λx hx => ?_, rfl⟩, by omega, by dsimp only; omega, ?_⟩
     ·rcases zaO.1 hx with rfl | hx
      ·show dg q1 <= 13
       omega
      ·exact hH x hx
     rw [hpl]
     repeat' first | refine And.intro ?_ ?_ | exact trivial | rfl | omega | exact .inl rfl | exact λ_ _ => rfl | exact λ_ _ h => h | assumption | exact λi hi => (by obtain rfl : i = 0 := (by omega); rfl)
    ·have h3 := of_decide_eq_false h3;have hrem : rem rc q1 = 0 := zc.1 (by omega)
     have hdiv : rc = quo rc q1 * q1 := by
      have h5 := vz rc q1;rw [hrem] at h5;have e : ∀ a : Poly p, a + 0 = a := λa => by exact zg [a] (by rfl)
      rw [e] at h5; exact h5
     have hq0 : quo rc q1 ≠ 0 := λe => hrc0 (by rw [hdiv, e]; exact zg [q1] (by rfl));have hdgq := yW hq0 hgi.ne;rw [<- hdiv] at hdgq;have hg2 := hgi.1;refine W.skip (hK9 _ ?_);clear hK9;refine W.rs (za _) (by rfl) λK hK => ?_;conv=>whnf
     refine hK _ ?_;clear hK;refine W.region (za _) (by rfl) ?_;conv=>whnf
     refine ⟨by constructor <;> omega, ?_⟩;conv=>whnf
     exact zp ⟨n + 1, none, quo rc q1, by rw [he, ze]; exact comb (q1 ^ n) hdiv (zg [rc, q1, quo rc q1, q1 ^ n] (by rfl)), rfl, rfl⟩
   ·obtain rfl : k = P.length := by omega
    have hrl := hpe.less hm hP s1 s4;refine W.exit (hK1 _ ?_);clear hK7 hK1;refine W.rs (za _) (by rfl) λK hK => ?_;conv=>whnf
    refine xc rfl (ih g1 r t H (by omega) (by omega) hpe.mon (by omega) hpu.srt (λx hx => ⟨hpu.apart (λx hx => (hG x hx).1) x hx, hH x hx⟩) (by omega)) ?_;rintro lo hi hi' z hl1 hl2 hl3 ⟨G', hG', rfl⟩ _;try dsimp only at hl1 hl2
    conv=>whnf
    refine hK _ (W.ret ?_);conv=>whnf
    exact ⟨.v (vFs G'), ⟨rfl, rfl, rfl, λ_ _ => rfl⟩, ⟨trivial, λ_ _ => ⟨trivial, trivial, trivial⟩⟩, G', hpu.fin hm hP s1 s6 hG', rfl⟩

theorem Fn.args {P : Program} {f : Nat} {xs ys : List V} {post : zfW} (h : Fn P f ys post) (hl : xs.length = ys.length)
  (hr : ∀ j, j < xs.length -> ∀ (D : Nat -> Prop) (n : Nat) (hp : Array Obj) (v : Value), Rep (okF D (λ_ => False) n) hp (xs.getD j .nil) v -> Rep (okF D (λ_ => False) n) hp (ys.getD j .nil) v) : Fn P f xs post :=
 ⟨h.1, λD w vs hD hs hv => h.2 D w vs hD (hs.trans hl) λj hj => hr j (by omega) _ _ _ _ (hv j (by omega))⟩
theorem Rep.vals0 {ok : OkB} {hp : Array Obj} {g g' : Option Nat} {sz : Nat} {f f' : Nat -> V} {v : Value} (h : Rep ok hp (.vals g sz 0 f) v) : Rep ok hp (.vals g' sz 0 f') v := by
 cases h with
 | vals _ _ _ _ a cap hc hm hl hf c hx hr => exact .vals g' sz 0 f' a cap hc hm (λi hi => by omega) (λi hi => by omega) c (λi j hi => by omega) (λi j hi => by omega)

theorem ziq (p : Int) [SP p] (g : Option Nat) (f : Poly p) (hf : dg f <= 13) (hf0 : f ≠ 0) : Fn Try.prog 13 [.int .i64 p, .ints g f.l] (λ_ _ z => ∃ F, jN f F ∧ z = .v (vFs F)) := by
 have hmd : dg (mnc f) <= dg f := zC (zS f).1 hf0;refine zm (za [0, 1, 4]) Try.func13 rfl (by decide) Try.ntmps13 (Nat.le_of_ble_eq_true rfl) λbase => ?_;refine W.rs (za _) (by rfl) λK hK => ?_;conv=>whnf
 refine hK _ ?_;clear hK;refine W.rs (za _) (by rfl) λK hK => ?_;conv=>whnf
 refine zB rfl (zba p g f (by omega)) λhs_1 b_1 hh_1 hf_1 => ?_;try dsimp only at hh_1 hf_1
 conv=>whnf
 refine ⟨⟨rfl, by decide, λx hx => by simp at hx⟩, ?_⟩;conv=>whnf
 intro b_2 hs_2 hh_2 hf_2;try dsimp only at hh_2 hf_2
 conv=>whnf
 refine xc rfl (Fn.args (ys := [.int .i64 p, .ints (some b_1) (mnc f).l, .int .i64 ((1 : Nat) : Int), .vals none 2 0 λj => vF ((([] : List (Poly p × Nat))).getD j (0, 0))]) (zam p 13 (some b_1) (mnc f) 1 [] (by omega) (Nat.le_refl _) (vo hf0) (by decide) List.Pairwise.nil (λx hx => by simp at hx) (by simp)) rfl λj hj D n hp v hv => ?_) ?_
 ·match j, hj with
  | 0, _ => exact hv
  | 1, _ => exact hv
  | 2, _ => exact hv
  | 3, _ => exact hv.vals0
 rintro lo hi hi' z hl1 hl2 hl3 ⟨F, hF, rfl⟩ _;try dsimp only at hl1 hl2
 conv=>whnf
 refine hK _ (W.ret ?_);conv=>whnf
 exact ⟨.v (vFs F), ⟨rfl, rfl, rfl, λ_ _ => rfl⟩, ⟨trivial, λ_ _ => ⟨trivial, trivial, trivial⟩⟩, F, ⟨hF.fac.1, λx => (hF.fac.2 x).trans (zdC hf0 x)⟩, rfl⟩


noncomputable def bP (P : Prop) : Bool := @decide P (Classical.propDecidable P)
theorem zes {P : Prop} : bP P = true ↔ P := @decide_eq_true_iff P (Classical.propDecidable P)
theorem jl {P : Prop} (h : P) : bP P = true := zes.2 h
theorem yM {P : Prop} (h : ¬ P) : bP P = false := by
 cases hb : bP P with
 | false => rfl
 | true => exact absurd (zes.1 hb) h
theorem zk7 {P : Prop} (h : bP P = false) : ¬ P := λhp => by rw [jl hp] at h; cases h
theorem zkz {P : Prop} [Decidable P] (h : (!(decide P)) = true) : ¬ P := λhp => by rw [decide_eq_true hp] at h; cases h
theorem zjW {P : Prop} [Decidable P] (h : (!(decide P)) = false) : P := Classical.byContradiction λhp => by rw [decide_eq_false hp] at h; cases h
theorem zet (g : Option Nat) (xs : List Int) (f : Nat) (caps : List V) (q : Nat -> Bool) (hl : xs.length <= 100000000) (hf : ∀ i, i < xs.length -> FnV f ([.int .i64 (cf xs i)] ++ caps) (.bool (q i))) :
  Fn Try.prog 69 [.ints g xs, .func f caps] (λ_ _ z => ∃ r : Int, z = .v (.int .i64 r) ∧ (0 <= r ↔ ∃ i, i < xs.length ∧ q i = true)) := by
 refine zm (za [0, 1, 4, 5, 7, 8, 9, 16]) Try.func69 rfl (by decide) Try.ntmps69 (Nat.le_of_ble_eq_true rfl) λbase => ?_;refine W.rs (za _) (by rfl) λK hK => ?_;conv=>whnf
 refine hK _ ?_;clear hK;refine W.seqK λK1 hK1 => W.rs (za _) (by rfl) λK hK => ?_;conv=>whnf
 refine hK _ (W.block (W.invA (λm e => ∃ i : Nat, i <= xs.length ∧ (∀ j, j < i -> q j = false) ∧ m = xs.length - i ∧ e = [(0, .v (.ints g xs)), (1, .v (.func f caps)), (7, .v (.int .i64 xs.length)), (8, .v (.int .i64 i))]) ⟨0, Nat.zero_le _, λj hj => by omega, rfl, rfl⟩ ?_));clear hK;rintro m e ⟨i, h1, h2, hm, rfl⟩;refine W.rs (za _) (by rfl) λK hK => ?_;conv=>whnf
 refine hK _ ?_;clear hK;refine W.seqK λK7 hK7 => W.cond ⟨λh => ?_, λh => ?_⟩ <;> (first | replace h := of_decide_eq_true h | replace h := of_decide_eq_false h)
 ·refine W.skip (hK7 _ ?_);clear hK7;refine W.seqK λK8 hK8 => W.block ?_;refine W.rs (za _) (by rfl) λK hK => ?_;conv=>whnf
  refine hK _ ?_;clear hK;refine W.rs (za _) (by rfl) λK hK => ?_;conv=>whnf
  refine ⟨⟨by omega, by omega⟩, ?_⟩;conv=>whnf
  rw [Int.toNat_natCast];refine zl rfl (hf i (by omega)) λhs' hhs => ?_;try dsimp only at hhs
  conv=>whnf
  refine hK _ (W.cond ⟨λh3 => ?_, λh3 => ?_⟩) <;> clear hK
  ·refine W.rs (za _) (by rfl) λK hK => ?_;conv=>whnf
   refine hK _ (W.ret ?_);conv=>whnf
   exact ⟨.v (.int .i64 i), ⟨rfl, rfl⟩, trivial, i, rfl, λ_ => ⟨i, by omega, h3⟩, λ_ => by omega⟩
  ·refine W.skip (hK8 _ ?_);clear hK8;refine W.region (za _) (by rfl) ?_;conv=>whnf
   refine ⟨by constructor <;> omega, ?_⟩;conv=>whnf
   have h4 : ∀ j, j < i + 1 -> q j = false := λj hj => by
    by_cases hji : j = i
    ·subst hji; exact h3
    ·exact h2 j (by omega)
   exact zp ⟨i + 1, by omega, h4, rfl, rfl⟩
 ·refine W.exit (hK1 _ ?_);clear hK7 hK1;refine W.rs (za _) (by rfl) λK hK => ?_;conv=>whnf
  refine hK _ (W.ret ?_);conv=>whnf
  refine ⟨.v (.int .i64 (-1)), ⟨rfl, rfl⟩, trivial, -1, rfl, λh => by omega, λ⟨j, hj, he⟩ => ?_⟩;rw [h2 j (by omega)] at he; cases he

theorem zbo (g : Option Nat) (xs : List Int) (f : Nat) (caps : List V) (q : Nat -> Bool) (hl : xs.length <= 100000000) (hf : ∀ i, i < xs.length -> FnV f ([.int .i64 (cf xs i)] ++ caps) (.bool (q i))) :
  FnV 43 [.ints g xs, .func f caps] (.bool (bP (∃ i, i < xs.length ∧ q i = true))) := by
 refine zm (za [0, 1, 4]) Try.func43 rfl (by decide) Try.ntmps43 (Nat.le_of_ble_eq_true rfl) λbase => ?_;refine W.rs (za _) (by rfl) λK hK => ?_;conv=>whnf
 refine hK _ ?_;clear hK;refine W.rs (za _) (by rfl) λK hK => ?_;conv=>whnf
 refine xc rfl (zet g xs f caps q hl hf) ?_;rintro lo hi hi' z h1 h2 h3 ⟨r, rfl, hr⟩ _;conv=>whnf
 refine hK _ (W.ret ?_);conv=>whnf
 exact ⟨.v (.bool (bP (∃ i, i < xs.length ∧ q i = true))), (by show decide _ = bP _; by_cases h : 0 <= r; (rw [jl (hr.1 h)]; exact decide_eq_true h); (rw [yM λh' => h (hr.2 h')]; exact decide_eq_false h)), trivial, rfl⟩

def zkA (a b : Int) (xs : List Int) : Prop := ∀ j, j < xs.length -> a <= cf xs j ∧ cf xs j <= b
def zlp (xs : List Int) : Prop := xs.length = 0 ∨ cf xs (xs.length - 1) ≠ 0
def y2 (p : Int) (xs : List Int) : Prop := isP p = true ∧ xs.length <= 9 ∧ zkA 0 (p - 1) xs ∧ zlp xs

theorem zhs {a b : Int} {xs : List Int} : (∃ i, i < xs.length ∧ (!(decide (a <= cf xs i ∧ cf xs i <= b))) = true) ↔ ¬ zkA a b xs := by
 constructor
 ·rintro ⟨i, hi, h⟩ hA;rw [decide_eq_true (hA i hi)] at h; cases h
 ·intro h;refine Classical.byContradiction λh' => h λj hj => ?_;refine Classical.byContradiction λh'' => h' ⟨j, hj, ?_⟩;rw [decide_eq_false h'']; rfl

theorem zir (g : Option Nat) (xs : List Int) (hl : xs.length <= 1000000000) : FnV 22 [.ints g xs] (.int .i64 ((xs.length : Int) - 1)) := by
 refine zm (za [0, 2]) Try.func22 rfl (by decide) Try.ntmps22 (Nat.le_of_ble_eq_true rfl) λbase => ?_;refine W.rs (za _) (by rfl) λK hK => ?_;conv=>whnf
 refine hK _ ?_;clear hK;refine W.rs (za _) (by rfl) λK hK => ?_;conv=>whnf
 refine zl rfl (zhr g xs) λhs' hhs => ?_;try dsimp only at hhs
 conv=>whnf
 refine ⟨by constructor <;> omega, ?_⟩;conv=>whnf
 refine hK _ (W.ret ?_);conv=>whnf
 exact ⟨.v (.int .i64 ((xs.length : Int) - 1)), ⟨rfl, rfl⟩, trivial, rfl⟩

theorem zkB (g : Option Nat) (p n : Int) (hp : 0 <= p ∧ p <= 97) : FnV 44 [.int .i64 n, .box g (.int .i64 p)] (.bool (!(decide (0 <= n ∧ n <= p - 1)))) := by
 refine zm (za [0, 1, 3]) Try.func44 rfl (by decide) Try.ntmps44 (Nat.le_of_ble_eq_true rfl) λbase => ?_;refine W.rs (za _) (by rfl) λK hK => ?_;conv=>whnf
 refine hK _ ?_;clear hK;refine W.rs (za _) (by rfl) λK hK => ?_;conv=>whnf
 refine ⟨by constructor <;> omega, ?_⟩;conv=>whnf
 refine zl rfl (zaP _ _ _) λhs' hhs => ?_;try dsimp only at hhs
 conv=>whnf
 refine hK _ (W.ret ?_);conv=>whnf
 exact ⟨.v (.bool (!(decide (0 <= n ∧ n <= p - 1)))), rfl, trivial, rfl⟩

theorem zjX {p : Int} (h : isP p = true) : 2 <= p ∧ p <= 97 := vT (of_decide_eq_true h)

theorem zeu (g : Option Nat) (p : Int) (xs : List Int) : FnV 21 [.int .i64 p, .ints g xs] (.bool (bP (y2 p xs))) := by
 refine zm (za [0, 1, 2, 4, 17]) Try.func21 rfl (by decide) Try.ntmps21 (Nat.le_of_ble_eq_true rfl) λbase => ?_;refine W.rs (za _) (by rfl) λK hK => ?_;conv=>whnf
 refine ⟨rfl, ?_⟩;conv=>whnf
 intro b_1 hs_1 hh_1 hf_1;try dsimp only at hh_1 hf_1
 conv=>whnf
 refine hK _ ?_;clear hK;refine W.seqK λK1 hK1 => ?_;refine W.rs (za _) (by rfl) λK hK => ?_;conv=>whnf
 refine zl rfl (zbl p) λhs' hhs => ?_;try dsimp only at hhs
 conv=>whnf
 refine ⟨λh => ?_, λh => ?_⟩ <;> conv=>whnf
 ·have h : isP p = false := by simpa using h
  refine hK _ (W.condT rfl ?_);clear hK;refine W.rs (za _) (by rfl) λK hK => ?_;conv=>whnf
  refine hK _ (W.ret ?_);conv=>whnf
  exact ⟨.v (.bool (bP (y2 p xs))), (by show bP _ = false; exact yM λhh => by rw [hh.1] at h; cases h), trivial, rfl⟩
 have h : isP p = true := by simpa using h
 have hp := zjX h;refine ⟨λh0 => ?_, λh0 => ?_⟩ <;> conv=>whnf
 ·have h0 := of_decide_eq_true h0;refine hK _ (W.condT rfl ?_);clear hK;refine W.rs (za _) (by rfl) λK hK => ?_;conv=>whnf
  refine hK _ (W.ret ?_);conv=>whnf
  exact ⟨.v (.bool (bP (y2 p xs))), (by show bP _ = false; exact yM λhh => by have := hh.2.1; omega), trivial, rfl⟩
 have h0 := of_decide_eq_false h0;refine zl rfl (zbo g xs 44 [.box none (.int .i64 p)] (λi => !(decide (0 <= cf xs i ∧ cf xs i <= p - 1))) (by omega) (λi hi => zkB _ p _ (by omega))) λhs' hhs => ?_;try dsimp only at hhs
 conv=>whnf
 refine hK _ (W.cond ⟨λh1 => ?_, λh1 => ?_⟩) <;> clear hK
 ·have h1 := zhs.1 (zes.1 h1);refine W.rs (za _) (by rfl) λK hK => ?_;conv=>whnf
  refine hK _ (W.ret ?_);conv=>whnf
  exact ⟨.v (.bool (bP (y2 p xs))), (by show bP _ = false; exact yM λhh => h1 hh.2.2.1), trivial, rfl⟩
 have h1 : zkA 0 (p - 1) xs := Classical.byContradiction λh' => zk7 h1 (zhs.2 h');refine W.skip (hK1 _ ?_);clear hK1;refine W.rs (za _) (by rfl) λK hK => ?_;conv=>whnf
 refine ⟨λh2 => ?_, λh2 => ?_⟩ <;> conv=>whnf
 ·have h2 := of_decide_eq_true h2;refine hK _ (W.ret ?_);conv=>whnf
  exact ⟨.v (.bool (bP (y2 p xs))), (by show bP _ = true; exact jl ⟨h, by omega, h1, .inl (by omega)⟩), trivial, rfl⟩
 ·have h2 := of_decide_eq_false h2;have e1 : ((xs.length : Int) - 1).toNat = xs.length - 1 := by omega
  refine ⟨⟨by omega, by omega⟩, ?_⟩;conv=>whnf
  refine ⟨⟨by omega, by omega⟩, ?_⟩;conv=>whnf
  rw [e1];refine hK _ (W.ret ?_);conv=>whnf
  exact ⟨.v (.bool (bP (y2 p xs))), (by show decide _ = bP _; by_cases h3 : cf xs (xs.length - 1) = 0; (rw [yM λhh => hh.2.2.2.elim (by omega) λh' => h' h3]; exact decide_eq_false λh' => h' h3); (rw [jl ⟨h, by omega, h1, .inr h3⟩]; exact decide_eq_true h3)), trivial, rfl⟩

noncomputable def yc (p : Int) (xs : List Int) : Int := bif bP (y2 p xs) then (if xs.length < 2 then 2 else 0) else 1

theorem ke (g : Option Nat) (p : Int) (xs : List Int) : FnV 14 [.int .i64 p, .ints g xs] (.int .i64 (yc p xs)) := by
 refine zm (za [0, 1, 4, 5, 10]) Try.func14 rfl (by decide) Try.ntmps14 (Nat.le_of_ble_eq_true rfl) λbase => ?_;refine W.rs (za _) (by rfl) λK hK => ?_;conv=>whnf
 refine hK _ ?_;clear hK;refine W.seqK λK1 hK1 => W.block ?_;refine W.rs (za _) (by rfl) λK hK => ?_;conv=>whnf
 refine zl rfl (zeu g p xs) λhs' hhs => ?_;try dsimp only at hhs
 conv=>whnf
 refine hK _ (W.cond ⟨λh => ?_, λh => ?_⟩) <;> clear hK
 ·have h : bP (y2 p xs) = false := by simpa using h
  refine W.rs (za _) (by rfl) λK hK => ?_;conv=>whnf
  refine hK _ (W.ret ?_);conv=>whnf
  exact ⟨.v (.int .i64 (yc p xs)), ⟨rfl, by unfold yc; rw [h]; rfl⟩, trivial, rfl⟩
 have h : bP (y2 p xs) = true := by simpa using h
 have hl := (zes.1 h).2.1;refine W.rs (za _) (by rfl) λK hK => ?_;conv=>whnf
 refine zl rfl (zir g xs (by omega)) λhs' hhs => ?_;try dsimp only at hhs
 conv=>whnf
 refine hK _ (W.cond ⟨λh1 => ?_, λh1 => ?_⟩) <;> clear hK
 ·have h1 := of_decide_eq_true h1;refine W.rs (za _) (by rfl) λK hK => ?_;conv=>whnf
  refine hK _ (W.ret ?_);conv=>whnf
  exact ⟨.v (.int .i64 (yc p xs)), ⟨rfl, by unfold yc; rw [h, if_pos (by omega)]; rfl⟩, trivial, rfl⟩
 have h1 := of_decide_eq_false h1;refine W.skip (hK1 _ ?_);clear hK1;refine W.rs (za _) (by rfl) λK hK => ?_;conv=>whnf
 refine hK _ (W.ret ?_);conv=>whnf
 exact ⟨.v (.int .i64 (yc p xs)), ⟨rfl, by unfold yc; rw [h, if_neg (by omega)]; rfl⟩, trivial, rfl⟩

theorem zis (g : Option Nat) (p : Int) (xs : List Int) (hl : xs.length <= 1000000000) : FnV 18 [.int .i64 p, .ints g xs] (.bool (bP (y2 p xs))) := by
 refine zm (za [0, 1, 4, 5, 13, 17, 27]) Try.func18 rfl (by decide) Try.ntmps18 (Nat.le_of_ble_eq_true rfl) λbase => ?_;refine W.rs (za _) (by rfl) λK hK => ?_;conv=>whnf
 refine hK _ ?_;clear hK;refine W.seqK λK0 hK0 => ?_;refine W.rs (za _) (by rfl) λK hK => ?_;conv=>whnf
 refine zl rfl (zfK p) λhs' hhs => ?_;try dsimp only at hhs
 conv=>whnf
 refine ⟨λh => ?_, λh => ?_⟩ <;> conv=>whnf
 ·have h : isP p = false := by simpa using h
  refine hK _ (W.condT rfl ?_);clear hK;refine W.rs (za _) (by rfl) λK hK => ?_;conv=>whnf
  refine hK _ (W.ret ?_);conv=>whnf
  exact ⟨.v (.bool (bP (y2 p xs))), (by show bP _ = false; exact yM λhh => by rw [hh.1] at h; cases h), trivial, rfl⟩
 have h : isP p = true := by simpa using h
 have hp := zjX h;refine hK _ (W.cond ⟨λh0 => ?_, λh0 => ?_⟩) <;> clear hK
 ·have h0 := of_decide_eq_true h0;refine W.rs (za _) (by rfl) λK hK => ?_;conv=>whnf
  refine hK _ (W.ret ?_);conv=>whnf
  exact ⟨.v (.bool (bP (y2 p xs))), (by show bP _ = false; exact yM λhh => by have := hh.2.1; omega), trivial, rfl⟩
 have h0 := of_decide_eq_false h0;refine W.skip (hK0 _ ?_);clear hK0;refine W.seqK λK1 hK1 => ?_;refine W.rs (za _) (by rfl) λK hK => ?_;conv=>whnf
 refine hK _ (W.block (W.invA (λm e => ∃ k : Nat, k <= xs.length ∧ (∀ j, j < k -> 0 <= cf xs j ∧ cf xs j <= p - 1) ∧ m = xs.length - k ∧ e = [(0, .v (.int .i64 p)), (1, .v (.ints g xs)), (5, .v (.int .i64 k))]) ⟨0, Nat.zero_le _, λj hj => by omega, rfl, rfl⟩ ?_));clear hK;rintro m e ⟨k, h1, h2, hm, rfl⟩;refine W.seqK λK7 hK7 => W.rs (za _) (by rfl) λK hK => ?_;conv=>whnf
 refine hK _ (W.cond ⟨λh3 => ?_, λh3 => ?_⟩) <;> clear hK <;> (first | replace h3 := of_decide_eq_true h3 | replace h3 := of_decide_eq_false h3)
 ·refine W.skip (hK7 _ ?_);clear hK7;refine W.seqK λK8 hK8 => W.block ?_;refine W.rs (za _) (by rfl) λK hK => ?_;conv=>whnf
  refine ⟨⟨by omega, by omega⟩, ?_⟩;conv=>whnf
  refine ⟨by constructor <;> omega, ?_⟩;conv=>whnf
  rw [Int.toNat_natCast];refine zl rfl (zfJ _ _ _) λhs' hhs => ?_;try dsimp only at hhs
  conv=>whnf
  refine hK _ (W.cond ⟨λh4 => ?_, λh4 => ?_⟩) <;> clear hK
  ·have h4 : ¬ (0 <= cf xs k ∧ cf xs k <= p - 1) := zkz h4;refine W.rs (za _) (by rfl) λK hK => ?_;conv=>whnf
   refine hK _ (W.ret ?_);conv=>whnf
   exact ⟨.v (.bool (bP (y2 p xs))), (by show bP _ = false; exact yM λhh => h4 (hh.2.2.1 k (by omega))), trivial, rfl⟩
  ·have h4 : 0 <= cf xs k ∧ cf xs k <= p - 1 := zjW h4;refine W.skip (hK8 _ ?_);clear hK8;refine W.region (za _) (by rfl) ?_;conv=>whnf
   refine ⟨by constructor <;> omega, ?_⟩;conv=>whnf
   exact zp ⟨k + 1, by omega, λj hj => by by_cases h9 : j = k; (subst h9; exact h4); exact h2 j (by omega), rfl, rfl⟩
 ·obtain rfl : k = xs.length := by omega
  refine W.exit (hK1 _ ?_);clear hK7 hK1;have h1 : zkA 0 (p - 1) xs := h2;refine W.rs (za _) (by rfl) λK hK => ?_;conv=>whnf
  refine ⟨λh2 => ?_, λh2 => ?_⟩ <;> conv=>whnf
  ·have h2 := of_decide_eq_true h2;refine hK _ (W.ret ?_);conv=>whnf
   exact ⟨.v (.bool (bP (y2 p xs))), (by show bP _ = true; exact jl ⟨h, by omega, h1, .inl (by omega)⟩), trivial, rfl⟩
  ·have h2 := of_decide_eq_false h2;have e1 : ((xs.length : Int) - 1).toNat = xs.length - 1 := by omega
   refine ⟨⟨by omega, by omega⟩, ?_⟩;conv=>whnf
   refine ⟨⟨by omega, by omega⟩, ?_⟩;conv=>whnf
   rw [e1];refine hK _ (W.ret ?_);conv=>whnf
   exact ⟨.v (.bool (bP (y2 p xs))), (by show decide _ = bP _; by_cases h3 : cf xs (xs.length - 1) = 0; (rw [yM λhh => hh.2.2.2.elim (by omega) λh' => h' h3]; exact decide_eq_false λh' => h' h3); (rw [jl ⟨h, by omega, h1, .inr h3⟩]; exact decide_eq_true h3)), trivial, rfl⟩

theorem zcP (g : Option Nat) (p : Int) (xs : List Int) (hl : xs.length <= 1000000000) : FnV 12 [.int .i64 p, .ints g xs] (.int .i64 (yc p xs)) := by
 refine zm (za [0, 1, 4, 8, 11]) Try.func12 rfl (by decide) Try.ntmps12 (Nat.le_of_ble_eq_true rfl) λbase => ?_;refine W.rs (za _) (by rfl) λK hK => ?_;conv=>whnf
 refine hK _ ?_;clear hK;refine W.seqK λK1 hK1 => ?_;refine W.rs (za _) (by rfl) λK hK => ?_;conv=>whnf
 refine zl rfl (zis g p xs hl) λhs' hhs => ?_;try dsimp only at hhs
 conv=>whnf
 refine hK _ (W.cond ⟨λh => ?_, λh => ?_⟩) <;> clear hK
 ·have h : bP (y2 p xs) = false := by simpa using h
  refine W.rs (za _) (by rfl) λK hK => ?_;conv=>whnf
  refine hK _ (W.ret ?_);conv=>whnf
  exact ⟨.v (.int .i64 (yc p xs)), ⟨rfl, by unfold yc; rw [h]; rfl⟩, trivial, rfl⟩
 have h : bP (y2 p xs) = true := by simpa using h
 refine W.skip (hK1 _ ?_);clear hK1;refine W.seqK λK1 hK1 => ?_;refine W.rs (za _) (by rfl) λK hK => ?_;conv=>whnf
 refine hK _ (W.cond ⟨λh1 => ?_, λh1 => ?_⟩) <;> clear hK
 ·have h1 := of_decide_eq_true h1;refine W.rs (za _) (by rfl) λK hK => ?_;conv=>whnf
  refine hK _ (W.ret ?_);conv=>whnf
  exact ⟨.v (.int .i64 (yc p xs)), ⟨rfl, by unfold yc; rw [h, if_pos (by omega)]; rfl⟩, trivial, rfl⟩
 have h1 := of_decide_eq_false h1;refine W.skip (hK1 _ ?_);clear hK1;refine W.rs (za _) (by rfl) λK hK => ?_;conv=>whnf
 refine hK _ (W.ret ?_);conv=>whnf
 exact ⟨.v (.int .i64 (yc p xs)), ⟨rfl, by unfold yc; rw [h, if_neg (by omega)]; rfl⟩, trivial, rfl⟩

theorem zit {p : Int} {xs : List Int} (h : yc p xs = 0) : y2 p xs ∧ 2 <= xs.length := by
 unfold yc at h
 by_cases h1 : y2 p xs
 ·rw [jl h1] at h
  by_cases h2 : xs.length < 2
  ·rw [if_pos h2] at h; cases h
  ·exact ⟨h1, by omega⟩
 ·rw [yM h1] at h; cases h
theorem zkC {p : Int} {xs : List Int} (h : y2 p xs) : ∃ hp : p ∈ xa, letI := zjn hp; ∃ f : Poly p, f.l = xs := by
 have hp : p ∈ xa := of_decide_eq_true h.1;refine ⟨hp, ?_⟩;letI := zjn hp;refine ⟨⟨xs, ⟨λx hx => ?_, λn hn => ?_⟩⟩, rfl⟩
 ·obtain ⟨i, hi, rfl⟩ := List.getElem_of_mem hx;have h1 := h.2.2.1 i hi;rw [vj hi] at h1; omega
 ·rcases h.2.2.2 with h0 | h0
  ·omega
  ·rw [hn] at h0; exact h0


theorem j3 (g : Option Nat) (xs : List Int) (hl : xs.length <= 1000000000) : FnI 5 [.ints g xs] xs := by
 refine zm (za [0, 2, 3, 4, 11]) Try.func5 rfl (by decide) Try.ntmps5 (Nat.le_of_ble_eq_true rfl) λbase => ?_;refine W.rs (za _) (by rfl) λK hK => ?_;conv=>whnf
 refine hK _ ?_;clear hK;refine W.rs (za _) (by rfl) λK hK => ?_;conv=>whnf
 refine ⟨rfl, ?_⟩;conv=>whnf
 refine ⟨⟨by omega, by omega⟩, ?_⟩;conv=>whnf
 rw [Int.toNat_natCast];intro b_1 hs_1 hh_1 hf_1;try dsimp only at hh_1 hf_1
 conv=>whnf
 refine hK _ ?_;clear hK;refine W.seqK λK1 hK1 => ?_;refine W.rs (za _) (by rfl) λK hK => ?_;conv=>whnf
 refine hK _ (W.block (W.invA (λm e => ∃ (k b : Nat) (o : List Int), k <= xs.length ∧ o.length = xs.length ∧ (∀ j, cf o j = if j < k then cf xs j else 0) ∧ m = xs.length - k ∧ e = [(0, .v (.ints g xs)), (3, .ownI 2 b o), (4, .v (.int .i64 k))]) ⟨0, b_1, List.replicate xs.length 0, Nat.zero_le _, by simp, λj => by rw [zF, if_neg (by omega)], rfl, rfl⟩ ?_));clear hK;rintro m e ⟨k, b, o, h1, h2, h3, hm, rfl⟩;refine W.seqK λK7 hK7 => W.rs (za _) (by rfl) λK hK => ?_;conv=>whnf
 refine hK _ (W.cond ⟨λh4 => ?_, λh4 => ?_⟩) <;> clear hK <;> (first | replace h4 := of_decide_eq_true h4 | replace h4 := of_decide_eq_false h4)
 ·refine W.skip (hK7 _ ?_);clear hK7;refine W.seqK λK8 hK8 => W.block ?_;refine W.region (za _) (by rfl) ?_;conv=>whnf
  refine ⟨⟨by omega, by omega⟩, ?_⟩;conv=>whnf
  refine ⟨⟨by omega, by omega⟩, ?_⟩;conv=>whnf
  rw [Int.toNat_natCast];refine hK8 _ ?_;clear hK8;refine W.region (za _) (by rfl) ?_;conv=>whnf
  refine ⟨by constructor <;> omega, ?_⟩;conv=>whnf
  exact zp ⟨k + 1, b, o.set k (cf xs k), by omega, by simpa using h2, λj => by rw [yb (by omega), h3]; by_cases hj : j = k; (subst hj; rw [if_pos rfl, if_pos (by omega)]); (rw [if_neg hj]; by_cases hj2 : j < k; (rw [if_pos hj2, if_pos (by omega)]); (rw [if_neg hj2, if_neg (by omega)])), rfl, rfl⟩
 ·obtain rfl : k = xs.length := by omega
  refine W.exit (hK1 _ ?_);clear hK7 hK1;obtain rfl : o = xs := zaa h2 λj hj => by rw [h3, if_pos (by omega)]
  refine W.sw (c' := cxr [0, 2, 3, 4, 11]) (W.rs (zjL _) (by rfl) λK hK => ?_);conv=>whnf
  refine hK _ (W.ret ?_);conv=>whnf
  exact ⟨.ownI 2 _ (o), ⟨rfl, rfl, rfl⟩, trivial, _, rfl⟩

theorem zbg (g g' : Option Nat) (xs : List Int) (hl : xs.length <= 1000000000) : FnV 8 [.ints g xs, .ints g' xs] .tr := by
 refine zm (za [0, 1, 4, 5, 10, 14, 25]) Try.func8 rfl (by decide) Try.ntmps8 (Nat.le_of_ble_eq_true rfl) λbase => ?_;refine W.rs (za _) (by rfl) λK hK => ?_;conv=>whnf
 refine hK _ ?_;clear hK;refine W.seqK λK1 hK1 => ?_;refine W.rs (za _) (by rfl) λK hK => ?_;conv=>whnf
 refine hK _ (W.cond ⟨λh => ?_, λh => ?_⟩) <;> clear hK
 ·exact absurd rfl (of_decide_eq_true h)
 refine W.skip (hK1 _ ?_);clear hK1;refine W.seqK λK1 hK1 => ?_;refine W.rs (za _) (by rfl) λK hK => ?_;conv=>whnf
 refine hK _ (W.block (W.invA (λm e => ∃ k : Nat, k <= xs.length ∧ m = xs.length - k ∧ e = [(0, .v (.ints g xs)), (1, .v (.ints g' xs)), (5, .v (.int .i64 k))]) ⟨0, Nat.zero_le _, rfl, rfl⟩ ?_));clear hK;rintro m e ⟨k, h1, hm, rfl⟩;refine W.seqK λK7 hK7 => W.rs (za _) (by rfl) λK hK => ?_;conv=>whnf
 refine hK _ (W.cond ⟨λh3 => ?_, λh3 => ?_⟩) <;> clear hK <;> (first | replace h3 := of_decide_eq_true h3 | replace h3 := of_decide_eq_false h3)
 ·refine W.skip (hK7 _ ?_);clear hK7;refine W.seqK λK8 hK8 => W.block ?_;refine W.rd (za _) follows (by rfl) λK hK => ?_;conv=>whnf
  refine ⟨⟨by omega, by omega⟩, ?_⟩;conv=>whnf
  refine ⟨⟨by omega, by omega⟩, ?_⟩;conv=>whnf
  refine hK _ (W.cond ⟨λh4 => ?_, λh4 => ?_⟩) <;> clear hK
  ·exact absurd rfl (of_decide_eq_true h4)
  ·refine W.skip (hK8 _ ?_);clear hK8;refine W.region (za _) (by rfl) ?_;conv=>whnf
   refine ⟨by constructor <;> omega, ?_⟩;conv=>whnf
   exact zp ⟨k + 1, by omega, rfl, rfl⟩
 ·obtain rfl : k = xs.length := by omega
  refine W.exit (hK1 _ ?_);clear hK7 hK1;refine W.rs (za _) (by rfl) λK hK => ?_;conv=>whnf
  refine hK _ (W.ret ?_);conv=>whnf
  exact ⟨.v (.tr), rfl, trivial, rfl⟩

def xf (k : Int) (n : Nat) : List Int := mkL n λi => k + i
theorem yE (k : Int) (n : Nat) : (xf k n).length = n := zT _ _
theorem zcQ (k : Int) (n j : Nat) : cf (xf k n) j = if j < n then k + j else 0 := y8 ..

theorem zfT (el b : Nat) (xs : List Int) (k : Nat) (hk : k <= 1000000000000) (hl : xs.length <= 1000000000) (tb : Tab) :
  MFn Try.prog 9 [.nil, .int .i64 k] 0 (.ownI el b xs) (.tab tb) (λ_ av x' t' => av = .v (.int .i64 ((k + xs.length : Nat) : Int)) ∧ x' = .ownI el b (xf k xs.length) ∧ t' = .tab tb) := by
 refine kv (cx := cx [0, 1, 4, 5, 9, 1000000, 1000001]) Try.func9 rfl (by decide) Try.ntmps9 (Nat.le_of_ble_eq_true rfl) (Nat.le_of_ble_eq_true rfl) rfl rfl λbase hs0 O U hw v0 hb0 => ?_;refine W.rs (za _) (by rfl) λK hK => ?_;conv=>whnf
 refine hK _ ?_;clear hK;refine W.seqK λK1 hK1 => ?_;refine W.rs (za _) (by rfl) λK hK => ?_;conv=>whnf
 refine hK _ ?_;clear hK;refine W.block (W.invH hs0 hb0 (λm e => ∃ (i : Nat) (o : List Int), i <= xs.length ∧ o.length = xs.length ∧ (∀ j, j < i -> cf o j = k + j) ∧ m = xs.length - i ∧ e = [(0, .ownI el b o), (1, .v (.int .i64 ((k + i : Nat) : Int))), (5, .v (.int .i64 i)), (vt, .tab tb), (vk, .keep O U hw 0 v0)]) _ _ ⟨0, xs, Nat.zero_le _, rfl, λj hj => by omega, rfl, rfl⟩ (by dsimp only; omega) (by repeat' first | refine And.intro ?_ ?_ | exact trivial | rfl | omega | exact λ_ _ h => h) ?_);rintro m e ⟨i, o, h1, h2, h3, hm, rfl⟩;refine W.seqK λK7 hK7 => W.rs (za _) (by rfl) λK hK => ?_;conv=>whnf
 refine hK _ (W.cond ⟨λh4 => ?_, λh4 => ?_⟩) <;> clear hK <;> (first | replace h4 := of_decide_eq_true h4 | replace h4 := of_decide_eq_false h4)
 ·refine W.skip (hK7 _ ?_);clear hK7;refine W.seqK λK8 hK8 => W.block ?_;refine W.rs (za _) (by rfl) λK hK => ?_;conv=>whnf
  refine ⟨⟨by omega, by omega⟩, ?_⟩;conv=>whnf
  rw [Int.toNat_natCast];refine hK _ ?_;clear hK;refine W.region (za _) (by rfl) ?_;conv=>whnf
  refine ⟨by constructor <;> omega, ?_⟩;conv=>whnf
  refine hK8 _ ?_;clear hK8;refine W.region (za _) (by rfl) ?_;conv=>whnf
  refine ⟨by constructor <;> omega, ?_⟩;conv=>whnf
  refine ⟨_, _, ⟨i + 1, o.set i ((k + i : Nat) : Int), by omega, by simpa using h2, λj hj => by rw [yb (by omega)]; by_cases h9 : j = i; (subst h9; rw [if_pos rfl]; omega); (rw [if_neg h9]; exact h3 j (by omega)), rfl, rfl⟩, by omega, by dsimp only; omega, ?_⟩
  repeat' first | refine And.intro ?_ ?_ | exact trivial | rfl | omega | exact λ_ _ h => h
 ·obtain rfl : i = xs.length := by omega
  refine W.exit (hK1 _ ?_);clear hK7 hK1;obtain rfl : o = xf k xs.length := zaa (by rw [h2, yE]) λj hj => by rw [zcQ, if_pos (by omega), h3 j (by omega)]
  refine W.rs (za _) (by rfl) λK hK => ?_;conv=>whnf
  refine hK _ (W.ret ?_);conv=>whnf
  refine ⟨by dsimp only; omega, ?_⟩;conv=>whnf
  exact ⟨rfl, .v (.int .i64 ((k + xs.length : Nat) : Int)), ⟨rfl, rfl⟩, rfl, trivial, .ownI el b (xf k xs.length), ⟨rfl, rfl, rfl⟩, .inr ⟨rfl, by show some _ = some _; rw [yE]⟩, .tab tb, λ_ _ h => h, rfl, rfl, rfl, rfl, rfl⟩

theorem ziu (b n : Nat) (k : Nat) (hk : k <= 1000000000000) (hl : n <= 1000000000) (tb : Tab) (hb : n ≠ 0 -> ∃ xs : List Int, xs.length = n ∧ tb b = some xs) :
  MFn Try.prog 9 [.nil, .int .i64 k] 0 (.v (.rf b n)) (.tab tb) (λ_ av x' t' => av = .v (.int .i64 ((k + n : Nat) : Int)) ∧ x' = .v (.rf b n) ∧ ∃ tb', t' = .tab tb' ∧ (n ≠ 0 -> tb' b = some (xf k n)) ∧ ∀ c, (n = 0 ∨ c ≠ b) -> tb' c = tb c) := by
 refine kv (cx := cx [0, 1, 4, 5, 9, 1000000, 1000001]) Try.func9 rfl (by decide) Try.ntmps9 (Nat.le_of_ble_eq_true rfl) (Nat.le_of_ble_eq_true rfl) rfl rfl λbase hs0 O U hw v0 hb0 => ?_;refine W.rs (za _) (by rfl) λK hK => ?_;conv=>whnf
 refine hK _ ?_;clear hK;refine W.seqK λK1 hK1 => ?_;refine W.rs (za _) (by rfl) λK hK => ?_;conv=>whnf
 refine hK _ ?_;clear hK;refine W.block (W.invH hs0 hb0 (λm e => ∃ (i : Nat) (tbi : Tab), i <= n ∧ (n ≠ 0 -> ∃ o : List Int, tbi b = some o ∧ o.length = n ∧ ∀ j, j < i -> cf o j = k + j) ∧ (∀ c, (n = 0 ∨ c ≠ b) -> tbi c = tb c) ∧ m = n - i ∧ e = [(0, .v (.rf b n)), (1, .v (.int .i64 ((k + i : Nat) : Int))), (5, .v (.int .i64 i)), (vt, .tab tbi), (vk, .keep O U hw 0 v0)]) _ _ ⟨0, tb, Nat.zero_le _, λh => by obtain ⟨o, h1, h2⟩ := hb h; exact ⟨o, h2, h1, λj hj => by omega⟩, λ_ _ => rfl, rfl, rfl⟩ (by dsimp only; omega) (by repeat' first | refine And.intro ?_ ?_ | exact trivial | rfl | omega | exact λ_ _ h => h) ?_);rintro m e ⟨i, tbi, h1, h2, h3, hm, rfl⟩;refine W.seqK λK7 hK7 => W.rs (za _) (by rfl) λK hK => ?_;conv=>whnf
 refine hK _ (W.cond ⟨λh4 => ?_, λh4 => ?_⟩) <;> clear hK <;> (first | replace h4 := of_decide_eq_true h4 | replace h4 := of_decide_eq_false h4)
 ·obtain ⟨o, h5, h6, h7⟩ := h2 (by omega);refine W.skip (hK7 _ ?_);clear hK7;refine W.seqK λK8 hK8 => W.block ?_;refine W.rs (za _) (by rfl) λK hK => ?_;conv=>whnf
  refine ⟨⟨by omega, by omega⟩, ?_⟩;conv=>whnf
  rw [Int.toNat_natCast];conv=>whnf
  refine ⟨o, h5, by omega, ?_⟩;conv=>whnf
  refine hK _ ?_;clear hK;refine W.region (za _) (by rfl) ?_;conv=>whnf
  refine ⟨by constructor <;> omega, ?_⟩;conv=>whnf
  refine hK8 _ ?_;clear hK8;refine W.region (za _) (by rfl) ?_;conv=>whnf
  refine ⟨by constructor <;> omega, ?_⟩;conv=>whnf
  refine ⟨_, _, ⟨i + 1, z2 tbi b (o.set i ((k + i : Nat) : Int)), by omega, λ_ => ⟨o.set i ((k + i : Nat) : Int), yn .., by simpa using h6, λj hj => by rw [yb (by omega)]; by_cases h9 : j = i; (subst h9; rw [if_pos rfl]; omega); (rw [if_neg h9]; exact h7 j (by omega))⟩, λc hc => (yH _ _ (hc.resolve_left (by omega))).trans (h3 c hc), rfl, rfl⟩, by omega, by dsimp only; omega, ?_⟩
  repeat' first | refine And.intro ?_ ?_ | exact trivial | rfl | omega | exact λ_ _ h => h
 ·obtain rfl : i = n := by omega
  refine W.exit (hK1 _ ?_);clear hK7 hK1;refine W.rs (za _) (by rfl) λK hK => ?_;conv=>whnf
  refine hK _ (W.ret ?_);conv=>whnf
  refine ⟨by dsimp only; omega, ?_⟩;conv=>whnf
  exact ⟨rfl, .v (.int .i64 ((k + i : Nat) : Int)), ⟨rfl, rfl⟩, rfl, trivial, .v (.rf b i), rfl, .inr ⟨rfl, rfl⟩, .tab tbi, λ_ _ h => h, rfl, rfl, rfl, rfl, tbi, rfl, λhn => by
   obtain ⟨o, h5, h6, h7⟩ := h2 hn;rw [h5];exact congrArg some (zaa (by rw [h6, yE]) λj hj => by rw [zcQ, if_pos (by omega), h7 j (by omega)]), h3⟩

theorem zkD (g : Option Nat) (k n : Nat) (hk : k <= 1000000000000) (hl : n <= 1000000000) : FnV 17 [.ints g (xf k n), .int .i64 k] (.int .i64 ((k + n : Nat) : Int)) := by
 have hml := yE k n;refine zm (za [0, 1, 4, 5, 9, 17]) Try.func17 rfl (by decide) Try.ntmps17 (Nat.le_of_ble_eq_true rfl) λbase => ?_;refine W.rs (za _) (by rfl) λK hK => ?_;conv=>whnf
 refine hK _ ?_;clear hK;refine W.seqK λK1 hK1 => ?_;refine W.rs (za _) (by rfl) λK hK => ?_;conv=>whnf
 refine hK _ (W.block (W.invA (λm e => ∃ i : Nat, i <= n ∧ m = n - i ∧ e = [(0, .v (.ints g (xf k n))), (1, .v (.int .i64 ((k + i : Nat) : Int))), (5, .v (.int .i64 i))]) ⟨0, Nat.zero_le _, rfl, rfl⟩ ?_));clear hK;rintro m e ⟨i, h1, hm, rfl⟩;refine W.seqK λK7 hK7 => ?_;refine W.rs (za _) (by rfl) λK hK => ?_;conv=>whnf
 rw [hml];refine hK _ (W.cond ⟨λh4 => ?_, λh4 => ?_⟩) <;> clear hK
 ·have h4 := of_decide_eq_true h4;have hcf : (xf k n).getD i 0 = ((k + i : Nat) : Int) := by have := zcQ k n i; rw [if_pos (by omega)] at this; rw [zkr, this]; omega
  refine W.skip (hK7 _ ?_);clear hK7;refine W.seqK λK8 hK8 => W.block ?_;refine W.seqK λK9 hK9 => ?_;refine W.rs (za _) (by rfl) λK hK => ?_;conv=>whnf
  refine ⟨⟨by omega, by omega⟩, ?_⟩;conv=>whnf
  rw [Int.toNat_natCast, hcf];refine hK _ (W.cond ⟨λh5 => ?_, λh5 => ?_⟩) <;> clear hK
  ·exact absurd rfl (of_decide_eq_true h5)
  refine W.skip (hK9 _ ?_);clear hK9;refine W.region (za _) (by rfl) ?_;conv=>whnf
  refine ⟨by constructor <;> omega, ?_⟩;conv=>whnf
  refine hK8 _ ?_;clear hK8;refine W.region (za _) (by rfl) ?_;conv=>whnf
  refine ⟨by constructor <;> omega, ?_⟩;conv=>whnf
  exact zp ⟨i + 1, by omega, rfl, rfl⟩
 ·have h4 := of_decide_eq_false h4;obtain rfl : i = n := by omega
  refine W.exit (hK1 _ ?_);clear hK7 hK1;refine W.rs (za _) (by rfl) λK hK => ?_;conv=>whnf
  refine hK _ (W.ret ?_);conv=>whnf
  exact ⟨.v (.int .i64 ((k + i : Nat) : Int)), ⟨rfl, rfl⟩, trivial, rfl⟩

/- fields -/
def szL (n : Nat) : Int := if (1048576 : Int) - n < 0 then -1 else 1048576 - n
open Go Go.RowKit Go.ChangeShapes Go.WideShapes Go.ChangeAt Go.Proofs Go.Proofs.Ytffhmebkkbfaeaa

theorem zjY {P : Program} {f : Nat} {xs : List V} {r : V} {w : World} {vs : Array Value} (h : Fn P f xs (λ_ _ a => a = .v r)) (hl : vs.size = xs.length)
  (hr : ∀ j, j < xs.length -> Rep (zfd w) w.heap (xs.getD j .nil) (vs.getD j undef)) :
  Calls P f vs w λe w' => ∃ v, e = .returned v ∧ Below w.heap.size w w' ∧ Rep (okR (λ_ => False) w'.heap.size) w'.heap r v := by
 refine (h.2 (λ_ => False) w vs (λ_ h => h.elim) hl hr).mono λe w' ⟨v, av, hi, h1, h2, h3, h4, h5⟩ => ?_;subst h3;obtain ⟨_, h6, _⟩ := h5;refine ⟨v, h1, h4, ?_⟩;exact Rep.mono h6 λg b hb => ⟨⟨hb.1, λh => h.elim, hb.2.2⟩, rfl⟩

theorem zkE {P : Program} {f : Nat} {xs : List V} {w : World} {vs : Array Value} (h : Fn P f xs (λ_ _ a => a = .v .tr)) (hl : vs.size = xs.length)
  (hr : ∀ j, j < xs.length -> Rep (zfd w) w.heap (xs.getD j .nil) (vs.getD j undef)) :
  Calls P f vs w λe w' => e = .returned (.bool true) ∧ Below w.heap.size w w' :=
 (zjY h hl hr).mono λe w' ⟨v, h1, h2, h3⟩ => by
  cases h3
  exact ⟨h1, h2⟩

theorem ownP : ownKnob Try.prog.godebug = none := by kernel_rfl
theorem zjZ : laidOutB Try.prog = true := by kernel_rfl
theorem zj0 : Try.prog.cellsOf 2 = 1 := by kernel_rfl

theorem zj1 {H : Type} {enc : TypeId × Value -> H} {W : World} : zfe enc Try.prog W 2 1 zkK := zh5 Try.underlying2
theorem ziv {H : Type} {enc : TypeId × Value -> H} {W : World} : zfe enc Try.prog W 22 1 zi6 := zgm Try.underlying22 Try.underlying2 zj0
open Go Go.RowKit Go.ChangeShapes Go.WideShapes Go.ChangeAt Go.Proofs Go.Proofs.Ytffhmebkkbfaeaa

def zlq : List Char := [104, 97, 114, 110, 101, 115, 115, 32, 97, 55, 55, 55, 56, 102, 97, 49, 51, 56, 57, 49, 51, 55, 101, 57, 50, 98, 98, 48, 100, 55, 99, 48, 51, 102, 56, 49, 53, 55, 54, 102, 52, 56, 100, 99, 51, 99, 49, 57, 99, 50, 57, 56, 49, 57, 55, 101, 102, 49, 54, 48, 57, 99, 49, 53, 50, 98, 99, 102, 97, 51, 56, 98, 32, 99, 117, 116, 32, 97, 116, 32, 108, 111, 111, 112, 46, 101, 120, 97, 109, 112, 108, 101, 47, 103, 48, 49, 48, 48, 48, 47, 108, 97, 119, 115, 46, 70, 110, 69, 120, 97, 99, 116, 70, 97, 99, 116, 111, 114, 77, 111, 100, 117, 108, 97, 114].map Char.ofNat
def zj2 : List Char := [99, 117, 116].map Char.ofNat
def zj3 : List (List Char) := [[97, 116], [108, 111, 111, 112, 46, 101, 120, 97, 109, 112, 108, 101, 47, 103, 48, 49, 48, 48, 48, 47, 108, 97, 119, 115, 46, 70, 110, 69, 120, 97, 99, 116, 70, 97, 99, 116, 111, 114, 77, 111, 100, 117, 108, 97, 114]].map λw => w.map Char.ofNat
theorem zlr : Try.checked.prog.initOrder = String.ofList zlq := by kernel_rfl
theorem zht : behindMainWord (wordsSigns Try.checked.prog.initOrder.toList) = zj2 :: zj3 := by rw [zlr, String.toList_ofList]; kernel_rfl
theorem zfU {P : Program} {c : List Char} {rest : List (List Char)} (h0 : behindMainWord (wordsSigns P.initOrder.toList) = c :: rest) (h1 : (stripLifts liftWords (c :: rest)) = ([], c :: rest)) (h2 : (c == "cut".toList) = true)
  (h3 : P.laysLater = false) (h4 : P.bearsReflect = false) (h5 : P.doorFits [] = true) : P.mayEnter = true := by
 unfold Program.mayEnter;rw [h0];have e : (some c == some "cut".toList) = true := h2
 refine (Bool.or_eq_true _ _).mpr (.inr ?_);rw [h1, h3, h4, h5];show ((some c == some "cut".toList) && _ && _ && _ && _) = true
 rw [e]
 rfl
theorem zj4 : stripLifts liftWords (zj2 :: zj3) = ([], zj2 :: zj3) := by kernel_rfl
theorem zk8 : Try.checked.prog.mayEnter = true := zfU zht zj4 (by kernel_rfl) (by kernel_rfl) (by kernel_rfl) (by kernel_rfl)
theorem zev {P : Program} {c : List Char} {rest : List (List Char)} (h0 : behindMainWord (wordsSigns P.initOrder.toList) = c :: rest) (h1 : stripLifts liftWords (c :: rest) = ([], c :: rest)) : P.headLifts = [] := by
 unfold Program.headLifts;rw [h0, h1];dsimp only
 split <;> rfl
theorem zc6 {P : Program} {c : List Char} {rest : List (List Char)} (h0 : behindMainWord (wordsSigns P.initOrder.toList) = c :: rest) (hh : P.headLifts = []) (h2 : (c == "carried".toList) = false) : P.liftsFinal = false := by
 have e : (some c == some "carried".toList) = false := h2
 unfold Program.liftsFinal;rw [h0, hh];show (((some c == some "carried".toList) && _) || _) = false
 rw [e]
 rfl
theorem zkF {P : Program} {c : List Char} {rest : List (List Char)} (h0 : behindMainWord (wordsSigns P.initOrder.toList) = c :: rest) (h1 : (c == "gc".toList) = false) (h2 : (c == "spec".toList) = false) (h3 : (c == "cut".toList) = true) : P.make = some .cut := by
 unfold Program.make;rw [h0];dsimp only
 rw [h1, h2, h3]
 rfl
theorem zls : Try.checked.prog.headLifts = [] := zev zht zj4
theorem zlt : Try.checked.prog.liftsFinal = false := zc6 zht zls (by kernel_rfl)
theorem zlu : Try.checked.prog.make = some .cut := zkF zht (by kernel_rfl) (by kernel_rfl) (by kernel_rfl)

end Go.Proofs.Ytffhmebkkbfaeaa
