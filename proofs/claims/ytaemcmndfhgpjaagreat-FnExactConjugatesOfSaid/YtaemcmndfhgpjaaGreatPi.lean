/- What the program's functions and the reference's return. No conditions. -/
import Derived.Test.YtaemcmndfhgpjaaGreatPh
import Derived.Test.YtaemcmndfhgpjaaGreatRows
namespace Go.Proofs.YtaemcmndfhgpjaaGreat
open Go Go.RowKit Go.Proofs Poly
set_option maxRecDepth 100000
set_option maxHeartbeats 8000000

noncomputable def code1 (p : Int) (l x : List Int) : Int := codeEl p l true 1 (fun _ => x)
theorem code1_eq (p : Int) (l x : List Int) : codeEl p l true 2 (two x x) = code1 p l x :=
 codeEl_congr ⟨fun h i hi => h 0 (by omega), fun h i hi => by match i, hi with | 0, _ => exact h 0 (by omega) | 1, _ => exact h 0 (by omega)⟩
theorem l17Code_one (p : Int) (g g1 g2 : Option Nat) (l x : List Int) (hl : l.length ≤ 1000000000) (hx : x.length ≤ 1000000000) : FnV 121 [vK p g l, .ints g1 x, .ints g2 x] (.int .i64 (code1 p l x)) :=
 (l17Code_fn p g g1 g2 l x x hl hx hx).mono (by rw [code1_eq])
theorem els1 (g1 : Option Nat) (x : List Int) : ∀ i, i < 1 → ∃ g', nth [.ints g1 x] i = .ints g' ((fun _ => x) i) := fun i hi => match i, hi with
 | 0, _ => ⟨g1, rfl⟩
theorem code1_ok {p : Int} {l x : List Int} (h : code1 p l x = 0) : IsFld p l ∧ Has p l x := by
 obtain ⟨h1, _, h2⟩ := codeEl_ok h
 exact ⟨h1, h2 0 (by omega)⟩
/- powers -/
theorem l17Power_fn (p : Int) [SP p] (g g1 : Option Nat) (f X : Poly p) (n : Nat) (hn : n ≤ 1000000000000) (hX : dg X ≤ 1000000) (hf : dg f ≤ 500) (hf0 : f ≠ 0) : FnV 111 [vK p g f.l, .ints g1 X.l, .int .i64 n] (.ints none (rem (X ^ n) f).l) := by
 refine fn_of (cx_ok [0, 1, 2, 3, 6]) Tryz.func111 rfl (by decide) Tryz.ntmps111 (Nat.le_of_ble_eq_true rfl) fun base => ?_
 refine W.rs (cx_ok _) (by rfl) fun K hK => ?_
 conv => whnf
 refine ⟨rfl, ?_⟩
 conv => whnf
 intro b_1 hs_1 hh_1 hf_1
 try dsimp only at hh_1 hf_1
 conv => whnf
 refine hK _ ?_
 clear hK K
 refine W.rs (cx_ok _) (by rfl) fun K hK => ?_
 conv => whnf
 refine callV rfl (l08Power_fn p g1 g X f n hn hX hf hf0) fun hs' hhs => ?_
 try dsimp only at hhs
 conv => whnf
 refine hK _ ?_
 clear hK K
 refine W.ret ?_
 conv => whnf
 exact ⟨.v (.ints none (rem (X ^ n) f).l), ⟨rfl, rfl⟩, trivial, rfl⟩
def R1 (l : List Int) : PostT := fun _ _ x tb => ∃ b : Nat, x = .rf b l.length ∧ (l ≠ [] → tb b = some l)
theorem kPower_T (p : Int) [SP p] (g g1 : Option Nat) (f X : Poly p) (n : Nat) (hn : n ≤ 1000000000000) (hX : dg X ≤ 1000000) (hf : dg f ≤ 500) (hf0 : f ≠ 0) : FnT Tryz.prog 114 [vK p g f.l, .ints g1 X.l, .int .i64 n] (R1 (rem (X ^ n) f).l) := by
 refine fnt_of (cxt_ok [] [0, 1, 2, 3, 6, 1000000]) Tryz.func114 rfl (by decide) Tryz.ntmps114 (Nat.le_of_ble_eq_true rfl) (fun base => ?_) (Nat.le_of_ble_eq_true rfl)
 refine W.rs (cxt_ok _ _) (by rfl) fun K hK => ?_
 conv => whnf
 refine ⟨rfl, ?_⟩
 conv => whnf
 intro b_1 hs_1 hh_1 hf_1
 try dsimp only at hh_1 hf_1
 conv => whnf
 refine hK _ ?_
 clear hK K
 refine W.sw (c' := cxt [181] [0, 1, 2, 3, 6, 1000000]) ?_
 refine W.rs (cxt_ok _ _) (by rfl) fun K hK => ?_
 conv => whnf
 refine ⟨_, cxT (powerBy_T p g1 g X f n hn hX hf hf0), fun lo_r hi_r hs_r x_r tn_r tb_r hl1_r hl2_r _ hp_r hf_r hn_r ho_r => ?_⟩
 try dsimp only at hl1_r hl2_r
 obtain ⟨br, rfl, hr⟩ := hp_r
 conv => whnf
 refine hK _ ?_
 clear hK K
 refine W.ret ?_
 conv => whnf
 exact ⟨.v (.rf br (rem (X ^ n) f).l.length), rfl, trivial, br, rfl, fun h => hn_r _ _ (hr h)⟩

theorem l17PowerP_fn (p : Int) [SP p] (g g1 : Option Nat) (f X : Poly p) (hX : dg X ≤ 1000000) (hf : dg f ≤ 500) (hf0 : f ≠ 0) : FnV 111 [vK p g f.l, .ints g1 X.l, .int .i64 p] (.ints none (rem (X ^ p.toNat) f).l) := by
 have hp := Pr.two (p := p)
 have hp2 := SP.le (p := p)
 have h := l17Power_fn p g g1 f X p.toNat (by omega) hX hf hf0
 rwa [Int.toNat_of_nonneg (by omega)] at h
theorem kPowerP_T (p : Int) [SP p] (g g1 : Option Nat) (f X : Poly p) (hX : dg X ≤ 1000000) (hf : dg f ≤ 500) (hf0 : f ≠ 0) : FnT Tryz.prog 114 [vK p g f.l, .ints g1 X.l, .int .i64 p] (R1 (rem (X ^ p.toNat) f).l) := by
 have hp := Pr.two (p := p)
 have hp2 := SP.le (p := p)
 have h := kPower_T p g g1 f X p.toNat (by omega) hX hf hf0
 rwa [Int.toNat_of_nonneg (by omega)] at h
theorem kFrob_T (p : Int) [SP p] (g g1 : Option Nat) (f X : Poly p) (hX : dg X ≤ 1000000) (hf : dg f ≤ 500) (hf0 : f ≠ 0) : FnT Tryz.prog 151 [vK p g f.l, .ints g1 X.l] (R1 (rem (X ^ p.toNat) f).l) := by
 refine fnt_of (cxt_ok [] [0, 1, 2, 4, 1000000]) Tryz.func151 rfl (by decide) Tryz.ntmps151 (Nat.le_of_ble_eq_true rfl) (fun base => ?_) (Nat.le_of_ble_eq_true rfl)
 refine W.rs (cxt_ok _ _) (by rfl) fun K hK => ?_
 conv => whnf
 refine ⟨rfl, ?_⟩
 conv => whnf
 intro b_1 hs_1 hh_1 hf_1
 try dsimp only at hh_1 hf_1
 conv => whnf
 refine hK _ ?_
 clear hK K
 refine W.sw (c' := cxt [114] [0, 1, 2, 4, 1000000]) ?_
 refine W.rs (cxt_ok _ _) (by rfl) fun K hK => ?_
 conv => whnf
 refine ⟨_, cxT (kPowerP_T p g g1 f X hX hf hf0), fun lo_r hi_r hs_r x_r tn_r tb_r hl1_r hl2_r _ hp_r hf_r hn_r ho_r => ?_⟩
 try dsimp only at hl1_r hl2_r
 obtain ⟨br, rfl, hr⟩ := hp_r
 conv => whnf
 refine hK _ ?_
 clear hK K
 refine W.ret ?_
 conv => whnf
 exact ⟨.v (.rf br (rem (X ^ p.toNat) f).l.length), rfl, trivial, br, rfl, fun h => hn_r _ _ (hr h)⟩
theorem constant_fn (g : Option Nat) (l : List Int) (hl : l.length ≤ 1000000000) : FnV 135 [.ints g l] (.int .i64 (cf l 0)) := by
 refine fn_of (cx_ok [0, 2, 5]) Tryz.func135 rfl (by decide) Tryz.ntmps135 (Nat.le_of_ble_eq_true rfl) fun base => ?_
 refine W.rs (cx_ok _) (by rfl) fun K hK => ?_
 conv => whnf
 refine hK _ ?_
 clear hK K
 refine W.seqK fun K1 hK1 => ?_
 refine W.rs (cx_ok _) (by rfl) fun K hK => ?_
 conv => whnf
 refine hK _ (W.cond ⟨fun h => ?_, fun h => ?_⟩) <;> clear hK K
 ·have h := of_decide_eq_true h
  obtain rfl : l = [] := List.eq_nil_of_length_eq_zero (by omega)
  refine W.rs (cx_ok _) (by rfl) fun K hK => ?_
  conv => whnf
  refine hK _ ?_
  clear hK K
  refine W.ret ?_
  conv => whnf
  exact ⟨.v (.int .i64 (cf [] 0)), ⟨rfl, rfl⟩, trivial, rfl⟩
 ·have h := of_decide_eq_false h
  refine W.skip (hK1 _ ?_)
  clear hK1 K1
  refine W.rs (cx_ok _) (by rfl) fun K hK => ?_
  conv => whnf
  refine ⟨⟨by omega, by omega⟩, ?_⟩
  conv => whnf
  refine hK _ ?_
  clear hK K
  refine W.ret ?_
  conv => whnf
  exact ⟨.v (.int .i64 (cf l 0)), ⟨rfl, rfl⟩, trivial, rfl⟩
theorem l18Constant_fn (g : Option Nat) (l : List Int) (hl : l.length ≤ 1000000000) : FnV 152 [.ints g l] (.int .i64 (cf l 0)) := by
 refine fn_of (cx_ok [0, 2, 5]) Tryz.func152 rfl (by decide) Tryz.ntmps152 (Nat.le_of_ble_eq_true rfl) fun base => ?_
 refine W.rs (cx_ok _) (by rfl) fun K hK => ?_
 conv => whnf
 refine hK _ ?_
 clear hK K
 refine W.seqK fun K1 hK1 => ?_
 refine W.rs (cx_ok _) (by rfl) fun K hK => ?_
 conv => whnf
 refine hK _ (W.cond ⟨fun h => ?_, fun h => ?_⟩) <;> clear hK K
 ·have h := of_decide_eq_true h
  obtain rfl : l = [] := List.eq_nil_of_length_eq_zero (by omega)
  refine W.rs (cx_ok _) (by rfl) fun K hK => ?_
  conv => whnf
  refine hK _ ?_
  clear hK K
  refine W.ret ?_
  conv => whnf
  exact ⟨.v (.int .i64 (cf [] 0)), ⟨rfl, rfl⟩, trivial, rfl⟩
 ·have h := of_decide_eq_false h
  refine W.skip (hK1 _ ?_)
  clear hK1 K1
  refine W.rs (cx_ok _) (by rfl) fun K hK => ?_
  conv => whnf
  refine ⟨⟨by omega, by omega⟩, ?_⟩
  conv => whnf
  refine hK _ ?_
  clear hK K
  refine W.ret ?_
  conv => whnf
  exact ⟨.v (.int .i64 (cf l 0)), ⟨rfl, rfl⟩, trivial, rfl⟩

open Go Go.RowKit Go.Proofs Poly
set_option maxRecDepth 100000
set_option maxHeartbeats 8000000

/- the program's begin: a field, an element, something more (a value b) -/
/- the reference's: $1 name $2 modulus $3 element $4 $5 their ghosts -/
/- c is not 0 -/
/- what becomes of c = 0 and something not right: code 2 -/

/- the value of a polynomial at an element -/
theorem add_con_l {p : Int} [SP p] (v : Poly p) (c : Int) : nrm p (trimZ (addL v.l [c])) = (v + con p c).l := by
 have h := sub_con_l v (-c)
 rw [Int.neg_neg] at h
 rw [h]; congr 1
 have h2 := con_sub (p := p) 0 c
 rw [con_zero, Int.zero_sub] at h2
 rw [← h2]; exact ring [v, con p c] (by rfl)
noncomputable def valN {p : Int} [SP p] (f F X : Poly p) : Nat → Poly p
 | 0 => 0
 | k + 1 => rem (valN f F X k * X) f + con p (cf F.l (dg F - 1 - k))
theorem valN_lt {p : Int} [SP p] {f F X : Poly p} (hf : f ≠ 0) (h2 : 2 ≤ dg f) : ∀ k, dg (valN f F X k) < dg f
 | 0 => by show dg (0 : Poly p) < _; rw [dg_zero]; omega
 | k + 1 => by
  have h3 := dg_add (rem (valN f F X k * X) f) (con p (cf F.l (dg F - 1 - k)))
  have h4 := rem_lt (valN f F X k * X) hf
  have h5 := con_dg (p := p) (cf F.l (dg F - 1 - k))
  show dg (rem (valN f F X k * X) f + con p (cf F.l (dg F - 1 - k))) < _; omega
theorem bd_one {p : Int} [SP p] (F : Poly p) (j : Nat) : Bd 2305843009213693951 [cf F.l j] := fun i => by
 have := cf_bd F j
 have := SP.le (p := p)
 cases i with
 | zero => rw [cf_cons_zero]; omega
 | succ i => rw [cf_cons_succ, cf_nil]; omega
theorem ev_bd {p : Int} [SP p] (A F : Poly p) (j : Nat) : Bd 4611686018427387904 (trimZ (addL A.l [cf F.l j])) := fun i => by
 rw [cf_trimZ, cf_addL]
 have h1 := cf_bd A i
 have h2 := bd_one F j i
 have := SP.le (p := p)
 omega
theorem ev_len {p : Int} [SP p] (A : Poly p) (c : Int) {n : Nat} (h : dg A ≤ n) : (trimZ (addL A.l [c])).length ≤ n + 1 := by
 have h1 := trimZ_length (addL A.l [c])
 unfold addL at *
 rw [mkL_length] at *
 have : A.l.length = dg A := rfl
 simp at h1 ⊢; omega

theorem l18Value_fn (p : Int) [SP p] (g g1 g2 : Option Nat) (f F X : Poly p) (hF : dg F ≤ 1000) (hX : dg X < dg f) (hf : dg f ≤ 500) (h2 : 2 ≤ dg f) (hf0 : f ≠ 0) : FnV 125 [vK p g f.l, .ints g1 F.l, .ints g2 X.l] (.ints none (valN f F X (dg F)).l) := by
 have hp := Pr.two (p := p)
 have hp2 := SP.le (p := p)
 have hFl : F.l.length = dg F := rfl
 have hE := valN_lt (F := F) (X := X) hf0 h2
 refine fn_of (cx_ok [0, 1, 2, 3, 6, 7, 8, 14]) Tryz.func125 rfl (by decide) Tryz.ntmps125 (Nat.le_of_ble_eq_true rfl) fun base => ?_
 refine W.rs (cx_ok _) (by rfl) fun K hK => ?_
 conv => whnf
 refine ⟨rfl, ?_⟩
 conv => whnf
 intro b_1 hs_1 hh_1 hf_1
 try dsimp only at hh_1 hf_1
 conv => whnf
 refine hK _ ?_
 clear hK K
 refine W.rs (cx_ok _) (by rfl) fun K hK => ?_
 conv => whnf
 refine ⟨⟨rfl, by decide⟩, ?_⟩
 conv => whnf
 intro b_2 hs_2 hh_2 hf_2
 try dsimp only at hh_2 hf_2
 conv => whnf
 refine hK _ ?_
 clear hK K
 refine W.seqK fun K1 hK1 => ?_
 refine W.rs (cx_ok _) (by rfl) fun K hK => ?_
 conv => whnf
 rw [hFl]
 refine ⟨by constructor <;> omega, ?_⟩
 conv => whnf
 refine hK _ (W.block (W.invA (fun m e => ∃ (k : Nat) (s : List Int), k ≤ dg F ∧ s = (valN f F X k).l ∧ m = dg F - k ∧ e = [(1, .v (.ints g1 F.l)), (2, .v (.ints g2 X.l)), (3, .ownB b_1 (vK p g f.l)), (7, .v (.ints none s)), (8, .v (.int .i64 ((dg F : Int) - 1 - k)))]) ⟨0, [], Nat.zero_le _, zero_l.symm, rfl, by congr 4 <;> omega⟩ ?_))
 clear hK K
 rintro m e ⟨k, s, hk, rfl, hm, rfl⟩
 have hEk := hE k
 have hR := rem_lt (valN f F X k * X) hf0
 refine W.seqK fun K7 hK7 => W.rs (cx_ok _) (by rfl) fun K hK => ?_
 conv => whnf
 refine hK _ (W.cond ⟨fun h => ?_, fun h => ?_⟩) <;> clear hK K <;> (first | replace h := of_decide_eq_true h | replace h := of_decide_eq_false h)
 ·have e1 : ((dg F : Int) - 1 - k).toNat = dg F - 1 - k := by omega
  have hEl := ev_len (rem (valN f F X k * X) f) (cf F.l (dg F - 1 - k)) (n := 500) (by omega)
  have hEb := ev_bd (rem (valN f F X k * X) f) F (dg F - 1 - k)
  have hRl : (rem (valN f F X k * X) f).l.length = dg (rem (valN f F X k * X) f) := rfl
  refine W.skip (hK7 _ ?_)
  clear hK7 K7
  refine W.seqK fun K8 hK8 => W.block ?_
  refine W.draw (cx_ok _) follows (by rfl) ?_
  conv => whnf
  refine ⟨_, cxF (l17Multiply_fn p g none g2 f (valN f F X k) X (by omega) (by omega) (by omega) hf0), ?_⟩
  conv => whnf
  refine ⟨⟨by omega, by omega⟩, ?_⟩
  conv => whnf
  rw [e1]
  refine ⟨⟨rfl, by decide⟩, ?_⟩
  conv => whnf
  refine ⟨_, cxF ((l06Add_fn none none (rem (valN f F X k * X) f).l [cf F.l (dg F - 1 - k)] 1 (by omega) (l_bd2 _) (bd_one F _) (by omega) (by simp)).toV), ?_⟩
  conv => whnf
  rw [smul_one]
  refine ⟨_, cxF ((l08Reduce_fn p (by omega) (by omega) none _ hEb (by omega)).toV), ?_⟩
  conv => whnf
  rw [add_con_l]
  refine hK8 _ ?_
  clear hK8 K8
  refine W.region (cx_ok _) (by rfl) ?_
  conv => whnf
  refine ⟨by constructor <;> omega, ?_⟩
  conv => whnf
  exact againA ⟨k + 1, _, by omega, rfl, rfl, by congr 4 <;> omega⟩
 ·obtain rfl : k = dg F := by omega
  refine W.exit (hK1 _ ?_)
  clear hK7 K7 hK1 K1
  refine W.rs (cx_ok _) (by rfl) fun K hK => ?_
  conv => whnf
  refine hK _ ?_
  clear hK K
  refine W.ret ?_
  conv => whnf
  exact ⟨.v (.ints none (valN f F X (dg F)).l), ⟨rfl, rfl⟩, trivial, rfl⟩

open Go Go.RowKit Go.Proofs Poly
set_option maxRecDepth 100000
set_option maxHeartbeats 8000000

theorem kValue_T (p : Int) [SP p] (g g1 g2 : Option Nat) (f F X : Poly p) (hF : dg F ≤ 1000) (hX : dg X < dg f) (hf : dg f ≤ 500) (h2 : 2 ≤ dg f) (hf0 : f ≠ 0) : FnT Tryz.prog 129 [vK p g f.l, .ints g1 F.l, .ints g2 X.l] (R1 (valN f F X (dg F)).l) := by
 have hp := Pr.two (p := p)
 have hp2 := SP.le (p := p)
 have hFl : F.l.length = dg F := rfl
 have hE := valN_lt (F := F) (X := X) hf0 h2
 refine fnt_of (cxt_ok [] [0, 1, 2, 3, 6, 7, 8, 13, 1000000]) Tryz.func129 rfl (by decide) Tryz.ntmps129 (Nat.le_of_ble_eq_true rfl) (fun base => ?_) (Nat.le_of_ble_eq_true rfl)
 refine W.rs (cxt_ok _ _) (by rfl) fun K hK => ?_
 conv => whnf
 refine ⟨rfl, ?_⟩
 conv => whnf
 intro b_1 hs_1 hh_1 hf_1
 try dsimp only at hh_1 hf_1
 conv => whnf
 refine hK _ ?_
 clear hK K
 refine W.rs (cxt_ok _ _) (by rfl) fun K hK => ?_
 conv => whnf
 refine hK _ ?_
 clear hK K
 refine W.seqK fun K1 hK1 => ?_
 refine W.rs (cxt_ok _ _) (by rfl) fun K hK => ?_
 conv => whnf
 rw [hFl]
 refine ⟨by constructor <;> omega, ?_⟩
 conv => whnf
 refine hK _ (W.block (W.invA (fun m e => ∃ (k b : Nat) (tb : Tab) (s : List Int), k ≤ dg F ∧ s = (valN f F X k).l ∧ m = dg F - k ∧ e = [(vt, .tab tb), (1, .v (.ints g1 F.l)), (2, .v (.ints g2 X.l)), (3, .ownB b_1 (vK p g f.l)), (7, .ownI 2 b s), (8, .v (.int .i64 ((dg F : Int) - 1 - k)))]) ⟨0, 0, _, [], Nat.zero_le _, zero_l.symm, rfl, by congr 5 <;> omega⟩ ?_))
 clear hK K
 rintro m e ⟨k, b, tb, s, hk, rfl, hm, rfl⟩
 have hEk := hE k
 have hR := rem_lt (valN f F X k * X) hf0
 refine W.seqK fun K7 hK7 => W.rs (cxt_ok _ _) (by rfl) fun K hK => ?_
 conv => whnf
 refine hK _ (W.cond ⟨fun h => ?_, fun h => ?_⟩) <;> clear hK K <;> (first | replace h := of_decide_eq_true h | replace h := of_decide_eq_false h)
 ·have e1 : ((dg F : Int) - 1 - k).toNat = dg F - 1 - k := by omega
  have hEl := ev_len (rem (valN f F X k * X) f) (cf F.l (dg F - 1 - k)) (n := 500) (by omega)
  have hEb := ev_bd (rem (valN f F X k * X) f) F (dg F - 1 - k)
  have hRl : (rem (valN f F X k * X) f).l.length = dg (rem (valN f F X k * X) f) := rfl
  refine W.skip (hK7 _ ?_)
  clear hK7 K7
  refine W.seqK fun K8 hK8 => W.block ?_
  refine W.drawS 12 (cxt_ok _ _) follows (by rfl) ?_
  conv => whnf
  refine ⟨_, cxtF (kTimes_fn p g (some b) g2 f (valN f F X k) X (by omega) (by omega) (by omega) hf0), ?_⟩
  conv => whnf
  refine ⟨⟨by omega, by omega⟩, ?_⟩
  conv => whnf
  rw [e1]
  refine ⟨⟨rfl, by decide⟩, ?_⟩
  conv => whnf
  refine ⟨_, cxtF ((sumOf_fn none none (rem (valN f F X k * X) f).l [cf F.l (dg F - 1 - k)] (l_bd2 _) (bd_one F _) (by omega) (by simp)).toV), ?_⟩
  conv => whnf
  refine callI rfl (reduce_fn p (by omega) (by omega) none _ hEb (by omega)) fun hs_3 b_3 hh_3 hf_3 => ?_
  try dsimp only at hh_3 hf_3
  conv => whnf
  rw [add_con_l]
  refine hK8 _ ?_
  clear hK8 K8
  refine W.region (cxt_ok _ _) (by rfl) ?_
  conv => whnf
  refine ⟨by constructor <;> omega, ?_⟩
  conv => whnf
  exact againA ⟨k + 1, b_3, tb, _, by omega, rfl, rfl, by congr 5 <;> omega⟩
 ·obtain rfl : k = dg F := by omega
  refine W.exit (hK1 _ ?_)
  clear hK7 K7 hK1 K1
  refine W.give 7 fun K hK => ?_
  conv => whnf
  refine hK _ ?_
  clear hK K
  refine W.rs (cxt_ok _ _) (by rfl) fun K hK => ?_
  conv => whnf
  refine hK _ ?_
  clear hK K
  refine W.ret ?_
  conv => whnf
  exact ⟨.v (.rf b _), rfl, trivial, b, rfl, fun hne => tbAdd_self _ _ hne⟩

theorem l17With_fn (p : Int) (g : Option Nat) (l : List Int) (n : Nat) (hp : 2 ≤ p) (hn : n ≤ 1000000000) : FnV 102 [vK p g l, .int .i64 n] (.ints none (dig p.toNat n)) := by
 obtain ⟨q, rfl⟩ : ∃ q : Nat, p = q := ⟨p.toNat, by omega⟩
 rw [Int.toNat_natCast]
 have hp : 2 ≤ q := by omega
 refine fn_of (cx_ok [0, 1, 2, 4, 5, 8]) Tryz.func102 rfl (by decide) Tryz.ntmps102 (Nat.le_of_ble_eq_true rfl) fun base => ?_
 refine W.rs (cx_ok _) (by rfl) fun K hK => ?_
 conv => whnf
 refine ⟨rfl, ?_⟩
 conv => whnf
 intro b_1 hs_1 hh_1 hf_1
 try dsimp only at hh_1 hf_1
 conv => whnf
 refine hK _ ?_
 clear hK K
 refine W.rs (cx_ok _) (by rfl) fun K hK => ?_
 conv => whnf
 refine ⟨⟨rfl, by decide⟩, ?_⟩
 conv => whnf
 intro b_2 hs_2 hh_2 hf_2
 try dsimp only at hh_2 hf_2
 conv => whnf
 refine hK _ ?_
 clear hK K
 refine W.seqK fun K1 hK1 => W.block (W.invA (fun m e => ∃ (k b : Nat) (o : List Int), k ≤ n ∧ o ++ dig q k = dig q n ∧ o.length + k ≤ n ∧ m = k ∧ e = [(1, .v (.int .i64 k)), (2, .ownB b_1 (vK q g l)), (5, .ownI 2 b o)]) ⟨n, b_2, [], Nat.le_refl _, rfl, by simp, rfl, rfl⟩ ?_)
 rintro m e ⟨k, b, o, hk, ho, hol, hm, rfl⟩
 refine W.seqK fun K7 hK7 => W.rs (cx_ok _) (by rfl) fun K hK => ?_
 conv => whnf
 refine hK _ (W.cond ⟨fun h => ?_, fun h => ?_⟩) <;> clear hK K <;> (first | replace h := of_decide_eq_true h | replace h := of_decide_eq_false h)
 ·have h1 := dig_pos hp (n := k) (by omega)
  have h2 : k / q < k := Nat.div_lt_self (by omega) hp
  have h3 : ((k : Int)).tmod q = ((k % q : Nat) : Int) := tmod_nat k q
  have h4 : ((k : Int)).tdiv q = ((k / q : Nat) : Int) := tdiv_nat k q
  generalize k / q = v at h1 h2 h4
  generalize k % q = u at h1 h3
  refine W.skip (hK7 _ ?_)
  clear hK7 K7
  refine W.seqK fun K8 hK8 => W.block ?_
  refine W.region (cx_ok _) (by rfl) ?_
  conv => whnf
  refine ⟨by omega, ?_⟩
  conv => whnf
  rw [h3]
  refine ⟨⟨rfl, by decide⟩, ?_⟩
  conv => whnf
  intro b_1 hs_1 hh_1 hf_1
  try dsimp only at hh_1 hf_1
  conv => whnf
  refine ⟨by dsimp only [List.length]; omega, ?_⟩
  conv => whnf
  intro b_2 hs_2 hh_2 hf_2
  try dsimp only at hh_2 hf_2
  conv => whnf
  refine hK8 _ ?_
  clear hK8 K8
  refine W.region (cx_ok _) (by rfl) ?_
  conv => whnf
  rw [h4]
  refine ⟨by omega, ?_⟩
  conv => whnf
  refine ⟨by constructor <;> omega, ?_⟩
  conv => whnf
  exact againA ⟨v, b_2, o ++ [(u : Int)], by omega, by rw [← ho, h1, List.append_assoc]; rfl, by rw [List.length_append]; dsimp only [List.length]; omega, rfl, rfl⟩
 ·obtain rfl : k = 0 := by omega
  rw [dig_zero, List.append_nil] at ho
  subst ho
  refine W.exit (hK1 _ ?_)
  clear hK7 K7 hK1 K1
  refine W.rs (cx_ok _) (by rfl) fun K hK => ?_
  conv => whnf
  refine hK _ ?_
  clear hK K
  refine W.ret ?_
  conv => whnf
  exact ⟨.v (.ints none (dig q n)), ⟨rfl, rfl⟩, trivial, rfl⟩

open Go Go.RowKit Go.Proofs Poly
set_option maxRecDepth 100000
set_option maxHeartbeats 8000000

open Go Go.RowKit Go.Proofs Poly
set_option maxRecDepth 100000
set_option maxHeartbeats 8000000

theorem fld_q {p : Int} [SP p] {f : Poly p} (hk : IsFld p f.l) {d : Nat} (hd : dg f = d + 1) : (p ^ (f.l.length - 1) : Int) = ((p.toNat ^ d : Nat) : Int) ∧ p.toNat ^ d ≤ 20000 ∧ 2 ≤ p.toNat ^ d := by
 have h2 := Pr.two (p := p)
 have h1 : f.l.length - 1 = d := by have : f.l.length = dg f := rfl; omega
 have h3 : (p ^ (f.l.length - 1) : Int) = ((p.toNat ^ d : Nat) : Int) := by rw [h1, Int.natCast_pow, Int.toNat_of_nonneg (by omega)]
 have h4 := hk.ord
 have h5 := hk.two
 have h6 : p.toNat ^ 1 ≤ p.toNat ^ d := Nat.pow_le_pow_right (by omega) (by omega)
 rw [Nat.pow_one] at h6
 exact ⟨h3, by omega, by omega⟩
open Go Go.RowKit Go.Proofs Poly
set_option maxRecDepth 100000
set_option maxHeartbeats 8000000

theorem same_fn (g g' : Option Nat) (xs ys : List Int) (hl : xs.length ≤ 1000000000) : FnV 110 [.ints g xs, .ints g' ys] (.bool (decide (xs = ys))) := by
 refine fn_of (cx_ok [0, 1, 4, 5, 10, 14, 25]) Tryz.func110 rfl (by decide) Tryz.ntmps110 (Nat.le_of_ble_eq_true rfl) fun base => ?_
 refine W.rs (cx_ok _) (by rfl) fun K hK => ?_
 conv => whnf
 refine hK _ ?_
 clear hK K
 refine W.seqK fun K1 hK1 => ?_
 refine W.rs (cx_ok _) (by rfl) fun K hK => ?_
 conv => whnf
 refine hK _ (W.cond ⟨fun h => ?_, fun h => ?_⟩) <;> clear hK K
 ·have h := of_decide_eq_true h
  refine W.rs (cx_ok _) (by rfl) fun K hK => ?_
  conv => whnf
  refine hK _ ?_
  clear hK K
  refine W.ret ?_
  conv => whnf
  exact ⟨.v (.bool (decide (xs = ys))), (by show decide _ = false; exact decide_eq_false fun e => h (by rw [e])), trivial, rfl⟩
 have h := of_decide_eq_false h
 have hlen : xs.length = ys.length := by omega
 refine W.skip (hK1 _ ?_)
 clear hK1 K1
 refine W.seqK fun K1 hK1 => ?_
 refine W.rs (cx_ok _) (by rfl) fun K hK => ?_
 conv => whnf
 refine hK _ (W.block (W.invA (fun m e => ∃ k : Nat, k ≤ xs.length ∧ (∀ j, j < k → cf xs j = cf ys j) ∧ m = xs.length - k ∧ e = [(0, .v (.ints g xs)), (1, .v (.ints g' ys)), (5, .v (.int .i64 k))]) ⟨0, Nat.zero_le _, fun j hj => by omega, rfl, rfl⟩ ?_))
 clear hK K
 rintro m e ⟨k, h1, h2, hm, rfl⟩
 refine W.seqK fun K7 hK7 => W.rs (cx_ok _) (by rfl) fun K hK => ?_
 conv => whnf
 refine hK _ (W.cond ⟨fun h3 => ?_, fun h3 => ?_⟩) <;> clear hK K <;> (first | replace h3 := of_decide_eq_true h3 | replace h3 := of_decide_eq_false h3)
 ·refine W.skip (hK7 _ ?_)
  clear hK7 K7
  refine W.seqK fun K8 hK8 => W.block ?_
  refine W.rd (cx_ok _) follows (by rfl) fun K hK => ?_
  conv => whnf
  refine ⟨⟨by omega, by omega⟩, ?_⟩
  conv => whnf
  refine ⟨⟨by omega, by omega⟩, ?_⟩
  conv => whnf
  rw [Int.toNat_natCast]
  refine hK _ (W.cond ⟨fun h4 => ?_, fun h4 => ?_⟩) <;> clear hK K
  ·have h4 : cf xs k ≠ cf ys k := of_decide_eq_true h4
   refine W.rs (cx_ok _) (by rfl) fun K hK => ?_
   conv => whnf
   refine hK _ ?_
   clear hK K
   refine W.ret ?_
   conv => whnf
   exact ⟨.v (.bool (decide (xs = ys))), (by show decide _ = false; exact decide_eq_false fun e => h4 (by rw [e])), trivial, rfl⟩
  ·have h4 : ¬ cf xs k ≠ cf ys k := of_decide_eq_false h4
   refine W.skip (hK8 _ ?_)
   clear hK8 K8
   refine W.region (cx_ok _) (by rfl) ?_
   conv => whnf
   refine ⟨by constructor <;> omega, ?_⟩
   conv => whnf
   exact againA ⟨k + 1, by omega, fun j hj => by by_cases h9 : j = k; (subst h9; exact Classical.byContradiction h4); exact h2 j (by omega), rfl, rfl⟩
 ·obtain rfl : k = xs.length := by omega
  refine W.exit (hK1 _ ?_)
  clear hK7 K7 hK1 K1
  obtain rfl : xs = ys := list_ext hlen fun j hj => h2 j hj
  refine W.rs (cx_ok _) (by rfl) fun K hK => ?_
  conv => whnf
  refine hK _ ?_
  clear hK K
  refine W.ret ?_
  conv => whnf
  exact ⟨.v (.bool (decide (xs = xs))), (by show decide _ = true; exact decide_eq_true rfl), trivial, rfl⟩

theorem equal_fn (g g' : Option Nat) (xs ys : List Int) (hl : xs.length ≤ 1000000000) : FnV 113 [.ints g xs, .ints g' ys] (.bool (decide (xs = ys))) := by
 refine fn_of (cx_ok [0, 1, 4, 5, 10, 12, 13, 14, 24]) Tryz.func113 rfl (by decide) Tryz.ntmps113 (Nat.le_of_ble_eq_true rfl) fun base => ?_
 refine W.rs (cx_ok _) (by rfl) fun K hK => ?_
 conv => whnf
 refine hK _ ?_
 clear hK K
 refine W.seqK fun K1 hK1 => ?_
 refine W.rs (cx_ok _) (by rfl) fun K hK => ?_
 conv => whnf
 refine hK _ (W.cond ⟨fun h => ?_, fun h => ?_⟩) <;> clear hK K
 ·have h := of_decide_eq_true h
  refine W.rs (cx_ok _) (by rfl) fun K hK => ?_
  conv => whnf
  refine hK _ ?_
  clear hK K
  refine W.ret ?_
  conv => whnf
  exact ⟨.v (.bool (decide (xs = ys))), (by show decide _ = false; exact decide_eq_false fun e => h (by rw [e])), trivial, rfl⟩
 have h := of_decide_eq_false h
 have hlen : xs.length = ys.length := by omega
 refine W.skip (hK1 _ ?_)
 clear hK1 K1
 refine W.seqK fun K1 hK1 => ?_
 refine W.rs (cx_ok _) (by rfl) fun K hK => ?_
 conv => whnf
 refine hK _ (W.block (W.invA (fun m e => ∃ k : Nat, k ≤ xs.length ∧ (∀ j, j < k → cf xs j = cf ys j) ∧ m = xs.length - k ∧ e = [(0, .v (.ints g xs)), (1, .v (.ints g' ys)), (12, .v (.int .i64 xs.length)), (13, .v (.int .i64 k))]) ⟨0, Nat.zero_le _, fun j hj => by omega, rfl, rfl⟩ ?_))
 clear hK K
 rintro m e ⟨k, h1, h2, hm, rfl⟩
 refine W.rs (cx_ok _) (by rfl) fun K hK => ?_
 conv => whnf
 refine hK _ ?_
 clear hK K
 refine W.seqK fun K7 hK7 => W.cond ⟨fun h3 => ?_, fun h3 => ?_⟩ <;> (first | replace h3 := of_decide_eq_true h3 | replace h3 := of_decide_eq_false h3)
 ·refine W.skip (hK7 _ ?_)
  clear hK7 K7
  refine W.seqK fun K8 hK8 => W.block ?_
  refine W.rs (cx_ok _) (by rfl) fun K hK => ?_
  conv => whnf
  refine hK _ ?_
  clear hK K
  refine W.rd (cx_ok _) follows (by rfl) fun K hK => ?_
  conv => whnf
  refine ⟨⟨by omega, by omega⟩, ?_⟩
  conv => whnf
  refine ⟨⟨by omega, by omega⟩, ?_⟩
  conv => whnf
  rw [Int.toNat_natCast]
  refine hK _ (W.cond ⟨fun h4 => ?_, fun h4 => ?_⟩) <;> clear hK K
  ·have h4 : cf xs k ≠ cf ys k := of_decide_eq_true h4
   refine W.rs (cx_ok _) (by rfl) fun K hK => ?_
   conv => whnf
   refine hK _ ?_
   clear hK K
   refine W.ret ?_
   conv => whnf
   exact ⟨.v (.bool (decide (xs = ys))), (by show decide _ = false; exact decide_eq_false fun e => h4 (by rw [e])), trivial, rfl⟩
  ·have h4 : ¬ cf xs k ≠ cf ys k := of_decide_eq_false h4
   refine W.skip (hK8 _ ?_)
   clear hK8 K8
   refine W.region (cx_ok _) (by rfl) ?_
   conv => whnf
   refine ⟨by constructor <;> omega, ?_⟩
   conv => whnf
   exact againA ⟨k + 1, by omega, fun j hj => by by_cases h9 : j = k; (subst h9; exact Classical.byContradiction h4); exact h2 j (by omega), rfl, rfl⟩
 ·obtain rfl : k = xs.length := by omega
  refine W.exit (hK1 _ ?_)
  clear hK7 K7 hK1 K1
  obtain rfl : xs = ys := list_ext hlen fun j hj => h2 j hj
  refine W.rs (cx_ok _) (by rfl) fun K hK => ?_
  conv => whnf
  refine hK _ ?_
  clear hK K
  refine W.ret ?_
  conv => whnf
  exact ⟨.v (.bool (decide (xs = xs))), (by show decide _ = true; exact decide_eq_true rfl), trivial, rfl⟩

def Prim {p : Int} [SP p] (f X : Poly p) : Prop := IsOrd f X (p.toNat ^ (dg f - 1) - 1)
theorem Prim.ne {p : Int} [SP p] {f X : Poly p} (hi : Irr f) (h : Prim f X) : X ≠ 0 := ndvd_ne (h.ndvd hi)
open Go Go.RowKit Go.Proofs Poly
set_option maxRecDepth 100000
set_option maxHeartbeats 8000000

theorem smul_take {ys : List Int} {i : Nat} (h : i < ys.length) : smulL (-1) (ys.take (i + 1)) = smulL (-1) (ys.take i) ++ [-(cf ys i)] := by
 have h1 := take_map_succ (fun x => (-1) * x) h
 have e : ys.getD i 0 = cf ys i := rfl
 rw [e] at h1
 unfold smulL
 rw [h1]; congr 2; omega
theorem minus_wide (g g' : Option Nat) (xs ys : List Int) (hx : Bd 9223372036854775807 xs) (hy : Bd 9223372036854775807 ys) (hs : ∀ j, -9223372036854775807 ≤ cf xs j - cf ys j ∧ cf xs j - cf ys j ≤ 9223372036854775807) (hxl : xs.length ≤ 1000000) (hyl : ys.length ≤ 1000000) : FnI 133 [.ints g xs, .ints g' ys] (trimZ (addL xs (smulL (-1) ys))) := by
 refine fn_of (cx_ok [0, 1, 4, 5, 7, 8, 9, 10, 11]) Tryz.func133 rfl (by decide) Tryz.ntmps133 (Nat.le_of_ble_eq_true rfl) fun base => ?_
 refine W.rs (cx_ok _) (by rfl) fun K hK => ?_
 conv => whnf
 refine hK _ ?_
 clear hK K
 refine W.rs (cx_ok _) (by rfl) fun K hK => ?_
 conv => whnf
 refine hK _ ?_
 clear hK K
 refine W.seqK fun K1 hK1 => ?_
 refine W.rs (cx_ok _) (by rfl) fun K hK => ?_
 conv => whnf
 refine hK _ (W.block (W.invA (fun m e => ∃ i b : Nat, i ≤ ys.length ∧ m = ys.length - i ∧ e = [(0, .v (.ints g xs)), (5, .ownI 2 b (smulL (-1) (ys.take i))), (8, .v (.ints g' ys)), (9, .v (.int .i64 ys.length)), (10, .v (.int .i64 i))]) ⟨0, 0, Nat.zero_le _, rfl, rfl⟩ ?_))
 clear hK K
 rintro m e ⟨i, b, hi, hm, rfl⟩
 refine W.rs (cx_ok _) (by rfl) fun K hK => ?_
 conv => whnf
 refine hK _ ?_
 clear hK K
 refine W.seqK fun K7 hK7 => W.cond ⟨fun h => ?_, fun h => ?_⟩ <;> (first | replace h := of_decide_eq_true h | replace h := of_decide_eq_false h)
 ·have hi2 : i < ys.length := by omega
  have hyi := hy i
  have hst := smul_take hi2
  have hsl : (smulL (-1) (ys.take i)).length = i := by simp [smulL]; omega
  refine W.skip (hK7 _ ?_)
  clear hK7 K7
  refine W.seqK fun K8 hK8 => W.block ?_
  refine W.rs (cx_ok _) (by rfl) fun K hK => ?_
  conv => whnf
  refine ⟨⟨by omega, by omega⟩, ?_⟩
  conv => whnf
  rw [Int.toNat_natCast]
  refine hK _ ?_
  clear hK K
  refine W.region (cx_ok _) (by rfl) ?_
  conv => whnf
  refine ⟨by show _ ≤ -(cf ys i) ∧ -(cf ys i) ≤ _; omega, ?_⟩
  conv => whnf
  refine ⟨⟨rfl, by decide⟩, ?_⟩
  conv => whnf
  intro b_1 hs_1 hh_1 hf_1
  try dsimp only at hh_1 hf_1
  conv => whnf
  refine ⟨by dsimp only [List.length]; omega, ?_⟩
  conv => whnf
  intro b_2 hs_2 hh_2 hf_2
  try dsimp only at hh_2 hf_2
  conv => whnf
  refine hK8 _ ?_
  clear hK8 K8
  refine W.region (cx_ok _) (by rfl) ?_
  conv => whnf
  refine ⟨by constructor <;> omega, ?_⟩
  conv => whnf
  exact againA ⟨i + 1, b_2, by omega, rfl, by rw [hst]⟩
 ·obtain rfl : i = ys.length := by omega
  rw [List.take_length]
  have hsl : (smulL (-1) ys).length = ys.length := by simp [smulL]
  refine W.exit (hK1 _ ?_)
  clear hK7 K7 hK1 K1
  refine W.rs (cx_ok _) (by rfl) fun K hK => ?_
  conv => whnf
  refine callI rfl (sumOf_wide g (some b) xs (smulL (-1) ys) hx (fun j => by rw [cf_smulL]; have := hs j; omega) (by omega) (by omega)) fun hs_3 b_3 hh_3 hf_3 => ?_
  try dsimp only at hh_3 hf_3
  conv => whnf
  refine hK _ ?_
  clear hK K
  refine W.ret ?_
  conv => whnf
  exact ⟨.ownI 2 _ (trimZ (addL xs (smulL (-1) ys))), ⟨rfl, rfl, rfl⟩, trivial, _, rfl⟩

theorem minus_fn (g g' : Option Nat) (xs ys : List Int) (hx : Bd 1000000000000 xs) (hy : Bd 1000000000000 ys) (hxl : xs.length ≤ 1000000) (hyl : ys.length ≤ 1000000) : FnI 133 [.ints g xs, .ints g' ys] (trimZ (addL xs (smulL (-1) ys))) :=
 minus_wide g g' xs ys (hx.le (by omega)) (hy.le (by omega)) (fun j => by have := hx j; have := hy j; omega) hxl hyl

theorem sub_l {p : Int} [SP p] (X Y : Poly p) : nrm p (trimZ (addL X.l (smulL (-1) Y.l))) = (X - Y).l := nrm_trim _ _

open Go Go.RowKit Go.Proofs Poly
set_option maxRecDepth 100000
set_option maxHeartbeats 8000000

/- greatest common divisors of numbers -/
open Go Go.RowKit Go.Proofs Poly
set_option maxRecDepth 100000
set_option maxHeartbeats 8000000

noncomputable def vCon {p : Int} [SP p] (f X : Poly p) (m : Nat) : V := .vals none 1 m fun j => .ints none (frN f X j).l

theorem l18Conjugates_fn (p : Int) [SP p] (g g1 : Option Nat) (f X : Poly p) (hf : dg f ≤ 500) (hf0 : f ≠ 0) (hX : dg X < dg f) (n : Nat) (hn : Per f X n) (hn2 : n ≤ 1000) : FnV 122 [vK p g f.l, .ints g1 X.l] (vCon f X n) := by
 have hF := frN_lt hf0 hX
 have hXl : X.l.length = dg X := rfl
 refine fn_of (cx_ok [0, 1, 2, 4, 5, 6, 22]) Tryz.func122 rfl (by decide) Tryz.ntmps122 (Nat.le_of_ble_eq_true rfl) fun base => ?_
 refine W.rs (cx_ok _) (by rfl) fun K hK => ?_
 conv => whnf
 refine ⟨rfl, ?_⟩
 conv => whnf
 intro b_1 hs_1 hh_1 hf_1
 try dsimp only at hh_1 hf_1
 conv => whnf
 refine hK _ ?_
 clear hK K
 refine W.rs (cx_ok _) (by rfl) fun K hK => ?_
 conv => whnf
 refine callI rfl (own_fn g1 X.l (by omega)) fun hs_2 b_2 hh_2 hf_2 => ?_
 try dsimp only at hh_2 hf_2
 conv => whnf
 refine ⟨⟨rfl, by decide, fun x hx => by simp at hx; subst hx; exact ⟨rfl, rfl⟩⟩, ?_⟩
 conv => whnf
 intro b_3 hs_3 hh_3 hf_3
 try dsimp only at hh_3 hf_3
 conv => whnf
 refine hK _ ?_
 clear hK K
 refine W.block (W.invE (fun m e => ∃ j b : Nat, j < n ∧ m = n - j ∧ e = [(1, .v (.ints g1 X.l)), (2, .ownB b_1 (vK p g f.l)), (5, .ownV 22 1 b (j + 1) fun i => .ints none (frN f X i).l)]) _ _ ⟨0, b_3, hn.pos, rfl, rfl⟩ (by dsimp only; omega) (by repeat' first | refine And.intro ?_ ?_ | exact trivial | rfl | omega | exact fun _ _ => rfl | exact fun i hi => (by obtain rfl : i = 0 := (by omega); rfl)) ?_)
 rintro m e ⟨j, b, hj, hm, rfl⟩
 have hFj := hF j
 have hF1 := hF (j + 1)
 have hFl : (frN f X (j + 1)).l.length = dg (frN f X (j + 1)) := rfl
 refine W.block ?_
 refine W.rd (cx_ok _) follows (by rfl) fun K hK => ?_
 conv => whnf
 refine ⟨by constructor <;> omega, ?_⟩
 conv => whnf
 refine ⟨⟨by omega, by omega⟩, ?_⟩
 conv => whnf
 rw [show (((j + 1 : Nat) : Int) - 1).toNat = j by omega]
 refine ⟨_, cxF (l17PowerP_fn p g none f (frN f X j) (by omega) (by omega) hf0), ?_⟩
 conv => whnf
 refine hK _ ?_
 clear hK K
 refine W.seqK fun K7 hK7 => ?_
 refine W.rs (cx_ok _) (by rfl) fun K hK => ?_
 conv => whnf
 by_cases h : frN f X (j + 1) = X
 ·have hjn : n = j + 1 := Classical.byContradiction fun h2 => hn.first (j + 1) (by omega) (by omega) h
  subst hjn
  refine callV rfl ((same_fn none g1 (frN f X (j + 1)).l X.l (by omega)).tr (decide_eq_true (by rw [h]))) fun hs' hhs => ?_
  try dsimp only at hhs
  conv => whnf
  refine hK _ (W.condT rfl ?_)
  clear hK K
  refine W.rs (cx_ok _) (by rfl) fun K hK => ?_
  conv => whnf
  refine hK _ ?_
  clear hK K
  refine W.ret ?_
  conv => whnf
  exact ⟨.v (vCon f X (j + 1)), ⟨rfl, rfl, rfl, fun _ _ => rfl⟩, ⟨trivial, fun _ _ => trivial⟩, rfl⟩
 ·have hjn : j + 1 ≠ n := fun h2 => h (h2 ▸ hn.back)
  refine callV rfl ((same_fn none g1 (frN f X (j + 1)).l X.l (by omega)).fa (decide_eq_false fun h2 => h (ext_l h2))) fun hs' hhs => ?_
  try dsimp only at hhs
  conv => whnf
  refine hK _ (W.condF rfl (W.skip (hK7 _ ?_)))
  clear hK K hK7 K7
  refine W.region (cx_ok _) (by rfl) ?_
  conv => whnf
  refine ⟨⟨rfl, by decide, fun x hx => by simp at hx; subst hx; exact ⟨rfl, rfl⟩⟩, ?_⟩
  conv => whnf
  intro b_4 hs_4 hh_4 hf_4
  try dsimp only at hh_4 hf_4
  conv => whnf
  refine ⟨by omega, ?_⟩
  conv => whnf
  refine ⟨fun i => .ints none (frN f X i).l, fun i hi => rfl, fun i hi => ?_, ?_⟩
  ·obtain rfl : i = 0 := by omega
   rfl
  intro b_5 hs_5 hh_5 hf_5
  try dsimp only at hh_5 hf_5
  conv => whnf
  exact againA ⟨j + 1, b_5, by omega, rfl, rfl⟩

open Go Go.RowKit Go.Proofs Poly
set_option maxRecDepth 100000
set_option maxHeartbeats 8000000

abbrev vLL (L : List (List Int)) : V := .vals none 1 L.length fun j => .ints none (L.getD j [])
abbrev vRF (L : List (List Int)) (bs : Nat → Nat) : V := .vals none 1 L.length fun j => .rf (bs j) (L.getD j []).length
def RTS (L : List (List Int)) (c : Int) : PostT := fun _ _ x tb => ∃ bs : Nat → Nat, x = .tup [.vals none 1 L.length (fun j => .rf (bs j) (L.getD j []).length), .int .i64 c] ∧
 (∀ j, j < L.length → L.getD j [] ≠ [] → tb (bs j) = some (L.getD j [])) ∧ (∀ i j, i < L.length → j < L.length → i ≠ j → L.getD i [] ≠ [] → L.getD j [] ≠ [] → bs i ≠ bs j)
def offT (k : Nat) (L : List (List Int)) : Nat → Nat
 | 0 => k
 | j + 1 => offT k L j + (L.getD j []).length
def mkT (k : Nat) (L : List (List Int)) (j : Nat) : List Int := marks (offT k L j) (L.getD j []).length
theorem mkT_length (k : Nat) (L : List (List Int)) (j : Nat) : (mkT k L j).length = (L.getD j []).length := marks_length _ _
theorem mkT_ne {k : Nat} {L : List (List Int)} {j : Nat} (h : mkT k L j ≠ []) : L.getD j [] ≠ [] := marks_ne h
theorem offT_le (k : Nat) (L : List (List Int)) (hl : ∀ j, (L.getD j []).length ≤ 100000) : ∀ j, offT k L j ≤ k + 100000 * j
 | 0 => Nat.le_refl _
 | j + 1 => by have := offT_le k L hl j; have := hl j; rw [offT]; omega

theorem eqTable_same (g : Nat → Option Nat) (L : List (List Int)) (hn : L.length ≤ 1000000) (hl : ∀ j, (L.getD j []).length ≤ 1000000) : FnV 36 [.vals none 1 L.length (fun j => .ints (g j) (L.getD j [])), vLL L] .tr := by
 refine fn_of (cx_ok [0, 1, 4, 5, 10, 14, 26]) Tryz.func36 rfl (by decide) Tryz.ntmps36 (Nat.le_of_ble_eq_true rfl) fun base => ?_
 refine W.rs (cx_ok _) (by rfl) fun K hK => ?_
 conv => whnf
 refine hK _ ?_
 clear hK K
 refine W.seqK fun K1 hK1 => ?_
 refine W.rs (cx_ok _) (by rfl) fun K hK => ?_
 conv => whnf
 refine hK _ (W.cond ⟨fun hcc => absurd rfl (of_decide_eq_true hcc), fun _ => W.skip (hK1 _ ?_)⟩)
 clear hK K hK1 K1
 refine W.seqK fun K1 hK1 => ?_
 refine W.rs (cx_ok _) (by rfl) fun K hK => ?_
 conv => whnf
 refine hK _ (W.block (W.invA (fun m e => ∃ i : Nat, i ≤ L.length ∧ m = L.length - i ∧ e = [(0, .v (.vals none 1 L.length fun j => .ints (g j) (L.getD j []))), (1, .v (vLL L)), (5, .v (.int .i64 i))]) ⟨0, Nat.zero_le _, rfl, rfl⟩ ?_))
 clear hK K
 rintro m e ⟨i, h1, hm, rfl⟩
 have hli := hl i
 refine W.seqK fun K7 hK7 => W.rs (cx_ok _) (by rfl) fun K hK => ?_
 conv => whnf
 refine hK _ (W.cond ⟨fun h3 => ?_, fun h3 => ?_⟩) <;> clear hK K <;> (first | replace h3 := of_decide_eq_true h3 | replace h3 := of_decide_eq_false h3)
 ·refine W.skip (hK7 _ ?_)
  clear hK7 K7
  refine W.seqK fun K8 hK8 => W.block ?_
  refine W.rd (cx_ok _) follows (by rfl) fun K hK => ?_
  conv => whnf
  refine ⟨⟨by omega, by omega⟩, ?_⟩
  conv => whnf
  refine ⟨⟨by omega, by omega⟩, ?_⟩
  conv => whnf
  rw [Int.toNat_natCast]
  refine ⟨_, cxF (eqInts_same (g i) none (L.getD i []) (by omega)), ?_⟩
  conv => whnf
  refine hK _ (W.condF rfl (W.skip (hK8 _ ?_)))
  clear hK K hK8 K8
  refine W.region (cx_ok _) (by rfl) ?_
  conv => whnf
  refine ⟨by constructor <;> omega, ?_⟩
  conv => whnf
  exact againA ⟨i + 1, by omega, rfl, rfl⟩
 ·obtain rfl : i = L.length := by omega
  refine W.exit (hK1 _ ?_)
  clear hK7 K7 hK1 K1
  refine W.rs (cx_ok _) (by rfl) fun K hK => ?_
  conv => whnf
  refine hK _ ?_
  clear hK K
  refine W.ret ?_
  conv => whnf
  exact ⟨.v (.tr), rfl, trivial, rfl⟩

theorem heldTable_fn (g : Nat → Option Nat) (L : List (List Int)) (k : Nat) (hk : k ≤ 1000000) (hn : L.length ≤ 100000) (hl : ∀ j, (L.getD j []).length ≤ 100000) :
  FnV 38 [.vals none 1 L.length (fun j => .ints (g j) (mkT k L j)), .int .i64 k] (.int .i64 (offT k L L.length : Nat)) := by
 have hof := offT_le k L hl
 refine fn_of (cx_ok [0, 1, 4, 5, 9, 19]) Tryz.func38 rfl (by decide) Tryz.ntmps38 (Nat.le_of_ble_eq_true rfl) fun base => ?_
 refine W.rs (cx_ok _) (by rfl) fun K hK => ?_
 conv => whnf
 refine hK _ ?_
 clear hK K
 refine W.seqK fun K1 hK1 => ?_
 refine W.rs (cx_ok _) (by rfl) fun K hK => ?_
 conv => whnf
 refine hK _ (W.block (W.invA (fun m e => ∃ i : Nat, i ≤ L.length ∧ m = L.length - i ∧ e = [(0, .v (.vals none 1 L.length fun j => .ints (g j) (mkT k L j))), (1, .v (.int .i64 (offT k L i : Nat))), (5, .v (.int .i64 i))]) ⟨0, Nat.zero_le _, rfl, rfl⟩ ?_))
 clear hK K
 rintro m e ⟨i, h1, hm, rfl⟩
 have hli := hl i
 have hoi := hof i
 refine W.seqK fun K7 hK7 => W.rs (cx_ok _) (by rfl) fun K hK => ?_
 conv => whnf
 refine hK _ (W.cond ⟨fun h3 => ?_, fun h3 => ?_⟩) <;> clear hK K <;> (first | replace h3 := of_decide_eq_true h3 | replace h3 := of_decide_eq_false h3)
 ·refine W.skip (hK7 _ ?_)
  clear hK7 K7
  refine W.seqK fun K8 hK8 => W.block ?_
  refine W.rs (cx_ok _) (by rfl) fun K hK => ?_
  conv => whnf
  refine ⟨⟨by omega, by omega⟩, ?_⟩
  conv => whnf
  rw [Int.toNat_natCast]
  refine callV rfl (held_fn (g i) (offT k L i) (L.getD i []).length (by omega) (by omega)) fun hs' hhs => ?_
  try dsimp only at hhs
  conv => whnf
  refine hK _ ?_
  clear hK K
  refine W.rs (cx_ok _) (by rfl) fun K hK => ?_
  conv => whnf
  refine hK _ (W.cond ⟨fun h7 => (by have := of_decide_eq_true h7; omega), fun _ => W.skip (hK8 _ ?_)⟩)
  clear hK K hK8 K8
  refine W.region (cx_ok _) (by rfl) ?_
  conv => whnf
  refine ⟨by constructor <;> omega, ?_⟩
  conv => whnf
  exact againA ⟨i + 1, by omega, rfl, rfl⟩
 ·obtain rfl : i = L.length := by omega
  refine W.exit (hK1 _ ?_)
  clear hK7 K7 hK1 K1
  refine W.rs (cx_ok _) (by rfl) fun K hK => ?_
  conv => whnf
  refine hK _ ?_
  clear hK K
  refine W.ret ?_
  conv => whnf
  exact ⟨.v (.int .i64 (offT k L L.length : Nat)), ⟨rfl, rfl⟩, trivial, rfl⟩

theorem markTable_fn (bs : Nat → Nat) (L : List (List Int)) (k : Nat) (hk : k ≤ 1000000) (hn : L.length ≤ 100000) (hl : ∀ j, (L.getD j []).length ≤ 100000) (tb : Tab)
  (hb : ∀ j, j < L.length → L.getD j [] ≠ [] → tb (bs j) = some (L.getD j [])) (hd : ∀ i j, i < L.length → j < L.length → i ≠ j → L.getD i [] ≠ [] → L.getD j [] ≠ [] → bs i ≠ bs j) :
  MFn Tryz.prog 37 [.nil, .int .i64 k] 0 (.v (.vals none 1 L.length fun j => .rf (bs j) (L.getD j []).length)) (.tab tb) (fun _ av x' t' => av = .v (.int .i64 (offT k L L.length : Nat)) ∧ x' = .v (.vals none 1 L.length fun j => .rf (bs j) (L.getD j []).length) ∧ ∃ tb', t' = .tab tb' ∧
   (∀ j, j < L.length → L.getD j [] ≠ [] → tb' (bs j) = some (mkT k L j)) ∧ ∀ c, (∀ j, j < L.length → L.getD j [] ≠ [] → c ≠ bs j) → tb' c = tb c) := by
 have hof := offT_le k L hl
 refine mfn_of (cx := cx [0, 1, 4, 5, 9, 1000000, 1000001]) Tryz.func37 rfl (by decide) Tryz.ntmps37 (Nat.le_of_ble_eq_true rfl) (Nat.le_of_ble_eq_true rfl) rfl rfl fun base hs0 O U hw v0 hb0 => ?_
 refine W.rs (cx_ok _) (by rfl) fun K hK => ?_
 conv => whnf
 refine hK _ ?_
 clear hK K
 refine W.seqK fun K1 hK1 => ?_
 refine W.rs (cx_ok _) (by rfl) fun K hK => ?_
 conv => whnf
 refine hK _ ?_
 clear hK K
 refine W.block (W.invH hs0 hb0 (fun m e => ∃ (i : Nat) (tbi : Tab), i ≤ L.length ∧ (∀ j, j < i → L.getD j [] ≠ [] → tbi (bs j) = some (mkT k L j)) ∧ (∀ j, i ≤ j → j < L.length → L.getD j [] ≠ [] → tbi (bs j) = some (L.getD j [])) ∧ (∀ c, (∀ j, j < L.length → L.getD j [] ≠ [] → c ≠ bs j) → tbi c = tb c) ∧ m = L.length - i ∧ e = [(0, .v (.vals none 1 L.length fun j => .rf (bs j) (L.getD j []).length)), (1, .v (.int .i64 (offT k L i : Nat))), (5, .v (.int .i64 i)), (vt, .tab tbi), (vk, .keep O U hw 0 v0)]) _ _ ⟨0, tb, Nat.zero_le _, fun j hj => by omega, fun j _ hj => hb j hj, fun _ _ => rfl, rfl, rfl⟩ (by dsimp only; omega) (by repeat' first | refine And.intro ?_ ?_ | exact trivial | rfl | omega | exact fun _ _ => rfl | exact fun _ _ h => h) ?_)
 rintro m e ⟨i, tbi, h1, h2, h3, h4, hm, rfl⟩
 have hli := hl i
 have hoi := hof i
 refine W.seqK fun K7 hK7 => W.rs (cx_ok _) (by rfl) fun K hK => ?_
 conv => whnf
 refine hK _ (W.cond ⟨fun h5 => ?_, fun h5 => ?_⟩) <;> clear hK K <;> (first | replace h5 := of_decide_eq_true h5 | replace h5 := of_decide_eq_false h5)
 ·refine W.skip (hK7 _ ?_)
  clear hK7 K7
  refine W.seqK fun K8 hK8 => W.block ?_
  refine W.region (cx_ok _) (by rfl) ?_
  conv => whnf
  refine ⟨⟨by omega, by omega⟩, ?_⟩
  conv => whnf
  rw [Int.toNat_natCast]
  refine ⟨⟨rfl, rfl⟩, ?_⟩
  conv => whnf
  refine ⟨rfl, _, markRf_fn (bs i) (L.getD i []).length (offT k L i) (by omega) (by omega) tbi (fun h => ⟨L.getD i [], rfl, h3 i (Nat.le_refl _) (by omega) (fun e => h (by rw [e]; rfl))⟩), ?_⟩
  rintro hs5 av x' t' hh5 ⟨rfl, rfl, tb', rfl, hb', ho'⟩ _ _ _
  try dsimp only at hh5
  conv => whnf
  have hkeep : ∀ j, j < L.length → j ≠ i → L.getD j [] ≠ [] → tb' (bs j) = tbi (bs j) := fun j hj hji hne => ho' _ (by
   by_cases h : L.getD i [] = []
   ·exact .inl (by rw [h]; rfl)
   ·exact .inr (hd j i hj (by omega) hji hne h))
  refine hK8 _ ?_
  clear hK8 K8
  refine W.region (cx_ok _) (by rfl) ?_
  conv => whnf
  refine ⟨by constructor <;> omega, ?_⟩
  conv => whnf
  refine ⟨_, _, ⟨i + 1, tb', by omega, fun j hj hne => ?_, fun j h6 h7 hne => (hkeep j h7 (by omega) hne).trans (h3 j (by omega) h7 hne), fun c hc => ?_, rfl, rfl⟩, by omega, by dsimp only; omega, ?_⟩
  ·by_cases hji : j = i
   ·subst hji
    exact hb' fun h => hne (List.eq_nil_of_length_eq_zero h)
   ·exact (hkeep j (by omega) hji hne).trans (h2 j (by omega) hne)
  ·refine (ho' c ?_).trans (h4 c hc)
   by_cases h : L.getD i [] = []
   ·exact .inl (by rw [h]; rfl)
   ·exact .inr (hc i (by omega) h)
  ·repeat' first | refine And.intro ?_ ?_ | exact trivial | rfl | omega | exact fun _ _ => rfl | exact fun _ _ h => h
 ·obtain rfl : i = L.length := by omega
  refine W.exit (hK1 _ ?_)
  clear hK7 K7 hK1 K1
  refine W.rs (cx_ok _) (by rfl) fun K hK => ?_
  conv => whnf
  refine hK _ ?_
  clear hK K
  refine W.ret ?_
  conv => whnf
  refine ⟨by dsimp only; omega, ?_⟩
  conv => whnf
  exact ⟨rfl, .v (.int .i64 (offT k L L.length : Nat)), ⟨rfl, rfl⟩, rfl, trivial, .v (.vals none 1 L.length fun j => .rf (bs j) (L.getD j []).length), ⟨rfl, rfl, rfl, fun _ _ => rfl⟩, .inr ⟨rfl, rfl⟩, .tab tbi, fun _ _ h => h, rfl, rfl, rfl, rfl, tbi, rfl, h2, h4⟩

/- conjugates -/
noncomputable def conL {p : Int} [SP p] (f X : Poly p) (n : Nat) : List (List Int) := (List.range n).map fun j => (frN f X j).l
theorem conL_len {p : Int} [SP p] (f X : Poly p) (n : Nat) : (conL f X n).length = n := by simp [conL]
theorem conL_at {p : Int} [SP p] (f X : Poly p) {n j : Nat} (h : j < n) : (conL f X n).getD j [] = (frN f X j).l := by
 unfold conL
 rw [List.getD_eq_getElem?_getD]
 simp [h]
theorem conL_small {p : Int} [SP p] (f X : Poly p) (n : Nat) (hF : ∀ j, dg (frN f X j) < dg f) (h9 : dg f ≤ 9) (j : Nat) : ((conL f X n).getD j []).length ≤ 9 := by
 by_cases h : j < n
 ·rw [conL_at f X h]; have := hF j; show dg _ ≤ _; omega
 ·rw [List.getD_eq_getElem?_getD, List.getElem?_eq_none (by rw [conL_len]; omega)]; simp

theorem conjugates_T (p : Int) [SP p] (g g1 : Option Nat) (f X : Poly p) (hf : dg f ≤ 500) (hf0 : f ≠ 0) (hX : dg X < dg f) (n : Nat) (hn : Per f X n) (hn2 : n ≤ 1000) :
  FnT Tryz.prog 123 [vK p g f.l, .ints g1 X.l] (fun _ _ x tb => ∃ bs : Nat → Nat, x = .vals none 1 n (fun j => .rf (bs j) (frN f X j).l.length) ∧
   (∀ j, j < n → (frN f X j).l ≠ [] → tb (bs j) = some (frN f X j).l) ∧ (∀ i j, i < n → j < n → i ≠ j → (frN f X i).l ≠ [] → (frN f X j).l ≠ [] → bs i ≠ bs j)) := by
 have hF := frN_lt hf0 hX
 have hXl : X.l.length = dg X := rfl
 have hpos := hn.pos
 refine fnt_of (cxt_ok [] [0, 1, 2, 4, 5, 6, 16, 1000000]) Tryz.func123 rfl (by decide) Tryz.ntmps123 (Nat.le_of_ble_eq_true rfl) (fun base => ?_) (Nat.le_of_ble_eq_true rfl)
 refine W.sw (c' := cx [0, 1, 2, 4, 5, 6, 16, 1000000]) ?_
 refine W.rs (cx_ok _) (by rfl) fun K hK => ?_
 conv => whnf
 refine ⟨rfl, ?_⟩
 conv => whnf
 intro b_2 hs_2 hh_2 hf_2
 try dsimp only at hh_2 hf_2
 conv => whnf
 refine hK _ ?_
 clear hK K
 refine W.sw (c' := cxt [] [0, 1, 2, 4, 5, 6, 16, 1000000]) ?_
 refine W.rs (cxt_ok _ _) (by rfl) fun K hK => ?_
 conv => whnf
 refine callI rfl (clone_fn g1 X.l (by omega)) fun hs_3 b_3 hh_3 hf_3 => ?_
 try dsimp only at hh_3 hf_3
 conv => whnf
 refine ⟨⟨rfl, by decide, fun x hx => by simp at hx; subst hx; exact ⟨rfl, rfl⟩⟩, ?_⟩
 conv => whnf
 intro b_4 hs_4 hh_4 hf_4
 try dsimp only at hh_4 hf_4
 conv => whnf
 refine hK _ ?_
 clear hK K
 have inj : ∀ (bs : Nat → Nat) (j b : Nat), (∀ i, i ≤ j → (frN f X i).l ≠ [] → (frN f X (j + 1)).l ≠ [] → b ≠ bs i) →
   (∀ i i', i ≤ j → i' ≤ j → i ≠ i' → (frN f X i).l ≠ [] → (frN f X i').l ≠ [] → bs i ≠ bs i') → ∀ i i', i ≤ j + 1 → i' ≤ j + 1 → i ≠ i' → (frN f X i).l ≠ [] → (frN f X i').l ≠ [] → (if i = j + 1 then b else bs i) ≠ (if i' = j + 1 then b else bs i') := by
  intro bs j b h2 h3 i i' hi hi' hne h4 h5
  by_cases h6 : i = j + 1
  ·rw [if_pos h6, if_neg (by omega)]; exact h2 i' (by omega) h5 (h6 ▸ h4)
  ·rw [if_neg h6]
   by_cases h7 : i' = j + 1
   ·rw [if_pos h7]; exact fun e => h2 i (by omega) h4 (h7 ▸ h5) e.symm
   ·rw [if_neg h7]; exact h3 i i' (by omega) (by omega) hne h4 h5
 refine W.seqK fun K1 hK1 => ?_
 refine W.tick rfl fun hs9 hhs9 hbb => ?_
 dsimp only at hhs9
 refine W.sw (c' := cxt [151] [0, 1, 2, 4, 5, 6, 16, 1000000]) ?_
 refine W.rs (cxt_ok _ _) (by rfl) fun K hK => ?_
 conv => whnf
 refine ⟨_, cxT (kFrob_T p g g1 f X (by omega) (by omega) hf0), fun lo_y hi_y hs_y x_y tn_y tb_y hl1_y hl2_y _ hp_y hf_y hn_y ho_y => ?_⟩
 try dsimp only at hl1_y hl2_y
 obtain ⟨b0, rfl, hy0⟩ := hp_y
 conv => whnf
 refine hK _ ?_
 clear hK K
 refine W.sw (c' := cxt [] [0, 1, 2, 4, 5, 6, 16, 1000000]) ?_
 refine W.block (W.invE (fun m e => ∃ (j b : Nat) (bs : Nat → Nat) (by' : Nat) (tb : Tab), j < n ∧ (∀ i, i ≤ j → (frN f X i).l ≠ [] → tb (bs i) = some (frN f X i).l) ∧ ((frN f X (j + 1)).l ≠ [] → tb by' = some (frN f X (j + 1)).l) ∧ (∀ i, i ≤ j → (frN f X i).l ≠ [] → (frN f X (j + 1)).l ≠ [] → by' ≠ bs i) ∧ (∀ i i', i ≤ j → i' ≤ j → i ≠ i' → (frN f X i).l ≠ [] → (frN f X i').l ≠ [] → bs i ≠ bs i') ∧ m = n - j ∧ e = [(vt, .tab tb), (1, .v (.ints g1 X.l)), (2, .ownB b_2 (vK p g f.l)), (5, .ownV 22 1 b (j + 1) fun i => .rf (bs i) (frN f X i).l.length), (6, .v (.rf by' (frN f X (j + 1)).l.length))]) _ _ ⟨0, b_4, fun _ => b_3, b0, tb_y, hpos, fun i hi h => ?_, fun h => hn_y _ _ (hy0 h), fun i hi h h' e => ?_, fun i i' hi hi' hne => by omega, rfl, rfl⟩ (by dsimp only; omega) (by repeat' first | refine And.intro ?_ ?_ | exact trivial | rfl | omega | exact fun _ _ h => h | exact fun i hi => (by obtain rfl : i = 0 := (by omega); rfl)) ?_)
 ·obtain rfl : i = 0 := by omega
  exact ho_y _ _ (tbAdd_self _ _ h)
 ·obtain rfl : i = 0 := by omega
  have e : b0 = b_3 := e
  have k1 := hf_y b0 (by rw [hy0 h']; simp)
  have k2 := hbb b_3 (by have := tbAdd_self (fun _ => none) b_3 (xs := X.l) h; rw [this]; simp)
  omega
 rintro m e ⟨j, b, bs, by', tb, hj, h1, h2, h3, h4, hm, rfl⟩
 have hF1 := hF (j + 1)
 have hFl : (frN f X (j + 1)).l.length = dg (frN f X (j + 1)) := rfl
 refine W.seqK fun K7 hK7 => ?_
 refine W.rs (cxt_ok _ _) (by rfl) fun K hK => ?_
 conv => whnf
 refine ⟨(frN f X (j + 1)).l, ⟨rfl, h2⟩, ?_⟩
 conv => whnf
 by_cases h : frN f X (j + 1) = X
 ·have hjn : n = j + 1 := Classical.byContradiction fun h2 => hn.first (j + 1) (by omega) (by omega) h
  subst hjn
  refine callV rfl ((equal_fn (some by') g1 (frN f X (j + 1)).l X.l (by omega)).tr (decide_eq_true (by rw [h]))) fun hs' hhs => ?_
  try dsimp only at hhs
  conv => whnf
  refine hK _ (W.condF rfl (W.exit (hK1 _ ?_)))
  clear hK K hK7 K7 hK1 K1
  refine W.rs (cxt_ok _ _) (by rfl) fun K hK => ?_
  conv => whnf
  refine hK _ ?_
  clear hK K
  refine W.ret ?_
  conv => whnf
  exact ⟨.v (.vals none 1 (j + 1) fun i => .rf (bs i) (frN f X i).l.length), ⟨rfl, rfl, rfl, fun _ _ => rfl⟩, ⟨trivial, fun _ _ => trivial⟩, bs, rfl, fun i hi => h1 i (by omega), fun i i' hi hi' => h4 i i' (by omega) (by omega)⟩
 ·have hjn : j + 1 ≠ n := fun h2 => h (h2 ▸ hn.back)
  refine callV rfl ((equal_fn (some by') g1 (frN f X (j + 1)).l X.l (by omega)).fa (decide_eq_false fun h2 => h (ext_l h2))) fun hs' hhs => ?_
  try dsimp only at hhs
  conv => whnf
  refine hK _ (W.condT rfl (W.skip (hK7 _ ?_)))
  clear hK K hK7 K7
  refine W.seqK fun K8 hK8 => W.block ?_
  refine W.region (cxt_ok _ _) (by rfl) ?_
  conv => whnf
  refine ⟨⟨rfl, by decide, fun x hx => by simp at hx; subst hx; exact ⟨rfl, rfl⟩⟩, ?_⟩
  conv => whnf
  intro b_5 hs_5 hh_5 hf_5
  try dsimp only at hh_5 hf_5
  conv => whnf
  refine ⟨by omega, ?_⟩
  conv => whnf
  refine ⟨fun i => .rf (if i = j + 1 then by' else bs i) (frN f X i).l.length, fun i hi => ?_, fun i hi => ?_, ?_⟩
  ·show V.rf (if i = j + 1 then by' else bs i) _ = V.rf (bs i) _
   rw [if_neg (by omega)]
  ·obtain rfl : i = 0 := by omega
   show V.rf (if j + 1 + 0 = j + 1 then by' else bs (j + 1 + 0)) _ = V.rf by' _
   rw [if_pos rfl]
  intro b_6 hs_6 hh_6 hf_6
  try dsimp only at hh_6 hf_6
  conv => whnf
  refine hK8 _ ?_
  clear hK8 K8
  refine W.tick rfl fun hs8 hhs8 hbb8 => ?_
  dsimp only at hhs8
  refine W.sw (c' := cxt [151] [0, 1, 2, 4, 5, 6, 16, 1000000]) ?_
  refine W.region (cxt_ok _ _) (by rfl) ?_
  conv => whnf
  refine ⟨(frN f X (j + 1)).l, ⟨rfl, h2⟩, ?_⟩
  conv => whnf
  refine ⟨_, cxT (kFrob_T p g (some by') f (frN f X (j + 1)) (by omega) (by omega) hf0), fun lo_z hi_z hs_z x_z tn_z tb_z hl1_z hl2_z _ hp_z hf_z hn_z ho_z => ?_⟩
  try dsimp only at hl1_z hl2_z
  obtain ⟨b7, rfl, hy7⟩ := hp_z
  conv => whnf
  refine ⟨_, _, ⟨j + 1, b_6, fun i => if i = j + 1 then by' else bs i, b7, tb_z, by omega, fun i hi hne => ?_, fun h => hn_z _ _ (hy7 h), fun i hi hne hne2 e => ?_, inj bs j by' h3 h4, rfl, rfl⟩, by omega, by dsimp only; omega, ?_⟩
  ·show tb_z (if i = j + 1 then by' else bs i) = _
   by_cases h6 : i = j + 1
   ·subst h6; rw [if_pos rfl]; exact ho_z _ _ (h2 hne)
   ·rw [if_neg h6]; exact ho_z _ _ (h1 i (by omega) hne)
  ·have e : b7 = if i = j + 1 then by' else bs i := e
   have k1 := hf_z b7 (by rw [hy7 hne2]; simp)
   have k2 : b7 < hs8 := by
    rw [e]
    by_cases h6 : i = j + 1
    ·subst h6; rw [if_pos rfl]; exact hbb8 _ (by rw [h2 hne]; simp)
    ·rw [if_neg h6]; exact hbb8 _ (by rw [h1 i (by omega) hne]; simp)
   omega
  ·repeat' first | refine And.intro ?_ ?_ | exact trivial | rfl | omega | exact fun _ _ => rfl | exact fun _ _ h => h

theorem ConjugatesOf_both (kp : Int) (kl x : List Int) (_ : inR kp) (hkl : kl.length ≤ 1048576) (hx : x.length ≤ 1048576) : ∃ (r0 : List (List Int)) (r1 : Int),
  (∀ g0 g1 : Option Nat, FnV 34 [vK kp g0 kl, .ints g1 x] (.tup [vLL r0, .int .i64 r1])) ∧ (∀ g0 g1 : Option Nat, FnT Tryz.prog 35 [vK kp g0 kl, .ints g1 x] (RTS r0 r1)) ∧ r0.length ≤ 100000 ∧ (∀ j, (r0.getD j []).length ≤ 100000) := by
 generalize hc : code1 kp kl x = c
 by_cases h0 : c = 0
 case neg =>
  refine ⟨[], c, fun g0 g1 => ?_, fun g0 g1 => ?_, by simp, by simp⟩
  ·refine fn_of (cx_ok [0, 1, 2, 4, 5, 6, 12]) Tryz.func34 rfl (by decide) Tryz.ntmps34 (Nat.le_of_ble_eq_true rfl) fun base => ?_
   refine W.rs (cx_ok _) (by rfl) fun K hK => ?_
   conv => whnf
   refine ⟨rfl, ?_⟩
   conv => whnf
   intro b_1 hs_1 hh_1 hf_1
   try dsimp only at hh_1 hf_1
   conv => whnf
   refine hK _ ?_
   clear hK K
   refine W.rs (cx_ok _) (by rfl) fun K hK => ?_
   conv => whnf
   refine callV rfl (l17Code_one kp g0 g1 g1 kl x (by omega) (by omega)) fun hs' hhs => ?_
   try dsimp only at hhs
   conv => whnf
   rw [hc]
   refine hK _ ?_
   clear hK K
   refine W.seqK fun K1 hK1 => ?_
   refine W.rs (cx_ok _) (by rfl) fun K hK => ?_
   conv => whnf
   refine hK _ (W.cond ⟨fun _ => ?_, fun hcc => absurd h0 (of_decide_eq_false hcc)⟩)
   clear hK K
   refine W.rs (cx_ok _) (by rfl) fun K hK => ?_
   conv => whnf
   refine hK _ ?_
   clear hK K
   refine W.ret ?_
   conv => whnf
   exact ⟨.v (vLL []), rfl, ⟨trivial, fun _ _ => trivial⟩, .v (.int .i64 c), ⟨rfl, rfl⟩, trivial, rfl⟩
  ·refine fnt_of (cxt_ok [] [0, 1, 2, 4, 5, 6, 12, 1000000]) Tryz.func35 rfl (by decide) Tryz.ntmps35 (Nat.le_of_ble_eq_true rfl) (fun base => ?_) (Nat.le_of_ble_eq_true rfl)
   refine W.sw (c' := cx [0, 1, 2, 4, 5, 6, 12, 1000000]) ?_
   refine W.rs (cx_ok _) (by rfl) fun K hK => ?_
   conv => whnf
   refine ⟨rfl, ?_⟩
   conv => whnf
   intro b_1 hs_1 hh_1 hf_1
   try dsimp only at hh_1 hf_1
   conv => whnf
   refine hK _ ?_
   clear hK K
   refine W.seqK fun K1 hK1 => ?_
   refine W.rs (cx_ok _) (by rfl) fun K hK => ?_
   conv => whnf
   refine ⟨⟨rfl, by decide, fun x hx => (by simp at hx; subst hx; exact ⟨rfl, rfl⟩)⟩, ?_⟩
   conv => whnf
   intro b_2 hs_2 hh_2 hf_2
   try dsimp only at hh_2 hf_2
   conv => whnf
   refine callV rfl (elements_tr kp g0 (some b_2) kl 1 _ (fun _ => x) (by omega) (by omega) (els1 g1 x)) fun hs' hhs => ?_
   try dsimp only at hhs
   conv => whnf
   rw [show codeEl kp kl true 1 (fun _ => x) = c from hc]
   refine hK _ ?_
   clear hK K
   refine W.rs (cx_ok _) (by rfl) fun K hK => ?_
   conv => whnf
   refine hK _ (W.cond ⟨fun _ => ?_, fun hcc => absurd h0 (of_decide_eq_false hcc)⟩)
   clear hK K
   refine W.rs (cx_ok _) (by rfl) fun K hK => ?_
   conv => whnf
   refine hK _ ?_
   clear hK K
   refine W.ret ?_
   conv => whnf
   exact ⟨.v (vRF [] fun _ => 0), rfl, ⟨trivial, fun _ _ => trivial⟩, .v (.int .i64 c), ⟨rfl, rfl⟩, trivial, fun _ => 0, rfl, fun j hj => absurd hj (Nat.not_lt_zero j), fun i j hi => absurd hi (Nat.not_lt_zero i)⟩
 subst h0
 obtain ⟨hk, hh⟩ := code1_ok hc
 obtain ⟨hp, f, rfl, hfi, _, _, hf9⟩ := fld_poly hk
 letI := sp_of hp
 obtain ⟨X, rfl⟩ := mod_poly hh.1
 have hxl : X.l.length < f.l.length := hh.2
 have hfl : f.l.length = dg f := rfl
 have hXl : X.l.length = dg X := rfl
 have hf0 := hfi.ne
 have hp1 := primes_le hp
 have h2 := hfi.1
 obtain ⟨d, hd⟩ : ∃ d, dg f = d + 1 := ⟨dg f - 1, by omega⟩
 obtain ⟨n, hn, hn2⟩ := exists_per hfi hxl hd
 have hF := frN_lt hf0 hxl
 have hsm := conL_small f X n hF (by omega)
 have hcl := conL_len f X n
 refine ⟨conL f X n, 0, fun g0 g1 => ?_, fun g0 g1 => ?_, by omega, fun j => Nat.le_trans (hsm j) (by omega)⟩
 ·refine fn_of (cx_ok [0, 1, 2, 4, 5, 6, 12]) Tryz.func34 rfl (by decide) Tryz.ntmps34 (Nat.le_of_ble_eq_true rfl) fun base => ?_
  refine W.rs (cx_ok _) (by rfl) fun K hK => ?_
  conv => whnf
  refine ⟨rfl, ?_⟩
  conv => whnf
  intro b_1 hs_1 hh_1 hf_1
  try dsimp only at hh_1 hf_1
  conv => whnf
  refine hK _ ?_
  clear hK K
  refine W.rs (cx_ok _) (by rfl) fun K hK => ?_
  conv => whnf
  refine callV rfl (l17Code_one kp g0 g1 g1 f.l X.l (by omega) (by omega)) fun hs' hhs => ?_
  try dsimp only at hhs
  conv => whnf
  rw [hc]
  refine hK _ ?_
  clear hK K
  refine W.seqK fun K1 hK1 => ?_
  refine W.rs (cx_ok _) (by rfl) fun K hK => ?_
  conv => whnf
  refine hK _ (W.cond ⟨fun hcc => absurd rfl (of_decide_eq_true hcc), fun _ => W.skip (hK1 _ ?_)⟩)
  clear hK K hK1 K1
  refine W.rs (cx_ok _) (by rfl) fun K hK => ?_
  conv => whnf
  refine callV rfl (l18Conjugates_fn kp g0 g1 f X (by omega) hf0 hxl n hn (by omega)) fun hs' hhs => ?_
  try dsimp only at hhs
  conv => whnf
  refine hK _ ?_
  clear hK K
  refine W.ret ?_
  conv => whnf
  exact ⟨.v (vLL (conL f X n)), ⟨rfl, rfl, hcl.symm, fun i hi => by show V.ints none _ = V.ints none ((conL f X n).getD i []); rw [conL_at f X hi]⟩, ⟨trivial, fun _ _ => trivial⟩, .v (.int .i64 0), ⟨rfl, rfl⟩, trivial, rfl⟩
 ·refine fnt_of (cxt_ok [] [0, 1, 2, 4, 5, 6, 12, 1000000]) Tryz.func35 rfl (by decide) Tryz.ntmps35 (Nat.le_of_ble_eq_true rfl) (fun base => ?_) (Nat.le_of_ble_eq_true rfl)
  refine W.sw (c' := cx [0, 1, 2, 4, 5, 6, 12, 1000000]) ?_
  refine W.rs (cx_ok _) (by rfl) fun K hK => ?_
  conv => whnf
  refine ⟨rfl, ?_⟩
  conv => whnf
  intro b_1 hs_1 hh_1 hf_1
  try dsimp only at hh_1 hf_1
  conv => whnf
  refine hK _ ?_
  clear hK K
  refine W.seqK fun K1 hK1 => ?_
  refine W.rs (cx_ok _) (by rfl) fun K hK => ?_
  conv => whnf
  refine ⟨⟨rfl, by decide, fun x hx => (by simp at hx; subst hx; exact ⟨rfl, rfl⟩)⟩, ?_⟩
  conv => whnf
  intro b_2 hs_2 hh_2 hf_2
  try dsimp only at hh_2 hf_2
  conv => whnf
  refine callV rfl (elements_tr kp g0 (some b_2) f.l 1 _ (fun _ => X.l) (by omega) (by omega) (els1 g1 X.l)) fun hs' hhs => ?_
  try dsimp only at hhs
  conv => whnf
  rw [show codeEl kp f.l true 1 (fun _ => X.l) = 0 from hc]
  refine hK _ ?_
  clear hK K
  refine W.rs (cx_ok _) (by rfl) fun K hK => ?_
  conv => whnf
  refine hK _ (W.cond ⟨fun hcc => absurd rfl (of_decide_eq_true hcc), fun _ => W.skip (hK1 _ ?_)⟩)
  clear hK K hK1 K1
  refine W.sw (c' := cxt [123] [0, 1, 2, 4, 5, 6, 12, 1000000]) ?_
  refine W.rs (cxt_ok _ _) (by rfl) fun K hK => ?_
  conv => whnf
  refine ⟨_, cxT (conjugates_T kp g0 g1 f X (by omega) hf0 hxl n hn (by omega)), fun lo_t hi_t hs_t x_t tn_t tb_t hl1_t hl2_t _ hp_t hf_t hn_t ho_t => ?_⟩
  try dsimp only at hl1_t hl2_t
  obtain ⟨bs, rfl, k1, k2⟩ := hp_t
  conv => whnf
  refine hK _ ?_
  clear hK K
  refine W.ret ?_
  conv => whnf
  refine ⟨.v (vRF (conL f X n) bs), ⟨rfl, rfl, hcl.symm, fun i hi => by show V.rf (bs i) _ = V.rf (bs i) ((conL f X n).getD i []).length; rw [conL_at f X hi]⟩, ⟨trivial, fun _ _ => trivial⟩, .v (.int .i64 0), ⟨rfl, rfl⟩, trivial, bs, rfl, fun j hj hne => ?_, fun i j hi hj hij hne hne' => ?_⟩
  ·rw [hcl] at hj
   rw [conL_at f X hj] at hne ⊢
   exact hn_t _ _ (k1 j hj hne)
  ·rw [hcl] at hi hj
   rw [conL_at f X hi] at hne
   rw [conL_at f X hj] at hne'
   exact k2 i j hi hj hij hne hne'

open Go Go.RowKit Go.Proofs Poly
set_option maxRecDepth 100000
set_option maxHeartbeats 8000000

theorem R1w {f : Nat} {xs : List V} {l : List Int} (h : FnT Tryz.prog f xs (R1 l)) : FnV f xs (.ints none l) :=
 h.toV fun _ _ _ _ ⟨_, hx, hb⟩ => by subst hx; exact ⟨l, rfl, hb, rfl⟩

def rootL (D : Nat → List Int) (Q : Nat → Bool) : Nat → List (List Int)
 | 0 => []
 | k + 1 => if Q k = true then rootL D Q k ++ [D k] else rootL D Q k
theorem rootL_len (D : Nat → List Int) (Q : Nat → Bool) : ∀ k, (rootL D Q k).length ≤ k
 | 0 => Nat.le_refl _
 | k + 1 => by
  have := rootL_len D Q k
  rw [rootL]; split
  ·simp; omega
  ·omega
theorem at_left (L : List (List Int)) (d : List Int) {i : Nat} (h : i < L.length) : (L ++ [d]).getD i [] = L.getD i [] := by
 rw [List.getD_eq_getElem?_getD, List.getD_eq_getElem?_getD, List.getElem?_append_left h]
theorem at_right (L : List (List Int)) (d : List Int) : (L ++ [d]).getD L.length [] = d := by
 rw [List.getD_eq_getElem?_getD]; simp
theorem rootL_small (D : Nat → List Int) (Q : Nat → Bool) (B : Nat) : ∀ k, (∀ i, i < k → (D i).length ≤ B) → ∀ j, ((rootL D Q k).getD j []).length ≤ B
 | 0, _, j => by rw [rootL]; simp
 | k + 1, h, j => by
  have ih := rootL_small D Q B k (fun i hi => h i (by omega)) j
  rw [rootL]; split
  ·rcases Nat.lt_trichotomy j (rootL D Q k).length with h1 | h1 | h1
   ·rw [at_left _ _ h1]; exact ih
   ·rw [h1, at_right]; exact h k (by omega)
   ·rw [List.getD_eq_getElem?_getD, List.getElem?_eq_none (by simp; omega)]; simp
  ·exact ih

theorem RootsInField_both (kp : Int) (kl F : List Int) (_ : inR kp) (hkl : kl.length ≤ 1048576) (hF : F.length ≤ 1048576) : ∃ (r0 : List (List Int)) (r1 : Int),
  (∀ g0 g1 : Option Nat, FnV 39 [vK kp g0 kl, .ints g1 F] (.tup [vLL r0, .int .i64 r1])) ∧ (∀ g0 g1 : Option Nat, FnT Tryz.prog 40 [vK kp g0 kl, .ints g1 F] (RTS r0 r1)) ∧ r0.length ≤ 100000 ∧ (∀ j, (r0.getD j []).length ≤ 100000) := by
 by_cases hk : IsFld kp kl
 case neg =>
  have hc : codeEl kp kl (bP (IsMod kp F)) 0 (fun _ => []) = 1 := by unfold codeEl; rw [bP_false hk]; rfl
  refine ⟨[], 1, fun g0 g1 => ?_, fun g0 g1 => ?_, by simp, by simp⟩
  ·refine fn_of (cx_ok [0, 1, 2, 4, 5, 6, 7, 8, 11, 16, 19, 24, 35]) Tryz.func39 rfl (by decide) Tryz.ntmps39 (Nat.le_of_ble_eq_true rfl) fun base => ?_
   refine W.rs (cx_ok _) (by rfl) fun K hK => ?_
   conv => whnf
   refine ⟨rfl, ?_⟩
   conv => whnf
   intro b_1 hs_1 hh_1 hf_1
   try dsimp only at hh_1 hf_1
   conv => whnf
   refine hK _ ?_
   clear hK K
   refine W.seqK fun K1 hK1 => ?_
   refine W.rs (cx_ok _) (by rfl) fun K hK => ?_
   conv => whnf
   refine callV rfl ((isFieldS_fn kp g0 kl (by omega)).fa (bP_false hk)) fun hs' hhs => ?_
   try dsimp only at hhs
   conv => whnf
   refine hK _ (W.condT rfl ?_)
   clear hK K
   refine W.rs (cx_ok _) (by rfl) fun K hK => ?_
   conv => whnf
   refine hK _ ?_
   clear hK K
   refine W.ret ?_
   conv => whnf
   exact ⟨.v (vLL []), rfl, ⟨trivial, fun _ _ => trivial⟩, .v (.int .i64 1), ⟨rfl, rfl⟩, trivial, rfl⟩
  ·refine fnt_of (cxt_ok [] [0, 1, 2, 4, 5, 6, 7, 8, 9, 17, 21, 23, 24, 25, 36, 1000000]) Tryz.func40 rfl (by decide) Tryz.ntmps40 (Nat.le_of_ble_eq_true rfl) (fun base => ?_) (Nat.le_of_ble_eq_true rfl)
   refine W.sw (c' := cx [0, 1, 2, 4, 5, 6, 7, 8, 9, 17, 21, 23, 24, 25, 36, 1000000]) ?_
   refine W.rs (cx_ok _) (by rfl) fun K hK => ?_
   conv => whnf
   refine ⟨rfl, ?_⟩
   conv => whnf
   intro b_1 hs_1 hh_1 hf_1
   try dsimp only at hh_1 hf_1
   conv => whnf
   refine hK _ ?_
   clear hK K
   refine W.seqK fun K1 hK1 => ?_
   refine W.rd (cx_ok _) follows (by rfl) fun K hK => ?_
   conv => whnf
   refine ⟨_, cxF (isModular_fn g1 kp F), ?_⟩
   conv => whnf
   refine ⟨_, cxF (elements_bool kp g0 none kl _ 0 _ (fun _ => []) (by omega) (by omega) (fun i hi => by omega)), ?_⟩
   conv => whnf
   rw [hc]
   refine hK _ ?_
   clear hK K
   refine W.rs (cx_ok _) (by rfl) fun K hK => ?_
   conv => whnf
   refine hK _ (W.cond ⟨fun _ => ?_, fun hcc => absurd (by decide : (1 : Int) ≠ 0) (of_decide_eq_false hcc)⟩)
   clear hK K
   refine W.rs (cx_ok _) (by rfl) fun K hK => ?_
   conv => whnf
   refine hK _ ?_
   clear hK K
   refine W.ret ?_
   conv => whnf
   exact ⟨.v (vRF [] fun _ => 0), rfl, ⟨trivial, fun _ _ => trivial⟩, .v (.int .i64 1), ⟨rfl, rfl⟩, trivial, fun _ => 0, rfl, fun j hj => absurd hj (Nat.not_lt_zero j), fun i j hi => absurd hi (Nat.not_lt_zero i)⟩
 have hkk := hk
 obtain ⟨hp, f, rfl, hi, _, _, hf9⟩ := fld_poly hk
 letI := sp_of hp
 have hp1 := primes_le hp
 have hfl : f.l.length = dg f := rfl
 by_cases he : IsMod kp F
 case neg =>
  have hc : codeEl kp f.l (bP (IsMod kp F)) 0 (fun _ => []) = 2 := by unfold codeEl; rw [bP_true hk, bP_false he]; rfl
  refine ⟨[], 2, fun g0 g1 => ?_, fun g0 g1 => ?_, by simp, by simp⟩
  ·refine fn_of (cx_ok [0, 1, 2, 4, 5, 6, 7, 8, 11, 16, 19, 24, 35]) Tryz.func39 rfl (by decide) Tryz.ntmps39 (Nat.le_of_ble_eq_true rfl) fun base => ?_
   refine W.rs (cx_ok _) (by rfl) fun K hK => ?_
   conv => whnf
   refine ⟨rfl, ?_⟩
   conv => whnf
   intro b_1 hs_1 hh_1 hf_1
   try dsimp only at hh_1 hf_1
   conv => whnf
   refine hK _ ?_
   clear hK K
   refine W.seqK fun K1 hK1 => ?_
   refine W.rs (cx_ok _) (by rfl) fun K hK => ?_
   conv => whnf
   refine callV rfl ((isFieldS_fn kp g0 f.l (by omega)).tr (bP_true hkk)) fun hs' hhs => ?_
   try dsimp only at hhs
   conv => whnf
   refine hK _ (W.condF rfl (W.skip (hK1 _ ?_)))
   clear hK K hK1 K1
   refine W.seqK fun K1 hK1 => ?_
   refine W.rs (cx_ok _) (by rfl) fun K hK => ?_
   conv => whnf
   refine callV rfl ((isModS_fn g1 kp F (by omega)).fa (bP_false he)) fun hs' hhs => ?_
   try dsimp only at hhs
   conv => whnf
   refine hK _ (W.condT rfl ?_)
   clear hK K
   refine W.rs (cx_ok _) (by rfl) fun K hK => ?_
   conv => whnf
   refine hK _ ?_
   clear hK K
   refine W.ret ?_
   conv => whnf
   exact ⟨.v (vLL []), rfl, ⟨trivial, fun _ _ => trivial⟩, .v (.int .i64 2), ⟨rfl, rfl⟩, trivial, rfl⟩
  ·refine fnt_of (cxt_ok [] [0, 1, 2, 4, 5, 6, 7, 8, 9, 17, 21, 23, 24, 25, 36, 1000000]) Tryz.func40 rfl (by decide) Tryz.ntmps40 (Nat.le_of_ble_eq_true rfl) (fun base => ?_) (Nat.le_of_ble_eq_true rfl)
   refine W.sw (c' := cx [0, 1, 2, 4, 5, 6, 7, 8, 9, 17, 21, 23, 24, 25, 36, 1000000]) ?_
   refine W.rs (cx_ok _) (by rfl) fun K hK => ?_
   conv => whnf
   refine ⟨rfl, ?_⟩
   conv => whnf
   intro b_1 hs_1 hh_1 hf_1
   try dsimp only at hh_1 hf_1
   conv => whnf
   refine hK _ ?_
   clear hK K
   refine W.seqK fun K1 hK1 => ?_
   refine W.rd (cx_ok _) follows (by rfl) fun K hK => ?_
   conv => whnf
   refine ⟨_, cxF (isModular_fn g1 kp F), ?_⟩
   conv => whnf
   refine ⟨_, cxF (elements_bool kp g0 none f.l _ 0 _ (fun _ => []) (by omega) (by omega) (fun i hi => by omega)), ?_⟩
   conv => whnf
   rw [hc]
   refine hK _ ?_
   clear hK K
   refine W.rs (cx_ok _) (by rfl) fun K hK => ?_
   conv => whnf
   refine hK _ (W.cond ⟨fun _ => ?_, fun hcc => absurd (by decide : (2 : Int) ≠ 0) (of_decide_eq_false hcc)⟩)
   clear hK K
   refine W.rs (cx_ok _) (by rfl) fun K hK => ?_
   conv => whnf
   refine hK _ ?_
   clear hK K
   refine W.ret ?_
   conv => whnf
   exact ⟨.v (vRF [] fun _ => 0), rfl, ⟨trivial, fun _ _ => trivial⟩, .v (.int .i64 2), ⟨rfl, rfl⟩, trivial, fun _ => 0, rfl, fun j hj => absurd hj (Nat.not_lt_zero j), fun i j hi => absurd hi (Nat.not_lt_zero i)⟩
 have hc : codeEl kp f.l (bP (IsMod kp F)) 0 (fun _ => []) = 0 := by unfold codeEl; rw [bP_true hk, bP_true he, bP_true (fun i hi => by omega)]; rfl
 have he2 := he
 have he9 := he.2.1
 obtain ⟨F, rfl⟩ := mod_poly he
 have hFl : F.l.length = dg F := rfl
 by_cases hF0 : dg F = 0
 ·refine ⟨[], 5, fun g0 g1 => ?_, fun g0 g1 => ?_, by simp, by simp⟩
  ·refine fn_of (cx_ok [0, 1, 2, 4, 5, 6, 7, 8, 11, 16, 19, 24, 35]) Tryz.func39 rfl (by decide) Tryz.ntmps39 (Nat.le_of_ble_eq_true rfl) fun base => ?_
   refine W.rs (cx_ok _) (by rfl) fun K hK => ?_
   conv => whnf
   refine ⟨rfl, ?_⟩
   conv => whnf
   intro b_1 hs_1 hh_1 hf_1
   try dsimp only at hh_1 hf_1
   conv => whnf
   refine hK _ ?_
   clear hK K
   refine W.seqK fun K1 hK1 => ?_
   refine W.rs (cx_ok _) (by rfl) fun K hK => ?_
   conv => whnf
   refine callV rfl ((isFieldS_fn kp g0 f.l (by omega)).tr (bP_true hkk)) fun hs' hhs => ?_
   try dsimp only at hhs
   conv => whnf
   refine hK _ (W.condF rfl (W.skip (hK1 _ ?_)))
   clear hK K hK1 K1
   refine W.seqK fun K1 hK1 => ?_
   refine W.rs (cx_ok _) (by rfl) fun K hK => ?_
   conv => whnf
   refine callV rfl ((isModS_fn g1 kp F.l (by omega)).tr (bP_true he2)) fun hs' hhs => ?_
   try dsimp only at hhs
   conv => whnf
   refine hK _ (W.condF rfl (W.skip (hK1 _ ?_)))
   clear hK K hK1 K1
   refine W.seqK fun K1 hK1 => ?_
   refine W.rs (cx_ok _) (by rfl) fun K hK => ?_
   conv => whnf
   refine hK _ (W.cond ⟨fun _ => ?_, fun h4 => absurd (of_decide_eq_false h4) (by omega)⟩)
   clear hK K
   refine W.rs (cx_ok _) (by rfl) fun K hK => ?_
   conv => whnf
   refine hK _ ?_
   clear hK K
   refine W.ret ?_
   conv => whnf
   exact ⟨.v (vLL []), rfl, ⟨trivial, fun _ _ => trivial⟩, .v (.int .i64 5), ⟨rfl, rfl⟩, trivial, rfl⟩
  ·refine fnt_of (cxt_ok [] [0, 1, 2, 4, 5, 6, 7, 8, 9, 17, 21, 23, 24, 25, 36, 1000000]) Tryz.func40 rfl (by decide) Tryz.ntmps40 (Nat.le_of_ble_eq_true rfl) (fun base => ?_) (Nat.le_of_ble_eq_true rfl)
   refine W.sw (c' := cx [0, 1, 2, 4, 5, 6, 7, 8, 9, 17, 21, 23, 24, 25, 36, 1000000]) ?_
   refine W.rs (cx_ok _) (by rfl) fun K hK => ?_
   conv => whnf
   refine ⟨rfl, ?_⟩
   conv => whnf
   intro b_1 hs_1 hh_1 hf_1
   try dsimp only at hh_1 hf_1
   conv => whnf
   refine hK _ ?_
   clear hK K
   refine W.seqK fun K1 hK1 => ?_
   refine W.rd (cx_ok _) follows (by rfl) fun K hK => ?_
   conv => whnf
   refine ⟨_, cxF (isModular_fn g1 kp F.l), ?_⟩
   conv => whnf
   refine ⟨_, cxF (elements_bool kp g0 none f.l _ 0 _ (fun _ => []) (by omega) (by omega) (fun i hi => by omega)), ?_⟩
   conv => whnf
   rw [hc]
   refine hK _ ?_
   clear hK K
   refine W.rs (cx_ok _) (by rfl) fun K hK => ?_
   conv => whnf
   refine hK _ (W.cond ⟨fun hcc => absurd rfl (of_decide_eq_true hcc), fun _ => W.skip (hK1 _ ?_)⟩)
   clear hK K hK1 K1
   refine W.seqK fun K1 hK1 => ?_
   refine W.rs (cx_ok _) (by rfl) fun K hK => ?_
   conv => whnf
   refine hK _ (W.cond ⟨fun _ => ?_, fun h4 => absurd (of_decide_eq_false h4) (by omega)⟩)
   clear hK K
   refine W.rs (cx_ok _) (by rfl) fun K hK => ?_
   conv => whnf
   refine hK _ ?_
   clear hK K
   refine W.ret ?_
   conv => whnf
   exact ⟨.v (vRF [] fun _ => 0), rfl, ⟨trivial, fun _ _ => trivial⟩, .v (.int .i64 5), ⟨rfl, rfl⟩, trivial, fun _ => 0, rfl, fun j hj => absurd hj (Nat.not_lt_zero j), fun i j hi => absurd hi (Nat.not_lt_zero i)⟩
 have h2 := hi.1
 have hf0 := hi.ne
 obtain ⟨d, hd⟩ : ∃ d, dg f = d + 1 := ⟨dg f - 1, by omega⟩
 obtain ⟨hq1, hq2, hq3⟩ := fld_q hk hd
 have hpd : ∀ {k : Nat}, k < kp.toNat ^ d → dg (polyN kp k) < dg f := fun {k} h => by have := polyN_dg (p := kp) h; omega
 have hnl : ∀ k : Nat, dig kp.toNat k = (polyN kp k).l := fun k => (polyN_l k).symm
 generalize kp.toNat ^ d = q at hq1 hq2 hq3 hpd
 have hE := fun X : Poly kp => valN_lt (F := F) (X := X) hf0 h2 (dg F)
 obtain ⟨D, hD⟩ : ∃ D : Nat → List Int, D = fun k => (polyN kp k).l := ⟨_, rfl⟩
 obtain ⟨Q, hQ⟩ : ∃ Q : Nat → Bool, Q = fun k => decide (((valN f F (polyN kp k) (dg F)).l.length : Int) = 0) := ⟨_, rfl⟩
 have hDk : ∀ k, (polyN kp k).l = D k := fun k => by rw [hD]
 have hQk : ∀ k, decide (((valN f F (polyN kp k) (dg F)).l.length : Int) = 0) = Q k := fun k => by rw [hQ]
 have hsm := rootL_small D Q 9 q (fun i hi => by rw [← hDk]; have := hpd hi; show dg _ ≤ _; omega)
 have hrl := rootL_len D Q q
 refine ⟨rootL D Q q, 0, fun g0 g1 => ?_, fun g0 g1 => ?_, by omega, fun j => Nat.le_trans (hsm j) (by omega)⟩
 ·refine fn_of (cx_ok [0, 1, 2, 4, 5, 6, 7, 8, 11, 16, 19, 24, 35]) Tryz.func39 rfl (by decide) Tryz.ntmps39 (Nat.le_of_ble_eq_true rfl) fun base => ?_
  refine W.rs (cx_ok _) (by rfl) fun K hK => ?_
  conv => whnf
  refine ⟨rfl, ?_⟩
  conv => whnf
  intro b_1 hs_1 hh_1 hf_1
  try dsimp only at hh_1 hf_1
  conv => whnf
  refine hK _ ?_
  clear hK K
  refine W.seqK fun K1 hK1 => ?_
  refine W.rs (cx_ok _) (by rfl) fun K hK => ?_
  conv => whnf
  refine callV rfl ((isFieldS_fn kp g0 f.l (by omega)).tr (bP_true hkk)) fun hs' hhs => ?_
  try dsimp only at hhs
  conv => whnf
  refine hK _ (W.condF rfl (W.skip (hK1 _ ?_)))
  clear hK K hK1 K1
  refine W.seqK fun K1 hK1 => ?_
  refine W.rs (cx_ok _) (by rfl) fun K hK => ?_
  conv => whnf
  refine callV rfl ((isModS_fn g1 kp F.l (by omega)).tr (bP_true he2)) fun hs' hhs => ?_
  try dsimp only at hhs
  conv => whnf
  refine hK _ (W.condF rfl (W.skip (hK1 _ ?_)))
  clear hK K hK1 K1
  refine W.seqK fun K1 hK1 => ?_
  refine W.rs (cx_ok _) (by rfl) fun K hK => ?_
  conv => whnf
  refine hK _ (W.cond ⟨fun h4 => absurd (of_decide_eq_true h4) (by omega), fun _ => W.skip (hK1 _ ?_)⟩)
  clear hK K hK1 K1
  refine W.rs (cx_ok _) (by rfl) fun K hK => ?_
  conv => whnf
  refine ⟨⟨rfl, by decide, fun x hx => by simp at hx⟩, ?_⟩
  conv => whnf
  intro b_3 hs_3 hh_3 hf_3
  try dsimp only at hh_3 hf_3
  conv => whnf
  refine hK _ ?_
  clear hK K
  refine W.seqK fun K1 hK1 => ?_
  refine W.rs (cx_ok _) (by rfl) fun K hK => ?_
  conv => whnf
  refine hK _ (W.block (W.invE (fun m e => ∃ (k b : Nat) (L : List (List Int)), k ≤ q ∧ L = rootL D Q k ∧ m = q - k ∧ e = [(1, .v (.ints g1 F.l)), (2, .ownB b_1 (vK kp g0 f.l)), (6, .ownV 22 1 b L.length fun i => .ints none (L.getD i [])), (7, .v (.int .i64 k))]) _ _ ⟨0, b_3, [], Nat.zero_le _, rfl, rfl, rfl⟩ (by dsimp only; omega) (by repeat' first | refine And.intro ?_ ?_ | exact trivial | rfl | omega | exact fun _ _ => rfl | exact fun i hi => absurd hi (Nat.not_lt_zero i)) ?_))
  clear hK K
  rintro m e ⟨k, b, L, hkq, hL, hm, rfl⟩
  have hLl := rootL_len D Q k
  rw [← hL] at hLl
  refine W.seqK fun K7 hK7 => ?_
  refine W.rs (cx_ok _) (by rfl) fun K hK => ?_
  conv => whnf
  refine callV rfl (l17Size_fn kp g0 f.l hk) fun hs' hhs => ?_
  try dsimp only at hhs
  conv => whnf
  rw [hq1]
  refine hK _ (W.cond ⟨fun h => ?_, fun h => ?_⟩) <;> clear hK K
  ·have h := of_decide_eq_true h
   have hP := hpd (k := k) (by omega)
   have hQq := hQk k
   refine W.skip (hK7 _ ?_)
   clear hK7 K7
   refine W.seqK fun K8 hK8 => W.block ?_
   refine W.rs (cx_ok _) (by rfl) fun K hK => ?_
   conv => whnf
   refine callV rfl (l17With_fn kp g0 f.l k (by omega) (by omega)) fun hs' hhs => ?_
   try dsimp only at hhs
   conv => whnf
   rw [hnl k]
   refine hK _ ?_
   clear hK K
   refine W.rs (cx_ok _) (by rfl) fun K hK => ?_
   conv => whnf
   refine callV rfl (l18Value_fn kp g0 g1 none f F (polyN kp k) (by omega) (by omega) (by omega) h2 hf0) fun hs' hhs => ?_
   try dsimp only at hhs
   conv => whnf
   rw [hQq, hDk k]
   refine hK _ (W.cond ⟨fun h5 => ?_, fun h5 => ?_⟩) <;> clear hK K
   ·have e1 : rootL D Q (k + 1) = L ++ [D k] := by rw [rootL, if_pos h5, hL]
    have hlen : (L ++ [D k]).length = L.length + 1 := by simp
    refine W.region (cx_ok _) (by rfl) ?_
    conv => whnf
    refine ⟨⟨rfl, by decide, fun x hx => by simp at hx; subst hx; exact ⟨rfl, rfl⟩⟩, ?_⟩
    conv => whnf
    intro b_4 hs_4 hh_4 hf_4
    try dsimp only at hh_4 hf_4
    conv => whnf
    refine ⟨by omega, ?_⟩
    conv => whnf
    refine ⟨fun i => .ints none ((L ++ [D k]).getD i []), fun i hi => ?_, fun i hi => ?_, ?_⟩
    ·show V.ints none _ = V.ints none _
     rw [at_left L _ hi]
    ·obtain rfl : i = 0 := by omega
     show V.ints none ((L ++ [D k]).getD L.length []) = V.ints none (D k)
     rw [at_right]
    intro b_5 hs_5 hh_5 hf_5
    try dsimp only at hh_5 hf_5
    conv => whnf
    refine hK8 _ ?_
    clear hK8 K8
    refine W.region (cx_ok _) (by rfl) ?_
    conv => whnf
    refine ⟨by constructor <;> omega, ?_⟩
    conv => whnf
    refine ⟨_, _, ⟨k + 1, b_5, L ++ [D k], by omega, e1.symm, rfl, rfl⟩, by omega, by dsimp only; omega, ?_⟩
    repeat' first | refine And.intro ?_ ?_ | exact trivial | rfl | omega | exact fun _ _ => rfl
   ·have e1 : rootL D Q (k + 1) = L := by rw [rootL, if_neg (by rw [h5]; decide), hL]
    refine W.skip (hK8 _ ?_)
    clear hK8 K8
    refine W.region (cx_ok _) (by rfl) ?_
    conv => whnf
    refine ⟨by constructor <;> omega, ?_⟩
    conv => whnf
    refine ⟨_, _, ⟨k + 1, b, L, by omega, e1.symm, rfl, rfl⟩, by omega, by dsimp only; omega, ?_⟩
    repeat' first | refine And.intro ?_ ?_ | exact trivial | rfl | omega | exact fun _ _ => rfl
  ·have h := of_decide_eq_false h
   obtain rfl : k = q := by omega
   subst hL
   refine W.exit (hK1 _ ?_)
   clear hK7 K7 hK1 K1
   refine W.rs (cx_ok _) (by rfl) fun K hK => ?_
   conv => whnf
   refine hK _ ?_
   clear hK K
   refine W.ret ?_
   conv => whnf
   exact ⟨.v (vLL (rootL D Q k)), ⟨rfl, rfl, rfl, fun _ _ => rfl⟩, ⟨trivial, fun _ _ => trivial⟩, .v (.int .i64 0), ⟨rfl, rfl⟩, trivial, rfl⟩
 ·refine fnt_of (cxt_ok [] [0, 1, 2, 4, 5, 6, 7, 8, 9, 17, 21, 23, 24, 25, 36, 1000000]) Tryz.func40 rfl (by decide) Tryz.ntmps40 (Nat.le_of_ble_eq_true rfl) (fun base => ?_) (Nat.le_of_ble_eq_true rfl)
  refine W.sw (c' := cx [0, 1, 2, 4, 5, 6, 7, 8, 9, 17, 21, 23, 24, 25, 36, 1000000]) ?_
  refine W.rs (cx_ok _) (by rfl) fun K hK => ?_
  conv => whnf
  refine ⟨rfl, ?_⟩
  conv => whnf
  intro b_1 hs_1 hh_1 hf_1
  try dsimp only at hh_1 hf_1
  conv => whnf
  refine hK _ ?_
  clear hK K
  refine W.seqK fun K1 hK1 => ?_
  refine W.rd (cx_ok _) follows (by rfl) fun K hK => ?_
  conv => whnf
  refine ⟨_, cxF (isModular_fn g1 kp F.l), ?_⟩
  conv => whnf
  refine ⟨_, cxF (elements_bool kp g0 none f.l _ 0 _ (fun _ => []) (by omega) (by omega) (fun i hi => by omega)), ?_⟩
  conv => whnf
  rw [hc]
  refine hK _ ?_
  clear hK K
  refine W.rs (cx_ok _) (by rfl) fun K hK => ?_
  conv => whnf
  refine hK _ (W.cond ⟨fun hcc => absurd rfl (of_decide_eq_true hcc), fun _ => W.skip (hK1 _ ?_)⟩)
  clear hK K hK1 K1
  refine W.seqK fun K1 hK1 => ?_
  refine W.rs (cx_ok _) (by rfl) fun K hK => ?_
  conv => whnf
  refine hK _ (W.cond ⟨fun h4 => absurd (of_decide_eq_true h4) (by omega), fun _ => W.skip (hK1 _ ?_)⟩)
  clear hK K hK1 K1
  refine W.sw (c' := cxt [] [0, 1, 2, 4, 5, 6, 7, 8, 9, 17, 21, 23, 24, 25, 36, 1000000]) ?_
  refine W.rs (cxt_ok _ _) (by rfl) fun K hK => ?_
  conv => whnf
  refine hK _ ?_
  clear hK K
  refine W.seqK fun K1 hK1 => ?_
  refine W.rs (cxt_ok _ _) (by rfl) fun K hK => ?_
  conv => whnf
  refine callV rfl (order_fn kp g0 f.l (by omega) (by omega) (by omega) (by omega)) fun hs' hhs => ?_
  try dsimp only at hhs
  conv => whnf
  rw [hq1]
  refine hK _ (W.block (W.invE (fun m e => ∃ (k b : Nat) (bs : Nat → Nat) (tb : Tab) (L : List (List Int)), k ≤ q ∧ L = rootL D Q k ∧ (∀ j, j < L.length → L.getD j [] ≠ [] → tb (bs j) = some (L.getD j [])) ∧ (∀ i j, i < L.length → j < L.length → i ≠ j → L.getD i [] ≠ [] → L.getD j [] ≠ [] → bs i ≠ bs j) ∧ m = q - k ∧ e = [(vt, .tab tb), (1, .v (.ints g1 F.l)), (2, .ownB b_1 (vK kp g0 f.l)), (7, .ownV 22 1 b L.length fun i => .rf (bs i) (L.getD i []).length), (23, .v (.int .i64 (q : Nat))), (24, .v (.int .i64 k))]) _ _ ⟨0, 0, fun _ => 0, _, [], Nat.zero_le _, rfl, fun j hj => absurd hj (Nat.not_lt_zero j), fun i j hi => absurd hi (Nat.not_lt_zero i), rfl, rfl⟩ (by dsimp only; omega) (by repeat' first | refine And.intro ?_ ?_ | exact trivial | rfl | omega | exact fun _ _ h => h | decide) ?_))
  clear hK K
  rintro m e ⟨k, b, bs, tb, L, hkq, hL, h3, h4, hm, rfl⟩
  have hLl := rootL_len D Q k
  rw [← hL] at hLl
  refine W.rs (cxt_ok _ _) (by rfl) fun K hK => ?_
  conv => whnf
  refine hK _ ?_
  clear hK K
  refine W.seqK fun K7 hK7 => W.cond ⟨fun h => ?_, fun h => ?_⟩ <;> (first | replace h := of_decide_eq_true h | replace h := of_decide_eq_false h)
  ·have hP := hpd (k := k) (by omega)
   have hQq := hQk k
   have hPl : (polyN kp k).l.length = dg (polyN kp k) := rfl
   refine W.skip (hK7 _ ?_)
   clear hK7 K7
   refine W.seqK fun K8 hK8 => W.block ?_
   refine W.rs (cxt_ok _ _) (by rfl) fun K hK => ?_
   conv => whnf
   refine hK _ ?_
   clear hK K
   refine W.tick rfl fun hs9 hhs9 hbb => ?_
   dsimp only at hhs9
   refine W.rs (cxt_ok _ _) (by rfl) fun K hK => ?_
   conv => whnf
   refine callI rfl (withNumber_p kp k (by omega) (by omega)) fun hs_3 b_3 hh_3 hf_3 => ?_
   try dsimp only at hh_3 hf_3
   conv => whnf
   rw [hnl k] at hf_3
   rw [hnl k]
   refine hK _ ?_
   clear hK K
   refine W.rs (cxt_ok _ _) (by rfl) fun K hK => ?_
   conv => whnf
   refine callV rfl (R1w (kValue_T kp g0 g1 (some b_3) f F (polyN kp k) (by omega) (by omega) (by omega) h2 hf0)) fun hs' hhs => ?_
   try dsimp only at hhs
   conv => whnf
   rw [hQq, hDk k]
   rw [hDk k] at hf_3
   refine hK _ (W.cond ⟨fun h5 => ?_, fun h5 => ?_⟩) <;> clear hK K
   ·have e1 : rootL D Q (k + 1) = L ++ [D k] := by rw [rootL, if_pos h5, hL]
    have hlen : (L ++ [D k]).length = L.length + 1 := by simp
    refine W.region (cxt_ok _ _) (by rfl) ?_
    conv => whnf
    refine ⟨⟨rfl, by decide, fun x hx => by simp at hx; subst hx; exact ⟨rfl, rfl⟩⟩, ?_⟩
    conv => whnf
    intro b_4 hs_4 hh_4 hf_4
    try dsimp only at hh_4 hf_4
    conv => whnf
    refine ⟨by omega, ?_⟩
    conv => whnf
    refine ⟨fun i => .rf (if i = L.length then b_3 else bs i) ((L ++ [D k]).getD i []).length, fun i hi => ?_, fun i hi => ?_, ?_⟩
    ·show V.rf (if i = L.length then b_3 else bs i) _ = V.rf (bs i) _
     rw [if_neg (by omega), at_left L _ hi]
    ·obtain rfl : i = 0 := by omega
     show V.rf (if L.length + 0 = L.length then b_3 else bs (L.length + 0)) ((L ++ [D k]).getD L.length []).length = V.rf b_3 (D k).length
     rw [Nat.add_zero, if_pos rfl, at_right]
    intro b_5 hs_5 hh_5 hf_5
    try dsimp only at hh_5 hf_5
    conv => whnf
    refine hK8 _ ?_
    clear hK8 K8
    refine W.region (cxt_ok _ _) (by rfl) ?_
    conv => whnf
    refine ⟨by constructor <;> omega, ?_⟩
    conv => whnf
    refine ⟨_, _, ⟨k + 1, b_5, fun i => if i = L.length then b_3 else bs i, tbAdd tb b_3 (D k), L ++ [D k], by omega, e1.symm, fun j hj hne => ?_, fun i j hi hj hij hne hne' => ?_, rfl, rfl⟩, by omega, by dsimp only; omega, ?_⟩
    ·show tbAdd tb b_3 (D k) (if j = L.length then b_3 else bs j) = _
     by_cases h6 : j = L.length
     ·subst h6
      rw [at_right] at hne ⊢
      rw [if_pos rfl]
      exact tbAdd_self _ _ hne
     ·rw [at_left L _ (by omega)] at hne ⊢
      rw [if_neg h6]
      refine (tbAdd_ne _ _ ?_).trans (h3 j (by omega) hne)
      by_cases h7 : D k = []
      ·exact .inl h7
      ·exact .inr fun e => by
        have k1 := hf_3 h7
        have k2 := hbb (bs j) (by rw [h3 j (by omega) hne]; simp)
        omega
    ·show (if i = L.length then b_3 else bs i) ≠ (if j = L.length then b_3 else bs j)
     by_cases h6 : i = L.length
     ·rw [if_pos h6, if_neg (by omega)]
      rw [h6, at_right] at hne
      rw [at_left L _ (by omega)] at hne'
      exact fun e => by
       have k1 := hf_3 hne
       have k2 := hbb (bs j) (by rw [h3 j (by omega) hne']; simp)
       omega
     ·rw [if_neg h6]
      rw [at_left L _ (by omega)] at hne
      by_cases h7 : j = L.length
      ·rw [if_pos h7]
       rw [h7, at_right] at hne'
       exact fun e => by
        have k1 := hf_3 hne'
        have k2 := hbb (bs i) (by rw [h3 i (by omega) hne]; simp)
        omega
      ·rw [if_neg h7]
       rw [at_left L _ (by omega)] at hne'
       exact h4 i j (by omega) (by omega) hij hne hne'
    ·repeat' first | refine And.intro ?_ ?_ | exact trivial | rfl | omega | exact fun _ _ => rfl | exact fun _ _ h => h
   ·have e1 : rootL D Q (k + 1) = L := by rw [rootL, if_neg (by rw [h5]; decide), hL]
    refine W.skip (hK8 _ ?_)
    clear hK8 K8
    refine W.region (cxt_ok _ _) (by rfl) ?_
    conv => whnf
    refine ⟨by constructor <;> omega, ?_⟩
    conv => whnf
    refine ⟨_, _, ⟨k + 1, b, bs, tb, L, by omega, e1.symm, h3, h4, rfl, rfl⟩, by omega, by dsimp only; omega, ?_⟩
    repeat' first | refine And.intro ?_ ?_ | exact trivial | rfl | omega | exact fun _ _ => rfl | exact fun _ _ h => h
  ·obtain rfl : k = q := by omega
   subst hL
   refine W.exit (hK1 _ ?_)
   clear hK7 K7 hK1 K1
   refine W.rs (cxt_ok _ _) (by rfl) fun K hK => ?_
   conv => whnf
   refine hK _ ?_
   clear hK K
   refine W.ret ?_
   conv => whnf
   exact ⟨.v (vRF (rootL D Q k) bs), ⟨rfl, rfl, rfl, fun _ _ => rfl⟩, ⟨trivial, fun _ _ => trivial⟩, .v (.int .i64 0), ⟨rfl, rfl⟩, trivial, bs, rfl, h3, h4⟩

open Go Go.RowKit Go.Proofs Poly
set_option maxRecDepth 100000
set_option maxHeartbeats 8000000

theorem conjugates_fn (p : Int) [SP p] (g g1 : Option Nat) (f X : Poly p) (hf : dg f ≤ 500) (hf0 : f ≠ 0) (hX : dg X < dg f) (n : Nat) (hn : Per f X n) (hn2 : n ≤ 1000) :
  FnV 123 [vK p g f.l, .ints g1 X.l] (vCon f X n) :=
 (conjugates_T p g g1 f X hf hf0 hX n hn hn2).toV fun _ _ _ _ ⟨_, hx, h1, _⟩ => by subst hx; exact ⟨_, rfl, rfl, fun i hi => ⟨(frN f X i).l, rfl, h1 i hi, rfl⟩⟩

noncomputable def mpN {p : Int} [SP p] (f X : Poly p) : Nat → Nat → Poly p
 | 0, 0 => 1
 | 0, _ + 1 => 0
 | k + 1, 0 => 0 - rem (mpN f X k 0 * frN f X k) f
 | k + 1, j + 1 => mpN f X k j - rem (mpN f X k (j + 1) * frN f X k) f
noncomputable def mpS {p : Int} [SP p] (f X : Poly p) (k : Nat) : Nat → Poly p
 | 0 => 0
 | j + 1 => mpN f X k j
theorem mpN_succ {p : Int} [SP p] (f X : Poly p) (k j : Nat) : mpN f X (k + 1) j = mpS f X k j - rem (mpN f X k j * frN f X k) f := by cases j <;> rfl
theorem rem_zero {p : Int} [SP p] {f : Poly p} (hf0 : f ≠ 0) (Y : Poly p) : rem (0 * Y) f = 0 := by
 rw [show (0 : Poly p) * Y = 0 from ring [Y] (by rfl)]
 refine rem_small ?_
 rw [dg_zero]
 have : dg f ≠ 0 := fun e => hf0 (dg_eq_zero.1 e)
 omega
theorem mpN_zero {p : Int} [SP p] {f : Poly p} (hf0 : f ≠ 0) (X : Poly p) : ∀ k j, k < j → mpN f X k j = 0
 | 0, _ + 1, _ => rfl
 | k + 1, j + 1, h => by
  show mpN f X k j - rem (mpN f X k (j + 1) * frN f X k) f = 0
  rw [mpN_zero hf0 X k j (by omega), mpN_zero hf0 X k (j + 1) (by omega), rem_zero hf0]
  exact ring [] (by rfl)
theorem mpN_top {p : Int} [SP p] {f : Poly p} (hf0 : f ≠ 0) (X : Poly p) (k : Nat) : mpN f X (k + 1) (k + 1) = mpN f X k k := by
 show mpN f X k k - rem (mpN f X k (k + 1) * frN f X k) f = _
 rw [mpN_zero hf0 X k (k + 1) (by omega), rem_zero hf0]
 exact ring [mpN f X k k] (by rfl)
theorem mpN_lt {p : Int} [SP p] {f : Poly p} (hf0 : f ≠ 0) (h2 : 2 ≤ dg f) (X : Poly p) : ∀ k j, dg (mpN f X k j) < dg f
 | 0, 0 => by show dg (1 : Poly p) < _; rw [dg_one]; omega
 | 0, _ + 1 => by show dg (0 : Poly p) < _; rw [dg_zero]; omega
 | k + 1, 0 => by
  have h1 := dg_sub 0 (rem (mpN f X k 0 * frN f X k) f)
  have h3 := rem_lt (mpN f X k 0 * frN f X k) hf0
  rw [dg_zero] at h1
  show dg (0 - rem (mpN f X k 0 * frN f X k) f) < _; omega
 | k + 1, j + 1 => by
  have h1 := dg_sub (mpN f X k j) (rem (mpN f X k (j + 1) * frN f X k) f)
  have h3 := rem_lt (mpN f X k (j + 1) * frN f X k) hf0
  have h4 := mpN_lt hf0 h2 X k j
  show dg (mpN f X k j - rem (mpN f X k (j + 1) * frN f X k) f) < _; omega
theorem mpS_lt {p : Int} [SP p] {f : Poly p} (hf0 : f ≠ 0) (h2 : 2 ≤ dg f) (X : Poly p) (k : Nat) : ∀ j, dg (mpS f X k j) < dg f
 | 0 => by show dg (0 : Poly p) < _; rw [dg_zero]; omega
 | j + 1 => mpN_lt hf0 h2 X k j

noncomputable def mpL {p : Int} [SP p] (f X : Poly p) (n k : Nat) : List Int := mkL k fun j => cf (mpN f X n j).l 0
noncomputable def vMp {p : Int} [SP p] (f X : Poly p) (k : Nat) : V := .vals none 1 (k + 1) fun j => .ints none (mpN f X k j).l

theorem subm_bd {p : Int} [SP p] (A B : Poly p) : Bd 4611686018427387904 (trimZ (addL A.l (smulL (-1) B.l))) := fun i => by
 rw [cf_trimZ, cf_addL, cf_smulL]
 have := cf_bd A i
 have := cf_bd B i
 have := SP.le (p := p)
 omega
theorem subm_len {p : Int} [SP p] (A B : Poly p) {n : Nat} (hA : dg A ≤ n) (hB : dg B ≤ n) : (trimZ (addL A.l (smulL (-1) B.l))).length ≤ n := by
 have h1 := trimZ_length (addL A.l (smulL (-1) B.l))
 unfold addL smulL at *
 rw [mkL_length, List.length_map] at *
 have : A.l.length = dg A := rfl
 have : B.l.length = dg B := rfl
 omega

theorem l18Minimal_fn (p : Int) [SP p] (g g1 : Option Nat) (f X : Poly p) (hf : dg f ≤ 500) (h2 : 2 ≤ dg f) (hf0 : f ≠ 0) (hX : dg X < dg f) (n : Nat) (hn : Per f X n) (hn2 : n ≤ 1000) :
  FnV 130 [vK p g f.l, .ints g1 X.l] (.ints none (mpL f X n (n + 1))) := by
 have hp := Pr.two (p := p)
 have hp2 := SP.le (p := p)
 have hF := frN_lt hf0 hX
 have hM := mpN_lt hf0 h2 X
 have hS := mpS_lt hf0 h2 X
 have e1 : [(1 : Int)] = (1 : Poly p).l := one_l.symm
 refine fn_of (cx_ok [0, 1, 2, 4, 5, 6, 7, 8, 9, 10, 11, 12, 13, 22, 32, 38, 47, 72]) Tryz.func130 rfl (by decide) Tryz.ntmps130 (Nat.le_of_ble_eq_true rfl) fun base => ?_
 refine W.rs (cx_ok _) (by rfl) fun K hK => ?_
 conv => whnf
 refine ⟨rfl, ?_⟩
 conv => whnf
 intro b_2 hs_2 hh_2 hf_2
 try dsimp only at hh_2 hf_2
 conv => whnf
 refine hK _ ?_
 clear hK K
 refine W.rs (cx_ok _) (by rfl) fun K hK => ?_
 conv => whnf
 refine callV rfl (l18Conjugates_fn p g g1 f X hf hf0 hX n hn hn2) fun hs' hhs => ?_
 try dsimp only at hhs
 conv => whnf
 refine hK _ ?_
 clear hK K
 refine W.rs (cx_ok _) (by rfl) fun K hK => ?_
 conv => whnf
 refine ⟨⟨rfl, by decide⟩, ?_⟩
 conv => whnf
 intro b_3 hs_3 hh_3 hf_3
 try dsimp only at hh_3 hf_3
 conv => whnf
 rw [e1]
 refine ⟨⟨rfl, by decide, fun x hx => by simp at hx; subst hx; exact ⟨rfl, rfl⟩⟩, ?_⟩
 conv => whnf
 intro b_4 hs_4 hh_4 hf_4
 try dsimp only at hh_4 hf_4
 conv => whnf
 refine hK _ ?_
 clear hK K
 refine W.seqK fun K1 hK1 => ?_
 refine W.rs (cx_ok _) (by rfl) fun K hK => ?_
 conv => whnf
 refine hK _ (W.block (W.invA (fun m e => ∃ k : Nat, k ≤ n ∧ m = n - k ∧ e = [(2, .ownB b_2 (vK p g f.l)), (5, .v (vCon f X n)), (6, .v (vMp f X k)), (7, .v (.int .i64 k))]) ⟨0, Nat.zero_le _, rfl, rfl⟩ ?_))
 clear hK K
 rintro m e ⟨k, hk, hm, rfl⟩
 have hFk := hF k
 have hTop := mpN_top hf0 X k
 refine W.seqK fun K7 hK7 => W.rs (cx_ok _) (by rfl) fun K hK => ?_
 conv => whnf
 refine hK _ (W.cond ⟨fun h => ?_, fun h => ?_⟩) <;> clear hK K <;> (first | replace h := of_decide_eq_true h | replace h := of_decide_eq_false h)
 ·have e2 : (((k + 1 : Nat) : Int) + 1).toNat = k + 2 := by omega
  refine W.skip (hK7 _ ?_)
  clear hK7 K7
  refine W.seqK fun K8 hK8 => W.block ?_
  refine W.rs (cx_ok _) (by rfl) fun K hK => ?_
  conv => whnf
  refine ⟨by constructor <;> omega, ?_⟩
  conv => whnf
  refine ⟨rfl, ?_⟩
  conv => whnf
  refine ⟨⟨by omega, by omega⟩, ?_⟩
  conv => whnf
  rw [e2]
  intro b_5 hs_5 hh_5 hf_5
  try dsimp only at hh_5 hf_5
  conv => whnf
  refine hK _ ?_
  clear hK K
  refine W.seqK fun K9 hK9 => ?_
  refine W.rs (cx_ok _) (by rfl) fun K hK => ?_
  conv => whnf
  refine hK _ (W.block (W.invE (fun m e => ∃ j : Nat, j ≤ k + 2 ∧ m = k + 2 - j ∧ e = [(2, .ownB b_2 (vK p g f.l)), (5, .v (vCon f X n)), (6, .v (vMp f X k)), (7, .v (.int .i64 k)), (8, .ownV 22 1 b_5 (k + 2) fun i => if i < j then .ints none (mpN f X (k + 1) i).l else .nil), (9, .v (.int .i64 j))]) _ _ ⟨0, Nat.zero_le _, rfl, rfl⟩ (by dsimp only; omega) (by repeat' first | refine And.intro ?_ ?_ | exact trivial | rfl | omega | exact fun _ _ => rfl) ?_))
  clear hK K
  rintro m' e ⟨j, hj, hm', rfl⟩
  have hMj := hM k j
  have hSj := hS k j
  have hR := rem_lt (mpN f X k j * frN f X k) hf0
  have hRl : (rem (mpN f X k j * frN f X k) f).l.length = dg (rem (mpN f X k j * frN f X k) f) := rfl
  have hSl : (mpS f X k j).l.length = dg (mpS f X k j) := rfl
  refine W.seqK fun K7 hK7 => W.rs (cx_ok _) (by rfl) fun K hK => ?_
  conv => whnf
  refine hK _ (W.cond ⟨fun h3 => ?_, fun h3 => ?_⟩) <;> clear hK K <;> (first | replace h3 := of_decide_eq_true h3 | replace h3 := of_decide_eq_false h3)
  ·refine W.skip (hK7 _ ?_)
   clear hK7 K7
   refine W.seqK fun K6 hK6 => W.block ?_
   refine W.rs (cx_ok _) (by rfl) fun K hK => ?_
   conv => whnf
   refine ⟨⟨rfl, by decide⟩, ?_⟩
   conv => whnf
   intro b_6 hs_6 hh_6 hf_6
   try dsimp only at hh_6 hf_6
   conv => whnf
   refine ⟨⟨rfl, by decide⟩, ?_⟩
   conv => whnf
   intro b_7 hs_7 hh_7 hf_7
   try dsimp only at hh_7 hf_7
   conv => whnf
   refine hK _ ?_
   clear hK K
   -- what stands ahead
   refine W.seqK fun K3 hK3 => ?_
   have mid : ∀ (t : S), base ≤ t.hs → coverK t.env [(2, .ownB b_2 (vK p g f.l)), (5, .v (vCon f X n)), (6, .v (vMp f X k)), (7, .v (.int .i64 k)), (8, .ownV 22 1 b_5 (k + 2) fun i => if i < j then .ints none (mpN f X (k + 1) i).l else .nil), (9, .v (.int .i64 j)), (10, .v (.ints none (mpS f X k j).l)), (11, .v (.ints none []))] → K3 t := by
    intro t h7 h8
    refine hK3 _ (W.weak (t := ⟨[(2, .ownB b_2 (vK p g f.l)), (5, .v (vCon f X n)), (6, .v (vMp f X k)), (7, .v (.int .i64 k)), (8, .ownV 22 1 b_5 (k + 2) fun i => if i < j then .ints none (mpN f X (k + 1) i).l else .nil), (9, .v (.int .i64 j)), (10, .v (.ints none (mpS f X k j).l)), (11, .v (.ints none []))], base⟩) ⟨h7, h8⟩ (Nat.le_refl _) ?_)
    clear hK3 K3
    refine W.seqK fun K4 hK4 => ?_
    have mid2 : ∀ (t : S), base ≤ t.hs → coverK t.env [(2, .ownB b_2 (vK p g f.l)), (5, .v (vCon f X n)), (6, .v (vMp f X k)), (7, .v (.int .i64 k)), (8, .ownV 22 1 b_5 (k + 2) fun i => if i < j then .ints none (mpN f X (k + 1) i).l else .nil), (9, .v (.int .i64 j)), (10, .v (.ints none (mpS f X k j).l)), (11, .v (.ints none (rem (mpN f X k j * frN f X k) f).l))] → K4 t := by
     intro t h7 h8
     refine hK4 _ (W.weak (t := ⟨[(2, .ownB b_2 (vK p g f.l)), (5, .v (vCon f X n)), (6, .v (vMp f X k)), (7, .v (.int .i64 k)), (8, .ownV 22 1 b_5 (k + 2) fun i => if i < j then .ints none (mpN f X (k + 1) i).l else .nil), (9, .v (.int .i64 j)), (10, .v (.ints none (mpS f X k j).l)), (11, .v (.ints none (rem (mpN f X k j * frN f X k) f).l))], base⟩) ⟨h7, h8⟩ (Nat.le_refl _) ?_)
     clear hK4 K4
     refine W.draw (cx_ok _) follows (by rfl) ?_
     conv => whnf
     refine ⟨_, cxF ((l06Add_fn none none (mpS f X k j).l (rem (mpN f X k j * frN f X k) f).l (-1) (by omega) (l_bd2 _) (l_bd2 _) (by omega) (by omega)).toV), ?_⟩
     conv => whnf
     refine ⟨_, cxF ((l08Reduce_fn p (by omega) (by omega) none _ (subm_bd _ _) (Nat.le_trans (subm_len (mpS f X k j) (rem (mpN f X k j * frN f X k) f) (n := 500) (by omega) (by omega)) (by omega))).toV), ?_⟩
     conv => whnf
     rw [sub_l, ← mpN_succ]
     refine ⟨⟨by omega, by omega⟩, ?_⟩
     conv => whnf
     rw [Int.toNat_natCast]
     refine ⟨⟨by show 0 + 1 ≤ 1; omega, rfl⟩, fun i => if i < j + 1 then .ints none (mpN f X (k + 1) i).l else .nil, by show (if j < j + 1 then V.ints none (mpN f X (k + 1) j).l else .nil) = setCells (if j < j then V.ints none (mpN f X (k + 1) j).l else .nil) 0 _; rw [if_pos (by omega), if_neg (by omega)]; rfl, fun i _ hi => by show (if i < j + 1 then V.ints none (mpN f X (k + 1) i).l else .nil) = (if i < j then V.ints none (mpN f X (k + 1) i).l else .nil); by_cases h9 : i < j; (rw [if_pos h9, if_pos (by omega)]); (rw [if_neg h9, if_neg (by omega)]), ?_⟩
     conv => whnf
     refine hK6 _ ?_
     clear hK6 K6
     refine W.region (cx_ok _) (by rfl) ?_
     conv => whnf
     refine ⟨by constructor <;> omega, ?_⟩
     conv => whnf
     refine ⟨_, _, ⟨j + 1, by omega, rfl, rfl⟩, by omega, by dsimp only; omega, ?_⟩
     repeat' first | refine And.intro ?_ ?_ | exact trivial | rfl | omega | exact fun _ _ => rfl
    clear hK4
    refine W.rs (cx_ok _) (by rfl) fun K hK => ?_
    conv => whnf
    refine hK _ (W.cond ⟨fun h5 => ?_, fun h5 => ?_⟩) <;> clear hK K
    ·have h5 := of_decide_eq_true h5
     refine W.draw (cx_ok _) follows (by rfl) ?_
     conv => whnf
     refine ⟨⟨by omega, by omega⟩, ?_⟩
     conv => whnf
     rw [Int.toNat_natCast]
     refine ⟨⟨by omega, by omega⟩, ?_⟩
     conv => whnf
     rw [Int.toNat_natCast]
     refine ⟨_, cxF (l17Multiply_fn p g none none f (mpN f X k j) (frN f X k) (by omega) (by omega) (by omega) hf0), ?_⟩
     conv => whnf
     refine mid2 _ (by dsimp only; omega) ?_
     repeat' first | refine And.intro ?_ ?_ | exact trivial | rfl | omega | exact fun _ _ => rfl
    ·have h5 := of_decide_eq_false h5
     have e3 : (rem (mpN f X k j * frN f X k) f).l = [] := by rw [mpN_zero hf0 X k j (by omega), rem_zero hf0, zero_l]
     refine W.skip (mid2 _ (by dsimp only; omega) ?_)
     rw [e3]
     repeat' first | refine And.intro ?_ ?_ | exact trivial | rfl | omega | exact .inl rfl | exact fun _ _ => rfl
   clear hK3
   refine W.rs (cx_ok _) (by rfl) fun K hK => ?_
   conv => whnf
   refine hK _ (W.cond ⟨fun h5 => ?_, fun h5 => ?_⟩) <;> clear hK K
   ·have h5 := of_decide_eq_true h5
    obtain ⟨i, rfl⟩ : ∃ i, j = i + 1 := ⟨j - 1, by omega⟩
    have e4 : (((i + 1 : Nat) : Int) - 1).toNat = i := by omega
    refine W.region (cx_ok _) (by rfl) ?_
    conv => whnf
    refine ⟨by constructor <;> omega, ?_⟩
    conv => whnf
    refine ⟨⟨by omega, by omega⟩, ?_⟩
    conv => whnf
    rw [e4]
    refine mid _ (by dsimp only; omega) ?_
    repeat' first | refine And.intro ?_ ?_ | exact trivial | rfl | omega | exact .inl rfl | exact fun _ _ => rfl
   ·have h5 := of_decide_eq_false h5
    obtain rfl : j = 0 := by omega
    have e3 : (mpS f X k 0).l = [] := zero_l
    refine W.skip (mid _ (by dsimp only; omega) ?_)
    rw [e3]
    repeat' first | refine And.intro ?_ ?_ | exact trivial | rfl | omega | exact .inl rfl | exact fun _ _ => rfl
  ·obtain rfl : j = k + 2 := by omega
   refine W.exit (hK9 _ ?_)
   clear hK7 K7 hK9 K9
   refine W.region (cx_ok _) (by rfl) ?_
   conv => whnf
   refine hK8 _ ?_
   clear hK8 K8
   refine W.region (cx_ok _) (by rfl) ?_
   conv => whnf
   refine ⟨by constructor <;> omega, ?_⟩
   conv => whnf
   refine ⟨_, _, ⟨k + 1, by omega, rfl, rfl⟩, by omega, by dsimp only; omega, ?_⟩
   repeat' first | refine And.intro ?_ ?_ | exact trivial | rfl | omega | exact fun _ _ => rfl | exact fun i hi => if_pos hi
 ·obtain rfl : k = n := by omega
  refine W.exit (hK1 _ ?_)
  clear hK7 K7 hK1 K1
  refine W.rs (cx_ok _) (by rfl) fun K hK => ?_
  conv => whnf
  refine ⟨⟨rfl, by decide⟩, ?_⟩
  conv => whnf
  intro b_8 hs_8 hh_8 hf_8
  try dsimp only at hh_8 hf_8
  conv => whnf
  refine hK _ ?_
  clear hK K
  refine W.seqK fun K1 hK1 => ?_
  refine W.rs (cx_ok _) (by rfl) fun K hK => ?_
  conv => whnf
  refine hK _ (W.block (W.invA (fun m e => ∃ (j b : Nat) (o : List Int), j ≤ k + 1 ∧ o = mpL f X k j ∧ m = k + 1 - j ∧ e = [(6, .v (vMp f X k)), (12, .ownI 2 b o), (13, .v (.int .i64 j))]) ⟨0, b_8, [], Nat.zero_le _, rfl, rfl, rfl⟩ ?_))
  clear hK K
  rintro m e ⟨j, b, o, hj, rfl, hm, rfl⟩
  have hMj := hM k j
  have hMl : (mpN f X k j).l.length = dg (mpN f X k j) := rfl
  have hol : (mpL f X k j).length = j := mkL_length _ _
  refine W.seqK fun K7 hK7 => W.rs (cx_ok _) (by rfl) fun K hK => ?_
  conv => whnf
  refine hK _ (W.cond ⟨fun h3 => ?_, fun h3 => ?_⟩) <;> clear hK K <;> (first | replace h3 := of_decide_eq_true h3 | replace h3 := of_decide_eq_false h3)
  ·refine W.skip (hK7 _ ?_)
   clear hK7 K7
   refine W.seqK fun K8 hK8 => W.block ?_
   refine W.region (cx_ok _) (by rfl) ?_
   conv => whnf
   refine ⟨⟨by omega, by omega⟩, ?_⟩
   conv => whnf
   rw [Int.toNat_natCast]
   refine callV rfl (l18Constant_fn none (mpN f X k j).l (by omega)) fun hs' hhs => ?_
   try dsimp only at hhs
   conv => whnf
   refine ⟨⟨rfl, by decide⟩, ?_⟩
   conv => whnf
   intro b_3 hs_3 hh_3 hf_3
   try dsimp only at hh_3 hf_3
   conv => whnf
   refine ⟨by dsimp only [List.length]; omega, ?_⟩
   conv => whnf
   intro b_4 hs_4 hh_4 hf_4
   try dsimp only at hh_4 hf_4
   conv => whnf
   refine hK8 _ ?_
   clear hK8 K8
   refine W.region (cx_ok _) (by rfl) ?_
   conv => whnf
   refine ⟨by constructor <;> omega, ?_⟩
   conv => whnf
   exact againA ⟨j + 1, b_4, _, by omega, (mkL_succ j fun j => cf (mpN f X k j).l 0).symm, rfl, rfl⟩
  ·obtain rfl : j = k + 1 := by omega
   refine W.exit (hK1 _ ?_)
   clear hK7 K7 hK1 K1
   refine W.rs (cx_ok _) (by rfl) fun K hK => ?_
   conv => whnf
   refine hK _ ?_
   clear hK K
   refine W.ret ?_
   conv => whnf
   exact ⟨.v (.ints none (mpL f X k (k + 1))), ⟨rfl, rfl⟩, trivial, rfl⟩


open Go Go.RowKit Go.Proofs Poly
set_option maxRecDepth 100000
set_option maxHeartbeats 8000000

noncomputable def mpV {p : Int} [SP p] (f X : Poly p) (k : Nat) : Nat → V
 | 0 => .nil
 | j + 1 => .ints none (mpN f X k j).l
noncomputable def mpW {p : Int} [SP p] (f X : Poly p) (k i j : Nat) : V := if j < i then .ints none (mpN f X (k + 1) j).l else if j = i then mpV f X k j else .nil
theorem mpW_start {p : Int} [SP p] (f X : Poly p) (k j : Nat) : mpW f X k 0 j = .nil := by
 unfold mpW
 rw [if_neg (by omega)]
 split
 ·rename_i h; subst h; rfl
 ·rfl

theorem mini_T (p : Int) [SP p] (g g1 : Option Nat) (f X : Poly p) (h9 : dg f ≤ 9) (h2 : 2 ≤ dg f) (hf0 : f ≠ 0) (hX : dg X < dg f) (n : Nat) (hn : Per f X n) (hn2 : n ≤ 1000) (hc : code1 p f.l X.l = 0) :
  FnT Tryz.prog 42 [vK p g f.l, .ints g1 X.l] (RT (mpL f X n (n + 1)) 0) := by
 have hp := Pr.two (p := p)
 have hp2 := SP.le (p := p)
 have hF := frN_lt hf0 hX
 have hM := mpN_lt hf0 h2 X
 have hS := mpS_lt hf0 h2 X
 have hfl : f.l.length = dg f := rfl
 have hXl : X.l.length = dg X := rfl
 have e1 : [(1 : Int)] = (1 : Poly p).l := one_l.symm
 refine fnt_of (cxt_ok [] [0, 1, 2, 4, 5, 6, 7, 9, 10, 11, 12, 13, 15, 21, 27, 28, 29, 30, 37, 38, 39, 40, 76, 77, 78, 79, 1000000]) Tryz.func42 rfl (by decide) Tryz.ntmps42 (Nat.le_of_ble_eq_true rfl) (fun base => ?_) (Nat.le_of_ble_eq_true rfl)
 refine W.sw (c' := cx [0, 1, 2, 4, 5, 6, 7, 9, 10, 11, 12, 13, 15, 21, 27, 28, 29, 30, 37, 38, 39, 40, 76, 77, 78, 79, 1000000]) ?_
 refine W.rs (cx_ok _) (by rfl) fun K hK => ?_
 conv => whnf
 refine ⟨rfl, ?_⟩
 conv => whnf
 intro b_1 hs_1 hh_1 hf_1
 try dsimp only at hh_1 hf_1
 conv => whnf
 refine hK _ ?_
 clear hK K
 refine W.seqK fun K1 hK1 => ?_
 refine W.rs (cx_ok _) (by rfl) fun K hK => ?_
 conv => whnf
 refine ⟨⟨rfl, by decide, fun x hx => (by simp at hx; subst hx; exact ⟨rfl, rfl⟩)⟩, ?_⟩
 conv => whnf
 intro b_2 hs_2 hh_2 hf_2
 try dsimp only at hh_2 hf_2
 conv => whnf
 refine callV rfl (elements_tr p g (some b_2) f.l 1 _ (fun _ => X.l) (by omega) (by omega) (els1 g1 X.l)) fun hs' hhs => ?_
 try dsimp only at hhs
 conv => whnf
 rw [show codeEl p f.l true 1 (fun _ => X.l) = 0 from hc]
 refine hK _ ?_
 clear hK K
 refine W.rs (cx_ok _) (by rfl) fun K hK => ?_
 conv => whnf
 refine hK _ (W.cond ⟨fun hcc => absurd rfl (of_decide_eq_true hcc), fun _ => W.skip (hK1 _ ?_)⟩)
 clear hK K hK1 K1
 refine W.rs (cx_ok _) (by rfl) fun K hK => ?_
 conv => whnf
 refine ⟨⟨rfl, by decide⟩, ?_⟩
 conv => whnf
 intro b_3 hs_3 hh_3 hf_3
 try dsimp only at hh_3 hf_3
 conv => whnf
 rw [e1]
 refine ⟨⟨rfl, by decide, fun x hx => by simp at hx; subst hx; exact ⟨rfl, rfl⟩⟩, ?_⟩
 conv => whnf
 intro b_4 hs_4 hh_4 hf_4
 try dsimp only at hh_4 hf_4
 conv => whnf
 refine hK _ ?_
 clear hK K
 refine W.seqK fun K1 hK1 => ?_
 refine W.rs (cx_ok _) (by rfl) fun K hK => ?_
 conv => whnf
 refine callV rfl (conjugates_fn p g g1 f X (by omega) hf0 hX n hn hn2) fun hs' hhs => ?_
 try dsimp only at hhs
 conv => whnf
 refine hK _ (W.block (W.invA (fun m e => ∃ k : Nat, k ≤ n ∧ m = n - k ∧ e = [(vt, .tab fun _ => none), (2, .ownB b_1 (vK p g f.l)), (7, .v (vMp f X k)), (27, .v (vCon f X n)), (28, .v (.int .i64 (n : Nat))), (29, .v (.int .i64 k))]) ⟨0, Nat.zero_le _, rfl, rfl⟩ ?_))
 clear hK K
 rintro m e ⟨k, hk, hm, rfl⟩
 have hFk := hF k
 have hTop := mpN_top hf0 X k
 refine W.rs (cx_ok _) (by rfl) fun K hK => ?_
 conv => whnf
 refine hK _ ?_
 clear hK K
 refine W.seqK fun K7 hK7 => W.cond ⟨fun h => ?_, fun h => ?_⟩ <;> (first | replace h := of_decide_eq_true h | replace h := of_decide_eq_false h)
 ·have e2 : (((k + 1 : Nat) : Int) + 1).toNat = k + 2 := by omega
  refine W.skip (hK7 _ ?_)
  clear hK7 K7
  refine W.seqK fun K8 hK8 => W.block ?_
  refine W.rs (cx_ok _) (by rfl) fun K hK => ?_
  conv => whnf
  refine ⟨⟨by omega, by omega⟩, ?_⟩
  conv => whnf
  rw [Int.toNat_natCast]
  refine hK _ ?_
  clear hK K
  refine W.rs (cx_ok _) (by rfl) fun K hK => ?_
  conv => whnf
  refine ⟨by constructor <;> omega, ?_⟩
  conv => whnf
  refine ⟨rfl, ?_⟩
  conv => whnf
  refine ⟨⟨by omega, by omega⟩, ?_⟩
  conv => whnf
  rw [e2]
  intro b_5 hs_5 hh_5 hf_5
  try dsimp only at hh_5 hf_5
  conv => whnf
  refine hK _ ?_
  clear hK K
  refine W.seqK fun K9 hK9 => ?_
  refine W.rs (cx_ok _) (by rfl) fun K hK => ?_
  conv => whnf
  refine hK _ (W.block (W.invE (fun m e => ∃ (i : Nat) (hh : Nat → V), i ≤ k + 1 ∧ (∀ j, j < k + 2 → hh j = mpW f X k i j) ∧ m = k + 1 - i ∧ e = [(vt, .tab fun _ => none), (2, .ownB b_1 (vK p g f.l)), (27, .v (vCon f X n)), (28, .v (.int .i64 (n : Nat))), (29, .v (.int .i64 k)), (9, .v (.ints none (frN f X k).l)), (10, .ownV 22 1 b_5 (k + 2) hh), (37, .v (vMp f X k)), (38, .v (.int .i64 (k + 1 : Nat))), (39, .v (.int .i64 i))]) _ _ ⟨0, fun _ => .nil, Nat.zero_le _, fun j _ => (mpW_start f X k j).symm, rfl, rfl⟩ (by dsimp only; omega) (by repeat' first | refine And.intro ?_ ?_ | exact trivial | rfl | omega | exact fun _ _ h => h | exact fun _ _ => rfl) ?_))
  clear hK K
  rintro m' e ⟨i, hh, hi, hhi, hm', rfl⟩
  have hMi := hM k i
  have hMl : (mpN f X k i).l.length = dg (mpN f X k i) := rfl
  have hR := rem_lt (mpN f X k i * frN f X k) hf0
  have hRl : (rem (mpN f X k i * frN f X k) f).l.length = dg (rem (mpN f X k i * frN f X k) f) := rfl
  have hRb : Bd 1000000000000 (rem (mpN f X k i * frN f X k) f).l := (l_bd _).le (by omega)
  refine W.rs (cx_ok _) (by rfl) fun K hK => ?_
  conv => whnf
  refine hK _ ?_
  clear hK K
  refine W.seqK fun K7 hK7 => W.cond ⟨fun h3 => ?_, fun h3 => ?_⟩ <;> (first | replace h3 := of_decide_eq_true h3 | replace h3 := of_decide_eq_false h3)
  ·have e3 : ((i : Int) + 1).toNat = i + 1 := by omega
   have e4 : hh (i + 1) = .nil := by rw [hhi _ (by omega)]; unfold mpW; rw [if_neg (by omega), if_neg (by omega)]
   have e5 : nrm p (trimZ (addL [] (mpN f X k i).l)) = (mpN f X k i).l := by
    have h5 := sum_l (0 : Poly p) (mpN f X k i)
    rw [zero_l] at h5
    rw [h5]; congr 1; exact ring [mpN f X k i] (by rfl)
   refine W.skip (hK7 _ ?_)
   clear hK7 K7
   refine W.seqK fun K6 hK6 => W.block ?_
   refine W.rs (cx_ok _) (by rfl) fun K hK => ?_
   conv => whnf
   refine ⟨⟨by omega, by omega⟩, ?_⟩
   conv => whnf
   rw [Int.toNat_natCast]
   refine hK _ ?_
   clear hK K
   refine W.rd (cx_ok _) follows (by rfl) fun K hK => ?_
   conv => whnf
   refine ⟨by constructor <;> omega, ?_⟩
   conv => whnf
   refine ⟨by constructor <;> omega, ?_⟩
   conv => whnf
   refine ⟨⟨by omega, by omega⟩, ?_⟩
   conv => whnf
   rw [e3, e4]
   conv => whnf
   refine ⟨_, cxF ((sumOf_fn none none [] (mpN f X k i).l (fun j => by rw [cf_nil]; omega) (l_bd2 _) (by simp) (by omega)).toV), ?_⟩
   conv => whnf
   refine ⟨_, cxF ((reduce_fn p (by omega) (by omega) none _ (fun j => by rw [cf_trimZ, cf_addL, cf_nil]; have := cf_bd (mpN f X k i) j; omega) (by have := trimZ_length (addL [] (mpN f X k i).l); unfold addL at *; rw [mkL_length] at *; simp at this ⊢; omega)).toV), ?_⟩
   conv => whnf
   rw [e5]
   refine ⟨⟨by omega, by omega⟩, ?_⟩
   conv => whnf
   rw [e3]
   obtain ⟨h1, e1a, e1b⟩ : ∃ h1 : Nat → V, h1 (i + 1) = .ints none (mpN f X k i).l ∧ ∀ j, j ≠ i + 1 → h1 j = hh j := ⟨fun j => if j = i + 1 then .ints none (mpN f X k i).l else hh j, if_pos rfl, fun j hj => if_neg hj⟩
   refine ⟨⟨by show 0 + 1 ≤ 1; omega, rfl⟩, h1, by rw [e1a, e4]; rfl, fun j _ hj => e1b j hj, ?_⟩
   conv => whnf
   refine hK _ ?_
   clear hK K
   have e6 : h1 i = mpV f X k i := by
    rw [e1b i (by omega), hhi i (by omega)]; unfold mpW; rw [if_neg (by omega), if_pos rfl]
   have fin : ∀ h : Nat → V, h i = .ints none (mpN f X (k + 1) i).l → (∀ j, j ≠ i → h j = h1 j) → ∀ j, j < k + 2 → h j = mpW f X k (i + 1) j := by
    intro h h5 h6 j hj
    unfold mpW
    by_cases h7 : j = i
    ·subst h7; rw [h5, if_pos (by omega)]
    ·rw [h6 j h7]
     by_cases h8 : j = i + 1
     ·subst h8; rw [e1a, if_neg (by omega), if_pos rfl]; rfl
     ·rw [e1b j h8, hhi j hj, if_neg h8]
      unfold mpW
      by_cases h9 : j < i
      ·rw [if_pos h9, if_pos (by omega)]
      ·rw [if_neg h9, if_neg h7, if_neg (by omega)]
   have e7 : nrm p (trimZ (addL (mpS f X k i).l (smulL (-1) (rem (mpN f X k i * frN f X k) f).l))) = (mpN f X (k + 1) i).l := by rw [sub_l, ← mpN_succ]
   have hSi := hS k i
   have hSl : (mpS f X k i).l.length = dg (mpS f X k i) := rfl
   have e8 : (∃ i', i = i' + 1) ∨ i = 0 := by cases i with | zero => exact .inr rfl | succ i' => exact .inl ⟨i', rfl⟩
   rcases e8 with ⟨i', hi'⟩ | hi'
   ·have e9 : mpV f X k i = .ints none (mpS f X k i).l := by subst hi'; rfl
    rw [e9] at e6
    refine W.draw (cx_ok _) follows (by rfl) ?_
    conv => whnf
    refine ⟨⟨by omega, by omega⟩, ?_⟩
    conv => whnf
    rw [Int.toNat_natCast, e6]
    conv => whnf
    refine ⟨_, cxF (kTimes_fn p g none none f (mpN f X k i) (frN f X k) (by omega) (by omega) (by omega) hf0), ?_⟩
    conv => whnf
    refine ⟨_, cxF ((minus_fn none none (mpS f X k i).l (rem (mpN f X k i * frN f X k) f).l ((l_bd _).le (by omega)) hRb (by omega) (by omega)).toV), ?_⟩
    conv => whnf
    refine ⟨_, cxF ((reduce_fn p (by omega) (by omega) none _ (subm_bd _ _) (Nat.le_trans (subm_len (mpS f X k i) (rem (mpN f X k i * frN f X k) f) (n := 500) (by omega) (by omega)) (by omega))).toV), ?_⟩
    conv => whnf
    rw [e7]
    refine ⟨⟨by omega, by omega⟩, ?_⟩
    conv => whnf
    rw [Int.toNat_natCast]
    obtain ⟨h2, e2a, e2b⟩ : ∃ h2 : Nat → V, h2 i = .ints none (mpN f X (k + 1) i).l ∧ ∀ j, j ≠ i → h2 j = h1 j := ⟨fun j => if j = i then .ints none (mpN f X (k + 1) i).l else h1 j, if_pos rfl, fun j hj => if_neg hj⟩
    refine ⟨⟨by show 0 + 1 ≤ 1; omega, rfl⟩, h2, by rw [e2a, e6]; rfl, fun j _ hj => e2b j hj, ?_⟩
    conv => whnf
    refine hK6 _ ?_
    clear hK6 K6
    refine W.region (cx_ok _) (by rfl) ?_
    conv => whnf
    refine ⟨by constructor <;> omega, ?_⟩
    conv => whnf
    refine ⟨_, _, ⟨i + 1, h2, by omega, fin h2 e2a e2b, rfl, rfl⟩, by omega, by dsimp only; omega, ?_⟩
    repeat' first | refine And.intro ?_ ?_ | exact trivial | rfl | omega | exact fun _ _ h => h | exact fun _ _ => rfl
   ·have e9 : mpV f X k i = .nil := by subst hi'; rfl
    have e10 : (mpS f X k i).l = [] := by subst hi'; exact zero_l
    rw [e9] at e6
    refine W.draw (cx_ok _) follows (by rfl) ?_
    conv => whnf
    refine ⟨⟨by omega, by omega⟩, ?_⟩
    conv => whnf
    rw [Int.toNat_natCast, e6]
    conv => whnf
    refine ⟨_, cxF (kTimes_fn p g none none f (mpN f X k i) (frN f X k) (by omega) (by omega) (by omega) hf0), ?_⟩
    conv => whnf
    refine ⟨_, cxF ((minus_fn none none [] (rem (mpN f X k i * frN f X k) f).l (fun j => by rw [cf_nil]; omega) hRb (by simp) (by omega)).toV), ?_⟩
    conv => whnf
    rw [← e10]
    refine ⟨_, cxF ((reduce_fn p (by omega) (by omega) none _ (subm_bd _ _) (Nat.le_trans (subm_len (mpS f X k i) (rem (mpN f X k i * frN f X k) f) (n := 500) (by omega) (by omega)) (by omega))).toV), ?_⟩
    conv => whnf
    rw [e7]
    refine ⟨⟨by omega, by omega⟩, ?_⟩
    conv => whnf
    rw [Int.toNat_natCast]
    obtain ⟨h2, e2a, e2b⟩ : ∃ h2 : Nat → V, h2 i = .ints none (mpN f X (k + 1) i).l ∧ ∀ j, j ≠ i → h2 j = h1 j := ⟨fun j => if j = i then .ints none (mpN f X (k + 1) i).l else h1 j, if_pos rfl, fun j hj => if_neg hj⟩
    refine ⟨⟨by show 0 + 1 ≤ 1; omega, rfl⟩, h2, by rw [e2a, e6]; rfl, fun j _ hj => e2b j hj, ?_⟩
    conv => whnf
    refine hK6 _ ?_
    clear hK6 K6
    refine W.region (cx_ok _) (by rfl) ?_
    conv => whnf
    refine ⟨by constructor <;> omega, ?_⟩
    conv => whnf
    refine ⟨_, _, ⟨i + 1, h2, by omega, fin h2 e2a e2b, rfl, rfl⟩, by omega, by dsimp only; omega, ?_⟩
    repeat' first | refine And.intro ?_ ?_ | exact trivial | rfl | omega | exact fun _ _ h => h | exact fun _ _ => rfl
  ·obtain rfl : i = k + 1 := by omega
   have hfin : ∀ j, j < k + 2 → hh j = V.ints none (mpN f X (k + 1) j).l := by
    intro j hj
    rw [hhi j hj]
    unfold mpW
    by_cases h5 : j < k + 1
    ·rw [if_pos h5]
    ·obtain rfl : j = k + 1 := by omega
     rw [if_neg (by omega), if_pos rfl, hTop]; rfl
   refine W.exit (hK9 _ ?_)
   clear hK7 K7 hK9 K9
   refine W.region (cx_ok _) (by rfl) ?_
   conv => whnf
   refine hK8 _ ?_
   clear hK8 K8
   refine W.region (cx_ok _) (by rfl) ?_
   conv => whnf
   refine ⟨by constructor <;> omega, ?_⟩
   conv => whnf
   refine ⟨_, _, ⟨k + 1, by omega, rfl, rfl⟩, by omega, by dsimp only; omega, ?_⟩
   repeat' first | refine And.intro ?_ ?_ | exact trivial | rfl | omega | exact fun _ _ h => h | exact fun _ _ => rfl | exact hfin
 ·obtain rfl : k = n := by omega
  refine W.exit (hK1 _ ?_)
  clear hK7 K7 hK1 K1
  refine W.rs (cx_ok _) (by rfl) fun K hK => ?_
  conv => whnf
  refine hK _ ?_
  clear hK K
  refine W.seqK fun K1 hK1 => ?_
  refine W.rs (cx_ok _) (by rfl) fun K hK => ?_
  conv => whnf
  refine hK _ (W.block (W.invA (fun m e => ∃ (j b : Nat) (o : List Int), j ≤ k + 1 ∧ o = mpL f X k j ∧ m = k + 1 - j ∧ e = [(vt, .tab fun _ => none), (13, .ownI 2 b o), (76, .v (vMp f X k)), (77, .v (.int .i64 (k + 1 : Nat))), (78, .v (.int .i64 j))]) ⟨0, 0, [], Nat.zero_le _, rfl, rfl, rfl⟩ ?_))
  clear hK K
  rintro m e ⟨j, b, o, hj, rfl, hm, rfl⟩
  have hMj := hM k j
  have hMl : (mpN f X k j).l.length = dg (mpN f X k j) := rfl
  have hol : (mpL f X k j).length = j := mkL_length _ _
  refine W.rs (cx_ok _) (by rfl) fun K hK => ?_
  conv => whnf
  refine hK _ ?_
  clear hK K
  refine W.seqK fun K7 hK7 => W.cond ⟨fun h3 => ?_, fun h3 => ?_⟩ <;> (first | replace h3 := of_decide_eq_true h3 | replace h3 := of_decide_eq_false h3)
  ·refine W.skip (hK7 _ ?_)
   clear hK7 K7
   refine W.seqK fun K8 hK8 => W.block ?_
   refine W.rs (cx_ok _) (by rfl) fun K hK => ?_
   conv => whnf
   refine ⟨⟨by omega, by omega⟩, ?_⟩
   conv => whnf
   rw [Int.toNat_natCast]
   refine hK _ ?_
   clear hK K
   refine W.region (cx_ok _) (by rfl) ?_
   conv => whnf
   refine callV rfl (constant_fn none (mpN f X k j).l (by omega)) fun hs' hhs => ?_
   try dsimp only at hhs
   conv => whnf
   refine ⟨⟨rfl, by decide⟩, ?_⟩
   conv => whnf
   intro b_3 hs_3 hh_3 hf_3
   try dsimp only at hh_3 hf_3
   conv => whnf
   refine ⟨by dsimp only [List.length]; omega, ?_⟩
   conv => whnf
   intro b_4 hs_4 hh_4 hf_4
   try dsimp only at hh_4 hf_4
   conv => whnf
   refine hK8 _ ?_
   clear hK8 K8
   refine W.region (cx_ok _) (by rfl) ?_
   conv => whnf
   refine ⟨by constructor <;> omega, ?_⟩
   conv => whnf
   exact againA ⟨j + 1, b_4, _, by omega, (mkL_succ j fun j => cf (mpN f X k j).l 0).symm, rfl, rfl⟩
  ·obtain rfl : j = k + 1 := by omega
   refine W.exit (hK1 _ ?_)
   clear hK7 K7 hK1 K1
   refine W.sw (c' := cxt [] [0, 1, 2, 4, 5, 6, 7, 9, 10, 11, 12, 13, 15, 21, 27, 28, 29, 30, 37, 38, 39, 40, 76, 77, 78, 79, 1000000]) ?_
   refine W.rs (cxt_ok _ _) (by rfl) fun K hK => ?_
   conv => whnf
   refine hK _ ?_
   clear hK K
   refine W.ret ?_
   conv => whnf
   exact ⟨.v (.rf b (mpL f X k (k + 1)).length), rfl, trivial, .v (.int .i64 0), ⟨rfl, rfl⟩, trivial, b, rfl, fun h => tbAdd_self _ _ h⟩

theorem MinimalPolynomial_both (kp : Int) (kl x : List Int) (_ : inR kp) (hkl : kl.length ≤ 1048576) (hx : x.length ≤ 1048576) : ∃ (r0 : List Int) (r1 : Int),
  (∀ g0 g1 : Option Nat, FnV 41 [vK kp g0 kl, .ints g1 x] (.tup [.ints none r0, .int .i64 r1])) ∧ (∀ g0 g1 : Option Nat, FnT Tryz.prog 42 [vK kp g0 kl, .ints g1 x] (RT r0 r1)) ∧ r0.length ≤ 1000000 := by
 generalize hc : code1 kp kl x = c
 by_cases h0 : c = 0
 case neg =>
  refine ⟨[], c, fun g0 g1 => ?_, fun g0 g1 => ?_, by simp⟩
  ·refine fn_of (cx_ok [0, 1, 2, 4, 5, 6, 12]) Tryz.func41 rfl (by decide) Tryz.ntmps41 (Nat.le_of_ble_eq_true rfl) fun base => ?_
   refine W.rs (cx_ok _) (by rfl) fun K hK => ?_
   conv => whnf
   refine ⟨rfl, ?_⟩
   conv => whnf
   intro b_1 hs_1 hh_1 hf_1
   try dsimp only at hh_1 hf_1
   conv => whnf
   refine hK _ ?_
   clear hK K
   refine W.rs (cx_ok _) (by rfl) fun K hK => ?_
   conv => whnf
   refine callV rfl (l17Code_one kp g0 g1 g1 kl x (by omega) (by omega)) fun hs' hhs => ?_
   try dsimp only at hhs
   conv => whnf
   rw [hc]
   refine hK _ ?_
   clear hK K
   refine W.seqK fun K1 hK1 => ?_
   refine W.rs (cx_ok _) (by rfl) fun K hK => ?_
   conv => whnf
   refine hK _ (W.cond ⟨fun _ => ?_, fun hcc => absurd h0 (of_decide_eq_false hcc)⟩)
   clear hK K
   refine W.rs (cx_ok _) (by rfl) fun K hK => ?_
   conv => whnf
   refine hK _ ?_
   clear hK K
   refine W.ret ?_
   conv => whnf
   exact ⟨.v (.ints none []), rfl, trivial, .v (.int .i64 c), ⟨rfl, rfl⟩, trivial, rfl⟩
  ·refine fnt_of (cxt_ok [] [0, 1, 2, 4, 5, 6, 7, 9, 10, 11, 12, 13, 15, 21, 27, 28, 29, 30, 37, 38, 39, 40, 76, 77, 78, 79, 1000000]) Tryz.func42 rfl (by decide) Tryz.ntmps42 (Nat.le_of_ble_eq_true rfl) (fun base => ?_) (Nat.le_of_ble_eq_true rfl)
   refine W.sw (c' := cx [0, 1, 2, 4, 5, 6, 7, 9, 10, 11, 12, 13, 15, 21, 27, 28, 29, 30, 37, 38, 39, 40, 76, 77, 78, 79, 1000000]) ?_
   refine W.rs (cx_ok _) (by rfl) fun K hK => ?_
   conv => whnf
   refine ⟨rfl, ?_⟩
   conv => whnf
   intro b_1 hs_1 hh_1 hf_1
   try dsimp only at hh_1 hf_1
   conv => whnf
   refine hK _ ?_
   clear hK K
   refine W.seqK fun K1 hK1 => ?_
   refine W.rs (cx_ok _) (by rfl) fun K hK => ?_
   conv => whnf
   refine ⟨⟨rfl, by decide, fun x hx => (by simp at hx; subst hx; exact ⟨rfl, rfl⟩)⟩, ?_⟩
   conv => whnf
   intro b_2 hs_2 hh_2 hf_2
   try dsimp only at hh_2 hf_2
   conv => whnf
   refine callV rfl (elements_tr kp g0 (some b_2) kl 1 _ (fun _ => x) (by omega) (by omega) (els1 g1 x)) fun hs' hhs => ?_
   try dsimp only at hhs
   conv => whnf
   rw [show codeEl kp kl true 1 (fun _ => x) = c from hc]
   refine hK _ ?_
   clear hK K
   refine W.rs (cx_ok _) (by rfl) fun K hK => ?_
   conv => whnf
   refine hK _ (W.cond ⟨fun _ => ?_, fun hcc => absurd h0 (of_decide_eq_false hcc)⟩)
   clear hK K
   refine W.rs (cx_ok _) (by rfl) fun K hK => ?_
   conv => whnf
   refine hK _ ?_
   clear hK K
   refine W.ret ?_
   conv => whnf
   exact ⟨.v (.rf 0 0), rfl, trivial, .v (.int .i64 (c)), ⟨rfl, rfl⟩, trivial, 0, rfl, fun hne => absurd rfl hne⟩
 subst h0
 have hc1 := hc
 obtain ⟨hk, hh⟩ := code1_ok hc
 obtain ⟨hp, f, rfl, hfi, _, _, hf9⟩ := fld_poly hk
 letI := sp_of hp
 obtain ⟨X, rfl⟩ := mod_poly hh.1
 have hxl : X.l.length < f.l.length := hh.2
 have hfl : f.l.length = dg f := rfl
 have hXl : X.l.length = dg X := rfl
 have hf0 := hfi.ne
 have hp1 := primes_le hp
 have h2 := hfi.1
 obtain ⟨d, hd⟩ : ∃ d, dg f = d + 1 := ⟨dg f - 1, by omega⟩
 obtain ⟨n, hn, hn2⟩ := exists_per hfi hxl hd
 have hml : (mpL f X n (n + 1)).length = n + 1 := mkL_length _ _
 refine ⟨mpL f X n (n + 1), 0, fun g0 g1 => ?_, fun g0 g1 => mini_T kp g0 g1 f X hf9 h2 hf0 hxl n hn (by omega) hc1, by omega⟩
 refine fn_of (cx_ok [0, 1, 2, 4, 5, 6, 12]) Tryz.func41 rfl (by decide) Tryz.ntmps41 (Nat.le_of_ble_eq_true rfl) fun base => ?_
 refine W.rs (cx_ok _) (by rfl) fun K hK => ?_
 conv => whnf
 refine ⟨rfl, ?_⟩
 conv => whnf
 intro b_1 hs_1 hh_1 hf_1
 try dsimp only at hh_1 hf_1
 conv => whnf
 refine hK _ ?_
 clear hK K
 refine W.rs (cx_ok _) (by rfl) fun K hK => ?_
 conv => whnf
 refine callV rfl (l17Code_one kp g0 g1 g1 f.l X.l (by omega) (by omega)) fun hs' hhs => ?_
 try dsimp only at hhs
 conv => whnf
 rw [hc]
 refine hK _ ?_
 clear hK K
 refine W.seqK fun K1 hK1 => ?_
 refine W.rs (cx_ok _) (by rfl) fun K hK => ?_
 conv => whnf
 refine hK _ (W.cond ⟨fun hcc => absurd rfl (of_decide_eq_true hcc), fun _ => W.skip (hK1 _ ?_)⟩)
 clear hK K hK1 K1
 refine W.rs (cx_ok _) (by rfl) fun K hK => ?_
 conv => whnf
 refine callV rfl (l18Minimal_fn kp g0 g1 f X (by omega) h2 hf0 hxl n hn (by omega)) fun hs' hhs => ?_
 try dsimp only at hhs
 conv => whnf
 refine hK _ ?_
 clear hK K
 refine W.ret ?_
 conv => whnf
 exact ⟨.v (.ints none (mpL f X n (n + 1))), ⟨rfl, rfl⟩, trivial, .v (.int .i64 0), ⟨rfl, rfl⟩, trivial, rfl⟩

open Go Go.RowKit Go.ChangeShapes Go.WideShapes Go.ChangeAt Go.Proofs Go.Proofs.YtaemcmndfhgpjaaGreat

theorem fn_calls {P : Program} {f : Nat} {xs : List V} {r : V} {w : World} {vs : Array Value} (h : Fn P f xs (fun _ _ a => a = .v r)) (hl : vs.size = xs.length)
  (hr : ∀ j, j < xs.length → Rep (okAll w) w.heap (xs.getD j .nil) (vs.getD j undef)) :
  Calls P f vs w fun e w' => ∃ v, e = .returned v ∧ Below w.heap.size w w' ∧ Rep (okR (fun _ => False) w'.heap.size) w'.heap r v := by
 refine (h.2 (fun _ => False) w vs (fun _ h => h.elim) hl hr).mono fun e w' ⟨v, av, hi, h1, h2, h3, h4, h5⟩ => ?_
 subst h3
 obtain ⟨_, h6, _⟩ := h5
 refine ⟨v, h1, h4, ?_⟩
 exact Rep.mono h6 fun g b hb => ⟨⟨hb.1, fun h => h.elim, hb.2.2⟩, rfl⟩

theorem fn_true {P : Program} {f : Nat} {xs : List V} {w : World} {vs : Array Value} (h : Fn P f xs (fun _ _ a => a = .v .tr)) (hl : vs.size = xs.length)
  (hr : ∀ j, j < xs.length → Rep (okAll w) w.heap (xs.getD j .nil) (vs.getD j undef)) :
  Calls P f vs w fun e w' => e = .returned (.bool true) ∧ Below w.heap.size w w' :=
 (fn_calls h hl hr).mono fun e w' ⟨v, h1, h2, h3⟩ => by
  cases h3
  exact ⟨h1, h2⟩

theorem ownP : ownKnob Tryz.prog.godebug = none := by kernel_rfl
theorem laidOutP : laidOutB Tryz.prog = true := by kernel_rfl
theorem cellsInt : Tryz.prog.cellsOf 2 = 1 := by kernel_rfl

theorem cellsInts : Tryz.prog.cellsOf 22 = 1 := by kernel_rfl
theorem readsInt {H : Type} {enc : TypeId × Value → H} {W : World} : Reads enc Tryz.prog W 2 1 TyInt := reads_int Tryz.underlying2
theorem readsInts {H : Type} {enc : TypeId × Value → H} {W : World} : Reads enc Tryz.prog W 22 1 TyInts := reads_ints Tryz.underlying22 Tryz.underlying2 cellsInt
theorem readsField {H : Type} {enc : TypeId × Value → H} {W : World} : Reads enc Tryz.prog W 24 2 (TyCat [TyInt, TyInts]) :=
 reads_struct Tryz.underlying24 (by kernel_rfl) ⟨rfl, 1, cellsInt, readsInt, rfl, 1, cellsInts, readsInts, rfl⟩
open Go Go.RowKit Go.ChangeShapes Go.WideShapes Go.ChangeAt Go.Proofs Go.Proofs.YtaemcmndfhgpjaaGreat
set_option maxRecDepth 100000

def signs : List Char := [104, 97, 114, 110, 101, 115, 115, 32, 51, 54, 51, 55, 55, 49, 102, 54, 50, 100, 48, 51, 51, 101, 56, 102, 52, 53, 56, 97, 55, 51, 97, 57, 101, 50, 102, 101, 98, 100, 52, 49, 54, 51, 51, 48, 50, 101, 48, 50, 100, 99, 98, 99, 101, 50, 48, 99, 50, 101, 56, 102, 55, 102, 100, 50, 49, 102, 55, 56, 99, 52, 101, 57, 32, 99, 117, 116, 32, 97, 116, 32, 108, 111, 111, 112, 46, 101, 120, 97, 109, 112, 108, 101, 47, 103, 48, 49, 48, 48, 48, 47, 108, 97, 119, 115, 46, 70, 110, 69, 120, 97, 99, 116, 69, 108, 101, 109, 101, 110, 116, 115, 79, 102, 79, 114, 100, 101, 114, 32, 108, 111, 111, 112, 46, 101, 120, 97, 109, 112, 108, 101, 47, 103, 48, 49, 48, 48, 48, 47, 108, 97, 119, 115, 46, 70, 110, 69, 120, 97, 99, 116, 82, 111, 111, 116, 115, 79, 102, 69, 108, 101, 109, 101, 110, 116, 32, 108, 111, 111, 112, 46, 101, 120, 97, 109, 112, 108, 101, 47, 103, 48, 49, 48, 48, 48, 47, 108, 97, 119, 115, 46, 70, 110, 69, 120, 97, 99, 116, 82, 101, 115, 105, 100, 117, 101, 70, 105, 101, 108, 100, 32, 108, 111, 111, 112, 46, 101, 120, 97, 109, 112, 108, 101, 47, 103, 48, 49, 48, 48, 48, 47, 108, 97, 119, 115, 46, 70, 110, 69, 120, 97, 99, 116, 67, 111, 110, 106, 117, 103, 97, 116, 101, 115, 79, 102, 32, 108, 111, 111, 112, 46, 101, 120, 97, 109, 112, 108, 101, 47, 103, 48, 49, 48, 48, 48, 47, 108, 97, 119, 115, 46, 70, 110, 69, 120, 97, 99, 116, 82, 111, 111, 116, 115, 73, 110, 70, 105, 101, 108, 100, 32, 108, 111, 111, 112, 46, 101, 120, 97, 109, 112, 108, 101, 47, 103, 48, 49, 48, 48, 48, 47, 108, 97, 119, 115, 46, 70, 110, 69, 120, 97, 99, 116, 77, 105, 110, 105, 109, 97, 108, 80, 111, 108, 121, 110, 111, 109, 105, 97, 108, 32, 108, 111, 111, 112, 46, 101, 120, 97, 109, 112, 108, 101, 47, 103, 48, 49, 48, 48, 48, 47, 108, 97, 119, 115, 46, 70, 110, 69, 120, 97, 99, 116, 90, 101, 99, 104, 76, 111, 103, 97, 114, 105, 116, 104, 109, 32, 108, 111, 111, 112, 46, 101, 120, 97, 109, 112, 108, 101, 47, 103, 48, 49, 48, 48, 48, 47, 108, 97, 119, 115, 46, 70, 110, 69, 108, 101, 109, 101, 110, 116, 115, 32, 108, 111, 111, 112, 46, 101, 120, 97, 109, 112, 108, 101, 47, 103, 48, 49, 48, 48, 48, 47, 108, 97, 119, 115, 46, 70, 110, 84, 114, 97, 99, 101, 115, 32, 108, 111, 111, 112, 46, 101, 120, 97, 109, 112, 108, 101, 47, 103, 48, 49, 48, 48, 48, 47, 108, 97, 119, 115, 46, 70, 110, 70, 105, 101, 108, 100, 115, 32, 108, 111, 111, 112, 46, 101, 120, 97, 109, 112, 108, 101, 47, 103, 48, 49, 48, 48, 48, 47, 108, 97, 119, 115, 46, 70, 110, 76, 111, 103, 115, 32, 108, 111, 111, 112, 46, 101, 120, 97, 109, 112, 108, 101, 47, 103, 48, 49, 48, 48, 48, 47, 108, 97, 119, 115, 46, 70, 110, 80, 114, 105, 109, 105, 116, 105, 118, 101].map Char.ofNat
def word1 : List Char := [99, 117, 116].map Char.ofNat
def words : List (List Char) := [[97, 116], [108, 111, 111, 112, 46, 101, 120, 97, 109, 112, 108, 101, 47, 103, 48, 49, 48, 48, 48, 47, 108, 97, 119, 115, 46, 70, 110, 69, 120, 97, 99, 116, 69, 108, 101, 109, 101, 110, 116, 115, 79, 102, 79, 114, 100, 101, 114], [108, 111, 111, 112, 46, 101, 120, 97, 109, 112, 108, 101, 47, 103, 48, 49, 48, 48, 48, 47, 108, 97, 119, 115, 46, 70, 110, 69, 120, 97, 99, 116, 82, 111, 111, 116, 115, 79, 102, 69, 108, 101, 109, 101, 110, 116], [108, 111, 111, 112, 46, 101, 120, 97, 109, 112, 108, 101, 47, 103, 48, 49, 48, 48, 48, 47, 108, 97, 119, 115, 46, 70, 110, 69, 120, 97, 99, 116, 82, 101, 115, 105, 100, 117, 101, 70, 105, 101, 108, 100], [108, 111, 111, 112, 46, 101, 120, 97, 109, 112, 108, 101, 47, 103, 48, 49, 48, 48, 48, 47, 108, 97, 119, 115, 46, 70, 110, 69, 120, 97, 99, 116, 67, 111, 110, 106, 117, 103, 97, 116, 101, 115, 79, 102], [108, 111, 111, 112, 46, 101, 120, 97, 109, 112, 108, 101, 47, 103, 48, 49, 48, 48, 48, 47, 108, 97, 119, 115, 46, 70, 110, 69, 120, 97, 99, 116, 82, 111, 111, 116, 115, 73, 110, 70, 105, 101, 108, 100], [108, 111, 111, 112, 46, 101, 120, 97, 109, 112, 108, 101, 47, 103, 48, 49, 48, 48, 48, 47, 108, 97, 119, 115, 46, 70, 110, 69, 120, 97, 99, 116, 77, 105, 110, 105, 109, 97, 108, 80, 111, 108, 121, 110, 111, 109, 105, 97, 108], [108, 111, 111, 112, 46, 101, 120, 97, 109, 112, 108, 101, 47, 103, 48, 49, 48, 48, 48, 47, 108, 97, 119, 115, 46, 70, 110, 69, 120, 97, 99, 116, 90, 101, 99, 104, 76, 111, 103, 97, 114, 105, 116, 104, 109], [108, 111, 111, 112, 46, 101, 120, 97, 109, 112, 108, 101, 47, 103, 48, 49, 48, 48, 48, 47, 108, 97, 119, 115, 46, 70, 110, 69, 108, 101, 109, 101, 110, 116, 115], [108, 111, 111, 112, 46, 101, 120, 97, 109, 112, 108, 101, 47, 103, 48, 49, 48, 48, 48, 47, 108, 97, 119, 115, 46, 70, 110, 84, 114, 97, 99, 101, 115], [108, 111, 111, 112, 46, 101, 120, 97, 109, 112, 108, 101, 47, 103, 48, 49, 48, 48, 48, 47, 108, 97, 119, 115, 46, 70, 110, 70, 105, 101, 108, 100, 115], [108, 111, 111, 112, 46, 101, 120, 97, 109, 112, 108, 101, 47, 103, 48, 49, 48, 48, 48, 47, 108, 97, 119, 115, 46, 70, 110, 76, 111, 103, 115], [108, 111, 111, 112, 46, 101, 120, 97, 109, 112, 108, 101, 47, 103, 48, 49, 48, 48, 48, 47, 108, 97, 119, 115, 46, 70, 110, 80, 114, 105, 109, 105, 116, 105, 118, 101]].map fun w => w.map Char.ofNat
theorem initS : Tryz.checked.prog.initOrder = String.ofList signs := by kernel_rfl
theorem initW : behindMainWord (wordsSigns Tryz.checked.prog.initOrder.toList) = word1 :: words := by rw [initS, String.toList_ofList]; kernel_rfl
theorem mayEnter_of {P : Program} {c : List Char} {rest : List (List Char)} (h0 : behindMainWord (wordsSigns P.initOrder.toList) = c :: rest) (h1 : (stripLifts liftWords (c :: rest)) = ([], c :: rest)) (h2 : (c == "cut".toList) = true)
  (h3 : P.laysLater = false) (h4 : P.bearsReflect = false) (h5 : P.doorFits [] = true) : P.mayEnter = true := by
 unfold Program.mayEnter
 rw [h0]
 have e : (some c == some "cut".toList) = true := h2
 refine (Bool.or_eq_true _ _).mpr (.inr ?_)
 rw [h1, h3, h4, h5]
 show ((some c == some "cut".toList) && _ && _ && _ && _) = true
 rw [e]
 rfl
theorem lifts0 : stripLifts liftWords (word1 :: words) = ([], word1 :: words) := by kernel_rfl
theorem enterP : Tryz.checked.prog.mayEnter = true := mayEnter_of initW lifts0 (by kernel_rfl) (by kernel_rfl) (by kernel_rfl) (by kernel_rfl)
theorem headLifts_of {P : Program} {c : List Char} {rest : List (List Char)} (h0 : behindMainWord (wordsSigns P.initOrder.toList) = c :: rest) (h1 : stripLifts liftWords (c :: rest) = ([], c :: rest)) : P.headLifts = [] := by
 unfold Program.headLifts
 rw [h0, h1]
 dsimp only
 split <;> rfl
theorem liftsFinal_of {P : Program} {c : List Char} {rest : List (List Char)} (h0 : behindMainWord (wordsSigns P.initOrder.toList) = c :: rest) (hh : P.headLifts = []) (h2 : (c == "carried".toList) = false) : P.liftsFinal = false := by
 have e : (some c == some "carried".toList) = false := h2
 unfold Program.liftsFinal
 rw [h0, hh]
 show (((some c == some "carried".toList) && _) || _) = false
 rw [e]
 rfl
theorem make_of {P : Program} {c : List Char} {rest : List (List Char)} (h0 : behindMainWord (wordsSigns P.initOrder.toList) = c :: rest) (h1 : (c == "gc".toList) = false) (h2 : (c == "spec".toList) = false) (h3 : (c == "cut".toList) = true) : P.make = some .cut := by
 unfold Program.make
 rw [h0]
 dsimp only
 rw [h1, h2, h3]
 rfl
theorem headP : Tryz.checked.prog.headLifts = [] := headLifts_of initW lifts0
theorem liftP : Tryz.checked.prog.liftsFinal = false := liftsFinal_of initW headP (by kernel_rfl)
theorem makeP : Tryz.checked.prog.make = some .cut := make_of initW (by kernel_rfl) (by kernel_rfl) (by kernel_rfl)

end Go.Proofs.YtaemcmndfhgpjaaGreat
