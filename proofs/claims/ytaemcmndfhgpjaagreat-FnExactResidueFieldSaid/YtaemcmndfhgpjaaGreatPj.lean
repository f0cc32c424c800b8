/- What the program's functions and the reference's return. No conditions. -/
import Derived.Test.YtaemcmndfhgpjaaGreatPi
import Derived.Test.YtaemcmndfhgpjaaGreatRows
namespace Go.Proofs.YtaemcmndfhgpjaaGreat
open Go Go.RowKit Go.Proofs Poly
set_option maxRecDepth 100000
set_option maxHeartbeats 8000000

def HasX (p k : Int) (l x : List Int) : Prop := IsRn p k x ∧ x.length < l.length

theorem extC_fn (p k : Int) (g g' gb : Option Nat) (l x : List Int) (hx : x.length ≤ 1000000000) : FnV 184 [.ints g' x, .box gb (vE p k g l)] (.bool (!(bP (HasX p k l x)))) := by
 by_cases hm : IsRn p k x
 ·refine fn_of (cx_ok [0, 1, 3]) Tryz.func184 rfl (by decide) Tryz.ntmps184 (Nat.le_of_ble_eq_true rfl) fun base => ?_
  refine W.rs (cx_ok _) (by rfl) fun K hK => ?_
  conv => whnf
  refine hK _ ?_
  clear hK K
  refine W.rs (cx_ok _) (by rfl) fun K hK => ?_
  conv => whnf
  refine ⟨by show 0 + 2 ≤ 3; omega, ?_⟩
  conv => whnf
  refine callV rfl ((isInRing_fn p k g' x hx).tr (bP_true hm)) fun hs' hhs => ?_
  try dsimp only at hhs
  conv => whnf
  refine hK _ ?_
  clear hK K
  refine W.ret ?_
  conv => whnf
  exact ⟨.v (.bool (!(bP (HasX p k l x)))), (by show decide ((l.length : Int) ≤ x.length) = !(bP _); by_cases h : x.length < l.length; (rw [decide_eq_false (by omega), bP_true ⟨hm, h⟩]; rfl); (rw [decide_eq_true (by omega), bP_false fun h' => h h'.2]; rfl)), trivial, rfl⟩
 ·refine fn_of (cx_ok [0, 1, 3]) Tryz.func184 rfl (by decide) Tryz.ntmps184 (Nat.le_of_ble_eq_true rfl) fun base => ?_
  refine W.rs (cx_ok _) (by rfl) fun K hK => ?_
  conv => whnf
  refine hK _ ?_
  clear hK K
  refine W.rs (cx_ok _) (by rfl) fun K hK => ?_
  conv => whnf
  refine ⟨by show 0 + 2 ≤ 3; omega, ?_⟩
  conv => whnf
  refine callV rfl ((isInRing_fn p k g' x hx).fa (bP_false hm)) fun hs' hhs => ?_
  try dsimp only at hhs
  conv => whnf
  refine hK _ ?_
  clear hK K
  refine W.ret ?_
  conv => whnf
  exact ⟨.v (.bool (!(bP (HasX p k l x)))), (by rw [bP_false fun h => hm h.1]; rfl), trivial, rfl⟩
noncomputable def codeX (p k : Int) (l : List Int) (n : Nat) (X : Nat → List Int) : Int :=
 bif bP (IsEx p k l) then (bif bP (∀ i, i < n → HasX p k l (X i)) then 0 else 2) else 1
theorem all_hasX {p k : Int} {l : List Int} {n : Nat} {X : Nat → List Int} : bP (∃ i, i < n ∧ (fun i => !(bP (HasX p k l (X i)))) i = true) = !(bP (∀ i, i < n → HasX p k l (X i))) := by
 by_cases h : ∀ i, i < n → HasX p k l (X i)
 ·rw [bP_true h]
  refine bP_false ?_
  rintro ⟨i, hi, h2⟩
  have h2 : (!(bP (HasX p k l (X i)))) = true := h2
  rw [bP_true (h i hi)] at h2; cases h2
 ·rw [bP_false h]
  refine bP_true (Classical.byContradiction fun h2 => h fun i hi => Classical.byContradiction fun h3 => h2 ⟨i, hi, ?_⟩)
  show (!(bP (HasX p k l (X i)))) = true
  rw [bP_false h3]; rfl
theorem extended_fn (p k : Int) (g gs : Option Nat) (l : List Int) (n : Nat) (f : Nat → V) (X : Nat → List Int) (hn : n ≤ 100000000) (hl : l.length ≤ 1000000000) (hX : ∀ i, i < n → (X i).length ≤ 1000000000) (hf : ∀ i, i < n → ∃ g', f i = .ints g' (X i)) :
  FnV 118 [vE p k g l, .vals gs 1 n f] (.int .i64 (codeX p k l n X)) := by
 by_cases hk : IsEx p k l
 case neg =>
  refine fn_of (cx_ok [0, 1, 2, 4, 5, 9]) Tryz.func118 rfl (by decide) Tryz.ntmps118 (Nat.le_of_ble_eq_true rfl) fun base => ?_
  refine W.rs (cx_ok _) (by rfl) fun K hK => ?_
  conv => whnf
  refine ⟨rfl, ?_⟩
  conv => whnf
  intro b_1 hs_1 hh_1 hf_1
  try dsimp only at hh_1 hf_1
  conv => whnf
  refine hK _ ?_
  clear hK K
  refine W.seqK fun K1 hK1 => W.block ?_
  refine W.rs (cx_ok _) (by rfl) fun K hK => ?_
  conv => whnf
  refine callV rfl ((isExtension_fn p k g l hl).fa (bP_false hk)) fun hs' hhs => ?_
  try dsimp only at hhs
  conv => whnf
  refine hK _ (W.condT rfl ?_)
  clear hK K
  refine W.rs (cx_ok _) (by rfl) fun K hK => ?_
  conv => whnf
  refine hK _ ?_
  clear hK K
  refine W.ret ?_
  conv => whnf
  exact ⟨.v (.int .i64 (codeX p k l n X)), ⟨rfl, by unfold codeX; rw [bP_false hk]; rfl⟩, trivial, rfl⟩
 refine fn_of (cx_ok [0, 1, 2, 4, 5, 9]) Tryz.func118 rfl (by decide) Tryz.ntmps118 (Nat.le_of_ble_eq_true rfl) fun base => ?_
 refine W.rs (cx_ok _) (by rfl) fun K hK => ?_
 conv => whnf
 refine ⟨rfl, ?_⟩
 conv => whnf
 intro b_1 hs_1 hh_1 hf_1
 try dsimp only at hh_1 hf_1
 conv => whnf
 refine hK _ ?_
 clear hK K
 refine W.seqK fun K1 hK1 => W.block ?_
 refine W.rs (cx_ok _) (by rfl) fun K hK => ?_
 conv => whnf
 refine callV rfl ((isExtension_fn p k g l hl).tr (bP_true hk)) fun hs' hhs => ?_
 try dsimp only at hhs
 conv => whnf
 refine hK _ (W.condF rfl ?_)
 clear hK K
 refine W.rs (cx_ok _) (by rfl) fun K hK => ?_
 conv => whnf
 refine callV rfl (containsFuncs_fn gs n f 184 [.box none (vE p k g l)] (fun i => !(bP (HasX p k l (X i)))) hn (fun i hi => by obtain ⟨g', h⟩ := hf i hi; exact ⟨_, _, h⟩) (fun i hi => by obtain ⟨g', h⟩ := hf i hi; rw [h]; exact extC_fn p k g g' none l (X i) (hX i hi))) fun hs' hhs => ?_
 try dsimp only at hhs
 conv => whnf
 rw [all_hasX]
 refine hK _ (W.cond ⟨fun h => ?_, fun h => ?_⟩) <;> clear hK K
 ·refine W.rs (cx_ok _) (by rfl) fun K hK => ?_
  conv => whnf
  refine hK _ ?_
  clear hK K
  refine W.ret ?_
  conv => whnf
  exact ⟨.v (.int .i64 (codeX p k l n X)), ⟨rfl, by unfold codeX; rw [bP_true hk]; simp only [cond_true]; rw [show bP (∀ i, i < n → HasX p k l (X i)) = false by simpa using h]; rfl⟩, trivial, rfl⟩
 refine W.skip (hK1 _ ?_)
 clear hK1 K1
 refine W.rs (cx_ok _) (by rfl) fun K hK => ?_
 conv => whnf
 refine hK _ ?_
 clear hK K
 refine W.ret ?_
 conv => whnf
 exact ⟨.v (.int .i64 (codeX p k l n X)), ⟨rfl, by unfold codeX; rw [bP_true hk]; simp only [cond_true]; rw [show bP (∀ i, i < n → HasX p k l (X i)) = true by simpa using h]; rfl⟩, trivial, rfl⟩

open Go Go.RowKit Go.Proofs Poly
set_option maxRecDepth 100000
set_option maxHeartbeats 8000000


open Go Go.RowKit Go.Proofs Poly
set_option maxRecDepth 100000
set_option maxHeartbeats 8000000

def RTF (q : Int) (l : List Int) (c : Int) : PostT := fun _ _ x tb => ∃ b : Nat, x = .tup [.agg [.int .i64 q, .rf b l.length], .int .i64 c] ∧ (l ≠ [] → tb b = some l)
theorem noF_V {f : Nat} {xs : List V} {c : Int} (h : FnV f xs (.tup [.agg [.int .i64 0, .nil], .int .i64 c])) : FnV f xs (.tup [vK 0 none [], .int .i64 c]) :=
 h.le fun _ _ _ r => rep_tup2 (fun _ r => rep_agg2 (fun _ r => r) rep_nilI rfl rfl r) (fun _ r => r) r
theorem noF_T {f : Nat} {xs : List V} {c : Int} (h : FnT Tryz.prog f xs (fun _ _ x _ => x = .tup [.agg [.int .i64 0, .nil], .int .i64 c])) : FnT Tryz.prog f xs (RTF 0 [] c) :=
 h.le fun _ _ x tb hx => ⟨.tup [.agg [.int .i64 0, .rf 0 0], .int .i64 c], ⟨0, rfl, fun h => absurd rfl h⟩, fun _ _ _ r => by subst hx; exact rep_tup2 (fun _ r => rep_agg2 (fun _ r => r) rep_nilR rfl rfl r) (fun _ r => r) r⟩

theorem field_T (p k : Int) (g : Option Nat) (l : List Int) (h : IsRn p k l) : FnT Tryz.prog 119 [vE p k g l] (fun _ _ x tb => ∃ b : Nat, x = .agg [.int .i64 p, .rf b (nrm p l).length] ∧ (nrm p l ≠ [] → tb b = some (nrm p l))) := by
 have hs := h.1.small
 have h9 := h.2.1
 refine fnt_of (cxt_ok [] [0, 1, 2, 1000000]) Tryz.func119 rfl (by decide) Tryz.ntmps119 (Nat.le_of_ble_eq_true rfl) (fun base => ?_) (Nat.le_of_ble_eq_true rfl)
 refine W.rs (cxt_ok _ _) (by rfl) fun K hK => ?_
 conv => whnf
 refine ⟨rfl, ?_⟩
 conv => whnf
 intro b_1 hs_1 hh_1 hf_1
 try dsimp only at hh_1 hf_1
 conv => whnf
 intro b_2 hs_2 hh_2 hf_2
 try dsimp only at hh_2 hf_2
 conv => whnf
 refine hK _ ?_
 clear hK K
 refine W.seqK fun K1 hK1 => W.sch follows ?_
 refine Wany.takeF (cxt_ok [] []) 0 (by rfl) (by rfl) (by rfl) (by rfl) (by decide) (by kernel_rfl) (by kernel_rfl) (by kernel_rfl) ?_
 conv => whnf
 refine Wany.takeF (cxt_ok [] []) 1 (by rfl) (by rfl) (by rfl) (by rfl) (by decide) (by kernel_rfl) (by kernel_rfl) (by kernel_rfl) ?_
 conv => whnf
 refine Wany.takeF (cxt_ok [] []) 3 (by rfl) (by rfl) (by rfl) (by rfl) (by decide) (by kernel_rfl) (by kernel_rfl) (by kernel_rfl) ?_
 conv => whnf
 refine Wany.takeF (cxt_ok [] []) 4 (by rfl) (by rfl) (by rfl) (by rfl) (by decide) (by kernel_rfl) (by kernel_rfl) (by kernel_rfl) ?_
 conv => whnf
 refine Wany.takeF (cxt_ok [] []) 6 (by rfl) (by rfl) (by rfl) (by rfl) (by decide) (by kernel_rfl) (by kernel_rfl) (by kernel_rfl) ?_
 conv => whnf
 refine Wany.all (cxt_ok [] []) (by rfl) (rs := [2, 5, 7]) (by kernel_rfl) (by decide) ?_
 intro i hi
 simp only [List.mem_cons, List.not_mem_nil, or_false] at hi
 rcases hi with rfl | rfl | rfl <;> refine ⟨_, by rfl, by rfl, ?_⟩ <;> conv => whnf
 ·refine Wany.two (cxt_ok [] []) 5 7 (by rfl) (by kernel_rfl) (by rfl) (by rfl) (by rfl) (by rfl) ?_ ?_ <;> conv => whnf
  ·refine Wany.one (cxt_ok [] []) 7 (by rfl) (by kernel_rfl) (by rfl) (by rfl) ?_
   conv => whnf
   refine Wany.one (cxt_ok [] []) 8 (by rfl) (by kernel_rfl) (by rfl) (by rfl) ?_
   conv => whnf
   refine callI rfl (reduce_fn p (by omega) (by omega) g l ((rn_bd h).le (by omega)) (by omega)) fun hs_3 b_3 hh_3 hf_3 => ?_
   try dsimp only at hh_3 hf_3
   conv => whnf
   refine Wany.take (cxt_ok [] []) 9 (by rfl) (by rfl) (fun d hd => by injection hd with hd; subst hd; decide) (by kernel_rfl) (by kernel_rfl) (by kernel_rfl) (by rfl) ?_
   conv => whnf
   refine Wany.one (cxt_ok [] []) 10 (by rfl) (by kernel_rfl) (by rfl) (by rfl) ?_
   conv => whnf
   refine ⟨⟨(by show 2 ≤ 2; omega), rfl⟩, ?_⟩
   conv => whnf
   refine Wany.done (by kernel_rfl) (hK1 _ ?_)
   clear hK1 K1
   refine W.ret ?_
   conv => whnf
   exact ⟨⟨trivial, trivial, trivial⟩, b_3, rfl, fun h => tbAdd_self _ _ h⟩
  ·refine Wany.one (cxt_ok [] []) 5 (by rfl) (by kernel_rfl) (by rfl) (by rfl) ?_
   conv => whnf
   refine Wany.one (cxt_ok [] []) 8 (by rfl) (by kernel_rfl) (by rfl) (by rfl) ?_
   conv => whnf
   refine callI rfl (reduce_fn p (by omega) (by omega) g l ((rn_bd h).le (by omega)) (by omega)) fun hs_3 b_3 hh_3 hf_3 => ?_
   try dsimp only at hh_3 hf_3
   conv => whnf
   refine Wany.take (cxt_ok [] []) 9 (by rfl) (by rfl) (fun d hd => by injection hd with hd; subst hd; decide) (by kernel_rfl) (by kernel_rfl) (by kernel_rfl) (by rfl) ?_
   conv => whnf
   refine Wany.one (cxt_ok [] []) 10 (by rfl) (by kernel_rfl) (by rfl) (by rfl) ?_
   conv => whnf
   refine ⟨⟨(by show 2 ≤ 2; omega), rfl⟩, ?_⟩
   conv => whnf
   refine Wany.done (by kernel_rfl) (hK1 _ ?_)
   clear hK1 K1
   refine W.ret ?_
   conv => whnf
   exact ⟨⟨trivial, trivial, trivial⟩, b_3, rfl, fun h => tbAdd_self _ _ h⟩
 ·refine Wany.two (cxt_ok [] []) 2 7 (by rfl) (by kernel_rfl) (by rfl) (by rfl) (by rfl) (by rfl) ?_ ?_ <;> conv => whnf
  ·refine Wany.one (cxt_ok [] []) 7 (by rfl) (by kernel_rfl) (by rfl) (by rfl) ?_
   conv => whnf
   refine Wany.one (cxt_ok [] []) 8 (by rfl) (by kernel_rfl) (by rfl) (by rfl) ?_
   conv => whnf
   refine callI rfl (reduce_fn p (by omega) (by omega) g l ((rn_bd h).le (by omega)) (by omega)) fun hs_3 b_3 hh_3 hf_3 => ?_
   try dsimp only at hh_3 hf_3
   conv => whnf
   refine Wany.take (cxt_ok [] []) 9 (by rfl) (by rfl) (fun d hd => by injection hd with hd; subst hd; decide) (by kernel_rfl) (by kernel_rfl) (by kernel_rfl) (by rfl) ?_
   conv => whnf
   refine Wany.one (cxt_ok [] []) 10 (by rfl) (by kernel_rfl) (by rfl) (by rfl) ?_
   conv => whnf
   refine ⟨⟨(by show 2 ≤ 2; omega), rfl⟩, ?_⟩
   conv => whnf
   refine Wany.done (by kernel_rfl) (hK1 _ ?_)
   clear hK1 K1
   refine W.ret ?_
   conv => whnf
   exact ⟨⟨trivial, trivial, trivial⟩, b_3, rfl, fun h => tbAdd_self _ _ h⟩
  ·refine Wany.two (cxt_ok [] []) 2 8 (by rfl) (by kernel_rfl) (by rfl) (by rfl) (by rfl) (by rfl) ?_ ?_ <;> conv => whnf
   ·refine Wany.one (cxt_ok [] []) 8 (by rfl) (by kernel_rfl) (by rfl) (by rfl) ?_
    conv => whnf
    refine callI rfl (reduce_fn p (by omega) (by omega) g l ((rn_bd h).le (by omega)) (by omega)) fun hs_3 b_3 hh_3 hf_3 => ?_
    try dsimp only at hh_3 hf_3
    conv => whnf
    refine Wany.take (cxt_ok [] []) 9 (by rfl) (by rfl) (fun d hd => by injection hd with hd; subst hd; decide) (by kernel_rfl) (by kernel_rfl) (by kernel_rfl) (by rfl) ?_
    conv => whnf
    refine Wany.one (cxt_ok [] []) 10 (by rfl) (by kernel_rfl) (by rfl) (by rfl) ?_
    conv => whnf
    refine ⟨⟨(by show 2 ≤ 2; omega), rfl⟩, ?_⟩
    conv => whnf
    refine Wany.done (by kernel_rfl) (hK1 _ ?_)
    clear hK1 K1
    refine W.ret ?_
    conv => whnf
    exact ⟨⟨trivial, trivial, trivial⟩, b_3, rfl, fun h => tbAdd_self _ _ h⟩
   ·refine callI rfl (reduce_fn p (by omega) (by omega) g l ((rn_bd h).le (by omega)) (by omega)) fun hs_3 b_3 hh_3 hf_3 => ?_
    try dsimp only at hh_3 hf_3
    conv => whnf
    refine Wany.one (cxt_ok [] []) 2 (by rfl) (by kernel_rfl) (by rfl) (by rfl) ?_
    conv => whnf
    refine Wany.take (cxt_ok [] []) 9 (by rfl) (by rfl) (fun d hd => by injection hd with hd; subst hd; decide) (by kernel_rfl) (by kernel_rfl) (by kernel_rfl) (by rfl) ?_
    conv => whnf
    refine Wany.one (cxt_ok [] []) 10 (by rfl) (by kernel_rfl) (by rfl) (by rfl) ?_
    conv => whnf
    refine ⟨⟨(by show 2 ≤ 2; omega), rfl⟩, ?_⟩
    conv => whnf
    refine Wany.done (by kernel_rfl) (hK1 _ ?_)
    clear hK1 K1
    refine W.ret ?_
    conv => whnf
    exact ⟨⟨trivial, trivial, trivial⟩, b_3, rfl, fun h => tbAdd_self _ _ h⟩
 ·refine Wany.two (cxt_ok [] []) 2 5 (by rfl) (by kernel_rfl) (by rfl) (by rfl) (by rfl) (by rfl) ?_ ?_ <;> conv => whnf
  ·refine Wany.one (cxt_ok [] []) 5 (by rfl) (by kernel_rfl) (by rfl) (by rfl) ?_
   conv => whnf
   refine Wany.one (cxt_ok [] []) 8 (by rfl) (by kernel_rfl) (by rfl) (by rfl) ?_
   conv => whnf
   refine callI rfl (reduce_fn p (by omega) (by omega) g l ((rn_bd h).le (by omega)) (by omega)) fun hs_3 b_3 hh_3 hf_3 => ?_
   try dsimp only at hh_3 hf_3
   conv => whnf
   refine Wany.take (cxt_ok [] []) 9 (by rfl) (by rfl) (fun d hd => by injection hd with hd; subst hd; decide) (by kernel_rfl) (by kernel_rfl) (by kernel_rfl) (by rfl) ?_
   conv => whnf
   refine Wany.one (cxt_ok [] []) 10 (by rfl) (by kernel_rfl) (by rfl) (by rfl) ?_
   conv => whnf
   refine ⟨⟨(by show 2 ≤ 2; omega), rfl⟩, ?_⟩
   conv => whnf
   refine Wany.done (by kernel_rfl) (hK1 _ ?_)
   clear hK1 K1
   refine W.ret ?_
   conv => whnf
   exact ⟨⟨trivial, trivial, trivial⟩, b_3, rfl, fun h => tbAdd_self _ _ h⟩
  ·refine Wany.two (cxt_ok [] []) 2 8 (by rfl) (by kernel_rfl) (by rfl) (by rfl) (by rfl) (by rfl) ?_ ?_ <;> conv => whnf
   ·refine Wany.one (cxt_ok [] []) 8 (by rfl) (by kernel_rfl) (by rfl) (by rfl) ?_
    conv => whnf
    refine callI rfl (reduce_fn p (by omega) (by omega) g l ((rn_bd h).le (by omega)) (by omega)) fun hs_3 b_3 hh_3 hf_3 => ?_
    try dsimp only at hh_3 hf_3
    conv => whnf
    refine Wany.take (cxt_ok [] []) 9 (by rfl) (by rfl) (fun d hd => by injection hd with hd; subst hd; decide) (by kernel_rfl) (by kernel_rfl) (by kernel_rfl) (by rfl) ?_
    conv => whnf
    refine Wany.one (cxt_ok [] []) 10 (by rfl) (by kernel_rfl) (by rfl) (by rfl) ?_
    conv => whnf
    refine ⟨⟨(by show 2 ≤ 2; omega), rfl⟩, ?_⟩
    conv => whnf
    refine Wany.done (by kernel_rfl) (hK1 _ ?_)
    clear hK1 K1
    refine W.ret ?_
    conv => whnf
    exact ⟨⟨trivial, trivial, trivial⟩, b_3, rfl, fun h => tbAdd_self _ _ h⟩
   ·refine callI rfl (reduce_fn p (by omega) (by omega) g l ((rn_bd h).le (by omega)) (by omega)) fun hs_3 b_3 hh_3 hf_3 => ?_
    try dsimp only at hh_3 hf_3
    conv => whnf
    refine Wany.one (cxt_ok [] []) 2 (by rfl) (by kernel_rfl) (by rfl) (by rfl) ?_
    conv => whnf
    refine Wany.take (cxt_ok [] []) 9 (by rfl) (by rfl) (fun d hd => by injection hd with hd; subst hd; decide) (by kernel_rfl) (by kernel_rfl) (by kernel_rfl) (by rfl) ?_
    conv => whnf
    refine Wany.one (cxt_ok [] []) 10 (by rfl) (by kernel_rfl) (by rfl) (by rfl) ?_
    conv => whnf
    refine ⟨⟨(by show 2 ≤ 2; omega), rfl⟩, ?_⟩
    conv => whnf
    refine Wany.done (by kernel_rfl) (hK1 _ ?_)
    clear hK1 K1
    refine W.ret ?_
    conv => whnf
    exact ⟨⟨trivial, trivial, trivial⟩, b_3, rfl, fun h => tbAdd_self _ _ h⟩
-- 8 ways

theorem ResidueField_both (kp kq : Int) (kl : List Int) (_ : inR kp) (_ : inR kq) (hkl : kl.length ≤ 1048576) : ∃ (r0p : Int) (r0l : List Int) (r1 : Int),
  (∀ g0 : Option Nat, FnV 28 [vE kp kq g0 kl] (.tup [vK r0p none r0l, .int .i64 r1])) ∧ (∀ g0 : Option Nat, FnT Tryz.prog 30 [vE kp kq g0 kl] (RTF r0p r0l r1)) ∧ r0l.length ≤ 1000000 := by
 by_cases hk : IsEx kp kq kl
 case neg =>
  have hc : codeX kp kq kl 0 (fun _ => []) = 1 := by unfold codeX; rw [bP_false hk]; rfl
  refine ⟨0, [], 1, fun g0 => noF_V ?_, fun g0 => noF_T ?_, by simp⟩
  ·refine fn_of (cx_ok [0, 1, 2, 3, 6]) Tryz.func28 rfl (by decide) Tryz.ntmps28 (Nat.le_of_ble_eq_true rfl) fun base => ?_
   refine W.rs (cx_ok _) (by rfl) fun K hK => ?_
   conv => whnf
   refine ⟨rfl, ?_⟩
   conv => whnf
   intro b_1 hs_1 hh_1 hf_1
   try dsimp only at hh_1 hf_1
   conv => whnf
   intro b_2 hs_2 hh_2 hf_2
   try dsimp only at hh_2 hf_2
   conv => whnf
   refine hK _ ?_
   clear hK K
   refine W.seqK fun K1 hK1 => ?_
   refine W.rs (cx_ok _) (by rfl) fun K hK => ?_
   conv => whnf
   refine callV rfl ((isExtensionS_fn kp kq g0 kl (by omega)).fa (bP_false hk)) fun hs' hhs => ?_
   try dsimp only at hhs
   conv => whnf
   refine hK _ (W.condT rfl ?_)
   clear hK K
   refine W.rs (cx_ok _) (by rfl) fun K hK => ?_
   conv => whnf
   refine ⟨⟨(by show 2 ≤ 2; omega), rfl⟩, ?_⟩
   conv => whnf
   refine hK _ ?_
   clear hK K
   refine W.ret ?_
   conv => whnf
   exact ⟨⟨trivial, trivial, trivial⟩, .v (.int .i64 1), ⟨rfl, rfl⟩, trivial, rfl⟩
  ·refine fnt_of (cxt_ok [] [0, 1, 2, 3, 4, 8, 1000000]) Tryz.func30 rfl (by decide) Tryz.ntmps30 (Nat.le_of_ble_eq_true rfl) (fun base => ?_) (Nat.le_of_ble_eq_true rfl)
   refine W.sw (c' := cx [0, 1, 2, 3, 4, 8, 1000000]) ?_
   refine W.rs (cx_ok _) (by rfl) fun K hK => ?_
   conv => whnf
   refine ⟨rfl, ?_⟩
   conv => whnf
   intro b_1 hs_1 hh_1 hf_1
   try dsimp only at hh_1 hf_1
   conv => whnf
   intro b_2 hs_2 hh_2 hf_2
   try dsimp only at hh_2 hf_2
   conv => whnf
   refine hK _ ?_
   clear hK K
   refine W.seqK fun K1 hK1 => ?_
   refine W.rs (cx_ok _) (by rfl) fun K hK => ?_
   conv => whnf
   refine callV rfl (extended_fn kp kq g0 none kl 0 _ (fun _ => []) (by omega) (by omega) (fun i hi => by omega) (fun i hi => by omega)) fun hs' hhs => ?_
   try dsimp only at hhs
   conv => whnf
   rw [hc]
   refine hK _ ?_
   clear hK K
   refine W.rs (cx_ok _) (by rfl) fun K hK => ?_
   conv => whnf
   refine hK _ (W.cond ⟨fun _ => ?_, fun hcc => absurd (by decide : (1 : Int) ≠ 0) (of_decide_eq_false hcc)⟩)
   clear hK K
   refine W.rs (cx_ok _) (by rfl) fun K hK => ?_
   conv => whnf
   refine ⟨⟨(by show 2 ≤ 2; omega), rfl⟩, ?_⟩
   conv => whnf
   refine hK _ ?_
   clear hK K
   refine W.ret ?_
   conv => whnf
   exact ⟨⟨trivial, trivial, trivial⟩, .v (.int .i64 1), ⟨rfl, rfl⟩, trivial, rfl⟩
 have hc : codeX kp kq kl 0 (fun _ => []) = 0 := by unfold codeX; rw [bP_true hk, bP_true (fun i hi => by omega)]; rfl
 have h9 := hk.1.2.1
 have hnl : (nrm kp kl).length ≤ kl.length := by
  have h3 := trimZ_length (kl.map (· % kp))
  rw [List.length_map] at h3; exact h3
 refine ⟨kp, nrm kp kl, 0, fun g0 => ?_, fun g0 => ?_, by omega⟩
 ·refine fn_of (cx_ok [0, 1, 2, 3, 6]) Tryz.func28 rfl (by decide) Tryz.ntmps28 (Nat.le_of_ble_eq_true rfl) fun base => ?_
  refine W.rs (cx_ok _) (by rfl) fun K hK => ?_
  conv => whnf
  refine ⟨rfl, ?_⟩
  conv => whnf
  intro b_1 hs_1 hh_1 hf_1
  try dsimp only at hh_1 hf_1
  conv => whnf
  intro b_2 hs_2 hh_2 hf_2
  try dsimp only at hh_2 hf_2
  conv => whnf
  refine hK _ ?_
  clear hK K
  refine W.seqK fun K1 hK1 => ?_
  refine W.rs (cx_ok _) (by rfl) fun K hK => ?_
  conv => whnf
  refine callV rfl ((isExtensionS_fn kp kq g0 kl (by omega)).tr (bP_true hk)) fun hs' hhs => ?_
  try dsimp only at hhs
  conv => whnf
  refine hK _ (W.condF rfl (W.skip (hK1 _ ?_)))
  clear hK K hK1 K1
  refine W.rs (cx_ok _) (by rfl) fun K hK => ?_
  conv => whnf
  refine callV rfl (l20Field_fn kp kq g0 kl hk.1) fun hs' hhs => ?_
  try dsimp only at hhs
  conv => whnf
  refine ⟨⟨(by show 2 ≤ 2; omega), rfl⟩, ?_⟩
  conv => whnf
  refine hK _ ?_
  clear hK K
  refine W.ret ?_
  conv => whnf
  exact ⟨⟨trivial, trivial, trivial⟩, .v (.int .i64 0), ⟨rfl, rfl⟩, trivial, rfl⟩
 ·refine fnt_of (cxt_ok [] [0, 1, 2, 3, 4, 8, 1000000]) Tryz.func30 rfl (by decide) Tryz.ntmps30 (Nat.le_of_ble_eq_true rfl) (fun base => ?_) (Nat.le_of_ble_eq_true rfl)
  refine W.sw (c' := cx [0, 1, 2, 3, 4, 8, 1000000]) ?_
  refine W.rs (cx_ok _) (by rfl) fun K hK => ?_
  conv => whnf
  refine ⟨rfl, ?_⟩
  conv => whnf
  intro b_1 hs_1 hh_1 hf_1
  try dsimp only at hh_1 hf_1
  conv => whnf
  intro b_2 hs_2 hh_2 hf_2
  try dsimp only at hh_2 hf_2
  conv => whnf
  refine hK _ ?_
  clear hK K
  refine W.seqK fun K1 hK1 => ?_
  refine W.rs (cx_ok _) (by rfl) fun K hK => ?_
  conv => whnf
  refine callV rfl (extended_fn kp kq g0 none kl 0 _ (fun _ => []) (by omega) (by omega) (fun i hi => by omega) (fun i hi => by omega)) fun hs' hhs => ?_
  try dsimp only at hhs
  conv => whnf
  rw [hc]
  refine hK _ ?_
  clear hK K
  refine W.rs (cx_ok _) (by rfl) fun K hK => ?_
  conv => whnf
  refine hK _ (W.cond ⟨fun hcc => absurd rfl (of_decide_eq_true hcc), fun _ => W.skip (hK1 _ ?_)⟩)
  clear hK K hK1 K1
  refine W.sw (c' := cxt [119] [0, 1, 2, 3, 4, 8, 1000000]) ?_
  refine W.rs (cxt_ok _ _) (by rfl) fun K hK => ?_
  conv => whnf
  refine ⟨_, cxT (field_T kp kq g0 kl hk.1), fun lo_t hi_t hs_t x_t tn_t tb_t hl1_t hl2_t _ hp_t hf_t hn_t ho_t => ?_⟩
  try dsimp only at hl1_t hl2_t
  obtain ⟨bt, rfl, ht⟩ := hp_t
  conv => whnf
  refine ⟨⟨(by show 2 ≤ 2; omega), rfl⟩, ?_⟩
  conv => whnf
  refine hK _ ?_
  clear hK K
  refine W.ret ?_
  conv => whnf
  exact ⟨⟨trivial, trivial, trivial⟩, .v (.int .i64 0), ⟨rfl, rfl⟩, trivial, bt, rfl, fun h => hn_t _ _ (ht h)⟩

open Go Go.RowKit Go.ChangeShapes Go.WideShapes Go.ChangeAt Go.Proofs Go.Proofs.YtaemcmndfhgpjaaGreat

theorem fn_calls {P : Program} {f : Nat} {xs : List V} {r : V} {w : World} {vs : Array Value} (h : Fn P f xs (fun _ _ a => a = .v r)) (hl : vs.size = xs.length)
  (hr : ∀ j, j < xs.length → Rep (okAll w) w.heap (xs.getD j .nil) (vs.getD j undef)) :
  Calls P f vs w fun e w' => ∃ v, e = .returned v ∧ Below w.heap.size w w' ∧ Rep (okR (fun _ => False) w'.heap.size) w'.heap r v := by
 refine (h.2 (fun _ => False) w vs (fun _ h => h.elim) hl hr).mono fun e w' ⟨v, av, hi, h1, h2, h3, h4, h5⟩ => ?_
 subst h3
 obtain ⟨_, h6, _⟩ := h5
 refine ⟨v, h1, h4, ?_⟩
 exact Rep.mono h6 fun g b hb => ⟨⟨hb.1, fun h => h.elim, hb.2.2⟩, rfl⟩

theorem fn_true {P : Program} {f : Nat} {xs : List V} {w : World} {vs : Array Value} (h : Fn P f xs (fun _ _ a => a = .v .tr)) (hl : vs.size = xs.length)
  (hr : ∀ j, j < xs.length → Rep (okAll w) w.heap (xs.getD j .nil) (vs.getD j undef)) :
  Calls P f vs w fun e w' => e = .returned (.bool true) ∧ Below w.heap.size w w' :=
 (fn_calls h hl hr).mono fun e w' ⟨v, h1, h2, h3⟩ => by
  cases h3
  exact ⟨h1, h2⟩

theorem ownP : ownKnob Tryz.prog.godebug = none := by kernel_rfl
theorem laidOutP : laidOutB Tryz.prog = true := by kernel_rfl
theorem cellsInt : Tryz.prog.cellsOf 2 = 1 := by kernel_rfl

theorem cellsInts : Tryz.prog.cellsOf 22 = 1 := by kernel_rfl
theorem readsInt {H : Type} {enc : TypeId × Value → H} {W : World} : Reads enc Tryz.prog W 2 1 TyInt := reads_int Tryz.underlying2
theorem readsInts {H : Type} {enc : TypeId × Value → H} {W : World} : Reads enc Tryz.prog W 22 1 TyInts := reads_ints Tryz.underlying22 Tryz.underlying2 cellsInt
theorem readsRing {H : Type} {enc : TypeId × Value → H} {W : World} : Reads enc Tryz.prog W 39 2 (TyCat [TyInt, TyInt]) :=
 reads_struct Tryz.underlying39 (by kernel_rfl) ⟨rfl, 1, cellsInt, readsInt, rfl, 1, cellsInt, readsInt, rfl⟩
theorem readsExtension {H : Type} {enc : TypeId × Value → H} {W : World} : Reads enc Tryz.prog W 41 3 (TyCat [TyCat [TyInt, TyInt], TyInts]) :=
 reads_struct Tryz.underlying41 (by kernel_rfl) ⟨rfl, 2, by kernel_rfl, readsRing, rfl, 1, cellsInts, readsInts, rfl⟩

open Go Go.RowKit Go.ChangeShapes Go.WideShapes Go.ChangeAt Go.Proofs Go.Proofs.YtaemcmndfhgpjaaGreat
set_option maxRecDepth 100000

def signs : List Char := [104, 97, 114, 110, 101, 115, 115, 32, 51, 54, 51, 55, 55, 49, 102, 54, 50, 100, 48, 51, 51, 101, 56, 102, 52, 53, 56, 97, 55, 51, 97, 57, 101, 50, 102, 101, 98, 100, 52, 49, 54, 51, 51, 48, 50, 101, 48, 50, 100, 99, 98, 99, 101, 50, 48, 99, 50, 101, 56, 102, 55, 102, 100, 50, 49, 102, 55, 56, 99, 52, 101, 57, 32, 99, 117, 116, 32, 97, 116, 32, 108, 111, 111, 112, 46, 101, 120, 97, 109, 112, 108, 101, 47, 103, 48, 49, 48, 48, 48, 47, 108, 97, 119, 115, 46, 70, 110, 69, 120, 97, 99, 116, 69, 108, 101, 109, 101, 110, 116, 115, 79, 102, 79, 114, 100, 101, 114, 32, 108, 111, 111, 112, 46, 101, 120, 97, 109, 112, 108, 101, 47, 103, 48, 49, 48, 48, 48, 47, 108, 97, 119, 115, 46, 70, 110, 69, 120, 97, 99, 116, 82, 111, 111, 116, 115, 79, 102, 69, 108, 101, 109, 101, 110, 116, 32, 108, 111, 111, 112, 46, 101, 120, 97, 109, 112, 108, 101, 47, 103, 48, 49, 48, 48, 48, 47, 108, 97, 119, 115, 46, 70, 110, 69, 120, 97, 99, 116, 82, 101, 115, 105, 100, 117, 101, 70, 105, 101, 108, 100, 32, 108, 111, 111, 112, 46, 101, 120, 97, 109, 112, 108, 101, 47, 103, 48, 49, 48, 48, 48, 47, 108, 97, 119, 115, 46, 70, 110, 69, 120, 97, 99, 116, 67, 111, 110, 106, 117, 103, 97, 116, 101, 115, 79, 102, 32, 108, 111, 111, 112, 46, 101, 120, 97, 109, 112, 108, 101, 47, 103, 48, 49, 48, 48, 48, 47, 108, 97, 119, 115, 46, 70, 110, 69, 120, 97, 99, 116, 82, 111, 111, 116, 115, 73, 110, 70, 105, 101, 108, 100, 32, 108, 111, 111, 112, 46, 101, 120, 97, 109, 112, 108, 101, 47, 103, 48, 49, 48, 48, 48, 47, 108, 97, 119, 115, 46, 70, 110, 69, 120, 97, 99, 116, 77, 105, 110, 105, 109, 97, 108, 80, 111, 108, 121, 110, 111, 109, 105, 97, 108, 32, 108, 111, 111, 112, 46, 101, 120, 97, 109, 112, 108, 101, 47, 103, 48, 49, 48, 48, 48, 47, 108, 97, 119, 115, 46, 70, 110, 69, 120, 97, 99, 116, 90, 101, 99, 104, 76, 111, 103, 97, 114, 105, 116, 104, 109, 32, 108, 111, 111, 112, 46, 101, 120, 97, 109, 112, 108, 101, 47, 103, 48, 49, 48, 48, 48, 47, 108, 97, 119, 115, 46, 70, 110, 69, 108, 101, 109, 101, 110, 116, 115, 32, 108, 111, 111, 112, 46, 101, 120, 97, 109, 112, 108, 101, 47, 103, 48, 49, 48, 48, 48, 47, 108, 97, 119, 115, 46, 70, 110, 84, 114, 97, 99, 101, 115, 32, 108, 111, 111, 112, 46, 101, 120, 97, 109, 112, 108, 101, 47, 103, 48, 49, 48, 48, 48, 47, 108, 97, 119, 115, 46, 70, 110, 70, 105, 101, 108, 100, 115, 32, 108, 111, 111, 112, 46, 101, 120, 97, 109, 112, 108, 101, 47, 103, 48, 49, 48, 48, 48, 47, 108, 97, 119, 115, 46, 70, 110, 76, 111, 103, 115, 32, 108, 111, 111, 112, 46, 101, 120, 97, 109, 112, 108, 101, 47, 103, 48, 49, 48, 48, 48, 47, 108, 97, 119, 115, 46, 70, 110, 80, 114, 105, 109, 105, 116, 105, 118, 101].map Char.ofNat
def word1 : List Char := [99, 117, 116].map Char.ofNat
def words : List (List Char) := [[97, 116], [108, 111, 111, 112, 46, 101, 120, 97, 109, 112, 108, 101, 47, 103, 48, 49, 48, 48, 48, 47, 108, 97, 119, 115, 46, 70, 110, 69, 120, 97, 99, 116, 69, 108, 101, 109, 101, 110, 116, 115, 79, 102, 79, 114, 100, 101, 114], [108, 111, 111, 112, 46, 101, 120, 97, 109, 112, 108, 101, 47, 103, 48, 49, 48, 48, 48, 47, 108, 97, 119, 115, 46, 70, 110, 69, 120, 97, 99, 116, 82, 111, 111, 116, 115, 79, 102, 69, 108, 101, 109, 101, 110, 116], [108, 111, 111, 112, 46, 101, 120, 97, 109, 112, 108, 101, 47, 103, 48, 49, 48, 48, 48, 47, 108, 97, 119, 115, 46, 70, 110, 69, 120, 97, 99, 116, 82, 101, 115, 105, 100, 117, 101, 70, 105, 101, 108, 100], [108, 111, 111, 112, 46, 101, 120, 97, 109, 112, 108, 101, 47, 103, 48, 49, 48, 48, 48, 47, 108, 97, 119, 115, 46, 70, 110, 69, 120, 97, 99, 116, 67, 111, 110, 106, 117, 103, 97, 116, 101, 115, 79, 102], [108, 111, 111, 112, 46, 101, 120, 97, 109, 112, 108, 101, 47, 103, 48, 49, 48, 48, 48, 47, 108, 97, 119, 115, 46, 70, 110, 69, 120, 97, 99, 116, 82, 111, 111, 116, 115, 73, 110, 70, 105, 101, 108, 100], [108, 111, 111, 112, 46, 101, 120, 97, 109, 112, 108, 101, 47, 103, 48, 49, 48, 48, 48, 47, 108, 97, 119, 115, 46, 70, 110, 69, 120, 97, 99, 116, 77, 105, 110, 105, 109, 97, 108, 80, 111, 108, 121, 110, 111, 109, 105, 97, 108], [108, 111, 111, 112, 46, 101, 120, 97, 109, 112, 108, 101, 47, 103, 48, 49, 48, 48, 48, 47, 108, 97, 119, 115, 46, 70, 110, 69, 120, 97, 99, 116, 90, 101, 99, 104, 76, 111, 103, 97, 114, 105, 116, 104, 109], [108, 111, 111, 112, 46, 101, 120, 97, 109, 112, 108, 101, 47, 103, 48, 49, 48, 48, 48, 47, 108, 97, 119, 115, 46, 70, 110, 69, 108, 101, 109, 101, 110, 116, 115], [108, 111, 111, 112, 46, 101, 120, 97, 109, 112, 108, 101, 47, 103, 48, 49, 48, 48, 48, 47, 108, 97, 119, 115, 46, 70, 110, 84, 114, 97, 99, 101, 115], [108, 111, 111, 112, 46, 101, 120, 97, 109, 112, 108, 101, 47, 103, 48, 49, 48, 48, 48, 47, 108, 97, 119, 115, 46, 70, 110, 70, 105, 101, 108, 100, 115], [108, 111, 111, 112, 46, 101, 120, 97, 109, 112, 108, 101, 47, 103, 48, 49, 48, 48, 48, 47, 108, 97, 119, 115, 46, 70, 110, 76, 111, 103, 115], [108, 111, 111, 112, 46, 101, 120, 97, 109, 112, 108, 101, 47, 103, 48, 49, 48, 48, 48, 47, 108, 97, 119, 115, 46, 70, 110, 80, 114, 105, 109, 105, 116, 105, 118, 101]].map fun w => w.map Char.ofNat
theorem initS : Tryz.checked.prog.initOrder = String.ofList signs := by kernel_rfl
theorem initW : behindMainWord (wordsSigns Tryz.checked.prog.initOrder.toList) = word1 :: words := by rw [initS, String.toList_ofList]; kernel_rfl
theorem mayEnter_of {P : Program} {c : List Char} {rest : List (List Char)} (h0 : behindMainWord (wordsSigns P.initOrder.toList) = c :: rest) (h1 : (stripLifts liftWords (c :: rest)) = ([], c :: rest)) (h2 : (c == "cut".toList) = true)
  (h3 : P.laysLater = false) (h4 : P.bearsReflect = false) (h5 : P.doorFits [] = true) : P.mayEnter = true := by
 unfold Program.mayEnter
 rw [h0]
 have e : (some c == some "cut".toList) = true := h2
 refine (Bool.or_eq_true _ _).mpr (.inr ?_)
 rw [h1, h3, h4, h5]
 show ((some c == some "cut".toList) && _ && _ && _ && _) = true
 rw [e]
 rfl
theorem lifts0 : stripLifts liftWords (word1 :: words) = ([], word1 :: words) := by kernel_rfl
theorem enterP : Tryz.checked.prog.mayEnter = true := mayEnter_of initW lifts0 (by kernel_rfl) (by kernel_rfl) (by kernel_rfl) (by kernel_rfl)
theorem headLifts_of {P : Program} {c : List Char} {rest : List (List Char)} (h0 : behindMainWord (wordsSigns P.initOrder.toList) = c :: rest) (h1 : stripLifts liftWords (c :: rest) = ([], c :: rest)) : P.headLifts = [] := by
 unfold Program.headLifts
 rw [h0, h1]
 dsimp only
 split <;> rfl
theorem liftsFinal_of {P : Program} {c : List Char} {rest : List (List Char)} (h0 : behindMainWord (wordsSigns P.initOrder.toList) = c :: rest) (hh : P.headLifts = []) (h2 : (c == "carried".toList) = false) : P.liftsFinal = false := by
 have e : (some c == some "carried".toList) = false := h2
 unfold Program.liftsFinal
 rw [h0, hh]
 show (((some c == some "carried".toList) && _) || _) = false
 rw [e]
 rfl
theorem make_of {P : Program} {c : List Char} {rest : List (List Char)} (h0 : behindMainWord (wordsSigns P.initOrder.toList) = c :: rest) (h1 : (c == "gc".toList) = false) (h2 : (c == "spec".toList) = false) (h3 : (c == "cut".toList) = true) : P.make = some .cut := by
 unfold Program.make
 rw [h0]
 dsimp only
 rw [h1, h2, h3]
 rfl
theorem headP : Tryz.checked.prog.headLifts = [] := headLifts_of initW lifts0
theorem liftP : Tryz.checked.prog.liftsFinal = false := liftsFinal_of initW headP (by kernel_rfl)
theorem makeP : Tryz.checked.prog.make = some .cut := make_of initW (by kernel_rfl) (by kernel_rfl) (by kernel_rfl)

end Go.Proofs.YtaemcmndfhgpjaaGreat
