/- What the program's functions and the reference's return. No conditions. -/
import Derived.Test.YtaiahdeegchobaaGreatPh
import Derived.Test.YtaiahdeegchobaaGreatRows
namespace Go.Proofs.YtaiahdeegchobaaGreat
open Go Go.RowKit Go.Proofs Poly
set_option maxRecDepth 100000
set_option maxHeartbeats 8000000

/-- an element of the field with modulus l -/
def Has (p : Int) (l x : List Int) : Prop := IsMod p x ∧ x.length < l.length

theorem has_fn (p : Int) (g g' : Option Nat) (l x : List Int) : FnV 86 [vK p g l, .ints g' x] (.bool (bP (Has p l x))) := by
  by_cases hm : IsMod p x
  · refine fn_of (cx_ok [0, 1, 2, 4]) Tryz.func86 rfl (by decide) Tryz.ntmps86 (Nat.le_of_ble_eq_true rfl) fun base => ?_
    refine W.rs (cx_ok _) (by rfl) fun K hK => ?_
    conv => whnf
    refine ⟨rfl, ?_⟩
    conv => whnf
    intro b_1 hs_1 hh_1 hf_1
    try dsimp only at hh_1 hf_1
    conv => whnf
    refine hK _ ?_
    clear hK K
    refine W.rs (cx_ok _) (by rfl) fun K hK => ?_
    conv => whnf
    refine callV rfl ((isModular_fn g' p x).tr (bP_true hm)) fun hs' hhs => ?_
    try dsimp only at hhs
    conv => whnf
    refine hK _ ?_
    clear hK K
    refine W.ret ?_
    conv => whnf
    exact ⟨.v (.bool (bP (Has p l x))), (by show decide ((x.length : Int) < l.length) = bP _; by_cases h : x.length < l.length; (rw [decide_eq_true (by omega), bP_true ⟨hm, h⟩]); (rw [decide_eq_false (by omega), bP_false fun h' => h h'.2])), trivial, rfl⟩
  · refine fn_of (cx_ok [0, 1, 2, 4]) Tryz.func86 rfl (by decide) Tryz.ntmps86 (Nat.le_of_ble_eq_true rfl) fun base => ?_
    refine W.rs (cx_ok _) (by rfl) fun K hK => ?_
    conv => whnf
    refine ⟨rfl, ?_⟩
    conv => whnf
    intro b_1 hs_1 hh_1 hf_1
    try dsimp only at hh_1 hf_1
    conv => whnf
    refine hK _ ?_
    clear hK K
    refine W.rs (cx_ok _) (by rfl) fun K hK => ?_
    conv => whnf
    refine callV rfl ((isModular_fn g' p x).fa (bP_false hm)) fun hs' hhs => ?_
    try dsimp only at hhs
    conv => whnf
    refine hK _ ?_
    clear hK K
    refine W.ret ?_
    conv => whnf
    exact ⟨.v (.bool (bP (Has p l x))), bP_false fun h => hm h.1, trivial, rfl⟩

theorem l17Is_fn (p : Int) (g g' : Option Nat) (l x : List Int) (hx : x.length ≤ 1000000000) : FnV 88 [vK p g l, .ints g' x] (.bool (bP (Has p l x))) := by
  by_cases hm : IsMod p x
  · refine fn_of (cx_ok [0, 1, 2, 4]) Tryz.func88 rfl (by decide) Tryz.ntmps88 (Nat.le_of_ble_eq_true rfl) fun base => ?_
    refine W.rs (cx_ok _) (by rfl) fun K hK => ?_
    conv => whnf
    refine ⟨rfl, ?_⟩
    conv => whnf
    intro b_1 hs_1 hh_1 hf_1
    try dsimp only at hh_1 hf_1
    conv => whnf
    refine hK _ ?_
    clear hK K
    refine W.rs (cx_ok _) (by rfl) fun K hK => ?_
    conv => whnf
    refine callV rfl ((isModS_fn g' p x hx).tr (bP_true hm)) fun hs' hhs => ?_
    try dsimp only at hhs
    conv => whnf
    refine hK _ ?_
    clear hK K
    refine W.ret ?_
    conv => whnf
    exact ⟨.v (.bool (bP (Has p l x))), (by show decide ((x.length : Int) < l.length) = bP _; by_cases h : x.length < l.length; (rw [decide_eq_true (by omega), bP_true ⟨hm, h⟩]); (rw [decide_eq_false (by omega), bP_false fun h' => h h'.2])), trivial, rfl⟩
  · refine fn_of (cx_ok [0, 1, 2, 4]) Tryz.func88 rfl (by decide) Tryz.ntmps88 (Nat.le_of_ble_eq_true rfl) fun base => ?_
    refine W.rs (cx_ok _) (by rfl) fun K hK => ?_
    conv => whnf
    refine ⟨rfl, ?_⟩
    conv => whnf
    intro b_1 hs_1 hh_1 hf_1
    try dsimp only at hh_1 hf_1
    conv => whnf
    refine hK _ ?_
    clear hK K
    refine W.rs (cx_ok _) (by rfl) fun K hK => ?_
    conv => whnf
    refine callV rfl ((isModS_fn g' p x hx).fa (bP_false hm)) fun hs' hhs => ?_
    try dsimp only at hhs
    conv => whnf
    refine hK _ ?_
    clear hK K
    refine W.ret ?_
    conv => whnf
    exact ⟨.v (.bool (bP (Has p l x))), bP_false fun h => hm h.1, trivial, rfl⟩

theorem elsC_fn (p : Int) (g g' gb : Option Nat) (l x : List Int) : FnV 85 [.ints g' x, .box gb (vK p g l)] (.bool (!(bP (Has p l x)))) := by
  refine fn_of (cx_ok [0, 1, 3]) Tryz.func85 rfl (by decide) Tryz.ntmps85 (Nat.le_of_ble_eq_true rfl) fun base => ?_
  refine W.rs (cx_ok _) (by rfl) fun K hK => ?_
  conv => whnf
  refine hK _ ?_
  clear hK K
  refine W.rs (cx_ok _) (by rfl) fun K hK => ?_
  conv => whnf
  refine callV rfl (has_fn p g g' l x) fun hs' hhs => ?_
  try dsimp only at hhs
  conv => whnf
  refine hK _ ?_
  clear hK K
  refine W.ret ?_
  conv => whnf
  exact ⟨.v (.bool (!(bP (Has p l x)))), rfl, trivial, rfl⟩

/-- the code of elements -/
noncomputable def codeEl (p : Int) (l : List Int) (fine : Bool) (n : Nat) (X : Nat → List Int) : Int :=
  bif bP (IsFld p l) then (bif fine && bP (∀ i, i < n → Has p l (X i)) then 0 else 2) else 1

theorem all_has {p : Int} {l : List Int} {n : Nat} {X : Nat → List Int} : bP (∃ i, i < n ∧ (fun i => !(bP (Has p l (X i)))) i = true) = !(bP (∀ i, i < n → Has p l (X i))) := by
  by_cases h : ∀ i, i < n → Has p l (X i)
  · rw [bP_true h]
    refine bP_false ?_
    rintro ⟨i, hi, h2⟩
    have h2 : (!(bP (Has p l (X i)))) = true := h2
    rw [bP_true (h i hi)] at h2; cases h2
  · rw [bP_false h]
    refine bP_true (Classical.byContradiction fun h2 => h fun i hi => Classical.byContradiction fun h3 => h2 ⟨i, hi, ?_⟩)
    show (!(bP (Has p l (X i)))) = true
    rw [bP_false h3]; rfl

theorem elements_tr (p : Int) (g gs : Option Nat) (l : List Int) (n : Nat) (f : Nat → V) (X : Nat → List Int) (hn : n ≤ 100000000) (hl : l.length ≤ 1000000000) (hf : ∀ i, i < n → ∃ g', f i = .ints g' (X i)) :
    FnV 45 [vK p g l, .tr, .vals gs 1 n f] (.int .i64 (codeEl p l true n X)) := by
  by_cases hk : IsFld p l
  case neg =>
    refine fn_of (cx_ok [0, 1, 2, 3, 6, 7, 11]) Tryz.func45 rfl (by decide) Tryz.ntmps45 (Nat.le_of_ble_eq_true rfl) fun base => ?_
    refine W.rs (cx_ok _) (by rfl) fun K hK => ?_
    conv => whnf
    refine ⟨rfl, ?_⟩
    conv => whnf
    intro b_1 hs_1 hh_1 hf_1
    try dsimp only at hh_1 hf_1
    conv => whnf
    refine hK _ ?_
    clear hK K
    refine W.seqK fun K1 hK1 => W.block ?_
    refine W.rs (cx_ok _) (by rfl) fun K hK => ?_
    conv => whnf
    refine callV rfl ((isField_fn p g l hl).fa (bP_false hk)) fun hs' hhs => ?_
    try dsimp only at hhs
    conv => whnf
    refine hK _ (W.condT rfl ?_)
    clear hK K
    refine W.rs (cx_ok _) (by rfl) fun K hK => ?_
    conv => whnf
    refine hK _ ?_
    clear hK K
    refine W.ret ?_
    conv => whnf
    exact ⟨.v (.int .i64 (codeEl p l true n X)), ⟨rfl, by unfold codeEl; rw [bP_false hk]; rfl⟩, trivial, rfl⟩
  refine fn_of (cx_ok [0, 1, 2, 3, 6, 7, 11]) Tryz.func45 rfl (by decide) Tryz.ntmps45 (Nat.le_of_ble_eq_true rfl) fun base => ?_
  refine W.rs (cx_ok _) (by rfl) fun K hK => ?_
  conv => whnf
  refine ⟨rfl, ?_⟩
  conv => whnf
  intro b_1 hs_1 hh_1 hf_1
  try dsimp only at hh_1 hf_1
  conv => whnf
  refine hK _ ?_
  clear hK K
  refine W.seqK fun K1 hK1 => W.block ?_
  refine W.rs (cx_ok _) (by rfl) fun K hK => ?_
  conv => whnf
  refine callV rfl ((isField_fn p g l hl).tr (bP_true hk)) fun hs' hhs => ?_
  try dsimp only at hhs
  conv => whnf
  refine hK _ (W.condF rfl ?_)
  clear hK K
  refine W.rs (cx_ok _) (by rfl) fun K hK => ?_
  conv => whnf
  refine callV rfl (containsFuncs_fn gs n f 85 [.box none (vK p g l)] (fun i => !(bP (Has p l (X i)))) hn (fun i hi => by obtain ⟨g', h⟩ := hf i hi; exact ⟨_, _, h⟩) (fun i hi => by obtain ⟨g', h⟩ := hf i hi; rw [h]; exact elsC_fn p g g' none l (X i))) fun hs' hhs => ?_
  try dsimp only at hhs
  conv => whnf
  rw [all_has]
  refine hK _ (W.cond ⟨fun h => ?_, fun h => ?_⟩) <;> clear hK K
  · refine W.rs (cx_ok _) (by rfl) fun K hK => ?_
    conv => whnf
    refine hK _ ?_
    clear hK K
    refine W.ret ?_
    conv => whnf
    exact ⟨.v (.int .i64 (codeEl p l true n X)), ⟨rfl, by unfold codeEl; rw [bP_true hk]; simp only [cond_true, Bool.true_and]; rw [show bP (∀ i, i < n → Has p l (X i)) = false by simpa using h]; rfl⟩, trivial, rfl⟩
  refine W.skip (hK1 _ ?_)
  clear hK1 K1
  refine W.rs (cx_ok _) (by rfl) fun K hK => ?_
  conv => whnf
  refine hK _ ?_
  clear hK K
  refine W.ret ?_
  conv => whnf
  exact ⟨.v (.int .i64 (codeEl p l true n X)), ⟨rfl, by unfold codeEl; rw [bP_true hk]; simp only [cond_true, Bool.true_and]; rw [show bP (∀ i, i < n → Has p l (X i)) = true by simpa using h]; rfl⟩, trivial, rfl⟩

theorem elements_bool (p : Int) (g gs : Option Nat) (l : List Int) (b : Bool) (n : Nat) (f : Nat → V) (X : Nat → List Int) (hn : n ≤ 100000000) (hl : l.length ≤ 1000000000) (hf : ∀ i, i < n → ∃ g', f i = .ints g' (X i)) :
    FnV 45 [vK p g l, .bool b, .vals gs 1 n f] (.int .i64 (codeEl p l b n X)) := by
  by_cases hk : IsFld p l
  case neg =>
    refine fn_of (cx_ok [0, 1, 2, 3, 6, 7, 11]) Tryz.func45 rfl (by decide) Tryz.ntmps45 (Nat.le_of_ble_eq_true rfl) fun base => ?_
    refine W.rs (cx_ok _) (by rfl) fun K hK => ?_
    conv => whnf
    refine ⟨rfl, ?_⟩
    conv => whnf
    intro b_1 hs_1 hh_1 hf_1
    try dsimp only at hh_1 hf_1
    conv => whnf
    refine hK _ ?_
    clear hK K
    refine W.seqK fun K1 hK1 => W.block ?_
    refine W.rs (cx_ok _) (by rfl) fun K hK => ?_
    conv => whnf
    refine callV rfl ((isField_fn p g l hl).fa (bP_false hk)) fun hs' hhs => ?_
    try dsimp only at hhs
    conv => whnf
    refine hK _ (W.condT rfl ?_)
    clear hK K
    refine W.rs (cx_ok _) (by rfl) fun K hK => ?_
    conv => whnf
    refine hK _ ?_
    clear hK K
    refine W.ret ?_
    conv => whnf
    exact ⟨.v (.int .i64 (codeEl p l b n X)), ⟨rfl, by unfold codeEl; rw [bP_false hk]; rfl⟩, trivial, rfl⟩
  refine fn_of (cx_ok [0, 1, 2, 3, 6, 7, 11]) Tryz.func45 rfl (by decide) Tryz.ntmps45 (Nat.le_of_ble_eq_true rfl) fun base => ?_
  refine W.rs (cx_ok _) (by rfl) fun K hK => ?_
  conv => whnf
  refine ⟨rfl, ?_⟩
  conv => whnf
  intro b_1 hs_1 hh_1 hf_1
  try dsimp only at hh_1 hf_1
  conv => whnf
  refine hK _ ?_
  clear hK K
  refine W.seqK fun K1 hK1 => W.block ?_
  refine W.rs (cx_ok _) (by rfl) fun K hK => ?_
  conv => whnf
  refine callV rfl ((isField_fn p g l hl).tr (bP_true hk)) fun hs' hhs => ?_
  try dsimp only at hhs
  conv => whnf
  refine hK _ (W.condF rfl ?_)
  clear hK K
  refine W.rs (cx_ok _) (by rfl) fun K hK => ?_
  conv => whnf
  refine ⟨fun hb => ?_, fun hb => ?_⟩ <;> conv => whnf
  · refine hK _ (W.condT rfl ?_)
    clear hK K
    refine W.rs (cx_ok _) (by rfl) fun K hK => ?_
    conv => whnf
    refine hK _ ?_
    clear hK K
    refine W.ret ?_
    conv => whnf
    exact ⟨.v (.int .i64 (codeEl p l b n X)), ⟨rfl, by unfold codeEl; rw [bP_true hk, show b = false by simpa using hb]; rfl⟩, trivial, rfl⟩
  refine callV rfl (containsFuncs_fn gs n f 85 [.box none (vK p g l)] (fun i => !(bP (Has p l (X i)))) hn (fun i hi => by obtain ⟨g', h⟩ := hf i hi; exact ⟨_, _, h⟩) (fun i hi => by obtain ⟨g', h⟩ := hf i hi; rw [h]; exact elsC_fn p g g' none l (X i))) fun hs' hhs => ?_
  try dsimp only at hhs
  conv => whnf
  rw [all_has]
  have hb : b = true := by simpa using hb
  refine hK _ (W.cond ⟨fun h => ?_, fun h => ?_⟩) <;> clear hK K
  · refine W.rs (cx_ok _) (by rfl) fun K hK => ?_
    conv => whnf
    refine hK _ ?_
    clear hK K
    refine W.ret ?_
    conv => whnf
    exact ⟨.v (.int .i64 (codeEl p l b n X)), ⟨rfl, by unfold codeEl; rw [bP_true hk, hb]; simp only [cond_true, Bool.true_and]; rw [show bP (∀ i, i < n → Has p l (X i)) = false by simpa using h]; rfl⟩, trivial, rfl⟩
  refine W.skip (hK1 _ ?_)
  clear hK1 K1
  refine W.rs (cx_ok _) (by rfl) fun K hK => ?_
  conv => whnf
  refine hK _ ?_
  clear hK K
  refine W.ret ?_
  conv => whnf
  exact ⟨.v (.int .i64 (codeEl p l b n X)), ⟨rfl, by unfold codeEl; rw [bP_true hk, hb]; simp only [cond_true, Bool.true_and]; rw [show bP (∀ i, i < n → Has p l (X i)) = true by simpa using h]; rfl⟩, trivial, rfl⟩

/-- two elements, or one twice -/
def two (x y : List Int) (i : Nat) : List Int := if i = 0 then x else y

/-- the reference's code -/
theorem l17Code_fn (p : Int) (g g1 g2 : Option Nat) (l x y : List Int) (hl : l.length ≤ 1000000000) (hx : x.length ≤ 1000000000) (hy : y.length ≤ 1000000000) :
    FnV 48 [vK p g l, .ints g1 x, .ints g2 y] (.int .i64 (codeEl p l true 2 (two x y))) := by
  by_cases hk : IsFld p l
  case neg =>
    refine fn_of (cx_ok [0, 1, 2, 3, 6, 9, 19]) Tryz.func48 rfl (by decide) Tryz.ntmps48 (Nat.le_of_ble_eq_true rfl) fun base => ?_
    refine W.rs (cx_ok _) (by rfl) fun K hK => ?_
    conv => whnf
    refine ⟨rfl, ?_⟩
    conv => whnf
    intro b_1 hs_1 hh_1 hf_1
    try dsimp only at hh_1 hf_1
    conv => whnf
    refine hK _ ?_
    clear hK K
    refine W.seqK fun K1 hK1 => ?_
    refine W.rs (cx_ok _) (by rfl) fun K hK => ?_
    conv => whnf
    refine callV rfl ((isFieldS_fn p g l hl).fa (bP_false hk)) fun hs' hhs => ?_
    try dsimp only at hhs
    conv => whnf
    refine hK _ (W.condT rfl ?_)
    clear hK K
    refine W.rs (cx_ok _) (by rfl) fun K hK => ?_
    conv => whnf
    refine hK _ ?_
    clear hK K
    refine W.ret ?_
    conv => whnf
    exact ⟨.v (.int .i64 (codeEl p l true 2 (two x y))), ⟨rfl, by unfold codeEl; rw [bP_false hk]; rfl⟩, trivial, rfl⟩
  by_cases h1 : Has p l x
  case neg =>
    refine fn_of (cx_ok [0, 1, 2, 3, 6, 9, 19]) Tryz.func48 rfl (by decide) Tryz.ntmps48 (Nat.le_of_ble_eq_true rfl) fun base => ?_
    refine W.rs (cx_ok _) (by rfl) fun K hK => ?_
    conv => whnf
    refine ⟨rfl, ?_⟩
    conv => whnf
    intro b_1 hs_1 hh_1 hf_1
    try dsimp only at hh_1 hf_1
    conv => whnf
    refine hK _ ?_
    clear hK K
    refine W.seqK fun K1 hK1 => ?_
    refine W.rs (cx_ok _) (by rfl) fun K hK => ?_
    conv => whnf
    refine callV rfl ((isFieldS_fn p g l hl).tr (bP_true hk)) fun hs' hhs => ?_
    try dsimp only at hhs
    conv => whnf
    refine hK _ (W.condF rfl (W.skip (hK1 _ ?_)))
    clear hK K hK1 K1
    refine W.seqK fun K1 hK1 => ?_
    refine W.rs (cx_ok _) (by rfl) fun K hK => ?_
    conv => whnf
    refine callV rfl ((l17Is_fn p g g1 l x hx).fa (bP_false h1)) fun hs' hhs => ?_
    try dsimp only at hhs
    conv => whnf
    refine hK _ (W.condT rfl ?_)
    clear hK K
    refine W.rs (cx_ok _) (by rfl) fun K hK => ?_
    conv => whnf
    refine hK _ ?_
    clear hK K
    refine W.ret ?_
    conv => whnf
    exact ⟨.v (.int .i64 (codeEl p l true 2 (two x y))), ⟨rfl, by unfold codeEl; rw [bP_true hk, bP_false fun h => h1 (h 0 (by omega))]; rfl⟩, trivial, rfl⟩
  by_cases h2 : Has p l y
  case neg =>
    refine fn_of (cx_ok [0, 1, 2, 3, 6, 9, 19]) Tryz.func48 rfl (by decide) Tryz.ntmps48 (Nat.le_of_ble_eq_true rfl) fun base => ?_
    refine W.rs (cx_ok _) (by rfl) fun K hK => ?_
    conv => whnf
    refine ⟨rfl, ?_⟩
    conv => whnf
    intro b_1 hs_1 hh_1 hf_1
    try dsimp only at hh_1 hf_1
    conv => whnf
    refine hK _ ?_
    clear hK K
    refine W.seqK fun K1 hK1 => ?_
    refine W.rs (cx_ok _) (by rfl) fun K hK => ?_
    conv => whnf
    refine callV rfl ((isFieldS_fn p g l hl).tr (bP_true hk)) fun hs' hhs => ?_
    try dsimp only at hhs
    conv => whnf
    refine hK _ (W.condF rfl (W.skip (hK1 _ ?_)))
    clear hK K hK1 K1
    refine W.seqK fun K1 hK1 => ?_
    refine W.rs (cx_ok _) (by rfl) fun K hK => ?_
    conv => whnf
    refine callV rfl ((l17Is_fn p g g1 l x hx).tr (bP_true h1)) fun hs' hhs => ?_
    try dsimp only at hhs
    conv => whnf
    refine callV rfl ((l17Is_fn p g g2 l y hy).fa (bP_false h2)) fun hs' hhs => ?_
    try dsimp only at hhs
    conv => whnf
    refine hK _ (W.condT rfl ?_)
    clear hK K
    refine W.rs (cx_ok _) (by rfl) fun K hK => ?_
    conv => whnf
    refine hK _ ?_
    clear hK K
    refine W.ret ?_
    conv => whnf
    exact ⟨.v (.int .i64 (codeEl p l true 2 (two x y))), ⟨rfl, by unfold codeEl; rw [bP_true hk, bP_false fun h => h2 (h 1 (by omega))]; rfl⟩, trivial, rfl⟩
  refine fn_of (cx_ok [0, 1, 2, 3, 6, 9, 19]) Tryz.func48 rfl (by decide) Tryz.ntmps48 (Nat.le_of_ble_eq_true rfl) fun base => ?_
  refine W.rs (cx_ok _) (by rfl) fun K hK => ?_
  conv => whnf
  refine ⟨rfl, ?_⟩
  conv => whnf
  intro b_1 hs_1 hh_1 hf_1
  try dsimp only at hh_1 hf_1
  conv => whnf
  refine hK _ ?_
  clear hK K
  refine W.seqK fun K1 hK1 => ?_
  refine W.rs (cx_ok _) (by rfl) fun K hK => ?_
  conv => whnf
  refine callV rfl ((isFieldS_fn p g l hl).tr (bP_true hk)) fun hs' hhs => ?_
  try dsimp only at hhs
  conv => whnf
  refine hK _ (W.condF rfl (W.skip (hK1 _ ?_)))
  clear hK K hK1 K1
  refine W.seqK fun K1 hK1 => ?_
  refine W.rs (cx_ok _) (by rfl) fun K hK => ?_
  conv => whnf
  refine callV rfl ((l17Is_fn p g g1 l x hx).tr (bP_true h1)) fun hs' hhs => ?_
  try dsimp only at hhs
  conv => whnf
  refine callV rfl ((l17Is_fn p g g2 l y hy).tr (bP_true h2)) fun hs' hhs => ?_
  try dsimp only at hhs
  conv => whnf
  refine hK _ (W.condF rfl (W.skip (hK1 _ ?_)))
  clear hK K hK1 K1
  refine W.rs (cx_ok _) (by rfl) fun K hK => ?_
  conv => whnf
  refine hK _ ?_
  clear hK K
  refine W.ret ?_
  conv => whnf
  exact ⟨.v (.int .i64 (codeEl p l true 2 (two x y))), ⟨rfl, by unfold codeEl; rw [bP_true hk, bP_true (fun i hi => by match i, hi with | 0, _ => exact h1 | 1, _ => exact h2)]; rfl⟩, trivial, rfl⟩

theorem codeEl_ok {p : Int} {l : List Int} {b : Bool} {n : Nat} {X : Nat → List Int} (h : codeEl p l b n X = 0) : IsFld p l ∧ b = true ∧ ∀ i, i < n → Has p l (X i) := by
  unfold codeEl at h
  by_cases hk : IsFld p l
  · rw [bP_true hk] at h
    by_cases h2 : ∀ i, i < n → Has p l (X i)
    · rw [bP_true h2] at h
      cases b
      · cases h
      · exact ⟨hk, rfl, h2⟩
    · rw [bP_false h2] at h
      cases b <;> cases h
  · rw [bP_false hk] at h; cases h

/-- one code for the other -/
theorem codeEl_congr {p : Int} {l : List Int} {b : Bool} {n m : Nat} {X Y : Nat → List Int} (h : (∀ i, i < n → Has p l (X i)) ↔ (∀ i, i < m → Has p l (Y i))) : codeEl p l b n X = codeEl p l b m Y := by
  unfold codeEl; rw [bP_congr h]

theorem l17Size_fn (p : Int) (g : Option Nat) (l : List Int) (hk : IsFld p l) : FnV 43 [vK p g l] (.int .i64 (p ^ (l.length - 1))) := by
  have h2 := isP_le hk.mod.1
  have h9 := hk.mod.2.1
  have hl2 := hk.two
  have e1 : ((l.length : Int) - 1) = ((l.length - 1 : Nat) : Int) := by omega
  have e2 : ordS p (l.length - 1) = p ^ (l.length - 1) := by unfold ordS; rw [if_pos hk.ord]
  refine fn_of (cx_ok [0, 1, 2]) Tryz.func43 rfl (by decide) Tryz.ntmps43 (Nat.le_of_ble_eq_true rfl) fun base => ?_
  refine W.rs (cx_ok _) (by rfl) fun K hK => ?_
  conv => whnf
  refine ⟨rfl, ?_⟩
  conv => whnf
  intro b_1 hs_1 hh_1 hf_1
  try dsimp only at hh_1 hf_1
  conv => whnf
  refine hK _ ?_
  clear hK K
  refine W.rs (cx_ok _) (by rfl) fun K hK => ?_
  conv => whnf
  refine ⟨by constructor <;> omega, ?_⟩
  conv => whnf
  rw [e1]
  refine callV rfl (l17Order_fn p (l.length - 1) (by omega) (by omega) (by omega)) fun hs' hhs => ?_
  try dsimp only at hhs
  conv => whnf
  rw [e2]
  refine hK _ ?_
  clear hK K
  refine W.ret ?_
  conv => whnf
  exact ⟨.v (.int .i64 (p ^ (l.length - 1))), ⟨rfl, rfl⟩, trivial, rfl⟩

/-- what a field is -/
theorem fld_poly {p : Int} {l : List Int} (hk : IsFld p l) : ∃ hp : p ∈ primes, letI := sp_of hp; ∃ f : Poly p, f.l = l ∧ Irr f ∧ Mon f ∧ 2 ≤ dg f ∧ dg f ≤ 9 := by
  obtain ⟨hp, f, hf, hi⟩ := hk.irr
  refine ⟨hp, ?_⟩
  letI := sp_of hp
  subst hf
  have h1 : f.l.length = dg f := rfl
  have h2 := hk.two
  have h3 := hk.mod.2.1
  exact ⟨f, rfl, hi, ⟨hi.ne, hk.mon.2⟩, by omega, by omega⟩
theorem mod_poly {p : Int} [SP p] {x : List Int} (h : IsMod p x) : ∃ X : Poly p, X.l = x := by
  obtain ⟨hp, f, hf⟩ := poly_of h
  exact ⟨f, hf⟩

end Go.Proofs.YtaiahdeegchobaaGreat

namespace Go.Proofs.YtaiahdeegchobaaGreat
open Go Go.RowKit Go.Proofs Poly
set_option maxRecDepth 100000
set_option maxHeartbeats 8000000

/-- a list and a code, new -/
def RT (l : List Int) (c : Int) : PostT := fun _ _ x tb => ∃ b : Nat, x = .tup [.rf b l.length, .int .i64 c] ∧ (l ≠ [] → tb b = some l)
theorem sum_l {p : Int} [SP p] (X Y : Poly p) : nrm p (trimZ (addL X.l Y.l)) = (X + Y).l := nrm_trim _ _

theorem smul_one (l : List Int) : smulL 1 l = l := list_ext (by simp [smulL]) fun j _ => by rw [cf_smulL]; omega
theorem l_bd2 {p : Int} [SP p] (X : Poly p) : Bd 2305843009213693951 X.l := (l_bd X).le (by omega)

end Go.Proofs.YtaiahdeegchobaaGreat

namespace Go.Proofs.YtaiahdeegchobaaGreat
open Go Go.RowKit Go.Proofs Poly
set_option maxRecDepth 100000
set_option maxHeartbeats 8000000

/-- the code of one element -/
noncomputable def code1 (p : Int) (l x : List Int) : Int := codeEl p l true 1 (fun _ => x)
theorem code1_eq (p : Int) (l x : List Int) : codeEl p l true 2 (two x x) = code1 p l x :=
  codeEl_congr ⟨fun h i hi => h 0 (by omega), fun h i hi => by match i, hi with | 0, _ => exact h 0 (by omega) | 1, _ => exact h 0 (by omega)⟩
theorem l17Code_one (p : Int) (g g1 g2 : Option Nat) (l x : List Int) (hl : l.length ≤ 1000000000) (hx : x.length ≤ 1000000000) : FnV 48 [vK p g l, .ints g1 x, .ints g2 x] (.int .i64 (code1 p l x)) :=
  (l17Code_fn p g g1 g2 l x x hl hx hx).mono (by rw [code1_eq])
theorem els1 (g1 : Option Nat) (x : List Int) : ∀ i, i < 1 → ∃ g', nth [.ints g1 x] i = .ints g' ((fun _ => x) i) := fun i hi => match i, hi with
  | 0, _ => ⟨g1, rfl⟩
theorem code1_ok {p : Int} {l x : List Int} (h : code1 p l x = 0) : IsFld p l ∧ Has p l x := by
  obtain ⟨h1, _, h2⟩ := codeEl_ok h
  exact ⟨h1, h2 0 (by omega)⟩
theorem codeEl_b (p : Int) (l : List Int) (b : Bool) (n : Nat) (X : Nat → List Int) : codeEl p l b n X = if codeEl p l true n X = 0 then (if b = true then 0 else 2) else codeEl p l true n X := by
  unfold codeEl
  by_cases hk : IsFld p l
  · rw [bP_true hk]
    by_cases h2 : ∀ i, i < n → Has p l (X i)
    · rw [bP_true h2]; cases b <;> simp
    · rw [bP_false h2]; cases b <;> simp
  · rw [bP_false hk]; simp

/- powers -/
theorem kPower_fn (p : Int) [SP p] (g g1 : Option Nat) (f X : Poly p) (n : Nat) (hn : n ≤ 1000000000000) (hX : dg X ≤ 1000000) (hf : dg f ≤ 500) (hf0 : f ≠ 0) : FnV 52 [vK p g f.l, .ints g1 X.l, .int .i64 n] (.ints none (rem (X ^ n) f).l) := by
  refine fn_of (cx_ok [0, 1, 2, 3, 6]) Tryz.func52 rfl (by decide) Tryz.ntmps52 (Nat.le_of_ble_eq_true rfl) fun base => ?_
  refine W.rs (cx_ok _) (by rfl) fun K hK => ?_
  conv => whnf
  refine ⟨rfl, ?_⟩
  conv => whnf
  intro b_1 hs_1 hh_1 hf_1
  try dsimp only at hh_1 hf_1
  conv => whnf
  refine hK _ ?_
  clear hK K
  refine W.rs (cx_ok _) (by rfl) fun K hK => ?_
  conv => whnf
  refine callV rfl (powerBy_fn p g1 g X f n hn hX hf hf0) fun hs' hhs => ?_
  try dsimp only at hhs
  conv => whnf
  refine hK _ ?_
  clear hK K
  refine W.ret ?_
  conv => whnf
  exact ⟨.v (.ints none (rem (X ^ n) f).l), ⟨rfl, rfl⟩, trivial, rfl⟩
theorem l17Power_fn (p : Int) [SP p] (g g1 : Option Nat) (f X : Poly p) (n : Nat) (hn : n ≤ 1000000000000) (hX : dg X ≤ 1000000) (hf : dg f ≤ 500) (hf0 : f ≠ 0) : FnV 50 [vK p g f.l, .ints g1 X.l, .int .i64 n] (.ints none (rem (X ^ n) f).l) := by
  refine fn_of (cx_ok [0, 1, 2, 3, 6]) Tryz.func50 rfl (by decide) Tryz.ntmps50 (Nat.le_of_ble_eq_true rfl) fun base => ?_
  refine W.rs (cx_ok _) (by rfl) fun K hK => ?_
  conv => whnf
  refine ⟨rfl, ?_⟩
  conv => whnf
  intro b_1 hs_1 hh_1 hf_1
  try dsimp only at hh_1 hf_1
  conv => whnf
  refine hK _ ?_
  clear hK K
  refine W.rs (cx_ok _) (by rfl) fun K hK => ?_
  conv => whnf
  refine callV rfl (l08Power_fn p g1 g X f n hn hX hf hf0) fun hs' hhs => ?_
  try dsimp only at hhs
  conv => whnf
  refine hK _ ?_
  clear hK K
  refine W.ret ?_
  conv => whnf
  exact ⟨.v (.ints none (rem (X ^ n) f).l), ⟨rfl, rfl⟩, trivial, rfl⟩
/-- a list, new -/
def R1 (l : List Int) : PostT := fun _ _ x tb => ∃ b : Nat, x = .rf b l.length ∧ (l ≠ [] → tb b = some l)
theorem kPower_T (p : Int) [SP p] (g g1 : Option Nat) (f X : Poly p) (n : Nat) (hn : n ≤ 1000000000000) (hX : dg X ≤ 1000000) (hf : dg f ≤ 500) (hf0 : f ≠ 0) : FnT Tryz.prog 52 [vK p g f.l, .ints g1 X.l, .int .i64 n] (R1 (rem (X ^ n) f).l) := by
  refine fnt_of (cxt_ok [] [0, 1, 2, 3, 6, 1000000]) Tryz.func52 rfl (by decide) Tryz.ntmps52 (Nat.le_of_ble_eq_true rfl) (fun base => ?_) (Nat.le_of_ble_eq_true rfl)
  refine W.rs (cxt_ok _ _) (by rfl) fun K hK => ?_
  conv => whnf
  refine ⟨rfl, ?_⟩
  conv => whnf
  intro b_1 hs_1 hh_1 hf_1
  try dsimp only at hh_1 hf_1
  conv => whnf
  refine hK _ ?_
  clear hK K
  refine W.sw (c' := cxt [90] [0, 1, 2, 3, 6, 1000000]) ?_
  refine W.rs (cxt_ok _ _) (by rfl) fun K hK => ?_
  conv => whnf
  refine ⟨_, cxT (powerBy_T p g1 g X f n hn hX hf hf0), fun lo_r hi_r hs_r x_r tn_r tb_r hl1_r hl2_r _ hp_r hf_r hn_r ho_r => ?_⟩
  try dsimp only at hl1_r hl2_r
  obtain ⟨br, rfl, hr⟩ := hp_r
  conv => whnf
  refine hK _ ?_
  clear hK K
  refine W.ret ?_
  conv => whnf
  exact ⟨.v (.rf br (rem (X ^ n) f).l.length), rfl, trivial, br, rfl, fun h => hn_r _ _ (hr h)⟩

theorem kPowerP_fn (p : Int) [SP p] (g g1 : Option Nat) (f X : Poly p) (hX : dg X ≤ 1000000) (hf : dg f ≤ 500) (hf0 : f ≠ 0) : FnV 52 [vK p g f.l, .ints g1 X.l, .int .i64 p] (.ints none (rem (X ^ p.toNat) f).l) := by
  have hp := Pr.two (p := p)
  have hp2 := SP.le (p := p)
  have h := kPower_fn p g g1 f X p.toNat (by omega) hX hf hf0
  rwa [Int.toNat_of_nonneg (by omega)] at h
theorem l17PowerP_fn (p : Int) [SP p] (g g1 : Option Nat) (f X : Poly p) (hX : dg X ≤ 1000000) (hf : dg f ≤ 500) (hf0 : f ≠ 0) : FnV 50 [vK p g f.l, .ints g1 X.l, .int .i64 p] (.ints none (rem (X ^ p.toNat) f).l) := by
  have hp := Pr.two (p := p)
  have hp2 := SP.le (p := p)
  have h := l17Power_fn p g g1 f X p.toNat (by omega) hX hf hf0
  rwa [Int.toNat_of_nonneg (by omega)] at h
theorem kPowerP_T (p : Int) [SP p] (g g1 : Option Nat) (f X : Poly p) (hX : dg X ≤ 1000000) (hf : dg f ≤ 500) (hf0 : f ≠ 0) : FnT Tryz.prog 52 [vK p g f.l, .ints g1 X.l, .int .i64 p] (R1 (rem (X ^ p.toNat) f).l) := by
  have hp := Pr.two (p := p)
  have hp2 := SP.le (p := p)
  have h := kPower_T p g g1 f X p.toNat (by omega) hX hf hf0
  rwa [Int.toNat_of_nonneg (by omega)] at h
theorem kFrob_T (p : Int) [SP p] (g g1 : Option Nat) (f X : Poly p) (hX : dg X ≤ 1000000) (hf : dg f ≤ 500) (hf0 : f ≠ 0) : FnT Tryz.prog 59 [vK p g f.l, .ints g1 X.l] (R1 (rem (X ^ p.toNat) f).l) := by
  refine fnt_of (cxt_ok [] [0, 1, 2, 4, 1000000]) Tryz.func59 rfl (by decide) Tryz.ntmps59 (Nat.le_of_ble_eq_true rfl) (fun base => ?_) (Nat.le_of_ble_eq_true rfl)
  refine W.rs (cxt_ok _ _) (by rfl) fun K hK => ?_
  conv => whnf
  refine ⟨rfl, ?_⟩
  conv => whnf
  intro b_1 hs_1 hh_1 hf_1
  try dsimp only at hh_1 hf_1
  conv => whnf
  refine hK _ ?_
  clear hK K
  refine W.sw (c' := cxt [52] [0, 1, 2, 4, 1000000]) ?_
  refine W.rs (cxt_ok _ _) (by rfl) fun K hK => ?_
  conv => whnf
  refine ⟨_, cxT (kPowerP_T p g g1 f X hX hf hf0), fun lo_r hi_r hs_r x_r tn_r tb_r hl1_r hl2_r _ hp_r hf_r hn_r ho_r => ?_⟩
  try dsimp only at hl1_r hl2_r
  obtain ⟨br, rfl, hr⟩ := hp_r
  conv => whnf
  refine hK _ ?_
  clear hK K
  refine W.ret ?_
  conv => whnf
  exact ⟨.v (.rf br (rem (X ^ p.toNat) f).l.length), rfl, trivial, br, rfl, fun h => hn_r _ _ (hr h)⟩
theorem kFrob_fn (p : Int) [SP p] (g g1 : Option Nat) (f X : Poly p) (hX : dg X ≤ 1000000) (hf : dg f ≤ 500) (hf0 : f ≠ 0) : FnV 59 [vK p g f.l, .ints g1 X.l] (.ints none (rem (X ^ p.toNat) f).l) := by
  refine fn_of (cx_ok [0, 1, 2, 4]) Tryz.func59 rfl (by decide) Tryz.ntmps59 (Nat.le_of_ble_eq_true rfl) fun base => ?_
  refine W.rs (cx_ok _) (by rfl) fun K hK => ?_
  conv => whnf
  refine ⟨rfl, ?_⟩
  conv => whnf
  intro b_1 hs_1 hh_1 hf_1
  try dsimp only at hh_1 hf_1
  conv => whnf
  refine hK _ ?_
  clear hK K
  refine W.rs (cx_ok _) (by rfl) fun K hK => ?_
  conv => whnf
  refine callV rfl (kPowerP_fn p g g1 f X hX hf hf0) fun hs' hhs => ?_
  try dsimp only at hhs
  conv => whnf
  refine hK _ ?_
  clear hK K
  refine W.ret ?_
  conv => whnf
  exact ⟨.v (.ints none (rem (X ^ p.toNat) f).l), ⟨rfl, rfl⟩, trivial, rfl⟩

theorem constant_fn (g : Option Nat) (l : List Int) (hl : l.length ≤ 1000000000) : FnV 60 [.ints g l] (.int .i64 (cf l 0)) := by
  refine fn_of (cx_ok [0, 2, 5]) Tryz.func60 rfl (by decide) Tryz.ntmps60 (Nat.le_of_ble_eq_true rfl) fun base => ?_
  refine W.rs (cx_ok _) (by rfl) fun K hK => ?_
  conv => whnf
  refine hK _ ?_
  clear hK K
  refine W.seqK fun K1 hK1 => ?_
  refine W.rs (cx_ok _) (by rfl) fun K hK => ?_
  conv => whnf
  refine hK _ (W.cond ⟨fun h => ?_, fun h => ?_⟩) <;> clear hK K
  · have h := of_decide_eq_true h
    obtain rfl : l = [] := List.eq_nil_of_length_eq_zero (by omega)
    refine W.rs (cx_ok _) (by rfl) fun K hK => ?_
    conv => whnf
    refine hK _ ?_
    clear hK K
    refine W.ret ?_
    conv => whnf
    exact ⟨.v (.int .i64 (cf [] 0)), ⟨rfl, rfl⟩, trivial, rfl⟩
  · have h := of_decide_eq_false h
    refine W.skip (hK1 _ ?_)
    clear hK1 K1
    refine W.rs (cx_ok _) (by rfl) fun K hK => ?_
    conv => whnf
    refine ⟨⟨by omega, by omega⟩, ?_⟩
    conv => whnf
    refine hK _ ?_
    clear hK K
    refine W.ret ?_
    conv => whnf
    exact ⟨.v (.int .i64 (cf l 0)), ⟨rfl, rfl⟩, trivial, rfl⟩
theorem l18Constant_fn (g : Option Nat) (l : List Int) (hl : l.length ≤ 1000000000) : FnV 55 [.ints g l] (.int .i64 (cf l 0)) := by
  refine fn_of (cx_ok [0, 2, 5]) Tryz.func55 rfl (by decide) Tryz.ntmps55 (Nat.le_of_ble_eq_true rfl) fun base => ?_
  refine W.rs (cx_ok _) (by rfl) fun K hK => ?_
  conv => whnf
  refine hK _ ?_
  clear hK K
  refine W.seqK fun K1 hK1 => ?_
  refine W.rs (cx_ok _) (by rfl) fun K hK => ?_
  conv => whnf
  refine hK _ (W.cond ⟨fun h => ?_, fun h => ?_⟩) <;> clear hK K
  · have h := of_decide_eq_true h
    obtain rfl : l = [] := List.eq_nil_of_length_eq_zero (by omega)
    refine W.rs (cx_ok _) (by rfl) fun K hK => ?_
    conv => whnf
    refine hK _ ?_
    clear hK K
    refine W.ret ?_
    conv => whnf
    exact ⟨.v (.int .i64 (cf [] 0)), ⟨rfl, rfl⟩, trivial, rfl⟩
  · have h := of_decide_eq_false h
    refine W.skip (hK1 _ ?_)
    clear hK1 K1
    refine W.rs (cx_ok _) (by rfl) fun K hK => ?_
    conv => whnf
    refine ⟨⟨by omega, by omega⟩, ?_⟩
    conv => whnf
    refine hK _ ?_
    clear hK K
    refine W.ret ?_
    conv => whnf
    exact ⟨.v (.int .i64 (cf l 0)), ⟨rfl, rfl⟩, trivial, rfl⟩

/-- the Frobenius, formed again and again -/
noncomputable def frN {p : Int} [SP p] (f X : Poly p) : Nat → Poly p
  | 0 => X
  | k + 1 => rem (frN f X k ^ p.toNat) f
theorem frN_lt {p : Int} [SP p] {f X : Poly p} (hf : f ≠ 0) (hX : dg X < dg f) : ∀ k, dg (frN f X k) < dg f
  | 0 => hX
  | _ + 1 => rem_lt _ hf
/-- the trace's first terms -/
noncomputable def trN {p : Int} [SP p] (f X : Poly p) : Nat → Poly p
  | 0 => 0
  | k + 1 => trN f X k + frN f X k
theorem trN_lt {p : Int} [SP p] {f X : Poly p} (hf : f ≠ 0) (hX : dg X < dg f) : ∀ k, dg (trN f X k) < dg f
  | 0 => by show dg (0 : Poly p) < _; rw [dg_zero]; omega
  | k + 1 => by
    have h1 := trN_lt hf hX k
    have h2 := frN_lt hf hX k
    have h3 := dg_add (trN f X k) (frN f X k)
    show dg (trN f X k + frN f X k) < _; omega
/-- the norm's first terms -/
noncomputable def nrN {p : Int} [SP p] (f X : Poly p) : Nat → Poly p
  | 0 => 1
  | k + 1 => rem (nrN f X k * frN f X k) f
theorem nrN_lt {p : Int} [SP p] {f X : Poly p} (hf : f ≠ 0) (h2 : 2 ≤ dg f) : ∀ k, dg (nrN f X k) < dg f
  | 0 => by show dg (1 : Poly p) < _; rw [dg_one]; omega
  | _ + 1 => rem_lt _ hf


theorem TraceOf_both (kp : Int) (kl x : List Int) (_ : inR kp) (hkl : kl.length ≤ 1048576) (hx : x.length ≤ 1048576) : ∃ r0 r1 : Int,
    (∀ g0 g1 : Option Nat, FnV 25 [vK kp g0 kl, .ints g1 x] (.tup [.int .i64 r0, .int .i64 r1])) ∧ (∀ g0 g1 : Option Nat, FnV 26 [vK kp g0 kl, .ints g1 x] (.tup [.int .i64 r0, .int .i64 r1])) := by
  generalize hc : code1 kp kl x = c
  by_cases h0 : c = 0
  · subst h0
    obtain ⟨hk, hh⟩ := code1_ok hc
    obtain ⟨hp, f, rfl, hfi, _, _, hf9⟩ := fld_poly hk
    letI := sp_of hp
    obtain ⟨X, rfl⟩ := mod_poly hh.1
    have hxl : X.l.length < f.l.length := hh.2
    have hfl : f.l.length = dg f := rfl
    have hXl : X.l.length = dg X := rfl
    have hp1 := primes_le hp
    have hf0 := hfi.ne
    have hF := frN_lt hf0 hxl
    have hT := trN_lt hf0 hxl
    have hN := nrN_lt (X := X) hf0 hfi.1
    obtain ⟨n, hn⟩ : ∃ n, dg f = n + 1 := ⟨dg f - 1, by have := hfi.1; omega⟩
    refine ⟨cf (trN f X n).l 0, 0, fun g0 g1 => ?_, fun g0 g1 => ?_⟩
    · refine fn_of (cx_ok [0, 1, 2, 4, 5, 6, 7, 8, 14, 21]) Tryz.func25 rfl (by decide) Tryz.ntmps25 (Nat.le_of_ble_eq_true rfl) fun base => ?_
      refine W.rs (cx_ok _) (by rfl) fun K hK => ?_
      conv => whnf
      refine ⟨rfl, ?_⟩
      conv => whnf
      intro b_1 hs_1 hh_1 hf_1
      try dsimp only at hh_1 hf_1
      conv => whnf
      refine hK _ ?_
      clear hK K
      refine W.rs (cx_ok _) (by rfl) fun K hK => ?_
      conv => whnf
      refine callV rfl (l17Code_one kp g0 g1 g1 f.l X.l (by omega) (by omega)) fun hs' hhs => ?_
      try dsimp only at hhs
      conv => whnf
      rw [hc]
      refine hK _ ?_
      clear hK K
      refine W.seqK fun K1 hK1 => ?_
      refine W.rs (cx_ok _) (by rfl) fun K hK => ?_
      conv => whnf
      refine hK _ (W.cond ⟨fun hcc => absurd rfl (of_decide_eq_true hcc), fun _ => W.skip (hK1 _ ?_)⟩)
      clear hK K hK1 K1
      refine W.rs (cx_ok _) (by rfl) fun K hK => ?_
      conv => whnf
      refine ⟨⟨rfl, by decide⟩, ?_⟩
      conv => whnf
      intro b_2 hs_2 hh_2 hf_2
      try dsimp only at hh_2 hf_2
      conv => whnf
      refine hK _ ?_
      clear hK K
      refine W.seqK fun K1 hK1 => ?_
      refine W.rs (cx_ok _) (by rfl) fun K hK => ?_
      conv => whnf
      refine hK _ (W.block (W.invE (fun m e => ∃ (j : Nat) (g' : Option Nat) (s : List Int), j ≤ n ∧ s = (trN f X j).l ∧ m = n - j ∧ e = [(1, .v (.ints g' (frN f X j).l)), (2, .ownB b_1 (vK kp g0 f.l)), (7, .v (.ints none s)), (8, .v (.int .i64 ((j + 1 : Nat) : Int)))]) _ _ (⟨0, g1, [], Nat.zero_le _, zero_l.symm, rfl, rfl⟩) (by dsimp only; omega) (by repeat' first | refine And.intro ?_ ?_ | exact trivial | rfl | omega | exact .inl rfl | exact fun _ _ => rfl | exact fun _ _ h => h | assumption | exact fun i hi => (by obtain rfl : i = 0 := (by omega); rfl)) ?_))
      clear hK K
      rintro m e ⟨j, g', s, hj, rfl, hm, rfl⟩
      have hFj := hF j
      have hTj := hT j
      have hTl : (trN f X j).l.length = dg (trN f X j) := rfl
      have hFl : (frN f X j).l.length = dg (frN f X j) := rfl
      have hbd : Bd 4611686018427387904 (trimZ (addL (trN f X j).l (frN f X j).l)) := fun i => by rw [cf_trimZ, cf_addL]; have := cf_bd (trN f X j) i; have := cf_bd (frN f X j) i; omega
      have htl : (trimZ (addL (trN f X j).l (frN f X j).l)).length ≤ 100 := by have := trimZ_length (addL (trN f X j).l (frN f X j).l); unfold addL at *; rw [mkL_length] at *; omega
      refine W.seqK fun K7 hK7 => W.rs (cx_ok _) (by rfl) fun K hK => ?_
      conv => whnf
      refine hK _ (W.cond ⟨fun h => ?_, fun h => ?_⟩) <;> clear hK K <;> (first | replace h := of_decide_eq_true h | replace h := of_decide_eq_false h)
      · refine W.skip (hK7 _ ?_)
        clear hK7 K7
        refine W.seqK fun K8 hK8 => W.block ?_
        refine W.rd (cx_ok _) follows (by rfl) fun K hK => ?_
        conv => whnf
        refine ⟨_, cxF ((l06Add_fn none g' (trN f X j).l (frN f X j).l 1 (by omega) (l_bd2 _) (l_bd2 _) (by omega) (by omega)).toV), ?_⟩
        conv => whnf
        rw [smul_one]
        refine ⟨_, cxF ((l08Reduce_fn kp (by omega) (by omega) none _ hbd (by omega)).toV), ?_⟩
        conv => whnf
        rw [sum_l]
        refine hK _ ?_
        clear hK K
        refine W.region (cx_ok _) (by rfl) ?_
        conv => whnf
        refine callV rfl (l17PowerP_fn kp g0 g' f (frN f X j) (by omega) (by omega) hf0) fun hs' hhs => ?_
        try dsimp only at hhs
        conv => whnf
        refine hK8 _ ?_
        clear hK8 K8
        refine W.region (cx_ok _) (by rfl) ?_
        conv => whnf
        refine ⟨by constructor <;> omega, ?_⟩
        conv => whnf
        refine ⟨_, _, ⟨j + 1, none, _, by omega, rfl, rfl, rfl⟩, by omega, by dsimp only; omega, ?_⟩
        repeat' first | refine And.intro ?_ ?_ | exact trivial | rfl | omega | exact .inl rfl | exact fun _ _ => rfl | exact fun _ _ h => h | assumption | exact fun i hi => (by obtain rfl : i = 0 := (by omega); rfl)
      · obtain rfl : j = n := by omega
        refine W.exit (hK1 _ ?_)
        clear hK7 K7 hK1 K1
        refine W.rs (cx_ok _) (by rfl) fun K hK => ?_
        conv => whnf
        refine callV rfl (l18Constant_fn none (trN f X j).l (by omega)) fun hs' hhs => ?_
        try dsimp only at hhs
        conv => whnf
        refine hK _ ?_
        clear hK K
        refine W.ret ?_
        conv => whnf
        exact ⟨.v (.int .i64 (cf (trN f X j).l 0)), ⟨rfl, rfl⟩, trivial, .v (.int .i64 0), ⟨rfl, rfl⟩, trivial, rfl⟩
    · refine fn_of (cx_ok [0, 1, 2, 4, 5, 6, 7, 8, 14, 19, 20, 21]) Tryz.func26 rfl (by decide) Tryz.ntmps26 (Nat.le_of_ble_eq_true rfl) fun base => ?_
      refine W.rs (cx_ok _) (by rfl) fun K hK => ?_
      conv => whnf
      refine ⟨rfl, ?_⟩
      conv => whnf
      intro b_1 hs_1 hh_1 hf_1
      try dsimp only at hh_1 hf_1
      conv => whnf
      refine hK _ ?_
      clear hK K
      refine W.seqK fun K1 hK1 => ?_
      refine W.rs (cx_ok _) (by rfl) fun K hK => ?_
      conv => whnf
      refine ⟨⟨rfl, by decide, fun x hx => (by simp at hx; subst hx; exact ⟨rfl, rfl⟩)⟩, ?_⟩
      conv => whnf
      intro b_2 hs_2 hh_2 hf_2
      try dsimp only at hh_2 hf_2
      conv => whnf
      refine callV rfl (elements_tr kp g0 (some b_2) f.l 1 _ (fun _ => X.l) (by omega) (by omega) (els1 g1 X.l)) fun hs' hhs => ?_
      try dsimp only at hhs
      conv => whnf
      rw [show codeEl kp f.l true 1 (fun _ => X.l) = 0 from hc]
      refine hK _ ?_
      clear hK K
      refine W.rs (cx_ok _) (by rfl) fun K hK => ?_
      conv => whnf
      refine hK _ (W.cond ⟨fun hcc => absurd rfl (of_decide_eq_true hcc), fun _ => W.skip (hK1 _ ?_)⟩)
      clear hK K hK1 K1
      refine W.rs (cx_ok _) (by rfl) fun K hK => ?_
      conv => whnf
      refine hK _ ?_
      clear hK K
      refine W.rs (cx_ok _) (by rfl) fun K hK => ?_
      conv => whnf
      refine hK _ ?_
      clear hK K
      refine W.seqK fun K1 hK1 => ?_
      refine W.rs (cx_ok _) (by rfl) fun K hK => ?_
      conv => whnf
      refine callV rfl (degree_fn g0 f.l (by omega)) fun hs' hhs => ?_
      try dsimp only at hhs
      conv => whnf
      refine hK _ (W.block (W.invE (fun m e => ∃ (j : Nat) (g' : Option Nat) (s : List Int), j ≤ n ∧ s = (trN f X j).l ∧ m = n - j ∧ e = [(2, .ownB b_1 (vK kp g0 f.l)), (7, .v (.ints none s)), (8, .v (.ints g' (frN f X j).l)), (19, .v (.int .i64 ((f.l.length : Int) - 1))), (20, .v (.int .i64 j))]) _ _ (⟨0, g1, [], Nat.zero_le _, zero_l.symm, rfl, rfl⟩) (by dsimp only; omega) (by repeat' first | refine And.intro ?_ ?_ | exact trivial | rfl | omega | exact .inl rfl | exact fun _ _ => rfl | exact fun _ _ h => h | assumption | exact fun i hi => (by obtain rfl : i = 0 := (by omega); rfl)) ?_))
      clear hK K
      rintro m e ⟨j, g', s, hj, rfl, hm, rfl⟩
      have hFj := hF j
      have hTj := hT j
      have hTl : (trN f X j).l.length = dg (trN f X j) := rfl
      have hFl : (frN f X j).l.length = dg (frN f X j) := rfl
      have hbd : Bd 4611686018427387904 (trimZ (addL (trN f X j).l (frN f X j).l)) := fun i => by rw [cf_trimZ, cf_addL]; have := cf_bd (trN f X j) i; have := cf_bd (frN f X j) i; omega
      have htl : (trimZ (addL (trN f X j).l (frN f X j).l)).length ≤ 100 := by have := trimZ_length (addL (trN f X j).l (frN f X j).l); unfold addL at *; rw [mkL_length] at *; omega
      refine W.rs (cx_ok _) (by rfl) fun K hK => ?_
      conv => whnf
      refine hK _ ?_
      clear hK K
      refine W.seqK fun K7 hK7 => W.cond ⟨fun h => ?_, fun h => ?_⟩ <;> (first | replace h := of_decide_eq_true h | replace h := of_decide_eq_false h)
      · refine W.skip (hK7 _ ?_)
        clear hK7 K7
        refine W.seqK fun K8 hK8 => W.block ?_
        refine W.rd (cx_ok _) follows (by rfl) fun K hK => ?_
        conv => whnf
        refine ⟨_, cxF ((sumOf_fn none g' (trN f X j).l (frN f X j).l (l_bd2 _) (l_bd2 _) (by omega) (by omega)).toV), ?_⟩
        conv => whnf
        refine ⟨_, cxF ((reduce_fn kp (by omega) (by omega) none _ hbd (by omega)).toV), ?_⟩
        conv => whnf
        rw [sum_l]
        refine hK _ ?_
        clear hK K
        refine W.region (cx_ok _) (by rfl) ?_
        conv => whnf
        refine callV rfl (kFrob_fn kp g0 g' f (frN f X j) (by omega) (by omega) hf0) fun hs' hhs => ?_
        try dsimp only at hhs
        conv => whnf
        refine hK8 _ ?_
        clear hK8 K8
        refine W.region (cx_ok _) (by rfl) ?_
        conv => whnf
        refine ⟨by constructor <;> omega, ?_⟩
        conv => whnf
        refine ⟨_, _, ⟨j + 1, none, _, by omega, rfl, rfl, rfl⟩, by omega, by dsimp only; omega, ?_⟩
        repeat' first | refine And.intro ?_ ?_ | exact trivial | rfl | omega | exact .inl rfl | exact fun _ _ => rfl | exact fun _ _ h => h | assumption | exact fun i hi => (by obtain rfl : i = 0 := (by omega); rfl)
      · obtain rfl : j = n := by omega
        refine W.exit (hK1 _ ?_)
        clear hK7 K7 hK1 K1
        refine W.rs (cx_ok _) (by rfl) fun K hK => ?_
        conv => whnf
        refine callV rfl (constant_fn none (trN f X j).l (by omega)) fun hs' hhs => ?_
        try dsimp only at hhs
        conv => whnf
        refine hK _ ?_
        clear hK K
        refine W.ret ?_
        conv => whnf
        exact ⟨.v (.int .i64 (cf (trN f X j).l 0)), ⟨rfl, rfl⟩, trivial, .v (.int .i64 0), ⟨rfl, rfl⟩, trivial, rfl⟩
  · refine ⟨0, c, fun g0 g1 => ?_, fun g0 g1 => ?_⟩
    · refine fn_of (cx_ok [0, 1, 2, 4, 5, 6, 7, 8, 14, 21]) Tryz.func25 rfl (by decide) Tryz.ntmps25 (Nat.le_of_ble_eq_true rfl) fun base => ?_
      refine W.rs (cx_ok _) (by rfl) fun K hK => ?_
      conv => whnf
      refine ⟨rfl, ?_⟩
      conv => whnf
      intro b_1 hs_1 hh_1 hf_1
      try dsimp only at hh_1 hf_1
      conv => whnf
      refine hK _ ?_
      clear hK K
      refine W.rs (cx_ok _) (by rfl) fun K hK => ?_
      conv => whnf
      refine callV rfl (l17Code_one kp g0 g1 g1 kl x (by omega) (by omega)) fun hs' hhs => ?_
      try dsimp only at hhs
      conv => whnf
      rw [hc]
      refine hK _ ?_
      clear hK K
      refine W.seqK fun K1 hK1 => ?_
      refine W.rs (cx_ok _) (by rfl) fun K hK => ?_
      conv => whnf
      refine hK _ (W.cond ⟨fun _ => ?_, fun hcc => absurd h0 (of_decide_eq_false hcc)⟩)
      clear hK K
      refine W.rs (cx_ok _) (by rfl) fun K hK => ?_
      conv => whnf
      refine hK _ ?_
      clear hK K
      refine W.ret ?_
      conv => whnf
      exact ⟨.v (.int .i64 0), ⟨rfl, rfl⟩, trivial, .v (.int .i64 c), ⟨rfl, rfl⟩, trivial, rfl⟩
    · refine fn_of (cx_ok [0, 1, 2, 4, 5, 6, 7, 8, 14, 19, 20, 21]) Tryz.func26 rfl (by decide) Tryz.ntmps26 (Nat.le_of_ble_eq_true rfl) fun base => ?_
      refine W.rs (cx_ok _) (by rfl) fun K hK => ?_
      conv => whnf
      refine ⟨rfl, ?_⟩
      conv => whnf
      intro b_1 hs_1 hh_1 hf_1
      try dsimp only at hh_1 hf_1
      conv => whnf
      refine hK _ ?_
      clear hK K
      refine W.seqK fun K1 hK1 => ?_
      refine W.rs (cx_ok _) (by rfl) fun K hK => ?_
      conv => whnf
      refine ⟨⟨rfl, by decide, fun x hx => (by simp at hx; subst hx; exact ⟨rfl, rfl⟩)⟩, ?_⟩
      conv => whnf
      intro b_2 hs_2 hh_2 hf_2
      try dsimp only at hh_2 hf_2
      conv => whnf
      refine callV rfl (elements_tr kp g0 (some b_2) kl 1 _ (fun _ => x) (by omega) (by omega) (els1 g1 x)) fun hs' hhs => ?_
      try dsimp only at hhs
      conv => whnf
      rw [show codeEl kp kl true 1 (fun _ => x) = c from hc]
      refine hK _ ?_
      clear hK K
      refine W.rs (cx_ok _) (by rfl) fun K hK => ?_
      conv => whnf
      refine hK _ (W.cond ⟨fun _ => ?_, fun hcc => absurd h0 (of_decide_eq_false hcc)⟩)
      clear hK K
      refine W.rs (cx_ok _) (by rfl) fun K hK => ?_
      conv => whnf
      refine hK _ ?_
      clear hK K
      refine W.ret ?_
      conv => whnf
      exact ⟨.v (.int .i64 0), ⟨rfl, rfl⟩, trivial, .v (.int .i64 c), ⟨rfl, rfl⟩, trivial, rfl⟩

theorem NormOf_both (kp : Int) (kl x : List Int) (_ : inR kp) (hkl : kl.length ≤ 1048576) (hx : x.length ≤ 1048576) : ∃ r0 r1 : Int,
    (∀ g0 g1 : Option Nat, FnV 29 [vK kp g0 kl, .ints g1 x] (.tup [.int .i64 r0, .int .i64 r1])) ∧ (∀ g0 g1 : Option Nat, FnV 30 [vK kp g0 kl, .ints g1 x] (.tup [.int .i64 r0, .int .i64 r1])) := by
  generalize hc : code1 kp kl x = c
  by_cases h0 : c = 0
  · subst h0
    obtain ⟨hk, hh⟩ := code1_ok hc
    obtain ⟨hp, f, rfl, hfi, _, _, hf9⟩ := fld_poly hk
    letI := sp_of hp
    obtain ⟨X, rfl⟩ := mod_poly hh.1
    have hxl : X.l.length < f.l.length := hh.2
    have hfl : f.l.length = dg f := rfl
    have hXl : X.l.length = dg X := rfl
    have hp1 := primes_le hp
    have hf0 := hfi.ne
    have hF := frN_lt hf0 hxl
    have hT := trN_lt hf0 hxl
    have hN := nrN_lt (X := X) hf0 hfi.1
    obtain ⟨n, hn⟩ : ∃ n, dg f = n + 1 := ⟨dg f - 1, by have := hfi.1; omega⟩
    refine ⟨cf (nrN f X n).l 0, 0, fun g0 g1 => ?_, fun g0 g1 => ?_⟩
    · refine fn_of (cx_ok [0, 1, 2, 4, 5, 6, 7, 8, 14, 21]) Tryz.func29 rfl (by decide) Tryz.ntmps29 (Nat.le_of_ble_eq_true rfl) fun base => ?_
      refine W.rs (cx_ok _) (by rfl) fun K hK => ?_
      conv => whnf
      refine ⟨rfl, ?_⟩
      conv => whnf
      intro b_1 hs_1 hh_1 hf_1
      try dsimp only at hh_1 hf_1
      conv => whnf
      refine hK _ ?_
      clear hK K
      refine W.rs (cx_ok _) (by rfl) fun K hK => ?_
      conv => whnf
      refine callV rfl (l17Code_one kp g0 g1 g1 f.l X.l (by omega) (by omega)) fun hs' hhs => ?_
      try dsimp only at hhs
      conv => whnf
      rw [hc]
      refine hK _ ?_
      clear hK K
      refine W.seqK fun K1 hK1 => ?_
      refine W.rs (cx_ok _) (by rfl) fun K hK => ?_
      conv => whnf
      refine hK _ (W.cond ⟨fun hcc => absurd rfl (of_decide_eq_true hcc), fun _ => W.skip (hK1 _ ?_)⟩)
      clear hK K hK1 K1
      refine W.rs (cx_ok _) (by rfl) fun K hK => ?_
      conv => whnf
      refine ⟨⟨rfl, by decide⟩, ?_⟩
      conv => whnf
      intro b_2 hs_2 hh_2 hf_2
      try dsimp only at hh_2 hf_2
      conv => whnf
      refine hK _ ?_
      clear hK K
      refine W.seqK fun K1 hK1 => ?_
      refine W.rs (cx_ok _) (by rfl) fun K hK => ?_
      conv => whnf
      refine hK _ (W.block (W.invE (fun m e => ∃ (j : Nat) (g' : Option Nat) (s : List Int), j ≤ n ∧ s = (nrN f X j).l ∧ m = n - j ∧ e = [(1, .v (.ints g' (frN f X j).l)), (2, .ownB b_1 (vK kp g0 f.l)), (7, .v (.ints none s)), (8, .v (.int .i64 ((j + 1 : Nat) : Int)))]) _ _ (⟨0, g1, [1], Nat.zero_le _, one_l.symm, rfl, rfl⟩) (by dsimp only; omega) (by repeat' first | refine And.intro ?_ ?_ | exact trivial | rfl | omega | exact .inl rfl | exact fun _ _ => rfl | exact fun _ _ h => h | assumption | exact fun i hi => (by obtain rfl : i = 0 := (by omega); rfl)) ?_))
      clear hK K
      rintro m e ⟨j, g', s, hj, rfl, hm, rfl⟩
      have hFj := hF j
      have hNj := hN j
      have hNl : (nrN f X j).l.length = dg (nrN f X j) := rfl
      refine W.seqK fun K7 hK7 => W.rs (cx_ok _) (by rfl) fun K hK => ?_
      conv => whnf
      refine hK _ (W.cond ⟨fun h => ?_, fun h => ?_⟩) <;> clear hK K <;> (first | replace h := of_decide_eq_true h | replace h := of_decide_eq_false h)
      · refine W.skip (hK7 _ ?_)
        clear hK7 K7
        refine W.seqK fun K8 hK8 => W.block ?_
        refine W.rs (cx_ok _) (by rfl) fun K hK => ?_
        conv => whnf
        refine callV rfl (l17Multiply_fn kp g0 none g' f (nrN f X j) (frN f X j) (by omega) (by omega) (by omega) hf0) fun hs' hhs => ?_
        try dsimp only at hhs
        conv => whnf
        refine hK _ ?_
        clear hK K
        refine W.region (cx_ok _) (by rfl) ?_
        conv => whnf
        refine callV rfl (l17PowerP_fn kp g0 g' f (frN f X j) (by omega) (by omega) hf0) fun hs' hhs => ?_
        try dsimp only at hhs
        conv => whnf
        refine hK8 _ ?_
        clear hK8 K8
        refine W.region (cx_ok _) (by rfl) ?_
        conv => whnf
        refine ⟨by constructor <;> omega, ?_⟩
        conv => whnf
        refine ⟨_, _, ⟨j + 1, none, _, by omega, rfl, rfl, rfl⟩, by omega, by dsimp only; omega, ?_⟩
        repeat' first | refine And.intro ?_ ?_ | exact trivial | rfl | omega | exact .inl rfl | exact fun _ _ => rfl | exact fun _ _ h => h | assumption | exact fun i hi => (by obtain rfl : i = 0 := (by omega); rfl)
      · obtain rfl : j = n := by omega
        refine W.exit (hK1 _ ?_)
        clear hK7 K7 hK1 K1
        refine W.rs (cx_ok _) (by rfl) fun K hK => ?_
        conv => whnf
        refine callV rfl (l18Constant_fn none (nrN f X j).l (by omega)) fun hs' hhs => ?_
        try dsimp only at hhs
        conv => whnf
        refine hK _ ?_
        clear hK K
        refine W.ret ?_
        conv => whnf
        exact ⟨.v (.int .i64 (cf (nrN f X j).l 0)), ⟨rfl, rfl⟩, trivial, .v (.int .i64 0), ⟨rfl, rfl⟩, trivial, rfl⟩
    · refine fn_of (cx_ok [0, 1, 2, 4, 5, 6, 7, 8, 14, 20, 21, 22]) Tryz.func30 rfl (by decide) Tryz.ntmps30 (Nat.le_of_ble_eq_true rfl) fun base => ?_
      refine W.rs (cx_ok _) (by rfl) fun K hK => ?_
      conv => whnf
      refine ⟨rfl, ?_⟩
      conv => whnf
      intro b_1 hs_1 hh_1 hf_1
      try dsimp only at hh_1 hf_1
      conv => whnf
      refine hK _ ?_
      clear hK K
      refine W.seqK fun K1 hK1 => ?_
      refine W.rs (cx_ok _) (by rfl) fun K hK => ?_
      conv => whnf
      refine ⟨⟨rfl, by decide, fun x hx => (by simp at hx; subst hx; exact ⟨rfl, rfl⟩)⟩, ?_⟩
      conv => whnf
      intro b_2 hs_2 hh_2 hf_2
      try dsimp only at hh_2 hf_2
      conv => whnf
      refine callV rfl (elements_tr kp g0 (some b_2) f.l 1 _ (fun _ => X.l) (by omega) (by omega) (els1 g1 X.l)) fun hs' hhs => ?_
      try dsimp only at hhs
      conv => whnf
      rw [show codeEl kp f.l true 1 (fun _ => X.l) = 0 from hc]
      refine hK _ ?_
      clear hK K
      refine W.rs (cx_ok _) (by rfl) fun K hK => ?_
      conv => whnf
      refine hK _ (W.cond ⟨fun hcc => absurd rfl (of_decide_eq_true hcc), fun _ => W.skip (hK1 _ ?_)⟩)
      clear hK K hK1 K1
      refine W.rs (cx_ok _) (by rfl) fun K hK => ?_
      conv => whnf
      refine ⟨⟨rfl, by decide⟩, ?_⟩
      conv => whnf
      intro b_3 hs_3 hh_3 hf_3
      try dsimp only at hh_3 hf_3
      conv => whnf
      refine hK _ ?_
      clear hK K
      refine W.seqK fun K1 hK1 => ?_
      refine W.rs (cx_ok _) (by rfl) fun K hK => ?_
      conv => whnf
      refine callV rfl (degree_fn g0 f.l (by omega)) fun hs' hhs => ?_
      try dsimp only at hhs
      conv => whnf
      refine hK _ (W.block (W.invE (fun m e => ∃ (j : Nat) (g' : Option Nat) (s : List Int), j ≤ n ∧ s = (nrN f X j).l ∧ m = n - j ∧ e = [(2, .ownB b_1 (vK kp g0 f.l)), (7, .v (.ints none s)), (8, .v (.ints g' (frN f X j).l)), (20, .v (.int .i64 ((f.l.length : Int) - 1))), (21, .v (.int .i64 j))]) _ _ (⟨0, g1, [1], Nat.zero_le _, one_l.symm, rfl, rfl⟩) (by dsimp only; omega) (by repeat' first | refine And.intro ?_ ?_ | exact trivial | rfl | omega | exact .inl rfl | exact fun _ _ => rfl | exact fun _ _ h => h | assumption | exact fun i hi => (by obtain rfl : i = 0 := (by omega); rfl)) ?_))
      clear hK K
      rintro m e ⟨j, g', s, hj, rfl, hm, rfl⟩
      have hFj := hF j
      have hNj := hN j
      have hNl : (nrN f X j).l.length = dg (nrN f X j) := rfl
      refine W.rs (cx_ok _) (by rfl) fun K hK => ?_
      conv => whnf
      refine hK _ ?_
      clear hK K
      refine W.seqK fun K7 hK7 => W.cond ⟨fun h => ?_, fun h => ?_⟩ <;> (first | replace h := of_decide_eq_true h | replace h := of_decide_eq_false h)
      · refine W.skip (hK7 _ ?_)
        clear hK7 K7
        refine W.seqK fun K8 hK8 => W.block ?_
        refine W.rs (cx_ok _) (by rfl) fun K hK => ?_
        conv => whnf
        refine callV rfl (kTimes_fn kp g0 none g' f (nrN f X j) (frN f X j) (by omega) (by omega) (by omega) hf0) fun hs' hhs => ?_
        try dsimp only at hhs
        conv => whnf
        refine hK _ ?_
        clear hK K
        refine W.region (cx_ok _) (by rfl) ?_
        conv => whnf
        refine callV rfl (kFrob_fn kp g0 g' f (frN f X j) (by omega) (by omega) hf0) fun hs' hhs => ?_
        try dsimp only at hhs
        conv => whnf
        refine hK8 _ ?_
        clear hK8 K8
        refine W.region (cx_ok _) (by rfl) ?_
        conv => whnf
        refine ⟨by constructor <;> omega, ?_⟩
        conv => whnf
        refine ⟨_, _, ⟨j + 1, none, _, by omega, rfl, rfl, rfl⟩, by omega, by dsimp only; omega, ?_⟩
        repeat' first | refine And.intro ?_ ?_ | exact trivial | rfl | omega | exact .inl rfl | exact fun _ _ => rfl | exact fun _ _ h => h | assumption | exact fun i hi => (by obtain rfl : i = 0 := (by omega); rfl)
      · obtain rfl : j = n := by omega
        refine W.exit (hK1 _ ?_)
        clear hK7 K7 hK1 K1
        refine W.rs (cx_ok _) (by rfl) fun K hK => ?_
        conv => whnf
        refine callV rfl (constant_fn none (nrN f X j).l (by omega)) fun hs' hhs => ?_
        try dsimp only at hhs
        conv => whnf
        refine hK _ ?_
        clear hK K
        refine W.ret ?_
        conv => whnf
        exact ⟨.v (.int .i64 (cf (nrN f X j).l 0)), ⟨rfl, rfl⟩, trivial, .v (.int .i64 0), ⟨rfl, rfl⟩, trivial, rfl⟩
  · refine ⟨0, c, fun g0 g1 => ?_, fun g0 g1 => ?_⟩
    · refine fn_of (cx_ok [0, 1, 2, 4, 5, 6, 7, 8, 14, 21]) Tryz.func29 rfl (by decide) Tryz.ntmps29 (Nat.le_of_ble_eq_true rfl) fun base => ?_
      refine W.rs (cx_ok _) (by rfl) fun K hK => ?_
      conv => whnf
      refine ⟨rfl, ?_⟩
      conv => whnf
      intro b_1 hs_1 hh_1 hf_1
      try dsimp only at hh_1 hf_1
      conv => whnf
      refine hK _ ?_
      clear hK K
      refine W.rs (cx_ok _) (by rfl) fun K hK => ?_
      conv => whnf
      refine callV rfl (l17Code_one kp g0 g1 g1 kl x (by omega) (by omega)) fun hs' hhs => ?_
      try dsimp only at hhs
      conv => whnf
      rw [hc]
      refine hK _ ?_
      clear hK K
      refine W.seqK fun K1 hK1 => ?_
      refine W.rs (cx_ok _) (by rfl) fun K hK => ?_
      conv => whnf
      refine hK _ (W.cond ⟨fun _ => ?_, fun hcc => absurd h0 (of_decide_eq_false hcc)⟩)
      clear hK K
      refine W.rs (cx_ok _) (by rfl) fun K hK => ?_
      conv => whnf
      refine hK _ ?_
      clear hK K
      refine W.ret ?_
      conv => whnf
      exact ⟨.v (.int .i64 0), ⟨rfl, rfl⟩, trivial, .v (.int .i64 c), ⟨rfl, rfl⟩, trivial, rfl⟩
    · refine fn_of (cx_ok [0, 1, 2, 4, 5, 6, 7, 8, 14, 20, 21, 22]) Tryz.func30 rfl (by decide) Tryz.ntmps30 (Nat.le_of_ble_eq_true rfl) fun base => ?_
      refine W.rs (cx_ok _) (by rfl) fun K hK => ?_
      conv => whnf
      refine ⟨rfl, ?_⟩
      conv => whnf
      intro b_1 hs_1 hh_1 hf_1
      try dsimp only at hh_1 hf_1
      conv => whnf
      refine hK _ ?_
      clear hK K
      refine W.seqK fun K1 hK1 => ?_
      refine W.rs (cx_ok _) (by rfl) fun K hK => ?_
      conv => whnf
      refine ⟨⟨rfl, by decide, fun x hx => (by simp at hx; subst hx; exact ⟨rfl, rfl⟩)⟩, ?_⟩
      conv => whnf
      intro b_2 hs_2 hh_2 hf_2
      try dsimp only at hh_2 hf_2
      conv => whnf
      refine callV rfl (elements_tr kp g0 (some b_2) kl 1 _ (fun _ => x) (by omega) (by omega) (els1 g1 x)) fun hs' hhs => ?_
      try dsimp only at hhs
      conv => whnf
      rw [show codeEl kp kl true 1 (fun _ => x) = c from hc]
      refine hK _ ?_
      clear hK K
      refine W.rs (cx_ok _) (by rfl) fun K hK => ?_
      conv => whnf
      refine hK _ (W.cond ⟨fun _ => ?_, fun hcc => absurd h0 (of_decide_eq_false hcc)⟩)
      clear hK K
      refine W.rs (cx_ok _) (by rfl) fun K hK => ?_
      conv => whnf
      refine hK _ ?_
      clear hK K
      refine W.ret ?_
      conv => whnf
      exact ⟨.v (.int .i64 0), ⟨rfl, rfl⟩, trivial, .v (.int .i64 c), ⟨rfl, rfl⟩, trivial, rfl⟩

end Go.Proofs.YtaiahdeegchobaaGreat

namespace Go.Proofs.YtaiahdeegchobaaGreat
open Go Go.RowKit Go.Proofs Poly
set_option maxRecDepth 100000
set_option maxHeartbeats 8000000

/- the program's begin: a field, an element, something more (a value b) -/
/- the reference's: $1 name $2 modulus $3 element $4 $5 their ghosts -/
/- c is not 0 -/
/- what becomes of c = 0 and something not right: code 2 -/

theorem codeB_bad {p : Int} {l x : List Int} {c : Int} (hc : code1 p l x = c) (h0 : c ≠ 0) (b : Bool) : codeEl p l b 1 (fun _ => x) = c := by
  rw [codeEl_b, show codeEl p l true 1 (fun _ => x) = c from hc, if_neg h0]
theorem codeB_two {p : Int} {l x : List Int} (hc : code1 p l x = 0) {b : Bool} (hb : b = false) : codeEl p l b 1 (fun _ => x) = 2 := by
  rw [codeEl_b, show codeEl p l true 1 (fun _ => x) = 0 from hc, if_pos rfl, hb]; rfl
theorem codeB_ok {p : Int} {l x : List Int} (hc : code1 p l x = 0) {b : Bool} (hb : b = true) : codeEl p l b 1 (fun _ => x) = 0 := by
  rw [codeEl_b, show codeEl p l true 1 (fun _ => x) = 0 from hc, if_pos rfl, if_pos hb]

theorem PowerElement_both (kp : Int) (kl x : List Int) (e : Int) (_ : inR kp) (_ : inR e) (hkl : kl.length ≤ 1048576) (hx : x.length ≤ 1048576) : ∃ (r0 : List Int) (r1 : Int),
    (∀ g0 g1 : Option Nat, FnV 18 [vK kp g0 kl, .ints g1 x, .int .i64 e] (.tup [.ints none r0, .int .i64 r1])) ∧ (∀ g0 g1 : Option Nat, FnT Tryz.prog 20 [vK kp g0 kl, .ints g1 x, .int .i64 e] (RT r0 r1)) ∧ r0.length ≤ 1000000 := by
  generalize hc : code1 kp kl x = c
  by_cases h0 : c = 0
  case neg =>
    refine ⟨[], c, fun g0 g1 => ?_, fun g0 g1 => ?_, by simp⟩
    · refine fn_of (cx_ok [0, 1, 2, 3, 6, 7, 8, 19, 21]) Tryz.func18 rfl (by decide) Tryz.ntmps18 (Nat.le_of_ble_eq_true rfl) fun base => ?_
      refine W.rs (cx_ok _) (by rfl) fun K hK => ?_
      conv => whnf
      refine ⟨rfl, ?_⟩
      conv => whnf
      intro b_1 hs_1 hh_1 hf_1
      try dsimp only at hh_1 hf_1
      conv => whnf
      refine hK _ ?_
      clear hK K
      refine W.rs (cx_ok _) (by rfl) fun K hK => ?_
      conv => whnf
      refine callV rfl (l17Code_one kp g0 g1 g1 kl x (by omega) (by omega)) fun hs' hhs => ?_
      try dsimp only at hhs
      conv => whnf
      rw [hc]
      refine hK _ ?_
      clear hK K
      refine W.seqK fun K1 hK1 => ?_
      refine W.rs (cx_ok _) (by rfl) fun K hK => ?_
      conv => whnf
      refine ⟨fun h => ?_, fun h => ?_⟩ <;> conv => whnf
      · exact absurd (of_decide_eq_true h) h0
      refine hK _ (W.condF rfl (W.skip (hK1 _ ?_)))
      clear hK K hK1 K1
      refine W.seqK fun K1 hK1 => ?_
      refine W.rs (cx_ok _) (by rfl) fun K hK => ?_
      conv => whnf
      refine hK _ (W.cond ⟨fun _ => ?_, fun hcc => absurd h0 (of_decide_eq_false hcc)⟩)
      clear hK K
      refine W.rs (cx_ok _) (by rfl) fun K hK => ?_
      conv => whnf
      refine hK _ ?_
      clear hK K
      refine W.ret ?_
      conv => whnf
      exact ⟨.v (.ints none []), rfl, trivial, .v (.int .i64 c), ⟨rfl, rfl⟩, trivial, rfl⟩
    · refine fnt_of (cxt_ok [] [0, 1, 2, 3, 6, 7, 8, 16, 1000000]) Tryz.func20 rfl (by decide) Tryz.ntmps20 (Nat.le_of_ble_eq_true rfl) (fun base => ?_) (Nat.le_of_ble_eq_true rfl)
      refine W.sw (c' := cx [0, 1, 2, 3, 6, 7, 8, 16, 1000000]) ?_
      refine W.rs (cx_ok _) (by rfl) fun K hK => ?_
      conv => whnf
      refine ⟨rfl, ?_⟩
      conv => whnf
      intro b_1 hs_1 hh_1 hf_1
      try dsimp only at hh_1 hf_1
      conv => whnf
      refine hK _ ?_
      clear hK K
      refine W.seqK fun K1 hK1 => ?_
      refine W.rd (cx_ok _) follows (by rfl) fun K hK => ?_
      conv => whnf
      refine ⟨_, cxF (within_fn e 0 1000000000000), ?_⟩
      conv => whnf
      refine ⟨⟨rfl, by decide, fun x hx => (by simp at hx; subst hx; exact ⟨rfl, rfl⟩)⟩, ?_⟩
      conv => whnf
      refine ⟨_, cxF (elements_bool kp g0 none kl _ 1 _ (fun _ => x) (by omega) (by omega) (els1 g1 x)), ?_⟩
      conv => whnf
      rw [codeB_bad hc h0]
      refine hK _ ?_
      clear hK K
      refine W.rs (cx_ok _) (by rfl) fun K hK => ?_
      conv => whnf
      refine hK _ (W.cond ⟨fun _ => ?_, fun hcc => absurd h0 (of_decide_eq_false hcc)⟩)
      clear hK K
      refine W.rs (cx_ok _) (by rfl) fun K hK => ?_
      conv => whnf
      refine hK _ ?_
      clear hK K
      refine W.ret ?_
      conv => whnf
      exact ⟨.v (.rf 0 0), rfl, trivial, .v (.int .i64 (c)), ⟨rfl, rfl⟩, trivial, 0, rfl, fun hne => absurd rfl hne⟩
  subst h0
  by_cases he : 0 ≤ e ∧ e ≤ 1000000000000
  case neg =>
    refine ⟨[], 2, fun g0 g1 => ?_, fun g0 g1 => ?_, by simp⟩
    · refine fn_of (cx_ok [0, 1, 2, 3, 6, 7, 8, 19, 21]) Tryz.func18 rfl (by decide) Tryz.ntmps18 (Nat.le_of_ble_eq_true rfl) fun base => ?_
      refine W.rs (cx_ok _) (by rfl) fun K hK => ?_
      conv => whnf
      refine ⟨rfl, ?_⟩
      conv => whnf
      intro b_1 hs_1 hh_1 hf_1
      try dsimp only at hh_1 hf_1
      conv => whnf
      refine hK _ ?_
      clear hK K
      refine W.rs (cx_ok _) (by rfl) fun K hK => ?_
      conv => whnf
      refine callV rfl (l17Code_one kp g0 g1 g1 kl x (by omega) (by omega)) fun hs' hhs => ?_
      try dsimp only at hhs
      conv => whnf
      rw [hc]
      refine hK _ ?_
      clear hK K
      refine W.seqK fun K1 hK1 => ?_
      refine W.rs (cx_ok _) (by rfl) fun K hK => ?_
      conv => whnf
      refine ⟨fun h => ?_, fun h => ?_⟩ <;> conv => whnf
      · refine callV rfl ((l01In_fn e 0 1000000000000).fa (decide_eq_false he)) fun hs' hhs => ?_
        try dsimp only at hhs
        conv => whnf
        refine hK _ (W.condT rfl ?_)
        clear hK K
        refine W.region (cx_ok _) (by rfl) ?_
        conv => whnf
        refine hK1 _ ?_
        clear hK1 K1
        refine W.seqK fun K1 hK1 => ?_
        refine W.rs (cx_ok _) (by rfl) fun K hK => ?_
        conv => whnf
        refine hK _ (W.cond ⟨fun _ => ?_, fun hcc => absurd (by decide : (2 : Int) ≠ 0) (of_decide_eq_false hcc)⟩)
        clear hK K
        refine W.rs (cx_ok _) (by rfl) fun K hK => ?_
        conv => whnf
        refine hK _ ?_
        clear hK K
        refine W.ret ?_
        conv => whnf
        exact ⟨.v (.ints none []), rfl, trivial, .v (.int .i64 2), ⟨rfl, rfl⟩, trivial, rfl⟩
      · exact absurd rfl (of_decide_eq_false h)
    · refine fnt_of (cxt_ok [] [0, 1, 2, 3, 6, 7, 8, 16, 1000000]) Tryz.func20 rfl (by decide) Tryz.ntmps20 (Nat.le_of_ble_eq_true rfl) (fun base => ?_) (Nat.le_of_ble_eq_true rfl)
      refine W.sw (c' := cx [0, 1, 2, 3, 6, 7, 8, 16, 1000000]) ?_
      refine W.rs (cx_ok _) (by rfl) fun K hK => ?_
      conv => whnf
      refine ⟨rfl, ?_⟩
      conv => whnf
      intro b_1 hs_1 hh_1 hf_1
      try dsimp only at hh_1 hf_1
      conv => whnf
      refine hK _ ?_
      clear hK K
      refine W.seqK fun K1 hK1 => ?_
      refine W.rd (cx_ok _) follows (by rfl) fun K hK => ?_
      conv => whnf
      refine ⟨_, cxF (within_fn e 0 1000000000000), ?_⟩
      conv => whnf
      refine ⟨⟨rfl, by decide, fun x hx => (by simp at hx; subst hx; exact ⟨rfl, rfl⟩)⟩, ?_⟩
      conv => whnf
      refine ⟨_, cxF (elements_bool kp g0 none kl _ 1 _ (fun _ => x) (by omega) (by omega) (els1 g1 x)), ?_⟩
      conv => whnf
      rw [codeB_two hc (decide_eq_false he)]
      refine hK _ ?_
      clear hK K
      refine W.rs (cx_ok _) (by rfl) fun K hK => ?_
      conv => whnf
      refine hK _ (W.cond ⟨fun _ => ?_, fun hcc => absurd (by decide : (2 : Int) ≠ 0) (of_decide_eq_false hcc)⟩)
      clear hK K
      refine W.rs (cx_ok _) (by rfl) fun K hK => ?_
      conv => whnf
      refine hK _ ?_
      clear hK K
      refine W.ret ?_
      conv => whnf
      exact ⟨.v (.rf 0 0), rfl, trivial, .v (.int .i64 (2)), ⟨rfl, rfl⟩, trivial, 0, rfl, fun hne => absurd rfl hne⟩
  obtain ⟨hk, hh⟩ := code1_ok hc
  obtain ⟨hp, f, rfl, hfi, _, _, hf9⟩ := fld_poly hk
  letI := sp_of hp
  obtain ⟨X, rfl⟩ := mod_poly hh.1
  have hxl : X.l.length < f.l.length := hh.2
  have hfl : f.l.length = dg f := rfl
  have hXl : X.l.length = dg X := rfl
  have hf0 := hfi.ne
  obtain ⟨n, rfl⟩ : ∃ n : Nat, e = n := ⟨e.toNat, by omega⟩
  refine ⟨(rem (X ^ n) f).l, 0, fun g0 g1 => ?_, fun g0 g1 => ?_, ?_⟩
  · refine fn_of (cx_ok [0, 1, 2, 3, 6, 7, 8, 19, 21]) Tryz.func18 rfl (by decide) Tryz.ntmps18 (Nat.le_of_ble_eq_true rfl) fun base => ?_
    refine W.rs (cx_ok _) (by rfl) fun K hK => ?_
    conv => whnf
    refine ⟨rfl, ?_⟩
    conv => whnf
    intro b_1 hs_1 hh_1 hf_1
    try dsimp only at hh_1 hf_1
    conv => whnf
    refine hK _ ?_
    clear hK K
    refine W.rs (cx_ok _) (by rfl) fun K hK => ?_
    conv => whnf
    refine callV rfl (l17Code_one kp g0 g1 g1 f.l X.l (by omega) (by omega)) fun hs' hhs => ?_
    try dsimp only at hhs
    conv => whnf
    rw [hc]
    refine hK _ ?_
    clear hK K
    refine W.seqK fun K1 hK1 => ?_
    refine W.rs (cx_ok _) (by rfl) fun K hK => ?_
    conv => whnf
    refine ⟨fun h => ?_, fun h => ?_⟩ <;> conv => whnf
    · refine callV rfl ((l01In_fn n 0 1000000000000).tr (decide_eq_true he)) fun hs' hhs => ?_
      try dsimp only at hhs
      conv => whnf
      refine hK _ (W.condF rfl (W.skip (hK1 _ ?_)))
      clear hK K hK1 K1
      refine W.seqK fun K1 hK1 => ?_
      refine W.rs (cx_ok _) (by rfl) fun K hK => ?_
      conv => whnf
      refine hK _ (W.cond ⟨fun hcc => absurd rfl (of_decide_eq_true hcc), fun _ => W.skip (hK1 _ ?_)⟩)
      clear hK K hK1 K1
      refine W.rs (cx_ok _) (by rfl) fun K hK => ?_
      conv => whnf
      refine callV rfl (l17Power_fn kp g0 g1 f X n (by omega) (by omega) (by omega) hf0) fun hs' hhs => ?_
      try dsimp only at hhs
      conv => whnf
      refine hK _ ?_
      clear hK K
      refine W.ret ?_
      conv => whnf
      exact ⟨.v (.ints none (rem (X ^ n) f).l), ⟨rfl, rfl⟩, trivial, .v (.int .i64 0), ⟨rfl, rfl⟩, trivial, rfl⟩
    · exact absurd rfl (of_decide_eq_false h)
  · refine fnt_of (cxt_ok [] [0, 1, 2, 3, 6, 7, 8, 16, 1000000]) Tryz.func20 rfl (by decide) Tryz.ntmps20 (Nat.le_of_ble_eq_true rfl) (fun base => ?_) (Nat.le_of_ble_eq_true rfl)
    refine W.sw (c' := cx [0, 1, 2, 3, 6, 7, 8, 16, 1000000]) ?_
    refine W.rs (cx_ok _) (by rfl) fun K hK => ?_
    conv => whnf
    refine ⟨rfl, ?_⟩
    conv => whnf
    intro b_1 hs_1 hh_1 hf_1
    try dsimp only at hh_1 hf_1
    conv => whnf
    refine hK _ ?_
    clear hK K
    refine W.seqK fun K1 hK1 => ?_
    refine W.rd (cx_ok _) follows (by rfl) fun K hK => ?_
    conv => whnf
    refine ⟨_, cxF (within_fn n 0 1000000000000), ?_⟩
    conv => whnf
    refine ⟨⟨rfl, by decide, fun x hx => (by simp at hx; subst hx; exact ⟨rfl, rfl⟩)⟩, ?_⟩
    conv => whnf
    refine ⟨_, cxF (elements_bool kp g0 none f.l _ 1 _ (fun _ => X.l) (by omega) (by omega) (els1 g1 X.l)), ?_⟩
    conv => whnf
    rw [codeB_ok hc (decide_eq_true he)]
    refine hK _ ?_
    clear hK K
    refine W.rs (cx_ok _) (by rfl) fun K hK => ?_
    conv => whnf
    refine hK _ (W.cond ⟨fun hcc => absurd rfl (of_decide_eq_true hcc), fun _ => W.skip (hK1 _ ?_)⟩)
    clear hK K hK1 K1
    refine W.sw (c' := cxt [52] [0, 1, 2, 3, 6, 7, 8, 16, 1000000]) ?_
    refine W.rs (cxt_ok _ _) (by rfl) fun K hK => ?_
    conv => whnf
    refine ⟨_, cxT (kPower_T kp g0 g1 f X n (by omega) (by omega) (by omega) hf0), fun lo_t hi_t hs_t x_t tn_t tb_t hl1_t hl2_t _ hp_t hf_t hn_t ho_t => ?_⟩
    try dsimp only at hl1_t hl2_t
    obtain ⟨bt, rfl, ht⟩ := hp_t
    conv => whnf
    refine hK _ ?_
    clear hK K
    refine W.ret ?_
    conv => whnf
    exact ⟨.v (.rf bt (rem (X ^ n) f).l.length), rfl, trivial, .v (.int .i64 0), ⟨rfl, rfl⟩, trivial, bt, rfl, fun h => hn_t _ _ (ht h)⟩
  · have := rem_lt (X ^ n) hf0
    show dg (rem (X ^ n) f) ≤ _; omega

/-- what is more than a field and an element of it: a value that has to be right -/

theorem FrobeniusOf_both (kp : Int) (kl x : List Int) (e : Int) (_ : inR kp) (_ : inR e) (hkl : kl.length ≤ 1048576) (hx : x.length ≤ 1048576) : ∃ (r0 : List Int) (r1 : Int),
    (∀ g0 g1 : Option Nat, FnV 31 [vK kp g0 kl, .ints g1 x, .int .i64 e] (.tup [.ints none r0, .int .i64 r1])) ∧ (∀ g0 g1 : Option Nat, FnT Tryz.prog 32 [vK kp g0 kl, .ints g1 x, .int .i64 e] (RT r0 r1)) ∧ r0.length ≤ 1000000 := by
  generalize hc : code1 kp kl x = c
  by_cases h0 : c = 0
  case neg =>
    refine ⟨[], c, fun g0 g1 => ?_, fun g0 g1 => ?_, by simp⟩
    · refine fn_of (cx_ok [0, 1, 2, 3, 6, 7, 8, 9, 20, 22, 27]) Tryz.func31 rfl (by decide) Tryz.ntmps31 (Nat.le_of_ble_eq_true rfl) fun base => ?_
      refine W.rs (cx_ok _) (by rfl) fun K hK => ?_
      conv => whnf
      refine ⟨rfl, ?_⟩
      conv => whnf
      intro b_1 hs_1 hh_1 hf_1
      try dsimp only at hh_1 hf_1
      conv => whnf
      refine hK _ ?_
      clear hK K
      refine W.rs (cx_ok _) (by rfl) fun K hK => ?_
      conv => whnf
      refine callV rfl (l17Code_one kp g0 g1 g1 kl x (by omega) (by omega)) fun hs' hhs => ?_
      try dsimp only at hhs
      conv => whnf
      rw [hc]
      refine hK _ ?_
      clear hK K
      refine W.seqK fun K1 hK1 => ?_
      refine W.rs (cx_ok _) (by rfl) fun K hK => ?_
      conv => whnf
      refine ⟨fun h => ?_, fun h => ?_⟩ <;> conv => whnf
      · exact absurd (of_decide_eq_true h) h0
      refine hK _ (W.condF rfl (W.skip (hK1 _ ?_)))
      clear hK K hK1 K1
      refine W.seqK fun K1 hK1 => ?_
      refine W.rs (cx_ok _) (by rfl) fun K hK => ?_
      conv => whnf
      refine hK _ (W.cond ⟨fun _ => ?_, fun hcc => absurd h0 (of_decide_eq_false hcc)⟩)
      clear hK K
      refine W.rs (cx_ok _) (by rfl) fun K hK => ?_
      conv => whnf
      refine hK _ ?_
      clear hK K
      refine W.ret ?_
      conv => whnf
      exact ⟨.v (.ints none []), rfl, trivial, .v (.int .i64 c), ⟨rfl, rfl⟩, trivial, rfl⟩
    · refine fnt_of (cxt_ok [] [0, 1, 2, 3, 6, 7, 8, 9, 17, 21, 22, 23, 1000000]) Tryz.func32 rfl (by decide) Tryz.ntmps32 (Nat.le_of_ble_eq_true rfl) (fun base => ?_) (Nat.le_of_ble_eq_true rfl)
      refine W.sw (c' := cx [0, 1, 2, 3, 6, 7, 8, 9, 17, 21, 22, 23, 1000000]) ?_
      refine W.rs (cx_ok _) (by rfl) fun K hK => ?_
      conv => whnf
      refine ⟨rfl, ?_⟩
      conv => whnf
      intro b_1 hs_1 hh_1 hf_1
      try dsimp only at hh_1 hf_1
      conv => whnf
      refine hK _ ?_
      clear hK K
      refine W.seqK fun K1 hK1 => ?_
      refine W.rd (cx_ok _) follows (by rfl) fun K hK => ?_
      conv => whnf
      refine ⟨_, cxF (within_fn e 0 100), ?_⟩
      conv => whnf
      refine ⟨⟨rfl, by decide, fun x hx => (by simp at hx; subst hx; exact ⟨rfl, rfl⟩)⟩, ?_⟩
      conv => whnf
      refine ⟨_, cxF (elements_bool kp g0 none kl _ 1 _ (fun _ => x) (by omega) (by omega) (els1 g1 x)), ?_⟩
      conv => whnf
      rw [codeB_bad hc h0]
      refine hK _ ?_
      clear hK K
      refine W.rs (cx_ok _) (by rfl) fun K hK => ?_
      conv => whnf
      refine hK _ (W.cond ⟨fun _ => ?_, fun hcc => absurd h0 (of_decide_eq_false hcc)⟩)
      clear hK K
      refine W.rs (cx_ok _) (by rfl) fun K hK => ?_
      conv => whnf
      refine hK _ ?_
      clear hK K
      refine W.ret ?_
      conv => whnf
      exact ⟨.v (.rf 0 0), rfl, trivial, .v (.int .i64 (c)), ⟨rfl, rfl⟩, trivial, 0, rfl, fun hne => absurd rfl hne⟩
  subst h0
  by_cases he : 0 ≤ e ∧ e ≤ 100
  case neg =>
    refine ⟨[], 2, fun g0 g1 => ?_, fun g0 g1 => ?_, by simp⟩
    · refine fn_of (cx_ok [0, 1, 2, 3, 6, 7, 8, 9, 20, 22, 27]) Tryz.func31 rfl (by decide) Tryz.ntmps31 (Nat.le_of_ble_eq_true rfl) fun base => ?_
      refine W.rs (cx_ok _) (by rfl) fun K hK => ?_
      conv => whnf
      refine ⟨rfl, ?_⟩
      conv => whnf
      intro b_1 hs_1 hh_1 hf_1
      try dsimp only at hh_1 hf_1
      conv => whnf
      refine hK _ ?_
      clear hK K
      refine W.rs (cx_ok _) (by rfl) fun K hK => ?_
      conv => whnf
      refine callV rfl (l17Code_one kp g0 g1 g1 kl x (by omega) (by omega)) fun hs' hhs => ?_
      try dsimp only at hhs
      conv => whnf
      rw [hc]
      refine hK _ ?_
      clear hK K
      refine W.seqK fun K1 hK1 => ?_
      refine W.rs (cx_ok _) (by rfl) fun K hK => ?_
      conv => whnf
      refine ⟨fun h => ?_, fun h => ?_⟩ <;> conv => whnf
      · refine callV rfl ((l01In_fn e 0 100).fa (decide_eq_false he)) fun hs' hhs => ?_
        try dsimp only at hhs
        conv => whnf
        refine hK _ (W.condT rfl ?_)
        clear hK K
        refine W.region (cx_ok _) (by rfl) ?_
        conv => whnf
        refine hK1 _ ?_
        clear hK1 K1
        refine W.seqK fun K1 hK1 => ?_
        refine W.rs (cx_ok _) (by rfl) fun K hK => ?_
        conv => whnf
        refine hK _ (W.cond ⟨fun _ => ?_, fun hcc => absurd (by decide : (2 : Int) ≠ 0) (of_decide_eq_false hcc)⟩)
        clear hK K
        refine W.rs (cx_ok _) (by rfl) fun K hK => ?_
        conv => whnf
        refine hK _ ?_
        clear hK K
        refine W.ret ?_
        conv => whnf
        exact ⟨.v (.ints none []), rfl, trivial, .v (.int .i64 2), ⟨rfl, rfl⟩, trivial, rfl⟩
      · exact absurd rfl (of_decide_eq_false h)
    · refine fnt_of (cxt_ok [] [0, 1, 2, 3, 6, 7, 8, 9, 17, 21, 22, 23, 1000000]) Tryz.func32 rfl (by decide) Tryz.ntmps32 (Nat.le_of_ble_eq_true rfl) (fun base => ?_) (Nat.le_of_ble_eq_true rfl)
      refine W.sw (c' := cx [0, 1, 2, 3, 6, 7, 8, 9, 17, 21, 22, 23, 1000000]) ?_
      refine W.rs (cx_ok _) (by rfl) fun K hK => ?_
      conv => whnf
      refine ⟨rfl, ?_⟩
      conv => whnf
      intro b_1 hs_1 hh_1 hf_1
      try dsimp only at hh_1 hf_1
      conv => whnf
      refine hK _ ?_
      clear hK K
      refine W.seqK fun K1 hK1 => ?_
      refine W.rd (cx_ok _) follows (by rfl) fun K hK => ?_
      conv => whnf
      refine ⟨_, cxF (within_fn e 0 100), ?_⟩
      conv => whnf
      refine ⟨⟨rfl, by decide, fun x hx => (by simp at hx; subst hx; exact ⟨rfl, rfl⟩)⟩, ?_⟩
      conv => whnf
      refine ⟨_, cxF (elements_bool kp g0 none kl _ 1 _ (fun _ => x) (by omega) (by omega) (els1 g1 x)), ?_⟩
      conv => whnf
      rw [codeB_two hc (decide_eq_false he)]
      refine hK _ ?_
      clear hK K
      refine W.rs (cx_ok _) (by rfl) fun K hK => ?_
      conv => whnf
      refine hK _ (W.cond ⟨fun _ => ?_, fun hcc => absurd (by decide : (2 : Int) ≠ 0) (of_decide_eq_false hcc)⟩)
      clear hK K
      refine W.rs (cx_ok _) (by rfl) fun K hK => ?_
      conv => whnf
      refine hK _ ?_
      clear hK K
      refine W.ret ?_
      conv => whnf
      exact ⟨.v (.rf 0 0), rfl, trivial, .v (.int .i64 (2)), ⟨rfl, rfl⟩, trivial, 0, rfl, fun hne => absurd rfl hne⟩
  obtain ⟨hk, hh⟩ := code1_ok hc
  obtain ⟨hp, f, rfl, hfi, _, _, hf9⟩ := fld_poly hk
  letI := sp_of hp
  obtain ⟨X, rfl⟩ := mod_poly hh.1
  have hxl : X.l.length < f.l.length := hh.2
  have hfl : f.l.length = dg f := rfl
  have hXl : X.l.length = dg X := rfl
  have hf0 := hfi.ne
  have hp1 := primes_le hp
  have hF := frN_lt hf0 hxl
  obtain ⟨n, rfl⟩ : ∃ n : Nat, e = n := ⟨e.toNat, by omega⟩
  refine ⟨(frN f X n).l, 0, fun g0 g1 => ?_, fun g0 g1 => ?_, ?_⟩
  · refine fn_of (cx_ok [0, 1, 2, 3, 6, 7, 8, 9, 20, 22, 27]) Tryz.func31 rfl (by decide) Tryz.ntmps31 (Nat.le_of_ble_eq_true rfl) fun base => ?_
    refine W.rs (cx_ok _) (by rfl) fun K hK => ?_
    conv => whnf
    refine ⟨rfl, ?_⟩
    conv => whnf
    intro b_1 hs_1 hh_1 hf_1
    try dsimp only at hh_1 hf_1
    conv => whnf
    refine hK _ ?_
    clear hK K
    refine W.rs (cx_ok _) (by rfl) fun K hK => ?_
    conv => whnf
    refine callV rfl (l17Code_one kp g0 g1 g1 f.l X.l (by omega) (by omega)) fun hs' hhs => ?_
    try dsimp only at hhs
    conv => whnf
    rw [hc]
    refine hK _ ?_
    clear hK K
    refine W.seqK fun K1 hK1 => ?_
    refine W.rs (cx_ok _) (by rfl) fun K hK => ?_
    conv => whnf
    refine ⟨fun h => ?_, fun h => ?_⟩ <;> conv => whnf
    · refine callV rfl ((l01In_fn n 0 100).tr (decide_eq_true he)) fun hs' hhs => ?_
      try dsimp only at hhs
      conv => whnf
      refine hK _ (W.condF rfl (W.skip (hK1 _ ?_)))
      clear hK K hK1 K1
      refine W.seqK fun K1 hK1 => ?_
      refine W.rs (cx_ok _) (by rfl) fun K hK => ?_
      conv => whnf
      refine hK _ (W.cond ⟨fun hcc => absurd rfl (of_decide_eq_true hcc), fun _ => W.skip (hK1 _ ?_)⟩)
      clear hK K hK1 K1
      refine W.rs (cx_ok _) (by rfl) fun K hK => ?_
      conv => whnf
      refine callI rfl (own_fn g1 X.l (by omega)) fun hs_2 b_2 hh_2 hf_2 => ?_
      try dsimp only at hh_2 hf_2
      conv => whnf
      refine hK _ ?_
      clear hK K
      refine W.seqK fun K1 hK1 => W.block (W.invE (fun m e => ∃ j : Nat, j ≤ n ∧ m = n - j ∧ e = [(2, .v (.int .i64 ((n - j : Nat) : Int))), (3, .ownB b_1 (vK kp g0 f.l)), (9, .v (.ints none (frN f X j).l))]) _ _ (⟨0, Nat.zero_le _, rfl, rfl⟩) (by dsimp only; omega) (by repeat' first | refine And.intro ?_ ?_ | exact trivial | rfl | omega | exact .inl rfl | exact fun _ _ => rfl | exact fun _ _ h => h | assumption | exact fun i hi => (by obtain rfl : i = 0 := (by omega); rfl)) ?_)
      rintro m e ⟨j, hj, hm, rfl⟩
      have hFj := hF j
      refine W.seqK fun K7 hK7 => W.rs (cx_ok _) (by rfl) fun K hK => ?_
      conv => whnf
      refine hK _ (W.cond ⟨fun h => ?_, fun h => ?_⟩) <;> clear hK K <;> (first | replace h := of_decide_eq_true h | replace h := of_decide_eq_false h)
      · refine W.skip (hK7 _ ?_)
        clear hK7 K7
        refine W.seqK fun K8 hK8 => W.block ?_
        refine W.region (cx_ok _) (by rfl) ?_
        conv => whnf
        refine callV rfl (l17PowerP_fn kp g0 none f (frN f X j) (by omega) (by omega) hf0) fun hs' hhs => ?_
        try dsimp only at hhs
        conv => whnf
        refine hK8 _ ?_
        clear hK8 K8
        refine W.region (cx_ok _) (by rfl) ?_
        conv => whnf
        refine ⟨by constructor <;> omega, ?_⟩
        conv => whnf
        refine ⟨_, _, ⟨j + 1, by omega, rfl, rfl⟩, by omega, by dsimp only; omega, ?_⟩
        repeat' first | refine And.intro ?_ ?_ | exact trivial | rfl | omega | exact .inl rfl | exact fun _ _ => rfl | exact fun _ _ h => h | assumption | exact fun i hi => (by obtain rfl : i = 0 := (by omega); rfl)
      · obtain rfl : j = n := by omega
        refine W.exit (hK1 _ ?_)
        clear hK7 K7 hK1 K1
        refine W.rs (cx_ok _) (by rfl) fun K hK => ?_
        conv => whnf
        refine hK _ ?_
        clear hK K
        refine W.ret ?_
        conv => whnf
        exact ⟨.v (.ints none (frN f X j).l), ⟨rfl, rfl⟩, trivial, .v (.int .i64 0), ⟨rfl, rfl⟩, trivial, rfl⟩
    · exact absurd rfl (of_decide_eq_false h)
  · refine fnt_of (cxt_ok [] [0, 1, 2, 3, 6, 7, 8, 9, 17, 21, 22, 23, 1000000]) Tryz.func32 rfl (by decide) Tryz.ntmps32 (Nat.le_of_ble_eq_true rfl) (fun base => ?_) (Nat.le_of_ble_eq_true rfl)
    refine W.sw (c' := cx [0, 1, 2, 3, 6, 7, 8, 9, 17, 21, 22, 23, 1000000]) ?_
    refine W.rs (cx_ok _) (by rfl) fun K hK => ?_
    conv => whnf
    refine ⟨rfl, ?_⟩
    conv => whnf
    intro b_1 hs_1 hh_1 hf_1
    try dsimp only at hh_1 hf_1
    conv => whnf
    refine hK _ ?_
    clear hK K
    refine W.seqK fun K1 hK1 => ?_
    refine W.rd (cx_ok _) follows (by rfl) fun K hK => ?_
    conv => whnf
    refine ⟨_, cxF (within_fn n 0 100), ?_⟩
    conv => whnf
    refine ⟨⟨rfl, by decide, fun x hx => (by simp at hx; subst hx; exact ⟨rfl, rfl⟩)⟩, ?_⟩
    conv => whnf
    refine ⟨_, cxF (elements_bool kp g0 none f.l _ 1 _ (fun _ => X.l) (by omega) (by omega) (els1 g1 X.l)), ?_⟩
    conv => whnf
    rw [codeB_ok hc (decide_eq_true he)]
    refine hK _ ?_
    clear hK K
    refine W.rs (cx_ok _) (by rfl) fun K hK => ?_
    conv => whnf
    refine hK _ (W.cond ⟨fun hcc => absurd rfl (of_decide_eq_true hcc), fun _ => W.skip (hK1 _ ?_)⟩)
    clear hK K hK1 K1
    refine W.rs (cx_ok _) (by rfl) fun K hK => ?_
    conv => whnf
    refine callI rfl (clone_fn g1 X.l (by omega)) fun hs_2 b_2 hh_2 hf_2 => ?_
    try dsimp only at hh_2 hf_2
    conv => whnf
    refine hK _ ?_
    clear hK K
    refine W.sw (c' := cxt [59] [0, 1, 2, 3, 6, 7, 8, 9, 17, 21, 22, 23, 1000000]) ?_
    refine W.give 9 fun K hK => ?_
    conv => whnf
    refine hK _ ?_
    clear hK K
    refine W.seqK fun K1 hK1 => ?_
    refine W.rs (cxt_ok _ _) (by rfl) fun K hK => ?_
    conv => whnf
    refine hK _ (W.block (W.invE (fun m e => ∃ (j b : Nat) (tb : Tab), j ≤ n ∧ ((frN f X j).l ≠ [] → tb b = some (frN f X j).l) ∧ m = n - j ∧ e = [(vt, .tab tb), (3, .ownB b_1 (vK kp g0 f.l)), (9, .v (.rf b (frN f X j).l.length)), (21, .v (.int .i64 n)), (22, .v (.int .i64 j))]) _ _ (⟨0, b_2, _, Nat.zero_le _, fun h => tbAdd_self _ _ h, rfl, rfl⟩) (by dsimp only; omega) (by repeat' first | refine And.intro ?_ ?_ | exact trivial | rfl | omega | exact .inl rfl | exact fun _ _ => rfl | exact fun _ _ h => h | assumption | exact fun i hi => (by obtain rfl : i = 0 := (by omega); rfl)) ?_))
    clear hK K
    rintro m e ⟨j, b, tb, hj, htb, hm, rfl⟩
    have hFj := hF j
    refine W.rs (cxt_ok _ _) (by rfl) fun K hK => ?_
    conv => whnf
    refine hK _ ?_
    clear hK K
    refine W.seqK fun K7 hK7 => W.cond ⟨fun h => ?_, fun h => ?_⟩ <;> (first | replace h := of_decide_eq_true h | replace h := of_decide_eq_false h)
    · refine W.skip (hK7 _ ?_)
      clear hK7 K7
      refine W.seqK fun K8 hK8 => W.block ?_
      refine W.region (cxt_ok _ _) (by rfl) ?_
      conv => whnf
      refine ⟨_, ⟨rfl, htb⟩, ?_⟩
      conv => whnf
      refine ⟨_, cxT (kFrob_T kp g0 (some b) f (frN f X j) (by omega) (by omega) hf0), fun lo_r hi_r hs_r x_r tn_r tb_r hl1_r hl2_r _ hp_r hf_r hn_r ho_r => ?_⟩
      try dsimp only at hl1_r hl2_r
      obtain ⟨br, rfl, hr⟩ := hp_r
      conv => whnf
      refine hK8 _ ?_
      clear hK8 K8
      refine W.region (cxt_ok _ _) (by rfl) ?_
      conv => whnf
      refine ⟨by constructor <;> omega, ?_⟩
      conv => whnf
      refine ⟨_, _, ⟨j + 1, br, tb_r, by omega, fun h => hn_r _ _ (hr h), rfl, rfl⟩, by omega, by dsimp only; omega, ?_⟩
      repeat' first | refine And.intro ?_ ?_ | exact trivial | rfl | omega | exact .inl rfl | exact fun _ _ => rfl | exact fun _ _ h => h | assumption | exact fun i hi => (by obtain rfl : i = 0 := (by omega); rfl)
    · obtain rfl : j = n := by omega
      refine W.exit (hK1 _ ?_)
      clear hK7 K7 hK1 K1
      refine W.rs (cxt_ok _ _) (by rfl) fun K hK => ?_
      conv => whnf
      refine hK _ ?_
      clear hK K
      refine W.ret ?_
      conv => whnf
      exact ⟨.v (.rf b (frN f X j).l.length), rfl, trivial, .v (.int .i64 0), ⟨rfl, rfl⟩, trivial, b, rfl, htb⟩
  · have := hF n
    show dg (frN f X n) ≤ _; omega

/- the value of a polynomial at an element -/
theorem add_con_l {p : Int} [SP p] (v : Poly p) (c : Int) : nrm p (trimZ (addL v.l [c])) = (v + con p c).l := by
  have h := sub_con_l v (-c)
  rw [Int.neg_neg] at h
  rw [h]; congr 1
  have h2 := con_sub (p := p) 0 c
  rw [con_zero, Int.zero_sub] at h2
  rw [← h2]; exact ring [v, con p c] (by rfl)
noncomputable def valN {p : Int} [SP p] (f F X : Poly p) : Nat → Poly p
  | 0 => 0
  | k + 1 => rem (valN f F X k * X) f + con p (cf F.l (dg F - 1 - k))
theorem valN_lt {p : Int} [SP p] {f F X : Poly p} (hf : f ≠ 0) (h2 : 2 ≤ dg f) : ∀ k, dg (valN f F X k) < dg f
  | 0 => by show dg (0 : Poly p) < _; rw [dg_zero]; omega
  | k + 1 => by
    have h3 := dg_add (rem (valN f F X k * X) f) (con p (cf F.l (dg F - 1 - k)))
    have h4 := rem_lt (valN f F X k * X) hf
    have h5 := con_dg (p := p) (cf F.l (dg F - 1 - k))
    show dg (rem (valN f F X k * X) f + con p (cf F.l (dg F - 1 - k))) < _; omega
theorem bd_one {p : Int} [SP p] (F : Poly p) (j : Nat) : Bd 2305843009213693951 [cf F.l j] := fun i => by
  have := cf_bd F j
  have := SP.le (p := p)
  cases i with
  | zero => rw [cf_cons_zero]; omega
  | succ i => rw [cf_cons_succ, cf_nil]; omega
theorem ev_bd {p : Int} [SP p] (A F : Poly p) (j : Nat) : Bd 4611686018427387904 (trimZ (addL A.l [cf F.l j])) := fun i => by
  rw [cf_trimZ, cf_addL]
  have h1 := cf_bd A i
  have h2 := bd_one F j i
  have := SP.le (p := p)
  omega
theorem ev_len {p : Int} [SP p] (A : Poly p) (c : Int) {n : Nat} (h : dg A ≤ n) : (trimZ (addL A.l [c])).length ≤ n + 1 := by
  have h1 := trimZ_length (addL A.l [c])
  unfold addL at *
  rw [mkL_length] at *
  have : A.l.length = dg A := rfl
  simp at h1 ⊢; omega

theorem l18Value_fn (p : Int) [SP p] (g g1 g2 : Option Nat) (f F X : Poly p) (hF : dg F ≤ 1000) (hX : dg X < dg f) (hf : dg f ≤ 500) (h2 : 2 ≤ dg f) (hf0 : f ≠ 0) : FnV 74 [vK p g f.l, .ints g1 F.l, .ints g2 X.l] (.ints none (valN f F X (dg F)).l) := by
  have hp := Pr.two (p := p)
  have hp2 := SP.le (p := p)
  have hFl : F.l.length = dg F := rfl
  have hE := valN_lt (F := F) (X := X) hf0 h2
  refine fn_of (cx_ok [0, 1, 2, 3, 6, 7, 8, 14]) Tryz.func74 rfl (by decide) Tryz.ntmps74 (Nat.le_of_ble_eq_true rfl) fun base => ?_
  refine W.rs (cx_ok _) (by rfl) fun K hK => ?_
  conv => whnf
  refine ⟨rfl, ?_⟩
  conv => whnf
  intro b_1 hs_1 hh_1 hf_1
  try dsimp only at hh_1 hf_1
  conv => whnf
  refine hK _ ?_
  clear hK K
  refine W.rs (cx_ok _) (by rfl) fun K hK => ?_
  conv => whnf
  refine ⟨⟨rfl, by decide⟩, ?_⟩
  conv => whnf
  intro b_2 hs_2 hh_2 hf_2
  try dsimp only at hh_2 hf_2
  conv => whnf
  refine hK _ ?_
  clear hK K
  refine W.seqK fun K1 hK1 => ?_
  refine W.rs (cx_ok _) (by rfl) fun K hK => ?_
  conv => whnf
  rw [hFl]
  refine ⟨by constructor <;> omega, ?_⟩
  conv => whnf
  refine hK _ (W.block (W.invE (fun m e => ∃ (k : Nat) (s : List Int), k ≤ dg F ∧ s = (valN f F X k).l ∧ m = dg F - k ∧ e = [(1, .v (.ints g1 F.l)), (2, .v (.ints g2 X.l)), (3, .ownB b_1 (vK p g f.l)), (7, .v (.ints none s)), (8, .v (.int .i64 ((dg F : Int) - 1 - k)))]) _ _ (⟨0, [], Nat.zero_le _, zero_l.symm, rfl, by congr 4 <;> omega⟩) (by dsimp only; omega) (by repeat' first | refine And.intro ?_ ?_ | exact trivial | rfl | omega | exact .inl rfl | exact fun _ _ => rfl | exact fun _ _ h => h | assumption | exact fun i hi => (by obtain rfl : i = 0 := (by omega); rfl)) ?_))
  clear hK K
  rintro m e ⟨k, s, hk, rfl, hm, rfl⟩
  have hEk := hE k
  have hR := rem_lt (valN f F X k * X) hf0
  refine W.seqK fun K7 hK7 => W.rs (cx_ok _) (by rfl) fun K hK => ?_
  conv => whnf
  refine hK _ (W.cond ⟨fun h => ?_, fun h => ?_⟩) <;> clear hK K <;> (first | replace h := of_decide_eq_true h | replace h := of_decide_eq_false h)
  · have e1 : ((dg F : Int) - 1 - k).toNat = dg F - 1 - k := by omega
    have hEl := ev_len (rem (valN f F X k * X) f) (cf F.l (dg F - 1 - k)) (n := 500) (by omega)
    have hEb := ev_bd (rem (valN f F X k * X) f) F (dg F - 1 - k)
    have hRl : (rem (valN f F X k * X) f).l.length = dg (rem (valN f F X k * X) f) := rfl
    refine W.skip (hK7 _ ?_)
    clear hK7 K7
    refine W.seqK fun K8 hK8 => W.block ?_
    refine W.draw (cx_ok _) follows (by rfl) ?_
    conv => whnf
    refine ⟨_, cxF (l17Multiply_fn p g none g2 f (valN f F X k) X (by omega) (by omega) (by omega) hf0), ?_⟩
    conv => whnf
    refine ⟨⟨by omega, by omega⟩, ?_⟩
    conv => whnf
    rw [e1]
    refine ⟨⟨rfl, by decide⟩, ?_⟩
    conv => whnf
    refine ⟨_, cxF ((l06Add_fn none none (rem (valN f F X k * X) f).l [cf F.l (dg F - 1 - k)] 1 (by omega) (l_bd2 _) (bd_one F _) (by omega) (by simp)).toV), ?_⟩
    conv => whnf
    rw [smul_one]
    refine ⟨_, cxF ((l08Reduce_fn p (by omega) (by omega) none _ hEb (by omega)).toV), ?_⟩
    conv => whnf
    rw [add_con_l]
    refine hK8 _ ?_
    clear hK8 K8
    refine W.region (cx_ok _) (by rfl) ?_
    conv => whnf
    refine ⟨by constructor <;> omega, ?_⟩
    conv => whnf
    refine ⟨_, _, ⟨k + 1, _, by omega, rfl, rfl, by congr 4 <;> omega⟩, by omega, by dsimp only; omega, ?_⟩
    repeat' first | refine And.intro ?_ ?_ | exact trivial | rfl | omega | exact .inl rfl | exact fun _ _ => rfl | exact fun _ _ h => h | assumption | exact fun i hi => (by obtain rfl : i = 0 := (by omega); rfl)
  · obtain rfl : k = dg F := by omega
    refine W.exit (hK1 _ ?_)
    clear hK7 K7 hK1 K1
    refine W.rs (cx_ok _) (by rfl) fun K hK => ?_
    conv => whnf
    refine hK _ ?_
    clear hK K
    refine W.ret ?_
    conv => whnf
    exact ⟨.v (.ints none (valN f F X (dg F)).l), ⟨rfl, rfl⟩, trivial, rfl⟩

end Go.Proofs.YtaiahdeegchobaaGreat

namespace Go.Proofs.YtaiahdeegchobaaGreat
open Go Go.RowKit Go.Proofs Poly
set_option maxRecDepth 100000
set_option maxHeartbeats 8000000

theorem kValue_T (p : Int) [SP p] (g g1 g2 : Option Nat) (f F X : Poly p) (hF : dg F ≤ 1000) (hX : dg X < dg f) (hf : dg f ≤ 500) (h2 : 2 ≤ dg f) (hf0 : f ≠ 0) : FnT Tryz.prog 76 [vK p g f.l, .ints g1 F.l, .ints g2 X.l] (R1 (valN f F X (dg F)).l) := by
  have hp := Pr.two (p := p)
  have hp2 := SP.le (p := p)
  have hFl : F.l.length = dg F := rfl
  have hE := valN_lt (F := F) (X := X) hf0 h2
  refine fnt_of (cxt_ok [] [0, 1, 2, 3, 6, 7, 8, 13, 1000000]) Tryz.func76 rfl (by decide) Tryz.ntmps76 (Nat.le_of_ble_eq_true rfl) (fun base => ?_) (Nat.le_of_ble_eq_true rfl)
  refine W.rs (cxt_ok _ _) (by rfl) fun K hK => ?_
  conv => whnf
  refine ⟨rfl, ?_⟩
  conv => whnf
  intro b_1 hs_1 hh_1 hf_1
  try dsimp only at hh_1 hf_1
  conv => whnf
  refine hK _ ?_
  clear hK K
  refine W.rs (cxt_ok _ _) (by rfl) fun K hK => ?_
  conv => whnf
  refine hK _ ?_
  clear hK K
  refine W.seqK fun K1 hK1 => ?_
  refine W.rs (cxt_ok _ _) (by rfl) fun K hK => ?_
  conv => whnf
  rw [hFl]
  refine ⟨by constructor <;> omega, ?_⟩
  conv => whnf
  refine hK _ (W.block (W.invE (fun m e => ∃ (k b : Nat) (tb : Tab) (s : List Int), k ≤ dg F ∧ s = (valN f F X k).l ∧ m = dg F - k ∧ e = [(vt, .tab tb), (1, .v (.ints g1 F.l)), (2, .v (.ints g2 X.l)), (3, .ownB b_1 (vK p g f.l)), (7, .ownI 2 b s), (8, .v (.int .i64 ((dg F : Int) - 1 - k)))]) _ _ (⟨0, 0, _, [], Nat.zero_le _, zero_l.symm, rfl, by congr 5 <;> omega⟩) (by dsimp only; omega) (by repeat' first | refine And.intro ?_ ?_ | exact trivial | rfl | omega | exact .inl rfl | exact fun _ _ => rfl | exact fun _ _ h => h | assumption | exact fun i hi => (by obtain rfl : i = 0 := (by omega); rfl)) ?_))
  clear hK K
  rintro m e ⟨k, b, tb, s, hk, rfl, hm, rfl⟩
  have hEk := hE k
  have hR := rem_lt (valN f F X k * X) hf0
  refine W.seqK fun K7 hK7 => W.rs (cxt_ok _ _) (by rfl) fun K hK => ?_
  conv => whnf
  refine hK _ (W.cond ⟨fun h => ?_, fun h => ?_⟩) <;> clear hK K <;> (first | replace h := of_decide_eq_true h | replace h := of_decide_eq_false h)
  · have e1 : ((dg F : Int) - 1 - k).toNat = dg F - 1 - k := by omega
    have hEl := ev_len (rem (valN f F X k * X) f) (cf F.l (dg F - 1 - k)) (n := 500) (by omega)
    have hEb := ev_bd (rem (valN f F X k * X) f) F (dg F - 1 - k)
    have hRl : (rem (valN f F X k * X) f).l.length = dg (rem (valN f F X k * X) f) := rfl
    refine W.skip (hK7 _ ?_)
    clear hK7 K7
    refine W.seqK fun K8 hK8 => W.block ?_
    refine W.drawS 12 (cxt_ok _ _) follows (by rfl) ?_
    conv => whnf
    refine ⟨_, cxtF (kTimes_fn p g (some b) g2 f (valN f F X k) X (by omega) (by omega) (by omega) hf0), ?_⟩
    conv => whnf
    refine ⟨⟨by omega, by omega⟩, ?_⟩
    conv => whnf
    rw [e1]
    refine ⟨⟨rfl, by decide⟩, ?_⟩
    conv => whnf
    refine ⟨_, cxtF ((sumOf_fn none none (rem (valN f F X k * X) f).l [cf F.l (dg F - 1 - k)] (l_bd2 _) (bd_one F _) (by omega) (by simp)).toV), ?_⟩
    conv => whnf
    refine callI rfl (reduce_fn p (by omega) (by omega) none _ hEb (by omega)) fun hs_3 b_3 hh_3 hf_3 => ?_
    try dsimp only at hh_3 hf_3
    conv => whnf
    rw [add_con_l]
    refine hK8 _ ?_
    clear hK8 K8
    refine W.region (cxt_ok _ _) (by rfl) ?_
    conv => whnf
    refine ⟨by constructor <;> omega, ?_⟩
    conv => whnf
    refine ⟨_, _, ⟨k + 1, b_3, tb, _, by omega, rfl, rfl, by congr 5 <;> omega⟩, by omega, by dsimp only; omega, ?_⟩
    repeat' first | refine And.intro ?_ ?_ | exact trivial | rfl | omega | exact .inl rfl | exact fun _ _ => rfl | exact fun _ _ h => h | assumption | exact fun i hi => (by obtain rfl : i = 0 := (by omega); rfl)
  · obtain rfl : k = dg F := by omega
    refine W.exit (hK1 _ ?_)
    clear hK7 K7 hK1 K1
    refine W.give 7 fun K hK => ?_
    conv => whnf
    refine hK _ ?_
    clear hK K
    refine W.rs (cxt_ok _ _) (by rfl) fun K hK => ?_
    conv => whnf
    refine hK _ ?_
    clear hK K
    refine W.ret ?_
    conv => whnf
    exact ⟨.v (.rf b _), rfl, trivial, b, rfl, fun hne => tbAdd_self _ _ hne⟩

theorem EvaluateInField_both (kp : Int) (kl F x : List Int) (_ : inR kp) (hkl : kl.length ≤ 1048576) (hF : F.length ≤ 1048576) (hx : x.length ≤ 1048576) : ∃ (r0 : List Int) (r1 : Int),
    (∀ g0 g1 g2 : Option Nat, FnV 37 [vK kp g0 kl, .ints g1 F, .ints g2 x] (.tup [.ints none r0, .int .i64 r1])) ∧ (∀ g0 g1 g2 : Option Nat, FnT Tryz.prog 38 [vK kp g0 kl, .ints g1 F, .ints g2 x] (RT r0 r1)) ∧ r0.length ≤ 1000000 := by
  generalize hc : code1 kp kl x = c
  by_cases h0 : c = 0
  case neg =>
    refine ⟨[], c, fun g0 g1 g2 => ?_, fun g0 g1 g2 => ?_, by simp⟩
    · refine fn_of (cx_ok [0, 1, 2, 3, 6, 7, 8, 21, 23]) Tryz.func37 rfl (by decide) Tryz.ntmps37 (Nat.le_of_ble_eq_true rfl) fun base => ?_
      refine W.rs (cx_ok _) (by rfl) fun K hK => ?_
      conv => whnf
      refine ⟨rfl, ?_⟩
      conv => whnf
      intro b_1 hs_1 hh_1 hf_1
      try dsimp only at hh_1 hf_1
      conv => whnf
      refine hK _ ?_
      clear hK K
      refine W.rs (cx_ok _) (by rfl) fun K hK => ?_
      conv => whnf
      refine callV rfl (l17Code_one kp g0 g2 g2 kl x (by omega) (by omega)) fun hs' hhs => ?_
      try dsimp only at hhs
      conv => whnf
      rw [hc]
      refine hK _ ?_
      clear hK K
      refine W.seqK fun K1 hK1 => ?_
      refine W.rs (cx_ok _) (by rfl) fun K hK => ?_
      conv => whnf
      refine ⟨fun h => ?_, fun h => ?_⟩ <;> conv => whnf
      · exact absurd (of_decide_eq_true h) h0
      refine hK _ (W.condF rfl (W.skip (hK1 _ ?_)))
      clear hK K hK1 K1
      refine W.seqK fun K1 hK1 => ?_
      refine W.rs (cx_ok _) (by rfl) fun K hK => ?_
      conv => whnf
      refine hK _ (W.cond ⟨fun _ => ?_, fun hcc => absurd h0 (of_decide_eq_false hcc)⟩)
      clear hK K
      refine W.rs (cx_ok _) (by rfl) fun K hK => ?_
      conv => whnf
      refine hK _ ?_
      clear hK K
      refine W.ret ?_
      conv => whnf
      exact ⟨.v (.ints none []), rfl, trivial, .v (.int .i64 c), ⟨rfl, rfl⟩, trivial, rfl⟩
    · refine fnt_of (cxt_ok [] [0, 1, 2, 3, 6, 7, 8, 18, 1000000]) Tryz.func38 rfl (by decide) Tryz.ntmps38 (Nat.le_of_ble_eq_true rfl) (fun base => ?_) (Nat.le_of_ble_eq_true rfl)
      refine W.sw (c' := cx [0, 1, 2, 3, 6, 7, 8, 18, 1000000]) ?_
      refine W.rs (cx_ok _) (by rfl) fun K hK => ?_
      conv => whnf
      refine ⟨rfl, ?_⟩
      conv => whnf
      intro b_1 hs_1 hh_1 hf_1
      try dsimp only at hh_1 hf_1
      conv => whnf
      refine hK _ ?_
      clear hK K
      refine W.seqK fun K1 hK1 => ?_
      refine W.rd (cx_ok _) follows (by rfl) fun K hK => ?_
      conv => whnf
      refine ⟨_, cxF (isModular_fn g1 kp F), ?_⟩
      conv => whnf
      refine ⟨⟨rfl, by decide, fun x hx => (by simp at hx; subst hx; exact ⟨rfl, rfl⟩)⟩, ?_⟩
      conv => whnf
      refine ⟨_, cxF (elements_bool kp g0 none kl _ 1 _ (fun _ => x) (by omega) (by omega) (els1 g2 x)), ?_⟩
      conv => whnf
      rw [codeB_bad hc h0]
      refine hK _ ?_
      clear hK K
      refine W.rs (cx_ok _) (by rfl) fun K hK => ?_
      conv => whnf
      refine hK _ (W.cond ⟨fun _ => ?_, fun hcc => absurd h0 (of_decide_eq_false hcc)⟩)
      clear hK K
      refine W.rs (cx_ok _) (by rfl) fun K hK => ?_
      conv => whnf
      refine hK _ ?_
      clear hK K
      refine W.ret ?_
      conv => whnf
      exact ⟨.v (.rf 0 0), rfl, trivial, .v (.int .i64 (c)), ⟨rfl, rfl⟩, trivial, 0, rfl, fun hne => absurd rfl hne⟩
  subst h0
  by_cases he : IsMod kp F
  case neg =>
    refine ⟨[], 2, fun g0 g1 g2 => ?_, fun g0 g1 g2 => ?_, by simp⟩
    · refine fn_of (cx_ok [0, 1, 2, 3, 6, 7, 8, 21, 23]) Tryz.func37 rfl (by decide) Tryz.ntmps37 (Nat.le_of_ble_eq_true rfl) fun base => ?_
      refine W.rs (cx_ok _) (by rfl) fun K hK => ?_
      conv => whnf
      refine ⟨rfl, ?_⟩
      conv => whnf
      intro b_1 hs_1 hh_1 hf_1
      try dsimp only at hh_1 hf_1
      conv => whnf
      refine hK _ ?_
      clear hK K
      refine W.rs (cx_ok _) (by rfl) fun K hK => ?_
      conv => whnf
      refine callV rfl (l17Code_one kp g0 g2 g2 kl x (by omega) (by omega)) fun hs' hhs => ?_
      try dsimp only at hhs
      conv => whnf
      rw [hc]
      refine hK _ ?_
      clear hK K
      refine W.seqK fun K1 hK1 => ?_
      refine W.rs (cx_ok _) (by rfl) fun K hK => ?_
      conv => whnf
      refine ⟨fun h => ?_, fun h => ?_⟩ <;> conv => whnf
      · refine callV rfl ((isModS_fn g1 kp F (by omega)).fa (bP_false he)) fun hs' hhs => ?_
        try dsimp only at hhs
        conv => whnf
        refine hK _ (W.condT rfl ?_)
        clear hK K
        refine W.region (cx_ok _) (by rfl) ?_
        conv => whnf
        refine hK1 _ ?_
        clear hK1 K1
        refine W.seqK fun K1 hK1 => ?_
        refine W.rs (cx_ok _) (by rfl) fun K hK => ?_
        conv => whnf
        refine hK _ (W.cond ⟨fun _ => ?_, fun hcc => absurd (by decide : (2 : Int) ≠ 0) (of_decide_eq_false hcc)⟩)
        clear hK K
        refine W.rs (cx_ok _) (by rfl) fun K hK => ?_
        conv => whnf
        refine hK _ ?_
        clear hK K
        refine W.ret ?_
        conv => whnf
        exact ⟨.v (.ints none []), rfl, trivial, .v (.int .i64 2), ⟨rfl, rfl⟩, trivial, rfl⟩
      · exact absurd rfl (of_decide_eq_false h)
    · refine fnt_of (cxt_ok [] [0, 1, 2, 3, 6, 7, 8, 18, 1000000]) Tryz.func38 rfl (by decide) Tryz.ntmps38 (Nat.le_of_ble_eq_true rfl) (fun base => ?_) (Nat.le_of_ble_eq_true rfl)
      refine W.sw (c' := cx [0, 1, 2, 3, 6, 7, 8, 18, 1000000]) ?_
      refine W.rs (cx_ok _) (by rfl) fun K hK => ?_
      conv => whnf
      refine ⟨rfl, ?_⟩
      conv => whnf
      intro b_1 hs_1 hh_1 hf_1
      try dsimp only at hh_1 hf_1
      conv => whnf
      refine hK _ ?_
      clear hK K
      refine W.seqK fun K1 hK1 => ?_
      refine W.rd (cx_ok _) follows (by rfl) fun K hK => ?_
      conv => whnf
      refine ⟨_, cxF (isModular_fn g1 kp F), ?_⟩
      conv => whnf
      refine ⟨⟨rfl, by decide, fun x hx => (by simp at hx; subst hx; exact ⟨rfl, rfl⟩)⟩, ?_⟩
      conv => whnf
      refine ⟨_, cxF (elements_bool kp g0 none kl _ 1 _ (fun _ => x) (by omega) (by omega) (els1 g2 x)), ?_⟩
      conv => whnf
      rw [codeB_two hc (bP_false he)]
      refine hK _ ?_
      clear hK K
      refine W.rs (cx_ok _) (by rfl) fun K hK => ?_
      conv => whnf
      refine hK _ (W.cond ⟨fun _ => ?_, fun hcc => absurd (by decide : (2 : Int) ≠ 0) (of_decide_eq_false hcc)⟩)
      clear hK K
      refine W.rs (cx_ok _) (by rfl) fun K hK => ?_
      conv => whnf
      refine hK _ ?_
      clear hK K
      refine W.ret ?_
      conv => whnf
      exact ⟨.v (.rf 0 0), rfl, trivial, .v (.int .i64 (2)), ⟨rfl, rfl⟩, trivial, 0, rfl, fun hne => absurd rfl hne⟩
  have he9 := he.2.1
  obtain ⟨hk, hh⟩ := code1_ok hc
  obtain ⟨hp, f, rfl, hfi, _, _, hf9⟩ := fld_poly hk
  letI := sp_of hp
  obtain ⟨X, rfl⟩ := mod_poly hh.1
  have hxl : X.l.length < f.l.length := hh.2
  have hfl : f.l.length = dg f := rfl
  have hXl : X.l.length = dg X := rfl
  have hf0 := hfi.ne
  have hp1 := primes_le hp
  obtain ⟨F, rfl⟩ := mod_poly he
  have hFl : F.l.length = dg F := rfl
  have h2 := hfi.1
  refine ⟨(valN f F X (dg F)).l, 0, fun g0 g1 g2 => ?_, fun g0 g1 g2 => ?_, ?_⟩
  · refine fn_of (cx_ok [0, 1, 2, 3, 6, 7, 8, 21, 23]) Tryz.func37 rfl (by decide) Tryz.ntmps37 (Nat.le_of_ble_eq_true rfl) fun base => ?_
    refine W.rs (cx_ok _) (by rfl) fun K hK => ?_
    conv => whnf
    refine ⟨rfl, ?_⟩
    conv => whnf
    intro b_1 hs_1 hh_1 hf_1
    try dsimp only at hh_1 hf_1
    conv => whnf
    refine hK _ ?_
    clear hK K
    refine W.rs (cx_ok _) (by rfl) fun K hK => ?_
    conv => whnf
    refine callV rfl (l17Code_one kp g0 g2 g2 f.l X.l (by omega) (by omega)) fun hs' hhs => ?_
    try dsimp only at hhs
    conv => whnf
    rw [hc]
    refine hK _ ?_
    clear hK K
    refine W.seqK fun K1 hK1 => ?_
    refine W.rs (cx_ok _) (by rfl) fun K hK => ?_
    conv => whnf
    refine ⟨fun h => ?_, fun h => ?_⟩ <;> conv => whnf
    · refine callV rfl ((isModS_fn g1 kp F.l (by omega)).tr (bP_true he)) fun hs' hhs => ?_
      try dsimp only at hhs
      conv => whnf
      refine hK _ (W.condF rfl (W.skip (hK1 _ ?_)))
      clear hK K hK1 K1
      refine W.seqK fun K1 hK1 => ?_
      refine W.rs (cx_ok _) (by rfl) fun K hK => ?_
      conv => whnf
      refine hK _ (W.cond ⟨fun hcc => absurd rfl (of_decide_eq_true hcc), fun _ => W.skip (hK1 _ ?_)⟩)
      clear hK K hK1 K1
      refine W.rs (cx_ok _) (by rfl) fun K hK => ?_
      conv => whnf
      refine callV rfl (l18Value_fn kp g0 g1 g2 f F X (by omega) (by omega) (by omega) h2 hf0) fun hs' hhs => ?_
      try dsimp only at hhs
      conv => whnf
      refine hK _ ?_
      clear hK K
      refine W.ret ?_
      conv => whnf
      exact ⟨.v (.ints none (valN f F X (dg F)).l), ⟨rfl, rfl⟩, trivial, .v (.int .i64 0), ⟨rfl, rfl⟩, trivial, rfl⟩
    · exact absurd rfl (of_decide_eq_false h)
  · refine fnt_of (cxt_ok [] [0, 1, 2, 3, 6, 7, 8, 18, 1000000]) Tryz.func38 rfl (by decide) Tryz.ntmps38 (Nat.le_of_ble_eq_true rfl) (fun base => ?_) (Nat.le_of_ble_eq_true rfl)
    refine W.sw (c' := cx [0, 1, 2, 3, 6, 7, 8, 18, 1000000]) ?_
    refine W.rs (cx_ok _) (by rfl) fun K hK => ?_
    conv => whnf
    refine ⟨rfl, ?_⟩
    conv => whnf
    intro b_1 hs_1 hh_1 hf_1
    try dsimp only at hh_1 hf_1
    conv => whnf
    refine hK _ ?_
    clear hK K
    refine W.seqK fun K1 hK1 => ?_
    refine W.rd (cx_ok _) follows (by rfl) fun K hK => ?_
    conv => whnf
    refine ⟨_, cxF (isModular_fn g1 kp F.l), ?_⟩
    conv => whnf
    refine ⟨⟨rfl, by decide, fun x hx => (by simp at hx; subst hx; exact ⟨rfl, rfl⟩)⟩, ?_⟩
    conv => whnf
    refine ⟨_, cxF (elements_bool kp g0 none f.l _ 1 _ (fun _ => X.l) (by omega) (by omega) (els1 g2 X.l)), ?_⟩
    conv => whnf
    rw [codeB_ok hc (bP_true he)]
    refine hK _ ?_
    clear hK K
    refine W.rs (cx_ok _) (by rfl) fun K hK => ?_
    conv => whnf
    refine hK _ (W.cond ⟨fun hcc => absurd rfl (of_decide_eq_true hcc), fun _ => W.skip (hK1 _ ?_)⟩)
    clear hK K hK1 K1
    refine W.sw (c' := cxt [76] [0, 1, 2, 3, 6, 7, 8, 18, 1000000]) ?_
    refine W.rs (cxt_ok _ _) (by rfl) fun K hK => ?_
    conv => whnf
    refine ⟨_, cxT (kValue_T kp g0 g1 g2 f F X (by omega) (by omega) (by omega) h2 hf0), fun lo_t hi_t hs_t x_t tn_t tb_t hl1_t hl2_t _ hp_t hf_t hn_t ho_t => ?_⟩
    try dsimp only at hl1_t hl2_t
    obtain ⟨bt, rfl, ht⟩ := hp_t
    conv => whnf
    refine hK _ ?_
    clear hK K
    refine W.ret ?_
    conv => whnf
    exact ⟨.v (.rf bt (valN f F X (dg F)).l.length), rfl, trivial, .v (.int .i64 0), ⟨rfl, rfl⟩, trivial, bt, rfl, fun h => hn_t _ _ (ht h)⟩
  · have := valN_lt (F := F) (X := X) hf0 h2 (dg F)
    show dg (valN f F X (dg F)) ≤ _; omega

theorem l17With_fn (p : Int) (g : Option Nat) (l : List Int) (n : Nat) (hp : 2 ≤ p) (hn : n ≤ 1000000000) : FnV 61 [vK p g l, .int .i64 n] (.ints none (dig p.toNat n)) := by
  obtain ⟨q, rfl⟩ : ∃ q : Nat, p = q := ⟨p.toNat, by omega⟩
  rw [Int.toNat_natCast]
  have hp : 2 ≤ q := by omega
  refine fn_of (cx_ok [0, 1, 2, 4, 5, 8]) Tryz.func61 rfl (by decide) Tryz.ntmps61 (Nat.le_of_ble_eq_true rfl) fun base => ?_
  refine W.rs (cx_ok _) (by rfl) fun K hK => ?_
  conv => whnf
  refine ⟨rfl, ?_⟩
  conv => whnf
  intro b_1 hs_1 hh_1 hf_1
  try dsimp only at hh_1 hf_1
  conv => whnf
  refine hK _ ?_
  clear hK K
  refine W.rs (cx_ok _) (by rfl) fun K hK => ?_
  conv => whnf
  refine ⟨⟨rfl, by decide⟩, ?_⟩
  conv => whnf
  intro b_2 hs_2 hh_2 hf_2
  try dsimp only at hh_2 hf_2
  conv => whnf
  refine hK _ ?_
  clear hK K
  refine W.seqK fun K1 hK1 => W.block (W.invE (fun m e => ∃ (k b : Nat) (o : List Int), k ≤ n ∧ o ++ dig q k = dig q n ∧ o.length + k ≤ n ∧ m = k ∧ e = [(1, .v (.int .i64 k)), (2, .ownB b_1 (vK q g l)), (5, .ownI 2 b o)]) _ _ (⟨n, b_2, [], Nat.le_refl _, rfl, by simp, rfl, rfl⟩) (by dsimp only; omega) (by repeat' first | refine And.intro ?_ ?_ | exact trivial | rfl | omega | exact .inl rfl | exact fun _ _ => rfl | exact fun _ _ h => h | assumption | exact fun i hi => (by obtain rfl : i = 0 := (by omega); rfl)) ?_)
  rintro m e ⟨k, b, o, hk, ho, hol, hm, rfl⟩
  refine W.seqK fun K7 hK7 => W.rs (cx_ok _) (by rfl) fun K hK => ?_
  conv => whnf
  refine hK _ (W.cond ⟨fun h => ?_, fun h => ?_⟩) <;> clear hK K <;> (first | replace h := of_decide_eq_true h | replace h := of_decide_eq_false h)
  · have h1 := dig_pos hp (n := k) (by omega)
    have h2 : k / q < k := Nat.div_lt_self (by omega) hp
    have h3 : ((k : Int)).tmod q = ((k % q : Nat) : Int) := tmod_nat k q
    have h4 : ((k : Int)).tdiv q = ((k / q : Nat) : Int) := tdiv_nat k q
    generalize k / q = v at h1 h2 h4
    generalize k % q = u at h1 h3
    refine W.skip (hK7 _ ?_)
    clear hK7 K7
    refine W.seqK fun K8 hK8 => W.block ?_
    refine W.region (cx_ok _) (by rfl) ?_
    conv => whnf
    refine ⟨by omega, ?_⟩
    conv => whnf
    rw [h3]
    refine ⟨⟨rfl, by decide⟩, ?_⟩
    conv => whnf
    intro b_1 hs_1 hh_1 hf_1
    try dsimp only at hh_1 hf_1
    conv => whnf
    refine ⟨by dsimp only [List.length]; omega, ?_⟩
    conv => whnf
    intro b_2 hs_2 hh_2 hf_2
    try dsimp only at hh_2 hf_2
    conv => whnf
    refine hK8 _ ?_
    clear hK8 K8
    refine W.region (cx_ok _) (by rfl) ?_
    conv => whnf
    rw [h4]
    refine ⟨by omega, ?_⟩
    conv => whnf
    refine ⟨by constructor <;> omega, ?_⟩
    conv => whnf
    refine ⟨_, _, ⟨v, b_2, o ++ [(u : Int)], by omega, by rw [← ho, h1, List.append_assoc]; rfl, by rw [List.length_append]; dsimp only [List.length]; omega, rfl, rfl⟩, by omega, by dsimp only; omega, ?_⟩
    repeat' first | refine And.intro ?_ ?_ | exact trivial | rfl | omega | exact .inl rfl | exact fun _ _ => rfl | exact fun _ _ h => h | assumption | exact fun i hi => (by obtain rfl : i = 0 := (by omega); rfl)
  · obtain rfl : k = 0 := by omega
    rw [dig_zero, List.append_nil] at ho
    subst ho
    refine W.exit (hK1 _ ?_)
    clear hK7 K7 hK1 K1
    refine W.rs (cx_ok _) (by rfl) fun K hK => ?_
    conv => whnf
    refine hK _ ?_
    clear hK K
    refine W.ret ?_
    conv => whnf
    exact ⟨.v (.ints none (dig q n)), ⟨rfl, rfl⟩, trivial, rfl⟩

theorem ElementWith_both (kp : Int) (kl : List Int) (n : Int) (_ : inR kp) (_ : inR n) (hkl : kl.length ≤ 1048576) : ∃ (r0 : List Int) (r1 : Int),
    (∀ g0 : Option Nat, FnV 27 [vK kp g0 kl, .int .i64 n] (.tup [.ints none r0, .int .i64 r1])) ∧ (∀ g0 : Option Nat, FnT Tryz.prog 28 [vK kp g0 kl, .int .i64 n] (RT r0 r1)) ∧ r0.length ≤ 1000000 := by
  by_cases hk : IsFld kp kl
  case neg =>
    have hc : codeEl kp kl true 0 (fun _ => []) = 1 := by unfold codeEl; rw [bP_false hk]; rfl
    refine ⟨[], 1, fun g0 => ?_, fun g0 => ?_, by simp⟩
    · refine fn_of (cx_ok [0, 1, 2, 4, 5, 8, 14]) Tryz.func27 rfl (by decide) Tryz.ntmps27 (Nat.le_of_ble_eq_true rfl) fun base => ?_
      refine W.rs (cx_ok _) (by rfl) fun K hK => ?_
      conv => whnf
      refine ⟨rfl, ?_⟩
      conv => whnf
      intro b_1 hs_1 hh_1 hf_1
      try dsimp only at hh_1 hf_1
      conv => whnf
      refine hK _ ?_
      clear hK K
      refine W.seqK fun K1 hK1 => ?_
      refine W.rs (cx_ok _) (by rfl) fun K hK => ?_
      conv => whnf
      refine callV rfl ((isFieldS_fn kp g0 kl (by omega)).fa (bP_false hk)) fun hs' hhs => ?_
      try dsimp only at hhs
      conv => whnf
      refine hK _ (W.condT rfl ?_)
      clear hK K
      refine W.rs (cx_ok _) (by rfl) fun K hK => ?_
      conv => whnf
      refine hK _ ?_
      clear hK K
      refine W.ret ?_
      conv => whnf
      exact ⟨.v (.ints none []), rfl, trivial, .v (.int .i64 1), ⟨rfl, rfl⟩, trivial, rfl⟩
    · refine fnt_of (cxt_ok [] [0, 1, 2, 4, 5, 6, 10, 17, 1000000]) Tryz.func28 rfl (by decide) Tryz.ntmps28 (Nat.le_of_ble_eq_true rfl) (fun base => ?_) (Nat.le_of_ble_eq_true rfl)
      refine W.sw (c' := cx [0, 1, 2, 4, 5, 6, 10, 17, 1000000]) ?_
      refine W.rs (cx_ok _) (by rfl) fun K hK => ?_
      conv => whnf
      refine ⟨rfl, ?_⟩
      conv => whnf
      intro b_1 hs_1 hh_1 hf_1
      try dsimp only at hh_1 hf_1
      conv => whnf
      refine hK _ ?_
      clear hK K
      refine W.seqK fun K1 hK1 => ?_
      refine W.rs (cx_ok _) (by rfl) fun K hK => ?_
      conv => whnf
      refine callV rfl (elements_tr kp g0 none kl 0 _ (fun _ => []) (by omega) (by omega) (fun i hi => by omega)) fun hs' hhs => ?_
      try dsimp only at hhs
      conv => whnf
      rw [hc]
      refine hK _ ?_
      clear hK K
      refine W.rs (cx_ok _) (by rfl) fun K hK => ?_
      conv => whnf
      refine hK _ (W.cond ⟨fun _ => ?_, fun hcc => absurd (by decide : (1 : Int) ≠ 0) (of_decide_eq_false hcc)⟩)
      clear hK K
      refine W.rs (cx_ok _) (by rfl) fun K hK => ?_
      conv => whnf
      refine hK _ ?_
      clear hK K
      refine W.ret ?_
      conv => whnf
      exact ⟨.v (.rf 0 0), rfl, trivial, .v (.int .i64 (1)), ⟨rfl, rfl⟩, trivial, 0, rfl, fun hne => absurd rfl hne⟩
  have hc : codeEl kp kl true 0 (fun _ => []) = 0 := by unfold codeEl; rw [bP_true hk, bP_true (fun i hi => by omega)]; rfl
  have hp1 := isP_le hk.mod.1
  have h9 := hk.mod.2.1
  have hl2 := hk.two
  have ho := hk.ord
  have hb := pow_le_big (p := kp) (by omega) (by omega) (k := kl.length - 1) (by omega)
  by_cases hn : 0 ≤ n ∧ n ≤ kp ^ (kl.length - 1) - 1
  case neg =>
    refine ⟨[], 2, fun g0 => ?_, fun g0 => ?_, by simp⟩
    · refine fn_of (cx_ok [0, 1, 2, 4, 5, 8, 14]) Tryz.func27 rfl (by decide) Tryz.ntmps27 (Nat.le_of_ble_eq_true rfl) fun base => ?_
      refine W.rs (cx_ok _) (by rfl) fun K hK => ?_
      conv => whnf
      refine ⟨rfl, ?_⟩
      conv => whnf
      intro b_1 hs_1 hh_1 hf_1
      try dsimp only at hh_1 hf_1
      conv => whnf
      refine hK _ ?_
      clear hK K
      refine W.seqK fun K1 hK1 => ?_
      refine W.rs (cx_ok _) (by rfl) fun K hK => ?_
      conv => whnf
      refine callV rfl ((isFieldS_fn kp g0 kl (by omega)).tr (bP_true hk)) fun hs' hhs => ?_
      try dsimp only at hhs
      conv => whnf
      refine hK _ (W.condF rfl (W.skip (hK1 _ ?_)))
      clear hK K hK1 K1
      refine W.seqK fun K1 hK1 => ?_
      refine W.rs (cx_ok _) (by rfl) fun K hK => ?_
      conv => whnf
      refine callV rfl (l17Size_fn kp g0 kl hk) fun hs' hhs => ?_
      try dsimp only at hhs
      conv => whnf
      refine ⟨by constructor <;> omega, ?_⟩
      conv => whnf
      refine callV rfl ((l01In_fn _ _ _).fa (decide_eq_false hn)) fun hs' hhs => ?_
      try dsimp only at hhs
      conv => whnf
      refine hK _ (W.condT rfl ?_)
      clear hK K
      refine W.rs (cx_ok _) (by rfl) fun K hK => ?_
      conv => whnf
      refine hK _ ?_
      clear hK K
      refine W.ret ?_
      conv => whnf
      exact ⟨.v (.ints none []), rfl, trivial, .v (.int .i64 2), ⟨rfl, rfl⟩, trivial, rfl⟩
    · refine fnt_of (cxt_ok [] [0, 1, 2, 4, 5, 6, 10, 17, 1000000]) Tryz.func28 rfl (by decide) Tryz.ntmps28 (Nat.le_of_ble_eq_true rfl) (fun base => ?_) (Nat.le_of_ble_eq_true rfl)
      refine W.sw (c' := cx [0, 1, 2, 4, 5, 6, 10, 17, 1000000]) ?_
      refine W.rs (cx_ok _) (by rfl) fun K hK => ?_
      conv => whnf
      refine ⟨rfl, ?_⟩
      conv => whnf
      intro b_1 hs_1 hh_1 hf_1
      try dsimp only at hh_1 hf_1
      conv => whnf
      refine hK _ ?_
      clear hK K
      refine W.seqK fun K1 hK1 => ?_
      refine W.rs (cx_ok _) (by rfl) fun K hK => ?_
      conv => whnf
      refine callV rfl (elements_tr kp g0 none kl 0 _ (fun _ => []) (by omega) (by omega) (fun i hi => by omega)) fun hs' hhs => ?_
      try dsimp only at hhs
      conv => whnf
      rw [hc]
      refine hK _ ?_
      clear hK K
      refine W.rs (cx_ok _) (by rfl) fun K hK => ?_
      conv => whnf
      refine hK _ (W.cond ⟨fun hcc => absurd rfl (of_decide_eq_true hcc), fun _ => W.skip (hK1 _ ?_)⟩)
      clear hK K hK1 K1
      refine W.seqK fun K1 hK1 => ?_
      refine W.rs (cx_ok _) (by rfl) fun K hK => ?_
      conv => whnf
      refine callV rfl (order_fn kp g0 kl (by omega) (by omega) (by omega) (by omega)) fun hs' hhs => ?_
      try dsimp only at hhs
      conv => whnf
      refine ⟨by constructor <;> omega, ?_⟩
      conv => whnf
      refine callV rfl ((within_fn _ _ _).fa (decide_eq_false hn)) fun hs' hhs => ?_
      try dsimp only at hhs
      conv => whnf
      refine hK _ (W.condT rfl ?_)
      clear hK K
      refine W.rs (cx_ok _) (by rfl) fun K hK => ?_
      conv => whnf
      refine hK _ ?_
      clear hK K
      refine W.ret ?_
      conv => whnf
      exact ⟨.v (.rf 0 0), rfl, trivial, .v (.int .i64 (2)), ⟨rfl, rfl⟩, trivial, 0, rfl, fun hne => absurd rfl hne⟩
  obtain ⟨k, rfl⟩ : ∃ k : Nat, n = k := ⟨n.toNat, by omega⟩
  have hkd := dig_length_le (p := kp.toNat) (by omega) (kl.length - 1) k (by
    have h1 : ((kp.toNat ^ (kl.length - 1) : Nat) : Int) = kp ^ (kl.length - 1) := by rw [Int.natCast_pow, Int.toNat_of_nonneg (by omega)]
    omega)
  refine ⟨dig kp.toNat k, 0, fun g0 => ?_, fun g0 => ?_, by omega⟩
  · refine fn_of (cx_ok [0, 1, 2, 4, 5, 8, 14]) Tryz.func27 rfl (by decide) Tryz.ntmps27 (Nat.le_of_ble_eq_true rfl) fun base => ?_
    refine W.rs (cx_ok _) (by rfl) fun K hK => ?_
    conv => whnf
    refine ⟨rfl, ?_⟩
    conv => whnf
    intro b_1 hs_1 hh_1 hf_1
    try dsimp only at hh_1 hf_1
    conv => whnf
    refine hK _ ?_
    clear hK K
    refine W.seqK fun K1 hK1 => ?_
    refine W.rs (cx_ok _) (by rfl) fun K hK => ?_
    conv => whnf
    refine callV rfl ((isFieldS_fn kp g0 kl (by omega)).tr (bP_true hk)) fun hs' hhs => ?_
    try dsimp only at hhs
    conv => whnf
    refine hK _ (W.condF rfl (W.skip (hK1 _ ?_)))
    clear hK K hK1 K1
    refine W.seqK fun K1 hK1 => ?_
    refine W.rs (cx_ok _) (by rfl) fun K hK => ?_
    conv => whnf
    refine callV rfl (l17Size_fn kp g0 kl hk) fun hs' hhs => ?_
    try dsimp only at hhs
    conv => whnf
    refine ⟨by constructor <;> omega, ?_⟩
    conv => whnf
    refine callV rfl ((l01In_fn _ _ _).tr (decide_eq_true hn)) fun hs' hhs => ?_
    try dsimp only at hhs
    conv => whnf
    refine hK _ (W.condF rfl (W.skip (hK1 _ ?_)))
    clear hK K hK1 K1
    refine W.rs (cx_ok _) (by rfl) fun K hK => ?_
    conv => whnf
    refine callV rfl (l17With_fn kp g0 kl k (by omega) (by omega)) fun hs' hhs => ?_
    try dsimp only at hhs
    conv => whnf
    refine hK _ ?_
    clear hK K
    refine W.ret ?_
    conv => whnf
    exact ⟨.v (.ints none (dig kp.toNat k)), ⟨rfl, rfl⟩, trivial, .v (.int .i64 0), ⟨rfl, rfl⟩, trivial, rfl⟩
  · refine fnt_of (cxt_ok [] [0, 1, 2, 4, 5, 6, 10, 17, 1000000]) Tryz.func28 rfl (by decide) Tryz.ntmps28 (Nat.le_of_ble_eq_true rfl) (fun base => ?_) (Nat.le_of_ble_eq_true rfl)
    refine W.sw (c' := cx [0, 1, 2, 4, 5, 6, 10, 17, 1000000]) ?_
    refine W.rs (cx_ok _) (by rfl) fun K hK => ?_
    conv => whnf
    refine ⟨rfl, ?_⟩
    conv => whnf
    intro b_1 hs_1 hh_1 hf_1
    try dsimp only at hh_1 hf_1
    conv => whnf
    refine hK _ ?_
    clear hK K
    refine W.seqK fun K1 hK1 => ?_
    refine W.rs (cx_ok _) (by rfl) fun K hK => ?_
    conv => whnf
    refine callV rfl (elements_tr kp g0 none kl 0 _ (fun _ => []) (by omega) (by omega) (fun i hi => by omega)) fun hs' hhs => ?_
    try dsimp only at hhs
    conv => whnf
    rw [hc]
    refine hK _ ?_
    clear hK K
    refine W.rs (cx_ok _) (by rfl) fun K hK => ?_
    conv => whnf
    refine hK _ (W.cond ⟨fun hcc => absurd rfl (of_decide_eq_true hcc), fun _ => W.skip (hK1 _ ?_)⟩)
    clear hK K hK1 K1
    refine W.seqK fun K1 hK1 => ?_
    refine W.rs (cx_ok _) (by rfl) fun K hK => ?_
    conv => whnf
    refine callV rfl (order_fn kp g0 kl (by omega) (by omega) (by omega) (by omega)) fun hs' hhs => ?_
    try dsimp only at hhs
    conv => whnf
    refine ⟨by constructor <;> omega, ?_⟩
    conv => whnf
    refine callV rfl ((within_fn _ _ _).tr (decide_eq_true hn)) fun hs' hhs => ?_
    try dsimp only at hhs
    conv => whnf
    refine hK _ (W.condF rfl (W.skip (hK1 _ ?_)))
    clear hK K hK1 K1
    refine W.sw (c' := cxt [] [0, 1, 2, 4, 5, 6, 10, 17, 1000000]) ?_
    refine W.rs (cxt_ok _ _) (by rfl) fun K hK => ?_
    conv => whnf
    refine callI rfl (withNumber_p kp k (by omega) (by omega)) fun hs_3 b_3 hh_3 hf_3 => ?_
    try dsimp only at hh_3 hf_3
    conv => whnf
    refine hK _ ?_
    clear hK K
    refine W.give 4 fun K hK => ?_
    conv => whnf
    refine hK _ ?_
    clear hK K
    refine W.ret ?_
    conv => whnf
    exact ⟨.v (.rf b_3 _), rfl, trivial, .v (.int .i64 (0)), ⟨rfl, rfl⟩, trivial, b_3, rfl, fun hne => tbAdd_self _ _ hne⟩

end Go.Proofs.YtaiahdeegchobaaGreat

namespace Go.Proofs.YtaiahdeegchobaaGreat
open Go Go.RowKit Go.ChangeShapes Go.WideShapes Go.ChangeAt Go.Proofs Go.Proofs.YtaiahdeegchobaaGreat

theorem fn_calls {P : Program} {f : Nat} {xs : List V} {r : V} {w : World} {vs : Array Value} (h : Fn P f xs (fun _ _ a => a = .v r)) (hl : vs.size = xs.length)
    (hr : ∀ j, j < xs.length → Rep (okAll w) w.heap (xs.getD j .nil) (vs.getD j undef)) :
    Calls P f vs w fun e w' => ∃ v, e = .returned v ∧ Below w.heap.size w w' ∧ Rep (okR (fun _ => False) w'.heap.size) w'.heap r v := by
  refine (h.2 (fun _ => False) w vs (fun _ h => h.elim) hl hr).mono fun e w' ⟨v, av, hi, h1, h2, h3, h4, h5⟩ => ?_
  subst h3
  obtain ⟨_, h6, _⟩ := h5
  refine ⟨v, h1, h4, ?_⟩
  exact Rep.mono h6 fun g b hb => ⟨⟨hb.1, fun h => h.elim, hb.2.2⟩, rfl⟩

theorem fn_true {P : Program} {f : Nat} {xs : List V} {w : World} {vs : Array Value} (h : Fn P f xs (fun _ _ a => a = .v .tr)) (hl : vs.size = xs.length)
    (hr : ∀ j, j < xs.length → Rep (okAll w) w.heap (xs.getD j .nil) (vs.getD j undef)) :
    Calls P f vs w fun e w' => e = .returned (.bool true) ∧ Below w.heap.size w w' :=
  (fn_calls h hl hr).mono fun e w' ⟨v, h1, h2, h3⟩ => by
    cases h3
    exact ⟨h1, h2⟩

theorem ownP : ownKnob Tryz.prog.godebug = none := by kernel_rfl
theorem laidOutP : laidOutB Tryz.prog = true := by kernel_rfl
theorem cellsInt : Tryz.prog.cellsOf 2 = 1 := by kernel_rfl

theorem cellsInts : Tryz.prog.cellsOf 22 = 1 := by kernel_rfl
theorem readsInt {H : Type} {enc : TypeId × Value → H} {W : World} : Reads enc Tryz.prog W 2 1 TyInt := reads_int Tryz.underlying2
theorem readsInts {H : Type} {enc : TypeId × Value → H} {W : World} : Reads enc Tryz.prog W 22 1 TyInts := reads_ints Tryz.underlying22 Tryz.underlying2 cellsInt
theorem readsField {H : Type} {enc : TypeId × Value → H} {W : World} : Reads enc Tryz.prog W 24 2 (TyCat [TyInt, TyInts]) :=
  reads_struct Tryz.underlying24 (by kernel_rfl) ⟨rfl, 1, cellsInt, readsInt, rfl, 1, cellsInts, readsInts, rfl⟩
end Go.Proofs.YtaiahdeegchobaaGreat
