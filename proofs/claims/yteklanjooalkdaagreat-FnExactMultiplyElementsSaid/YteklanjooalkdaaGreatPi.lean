/- What the program's functions and the reference's return. No conditions. -/
import Derived.Test.YteklanjooalkdaaGreatPh
import Derived.Test.YteklanjooalkdaaGreatRows
namespace Go.Proofs.YteklanjooalkdaaGreat
open Go Go.RowKit Go.Proofs Poly
set_option maxRecDepth 100000
set_option maxHeartbeats 8000000

/-- an element of the field with modulus l -/
def Has (p : Int) (l x : List Int) : Prop := IsMod p x ∧ x.length < l.length

theorem has_fn (p : Int) (g g' : Option Nat) (l x : List Int) : FnV 39 [vK p g l, .ints g' x] (.bool (bP (Has p l x))) := by
  by_cases hm : IsMod p x
  · refine fn_of (cx_ok [0, 1, 2, 4]) Tryz.func39 rfl (by decide) Tryz.ntmps39 (Nat.le_of_ble_eq_true rfl) fun base => ?_
    refine W.rs (cx_ok _) (by rfl) fun K hK => ?_
    conv => whnf
    refine ⟨rfl, ?_⟩
    conv => whnf
    intro b_1 hs_1 hh_1 hf_1
    try dsimp only at hh_1 hf_1
    conv => whnf
    refine hK _ ?_
    clear hK K
    refine W.rs (cx_ok _) (by rfl) fun K hK => ?_
    conv => whnf
    refine callV rfl ((isModular_fn g' p x).tr (bP_true hm)) fun hs' hhs => ?_
    try dsimp only at hhs
    conv => whnf
    refine hK _ ?_
    clear hK K
    refine W.ret ?_
    conv => whnf
    exact ⟨.v (.bool (bP (Has p l x))), (by show decide ((x.length : Int) < l.length) = bP _; by_cases h : x.length < l.length; (rw [decide_eq_true (by omega), bP_true ⟨hm, h⟩]); (rw [decide_eq_false (by omega), bP_false fun h' => h h'.2])), trivial, rfl⟩
  · refine fn_of (cx_ok [0, 1, 2, 4]) Tryz.func39 rfl (by decide) Tryz.ntmps39 (Nat.le_of_ble_eq_true rfl) fun base => ?_
    refine W.rs (cx_ok _) (by rfl) fun K hK => ?_
    conv => whnf
    refine ⟨rfl, ?_⟩
    conv => whnf
    intro b_1 hs_1 hh_1 hf_1
    try dsimp only at hh_1 hf_1
    conv => whnf
    refine hK _ ?_
    clear hK K
    refine W.rs (cx_ok _) (by rfl) fun K hK => ?_
    conv => whnf
    refine callV rfl ((isModular_fn g' p x).fa (bP_false hm)) fun hs' hhs => ?_
    try dsimp only at hhs
    conv => whnf
    refine hK _ ?_
    clear hK K
    refine W.ret ?_
    conv => whnf
    exact ⟨.v (.bool (bP (Has p l x))), bP_false fun h => hm h.1, trivial, rfl⟩

theorem l17Is_fn (p : Int) (g g' : Option Nat) (l x : List Int) (hx : x.length ≤ 1000000000) : FnV 42 [vK p g l, .ints g' x] (.bool (bP (Has p l x))) := by
  by_cases hm : IsMod p x
  · refine fn_of (cx_ok [0, 1, 2, 4]) Tryz.func42 rfl (by decide) Tryz.ntmps42 (Nat.le_of_ble_eq_true rfl) fun base => ?_
    refine W.rs (cx_ok _) (by rfl) fun K hK => ?_
    conv => whnf
    refine ⟨rfl, ?_⟩
    conv => whnf
    intro b_1 hs_1 hh_1 hf_1
    try dsimp only at hh_1 hf_1
    conv => whnf
    refine hK _ ?_
    clear hK K
    refine W.rs (cx_ok _) (by rfl) fun K hK => ?_
    conv => whnf
    refine callV rfl ((isModS_fn g' p x hx).tr (bP_true hm)) fun hs' hhs => ?_
    try dsimp only at hhs
    conv => whnf
    refine hK _ ?_
    clear hK K
    refine W.ret ?_
    conv => whnf
    exact ⟨.v (.bool (bP (Has p l x))), (by show decide ((x.length : Int) < l.length) = bP _; by_cases h : x.length < l.length; (rw [decide_eq_true (by omega), bP_true ⟨hm, h⟩]); (rw [decide_eq_false (by omega), bP_false fun h' => h h'.2])), trivial, rfl⟩
  · refine fn_of (cx_ok [0, 1, 2, 4]) Tryz.func42 rfl (by decide) Tryz.ntmps42 (Nat.le_of_ble_eq_true rfl) fun base => ?_
    refine W.rs (cx_ok _) (by rfl) fun K hK => ?_
    conv => whnf
    refine ⟨rfl, ?_⟩
    conv => whnf
    intro b_1 hs_1 hh_1 hf_1
    try dsimp only at hh_1 hf_1
    conv => whnf
    refine hK _ ?_
    clear hK K
    refine W.rs (cx_ok _) (by rfl) fun K hK => ?_
    conv => whnf
    refine callV rfl ((isModS_fn g' p x hx).fa (bP_false hm)) fun hs' hhs => ?_
    try dsimp only at hhs
    conv => whnf
    refine hK _ ?_
    clear hK K
    refine W.ret ?_
    conv => whnf
    exact ⟨.v (.bool (bP (Has p l x))), bP_false fun h => hm h.1, trivial, rfl⟩

theorem elsC_fn (p : Int) (g g' gb : Option Nat) (l x : List Int) : FnV 38 [.ints g' x, .box gb (vK p g l)] (.bool (!(bP (Has p l x)))) := by
  refine fn_of (cx_ok [0, 1, 3]) Tryz.func38 rfl (by decide) Tryz.ntmps38 (Nat.le_of_ble_eq_true rfl) fun base => ?_
  refine W.rs (cx_ok _) (by rfl) fun K hK => ?_
  conv => whnf
  refine hK _ ?_
  clear hK K
  refine W.rs (cx_ok _) (by rfl) fun K hK => ?_
  conv => whnf
  refine callV rfl (has_fn p g g' l x) fun hs' hhs => ?_
  try dsimp only at hhs
  conv => whnf
  refine hK _ ?_
  clear hK K
  refine W.ret ?_
  conv => whnf
  exact ⟨.v (.bool (!(bP (Has p l x)))), rfl, trivial, rfl⟩

/-- the code of elements -/
noncomputable def codeEl (p : Int) (l : List Int) (fine : Bool) (n : Nat) (X : Nat → List Int) : Int :=
  bif bP (IsFld p l) then (bif fine && bP (∀ i, i < n → Has p l (X i)) then 0 else 2) else 1

theorem all_has {p : Int} {l : List Int} {n : Nat} {X : Nat → List Int} : bP (∃ i, i < n ∧ (fun i => !(bP (Has p l (X i)))) i = true) = !(bP (∀ i, i < n → Has p l (X i))) := by
  by_cases h : ∀ i, i < n → Has p l (X i)
  · rw [bP_true h]
    refine bP_false ?_
    rintro ⟨i, hi, h2⟩
    have h2 : (!(bP (Has p l (X i)))) = true := h2
    rw [bP_true (h i hi)] at h2; cases h2
  · rw [bP_false h]
    refine bP_true (Classical.byContradiction fun h2 => h fun i hi => Classical.byContradiction fun h3 => h2 ⟨i, hi, ?_⟩)
    show (!(bP (Has p l (X i)))) = true
    rw [bP_false h3]; rfl

theorem elements_tr (p : Int) (g gs : Option Nat) (l : List Int) (n : Nat) (f : Nat → V) (X : Nat → List Int) (hn : n ≤ 100000000) (hl : l.length ≤ 1000000000) (hf : ∀ i, i < n → ∃ g', f i = .ints g' (X i)) :
    FnV 23 [vK p g l, .tr, .vals gs 1 n f] (.int .i64 (codeEl p l true n X)) := by
  by_cases hk : IsFld p l
  case neg =>
    refine fn_of (cx_ok [0, 1, 2, 3, 6, 7, 11]) Tryz.func23 rfl (by decide) Tryz.ntmps23 (Nat.le_of_ble_eq_true rfl) fun base => ?_
    refine W.rs (cx_ok _) (by rfl) fun K hK => ?_
    conv => whnf
    refine ⟨rfl, ?_⟩
    conv => whnf
    intro b_1 hs_1 hh_1 hf_1
    try dsimp only at hh_1 hf_1
    conv => whnf
    refine hK _ ?_
    clear hK K
    refine W.seqK fun K1 hK1 => W.block ?_
    refine W.rs (cx_ok _) (by rfl) fun K hK => ?_
    conv => whnf
    refine callV rfl ((isField_fn p g l hl).fa (bP_false hk)) fun hs' hhs => ?_
    try dsimp only at hhs
    conv => whnf
    refine hK _ (W.condT rfl ?_)
    clear hK K
    refine W.rs (cx_ok _) (by rfl) fun K hK => ?_
    conv => whnf
    refine hK _ ?_
    clear hK K
    refine W.ret ?_
    conv => whnf
    exact ⟨.v (.int .i64 (codeEl p l true n X)), ⟨rfl, by unfold codeEl; rw [bP_false hk]; rfl⟩, trivial, rfl⟩
  refine fn_of (cx_ok [0, 1, 2, 3, 6, 7, 11]) Tryz.func23 rfl (by decide) Tryz.ntmps23 (Nat.le_of_ble_eq_true rfl) fun base => ?_
  refine W.rs (cx_ok _) (by rfl) fun K hK => ?_
  conv => whnf
  refine ⟨rfl, ?_⟩
  conv => whnf
  intro b_1 hs_1 hh_1 hf_1
  try dsimp only at hh_1 hf_1
  conv => whnf
  refine hK _ ?_
  clear hK K
  refine W.seqK fun K1 hK1 => W.block ?_
  refine W.rs (cx_ok _) (by rfl) fun K hK => ?_
  conv => whnf
  refine callV rfl ((isField_fn p g l hl).tr (bP_true hk)) fun hs' hhs => ?_
  try dsimp only at hhs
  conv => whnf
  refine hK _ (W.condF rfl ?_)
  clear hK K
  refine W.rs (cx_ok _) (by rfl) fun K hK => ?_
  conv => whnf
  refine callV rfl (containsFuncs_fn gs n f 38 [.box none (vK p g l)] (fun i => !(bP (Has p l (X i)))) hn (fun i hi => by obtain ⟨g', h⟩ := hf i hi; exact ⟨_, _, h⟩) (fun i hi => by obtain ⟨g', h⟩ := hf i hi; rw [h]; exact elsC_fn p g g' none l (X i))) fun hs' hhs => ?_
  try dsimp only at hhs
  conv => whnf
  rw [all_has]
  refine hK _ (W.cond ⟨fun h => ?_, fun h => ?_⟩) <;> clear hK K
  · refine W.rs (cx_ok _) (by rfl) fun K hK => ?_
    conv => whnf
    refine hK _ ?_
    clear hK K
    refine W.ret ?_
    conv => whnf
    exact ⟨.v (.int .i64 (codeEl p l true n X)), ⟨rfl, by unfold codeEl; rw [bP_true hk]; simp only [cond_true, Bool.true_and]; rw [show bP (∀ i, i < n → Has p l (X i)) = false by simpa using h]; rfl⟩, trivial, rfl⟩
  refine W.skip (hK1 _ ?_)
  clear hK1 K1
  refine W.rs (cx_ok _) (by rfl) fun K hK => ?_
  conv => whnf
  refine hK _ ?_
  clear hK K
  refine W.ret ?_
  conv => whnf
  exact ⟨.v (.int .i64 (codeEl p l true n X)), ⟨rfl, by unfold codeEl; rw [bP_true hk]; simp only [cond_true, Bool.true_and]; rw [show bP (∀ i, i < n → Has p l (X i)) = true by simpa using h]; rfl⟩, trivial, rfl⟩

theorem elements_bool (p : Int) (g gs : Option Nat) (l : List Int) (b : Bool) (n : Nat) (f : Nat → V) (X : Nat → List Int) (hn : n ≤ 100000000) (hl : l.length ≤ 1000000000) (hf : ∀ i, i < n → ∃ g', f i = .ints g' (X i)) :
    FnV 23 [vK p g l, .bool b, .vals gs 1 n f] (.int .i64 (codeEl p l b n X)) := by
  by_cases hk : IsFld p l
  case neg =>
    refine fn_of (cx_ok [0, 1, 2, 3, 6, 7, 11]) Tryz.func23 rfl (by decide) Tryz.ntmps23 (Nat.le_of_ble_eq_true rfl) fun base => ?_
    refine W.rs (cx_ok _) (by rfl) fun K hK => ?_
    conv => whnf
    refine ⟨rfl, ?_⟩
    conv => whnf
    intro b_1 hs_1 hh_1 hf_1
    try dsimp only at hh_1 hf_1
    conv => whnf
    refine hK _ ?_
    clear hK K
    refine W.seqK fun K1 hK1 => W.block ?_
    refine W.rs (cx_ok _) (by rfl) fun K hK => ?_
    conv => whnf
    refine callV rfl ((isField_fn p g l hl).fa (bP_false hk)) fun hs' hhs => ?_
    try dsimp only at hhs
    conv => whnf
    refine hK _ (W.condT rfl ?_)
    clear hK K
    refine W.rs (cx_ok _) (by rfl) fun K hK => ?_
    conv => whnf
    refine hK _ ?_
    clear hK K
    refine W.ret ?_
    conv => whnf
    exact ⟨.v (.int .i64 (codeEl p l b n X)), ⟨rfl, by unfold codeEl; rw [bP_false hk]; rfl⟩, trivial, rfl⟩
  refine fn_of (cx_ok [0, 1, 2, 3, 6, 7, 11]) Tryz.func23 rfl (by decide) Tryz.ntmps23 (Nat.le_of_ble_eq_true rfl) fun base => ?_
  refine W.rs (cx_ok _) (by rfl) fun K hK => ?_
  conv => whnf
  refine ⟨rfl, ?_⟩
  conv => whnf
  intro b_1 hs_1 hh_1 hf_1
  try dsimp only at hh_1 hf_1
  conv => whnf
  refine hK _ ?_
  clear hK K
  refine W.seqK fun K1 hK1 => W.block ?_
  refine W.rs (cx_ok _) (by rfl) fun K hK => ?_
  conv => whnf
  refine callV rfl ((isField_fn p g l hl).tr (bP_true hk)) fun hs' hhs => ?_
  try dsimp only at hhs
  conv => whnf
  refine hK _ (W.condF rfl ?_)
  clear hK K
  refine W.rs (cx_ok _) (by rfl) fun K hK => ?_
  conv => whnf
  refine ⟨fun hb => ?_, fun hb => ?_⟩ <;> conv => whnf
  · refine hK _ (W.condT rfl ?_)
    clear hK K
    refine W.rs (cx_ok _) (by rfl) fun K hK => ?_
    conv => whnf
    refine hK _ ?_
    clear hK K
    refine W.ret ?_
    conv => whnf
    exact ⟨.v (.int .i64 (codeEl p l b n X)), ⟨rfl, by unfold codeEl; rw [bP_true hk, show b = false by simpa using hb]; rfl⟩, trivial, rfl⟩
  refine callV rfl (containsFuncs_fn gs n f 38 [.box none (vK p g l)] (fun i => !(bP (Has p l (X i)))) hn (fun i hi => by obtain ⟨g', h⟩ := hf i hi; exact ⟨_, _, h⟩) (fun i hi => by obtain ⟨g', h⟩ := hf i hi; rw [h]; exact elsC_fn p g g' none l (X i))) fun hs' hhs => ?_
  try dsimp only at hhs
  conv => whnf
  rw [all_has]
  have hb : b = true := by simpa using hb
  refine hK _ (W.cond ⟨fun h => ?_, fun h => ?_⟩) <;> clear hK K
  · refine W.rs (cx_ok _) (by rfl) fun K hK => ?_
    conv => whnf
    refine hK _ ?_
    clear hK K
    refine W.ret ?_
    conv => whnf
    exact ⟨.v (.int .i64 (codeEl p l b n X)), ⟨rfl, by unfold codeEl; rw [bP_true hk, hb]; simp only [cond_true, Bool.true_and]; rw [show bP (∀ i, i < n → Has p l (X i)) = false by simpa using h]; rfl⟩, trivial, rfl⟩
  refine W.skip (hK1 _ ?_)
  clear hK1 K1
  refine W.rs (cx_ok _) (by rfl) fun K hK => ?_
  conv => whnf
  refine hK _ ?_
  clear hK K
  refine W.ret ?_
  conv => whnf
  exact ⟨.v (.int .i64 (codeEl p l b n X)), ⟨rfl, by unfold codeEl; rw [bP_true hk, hb]; simp only [cond_true, Bool.true_and]; rw [show bP (∀ i, i < n → Has p l (X i)) = true by simpa using h]; rfl⟩, trivial, rfl⟩

/-- two elements, or one twice -/
def two (x y : List Int) (i : Nat) : List Int := if i = 0 then x else y

/-- the reference's code -/
theorem l17Code_fn (p : Int) (g g1 g2 : Option Nat) (l x y : List Int) (hl : l.length ≤ 1000000000) (hx : x.length ≤ 1000000000) (hy : y.length ≤ 1000000000) :
    FnV 25 [vK p g l, .ints g1 x, .ints g2 y] (.int .i64 (codeEl p l true 2 (two x y))) := by
  by_cases hk : IsFld p l
  case neg =>
    refine fn_of (cx_ok [0, 1, 2, 3, 6, 9, 19]) Tryz.func25 rfl (by decide) Tryz.ntmps25 (Nat.le_of_ble_eq_true rfl) fun base => ?_
    refine W.rs (cx_ok _) (by rfl) fun K hK => ?_
    conv => whnf
    refine ⟨rfl, ?_⟩
    conv => whnf
    intro b_1 hs_1 hh_1 hf_1
    try dsimp only at hh_1 hf_1
    conv => whnf
    refine hK _ ?_
    clear hK K
    refine W.seqK fun K1 hK1 => ?_
    refine W.rs (cx_ok _) (by rfl) fun K hK => ?_
    conv => whnf
    refine callV rfl ((isFieldS_fn p g l hl).fa (bP_false hk)) fun hs' hhs => ?_
    try dsimp only at hhs
    conv => whnf
    refine hK _ (W.condT rfl ?_)
    clear hK K
    refine W.rs (cx_ok _) (by rfl) fun K hK => ?_
    conv => whnf
    refine hK _ ?_
    clear hK K
    refine W.ret ?_
    conv => whnf
    exact ⟨.v (.int .i64 (codeEl p l true 2 (two x y))), ⟨rfl, by unfold codeEl; rw [bP_false hk]; rfl⟩, trivial, rfl⟩
  by_cases h1 : Has p l x
  case neg =>
    refine fn_of (cx_ok [0, 1, 2, 3, 6, 9, 19]) Tryz.func25 rfl (by decide) Tryz.ntmps25 (Nat.le_of_ble_eq_true rfl) fun base => ?_
    refine W.rs (cx_ok _) (by rfl) fun K hK => ?_
    conv => whnf
    refine ⟨rfl, ?_⟩
    conv => whnf
    intro b_1 hs_1 hh_1 hf_1
    try dsimp only at hh_1 hf_1
    conv => whnf
    refine hK _ ?_
    clear hK K
    refine W.seqK fun K1 hK1 => ?_
    refine W.rs (cx_ok _) (by rfl) fun K hK => ?_
    conv => whnf
    refine callV rfl ((isFieldS_fn p g l hl).tr (bP_true hk)) fun hs' hhs => ?_
    try dsimp only at hhs
    conv => whnf
    refine hK _ (W.condF rfl (W.skip (hK1 _ ?_)))
    clear hK K hK1 K1
    refine W.seqK fun K1 hK1 => ?_
    refine W.rs (cx_ok _) (by rfl) fun K hK => ?_
    conv => whnf
    refine callV rfl ((l17Is_fn p g g1 l x hx).fa (bP_false h1)) fun hs' hhs => ?_
    try dsimp only at hhs
    conv => whnf
    refine hK _ (W.condT rfl ?_)
    clear hK K
    refine W.rs (cx_ok _) (by rfl) fun K hK => ?_
    conv => whnf
    refine hK _ ?_
    clear hK K
    refine W.ret ?_
    conv => whnf
    exact ⟨.v (.int .i64 (codeEl p l true 2 (two x y))), ⟨rfl, by unfold codeEl; rw [bP_true hk, bP_false fun h => h1 (h 0 (by omega))]; rfl⟩, trivial, rfl⟩
  by_cases h2 : Has p l y
  case neg =>
    refine fn_of (cx_ok [0, 1, 2, 3, 6, 9, 19]) Tryz.func25 rfl (by decide) Tryz.ntmps25 (Nat.le_of_ble_eq_true rfl) fun base => ?_
    refine W.rs (cx_ok _) (by rfl) fun K hK => ?_
    conv => whnf
    refine ⟨rfl, ?_⟩
    conv => whnf
    intro b_1 hs_1 hh_1 hf_1
    try dsimp only at hh_1 hf_1
    conv => whnf
    refine hK _ ?_
    clear hK K
    refine W.seqK fun K1 hK1 => ?_
    refine W.rs (cx_ok _) (by rfl) fun K hK => ?_
    conv => whnf
    refine callV rfl ((isFieldS_fn p g l hl).tr (bP_true hk)) fun hs' hhs => ?_
    try dsimp only at hhs
    conv => whnf
    refine hK _ (W.condF rfl (W.skip (hK1 _ ?_)))
    clear hK K hK1 K1
    refine W.seqK fun K1 hK1 => ?_
    refine W.rs (cx_ok _) (by rfl) fun K hK => ?_
    conv => whnf
    refine callV rfl ((l17Is_fn p g g1 l x hx).tr (bP_true h1)) fun hs' hhs => ?_
    try dsimp only at hhs
    conv => whnf
    refine callV rfl ((l17Is_fn p g g2 l y hy).fa (bP_false h2)) fun hs' hhs => ?_
    try dsimp only at hhs
    conv => whnf
    refine hK _ (W.condT rfl ?_)
    clear hK K
    refine W.rs (cx_ok _) (by rfl) fun K hK => ?_
    conv => whnf
    refine hK _ ?_
    clear hK K
    refine W.ret ?_
    conv => whnf
    exact ⟨.v (.int .i64 (codeEl p l true 2 (two x y))), ⟨rfl, by unfold codeEl; rw [bP_true hk, bP_false fun h => h2 (h 1 (by omega))]; rfl⟩, trivial, rfl⟩
  refine fn_of (cx_ok [0, 1, 2, 3, 6, 9, 19]) Tryz.func25 rfl (by decide) Tryz.ntmps25 (Nat.le_of_ble_eq_true rfl) fun base => ?_
  refine W.rs (cx_ok _) (by rfl) fun K hK => ?_
  conv => whnf
  refine ⟨rfl, ?_⟩
  conv => whnf
  intro b_1 hs_1 hh_1 hf_1
  try dsimp only at hh_1 hf_1
  conv => whnf
  refine hK _ ?_
  clear hK K
  refine W.seqK fun K1 hK1 => ?_
  refine W.rs (cx_ok _) (by rfl) fun K hK => ?_
  conv => whnf
  refine callV rfl ((isFieldS_fn p g l hl).tr (bP_true hk)) fun hs' hhs => ?_
  try dsimp only at hhs
  conv => whnf
  refine hK _ (W.condF rfl (W.skip (hK1 _ ?_)))
  clear hK K hK1 K1
  refine W.seqK fun K1 hK1 => ?_
  refine W.rs (cx_ok _) (by rfl) fun K hK => ?_
  conv => whnf
  refine callV rfl ((l17Is_fn p g g1 l x hx).tr (bP_true h1)) fun hs' hhs => ?_
  try dsimp only at hhs
  conv => whnf
  refine callV rfl ((l17Is_fn p g g2 l y hy).tr (bP_true h2)) fun hs' hhs => ?_
  try dsimp only at hhs
  conv => whnf
  refine hK _ (W.condF rfl (W.skip (hK1 _ ?_)))
  clear hK K hK1 K1
  refine W.rs (cx_ok _) (by rfl) fun K hK => ?_
  conv => whnf
  refine hK _ ?_
  clear hK K
  refine W.ret ?_
  conv => whnf
  exact ⟨.v (.int .i64 (codeEl p l true 2 (two x y))), ⟨rfl, by unfold codeEl; rw [bP_true hk, bP_true (fun i hi => by match i, hi with | 0, _ => exact h1 | 1, _ => exact h2)]; rfl⟩, trivial, rfl⟩

theorem codeEl_ok {p : Int} {l : List Int} {b : Bool} {n : Nat} {X : Nat → List Int} (h : codeEl p l b n X = 0) : IsFld p l ∧ b = true ∧ ∀ i, i < n → Has p l (X i) := by
  unfold codeEl at h
  by_cases hk : IsFld p l
  · rw [bP_true hk] at h
    by_cases h2 : ∀ i, i < n → Has p l (X i)
    · rw [bP_true h2] at h
      cases b
      · cases h
      · exact ⟨hk, rfl, h2⟩
    · rw [bP_false h2] at h
      cases b <;> cases h
  · rw [bP_false hk] at h; cases h

/-- one code for the other -/
theorem codeEl_congr {p : Int} {l : List Int} {b : Bool} {n m : Nat} {X Y : Nat → List Int} (h : (∀ i, i < n → Has p l (X i)) ↔ (∀ i, i < m → Has p l (Y i))) : codeEl p l b n X = codeEl p l b m Y := by
  unfold codeEl; rw [bP_congr h]

theorem l17Size_fn (p : Int) (g : Option Nat) (l : List Int) (hk : IsFld p l) : FnV 22 [vK p g l] (.int .i64 (p ^ (l.length - 1))) := by
  have h2 := isP_le hk.mod.1
  have h9 := hk.mod.2.1
  have hl2 := hk.two
  have e1 : ((l.length : Int) - 1) = ((l.length - 1 : Nat) : Int) := by omega
  have e2 : ordS p (l.length - 1) = p ^ (l.length - 1) := by unfold ordS; rw [if_pos hk.ord]
  refine fn_of (cx_ok [0, 1, 2]) Tryz.func22 rfl (by decide) Tryz.ntmps22 (Nat.le_of_ble_eq_true rfl) fun base => ?_
  refine W.rs (cx_ok _) (by rfl) fun K hK => ?_
  conv => whnf
  refine ⟨rfl, ?_⟩
  conv => whnf
  intro b_1 hs_1 hh_1 hf_1
  try dsimp only at hh_1 hf_1
  conv => whnf
  refine hK _ ?_
  clear hK K
  refine W.rs (cx_ok _) (by rfl) fun K hK => ?_
  conv => whnf
  refine ⟨by constructor <;> omega, ?_⟩
  conv => whnf
  rw [e1]
  refine callV rfl (l17Order_fn p (l.length - 1) (by omega) (by omega) (by omega)) fun hs' hhs => ?_
  try dsimp only at hhs
  conv => whnf
  rw [e2]
  refine hK _ ?_
  clear hK K
  refine W.ret ?_
  conv => whnf
  exact ⟨.v (.int .i64 (p ^ (l.length - 1))), ⟨rfl, rfl⟩, trivial, rfl⟩

/-- what a field is -/
theorem fld_poly {p : Int} {l : List Int} (hk : IsFld p l) : ∃ hp : p ∈ primes, letI := sp_of hp; ∃ f : Poly p, f.l = l ∧ Irr f ∧ Mon f ∧ 2 ≤ dg f ∧ dg f ≤ 9 := by
  obtain ⟨hp, f, hf, hi⟩ := hk.irr
  refine ⟨hp, ?_⟩
  letI := sp_of hp
  subst hf
  have h1 : f.l.length = dg f := rfl
  have h2 := hk.two
  have h3 := hk.mod.2.1
  exact ⟨f, rfl, hi, ⟨hi.ne, hk.mon.2⟩, by omega, by omega⟩
theorem mod_poly {p : Int} [SP p] {x : List Int} (h : IsMod p x) : ∃ X : Poly p, X.l = x := by
  obtain ⟨hp, f, hf⟩ := poly_of h
  exact ⟨f, hf⟩

end Go.Proofs.YteklanjooalkdaaGreat

namespace Go.Proofs.YteklanjooalkdaaGreat
open Go Go.RowKit Go.Proofs Poly
set_option maxRecDepth 100000
set_option maxHeartbeats 8000000

/-- a list and a code, new -/
def RT (l : List Int) (c : Int) : PostT := fun _ _ x tb => ∃ b : Nat, x = .tup [.rf b l.length, .int .i64 c] ∧ (l ≠ [] → tb b = some l)
/-- a list and a code, to be read -/
abbrev RV (l : List Int) (c : Int) : V := .tup [.ints none l, .int .i64 c]
theorem sum_l {p : Int} [SP p] (X Y : Poly p) : nrm p (trimZ (addL X.l Y.l)) = (X + Y).l := nrm_trim _ _

theorem smul_one (l : List Int) : smulL 1 l = l := list_ext (by simp [smulL]) fun j _ => by rw [cf_smulL]; omega
theorem els2 (g1 g2 : Option Nat) (x y : List Int) : ∀ i, i < 2 → ∃ g', nth [.ints g1 x, .ints g2 y] i = .ints g' (two x y i) := fun i hi => match i, hi with
  | 0, _ => ⟨g1, rfl⟩
  | 1, _ => ⟨g2, rfl⟩
theorem l_bd2 {p : Int} [SP p] (X : Poly p) : Bd 2305843009213693951 X.l := (l_bd X).le (by omega)

theorem OrderOfField_both (kp : Int) (kl : List Int) (_ : inR kp) (h : kl.length ≤ 1048576) : ∃ r0 r1 : Int, (∀ g0 : Option Nat, FnV 7 [vK kp g0 kl] (.tup [.int .i64 r0, .int .i64 r1])) ∧ (∀ g0 : Option Nat, FnV 9 [vK kp g0 kl] (.tup [.int .i64 r0, .int .i64 r1])) := by
  by_cases hk : IsFld kp kl
  · have h2 := isP_le hk.mod.1
    have h9 := hk.mod.2.1
    have hl2 := hk.two
    refine ⟨kp ^ (kl.length - 1), 0, fun g => ?_, fun g => ?_⟩
    · refine fn_of (cx_ok [0, 1, 2, 3, 6]) Tryz.func7 rfl (by decide) Tryz.ntmps7 (Nat.le_of_ble_eq_true rfl) fun base => ?_
      refine W.rs (cx_ok _) (by rfl) fun K hK => ?_
      conv => whnf
      refine ⟨rfl, ?_⟩
      conv => whnf
      intro b_1 hs_1 hh_1 hf_1
      try dsimp only at hh_1 hf_1
      conv => whnf
      refine hK _ ?_
      clear hK K
      refine W.seqK fun K1 hK1 => ?_
      refine W.rs (cx_ok _) (by rfl) fun K hK => ?_
      conv => whnf
      refine callV rfl ((isFieldS_fn kp g kl (by omega)).tr (bP_true hk)) fun hs' hhs => ?_
      try dsimp only at hhs
      conv => whnf
      refine hK _ (W.condF rfl (W.skip (hK1 _ ?_)))
      clear hK K hK1 K1
      refine W.rs (cx_ok _) (by rfl) fun K hK => ?_
      conv => whnf
      refine callV rfl (l17Size_fn kp g kl hk) fun hs' hhs => ?_
      try dsimp only at hhs
      conv => whnf
      refine hK _ ?_
      clear hK K
      refine W.ret ?_
      conv => whnf
      exact ⟨.v (.int .i64 (kp ^ (kl.length - 1))), ⟨rfl, rfl⟩, trivial, .v (.int .i64 0), ⟨rfl, rfl⟩, trivial, rfl⟩
    · have hc : codeEl kp kl true 0 (fun _ => []) = 0 := by unfold codeEl; rw [bP_true hk, bP_true (fun i hi => by omega)]; rfl
      refine fn_of (cx_ok [0, 1, 2, 3, 4, 8]) Tryz.func9 rfl (by decide) Tryz.ntmps9 (Nat.le_of_ble_eq_true rfl) fun base => ?_
      refine W.rs (cx_ok _) (by rfl) fun K hK => ?_
      conv => whnf
      refine ⟨rfl, ?_⟩
      conv => whnf
      intro b_1 hs_1 hh_1 hf_1
      try dsimp only at hh_1 hf_1
      conv => whnf
      refine hK _ ?_
      clear hK K
      refine W.seqK fun K1 hK1 => ?_
      refine W.rs (cx_ok _) (by rfl) fun K hK => ?_
      conv => whnf
      refine callV rfl (elements_tr kp g none kl 0 _ (fun _ => []) (by omega) (by omega) (fun i hi => by omega)) fun hs' hhs => ?_
      try dsimp only at hhs
      conv => whnf
      rw [hc]
      refine hK _ ?_
      clear hK K
      refine W.rs (cx_ok _) (by rfl) fun K hK => ?_
      conv => whnf
      refine hK _ (W.cond ⟨fun hcc => absurd rfl (of_decide_eq_true hcc), fun _ => W.skip (hK1 _ ?_)⟩)
      clear hK K hK1 K1
      refine W.rs (cx_ok _) (by rfl) fun K hK => ?_
      conv => whnf
      refine callV rfl (order_fn kp g kl (by omega) (by omega) (by omega) (by omega)) fun hs' hhs => ?_
      try dsimp only at hhs
      conv => whnf
      refine hK _ ?_
      clear hK K
      refine W.ret ?_
      conv => whnf
      exact ⟨.v (.int .i64 (kp ^ (kl.length - 1))), ⟨rfl, rfl⟩, trivial, .v (.int .i64 0), ⟨rfl, rfl⟩, trivial, rfl⟩
  · refine ⟨0, 1, fun g => ?_, fun g => ?_⟩
    · refine fn_of (cx_ok [0, 1, 2, 3, 6]) Tryz.func7 rfl (by decide) Tryz.ntmps7 (Nat.le_of_ble_eq_true rfl) fun base => ?_
      refine W.rs (cx_ok _) (by rfl) fun K hK => ?_
      conv => whnf
      refine ⟨rfl, ?_⟩
      conv => whnf
      intro b_1 hs_1 hh_1 hf_1
      try dsimp only at hh_1 hf_1
      conv => whnf
      refine hK _ ?_
      clear hK K
      refine W.seqK fun K1 hK1 => ?_
      refine W.rs (cx_ok _) (by rfl) fun K hK => ?_
      conv => whnf
      refine callV rfl ((isFieldS_fn kp g kl (by omega)).fa (bP_false hk)) fun hs' hhs => ?_
      try dsimp only at hhs
      conv => whnf
      refine hK _ (W.condT rfl ?_)
      clear hK K
      refine W.rs (cx_ok _) (by rfl) fun K hK => ?_
      conv => whnf
      refine hK _ ?_
      clear hK K
      refine W.ret ?_
      conv => whnf
      exact ⟨.v (.int .i64 0), ⟨rfl, rfl⟩, trivial, .v (.int .i64 1), ⟨rfl, rfl⟩, trivial, rfl⟩
    · have hc : codeEl kp kl true 0 (fun _ => []) = 1 := by unfold codeEl; rw [bP_false hk]; rfl
      refine fn_of (cx_ok [0, 1, 2, 3, 4, 8]) Tryz.func9 rfl (by decide) Tryz.ntmps9 (Nat.le_of_ble_eq_true rfl) fun base => ?_
      refine W.rs (cx_ok _) (by rfl) fun K hK => ?_
      conv => whnf
      refine ⟨rfl, ?_⟩
      conv => whnf
      intro b_1 hs_1 hh_1 hf_1
      try dsimp only at hh_1 hf_1
      conv => whnf
      refine hK _ ?_
      clear hK K
      refine W.seqK fun K1 hK1 => ?_
      refine W.rs (cx_ok _) (by rfl) fun K hK => ?_
      conv => whnf
      refine callV rfl (elements_tr kp g none kl 0 _ (fun _ => []) (by omega) (by omega) (fun i hi => by omega)) fun hs' hhs => ?_
      try dsimp only at hhs
      conv => whnf
      rw [hc]
      refine hK _ ?_
      clear hK K
      refine W.rs (cx_ok _) (by rfl) fun K hK => ?_
      conv => whnf
      refine hK _ (W.cond ⟨fun _ => ?_, fun hcc => absurd (of_decide_eq_false hcc) (by omega)⟩)
      clear hK K
      refine W.rs (cx_ok _) (by rfl) fun K hK => ?_
      conv => whnf
      refine hK _ ?_
      clear hK K
      refine W.ret ?_
      conv => whnf
      exact ⟨.v (.int .i64 0), ⟨rfl, rfl⟩, trivial, .v (.int .i64 1), ⟨rfl, rfl⟩, trivial, rfl⟩

theorem AddElements_both (kp : Int) (kl x y : List Int) (_ : inR kp) (hkl : kl.length ≤ 1048576) (hx : x.length ≤ 1048576) (hy : y.length ≤ 1048576) : ∃ (r0 : List Int) (r1 : Int),
    (∀ g0 g1 g2 : Option Nat, FnV 11 [vK kp g0 kl, .ints g1 x, .ints g2 y] (.tup [.ints none r0, .int .i64 r1])) ∧ (∀ g0 g1 g2 : Option Nat, FnT Tryz.prog 13 [vK kp g0 kl, .ints g1 x, .ints g2 y] (RT r0 r1)) ∧ r0.length ≤ 1000000 := by
  generalize hc : codeEl kp kl true 2 (two x y) = c
  by_cases h0 : c = 0
  · subst h0
    obtain ⟨hk, _, hh⟩ := codeEl_ok hc
    obtain ⟨hp, f, rfl, _, _, _, hf9⟩ := fld_poly hk
    letI := sp_of hp
    obtain ⟨X, rfl⟩ := mod_poly (hh 0 (by omega)).1
    obtain ⟨Y, rfl⟩ := mod_poly (hh 1 (by omega)).1
    have hxl : X.l.length < f.l.length := (hh 0 (by omega)).2
    have hyl : Y.l.length < f.l.length := (hh 1 (by omega)).2
    have hfl : f.l.length = dg f := rfl
    have hXl : X.l.length = dg X := rfl
    have hYl : Y.l.length = dg Y := rfl
    have hp1 := primes_le hp
    have hbd : Bd 4611686018427387904 (trimZ (addL X.l Y.l)) := fun j => by rw [cf_trimZ, cf_addL]; have := cf_bd X j; have := cf_bd Y j; omega
    have htl : (trimZ (addL X.l Y.l)).length ≤ 100 := by have := trimZ_length (addL X.l Y.l); unfold addL at *; rw [mkL_length] at *; omega
    refine ⟨(X + Y).l, 0, fun g0 g1 g2 => ?_, fun g0 g1 g2 => ?_, ?_⟩
    · refine fn_of (cx_ok [0, 1, 2, 3, 6, 7, 8, 14]) Tryz.func11 rfl (by decide) Tryz.ntmps11 (Nat.le_of_ble_eq_true rfl) fun base => ?_
      refine W.rs (cx_ok _) (by rfl) fun K hK => ?_
      conv => whnf
      refine ⟨rfl, ?_⟩
      conv => whnf
      intro b_1 hs_1 hh_1 hf_1
      try dsimp only at hh_1 hf_1
      conv => whnf
      refine hK _ ?_
      clear hK K
      refine W.rs (cx_ok _) (by rfl) fun K hK => ?_
      conv => whnf
      refine callV rfl (l17Code_fn kp g0 g1 g2 f.l X.l Y.l (by omega) (by omega) (by omega)) fun hs' hhs => ?_
      try dsimp only at hhs
      conv => whnf
      rw [hc]
      refine hK _ ?_
      clear hK K
      refine W.seqK fun K1 hK1 => ?_
      refine W.rs (cx_ok _) (by rfl) fun K hK => ?_
      conv => whnf
      refine hK _ (W.cond ⟨fun hcc => absurd rfl (of_decide_eq_true hcc), fun _ => W.skip (hK1 _ ?_)⟩)
      clear hK K hK1 K1
      refine W.rdS 5 (cx_ok _) follows (by rfl) fun K hK => ?_
      conv => whnf
      refine ⟨_, cxF ((l06Add_fn g1 g2 X.l Y.l 1 (by omega) (l_bd2 X) (l_bd2 Y) (by omega) (by omega)).toV), ?_⟩
      conv => whnf
      rw [smul_one]
      refine callV rfl ((l08Reduce_fn kp (by omega) (by omega) none _ hbd (by omega)).toV) fun hs' hhs => ?_
      try dsimp only at hhs
      conv => whnf
      rw [sum_l]
      refine hK _ ?_
      clear hK K
      refine W.ret ?_
      conv => whnf
      exact ⟨.v (.ints none (X + Y).l), ⟨rfl, rfl⟩, trivial, .v (.int .i64 0), ⟨rfl, rfl⟩, trivial, rfl⟩
    · refine fnt_of (cxt_ok [] [0, 1, 2, 3, 6, 7, 8, 15, 1000000]) Tryz.func13 rfl (by decide) Tryz.ntmps13 (Nat.le_of_ble_eq_true rfl) (fun base => ?_) (Nat.le_of_ble_eq_true rfl)
      refine W.sw (c' := cx [0, 1, 2, 3, 6, 7, 8, 15, 1000000]) ?_
      refine W.rs (cx_ok _) (by rfl) fun K hK => ?_
      conv => whnf
      refine ⟨rfl, ?_⟩
      conv => whnf
      intro b_1 hs_1 hh_1 hf_1
      try dsimp only at hh_1 hf_1
      conv => whnf
      refine hK _ ?_
      clear hK K
      refine W.seqK fun K1 hK1 => ?_
      refine W.rs (cx_ok _) (by rfl) fun K hK => ?_
      conv => whnf
      refine ⟨⟨rfl, by decide, fun x hx => (by simp at hx; rcases hx with rfl | rfl <;> exact ⟨rfl, rfl⟩)⟩, ?_⟩
      conv => whnf
      intro b_2 hs_2 hh_2 hf_2
      try dsimp only at hh_2 hf_2
      conv => whnf
      refine callV rfl (elements_tr kp g0 (some b_2) f.l 2 _ (two X.l Y.l) (by omega) (by omega) (els2 g1 g2 X.l Y.l)) fun hs' hhs => ?_
      try dsimp only at hhs
      conv => whnf
      rw [hc]
      refine hK _ ?_
      clear hK K
      refine W.rs (cx_ok _) (by rfl) fun K hK => ?_
      conv => whnf
      refine hK _ (W.cond ⟨fun hcc => absurd rfl (of_decide_eq_true hcc), fun _ => W.skip (hK1 _ ?_)⟩)
      clear hK K hK1 K1
      refine W.sw (c' := cxt [] [0, 1, 2, 3, 6, 7, 8, 15, 1000000]) ?_
      refine W.rdS 5 (cxt_ok _ _) follows (by rfl) fun K hK => ?_
      conv => whnf
      refine ⟨_, cxtF ((sumOf_fn g1 g2 X.l Y.l (l_bd2 X) (l_bd2 Y) (by omega) (by omega)).toV), ?_⟩
      conv => whnf
      refine callI rfl (reduce_fn kp (by omega) (by omega) none _ hbd (by omega)) fun hs_3 b_3 hh_3 hf_3 => ?_
      try dsimp only at hh_3 hf_3
      conv => whnf
      rw [sum_l]
      refine hK _ ?_
      clear hK K
      refine W.give 6 fun K hK => ?_
      conv => whnf
      refine hK _ ?_
      clear hK K
      refine W.ret ?_
      conv => whnf
      exact ⟨.v (.rf b_3 _), rfl, trivial, .v (.int .i64 (0)), ⟨rfl, rfl⟩, trivial, b_3, rfl, fun hne => tbAdd_self _ _ hne⟩
    · have : dg (X + Y) ≤ max (dg X) (dg Y) := dg_add X Y
      show dg (X + Y) ≤ _; omega
  · refine ⟨[], c, fun g0 g1 g2 => ?_, fun g0 g1 g2 => ?_, by simp⟩
    · refine fn_of (cx_ok [0, 1, 2, 3, 6, 7, 8, 14]) Tryz.func11 rfl (by decide) Tryz.ntmps11 (Nat.le_of_ble_eq_true rfl) fun base => ?_
      refine W.rs (cx_ok _) (by rfl) fun K hK => ?_
      conv => whnf
      refine ⟨rfl, ?_⟩
      conv => whnf
      intro b_1 hs_1 hh_1 hf_1
      try dsimp only at hh_1 hf_1
      conv => whnf
      refine hK _ ?_
      clear hK K
      refine W.rs (cx_ok _) (by rfl) fun K hK => ?_
      conv => whnf
      refine callV rfl (l17Code_fn kp g0 g1 g2 kl x y (by omega) (by omega) (by omega)) fun hs' hhs => ?_
      try dsimp only at hhs
      conv => whnf
      rw [hc]
      refine hK _ ?_
      clear hK K
      refine W.seqK fun K1 hK1 => ?_
      refine W.rs (cx_ok _) (by rfl) fun K hK => ?_
      conv => whnf
      refine hK _ (W.cond ⟨fun _ => ?_, fun hcc => absurd h0 (of_decide_eq_false hcc)⟩)
      clear hK K
      refine W.rs (cx_ok _) (by rfl) fun K hK => ?_
      conv => whnf
      refine hK _ ?_
      clear hK K
      refine W.ret ?_
      conv => whnf
      exact ⟨.v (.ints none []), rfl, trivial, .v (.int .i64 c), ⟨rfl, rfl⟩, trivial, rfl⟩
    · refine fnt_of (cxt_ok [] [0, 1, 2, 3, 6, 7, 8, 15, 1000000]) Tryz.func13 rfl (by decide) Tryz.ntmps13 (Nat.le_of_ble_eq_true rfl) (fun base => ?_) (Nat.le_of_ble_eq_true rfl)
      refine W.sw (c' := cx [0, 1, 2, 3, 6, 7, 8, 15, 1000000]) ?_
      refine W.rs (cx_ok _) (by rfl) fun K hK => ?_
      conv => whnf
      refine ⟨rfl, ?_⟩
      conv => whnf
      intro b_1 hs_1 hh_1 hf_1
      try dsimp only at hh_1 hf_1
      conv => whnf
      refine hK _ ?_
      clear hK K
      refine W.seqK fun K1 hK1 => ?_
      refine W.rs (cx_ok _) (by rfl) fun K hK => ?_
      conv => whnf
      refine ⟨⟨rfl, by decide, fun x hx => (by simp at hx; rcases hx with rfl | rfl <;> exact ⟨rfl, rfl⟩)⟩, ?_⟩
      conv => whnf
      intro b_2 hs_2 hh_2 hf_2
      try dsimp only at hh_2 hf_2
      conv => whnf
      refine callV rfl (elements_tr kp g0 (some b_2) kl 2 _ (two x y) (by omega) (by omega) (els2 g1 g2 x y)) fun hs' hhs => ?_
      try dsimp only at hhs
      conv => whnf
      rw [hc]
      refine hK _ ?_
      clear hK K
      refine W.rs (cx_ok _) (by rfl) fun K hK => ?_
      conv => whnf
      refine hK _ (W.cond ⟨fun _ => ?_, fun hcc => absurd h0 (of_decide_eq_false hcc)⟩)
      clear hK K
      refine W.rs (cx_ok _) (by rfl) fun K hK => ?_
      conv => whnf
      refine hK _ ?_
      clear hK K
      refine W.ret ?_
      conv => whnf
      exact ⟨.v (.rf 0 0), rfl, trivial, .v (.int .i64 (c)), ⟨rfl, rfl⟩, trivial, 0, rfl, fun hne => absurd rfl hne⟩

theorem MultiplyElements_both (kp : Int) (kl x y : List Int) (_ : inR kp) (hkl : kl.length ≤ 1048576) (hx : x.length ≤ 1048576) (hy : y.length ≤ 1048576) : ∃ (r0 : List Int) (r1 : Int),
    (∀ g0 g1 g2 : Option Nat, FnV 18 [vK kp g0 kl, .ints g1 x, .ints g2 y] (.tup [.ints none r0, .int .i64 r1])) ∧ (∀ g0 g1 g2 : Option Nat, FnT Tryz.prog 19 [vK kp g0 kl, .ints g1 x, .ints g2 y] (RT r0 r1)) ∧ r0.length ≤ 1000000 := by
  generalize hc : codeEl kp kl true 2 (two x y) = c
  by_cases h0 : c = 0
  · subst h0
    obtain ⟨hk, _, hh⟩ := codeEl_ok hc
    obtain ⟨hp, f, rfl, hfi, _, _, hf9⟩ := fld_poly hk
    letI := sp_of hp
    obtain ⟨X, rfl⟩ := mod_poly (hh 0 (by omega)).1
    obtain ⟨Y, rfl⟩ := mod_poly (hh 1 (by omega)).1
    have hxl : X.l.length < f.l.length := (hh 0 (by omega)).2
    have hyl : Y.l.length < f.l.length := (hh 1 (by omega)).2
    have hfl : f.l.length = dg f := rfl
    have hXl : X.l.length = dg X := rfl
    have hYl : Y.l.length = dg Y := rfl
    have hf0 := hfi.ne
    refine ⟨(rem (X * Y) f).l, 0, fun g0 g1 g2 => ?_, fun g0 g1 g2 => ?_, ?_⟩
    · refine fn_of (cx_ok [0, 1, 2, 3, 6, 7, 8, 14]) Tryz.func18 rfl (by decide) Tryz.ntmps18 (Nat.le_of_ble_eq_true rfl) fun base => ?_
      refine W.rs (cx_ok _) (by rfl) fun K hK => ?_
      conv => whnf
      refine ⟨rfl, ?_⟩
      conv => whnf
      intro b_1 hs_1 hh_1 hf_1
      try dsimp only at hh_1 hf_1
      conv => whnf
      refine hK _ ?_
      clear hK K
      refine W.rs (cx_ok _) (by rfl) fun K hK => ?_
      conv => whnf
      refine callV rfl (l17Code_fn kp g0 g1 g2 f.l X.l Y.l (by omega) (by omega) (by omega)) fun hs' hhs => ?_
      try dsimp only at hhs
      conv => whnf
      rw [hc]
      refine hK _ ?_
      clear hK K
      refine W.seqK fun K1 hK1 => ?_
      refine W.rs (cx_ok _) (by rfl) fun K hK => ?_
      conv => whnf
      refine hK _ (W.cond ⟨fun hcc => absurd rfl (of_decide_eq_true hcc), fun _ => W.skip (hK1 _ ?_)⟩)
      clear hK K hK1 K1
      refine W.rs (cx_ok _) (by rfl) fun K hK => ?_
      conv => whnf
      refine callV rfl (l17Multiply_fn kp g0 g1 g2 f X Y (by omega) (by omega) (by omega) hf0) fun hs' hhs => ?_
      try dsimp only at hhs
      conv => whnf
      refine hK _ ?_
      clear hK K
      refine W.ret ?_
      conv => whnf
      exact ⟨.v (.ints none (rem (X * Y) f).l), ⟨rfl, rfl⟩, trivial, .v (.int .i64 0), ⟨rfl, rfl⟩, trivial, rfl⟩
    · refine fnt_of (cxt_ok [] [0, 1, 2, 3, 6, 7, 8, 15, 1000000]) Tryz.func19 rfl (by decide) Tryz.ntmps19 (Nat.le_of_ble_eq_true rfl) (fun base => ?_) (Nat.le_of_ble_eq_true rfl)
      refine W.sw (c' := cx [0, 1, 2, 3, 6, 7, 8, 15, 1000000]) ?_
      refine W.rs (cx_ok _) (by rfl) fun K hK => ?_
      conv => whnf
      refine ⟨rfl, ?_⟩
      conv => whnf
      intro b_1 hs_1 hh_1 hf_1
      try dsimp only at hh_1 hf_1
      conv => whnf
      refine hK _ ?_
      clear hK K
      refine W.seqK fun K1 hK1 => ?_
      refine W.rs (cx_ok _) (by rfl) fun K hK => ?_
      conv => whnf
      refine ⟨⟨rfl, by decide, fun x hx => (by simp at hx; rcases hx with rfl | rfl <;> exact ⟨rfl, rfl⟩)⟩, ?_⟩
      conv => whnf
      intro b_2 hs_2 hh_2 hf_2
      try dsimp only at hh_2 hf_2
      conv => whnf
      refine callV rfl (elements_tr kp g0 (some b_2) f.l 2 _ (two X.l Y.l) (by omega) (by omega) (els2 g1 g2 X.l Y.l)) fun hs' hhs => ?_
      try dsimp only at hhs
      conv => whnf
      rw [hc]
      refine hK _ ?_
      clear hK K
      refine W.rs (cx_ok _) (by rfl) fun K hK => ?_
      conv => whnf
      refine hK _ (W.cond ⟨fun hcc => absurd rfl (of_decide_eq_true hcc), fun _ => W.skip (hK1 _ ?_)⟩)
      clear hK K hK1 K1
      refine W.sw (c' := cxt [31] [0, 1, 2, 3, 6, 7, 8, 15, 1000000]) ?_
      refine W.rs (cxt_ok _ _) (by rfl) fun K hK => ?_
      conv => whnf
      refine ⟨_, cxT (kTimes_T kp g0 g1 g2 f X Y (by omega) (by omega) (by omega) hf0), fun lo_t hi_t hs_t x_t tn_t tb_t hl1_t hl2_t _ hp_t hf_t hn_t ho_t => ?_⟩
      try dsimp only at hl1_t hl2_t
      obtain ⟨bt, rfl, ht⟩ := hp_t
      conv => whnf
      refine hK _ ?_
      clear hK K
      refine W.ret ?_
      conv => whnf
      exact ⟨.v (.rf bt (rem (X * Y) f).l.length), rfl, trivial, .v (.int .i64 0), ⟨rfl, rfl⟩, trivial, bt, rfl, fun h => hn_t _ _ (ht h)⟩
    · have := rem_lt (X * Y) hf0
      show dg (rem (X * Y) f) ≤ _; omega
  · refine ⟨[], c, fun g0 g1 g2 => ?_, fun g0 g1 g2 => ?_, by simp⟩
    · refine fn_of (cx_ok [0, 1, 2, 3, 6, 7, 8, 14]) Tryz.func18 rfl (by decide) Tryz.ntmps18 (Nat.le_of_ble_eq_true rfl) fun base => ?_
      refine W.rs (cx_ok _) (by rfl) fun K hK => ?_
      conv => whnf
      refine ⟨rfl, ?_⟩
      conv => whnf
      intro b_1 hs_1 hh_1 hf_1
      try dsimp only at hh_1 hf_1
      conv => whnf
      refine hK _ ?_
      clear hK K
      refine W.rs (cx_ok _) (by rfl) fun K hK => ?_
      conv => whnf
      refine callV rfl (l17Code_fn kp g0 g1 g2 kl x y (by omega) (by omega) (by omega)) fun hs' hhs => ?_
      try dsimp only at hhs
      conv => whnf
      rw [hc]
      refine hK _ ?_
      clear hK K
      refine W.seqK fun K1 hK1 => ?_
      refine W.rs (cx_ok _) (by rfl) fun K hK => ?_
      conv => whnf
      refine hK _ (W.cond ⟨fun _ => ?_, fun hcc => absurd h0 (of_decide_eq_false hcc)⟩)
      clear hK K
      refine W.rs (cx_ok _) (by rfl) fun K hK => ?_
      conv => whnf
      refine hK _ ?_
      clear hK K
      refine W.ret ?_
      conv => whnf
      exact ⟨.v (.ints none []), rfl, trivial, .v (.int .i64 c), ⟨rfl, rfl⟩, trivial, rfl⟩
    · refine fnt_of (cxt_ok [] [0, 1, 2, 3, 6, 7, 8, 15, 1000000]) Tryz.func19 rfl (by decide) Tryz.ntmps19 (Nat.le_of_ble_eq_true rfl) (fun base => ?_) (Nat.le_of_ble_eq_true rfl)
      refine W.sw (c' := cx [0, 1, 2, 3, 6, 7, 8, 15, 1000000]) ?_
      refine W.rs (cx_ok _) (by rfl) fun K hK => ?_
      conv => whnf
      refine ⟨rfl, ?_⟩
      conv => whnf
      intro b_1 hs_1 hh_1 hf_1
      try dsimp only at hh_1 hf_1
      conv => whnf
      refine hK _ ?_
      clear hK K
      refine W.seqK fun K1 hK1 => ?_
      refine W.rs (cx_ok _) (by rfl) fun K hK => ?_
      conv => whnf
      refine ⟨⟨rfl, by decide, fun x hx => (by simp at hx; rcases hx with rfl | rfl <;> exact ⟨rfl, rfl⟩)⟩, ?_⟩
      conv => whnf
      intro b_2 hs_2 hh_2 hf_2
      try dsimp only at hh_2 hf_2
      conv => whnf
      refine callV rfl (elements_tr kp g0 (some b_2) kl 2 _ (two x y) (by omega) (by omega) (els2 g1 g2 x y)) fun hs' hhs => ?_
      try dsimp only at hhs
      conv => whnf
      rw [hc]
      refine hK _ ?_
      clear hK K
      refine W.rs (cx_ok _) (by rfl) fun K hK => ?_
      conv => whnf
      refine hK _ (W.cond ⟨fun _ => ?_, fun hcc => absurd h0 (of_decide_eq_false hcc)⟩)
      clear hK K
      refine W.rs (cx_ok _) (by rfl) fun K hK => ?_
      conv => whnf
      refine hK _ ?_
      clear hK K
      refine W.ret ?_
      conv => whnf
      exact ⟨.v (.rf 0 0), rfl, trivial, .v (.int .i64 (c)), ⟨rfl, rfl⟩, trivial, 0, rfl, fun hne => absurd rfl hne⟩

end Go.Proofs.YteklanjooalkdaaGreat

namespace Go.Proofs.YteklanjooalkdaaGreat
open Go Go.RowKit Go.ChangeShapes Go.WideShapes Go.ChangeAt Go.Proofs Go.Proofs.YteklanjooalkdaaGreat

theorem fn_calls {P : Program} {f : Nat} {xs : List V} {r : V} {w : World} {vs : Array Value} (h : Fn P f xs (fun _ _ a => a = .v r)) (hl : vs.size = xs.length)
    (hr : ∀ j, j < xs.length → Rep (okAll w) w.heap (xs.getD j .nil) (vs.getD j undef)) :
    Calls P f vs w fun e w' => ∃ v, e = .returned v ∧ Below w.heap.size w w' ∧ Rep (okR (fun _ => False) w'.heap.size) w'.heap r v := by
  refine (h.2 (fun _ => False) w vs (fun _ h => h.elim) hl hr).mono fun e w' ⟨v, av, hi, h1, h2, h3, h4, h5⟩ => ?_
  subst h3
  obtain ⟨_, h6, _⟩ := h5
  refine ⟨v, h1, h4, ?_⟩
  exact Rep.mono h6 fun g b hb => ⟨⟨hb.1, fun h => h.elim, hb.2.2⟩, rfl⟩

theorem fn_true {P : Program} {f : Nat} {xs : List V} {w : World} {vs : Array Value} (h : Fn P f xs (fun _ _ a => a = .v .tr)) (hl : vs.size = xs.length)
    (hr : ∀ j, j < xs.length → Rep (okAll w) w.heap (xs.getD j .nil) (vs.getD j undef)) :
    Calls P f vs w fun e w' => e = .returned (.bool true) ∧ Below w.heap.size w w' :=
  (fn_calls h hl hr).mono fun e w' ⟨v, h1, h2, h3⟩ => by
    cases h3
    exact ⟨h1, h2⟩

theorem ownP : ownKnob Tryz.prog.godebug = none := by kernel_rfl
theorem laidOutP : laidOutB Tryz.prog = true := by kernel_rfl
theorem cellsInt : Tryz.prog.cellsOf 2 = 1 := by kernel_rfl

theorem cellsInts : Tryz.prog.cellsOf 22 = 1 := by kernel_rfl
theorem readsInt {H : Type} {enc : TypeId × Value → H} {W : World} : Reads enc Tryz.prog W 2 1 TyInt := reads_int Tryz.underlying2
theorem readsInts {H : Type} {enc : TypeId × Value → H} {W : World} : Reads enc Tryz.prog W 22 1 TyInts := reads_ints Tryz.underlying22 Tryz.underlying2 cellsInt
theorem readsField {H : Type} {enc : TypeId × Value → H} {W : World} : Reads enc Tryz.prog W 24 2 (TyCat [TyInt, TyInts]) :=
  reads_struct Tryz.underlying24 (by kernel_rfl) ⟨rfl, 1, cellsInt, readsInt, rfl, 1, cellsInts, readsInts, rfl⟩
end Go.Proofs.YteklanjooalkdaaGreat

namespace Go.Proofs.YteklanjooalkdaaGreat
open Go Go.RowKit Go.Proofs Poly
set_option maxRecDepth 100000
set_option maxHeartbeats 8000000

theorem lawFMultiplyElements (kp : Int) (kl : List Int) (x : List Int) (y : List Int) (hz_kl : kl.length ≤ maxLen) (both : kl.length ≤ 1048576 → x.length ≤ 1048576 → y.length ≤ 1048576 → ∃ (r0 : List Int) (r1 : Int), (∀ g0 g1 g2 : Option Nat, FnV 18 [vK kp g0 kl, .ints g1 x, .ints g2 y] (.tup [.ints none r0, .int .i64 r1])) ∧ (∀ g0 g1 g2 : Option Nat, FnT Tryz.prog 19 [vK kp g0 kl, .ints g1 x, .ints g2 y] (fun _ _ x tb => ∃ rb0 : Nat, x = .tup [.rf rb0 r0.length, .int .i64 r1] ∧ (r0 ≠ [] → tb rb0 = some r0))) ∧ r0.length ≤ 1000000) : FnV 5 [vK kp none kl, .ints none x, .ints none y] .tr := by
  refine fn_of (cxt_ok [19] [0, 1, 2, 3, 6, 7, 8, 9, 10, 11, 12, 13, 14, 15, 16, 17, 18, 19, 22, 25, 30, 62, 67, 72, 77, 99, 107, 110, 129, 134, 137, 1000000]) Tryz.func5 rfl (by decide) Tryz.ntmps5 (Nat.le_of_ble_eq_true rfl) fun base => ?_
  refine W.tab0 rfl ?_
  refine W.rs (cxt_ok _ _) (by rfl) fun K hK => ?_
  conv => whnf
  refine ⟨rfl, ?_⟩
  conv => whnf
  intro b_p0 hs_p0 hh_p0 hf_p0
  try dsimp only at hh_p0 hf_p0
  conv => whnf
  refine hK _ ?_
  clear hK K
  refine W.seqK fun K1 hK1 => ?_
  refine W.rs (cxt_ok _ _) (by rfl) fun K hK => ?_
  conv => whnf
  refine hK _ (W.cond ⟨fun hl_x => ?_, fun hl_x => ?_⟩) <;> clear hK K
  · refine W.rs (cxt_ok _ _) (by rfl) fun K hK => ?_
    conv => whnf
    refine hK _ ?_
    clear hK K
    refine W.ret ?_
    conv => whnf
    exact ⟨.v (.tr), rfl, trivial, rfl⟩
  have hl_x : x.length ≤ 1048576 := by have := of_decide_eq_false hl_x; omega
  refine W.skip (hK1 _ ?_)
  clear hK1 K1
  refine W.seqK fun K1 hK1 => ?_
  refine W.rs (cxt_ok _ _) (by rfl) fun K hK => ?_
  conv => whnf
  refine hK _ (W.cond ⟨fun hl_y => ?_, fun hl_y => ?_⟩) <;> clear hK K
  · refine W.rs (cxt_ok _ _) (by rfl) fun K hK => ?_
    conv => whnf
    refine hK _ ?_
    clear hK K
    refine W.ret ?_
    conv => whnf
    exact ⟨.v (.tr), rfl, trivial, rfl⟩
  have hl_y : y.length ≤ 1048576 := by have := of_decide_eq_false hl_y; omega
  refine W.skip (hK1 _ ?_)
  clear hK1 K1
  refine W.rs (cxt_ok _ _) (by rfl) fun K hK => ?_
  conv => whnf
  refine hK _ ?_
  clear hK K
  refine W.rs (cxt_ok _ _) (by rfl) fun K hK => ?_
  conv => whnf
  refine callV rfl (szField_fn kp kl hz_kl) fun hs' hhs => ?_
  try dsimp only at hhs
  conv => whnf
  refine hK _ ?_
  clear hK K
  refine W.seqK fun K1 hK1 => ?_
  refine W.rs (cxt_ok _ _) (by rfl) fun K hK => ?_
  conv => whnf
  refine hK _ (W.cond ⟨fun hl_kl => ?_, fun hl_kl => ?_⟩) <;> clear hK K
  · refine W.rs (cxt_ok _ _) (by rfl) fun K hK => ?_
    conv => whnf
    refine hK _ ?_
    clear hK K
    refine W.ret ?_
    conv => whnf
    exact ⟨.v (.tr), rfl, trivial, rfl⟩
  have hl_kl : kl.length ≤ 1048576 := sz_ok (of_decide_eq_false hl_kl)
  refine W.skip (hK1 _ ?_)
  clear hK1 K1
  obtain ⟨r0, r1, hS, hI, hr0⟩ := both hl_kl hl_x hl_y
  refine W.rs (cxt_ok _ _) (by rfl) fun K hK => ?_
  conv => whnf
  refine callV rfl (toField_V kp kl (by omega)) fun hs' hhs => ?_
  try dsimp only at hhs
  conv => whnf
  refine callI rfl (toInts_fn none x (by omega)) fun hs_s1 b_s1 hh_s1 hf_s1 => ?_
  try dsimp only at hh_s1 hf_s1
  conv => whnf
  refine callI rfl (toInts_fn none y (by omega)) fun hs_s2 b_s2 hh_s2 hf_s2 => ?_
  try dsimp only at hh_s2 hf_s2
  conv => whnf
  refine callV rfl (hS _ _ _) fun hs' hhs => ?_
  try dsimp only at hhs
  conv => whnf
  refine hK _ ?_
  clear hK K
  refine W.sw (c' := cxt [8] [0, 1, 2, 3, 6, 7, 8, 9, 10, 11, 12, 13, 14, 15, 16, 17, 18, 19, 22, 25, 30, 62, 67, 72, 77, 99, 107, 110, 129, 134, 137, 1000000]) ?_
  refine W.rs (cxt_ok _ _) (by rfl) fun K hK => ?_
  conv => whnf
  refine ⟨_, cxT (toField_T kp kl (by omega)), fun lo_x0 hi_x0 hs_x0 x_x0 tn_x0 tb_x0 hl1_x0 hl2_x0 _ hp_x0 hf_x0 hn_x0 ho_x0 => ?_⟩
  try dsimp only at hl1_x0 hl2_x0
  obtain ⟨xb0, rfl, hx0⟩ := hp_x0
  conv => whnf
  have hbd_xb0 : kl ≠ [] → lo_x0 ≤ xb0 ∧ xb0 < hs_x0 := fun h => hf_x0 _ (by rw [hx0 h]; exact Option.some_ne_none _)
  have hu_xb0 : kl ≠ [] → tb_x0 xb0 = some (kl) := fun h => hn_x0 _ _ (hx0 h)
  intro b_y0 hs_y0 hh_y0 hf_y0
  try dsimp only at hh_y0 hf_y0
  conv => whnf
  refine ⟨⟨(by show 2 ≤ 2; omega), rfl⟩, ?_⟩
  conv => whnf
  refine hK _ ?_
  clear hK K
  refine W.sw (c' := cxt [19] [0, 1, 2, 3, 6, 7, 8, 9, 10, 11, 12, 13, 14, 15, 16, 17, 18, 19, 22, 25, 30, 62, 67, 72, 77, 99, 107, 110, 129, 134, 137, 1000000]) ?_
  refine W.rs (cxt_ok _ _) (by rfl) fun K hK => ?_
  conv => whnf
  refine callI rfl (toInts_fn none x (by omega)) fun hs_x1 b_x1 hh_x1 hf_x1 => ?_
  try dsimp only at hh_x1 hf_x1
  conv => whnf
  refine hK _ ?_
  clear hK K
  refine W.rs (cxt_ok _ _) (by rfl) fun K hK => ?_
  conv => whnf
  refine callI rfl (toInts_fn none y (by omega)) fun hs_x2 b_x2 hh_x2 hf_x2 => ?_
  try dsimp only at hh_x2 hf_x2
  conv => whnf
  refine hK _ ?_
  clear hK K
  refine W.rs (cxt_ok _ _) (by rfl) fun K hK => ?_
  conv => whnf
  refine ⟨kl, ⟨rfl, hu_xb0⟩, ?_⟩
  conv => whnf
  refine ⟨_, cxT (hI _ _ _), fun lo_g hi_g hs_g x_g tn_g tb_g hl1_g hl2_g _ hp_g hf_g hn_g ho_g => ?_⟩
  try dsimp only at hl1_g hl2_g
  obtain ⟨gb0, rfl, gh0⟩ := hp_g
  conv => whnf
  refine hK _ ?_
  clear hK K
  have hu_xb0_g : kl ≠ [] → tb_g xb0 = some (kl) := fun h => ho_g _ _ (hu_xb0 h)
  have hbd_gb0 : r0 ≠ [] → lo_g ≤ gb0 ∧ gb0 < hs_g := fun h => hf_g _ (by rw [gh0 h]; exact Option.some_ne_none _)
  have hu_gb0 : r0 ≠ [] → tb_g gb0 = some (r0) := fun h => hn_g _ _ (gh0 h)
  refine W.seqK fun K1 hK1 => ?_
  refine W.rs (cxt_ok _ _) (by rfl) fun K hK => ?_
  conv => whnf
  refine ⟨r0, ⟨rfl, hu_gb0⟩, ?_⟩
  conv => whnf
  refine callV rfl (eqInts_same _ _ r0 (by omega)) fun hs' hhs => ?_
  try dsimp only at hhs
  conv => whnf
  refine hK _ (W.cond ⟨fun hcc => absurd hcc (by simp), fun _ => W.skip (hK1 _ ?_)⟩)
  clear hK K hK1 K1
  refine W.seqK fun K1 hK1 => ?_
  refine W.rd (cxt_ok _ _) follows (by rfl) fun K hK => ?_
  conv => whnf
  refine ⟨_, cxtF (toField_V kp kl (by omega)), ?_⟩
  conv => whnf
  refine ⟨kl, ⟨rfl, hu_xb0_g⟩, ?_⟩
  conv => whnf
  refine ⟨_, cxtF (eqField_same kp _ _ kl (by omega)), ?_⟩
  conv => whnf
  refine hK _ (W.condF rfl (W.skip (hK1 _ ?_)))
  clear hK K hK1 K1
  refine W.seqK fun K1 hK1 => ?_
  refine W.rs (cxt_ok _ _) (by rfl) fun K hK => ?_
  conv => whnf
  refine callI rfl (toInts_fn none x (by omega)) fun hs_z1 b_z1 hh_z1 hf_z1 => ?_
  try dsimp only at hh_z1 hf_z1
  conv => whnf
  refine callV rfl (eqInts_same _ _ x (by omega)) fun hs' hhs => ?_
  try dsimp only at hhs
  conv => whnf
  refine hK _ (W.condF rfl (W.skip (hK1 _ ?_)))
  clear hK K hK1 K1
  refine W.seqK fun K1 hK1 => ?_
  refine W.rs (cxt_ok _ _) (by rfl) fun K hK => ?_
  conv => whnf
  refine callI rfl (toInts_fn none y (by omega)) fun hs_z2 b_z2 hh_z2 hf_z2 => ?_
  try dsimp only at hh_z2 hf_z2
  conv => whnf
  refine callV rfl (eqInts_same _ _ y (by omega)) fun hs' hhs => ?_
  try dsimp only at hhs
  conv => whnf
  refine hK _ (W.condF rfl (W.skip (hK1 _ ?_)))
  clear hK K hK1 K1
  refine W.rs (cxt_ok _ _) (by rfl) fun K hK => ?_
  conv => whnf
  refine hK _ ?_
  clear hK K
  refine W.rs (cxt_ok _ _) (by rfl) fun K hK => ?_
  conv => whnf
  refine ⟨⟨rfl, rfl⟩, ?_⟩
  conv => whnf
  refine ⟨rfl, _, markField_fn kp xb0 kl.length (1) (by omega) (by omega) tb_g (fun h => ⟨kl, rfl, hu_xb0_g (fun e => h (by rw [e]; rfl))⟩), ?_⟩
  rintro hsk0 av x' t' hhk0 ⟨rfl, rfl, tb_k0, rfl, hb_k0, ho_k0⟩ _ _ _
  try dsimp only at hhk0
  conv => whnf
  refine hK _ ?_
  clear hK K
  have hm_k0_xb0 : kl ≠ [] → tb_k0 xb0 = some (marks (1) kl.length) := fun h => hb_k0 (fun e => h (List.eq_nil_of_length_eq_zero e))
  have hm_k0_gb0 : r0 ≠ [] → tb_k0 gb0 = some (r0) := fun h => (ho_k0 _ (by by_cases hn : kl = []; exact .inl (by rw [hn]; rfl); exact .inr (fun e => by have h1 := hbd_xb0 hn; have h2 := hbd_gb0 h; omega))).trans (hu_gb0 h)
  refine W.rs (cxt_ok _ _) (by rfl) fun K hK => ?_
  conv => whnf
  refine ⟨⟨rfl, rfl⟩, ?_⟩
  conv => whnf
  refine ⟨rfl, _, markInts_fn _ b_x1 x (1 + kl.length) (by omega) (by omega) tb_k0, ?_⟩
  rintro hsk1 av x' t' hhk1 ⟨rfl, rfl, rfl⟩ _ _ _
  try dsimp only at hhk1
  conv => whnf
  refine hK _ ?_
  clear hK K
  refine W.rs (cxt_ok _ _) (by rfl) fun K hK => ?_
  conv => whnf
  refine ⟨⟨rfl, rfl⟩, ?_⟩
  conv => whnf
  refine ⟨rfl, _, markInts_fn _ b_x2 y (1 + kl.length + x.length) (by omega) (by omega) tb_k0, ?_⟩
  rintro hsk2 av x' t' hhk2 ⟨rfl, rfl, rfl⟩ _ _ _
  try dsimp only at hhk2
  conv => whnf
  refine hK _ ?_
  clear hK K
  refine W.seqK fun K1 hK1 => ?_
  refine W.rs (cxt_ok _ _) (by rfl) fun K hK => ?_
  conv => whnf
  refine ⟨fun hkk => ?_, fun hkk => ?_⟩ <;> conv => whnf
  · have hkk := of_decide_eq_true hkk; omega
  refine ⟨r0, ⟨rfl, hm_k0_gb0⟩, ?_⟩
  conv => whnf
  refine callV rfl (eqInts_same _ _ r0 (by omega)) fun hs' hhs => ?_
  try dsimp only at hhs
  conv => whnf
  refine hK _ (W.cond ⟨fun hcc => absurd hcc (by simp), fun _ => W.skip (hK1 _ ?_)⟩)
  clear hK K hK1 K1
  refine W.rs (cxt_ok _ _) (by rfl) fun K hK => ?_
  conv => whnf
  refine hK _ ?_
  clear hK K
  refine W.rs (cxt_ok _ _) (by rfl) fun K hK => ?_
  conv => whnf
  refine ⟨⟨rfl, rfl⟩, ?_⟩
  conv => whnf
  refine ⟨rfl, _, markRf_fn gb0 r0.length (1) (by omega) (by omega) tb_k0 (fun h => ⟨r0, rfl, hm_k0_gb0 (fun e => h (by rw [e]; rfl))⟩), ?_⟩
  rintro hsm0 av x' t' hhm0 ⟨rfl, rfl, tb_m0, rfl, hb_m0, ho_m0⟩ _ _ _
  try dsimp only at hhm0
  conv => whnf
  refine hK _ ?_
  clear hK K
  have hm_m0_xb0 : kl ≠ [] → tb_m0 xb0 = some (marks (1) kl.length) := fun h => (ho_m0 _ (by by_cases hn : r0 = []; exact .inl (by rw [hn]; rfl); exact .inr (fun e => by have h1 := hbd_gb0 hn; have h2 := hbd_xb0 h; omega))).trans (hm_k0_xb0 h)
  have hm_m0_gb0 : r0 ≠ [] → tb_m0 gb0 = some (marks (1) r0.length) := fun h => hb_m0 (fun e => h (List.eq_nil_of_length_eq_zero e))
  refine W.rs (cxt_ok _ _) (by rfl) fun K hK => ?_
  conv => whnf
  refine hK _ ?_
  clear hK K
  refine W.rs (cxt_ok _ _) (by rfl) fun K hK => ?_
  conv => whnf
  refine ⟨marks (1) r0.length, ⟨marks_length .., fun h => hm_m0_gb0 (marks_ne h)⟩, ?_⟩
  conv => whnf
  refine callV rfl (held_fn _ (1) r0.length (by omega) (by omega)) fun hs' hhs => ?_
  try dsimp only at hhs
  conv => whnf
  refine hK _ ?_
  clear hK K
  refine W.seqK fun K1 hK1 => ?_
  refine W.rs (cxt_ok _ _) (by rfl) fun K hK => ?_
  conv => whnf
  refine hK _ (W.cond ⟨fun h7 => (by have := of_decide_eq_true h7; omega), fun _ => W.skip (hK1 _ ?_)⟩)
  clear hK K hK1 K1
  refine W.seqK fun K1 hK1 => ?_
  refine W.rs (cxt_ok _ _) (by rfl) fun K hK => ?_
  conv => whnf
  refine hK _ (W.cond ⟨fun hcc => absurd rfl (of_decide_eq_true hcc), fun _ => W.skip (hK1 _ ?_)⟩)
  clear hK K hK1 K1
  refine W.rs (cxt_ok _ _) (by rfl) fun K hK => ?_
  conv => whnf
  refine callV rfl (toField_V kp kl (by omega)) fun hs' hhs => ?_
  try dsimp only at hhs
  conv => whnf
  refine callI rfl (toInts_fn none x (by omega)) fun hs_t1 b_t1 hh_t1 hf_t1 => ?_
  try dsimp only at hh_t1 hf_t1
  conv => whnf
  refine callI rfl (toInts_fn none y (by omega)) fun hs_t2 b_t2 hh_t2 hf_t2 => ?_
  try dsimp only at hh_t2 hf_t2
  conv => whnf
  refine ⟨_, cxT (hI _ _ _), fun lo_h hi_h hs_h x_h tn_h tb_h hl1_h hl2_h _ hp_h hf_h hn_h ho_h => ?_⟩
  try dsimp only at hl1_h hl2_h
  obtain ⟨hb0, rfl, hh0⟩ := hp_h
  conv => whnf
  refine hK _ ?_
  clear hK K
  have hm_m0_xb0_h : kl ≠ [] → tb_h xb0 = some (marks (1) kl.length) := fun h => ho_h _ _ (hm_m0_xb0 h)
  have hm_m0_gb0_h : r0 ≠ [] → tb_h gb0 = some (marks (1) r0.length) := fun h => ho_h _ _ (hm_m0_gb0 h)
  have hbd_hb0 : r0 ≠ [] → lo_h ≤ hb0 ∧ hb0 < hs_h := fun h => hf_h _ (by rw [hh0 h]; exact Option.some_ne_none _)
  have hu_hb0 : r0 ≠ [] → tb_h hb0 = some (r0) := fun h => hn_h _ _ (hh0 h)
  refine W.seqK fun K1 hK1 => ?_
  refine W.rs (cxt_ok _ _) (by rfl) fun K hK => ?_
  conv => whnf
  refine ⟨r0, ⟨rfl, hu_hb0⟩, ?_⟩
  conv => whnf
  refine callV rfl (eqInts_same _ _ r0 (by omega)) fun hs' hhs => ?_
  try dsimp only at hhs
  conv => whnf
  refine hK _ (W.cond ⟨fun hcc => absurd hcc (by simp), fun _ => W.skip (hK1 _ ?_)⟩)
  clear hK K hK1 K1
  refine W.rs (cxt_ok _ _) (by rfl) fun K hK => ?_
  conv => whnf
  refine hK _ ?_
  clear hK K
  refine W.rs (cxt_ok _ _) (by rfl) fun K hK => ?_
  conv => whnf
  refine ⟨marks (1) r0.length, ⟨marks_length .., fun h => hm_m0_gb0_h (marks_ne h)⟩, ?_⟩
  conv => whnf
  refine callV rfl (held_fn _ (1) r0.length (by omega) (by omega)) fun hs' hhs => ?_
  try dsimp only at hhs
  conv => whnf
  refine hK _ ?_
  clear hK K
  refine W.seqK fun K1 hK1 => ?_
  refine W.rs (cxt_ok _ _) (by rfl) fun K hK => ?_
  conv => whnf
  refine hK _ (W.cond ⟨fun h7 => (by have := of_decide_eq_true h7; omega), fun _ => W.skip (hK1 _ ?_)⟩)
  clear hK K hK1 K1
  refine W.seqK fun K1 hK1 => ?_
  refine W.rs (cxt_ok _ _) (by rfl) fun K hK => ?_
  conv => whnf
  refine hK _ (W.cond ⟨fun hcc => absurd rfl (of_decide_eq_true hcc), fun _ => W.skip (hK1 _ ?_)⟩)
  clear hK K hK1 K1
  refine W.rs (cxt_ok _ _) (by rfl) fun K hK => ?_
  conv => whnf
  refine hK _ ?_
  clear hK K
  refine W.ret ?_
  conv => whnf
  exact ⟨.v (.tr), rfl, trivial, rfl⟩

theorem lawMultiplyElements (kp : Int) (kl : List Int) (x : List Int) (y : List Int) (h_kp : inR kp) (hz_kl : kl.length ≤ maxLen) : FnV 5 [vK kp none kl, .ints none x, .ints none y] .tr :=
  lawFMultiplyElements kp kl x y hz_kl (fun hkl hx hy => MultiplyElements_both kp kl x y h_kp hkl hx hy)

end Go.Proofs.YteklanjooalkdaaGreat
