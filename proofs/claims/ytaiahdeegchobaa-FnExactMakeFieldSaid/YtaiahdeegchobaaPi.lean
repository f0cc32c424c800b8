/- What the program's functions and the reference's return. No conditions. -/
import Derived.Test.YtaiahdeegchobaaPh
import Derived.Test.YtaiahdeegchobaaRows
namespace Go.Proofs.Ytaiahdeegchobaa
open Go Go.RowKit Go.Proofs Poly
set_option maxRecDepth 100000
set_option maxHeartbeats 8000000

/-- an element of the field with modulus l -/
def Has (p : Int) (l x : List Int) : Prop := IsMod p x ∧ x.length < l.length

/-- the code of elements -/
noncomputable def codeEl (p : Int) (l : List Int) (fine : Bool) (n : Nat) (X : Nat → List Int) : Int :=
  bif bP (IsFld p l) then (bif fine && bP (∀ i, i < n → Has p l (X i)) then 0 else 2) else 1

theorem all_has {p : Int} {l : List Int} {n : Nat} {X : Nat → List Int} : bP (∃ i, i < n ∧ (fun i => !(bP (Has p l (X i)))) i = true) = !(bP (∀ i, i < n → Has p l (X i))) := by
  by_cases h : ∀ i, i < n → Has p l (X i)
  · rw [bP_true h]
    refine bP_false ?_
    rintro ⟨i, hi, h2⟩
    have h2 : (!(bP (Has p l (X i)))) = true := h2
    rw [bP_true (h i hi)] at h2; cases h2
  · rw [bP_false h]
    refine bP_true (Classical.byContradiction fun h2 => h fun i hi => Classical.byContradiction fun h3 => h2 ⟨i, hi, ?_⟩)
    show (!(bP (Has p l (X i)))) = true
    rw [bP_false h3]; rfl

/-- two elements, or one twice -/
def two (x y : List Int) (i : Nat) : List Int := if i = 0 then x else y

theorem codeEl_ok {p : Int} {l : List Int} {b : Bool} {n : Nat} {X : Nat → List Int} (h : codeEl p l b n X = 0) : IsFld p l ∧ b = true ∧ ∀ i, i < n → Has p l (X i) := by
  unfold codeEl at h
  by_cases hk : IsFld p l
  · rw [bP_true hk] at h
    by_cases h2 : ∀ i, i < n → Has p l (X i)
    · rw [bP_true h2] at h
      cases b
      · cases h
      · exact ⟨hk, rfl, h2⟩
    · rw [bP_false h2] at h
      cases b <;> cases h
  · rw [bP_false hk] at h; cases h

/-- one code for the other -/
theorem codeEl_congr {p : Int} {l : List Int} {b : Bool} {n m : Nat} {X Y : Nat → List Int} (h : (∀ i, i < n → Has p l (X i)) ↔ (∀ i, i < m → Has p l (Y i))) : codeEl p l b n X = codeEl p l b m Y := by
  unfold codeEl; rw [bP_congr h]

/-- what a field is -/
theorem fld_poly {p : Int} {l : List Int} (hk : IsFld p l) : ∃ hp : p ∈ primes, letI := sp_of hp; ∃ f : Poly p, f.l = l ∧ Irr f ∧ Mon f ∧ 2 ≤ dg f ∧ dg f ≤ 9 := by
  obtain ⟨hp, f, hf, hi⟩ := hk.irr
  refine ⟨hp, ?_⟩
  letI := sp_of hp
  subst hf
  have h1 : f.l.length = dg f := rfl
  have h2 := hk.two
  have h3 := hk.mod.2.1
  exact ⟨f, rfl, hi, ⟨hi.ne, hk.mon.2⟩, by omega, by omega⟩
theorem mod_poly {p : Int} [SP p] {x : List Int} (h : IsMod p x) : ∃ X : Poly p, X.l = x := by
  obtain ⟨hp, f, hf⟩ := poly_of h
  exact ⟨f, hf⟩

end Go.Proofs.Ytaiahdeegchobaa

namespace Go.Proofs.Ytaiahdeegchobaa
open Go Go.RowKit Go.Proofs Poly
set_option maxRecDepth 100000
set_option maxHeartbeats 8000000

/-- a list and a code, new -/
def RT (l : List Int) (c : Int) : PostT := fun _ _ x tb => ∃ b : Nat, x = .tup [.rf b l.length, .int .i64 c] ∧ (l ≠ [] → tb b = some l)
/-- a list and a code, to be read -/
abbrev RV (l : List Int) (c : Int) : V := .tup [.ints none l, .int .i64 c]
theorem sum_l {p : Int} [SP p] (X Y : Poly p) : nrm p (trimZ (addL X.l Y.l)) = (X + Y).l := nrm_trim _ _

theorem smul_one (l : List Int) : smulL 1 l = l := list_ext (by simp [smulL]) fun j _ => by rw [cf_smulL]; omega
theorem els2 (g1 g2 : Option Nat) (x y : List Int) : ∀ i, i < 2 → ∃ g', nth [.ints g1 x, .ints g2 y] i = .ints g' (two x y i) := fun i hi => match i, hi with
  | 0, _ => ⟨g1, rfl⟩
  | 1, _ => ⟨g2, rfl⟩
theorem l_bd2 {p : Int} [SP p] (X : Poly p) : Bd 2305843009213693951 X.l := (l_bd X).le (by omega)

end Go.Proofs.Ytaiahdeegchobaa

namespace Go.Proofs.Ytaiahdeegchobaa
open Go Go.RowKit Go.Proofs Poly
set_option maxRecDepth 100000
set_option maxHeartbeats 8000000

theorem mod_top {p : Int} {f : List Int} (hm : IsMod p f) (h2 : 2 ≤ f.length) (h1 : cf f (f.length - 1) = 1) : Top p.toNat (f.length - 1) f := by
  have hp := isP_le hm.1
  refine ⟨by omega, h1, fun x hx => ?_⟩
  obtain ⟨i, hi, rfl⟩ := List.getElem_of_mem hx
  have h3 := hm.2.2.1 i hi
  rw [cf_lt hi] at h3
  omega

/-- what is found, and its code -/
def nextL (p : Nat) (r : Option Nat) : List Int := outL p r
def nextC : Option Nat → Int
  | some _ => 0
  | none => 4

theorem NextIrreducible_both (p : Int) (f : List Int) (_ : inR p) (hfl : f.length ≤ 1048576) : ∃ (r0 : List Int) (r1 : Int), (∀ g1 : Option Nat, FnV 23 [.int .i64 p, .ints g1 f] (.tup [.ints none r0, .int .i64 r1])) ∧
    (∀ g1 : Option Nat, FnT Try.prog 24 [.int .i64 p, .ints g1 f] (RT r0 r1)) ∧ r0.length ≤ 1000000 := by
  by_cases hm : IsMod p f
  case neg =>
    refine ⟨[], 1, fun g => ?_, fun g => ?_, by simp⟩
    · refine fn_of (cx_ok [0, 1, 4, 5, 6, 10, 23, 29, 35]) Try.func23 rfl (by decide) Try.ntmps23 (Nat.le_of_ble_eq_true rfl) fun base => ?_
      refine W.rs (cx_ok _) (by rfl) fun K hK => ?_
      conv => whnf
      refine hK _ ?_
      clear hK K
      refine W.seqK fun K1 hK1 => ?_
      refine W.rs (cx_ok _) (by rfl) fun K hK => ?_
      conv => whnf
      refine callV rfl ((isModS_fn g p f (by omega)).fa (bP_false hm)) fun hs' hhs => ?_
      try dsimp only at hhs
      conv => whnf
      refine hK _ (W.condT rfl ?_)
      clear hK K
      refine W.rs (cx_ok _) (by rfl) fun K hK => ?_
      conv => whnf
      refine hK _ ?_
      clear hK K
      refine W.ret ?_
      conv => whnf
      exact ⟨.v (.ints none []), rfl, trivial, .v (.int .i64 1), ⟨rfl, rfl⟩, trivial, rfl⟩
    · refine fnt_of (cxt_ok [] [0, 1, 4, 5, 6, 7, 8, 13, 35, 1000000]) Try.func24 rfl (by decide) Try.ntmps24 (Nat.le_of_ble_eq_true rfl) (fun base => ?_) (Nat.le_of_ble_eq_true rfl)
      refine W.sw (c' := cx [0, 1, 4, 5, 6, 7, 8, 13, 35, 1000000]) ?_
      refine W.rs (cx_ok _) (by rfl) fun K hK => ?_
      conv => whnf
      refine hK _ ?_
      clear hK K
      refine W.seqK fun K1 hK1 => W.block ?_
      refine W.rs (cx_ok _) (by rfl) fun K hK => ?_
      conv => whnf
      refine callV rfl ((isModular_fn g p f).fa (bP_false hm)) fun hs' hhs => ?_
      try dsimp only at hhs
      conv => whnf
      refine hK _ (W.condT rfl ?_)
      clear hK K
      refine W.rs (cx_ok _) (by rfl) fun K hK => ?_
      conv => whnf
      refine hK _ ?_
      clear hK K
      refine W.ret ?_
      conv => whnf
      exact ⟨.v (.rf 0 0), rfl, trivial, .v (.int .i64 (1)), ⟨rfl, rfl⟩, trivial, 0, rfl, fun hne => absurd rfl hne⟩
  have hlen : ((f.length : Int) - 1) = ((f.length - 1 : Nat) : Int) ∨ f.length = 0 := by omega
  by_cases hv : (2 ≤ f.length ∧ f.length ≤ 5) ∧ cf f (f.length - 1) = 1
  case neg =>
    refine ⟨[], 2, fun g => ?_, fun g => ?_, by simp⟩
    · by_cases h25 : 2 ≤ f.length ∧ f.length ≤ 5
      · have h1 : cf f (f.length - 1) ≠ 1 := fun h => hv ⟨h25, h⟩
        have e1 : ((f.length : Int) - 1).toNat = f.length - 1 := by omega
        refine fn_of (cx_ok [0, 1, 4, 5, 6, 10, 23, 29, 35]) Try.func23 rfl (by decide) Try.ntmps23 (Nat.le_of_ble_eq_true rfl) fun base => ?_
        refine W.rs (cx_ok _) (by rfl) fun K hK => ?_
        conv => whnf
        refine hK _ ?_
        clear hK K
        refine W.seqK fun K1 hK1 => ?_
        refine W.rs (cx_ok _) (by rfl) fun K hK => ?_
        conv => whnf
        refine callV rfl ((isModS_fn g p f (by omega)).tr (bP_true hm)) fun hs' hhs => ?_
        try dsimp only at hhs
        conv => whnf
        refine hK _ (W.condF rfl (W.skip (hK1 _ ?_)))
        clear hK K hK1 K1
        refine W.seqK fun K1 hK1 => ?_
        refine W.rs (cx_ok _) (by rfl) fun K hK => ?_
        conv => whnf
        refine callV rfl ((l01In_fn _ _ _).tr (decide_eq_true ⟨by omega, by omega⟩)) fun hs' hhs => ?_
        try dsimp only at hhs
        conv => whnf
        refine ⟨⟨by omega, by omega⟩, ?_⟩
        conv => whnf
        refine ⟨⟨by omega, by omega⟩, ?_⟩
        conv => whnf
        rw [e1]
        refine hK _ (W.cond ⟨fun _ => ?_, fun hcc => absurd h1 (of_decide_eq_false hcc)⟩)
        clear hK K
        refine W.rs (cx_ok _) (by rfl) fun K hK => ?_
        conv => whnf
        refine hK _ ?_
        clear hK K
        refine W.ret ?_
        conv => whnf
        exact ⟨.v (.ints none []), rfl, trivial, .v (.int .i64 2), ⟨rfl, rfl⟩, trivial, rfl⟩
      · refine fn_of (cx_ok [0, 1, 4, 5, 6, 10, 23, 29, 35]) Try.func23 rfl (by decide) Try.ntmps23 (Nat.le_of_ble_eq_true rfl) fun base => ?_
        refine W.rs (cx_ok _) (by rfl) fun K hK => ?_
        conv => whnf
        refine hK _ ?_
        clear hK K
        refine W.seqK fun K1 hK1 => ?_
        refine W.rs (cx_ok _) (by rfl) fun K hK => ?_
        conv => whnf
        refine callV rfl ((isModS_fn g p f (by omega)).tr (bP_true hm)) fun hs' hhs => ?_
        try dsimp only at hhs
        conv => whnf
        refine hK _ (W.condF rfl (W.skip (hK1 _ ?_)))
        clear hK K hK1 K1
        refine W.seqK fun K1 hK1 => ?_
        refine W.rs (cx_ok _) (by rfl) fun K hK => ?_
        conv => whnf
        refine callV rfl ((l01In_fn _ _ _).fa (decide_eq_false fun h => h25 ⟨by omega, by omega⟩)) fun hs' hhs => ?_
        try dsimp only at hhs
        conv => whnf
        refine hK _ (W.condT rfl ?_)
        clear hK K
        refine W.rs (cx_ok _) (by rfl) fun K hK => ?_
        conv => whnf
        refine hK _ ?_
        clear hK K
        refine W.ret ?_
        conv => whnf
        exact ⟨.v (.ints none []), rfl, trivial, .v (.int .i64 2), ⟨rfl, rfl⟩, trivial, rfl⟩
    · by_cases hmo : IsMon f
      · have h25 : ¬ (2 ≤ f.length ∧ f.length ≤ 5) := fun h => hv ⟨h, hmo.2⟩
        refine fnt_of (cxt_ok [] [0, 1, 4, 5, 6, 7, 8, 13, 35, 1000000]) Try.func24 rfl (by decide) Try.ntmps24 (Nat.le_of_ble_eq_true rfl) (fun base => ?_) (Nat.le_of_ble_eq_true rfl)
        refine W.sw (c' := cx [0, 1, 4, 5, 6, 7, 8, 13, 35, 1000000]) ?_
        refine W.rs (cx_ok _) (by rfl) fun K hK => ?_
        conv => whnf
        refine hK _ ?_
        clear hK K
        refine W.seqK fun K1 hK1 => W.block ?_
        refine W.rs (cx_ok _) (by rfl) fun K hK => ?_
        conv => whnf
        refine callV rfl ((isModular_fn g p f).tr (bP_true hm)) fun hs' hhs => ?_
        try dsimp only at hhs
        conv => whnf
        refine hK _ (W.condF rfl ?_)
        clear hK K
        refine W.rs (cx_ok _) (by rfl) fun K hK => ?_
        conv => whnf
        refine callV rfl ((isMonic_fn g f (by omega)).tr (bP_true hmo)) fun hs' hhs => ?_
        try dsimp only at hhs
        conv => whnf
        refine callV rfl (degree_fn g f (by omega)) fun hs' hhs => ?_
        try dsimp only at hhs
        conv => whnf
        refine callV rfl ((within_fn _ _ _).fa (decide_eq_false fun h => h25 ⟨by omega, by omega⟩)) fun hs' hhs => ?_
        try dsimp only at hhs
        conv => whnf
        refine hK _ (W.condT rfl ?_)
        clear hK K
        refine W.rs (cx_ok _) (by rfl) fun K hK => ?_
        conv => whnf
        refine hK _ ?_
        clear hK K
        refine W.ret ?_
        conv => whnf
        exact ⟨.v (.rf 0 0), rfl, trivial, .v (.int .i64 (2)), ⟨rfl, rfl⟩, trivial, 0, rfl, fun hne => absurd rfl hne⟩
      · refine fnt_of (cxt_ok [] [0, 1, 4, 5, 6, 7, 8, 13, 35, 1000000]) Try.func24 rfl (by decide) Try.ntmps24 (Nat.le_of_ble_eq_true rfl) (fun base => ?_) (Nat.le_of_ble_eq_true rfl)
        refine W.sw (c' := cx [0, 1, 4, 5, 6, 7, 8, 13, 35, 1000000]) ?_
        refine W.rs (cx_ok _) (by rfl) fun K hK => ?_
        conv => whnf
        refine hK _ ?_
        clear hK K
        refine W.seqK fun K1 hK1 => W.block ?_
        refine W.rs (cx_ok _) (by rfl) fun K hK => ?_
        conv => whnf
        refine callV rfl ((isModular_fn g p f).tr (bP_true hm)) fun hs' hhs => ?_
        try dsimp only at hhs
        conv => whnf
        refine hK _ (W.condF rfl ?_)
        clear hK K
        refine W.rs (cx_ok _) (by rfl) fun K hK => ?_
        conv => whnf
        refine callV rfl ((isMonic_fn g f (by omega)).fa (bP_false hmo)) fun hs' hhs => ?_
        try dsimp only at hhs
        conv => whnf
        refine hK _ (W.condT rfl ?_)
        clear hK K
        refine W.rs (cx_ok _) (by rfl) fun K hK => ?_
        conv => whnf
        refine hK _ ?_
        clear hK K
        refine W.ret ?_
        conv => whnf
        exact ⟨.v (.rf 0 0), rfl, trivial, .v (.int .i64 (2)), ⟨rfl, rfl⟩, trivial, 0, rfl, fun hne => absurd rfl hne⟩
  obtain ⟨h25, h1⟩ := hv
  have hT := mod_top hm h25.1 h1
  have hp := isP_le hm.1
  have hpr : p ∈ primes := of_decide_eq_true hm.1
  letI := sp_of hpr
  have hmo : IsMon f := ⟨by omega, h1⟩
  have hra := hT.range (by omega)
  have hpw := pow4 (p := p) (by omega) (by omega) (d := f.length - 1) (by omega)
  have e1 : ((f.length : Int) - 1) = ((f.length - 1 : Nat) : Int) := by omega
  have e2 : ((f.length : Int) - 1).toNat = f.length - 1 := by omega
  obtain ⟨r, hr⟩ := exists_first (fun n => Irr (polyN p n)) (num p.toNat f + 1) (2 * p.toNat ^ (f.length - 1))
  have hol : (outL p.toNat r).length ≤ 5 := by
    cases r with
    | none => simp [outL]
    | some m => exact dig_len5 (p := p) (by omega) (d := f.length - 1) (by omega) hr.2.1
  have e3 : ((num p.toNat f : Nat) : Int) + 1 = ((num p.toNat f + 1 : Nat) : Int) := by omega
  refine ⟨outL p.toNat r, nextC r, fun g => ?_, fun g => ?_, by omega⟩
  · refine fn_of (cx_ok [0, 1, 4, 5, 6, 10, 23, 29, 35]) Try.func23 rfl (by decide) Try.ntmps23 (Nat.le_of_ble_eq_true rfl) fun base => ?_
    refine W.rs (cx_ok _) (by rfl) fun K hK => ?_
    conv => whnf
    refine hK _ ?_
    clear hK K
    refine W.seqK fun K1 hK1 => ?_
    refine W.rs (cx_ok _) (by rfl) fun K hK => ?_
    conv => whnf
    refine callV rfl ((isModS_fn g p f (by omega)).tr (bP_true hm)) fun hs' hhs => ?_
    try dsimp only at hhs
    conv => whnf
    refine hK _ (W.condF rfl (W.skip (hK1 _ ?_)))
    clear hK K hK1 K1
    refine W.seqK fun K1 hK1 => ?_
    refine W.rs (cx_ok _) (by rfl) fun K hK => ?_
    conv => whnf
    refine callV rfl ((l01In_fn _ _ _).tr (decide_eq_true ⟨by omega, by omega⟩)) fun hs' hhs => ?_
    try dsimp only at hhs
    conv => whnf
    refine ⟨⟨by omega, by omega⟩, ?_⟩
    conv => whnf
    refine ⟨⟨by omega, by omega⟩, ?_⟩
    conv => whnf
    rw [e2]
    refine hK _ (W.cond ⟨fun hcc => absurd h1 (of_decide_eq_true hcc), fun _ => W.skip (hK1 _ ?_)⟩)
    clear hK K hK1 K1
    refine W.rs (cx_ok _) (by rfl) fun K hK => ?_
    conv => whnf
    refine callV rfl (l10Count_fn p g (f.length - 1) f (by omega) (by omega) hT (by omega)) fun hs' hhs => ?_
    try dsimp only at hhs
    conv => whnf
    refine hK _ ?_
    clear hK K
    refine W.seqK fun K1 hK1 => ?_
    have fin : ∀ s : S, base ≤ s.hs → coverK s.env [(6, .v (.ints none (outL p.toNat r)))] → K1 s := by
      intro s h5 h6
      refine hK1 _ (W.weak (t := ⟨[(6, .v (.ints none (outL p.toNat r)))], base⟩) ⟨h5, h6⟩ (Nat.le_refl _) ?_)
      clear hK1 K1
      refine W.seqK fun K1 hK1 => ?_
      refine W.rs (cx_ok _) (by rfl) fun K hK => ?_
      conv => whnf
      refine hK _ (W.cond ⟨fun h => ?_, fun h => ?_⟩) <;> clear hK K
      · have h := of_decide_eq_true h
        cases r with
        | some m =>
          exfalso
          have : 0 < (dig p.toNat m).length := by rw [dig_pos (by omega) (by have := hr.1; omega)]; simp
          have h : ((dig p.toNat m).length : Int) = 0 := h
          omega
        | none =>
          refine W.rs (cx_ok _) (by rfl) fun K hK => ?_
          conv => whnf
          refine hK _ ?_
          clear hK K
          refine W.ret ?_
          conv => whnf
          exact ⟨.v (.ints none []), rfl, trivial, .v (.int .i64 4), ⟨rfl, rfl⟩, trivial, rfl⟩
      · have h := of_decide_eq_false h
        cases r with
        | none => exact absurd rfl h
        | some m =>
          refine W.skip (hK1 _ ?_)
          clear hK1 K1
          refine W.rs (cx_ok _) (by rfl) fun K hK => ?_
          conv => whnf
          refine hK _ ?_
          clear hK K
          refine W.ret ?_
          conv => whnf
          exact ⟨.v (.ints none (outL p.toNat (some m))), ⟨rfl, rfl⟩, trivial, .v (.int .i64 0), ⟨rfl, rfl⟩, trivial, rfl⟩
    clear hK1
    by_cases hlt : num p.toNat f + 1 < 2 * p.toNat ^ (f.length - 1)
    · rw [if_pos hlt]
      refine W.rs (cx_ok _) (by rfl) fun K hK => ?_
      conv => whnf
      have hdl : 0 < (dig p.toNat (num p.toNat f + 1)).length := by rw [dig_pos (by omega) (by omega)]; simp
      refine hK _ (W.cond ⟨fun h => ?_, fun h => absurd (of_decide_eq_false h) (by omega)⟩)
      clear hK K
      refine W.region (cx_ok _) (by rfl) ?_
      conv => whnf
      refine callV rfl (l10Next_fn p none (f.length - 1) (num p.toNat f + 1) (by omega) (by omega) (by omega) hlt r hr) fun hs' hhs => ?_
      try dsimp only at hhs
      conv => whnf
      refine fin _ (by dsimp only; omega) ?_
      clear fin
      repeat' first | refine And.intro ?_ ?_ | exact trivial | rfl | omega | exact .inl rfl | exact fun _ _ => rfl | exact fun _ _ h => h | assumption | exact fun i hi => (by obtain rfl : i = 0 := (by omega); rfl)
    · rw [if_neg hlt]
      obtain rfl := hr.unique (r' := none) (fun k h6 h7 => by omega)
      refine W.rs (cx_ok _) (by rfl) fun K hK => ?_
      conv => whnf
      refine hK _ (W.cond ⟨fun h => absurd (of_decide_eq_true h) (by simp), fun h => W.skip (fin _ (by dsimp only; omega) ?_)⟩)
      clear hK K fin
      repeat' first | refine And.intro ?_ ?_ | exact trivial | rfl | omega | exact .inl rfl | exact fun _ _ => rfl | exact fun _ _ h => h | assumption | exact fun i hi => (by obtain rfl : i = 0 := (by omega); rfl)
  · refine fnt_of (cxt_ok [] [0, 1, 4, 5, 6, 7, 8, 13, 35, 1000000]) Try.func24 rfl (by decide) Try.ntmps24 (Nat.le_of_ble_eq_true rfl) (fun base => ?_) (Nat.le_of_ble_eq_true rfl)
    refine W.sw (c' := cx [0, 1, 4, 5, 6, 7, 8, 13, 35, 1000000]) ?_
    refine W.rs (cx_ok _) (by rfl) fun K hK => ?_
    conv => whnf
    refine hK _ ?_
    clear hK K
    refine W.seqK fun K1 hK1 => W.block ?_
    refine W.rs (cx_ok _) (by rfl) fun K hK => ?_
    conv => whnf
    refine callV rfl ((isModular_fn g p f).tr (bP_true hm)) fun hs' hhs => ?_
    try dsimp only at hhs
    conv => whnf
    refine hK _ (W.condF rfl ?_)
    clear hK K
    refine W.rs (cx_ok _) (by rfl) fun K hK => ?_
    conv => whnf
    refine callV rfl ((isMonic_fn g f (by omega)).tr (bP_true hmo)) fun hs' hhs => ?_
    try dsimp only at hhs
    conv => whnf
    refine callV rfl (degree_fn g f (by omega)) fun hs' hhs => ?_
    try dsimp only at hhs
    conv => whnf
    refine callV rfl ((within_fn _ _ _).tr (decide_eq_true ⟨by omega, by omega⟩)) fun hs' hhs => ?_
    try dsimp only at hhs
    conv => whnf
    refine hK _ (W.condF rfl (W.skip (hK1 _ ?_)))
    clear hK K hK1 K1
    refine W.sw (c' := cxt [38] [0, 1, 4, 5, 6, 7, 8, 13, 35, 1000000]) ?_
    refine W.rs (cxt_ok _ _) (by rfl) fun K hK => ?_
    conv => whnf
    refine callV rfl (degree_fn g f (by omega)) fun hs' hhs => ?_
    try dsimp only at hhs
    conv => whnf
    rw [e1]
    refine callV rfl (numberOf_fn p g f (by omega) (by omega) hT.digs (by omega)) fun hs' hhs => ?_
    try dsimp only at hhs
    conv => whnf
    rw [e3]
    refine ⟨by constructor <;> omega, ?_⟩
    conv => whnf
    refine ⟨_, cxT (irreducibleFrom_T p (f.length - 1) (num p.toNat f + 1) (by omega) (by omega) (by omega) r hr), fun lo_t hi_t hs_t x_t tn_t tb_t hl1_t hl2_t _ hp_t hf_t hn_t ho_t => ?_⟩
    try dsimp only at hl1_t hl2_t
    obtain ⟨bt, rfl, ht⟩ := hp_t
    conv => whnf
    refine hK _ ?_
    clear hK K
    refine W.seqK fun K1 hK1 => ?_
    cases r with
    | none =>
      refine W.rs (cxt_ok _ _) (by rfl) fun K hK => ?_
      conv => whnf
      refine hK _ (W.cond ⟨fun _ => ?_, fun h => absurd h (by simp)⟩)
      clear hK K
      refine W.rs (cxt_ok _ _) (by rfl) fun K hK => ?_
      conv => whnf
      refine hK _ ?_
      clear hK K
      refine W.ret ?_
      conv => whnf
      exact ⟨.v (.rf 0 0), rfl, trivial, .v (.int .i64 (4)), ⟨rfl, rfl⟩, trivial, 0, rfl, fun hne => absurd rfl hne⟩
    | some m =>
      refine W.rs (cxt_ok _ _) (by rfl) fun K hK => ?_
      conv => whnf
      refine hK _ (W.cond ⟨fun h => absurd h (by simp), fun _ => W.skip (hK1 _ ?_)⟩)
      clear hK K hK1 K1
      refine W.rs (cxt_ok _ _) (by rfl) fun K hK => ?_
      conv => whnf
      refine hK _ ?_
      clear hK K
      refine W.ret ?_
      conv => whnf
      exact ⟨.v (.rf bt (outL p.toNat (some m)).length), rfl, trivial, .v (.int .i64 0), ⟨rfl, rfl⟩, trivial, bt, rfl, fun h => hn_t _ _ (ht h)⟩

/-- the code of counting -/
def codeCn (p n : Int) : Int := if isP p = true then (if 1 ≤ n ∧ n ≤ 4 then 0 else 2) else 1
theorem codeCn_ok {p n : Int} (h : codeCn p n = 0) : isP p = true ∧ 1 ≤ n ∧ n ≤ 4 := by
  unfold codeCn at h
  by_cases h1 : isP p = true
  · rw [if_pos h1] at h
    by_cases h2 : 1 ≤ n ∧ n ≤ 4
    · exact ⟨h1, h2⟩
    · rw [if_neg h2] at h; cases h
  · rw [if_neg h1] at h; cases h

theorem first_list {p : Int} (hp : 2 ≤ p) (d : Nat) : (List.replicate (d + 1) (0 : Int)).set d 1 = dig p.toNat (p.toNat ^ d) := by
  have hT : Top p.toNat d ((List.replicate (d + 1) (0 : Int)).set d 1) := by
    refine ⟨by simp, by rw [cf_set (by simp), if_pos rfl], fun x hx => ?_⟩
    obtain ⟨i, hi, rfl⟩ := List.getElem_of_mem hx
    rw [List.getElem_set]
    split
    · omega
    · simp; omega
  have hn : num p.toNat ((List.replicate (d + 1) (0 : Int)).set d 1) = p.toNat ^ d := by
    have h1 : (List.replicate (d + 1) (0 : Int)).set d 1 = List.replicate d 0 ++ [1] := by
      refine list_ext (by simp) fun j hj => ?_
      have hj : j < d + 1 := by simpa using hj
      rw [cf_set (by simp)]
      by_cases h2 : j = d
      · subst h2; rw [if_pos rfl, cf_rep_at]
      · rw [if_neg h2, cf_replicate, cf_lt (by simp; omega), List.getElem_append_left (by simp; omega)]; simp
    rw [h1, num_zeros]; simp [num]
  rw [← hn, hT.dig (by omega)]

theorem FirstIrreducible_fn (p n : Int) (r : Option Nat) (hr : ∀ h : p ∈ primes, 1 ≤ n ∧ n ≤ 4 → letI := sp_of h; IsFirst (fun k => Irr (polyN p k)) (p.toNat ^ n.toNat) (2 * p.toNat ^ n.toNat) r) :
    FnV 34 [.int .i64 p, .int .i64 n] (if codeCn p n = 0 then RV (outL p.toNat r) 0 else RV [] (codeCn p n)) := by
  by_cases hc : codeCn p n = 0
  · obtain ⟨hp0, hn1, hn4⟩ := codeCn_ok hc
    have hp := isP_le hp0
    have hpr : p ∈ primes := of_decide_eq_true hp0
    have hr := hr hpr ⟨hn1, hn4⟩
    letI := sp_of hpr
    rw [if_pos hc]
    obtain ⟨d, rfl⟩ : ∃ d : Nat, n = d := ⟨n.toNat, by omega⟩
    rw [Int.toNat_natCast] at hr
    have hB : 0 < p.toNat ^ d := Nat.pow_pos (by omega)
    have hfl := first_list (p := p) (by omega) d
    refine fn_of (cx_ok [0, 1, 4, 5, 6, 7, 12]) Try.func34 rfl (by decide) Try.ntmps34 (Nat.le_of_ble_eq_true rfl) fun base => ?_
    refine W.rs (cx_ok _) (by rfl) fun K hK => ?_
    conv => whnf
    refine hK _ ?_
    clear hK K
    refine W.rs (cx_ok _) (by rfl) fun K hK => ?_
    conv => whnf
    refine callV rfl (l10Code_fn p d 1 4) fun hs' hhs => ?_
    try dsimp only at hhs
    conv => whnf
    rw [show (if isP p = true then (if 1 ≤ (d : Int) ∧ (d : Int) ≤ 4 then (0 : Int) else 2) else 1) = 0 from hc]
    refine hK _ ?_
    clear hK K
    refine W.seqK fun K1 hK1 => ?_
    refine W.rs (cx_ok _) (by rfl) fun K hK => ?_
    conv => whnf
    refine hK _ (W.cond ⟨fun hcc => absurd rfl (of_decide_eq_true hcc), fun _ => W.skip (hK1 _ ?_)⟩)
    clear hK K hK1 K1
    refine W.rs (cx_ok _) (by rfl) fun K hK => ?_
    conv => whnf
    refine ⟨by constructor <;> omega, ?_⟩
    conv => whnf
    refine ⟨rfl, ?_⟩
    conv => whnf
    refine ⟨⟨by omega, by omega⟩, ?_⟩
    conv => whnf
    have e1 : ((d : Int) + 1).toNat = d + 1 := by omega
    rw [e1]
    intro b_2 hs_2 hh_2 hf_2
    try dsimp only at hh_2 hf_2
    conv => whnf
    refine hK _ ?_
    clear hK K
    refine W.rs (cx_ok _) (by rfl) fun K hK => ?_
    conv => whnf
    refine ⟨⟨by omega, by simp; omega⟩, ?_⟩
    conv => whnf
    rw [Int.toNat_natCast, hfl]
    refine hK _ ?_
    clear hK K
    refine W.rs (cx_ok _) (by rfl) fun K hK => ?_
    conv => whnf
    refine callV rfl (l10Next_fn p (some b_2) d (p.toNat ^ d) (by omega) (by omega) (Nat.le_refl _) (by omega) r hr) fun hs' hhs => ?_
    try dsimp only at hhs
    conv => whnf
    refine hK _ ?_
    clear hK K
    refine W.ret ?_
    conv => whnf
    exact ⟨.v (.ints none (outL p.toNat r)), ⟨rfl, rfl⟩, trivial, .v (.int .i64 0), ⟨rfl, rfl⟩, trivial, rfl⟩
  · rw [if_neg hc]
    refine fn_of (cx_ok [0, 1, 4, 5, 6, 7, 12]) Try.func34 rfl (by decide) Try.ntmps34 (Nat.le_of_ble_eq_true rfl) fun base => ?_
    refine W.rs (cx_ok _) (by rfl) fun K hK => ?_
    conv => whnf
    refine hK _ ?_
    clear hK K
    refine W.rs (cx_ok _) (by rfl) fun K hK => ?_
    conv => whnf
    refine callV rfl (l10Code_fn p n 1 4) fun hs' hhs => ?_
    try dsimp only at hhs
    conv => whnf
    rw [show (if isP p = true then (if 1 ≤ n ∧ n ≤ 4 then (0 : Int) else 2) else 1) = codeCn p n from rfl]
    refine hK _ ?_
    clear hK K
    refine W.seqK fun K1 hK1 => ?_
    refine W.rs (cx_ok _) (by rfl) fun K hK => ?_
    conv => whnf
    refine hK _ (W.cond ⟨fun _ => ?_, fun hcc => absurd hc (of_decide_eq_false hcc)⟩)
    clear hK K
    refine W.rs (cx_ok _) (by rfl) fun K hK => ?_
    conv => whnf
    refine hK _ ?_
    clear hK K
    refine W.ret ?_
    conv => whnf
    exact ⟨.v (.ints none []), rfl, trivial, .v (.int .i64 (codeCn p n)), ⟨rfl, rfl⟩, trivial, rfl⟩

/-- a field and a code, new -/
def RTK (q : Int) (l : List Int) (c : Int) : PostT := fun _ _ x tb => ∃ b : Nat, x = .tup [.agg [.int .i64 q, .rf b l.length], .int .i64 c] ∧ (l ≠ [] → tb b = some l)
/-- no field, and a code -/
theorem noK_V {f : Nat} {xs : List V} {c : Int} (h : FnV f xs (.tup [.agg [.int .i64 0, .nil], .int .i64 c])) : FnV f xs (.tup [vK 0 none [], .int .i64 c]) :=
  h.le fun _ _ _ r => rep_tup2 (fun _ r => rep_agg2 (fun _ r => r) rep_nilI rfl rfl r) (fun _ r => r) r
theorem noK_T {f : Nat} {xs : List V} {c : Int} (h : FnT Try.prog f xs (fun _ _ x _ => x = .tup [.agg [.int .i64 0, .nil], .int .i64 c])) : FnT Try.prog f xs (RTK 0 [] c) :=
  h.le fun _ _ x tb hx => by
    subst hx
    exact ⟨_, ⟨0, rfl, fun h => absurd rfl h⟩, fun _ _ _ r => rep_tup2 (fun _ r => rep_agg2 (fun _ r => r) rep_nilR rfl rfl r) (fun _ r => r) r⟩

theorem MakeField_both (p n : Int) (_ : inR p) (_ : inR n) : ∃ (r0p : Int) (r0l : List Int) (r1 : Int), (FnV 18 [.int .i64 p, .int .i64 n] (.tup [vK r0p none r0l, .int .i64 r1])) ∧ (FnT Try.prog 19 [.int .i64 p, .int .i64 n] (RTK r0p r0l r1)) ∧ r0l.length ≤ 1000000 := by
  by_cases hc : codeCn p n = 0
  · obtain ⟨hp0, hn1, hn4⟩ := codeCn_ok hc
    have hp := isP_le hp0
    have hpr : p ∈ primes := of_decide_eq_true hp0
    letI := sp_of hpr
    obtain ⟨d, rfl⟩ : ∃ d : Nat, n = d := ⟨n.toNat, by omega⟩
    obtain ⟨r, hr⟩ := exists_first (fun k => Irr (polyN p k)) (p.toNat ^ d) (2 * p.toNat ^ d)
    have hB : 0 < p.toNat ^ d := Nat.pow_pos (by omega)
    have hpw := pow4 (p := p) (by omega) (by omega) (d := d) (by omega)
    have hpc := pow_p (p := p) (by omega) d
    have hF := FirstIrreducible_fn p d r (fun _ _ => by rw [Int.toNat_natCast]; exact hr)
    rw [if_pos hc] at hF
    have hol : (outL p.toNat r).length ≤ 5 := by
      cases r with
      | none => simp [outL]
      | some m => exact dig_len5 (p := p) (by omega) (d := d) (by omega) hr.2.1
    by_cases hbig : p ^ d ≤ 20000
    · refine ⟨p, outL p.toNat r, 0, ?_, ?_, by omega⟩
      · refine fn_of (cx_ok [0, 1, 4, 5, 6, 7, 15, 21]) Try.func18 rfl (by decide) Try.ntmps18 (Nat.le_of_ble_eq_true rfl) fun base => ?_
        refine W.rs (cx_ok _) (by rfl) fun K hK => ?_
        conv => whnf
        intro b_1 hs_1 hh_1 hf_1
        try dsimp only at hh_1 hf_1
        conv => whnf
        refine hK _ ?_
        clear hK K
        refine W.rs (cx_ok _) (by rfl) fun K hK => ?_
        conv => whnf
        refine callV rfl (hF) fun hs' hhs => ?_
        try dsimp only at hhs
        conv => whnf
        refine hK _ ?_
        clear hK K
        refine W.seqK fun K1 hK1 => ?_
        refine W.rs (cx_ok _) (by rfl) fun K hK => ?_
        conv => whnf
        refine hK _ (W.cond ⟨fun hcc => absurd rfl (of_decide_eq_true hcc), fun _ => W.skip (hK1 _ ?_)⟩)
        clear hK K hK1 K1
        refine W.seqK fun K1 hK1 => ?_
        refine W.rs (cx_ok _) (by rfl) fun K hK => ?_
        conv => whnf
        refine callV rfl (l17Order_fn p d (by omega) (by omega) (by omega)) fun hs' hhs => ?_
        try dsimp only at hhs
        conv => whnf
        rw [show ordS p d = p ^ d from if_pos hbig]
        refine hK _ (W.cond ⟨fun h => absurd (of_decide_eq_true h) (by omega), fun _ => W.skip (hK1 _ ?_)⟩)
        clear hK K hK1 K1
        refine W.rs (cx_ok _) (by rfl) fun K hK => ?_
        conv => whnf
        refine ⟨⟨(by show 2 ≤ 2; omega), rfl⟩, ?_⟩
        conv => whnf
        refine hK _ ?_
        clear hK K
        refine W.ret ?_
        conv => whnf
        exact ⟨⟨trivial, trivial, trivial⟩, .v (.int .i64 0), ⟨rfl, rfl⟩, trivial, rfl⟩
      · refine fnt_of (cxt_ok [] [0, 1, 4, 5, 6, 7, 13, 19, 1000000]) Try.func19 rfl (by decide) Try.ntmps19 (Nat.le_of_ble_eq_true rfl) (fun base => ?_) (Nat.le_of_ble_eq_true rfl)
        refine W.sw (c' := cx [0, 1, 4, 5, 6, 7, 13, 19, 1000000]) ?_
        refine W.rs (cx_ok _) (by rfl) fun K hK => ?_
        conv => whnf
        intro b_1 hs_1 hh_1 hf_1
        try dsimp only at hh_1 hf_1
        conv => whnf
        refine hK _ ?_
        clear hK K
        refine W.seqK fun K1 hK1 => ?_
        refine W.rs (cx_ok _) (by rfl) fun K hK => ?_
        conv => whnf
        refine callV rfl (counting_fn p d 1 4) fun hs' hhs => ?_
        try dsimp only at hhs
        conv => whnf
        rw [show (if isP p = true then (if 1 ≤ (d : Int) ∧ (d : Int) ≤ 4 then (0 : Int) else 2) else 1) = 0 from hc]
        refine hK _ ?_
        clear hK K
        refine W.rs (cx_ok _) (by rfl) fun K hK => ?_
        conv => whnf
        refine hK _ (W.cond ⟨fun hcc => absurd rfl (of_decide_eq_true hcc), fun _ => W.skip (hK1 _ ?_)⟩)
        clear hK K hK1 K1
        refine W.seqK fun K1 hK1 => ?_
        refine W.rs (cx_ok _) (by rfl) fun K hK => ?_
        conv => whnf
        refine callV rfl (power_fn p d (fun j hj => pow_inR (by omega) (by omega) (by omega)) (by omega)) fun hs' hhs => ?_
        try dsimp only at hhs
        conv => whnf
        refine hK _ (W.cond ⟨fun h => absurd (of_decide_eq_true h) (by omega), fun _ => W.skip (hK1 _ ?_)⟩)
        clear hK K hK1 K1
        refine W.sw (c' := cxt [38] [0, 1, 4, 5, 6, 7, 13, 19, 1000000]) ?_
        refine W.rs (cxt_ok _ _) (by rfl) fun K hK => ?_
        conv => whnf
        refine callV rfl (power_fn p d (fun j hj => pow_inR (by omega) (by omega) (by omega)) (by omega)) fun hs' hhs => ?_
        try dsimp only at hhs
        conv => whnf
        rw [hpc]
        refine ⟨_, cxT (irreducibleFrom_T p d (p.toNat ^ d) (by omega) (by omega) (by omega) r hr), fun lo_t hi_t hs_t x_t tn_t tb_t hl1_t hl2_t _ hp_t hf_t hn_t ho_t => ?_⟩
        try dsimp only at hl1_t hl2_t
        obtain ⟨bt, rfl, ht⟩ := hp_t
        conv => whnf
        refine hK _ ?_
        clear hK K
        refine W.rs (cxt_ok _ _) (by rfl) fun K hK => ?_
        conv => whnf
        refine ⟨⟨(by show 2 ≤ 2; omega), rfl⟩, ?_⟩
        conv => whnf
        refine hK _ ?_
        clear hK K
        refine W.ret ?_
        conv => whnf
        exact ⟨⟨trivial, trivial, trivial⟩, .v (.int .i64 0), ⟨rfl, rfl⟩, trivial, bt, rfl, fun h => hn_t _ _ (ht h)⟩
    · refine ⟨0, [], 3, noK_V ?_, noK_T ?_, by simp⟩
      · refine fn_of (cx_ok [0, 1, 4, 5, 6, 7, 15, 21]) Try.func18 rfl (by decide) Try.ntmps18 (Nat.le_of_ble_eq_true rfl) fun base => ?_
        refine W.rs (cx_ok _) (by rfl) fun K hK => ?_
        conv => whnf
        intro b_1 hs_1 hh_1 hf_1
        try dsimp only at hh_1 hf_1
        conv => whnf
        refine hK _ ?_
        clear hK K
        refine W.rs (cx_ok _) (by rfl) fun K hK => ?_
        conv => whnf
        refine callV rfl (hF) fun hs' hhs => ?_
        try dsimp only at hhs
        conv => whnf
        refine hK _ ?_
        clear hK K
        refine W.seqK fun K1 hK1 => ?_
        refine W.rs (cx_ok _) (by rfl) fun K hK => ?_
        conv => whnf
        refine hK _ (W.cond ⟨fun hcc => absurd rfl (of_decide_eq_true hcc), fun _ => W.skip (hK1 _ ?_)⟩)
        clear hK K hK1 K1
        refine W.seqK fun K1 hK1 => ?_
        refine W.rs (cx_ok _) (by rfl) fun K hK => ?_
        conv => whnf
        refine callV rfl (l17Order_fn p d (by omega) (by omega) (by omega)) fun hs' hhs => ?_
        try dsimp only at hhs
        conv => whnf
        rw [show ordS p d = 0 from if_neg hbig]
        refine hK _ (W.cond ⟨fun _ => ?_, fun h => absurd rfl (of_decide_eq_false h)⟩)
        clear hK K
        refine W.rs (cx_ok _) (by rfl) fun K hK => ?_
        conv => whnf
        refine ⟨⟨(by show 2 ≤ 2; omega), rfl⟩, ?_⟩
        conv => whnf
        refine hK _ ?_
        clear hK K
        refine W.ret ?_
        conv => whnf
        exact ⟨⟨trivial, trivial, trivial⟩, .v (.int .i64 3), ⟨rfl, rfl⟩, trivial, rfl⟩
      · refine fnt_of (cxt_ok [] [0, 1, 4, 5, 6, 7, 13, 19, 1000000]) Try.func19 rfl (by decide) Try.ntmps19 (Nat.le_of_ble_eq_true rfl) (fun base => ?_) (Nat.le_of_ble_eq_true rfl)
        refine W.sw (c' := cx [0, 1, 4, 5, 6, 7, 13, 19, 1000000]) ?_
        refine W.rs (cx_ok _) (by rfl) fun K hK => ?_
        conv => whnf
        intro b_1 hs_1 hh_1 hf_1
        try dsimp only at hh_1 hf_1
        conv => whnf
        refine hK _ ?_
        clear hK K
        refine W.seqK fun K1 hK1 => ?_
        refine W.rs (cx_ok _) (by rfl) fun K hK => ?_
        conv => whnf
        refine callV rfl (counting_fn p d 1 4) fun hs' hhs => ?_
        try dsimp only at hhs
        conv => whnf
        rw [show (if isP p = true then (if 1 ≤ (d : Int) ∧ (d : Int) ≤ 4 then (0 : Int) else 2) else 1) = 0 from hc]
        refine hK _ ?_
        clear hK K
        refine W.rs (cx_ok _) (by rfl) fun K hK => ?_
        conv => whnf
        refine hK _ (W.cond ⟨fun hcc => absurd rfl (of_decide_eq_true hcc), fun _ => W.skip (hK1 _ ?_)⟩)
        clear hK K hK1 K1
        refine W.seqK fun K1 hK1 => ?_
        refine W.rs (cx_ok _) (by rfl) fun K hK => ?_
        conv => whnf
        refine callV rfl (power_fn p d (fun j hj => pow_inR (by omega) (by omega) (by omega)) (by omega)) fun hs' hhs => ?_
        try dsimp only at hhs
        conv => whnf
        refine hK _ (W.cond ⟨fun _ => ?_, fun h => absurd (of_decide_eq_false h) (by omega)⟩)
        clear hK K
        refine W.rs (cx_ok _) (by rfl) fun K hK => ?_
        conv => whnf
        refine ⟨⟨(by show 2 ≤ 2; omega), rfl⟩, ?_⟩
        conv => whnf
        refine hK _ ?_
        clear hK K
        refine W.ret ?_
        conv => whnf
        exact ⟨⟨trivial, trivial, trivial⟩, .v (.int .i64 3), ⟨rfl, rfl⟩, trivial, rfl⟩
  · refine ⟨0, [], codeCn p n, noK_V ?_, noK_T ?_, by simp⟩
    · have hF := FirstIrreducible_fn p n none (fun h hn => by
        have hcc : codeCn p n = 0 := by unfold codeCn; rw [if_pos (decide_eq_true h), if_pos hn]
        exact absurd hcc hc)
      rw [if_neg hc] at hF
      refine fn_of (cx_ok [0, 1, 4, 5, 6, 7, 15, 21]) Try.func18 rfl (by decide) Try.ntmps18 (Nat.le_of_ble_eq_true rfl) fun base => ?_
      refine W.rs (cx_ok _) (by rfl) fun K hK => ?_
      conv => whnf
      intro b_1 hs_1 hh_1 hf_1
      try dsimp only at hh_1 hf_1
      conv => whnf
      refine hK _ ?_
      clear hK K
      refine W.rs (cx_ok _) (by rfl) fun K hK => ?_
      conv => whnf
      refine callV rfl (hF) fun hs' hhs => ?_
      try dsimp only at hhs
      conv => whnf
      refine hK _ ?_
      clear hK K
      refine W.seqK fun K1 hK1 => ?_
      refine W.rs (cx_ok _) (by rfl) fun K hK => ?_
      conv => whnf
      refine hK _ (W.cond ⟨fun _ => ?_, fun hcc => absurd hc (of_decide_eq_false hcc)⟩)
      clear hK K
      refine W.rs (cx_ok _) (by rfl) fun K hK => ?_
      conv => whnf
      refine ⟨⟨(by show 2 ≤ 2; omega), rfl⟩, ?_⟩
      conv => whnf
      refine hK _ ?_
      clear hK K
      refine W.ret ?_
      conv => whnf
      exact ⟨⟨trivial, trivial, trivial⟩, .v (.int .i64 (codeCn p n)), ⟨rfl, rfl⟩, trivial, rfl⟩
    · refine fnt_of (cxt_ok [] [0, 1, 4, 5, 6, 7, 13, 19, 1000000]) Try.func19 rfl (by decide) Try.ntmps19 (Nat.le_of_ble_eq_true rfl) (fun base => ?_) (Nat.le_of_ble_eq_true rfl)
      refine W.sw (c' := cx [0, 1, 4, 5, 6, 7, 13, 19, 1000000]) ?_
      refine W.rs (cx_ok _) (by rfl) fun K hK => ?_
      conv => whnf
      intro b_1 hs_1 hh_1 hf_1
      try dsimp only at hh_1 hf_1
      conv => whnf
      refine hK _ ?_
      clear hK K
      refine W.seqK fun K1 hK1 => ?_
      refine W.rs (cx_ok _) (by rfl) fun K hK => ?_
      conv => whnf
      refine callV rfl (counting_fn p n 1 4) fun hs' hhs => ?_
      try dsimp only at hhs
      conv => whnf
      rw [show (if isP p = true then (if 1 ≤ n ∧ n ≤ 4 then (0 : Int) else 2) else 1) = codeCn p n from rfl]
      refine hK _ ?_
      clear hK K
      refine W.rs (cx_ok _) (by rfl) fun K hK => ?_
      conv => whnf
      refine hK _ (W.cond ⟨fun _ => ?_, fun hcc => absurd hc (of_decide_eq_false hcc)⟩)
      clear hK K
      refine W.rs (cx_ok _) (by rfl) fun K hK => ?_
      conv => whnf
      refine ⟨⟨(by show 2 ≤ 2; omega), rfl⟩, ?_⟩
      conv => whnf
      refine hK _ ?_
      clear hK K
      refine W.ret ?_
      conv => whnf
      exact ⟨⟨trivial, trivial, trivial⟩, .v (.int .i64 (codeCn p n)), ⟨rfl, rfl⟩, trivial, rfl⟩

end Go.Proofs.Ytaiahdeegchobaa

namespace Go.Proofs.Ytaiahdeegchobaa
open Go Go.RowKit Go.ChangeShapes Go.WideShapes Go.ChangeAt Go.Proofs Go.Proofs.Ytaiahdeegchobaa

theorem fn_calls {P : Program} {f : Nat} {xs : List V} {r : V} {w : World} {vs : Array Value} (h : Fn P f xs (fun _ _ a => a = .v r)) (hl : vs.size = xs.length)
    (hr : ∀ j, j < xs.length → Rep (okAll w) w.heap (xs.getD j .nil) (vs.getD j undef)) :
    Calls P f vs w fun e w' => ∃ v, e = .returned v ∧ Below w.heap.size w w' ∧ Rep (okR (fun _ => False) w'.heap.size) w'.heap r v := by
  refine (h.2 (fun _ => False) w vs (fun _ h => h.elim) hl hr).mono fun e w' ⟨v, av, hi, h1, h2, h3, h4, h5⟩ => ?_
  subst h3
  obtain ⟨_, h6, _⟩ := h5
  refine ⟨v, h1, h4, ?_⟩
  exact Rep.mono h6 fun g b hb => ⟨⟨hb.1, fun h => h.elim, hb.2.2⟩, rfl⟩

theorem fn_true {P : Program} {f : Nat} {xs : List V} {w : World} {vs : Array Value} (h : Fn P f xs (fun _ _ a => a = .v .tr)) (hl : vs.size = xs.length)
    (hr : ∀ j, j < xs.length → Rep (okAll w) w.heap (xs.getD j .nil) (vs.getD j undef)) :
    Calls P f vs w fun e w' => e = .returned (.bool true) ∧ Below w.heap.size w w' :=
  (fn_calls h hl hr).mono fun e w' ⟨v, h1, h2, h3⟩ => by
    cases h3
    exact ⟨h1, h2⟩

theorem ownP : ownKnob Try.prog.godebug = none := by kernel_rfl
theorem laidOutP : laidOutB Try.prog = true := by kernel_rfl
theorem cellsInt : Try.prog.cellsOf 2 = 1 := by kernel_rfl

theorem cellsInts : Try.prog.cellsOf 22 = 1 := by kernel_rfl
theorem readsInt {H : Type} {enc : TypeId × Value → H} {W : World} : Reads enc Try.prog W 2 1 TyInt := reads_int Try.underlying2
theorem readsInts {H : Type} {enc : TypeId × Value → H} {W : World} : Reads enc Try.prog W 22 1 TyInts := reads_ints Try.underlying22 Try.underlying2 cellsInt
end Go.Proofs.Ytaiahdeegchobaa

namespace Go.Proofs.Ytaiahdeegchobaa
open Go Go.RowKit Go.Proofs Poly
set_option maxRecDepth 100000
set_option maxHeartbeats 8000000

theorem lawFMakeField (p : Int) (n : Int)  (both : ∃ (r0p : Int) (r0l : List Int) (r1 : Int), (FnV 18 [.int .i64 p, .int .i64 n] (.tup [vK r0p none r0l, .int .i64 r1])) ∧ (FnT Try.prog 19 [.int .i64 p, .int .i64 n] (fun _ _ x tb => ∃ rb0 : Nat, x = .tup [.agg [.int .i64 r0p, .rf rb0 r0l.length], .int .i64 r1] ∧ (r0l ≠ [] → tb rb0 = some r0l))) ∧ r0l.length ≤ 1000000) : FnV 5 [.int .i64 p, .int .i64 n] .tr := by
  refine fn_of (cxt_ok [19] [0, 1, 4, 5, 6, 7, 8, 9, 10, 11, 12, 33, 41, 44, 59, 64, 67, 1000000]) Try.func5 rfl (by decide) Try.ntmps5 (Nat.le_of_ble_eq_true rfl) fun base => ?_
  refine W.tab0 rfl ?_
  refine W.rs (cxt_ok _ _) (by rfl) fun K hK => ?_
  conv => whnf
  refine hK _ ?_
  clear hK K
  obtain ⟨r0p, r0l, r1, hS, hI, hr0⟩ := both
  refine W.rs (cxt_ok _ _) (by rfl) fun K hK => ?_
  conv => whnf
  refine callV rfl (hS) fun hs' hhs => ?_
  try dsimp only at hhs
  conv => whnf
  intro b_w0 hs_w0 hh_w0 hf_w0
  try dsimp only at hh_w0 hf_w0
  conv => whnf
  refine ⟨⟨(by show 2 ≤ 2; omega), rfl⟩, ?_⟩
  conv => whnf
  refine hK _ ?_
  clear hK K
  refine W.rs (cxt_ok _ _) (by rfl) fun K hK => ?_
  conv => whnf
  refine ⟨_, cxT (hI), fun lo_g hi_g hs_g x_g tn_g tb_g hl1_g hl2_g _ hp_g hf_g hn_g ho_g => ?_⟩
  try dsimp only at hl1_g hl2_g
  obtain ⟨gb0, rfl, gh0⟩ := hp_g
  conv => whnf
  intro b_g0 hs_g0 hh_g0 hf_g0
  try dsimp only at hh_g0 hf_g0
  conv => whnf
  refine ⟨⟨(by show 2 ≤ 2; omega), rfl⟩, ?_⟩
  conv => whnf
  refine hK _ ?_
  clear hK K
  have hbd_gb0 : r0l ≠ [] → lo_g ≤ gb0 ∧ gb0 < hs_g := fun h => hf_g _ (by rw [gh0 h]; exact Option.some_ne_none _)
  have hu_gb0 : r0l ≠ [] → tb_g gb0 = some (r0l) := fun h => hn_g _ _ (gh0 h)
  refine W.seqK fun K1 hK1 => ?_
  refine W.rs (cxt_ok _ _) (by rfl) fun K hK => ?_
  conv => whnf
  refine ⟨r0l, ⟨rfl, hu_gb0⟩, ?_⟩
  conv => whnf
  refine callV rfl (eqField_same r0p _ _ r0l (by omega)) fun hs' hhs => ?_
  try dsimp only at hhs
  conv => whnf
  refine hK _ (W.cond ⟨fun hcc => absurd hcc (by simp), fun _ => W.skip (hK1 _ ?_)⟩)
  clear hK K hK1 K1
  refine W.rs (cxt_ok _ _) (by rfl) fun K hK => ?_
  conv => whnf
  refine hK _ ?_
  clear hK K
  refine W.rs (cxt_ok _ _) (by rfl) fun K hK => ?_
  conv => whnf
  refine ⟨⟨rfl, rfl⟩, ?_⟩
  conv => whnf
  refine ⟨rfl, _, markField_fn r0p gb0 r0l.length (1) (by omega) (by omega) tb_g (fun h => ⟨r0l, rfl, hu_gb0 (fun e => h (by rw [e]; rfl))⟩), ?_⟩
  rintro hsm0 av x' t' hhm0 ⟨rfl, rfl, tb_m0, rfl, hb_m0, ho_m0⟩ _ _ _
  try dsimp only at hhm0
  conv => whnf
  refine hK _ ?_
  clear hK K
  have hm_m0_gb0 : r0l ≠ [] → tb_m0 gb0 = some (marks (1) r0l.length) := fun h => hb_m0 (fun e => h (List.eq_nil_of_length_eq_zero e))
  refine W.rs (cxt_ok _ _) (by rfl) fun K hK => ?_
  conv => whnf
  refine hK _ ?_
  clear hK K
  refine W.rs (cxt_ok _ _) (by rfl) fun K hK => ?_
  conv => whnf
  refine ⟨marks (1) r0l.length, ⟨marks_length .., fun h => hm_m0_gb0 (marks_ne h)⟩, ?_⟩
  conv => whnf
  refine callV rfl (heldField_fn r0p _ (1) r0l.length (by omega) (by omega)) fun hs' hhs => ?_
  try dsimp only at hhs
  conv => whnf
  refine hK _ ?_
  clear hK K
  refine W.seqK fun K1 hK1 => ?_
  refine W.rs (cxt_ok _ _) (by rfl) fun K hK => ?_
  conv => whnf
  refine hK _ (W.cond ⟨fun h7 => (by have := of_decide_eq_true h7; omega), fun _ => W.skip (hK1 _ ?_)⟩)
  clear hK K hK1 K1
  refine W.seqK fun K1 hK1 => ?_
  refine W.rs (cxt_ok _ _) (by rfl) fun K hK => ?_
  conv => whnf
  refine hK _ (W.cond ⟨fun hcc => absurd rfl (of_decide_eq_true hcc), fun _ => W.skip (hK1 _ ?_)⟩)
  clear hK K hK1 K1
  refine W.rs (cxt_ok _ _) (by rfl) fun K hK => ?_
  conv => whnf
  refine ⟨_, cxT (hI), fun lo_h hi_h hs_h x_h tn_h tb_h hl1_h hl2_h _ hp_h hf_h hn_h ho_h => ?_⟩
  try dsimp only at hl1_h hl2_h
  obtain ⟨hb0, rfl, hh0⟩ := hp_h
  conv => whnf
  intro b_h0 hs_h0 hh_h0 hf_h0
  try dsimp only at hh_h0 hf_h0
  conv => whnf
  refine ⟨⟨(by show 2 ≤ 2; omega), rfl⟩, ?_⟩
  conv => whnf
  refine hK _ ?_
  clear hK K
  have hm_m0_gb0_h : r0l ≠ [] → tb_h gb0 = some (marks (1) r0l.length) := fun h => ho_h _ _ (hm_m0_gb0 h)
  have hbd_hb0 : r0l ≠ [] → lo_h ≤ hb0 ∧ hb0 < hs_h := fun h => hf_h _ (by rw [hh0 h]; exact Option.some_ne_none _)
  have hu_hb0 : r0l ≠ [] → tb_h hb0 = some (r0l) := fun h => hn_h _ _ (hh0 h)
  refine W.seqK fun K1 hK1 => ?_
  refine W.rs (cxt_ok _ _) (by rfl) fun K hK => ?_
  conv => whnf
  refine ⟨r0l, ⟨rfl, hu_hb0⟩, ?_⟩
  conv => whnf
  refine callV rfl (eqField_same r0p _ _ r0l (by omega)) fun hs' hhs => ?_
  try dsimp only at hhs
  conv => whnf
  refine hK _ (W.cond ⟨fun hcc => absurd hcc (by simp), fun _ => W.skip (hK1 _ ?_)⟩)
  clear hK K hK1 K1
  refine W.rs (cxt_ok _ _) (by rfl) fun K hK => ?_
  conv => whnf
  refine hK _ ?_
  clear hK K
  refine W.rs (cxt_ok _ _) (by rfl) fun K hK => ?_
  conv => whnf
  refine ⟨marks (1) r0l.length, ⟨marks_length .., fun h => hm_m0_gb0_h (marks_ne h)⟩, ?_⟩
  conv => whnf
  refine callV rfl (heldField_fn r0p _ (1) r0l.length (by omega) (by omega)) fun hs' hhs => ?_
  try dsimp only at hhs
  conv => whnf
  refine hK _ ?_
  clear hK K
  refine W.seqK fun K1 hK1 => ?_
  refine W.rs (cxt_ok _ _) (by rfl) fun K hK => ?_
  conv => whnf
  refine hK _ (W.cond ⟨fun h7 => (by have := of_decide_eq_true h7; omega), fun _ => W.skip (hK1 _ ?_)⟩)
  clear hK K hK1 K1
  refine W.seqK fun K1 hK1 => ?_
  refine W.rs (cxt_ok _ _) (by rfl) fun K hK => ?_
  conv => whnf
  refine hK _ (W.cond ⟨fun hcc => absurd rfl (of_decide_eq_true hcc), fun _ => W.skip (hK1 _ ?_)⟩)
  clear hK K hK1 K1
  refine W.rs (cxt_ok _ _) (by rfl) fun K hK => ?_
  conv => whnf
  refine hK _ ?_
  clear hK K
  refine W.ret ?_
  conv => whnf
  exact ⟨.v (.tr), rfl, trivial, rfl⟩

theorem lawMakeField (p : Int) (n : Int) (h_p : inR p) (h_n : inR n)  : FnV 5 [.int .i64 p, .int .i64 n] .tr :=
  lawFMakeField p n  (MakeField_both p n h_p h_n )

end Go.Proofs.Ytaiahdeegchobaa
