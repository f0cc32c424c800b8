/- What the program's functions and the reference's return. No conditions. -/
import Derived.Test.YtlhgbljojdbhgaaGreatPe
namespace Go.Proofs.YtlhgbljojdbhgaaGreat
open Go Go.RowKit Go.Proofs Poly
set_option maxRecDepth 100000
set_option maxHeartbeats 8000000

theorem indexInts_fn (g : Option Nat) (xs : List Int) (v : Int) (hl : xs.length ≤ 100000000) : Fn Tryz.prog 428 [.ints g xs, .int .i64 v] (fun _ _ z => ∃ r : Int, z = .v (.int .i64 r) ∧ (0 ≤ r ↔ v ∈ xs)) := by
 refine fn_of (cx_ok [0, 1, 4, 5, 7, 8, 9, 16]) Tryz.func428 rfl (by decide) Tryz.ntmps428 (Nat.le_of_ble_eq_true rfl) fun base => ?_
 refine wrs fun K hK => ?_
 conv => whnf
 refine hK _ ?_
 clear hK K
 refine W.seqK fun K1 hK1 => wrs fun K hK => ?_
 conv => whnf
 refine hK _ (W.block (W.invA (fun m e => ∃ i : Nat, i ≤ xs.length ∧ (∀ j, j < i → cf xs j ≠ v) ∧ m = xs.length - i ∧ e = [(0, .v (.ints g xs)), (1, .v (.int .i64 v)), (7, .v (.int .i64 xs.length)), (8, .v (.int .i64 i))]) ⟨0, Nat.zero_le _, fun j hj => by omega, rfl, rfl⟩ ?_))
 clear hK K
 rintro m e ⟨i, h1, h2, hm, rfl⟩
 refine wrs fun K hK => ?_
 conv => whnf
 refine hK _ ?_
 clear hK K
 refine W.seqK fun K7 hK7 => W.cond ⟨fun h => ?_, fun h => ?_⟩ <;> (first | replace h := of_decide_eq_true h | replace h := of_decide_eq_false h)
 ·refine W.skip (hK7 _ ?_)
  clear hK7 K7
  refine W.seqK fun K8 hK8 => W.block ?_
  refine wrs fun K hK => ?_
  conv => whnf
  refine hK _ ?_
  clear hK K
  refine wrs fun K hK => ?_
  conv => whnf
  refine ⟨oo, ?_⟩
  conv => whnf
  rw [Int.toNat_natCast]
  refine hK _ (W.cond ⟨fun h3 => ?_, fun h3 => ?_⟩) <;> clear hK K
  ·have h3 := of_decide_eq_true h3
   refine wrs fun K hK => ?_
   conv => whnf
   refine hK _ ?_
   clear hK K
   refine W.ret ?_
   conv => whnf
   refine ⟨.v (.int .i64 i), ⟨rfl, rfl⟩, trivial, i, rfl, fun _ => ?_, fun _ => by omega⟩
   have : v = cf xs i := h3
   rw [this]; exact cf_mem (by omega)
  ·have h3 := of_decide_eq_false h3
   refine W.skip (hK8 _ ?_)
   clear hK8 K8
   refine wrg ?_
   conv => whnf
   refine ⟨oo, ?_⟩
   conv => whnf
   have h4 : ∀ j, j < i + 1 → cf xs j ≠ v := fun j hj => by
    by_cases hji : j = i
    ·subst hji; exact fun h => h3 h.symm
    ·exact h2 j (by omega)
   exact againA ⟨i + 1, by omega, h4, rfl, rfl⟩
 ·refine W.exit (hK1 _ ?_)
  clear hK7 K7 hK1 K1
  refine wrs fun K hK => ?_
  conv => whnf
  refine hK _ ?_
  clear hK K
  refine W.ret ?_
  conv => whnf
  refine ⟨.v (.int .i64 (-1)), ⟨rfl, rfl⟩, trivial, -1, rfl, fun h => by omega, fun hv => ?_⟩
  obtain ⟨j, hj, he⟩ := List.getElem_of_mem hv
  exact absurd (by rw [cf_lt hj]; exact he) (h2 j (by omega))
theorem containsInts_fn (g : Option Nat) (xs : List Int) (v : Int) (hl : xs.length ≤ 100000000) : FnV 421 [.ints g xs, .int .i64 v] (.bool (decide (v ∈ xs))) := by
 refine fn_of (cx_ok [0, 1, 4]) Tryz.func421 rfl (by decide) Tryz.ntmps421 (Nat.le_of_ble_eq_true rfl) fun base => ?_
 refine wrs fun K hK => ?_
 conv => whnf
 refine hK _ ?_
 clear hK K
 refine wrs fun K hK => ?_
 conv => whnf
 refine callP rfl (indexInts_fn g xs v hl) ?_
 rintro lo hi hi' z h1 h2 h3 ⟨r, rfl, hr⟩ _
 conv => whnf
 refine hK _ ?_
 clear hK K
 refine W.ret ?_
 conv => whnf
 exact ⟨.v (.bool (decide (v ∈ xs))), decide_eq_decide.2 hr, trivial, rfl⟩

def natsI (l : List Nat) : List Int := l.map Int.ofNat
theorem natsI_length (l : List Nat) : (natsI l).length = l.length := List.length_map ..
theorem natsI_append (l : List Nat) (c : Nat) : natsI (l ++ [c]) = natsI l ++ [(c : Int)] := by simp [natsI]
theorem natsI_mem (l : List Nat) (c : Nat) : (c : Int) ∈ natsI l ↔ c ∈ l := by
 simp only [natsI, List.mem_map, Int.ofNat_eq_natCast]
 constructor
 ·rintro ⟨a, h, e⟩
  obtain rfl : a = c := by omega
  exact h
 ·exact fun h => ⟨c, h, rfl⟩
theorem natsI_cf {l : List Nat} {i : Nat} (h : i < l.length) : cf (natsI l) i = (l[i] : Nat) := by
 rw [cf_lt (by rw [natsI_length]; exact h)]
 simp [natsI]

structure MatT (tb : Nat → Option (List Int)) (bl : Nat → Nat) (n : Nat) (R : Nat → Nat → Int) : Prop where
 inj : ∀ i j, i < n → j < n → bl i = bl j → i = j
 row : ∀ i, i < n → ∃ l, tb (bl i) = some l ∧ l.length = n ∧ ∀ x, x < n → cf l x = R i x

theorem MatT.store {tb : Nat → Option (List Int)} {bl : Nat → Nat} {n : Nat} {R : Nat → Nat → Int} (h : MatT tb bl n R) {i x : Nat} (hi : i < n) (hx : x < n) {l : List Int} (hl : tb (bl i) = some l) (v : Int) :
  MatT (tbSet tb (bl i) (l.set x v)) bl n (fun a y => if a = i ∧ y = x then v else R a y) := by
 refine ⟨h.inj, fun a ha => ?_⟩
 obtain ⟨l1, h1, h2, h3⟩ := h.row a ha
 by_cases he : a = i
 ·subst he
  rw [hl] at h1
  cases h1
  refine ⟨l.set x v, tbSet_self _ _ _, by simpa using h2, fun y hy => ?_⟩
  rw [cf_set (by omega)]
  by_cases hyx : y = x
  ·simp [hyx]
  ·simp [hyx, h3 y hy]
 ·have hne : bl a ≠ bl i := fun e => he (h.inj a i ha hi e)
  refine ⟨l1, by rw [tbSet_ne _ _ hne]; exact h1, h2, fun y hy => ?_⟩
  simp [he, h3 y hy]
theorem MatT.congr {tb : Nat → Option (List Int)} {bl : Nat → Nat} {n : Nat} {R R' : Nat → Nat → Int} (h : MatT tb bl n R) (he : ∀ i x, i < n → x < n → R i x = R' i x) : MatT tb bl n R' :=
 ⟨h.inj, fun i hi => by obtain ⟨l, h1, h2, h3⟩ := h.row i hi; exact ⟨l, h1, h2, fun x hx => by rw [h3 x hx, he i x hi hx]⟩⟩
theorem MatT.swap {tb : Nat → Option (List Int)} {bl : Nat → Nat} {n : Nat} {R : Nat → Nat → Int} (h : MatT tb bl n R) {a k : Nat} (ha : a < n) (hk : k < n) :
  MatT tb (fun j => if j = k then bl a else if j = a then bl k else bl j) n (fun j => if j = k then R a else if j = a then R k else R j) := by
 refine ⟨fun i j hi hj he => ?_, fun i hi => ?_⟩
 ·have key : ∀ i, i < n → ∃ i', i' < n ∧ (if i = k then bl a else if i = a then bl k else bl i) = bl i' ∧ (i' = if i = k then a else if i = a then k else i) := fun i hi => by
   by_cases h1 : i = k
   ·exact ⟨a, ha, by rw [if_pos h1], by rw [if_pos h1]⟩
   ·by_cases h2 : i = a
    ·exact ⟨k, hk, by rw [if_neg h1, if_pos h2], by rw [if_neg h1, if_pos h2]⟩
    ·exact ⟨i, hi, by rw [if_neg h1, if_neg h2], by rw [if_neg h1, if_neg h2]⟩
  obtain ⟨i', h1, h2, h3⟩ := key i hi
  obtain ⟨j', h4, h5, h6⟩ := key j hj
  have he' : (if i = k then bl a else if i = a then bl k else bl i) = (if j = k then bl a else if j = a then bl k else bl j) := he
  rw [h2, h5] at he'
  have := h.inj i' j' h1 h4 he'
  subst this
  clear he he' h2 h5
  split at h3 <;> split at h6 <;> first | omega | (split at h3 <;> first | omega | (split at h6 <;> omega)) | (split at h6 <;> omega)
 ·show ∃ l, tb (if i = k then bl a else if i = a then bl k else bl i) = some l ∧ l.length = n ∧ ∀ x, x < n → cf l x = (if i = k then R a else if i = a then R k else R i) x
  by_cases h1 : i = k
  ·rw [if_pos h1, if_pos h1]; exact h.row a ha
  ·rw [if_neg h1, if_neg h1]
   by_cases h2 : i = a
   ·rw [if_pos h2, if_pos h2]; exact h.row k hk
   ·rw [if_neg h2, if_neg h2]; exact h.row i hi

theorem swap_rows {p : Int} {tb : Nat → Option (List Int)} {bl : Nat → Nat} {n col k : Nat} {piv : List Nat} {R R0 : Nat → Nat → Int} (hst : Steps p n col piv R) (hsol : ∀ c, Sol p n n R c ↔ Sol p n n R0 c) (hR : ∀ i x, i < n → x < n → 0 ≤ R i x ∧ R i x < p) (hM : MatT tb bl n R)
  (hk : k < n) (hat : piv.length ≤ k) (hne : R k col ≠ 0) : ∃ (bl1 : Nat → Nat) (R1 : Nat → Nat → Int), (∀ j, (if j = k then bl piv.length else if j = piv.length then bl k else bl j) = bl1 j) ∧ Steps p n col piv R1 ∧ (∀ c, Sol p n n R1 c ↔ Sol p n n R0 c) ∧ (∀ i x, i < n → x < n → 0 ≤ R1 i x ∧ R1 i x < p) ∧ MatT tb bl1 n R1 ∧ R1 piv.length col ≠ 0 := by
 have ha : piv.length < n := by omega
 have e1 : (fun j => if j = k then R piv.length else if j = piv.length then R k else R j) piv.length = R k := by
  show (if piv.length = k then R piv.length else if piv.length = piv.length then R k else R piv.length) = R k
  by_cases h : piv.length = k
  ·rw [if_pos h, h]
  ·rw [if_neg h, if_pos rfl]
 have e2 : (fun j => if j = k then R piv.length else if j = piv.length then R k else R j) k = R piv.length := if_pos rfl
 have e3 : ∀ j, j < n → j ≠ piv.length → j ≠ k → (fun j => if j = k then R piv.length else if j = piv.length then R k else R j) j = R j := fun j _ h1 h2 => by
  show (if j = k then R piv.length else if j = piv.length then R k else R j) = R j
  rw [if_neg h2, if_neg h1]
 refine ⟨_, _, fun j => rfl, hst.swap hat hk e1 e2 e3, fun c => (sol_swap ha hk e1 e2 e3 c).trans (hsol c), fun i x hi hx => ?_, hM.swap ha hk, ?_⟩
 ·show 0 ≤ (if i = k then R piv.length else if i = piv.length then R k else R i) x ∧ (if i = k then R piv.length else if i = piv.length then R k else R i) x < p
  split
  ·exact hR _ x ha hx
  ·split
   ·exact hR _ x hk hx
   ·exact hR i x hi hx
 ·show (fun j => if j = k then R piv.length else if j = piv.length then R k else R j) piv.length col ≠ 0
  rw [e1]; exact hne

theorem elim_rows {p : Int} [SP p] {n col : Nat} {piv : List Nat} {R1 R0 R3 : Nat → Nat → Int} {sc : Int} (hst : Steps p n col piv R1) (hsol : ∀ c, Sol p n n R1 c ↔ Sol p n n R0 c) (hc : col < n) (hat : piv.length < n) (hsc : R1 piv.length col * sc % p = 1)
  (ha : ∀ x, x < n → R3 piv.length x = R1 piv.length x * sc % p) (ho : ∀ i x, i < n → x < n → i ≠ piv.length → R3 i x = (R1 i x - R1 i col * (R1 piv.length x * sc % p)) % p) :
  Steps p n (col + 1) (piv ++ [col]) R3 ∧ (∀ c, Sol p n n R3 c ↔ Sol p n n R0 c) ∧ ∀ i x, i < n → x < n → 0 ≤ R3 i x ∧ R3 i x < p := by
 have hp := Pr.two (p := p)
 have h1 : ∀ x, x < n → R3 piv.length x % p = (sc * R1 piv.length x) % p := fun x hx => by rw [ha x hx, emod_self_mul, Int.mul_comm]
 have h2 : ∀ i, i < n → i ≠ piv.length → ∀ x, x < n → R3 i x % p = (R1 i x - R1 i col * (sc * R1 piv.length x)) % p := fun i hi hne x hx => by
  rw [ho i x hi hx hne, emod_self_mul]
  refine sub_mod rfl (mul_mod_right _ ?_)
  rw [emod_self_mul, Int.mul_comm]
 refine ⟨hst.pivot (Int.emod_eq_of_lt (by omega) (by omega)) hc hat (by rw [Int.mul_comm]; exact hsc) h1 h2, fun c => (sol_pivot (b := R1 piv.length col) (by rw [Int.mul_comm]; exact hsc) hat h1 (fun i hi hne => ⟨R1 i col, h2 i hi hne⟩) c).trans (hsol c), fun i x hi hx => ?_⟩
 have hm : ∀ a : Int, 0 ≤ a % p ∧ a % p < p := fun a => ⟨Int.emod_nonneg _ (by omega), Int.emod_lt_of_pos _ (by omega)⟩
 by_cases hne : i = piv.length
 ·rw [hne, ha x hx]; exact hm _
 ·rw [ho i x hi hx hne]; exact hm _

theorem getD_app_l {p : Int} [SP p] {L : List (Poly p)} {w : Poly p} {j : Nat} (h : j < L.length) : (L ++ [w]).getD j 0 = L.getD j 0 := by
 rw [List.getD_eq_getElem?_getD, List.getElem?_append_left h, ← List.getD_eq_getElem?_getD]
theorem getD_app_r {p : Int} [SP p] {L : List (Poly p)} {w : Poly p} : (L ++ [w]).getD (L.length + 0) 0 = w := by
 rw [List.getD_eq_getElem?_getD, List.getElem?_append_right (by omega)]
 simp
theorem idx_take {piv : List Nat} (hn : piv.Nodup) {i : Nat} (hi : i < piv.length) (x : Nat) : (piv.take (i + 1)).idxOf? x = if x = piv[i] then some i else (piv.take i).idxOf? x := by
 have h1 : (piv.take (i + 1)).Nodup := hn.sublist (List.take_sublist _ _)
 have h2 : (piv.take i).Nodup := hn.sublist (List.take_sublist _ _)
 split
 ·rename_i h
  refine idx_of h1 ?_
  rw [List.getElem?_take, if_pos (by omega), List.getElem?_eq_getElem hi, h]
 ·rename_i h
  by_cases hm : x ∈ piv.take i
  ·obtain ⟨j, hj, he⟩ := List.mem_iff_getElem.1 hm
   have hj' : j < i := by simp at hj; omega
   have e1 : (piv.take i)[j]? = some x := by rw [List.getElem?_eq_getElem hj, he]
   have e2 : (piv.take (i + 1))[j]? = some x := by
    rw [List.getElem?_take, if_pos hj'] at e1
    rw [List.getElem?_take, if_pos (by omega), e1]
   rw [idx_of h1 e2, idx_of h2 e1]
  ·rw [idx_none hm, idx_none]
   rw [List.take_add_one, List.getElem?_eq_getElem hi, List.mem_append]
   rintro (h3 | h3)
   ·exact hm h3
   ·simp at h3; exact h h3

set_option maxHeartbeats 8000000 in
theorem nullspace_fn (p : Int) [SP p] (n : Nat) (hn0 : 1 ≤ n) (hn : n ≤ 1000) (el b : Nat) (bl0 : Nat → Nat) (R0 : Nat → Nat → Int) (tb0 : Nat → Option (List Int)) (hM0 : MatT tb0 bl0 n R0) (hR0 : ∀ i x, i < n → x < n → 0 ≤ R0 i x ∧ R0 i x < p) :
    MFn Tryz.prog 401 [.int .i64 p, .nil] 1 (.ownV el 1 b n fun j => .rf (bl0 j) n) (.tab tb0) (fun _ av x' t' => x' = .dead ∧ t' = .dead ∧ ∃ L : List (Poly p), Basis p n R0 L ∧ av = .v (vPs L)) := by
  have hp := Pr.two (p := p)
  have hp2 := SP.le (p := p)
  refine mfn_of (cx := cx [0, 1, 4, 5, 6, 7, 8, 9, 10, 11, 12, 13, 14, 15, 16, 17, 18, 19, 22, 23, 24, 41, 46, 70, 71, 72, 92, 93, 94, 109, 110, 111, 112, 146, 147, 148, 152, 158, 159, 160, 161, 1000000, 1000001]) Tryz.func401 rfl (by decide) Tryz.ntmps401 (Nat.le_of_ble_eq_true rfl) (Nat.le_of_ble_eq_true rfl) rfl rfl fun base hs0 O U hw v0 hb0 => ?_
  refine wrs fun K hK => ?_
  conv => whnf
  refine hK _ ?_
  clear hK K
  refine wrs fun K hK => ?_
  conv => whnf
  refine hK _ ?_
  clear hK K
  refine wrs fun K hK => ?_
  conv => whnf
  refine hK _ ?_
  clear hK K
  refine W.seqK fun K1 hK1 => wrs fun K hK => ?_
  conv => whnf
  refine hK _ (W.block (W.invH hs0 hb0 (fun m e => ∃ (col bp : Nat) (piv : List Nat) (bl : Nat → Nat) (tb : Nat → Option (List Int)) (R : Nat → Nat → Int), col ≤ n ∧ Steps p n col piv R ∧ (∀ c, Sol p n n R c ↔ Sol p n n R0 c) ∧ (∀ i x, i < n → x < n → 0 ≤ R i x ∧ R i x < p) ∧ MatT tb bl n R ∧ m = n - col ∧ e = [(0, .v (.int .i64 p)), (1, .ownV el 1 b n fun j => .rf (bl j) n), (5, .v (.int .i64 n)), (6, .ownI 3 bp (natsI piv)), (22, .v (.int .i64 n)), (23, .v (.int .i64 col)), (vt, .tab tb), (vk, .keep O U hw 1 v0)]) _ _ (⟨0, 0, [], bl0, tb0, R0, Nat.zero_le _, Steps.start p n R0, fun _ => Iff.rfl, hR0, hM0, rfl, rfl⟩) (by dsimp only; omega) (by repeat' first | refine And.intro ?_ ?_ | exact trivial | rfl | omega | exact .inl rfl | exact fun _ _ => rfl | exact fun _ _ h => h | assumption | exact fun i hi => (by obtain rfl : i = 0 := (by omega); rfl)) ?_))
  clear hK K
  rintro m e ⟨col, bp, piv, bl, tb, R, h1, hst, hsol, hR, hM, hm, rfl⟩
  refine wrs fun K hK => ?_
  conv => whnf
  refine hK _ ?_
  clear hK K
  refine W.seqK fun K7 hK7 => W.cond ⟨fun h2 => ?_, fun h2 => ?_⟩ <;> (first | replace h2 := of_decide_eq_true h2 | replace h2 := of_decide_eq_false h2)
  · have h2 : col < n := by omega
    refine W.skip (hK7 _ ?_)
    clear hK7 K7
    refine W.seqK fun K8 hK8 => W.block ?_
    refine wrs fun K hK => ?_
    conv => whnf
    refine hK _ ?_
    clear hK K
    refine wrs fun K hK => ?_
    conv => whnf
    rw [natsI_length]
    refine hK _ ?_
    clear hK K
    refine wrs fun K hK => ?_
    conv => whnf
    refine hK _ ?_
    clear hK K
    have hle := hst.le
    refine W.seqK fun K1 hK1 => W.block (W.invH hs0 hb0 (fun m e => ∃ k : Nat, piv.length ≤ k ∧ k ≤ n ∧ (∀ j, piv.length ≤ j → j < k → R j col = 0) ∧ m = n - k ∧ e = [(0, .v (.int .i64 p)), (1, .ownV el 1 b n fun j => .rf (bl j) n), (5, .v (.int .i64 n)), (6, .ownI 3 bp (natsI piv)), (7, .v (.int .i64 col)), (8, .v (.int .i64 piv.length)), (9, .v (.int .i64 k)), (22, .v (.int .i64 n)), (23, .v (.int .i64 col)), (vt, .tab tb), (vk, .keep O U hw 1 v0)]) _ _ (⟨piv.length, Nat.le_refl _, hle, fun j h3 h4 => by omega, rfl, rfl⟩) (by dsimp only; omega) (by repeat' first | refine And.intro ?_ ?_ | exact trivial | rfl | omega | exact .inl rfl | exact fun _ _ => rfl | exact fun _ _ h => h | assumption | exact fun i hi => (by obtain rfl : i = 0 := (by omega); rfl)) ?_)
    rintro m' e ⟨k, h3, h4, h5, hm', rfl⟩
    -- where the search ends
    have hout : (k = n ∨ (k < n ∧ R k col ≠ 0)) → ∀ s : S, hs0 ≤ s.hs → coverK s.env [(0, .v (.int .i64 p)), (1, .ownV el 1 b n fun j => .rf (bl j) n), (5, .v (.int .i64 n)), (6, .ownI 3 bp (natsI piv)), (7, .v (.int .i64 col)), (8, .v (.int .i64 piv.length)), (9, .v (.int .i64 k)), (22, .v (.int .i64 n)), (23, .v (.int .i64 col)), (vt, .tab tb), (vk, .keep O U hw 1 v0)] → K1 s := by
      intro hkk s hs1 hs2
      refine hK1 _ (W.weak (t := ⟨[(0, .v (.int .i64 p)), (1, .ownV el 1 b n fun j => .rf (bl j) n), (5, .v (.int .i64 n)), (6, .ownI 3 bp (natsI piv)), (7, .v (.int .i64 col)), (8, .v (.int .i64 piv.length)), (9, .v (.int .i64 k)), (22, .v (.int .i64 n)), (23, .v (.int .i64 col)), (vt, .tab tb), (vk, .keep O U hw 1 v0)], hs0⟩) ⟨hs1, hs2⟩ hb0 ?_)
      clear hs1 hs2 hK1 K1
      refine W.seqK fun K3 hK3 => wrs fun K hK => ?_
      conv => whnf
      refine hK _ (W.cond ⟨fun h6 => ?_, fun h6 => ?_⟩) <;> clear hK K
      · have h6 : k = n := by have := of_decide_eq_true h6; omega
        refine W.exit (hK8 _ ?_)
        clear hK8 K8 hK3 K3
        refine wrg ?_
        conv => whnf
        refine ⟨oo, ?_⟩
        conv => whnf
        exact againA ⟨col + 1, bp, piv, bl, tb, R, by omega, hst.skip (fun j h7 h8 => by rw [h5 j h7 (by omega)]; simp), hsol, hR, hM, rfl, rfl⟩
      · have h6 : k < n ∧ R k col ≠ 0 := by have := of_decide_eq_false h6; rcases hkk with h | h; omega; exact h
        obtain ⟨hkn, hne⟩ := h6
        have hat : piv.length < n := by omega
        obtain ⟨bl1, R1, hb1, hst1, hsol1, hR1, hM1, hne1⟩ := swap_rows hst hsol hR hM hkn h3 hne
        clear hst hsol hR h5
        refine W.skip (hK3 _ ?_)
        clear hK3 K3
        refine W.rd (cx_ok _) follows (by rfl) fun K hK => ?_
        conv => whnf
        refine ⟨oo, ?_⟩
        conv => whnf
        refine ⟨oo, ?_⟩
        conv => whnf
        refine ⟨oo, ?_⟩
        conv => whnf
        rw [Int.toNat_natCast, Int.toNat_natCast]
        refine ⟨⟨by show 0 + 1 ≤ 1; omega, rfl⟩, fun j => .rf (if j = piv.length then bl k else bl j) n, by show V.rf (if piv.length = piv.length then bl k else bl piv.length) n = _; rw [if_pos rfl]; rfl, fun j _ hj => by show V.rf (if j = piv.length then bl k else bl j) n = _; rw [if_neg hj], ?_⟩
        conv => whnf
        refine ⟨oo, ?_⟩
        conv => whnf
        rw [Int.toNat_natCast]
        refine ⟨⟨by show 0 + 1 ≤ 1; omega, rfl⟩, fun j => .rf (if j = k then bl piv.length else if j = piv.length then bl k else bl j) n, by show V.rf (if k = k then bl piv.length else if k = piv.length then bl k else bl k) n = _; rw [if_pos rfl]; rfl, fun j _ hj => by show V.rf (if j = k then bl piv.length else if j = piv.length then bl k else bl j) n = V.rf (if j = piv.length then bl k else bl j) n; rw [if_neg hj], ?_⟩
        conv => whnf
        refine hK _ (W.weak (t := ⟨[(0, .v (.int .i64 p)), (1, .ownV el 1 b n fun j => .rf (bl1 j) n), (5, .v (.int .i64 n)), (6, .ownI 3 bp (natsI piv)), (7, .v (.int .i64 col)), (8, .v (.int .i64 piv.length)), (22, .v (.int .i64 n)), (23, .v (.int .i64 col)), (vt, .tab tb), (vk, .keep O U hw 1 v0)], hs0⟩) ⟨by dsimp only; omega, ?_⟩ hb0 ?_)
        · repeat' first | refine And.intro ?_ ?_ | exact trivial | rfl | omega | assumption | exact fun i _ => congrArg (fun z => V.rf z n) (hb1 i) | exact fun _ _ h => h
        clear hK K
        obtain ⟨la, hla1, hla2, hla3⟩ := hM1.row piv.length hat
        have e1 : la.getD col 0 = R1 piv.length col := hla3 col h2
        have hrc := hR1 piv.length col hat h2
        have hmod : R1 piv.length col % p ≠ 0 := by rw [Int.emod_eq_of_lt hrc.1 hrc.2]; exact hne1
        obtain ⟨hi1, hi2, hi3⟩ := invm_spec hmod
        generalize hsc : invm p (R1 piv.length col) = sc at hi1 hi2 hi3
        refine wrs fun K hK => ?_
        conv => whnf
        refine ⟨oo, ?_⟩
        conv => whnf
        rw [Int.toNat_natCast]
        refine ⟨oo, ?_⟩
        conv => whnf
        rw [Int.toNat_natCast]
        refine ⟨la, hla1, by omega, ?_⟩
        conv => whnf
        rw [e1]
        refine callV rfl (inverseBy_fn p _ (by omega) hmod) fun hs' hhs => ?_
        try dsimp only at hhs
        conv => whnf
        rw [hsc]
        refine hK _ ?_
        clear hK K
        clear hla1 hla2 hla3 e1 la
        -- the pivot's row is scaled
        refine W.seqK fun K4 hK4 => wrs fun K hK => ?_
        conv => whnf
        refine hK _ (W.block (W.invH hs0 hb0 (fun m e => ∃ (j : Nat) (tb : Nat → Option (List Int)), j ≤ n ∧ MatT tb bl1 n (fun i x => if i = piv.length ∧ x < j then R1 i x * sc % p else R1 i x) ∧ m = n - j ∧ e = [(0, .v (.int .i64 p)), (1, .ownV el 1 b n fun j => .rf (bl1 j) n), (5, .v (.int .i64 n)), (6, .ownI 3 bp (natsI piv)), (7, .v (.int .i64 col)), (8, .v (.int .i64 piv.length)), (10, .v (.int .i64 sc)), (22, .v (.int .i64 n)), (23, .v (.int .i64 col)), (vt, .tab tb), (vk, .keep O U hw 1 v0), (70, .v (.int .i64 n)), (71, .v (.int .i64 j))]) _ _ (⟨0, tb, Nat.zero_le _, hM1.congr fun i x _ _ => by rw [if_neg (by omega)], rfl, rfl⟩) (by dsimp only; omega) (by repeat' first | refine And.intro ?_ ?_ | exact trivial | rfl | omega | exact .inl rfl | exact fun _ _ => rfl | exact fun _ _ h => h | assumption | exact fun i hi => (by obtain rfl : i = 0 := (by omega); rfl)) ?_))
        clear hK K
        clear hM1 hM tb
        rintro m2 e ⟨j, tb, hj, hMj, hm2, rfl⟩
        refine wrs fun K hK => ?_
        conv => whnf
        refine hK _ ?_
        clear hK K
        refine W.seqK fun K7 hK7 => W.cond ⟨fun h6 => ?_, fun h6 => ?_⟩ <;> (first | replace h6 := of_decide_eq_true h6 | replace h6 := of_decide_eq_false h6)
        · have h6 : j < n := by omega
          obtain ⟨la, hla1, hla2, hla3⟩ := hMj.row piv.length hat
          have e1 : la.getD j 0 = R1 piv.length j := by
            have := hla3 j h6
            rw [if_neg (by omega)] at this; exact this
          have hrj := hR1 piv.length j hat h6
          have h7 := mul97 (a := R1 piv.length j) (b := sc) (by omega) (by omega)
          have h8 : 0 ≤ R1 piv.length j * sc := Int.mul_nonneg hrj.1 hi1
          refine W.skip (hK7 _ ?_)
          clear hK7 K7
          refine W.seqK fun K5 hK5 => W.block ?_
          refine wrs fun K hK => ?_
          conv => whnf
          refine hK _ ?_
          clear hK K
          refine W.draw (cx_ok _) follows (by rfl) ?_
          conv => whnf
          refine ⟨oo, ?_⟩
          conv => whnf
          refine ⟨oo, ?_⟩
          conv => whnf
          rw [Int.toNat_natCast]
          refine ⟨oo, ?_⟩
          conv => whnf
          rw [Int.toNat_natCast]
          refine ⟨la, hla1, by omega, ?_⟩
          conv => whnf
          rw [e1]
          refine ⟨oo, ?_⟩
          conv => whnf
          refine ⟨by omega, ?_⟩
          conv => whnf
          rw [Int.tmod_eq_emod_of_nonneg h8]
          refine ⟨oo, ?_⟩
          conv => whnf
          refine ⟨la, hla1, by omega, ?_⟩
          conv => whnf
          refine hK5 _ ?_
          clear hK5 K5
          refine wrg ?_
          conv => whnf
          refine ⟨oo, ?_⟩
          conv => whnf
          have h9 := (hMj.store hat h6 hla1 (R1 piv.length j * sc % p)).congr (R' := fun i x => if i = piv.length ∧ x < j + 1 then R1 i x * sc % p else R1 i x) fun i x hi hx => by
            show (if i = piv.length ∧ x = j then R1 piv.length j * sc % p else if i = piv.length ∧ x < j then R1 i x * sc % p else R1 i x) = if i = piv.length ∧ x < j + 1 then R1 i x * sc % p else R1 i x
            by_cases c1 : i = piv.length
            · subst c1
              by_cases c2 : x = j
              · subst c2; rw [if_pos ⟨rfl, rfl⟩, if_pos ⟨rfl, by omega⟩]
              · rw [if_neg (by omega)]
                by_cases c3 : x < j
                · rw [if_pos ⟨rfl, c3⟩, if_pos ⟨rfl, by omega⟩]
                · rw [if_neg (by omega), if_neg (by omega)]
            · rw [if_neg (by omega), if_neg (by omega), if_neg (by omega)]
          exact againA ⟨j + 1, _, by omega, h9, rfl, rfl⟩
        · obtain rfl : n = j := by omega
          refine W.exit (hK4 _ ?_)
          clear hK7 K7 hK4 K4
          have hmm : ∀ a : Int, 0 ≤ a % p ∧ a % p < p := fun a => ⟨Int.emod_nonneg _ (by omega), Int.emod_lt_of_pos _ (by omega)⟩
          obtain ⟨R2, hM2, hR2a, hR2o, hR2⟩ : ∃ R2 : Nat → Nat → Int, MatT tb bl1 n R2 ∧ (∀ x, x < n → R2 piv.length x = R1 piv.length x * sc % p) ∧ (∀ i x, i ≠ piv.length → R2 i x = R1 i x) ∧ ∀ i x, i < n → x < n → 0 ≤ R2 i x ∧ R2 i x < p :=
            ⟨_, hMj, fun x hx => if_pos ⟨rfl, hx⟩, fun i x hi => if_neg (by omega), fun i x hi hx => by
              show 0 ≤ (if i = piv.length ∧ x < n then R1 i x * sc % p else R1 i x) ∧ (if i = piv.length ∧ x < n then R1 i x * sc % p else R1 i x) < p
              split
              · exact hmm _
              · exact hR1 i x hi hx⟩
          clear hMj hj
          refine W.seqK fun K5 hK5 => wrs fun K hK => ?_
          conv => whnf
          refine hK _ (W.block (W.invH hs0 hb0 (fun m e => ∃ (i : Nat) (tb : Nat → Option (List Int)), i ≤ n ∧ MatT tb bl1 n (fun a x => if a < i ∧ a ≠ piv.length then (R2 a x - R2 a col * R2 piv.length x) % p else R2 a x) ∧ m = n - i ∧ e = [(0, .v (.int .i64 p)), (1, .ownV el 1 b n fun j => .rf (bl1 j) n), (5, .v (.int .i64 n)), (6, .ownI 3 bp (natsI piv)), (7, .v (.int .i64 col)), (8, .v (.int .i64 piv.length)), (22, .v (.int .i64 n)), (23, .v (.int .i64 col)), (vt, .tab tb), (vk, .keep O U hw 1 v0), (92, .v (.int .i64 n)), (93, .v (.int .i64 i))]) _ _ (⟨0, tb, Nat.zero_le _, hM2.congr fun i x _ _ => by rw [if_neg (by omega)], rfl, rfl⟩) (by dsimp only; omega) (by repeat' first | refine And.intro ?_ ?_ | exact trivial | rfl | omega | exact .inl rfl | exact fun _ _ => rfl | exact fun _ _ h => h | assumption | exact fun i hi => (by obtain rfl : i = 0 := (by omega); rfl)) ?_))
          clear hK K
          clear hM2 tb hm2
          rintro m2 e ⟨i, tb, hi, hMi, hm2, rfl⟩
          refine wrs fun K hK => ?_
          conv => whnf
          refine hK _ ?_
          clear hK K
          refine W.seqK fun K7 hK7 => W.cond ⟨fun h6 => ?_, fun h6 => ?_⟩ <;> (first | replace h6 := of_decide_eq_true h6 | replace h6 := of_decide_eq_false h6)
          · have h6 : i < n := by omega
            have hfi := hR2 i col h6 h2
            generalize hfac : R2 i col = fac at hfi
            refine W.skip (hK7 _ ?_)
            clear hK7 K7
            refine W.seqK fun K6 hK6 => W.block ?_
            -- the end of the row
            have fin : ∀ (tb : Nat → Option (List Int)) (s : S), MatT tb bl1 n (fun a x => if a < i + 1 ∧ a ≠ piv.length then (R2 a x - R2 a col * R2 piv.length x) % p else R2 a x) → hs0 ≤ s.hs →
                coverK s.env [(0, .v (.int .i64 p)), (1, .ownV el 1 b n fun j => .rf (bl1 j) n), (5, .v (.int .i64 n)), (6, .ownI 3 bp (natsI piv)), (7, .v (.int .i64 col)), (8, .v (.int .i64 piv.length)), (22, .v (.int .i64 n)), (23, .v (.int .i64 col)), (vt, .tab tb), (vk, .keep O U hw 1 v0), (92, .v (.int .i64 n)), (93, .v (.int .i64 i))] → K6 s := by
              intro tb s h7 h8 h9
              refine hK6 _ (W.weak (t := ⟨[(0, .v (.int .i64 p)), (1, .ownV el 1 b n fun j => .rf (bl1 j) n), (5, .v (.int .i64 n)), (6, .ownI 3 bp (natsI piv)), (7, .v (.int .i64 col)), (8, .v (.int .i64 piv.length)), (22, .v (.int .i64 n)), (23, .v (.int .i64 col)), (vt, .tab tb), (vk, .keep O U hw 1 v0), (92, .v (.int .i64 n)), (93, .v (.int .i64 i))], hs0⟩) ⟨h8, h9⟩ hb0 ?_)
              refine wrg ?_
              conv => whnf
              refine ⟨oo, ?_⟩
              conv => whnf
              exact againA ⟨i + 1, tb, by omega, h7, rfl, rfl⟩
            clear hK6
            obtain ⟨la, hla1, hla2, hla3⟩ := hMi.row i h6
            have e1 : la.getD col 0 = fac := by
              have := hla3 col h2
              rw [if_neg (by omega), hfac] at this; exact this
            refine wrs fun K hK => ?_
            conv => whnf
            refine hK _ ?_
            clear hK K
            refine wrs fun K hK => ?_
            conv => whnf
            refine ⟨oo, ?_⟩
            conv => whnf
            rw [Int.toNat_natCast]
            refine ⟨oo, ?_⟩
            conv => whnf
            rw [Int.toNat_natCast]
            refine ⟨la, hla1, by omega, ?_⟩
            conv => whnf
            rw [e1]
            refine hK _ ?_
            clear hK K
            clear hla1 hla2 hla3 e1 la
            refine wrs fun K hK => ?_
            conv => whnf
            refine ⟨fun h7 => ?_, fun h7 => ?_⟩ <;> conv => whnf
            · have h7 : i ≠ piv.length := by have := of_decide_eq_true h7; omega
              refine hK _ (W.cond ⟨fun h8 => ?_, fun h8 => ?_⟩) <;> clear hK K
              · clear h8
                refine wrs fun K hK => ?_
                conv => whnf
                refine hK _ (W.block (W.invH hs0 hb0 (fun m e => ∃ (j : Nat) (tb : Nat → Option (List Int)), j ≤ n ∧ MatT tb bl1 n (fun a x => if a = i ∧ x < j then (R2 i x - fac * R2 piv.length x) % p else if a < i ∧ a ≠ piv.length then (R2 a x - R2 a col * R2 piv.length x) % p else R2 a x) ∧ m = n - j ∧ e = [(0, .v (.int .i64 p)), (1, .ownV el 1 b n fun j => .rf (bl1 j) n), (5, .v (.int .i64 n)), (6, .ownI 3 bp (natsI piv)), (7, .v (.int .i64 col)), (8, .v (.int .i64 piv.length)), (12, .v (.int .i64 i)), (13, .v (.int .i64 fac)), (22, .v (.int .i64 n)), (23, .v (.int .i64 col)), (vt, .tab tb), (vk, .keep O U hw 1 v0), (92, .v (.int .i64 n)), (93, .v (.int .i64 i)), (110, .v (.int .i64 n)), (111, .v (.int .i64 j))]) _ _ ⟨0, tb, Nat.zero_le _, hMi.congr fun a x _ _ => by rw [if_neg (by omega : ¬ (a = i ∧ x < 0))], rfl, rfl⟩ (by dsimp only; omega) (by repeat' first | refine And.intro ?_ ?_ | exact trivial | rfl | omega | assumption | exact fun _ _ => rfl | exact fun _ _ h => h) ?_))
                clear hK K hMi tb
                rintro m3 e ⟨j', tb, hj', hMj, hm3, rfl⟩
                refine wrs fun K hK => ?_
                conv => whnf
                refine hK _ ?_
                clear hK K
                refine W.seqK fun K7 hK7 => W.cond ⟨fun h8 => ?_, fun h8 => ?_⟩ <;> (first | replace h8 := of_decide_eq_true h8 | replace h8 := of_decide_eq_false h8)
                · have h8 : j' < n := by omega
                  obtain ⟨la, hla1, hla2, hla3⟩ := hMj.row i h6
                  obtain ⟨lb, hlb1, hlb2, hlb3⟩ := hMj.row piv.length (by omega)
                  have e1 : la.getD j' 0 = R2 i j' := by
                    have := hla3 j' h8
                    rw [if_neg (by omega), if_neg (by omega)] at this; exact this
                  have e2 : lb.getD j' 0 = R2 piv.length j' := by
                    have := hlb3 j' h8
                    rw [if_neg (by omega), if_neg (by omega)] at this; exact this
                  have hr1 := hR2 i j' h6 h8
                  have hr2 := hR2 piv.length j' (by omega) h8
                  have h9 := mul97 (a := fac) (b := R2 piv.length j') (by omega) (by omega)
                  refine W.skip (hK7 _ ?_)
                  clear hK7 K7
                  refine W.seqK fun K7 hK7 => W.block ?_
                  refine wrs fun K hK => ?_
                  conv => whnf
                  refine hK _ ?_
                  clear hK K
                  refine W.draw (cx_ok _) follows (by rfl) ?_
                  conv => whnf
                  refine ⟨oo, ?_⟩
                  conv => whnf
                  refine ⟨oo, ?_⟩
                  conv => whnf
                  rw [Int.toNat_natCast]
                  refine ⟨oo, ?_⟩
                  conv => whnf
                  rw [Int.toNat_natCast]
                  refine ⟨la, hla1, by omega, ?_⟩
                  conv => whnf
                  rw [e1]
                  refine ⟨oo, ?_⟩
                  conv => whnf
                  rw [Int.toNat_natCast]
                  refine ⟨oo, ?_⟩
                  conv => whnf
                  rw [Int.toNat_natCast]
                  refine ⟨lb, hlb1, by omega, ?_⟩
                  conv => whnf
                  rw [e2]
                  refine ⟨oo, ?_⟩
                  conv => whnf
                  refine ⟨oo, ?_⟩
                  conv => whnf
                  refine ⟨_, cxF (mod_fn _ p (by omega) (by omega) (by omega)), ?_⟩
                  conv => whnf
                  refine ⟨oo, ?_⟩
                  conv => whnf
                  refine ⟨la, hla1, by omega, ?_⟩
                  conv => whnf
                  refine hK7 _ ?_
                  clear hK7 K7
                  refine wrg ?_
                  conv => whnf
                  refine ⟨oo, ?_⟩
                  conv => whnf
                  have h10 := (hMj.store h6 h8 hla1 ((R2 i j' - fac * R2 piv.length j') % p)).congr (R' := fun a x => if a = i ∧ x < j' + 1 then (R2 i x - fac * R2 piv.length x) % p else if a < i ∧ a ≠ piv.length then (R2 a x - R2 a col * R2 piv.length x) % p else R2 a x) fun a x ha hx => by
                    show (if a = i ∧ x = j' then (R2 i j' - fac * R2 piv.length j') % p else if a = i ∧ x < j' then _ else _) = _
                    by_cases c1 : a = i
                    · subst c1
                      by_cases c2 : x = j'
                      · subst c2; rw [if_pos ⟨rfl, rfl⟩, if_pos ⟨rfl, by omega⟩]
                      · rw [if_neg (by omega)]
                        by_cases c3 : x < j'
                        · rw [if_pos ⟨rfl, c3⟩, if_pos ⟨rfl, by omega⟩]
                        · rw [if_neg (by omega : ¬ (a = a ∧ x < j')), if_neg (by omega : ¬ (a = a ∧ x < j' + 1))]
                    · rw [if_neg (by omega), if_neg (by omega), if_neg (by omega : ¬ (a = i ∧ x < j' + 1))]
                  exact againA ⟨j' + 1, _, by omega, h10, rfl, rfl⟩
                · obtain rfl : n = j' := by omega
                  refine W.exit (fin tb _ (hMj.congr fun a x ha hx => ?_) (by dsimp only; omega) ?_)
                  · by_cases c1 : a = i
                    · subst c1; rw [if_pos ⟨rfl, hx⟩, if_pos ⟨by omega, h7⟩, hfac]
                    · rw [if_neg (by omega)]
                      by_cases c2 : a < i ∧ a ≠ piv.length
                      · rw [if_pos c2, if_pos (by omega)]
                      · rw [if_neg c2, if_neg (by omega)]
                  · exact cvr
              · have h8 := of_decide_eq_false h8
                have hf0 : fac = 0 := Classical.byContradiction h8
                refine W.skip (fin tb _ (hMi.congr fun a x ha hx => ?_) (by dsimp only; omega) ?_)
                · by_cases c1 : a = i
                  · subst c1
                    rw [if_neg (by omega), if_pos ⟨by omega, h7⟩, hfac, hf0, Int.zero_mul, Int.sub_zero]
                    have := hR2 a x h6 hx
                    rw [Int.emod_eq_of_lt this.1 this.2]
                  · by_cases c2 : a < i ∧ a ≠ piv.length
                    · rw [if_pos c2, if_pos (by omega)]
                    · rw [if_neg c2, if_neg (by omega)]
                · exact cvr
            · have h7 : i = piv.length := by have := of_decide_eq_false h7; omega
              refine hK _ (W.condF rfl ?_)
              refine W.skip (fin tb _ (hMi.congr fun a x ha hx => ?_) (by dsimp only; omega) ?_)
              · by_cases c2 : a < i ∧ a ≠ piv.length
                · rw [if_pos c2, if_pos (by omega)]
                · rw [if_neg c2, if_neg (by omega)]
              · exact cvr
          · obtain rfl : n = i := by omega
            refine W.exit (hK5 _ ?_)
            clear hK7 K7 hK5 K5
            obtain ⟨h3', h4', h5'⟩ := elim_rows (R3 := fun a x => if a < n ∧ a ≠ piv.length then (R2 a x - R2 a col * R2 piv.length x) % p else R2 a x) hst1 hsol1 h2 hat hi3
              (fun x hx => by rw [if_neg (by omega)]; exact hR2a x hx) (fun i x hi hx hne => by rw [if_pos ⟨hi, hne⟩, hR2o i x hne, hR2o i col hne, hR2a x hx])
            refine wrg ?_
            conv => whnf
            refine ⟨⟨rfl, by decide⟩, ?_⟩
            conv => whnf
            intro b_1 hs_1 hh_1 hf_1
            try dsimp only at hh_1 hf_1
            conv => whnf
            refine ⟨by rw [natsI_length]; simp; omega, ?_⟩
            conv => whnf
            intro b_2 hs_2 hh_2 hf_2
            try dsimp only at hh_2 hf_2
            conv => whnf
            refine hK8 _ ?_
            clear hK8 K8
            refine wrg ?_
            conv => whnf
            refine ⟨oo, ?_⟩
            conv => whnf
            refine ⟨_, _, ⟨col + 1, b_2, piv ++ [col], bl1, tb, _, by omega, h3', h4', h5', hMi, rfl, rfl⟩, by omega, by dsimp only; omega, ?_⟩
            repeat' first | refine And.intro ?_ ?_ | exact trivial | rfl | omega | exact .inl rfl | exact fun _ _ => rfl | exact fun _ _ h => h | assumption | exact fun i hi => (by obtain rfl : i = 0 := (by omega); rfl)
            exact (natsI_append _ _).symm
    clear hK1
    refine W.seqK fun K7 hK7 => wrs fun K hK => ?_
    conv => whnf
    refine ⟨fun h6 => ?_, fun h6 => ?_⟩ <;> conv => whnf
    · have h6 : k < n := by have := of_decide_eq_true h6; omega
      obtain ⟨l, hl1, hl2, hl3⟩ := hM.row k h6
      refine ⟨oo, ?_⟩
      conv => whnf
      rw [Int.toNat_natCast]
      refine ⟨oo, ?_⟩
      conv => whnf
      rw [Int.toNat_natCast]
      refine ⟨l, hl1, by omega, ?_⟩
      conv => whnf
      have e1 : l.getD col 0 = R k col := hl3 col h2
      rw [e1]
      refine hK _ (W.cond ⟨fun h7 => ?_, fun h7 => ?_⟩) <;> clear hK K
      · have h7 := of_decide_eq_true h7
        refine W.skip (hK7 _ ?_)
        clear hK7 K7
        refine W.block ?_
        refine wrg ?_
        conv => whnf
        refine ⟨oo, ?_⟩
        conv => whnf
        have h8 : ∀ j, piv.length ≤ j → j < k + 1 → R j col = 0 := fun j h9 h10 => by
          by_cases hj : j = k
          · rw [hj]; exact h7
          · exact h5 j h9 (by omega)
        exact againA ⟨k + 1, by omega, by omega, h8, rfl, rfl⟩
      · have h7 := of_decide_eq_false h7
        refine W.exit (hout (.inr ⟨h6, h7⟩) _ (by dsimp only; omega) ?_)
        exact cvr
    · have h6 : ¬ k < n := by have := of_decide_eq_false h6; omega
      refine hK _ (W.condF rfl ?_)
      refine W.exit (hout (.inl (by omega)) _ (by dsimp only; omega) ?_)
      exact cvr
  · refine W.exit (hK1 _ ?_)
    clear hK7 K7 hK1 K1
    obtain rfl : n = col := by omega
    have hB := Poly.Steps.basis hst hsol
    have hlt := hst.lt
    have hle := hst.le
    have hnd := hst.nodup
    refine wrs fun K hK => ?_
    conv => whnf
    refine hK _ ?_
    clear hK K
    refine W.seqK fun K1 hK1 => wrs fun K hK => ?_
    conv => whnf
    refine hK _ (W.block (W.invH hs0 hb0 (fun m e => ∃ (c b15 : Nat), c ≤ n ∧ m = n - c ∧ e = [(0, .v (.int .i64 p)), (1, .ownV el 1 b n fun j => .rf (bl j) n), (5, .v (.int .i64 n)), (6, .ownI 3 bp (natsI piv)), (15, .ownV 24 1 b15 (freeL p n piv R c).length fun j => .ints none ((freeL p n piv R c).getD j 0).l), (146, .v (.int .i64 n)), (147, .v (.int .i64 c)), (vt, .tab tb), (vk, .keep O U hw 1 v0)]) _ _ (⟨0, 0, Nat.zero_le _, rfl, rfl⟩) (by dsimp only; omega) (by repeat' first | refine And.intro ?_ ?_ | exact trivial | rfl | omega | exact .inl rfl | exact fun _ _ => rfl | exact fun _ _ h => h | assumption | exact fun i hi => (by obtain rfl : i = 0 := (by omega); rfl)) ?_))
    clear hK K
    rintro m2 e ⟨c, b15, hc, hm2, rfl⟩
    have hLl : (freeL p n piv R c).length ≤ c := by
      unfold freeL
      rw [List.length_map]
      exact Nat.le_trans (List.length_filter_le _ _) (by simp)
    refine wrs fun K hK => ?_
    conv => whnf
    refine hK _ ?_
    clear hK K
    refine W.seqK fun K7 hK7 => W.cond ⟨fun h2 => ?_, fun h2 => ?_⟩ <;> (first | replace h2 := of_decide_eq_true h2 | replace h2 := of_decide_eq_false h2)
    · have h2 : c < n := by omega
      refine W.skip (hK7 _ ?_)
      clear hK7 K7
      refine W.seqK fun K8 hK8 => W.block ?_
      refine wrs fun K hK => ?_
      conv => whnf
      refine hK _ ?_
      clear hK K
      refine W.seqK fun K3 hK3 => wrs fun K hK => ?_
      conv => whnf
      refine callV rfl (containsInts_fn _ _ _ (by rw [natsI_length]; omega)) fun hs' hhs => ?_
      try dsimp only at hhs
      conv => whnf
      refine hK _ (W.cond ⟨fun h3 => ?_, fun h3 => ?_⟩) <;> clear hK K
      · have h3 := (natsI_mem piv c).1 (of_decide_eq_true h3)
        refine W.exit (hK8 _ ?_)
        clear hK8 K8 hK3 K3
        refine wrg ?_
        conv => whnf
        refine ⟨oo, ?_⟩
        conv => whnf
        have e1 : freeL p n piv R (c + 1) = freeL p n piv R c := by rw [freeL_succ, if_pos h3]
        refine ⟨_, _, ⟨c + 1, b15, by omega, rfl, rfl⟩, by omega, by dsimp only; omega, ?_⟩
        rw [e1]
        exact cvr
      · have h3 := fun hm => of_decide_eq_false h3 ((natsI_mem piv c).2 hm)
        refine W.skip (hK3 _ ?_)
        clear hK3 K3
        refine wrs fun K hK => ?_
        conv => whnf
        refine ⟨rfl, ?_⟩
        conv => whnf
        refine ⟨oo, ?_⟩
        conv => whnf
        rw [Int.toNat_natCast]
        intro b_v hs_v hh_v hf_v
        try dsimp only at hh_v hf_v
        conv => whnf
        refine hK _ ?_
        clear hK K
        refine wrs fun K hK => ?_
        conv => whnf
        refine ⟨⟨by omega, by simp; omega⟩, ?_⟩
        conv => whnf
        rw [Int.toNat_natCast]
        refine hK _ ?_
        clear hK K
        have hset : ∀ x, cf ((List.replicate n 0).set c 1) x = if x = c then 1 else 0 := fun x => by rw [cf_set (by simp; omega), cf_replicate]
        refine W.seqK fun K4 hK4 => wrs fun K hK => ?_
        conv => whnf
        rw [natsI_length]
        refine hK _ (W.block (W.invH hs0 hb0 (fun m e => ∃ (i bv : Nat) (v : List Int), i ≤ piv.length ∧ v.length = n ∧ (∀ x, cf v x = if x = c then 1 else match (piv.take i).idxOf? x with | some j => (-(R j c)) % p | none => 0) ∧ m = piv.length - i ∧ e = [(0, .v (.int .i64 p)), (1, .ownV el 1 b n fun j => .rf (bl j) n), (5, .v (.int .i64 n)), (6, .ownI 3 bp (natsI piv)), (15, .ownV 24 1 b15 (freeL p n piv R c).length fun j => .ints none ((freeL p n piv R c).getD j 0).l), (16, .v (.int .i64 c)), (17, .ownI 2 bv v), (146, .v (.int .i64 n)), (147, .v (.int .i64 c)), (158, .al 6), (159, .v (.int .i64 piv.length)), (160, .v (.int .i64 i)), (vt, .tab tb), (vk, .keep O U hw 1 v0)]) _ _ (⟨0, b_v, (List.replicate n 0).set c 1, Nat.zero_le _, by simp, fun x => by rw [hset]; rfl, rfl, rfl⟩) (by dsimp only; omega) (by repeat' first | refine And.intro ?_ ?_ | exact trivial | rfl | omega | exact .inl rfl | exact fun _ _ => rfl | exact fun _ _ h => h | assumption | exact fun i hi => (by obtain rfl : i = 0 := (by omega); rfl)) ?_))
        clear hK K
        clear hset
        rintro m3 e ⟨i, bv, v, hi, hvl, hv, hm3, rfl⟩
        refine wrs fun K hK => ?_
        conv => whnf
        refine hK _ ?_
        clear hK K
        refine W.seqK fun K7 hK7 => W.cond ⟨fun h4 => ?_, fun h4 => ?_⟩ <;> (first | replace h4 := of_decide_eq_true h4 | replace h4 := of_decide_eq_false h4)
        · have h4 : i < piv.length := by omega
          have hx : piv[i] < n := hlt _ (List.getElem_mem h4)
          have hin : i < n := by omega
          obtain ⟨la, hla1, hla2, hla3⟩ := hM.row i hin
          have hrc := hR i c hin h2
          have e1 : la.getD c 0 = R i c := hla3 c h2
          have e2 : (natsI piv).getD i 0 = (piv[i] : Nat) := natsI_cf h4
          refine W.skip (hK7 _ ?_)
          clear hK7 K7
          refine W.seqK fun K6 hK6 => W.block ?_
          refine wrs fun K hK => ?_
          conv => whnf
          rw [natsI_length]
          refine ⟨oo, ?_⟩
          conv => whnf
          rw [Int.toNat_natCast, e2]
          refine hK _ ?_
          clear hK K
          refine wrg ?_
          conv => whnf
          refine ⟨oo, ?_⟩
          conv => whnf
          rw [Int.toNat_natCast]
          refine ⟨oo, ?_⟩
          conv => whnf
          rw [Int.toNat_natCast]
          refine ⟨la, hla1, by omega, ?_⟩
          conv => whnf
          rw [e1]
          refine ⟨oo, ?_⟩
          conv => whnf
          refine callV rfl (mod_fn _ p (by omega) (by omega) (by omega)) fun hs' hhs => ?_
          try dsimp only at hhs
          conv => whnf
          refine ⟨oo, ?_⟩
          conv => whnf
          rw [Int.toNat_natCast]
          refine hK6 _ ?_
          clear hK6 K6
          refine wrg ?_
          conv => whnf
          refine ⟨oo, ?_⟩
          conv => whnf
          have h5 : ∀ x, cf (v.set piv[i] ((-(R i c)) % p)) x = if x = c then 1 else match (piv.take (i + 1)).idxOf? x with | some j => (-(R j c)) % p | none => 0 := fun x => by
            rw [cf_set (by omega), idx_take hnd h4, hv x]
            by_cases hxi : x = piv[i]
            · rw [if_pos hxi, if_pos hxi, if_neg (fun e => h3 (by rw [← e, hxi]; exact List.getElem_mem h4))]
            · rw [if_neg hxi, if_neg hxi]
          exact againA ⟨i + 1, bv, v.set piv[i] ((-(R i c)) % p), by omega, by simpa using hvl, h5, rfl, rfl⟩
        · obtain rfl : i = piv.length := by omega
          refine W.exit (hK4 _ ?_)
          clear hK7 K7 hK4 K4
          have hvp : trimZ v = (freeP p n piv R c).l := by
            rw [List.take_length] at hv
            have hrng : ∀ x, 0 ≤ cf v x ∧ cf v x < p := fun x => by
              rw [hv x]
              split
              · omega
              · split
                · exact ⟨Int.emod_nonneg _ (by omega), Int.emod_lt_of_pos _ (by omega)⟩
                · omega
            rw [← nrm_rng hrng]
            refine congrArg Poly.l (of_eq (p := p) (a := v) (b := mkL n (freeV p piv R c)) fun x => ?_)
            rw [cf_mkL]
            by_cases hxn : x < n
            · rw [if_pos hxn, hv x]
              unfold freeV
              by_cases hxc : x = c
              · rw [if_pos hxc, if_pos hxc]
              · rw [if_neg hxc, if_neg hxc]
                cases piv.idxOf? x with
                | none => rfl
                | some j => exact emod_self_mul p _
            · rw [if_neg hxn, cf_ge (by omega)]
          refine wrg ?_
          conv => whnf
          refine callI rfl (trim_fn _ _ (by omega)) fun hs_t b_t hh_t hf_t => ?_
          try dsimp only at hh_t hf_t
          conv => whnf
          rw [hvp]
          refine ⟨⟨rfl, by decide, fun x hx => by simp at hx; subst hx; exact ⟨rfl, rfl⟩⟩, ?_⟩
          conv => whnf
          intro b_1 hs_1 hh_1 hf_1
          try dsimp only at hh_1 hf_1
          conv => whnf
          refine ⟨by omega, ?_⟩
          conv => whnf
          refine ⟨fun j => .ints none ((freeL p n piv R c ++ [freeP p n piv R c]).getD j 0).l, fun j hj => congrArg (fun q : Poly p => V.ints none q.l) (getD_app_l hj), fun j hj => ?_, ?_⟩
          · obtain rfl : j = 0 := by omega
            exact congrArg (fun q : Poly p => V.ints none q.l) getD_app_r
          intro b_2 hs_2 hh_2 hf_2
          try dsimp only at hh_2 hf_2
          conv => whnf
          refine hK8 _ ?_
          clear hK8 K8
          refine wrg ?_
          conv => whnf
          refine ⟨oo, ?_⟩
          conv => whnf
          have e1 : freeL p n piv R (c + 1) = freeL p n piv R c ++ [freeP p n piv R c] := by rw [freeL_succ, if_neg h3]
          refine ⟨_, _, ⟨c + 1, b_2, by omega, rfl, rfl⟩, by omega, by dsimp only; omega, ?_⟩
          rw [e1, List.length_append]
          exact cvr
    · refine W.exit (hK1 _ ?_)
      clear hK7 K7 hK1 K1
      obtain rfl : n = c := by omega
      refine wrs fun K hK => ?_
      conv => whnf
      refine hK _ ?_
      clear hK K
      refine W.ret ?_
      conv => whnf
      exact ⟨by dsimp only; omega, rfl, .v (vPs (freeL p n piv R n)), ⟨rfl, rfl, rfl, fun _ _ => rfl⟩, rfl, trivial, .dead, trivial, .inl rfl, .dead, trivial, rfl, rfl, rfl, rfl, _, hB, rfl⟩

open Go Go.RowKit Go.Proofs Poly
set_option maxRecDepth 100000
set_option maxHeartbeats 8000000

set_option maxHeartbeats 8000000 in
theorem kernel_fn (p : Int) [SP p] (g : Option Nat) (f : Poly p) (n : Nat) (hf : dg f = n + 1) (hn0 : 1 ≤ n) (hn : n ≤ 400) : Fn Tryz.prog 379 [.int .i64 p, .ints g f.l] (fun _ _ z => ∃ L : List (Poly p), Ker f L ∧ z = .v (vPs L)) := by
 have hp := Pr.two (p := p)
 have hp2 := SP.le (p := p)
 have hfl : f.l.length = n + 1 := hf
 have hf0 : f ≠ 0 := fun e => by rw [e, dg_zero] at hf; omega
 refine fn_of (cxm_ok [0, 1, 4, 5, 6, 7, 8, 9, 10, 17, 18, 19, 27, 28, 29, 37, 38, 39, 40, 1000000]) Tryz.func379 rfl (by decide) Tryz.ntmps379 (Nat.le_of_ble_eq_true rfl) fun base => ?_
 refine W.tab0 rfl ?_
 refine W.rs (cxm_ok _) (by rfl) fun K hK => ?_
 conv => whnf
 refine hK _ ?_
 clear hK K
 refine W.rs (cxm_ok _) (by rfl) fun K hK => ?_
 conv => whnf
 rw [hfl]
 refine ⟨oo, ?_⟩
 conv => whnf
 have e0 : (((n + 1 : Nat) : Int) - 1) = n := by omega
 rw [e0]
 refine hK _ ?_
 clear hK K
 refine W.rs (cxm_ok _) (by rfl) fun K hK => ?_
 conv => whnf
 refine ⟨rfl, ?_⟩
 conv => whnf
 refine ⟨oo, ?_⟩
 conv => whnf
 rw [Int.toNat_natCast]
 intro b_0 hs_0 hh_0 hf_0
 try dsimp only at hh_0 hf_0
 conv => whnf
 refine hK _ ?_
 clear hK K
 refine W.seqK fun K1 hK1 => W.rs (cxm_ok _) (by rfl) fun K hK => ?_
 conv => whnf
 refine hK _ (W.block (W.inv (fun m s => ∃ (i hs : Nat) (bl : Nat → Nat) (tb : Nat → Option (List Int)), i ≤ n ∧ base ≤ hs ∧ (∀ j, j < i → bl j < hs) ∧ (∀ j k, j < i → k < i → bl j = bl k → j = k) ∧ (∀ j, j < i → tb (bl j) = some (List.replicate n 0)) ∧ m = n - i ∧
  s = ⟨[(0, .v (.int .i64 p)), (1, .v (.ints g f.l)), (5, .v (.int .i64 n)), (6, .ownV 24 1 b_0 n fun j => if j < i then .rf (bl j) n else .nil), (17, .v (.int .i64 n)), (18, .v (.int .i64 i)), (vt, .tab tb)], hs⟩) _ _
  ⟨0, base, fun _ => 0, fun _ => none, Nat.zero_le _, Nat.le_refl _, fun j hj => by omega, fun j k hj => by omega, fun j hj => by omega, rfl, rfl⟩ ⟨by dsimp only; omega, by repeat' first | refine And.intro ?_ ?_ | exact trivial | rfl | omega | assumption | exact fun _ _ => rfl | exact fun _ _ h => h⟩
  (by rintro m s ⟨_, _, _, _, _, h, _, _, _, _, rfl⟩; exact h) ?_))
 clear hK K
 rintro m s ⟨i, hs, bl, tb, hi, hhs, hlt, hinj, htb, hm, rfl⟩
 refine W.rs (cxm_ok _) (by rfl) fun K hK => ?_
 conv => whnf
 refine hK _ ?_
 clear hK K
 refine W.seqK fun K7 hK7 => W.cond ⟨fun h2 => ?_, fun h2 => ?_⟩ <;> (first | replace h2 := of_decide_eq_true h2 | replace h2 := of_decide_eq_false h2)
 ·have h2 : i < n := by omega
  refine W.skip (hK7 _ ?_)
  clear hK7 K7
  refine W.seqK fun K8 hK8 => W.block ?_
  refine W.rs (cxm_ok _) (by rfl) fun K hK => ?_
  conv => whnf
  refine hK _ ?_
  clear hK K
  refine W.region (cxm_ok _) (by rfl) ?_
  conv => whnf
  refine ⟨rfl, ?_⟩
  conv => whnf
  refine ⟨oo, ?_⟩
  conv => whnf
  rw [Int.toNat_natCast]
  intro b_1 hs_1 hh_1 hf_1
  try dsimp only at hh_1 hf_1
  conv => whnf
  refine ⟨oo, ?_⟩
  conv => whnf
  rw [Int.toNat_natCast]
  refine ⟨by simp; omega, ?_⟩
  conv => whnf
  refine ⟨⟨by show 0 + 1 ≤ 1; omega, rfl⟩, fun j => if j < i + 1 then .rf (if j < i then bl j else b_1) n else .nil, ?_, fun j hj hji => ?_, ?_⟩
  ·show (if i < i + 1 then V.rf (if i < i then bl i else b_1) n else .nil) = setCells (if i < i then V.rf (bl i) n else .nil) 0 (V.rf b_1 (List.replicate n 0).length)
   rw [if_pos (by omega), if_neg (by omega), if_neg (by omega), List.length_replicate]
   rfl
  ·show (if j < i + 1 then V.rf (if j < i then bl j else b_1) n else .nil) = if j < i then V.rf (bl j) n else .nil
   by_cases h : j < i
   ·rw [if_pos (by omega), if_pos h, if_pos h]
   ·rw [if_neg (by omega), if_neg h]
  conv => whnf
  refine hK8 _ ?_
  clear hK8 K8
  refine W.region (cxm_ok _) (by rfl) ?_
  conv => whnf
  refine ⟨oo, ?_⟩
  conv => whnf
  have hb1 := hf_1 (by omega)
  refine ⟨_, _, ⟨i + 1, hs_1, fun j => if j < i then bl j else b_1, tbSet tb b_1 (List.replicate n 0), by omega, by omega, fun j hj => ?_, fun j k hj hk he => ?_, fun j hj => ?_, rfl, rfl⟩, by omega, by dsimp only; omega, ?_⟩
  ·show (if j < i then bl j else b_1) < hs_1
   split
   ·have := hlt j (by assumption); omega
   ·omega
  ·have he' : (if j < i then bl j else b_1) = (if k < i then bl k else b_1) := he
   split at he' <;> split at he'
   ·exact hinj j k (by omega) (by omega) he'
   ·have := hlt j (by omega); omega
   ·have := hlt k (by omega); omega
   ·omega
  ·show tbSet tb b_1 (List.replicate n 0) (if j < i then bl j else b_1) = _
   split
   ·have := hlt j (by omega)
    rw [tbSet_ne _ _ (by omega)]; exact htb j (by omega)
   ·exact tbSet_self _ _ _
  exact cvr
 ·obtain rfl : n = i := by omega
  refine W.exit (hK1 _ ?_)
  clear hK7 K7 hK1 K1
  have hM : MatT tb bl n (fun _ _ => 0) := ⟨hinj, fun j hj => ⟨_, htb j hj, by simp, fun x _ => cf_replicate _ _⟩⟩
  clear hlt hinj htb
  refine W.weak (t := ⟨[(0, .v (.int .i64 p)), (1, .v (.ints g f.l)), (5, .v (.int .i64 n)), (6, .ownV 24 1 b_0 n fun j => .rf (bl j) n), (vt, .tab tb)], base⟩) ⟨by dsimp only; omega, ?_⟩ (Nat.le_refl _) ?_
  ·repeat' first | refine And.intro ?_ ?_ | exact trivial | rfl | omega | assumption | exact fun i hi => if_pos hi | exact fun _ _ h => h
  refine W.seqK fun K1 hK1 => W.rs (cxm_ok _) (by rfl) fun K hK => ?_
  conv => whnf
  refine hK _ (W.block (W.invA (fun m e => ∃ (i : Nat) (tb : Nat → Option (List Int)), i ≤ n ∧ MatT tb bl n (fun a j => if j < i then kmat f a j else 0) ∧ m = n - i ∧ e = [(0, .v (.int .i64 p)), (1, .v (.ints g f.l)), (5, .v (.int .i64 n)), (6, .ownV 24 1 b_0 n fun j => .rf (bl j) n), (27, .v (.int .i64 n)), (28, .v (.int .i64 i)), (vt, .tab tb)]) ⟨0, tb, Nat.zero_le _, hM.congr fun a j _ _ => by rw [if_neg (by omega)], rfl, rfl⟩ ?_))
  clear hK K
  clear hM hm tb
  rintro m e ⟨i, tb, hi, hM, hm, rfl⟩
  refine W.rs (cxm_ok _) (by rfl) fun K hK => ?_
  conv => whnf
  refine hK _ ?_
  clear hK K
  refine W.seqK fun K7 hK7 => W.cond ⟨fun h2 => ?_, fun h2 => ?_⟩ <;> (first | replace h2 := of_decide_eq_true h2 | replace h2 := of_decide_eq_false h2)
  ·have h2 : i < n := by omega
   have epi : p * (i : Int) = ((p.toNat * i : Nat) : Int) := by rw [Int.natCast_mul]; congr 1; omega
   have hpi : p.toNat * i ≤ 97 * 400 := Nat.mul_le_mul (by omega) (by omega)
   have hWl : (rem (X p ^ (p.toNat * i)) f).l.length = dg (rem (X p ^ (p.toNat * i)) f) := rfl
   have hWd := rem_lt (X p ^ (p.toNat * i)) hf0
   have hkm := fun a => kmat_eq f a i
   refine W.skip (hK7 _ ?_)
   clear hK7 K7
   refine W.seqK fun K8 hK8 => W.block ?_
   refine W.rs (cxm_ok _) (by rfl) fun K hK => ?_
   conv => whnf
   refine hK _ ?_
   clear hK K
   refine W.seqK fun K9 hK9 => W.rs (cxm_ok _) (by rfl) fun K hK => ?_
   conv => whnf
   refine ⟨⟨rfl, by decide⟩, ?_⟩
   conv => whnf
   intro b_x hs_x hh_x hf_x
   try dsimp only at hh_x hf_x
   conv => whnf
   refine ⟨by rw [epi]; constructor <;> omega, ?_⟩
   conv => whnf
   rw [epi]
   have ex : [(0 : Int), 1] = (X p).l := X_l.symm
   rw [ex]
   have hXd : dg (X p) ≤ 1000000 := by
    have : (X p).l.length = 2 := by rw [X_l]; rfl
    show (X p).l.length ≤ _
    omega
   refine callV rfl (powerBy_fn p _ g (X p) f (p.toNat * i) (by omega) hXd (by omega) hf0) fun hs' hhs => ?_
   try dsimp only at hhs
   conv => whnf
   generalize hW : rem (X p ^ (p.toNat * i)) f = Wp at *
   rw [hWl]
   refine hK _ (W.block (W.invA (fun m e => ∃ (k : Nat) (tb : Nat → Option (List Int)), k ≤ dg Wp ∧ MatT tb bl n (fun a j => if j < i then kmat f a j else if j = i ∧ a < k then cf Wp.l a else 0) ∧ m = dg Wp - k ∧ e = [(0, .v (.int .i64 p)), (1, .v (.ints g f.l)), (5, .v (.int .i64 n)), (6, .ownV 24 1 b_0 n fun j => .rf (bl j) n), (8, .v (.int .i64 i)), (27, .v (.int .i64 n)), (28, .v (.int .i64 i)), (37, .v (.ints none Wp.l)), (38, .v (.int .i64 (dg Wp))), (39, .v (.int .i64 k)), (vt, .tab tb)]) ⟨0, tb, Nat.zero_le _, hM.congr fun a j _ _ => by rw [if_neg (by omega : ¬ (j = i ∧ a < 0))], rfl, rfl⟩ ?_))
   clear hK K
   clear hM tb
   rintro m2 e ⟨k, tb, hk, hMk, hm2, rfl⟩
   refine W.rs (cxm_ok _) (by rfl) fun K hK => ?_
   conv => whnf
   refine hK _ ?_
   clear hK K
   refine W.seqK fun K7 hK7 => W.cond ⟨fun h3 => ?_, fun h3 => ?_⟩ <;> (first | replace h3 := of_decide_eq_true h3 | replace h3 := of_decide_eq_false h3)
   ·have h3 : k < dg Wp := by omega
    obtain ⟨la, hla1, hla2, hla3⟩ := hMk.row k (by omega)
    refine W.skip (hK7 _ ?_)
    clear hK7 K7
    refine W.seqK fun K6 hK6 => W.block ?_
    refine W.rs (cxm_ok _) (by rfl) fun K hK => ?_
    conv => whnf
    rw [hWl]
    refine ⟨oo, ?_⟩
    conv => whnf
    rw [Int.toNat_natCast]
    refine hK _ ?_
    clear hK K
    refine W.region (cxm_ok _) (by rfl) ?_
    conv => whnf
    refine ⟨oo, ?_⟩
    conv => whnf
    rw [Int.toNat_natCast]
    refine ⟨oo, ?_⟩
    conv => whnf
    rw [Int.toNat_natCast]
    refine ⟨la, hla1, by omega, ?_⟩
    conv => whnf
    refine hK6 _ ?_
    clear hK6 K6
    refine W.region (cxm_ok _) (by rfl) ?_
    conv => whnf
    refine ⟨oo, ?_⟩
    conv => whnf
    have h4 := (hMk.store (i := k) (by omega) h2 hla1 (cf Wp.l k)).congr (R' := fun a j => if j < i then kmat f a j else if j = i ∧ a < k + 1 then cf Wp.l a else 0) fun a j ha hj => by
     show (if a = k ∧ j = i then cf Wp.l k else if j < i then kmat f a j else if j = i ∧ a < k then cf Wp.l a else 0) = _
     by_cases c1 : j < i
     ·rw [if_neg (by omega), if_pos c1, if_pos c1]
     ·by_cases c2 : j = i
      ·subst c2
       by_cases c3 : a = k
       ·subst c3; rw [if_pos ⟨rfl, rfl⟩, if_neg c1, if_pos ⟨rfl, by omega⟩]
       ·by_cases c4 : a < k
        ·rw [if_neg (by omega), if_neg c1, if_pos ⟨rfl, c4⟩, if_neg c1, if_pos ⟨rfl, by omega⟩]
        ·rw [if_neg (by omega), if_neg c1, if_neg (by omega), if_neg c1, if_neg (by omega)]
      ·rw [if_neg (by omega), if_neg c1, if_neg (by omega), if_neg c1, if_neg (by omega)]
    exact againA ⟨k + 1, _, by omega, h4, rfl, rfl⟩
   ·obtain rfl : k = dg Wp := by omega
    refine W.exit (hK9 _ ?_)
    clear hK7 K7 hK9 K9
    have hM2 : MatT tb bl n (fun a j => if j < i then kmat f a j else if j = i then cf Wp.l a else 0) := hMk.congr fun a j ha hj => by
     by_cases c1 : j < i
     ·rw [if_pos c1, if_pos c1]
     ·rw [if_neg c1, if_neg c1]
      by_cases c2 : j = i
      ·rw [if_pos c2]
       by_cases c3 : a < dg Wp
       ·rw [if_pos ⟨c2, c3⟩]
       ·rw [if_neg (by omega), cf_dg (by omega)]
      ·rw [if_neg c2, if_neg (by omega)]
    obtain ⟨la, hla1, hla2, hla3⟩ := hM2.row i h2
    have e1 : la.getD i 0 = cf Wp.l i := by
     have := hla3 i h2
     rw [if_neg (by omega), if_pos rfl] at this; exact this
    have hrc := cf_bd Wp i
    refine W.draw (cxm_ok _) follows (by rfl) ?_
    conv => whnf
    refine ⟨oo, ?_⟩
    conv => whnf
    refine ⟨oo, ?_⟩
    conv => whnf
    rw [Int.toNat_natCast]
    refine ⟨oo, ?_⟩
    conv => whnf
    refine ⟨la, hla1, by omega, ?_⟩
    conv => whnf
    rw [e1]
    refine ⟨oo, ?_⟩
    conv => whnf
    refine ⟨_, cxmF (mod_fn _ p (by omega) (by omega) (by omega)), ?_⟩
    conv => whnf
    refine ⟨oo, ?_⟩
    conv => whnf
    refine ⟨la, hla1, by omega, ?_⟩
    conv => whnf
    refine hK8 _ ?_
    clear hK8 K8
    refine W.region (cxm_ok _) (by rfl) ?_
    conv => whnf
    refine ⟨oo, ?_⟩
    conv => whnf
    have h4 := (hM2.store h2 h2 hla1 ((cf Wp.l i - 1) % p)).congr (R' := fun a j => if j < i + 1 then kmat f a j else 0) fun a j ha hj => by
     show (if a = i ∧ j = i then (cf Wp.l i - 1) % p else if j < i then kmat f a j else if j = i then cf Wp.l a else 0) = _
     by_cases c1 : j < i
     ·rw [if_neg (by omega), if_pos c1, if_pos (by omega)]
     ·by_cases c2 : j = i
      ·subst c2
       by_cases c3 : a = j
       ·subst c3; rw [if_pos ⟨rfl, rfl⟩, if_pos (by omega : a < a + 1), hkm a, if_pos rfl]
       ·rw [if_neg (by omega : ¬ (a = j ∧ j = j)), if_neg c1, if_pos rfl, if_pos (by omega : j < j + 1), hkm a, if_neg c3, Int.sub_zero, mod_cf]
      ·rw [if_neg (by omega), if_neg c1, if_neg c2, if_neg (by omega)]
    exact againA ⟨i + 1, _, by omega, h4, rfl, rfl⟩
  ·obtain rfl : n = i := by omega
   refine W.exit (hK1 _ ?_)
   clear hK7 K7 hK1 K1
   have hM2 : MatT tb bl n (kmat f) := hM.congr fun a j ha hj => if_pos hj
   refine W.rs (cxm_ok _) (by rfl) fun K hK => ?_
   conv => whnf
   refine ⟨⟨rfl, rfl⟩, ?_⟩
   conv => whnf
   refine ⟨rfl, _, nullspace_fn p n hn0 (by omega) _ _ bl (kmat f) tb hM2 (fun a j _ _ => by rw [kmat_eq]; exact ⟨Int.emod_nonneg _ (by omega), Int.emod_lt_of_pos _ (by omega)⟩), ?_⟩
   rintro hs' av x' t' hh ⟨rfl, rfl, L, hL, rfl⟩ _ _ _
   conv => whnf
   refine hK _ ?_
   clear hK K
   refine W.ret ?_
   conv => whnf
   exact ⟨.v (vPs L), ⟨rfl, rfl, rfl, fun _ _ => rfl⟩, ⟨trivial, fun _ _ => trivial⟩, L, hL.ker hf, rfl⟩

open Go Go.RowKit Go.Proofs Poly
set_option maxRecDepth 100000
set_option maxHeartbeats 8000000

set_option maxHeartbeats 8000000 in
theorem split_fn (p : Int) [SP p] (f : Poly p) (hm : Mon f) (hs : Sqf f) (hd : 2 ≤ dg f) (hd2 : dg f ≤ 400) : Fn Tryz.prog 336 [.int .i64 p, .ints none f.l] (fun _ _ z => ∃ P : List (Poly p), Irrs f P ∧ z = .v (vPs P)) := by
 have hp := Pr.two (p := p)
 have hp2 := SP.le (p := p)
 have hf0 : f ≠ 0 := hm.1
 refine fn_of (cx_ok [0, 1, 4, 5, 6, 8, 9, 11, 12, 13, 19, 20, 21, 22, 25, 26, 27, 28, 31, 32, 33, 47]) Tryz.func336 rfl (by decide) Tryz.ntmps336 (Nat.le_of_ble_eq_true rfl) fun base => ?_
 refine wrs fun K hK => ?_
 conv => whnf
 refine hK _ ?_
 clear hK K
 refine wrs fun K hK => ?_
 conv => whnf
 refine ⟨⟨rfl, by decide, fun x hx => by simp at hx; subst hx; exact ⟨rfl, rfl⟩⟩, ?_⟩
 conv => whnf
 intro b_0 hs_0 hh_0 hf_0
 try dsimp only at hh_0 hf_0
 conv => whnf
 refine hK _ ?_
 clear hK K
 refine wrs fun K hK => ?_
 conv => whnf
 refine callP rfl (kernel_fn p none f (dg f - 1) (by omega) (by omega) (by omega)) ?_
 rintro lo hi hi' z hl1 hl2 hl3 ⟨L, hL, rfl⟩ _
 have hLf := hL.few
 try dsimp only at hl1 hl2
 conv => whnf
 refine hK _ ?_
 clear hK K
 refine W.seqK fun K1 hK1 => wrs fun K hK => ?_
 conv => whnf
 refine hK _ (W.block (W.invA (fun m e => ∃ (k : Nat) (P : List (Poly p)), k ≤ L.length ∧ Cut f (L.take k) P ∧ m = L.length - k ∧ e = [(0, .v (.int .i64 p)), (5, .v (vPs P)), (19, .v (vPs L)), (20, .v (.int .i64 L.length)), (21, .v (.int .i64 k))]) ⟨0, [f], Nat.zero_le _, Cut.start hm hd, rfl, rfl⟩ ?_))
 clear hK K
 clear hh_0 hf_0 hl1 hl2 hl3
 rintro m e ⟨k, P, hk, hC, hm', rfl⟩
 refine wrs fun K hK => ?_
 conv => whnf
 refine hK _ ?_
 clear hK K
 refine W.seqK fun K7 hK7 => W.cond ⟨fun h2 => ?_, fun h2 => ?_⟩ <;> (first | replace h2 := of_decide_eq_true h2 | replace h2 := of_decide_eq_false h2)
 ·have h2 : k < L.length := by omega
  have hber := hL.ber _ (getD_mem h2)
  have hPl := hC.parts.few hf0
  have hC' : Cut f (L.take (k + 1)) (cutAll (L.getD k 0) P) := by rw [take_snoc h2]; exact hC.next hber.1
  have hPl' := hC'.parts.few hf0
  generalize hv : L.getD k 0 = v at *
  refine W.skip (hK7 _ ?_)
  clear hK7 K7
  refine W.seqK fun K8 hK8 => W.block ?_
  refine wrs fun K hK => ?_
  conv => whnf
  refine ⟨oo, ?_⟩
  conv => whnf
  have e1 : (fun j => V.ints none (L.getD j 0).l) (k : Int).toNat = .ints none v.l := by rw [Int.toNat_natCast]; show V.ints none (L.getD k 0).l = _; rw [hv]
  rw [e1]
  conv => whnf
  refine hK _ ?_
  clear hK K
  refine wrs fun K hK => ?_
  conv => whnf
  refine hK _ ?_
  clear hK K
  refine W.seqK fun K3 hK3 => wrs fun K hK => ?_
  conv => whnf
  refine hK _ (W.block (W.invA (fun m e => ∃ (j bf : Nat), j ≤ P.length ∧ m = P.length - j ∧ e = [(0, .v (.int .i64 p)), (8, .v (.ints none v.l)), (9, .ownV 24 1 bf (cutAll v (P.take j)).length fun i => .ints none ((cutAll v (P.take j)).getD i 0).l), (19, .v (vPs L)), (20, .v (.int .i64 L.length)), (21, .v (.int .i64 k)), (25, .v (vPs P)), (26, .v (.int .i64 P.length)), (27, .v (.int .i64 j))]) ⟨0, 0, Nat.zero_le _, rfl, rfl⟩ ?_))
  clear hK K
  rintro m2 e ⟨j, bf, hj, hm2, rfl⟩
  refine wrs fun K hK => ?_
  conv => whnf
  refine hK _ ?_
  clear hK K
  refine W.seqK fun K7 hK7 => W.cond ⟨fun h3 => ?_, fun h3 => ?_⟩ <;> (first | replace h3 := of_decide_eq_true h3 | replace h3 := of_decide_eq_false h3)
  ·have h3 : j < P.length := by omega
   have hpart := hC.parts.each _ (getD_mem h3)
   have hpd := dvd_dg hpart.2.2 hf0
   generalize hpq : P.getD j 0 = part at hpart hpd
   refine W.skip (hK7 _ ?_)
   clear hK7 K7
   refine W.seqK fun K4 hK4 => W.block ?_
   refine wrs fun K hK => ?_
   conv => whnf
   refine ⟨oo, ?_⟩
   conv => whnf
   have e2 : (fun j => V.ints none (P.getD j 0).l) (j : Int).toNat = .ints none part.l := by rw [Int.toNat_natCast]; show V.ints none (P.getD j 0).l = _; rw [hpq]
   rw [e2]
   conv => whnf
   refine hK _ ?_
   clear hK K
   refine wrs fun K hK => ?_
   conv => whnf
   refine hK _ (W.block (W.invE (fun m e => ∃ (a bf : Nat), a ≤ p.toNat ∧ m = p.toNat - a ∧ e = [(0, .v (.int .i64 p)), (8, .v (.ints none v.l)), (9, .ownV 24 1 bf (cutAll v (P.take j) ++ cutN v part a).length fun i => .ints none ((cutAll v (P.take j) ++ cutN v part a).getD i 0).l), (11, .v (.ints none part.l)), (19, .v (vPs L)), (20, .v (.int .i64 L.length)), (21, .v (.int .i64 k)), (25, .v (vPs P)), (26, .v (.int .i64 P.length)), (27, .v (.int .i64 j)), (31, .v (.int .i64 p)), (32, .v (.int .i64 a))]) _ _ ⟨0, bf, Nat.zero_le _, rfl, rfl⟩ (by dsimp only; omega) (by
    have e3 : cutAll v (P.take j) ++ cutN v part 0 = cutAll v (P.take j) := List.append_nil _
    rw [e3]
    repeat' first | refine And.intro ?_ ?_ | exact trivial | rfl | omega | assumption | exact .inl rfl | exact fun _ _ => rfl) ?_))
   clear hK K bf
   rintro m3 e ⟨a, bf, ha, hm3, rfl⟩
   refine wrs fun K hK => ?_
   conv => whnf
   refine hK _ ?_
   clear hK K
   refine W.seqK fun K7 hK7 => W.cond ⟨fun h4 => ?_, fun h4 => ?_⟩ <;> (first | replace h4 := of_decide_eq_true h4 | replace h4 := of_decide_eq_false h4)
   ·have h4 : a < p.toNat := by omega
    have hlen := cut_len v (P := P) (a := a) h3 (by omega)
    rw [hpq] at hlen
    have hgd := dg_gcd_le part (v - con p (a : Int)) hpart.1.1
    have hsub : dg (v - con p (a : Int)) ≤ 1000 := by
     have := dg_sub v (con p (a : Int))
     have := con_dg (p := p) (a : Int)
     have := hber.2
     omega
    have hvl : v.l.length = dg v := rfl
    have hgl : (gcd part (v - con p (a : Int))).l.length = dg (gcd part (v - con p (a : Int))) := rfl
    have hb1 : Bd 97 [-(a : Int)] := fun i => by
     cases i with
     | zero => rw [cf_cons_zero]; omega
     | succ i => rw [cf_cons_succ, cf_nil]; omega
    refine W.skip (hK7 _ ?_)
    clear hK7 K7
    refine W.seqK fun K5 hK5 => W.block ?_
    -- the end of the round
    have fin : ∀ (b' : Nat) (s : S), base ≤ s.hs → coverK s.env [(0, .v (.int .i64 p)), (8, .v (.ints none v.l)), (9, .ownV 24 1 b' (cutAll v (P.take j) ++ cutN v part (a + 1)).length fun i => .ints none ((cutAll v (P.take j) ++ cutN v part (a + 1)).getD i 0).l), (11, .v (.ints none part.l)), (19, .v (vPs L)), (20, .v (.int .i64 L.length)), (21, .v (.int .i64 k)), (25, .v (vPs P)), (26, .v (.int .i64 P.length)), (27, .v (.int .i64 j)), (31, .v (.int .i64 p)), (32, .v (.int .i64 a))] → K5 s := by
     intro b' s h5 h6
     refine hK5 _ (W.weak (t := ⟨_, base⟩) ⟨h5, h6⟩ (Nat.le_refl _) ?_)
     refine wrg ?_
     conv => whnf
     refine ⟨oo, ?_⟩
     conv => whnf
     refine ⟨_, _, ⟨a + 1, b', by omega, rfl, rfl⟩, by omega, by dsimp only; omega, ?_⟩
     exact cvr
    clear hK5
    refine wrs fun K hK => ?_
    conv => whnf
    refine hK _ ?_
    clear hK K
    refine wrs fun K hK => ?_
    conv => whnf
    refine ⟨oo, ?_⟩
    conv => whnf
    refine ⟨⟨rfl, by decide⟩, ?_⟩
    conv => whnf
    intro b_1 hs_1 hh_1 hf_1
    try dsimp only at hh_1 hf_1
    conv => whnf
    refine callI rfl (sumOf_fn none _ v.l [-(a : Int)] ((l_bd v).le (by omega)) (hb1.le (by omega)) (by have := hber.2; omega) (by simp)) fun hs_2 b_2 hh_2 hf_2 => ?_
    try dsimp only at hh_2 hf_2
    conv => whnf
    refine callI rfl (reduce_fn p (by omega) (by omega) _ (trimZ (addL v.l [-(a : Int)])) (Bd.trim fun i => by rw [cf_addL]; have := l_bd v i; have := hb1 i; omega) (Nat.le_trans (trimZ_length _) (by rw [addL, mkL_length]; have := hber.2; simp; omega))) fun hs_3 b_3 hh_3 hf_3 => ?_
    try dsimp only at hh_3 hf_3
    conv => whnf
    rw [sub_con_l]
    refine callI rfl (common_fn p none _ part (v - con p (a : Int)) (by omega) hsub) fun hs_4 b_4 hh_4 hf_4 => ?_
    try dsimp only at hh_4 hf_4
    conv => whnf
    refine hK _ ?_
    clear hK K
    refine wrs fun K hK => ?_
    conv => whnf
    rw [hgl]
    refine hK _ ?_
    clear hK K
    refine W.cond ⟨fun h5 => ?_, fun h5 => ?_⟩
    ·have h5 := of_decide_eq_true h5
     refine wrg ?_
     conv => whnf
     refine ⟨⟨rfl, by decide, fun x hx => by simp at hx; subst hx; exact ⟨rfl, rfl⟩⟩, ?_⟩
     conv => whnf
     intro b_5 hs_5 hh_5 hf_5
     try dsimp only at hh_5 hf_5
     conv => whnf
     refine ⟨by omega, ?_⟩
     conv => whnf
     refine ⟨fun i => .ints none ((cutAll v (P.take j) ++ cutN v part a ++ [gcd part (v - con p (a : Int))]).getD i 0).l, fun i hi => congrArg (fun q : Poly p => V.ints none q.l) (getD_app_l hi), fun i hi => ?_, ?_⟩
     ·obtain rfl : i = 0 := by omega
      exact congrArg (fun q : Poly p => V.ints none q.l) getD_app_r
     intro b_6 hs_6 hh_6 hf_6
     try dsimp only at hh_6 hf_6
     conv => whnf
     refine fin b_6 _ (by dsimp only; omega) ?_
     have e4 : cutAll v (P.take j) ++ cutN v part (a + 1) = cutAll v (P.take j) ++ cutN v part a ++ [gcd part (v - con p (a : Int))] := by
      rw [cutN_succ, cut1, if_pos (by omega), List.append_assoc]
     rw [e4, List.length_append (bs := [_])]
     exact cvr
    ·have h5 := of_decide_eq_false h5
     refine W.skip (fin bf _ (by dsimp only; omega) ?_)
     have e4 : cutAll v (P.take j) ++ cutN v part (a + 1) = cutAll v (P.take j) ++ cutN v part a := by
      rw [cutN_succ, cut1, if_neg (by omega), List.append_nil]
     rw [e4]
     exact cvr
   ·obtain rfl : a = p.toNat := by omega
    refine W.exit (hK4 _ ?_)
    clear hK7 K7 hK4 K4
    refine wrg ?_
    conv => whnf
    refine ⟨oo, ?_⟩
    conv => whnf
    refine ⟨_, _, ⟨j + 1, bf, by omega, rfl, rfl⟩, by omega, by dsimp only; omega, ?_⟩
    have e4 : cutAll v (P.take (j + 1)) = cutAll v (P.take j) ++ cutN v part p.toNat := by rw [cutAll_take v h3, hpq]
    rw [e4]
    exact cvr
  ·obtain rfl : j = P.length := by omega
   refine W.exit (hK3 _ ?_)
   clear hK7 K7 hK3 K3
   rw [List.take_length]
   refine wrg ?_
   conv => whnf
   refine hK8 _ ?_
   clear hK8 K8
   refine wrg ?_
   conv => whnf
   refine ⟨oo, ?_⟩
   conv => whnf
   refine ⟨_, _, ⟨k + 1, cutAll v P, by omega, hC', rfl, rfl⟩, by omega, by dsimp only; omega, ?_⟩
   exact cvr
 ·obtain rfl : k = L.length := by omega
  rw [List.take_length] at hC
  refine W.exit (hK1 _ ?_)
  clear hK7 K7 hK1 K1
  refine wrs fun K hK => ?_
  conv => whnf
  refine hK _ ?_
  clear hK K
  refine W.ret ?_
  conv => whnf
  exact ⟨.v (vPs P), ⟨rfl, rfl, rfl, fun _ _ => rfl⟩, ⟨trivial, fun _ _ => trivial⟩, P, hC.done hf0 hs hL, rfl⟩

open Go Go.RowKit Go.Proofs Poly
set_option maxRecDepth 100000
set_option maxHeartbeats 8000000

def cmpI (x y : Int) : Int := if x < y then -1 else if y < x then 1 else 0
def cmpAt (f g : List Int) : Nat → Int
 | 0 => 0
 | n + 1 => if cf f n < cf g n then -1 else if cf g n < cf f n then 1 else cmpAt f g n
def cmpP (f g : List Int) : Int := if f.length < g.length then -1 else if g.length < f.length then 1 else cmpAt f g f.length

theorem cmpP_ne {xs ys : List Int} (h : xs.length ≠ ys.length) : cmpP xs ys = cmpI xs.length ys.length := by
 unfold cmpP cmpI
 by_cases h1 : xs.length < ys.length
 ·rw [if_pos h1, if_pos (by omega)]
 ·rw [if_neg h1, if_pos (by omega), if_neg (by omega), if_pos (by omega)]

theorem isNaNint_fn (x : Int) : FnV 386 [.int .i64 x] (.bool false) := by
 refine fn_of (cx_ok [0, 2]) Tryz.func386 rfl (by decide) Tryz.ntmps386 (Nat.le_of_ble_eq_true rfl) fun base => ?_
 refine wrs fun K hK => ?_
 conv => whnf
 refine hK _ ?_
 clear hK K
 refine wrs fun K hK => ?_
 conv => whnf
 refine hK _ ?_
 clear hK K
 refine W.ret ?_
 conv => whnf
 exact ⟨.v (.bool false), (decide_eq_false fun h : x ≠ x => h rfl), trivial, rfl⟩
theorem isNaNint64_fn (x : Int) : FnV 387 [.int .i64 x] (.bool false) := by
 refine fn_of (cx_ok [0, 2]) Tryz.func387 rfl (by decide) Tryz.ntmps387 (Nat.le_of_ble_eq_true rfl) fun base => ?_
 refine wrs fun K hK => ?_
 conv => whnf
 refine hK _ ?_
 clear hK K
 refine wrs fun K hK => ?_
 conv => whnf
 refine hK _ ?_
 clear hK K
 refine W.ret ?_
 conv => whnf
 exact ⟨.v (.bool false), (decide_eq_false fun h : x ≠ x => h rfl), trivial, rfl⟩
theorem compareInt_fn (x y : Int) : FnV 346 [.int .i64 x, .int .i64 y] (.int .i64 (cmpI x y)) := by
 refine fn_of (cx_ok [0, 1, 4, 5, 6, 11, 12, 13, 16, 19]) Tryz.func346 rfl (by decide) Tryz.ntmps346 (Nat.le_of_ble_eq_true rfl) fun base => ?_
 refine wrs fun K hK => ?_
 conv => whnf
 refine hK _ ?_
 clear hK K
 refine wrs fun K hK => ?_
 conv => whnf
 refine callV rfl (isNaNint_fn x) fun hs' hhs => ?_
 try dsimp only at hhs
 conv => whnf
 refine hK _ ?_
 clear hK K
 refine wrs fun K hK => ?_
 conv => whnf
 refine callV rfl (isNaNint_fn y) fun hs' hhs => ?_
 try dsimp only at hhs
 conv => whnf
 refine hK _ ?_
 clear hK K
 refine W.seqK fun K1 hK1 => wrs fun K hK => ?_
 conv => whnf
 refine hK _ (W.cond ⟨fun h => absurd h (by decide), fun _ => W.skip (hK1 _ ?_)⟩)
 clear hK K hK1 K1
 refine W.seqK fun K1 hK1 => wrs fun K hK => ?_
 conv => whnf
 refine hK _ (W.cond ⟨fun h => absurd h (by decide), fun _ => W.skip (hK1 _ ?_)⟩)
 clear hK K hK1 K1
 refine W.seqK fun K1 hK1 => wrs fun K hK => ?_
 conv => whnf
 refine hK _ (W.cond ⟨fun h => ?_, fun h => ?_⟩) <;> clear hK K
 ·have h := of_decide_eq_true h
  refine wrs fun K hK => ?_
  conv => whnf
  refine hK _ ?_
  clear hK K
  refine W.ret ?_
  conv => whnf
  exact ⟨.v (.int .i64 (cmpI x y)), ⟨rfl, by rw [cmpI, if_pos h]⟩, trivial, rfl⟩
 ·have h := of_decide_eq_false h
  refine W.skip (hK1 _ ?_)
  clear hK1 K1
  refine W.seqK fun K1 hK1 => wrs fun K hK => ?_
  conv => whnf
  refine hK _ (W.cond ⟨fun h2 => ?_, fun h2 => ?_⟩) <;> clear hK K
  ·have h2 := of_decide_eq_true h2
   refine wrs fun K hK => ?_
   conv => whnf
   refine hK _ ?_
   clear hK K
   refine W.ret ?_
   conv => whnf
   exact ⟨.v (.int .i64 (cmpI x y)), ⟨rfl, by rw [cmpI, if_neg h, if_pos h2]⟩, trivial, rfl⟩
  ·have h2 := of_decide_eq_false h2
   refine W.skip (hK1 _ ?_)
   clear hK1 K1
   refine wrs fun K hK => ?_
   conv => whnf
   refine hK _ ?_
   clear hK K
   refine W.ret ?_
   conv => whnf
   exact ⟨.v (.int .i64 (cmpI x y)), ⟨rfl, by rw [cmpI, if_neg h, if_neg h2]⟩, trivial, rfl⟩
theorem compareInt64_fn (x y : Int) : FnV 347 [.int .i64 x, .int .i64 y] (.int .i64 (cmpI x y)) := by
 refine fn_of (cx_ok [0, 1, 4, 5, 6, 11, 12, 13, 16, 19]) Tryz.func347 rfl (by decide) Tryz.ntmps347 (Nat.le_of_ble_eq_true rfl) fun base => ?_
 refine wrs fun K hK => ?_
 conv => whnf
 refine hK _ ?_
 clear hK K
 refine wrs fun K hK => ?_
 conv => whnf
 refine callV rfl (isNaNint64_fn x) fun hs' hhs => ?_
 try dsimp only at hhs
 conv => whnf
 refine hK _ ?_
 clear hK K
 refine wrs fun K hK => ?_
 conv => whnf
 refine callV rfl (isNaNint64_fn y) fun hs' hhs => ?_
 try dsimp only at hhs
 conv => whnf
 refine hK _ ?_
 clear hK K
 refine W.seqK fun K1 hK1 => wrs fun K hK => ?_
 conv => whnf
 refine hK _ (W.cond ⟨fun h => absurd h (by decide), fun _ => W.skip (hK1 _ ?_)⟩)
 clear hK K hK1 K1
 refine W.seqK fun K1 hK1 => wrs fun K hK => ?_
 conv => whnf
 refine hK _ (W.cond ⟨fun h => absurd h (by decide), fun _ => W.skip (hK1 _ ?_)⟩)
 clear hK K hK1 K1
 refine W.seqK fun K1 hK1 => wrs fun K hK => ?_
 conv => whnf
 refine hK _ (W.cond ⟨fun h => ?_, fun h => ?_⟩) <;> clear hK K
 ·have h := of_decide_eq_true h
  refine wrs fun K hK => ?_
  conv => whnf
  refine hK _ ?_
  clear hK K
  refine W.ret ?_
  conv => whnf
  exact ⟨.v (.int .i64 (cmpI x y)), ⟨rfl, by rw [cmpI, if_pos h]⟩, trivial, rfl⟩
 ·have h := of_decide_eq_false h
  refine W.skip (hK1 _ ?_)
  clear hK1 K1
  refine W.seqK fun K1 hK1 => wrs fun K hK => ?_
  conv => whnf
  refine hK _ (W.cond ⟨fun h2 => ?_, fun h2 => ?_⟩) <;> clear hK K
  ·have h2 := of_decide_eq_true h2
   refine wrs fun K hK => ?_
   conv => whnf
   refine hK _ ?_
   clear hK K
   refine W.ret ?_
   conv => whnf
   exact ⟨.v (.int .i64 (cmpI x y)), ⟨rfl, by rw [cmpI, if_neg h, if_pos h2]⟩, trivial, rfl⟩
  ·have h2 := of_decide_eq_false h2
   refine W.skip (hK1 _ ?_)
   clear hK1 K1
   refine wrs fun K hK => ?_
   conv => whnf
   refine hK _ ?_
   clear hK K
   refine W.ret ?_
   conv => whnf
   exact ⟨.v (.int .i64 (cmpI x y)), ⟨rfl, by rw [cmpI, if_neg h, if_neg h2]⟩, trivial, rfl⟩
theorem comparePolynomials_fn (g g' : Option Nat) (xs ys : List Int) (hx : xs.length ≤ 1000000) (_ : ys.length ≤ 1000000) : FnV 254 [.ints g xs, .ints g' ys] (.int .i64 (cmpP xs ys)) := by
 refine fn_of (cx_ok [0, 1, 4, 5, 10, 20, 31]) Tryz.func254 rfl (by decide) Tryz.ntmps254 (Nat.le_of_ble_eq_true rfl) fun base => ?_
 refine wrs fun K hK => ?_
 conv => whnf
 refine hK _ ?_
 clear hK K
 refine W.seqK fun K1 hK1 => wrs fun K hK => ?_
 conv => whnf
 refine hK _ (W.cond ⟨fun h => ?_, fun h => ?_⟩) <;> clear hK K
 ·have h := of_decide_eq_true h
  refine wrs fun K hK => ?_
  conv => whnf
  refine callV rfl (compareInt_fn xs.length ys.length) fun hs' hhs => ?_
  try dsimp only at hhs
  conv => whnf
  refine hK _ ?_
  clear hK K
  have h' : xs.length ≠ ys.length := fun e => h (by rw [e])
  refine W.ret ?_
  conv => whnf
  exact ⟨.v (.int .i64 (cmpP xs ys)), ⟨rfl, (cmpP_ne h').symm⟩, trivial, rfl⟩
 ·have h := of_decide_eq_false h
  have h' : xs.length = ys.length := by omega
  refine W.skip (hK1 _ ?_)
  clear hK1 K1
  refine W.seqK fun K1 hK1 => wrs fun K hK => ?_
  conv => whnf
  refine ⟨oo, ?_⟩
  conv => whnf
  refine hK _ (W.block (W.invA (fun m e => ∃ n : Nat, n ≤ xs.length ∧ cmpP xs ys = cmpAt xs ys n ∧ m = n ∧ e = [(0, .v (.ints g xs)), (1, .v (.ints g' ys)), (5, .v (.int .i64 ((n : Int) - 1)))]) ⟨xs.length, Nat.le_refl _, by unfold cmpP; rw [if_neg (by omega), if_neg (by omega)], rfl, rfl⟩ ?_))
  clear hK K
  rintro m e ⟨n, h1, h2, hm, rfl⟩
  refine W.seqK fun K7 hK7 => wrs fun K hK => ?_
  conv => whnf
  refine hK _ (W.cond ⟨fun h3 => ?_, fun h3 => ?_⟩) <;> clear hK K <;> (first | replace h3 := of_decide_eq_true h3 | replace h3 := of_decide_eq_false h3)
  ·obtain ⟨k, rfl⟩ : ∃ k, n = k + 1 := ⟨n - 1, by omega⟩
   have ek : (((k + 1 : Nat) : Int) - 1) = (k : Int) := by omega
   rw [ek]
   refine W.skip (hK7 _ ?_)
   clear hK7 K7
   refine W.seqK fun K8 hK8 => W.block ?_
   refine W.rd (cx_ok _) follows (by rfl) fun K hK => ?_
   conv => whnf
   refine ⟨oo, ?_⟩
   conv => whnf
   refine ⟨oo, ?_⟩
   conv => whnf
   rw [Int.toNat_natCast]
   refine hK _ (W.cond ⟨fun h4 => ?_, fun h4 => ?_⟩) <;> clear hK K
   ·have h4 : cf xs k ≠ cf ys k := of_decide_eq_true h4
    refine W.rd (cx_ok _) follows (by rfl) fun K hK => ?_
    conv => whnf
    refine ⟨oo, ?_⟩
    conv => whnf
    refine ⟨oo, ?_⟩
    conv => whnf
    rw [Int.toNat_natCast]
    refine ⟨_, cxF (compareInt64_fn (cf xs k) (cf ys k)), ?_⟩
    conv => whnf
    refine hK _ ?_
    clear hK K
    refine W.ret ?_
    conv => whnf
    exact ⟨.v (.int .i64 (cmpP xs ys)), ⟨rfl, by rw [h2]; unfold cmpAt cmpI; by_cases h5 : cf xs k < cf ys k <;> by_cases h6 : cf ys k < cf xs k <;> first | omega | simp [h5, h6]⟩, trivial, rfl⟩
   ·have h4 : ¬ cf xs k ≠ cf ys k := of_decide_eq_false h4
    refine W.skip (hK8 _ ?_)
    clear hK8 K8
    refine wrg ?_
    conv => whnf
    refine ⟨oo, ?_⟩
    conv => whnf
    exact againA ⟨k, by omega, by rw [h2]; exact (if_neg (by omega)).trans (if_neg (by omega)), rfl, rfl⟩
  ·obtain rfl : n = 0 := by omega
   refine W.exit (hK1 _ ?_)
   clear hK7 K7 hK1 K1
   refine wrs fun K hK => ?_
   conv => whnf
   refine hK _ ?_
   clear hK K
   refine W.ret ?_
   conv => whnf
   exact ⟨.v (.int .i64 (cmpP xs ys)), ⟨rfl, h2.symm⟩, trivial, rfl⟩

theorem l09Compare_fn (g g' : Option Nat) (xs ys : List Int) (hx : xs.length ≤ 1000000) (_ : ys.length ≤ 1000000) : FnV 413 [.ints g xs, .ints g' ys] (.int .i64 (cmpP xs ys)) := by
 refine fn_of (cx_ok [0, 1, 4, 5, 6, 12, 22, 25, 35]) Tryz.func413 rfl (by decide) Tryz.ntmps413 (Nat.le_of_ble_eq_true rfl) fun base => ?_
 refine wrs fun K hK => ?_
 conv => whnf
 refine hK _ ?_
 clear hK K
 refine W.seqK fun K1 hK1 => W.block (wrs fun K hK => ?_)
 conv => whnf
 refine hK _ (W.cond ⟨fun h => ?_, fun h => ?_⟩) <;> clear hK K
 ·have h := of_decide_eq_true h
  refine wrs fun K hK => ?_
  conv => whnf
  refine hK _ ?_
  clear hK K
  refine W.ret ?_
  conv => whnf
  exact ⟨.v (.int .i64 (cmpP xs ys)), ⟨rfl, by unfold cmpP; rw [if_pos (by omega)]⟩, trivial, rfl⟩
 have h := of_decide_eq_false h
 refine wrs fun K hK => ?_
 conv => whnf
 refine hK _ (W.cond ⟨fun h' => ?_, fun h' => ?_⟩) <;> clear hK K
 ·have h' := of_decide_eq_true h'
  refine wrs fun K hK => ?_
  conv => whnf
  refine hK _ ?_
  clear hK K
  refine W.ret ?_
  conv => whnf
  exact ⟨.v (.int .i64 (cmpP xs ys)), ⟨rfl, by unfold cmpP; rw [if_neg (by omega), if_pos (by omega)]⟩, trivial, rfl⟩
 have h' := of_decide_eq_false h'
 refine W.skip (hK1 _ ?_)
 clear hK1 K1
 refine W.seqK fun K1 hK1 => wrs fun K hK => ?_
 conv => whnf
 refine ⟨oo, ?_⟩
 conv => whnf
 refine hK _ (W.block (W.invA (fun m e => ∃ n : Nat, n ≤ xs.length ∧ cmpP xs ys = cmpAt xs ys n ∧ m = n ∧ e = [(0, .v (.ints g xs)), (1, .v (.ints g' ys)), (5, .v (.int .i64 ((n : Int) - 1)))]) ⟨xs.length, Nat.le_refl _, by unfold cmpP; rw [if_neg (by omega), if_neg (by omega)], rfl, rfl⟩ ?_))
 clear hK K
 rintro m e ⟨n, h1, h2, hm, rfl⟩
 refine W.seqK fun K7 hK7 => wrs fun K hK => ?_
 conv => whnf
 refine hK _ (W.cond ⟨fun h3 => ?_, fun h3 => ?_⟩) <;> clear hK K <;> (first | replace h3 := of_decide_eq_true h3 | replace h3 := of_decide_eq_false h3)
 ·obtain ⟨k, rfl⟩ : ∃ k, n = k + 1 := ⟨n - 1, by omega⟩
  have ek : (((k + 1 : Nat) : Int) - 1) = (k : Int) := by omega
  rw [ek]
  refine W.skip (hK7 _ ?_)
  clear hK7 K7
  refine W.seqK fun K8 hK8 => W.block ?_
  refine W.block ?_
  refine W.rd (cx_ok _) follows (by rfl) fun K hK => ?_
  conv => whnf
  refine ⟨oo, ?_⟩
  conv => whnf
  refine ⟨oo, ?_⟩
  conv => whnf
  rw [Int.toNat_natCast]
  refine hK _ (W.cond ⟨fun h4 => ?_, fun h4 => ?_⟩) <;> clear hK K
  ·have h4 : cf xs k < cf ys k := of_decide_eq_true h4
   refine wrs fun K hK => ?_
   conv => whnf
   refine hK _ ?_
   clear hK K
   refine W.ret ?_
   conv => whnf
   exact ⟨.v (.int .i64 (cmpP xs ys)), ⟨rfl, by rw [h2]; unfold cmpAt; rw [if_pos h4]⟩, trivial, rfl⟩
  have h4 : ¬ cf xs k < cf ys k := of_decide_eq_false h4
  refine W.rd (cx_ok _) follows (by rfl) fun K hK => ?_
  conv => whnf
  refine ⟨oo, ?_⟩
  conv => whnf
  refine ⟨oo, ?_⟩
  conv => whnf
  rw [Int.toNat_natCast]
  refine hK _ (W.cond ⟨fun h5 => ?_, fun h5 => ?_⟩) <;> clear hK K
  ·have h5 : cf ys k < cf xs k := of_decide_eq_true h5
   refine wrs fun K hK => ?_
   conv => whnf
   refine hK _ ?_
   clear hK K
   refine W.ret ?_
   conv => whnf
   exact ⟨.v (.int .i64 (cmpP xs ys)), ⟨rfl, by rw [h2]; unfold cmpAt; rw [if_neg h4, if_pos h5]⟩, trivial, rfl⟩
  have h5 : ¬ cf ys k < cf xs k := of_decide_eq_false h5
  refine W.skip (hK8 _ ?_)
  clear hK8 K8
  refine wrg ?_
  conv => whnf
  refine ⟨oo, ?_⟩
  conv => whnf
  exact againA ⟨k, by omega, by rw [h2]; exact (if_neg (by omega)).trans (if_neg (by omega)), rfl, rfl⟩
 ·obtain rfl : n = 0 := by omega
  refine W.exit (hK1 _ ?_)
  clear hK7 K7 hK1 K1
  refine wrs fun K hK => ?_
  conv => whnf
  refine hK _ ?_
  clear hK K
  refine W.ret ?_
  conv => whnf
  exact ⟨.v (.int .i64 (cmpP xs ys)), ⟨rfl, h2.symm⟩, trivial, rfl⟩

theorem cmpAt_lt {f g : List Int} : ∀ n, cmpAt f g n < 0 ↔ ∃ i, i < n ∧ cf f i < cf g i ∧ ∀ j, i < j → j < n → cf f j = cf g j
 | 0 => ⟨fun h => by simp [cmpAt] at h, fun ⟨i, h, _⟩ => by omega⟩
 | n + 1 => by
  unfold cmpAt
  by_cases h1 : cf f n < cf g n
  ·rw [if_pos h1]
   exact ⟨fun _ => ⟨n, by omega, h1, fun j h2 h3 => by omega⟩, fun _ => by omega⟩
  ·rw [if_neg h1]
   by_cases h2 : cf g n < cf f n
   ·rw [if_pos h2]
    refine ⟨fun h => by omega, fun ⟨i, h3, h4, h5⟩ => ?_⟩
    by_cases hi : i = n
    ·subst hi; omega
    ·have := h5 n (by omega) (by omega); omega
   ·rw [if_neg h2, cmpAt_lt n]
    constructor
    ·rintro ⟨i, h3, h4, h5⟩
     refine ⟨i, by omega, h4, fun j h6 h7 => ?_⟩
     by_cases hj : j = n
     ·subst hj; omega
     ·exact h5 j h6 (by omega)
    ·rintro ⟨i, h3, h4, h5⟩
     by_cases hi : i = n
     ·subst hi; omega
     ·exact ⟨i, by omega, h4, fun j h6 h7 => h5 j h6 (by omega)⟩
theorem cmpP_lt {p : Int} [SP p] (f g : Poly p) : cmpP f.l g.l < 0 ↔ ltP f g := by
 have hf : f.l.length = dg f := rfl
 have hg : g.l.length = dg g := rfl
 unfold cmpP ltP
 by_cases h1 : f.l.length < g.l.length
 ·rw [if_pos h1]; exact ⟨fun _ => .inl h1, fun _ => by omega⟩
 ·rw [if_neg h1]
  by_cases h2 : g.l.length < f.l.length
  ·rw [if_pos h2]; exact ⟨fun h => by omega, fun h => by omega⟩
  ·rw [if_neg h2, cmpAt_lt]
   have he : ∀ j, f.l.length ≤ j → cf f.l j = cf g.l j := fun j hj => by rw [cf_ge hj, cf_ge (by omega)]
   constructor
   ·rintro ⟨i, h3, h4, h5⟩
    exact .inr ⟨by omega, i, h4, fun j hj => by
     by_cases h6 : j < f.l.length
     ·exact h5 j hj h6
     ·exact he j (by omega)⟩
   ·rintro (h | ⟨_, i, h4, h5⟩)
    ·omega
    ·refine ⟨i, ?_, h4, fun j hj _ => h5 j hj⟩
     by_cases h6 : i < f.l.length
     ·exact h6
     ·have := he i (by omega); omega

open Go Go.RowKit Go.Proofs Poly
set_option maxRecDepth 100000
set_option maxHeartbeats 8000000

variable {p : Int} [SP p]
def vF (x : Poly p × Nat) : V := .agg [.ints none x.1.l, .int .i64 (x.2 : Int)]

structure Mix (n : Nat) (h0 h : Nat → Poly p × Nat) : Prop where
 mem : ∀ x, (∃ i, i < n ∧ h i = x) ↔ (∃ i, i < n ∧ h0 i = x)
 dis : ∀ i j, i < n → j < n → (h i).1 = (h j).1 → i = j
def swapF (h : Nat → Poly p × Nat) (a b : Nat) : Nat → Poly p × Nat := fun j => if j = a then h b else if j = b then h a else h j
theorem swapF_l {p : Int} (h : Nat → Poly p × Nat) (a b : Nat) : swapF h a b a = h b := if_pos rfl
theorem swapF_r {p : Int} (h : Nat → Poly p × Nat) (a b : Nat) : swapF h a b b = h a := by
 unfold swapF
 by_cases e : b = a
 ·rw [if_pos e, e]
 ·rw [if_neg e, if_pos rfl]
theorem swapF_ne {p : Int} {h : Nat → Poly p × Nat} {a b j : Nat} (h1 : j ≠ a) (h2 : j ≠ b) : swapF h a b j = h j := by
 unfold swapF; rw [if_neg h1, if_neg h2]
def trp (a b j : Nat) : Nat := if j = a then b else if j = b then a else j
theorem swapF_eq {p : Int} (h : Nat → Poly p × Nat) (a b j : Nat) : swapF h a b j = h (trp a b j) := by
 unfold swapF trp; split
 ·rfl
 ·split <;> rfl
theorem trp_trp (a b j : Nat) : trp a b (trp a b j) = j := by
 unfold trp
 by_cases h1 : j = a
 ·rw [if_pos h1]; by_cases h2 : b = a
  ·rw [if_pos h2, h2, h1]
  ·rw [if_neg h2, if_pos rfl, h1]
 ·rw [if_neg h1]; by_cases h2 : j = b
  ·rw [if_pos h2, if_pos rfl, h2]
  ·rw [if_neg h2, if_neg h1, if_neg h2]
theorem trp_lt {a b j n : Nat} (ha : a < n) (hb : b < n) (hj : j < n) : trp a b j < n := by
 unfold trp; split
 ·exact hb
 ·split <;> assumption
theorem Mix.swap {p : Int} {n : Nat} {h0 h : Nat → Poly p × Nat} (m : Mix n h0 h) {a b : Nat} (ha : a < n) (hb : b < n) : Mix n h0 (swapF h a b) := by
 refine ⟨fun x => Iff.trans ⟨?_, ?_⟩ (m.mem x), fun i j hi hj e => ?_⟩
 ·rintro ⟨i, hi, e⟩; rw [swapF_eq] at e; exact ⟨_, trp_lt ha hb hi, e⟩
 ·rintro ⟨i, hi, e⟩; exact ⟨trp a b i, trp_lt ha hb hi, by rw [swapF_eq, trp_trp]; exact e⟩
 ·rw [swapF_eq, swapF_eq] at e
  have := m.dis _ _ (trp_lt ha hb hi) (trp_lt ha hb hj) e
  have := congrArg (trp a b) this
  rwa [trp_trp, trp_trp] at this
def Ord (h : Nat → Poly p × Nat) (i : Nat) : Prop := ∀ x y, x < y → y < i → ltP (h x).1 (h y).1
def OrdB (h : Nat → Poly p × Nat) (i j : Nat) : Prop := (∀ x y, x < y → y ≤ i → x ≠ j → y ≠ j → ltP (h x).1 (h y).1) ∧ ∀ y, j < y → y ≤ i → ltP (h j).1 (h y).1
theorem OrdB.start {p : Int} {h : Nat → Poly p × Nat} {i : Nat} (o : Ord h i) : OrdB h i i := ⟨fun x y h1 h2 h3 h4 => o x y h1 (by omega), fun y h1 h2 => by omega⟩
theorem OrdB.step {p : Int} {h : Nat → Poly p × Nat} {i j : Nat} (o : OrdB h i (j + 1)) (hj : j + 1 ≤ i) (hl : ltP (h (j + 1)).1 (h j).1) : OrdB (swapF h (j + 1) j) i j := by
 refine ⟨fun x y h1 h2 h3 h4 => ?_, fun y h1 h2 => ?_⟩
 ·by_cases hx : x = j + 1
  ·subst hx
   rw [swapF_l, swapF_ne (by omega) (by omega)]
   exact o.1 j y (by omega) h2 (by omega) (by omega)
  ·rw [swapF_ne hx h3]
   by_cases hy : y = j + 1
   ·subst hy; rw [swapF_l]; exact o.1 x j (by omega) (by omega) (by omega) (by omega)
   ·rw [swapF_ne hy h4]; exact o.1 x y h1 h2 hx hy
 ·rw [swapF_r]
  by_cases hy : y = j + 1
  ·subst hy; rw [swapF_l]; exact hl
  ·rw [swapF_ne hy (by omega)]; exact o.2 y (by omega) h2
theorem OrdB.fin {p : Int} {n : Nat} {h0 h : Nat → Poly p × Nat} (m : Mix n h0 h) {i j : Nat} (hi : i < n) (hj : j ≤ i) (o : OrdB h i j) (hs : j = 0 ∨ ∃ k, j = k + 1 ∧ ¬ ltP (h j).1 (h k).1) : Ord h (i + 1) := by
 intro x y h1 h2
 by_cases hx : x = j
 ·subst hx; exact o.2 y h1 (by omega)
 ·by_cases hy : y = j
  ·subst hy
   obtain ⟨k, rfl, hk⟩ := hs.resolve_left (by omega)
   have hlt : ltP (h k).1 (h (k + 1)).1 := (ltP_total fun e => by have := m.dis _ _ (by omega) (by omega) e; omega).resolve_left hk
   by_cases hxk : x = k
   ·subst hxk; exact hlt
   ·exact ltP_trans (o.1 x k (by omega) (by omega) (by omega) (by omega)) hlt
  ·exact o.1 x y h1 (by omega) hx hy

theorem cmpFac_fn {p : Int} (x y : Poly p × Nat) (hx : dg x.1 ≤ 1000000) (hy : dg y.1 ≤ 1000000) : FnV 338 [vF x, vF y] (.int .i64 (cmpP x.1.l y.1.l)) := by
 refine fn_of (cx_ok [0, 1, 2, 3, 4]) Tryz.func338 rfl (by decide) Tryz.ntmps338 (Nat.le_of_ble_eq_true rfl) fun base => ?_
 refine wrs fun K hK => ?_
 conv => whnf
 refine ⟨rfl, ?_⟩
 conv => whnf
 intro b_1 hs_1 hh_1 hf_1
 try dsimp only at hh_1 hf_1
 conv => whnf
 refine ⟨rfl, ?_⟩
 conv => whnf
 intro b_2 hs_2 hh_2 hf_2
 try dsimp only at hh_2 hf_2
 conv => whnf
 refine hK _ ?_
 clear hK K
 refine wrs fun K hK => ?_
 conv => whnf
 refine callV rfl (comparePolynomials_fn none none x.1.l y.1.l hx hy) fun hs' hhs => ?_
 conv => whnf
 refine hK _ ?_
 clear hK K
 refine W.ret ?_
 conv => whnf
 exact ⟨.v (.int .i64 (cmpP x.1.l y.1.l)), ⟨rfl, rfl⟩, trivial, rfl⟩

theorem insertionSort_fn (bk n : Nat) (h0 : Nat → Poly p × Nat) (hn : n ≤ 1000000) (hd : ∀ i, i < n → dg (h0 i).1 ≤ 1000000) (hdis : ∀ i j, i < n → j < n → (h0 i).1 = (h0 j).1 → i = j) :
  MFn Tryz.prog 402 [.nil, .int .i64 0, .int .i64 n, .func 338 []] 0 (.ownV 75 2 bk n fun j => vF (h0 j)) .dead
   (fun _ av x' t' => av = .v (.tup []) ∧ t' = .dead ∧ ∃ h : Nat → Poly p × Nat, Mix n h0 h ∧ Ord h n ∧ x' = .ownV 75 2 bk n fun j => vF (h j)) := by
 refine mfn_of (cx := cx [0, 1, 2, 3, 8, 9, 14, 34, 1000000, 1000001]) Tryz.func402 rfl (by decide) Tryz.ntmps402 (Nat.le_of_ble_eq_true rfl) (Nat.le_of_ble_eq_true rfl) rfl rfl fun base hs0 O U hw v0 hb0 => ?_
 refine wrs fun K hK => ?_
 conv => whnf
 refine ⟨by decide, ?_⟩
 conv => whnf
 refine hK _ (W.block (W.invH hs0 hb0 (fun m e => ∃ (i : Nat) (h : Nat → Poly p × Nat), 1 ≤ i ∧ i ≤ n + 1 ∧ Mix n h0 h ∧ Ord h i ∧ m = n + 1 - i ∧ e = [(0, .ownV 75 2 bk n fun j => vF (h j)), (1, .v (.int .i64 0)), (2, .v (.int .i64 n)), (3, .v (.func 338 [])), (8, .v (.int .i64 i)), (vt, .dead), (vk, .keep O U hw 0 v0)]) _ _ (⟨1, h0, by omega, by omega, ⟨fun _ => Iff.rfl, hdis⟩, fun x y h1 h2 => by omega, rfl, rfl⟩) (by dsimp only; omega) (by repeat' first | refine And.intro ?_ ?_ | exact trivial | rfl | omega | exact .inl rfl | exact fun _ _ => rfl | exact fun _ _ h => h | assumption | exact fun i hi => (by obtain rfl : i = 0 := (by omega); rfl)) ?_))
 clear hK K
 rintro m e ⟨i, h, hi1, hi2, hM, hO, hm, rfl⟩
 refine W.seqK fun K7 hK7 => wrs fun K hK => ?_
 conv => whnf
 refine hK _ (W.cond ⟨fun h3 => ?_, fun h3 => ?_⟩) <;> clear hK K <;> (first | replace h3 := of_decide_eq_true h3 | replace h3 := of_decide_eq_false h3)
 ·have h3 : i < n := by omega
  refine W.skip (hK7 _ ?_)
  clear hK7 K7
  refine W.seqK fun K8 hK8 => W.block ?_
  refine wrs fun K hK => ?_
  conv => whnf
  refine hK _ (W.block (W.invH hs0 hb0 (fun m e => ∃ (j : Nat) (h : Nat → Poly p × Nat), j ≤ i ∧ Mix n h0 h ∧ OrdB h i j ∧ m = j ∧ e = [(0, .ownV 75 2 bk n fun j => vF (h j)), (1, .v (.int .i64 0)), (2, .v (.int .i64 n)), (3, .v (.func 338 [])), (8, .v (.int .i64 i)), (9, .v (.int .i64 j)), (vt, .dead), (vk, .keep O U hw 0 v0)]) _ _ (⟨i, h, by omega, hM, OrdB.start hO, rfl, rfl⟩) (by dsimp only; omega) (by repeat' first | refine And.intro ?_ ?_ | exact trivial | rfl | omega | exact .inl rfl | exact fun _ _ => rfl | exact fun _ _ h => h | assumption | exact fun i hi => (by obtain rfl : i = 0 := (by omega); rfl)) ?_))
  clear hK K
  clear hM hO h
  rintro m' e ⟨j, h, hj, hM, hO, hm', rfl⟩
  -- the end of the inner loop
  have fin : (j = 0 ∨ ∃ k, j = k + 1 ∧ ¬ ltP (h j).1 (h k).1) → ∀ s : S, hs0 ≤ s.hs → coverK s.env [(0, .ownV 75 2 bk n fun j => vF (h j)), (1, .v (.int .i64 0)), (2, .v (.int .i64 n)), (3, .v (.func 338 [])), (8, .v (.int .i64 i)), (vt, .dead), (vk, .keep O U hw 0 v0)] → K8 s := by
   intro h4 s h5 h6
   refine hK8 _ (W.weak (t := ⟨[(0, .ownV 75 2 bk n fun j => vF (h j)), (1, .v (.int .i64 0)), (2, .v (.int .i64 n)), (3, .v (.func 338 [])), (8, .v (.int .i64 i)), (vt, .dead), (vk, .keep O U hw 0 v0)], hs0⟩) ⟨h5, h6⟩ hb0 ?_)
   clear hK8 K8
   refine wrg ?_
   conv => whnf
   refine ⟨oo, ?_⟩
   conv => whnf
   exact againA ⟨i + 1, h, by omega, by omega, hM, hO.fin hM h3 hj h4, rfl, rfl⟩
  clear hK8
  refine W.seqK fun K7 hK7 => ?_
  refine W.rd (cx_ok _) follows (by rfl) fun K hK => ?_
  conv => whnf
  rcases Nat.eq_zero_or_pos j with rfl | hj0
  ·have e0 : decide (0 < ((0 : Nat) : Int)) = false := by decide
   rw [e0]
   conv => whnf
   refine ⟨rfl, ?_⟩
   conv => whnf
   refine hK _ (W.cond ⟨fun h => absurd h (by decide), fun _ => W.exit (fin (.inl rfl) _ (by dsimp only; omega) ?_)⟩)
   clear fin hK K hK7 K7
   exact cvr
  ·obtain ⟨k, rfl⟩ : ∃ k, j = k + 1 := ⟨j - 1, by omega⟩
   have e0 : decide (0 < ((k + 1 : Nat) : Int)) = true := decide_eq_true (by omega)
   rw [e0]
   conv => whnf
   refine ⟨oo, ?_⟩
   conv => whnf
   refine ⟨oo, ?_⟩
   conv => whnf
   refine ⟨oo, ?_⟩
   conv => whnf
   have ek : (((k + 1 : Nat) : Int) - 1) = (k : Int) := by omega
   rw [ek, Int.toNat_natCast, Int.toNat_natCast]
   have hb : ∀ i, i < n → dg (h i).1 ≤ 1000000 := fun i hi => by
    obtain ⟨i', h1, h2⟩ := (hM.mem (h i)).1 ⟨i, hi, rfl⟩
    rw [← h2]; exact hd i' h1
   refine ⟨_, cxF (cmpFac_fn (h (k + 1)) (h k) (hb _ (by omega)) (hb _ (by omega))), ?_⟩
   conv => whnf
   refine hK _ (W.cond ⟨fun h4 => ?_, fun h4 => ?_⟩) <;> clear hK K
   ·have h4 : cmpP (h (k + 1)).1.l (h k).1.l < 0 := of_decide_eq_true h4
    have h4 := (cmpP_lt _ _).1 h4
    clear fin
    refine W.skip (hK7 _ ?_)
    clear hK7 K7
    refine W.seqK fun K8 hK8 => W.block ?_
    refine W.draw (cx_ok _) follows (by rfl) ?_
    conv => whnf
    refine ⟨oo, ?_⟩
    conv => whnf
    refine ⟨oo, ?_⟩
    conv => whnf
    refine ⟨oo, ?_⟩
    conv => whnf
    rw [ek, Int.toNat_natCast]
    refine ⟨oo, ?_⟩
    conv => whnf
    rw [Int.toNat_natCast]
    refine ⟨oo, ?_⟩
    conv => whnf
    refine ⟨⟨by show 0 + 2 ≤ 2; omega, rfl⟩, fun j => vF (if j = k + 1 then h k else h j), by show vF (if k + 1 = k + 1 then h k else h (k + 1)) = _; rw [if_pos rfl]; rfl, fun j _ hj => by show vF (if j = k + 1 then h k else h j) = _; rw [if_neg hj], ?_⟩
    conv => whnf
    refine ⟨oo, ?_⟩
    conv => whnf
    rw [Int.toNat_natCast]
    refine ⟨⟨by show 0 + 2 ≤ 2; omega, rfl⟩, fun j => vF (swapF h (k + 1) k j), by show vF (swapF h (k + 1) k k) = _; rw [swapF_r]; rfl, fun j _ hj => by show vF (swapF h (k + 1) k j) = vF (if j = k + 1 then h k else h j); unfold swapF; by_cases h5 : j = k + 1 <;> simp [h5, hj], ?_⟩
    conv => whnf
    refine hK8 _ ?_
    clear hK8 K8
    refine wrg ?_
    conv => whnf
    refine ⟨oo, ?_⟩
    conv => whnf
    exact againA ⟨k, swapF h (k + 1) k, by omega, hM.swap (by omega) (by omega), hO.step hj h4, rfl, rfl⟩
   ·have h4 : ¬ cmpP (h (k + 1)).1.l (h k).1.l < 0 := of_decide_eq_false h4
    refine W.exit (fin (.inr ⟨k, rfl, fun e => h4 ((cmpP_lt _ _).2 e)⟩) _ (by dsimp only; omega) ?_)
    clear fin hK7 K7
    exact cvr
 ·have hin : n ≤ i := by omega
  refine W.exit ?_
  conv => whnf
  refine ⟨by dsimp only; omega, ?_⟩
  conv => whnf
  refine ⟨.ownV 75 2 bk n fun j => vF (h j), ⟨rfl, rfl, rfl, rfl, fun _ _ => rfl⟩, .inr ⟨rfl, rfl⟩, .dead, trivial, rfl, rfl, rfl, rfl, h, hM, fun x y h1 h2 => hO x y h1 (by omega), rfl⟩

end Go.Proofs.YtlhgbljojdbhgaaGreat
