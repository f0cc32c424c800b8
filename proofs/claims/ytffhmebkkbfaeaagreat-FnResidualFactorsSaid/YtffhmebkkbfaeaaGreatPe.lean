/- Plain mathematics of polynomials by a prime. No conditions. -/
import Derived.Test.YtffhmebkkbfaeaaGreatPd
namespace Go.Proofs.YtffhmebkkbfaeaaGreat
namespace Spl

abbrev Sp := Int × Int × Int
abbrev z0 : Sp := (0, 0, 0)
def lt (a b : Sp) : Prop := a.1 < b.1 ∨ a.1 = b.1 ∧ a.2.1 < b.2.1
instance (a b : Sp) : Decidable (lt a b) := by unfold lt; infer_instance
def cmp (a b : Sp) : Int := if lt a b then -1 else if lt b a then 1 else 0
theorem cmp_lt {a b : Sp} : cmp a b < 0 ↔ lt a b := by
 unfold cmp; split
 ·rename_i h; exact ⟨λ_ => h, λ_ => by decide⟩
 ·rename_i h; split <;> exact ⟨λh' => absurd h' (by decide), λh' => absurd h' h⟩
theorem lt_trans {a b c : Sp} (h : lt a b) (h' : lt b c) : lt a c := by unfold lt at *; omega
theorem zn6 {a b : Sp} : cmp a b = 0 ↔ a.1 = b.1 ∧ a.2.1 = b.2.1 := by
 unfold cmp
 split
 ·rename_i h1; unfold lt at h1; constructor <;> intro h <;> omega
 ·rename_i h1
  split
  ·rename_i h2; unfold lt at h2; constructor <;> intro h <;> omega
  ·rename_i h2; unfold lt at h1 h2; constructor <;> intro h <;> omega
theorem cmp_not {a b : Sp} (h : ¬ lt a b) : cmp a b = 0 ↔ ¬ lt b a := by
 rw [zn6]; unfold lt at *; omega

def Srt (L : List Sp) : Prop := ∀ i j, i < j -> j < L.length -> lt (L.getD i z0) (L.getD j z0)

structure At (L : List Sp) (x : Sp) (n : Nat) : Prop where
 le : n <= L.length
 lo : ∀ j, j < n -> lt (L.getD j z0) x
 hi : n < L.length -> ¬ lt (L.getD n z0) x
theorem At.unique {L : List Sp} {x : Sp} {n m : Nat} (h : At L x n) (h' : At L x m) : n = m := by
 rcases Nat.lt_trichotomy n m with h1 | h1 | h1
 ·exact absurd (h'.lo n h1) (h.hi (by have := h'.le; omega))
 ·exact h1
 ·exact absurd (h.lo m h1) (h'.hi (by have := h.le; omega))
theorem At.exists (x : Sp) : ∀ L : List Sp, ∃ n, At L x n
 | [] => ⟨0, Nat.le_refl _, λj hj => absurd hj (Nat.not_lt_zero j), λh => absurd h (Nat.lt_irrefl 0)⟩
 | y :: r => by
  by_cases h : lt y x
  ·obtain ⟨n, h1⟩ := At.exists x r;refine ⟨n + 1, by have := h1.le; simp; omega, λj hj => ?_, λhn => ?_⟩
   ·cases j with
    | zero => exact h
    | succ j => exact h1.lo j (by omega)
   ·exact h1.hi (by simpa using hn)
  ·exact ⟨0, Nat.zero_le _, λj hj => absurd hj (Nat.not_lt_zero j), λ_ => h⟩
noncomputable def pos (L : List Sp) (x : Sp) : Nat := (At.exists x L).choose
theorem pos_at (L : List Sp) (x : Sp) : At L x (pos L x) := (At.exists x L).choose_spec
theorem pos_eq {L : List Sp} {x : Sp} {n : Nat} (h : At L x n) : pos L x = n := (pos_at L x).unique h

def there (L : List Sp) (x : Sp) (n : Nat) : Prop := n < L.length ∧ ¬ lt x (L.getD n z0)
def more (y : Sp) (t : Int) : Sp := (y.1, y.2.1, y.2.2 + t)
noncomputable def put (L : List Sp) (x : Sp) : List Sp :=
 @ite _ (there L x (pos L x)) (Classical.propDecidable _) (L.set (pos L x) (more (L.getD (pos L x) z0) x.2.2)) (L.take (pos L x) ++ x :: L.drop (pos L x))
theorem put_there {L : List Sp} {x : Sp} (h : there L x (pos L x)) : put L x = L.set (pos L x) (more (L.getD (pos L x) z0) x.2.2) := by unfold put; rw [if_pos h]
theorem put_not {L : List Sp} {x : Sp} (h : ¬ there L x (pos L x)) : put L x = L.take (pos L x) ++ x :: L.drop (pos L x) := by unfold put; rw [if_neg h]

theorem set_getD {L : List Sp} {n j : Nat} {y : Sp} (h : n < L.length) : (L.set n y).getD j z0 = if j = n then y else L.getD j z0 := by
 rw [List.getD_eq_getElem?_getD, List.getD_eq_getElem?_getD, List.getElem?_set]
 by_cases hj : j = n
 ·subst hj; rw [if_pos rfl, if_pos rfl, if_pos h]; rfl
 ·rw [if_neg hj, if_neg λe => hj e.symm]
theorem ins_getD {L : List Sp} {n j : Nat} {y : Sp} (h : n <= L.length) : (L.take n ++ y :: L.drop n).getD j z0 = if j < n then L.getD j z0 else if j = n then y else L.getD (j - 1) z0 := by
 have htl : (L.take n).length = n := by rw [List.length_take]; omega
 rw [List.getD_eq_getElem?_getD]
 split
 ·rename_i h1
  rw [List.getElem?_append_left (by omega), List.getElem?_take_of_lt h1, List.getD_eq_getElem?_getD]
 ·rw [List.getElem?_append_right (by omega), htl]
  split
  ·rename_i h1 h2; subst h2; rw [Nat.sub_self]; rfl
  ·rename_i h1 h2
   obtain ⟨k, rfl⟩ : ∃ k, j = n + 1 + k := ⟨j - n - 1, by omega⟩
   rw [show n + 1 + k - n = k + 1 by omega, List.getElem?_cons_succ, List.getElem?_drop, List.getD_eq_getElem?_getD, show n + 1 + k - 1 = n + k by omega]
theorem ins_len {L : List Sp} {n : Nat} {y : Sp} (h : n <= L.length) : (L.take n ++ y :: L.drop n).length = L.length + 1 := by
 simp; omega

structure Ok (c : Nat) (L : List Sp) : Prop where
 srt : Srt L
 few : L.length <= c
 bd : ∀ j, j < L.length -> (1 <= (L.getD j z0).1 ∧ (L.getD j z0).1 <= 1000) ∧ (1 <= (L.getD j z0).2.1 ∧ (L.getD j z0).2.1 <= 1000) ∧ 1 <= (L.getD j z0).2.2 ∧ (L.getD j z0).2.2 <= c
theorem Ok.nil : Ok 0 [] := ⟨λ_ j _ h => absurd h (Nat.not_lt_zero j), Nat.le_refl _, λj h => absurd h (Nat.not_lt_zero j)⟩
theorem Ok.put {c : Nat} {L : List Sp} (h : Ok c L) {x : Sp} (h1 : 1 <= x.1 ∧ x.1 <= 1000) (h2 : 1 <= x.2.1 ∧ x.2.1 <= 1000) (h3 : x.2.2 = 1) : Ok (c + 1) (put L x) := by
 have ha := pos_at L x;generalize hn : pos L x = n at ha;have hle := ha.le;have hfew := h.few
 by_cases hc : there L x (pos L x)
 ·rw [put_there hc, hn];rw [hn] at hc;obtain ⟨hlt, hnl⟩ := hc;have hm : (more (L.getD n z0) x.2.2).1 = (L.getD n z0).1 ∧ (more (L.getD n z0) x.2.2).2.1 = (L.getD n z0).2.1 := ⟨rfl, rfl⟩
  refine ⟨λi j hij hj => ?_, by rw [List.length_set]; omega, λj hj => ?_⟩
  ·rw [List.length_set] at hj;rw [set_getD hlt, set_getD hlt];have := h.srt i j hij hj;unfold lt at *
   split <;> split <;> first | (subst_vars; rw [hm.1, hm.2]; assumption) | assumption | omega
  ·rw [List.length_set] at hj;rw [set_getD hlt];have hb := h.bd j hj
   split
   ·rename_i hj'; subst hj'
    refine ⟨hb.1, hb.2.1, ?_⟩;show 1 <= (L.getD j z0).2.2 + x.2.2 ∧ (L.getD j z0).2.2 + x.2.2 <= _
    omega
   ·exact ⟨hb.1, hb.2.1, by omega⟩
 ·rw [put_not hc, hn];rw [hn] at hc
  have hup : ∀ j, n <= j -> j < L.length -> lt x (L.getD j z0) := λj hj1 hj2 => by
   have h5 : lt x (L.getD n z0) := Classical.byContradiction λh' => hc ⟨by omega, h'⟩;rcases Nat.lt_or_ge n j with h6 | h6
   ·exact lt_trans h5 (h.srt n j h6 hj2)
   ·obtain rfl : j = n := by omega
    exact h5
  refine ⟨λi j hij hj => ?_, by rw [ins_len hle]; omega, λj hj => ?_⟩
  ·rw [ins_len hle] at hj;rw [ins_getD hle, ins_getD hle]
   by_cases h4 : j < n
   ·rw [if_pos h4, if_pos (by omega)]; exact h.srt i j hij (by omega)
   ·by_cases h5 : j = n
    ·rw [if_neg h4, if_pos h5, if_pos (by omega)]; exact ha.lo i (by omega)
    ·rw [if_neg h4, if_neg h5]
     by_cases h6 : i < n
     ·rw [if_pos h6]; exact h.srt i (j - 1) (by omega) (by omega)
     ·by_cases h7 : i = n
      ·rw [if_neg h6, if_pos h7]; exact hup (j - 1) (by omega) (by omega)
      ·rw [if_neg h6, if_neg h7]; exact h.srt (i - 1) (j - 1) (by omega) (by omega)
  ·rw [ins_len hle] at hj;rw [ins_getD hle]
   split
   ·have hb := h.bd j (by omega);exact ⟨hb.1, hb.2.1, by omega⟩
   split
   ·exact ⟨h1, h2, by omega⟩
   ·have hb := h.bd (j - 1) (by omega);exact ⟨hb.1, hb.2.1, by omega⟩
theorem zn7 {L : List Sp} {x : Sp} : put L x ≠ [] := by
 by_cases hc : there L x (pos L x)
 ·rw [put_there hc];intro e;have h1 := congrArg List.length e;rw [List.length_set] at h1;have h2 := hc.1;rw [h1] at h2;exact absurd h2 (Nat.not_lt_zero _)
 ·rw [put_not hc]; simp

noncomputable def putI (run : Int) (ds : List Int) (S : List Sp) : Nat -> List Sp
 | 0 => S
 | q + 1 => put (putI run ds S q) (run, ds.getD q 0, 1)
noncomputable def putO (run : Nat -> Int) (ds : Nat -> List Int) : Nat -> List Sp
 | 0 => []
 | k + 1 => putI (run k) (ds k) (putO run ds k) (ds k).length
theorem putI_ok {c : Nat} {run : Int} {ds : List Int} {S : List Sp} (h : Ok c S) (h1 : 1 <= run ∧ run <= 1000) (h2 : ∀ q, q < ds.length -> 1 <= ds.getD q 0 ∧ ds.getD q 0 <= 1000) : ∀ q, q <= ds.length -> Ok (c + q) (putI run ds S q)
 | 0, _ => h
 | q + 1, hq => (putI_ok h h1 h2 q (by omega)).put h1 (h2 q (by omega)) rfl
theorem Ok.le {c c' : Nat} {L : List Sp} (h : Ok c L) (hc : c <= c') : Ok c' L := ⟨h.srt, by have := h.few; omega, λj hj => by have := h.bd j hj; omega⟩
theorem putO_ok {run : Nat -> Int} {ds : Nat -> List Int} {n m : Nat} (h1 : ∀ k, k < n -> 1 <= run k ∧ run k <= 1000) (h2 : ∀ k, k < n -> (ds k).length <= m ∧ ∀ q, q < (ds k).length -> 1 <= (ds k).getD q 0 ∧ (ds k).getD q 0 <= 1000) : ∀ k, k <= n -> Ok (k * m) (putO run ds k)
 | 0, _ => by rw [Nat.zero_mul]; exact Ok.nil
 | k + 1, hk => by
  have h3 := putI_ok (putO_ok h1 h2 k (by omega)) (h1 k (by omega)) (h2 k (by omega)).2 (ds k).length (Nat.le_refl _);refine h3.le ?_;rw [Nat.add_mul, Nat.one_mul];have := (h2 k (by omega)).1;omega
theorem putI_ne {run : Int} {ds : List Int} {S : List Sp} : ∀ q, 1 <= q -> putI run ds S q ≠ []
 | _ + 1, _ => zn7

def cnt (P : Sp -> Bool) (L : List Sp) : Nat -> Int
 | 0 => 0
 | k + 1 => cnt P L k + bif P (L.getD k z0) then (L.getD k z0).2.2 else 0
theorem cnt_bd {P : Sp -> Bool} {c : Nat} {L : List Sp} (h : Ok c L) : ∀ k, k <= L.length -> 0 <= cnt P L k ∧ cnt P L k <= (k : Int) * c
 | 0, _ => by simp [cnt]
 | k + 1, hk => by
  have h1 := cnt_bd (P := P) h k (by omega);have h2 := (h.bd k (by omega)).2.2;have e : ((k + 1 : Nat) : Int) * c = (k : Int) * c + c := by rw [Int.natCast_add, Int.add_mul]; simp
  rw [cnt, e];cases P (L.getD k z0)
  ·rw [cond_false]; omega
  ·rw [cond_true]; omega
def one (x : Sp) : Bool := decide (x.1 * x.2.1 = 1)
theorem zjS {x : Sp} (h1 : 1 <= x.1) (h2 : 1 <= x.2.1) : one x = true ↔ x.1 = 1 ∧ x.2.1 = 1 := by
 unfold one;rw [decide_eq_true_iff]
 constructor
 ·intro h;have h3 : x.1 * 1 <= x.1 * x.2.1 := Int.mul_le_mul_of_nonneg_left h2 (by omega);have h4 : 1 * x.2.1 <= x.1 * x.2.1 := Int.mul_le_mul_of_nonneg_right h1 (by omega);omega
 ·rintro ⟨h3, h4⟩; rw [h3, h4]; rfl
theorem cnt_one {c : Nat} {L : List Sp} (h : Ok c L) : ∀ k, 1 <= k -> k <= L.length -> cnt one L k = if (L.getD 0 z0).1 = 1 ∧ (L.getD 0 z0).2.1 = 1 then (L.getD 0 z0).2.2 else 0
 | 0, h0, _ => absurd h0 (by decide)
 | 1, _, hk => by
  have hb := h.bd 0 (by omega);have hi := zjS hb.1.1 hb.2.1.1;rw [cnt, cnt]
  split
  ·rename_i h1; rw [hi.2 h1]; simp
  ·rename_i h1
   cases ho : one (L.getD 0 z0)
   ·simp
   ·exact absurd (hi.1 ho) h1
 | k + 2, _, hk => by
  have hb := h.bd (k + 1) (by omega);have hb0 := h.bd 0 (by omega);have hs := h.srt 0 (k + 1) (by omega) (by omega);have hi := zjS hb.1.1 hb.2.1.1;rw [cnt, cnt_one h (k + 1) (by omega) (by omega)];cases ho : one (L.getD (k + 1) z0)
  ·simp
  ·exfalso
   have := hi.1 ho;unfold lt at hs;omega
def wgt (x : Sp) : Int := x.1 * x.2.1 * x.2.2
def tot (L : List Sp) : Nat -> Int
 | 0 => 0
 | k + 1 => tot L k + (L.getD k z0).1 * (L.getD k z0).2.1 * (L.getD k z0).2.2
theorem zhL {L : List Sp} : ∀ k, k <= L.length -> tot L k = ((L.take k).map wgt).sum
 | 0, _ => by simp [tot]
 | k + 1, hk => by
  have e : L.getD k z0 = L[k] := by rw [List.getD_eq_getElem?_getD, List.getElem?_eq_getElem hk]; rfl
  rw [tot, zhL k (by omega), List.take_succ_eq_append_getElem (by omega), List.map_append, List.sum_append, e];show _ = _ + (wgt L[k] + 0)
  unfold wgt; omega
theorem tot_eq (L : List Sp) : tot L L.length = (L.map wgt).sum := by rw [zhL _ (Nat.le_refl _), List.take_length]
theorem znw (L : List Sp) (x : Sp) : ((put L x).map wgt).sum = (L.map wgt).sum + wgt x := by
 have ha := pos_at L x;generalize hn : pos L x = n at ha
 have hsp : ∀ h : n < L.length, (L.map wgt).sum = ((L.take n).map wgt).sum + (wgt L[n] + ((L.drop (n + 1)).map wgt).sum) := λh => by
  have e : L = L.take n ++ L[n] :: L.drop (n + 1) := by
   have := List.set_eq_take_append_cons_drop (l := L) (i := n) (a := L[n]);rw [if_pos h, List.set_getElem_self] at this;exact this
  conv => lhs; rw [e]
  rw [List.map_append, List.sum_append, List.map_cons, List.sum_cons]
 by_cases hc : there L x (pos L x)
 ·rw [put_there hc, hn];rw [hn] at hc;obtain ⟨hlt, hnl⟩ := hc;have e1 : L.getD n z0 = L[n] := by rw [List.getD_eq_getElem?_getD, List.getElem?_eq_getElem hlt]; rfl
  have h1 := ha.hi hlt;rw [e1] at h1 hnl ⊢;have h2 : L[n].1 = x.1 ∧ L[n].2.1 = x.2.1 := by unfold lt at h1 hnl; omega
  rw [List.set_eq_take_append_cons_drop, if_pos hlt, hsp hlt, List.map_append, List.sum_append, List.map_cons, List.sum_cons]
  have e2 : wgt (more L[n] x.2.2) = wgt L[n] + wgt x := by
   unfold wgt more;dsimp only
   rw [<- h2.1, <- h2.2, Int.mul_add]
  omega
 ·rw [put_not hc, hn];have e : (L.map wgt).sum = ((L.take n).map wgt).sum + ((L.drop n).map wgt).sum := by rw [<- List.sum_append, <- List.map_append, List.take_append_drop]
  rw [e, List.map_append, List.sum_append, List.map_cons, List.sum_cons];omega
def sumO (run : Nat -> Int) (ds : Nat -> List Int) : Nat -> Int
 | 0 => 0
 | k + 1 => sumO run ds k + run k * (ds k).sum
theorem zhM {run : Int} {ds : List Int} {S : List Sp} : ∀ q, q <= ds.length -> ((putI run ds S q).map wgt).sum = (S.map wgt).sum + run * (ds.take q).sum
 | 0, _ => by simp [putI]
 | q + 1, hq => by
  have e : ds.getD q 0 = ds[q] := by rw [List.getD_eq_getElem?_getD, List.getElem?_eq_getElem hq]; rfl
  rw [putI, znw, zhM q (by omega), List.take_succ_eq_append_getElem (by omega), List.sum_append, Int.mul_add, e];show _ + _ + run * ds[q] * 1 = _ + (_ + run * (ds[q] + 0))
  rw [Int.mul_one, Int.add_zero]; omega
theorem tot_putO (run : Nat -> Int) (ds : Nat -> List Int) : ∀ k, ((putO run ds k).map wgt).sum = sumO run ds k
 | 0 => rfl
 | k + 1 => by rw [putO, zhM _ (Nat.le_refl _), tot_putO run ds k, List.take_length, sumO]
theorem tot_bd {c : Nat} {L : List Sp} (h : Ok c L) : ∀ k, k <= L.length -> 0 <= tot L k ∧ tot L k <= (k : Int) * (1000000 * c)
 | 0, _ => by simp [tot]
 | k + 1, hk => by
  have h1 := tot_bd h k (by omega);have h2 := h.bd k (by omega);have h3 : 0 <= (L.getD k z0).1 * (L.getD k z0).2.1 ∧ (L.getD k z0).1 * (L.getD k z0).2.1 <= 1000 * 1000 := ⟨Int.mul_nonneg (by omega) (by omega), Int.mul_le_mul h2.1.2 h2.2.1.2 (by omega) (by decide)⟩
  have h4 : 0 <= (L.getD k z0).1 * (L.getD k z0).2.1 * (L.getD k z0).2.2 ∧ (L.getD k z0).1 * (L.getD k z0).2.1 * (L.getD k z0).2.2 <= 1000 * 1000 * (c : Int) := ⟨Int.mul_nonneg h3.1 (by omega), Int.mul_le_mul h3.2 h2.2.2.2 (by omega) (by decide)⟩
  have e : ((k + 1 : Nat) : Int) * (1000000 * (c : Int)) = (k : Int) * (1000000 * c) + 1000000 * c := by rw [Int.natCast_add, Int.add_mul]; simp
  rw [tot, e]; omega
theorem cnt_le {P : Sp -> Bool} {c : Nat} {L : List Sp} (h : Ok c L) : ∀ k, k <= L.length -> cnt P L k <= cnt (λ_ => true) L k
 | 0, _ => Int.le_refl _
 | k + 1, hk => by
  have h1 := cnt_le (P := P) h k (by omega);have h2 := (h.bd k (by omega)).2.2;rw [cnt, cnt, cond_true];cases P (L.getD k z0)
  ·rw [cond_false]; omega
  ·rw [cond_true]; omega
end Spl
namespace Poly
variable {p : Int} [SP p]

def zb7 (F : List (Poly p × Nat)) : Nat -> Poly p
 | 0 => 1
 | k + 1 => zb7 F k * (F.getD k (0, 0)).1 ^ (F.getD k (0, 0)).2

theorem FacOf.at {f : Poly p} {F : List (Poly p × Nat)} (h : FacOf f F) {j : Nat} (hj : j < F.length) : kZ f (F.getD j (0, 0)) := by
 refine (h.2 _).1 ?_;rw [yZ hj]; exact List.getElem_mem hj
theorem FacOf.ne_at {f : Poly p} {F : List (Poly p × Nat)} (h : FacOf f F) {i j : Nat} (hij : i < j) (hj : j < F.length) : (F.getD i (0, 0)).1 ≠ (F.getD j (0, 0)).1 := by
 have := List.pairwise_iff_getElem.1 h.1 i j (by omega) hj hij;rw [yZ (show i < F.length by omega), yZ hj];intro e;rw [e] at this;exact zaX _ this
theorem FacOf.cop_at {f : Poly p} {F : List (Poly p × Nat)} (h : FacOf f F) {i j : Nat} (hij : i < j) (hj : j < F.length) : Cop (F.getD i (0, 0)).1 (F.getD j (0, 0)).1 :=
 (h.at (by omega)).1.cop λhd => h.ne_at hij hj (kV (h.at (by omega)).1 (h.at hj).1 (h.at (by omega)).2.1 (h.at hj).2.1 hd)

theorem zhN {f : Poly p} {F : List (Poly p × Nat)} (h : FacOf f F) : ∀ k j, k <= j -> j < F.length -> Cop (zb7 F k) (F.getD j (0, 0)).1
 | 0, _, _, _ => zfZ _
 | k + 1, j, hk, hj => (zhN h k j (by omega) hj).mul ((h.cop_at (by omega) hj).pow _)
theorem zhO {f : Poly p} {F : List (Poly p × Nat)} (h : FacOf f F) : ∀ k, k <= F.length -> zb7 F k ∣ f
 | 0, _ => zhj xo f
 | k + 1, hk => by
  refine Cop.mul_dvd ((zhN h k k (Nat.le_refl _) (by omega)).symm.pow _).symm (zhO h k (by omega)) ?_;obtain ⟨u, hu, _⟩ := (h.at (j := k) (by omega)).2.2.2;exact ⟨u, hu⟩
theorem zhP {F : List (Poly p × Nat)} : ∀ {k j}, j < k -> (F.getD j (0, 0)).1 ^ (F.getD j (0, 0)).2 ∣ zb7 F k
 | 0, _, h => absurd h (by omega)
 | k + 1, j, h => by
  by_cases hj : j = k
  ·subst hj; exact ya _ (dvd_refl _)
  ·exact x7 _ (zhP (by omega))
theorem zby {f : Poly p} {F : List (Poly p × Nat)} (h : FacOf f F) : ∀ k, k <= F.length -> Mon (zb7 F k)
 | 0, _ => zfY
 | k + 1, hk => (zby h k (by omega)).mul (zjN (h.at (by omega)).2.1 _)
theorem zga {g : Poly p} (h : g ≠ 0) : ∀ n : Nat, g ^ n ≠ 0
 | 0 => zfS
 | n + 1 => mul_ne (zga h n) h

theorem zmp {f : Poly p} {F : List (Poly p × Nat)} (h : FacOf f F) (hf : f ≠ 0) : f = con p (lc f) * zb7 F F.length := by
 obtain ⟨r, hr⟩ := zhO h F.length (Nat.le_refl _);have hm := zby h F.length (Nat.le_refl _);have hr0 : r ≠ 0 := λe => hf (by rw [hr, e]; exact zj [zb7 F F.length] (by rfl))
 have hr1 : dg r <= 1 := by
  refine Nat.le_of_not_lt λh2 => ?_;obtain ⟨g, hg, hgm, hgr⟩ := v5 _ r (Nat.le_refl _) h2;have hgf : g ∣ f := by rw [hr]; exact ya _ hgr
  obtain ⟨e, he⟩ := yP hg.1 _ f hf (Nat.le_refl _)
  have he1 : 1 <= e := by
   rcases Nat.eq_zero_or_pos e with h0 | h0
   ·subst h0; exact absurd hgf (zZ.1 he)
   ·exact h0
  obtain ⟨j, hj, hjF⟩ := List.mem_iff_getElem.1 ((h.2 (g, e)).2 ⟨hg, hgm, he1, he⟩);have hd := zhP (F := F) hj;rw [yZ hj, hjF] at hd;obtain ⟨w, hw⟩ := hd;obtain ⟨u, hu, hun⟩ := he;have hw : zb7 F F.length = g ^ e * w := hw;refine hun ?_
  have : g ^ e * u = g ^ e * (w * r) := by
   rw [<- hu, hr, hw]; exact zj [g ^ e, w, r] (by rfl)
  rw [zaU (zga hg.ne e) this];exact ya _ hgr
 have hc := zfX hr1
 have hl : lc f = lc r := by
  have h1 := zdK hm.1 hr0;rw [<- hr, hm.2] at h1;have h2 := k6 r (dg r - 1);rw [h1, Int.one_mul];exact Int.emod_eq_of_lt h2.1 h2.2
 have hd1 : dg r = 1 := by
  have : dg r ≠ 0 := λe => hr0 (zd.1 e);omega
 have hlr : lc r = cf r.l 0 := by unfold lc; rw [hd1]
 rw [hl, hlr, <- hc];rw [hr];exact zj [zb7 F F.length, r] (by rfl)

theorem zjT {g : Poly p} (h : g ≠ 0) : ∀ n : Nat, dg (g ^ n) = n * (dg g - 1) + 1
 | 0 => by rw [zt, xo]; omega
 | n + 1 => by
  have h1 := zjT h n;have h2 := yH (zga h n) h;have h3 : dg g ≠ 0 := λe => h (zd.1 e);rw [zh, Nat.succ_mul];omega

end Poly
end Go.Proofs.YtffhmebkkbfaeaaGreat
