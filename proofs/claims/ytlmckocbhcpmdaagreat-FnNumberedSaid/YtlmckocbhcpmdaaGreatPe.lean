/- Plain mathematics of polynomials by a prime. No conditions. -/
import Derived.Test.YtlmckocbhcpmdaaGreatPd
namespace Go.Proofs.YtlmckocbhcpmdaaGreat
namespace Poly

def hl (P C : Nat) : List Nat → Nat
 | [] => 0
 | a :: l => (a + hl P C l * C) % P
def hq (P B C : Nat) : List Nat → Nat × Nat
 | [] => (0, 0)
 | a :: l => let s := hq P B C l; ((a + s.2 * C) % P, (s.1 + s.2 * B) % P)
def upto (n : Nat) (f : Nat → Bool) : Bool := match n with
 | 0 => true
 | n + 1 => f n && upto n f
theorem upto_spec {f : Nat → Bool} : ∀ {n : Nat}, upto n f = true → ∀ i, i < n → f i = true
 | 0, _, i, hi => by omega
 | n + 1, h, i, hi => by
  unfold upto at h
  rw [Bool.and_eq_true] at h
  rcases Nat.lt_or_ge i n with h1 | h1
  ·exact upto_spec h.2 i h1
  ·obtain rfl : i = n := by omega
   exact h.1
def exL (P : Nat) (l : List Nat) : Bool := upto P fun C => !(Nat.beq (hl P C l) 0)
def exQ (P : Nat) (l : List Nat) : Bool := upto P fun B => upto P fun C => !(Nat.beq (hq P B C l).1 0 && Nat.beq (hq P B C l).2 0)
def exT : List (Nat × List (List Nat)) := [(2, [[1, 1, 1], [1, 1, 0, 1], [1, 1, 0, 0, 1]]), (3, [[1, 0, 1], [1, 2, 0, 1], [2, 1, 0, 0, 1]]), (5, [[2, 0, 1], [1, 1, 0, 1], [2, 0, 0, 0, 1]]), (7, [[1, 0, 1], [2, 0, 0, 1], [1, 1, 0, 0, 1]]), (11, [[1, 0, 1], [4, 1, 0, 1], [2, 1, 0, 0, 1]]), (13, [[2, 0, 1], [2, 0, 0, 1], [2, 0, 0, 0, 1]]), (17, [[3, 0, 1], [3, 1, 0, 1], [3, 0, 0, 0, 1]]), (19, [[1, 0, 1], [2, 0, 0, 1], [8, 1, 0, 0, 1]]), (23, [[1, 0, 1], [3, 1, 0, 1], [2, 1, 0, 0, 1]]), (29, [[2, 0, 1], [4, 1, 0, 1], [2, 0, 0, 0, 1]]), (31, [[1, 0, 1], [3, 0, 0, 1], [1, 1, 0, 0, 1]]), (37, [[2, 0, 1], [2, 0, 0, 1], [2, 0, 0, 0, 1]]), (41, [[3, 0, 1], [1, 1, 0, 1], [3, 0, 0, 0, 1]]), (43, [[1, 0, 1], [3, 0, 0, 1], [3, 1, 0, 0, 1]]), (47, [[1, 0, 1], [4, 1, 0, 1], [5, 1, 0, 0, 1]]), (53, [[2, 0, 1], [5, 1, 0, 1], [2, 0, 0, 0, 1]]), (59, [[1, 0, 1], [1, 1, 0, 1], [1, 1, 0, 0, 1]]), (61, [[2, 0, 1], [2, 0, 0, 1], [2, 0, 0, 0, 1]]), (67, [[1, 0, 1], [2, 0, 0, 1], [1, 1, 0, 0, 1]]), (71, [[1, 0, 1], [1, 1, 0, 1], [2, 1, 0, 0, 1]]), (73, [[5, 0, 1], [2, 0, 0, 1], [5, 0, 0, 0, 1]]), (79, [[1, 0, 1], [2, 0, 0, 1], [3, 1, 0, 0, 1]]), (83, [[1, 0, 1], [5, 1, 0, 1], [3, 1, 0, 0, 1]]), (89, [[3, 0, 1], [4, 1, 0, 1], [3, 0, 0, 0, 1]]), (97, [[5, 0, 1], [2, 0, 0, 1], [5, 0, 0, 0, 1]])]
def exR (x : Nat × List (List Nat)) : Bool := match x.2 with
 | [a, b, c] => Nat.beq a.length 3 && Nat.beq b.length 4 && Nat.beq c.length 5 && Nat.beq (a.getD 2 0) 1 && Nat.beq (b.getD 3 0) 1 && Nat.beq (c.getD 4 0) 1 && exL x.1 a && exL x.1 b && exL x.1 c && exQ x.1 c
 | _ => false
set_option maxRecDepth 100000 in
theorem exT_ok : exT.all exR = true := by decide +kernel

section
variable {p : Int} [SP p]
def natL : List Nat → List Int
 | [] => []
 | a :: l => (a : Int) :: natL l
theorem natL_length : ∀ l, (natL l).length = l.length
 | [] => rfl
 | _ :: l => by rw [natL, List.length_cons, List.length_cons, natL_length l]
theorem cf_natL : ∀ (l : List Nat) (i : Nat), cf (natL l) i = (l.getD i 0 : Nat)
 | [], i => by simp [natL, cf]
 | a :: l, 0 => rfl
 | a :: l, i + 1 => by
  have := cf_natL l i
  simpa [natL, cf] using this
theorem of_nil : of p [] = 0 := ext_cf fun i => by rw [cf_of, cf_zero, cf_nil]; rfl
theorem of_cons (c : Int) (l : List Int) : of p (c :: l) = con p c + X p * of p l := by
 refine ext_cf fun i => ?_
 rw [cf_of, cf_add, cf_con, show X p = mono p 1 1 from rfl, cf_mono_mul]
 cases i with
 | zero => rw [cf_cons_zero, if_pos rfl, if_neg (by omega)]; simp
 | succ i => rw [cf_cons_succ, if_neg (by omega), if_pos (by omega), Nat.add_sub_cancel, cf_of]; simp
theorem con_nat {P : Nat} (hP : (P : Int) = p) (a : Nat) : con p ((a % P : Nat) : Int) = con p (a : Int) := by
 rw [Int.natCast_emod, hP, con_mod]
theorem hl_dvd {P : Nat} (hP : (P : Int) = p) (C : Nat) : ∀ l, X p - con p C ∣ of p (natL l) - con p (hl P C l : Nat)
 | [] => ⟨0, by rw [natL, hl, of_nil, show ((0 : Nat) : Int) = 0 from rfl, con_zero]; exact ring [X p, con p C] (by rfl)⟩
 | a :: l => by
  obtain ⟨k, hk⟩ := hl_dvd hP C l
  rw [natL, hl, con_nat hP, of_cons, Int.natCast_add, Int.natCast_mul, ← con_add, ← con_mul]
  refine ⟨X p * k + con p (hl P C l), ?_⟩
  have e : con p a + X p * of p (natL l) - (con p a + con p (hl P C l) * con p C) = X p * (of p (natL l) - con p (hl P C l)) + con p (hl P C l) * (X p - con p C) := ring [con p a, X p, of p (natL l), con p (hl P C l), con p C] (by rfl)
  rw [e, hk]; exact ring [X p, con p C, k, con p (hl P C l)] (by rfl)
theorem hq_dvd {P : Nat} (hP : (P : Int) = p) (B C : Nat) : ∀ l, X p * X p - con p B * X p - con p C ∣ of p (natL l) - (con p ((hq P B C l).1 : Nat) + X p * con p ((hq P B C l).2 : Nat))
 | [] => ⟨0, by rw [natL, hq, of_nil]; dsimp only; rw [show ((0 : Nat) : Int) = 0 from rfl, con_zero]; exact ring [X p, con p B, con p C] (by rfl)⟩
 | a :: l => by
  obtain ⟨k, hk⟩ := hq_dvd hP B C l
  rw [natL, hq]
  dsimp only
  generalize (hq P B C l).1 = v at hk ⊢
  generalize (hq P B C l).2 = u at hk ⊢
  rw [con_nat hP, con_nat hP, of_cons, Int.natCast_add, Int.natCast_add, Int.natCast_mul, Int.natCast_mul, ← con_add, ← con_add, ← con_mul, ← con_mul]
  refine ⟨X p * k + con p u, ?_⟩
  have e : con p a + X p * of p (natL l) - (con p a + con p u * con p C + X p * (con p v + con p u * con p B)) = X p * (of p (natL l) - (con p v + X p * con p u)) + con p u * (X p * X p - con p B * X p - con p C) := ring [con p a, X p, of p (natL l), con p u, con p C, con p v, con p B] (by rfl)
  rw [e, hk]; exact ring [X p, con p B, con p C, k, con p u] (by rfl)
theorem hl_lt {P : Nat} (hP : 0 < P) (C : Nat) : ∀ l, hl P C l < P
 | [] => hP
 | _ :: _ => Nat.mod_lt _ hP
theorem hq_lt {P : Nat} (hP : 0 < P) (B C : Nat) : ∀ l, (hq P B C l).1 < P ∧ (hq P B C l).2 < P
 | [] => ⟨hP, hP⟩
 | _ :: _ => ⟨Nat.mod_lt _ hP, Nat.mod_lt _ hP⟩

theorem irr_of {f : Poly p} (h2 : 2 ≤ dg f) (h5 : dg f ≤ 5) (h : ∀ g : Poly p, Mon g → g ∣ f → 2 ≤ dg g → 2 * dg g ≤ dg f + 1 → False) : Irr f := by
 refine ⟨h2, fun a b e => ?_⟩
 have hf : f ≠ 0 := fun e => by rw [e, dg_zero] at h2; omega
 have ha0 : a ≠ 0 := fun e' => hf (by rw [e, e']; exact ring [b] (by rfl))
 have hb0 : b ≠ 0 := fun e' => hf (by rw [e, e']; exact ring [a] (by rfl))
 have h3 := dg_mul ha0 hb0
 rw [← e] at h3
 have h4 : dg a ≠ 0 := fun e => ha0 (dg_eq_zero.1 e)
 have h5 : dg b ≠ 0 := fun e => hb0 (dg_eq_zero.1 e)
 have key : ∀ c : Poly p, c ≠ 0 → c ∣ f → 2 ≤ dg c → 2 * dg c ≤ dg f + 1 → False := fun c hc0 hc h6 h7 => by
  obtain ⟨g, hg1, hg2, hg3⟩ := exists_irr _ c (Nat.le_refl _) h6
  have := dvd_dg hg3 hc0
  exact h g hg2 (dvd_trans hg3 hc) hg1.1 (by omega)
 rcases Nat.lt_or_ge (dg f + 1) (2 * dg a) with h6 | h6
 ·refine .inr (Classical.byContradiction fun h7 => key b hb0 ⟨a, by rw [e]; exact ring [a, b] (by rfl)⟩ (by omega) (by omega))
 ·refine .inl (Classical.byContradiction fun h7 => key a ha0 ⟨b, e⟩ (by omega) h6)
theorem con_negN {P : Nat} (hP : (P : Int) = p) (a : Int) : ∃ C : Nat, C < P ∧ con p (C : Int) = 0 - con p a := by
 have hp := Pr.two (p := p)
 have h1 := Int.emod_nonneg (-a) (show p ≠ 0 by omega)
 have h2 := Int.emod_lt_of_pos (-a) (show 0 < p by omega)
 refine ⟨((-a) % p).toNat, by omega, ?_⟩
 rw [Int.toNat_of_nonneg h1, con_mod, ← con_zero, con_sub, Int.zero_sub]
theorem mon_two {g : Poly p} (hm : Mon g) (hd : dg g = 2) {P : Nat} (hP : (P : Int) = p) : ∃ C : Nat, C < P ∧ g = X p - con p C := by
 have h1 : cf g.l (dg g - 1) = 1 := hm.2
 rw [hd] at h1
 have hd : g.l.length = 2 := hd
 have hg := of_l g
 match hgl : g.l, hd with
 | [a, b], _ =>
  rw [hgl] at h1 hg
  have h1 : b = 1 := h1
  subst h1
  obtain ⟨C, hC, e⟩ := con_negN hP a
  refine ⟨C, hC, ?_⟩
  rw [← hg, of_cons, of_cons, of_nil, e, con_one]
  exact ring [con p a, X p] (by rfl)
theorem mon_three {g : Poly p} (hm : Mon g) (hd : dg g = 3) {P : Nat} (hP : (P : Int) = p) : ∃ B C : Nat, B < P ∧ C < P ∧ g = X p * X p - con p B * X p - con p C := by
 have h1 : cf g.l (dg g - 1) = 1 := hm.2
 rw [hd] at h1
 have hd : g.l.length = 3 := hd
 have hg := of_l g
 match hgl : g.l, hd with
 | [a, b, c], _ =>
  rw [hgl] at h1 hg
  have h1 : c = 1 := h1
  subst h1
  obtain ⟨C, hC, e⟩ := con_negN hP a
  obtain ⟨B, hB, e'⟩ := con_negN hP b
  refine ⟨B, C, hB, hC, ?_⟩
  rw [← hg, of_cons, of_cons, of_cons, of_nil, e, e', con_one]
  exact ring [con p a, con p b, X p] (by rfl)
theorem no_two {P : Nat} (hP : (P : Int) = p) {l : List Nat} (h : exL P l = true) {g : Poly p} (hm : Mon g) (hd : dg g = 2) : ¬ g ∣ of p (natL l) := fun hdv => by
 have hp := Pr.two (p := p)
 obtain ⟨C, hC, rfl⟩ := mon_two hm hd hP
 have h1 := upto_spec h C hC
 have h2 := hl_dvd hP C l
 have h3 := dvd_sub hdv h2
 have e : of p (natL l) - (of p (natL l) - con p (hl P C l : Nat)) = con p (hl P C l : Nat) := ring [of p (natL l), con p (hl P C l : Nat)] (by rfl)
 rw [e] at h3
 have h4 := hl_lt (P := P) (by omega) C l
 have h5 : con p (hl P C l : Nat) = 0 := Classical.byContradiction fun h6 => by
  have := dvd_dg h3 h6
  have := con_dg (p := p) (hl P C l : Nat)
  omega
 have h6 := con_eq_zero.1 h5
 rw [← hP, Int.emod_eq_of_lt (by omega) (by omega)] at h6
 rw [show hl P C l = 0 by omega] at h1
 cases h1
theorem no_three {P : Nat} (hP : (P : Int) = p) {l : List Nat} (h : exQ P l = true) {g : Poly p} (hm : Mon g) (hd : dg g = 3) : ¬ g ∣ of p (natL l) := fun hdv => by
 have hp := Pr.two (p := p)
 obtain ⟨B, C, hB, hC, rfl⟩ := mon_three hm hd hP
 have h1 := upto_spec (upto_spec h B hB) C hC
 have h2 := hq_dvd hP B C l
 have h3 := dvd_sub hdv h2
 have h4 := hq_lt (P := P) (by omega) B C l
 generalize (hq P B C l).1 = v at *
 generalize (hq P B C l).2 = u at *
 have e : of p (natL l) - (of p (natL l) - (con p (v : Nat) + X p * con p (u : Nat))) = of p [(v : Int), (u : Int)] := by
  rw [of_cons, of_cons, of_nil]
  exact ring [of p (natL l), con p (v : Nat), con p (u : Nat), X p] (by rfl)
 rw [e] at h3
 have h5 : of p [(v : Int), (u : Int)] = 0 := Classical.byContradiction fun h6 => by
  have := dvd_dg h3 h6
  have h7 : dg (of p [(v : Int), (u : Int)]) ≤ 2 := dg_of_le _
  omega
 have h6 : ∀ i, cf [(v : Int), (u : Int)] i % p = 0 := fun i => by rw [← cf_of, h5, cf_zero]
 have h7 : (v : Int) % p = 0 := h6 0
 have h8 : (u : Int) % p = 0 := h6 1
 rw [← hP, Int.emod_eq_of_lt (by omega) (by omega)] at h7 h8
 rw [show v = 0 by omega, show u = 0 by omega] at h1
 cases h1
theorem ex_one {P : Nat} (hP : (P : Int) = p) {l : List Nat} {d : Nat} (hd : 2 ≤ d ∧ d ≤ 4) (hl : l.length = d + 1) (h1 : l.getD d 0 = 1) (hL : exL P l = true) (hQ : d = 4 → exQ P l = true) : ∃ f : Poly p, dg f = d + 1 ∧ cf f.l d = 1 ∧ Irr f := by
 have hp := Pr.two (p := p)
 have hc : cf (of p (natL l)).l d = 1 := by
  rw [cf_of]
  rw [cf_natL, h1]; exact Int.emod_eq_of_lt (by omega) (by omega)
 have hle : dg (of p (natL l)) ≤ d + 1 := by have := dg_of_le (p := p) (natL l); rw [natL_length] at this; omega
 have hge : d + 1 ≤ dg (of p (natL l)) := Classical.byContradiction fun h => by rw [cf_dg (by omega)] at hc; omega
 refine ⟨of p (natL l), by omega, hc, irr_of (by omega) (by omega) fun g hm hg h3 h4 => ?_⟩
 rcases Nat.lt_or_ge (dg g) 3 with h5 | h5
 ·exact no_two hP hL hm (by omega) hg
 ·exact no_three hP (hQ (by omega)) hm (by omega) hg
end
theorem exT_all : primes.all (fun p => exT.any fun x => decide ((x.1 : Int) = p)) = true := by decide +kernel
theorem exists_deg {p : Int} (hp : p ∈ primes) : letI := sp_of hp; ∀ d : Nat, 1 ≤ d → d ≤ 4 → ∃ f : Poly p, dg f = d + 1 ∧ cf f.l d = 1 ∧ Irr f := by
 letI := sp_of hp
 intro d h1 h4
 rcases Nat.lt_or_ge 1 d with h2 | h2
 ·obtain ⟨x, hx, hxp⟩ := List.any_eq_true.1 (List.all_eq_true.1 exT_all p hp)
  have hP := of_decide_eq_true hxp
  have hr := List.all_eq_true.1 exT_ok x hx
  obtain ⟨P, L⟩ := x
  unfold exR at hr
  dsimp only at hP hr
  split at hr
  ·rename_i a b c
   simp only [Bool.and_eq_true, Nat.beq_eq] at hr
   obtain ⟨⟨⟨⟨⟨⟨⟨⟨⟨l1, l2⟩, l3⟩, m1⟩, m2⟩, m3⟩, k1⟩, k2⟩, k3⟩, k4⟩ := hr
   have : d = 2 ∨ d = 3 ∨ d = 4 := by omega
   rcases this with rfl | rfl | rfl
   ·exact ex_one hP (by omega) l1 m1 k1 fun h => by omega
   ·exact ex_one hP (by omega) l2 m2 k2 fun h => by omega
   ·exact ex_one hP (by omega) l3 m3 k3 fun _ => k4
  ·cases hr
 ·obtain rfl : d = 1 := by omega
  have hd : dg (X p) = 2 := by show (X p).l.length = 2; rw [X_l]; rfl
  exact ⟨X p, hd, by rw [X_l]; rfl, irr_of (by omega) (by omega) fun g _ _ h5 h6 => by omega⟩
end Poly
end Go.Proofs.YtlmckocbhcpmdaaGreat
