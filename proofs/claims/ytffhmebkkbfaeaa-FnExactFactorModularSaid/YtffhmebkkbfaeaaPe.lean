/- What the program's functions and the reference's return. No conditions. -/
import Derived.Test.YtffhmebkkbfaeaaPd
import Derived.Test.YtffhmebkkbfaeaaProg
namespace Go.Proofs.Ytffhmebkkbfaeaa
open Go Go.RowKit Go.Proofs

def tt : TT := [(2, ziL),
 (3, ziL),
 (56, zgb),
 (80, zgb),
 (4, ziM),
 (22, jU 2),
 (43, jU 22),
 (86, jU 3),
 (82, jU 4),
 (36, zb5 [(0, 22), (1, 2)] 32 [.nil, .int .i64 0]),
 (23, jU 36),
 (65, zb5 [(0, 2), (1, 2)] 16 [.int .i64 0, .int .i64 0])]
theorem zfH : zdM Try.prog tt :=
 ⟨zeW (by kernel_rfl) Try.underlying2,
  zeW (by kernel_rfl) Try.underlying3,
  zdk (by kernel_rfl) Try.underlying56,
  zdk (by kernel_rfl) Try.underlying80,
  zhO (by kernel_rfl) Try.underlying4,
  xV (by kernel_rfl) Try.underlying22,
  xV (by kernel_rfl) Try.underlying43,
  xV (by kernel_rfl) Try.underlying86,
  xV (by kernel_rfl) Try.underlying82,
  za1 (by kernel_rfl) Try.underlying36 rfl (by kernel_rfl) (by decide) (by decide) rfl,
  xV (by kernel_rfl) Try.underlying23,
  za1 (by kernel_rfl) Try.underlying65 rfl (by kernel_rfl) (by decide) (by decide) rfl, trivial⟩

def ms : List (Nat × Nat) := [(74, 0), (53, 0), (30, 0), (73, 1)
 , (9, 0)
 , (10, 0)
 , (6, 1)
 ]
def eqs : List (Nat × Nat) := []
theorem zcG : ∀ q ∈ eqs, EqOk Try.prog q.1 q.2 := by
 intro q hq;unfold eqs at hq;simp at hq
def cx (ks : List Nat) : Cx := { F := Fn Try.prog, M := MFn Try.prog, T := FnT Try.prog, ms := ms, ts := [], tt := tt, eqs := eqs, gh := .no, ks := ks }
theorem za (ks : List Nat) : OkCx Try.prog (cx ks) := ⟨λ_ _ _ h => h, λ_ _ _ _ _ _ h => h, λ_ _ _ h => h, zfH, zcG⟩
def cxm (ks : List Nat) : Cx := { F := Fn Try.prog, M := MFn Try.prog, T := FnT Try.prog, ms := ms, ts := [], tt := tt, eqs := eqs, gh := .mv, ks := ks }
theorem zi (ks : List Nat) : OkCx Try.prog (cxm ks) := ⟨λ_ _ _ h => h, λ_ _ _ _ _ _ h => h, λ_ _ _ h => h, zfH, zcG⟩
def cxr (ks : List Nat) : Cx := { F := Fn Try.prog, M := MFn Try.prog, T := FnT Try.prog, ms := ms, ts := [], tt := tt, eqs := eqs, gh := .tr, ks := ks }
theorem zjL (ks : List Nat) : OkCx Try.prog (cxr ks) := ⟨λ_ _ _ h => h, λ_ _ _ _ _ _ h => h, λ_ _ _ h => h, zfH, zcG⟩
def cxh (ks : List Nat) : Cx := { F := Fn Try.prog, M := MFn Try.prog, T := FnT Try.prog, ms := ms, ts := [], tt := tt, eqs := eqs, gh := .wh, ks := ks }
theorem zk5 (ks : List Nat) : OkCx Try.prog (cxh ks) := ⟨λ_ _ _ h => h, λ_ _ _ _ _ _ h => h, λ_ _ _ h => h, zfH, zcG⟩
def cxt (ts ks : List Nat) : Cx := { F := Fn Try.prog, M := MFn Try.prog, T := FnT Try.prog, ms := ms, ts := ts, tt := tt, eqs := eqs, gh := .mt, ks := ks }
theorem zU (ts ks : List Nat) : OkCx Try.prog (cxt ts ks) := ⟨λ_ _ _ h => h, λ_ _ _ _ _ _ h => h, λ_ _ _ h => h, zfH, zcG⟩
theorem W.sw {P : Program} {c c' : Cx} {N base : Nat} {x : Code} {QQ : Exit -> S -> Prop} {s : S} (h : W P c' N base x QQ s) : W P c N base x QQ s := h
theorem follows : Try.prog.follows .mixedOrders = true := by kernel_rfl

def Frs (lo hi n : Nat) (d : Nat -> Nat) : Prop := ∀ i, i < n -> (lo <= d i ∧ d i < hi) ∧ ∀ j, j < i -> d j ≠ d i
theorem Frs.mono {lo lo' hi hi' n : Nat} {d : Nat -> Nat} (h : Frs lo hi n d) (h1 : lo' <= lo) (h2 : hi <= hi') : Frs lo' hi' n d := λi hi => ⟨by have := (h i hi).1; omega, (h i hi).2⟩
theorem Frs.snoc {lo hi hi' n b : Nat} {d : Nat -> Nat} (h : Frs lo hi n d) (h0 : lo <= hi) (h1 : hi <= b) (h2 : b < hi') : Frs lo hi' (n + 1) (λi => if i < n then d i else b) := λi hi => by
 by_cases h3 : i < n
 ·have h4 := h i h3;dsimp only
  rw [if_pos h3];exact ⟨by omega, λj hj => by rw [if_pos (by omega)]; exact h4.2 j hj⟩
 ·dsimp only
  rw [if_neg h3];refine ⟨by omega, λj hj => ?_⟩;rw [if_pos (by omega)];have := (h j (by omega)).1;omega
theorem Frs.inj {lo hi n : Nat} {d : Nat -> Nat} (h : Frs lo hi n d) (i j : Nat) (hi : i < n) (hj : j < n) (e : d i = d j) : i = j := by
 rcases Nat.lt_trichotomy i j with h1 | h1 | h1
 ·exact absurd e ((h j hj).2 i h1)
 ·exact h1
 ·exact absurd e.symm ((h i hi).2 j h1)

abbrev FnV (f : Nat) (xs : List V) (r : V) : Prop := Fn Try.prog f xs (λ_ _ a => a = .v r)
abbrev FnI (f : Nat) (xs : List V) (l : List Int) : Prop := Fn Try.prog f xs (λ_ _ a => ∃ b, a = .ownI 2 b l)

theorem xc {c : Cx} (hc : c.F = Fn Try.prog) {K : S -> Prop} {d : Nat} {e : Env} {hs f : Nat} {xs : List V} {post : zfW} (h : Fn Try.prog f xs post) (k : ∀ lo hi hi' a, hs <= lo -> lo <= hi' -> hi <= hi' -> post lo hi a -> a.fresh lo hi' -> K1 K hi' d e a) : kJ c K d e hs f xs :=
 ⟨post, by rw [hc]; exact h, k⟩
theorem zl {c : Cx} (hc : c.F = Fn Try.prog) {K : S -> Prop} {d : Nat} {e : Env} {hs f : Nat} {xs : List V} {r : V} (h : FnV f xs r) (k : ∀ hs', hs <= hs' -> K1 K hs' d e (.v r)) : kJ c K d e hs f xs :=
 xc hc h λlo hi hi' a h1 h2 _ h3 _ => by subst h3; exact k _ (Nat.le_trans h1 h2)
theorem zB {c : Cx} (hc : c.F = Fn Try.prog) {K : S -> Prop} {d : Nat} {e : Env} {hs f : Nat} {xs : List V} {l : List Int} (h : FnI f xs l) (k : ∀ hs' b, hs <= hs' -> (l ≠ [] -> hs <= b ∧ b < hs') -> K1 K hs' d e (.ownI 2 b l)) : kJ c K d e hs f xs :=
 xc hc h λlo hi hi' a h1 h2 _ h3 h4 => by
  obtain ⟨b, rfl⟩ := h3;exact k _ b (Nat.le_trans h1 h2) λhne => by have := h4 hne; omega
theorem FnV.mono {f : Nat} {xs : List V} {r r' : V} (h : FnV f xs r) (e : r = r') : FnV f xs r' := e ▸ h

theorem W.inv {P : Program} {c : Cx} {N base : Nat} {x : Code} {QQ : Exit -> S -> Prop} {s : S} (I : Nat -> S -> Prop) (m0 : Nat) (s0 : S) (h0 : I m0 s0) (hle : le s s0) (hb : ∀ m s, I m s -> base <= s.hs)
  (round : ∀ m s, I m s -> W P c N base x (Ex (λs' => ∃ m' s'', I m' s'' ∧ m' < m ∧ le s' s'') QQ) s) : W P c N base (.loop x) QQ s :=
 W.loop (λt : { q : Nat × S // I q.1 q.2 } => t.1.2) (λt => t.1.1) ⟨(m0, s0), h0⟩ hle (λt => hb _ _ t.2) λt => (round _ _ t.2).mono λe s' h => by
  cases e with
  | normal => obtain ⟨m', s'', h1, h2, h3⟩ := h; exact ⟨⟨(m', s''), h1⟩, h2, h3⟩
  | _ => exact h

theorem W.invE {P : Program} {c : Cx} {N base : Nat} {x : Code} {QQ : Exit -> S -> Prop} {s : S} (I : Nat -> Env -> Prop) (m0 : Nat) (e0 : Env) (h0 : I m0 e0) (hh : base <= s.hs) (hc : zD s.env e0)
  (round : ∀ m e, I m e -> W P c N base x (Ex (λs' => ∃ m' e', I m' e' ∧ m' < m ∧ base <= s'.hs ∧ zD s'.env e') QQ) ⟨e, base⟩) : W P c N base (.loop x) QQ s :=
 W.inv (λm s => I m s.env ∧ s.hs = base) m0 ⟨e0, base⟩ ⟨h0, rfl⟩ ⟨hh, hc⟩ (λm s h => Nat.le_of_eq h.2.symm) λm s h => by
  obtain ⟨e, hs⟩ := s;obtain ⟨h, rfl⟩ := h;refine (round m e h).mono λex s' hq => ?_;cases ex with
  | normal => obtain ⟨m', e', h1, h2, h3, h4⟩ := hq; exact ⟨m', ⟨e', _⟩, ⟨h1, rfl⟩, h2, h3, h4⟩
  | _ => exact hq

theorem W.invA {P : Program} {c : Cx} {N base : Nat} {x : Code} {QQ : Exit -> S -> Prop} {s : S} (I : Nat -> Env -> Prop) {m0 : Nat} {e0 : Env} (h0 : I m0 e0)
 (round : ∀ m e, I m e -> W P c N base x (Ex (λs' => ∃ m' e', I m' e' ∧ m' < m ∧ base <= s'.hs ∧ zD s'.env e') QQ) ⟨e, base⟩)
 (hh : base <= s.hs := by dsimp only; omega) (hc : zD s.env e0 := by repeat' first | refine And.intro ?_ ?_ | exact trivial | rfl | omega | exact .inl rfl | exact λ_ _ => rfl | exact λ_ _ h => h | assumption | exact λi hi => (by obtain rfl : i = 0 := (by omega); rfl)) : W P c N base (.loop x) QQ s := W.invE I m0 e0 h0 hh hc round
theorem zp {I : Nat -> Env -> Prop} {m base : Nat} {s : S} {m' : Nat} {e' : Env} (h : I m' e') (h1 : m' < m := by omega) (h2 : base <= s.hs := by dsimp only; omega)
 (h3 : zD s.env e' := by repeat' first | refine And.intro ?_ ?_ | exact trivial | rfl | omega | exact .inl rfl | exact λ_ _ => rfl | exact λ_ _ h => h | assumption | exact λi hi => (by obtain rfl : i = 0 := (by omega); rfl)) : ∃ m' e', I m' e' ∧ m' < m ∧ base <= s.hs ∧ zD s.env e' := ⟨m', e', h, h1, h2, h3⟩

theorem W.invS {P : Program} {c : Cx} {N base : Nat} {x : Code} {QQ : Exit -> S -> Prop} {s : S} (I : Nat -> Env -> Nat -> Prop) (m0 : Nat) (e0 : Env) (h0 : Nat) (hi : I m0 e0 h0) (hb : ∀ m e h, I m e h -> base <= h) (hh : h0 <= s.hs) (hc : zD s.env e0)
  (round : ∀ m e h, I m e h -> W P c N base x (Ex (λs' => ∃ m' e' h', I m' e' h' ∧ m' < m ∧ h' <= s'.hs ∧ zD s'.env e') QQ) ⟨e, h⟩) : W P c N base (.loop x) QQ s :=
 W.inv (λm s => I m s.env s.hs) m0 ⟨e0, h0⟩ hi ⟨hh, hc⟩ (λm s h => hb _ _ _ h) λm s h => by
  obtain ⟨e, hs⟩ := s;refine (round m e hs h).mono λex s' hq => ?_;cases ex with
  | normal => obtain ⟨m', e', h', h1, h2, h3, h4⟩ := hq; exact ⟨m', ⟨e', h'⟩, h1, h2, h3, h4⟩
  | _ => exact hq

theorem W.condT {P : Program} {c : Cx} {N base : Nat} {x y : Code} {QQ : Exit -> S -> Prop} {s : S} {t : Nat} (h : get s.env t = .v .tr) (k : W P c N base x QQ s) : W P c N base (.cond (.tmp t) x y) QQ s :=
 W.cond (by rw [rdK, zb, h]; exact k)
theorem W.condF {P : Program} {c : Cx} {N base : Nat} {x y : Code} {QQ : Exit -> S -> Prop} {s : S} {t : Nat} (h : get s.env t = .v .fa) (k : W P c N base y QQ s) : W P c N base (.cond (.tmp t) x y) QQ s :=
 W.cond (by rw [rdK, zb, h]; exact k)

theorem cxF {ks : List Nat} {f : Nat} {xs : List V} {r : V} (h : FnV f xs r) : (cx ks).F f xs (λ_ _ a => a = .v r) := h
theorem cxmF {ks : List Nat} {f : Nat} {xs : List V} {r : V} (h : FnV f xs r) : (cxm ks).F f xs (λ_ _ a => a = .v r) := h

theorem W.invH {P : Program} {c : Cx} {N base : Nat} {x : Code} {QQ : Exit -> S -> Prop} {s : S} (h0 : Nat) (hb : base <= h0) (I : Nat -> Env -> Prop) (m0 : Nat) (e0 : Env) (hi : I m0 e0) (hh : h0 <= s.hs) (hc : zD s.env e0)
  (round : ∀ m e, I m e -> W P c N base x (Ex (λs' => ∃ m' e', I m' e' ∧ m' < m ∧ h0 <= s'.hs ∧ zD s'.env e') QQ) ⟨e, h0⟩) : W P c N base (.loop x) QQ s :=
 W.inv (λm s => I m s.env ∧ s.hs = h0) m0 ⟨e0, h0⟩ ⟨hi, rfl⟩ ⟨hh, hc⟩ (λm s h => by rw [h.2]; exact hb) λm s h => by
  obtain ⟨e, hs⟩ := s;obtain ⟨h, rfl⟩ := h;refine (round m e h).mono λex s' hq => ?_;cases ex with
  | normal => obtain ⟨m', e', h1, h2, h3, h4⟩ := hq; exact ⟨m', ⟨e', _⟩, ⟨h1, rfl⟩, h2, h3, h4⟩
  | _ => exact hq

def vPs {p : Int} [SP p] (L : List (Poly p)) : V := .vals none 1 L.length λj => .ints none (L.getD j 0).l
def vPw {p : Int} [SP p] (c : Nat -> Nat) (L : List (Poly p)) : V := .vals none 1 L.length λj => .wh 2 (c j) (L.getD j 0).l

open Go Go.RowKit Go.Proofs

set_option maxRecDepth 100000
set_option maxHeartbeats 8000000
theorem kI (n m : Int) (hm : 0 < m) (_ : -9223372036854775808 <= n ∧ n <= 9223372036854775807) (hm2 : m <= 4611686018427387904) : FnV 48 [.int .i64 n, .int .i64 m] (.int .i64 (n % m)) := by
 refine zm (za [0, 1, 4]) Try.func48 rfl (by decide) Try.ntmps48 (Nat.le_of_ble_eq_true rfl) λbase => ?_;refine W.rs (za _) (by rfl) λK hK => ?_;conv=>whnf
 refine hK _ ?_;clear hK;refine W.rs (za _) (by rfl) λK hK => ?_;conv=>whnf
 refine ⟨by omega, ?_⟩;conv=>whnf
 have h1 : n.tmod m + m < 2 * m ∧ 0 < n.tmod m + m := by
  have := Int.tmod_lt_of_pos n hm;have := Int.lt_tmod_of_pos n hm;omega
 refine ⟨⟨by omega, by omega⟩, ?_⟩;conv=>whnf
 refine ⟨by omega, ?_⟩;conv=>whnf
 refine hK _ (W.ret ?_);conv=>whnf
 exact ⟨.v (.int .i64 (n % m)), ⟨rfl, zfw n m hm⟩, trivial, rfl⟩

theorem vX (n m : Int) (hm : 0 < m) (_ : -9223372036854775808 <= n ∧ n <= 9223372036854775807) (hm2 : m <= 4611686018427387904) : FnV 61 [.int .i64 n, .int .i64 m] (.int .i64 (n % m)) := by
 refine zm (za [0, 1, 4]) Try.func61 rfl (by decide) Try.ntmps61 (Nat.le_of_ble_eq_true rfl) λbase => ?_;refine W.rs (za _) (by rfl) λK hK => ?_;conv=>whnf
 refine hK _ ?_;clear hK;refine W.rs (za _) (by rfl) λK hK => ?_;conv=>whnf
 refine ⟨by omega, ?_⟩;conv=>whnf
 have h1 : n.tmod m + m < 2 * m ∧ 0 < n.tmod m + m := by
  have := Int.tmod_lt_of_pos n hm;have := Int.lt_tmod_of_pos n hm;omega
 refine ⟨⟨by omega, by omega⟩, ?_⟩;conv=>whnf
 refine ⟨by omega, ?_⟩;conv=>whnf
 refine hK _ (W.ret ?_);conv=>whnf
 exact ⟨.v (.int .i64 (n % m)), ⟨rfl, zfw n m hm⟩, trivial, rfl⟩

theorem zaP (n a b : Int) : FnV 45 [.int .i64 n, .int .i64 a, .int .i64 b] (.bool (decide (a <= n ∧ n <= b))) := by
 refine zm (za [0, 1, 2, 6]) Try.func45 rfl (by decide) Try.ntmps45 (Nat.le_of_ble_eq_true rfl) λbase => ?_;refine W.rs (za _) (by rfl) λK hK => ?_;conv=>whnf
 refine hK _ ?_;clear hK;refine W.rs (za _) (by rfl) λK hK => ?_;conv=>whnf
 refine ⟨λh => ?_, λh => ?_⟩ <;> conv=>whnf
 ·refine hK _ (W.ret ?_);conv=>whnf
  exact ⟨.v (.bool (decide (a <= n ∧ n <= b))), by have := of_decide_eq_true h; exact decide_eq_decide.2 (by omega), trivial, rfl⟩
 ·refine hK _ (W.ret ?_);conv=>whnf
  exact ⟨.v (.bool (decide (a <= n ∧ n <= b))), by have := of_decide_eq_false h; exact decide_eq_false (by omega), trivial, rfl⟩

theorem zgH (n : Int) (hn : n <= 97) : FnV 68 [.int .i64 n] (.bool (isP n)) := by
 refine zm (za [0, 2, 3, 6, 11, 17]) Try.func68 rfl (by decide) Try.ntmps68 (Nat.le_of_ble_eq_true rfl) λbase => ?_;refine W.rs (za _) (by rfl) λK hK => ?_;conv=>whnf
 refine hK _ ?_;clear hK;refine W.seqK λK1 hK1 => W.rs (za _) (by rfl) λK hK => ?_;conv=>whnf
 refine zl rfl (zaP _ _ _) λhs' hhs => ?_;try dsimp only at hhs
 conv=>whnf
 refine hK _ (W.cond ⟨λh => ?_, λh => ?_⟩) <;> clear hK
 ·refine W.rs (za _) (by rfl) λK hK => ?_;conv=>whnf
  refine hK _ (W.ret ?_);conv=>whnf
  refine ⟨.v (.bool (isP n)), ?_, trivial, rfl⟩;have : n ∉ xa := λhm => by have := vT hm; simp at h; omega
  exact decide_eq_false this
 ·refine W.skip (hK1 _ ?_);clear hK1;have h2 : 2 <= n := by simp at h; omega
  clear h;refine W.seqK λK2 hK2 => W.rs (za _) (by rfl) λK hK => ?_;conv=>whnf
  refine hK _ (W.block (W.inv (λm s => ∃ d : Int, 2 <= d ∧ d <= 98 ∧ (∀ d', 2 <= d' -> d' < d -> n % d' ≠ 0) ∧ m = (98 - d).toNat ∧ s = ⟨[(0, .v (.int .i64 n)), (3, .v (.int .i64 d))], base⟩) _ _
   ⟨2, by omega, by omega, λd' h1 h2 => by omega, rfl, rfl⟩ ⟨hhs, ⟨rfl, rfl⟩, ⟨rfl, rfl⟩, trivial⟩ (by rintro m s ⟨d, _, _, _, _, rfl⟩; exact Nat.le_refl _) ?_))
  clear hK;rintro m s ⟨d, h3, h4, h5, rfl, rfl⟩;refine W.seqK λK3 hK3 => W.rs (za _) (by rfl) λK hK => ?_;conv=>whnf
  have hdd : d * d <= 98 * 98 := Int.mul_le_mul h4 h4 (by omega) (by omega);have hd0 : 2 * 2 <= d * d := Int.mul_le_mul h3 h3 (by omega) (by omega);refine ⟨by omega, ?_⟩;conv=>whnf
  refine hK _ (W.cond ⟨λh => ?_, λh => ?_⟩) <;> clear hK
  ·refine W.skip (hK3 _ ?_);clear hK3;have h6 := of_decide_eq_true h
   have h7 : d < 10 := by
    rcases Int.lt_or_le d 10 with h | h
    ·exact h
    ·have : 10 * 10 <= d * d := Int.mul_le_mul h h (by omega) (by omega);omega
   refine W.seqK λK4 hK4 => W.block ?_;refine W.rs (za _) (by rfl) λK hK => ?_;conv=>whnf
   refine ⟨by omega, ?_⟩;conv=>whnf
   refine hK _ (W.cond ⟨λh8 => ?_, λh8 => ?_⟩) <;> clear hK
   ·have h9 := of_decide_eq_true h8;rw [Int.tmod_eq_emod_of_nonneg (by omega)] at h9;refine W.rs (za _) (by rfl) λK hK => ?_;conv=>whnf
    refine hK _ (W.ret ?_);conv=>whnf
    refine ⟨.v (.bool (isP n)), ?_, trivial, rfl⟩;exact decide_eq_false λhm => ((jg hn).1 hm).2 d h3 h6 h9
   ·have h9 := of_decide_eq_false h8;rw [Int.tmod_eq_emod_of_nonneg (by omega)] at h9;refine W.skip (hK4 _ ?_);clear hK4;refine W.region (za _) (by rfl) ?_;conv=>whnf
    refine ⟨by omega, ?_⟩;conv=>whnf
    exact ⟨_, _, ⟨d + 1, by omega, by omega, λd' h10 h11 => by
     by_cases hdd : d' = d
     ·subst hdd; exact h9
     ·exact h5 d' h10 (by omega), rfl, rfl⟩, by omega, Nat.le_refl _, ⟨rfl, rfl⟩, ⟨rfl, rfl⟩, trivial⟩
  ·have h6 := of_decide_eq_false h;refine W.exit (hK2 _ ?_);clear hK3 hK2;refine W.rs (za _) (by rfl) λK hK => ?_;conv=>whnf
   refine hK _ (W.ret ?_);conv=>whnf
   refine ⟨.v (.bool (isP n)), ?_, trivial, rfl⟩;refine decide_eq_true ((jg hn).2 ⟨h2, λd' h7 h8 => h5 d' h7 ?_⟩);rcases Int.lt_or_le d' d with h | h
   ·exact h
   ·have : d * d <= d' * d' := Int.mul_le_mul h h (by omega) (by omega);omega

theorem zfI (n : Int) (hn : n <= 97) : FnV 57 [.int .i64 n] (.bool (isP n)) := by
 refine zm (za [0, 2, 3, 5, 10, 16]) Try.func57 rfl (by decide) Try.ntmps57 (Nat.le_of_ble_eq_true rfl) λbase => ?_;refine W.rs (za _) (by rfl) λK hK => ?_;conv=>whnf
 refine hK _ ?_;clear hK;refine W.seqK λK1 hK1 => W.rs (za _) (by rfl) λK hK => ?_;conv=>whnf
 refine hK _ (W.cond ⟨λh => ?_, λh => ?_⟩) <;> clear hK
 ·refine W.rs (za _) (by rfl) λK hK => ?_;conv=>whnf
  refine hK _ (W.ret ?_);conv=>whnf
  refine ⟨.v (.bool (isP n)), ?_, trivial, rfl⟩;have : n ∉ xa := λhm => by have := vT hm; have := of_decide_eq_true h; omega
  exact decide_eq_false this
 ·refine W.skip (hK1 _ ?_);clear hK1;have h2 : 2 <= n := by have := of_decide_eq_false h; omega
  clear h;refine W.seqK λK2 hK2 => W.rs (za _) (by rfl) λK hK => ?_;conv=>whnf
  refine hK _ (W.block (W.inv (λm s => ∃ d : Int, 2 <= d ∧ d <= 98 ∧ (∀ d', 2 <= d' -> d' < d -> n % d' ≠ 0) ∧ m = (98 - d).toNat ∧ s = ⟨[(0, .v (.int .i64 n)), (3, .v (.int .i64 d))], base⟩) _ _
   ⟨2, by omega, by omega, λd' h1 h2 => by omega, rfl, rfl⟩ ⟨Nat.le_refl _, ⟨rfl, rfl⟩, ⟨rfl, rfl⟩, trivial⟩ (by rintro m s ⟨d, _, _, _, _, rfl⟩; exact Nat.le_refl _) ?_))
  clear hK;rintro m s ⟨d, h3, h4, h5, rfl, rfl⟩;refine W.seqK λK3 hK3 => W.rs (za _) (by rfl) λK hK => ?_;conv=>whnf
  have hdd : d * d <= 98 * 98 := Int.mul_le_mul h4 h4 (by omega) (by omega);have hd0 : 2 * 2 <= d * d := Int.mul_le_mul h3 h3 (by omega) (by omega);refine ⟨by omega, ?_⟩;conv=>whnf
  refine hK _ (W.cond ⟨λh => ?_, λh => ?_⟩) <;> clear hK
  ·refine W.skip (hK3 _ ?_);clear hK3;have h6 := of_decide_eq_true h
   have h7 : d < 10 := by
    rcases Int.lt_or_le d 10 with h | h
    ·exact h
    ·have : 10 * 10 <= d * d := Int.mul_le_mul h h (by omega) (by omega);omega
   refine W.seqK λK4 hK4 => W.block ?_;refine W.rs (za _) (by rfl) λK hK => ?_;conv=>whnf
   refine ⟨by omega, ?_⟩;conv=>whnf
   refine hK _ (W.cond ⟨λh8 => ?_, λh8 => ?_⟩) <;> clear hK
   ·have h9 := of_decide_eq_true h8;rw [Int.tmod_eq_emod_of_nonneg (by omega)] at h9;refine W.rs (za _) (by rfl) λK hK => ?_;conv=>whnf
    refine hK _ (W.ret ?_);conv=>whnf
    refine ⟨.v (.bool (isP n)), ?_, trivial, rfl⟩;exact decide_eq_false λhm => ((jg hn).1 hm).2 d h3 h6 h9
   ·have h9 := of_decide_eq_false h8;rw [Int.tmod_eq_emod_of_nonneg (by omega)] at h9;refine W.skip (hK4 _ ?_);clear hK4;refine W.region (za _) (by rfl) ?_;conv=>whnf
    refine ⟨by omega, ?_⟩;conv=>whnf
    exact ⟨_, _, ⟨d + 1, by omega, by omega, λd' h10 h11 => by
     by_cases hdd : d' = d
     ·subst hdd; exact h9
     ·exact h5 d' h10 (by omega), rfl, rfl⟩, by omega, Nat.le_refl _, ⟨rfl, rfl⟩, ⟨rfl, rfl⟩, trivial⟩
  ·have h6 := of_decide_eq_false h;refine W.exit (hK2 _ ?_);clear hK3 hK2;refine W.rs (za _) (by rfl) λK hK => ?_;conv=>whnf
   refine hK _ (W.ret ?_);conv=>whnf
   refine ⟨.v (.bool (isP n)), ?_, trivial, rfl⟩;refine decide_eq_true ((jg hn).2 ⟨h2, λd' h7 h8 => h5 d' h7 ?_⟩);rcases Int.lt_or_le d' d with h | h
   ·exact h
   ·have : d * d <= d' * d' := Int.mul_le_mul h h (by omega) (by omega);omega

theorem zbl (n : Int) : FnV 42 [.int .i64 n] (.bool (isP n)) := by
 refine zm (za [0, 2]) Try.func42 rfl (by decide) Try.ntmps42 (Nat.le_of_ble_eq_true rfl) λbase => ?_;refine W.rs (za _) (by rfl) λK hK => ?_;conv=>whnf
 refine hK _ ?_;clear hK;refine W.rs (za _) (by rfl) λK hK => ?_;conv=>whnf
 refine ⟨λh => ?_, λh => ?_⟩ <;> conv=>whnf
 ·refine zl rfl (zgH n (of_decide_eq_true h)) λhs' hhs => ?_;try dsimp only at hhs
  conv=>whnf
  refine hK _ (W.ret ?_);conv=>whnf
  exact ⟨.v (.bool (isP n)), rfl, trivial, rfl⟩
 ·refine hK _ (W.ret ?_);conv=>whnf
  refine ⟨.v (.bool (isP n)), ?_, trivial, rfl⟩;have h := of_decide_eq_false h;exact decide_eq_false λhm => by have := vT hm; omega
theorem zfJ (n a b : Int) : FnV 34 [.int .i64 n, .int .i64 a, .int .i64 b] (.bool (decide (a <= n ∧ n <= b))) := by
 refine zm (za [0, 1, 2, 6]) Try.func34 rfl (by decide) Try.ntmps34 (Nat.le_of_ble_eq_true rfl) λbase => ?_;refine W.rs (za _) (by rfl) λK hK => ?_;conv=>whnf
 refine hK _ ?_;clear hK;refine W.rs (za _) (by rfl) λK hK => ?_;conv=>whnf
 refine ⟨λh => ?_, λh => ?_⟩ <;> conv=>whnf
 ·refine hK _ (W.ret ?_);conv=>whnf
  exact ⟨.v (.bool (decide (a <= n ∧ n <= b))), by have := of_decide_eq_true h; exact decide_eq_decide.2 (by omega), trivial, rfl⟩
 ·refine hK _ (W.ret ?_);conv=>whnf
  exact ⟨.v (.bool (decide (a <= n ∧ n <= b))), by have := of_decide_eq_false h; exact decide_eq_false (by omega), trivial, rfl⟩
theorem zfK (n : Int) : FnV 33 [.int .i64 n] (.bool (isP n)) := by
 refine zm (za [0, 2]) Try.func33 rfl (by decide) Try.ntmps33 (Nat.le_of_ble_eq_true rfl) λbase => ?_;refine W.rs (za _) (by rfl) λK hK => ?_;conv=>whnf
 refine hK _ ?_;clear hK;refine W.rs (za _) (by rfl) λK hK => ?_;conv=>whnf
 refine zl rfl (zfJ _ _ _) λhs' hhs => ?_;try dsimp only at hhs
 conv=>whnf
 refine ⟨λh => ?_, λh => ?_⟩ <;> conv=>whnf
 ·refine zl rfl (zfI n (of_decide_eq_true h).2) λhs' hhs => ?_;try dsimp only at hhs
  conv=>whnf
  refine hK _ (W.ret ?_);conv=>whnf
  exact ⟨.v (.bool (isP n)), rfl, trivial, rfl⟩
 ·refine hK _ (W.ret ?_);conv=>whnf
  refine ⟨.v (.bool (isP n)), ?_, trivial, rfl⟩;have h := of_decide_eq_false h;exact decide_eq_false λhm => by have := vT hm; omega
theorem zcH (n : Int) : FnV 97 [.int .i64 n] (.bool (decide (-1000000000000 <= n ∧ n <= 1000000000000))) := by
 refine zm (za [0, 2]) Try.func97 rfl (by decide) Try.ntmps97 (Nat.le_of_ble_eq_true rfl) λbase => ?_;refine W.rs (za _) (by rfl) λK hK => ?_;conv=>whnf
 refine hK _ ?_;clear hK;refine W.rs (za _) (by rfl) λK hK => ?_;conv=>whnf
 refine zl rfl (zaP _ _ _) λhs' hhs => ?_;try dsimp only at hhs
 conv=>whnf
 refine hK _ (W.ret ?_);conv=>whnf
 exact ⟨.v (.bool (decide (-1000000000000 <= n ∧ n <= 1000000000000))), rfl, trivial, rfl⟩
theorem zjM (n : Int) (e : Nat) (h : ∀ k, k <= e -> inR (n ^ k)) (he : (e : Int) <= 1000000) : FnV 98 [.int .i64 n, .int .i64 e] (.int .i64 (n ^ e)) := by
 refine zm (za [0, 1, 4, 5, 6, 7, 8]) Try.func98 rfl (by decide) Try.ntmps98 (Nat.le_of_ble_eq_true rfl) λbase => ?_;refine W.rs (za _) (by rfl) λK hK => ?_;conv=>whnf
 refine hK _ ?_;clear hK;refine W.rs (za _) (by rfl) λK hK => ?_;conv=>whnf
 refine hK _ ?_;clear hK;refine W.seqK λK1 hK1 => W.rs (za _) (by rfl) λK hK => ?_;conv=>whnf
 refine hK _ (W.block (W.inv (λm s => ∃ i : Nat, i <= e ∧ m = e - i ∧ s = ⟨[(0, .v (.int .i64 n)), (5, .v (.int .i64 (n ^ i))), (6, .v (.int .i64 e)), (7, .v (.int .i64 i))], base⟩) _ _
     ⟨0, Nat.zero_le _, rfl, rfl⟩ ⟨Nat.le_refl _, ⟨rfl, rfl⟩, ⟨rfl, (Int.pow_zero n).symm⟩, ⟨rfl, rfl⟩, ⟨rfl, rfl⟩, trivial⟩ (by rintro m s ⟨d, _, _, rfl⟩; exact Nat.le_refl _) ?_))
 clear hK;rintro m s ⟨i, h1, rfl, rfl⟩;refine W.rs (za _) (by rfl) λK hK => ?_;conv=>whnf
 refine hK _ ?_;clear hK;refine W.seqK λK3 hK3 => W.cond ⟨λh2 => ?_, λh2 => ?_⟩
 · have h2 := of_decide_eq_true h2
   refine W.skip (hK3 _ ?_);clear hK3;refine W.seqK λK2 hK2 => W.block ?_;refine W.region (za _) (by rfl) ?_;conv=>whnf
   refine ⟨by have := h (i + 1) (by omega); rwa [Int.pow_succ] at this, ?_⟩;conv=>whnf
   refine hK2 _ ?_;clear hK2;refine W.region (za _) (by rfl) ?_;conv=>whnf
   refine ⟨by omega, ?_⟩;conv=>whnf
   exact ⟨_, _, ⟨i + 1, by omega, rfl, rfl⟩, by omega, Nat.le_refl _, ⟨rfl, rfl⟩, ⟨rfl, (Int.pow_succ ..).symm⟩, ⟨rfl, rfl⟩, ⟨rfl, by omega⟩, trivial⟩
 · have h2 := of_decide_eq_false h2
   obtain rfl : i = e := by omega
   refine W.exit (hK1 _ ?_);clear hK3 hK1;refine W.rs (za _) (by rfl) λK hK => ?_;conv=>whnf
   refine hK _ (W.ret ?_);conv=>whnf
   exact ⟨.v (.int .i64 (n ^ i)), ⟨rfl, rfl⟩, trivial, rfl⟩

abbrev zjN (p k : Int) : V := .agg [.int .i64 p, .int .i64 k]
theorem zgI (p : Int) (k : Nat) (h : ∀ j, j <= k -> inR (p ^ j)) (hk : (k : Int) <= 1000000) : FnV 88 [zjN p k] (.int .i64 (p ^ k)) := by
 refine zm (za [0, 1, 2]) Try.func88 rfl (by decide) Try.ntmps88 (Nat.le_of_ble_eq_true rfl) λbase => ?_;refine W.rs (za _) (by rfl) λK hK => ?_;conv=>whnf
 refine ⟨rfl, ?_⟩;conv=>whnf
 intro b_1 hs_1 hh_1 hf_1;try dsimp only at hh_1 hf_1
 conv=>whnf
 refine hK _ ?_;clear hK;refine W.rs (za _) (by rfl) λK hK => ?_;conv=>whnf
 refine zl rfl (zjM p k h hk) λhs' hhs => ?_;try dsimp only at hhs
 conv=>whnf
 refine hK _ (W.ret ?_);conv=>whnf
 exact ⟨.v (.int .i64 (p ^ k)), ⟨rfl, rfl⟩, trivial, rfl⟩
theorem zii (a b : Int) (ha : 0 <= a ∧ a <= 1000000000000) (hb : 0 <= b ∧ b <= 1000000000000) :
   Fn Try.prog 87 [.int .i64 a, .int .i64 b] (λ_ _ z => ∃ r x y u v, Bz a b r x y 0 u v ∧ (-(b + 1) <= x ∧ x <= b + 1) ∧ z = .v (.tup [.int .i64 x, .int .i64 y, .int .i64 0])) := by
 refine zm (za [0, 1, 4, 5, 6, 7, 8, 9, 10, 11, 12, 13, 21, 25, 48]) Try.func87 rfl (by decide) Try.ntmps87 (Nat.le_of_ble_eq_true rfl) λbase => ?_;refine W.rs (za _) (by rfl) λK hK => ?_;conv=>whnf
 refine hK _ ?_;clear hK;refine W.seqK λK1 hK1 => W.rs (za _) (by rfl) λK hK => ?_;conv=>whnf
 refine zl rfl (zcH a) λhs' hhs => ?_;try dsimp only at hhs
 conv=>whnf
 refine ⟨λh => ?_, λh => ?_⟩ <;> conv=>whnf
 · exfalso; simp at h; omega
 refine zl rfl (zcH b) λhs' hhs => ?_;try dsimp only at hhs
 conv=>whnf
 refine hK _ (W.cond ⟨λhc => ?_, λ_ => ?_⟩)
 · exfalso; simp at hc; omega
 clear hK;refine W.skip (hK1 _ ?_);clear hK1;refine W.rs (za _) (by rfl) λK hK => ?_;conv=>whnf
 refine hK _ ?_;clear hK;refine W.rs (za _) (by rfl) λK hK => ?_;conv=>whnf
 refine hK _ ?_;clear hK
 refine W.seqK λK1 hK1 => W.block (W.inv (λm s => ∃ r x y q u v : Int, Bz a b r x y q u v ∧ (-(b + 1) <= x ∧ x <= b + 1) ∧ (-(b + 1) <= u ∧ u <= b + 1) ∧ (-(a + 1) <= y ∧ y <= a + 1) ∧ (-(a + 1) <= v ∧ v <= a + 1) ∧ r <= 1000000000000 ∧ q <= 1000000000000 ∧ m = q.toNat ∧
     s = ⟨[(7, .v (.int .i64 r)), (8, .v (.int .i64 x)), (9, .v (.int .i64 y)), (10, .v (.int .i64 q)), (11, .v (.int .i64 u)), (12, .v (.int .i64 v))], base⟩) _ _
     ⟨a, 1, 0, b, 0, 1, Bz.start ha.1 hb.1, by omega, by omega, by omega, by omega, by omega, by omega, rfl, rfl⟩ ⟨by dsimp only; omega, ⟨rfl, rfl⟩, ⟨rfl, rfl⟩, ⟨rfl, rfl⟩, ⟨rfl, rfl⟩, ⟨rfl, rfl⟩, ⟨rfl, rfl⟩, trivial⟩ (by rintro m s ⟨_, _, _, _, _, _, _, _, _, _, _, _, _, _, rfl⟩; exact Nat.le_refl _) ?_)
 rintro m s ⟨r, x, y, q, u, v, hz, hx, hu, hy, hv, hr, hq, rfl, rfl⟩;refine W.seqK λK2 hK2 => W.rs (za _) (by rfl) λK hK => ?_;conv=>whnf
 refine hK _ (W.cond ⟨λh => ?_, λh => ?_⟩) <;> clear hK
 · refine W.skip (hK2 _ ?_)
   clear hK2;have h := of_decide_eq_true h;obtain ⟨hB, hz'⟩ := hz.step h;have h0 := hz.r0;have h1 := hz.s0;have e : r.tdiv q = r / q := Int.tdiv_eq_ediv_of_nonneg h0;refine W.block ?_;refine W.rs (za _) (by rfl) λK hK => ?_;conv=>whnf
   refine ⟨h, ?_⟩;conv=>whnf
   rw [e];have := hB.q0;have := hB.qr;have := hB.qs;have := hB.qu;have := hB.qv;have := hB.nx;have := hB.ny;refine ⟨by omega, ?_⟩;conv=>whnf
   refine hK _ ?_;clear hK;refine W.region (za _) (by rfl) ?_;conv=>whnf
   refine ⟨by omega, ?_⟩;conv=>whnf
   refine ⟨by omega, ?_⟩;conv=>whnf
   refine ⟨by omega, ?_⟩;conv=>whnf
   refine ⟨by omega, ?_⟩;conv=>whnf
   refine ⟨by omega, ?_⟩;conv=>whnf
   refine ⟨by omega, ?_⟩;conv=>whnf
   have hm := Int.emod_lt_of_pos r (show 0 < q by omega);have hd : r - r / q * q = r % q := by have := Int.mul_ediv_add_emod r q; rw [Int.mul_comm] at this; omega
   exact ⟨_, _, ⟨q, u, v, r - r / q * q, x - r / q * u, y - r / q * v, hz', by omega, by omega, by omega, by omega, by omega, by omega, rfl, rfl⟩, by rw [hd]; omega, Nat.le_refl _, ⟨rfl, rfl⟩, ⟨rfl, rfl⟩, ⟨rfl, rfl⟩, ⟨rfl, rfl⟩, ⟨rfl, rfl⟩, ⟨rfl, rfl⟩, trivial⟩
 · have h := of_decide_eq_false h
   obtain rfl : q = 0 := by omega
   have h0 := hz.r0;refine W.exit (hK1 _ ?_);clear hK1 hK2;refine W.seqK λK3 hK3 => W.rs (za _) (by rfl) λK hK => ?_;conv=>whnf
   refine hK _ (W.cond ⟨λhc => ?_, λ_ => ?_⟩)
   · have := of_decide_eq_true hc; omega
   clear hK;refine W.skip (hK3 _ ?_);clear hK3;refine W.rs (za _) (by rfl) λK hK => ?_;conv=>whnf
   refine hK _ (W.ret ?_);conv=>whnf
   exact ⟨.v (.int .i64 x), ⟨rfl, rfl⟩, trivial, .v (.int .i64 y), ⟨rfl, rfl⟩, trivial, .v (.int .i64 0), ⟨rfl, rfl⟩, trivial, r, x, y, u, v, hz, hx, rfl⟩
theorem zeh (a b : Int) (ha : 0 <= a ∧ a <= 1000000000000) (hb : 0 <= b ∧ b <= 1000000000000) :
   Fn Try.prog 67 [.int .i64 a, .int .i64 b] (λ_ _ z => ∃ r x y u v, Bz a b r x y 0 u v ∧ (-(b + 1) <= x ∧ x <= b + 1) ∧ z = .v (.tup [.int .i64 x, .int .i64 y])) := by
 refine zm (za [0, 1, 4, 5, 6, 7, 8, 9, 10, 11, 12, 16, 39]) Try.func67 rfl (by decide) Try.ntmps67 (Nat.le_of_ble_eq_true rfl) λbase => ?_;refine W.rs (za _) (by rfl) λK hK => ?_;conv=>whnf
 refine hK _ ?_;clear hK

 refine W.rs (za _) (by rfl) λK hK => ?_;conv=>whnf
 refine hK _ ?_;clear hK;refine W.rs (za _) (by rfl) λK hK => ?_;conv=>whnf
 refine hK _ ?_;clear hK
 refine W.seqK λK1 hK1 => W.block (W.inv (λm s => ∃ r x y q u v : Int, Bz a b r x y q u v ∧ (-(b + 1) <= x ∧ x <= b + 1) ∧ (-(b + 1) <= u ∧ u <= b + 1) ∧ (-(a + 1) <= y ∧ y <= a + 1) ∧ (-(a + 1) <= v ∧ v <= a + 1) ∧ r <= 1000000000000 ∧ q <= 1000000000000 ∧ m = q.toNat ∧
     s = ⟨[(6, .v (.int .i64 r)), (7, .v (.int .i64 x)), (8, .v (.int .i64 y)), (9, .v (.int .i64 q)), (10, .v (.int .i64 u)), (11, .v (.int .i64 v))], base⟩) _ _
     ⟨a, 1, 0, b, 0, 1, Bz.start ha.1 hb.1, by omega, by omega, by omega, by omega, by omega, by omega, rfl, rfl⟩ ⟨Nat.le_refl _, ⟨rfl, rfl⟩, ⟨rfl, rfl⟩, ⟨rfl, rfl⟩, ⟨rfl, rfl⟩, ⟨rfl, rfl⟩, ⟨rfl, rfl⟩, trivial⟩ (by rintro m s ⟨_, _, _, _, _, _, _, _, _, _, _, _, _, _, rfl⟩; exact Nat.le_refl _) ?_)
 rintro m s ⟨r, x, y, q, u, v, hz, hx, hu, hy, hv, hr, hq, rfl, rfl⟩;refine W.seqK λK2 hK2 => W.rs (za _) (by rfl) λK hK => ?_;conv=>whnf
 refine hK _ (W.cond ⟨λh => ?_, λh => ?_⟩) <;> clear hK
 · refine W.skip (hK2 _ ?_)
   clear hK2;have h := of_decide_eq_true h;obtain ⟨hB, hz'⟩ := hz.step h;have h0 := hz.r0;have h1 := hz.s0;have e : r.tdiv q = r / q := Int.tdiv_eq_ediv_of_nonneg h0;refine W.block ?_;refine W.rs (za _) (by rfl) λK hK => ?_;conv=>whnf
   refine ⟨h, ?_⟩;conv=>whnf
   rw [e];have := hB.q0;have := hB.qr;have := hB.qs;have := hB.qu;have := hB.qv;have := hB.nx;have := hB.ny;refine ⟨by omega, ?_⟩;conv=>whnf
   refine hK _ ?_;clear hK;refine W.region (za _) (by rfl) ?_;conv=>whnf
   refine ⟨by omega, ?_⟩;conv=>whnf
   refine ⟨by omega, ?_⟩;conv=>whnf
   refine ⟨by omega, ?_⟩;conv=>whnf
   refine ⟨by omega, ?_⟩;conv=>whnf
   refine ⟨by omega, ?_⟩;conv=>whnf
   refine ⟨by omega, ?_⟩;conv=>whnf
   have hm := Int.emod_lt_of_pos r (show 0 < q by omega);have hd : r - r / q * q = r % q := by have := Int.mul_ediv_add_emod r q; rw [Int.mul_comm] at this; omega
   exact ⟨_, _, ⟨q, u, v, r - r / q * q, x - r / q * u, y - r / q * v, hz', by omega, by omega, by omega, by omega, by omega, by omega, rfl, rfl⟩, by rw [hd]; omega, Nat.le_refl _, ⟨rfl, rfl⟩, ⟨rfl, rfl⟩, ⟨rfl, rfl⟩, ⟨rfl, rfl⟩, ⟨rfl, rfl⟩, ⟨rfl, rfl⟩, trivial⟩
 · have h := of_decide_eq_false h
   obtain rfl : q = 0 := by omega
   have h0 := hz.r0;refine W.exit (hK1 _ ?_);clear hK1 hK2;refine W.seqK λK3 hK3 => W.rs (za _) (by rfl) λK hK => ?_;conv=>whnf
   refine hK _ (W.cond ⟨λhc => ?_, λ_ => ?_⟩)
   · have := of_decide_eq_true hc; omega
   clear hK;refine W.skip (hK3 _ ?_);clear hK3;refine W.rs (za _) (by rfl) λK hK => ?_;conv=>whnf
   refine hK _ (W.ret ?_);conv=>whnf
   exact ⟨.v (.int .i64 x), ⟨rfl, rfl⟩, trivial, .v (.int .i64 y), ⟨rfl, rfl⟩, trivial, r, x, y, u, v, hz, hx, rfl⟩

theorem zgJ (p : Int) [SP p] (a : Int) (ha : 0 <= a ∧ a < p) (ha0 : a % p ≠ 0) : FnV 71 [zjN p 1, .int .i64 a] (.int .i64 (yZ p a)) := by
 have hp := Pr.two (p := p);have hp2 := SP.le (p := p)
 have hm : FnV 88 [zjN p 1] (.int .i64 p) := by
  have := zgI p 1 (λj hj => by
   rcases (by omega : j = 0 ∨ j = 1) with rfl | rfl
   ·rw [Int.pow_zero]; constructor <;> omega
   ·rw [show (1 : Nat) = 0 + 1 from rfl, Int.pow_succ, Int.pow_zero, Int.one_mul]; constructor <;> omega) (by omega)
  refine this.mono ?_;rw [show (1 : Nat) = 0 + 1 from rfl, Int.pow_succ, Int.pow_zero, Int.one_mul]
 refine zm (za [0, 1, 2, 4, 5]) Try.func71 rfl (by decide) Try.ntmps71 (Nat.le_of_ble_eq_true rfl) λbase => ?_;refine W.rs (za _) (by rfl) λK hK => ?_;conv=>whnf
 refine ⟨rfl, ?_⟩;conv=>whnf
 intro b_1 hs_1 hh_1 hf_1;try dsimp only at hh_1 hf_1
 conv=>whnf
 refine hK _ ?_;clear hK;refine W.rs (za _) (by rfl) λK hK => ?_;conv=>whnf
 refine zl rfl (hm) λhs' hhs => ?_;try dsimp only at hhs
 conv=>whnf
 refine xc rfl (zii a p (by omega) (by omega)) ?_;rintro lo hi hi' z h1 h2 h3 ⟨r, x, y, u, v, hz, hx, rfl⟩ _;conv=>whnf
 refine hK _ ?_;clear hK;refine W.rs (za _) (by rfl) λK hK => ?_;conv=>whnf
 refine zl rfl (hm) λhs' hhs => ?_;try dsimp only at hhs
 conv=>whnf
 refine zl rfl (kI x p (by omega) (by omega) (by omega)) λhs' hhs => ?_;try dsimp only at hhs
 conv=>whnf
 refine hK _ (W.ret ?_);conv=>whnf
 exact ⟨.v (.int .i64 (yZ p a)), ⟨rfl, hz.inv ha0⟩, trivial, rfl⟩
theorem jh (p : Int) [SP p] (a : Int) (hb : -4611686018427387904 <= a ∧ a <= 4611686018427387904) (ha0 : a % p ≠ 0) : FnV 47 [.int .i64 p, .int .i64 a] (.int .i64 (yZ p a)) := by
 have hp := Pr.two (p := p);have hp2 := SP.le (p := p);have h1 := Int.emod_nonneg a (show p ≠ 0 by omega);have h2 := Int.emod_lt_of_pos a (show 0 < p by omega);refine zm (za [0, 1, 4]) Try.func47 rfl (by decide) Try.ntmps47 (Nat.le_of_ble_eq_true rfl) λbase => ?_;refine W.rs (za _) (by rfl) λK hK => ?_;conv=>whnf
 refine hK _ ?_;clear hK;refine W.rs (za _) (by rfl) λK hK => ?_;conv=>whnf
 refine zl rfl (kI a p (by omega) (by omega) (by omega)) λhs' hhs => ?_;try dsimp only at hhs
 conv=>whnf
 refine zl rfl (zgJ p (a % p) ⟨h1, h2⟩ (by rw [Int.emod_emod_of_dvd _ (Int.dvd_refl p)]; exact ha0)) λhs' hhs => ?_;try dsimp only at hhs
 conv=>whnf
 refine hK _ (W.ret ?_);conv=>whnf
 exact ⟨.v (.int .i64 (yZ p a)), ⟨rfl, zjC ha0⟩, trivial, rfl⟩
theorem vE (p : Int) [SP p] (a : Int) (ha : 0 <= a ∧ a < p) (ha0 : a % p ≠ 0) : FnV 41 [.int .i64 a, .int .i64 p] (.int .i64 (yZ p a)) := by
 have hp := Pr.two (p := p);have hp2 := SP.le (p := p);refine zm (za [0, 1, 4, 5]) Try.func41 rfl (by decide) Try.ntmps41 (Nat.le_of_ble_eq_true rfl) λbase => ?_;refine W.rs (za _) (by rfl) λK hK => ?_;conv=>whnf
 refine hK _ ?_;clear hK;refine W.rs (za _) (by rfl) λK hK => ?_;conv=>whnf
 refine xc rfl (zeh a p (by omega) (by omega)) ?_;rintro lo hi hi' z h1 h2 h3 ⟨r, x, y, u, v, hz, hx, rfl⟩ _;conv=>whnf
 refine hK _ ?_;clear hK;refine W.rs (za _) (by rfl) λK hK => ?_;conv=>whnf
 refine zl rfl (vX x p (by omega) (by omega) (by omega)) λhs' hhs => ?_;try dsimp only at hhs
 conv=>whnf
 refine hK _ (W.ret ?_);conv=>whnf
 exact ⟨.v (.int .i64 (yZ p a)), ⟨rfl, hz.inv ha0⟩, trivial, rfl⟩

open Go Go.RowKit Go.Proofs

theorem zfL (g : Option Nat) (xs : List Int) (hl : xs.length <= 100000000) : FnI 50 [.ints g xs] xs := by
 refine zm (za [0, 2, 4]) Try.func50 rfl (by decide) Try.ntmps50 (Nat.le_of_ble_eq_true rfl) λbase => ?_;refine W.rs (za _) (by rfl) λK hK => ?_;conv=>whnf
 refine hK _ ?_;clear hK;refine W.seqK λK1 hK1 => W.rs (za _) (by rfl) λK hK => ?_;conv=>whnf
 intro b hb;conv=>whnf
 refine hK _ (W.cond ⟨λhc => ?_, λhc => ?_⟩) <;> clear hK
 ·obtain rfl := hb hc;refine W.rs (za _) (by rfl) λK hK => ?_;conv=>whnf
  refine hK _ (W.ret ?_);conv=>whnf
  exact ⟨.ownI 2 0 [], rfl, trivial, _, rfl⟩
 ·refine W.skip (hK1 _ ?_);clear hK1;refine W.rs (za _) (by rfl) λK hK => ?_;conv=>whnf
  refine ⟨⟨rfl, by decide⟩, ?_⟩;conv=>whnf
  intro b_1 hs_1 hh_1 hf_1;try dsimp only at hh_1 hf_1
  conv=>whnf
  refine ⟨by simp; omega, ?_⟩;conv=>whnf
  intro b_2 hs_2 hh_2 hf_2;try dsimp only at hh_2 hf_2
  conv=>whnf
  refine hK _ (W.ret ?_);conv=>whnf
  exact ⟨.ownI 2 _ (xs), ⟨rfl, rfl, rfl⟩, trivial, _, rfl⟩
theorem zjO (g : Option Nat) (xs : List Int) (hl : xs.length <= 100000000) : FnI 60 [.ints g xs] xs := by
 refine zm (za [0, 2]) Try.func60 rfl (by decide) Try.ntmps60 (Nat.le_of_ble_eq_true rfl) λbase => ?_;refine W.rs (za _) (by rfl) λK hK => ?_;conv=>whnf
 refine hK _ ?_;clear hK;refine W.rs (za _) (by rfl) λK hK => ?_;conv=>whnf
 refine ⟨⟨rfl, by decide⟩, ?_⟩;conv=>whnf
 intro b_1 hs_1 hh_1 hf_1;try dsimp only at hh_1 hf_1
 conv=>whnf
 refine ⟨by simp; omega, ?_⟩;conv=>whnf
 intro b_2 hs_2 hh_2 hf_2;try dsimp only at hh_2 hf_2
 conv=>whnf
 refine hK _ (W.ret ?_);conv=>whnf
 exact ⟨.ownI 2 _ (xs), ⟨rfl, rfl, rfl⟩, trivial, _, rfl⟩
theorem j2 (g : Option Nat) (xs : List Int) (hl : xs.length <= 100000000) : FnI 49 [.ints g xs] (zw xs) := by
 refine zm (za [0, 2, 3, 15]) Try.func49 rfl (by decide) Try.ntmps49 (Nat.le_of_ble_eq_true rfl) λbase => ?_;refine W.rs (za _) (by rfl) λK hK => ?_;conv=>whnf
 refine hK _ ?_;clear hK;refine W.rs (za _) (by rfl) λK hK => ?_;conv=>whnf
 refine hK _ ?_;clear hK;refine W.seqK λK1 hK1 => W.block (W.invA (λm e => ∃ n : Nat, n <= xs.length ∧ (∀ j, n <= j -> cf xs j = 0) ∧ m = n ∧ e = [(0, .v (.ints g xs)), (3, .v (.int .i64 n))]) ⟨xs.length, Nat.le_refl _, λj hj => zV hj, rfl, rfl⟩ ?_);rintro m e ⟨n, h1, h2, hm, rfl⟩
 have hout : (n = 0 ∨ cf xs (n - 1) ≠ 0) -> ∀ s : S, base <= s.hs -> get s.env 0 = .v (.ints g xs) -> get s.env 3 = .v (.int .i64 n) -> K1 s := λh3 s h4 h5 h6 => by
  refine hK1 _ (W.weak (t := ⟨[(0, .v (.ints g xs)), (3, .v (.int .i64 n))], base⟩) ⟨h4, by rw [zb, h5]; exact ⟨rfl, rfl⟩, by rw [zb, h6]; exact ⟨rfl, rfl⟩, trivial⟩ (Nat.le_refl _) ?_);clear hK1;refine W.rs (za _) (by rfl) λK hK => ?_;conv=>whnf
  refine ⟨by omega, ?_⟩;conv=>whnf
  have e : ((xs.take (n : Int).toNat).drop (0 : Int).toNat) = zw xs := by
   rw [Int.toNat_natCast, Int.toNat_zero, List.drop_zero, zbz h1 h2 h3]
  rw [e];refine zB rfl (zfL _ _ (by rw [<- zbz h1 h2 h3, List.length_take]; omega)) λhs_1 b_1 hh_1 hf_1 => ?_;try dsimp only at hh_1 hf_1
  conv=>whnf
  refine hK _ (W.ret ?_);conv=>whnf
  exact ⟨.ownI 2 _ (zw xs), ⟨rfl, rfl, rfl⟩, trivial, _, rfl⟩
 clear hK1;refine W.seqK λK2 hK2 => W.rs (za _) (by rfl) λK hK => ?_;conv=>whnf
 refine ⟨λh3 => ?_, λh3 => ?_⟩ <;> conv=>whnf
 ·have h3 := of_decide_eq_true h3;refine ⟨by omega, ?_⟩;conv=>whnf
  refine ⟨by constructor <;> omega, ?_⟩;conv=>whnf
  refine hK _ (W.cond ⟨λh4 => ?_, λh4 => ?_⟩) <;> clear hK
  ·refine W.skip (hK2 _ ?_);clear hK2;have h4 := of_decide_eq_true h4;refine W.block ?_;refine W.region (za _) (by rfl) ?_;conv=>whnf
   refine ⟨by omega, ?_⟩;conv=>whnf
   have h5 : ((n : Int) - 1).toNat = n - 1 := by omega
   have h6 : cf xs (n - 1) = 0 := by rw [h5] at h4; exact h4
   exact zp ⟨n - 1, by omega, λj hj => (by rcases Nat.eq_or_lt_of_le hj with h | h; rw [<- h]; exact h6; exact h2 j (by omega)), rfl, rfl⟩
  ·have h4 := of_decide_eq_false h4;refine W.exit (hout ?_ _ (by dsimp only; omega) rfl rfl);have h5 : ((n : Int) - 1).toNat = n - 1 := by omega
   rw [h5] at h4;exact .inr h4
 ·have h3 := of_decide_eq_false h3;refine hK _ (W.cond ?_);clear hK;exact W.exit (cx := cx []) (hout (by omega) _ (by dsimp only; omega) rfl rfl)

theorem xo (g : Option Nat) (xs : List Int) (hl : xs.length <= 100000000) : FnI 62 [.ints g xs] (zw xs) := by
 refine zm (za [0, 2, 3, 15]) Try.func62 rfl (by decide) Try.ntmps62 (Nat.le_of_ble_eq_true rfl) λbase => ?_;refine W.rs (za _) (by rfl) λK hK => ?_;conv=>whnf
 refine hK _ ?_;clear hK;refine W.rs (za _) (by rfl) λK hK => ?_;conv=>whnf
 refine hK _ ?_;clear hK;refine W.seqK λK1 hK1 => W.block (W.invA (λm e => ∃ n : Nat, n <= xs.length ∧ (∀ j, n <= j -> cf xs j = 0) ∧ m = n ∧ e = [(0, .v (.ints g xs)), (3, .v (.int .i64 n))]) ⟨xs.length, Nat.le_refl _, λj hj => zV hj, rfl, rfl⟩ ?_);rintro m e ⟨n, h1, h2, hm, rfl⟩
 have hout : (n = 0 ∨ cf xs (n - 1) ≠ 0) -> ∀ s : S, base <= s.hs -> get s.env 0 = .v (.ints g xs) -> get s.env 3 = .v (.int .i64 n) -> K1 s := λh3 s h4 h5 h6 => by
  refine hK1 _ (W.weak (t := ⟨[(0, .v (.ints g xs)), (3, .v (.int .i64 n))], base⟩) ⟨h4, by rw [zb, h5]; exact ⟨rfl, rfl⟩, by rw [zb, h6]; exact ⟨rfl, rfl⟩, trivial⟩ (Nat.le_refl _) ?_);clear hK1;refine W.rs (za _) (by rfl) λK hK => ?_;conv=>whnf
  refine ⟨by omega, ?_⟩;conv=>whnf
  have e : ((xs.take (n : Int).toNat).drop (0 : Int).toNat) = zw xs := by
   rw [Int.toNat_natCast, Int.toNat_zero, List.drop_zero, zbz h1 h2 h3]
  rw [e];refine zB rfl (zjO _ _ (by rw [<- zbz h1 h2 h3, List.length_take]; omega)) λhs_1 b_1 hh_1 hf_1 => ?_;try dsimp only at hh_1 hf_1
  conv=>whnf
  refine hK _ (W.ret ?_);conv=>whnf
  exact ⟨.ownI 2 _ (zw xs), ⟨rfl, rfl, rfl⟩, trivial, _, rfl⟩
 clear hK1;refine W.seqK λK2 hK2 => W.rs (za _) (by rfl) λK hK => ?_;conv=>whnf
 refine ⟨λh3 => ?_, λh3 => ?_⟩ <;> conv=>whnf
 ·have h3 := of_decide_eq_true h3;refine ⟨by omega, ?_⟩;conv=>whnf
  refine ⟨by constructor <;> omega, ?_⟩;conv=>whnf
  refine hK _ (W.cond ⟨λh4 => ?_, λh4 => ?_⟩) <;> clear hK
  ·refine W.skip (hK2 _ ?_);clear hK2;have h4 := of_decide_eq_true h4;refine W.block ?_;refine W.region (za _) (by rfl) ?_;conv=>whnf
   refine ⟨by omega, ?_⟩;conv=>whnf
   have h5 : ((n : Int) - 1).toNat = n - 1 := by omega
   have h6 : cf xs (n - 1) = 0 := by rw [h5] at h4; exact h4
   exact zp ⟨n - 1, by omega, λj hj => (by rcases Nat.eq_or_lt_of_le hj with h | h; rw [<- h]; exact h6; exact h2 j (by omega)), rfl, rfl⟩
  ·have h4 := of_decide_eq_false h4;refine W.exit (hout ?_ _ (by dsimp only; omega) rfl rfl);have h5 : ((n : Int) - 1).toNat = n - 1 := by omega
   rw [h5] at h4;exact .inr h4
 ·have h3 := of_decide_eq_false h3;refine hK _ (W.cond ?_);clear hK;exact W.exit (cx := cx []) (hout (by omega) _ (by dsimp only; omega) rfl rfl)

theorem zfM (p : Int) (hp : 0 < p) (hp2 : p <= 4611686018427387904) (g : Option Nat) (xs : List Int) (hb : Bd 9223372036854775807 xs) (hl : xs.length <= 100000000) : FnI 24 [.int .i64 p, .ints g xs] (nrm p xs) := by
 refine zm (za [0, 1, 4, 5, 7, 8, 9, 10, 11]) Try.func24 rfl (by decide) Try.ntmps24 (Nat.le_of_ble_eq_true rfl) λbase => ?_;refine W.rs (za _) (by rfl) λK hK => ?_;conv=>whnf
 refine hK _ ?_;clear hK;refine W.rs (za _) (by rfl) λK hK => ?_;conv=>whnf
 refine hK _ ?_;clear hK;refine W.seqK λK1 hK1 => W.rs (za _) (by rfl) λK hK => ?_;conv=>whnf
 refine hK _ (W.block (W.invA (λm e => ∃ (i b : Nat), i <= xs.length ∧ m = xs.length - i ∧ e = [(0, .v (.int .i64 p)), (5, .ownI 2 b ((xs.take i).map (· % p))), (8, .v (.ints g xs)), (9, .v (.int .i64 xs.length)), (10, .v (.int .i64 i))]) ⟨0, 0, Nat.zero_le _, rfl, rfl⟩ ?_));clear hK;rintro m e ⟨i, b, h1, hm, rfl⟩;refine W.rs (za _) (by rfl) λK hK => ?_;conv=>whnf
 refine hK _ ?_;clear hK;refine W.seqK λK7 hK7 => W.cond ⟨λh => ?_, λh => ?_⟩ <;> (first | replace h := of_decide_eq_true h | replace h := of_decide_eq_false h)
 ·refine W.skip (hK7 _ ?_);clear hK7;refine W.seqK λK8 hK8 => W.block ?_;refine W.rs (za _) (by rfl) λK hK => ?_;conv=>whnf
  refine ⟨⟨by omega, by omega⟩, ?_⟩;conv=>whnf
  refine hK _ ?_;clear hK;refine W.region (za _) (by rfl) ?_;conv=>whnf
  refine zl rfl (kI _ p hp (by rw [Int.toNat_natCast]; have := hb i; show _ <= cf xs i ∧ cf xs i <= _; omega) hp2) λhs' hhs => ?_;try dsimp only at hhs
  conv=>whnf
  refine ⟨⟨rfl, by decide⟩, ?_⟩;conv=>whnf
  intro b_1 hs_1 hh_1 hf_1;try dsimp only at hh_1 hf_1
  conv=>whnf
  refine ⟨by simp; omega, ?_⟩;conv=>whnf
  intro b_2 hs_2 hh_2 hf_2;try dsimp only at hh_2 hf_2
  conv=>whnf
  refine hK8 _ ?_;clear hK8;refine W.region (za _) (by rfl) ?_;conv=>whnf
  refine ⟨by omega, ?_⟩;conv=>whnf
  refine ⟨_, _, ⟨i + 1, b_2, by omega, rfl, rfl⟩, by omega, by dsimp only; omega, ?_⟩
  repeat' first | refine And.intro ?_ ?_ | exact trivial | rfl | omega | exact .inl rfl | exact λ_ _ => rfl | exact λ_ _ h => h | assumption | exact λi hi => (by obtain rfl : i = 0 := (by omega); rfl)
  rw [ka _ (by omega), Int.toNat_natCast]
 ·refine W.exit (hK1 _ ?_);clear hK7 hK1;have e : xs.take i = xs := by rw [show i = xs.length by omega, List.take_length]
  refine W.rs (za _) (by rfl) λK hK => ?_;conv=>whnf
  refine zB rfl (j2 _ _ (by rw [e]; simpa using hl)) λhs_1 b_1 hh_1 hf_1 => ?_;try dsimp only at hh_1 hf_1
  conv=>whnf
  refine hK _ ?_;clear hK;rw [e];refine W.ret ?_;conv=>whnf
  exact ⟨.ownI 2 _ (nrm p xs), ⟨rfl, rfl, rfl⟩, trivial, _, rfl⟩
theorem zaQ (p : Int) (hp : 0 < p) (hp2 : p <= 4611686018427387904) (g : Option Nat) (xs : List Int) (hb : Bd 4611686018427387904 xs) (hl : xs.length <= 100000000) : FnI 24 [.int .i64 p, .ints g xs] (nrm p xs) :=
 zfM p hp hp2 g xs (λj => by have := hb j; omega) hl

theorem zcI (p : Int) (hp : 0 < p) (hp2 : p <= 4611686018427387904) (g : Option Nat) (xs : List Int) (hb : Bd 9223372036854775807 xs) (hl : xs.length <= 100000000) : FnI 58 [.int .i64 p, .ints g xs] (nrm p xs) := by
 refine zm (za [0, 1, 4, 5, 6, 11]) Try.func58 rfl (by decide) Try.ntmps58 (Nat.le_of_ble_eq_true rfl) λbase => ?_;refine W.rs (za _) (by rfl) λK hK => ?_;conv=>whnf
 refine hK _ ?_;clear hK;refine W.rs (za _) (by rfl) λK hK => ?_;conv=>whnf
 refine ⟨⟨rfl, by decide⟩, ?_⟩;conv=>whnf
 intro b_0 hs_0 hh_0 hf_0;try dsimp only at hh_0 hf_0
 conv=>whnf
 refine hK _ ?_;clear hK;refine W.seqK λK1 hK1 => W.rs (za _) (by rfl) λK hK => ?_;conv=>whnf
 refine hK _ (W.block (W.invA (λm e => ∃ (i b : Nat), i <= xs.length ∧ m = xs.length - i ∧ e = [(0, .v (.int .i64 p)), (1, .v (.ints g xs)), (5, .ownI 2 b ((xs.take i).map (· % p))), (6, .v (.int .i64 i))]) ⟨0, b_0, Nat.zero_le _, rfl, rfl⟩ ?_));clear hK;rintro m e ⟨i, b, h1, hm, rfl⟩;refine W.seqK λK7 hK7 => W.rs (za _) (by rfl) λK hK => ?_;conv=>whnf
 refine hK _ (W.cond ⟨λh => ?_, λh => ?_⟩) <;> clear hK <;> (first | replace h := of_decide_eq_true h | replace h := of_decide_eq_false h)
 ·refine W.skip (hK7 _ ?_);clear hK7;refine W.seqK λK8 hK8 => W.block ?_;refine W.region (za _) (by rfl) ?_;conv=>whnf
  refine ⟨⟨by omega, by omega⟩, ?_⟩;conv=>whnf
  refine zl rfl (vX _ p hp (by rw [Int.toNat_natCast]; have := hb i; show _ <= cf xs i ∧ cf xs i <= _; omega) hp2) λhs' hhs => ?_;try dsimp only at hhs
  conv=>whnf
  refine ⟨⟨rfl, by decide⟩, ?_⟩;conv=>whnf
  intro b_1 hs_1 hh_1 hf_1;try dsimp only at hh_1 hf_1
  conv=>whnf
  refine ⟨by simp; omega, ?_⟩;conv=>whnf
  intro b_2 hs_2 hh_2 hf_2;try dsimp only at hh_2 hf_2
  conv=>whnf
  refine hK8 _ ?_;clear hK8;refine W.region (za _) (by rfl) ?_;conv=>whnf
  refine ⟨by omega, ?_⟩;conv=>whnf
  refine ⟨_, _, ⟨i + 1, b_2, by omega, rfl, rfl⟩, by omega, by dsimp only; omega, ?_⟩
  repeat' first | refine And.intro ?_ ?_ | exact trivial | rfl | omega | exact .inl rfl | exact λ_ _ => rfl | exact λ_ _ h => h | assumption | exact λi hi => (by obtain rfl : i = 0 := (by omega); rfl)
  rw [ka _ (by omega), Int.toNat_natCast]
 ·refine W.exit (hK1 _ ?_);clear hK7 hK1;have e : xs.take i = xs := by rw [show i = xs.length by omega, List.take_length]
  refine W.rs (za _) (by rfl) λK hK => ?_;conv=>whnf
  refine zB rfl (xo _ _ (by rw [e]; simpa using hl)) λhs_1 b_1 hh_1 hf_1 => ?_;try dsimp only at hh_1 hf_1
  conv=>whnf
  refine hK _ ?_;clear hK;rw [e];refine W.ret ?_;conv=>whnf
  exact ⟨.ownI 2 _ (nrm p xs), ⟨rfl, rfl, rfl⟩, trivial, _, rfl⟩
theorem ji (p : Int) (hp : 0 < p) (hp2 : p <= 4611686018427387904) (g : Option Nat) (xs : List Int) (hb : Bd 4611686018427387904 xs) (hl : xs.length <= 100000000) : FnI 58 [.int .i64 p, .ints g xs] (nrm p xs) :=
 zcI p hp hp2 g xs (λj => by have := hb j; omega) hl

theorem zc3 (g : Option Nat) (xs : List Int) (hb : Bd 1000000000000 xs) (hl : xs.length <= 1000000) : FnV 25 [.ints g xs] (.ints none (mkL (xs.length - 1) (dv (cf xs)))) := by
 refine zm (za [0, 2, 3, 4, 8]) Try.func25 rfl (by decide) Try.ntmps25 (Nat.le_of_ble_eq_true rfl) λbase => ?_;refine W.rs (za _) (by rfl) λK hK => ?_;conv=>whnf
 refine hK _ ?_;clear hK;refine W.rs (za _) (by rfl) λK hK => ?_;conv=>whnf
 refine hK _ ?_;clear hK;refine W.seqK λK1 hK1 => W.rs (za _) (by rfl) λK hK => ?_;conv=>whnf
 refine hK _ (W.block (W.invA (λm e => ∃ (k b : Nat), k <= xs.length - 1 ∧ m = xs.length - k ∧ e = [(0, .v (.ints g xs)), (3, .ownI 2 b (mkL k (dv (cf xs)))), (4, .v (.int .i64 ((k : Int) + 1)))]) ⟨0, 0, Nat.zero_le _, rfl, rfl⟩ ?_));clear hK;rintro m e ⟨k, b, h1, hm, rfl⟩;refine W.seqK λK7 hK7 => W.rs (za _) (by rfl) λK hK => ?_;conv=>whnf
 refine hK _ (W.cond ⟨λh => ?_, λh => ?_⟩) <;> clear hK <;> (first | replace h := of_decide_eq_true h | replace h := of_decide_eq_false h)
 ·refine W.skip (hK7 _ ?_);clear hK7;refine W.seqK λK8 hK8 => W.block ?_;have hk : ((k : Int) + 1).toNat = k + 1 := by omega
  have hv : -(1000000 * 1000000000000) <= ((k : Int) + 1) * cf xs (k + 1) ∧ ((k : Int) + 1) * cf xs (k + 1) <= 1000000 * 1000000000000 := by
   have h2 := hb (k + 1)
   have e1 : (((k : Int) + 1) * cf xs (k + 1)).natAbs <= (1000000 * 1000000000000 : Int).natAbs := by
    rw [Int.natAbs_mul, Int.natAbs_mul];exact Nat.mul_le_mul (by omega) (by omega)
   omega
  refine W.region (za _) (by rfl) ?_;conv=>whnf
  refine ⟨⟨by omega, by omega⟩, ?_⟩;conv=>whnf
  rw [hk];refine ⟨by show _ <= ((k : Int) + 1) * cf xs (k + 1) ∧ ((k : Int) + 1) * cf xs (k + 1) <= _; omega, ?_⟩;conv=>whnf
  refine ⟨⟨rfl, by decide⟩, ?_⟩;conv=>whnf
  intro b_1 hs_1 hh_1 hf_1;try dsimp only at hh_1 hf_1
  conv=>whnf
  refine ⟨by simp [mkL]; omega, ?_⟩;conv=>whnf
  intro b_2 hs_2 hh_2 hf_2;try dsimp only at hh_2 hf_2
  conv=>whnf
  refine hK8 _ ?_;clear hK8;refine W.region (za _) (by rfl) ?_;conv=>whnf
  refine ⟨by omega, ?_⟩;conv=>whnf
  refine ⟨_, _, ⟨k + 1, b_2, by omega, rfl, rfl⟩, by omega, by dsimp only; omega, ?_⟩
  repeat' first | refine And.intro ?_ ?_ | exact trivial | rfl | omega | exact .inl rfl | exact λ_ _ => rfl | exact λ_ _ h => h | assumption | exact λi hi => (by obtain rfl : i = 0 := (by omega); rfl)
  rw [zac]; rfl
 ·refine W.exit (hK1 _ ?_);clear hK7 hK1;have e : k = xs.length - 1 := by omega
  refine W.rs (za _) (by rfl) λK hK => ?_;conv=>whnf
  refine hK _ (W.ret ?_);conv=>whnf
  exact ⟨.v (.ints none (mkL (xs.length - 1) (dv (cf xs)))), ⟨rfl, by rw [e]⟩, trivial, rfl⟩
theorem zaR (g : Option Nat) (xs : List Int) (hb : Bd 1000000000000 xs) (hl : xs.length <= 1000000) : FnV 59 [.ints g xs] (.ints none (mkL (xs.length - 1) (dv (cf xs)))) := by
 refine zm (za [0, 2, 3, 4, 9]) Try.func59 rfl (by decide) Try.ntmps59 (Nat.le_of_ble_eq_true rfl) λbase => ?_;refine W.rs (za _) (by rfl) λK hK => ?_;conv=>whnf
 refine hK _ ?_;clear hK;refine W.rs (za _) (by rfl) λK hK => ?_;conv=>whnf
 refine ⟨⟨rfl, by decide⟩, ?_⟩;conv=>whnf
 intro b_0 hs_0 hh_0 hf_0;try dsimp only at hh_0 hf_0
 conv=>whnf
 refine hK _ ?_;clear hK;refine W.seqK λK1 hK1 => W.rs (za _) (by rfl) λK hK => ?_;conv=>whnf
 refine hK _ (W.block (W.invA (λm e => ∃ (k b : Nat), k <= xs.length - 1 ∧ m = xs.length - k ∧ e = [(0, .v (.ints g xs)), (3, .ownI 2 b (mkL k (dv (cf xs)))), (4, .v (.int .i64 ((k : Int) + 1)))]) ⟨0, b_0, Nat.zero_le _, rfl, rfl⟩ ?_));clear hK;rintro m e ⟨k, b, h1, hm, rfl⟩;refine W.seqK λK7 hK7 => W.rs (za _) (by rfl) λK hK => ?_;conv=>whnf
 refine hK _ (W.cond ⟨λh => ?_, λh => ?_⟩) <;> clear hK <;> (first | replace h := of_decide_eq_true h | replace h := of_decide_eq_false h)
 ·refine W.skip (hK7 _ ?_);clear hK7;refine W.seqK λK8 hK8 => W.block ?_;have hk : ((k : Int) + 1).toNat = k + 1 := by omega
  have hv : -(1000000 * 1000000000000) <= ((k : Int) + 1) * cf xs (k + 1) ∧ ((k : Int) + 1) * cf xs (k + 1) <= 1000000 * 1000000000000 := by
   have h2 := hb (k + 1)
   have e1 : (((k : Int) + 1) * cf xs (k + 1)).natAbs <= (1000000 * 1000000000000 : Int).natAbs := by
    rw [Int.natAbs_mul, Int.natAbs_mul];exact Nat.mul_le_mul (by omega) (by omega)
   omega
  refine W.region (za _) (by rfl) ?_;conv=>whnf
  refine ⟨⟨by omega, by omega⟩, ?_⟩;conv=>whnf
  rw [hk];refine ⟨by show _ <= ((k : Int) + 1) * cf xs (k + 1) ∧ ((k : Int) + 1) * cf xs (k + 1) <= _; omega, ?_⟩;conv=>whnf
  refine ⟨⟨rfl, by decide⟩, ?_⟩;conv=>whnf
  intro b_1 hs_1 hh_1 hf_1;try dsimp only at hh_1 hf_1
  conv=>whnf
  refine ⟨by simp [mkL]; omega, ?_⟩;conv=>whnf
  intro b_2 hs_2 hh_2 hf_2;try dsimp only at hh_2 hf_2
  conv=>whnf
  refine hK8 _ ?_;clear hK8;refine W.region (za _) (by rfl) ?_;conv=>whnf
  refine ⟨by omega, ?_⟩;conv=>whnf
  refine ⟨_, _, ⟨k + 1, b_2, by omega, rfl, rfl⟩, by omega, by dsimp only; omega, ?_⟩
  repeat' first | refine And.intro ?_ ?_ | exact trivial | rfl | omega | exact .inl rfl | exact λ_ _ => rfl | exact λ_ _ h => h | assumption | exact λi hi => (by obtain rfl : i = 0 := (by omega); rfl)
  rw [zac]; rfl
 ·refine W.exit (hK1 _ ?_);clear hK7 hK1;have e : k = xs.length - 1 := by omega
  refine W.rs (za _) (by rfl) λK hK => ?_;conv=>whnf
  refine hK _ (W.ret ?_);conv=>whnf
  exact ⟨.v (.ints none (mkL (xs.length - 1) (dv (cf xs)))), ⟨rfl, by rw [e]⟩, trivial, rfl⟩

theorem zgK (g g' : Option Nat) (f h : List Int) (hf : Bd 9223372036854775807 f) (hs : ∀ j, -9223372036854775807 <= cf f j + cf h j ∧ cf f j + cf h j <= 9223372036854775807) (hl : f.length <= 100000000) (hl' : h.length <= 100000000) : FnI 52 [.ints g f, .ints g' h] (zw (jJ f h)) := by
 generalize hn : max f.length h.length = n;have hmx : (max (f.length : Int) (h.length : Int)) = n := by omega
 refine zm (za [0, 1, 4, 5, 6, 7, 8, 9, 16, 17, 18, 19, 31, 32, 33, 34]) Try.func52 rfl (by decide) Try.ntmps52 (Nat.le_of_ble_eq_true rfl) λbase => ?_;refine W.rs (za _) (by rfl) λK hK => ?_;conv=>whnf
 refine hK _ ?_;clear hK;refine W.rs (za _) (by rfl) λK hK => ?_;conv=>whnf
 rw [hmx];refine ⟨rfl, ?_⟩;conv=>whnf
 refine ⟨⟨by omega, by omega⟩, ?_⟩;conv=>whnf
 intro b_0 hs_0 hh_0 hf_0;try dsimp only at hh_0 hf_0
 conv=>whnf
 refine hK _ ?_;clear hK;refine W.seqK λK1 hK1 => W.rs (za _) (by rfl) λK hK => ?_;conv=>whnf
 refine hK _ (W.block (W.invA (λm e => ∃ (i b : Nat) (o : List Int), i <= f.length ∧ o.length = n ∧ (∀ j, cf o j = if j < i then cf f j else 0) ∧ m = f.length - i ∧ e = [(0, .v (.ints g f)), (1, .v (.ints g' h)), (5, .ownI 2 b o), (16, .v (.ints g f)), (17, .v (.int .i64 f.length)), (18, .v (.int .i64 i))]) ⟨0, b_0, List.replicate n 0, Nat.zero_le _, by simp, λj => by rw [zF]; simp, rfl, rfl⟩ ?_));clear hK;rintro m e ⟨i, b, o, h1, h2, h3, hm, rfl⟩;refine W.rs (za _) (by rfl) λK hK => ?_;conv=>whnf
 refine hK _ ?_;clear hK;refine W.seqK λK7 hK7 => W.cond ⟨λh4 => ?_, λh4 => ?_⟩ <;> (first | replace h4 := of_decide_eq_true h4 | replace h4 := of_decide_eq_false h4)
 ·refine W.skip (hK7 _ ?_);clear hK7;refine W.seqK λK8 hK8 => W.block ?_;refine W.rs (za _) (by rfl) λK hK => ?_;conv=>whnf
  refine ⟨⟨by omega, by omega⟩, ?_⟩;conv=>whnf
  refine hK _ ?_;clear hK;refine W.region (za _) (by rfl) ?_;conv=>whnf
  rw [Int.toNat_natCast];refine ⟨⟨by omega, by omega⟩, ?_⟩;conv=>whnf
  have e1 : cf o i = 0 := by rw [h3, if_neg (by omega)]
  have e2 := hf i;refine ⟨by show _ <= cf o i + cf f i ∧ cf o i + cf f i <= _; omega, ?_⟩;conv=>whnf
  refine ⟨⟨by omega, by omega⟩, ?_⟩;conv=>whnf
  refine hK8 _ ?_;clear hK8;refine W.region (za _) (by rfl) ?_;conv=>whnf
  refine ⟨by omega, ?_⟩;conv=>whnf
  have h5 : ∀ j, cf (o.set i (cf o i + cf f i)) j = if j < i + 1 then cf f j else 0 := λj => by
   rw [yb (by omega), h3 j]
   by_cases hj : j = i
   ·subst hj; rw [if_pos rfl, if_pos (by omega), e1]; omega
   ·by_cases hj2 : j < i
    ·rw [if_neg hj, if_pos hj2, if_pos (by omega)]
    ·rw [if_neg hj, if_neg hj2, if_neg (by omega)]
  exact zp ⟨i + 1, b, o.set i (cf o i + cf f i), by omega, by simpa using h2, h5, rfl, rfl⟩
 ·refine W.exit (hK1 _ ?_);clear hK7 hK1;obtain rfl : i = f.length := by omega
  have h3' : ∀ j, cf o j = cf f j := λj => by
   rw [h3]
   split
   ·rfl
   ·rw [zV (by omega)]
  clear h3;refine W.seqK λK1 hK1 => W.rs (za _) (by rfl) λK hK => ?_;conv=>whnf
  refine hK _ (W.block (W.invA (λm e => ∃ (i b : Nat) (o : List Int), i <= h.length ∧ o.length = n ∧ (∀ j, cf o j = cf f j + if j < i then cf h j else 0) ∧ m = h.length - i ∧ e = [(5, .ownI 2 b o), (31, .v (.ints g' h)), (32, .v (.int .i64 h.length)), (33, .v (.int .i64 i))]) ⟨0, b, o, Nat.zero_le _, h2, λj => by rw [h3']; simp, rfl, rfl⟩ ?_));clear hK;rintro m e ⟨i, b, o, h1, h2, h3, hm, rfl⟩;refine W.rs (za _) (by rfl) λK hK => ?_;conv=>whnf
  refine hK _ ?_;clear hK;refine W.seqK λK7 hK7 => W.cond ⟨λh4 => ?_, λh4 => ?_⟩ <;> (first | replace h4 := of_decide_eq_true h4 | replace h4 := of_decide_eq_false h4)
  ·refine W.skip (hK7 _ ?_);clear hK7;refine W.seqK λK8 hK8 => W.block ?_;refine W.rs (za _) (by rfl) λK hK => ?_;conv=>whnf
   refine ⟨⟨by omega, by omega⟩, ?_⟩;conv=>whnf
   refine hK _ ?_;clear hK;refine W.region (za _) (by rfl) ?_;conv=>whnf
   rw [Int.toNat_natCast];refine ⟨⟨by omega, by omega⟩, ?_⟩;conv=>whnf
   have e1 : cf o i = cf f i := by rw [h3, if_neg (by omega)]; omega
   have e2 := hs i;refine ⟨by show _ <= cf o i + cf h i ∧ cf o i + cf h i <= _; omega, ?_⟩;conv=>whnf
   refine ⟨⟨by omega, by omega⟩, ?_⟩;conv=>whnf
   refine hK8 _ ?_;clear hK8;refine W.region (za _) (by rfl) ?_;conv=>whnf
   refine ⟨by omega, ?_⟩;conv=>whnf
   have h5 : ∀ j, cf (o.set i (cf o i + cf h i)) j = cf f j + if j < i + 1 then cf h j else 0 := λj => by
    rw [yb (by omega), h3 j]
    by_cases hj : j = i
    ·subst hj; rw [if_pos rfl, if_pos (by omega), e1]
    ·by_cases hj2 : j < i
     ·rw [if_neg hj, if_pos hj2, if_pos (by omega)]
     ·rw [if_neg hj, if_neg hj2, if_neg (by omega)]
   exact zp ⟨i + 1, b, o.set i (cf o i + cf h i), by omega, by simpa using h2, h5, rfl, rfl⟩
  ·refine W.exit (hK1 _ ?_);clear hK7 hK1
   have h3' : ∀ j, cf o j = cf f j + cf h j := λj => by
    rw [h3]
    split
    ·rfl
    ·rw [zV (l := h) (by omega)]
   refine W.rs (za _) (by rfl) λK hK => ?_;conv=>whnf
   refine zB rfl (j2 _ _ (by omega)) λhs_1 b_1 hh_1 hf_1 => ?_;try dsimp only at hh_1 hf_1
   conv=>whnf
   refine hK _ (W.ret ?_);conv=>whnf
   exact ⟨.ownI 2 _ (zw (jJ f h)), ⟨rfl, rfl, zfz h3'⟩, trivial, _, rfl⟩

theorem zjP (g g' : Option Nat) (f h : List Int) (hf : Bd 2305843009213693951 f) (hh : Bd 2305843009213693951 h) (hl : f.length <= 100000000) (hl' : h.length <= 100000000) : FnI 52 [.ints g f, .ints g' h] (zw (jJ f h)) :=
 zgK g g' f h (λj => by have := hf j; omega) (λj => by have := hf j; have := hh j; omega) hl hl'

theorem zij (g g' : Option Nat) (f h : List Int) (k : Int) (hk : -1 <= k ∧ k <= 1) (hf : Bd 2305843009213693951 f) (hh : Bd 2305843009213693951 h) (hl : f.length <= 100000000) (hl' : h.length <= 100000000) : FnI 64 [.ints g f, .ints g' h, .int .i64 k] (zw (jJ f (jK k h))) := by
 generalize hn : max f.length h.length = n;have hmx : (max (f.length : Int) (h.length : Int)) = n := by omega
 have hkh : ∀ i, -2305843009213693951 <= k * cf h i ∧ k * cf h i <= 2305843009213693951 := λi => by
  have := hh i;rcases (by omega : k = -1 ∨ k = 0 ∨ k = 1) with rfl | rfl | rfl <;> omega
 refine zm (za [0, 1, 2, 6, 7, 8, 18, 24, 35]) Try.func64 rfl (by decide) Try.ntmps64 (Nat.le_of_ble_eq_true rfl) λbase => ?_;refine W.rs (za _) (by rfl) λK hK => ?_;conv=>whnf
 refine hK _ ?_;clear hK;refine W.rs (za _) (by rfl) λK hK => ?_;conv=>whnf
 rw [hmx];refine ⟨rfl, ?_⟩;conv=>whnf
 refine ⟨⟨by omega, by omega⟩, ?_⟩;conv=>whnf
 intro b_0 hs_0 hh_0 hf_0;try dsimp only at hh_0 hf_0
 conv=>whnf
 refine hK _ ?_;clear hK;refine W.seqK λK1 hK1 => W.rs (za _) (by rfl) λK hK => ?_;conv=>whnf
 refine hK _ (W.block (W.invA (λm e => ∃ (i b : Nat) (o : List Int), i <= n ∧ o.length = n ∧ (∀ j, cf o j = if j < i then cf f j + k * cf h j else 0) ∧ m = n - i ∧ e = [(0, .v (.ints g f)), (1, .v (.ints g' h)), (2, .v (.int .i64 k)), (7, .ownI 2 b o), (8, .v (.int .i64 i))]) ⟨0, b_0, List.replicate n 0, Nat.zero_le _, by simp, λj => by rw [zF]; simp, rfl, rfl⟩ ?_));clear hK;rintro m e ⟨i, b, o, h1, h2, h3, hm, rfl⟩;refine W.seqK λK7 hK7 => W.rs (za _) (by rfl) λK hK => ?_;conv=>whnf
 refine hK _ (W.cond ⟨λh4 => ?_, λh4 => ?_⟩) <;> clear hK <;> (first | replace h4 := of_decide_eq_true h4 | replace h4 := of_decide_eq_false h4)
 ·refine W.skip (hK7 _ ?_);clear hK7;refine W.seqK λK8 hK8 => W.block ?_;have e1 : cf o i = 0 := by rw [h3, if_neg (by omega)]
  have e2 := hf i;have e3 := hkh i
  -- the end of the round
  have fin : ∀ (o' : List Int) (s : S), o'.length = n -> (∀ j, cf o' j = if j = i then cf f i + k * cf h i else cf o j) -> base <= s.hs ->
    zD s.env [(0, .v (.ints g f)), (1, .v (.ints g' h)), (2, .v (.int .i64 k)), (7, .ownI 2 b o'), (8, .v (.int .i64 i))] -> K8 s := by
   intro o' s h5 h6 h7 h8;refine hK8 _ (W.weak (t := ⟨[(0, .v (.ints g f)), (1, .v (.ints g' h)), (2, .v (.int .i64 k)), (7, .ownI 2 b o'), (8, .v (.int .i64 i))], base⟩) ⟨h7, h8⟩ (Nat.le_refl _) ?_);refine W.region (za _) (by rfl) ?_;conv=>whnf
   refine ⟨by omega, ?_⟩;conv=>whnf
   have h9 : ∀ j, cf o' j = if j < i + 1 then cf f j + k * cf h j else 0 := λj => by
    rw [h6, h3 j]
    by_cases hj : j = i
    ·subst hj; rw [if_pos rfl, if_pos (by omega)]
    ·by_cases hj2 : j < i
     ·rw [if_neg hj, if_pos hj2, if_pos (by omega)]
     ·rw [if_neg hj, if_neg hj2, if_neg (by omega)]
   exact zp ⟨i + 1, b, o', by omega, h5, h9, rfl, rfl⟩
  clear hK8;refine W.seqK λK9 hK9 => ?_
  -- the second half of the round
  have sec : ∀ (o' : List Int) (s : S), o'.length = n -> (∀ j, cf o' j = if j = i then cf f i else cf o j) -> base <= s.hs ->
    zD s.env [(0, .v (.ints g f)), (1, .v (.ints g' h)), (2, .v (.int .i64 k)), (7, .ownI 2 b o'), (8, .v (.int .i64 i))] -> K9 s := by
   intro o' s h5 h6 h7 h8;refine hK9 _ (W.weak (t := ⟨[(0, .v (.ints g f)), (1, .v (.ints g' h)), (2, .v (.int .i64 k)), (7, .ownI 2 b o'), (8, .v (.int .i64 i))], base⟩) ⟨h7, h8⟩ (Nat.le_refl _) ?_);clear hK9;have e4 : cf o' i = cf f i := by rw [h6, if_pos rfl]
   refine W.rs (za _) (by rfl) λK hK => ?_;conv=>whnf
   refine hK _ (W.cond ⟨λh9 => ?_, λh9 => ?_⟩) <;> clear hK
   ·have h9 := of_decide_eq_true h9;refine W.draw (za _) follows (by rfl) ?_;conv=>whnf
    rw [Int.toNat_natCast];refine ⟨⟨by omega, by omega⟩, ?_⟩;conv=>whnf
    refine ⟨⟨by omega, by omega⟩, ?_⟩;conv=>whnf
    refine ⟨by show _ <= k * cf h i ∧ k * cf h i <= _; omega, ?_⟩;conv=>whnf
    refine ⟨by show _ <= cf o' i + k * cf h i ∧ cf o' i + k * cf h i <= _; omega, ?_⟩;conv=>whnf
    refine ⟨⟨by omega, by omega⟩, ?_⟩;conv=>whnf
    refine fin (o'.set i (cf o' i + k * cf h i)) _ (by simpa using h5) (λj => ?_) (by dsimp only; omega) ?_
    ·rw [yb (by omega), e4]
     split
     ·rfl
     ·rename_i hj; rw [h6, if_neg hj]
    ·repeat' first | refine And.intro ?_ ?_ | exact trivial | rfl | omega | exact .inl rfl | exact λ_ _ => rfl | exact λ_ _ h => h | assumption | exact λi hi => (by obtain rfl : i = 0 := (by omega); rfl)
   ·have h9 := of_decide_eq_false h9;have e5 : cf h i = 0 := zV (by omega);refine W.skip (fin o' _ h5 (λj => ?_) (by dsimp only; omega) ?_)
    ·rw [h6]; split
     ·rw [e5]; omega
     ·rfl
    ·repeat' first | refine And.intro ?_ ?_ | exact trivial | rfl | omega | exact .inl rfl | exact λ_ _ => rfl | exact λ_ _ h => h | assumption | exact λi hi => (by obtain rfl : i = 0 := (by omega); rfl)
  clear hK9 fin;refine W.rs (za _) (by rfl) λK hK => ?_;conv=>whnf
  refine hK _ (W.cond ⟨λh5 => ?_, λh5 => ?_⟩) <;> clear hK
  ·have h5 := of_decide_eq_true h5;refine W.region (za _) (by rfl) ?_;conv=>whnf
   rw [Int.toNat_natCast];refine ⟨⟨by omega, by omega⟩, ?_⟩;conv=>whnf
   refine ⟨⟨by omega, by omega⟩, ?_⟩;conv=>whnf
   refine sec (o.set i (cf f i)) _ (by simpa using h2) (λj => ?_) (by dsimp only; omega) ?_
   ·exact yb (by omega) _ _
   ·repeat' first | refine And.intro ?_ ?_ | exact trivial | rfl | omega | exact .inl rfl | exact λ_ _ => rfl | exact λ_ _ h => h | assumption | exact λi hi => (by obtain rfl : i = 0 := (by omega); rfl)
  ·have h5 := of_decide_eq_false h5;refine W.skip (sec o _ h2 (λj => ?_) (by dsimp only; omega) ?_)
   ·split
    ·rename_i hj; rw [hj, e1, zV (by omega)]
    ·rfl
   ·repeat' first | refine And.intro ?_ ?_ | exact trivial | rfl | omega | exact .inl rfl | exact λ_ _ => rfl | exact λ_ _ h => h | assumption | exact λi hi => (by obtain rfl : i = 0 := (by omega); rfl)
 ·refine W.exit (hK1 _ ?_);clear hK7 hK1
  have h3' : ∀ j, cf o j = cf f j + cf (jK k h) j := λj => by
   rw [h3, zci]
   split
   ·rfl
   ·rw [zV (l := f) (by omega), zV (l := h) (by omega)]; omega
  refine W.rs (za _) (by rfl) λK hK => ?_;conv=>whnf
  refine zB rfl (xo _ _ (by omega)) λhs_1 b_1 hh_1 hf_1 => ?_;try dsimp only at hh_1 hf_1
  conv=>whnf
  refine hK _ (W.ret ?_);conv=>whnf
  exact ⟨.ownI 2 _ (zw (jJ f (jK k h))), ⟨rfl, rfl, zfz h3'⟩, trivial, _, rfl⟩

open Go Go.RowKit Go.Proofs

theorem zdE {f h : List Int} {o : List Int} {i k : Nat} (hn : o.length + 1 = f.length + h.length) (hi : i < f.length) (hk : k < h.length) (h3 : ∀ j, cf o j = part (cf f) (cf h) i k j) :
  i + k < o.length ∧ ∀ j, cf (o.set (i + k) (cf o (i + k) + cf f i * cf h k)) j = part (cf f) (cf h) i (k + 1) j := by
 refine ⟨by omega, λj => ?_⟩;rw [yb (by omega), zaJ]
 split
 ·rename_i hj; subst hj; rw [h3]
 ·exact h3 j

theorem zcJ (g g' : Option Nat) (f h : List Int) (A B : Int) (hA : 0 <= A) (hB : 0 <= B) (hf : Bd A f) (hh : Bd B h) (hAB : ((f.length : Int) + 1) * (A * B) <= 9223372036854775807) (hl : f.length <= 10000000) (hl' : h.length <= 10000000) : FnI 70 [.ints g f, .ints g' h] (zw (v8 f h)) := by
 have hpb : ∀ i k j, i < f.length -> -9223372036854775807 <= part (cf f) (cf h) i k j ∧ part (cf f) (cf h) i k j <= 9223372036854775807 := λi k j hi => by
  have h1 := zhn hA hB hf hh i k j;have h2 : ((i : Int) + 1) * (A * B) <= ((f.length : Int) + 1) * (A * B) := Int.mul_le_mul_of_nonneg_right (by omega) (Int.mul_nonneg hA hB);omega
 have hmb : ∀ i k, i < f.length -> -9223372036854775807 <= cf f i * cf h k ∧ cf f i * cf h k <= 9223372036854775807 := λi k hi => by
  have h1 := hf i;have h2 := hh k
  have e1 : (cf f i * cf h k).natAbs <= (A * B).natAbs := by
   rw [Int.natAbs_mul, Int.natAbs_mul];exact Nat.mul_le_mul (by omega) (by omega)
  have h3 : 0 <= A * B := Int.mul_nonneg hA hB;have h4 : 1 * (A * B) <= ((f.length : Int) + 1) * (A * B) := Int.mul_le_mul_of_nonneg_right (by omega) h3;omega
 refine zm (za [0, 1, 4, 5, 6, 7, 8, 9, 17, 25, 26, 27, 28, 32, 33, 34, 35]) Try.func70 rfl (by decide) Try.ntmps70 (Nat.le_of_ble_eq_true rfl) λbase => ?_;refine W.rs (za _) (by rfl) λK hK => ?_;conv=>whnf
 refine hK _ ?_;clear hK;refine W.seqK λK1 hK1 => W.rs (za _) (by rfl) λK hK => ?_;conv=>whnf
 have hnil : (f = [] ∨ h = []) -> zw (v8 f h) = [] := zad;refine ⟨λh0 => ?_, λh0 => ?_⟩ <;> conv=>whnf
 ·have h0 := of_decide_eq_true h0;refine hK _ (W.condT rfl ?_);clear hK;refine W.rs (za _) (by rfl) λK hK => ?_;conv=>whnf
  refine hK _ (W.ret ?_);conv=>whnf
  exact ⟨.ownI 2 0 [], rfl, trivial, _, by rw [hnil (.inl (List.eq_nil_of_length_eq_zero (by omega)))]⟩
 have h0 := of_decide_eq_false h0;refine hK _ (W.cond ⟨λh0' => ?_, λh0' => ?_⟩) <;> clear hK
 ·have h0' := of_decide_eq_true h0';refine W.rs (za _) (by rfl) λK hK => ?_;conv=>whnf
  refine hK _ (W.ret ?_);conv=>whnf
  exact ⟨.ownI 2 0 [], rfl, trivial, _, by rw [hnil (.inr (List.eq_nil_of_length_eq_zero (by omega)))]⟩
 have h0' := of_decide_eq_false h0';clear hnil;refine W.skip (hK1 _ ?_);clear hK1;refine W.rs (za _) (by rfl) λK hK => ?_;conv=>whnf
 refine ⟨by constructor <;> omega, ?_⟩;conv=>whnf
 refine ⟨by constructor <;> omega, ?_⟩;conv=>whnf
 refine ⟨rfl, ?_⟩;conv=>whnf
 refine ⟨⟨by omega, by omega⟩, ?_⟩;conv=>whnf
 have hn : ((f.length : Int) + h.length - 1).toNat + 1 = f.length + h.length := by omega
 generalize hnn : ((f.length : Int) + h.length - 1).toNat = n at hn;intro b_0 hs_0 hh_0 hf_0;try dsimp only at hh_0 hf_0
 conv=>whnf
 refine hK _ ?_;clear hK;refine W.seqK λK1 hK1 => W.rs (za _) (by rfl) λK hK => ?_;conv=>whnf
 refine hK _ (W.block (W.invA (λm e => ∃ (i b : Nat) (o : List Int), i <= f.length ∧ o.length = n ∧ (∀ j, cf o j = part (cf f) (cf h) i 0 j) ∧ m = f.length - i ∧ e = [(1, .v (.ints g' h)), (5, .ownI 2 b o), (25, .v (.ints g f)), (26, .v (.int .i64 f.length)), (27, .v (.int .i64 i))]) ⟨0, b_0, List.replicate n 0, Nat.zero_le _, by simp, λj => by rw [zF, zcy], rfl, rfl⟩ ?_));clear hK;rintro m e ⟨i, b, o, h1, h2, h3, hm, rfl⟩;refine W.rs (za _) (by rfl) λK hK => ?_;conv=>whnf
 refine hK _ ?_;clear hK;refine W.seqK λK7 hK7 => W.cond ⟨λh4 => ?_, λh4 => ?_⟩ <;> (first | replace h4 := of_decide_eq_true h4 | replace h4 := of_decide_eq_false h4)
 ·refine W.skip (hK7 _ ?_);clear hK7;refine W.seqK λK8 hK8 => W.block ?_;refine W.rs (za _) (by rfl) λK hK => ?_;conv=>whnf
  refine ⟨⟨by omega, by omega⟩, ?_⟩;conv=>whnf
  rw [Int.toNat_natCast];refine hK _ ?_;clear hK;refine W.rs (za _) (by rfl) λK hK => ?_;conv=>whnf
  refine hK _ (W.block (W.invE (λm e => ∃ (k b : Nat) (o : List Int), k <= h.length ∧ o.length = n ∧ (∀ j, cf o j = part (cf f) (cf h) i k j) ∧ m = h.length - k ∧ e = [(1, .v (.ints g' h)), (5, .ownI 2 b o), (6, .v (.int .i64 i)), (7, .v (.int .i64 (cf f i))), (25, .v (.ints g f)), (26, .v (.int .i64 f.length)), (27, .v (.int .i64 i)), (32, .v (.ints g' h)), (33, .v (.int .i64 h.length)), (34, .v (.int .i64 k))]) _ _ ⟨0, b, o, Nat.zero_le _, h2, h3, rfl, rfl⟩ (by dsimp only; omega) (by repeat' first | refine And.intro ?_ ?_ | exact trivial | rfl | omega | assumption) ?_));clear hK;clear h3 h2 b o;rintro m' e ⟨k, b, o, h5, h2, h3, hm', rfl⟩;refine W.rs (za _) (by rfl) λK hK => ?_;conv=>whnf
  refine hK _ ?_;clear hK;refine W.seqK λK7 hK7 => W.cond ⟨λh6 => ?_, λh6 => ?_⟩ <;> (first | replace h6 := of_decide_eq_true h6 | replace h6 := of_decide_eq_false h6)
  ·refine W.skip (hK7 _ ?_);clear hK7;refine W.seqK λK10 hK10 => W.block ?_;refine W.rs (za _) (by rfl) λK hK => ?_;conv=>whnf
   refine ⟨⟨by omega, by omega⟩, ?_⟩;conv=>whnf
   rw [Int.toNat_natCast];refine hK _ ?_;clear hK;refine W.region (za _) (by rfl) ?_;conv=>whnf
   have h4 : i < f.length := by omega
   have h7 := zdE (o := o) (by omega) h4 (by omega : k < h.length) h3;have h8 := hpb i k (i + k) h4;have h9 := hpb i (k + 1) (i + k) h4;rw [zaJ, if_pos rfl] at h9;have h10 := hmb i k h4;rw [<- h3] at h8 h9;refine ⟨by constructor <;> omega, ?_⟩;conv=>whnf
   have e1 : ((i : Int) + k).toNat = i + k := by omega
   refine ⟨⟨by omega, by omega⟩, ?_⟩;conv=>whnf
   rw [e1];refine ⟨by show _ <= cf f i * cf h k ∧ cf f i * cf h k <= _; omega, ?_⟩;conv=>whnf
   refine ⟨by show _ <= cf o (i + k) + cf f i * cf h k ∧ cf o (i + k) + cf f i * cf h k <= _; omega, ?_⟩;conv=>whnf
   refine ⟨⟨by omega, by omega⟩, ?_⟩;conv=>whnf
   refine hK10 _ ?_;clear hK10 K10;refine W.region (za _) (by rfl) ?_;conv=>whnf
   refine ⟨by omega, ?_⟩;conv=>whnf
   exact zp ⟨k + 1, b, o.set (i + k) (cf o (i + k) + cf f i * cf h k), by omega, by simpa using h2, h7.2, rfl, rfl⟩
  ·obtain rfl : k = h.length := by omega
   refine W.exit (hK8 _ ?_);clear hK7 hK8;refine W.region (za _) (by rfl) ?_;conv=>whnf
   refine ⟨by omega, ?_⟩;conv=>whnf
   exact zp ⟨i + 1, b, o, by omega, h2, λj => by rw [h3 j]; exact zfx (λj hj => zV hj) i j, rfl, rfl⟩
 ·refine W.exit (hK1 _ ?_);clear hK7 hK1;obtain rfl : i = f.length := by omega
  refine W.rs (za _) (by rfl) λK hK => ?_;conv=>whnf
  refine zB rfl (j2 _ _ (by omega)) λhs_1 b_1 hh_1 hf_1 => ?_;try dsimp only at hh_1 hf_1
  conv=>whnf
  refine hK _ (W.ret ?_);conv=>whnf
  exact ⟨.ownI 2 _ (zw (v8 f h)), ⟨rfl, rfl, zfA λj => by rw [h3 j]; exact zfy (λj hj => zV hj) j⟩, trivial, _, rfl⟩
theorem zei (g g' : Option Nat) (f h : List Int) (A B : Int) (hA : 0 <= A) (hB : 0 <= B) (hf : Bd A f) (hh : Bd B h) (hAB : ((f.length : Int) + 1) * (A * B) <= 4611686018427387904) (hl : f.length <= 10000000) (hl' : h.length <= 10000000) : FnI 70 [.ints g f, .ints g' h] (zw (v8 f h)) :=
 zcJ g g' f h A B hA hB hf hh (by omega) hl hl'

theorem zcK (g g' : Option Nat) (f h : List Int) (A B : Int) (hA : 0 <= A) (hB : 0 <= B) (hf : Bd A f) (hh : Bd B h) (hAB : ((f.length : Int) + 1) * (A * B) <= 4611686018427387904) (hl : f.length <= 10000000) (hl' : h.length <= 10000000) : FnI 66 [.ints g f, .ints g' h] (zw (v8 f h)) := by
 have hpb : ∀ i k j, i < f.length -> -4611686018427387904 <= part (cf f) (cf h) i k j ∧ part (cf f) (cf h) i k j <= 4611686018427387904 := λi k j hi => by
  have h1 := zhn hA hB hf hh i k j;have h2 : ((i : Int) + 1) * (A * B) <= ((f.length : Int) + 1) * (A * B) := Int.mul_le_mul_of_nonneg_right (by omega) (Int.mul_nonneg hA hB);omega
 have hmb : ∀ i k, i < f.length -> -4611686018427387904 <= cf f i * cf h k ∧ cf f i * cf h k <= 4611686018427387904 := λi k hi => by
  have h1 := hf i;have h2 := hh k
  have e1 : (cf f i * cf h k).natAbs <= (A * B).natAbs := by
   rw [Int.natAbs_mul, Int.natAbs_mul];exact Nat.mul_le_mul (by omega) (by omega)
  have h3 : 0 <= A * B := Int.mul_nonneg hA hB;have h4 : 1 * (A * B) <= ((f.length : Int) + 1) * (A * B) := Int.mul_le_mul_of_nonneg_right (by omega) h3;omega
 refine zm (za [0, 1, 4, 5, 6, 7, 15, 27, 33]) Try.func66 rfl (by decide) Try.ntmps66 (Nat.le_of_ble_eq_true rfl) λbase => ?_;refine W.rs (za _) (by rfl) λK hK => ?_;conv=>whnf
 refine hK _ ?_;clear hK;refine W.seqK λK1 hK1 => W.rs (za _) (by rfl) λK hK => ?_;conv=>whnf
 have hnil : (f = [] ∨ h = []) -> zw (v8 f h) = [] := zad;refine ⟨λh0 => ?_, λh0 => ?_⟩ <;> conv=>whnf
 ·have h0 := of_decide_eq_true h0;refine hK _ (W.condT rfl ?_);clear hK;refine W.rs (za _) (by rfl) λK hK => ?_;conv=>whnf
  refine ⟨⟨rfl, by decide⟩, ?_⟩;conv=>whnf
  intro b_0 hs_0 hh_0 hf_0;try dsimp only at hh_0 hf_0
  conv=>whnf
  refine hK _ (W.ret ?_);conv=>whnf
  exact ⟨.ownI 2 b_0 [], ⟨rfl, rfl, rfl⟩, trivial, _, by rw [hnil (.inl (List.eq_nil_of_length_eq_zero (by omega)))]⟩
 have h0 := of_decide_eq_false h0;refine hK _ (W.cond ⟨λh0' => ?_, λh0' => ?_⟩) <;> clear hK
 ·have h0' := of_decide_eq_true h0';refine W.rs (za _) (by rfl) λK hK => ?_;conv=>whnf
  refine ⟨⟨rfl, by decide⟩, ?_⟩;conv=>whnf
  intro b_0 hs_0 hh_0 hf_0;try dsimp only at hh_0 hf_0
  conv=>whnf
  refine hK _ (W.ret ?_);conv=>whnf
  exact ⟨.ownI 2 b_0 [], ⟨rfl, rfl, rfl⟩, trivial, _, by rw [hnil (.inr (List.eq_nil_of_length_eq_zero (by omega)))]⟩
 have h0' := of_decide_eq_false h0';clear hnil;refine W.skip (hK1 _ ?_);clear hK1;refine W.rs (za _) (by rfl) λK hK => ?_;conv=>whnf
 refine ⟨by constructor <;> omega, ?_⟩;conv=>whnf
 refine ⟨by constructor <;> omega, ?_⟩;conv=>whnf
 refine ⟨rfl, ?_⟩;conv=>whnf
 refine ⟨⟨by omega, by omega⟩, ?_⟩;conv=>whnf
 have hn : ((f.length : Int) + h.length - 1).toNat + 1 = f.length + h.length := by omega
 generalize hnn : ((f.length : Int) + h.length - 1).toNat = n at hn;intro b_0 hs_0 hh_0 hf_0;try dsimp only at hh_0 hf_0
 conv=>whnf
 refine hK _ ?_;clear hK;refine W.seqK λK1 hK1 => W.rs (za _) (by rfl) λK hK => ?_;conv=>whnf
 refine hK _ (W.block (W.invA (λm e => ∃ (i b : Nat) (o : List Int), i <= f.length ∧ o.length = n ∧ (∀ j, cf o j = part (cf f) (cf h) i 0 j) ∧ m = f.length - i ∧ e = [(0, .v (.ints g f)), (1, .v (.ints g' h)), (5, .ownI 2 b o), (6, .v (.int .i64 i))]) ⟨0, b_0, List.replicate n 0, Nat.zero_le _, by simp, λj => by rw [zF, zcy], rfl, rfl⟩ ?_));clear hK;rintro m e ⟨i, b, o, h1, h2, h3, hm, rfl⟩;refine W.seqK λK7 hK7 => W.rs (za _) (by rfl) λK hK => ?_;conv=>whnf
 refine hK _ (W.cond ⟨λh4 => ?_, λh4 => ?_⟩) <;> clear hK <;> (first | replace h4 := of_decide_eq_true h4 | replace h4 := of_decide_eq_false h4)
 ·refine W.skip (hK7 _ ?_);clear hK7;refine W.seqK λK8 hK8 => W.block ?_;have h4 : i < f.length := by omega
  refine W.rs (za _) (by rfl) λK hK => ?_;conv=>whnf
  refine hK _ (W.block (W.invE (λm e => ∃ (k b : Nat) (o : List Int), k <= h.length ∧ o.length = n ∧ (∀ j, cf o j = part (cf f) (cf h) i k j) ∧ m = h.length - k ∧ e = [(0, .v (.ints g f)), (1, .v (.ints g' h)), (5, .ownI 2 b o), (6, .v (.int .i64 i)), (7, .v (.int .i64 k))]) _ _ ⟨0, b, o, Nat.zero_le _, h2, h3, rfl, rfl⟩ (by dsimp only; omega) (by repeat' first | refine And.intro ?_ ?_ | exact trivial | rfl | omega | assumption) ?_));clear hK;clear h3 h2 b o;rintro m' e ⟨k, b, o, h5, h2, h3, hm', rfl⟩;refine W.seqK λK7 hK7 => W.rs (za _) (by rfl) λK hK => ?_;conv=>whnf
  refine hK _ (W.cond ⟨λh6 => ?_, λh6 => ?_⟩) <;> clear hK <;> (first | replace h6 := of_decide_eq_true h6 | replace h6 := of_decide_eq_false h6)
  ·refine W.skip (hK7 _ ?_);clear hK7;refine W.seqK λK10 hK10 => W.block ?_;have h7 := zdE (o := o) (by omega) h4 (by omega : k < h.length) h3;have h8 := hpb i k (i + k) h4;have h9 := hpb i (k + 1) (i + k) h4;rw [zaJ, if_pos rfl] at h9;have h10 := hmb i k h4;rw [<- h3] at h8 h9;have e1 : ((i : Int) + k).toNat = i + k := by omega
   refine W.draw (za _) follows (by rfl) ?_;conv=>whnf
   refine ⟨by constructor <;> omega, ?_⟩;conv=>whnf
   refine ⟨by constructor <;> omega, ?_⟩;conv=>whnf
   refine ⟨⟨by omega, by omega⟩, ?_⟩;conv=>whnf
   refine ⟨⟨by omega, by omega⟩, ?_⟩;conv=>whnf
   refine ⟨⟨by omega, by omega⟩, ?_⟩;conv=>whnf
   rw [e1, Int.toNat_natCast, Int.toNat_natCast];refine ⟨by show _ <= cf f i * cf h k ∧ cf f i * cf h k <= _; omega, ?_⟩;conv=>whnf
   refine ⟨by show _ <= cf o (i + k) + cf f i * cf h k ∧ cf o (i + k) + cf f i * cf h k <= _; omega, ?_⟩;conv=>whnf
   refine ⟨⟨by omega, by omega⟩, ?_⟩;conv=>whnf
   refine hK10 _ ?_;clear hK10 K10;refine W.region (za _) (by rfl) ?_;conv=>whnf
   refine ⟨by constructor <;> omega, ?_⟩;conv=>whnf
   exact zp ⟨k + 1, b, o.set (i + k) (cf o (i + k) + cf f i * cf h k), by omega, by simpa using h2, h7.2, rfl, rfl⟩
  ·obtain rfl : k = h.length := by omega
   refine W.exit (hK8 _ ?_);clear hK7 hK8;refine W.region (za _) (by rfl) ?_;conv=>whnf
   refine ⟨by constructor <;> omega, ?_⟩;conv=>whnf
   exact zp ⟨i + 1, b, o, by omega, h2, λj => by rw [h3 j]; exact zfx (λj hj => zV hj) i j, rfl, rfl⟩
 ·refine W.exit (hK1 _ ?_);clear hK7 hK1;obtain rfl : i = f.length := by omega
  refine W.rs (za _) (by rfl) λK hK => ?_;conv=>whnf
  refine zB rfl (xo _ _ (by omega)) λhs_1 b_1 hh_1 hf_1 => ?_;try dsimp only at hh_1 hf_1
  conv=>whnf
  refine hK _ (W.ret ?_);conv=>whnf
  exact ⟨.ownI 2 _ (zw (v8 f h)), ⟨rfl, rfl, zfA λj => by rw [h3 j]; exact zfy (λj hj => zV hj) j⟩, trivial, _, rfl⟩

open Go Go.RowKit Go.Proofs Poly

theorem zdF {a b : Int} (ha : -97 <= a ∧ a <= 97) (hb : -97 <= b ∧ b <= 97) : -9409 <= a * b ∧ a * b <= 9409 := by
 have e1 : (a * b).natAbs <= (97 * 97 : Int).natAbs := by
  rw [Int.natAbs_mul, Int.natAbs_mul];exact Nat.mul_le_mul (by omega) (by omega)
 omega
theorem zjQ {p : Int} [SP p] (F G : Poly p) (h : dg F <= 1000) : Bd 10000000 (zw (v8 F.l G.l)) := by
 refine Bd.trim λj => ?_;rw [zbu];have := zkO (A := 97) (B := 97) (by omega) (by omega) (n := dg F) (cf F.l) (cf G.l) (j4 F) (λj hj => z9 hj) (j4 G) j;have h2 : (dg F : Int) * (97 * 97) <= 1000 * (97 * 97) := Int.mul_le_mul_of_nonneg_right (by omega) (by omega);omega
theorem Bd.le {M N : Int} {l : List Int} (h : Bd M l) (hm : M <= N) : Bd N l := λj => by have := h j; omega
theorem zcL (p : Int) [SP p] (g g' : Option Nat) (F G : Poly p) (hF : dg F <= 1000) (hG : dg G <= 1000) : FnI 46 [.int .i64 p, .ints g F.l, .ints g' G.l] (F * G).l := by
 have hp := Pr.two (p := p);have hp2 := SP.le (p := p);have hFl : F.l.length = dg F := rfl;have hGl : G.l.length = dg G := rfl;have hml : (v8 F.l G.l).length <= 2000 := by rw [v8, zT]; omega
 have hml2 := xF (v8 F.l G.l);refine zm (za [0, 1, 2, 6]) Try.func46 rfl (by decide) Try.ntmps46 (Nat.le_of_ble_eq_true rfl) λbase => ?_;refine W.rs (za _) (by rfl) λK hK => ?_;conv=>whnf
 refine hK _ ?_;clear hK;refine W.rs (za _) (by rfl) λK hK => ?_;conv=>whnf
 refine zB rfl (zei _ _ _ _ 97 97 (by omega) (by omega) (j4 F) (j4 G) (by have : ((dg F : Int) + 1) * (97 * 97) <= 1001 * (97 * 97) := Int.mul_le_mul_of_nonneg_right (by omega) (by omega); rw [hFl]; omega) (by omega) (by omega)) λhs_1 b_1 hh_1 hf_1 => ?_;try dsimp only at hh_1 hf_1
 conv=>whnf
 refine zB rfl (zaQ p (by omega) (by omega) _ _ ((zjQ F G hF).le (by omega)) (by omega)) λhs_2 b_2 hh_2 hf_2 => ?_;try dsimp only at hh_2 hf_2
 conv=>whnf
 refine hK _ (W.ret ?_);conv=>whnf
 exact ⟨.ownI 2 _ ((F * G).l), ⟨rfl, rfl, zcz _ _⟩, trivial, _, rfl⟩
theorem x7 (p : Int) [SP p] (g g' : Option Nat) (F G : Poly p) (hF : dg F <= 1000) (hG : dg G <= 1000) : FnI 40 [.int .i64 p, .ints g F.l, .ints g' G.l] (F * G).l := by
 have hp := Pr.two (p := p);have hp2 := SP.le (p := p);have hFl : F.l.length = dg F := rfl;have hGl : G.l.length = dg G := rfl;have hml : (v8 F.l G.l).length <= 2000 := by rw [v8, zT]; omega
 have hml2 := xF (v8 F.l G.l);refine zm (za [0, 1, 2, 6]) Try.func40 rfl (by decide) Try.ntmps40 (Nat.le_of_ble_eq_true rfl) λbase => ?_;refine W.rs (za _) (by rfl) λK hK => ?_;conv=>whnf
 refine hK _ ?_;clear hK;refine W.rs (za _) (by rfl) λK hK => ?_;conv=>whnf
 refine zB rfl (zcK _ _ _ _ 97 97 (by omega) (by omega) (j4 F) (j4 G) (by have : ((dg F : Int) + 1) * (97 * 97) <= 1001 * (97 * 97) := Int.mul_le_mul_of_nonneg_right (by omega) (by omega); rw [hFl]; omega) (by omega) (by omega)) λhs_1 b_1 hh_1 hf_1 => ?_;try dsimp only at hh_1 hf_1
 conv=>whnf
 refine zB rfl (ji p (by omega) (by omega) _ _ ((zjQ F G hF).le (by omega)) (by omega)) λhs_2 b_2 hh_2 hf_2 => ?_;try dsimp only at hh_2 hf_2
 conv=>whnf
 refine hK _ (W.ret ?_);conv=>whnf
 exact ⟨.ownI 2 _ ((F * G).l), ⟨rfl, rfl, zcz _ _⟩, trivial, _, rfl⟩
theorem vY (p : Int) [SP p] (g g' : Option Nat) (F G : Poly p) (hF : dg F <= 1000000) (hG : dg G <= 1000000) (hG0 : G ≠ 0) : FnV 26 [.int .i64 p, .ints g F.l, .ints g' G.l] (.tup [.ints none (quo F G).l, .ints none (rem F G).l]) := by
 have hp := Pr.two (p := p);have hp2 := SP.le (p := p);have hFl : F.l.length = dg F := rfl;have hGl : G.l.length = dg G := rfl;have hm0 : dg G ≠ 0 := λe => hG0 (zc.1 e);have hlead : cf G.l (dg G - 1) % p ≠ 0 := z1 (yA (by omega));have hmx : (max (0 : Int) ((dg F : Int) - dg G + 1)) = ((dg F + 1 - dg G : Nat) : Int) := by omega
 have hiv := xn hlead;refine zm (za [0, 1, 2, 6, 7, 8, 9, 10, 11, 12, 13, 36, 54, 55, 56, 57]) Try.func26 rfl (by decide) Try.ntmps26 (Nat.le_of_ble_eq_true rfl) λbase => ?_;refine W.rs (za _) (by rfl) λK hK => ?_;conv=>whnf
 refine hK _ ?_;clear hK;refine W.rs (za _) (by rfl) λK hK => ?_;conv=>whnf
 refine zB rfl (zfL _ _ (by omega)) λhs_0 b_0 hh_0 hf_0 => ?_;try dsimp only at hh_0 hf_0
 conv=>whnf
 refine hK _ ?_;clear hK;refine W.rs (za _) (by rfl) λK hK => ?_;conv=>whnf
 rw [hFl, hGl];refine ⟨by constructor <;> omega, ?_⟩;conv=>whnf
 refine ⟨by constructor <;> omega, ?_⟩;conv=>whnf
 rw [hmx];refine ⟨rfl, ?_⟩;conv=>whnf
 refine ⟨⟨by omega, by omega⟩, ?_⟩;conv=>whnf
 generalize hnq : dg F + 1 - dg G = nq;rw [Int.toNat_natCast];intro b_q hs_q hh_q hf_q;try dsimp only at hh_q hf_q
 conv=>whnf
 refine hK _ ?_;clear hK;refine W.rs (za _) (by rfl) λK hK => ?_;conv=>whnf
 rw [hGl];refine ⟨by constructor <;> omega, ?_⟩;conv=>whnf
 refine ⟨⟨by omega, by omega⟩, ?_⟩;conv=>whnf
 have e0 : ((dg G : Int) - 1).toNat = dg G - 1 := by omega
 rw [e0];refine zl rfl (jh p _ (by have := j4 G (dg G - 1); show _ <= cf G.l (dg G - 1) ∧ cf G.l (dg G - 1) <= _; omega) hlead) λhs' hhs => ?_;try dsimp only at hhs
 conv=>whnf
 generalize hlast : yZ p (cf G.l (dg G - 1)) = last at hiv;refine hK _ ?_;clear hK;refine W.seqK λK1 hK1 => W.rs (za _) (by rfl) λK hK => ?_;conv=>whnf
 rw [List.length_replicate];refine ⟨by constructor <;> omega, ?_⟩;conv=>whnf
 refine hK _ (W.block (W.invA (λm e => ∃ (k b b' : Nat) (r q : List Int), k <= nq ∧ DivI p F G nq k r q ∧ m = k ∧ e = [(0, .v (.int .i64 p)), (2, .v (.ints g' G.l)), (8, .ownI 2 b r), (9, .ownI 2 b' q), (10, .v (.int .i64 last)), (11, .v (.int .i64 ((k : Int) - 1)))]) ⟨nq, b_0, b_q, F.l, List.replicate nq 0, Nat.le_refl _, DivI.start F G (by omega), rfl, rfl⟩ ?_));clear hK;rintro m e ⟨k', b, b', r, q, hk, hd, hm, rfl⟩;refine W.seqK λK7 hK7 => W.rs (za _) (by rfl) λK hK => ?_;conv=>whnf
 refine hK _ (W.cond ⟨λh => ?_, λh => ?_⟩) <;> clear hK <;> (first | replace h := of_decide_eq_true h | replace h := of_decide_eq_false h)
 ·refine W.skip (hK7 _ ?_);clear hK7;refine W.seqK λK8 hK8 => W.block ?_;obtain ⟨k, rfl⟩ : ∃ k, k' = k + 1 := ⟨k' - 1, by omega⟩
  have hrl := hd.rl;have hql := hd.ql;have e1 : (((k + 1 : Nat) : Int) - 1) = k := by omega
  have e2 : ((k : Int) + dg G - 1).toNat = k + dg G - 1 := by omega
  rw [e1];have h1 := hd.rr (k + dg G - 1);generalize hc : cf r (k + dg G - 1) * last % p = c;have hcr : 0 <= c ∧ c < p := by rw [<- hc]; exact ⟨Int.emod_nonneg _ (by omega), Int.emod_lt_of_pos _ (by omega)⟩
  have h2 := zdF (a := cf r (k + dg G - 1)) (b := last) (by omega) (by omega);have h3 : 0 <= cf r (k + dg G - 1) * last := Int.mul_nonneg (by omega) (by omega);have hcm : (cf r (k + dg G - 1) * last).tmod p = c := by rw [<- hc]; exact Int.tmod_eq_emod_of_nonneg h3
  refine W.rs (za _) (by rfl) λK hK => ?_;conv=>whnf
  rw [hGl];refine ⟨by constructor <;> omega, ?_⟩;conv=>whnf
  refine ⟨by constructor <;> omega, ?_⟩;conv=>whnf
  refine ⟨⟨by omega, by omega⟩, ?_⟩;conv=>whnf
  rw [e2];refine ⟨by show _ <= cf r (k + dg G - 1) * last ∧ cf r (k + dg G - 1) * last <= _; omega, ?_⟩;conv=>whnf
  refine ⟨by omega, ?_⟩;conv=>whnf
  refine ⟨⟨by omega, by omega⟩, ?_⟩;conv=>whnf
  have e3 : (r.getD (k + dg G - 1) 0 * last).tmod p = c := hcm;rw [Int.toNat_natCast, e3];refine hK _ ?_;clear hK;refine W.rs (za _) (by rfl) λK hK => ?_;conv=>whnf
  rw [hGl];refine hK _ (W.block (W.invE (λm e => ∃ (i b : Nat) (o : List Int), i <= dg G ∧ o.length = dg F ∧ (∀ j, cf o j = if k <= j ∧ j < k + i then (cf r j - c * cf G.l (j - k)) % p else cf r j) ∧ m = dg G - i ∧ e = [(0, .v (.int .i64 p)), (2, .v (.ints g' G.l)), (8, .ownI 2 b o), (9, .ownI 2 b' (q.set k c)), (10, .v (.int .i64 last)), (11, .v (.int .i64 k)), (54, .v (.ints g' G.l)), (55, .v (.int .i64 (dg G))), (56, .v (.int .i64 i))]) _ _ ⟨0, b, r, Nat.zero_le _, hrl, λj => by rw [if_neg (by omega)], rfl, rfl⟩ (by dsimp only; omega) (by repeat' first | refine And.intro ?_ ?_ | exact trivial | rfl | omega | assumption) ?_));clear hK b;rintro m' e ⟨i, b, o, h5, h6, h7, hm', rfl⟩;refine W.rs (za _) (by rfl) λK hK => ?_;conv=>whnf
  refine hK _ ?_;clear hK;refine W.seqK λK7 hK7 => W.cond ⟨λh8 => ?_, λh8 => ?_⟩ <;> (first | replace h8 := of_decide_eq_true h8 | replace h8 := of_decide_eq_false h8)
  ·refine W.skip (hK7 _ ?_);clear hK7;refine W.seqK λK9 hK9 => W.block ?_;have h8 : i < dg G := by omega
   refine W.rs (za _) (by rfl) λK hK => ?_;conv=>whnf
   refine ⟨⟨by omega, by omega⟩, ?_⟩;conv=>whnf
   rw [Int.toNat_natCast];refine hK _ ?_;clear hK;obtain ⟨h9, h10⟩ := zfB (p := p) (c := c) (g := cf G.l) (r := r) (o := o) (k := k) (i := i) h6 (by omega) h7;have h11 := hd.rr (k + i);have h12 := j4 G i;have h13 := zdF (a := c) (b := cf G.l i) (by omega) h12;have e4 : ((k : Int) + i).toNat = k + i := by omega
   have e5 : (q.set k c).getD k 0 = c := by
    have := yb (l := q) (i := k) (by omega) c k;rw [if_pos rfl] at this; exact this
   refine W.draw (za _) follows (by rfl) ?_;conv=>whnf
   refine ⟨by constructor <;> omega, ?_⟩;conv=>whnf
   refine ⟨by constructor <;> omega, ?_⟩;conv=>whnf
   refine ⟨⟨by omega, by omega⟩, ?_⟩;conv=>whnf
   rw [e4];refine ⟨⟨by omega, by simp; omega⟩, ?_⟩;conv=>whnf
   rw [Int.toNat_natCast, e5];refine ⟨by show _ <= c * cf G.l i ∧ c * cf G.l i <= _; omega, ?_⟩;conv=>whnf
   refine ⟨by show _ <= cf o (k + i) - c * cf G.l i ∧ cf o (k + i) - c * cf G.l i <= _; omega, ?_⟩;conv=>whnf
   refine ⟨_, cxF (kI _ p (by omega) (by show _ <= cf o (k + i) - c * cf G.l i ∧ cf o (k + i) - c * cf G.l i <= _; omega) (by omega)), ?_⟩;conv=>whnf
   refine ⟨⟨by omega, by omega⟩, ?_⟩;conv=>whnf
   refine hK9 _ ?_;clear hK9;refine W.region (za _) (by rfl) ?_;conv=>whnf
   refine ⟨by constructor <;> omega, ?_⟩;conv=>whnf
   exact zp ⟨i + 1, b, o.set (k + i) ((cf o (k + i) - c * cf G.l i) % p), by omega, by simpa using h6, h10, rfl, rfl⟩
  ·obtain rfl : i = dg G := by omega
   refine W.exit (hK8 _ ?_);clear hK7 hK8;refine W.region (za _) (by rfl) ?_;conv=>whnf
   refine ⟨by constructor <;> omega, ?_⟩;conv=>whnf
   exact zp ⟨k, b, b', o, q.set k c, by omega, hd.step hG0 (by omega) c (by rw [hlast]; exact hc.symm) (by omega) h7, rfl, rfl⟩
 ·refine W.exit (hK1 _ ?_);clear hK7 hK1;obtain rfl : k' = 0 := by omega
  obtain ⟨h1, h2⟩ := hd.fin hG0;have hrl := hd.rl;have hql := hd.ql;refine W.rs (za _) (by rfl) λK hK => ?_;conv=>whnf
  refine zB rfl (j2 _ _ (by omega)) λhs_1 b_1 hh_1 hf_1 => ?_;try dsimp only at hh_1 hf_1
  conv=>whnf
  refine zB rfl (j2 _ _ (by omega)) λhs_2 b_2 hh_2 hf_2 => ?_;try dsimp only at hh_2 hf_2
  conv=>whnf
  refine hK _ ?_;clear hK;rw [h1, h2];refine W.ret ?_;conv=>whnf
  exact ⟨.v (.ints none (quo F G).l), ⟨.inl rfl, rfl⟩, trivial, .v (.ints none (rem F G).l), ⟨.inl rfl, rfl⟩, trivial, rfl⟩

theorem xG (p : Int) [SP p] (g g' : Option Nat) (F G : Poly p) (hF : dg F <= 1000000) (hG : dg G <= 1000000) (hG0 : G ≠ 0) : FnV 36 [.int .i64 p, .ints g F.l, .ints g' G.l] (.tup [.ints none (quo F G).l, .ints none (rem F G).l]) := by
 have hp := Pr.two (p := p);have hp2 := SP.le (p := p);have hFl : F.l.length = dg F := rfl;have hGl : G.l.length = dg G := rfl;have hm0 : dg G ≠ 0 := λe => hG0 (zc.1 e);have hlead : cf G.l (dg G - 1) % p ≠ 0 := z1 (yA (by omega));have hmx : (max (0 : Int) ((dg F : Int) - dg G + 1)) = ((dg F + 1 - dg G : Nat) : Int) := by omega
 have hiv := xn hlead;refine zm (za [0, 1, 2, 6, 7, 8, 9, 10, 11, 12, 13, 36, 58]) Try.func36 rfl (by decide) Try.ntmps36 (Nat.le_of_ble_eq_true rfl) λbase => ?_;refine W.rs (za _) (by rfl) λK hK => ?_;conv=>whnf
 refine hK _ ?_;clear hK;refine W.rs (za _) (by rfl) λK hK => ?_;conv=>whnf
 refine zB rfl (zjO _ _ (by omega)) λhs_0 b_0 hh_0 hf_0 => ?_;try dsimp only at hh_0 hf_0
 conv=>whnf
 refine hK _ ?_;clear hK;refine W.rs (za _) (by rfl) λK hK => ?_;conv=>whnf
 rw [hFl, hGl];refine ⟨by constructor <;> omega, ?_⟩;conv=>whnf
 refine ⟨by constructor <;> omega, ?_⟩;conv=>whnf
 rw [hmx];refine ⟨rfl, ?_⟩;conv=>whnf
 refine ⟨⟨by omega, by omega⟩, ?_⟩;conv=>whnf
 generalize hnq : dg F + 1 - dg G = nq;rw [Int.toNat_natCast];intro b_q hs_q hh_q hf_q;try dsimp only at hh_q hf_q
 conv=>whnf
 refine hK _ ?_;clear hK;refine W.rs (za _) (by rfl) λK hK => ?_;conv=>whnf
 rw [hGl];refine ⟨by constructor <;> omega, ?_⟩;conv=>whnf
 refine ⟨⟨by omega, by omega⟩, ?_⟩;conv=>whnf
 have e0 : ((dg G : Int) - 1).toNat = dg G - 1 := by omega
 rw [e0];refine zl rfl (vE p _ (zab G (dg G - 1)) hlead) λhs' hhs => ?_;try dsimp only at hhs
 conv=>whnf
 generalize hlast : yZ p (cf G.l (dg G - 1)) = last at hiv;refine hK _ ?_;clear hK;refine W.seqK λK1 hK1 => W.rs (za _) (by rfl) λK hK => ?_;conv=>whnf
 rw [List.length_replicate];refine ⟨by constructor <;> omega, ?_⟩;conv=>whnf
 refine hK _ (W.block (W.invA (λm e => ∃ (k b b' : Nat) (r q : List Int), k <= nq ∧ DivI p F G nq k r q ∧ m = k ∧ e = [(0, .v (.int .i64 p)), (2, .v (.ints g' G.l)), (8, .ownI 2 b r), (9, .ownI 2 b' q), (10, .v (.int .i64 last)), (11, .v (.int .i64 ((k : Int) - 1)))]) ⟨nq, b_0, b_q, F.l, List.replicate nq 0, Nat.le_refl _, DivI.start F G (by omega), rfl, rfl⟩ ?_));clear hK;rintro m e ⟨k', b, b', r, q, hk, hd, hm, rfl⟩;refine W.seqK λK7 hK7 => W.rs (za _) (by rfl) λK hK => ?_;conv=>whnf
 refine hK _ (W.cond ⟨λh => ?_, λh => ?_⟩) <;> clear hK <;> (first | replace h := of_decide_eq_true h | replace h := of_decide_eq_false h)
 ·refine W.skip (hK7 _ ?_);clear hK7;refine W.seqK λK8 hK8 => W.block ?_;obtain ⟨k, rfl⟩ : ∃ k, k' = k + 1 := ⟨k' - 1, by omega⟩
  have hrl := hd.rl;have hql := hd.ql;have e1 : (((k + 1 : Nat) : Int) - 1) = k := by omega
  have e2 : ((k : Int) + dg G - 1).toNat = k + dg G - 1 := by omega
  rw [e1];have h1 := hd.rr (k + dg G - 1);generalize hc : cf r (k + dg G - 1) * last % p = c;have hcr : 0 <= c ∧ c < p := by rw [<- hc]; exact ⟨Int.emod_nonneg _ (by omega), Int.emod_lt_of_pos _ (by omega)⟩
  have h2 := zdF (a := cf r (k + dg G - 1)) (b := last) (by omega) (by omega);have h3 : 0 <= cf r (k + dg G - 1) * last := Int.mul_nonneg (by omega) (by omega);have hcm : (cf r (k + dg G - 1) * last).tmod p = c := by rw [<- hc]; exact Int.tmod_eq_emod_of_nonneg h3
  have e3 : (r.getD (k + dg G - 1) 0 * last).tmod p = c := hcm;refine W.rs (za _) (by rfl) λK hK => ?_;conv=>whnf
  rw [hGl];refine ⟨by constructor <;> omega, ?_⟩;conv=>whnf
  refine ⟨by constructor <;> omega, ?_⟩;conv=>whnf
  refine ⟨⟨by omega, by omega⟩, ?_⟩;conv=>whnf
  rw [e2];refine ⟨by show _ <= cf r (k + dg G - 1) * last ∧ cf r (k + dg G - 1) * last <= _; omega, ?_⟩;conv=>whnf
  refine ⟨by omega, ?_⟩;conv=>whnf
  rw [e3];refine hK _ ?_;clear hK;refine W.rs (za _) (by rfl) λK hK => ?_;conv=>whnf
  refine ⟨⟨by omega, by omega⟩, ?_⟩;conv=>whnf
  rw [Int.toNat_natCast];refine hK _ ?_;clear hK;refine W.rs (za _) (by rfl) λK hK => ?_;conv=>whnf
  refine hK _ (W.block (W.invE (λm e => ∃ (i b : Nat) (o : List Int), i <= dg G ∧ o.length = dg F ∧ (∀ j, cf o j = if k <= j ∧ j < k + i then (cf r j - c * cf G.l (j - k)) % p else cf r j) ∧ m = dg G - i ∧ e = [(0, .v (.int .i64 p)), (2, .v (.ints g' G.l)), (8, .ownI 2 b o), (9, .ownI 2 b' (q.set k c)), (10, .v (.int .i64 last)), (11, .v (.int .i64 k)), (12, .v (.int .i64 c)), (13, .v (.int .i64 i))]) _ _ ⟨0, b, r, Nat.zero_le _, hrl, λj => by rw [if_neg (by omega)], rfl, rfl⟩ (by dsimp only; omega) (by repeat' first | refine And.intro ?_ ?_ | exact trivial | rfl | omega | assumption) ?_));clear hK b;rintro m' e ⟨i, b, o, h5, h6, h7, hm', rfl⟩;refine W.seqK λK7 hK7 => W.rs (za _) (by rfl) λK hK => ?_;conv=>whnf
  refine hK _ (W.cond ⟨λh8 => ?_, λh8 => ?_⟩) <;> clear hK <;> (first | replace h8 := of_decide_eq_true h8 | replace h8 := of_decide_eq_false h8)
  ·refine W.skip (hK7 _ ?_);clear hK7;refine W.seqK λK9 hK9 => W.block ?_;have h8 : i < dg G := by omega
   obtain ⟨h9, h10⟩ := zfB (p := p) (c := c) (g := cf G.l) (r := r) (o := o) (k := k) (i := i) h6 (by omega) h7;have h11 := hd.rr (k + i);have h12 := j4 G i;have h13 := zdF (a := c) (b := cf G.l i) (by omega) h12;have e4 : ((k : Int) + i).toNat = k + i := by omega
   refine W.draw (za _) follows (by rfl) ?_;conv=>whnf
   refine ⟨by constructor <;> omega, ?_⟩;conv=>whnf
   refine ⟨by constructor <;> omega, ?_⟩;conv=>whnf
   refine ⟨⟨by omega, by omega⟩, ?_⟩;conv=>whnf
   rw [e4];refine ⟨⟨by omega, by omega⟩, ?_⟩;conv=>whnf
   rw [Int.toNat_natCast];refine ⟨by show _ <= c * cf G.l i ∧ c * cf G.l i <= _; omega, ?_⟩;conv=>whnf
   refine ⟨by show _ <= cf o (k + i) - c * cf G.l i ∧ cf o (k + i) - c * cf G.l i <= _; omega, ?_⟩;conv=>whnf
   refine ⟨_, cxF (vX _ p (by omega) (by show _ <= cf o (k + i) - c * cf G.l i ∧ cf o (k + i) - c * cf G.l i <= _; omega) (by omega)), ?_⟩;conv=>whnf
   refine ⟨⟨by omega, by omega⟩, ?_⟩;conv=>whnf
   refine hK9 _ ?_;clear hK9;refine W.region (za _) (by rfl) ?_;conv=>whnf
   refine ⟨by constructor <;> omega, ?_⟩;conv=>whnf
   exact zp ⟨i + 1, b, o.set (k + i) ((cf o (k + i) - c * cf G.l i) % p), by omega, by simpa using h6, h10, rfl, rfl⟩
  ·obtain rfl : i = dg G := by omega
   refine W.exit (hK8 _ ?_);clear hK7 hK8;refine W.region (za _) (by rfl) ?_;conv=>whnf
   refine ⟨by constructor <;> omega, ?_⟩;conv=>whnf
   exact zp ⟨k, b, b', o, q.set k c, by omega, hd.step hG0 (by omega) c (by rw [hlast]; exact hc.symm) (by omega) h7, rfl, rfl⟩
 ·refine W.exit (hK1 _ ?_);clear hK7 hK1;obtain rfl : k' = 0 := by omega
  obtain ⟨h1, h2⟩ := hd.fin hG0;have hrl := hd.rl;have hql := hd.ql;refine W.rs (za _) (by rfl) λK hK => ?_;conv=>whnf
  refine zB rfl (xo _ _ (by omega)) λhs_1 b_1 hh_1 hf_1 => ?_;try dsimp only at hh_1 hf_1
  conv=>whnf
  refine zB rfl (xo _ _ (by omega)) λhs_2 b_2 hh_2 hf_2 => ?_;try dsimp only at hh_2 hf_2
  conv=>whnf
  refine hK _ ?_;clear hK;rw [h1, h2];refine W.ret ?_;conv=>whnf
  exact ⟨.v (.ints none (quo F G).l), ⟨.inl rfl, rfl⟩, trivial, .v (.ints none (rem F G).l), ⟨.inl rfl, rfl⟩, trivial, rfl⟩


theorem xH (p : Int) [SP p] (g g' : Option Nat) (F G : Poly p) (hF : dg F <= 1000000) (hG : dg G <= 1000000) (hG0 : G ≠ 0) : FnV 89 [.int .i64 p, .ints g F.l, .ints g' G.l] (.ints none (rem F G).l) := by
 refine zm (za [0, 1, 2, 6, 8]) Try.func89 rfl (by decide) Try.ntmps89 (Nat.le_of_ble_eq_true rfl) λbase => ?_;refine W.rs (za _) (by rfl) λK hK => ?_;conv=>whnf
 refine hK _ ?_;clear hK;refine W.rs (za _) (by rfl) λK hK => ?_;conv=>whnf
 refine zl rfl (vY p g g' F G hF hG hG0) λhs' hhs => ?_;try dsimp only at hhs
 conv=>whnf
 refine hK _ ?_;clear hK;refine W.rs (za _) (by rfl) λK hK => ?_;conv=>whnf
 refine hK _ (W.ret ?_);conv=>whnf
 exact ⟨.v (.ints none (rem F G).l), ⟨rfl, rfl⟩, trivial, rfl⟩
theorem jk (p : Int) [SP p] (g g' : Option Nat) (F G : Poly p) (hF : dg F <= 1000000) (hG : dg G <= 1000000) (hG0 : G ≠ 0) : FnV 96 [.int .i64 p, .ints g F.l, .ints g' G.l] (.ints none (rem F G).l) := by
 refine zm (za [0, 1, 2, 6, 8]) Try.func96 rfl (by decide) Try.ntmps96 (Nat.le_of_ble_eq_true rfl) λbase => ?_;refine W.rs (za _) (by rfl) λK hK => ?_;conv=>whnf
 refine hK _ ?_;clear hK;refine W.rs (za _) (by rfl) λK hK => ?_;conv=>whnf
 refine zl rfl (xG p g g' F G hF hG hG0) λhs' hhs => ?_;try dsimp only at hhs
 conv=>whnf
 refine hK _ ?_;clear hK;refine W.rs (za _) (by rfl) λK hK => ?_;conv=>whnf
 refine hK _ (W.ret ?_);conv=>whnf
 exact ⟨.v (.ints none (rem F G).l), ⟨rfl, rfl⟩, trivial, rfl⟩
theorem zfN (p : Int) [SP p] (g : Option Nat) (F : Poly p) (hF : dg F <= 1000) : FnI 23 [.int .i64 p, .ints g F.l] (mnc F).l := by
 have hp := Pr.two (p := p);have hFl : F.l.length = dg F := rfl;refine zm (za [0, 1, 4, 7]) Try.func23 rfl (by decide) Try.ntmps23 (Nat.le_of_ble_eq_true rfl) λbase => ?_;refine W.rs (za _) (by rfl) λK hK => ?_;conv=>whnf
 refine hK _ ?_;clear hK;refine W.seqK λK1 hK1 => W.rs (za _) (by rfl) λK hK => ?_;conv=>whnf
 rw [hFl];refine hK _ (W.cond ⟨λh => ?_, λh => ?_⟩) <;> clear hK
 ·have h := of_decide_eq_true h;have hF0 : F = 0 := zc.1 (by omega);refine W.rs (za _) (by rfl) λK hK => ?_;conv=>whnf
  refine hK _ (W.ret ?_);conv=>whnf
  exact ⟨.ownI 2 0 [], rfl, trivial, _, by rw [hF0, zfk, zcj]⟩
 ·have h := of_decide_eq_false h;have hF0 : F ≠ 0 := λe => h (by rw [e, zu]; rfl);have e0 : ((dg F : Int) - 1).toNat = dg F - 1 := by omega
  have hlead : cf F.l (dg F - 1) % p ≠ 0 := z1 (yA (by omega));obtain ⟨h1, h2, h3⟩ := zjF hF0;refine W.skip (hK1 _ ?_);clear hK1;refine W.rs (za _) (by rfl) λK hK => ?_;conv=>whnf
  rw [hFl];refine ⟨by constructor <;> omega, ?_⟩;conv=>whnf
  refine ⟨⟨by omega, by omega⟩, ?_⟩;conv=>whnf
  rw [e0];refine zl rfl (jh p _ (by have := j4 F (dg F - 1); show _ <= cf F.l (dg F - 1) ∧ cf F.l (dg F - 1) <= _; omega) hlead) λhs' hhs => ?_;try dsimp only at hhs
  conv=>whnf
  refine ⟨⟨rfl, by decide⟩, ?_⟩;conv=>whnf
  intro b_1 hs_1 hh_1 hf_1;try dsimp only at hh_1 hf_1
  conv=>whnf
  have e1 : [yZ p (F.l.getD (dg F - 1) 0)] = (con p (yZ p (cf F.l (dg F - 1)))).l := (zjE h1 h2).symm;rw [e1];refine zB rfl (zcL p _ _ F (con p (yZ p (cf F.l (dg F - 1)))) hF (Nat.le_trans (vB _) (by omega))) λhs_2 b_2 hh_2 hf_2 => ?_;try dsimp only at hh_2 hf_2
  conv=>whnf
  refine hK _ (W.ret ?_);conv=>whnf
  exact ⟨.ownI 2 _ ((mnc F).l), ⟨rfl, rfl, by rw [h3]⟩, trivial, _, rfl⟩
theorem zba (p : Int) [SP p] (g : Option Nat) (F : Poly p) (hF : dg F <= 1000) : FnI 20 [.int .i64 p, .ints g F.l] (mnc F).l := by
 have hp := Pr.two (p := p);have hFl : F.l.length = dg F := rfl;refine zm (za [0, 1, 4, 7]) Try.func20 rfl (by decide) Try.ntmps20 (Nat.le_of_ble_eq_true rfl) λbase => ?_;refine W.rs (za _) (by rfl) λK hK => ?_;conv=>whnf
 refine hK _ ?_;clear hK;refine W.seqK λK1 hK1 => W.rs (za _) (by rfl) λK hK => ?_;conv=>whnf
 rw [hFl];refine hK _ (W.cond ⟨λh => ?_, λh => ?_⟩) <;> clear hK
 ·have h := of_decide_eq_true h;have hF0 : F = 0 := zc.1 (by omega);refine W.rs (za _) (by rfl) λK hK => ?_;conv=>whnf
  refine ⟨⟨rfl, by decide⟩, ?_⟩;conv=>whnf
  intro b_1 hs_1 hh_1 hf_1;try dsimp only at hh_1 hf_1
  conv=>whnf
  refine hK _ (W.ret ?_);conv=>whnf
  exact ⟨.ownI 2 b_1 [], ⟨rfl, rfl, rfl⟩, trivial, _, by rw [hF0, zfk, zcj]⟩
 ·have h := of_decide_eq_false h;have hF0 : F ≠ 0 := λe => h (by rw [e, zu]; rfl);have e0 : ((dg F : Int) - 1).toNat = dg F - 1 := by omega
  have hlead : cf F.l (dg F - 1) % p ≠ 0 := z1 (yA (by omega));obtain ⟨h1, h2, h3⟩ := zjF hF0;refine W.skip (hK1 _ ?_);clear hK1;refine W.rs (za _) (by rfl) λK hK => ?_;conv=>whnf
  rw [hFl];refine ⟨by constructor <;> omega, ?_⟩;conv=>whnf
  refine ⟨⟨by omega, by omega⟩, ?_⟩;conv=>whnf
  rw [e0];refine zl rfl (vE p _ (zab F (dg F - 1)) hlead) λhs' hhs => ?_;try dsimp only at hhs
  conv=>whnf
  refine ⟨⟨rfl, by decide⟩, ?_⟩;conv=>whnf
  intro b_1 hs_1 hh_1 hf_1;try dsimp only at hh_1 hf_1
  conv=>whnf
  have e1 : [yZ p (F.l.getD (dg F - 1) 0)] = (con p (yZ p (cf F.l (dg F - 1)))).l := (zjE h1 h2).symm;rw [e1];refine zB rfl (x7 p _ _ F (con p (yZ p (cf F.l (dg F - 1)))) hF (Nat.le_trans (vB _) (by omega))) λhs_2 b_2 hh_2 hf_2 => ?_;try dsimp only at hh_2 hf_2
  conv=>whnf
  refine hK _ (W.ret ?_);conv=>whnf
  exact ⟨.ownI 2 _ ((mnc F).l), ⟨rfl, rfl, by rw [h3]⟩, trivial, _, rfl⟩
theorem zdG (p : Int) [SP p] (g g' : Option Nat) (F G : Poly p) (hF : dg F <= 1000) (hG : dg G <= 1000) : FnI 27 [.int .i64 p, .ints g F.l, .ints g' G.l] (gcd F G).l := by
 refine zm (za [0, 1, 2, 6, 8, 11]) Try.func27 rfl (by decide) Try.ntmps27 (Nat.le_of_ble_eq_true rfl) λbase => ?_;refine W.rs (za _) (by rfl) λK hK => ?_;conv=>whnf
 refine hK _ ?_;clear hK;refine W.seqK λK1 hK1 => W.block (W.invA (λm e => ∃ (x y : Option Nat) (A B : Poly p), gcd A B = gcd F G ∧ dg A <= 1000 ∧ dg B <= 1000 ∧ m = dg B ∧ e = [(0, .v (.int .i64 p)), (1, .v (.ints x A.l)), (2, .v (.ints y B.l))]) ⟨g, g', F, G, rfl, hF, hG, rfl, rfl⟩ ?_);rintro m e ⟨x, y, A, B, h1, h2, h3, hm, rfl⟩;have hBl : B.l.length = dg B := rfl;refine W.seqK λK7 hK7 => W.rs (za _) (by rfl) λK hK => ?_;conv=>whnf
 rw [hBl];refine hK _ (W.cond ⟨λh => ?_, λh => ?_⟩) <;> clear hK
 ·have h := of_decide_eq_true h;have hB0 : B ≠ 0 := λe => by rw [e, zu] at h; simp at h
  have h4 := yl A hB0;refine W.skip (hK7 _ ?_);clear hK7;refine W.block ?_;refine W.rs (za _) (by rfl) λK hK => ?_;conv=>whnf
  refine zl rfl (vY p x y A B (by omega) (by omega) hB0) λhs' hhs => ?_;try dsimp only at hhs
  conv=>whnf
  refine hK _ ?_;clear hK;refine W.region (za _) (by rfl) ?_;conv=>whnf
  exact zp ⟨y, none, B, rem A B, (zgw A hB0).symm.trans h1, h3, by omega, rfl, rfl⟩
 ·have h := of_decide_eq_false h;have hB0 : B = 0 := zc.1 (by omega);subst hB0;refine W.exit (hK1 _ ?_);clear hK1 hK7;refine W.rs (za _) (by rfl) λK hK => ?_;conv=>whnf
  refine zB rfl (zfN p _ A h2) λhs_1 b_1 hh_1 hf_1 => ?_;try dsimp only at hh_1 hf_1
  conv=>whnf
  refine hK _ ?_;clear hK;rw [<- zcp, h1];refine W.ret ?_;conv=>whnf
  exact ⟨.ownI 2 _ ((gcd F G).l), ⟨rfl, rfl, rfl⟩, trivial, _, rfl⟩
theorem zai (p : Int) [SP p] (g g' : Option Nat) (F G : Poly p) (hF : dg F <= 1000) (hG : dg G <= 1000) : FnI 37 [.int .i64 p, .ints g F.l, .ints g' G.l] (gcd F G).l := by
 refine zm (za [0, 1, 2, 6, 8, 11]) Try.func37 rfl (by decide) Try.ntmps37 (Nat.le_of_ble_eq_true rfl) λbase => ?_;refine W.rs (za _) (by rfl) λK hK => ?_;conv=>whnf
 refine hK _ ?_;clear hK;refine W.seqK λK1 hK1 => W.block (W.invA (λm e => ∃ (x y : Option Nat) (A B : Poly p), gcd A B = gcd F G ∧ dg A <= 1000 ∧ dg B <= 1000 ∧ m = dg B ∧ e = [(0, .v (.int .i64 p)), (1, .v (.ints x A.l)), (2, .v (.ints y B.l))]) ⟨g, g', F, G, rfl, hF, hG, rfl, rfl⟩ ?_);rintro m e ⟨x, y, A, B, h1, h2, h3, hm, rfl⟩;have hBl : B.l.length = dg B := rfl;refine W.seqK λK7 hK7 => W.rs (za _) (by rfl) λK hK => ?_;conv=>whnf
 rw [hBl];refine hK _ (W.cond ⟨λh => ?_, λh => ?_⟩) <;> clear hK
 ·have h := of_decide_eq_true h;have hB0 : B ≠ 0 := λe => by rw [e, zu] at h; simp at h
  have h4 := yl A hB0;refine W.skip (hK7 _ ?_);clear hK7;refine W.block ?_;refine W.rs (za _) (by rfl) λK hK => ?_;conv=>whnf
  refine zl rfl (xG p x y A B (by omega) (by omega) hB0) λhs' hhs => ?_;try dsimp only at hhs
  conv=>whnf
  refine hK _ ?_;clear hK;refine W.rs (za _) (by rfl) λK hK => ?_;conv=>whnf
  refine hK _ ?_;clear hK;refine W.region (za _) (by rfl) ?_;conv=>whnf
  exact zp ⟨y, none, B, rem A B, (zgw A hB0).symm.trans h1, h3, by omega, rfl, rfl⟩
 ·have h := of_decide_eq_false h;have hB0 : B = 0 := zc.1 (by omega);subst hB0;refine W.exit (hK1 _ ?_);clear hK1 hK7;refine W.rs (za _) (by rfl) λK hK => ?_;conv=>whnf
  refine zB rfl (zba p _ A h2) λhs_1 b_1 hh_1 hf_1 => ?_;try dsimp only at hh_1 hf_1
  conv=>whnf
  refine hK _ ?_;clear hK;rw [<- zcp, h1];refine W.ret ?_;conv=>whnf
  exact ⟨.ownI 2 _ ((gcd F G).l), ⟨rfl, rfl, rfl⟩, trivial, _, rfl⟩


theorem zgL (p : Int) [SP p] (g g' : Option Nat) (a f : Poly p) (n0 : Nat) (hn : n0 <= 1000000000000) (ha : dg a <= 1000000) (hf : dg f <= 500) (hf0 : f ≠ 0) : FnV 72 [.int .i64 p, .ints g a.l, .int .i64 n0, .ints g' f.l] (.ints none (rem (a ^ n0) f).l) := by
 have hfd : dg f ≠ 0 := λe => hf0 (zc.1 e);refine zm (za [0, 1, 2, 3, 8, 9, 19, 24]) Try.func72 rfl (by decide) Try.ntmps72 (Nat.le_of_ble_eq_true rfl) λbase => ?_;refine W.rs (za _) (by rfl) λK hK => ?_;conv=>whnf
 refine hK _ ?_;clear hK;refine W.rs (za _) (by rfl) λK hK => ?_;conv=>whnf
 refine ⟨⟨rfl, by decide⟩, ?_⟩;conv=>whnf
 intro b_1 hs_1 hh_1 hf_1;try dsimp only at hh_1 hf_1
 conv=>whnf
 have e1 : [(1 : Int)] = (1 : Poly p).l := zkP.symm;rw [e1];refine zl rfl (xH p _ g' 1 f (by rw [xm]; omega) (by omega) hf0) λhs' hhs => ?_;try dsimp only at hhs
 conv=>whnf
 refine hK _ ?_;clear hK;refine W.rs (za _) (by rfl) λK hK => ?_;conv=>whnf
 refine zl rfl (xH p g g' a f ha (by omega) hf0) λhs' hhs => ?_;try dsimp only at hhs
 conv=>whnf
 refine hK _ ?_;clear hK;refine W.seqK λK1 hK1 => W.block (W.invA (λm e => ∃ (n : Nat) (B O : Poly p), n <= 1000000000000 ∧ rem (O * B ^ n) f = rem (a ^ n0) f ∧ dg B < dg f ∧ dg O < dg f ∧ m = n ∧ e = [(0, .v (.int .i64 p)), (1, .v (.ints none B.l)), (2, .v (.int .i64 n)), (3, .v (.ints g' f.l)), (9, .v (.ints none O.l))]) ⟨n0, rem a f, rem 1 f, hn, by rw [yC hf0, CR.one_mul, zed hf0], yl _ hf0, yl _ hf0, rfl, rfl⟩ ?_);rintro m e ⟨n, B, O, hn1, h1, h2, h3, hm, rfl⟩;have hmul : ∀ A B : Poly p, dg A < dg f -> dg B < dg f -> dg (A * B) <= 1000000 := λA B h h' => by have := jY A B; omega
 refine W.seqK λK7 hK7 => W.rs (za _) (by rfl) λK hK => ?_;conv=>whnf
 refine hK _ (W.cond ⟨λh => ?_, λh => ?_⟩) <;> clear hK <;> (first | replace h := of_decide_eq_true h | replace h := of_decide_eq_false h)
 ·refine W.skip (hK7 _ ?_);clear hK7;refine W.seqK λK8 hK8 => W.block ?_;refine W.seqK λK9 hK9 => ?_
  have fin : ∀ (O' : Poly p) (s : S), dg O' < dg f -> O' = (if n % 2 = 1 then rem (O * B) f else O) -> base <= s.hs ->
    zD s.env [(0, .v (.int .i64 p)), (1, .v (.ints none B.l)), (2, .v (.int .i64 n)), (3, .v (.ints g' f.l)), (9, .v (.ints none O'.l))] -> K9 s := by
   intro O' s h4 h5 h6 h7;refine hK9 _ (W.weak (t := ⟨[(0, .v (.int .i64 p)), (1, .v (.ints none B.l)), (2, .v (.int .i64 n)), (3, .v (.ints g' f.l)), (9, .v (.ints none O'.l))], base⟩) ⟨h6, h7⟩ (Nat.le_refl _) ?_);clear hK9;refine W.region (za _) (by rfl) ?_;conv=>whnf
   refine zB rfl (zcL p _ _ B B (by omega) (by omega)) λhs_2 b_2 hh_2 hf_2 => ?_;try dsimp only at hh_2 hf_2
   conv=>whnf
   refine zl rfl (xH p _ _ (B * B) f (hmul _ _ h2 h2) (by omega) hf0) λhs' hhs => ?_;try dsimp only at hhs
   conv=>whnf
   refine hK8 _ ?_;clear hK8;refine W.region (za _) (by rfl) ?_;conv=>whnf
   refine ⟨⟨by omega, rfl⟩, ?_⟩;conv=>whnf
   exact zp ⟨n / 2, rem (B * B) f, O', by omega, by rw [h5]; exact zfD hf0 h1, yl _ hf0, h4, rfl, rfl⟩
  clear hK9;refine W.rs (za _) (by rfl) λK hK => ?_;conv=>whnf
  refine ⟨⟨by omega, by omega, rfl⟩, ?_⟩;conv=>whnf
  refine hK _ (W.cond ⟨λh4 => ?_, λh4 => ?_⟩) <;> clear hK
  ·have h4 := of_decide_eq_true h4;refine W.region (za _) (by rfl) ?_;conv=>whnf
   refine zB rfl (zcL p _ _ O B (by omega) (by omega)) λhs_2 b_2 hh_2 hf_2 => ?_;try dsimp only at hh_2 hf_2
   conv=>whnf
   refine zl rfl (xH p _ _ (O * B) f (hmul _ _ h3 h2) (by omega) hf0) λhs' hhs => ?_;try dsimp only at hhs
   conv=>whnf
   refine fin (rem (O * B) f) _ (yl _ hf0) (by rw [if_pos (by omega)]) (by dsimp only; omega) ?_
   repeat' first | refine And.intro ?_ ?_ | exact trivial | rfl | omega | exact .inl rfl | exact λ_ _ => rfl | exact λ_ _ h => h | assumption | exact λi hi => (by obtain rfl : i = 0 := (by omega); rfl)
  ·have h4 := of_decide_eq_false h4;refine W.skip (fin O _ h3 (by rw [if_neg (by omega)]) (by dsimp only; omega) ?_)
   repeat' first | refine And.intro ?_ ?_ | exact trivial | rfl | omega | exact .inl rfl | exact λ_ _ => rfl | exact λ_ _ h => h | assumption | exact λi hi => (by obtain rfl : i = 0 := (by omega); rfl)
 ·refine W.exit (hK1 _ ?_);clear hK7 hK1;obtain rfl : n = 0 := by omega
  refine W.rs (za _) (by rfl) λK hK => ?_;conv=>whnf
  refine hK _ ?_;clear hK
  have e2 : O = rem (a ^ n0) f := by
   rw [<- h1, zt, CR.mul_one, zdA h3]
  rw [<- e2];refine W.ret ?_;conv=>whnf
  exact ⟨.v (.ints none O.l), ⟨rfl, rfl⟩, trivial, rfl⟩
theorem zfO (p : Int) [SP p] (g g' : Option Nat) (a f : Poly p) (n0 : Nat) (hn : n0 <= 1000000000000) (ha : dg a <= 1000000) (hf : dg f <= 500) (hf0 : f ≠ 0) : FnV 86 [.int .i64 p, .ints g a.l, .int .i64 n0, .ints g' f.l] (.ints none (rem (a ^ n0) f).l) := by
 have hfd : dg f ≠ 0 := λe => hf0 (zc.1 e);refine zm (za [0, 1, 2, 3, 8, 9, 19, 24]) Try.func86 rfl (by decide) Try.ntmps86 (Nat.le_of_ble_eq_true rfl) λbase => ?_;refine W.rs (za _) (by rfl) λK hK => ?_;conv=>whnf
 refine hK _ ?_;clear hK;refine W.rs (za _) (by rfl) λK hK => ?_;conv=>whnf
 refine ⟨⟨rfl, by decide⟩, ?_⟩;conv=>whnf
 intro b_1 hs_1 hh_1 hf_1;try dsimp only at hh_1 hf_1
 conv=>whnf
 have e1 : [(1 : Int)] = (1 : Poly p).l := zkP.symm;rw [e1];refine zl rfl (jk p _ g' 1 f (by rw [xm]; omega) (by omega) hf0) λhs' hhs => ?_;try dsimp only at hhs
 conv=>whnf
 refine hK _ ?_;clear hK;refine W.rs (za _) (by rfl) λK hK => ?_;conv=>whnf
 refine zl rfl (jk p g g' a f ha (by omega) hf0) λhs' hhs => ?_;try dsimp only at hhs
 conv=>whnf
 refine hK _ ?_;clear hK;refine W.seqK λK1 hK1 => W.block (W.invA (λm e => ∃ (n : Nat) (B O : Poly p), n <= 1000000000000 ∧ rem (O * B ^ n) f = rem (a ^ n0) f ∧ dg B < dg f ∧ dg O < dg f ∧ m = n ∧ e = [(0, .v (.int .i64 p)), (1, .v (.ints none B.l)), (2, .v (.int .i64 n)), (3, .v (.ints g' f.l)), (9, .v (.ints none O.l))]) ⟨n0, rem a f, rem 1 f, hn, by rw [yC hf0, CR.one_mul, zed hf0], yl _ hf0, yl _ hf0, rfl, rfl⟩ ?_);rintro m e ⟨n, B, O, hn1, h1, h2, h3, hm, rfl⟩;have hmul : ∀ A B : Poly p, dg A < dg f -> dg B < dg f -> dg (A * B) <= 1000000 := λA B h h' => by have := jY A B; omega
 refine W.seqK λK7 hK7 => W.rs (za _) (by rfl) λK hK => ?_;conv=>whnf
 refine hK _ (W.cond ⟨λh => ?_, λh => ?_⟩) <;> clear hK <;> (first | replace h := of_decide_eq_true h | replace h := of_decide_eq_false h)
 ·refine W.skip (hK7 _ ?_);clear hK7;refine W.seqK λK8 hK8 => W.block ?_;refine W.seqK λK9 hK9 => ?_
  have fin : ∀ (O' : Poly p) (s : S), dg O' < dg f -> O' = (if n % 2 = 1 then rem (O * B) f else O) -> base <= s.hs ->
    zD s.env [(0, .v (.int .i64 p)), (1, .v (.ints none B.l)), (2, .v (.int .i64 n)), (3, .v (.ints g' f.l)), (9, .v (.ints none O'.l))] -> K9 s := by
   intro O' s h4 h5 h6 h7;refine hK9 _ (W.weak (t := ⟨[(0, .v (.int .i64 p)), (1, .v (.ints none B.l)), (2, .v (.int .i64 n)), (3, .v (.ints g' f.l)), (9, .v (.ints none O'.l))], base⟩) ⟨h6, h7⟩ (Nat.le_refl _) ?_);clear hK9;refine W.region (za _) (by rfl) ?_;conv=>whnf
   refine zB rfl (x7 p _ _ B B (by omega) (by omega)) λhs_2 b_2 hh_2 hf_2 => ?_;try dsimp only at hh_2 hf_2
   conv=>whnf
   refine zl rfl (jk p _ _ (B * B) f (hmul _ _ h2 h2) (by omega) hf0) λhs' hhs => ?_;try dsimp only at hhs
   conv=>whnf
   refine hK8 _ ?_;clear hK8;refine W.region (za _) (by rfl) ?_;conv=>whnf
   refine ⟨by omega, ?_⟩;conv=>whnf
   rw [Int.tdiv_eq_ediv_of_nonneg (by omega)];refine ⟨by constructor <;> omega, ?_⟩;conv=>whnf
   exact zp ⟨n / 2, rem (B * B) f, O', by omega, by rw [h5]; exact zfD hf0 h1, yl _ hf0, h4, rfl, rfl⟩
  clear hK9;refine W.rs (za _) (by rfl) λK hK => ?_;conv=>whnf
  refine ⟨by omega, ?_⟩;conv=>whnf
  rw [Int.tmod_eq_emod_of_nonneg (by omega)];refine hK _ (W.cond ⟨λh4 => ?_, λh4 => ?_⟩) <;> clear hK
  ·have h4 := of_decide_eq_true h4;refine W.region (za _) (by rfl) ?_;conv=>whnf
   refine zB rfl (x7 p _ _ O B (by omega) (by omega)) λhs_2 b_2 hh_2 hf_2 => ?_;try dsimp only at hh_2 hf_2
   conv=>whnf
   refine zl rfl (jk p _ _ (O * B) f (hmul _ _ h3 h2) (by omega) hf0) λhs' hhs => ?_;try dsimp only at hhs
   conv=>whnf
   refine fin (rem (O * B) f) _ (yl _ hf0) (by rw [if_pos (by omega)]) (by dsimp only; omega) ?_
   repeat' first | refine And.intro ?_ ?_ | exact trivial | rfl | omega | exact .inl rfl | exact λ_ _ => rfl | exact λ_ _ h => h | assumption | exact λi hi => (by obtain rfl : i = 0 := (by omega); rfl)
  ·have h4 := of_decide_eq_false h4;refine W.skip (fin O _ h3 (by rw [if_neg (by omega)]) (by dsimp only; omega) ?_)
   repeat' first | refine And.intro ?_ ?_ | exact trivial | rfl | omega | exact .inl rfl | exact λ_ _ => rfl | exact λ_ _ h => h | assumption | exact λi hi => (by obtain rfl : i = 0 := (by omega); rfl)
 ·refine W.exit (hK1 _ ?_);clear hK7 hK1;obtain rfl : n = 0 := by omega
  refine W.rs (za _) (by rfl) λK hK => ?_;conv=>whnf
  refine hK _ ?_;clear hK
  have e2 : O = rem (a ^ n0) f := by
   rw [<- h1, zt, CR.mul_one, zdA h3]
  rw [<- e2];refine W.ret ?_;conv=>whnf
  exact ⟨.v (.ints none O.l), ⟨rfl, rfl⟩, trivial, rfl⟩


theorem zej (g : Option Nat) (xs : List Int) (v : Int) (hl : xs.length <= 100000000) : Fn Try.prog 99 [.ints g xs, .int .i64 v] (λ_ _ z => ∃ r : Int, z = .v (.int .i64 r) ∧ (0 <= r ↔ v ∈ xs)) := by
 refine zm (za [0, 1, 4, 5, 7, 8, 9, 16]) Try.func99 rfl (by decide) Try.ntmps99 (Nat.le_of_ble_eq_true rfl) λbase => ?_;refine W.rs (za _) (by rfl) λK hK => ?_;conv=>whnf
 refine hK _ ?_;clear hK;refine W.seqK λK1 hK1 => W.rs (za _) (by rfl) λK hK => ?_;conv=>whnf
 refine hK _ (W.block (W.invA (λm e => ∃ i : Nat, i <= xs.length ∧ (∀ j, j < i -> cf xs j ≠ v) ∧ m = xs.length - i ∧ e = [(0, .v (.ints g xs)), (1, .v (.int .i64 v)), (7, .v (.int .i64 xs.length)), (8, .v (.int .i64 i))]) ⟨0, Nat.zero_le _, λj hj => by omega, rfl, rfl⟩ ?_));clear hK;rintro m e ⟨i, h1, h2, hm, rfl⟩;refine W.rs (za _) (by rfl) λK hK => ?_;conv=>whnf
 refine hK _ ?_;clear hK;refine W.seqK λK7 hK7 => W.cond ⟨λh => ?_, λh => ?_⟩ <;> (first | replace h := of_decide_eq_true h | replace h := of_decide_eq_false h)
 ·refine W.skip (hK7 _ ?_);clear hK7;refine W.seqK λK8 hK8 => W.block ?_;refine W.rs (za _) (by rfl) λK hK => ?_;conv=>whnf
  refine hK _ ?_;clear hK;refine W.rs (za _) (by rfl) λK hK => ?_;conv=>whnf
  refine ⟨⟨by omega, by omega⟩, ?_⟩;conv=>whnf
  rw [Int.toNat_natCast];refine hK _ (W.cond ⟨λh3 => ?_, λh3 => ?_⟩) <;> clear hK
  ·have h3 := of_decide_eq_true h3;refine W.rs (za _) (by rfl) λK hK => ?_;conv=>whnf
   refine hK _ (W.ret ?_);conv=>whnf
   refine ⟨.v (.int .i64 i), ⟨rfl, rfl⟩, trivial, i, rfl, λ_ => ?_, λ_ => by omega⟩;have : v = cf xs i := h3;rw [this]; exact zjD (by omega)
  ·have h3 := of_decide_eq_false h3;refine W.skip (hK8 _ ?_);clear hK8;refine W.region (za _) (by rfl) ?_;conv=>whnf
   refine ⟨by constructor <;> omega, ?_⟩;conv=>whnf
   have h4 : ∀ j, j < i + 1 -> cf xs j ≠ v := λj hj => by
    by_cases hji : j = i
    ·subst hji; exact λh => h3 h.symm
    ·exact h2 j (by omega)
   exact zp ⟨i + 1, by omega, h4, rfl, rfl⟩
 ·refine W.exit (hK1 _ ?_);clear hK7 hK1;refine W.rs (za _) (by rfl) λK hK => ?_;conv=>whnf
  refine hK _ (W.ret ?_);conv=>whnf
  refine ⟨.v (.int .i64 (-1)), ⟨rfl, rfl⟩, trivial, -1, rfl, λh => by omega, λhv => ?_⟩;obtain ⟨j, hj, he⟩ := List.getElem_of_mem hv;exact absurd (by rw [vj hj]; exact he) (h2 j (by omega))
theorem zbm (g : Option Nat) (xs : List Int) (v : Int) (hl : xs.length <= 100000000) : FnV 90 [.ints g xs, .int .i64 v] (.bool (decide (v ∈ xs))) := by
 refine zm (za [0, 1, 4]) Try.func90 rfl (by decide) Try.ntmps90 (Nat.le_of_ble_eq_true rfl) λbase => ?_;refine W.rs (za _) (by rfl) λK hK => ?_;conv=>whnf
 refine hK _ ?_;clear hK;refine W.rs (za _) (by rfl) λK hK => ?_;conv=>whnf
 refine xc rfl (zej g xs v hl) ?_;rintro lo hi hi' z h1 h2 h3 ⟨r, rfl, hr⟩ _;conv=>whnf
 refine hK _ (W.ret ?_);conv=>whnf
 exact ⟨.v (.bool (decide (v ∈ xs))), decide_eq_decide.2 hr, trivial, rfl⟩

def yL (l : List Nat) : List Int := l.map Int.ofNat
theorem yD (l : List Nat) : (yL l).length = l.length := List.length_map ..
theorem zek (l : List Nat) (c : Nat) : yL (l ++ [c]) = yL l ++ [(c : Int)] := by simp [yL]
theorem zdH (l : List Nat) (c : Nat) : (c : Int) ∈ yL l ↔ c ∈ l := by
 simp only [yL, List.mem_map, Int.ofNat_eq_natCast]
 constructor
 ·rintro ⟨a, h, e⟩;obtain rfl : a = c := by omega
  exact h
 ·exact λh => ⟨c, h, rfl⟩
theorem zjR {l : List Nat} {i : Nat} (h : i < l.length) : cf (yL l) i = (l[i] : Nat) := by
 rw [vj (by rw [yD]; exact h)];simp [yL]

structure MatT (tb : Nat -> Option (List Int)) (bl : Nat -> Nat) (n : Nat) (R : Nat -> Nat -> Int) : Prop where
 inj : ∀ i j, i < n -> j < n -> bl i = bl j -> i = j
 row : ∀ i, i < n -> ∃ l, tb (bl i) = some l ∧ l.length = n ∧ ∀ x, x < n -> cf l x = R i x

theorem MatT.store {tb : Nat -> Option (List Int)} {bl : Nat -> Nat} {n : Nat} {R : Nat -> Nat -> Int} (h : MatT tb bl n R) {i x : Nat} (hi : i < n) (hx : x < n) {l : List Int} (hl : tb (bl i) = some l) (v : Int) :
  MatT (z2 tb (bl i) (l.set x v)) bl n (λa y => if a = i ∧ y = x then v else R a y) := by
 refine ⟨h.inj, λa ha => ?_⟩;obtain ⟨l1, h1, h2, h3⟩ := h.row a ha
 by_cases he : a = i
 ·subst he;rw [hl] at h1;cases h1
  refine ⟨l.set x v, yn _ _ _, by simpa using h2, λy hy => ?_⟩;rw [yb (by omega)]
  by_cases hyx : y = x
  ·simp [hyx]
  ·simp [hyx, h3 y hy]
 ·have hne : bl a ≠ bl i := λe => he (h.inj a i ha hi e);refine ⟨l1, by rw [yH _ _ hne]; exact h1, h2, λy hy => ?_⟩;simp [he, h3 y hy]
theorem MatT.congr {tb : Nat -> Option (List Int)} {bl : Nat -> Nat} {n : Nat} {R R' : Nat -> Nat -> Int} (h : MatT tb bl n R) (he : ∀ i x, i < n -> x < n -> R i x = R' i x) : MatT tb bl n R' :=
 ⟨h.inj, λi hi => by obtain ⟨l, h1, h2, h3⟩ := h.row i hi; exact ⟨l, h1, h2, λx hx => by rw [h3 x hx, he i x hi hx]⟩⟩
theorem MatT.swap {tb : Nat -> Option (List Int)} {bl : Nat -> Nat} {n : Nat} {R : Nat -> Nat -> Int} (h : MatT tb bl n R) {a k : Nat} (ha : a < n) (hk : k < n) :
  MatT tb (λj => if j = k then bl a else if j = a then bl k else bl j) n (λj => if j = k then R a else if j = a then R k else R j) := by
 refine ⟨λi j hi hj he => ?_, λi hi => ?_⟩
 ·have key : ∀ i, i < n -> ∃ i', i' < n ∧ (if i = k then bl a else if i = a then bl k else bl i) = bl i' ∧ (i' = if i = k then a else if i = a then k else i) := λi hi => by
   by_cases h1 : i = k
   ·exact ⟨a, ha, by rw [if_pos h1], by rw [if_pos h1]⟩
   ·by_cases h2 : i = a
    ·exact ⟨k, hk, by rw [if_neg h1, if_pos h2], by rw [if_neg h1, if_pos h2]⟩
    ·exact ⟨i, hi, by rw [if_neg h1, if_neg h2], by rw [if_neg h1, if_neg h2]⟩
  obtain ⟨i', h1, h2, h3⟩ := key i hi;obtain ⟨j', h4, h5, h6⟩ := key j hj;have he' : (if i = k then bl a else if i = a then bl k else bl i) = (if j = k then bl a else if j = a then bl k else bl j) := he;rw [h2, h5] at he';have := h.inj i' j' h1 h4 he';subst this;clear he he' h2 h5
  split at h3 <;> split at h6 <;> first | omega | (split at h3 <;> first | omega | (split at h6 <;> omega)) | (split at h6 <;> omega)
 ·show ∃ l, tb (if i = k then bl a else if i = a then bl k else bl i) = some l ∧ l.length = n ∧ ∀ x, x < n -> cf l x = (if i = k then R a else if i = a then R k else R i) x
  by_cases h1 : i = k
  ·rw [if_pos h1, if_pos h1]; exact h.row a ha
  ·rw [if_neg h1, if_neg h1]
   by_cases h2 : i = a
   ·rw [if_pos h2, if_pos h2]; exact h.row k hk
   ·rw [if_neg h2, if_neg h2]; exact h.row i hi

theorem zik {p : Int} {tb : Nat -> Option (List Int)} {bl : Nat -> Nat} {n col k : Nat} {piv : List Nat} {R R0 : Nat -> Nat -> Int} (hst : Steps p n col piv R) (hsol : ∀ c, Sol p n n R c ↔ Sol p n n R0 c) (hR : ∀ i x, i < n -> x < n -> 0 <= R i x ∧ R i x < p) (hM : MatT tb bl n R)
  (hk : k < n) (hat : piv.length <= k) (hne : R k col ≠ 0) : ∃ (bl1 : Nat -> Nat) (R1 : Nat -> Nat -> Int), (∀ j, (if j = k then bl piv.length else if j = piv.length then bl k else bl j) = bl1 j) ∧ Steps p n col piv R1 ∧ (∀ c, Sol p n n R1 c ↔ Sol p n n R0 c) ∧ (∀ i x, i < n -> x < n -> 0 <= R1 i x ∧ R1 i x < p) ∧ MatT tb bl1 n R1 ∧ R1 piv.length col ≠ 0 := by
 have ha : piv.length < n := by omega
 have e1 : (λj => if j = k then R piv.length else if j = piv.length then R k else R j) piv.length = R k := by
  show (if piv.length = k then R piv.length else if piv.length = piv.length then R k else R piv.length) = R k
  by_cases h : piv.length = k
  ·rw [if_pos h, h]
  ·rw [if_neg h, if_pos rfl]
 have e2 : (λj => if j = k then R piv.length else if j = piv.length then R k else R j) k = R piv.length := if_pos rfl
 have e3 : ∀ j, j < n -> j ≠ piv.length -> j ≠ k -> (λj => if j = k then R piv.length else if j = piv.length then R k else R j) j = R j := λj _ h1 h2 => by
  show (if j = k then R piv.length else if j = piv.length then R k else R j) = R j
  rw [if_neg h2, if_neg h1]
 refine ⟨_, _, λj => rfl, hst.swap hat hk e1 e2 e3, λc => (zjw ha hk e1 e2 e3 c).trans (hsol c), λi x hi hx => ?_, hM.swap ha hk, ?_⟩
 ·show 0 <= (if i = k then R piv.length else if i = piv.length then R k else R i) x ∧ (if i = k then R piv.length else if i = piv.length then R k else R i) x < p
  split
  ·exact hR _ x ha hx
  ·split
   ·exact hR _ x hk hx
   ·exact hR i x hi hx
 ·show (λj => if j = k then R piv.length else if j = piv.length then R k else R j) piv.length col ≠ 0
  rw [e1]; exact hne

theorem zil {p : Int} [SP p] {n col : Nat} {piv : List Nat} {R1 R0 R3 : Nat -> Nat -> Int} {sc : Int} (hst : Steps p n col piv R1) (hsol : ∀ c, Sol p n n R1 c ↔ Sol p n n R0 c) (hc : col < n) (hat : piv.length < n) (hsc : R1 piv.length col * sc % p = 1)
  (ha : ∀ x, x < n -> R3 piv.length x = R1 piv.length x * sc % p) (ho : ∀ i x, i < n -> x < n -> i ≠ piv.length -> R3 i x = (R1 i x - R1 i col * (R1 piv.length x * sc % p)) % p) :
  Steps p n (col + 1) (piv ++ [col]) R3 ∧ (∀ c, Sol p n n R3 c ↔ Sol p n n R0 c) ∧ ∀ i x, i < n -> x < n -> 0 <= R3 i x ∧ R3 i x < p := by
 have hp := Pr.two (p := p);have h1 : ∀ x, x < n -> R3 piv.length x % p = (sc * R1 piv.length x) % p := λx hx => by rw [ha x hx, zO, Int.mul_comm]
 have h2 : ∀ i, i < n -> i ≠ piv.length -> ∀ x, x < n -> R3 i x % p = (R1 i x - R1 i col * (sc * R1 piv.length x)) % p := λi hi hne x hx => by
  rw [ho i x hi hx hne, zO];refine jZ rfl (yj _ ?_);rw [zO, Int.mul_comm]
 refine ⟨hst.pivot (Int.emod_eq_of_lt (by omega) (by omega)) hc hat (by rw [Int.mul_comm]; exact hsc) h1 h2, λc => (zig (b := R1 piv.length col) (by rw [Int.mul_comm]; exact hsc) hat h1 (λi hi hne => ⟨R1 i col, h2 i hi hne⟩) c).trans (hsol c), λi x hi hx => ?_⟩;have hm : ∀ a : Int, 0 <= a % p ∧ a % p < p := λa => ⟨Int.emod_nonneg _ (by omega), Int.emod_lt_of_pos _ (by omega)⟩
 by_cases hne : i = piv.length
 ·rw [hne, ha x hx]; exact hm _
 ·rw [ho i x hi hx hne]; exact hm _

theorem zcM {p : Int} [SP p] {L : List (Poly p)} {w : Poly p} {j : Nat} (h : j < L.length) : (L ++ [w]).getD j 0 = L.getD j 0 := by
 rw [List.getD_eq_getElem?_getD, List.getElem?_append_left h, <- List.getD_eq_getElem?_getD]
theorem zcN {p : Int} [SP p] {L : List (Poly p)} {w : Poly p} : (L ++ [w]).getD (L.length + 0) 0 = w := by
 rw [List.getD_eq_getElem?_getD, List.getElem?_append_right (by omega)];simp
theorem zjS {piv : List Nat} (hn : piv.Nodup) {i : Nat} (hi : i < piv.length) (x : Nat) : (piv.take (i + 1)).idxOf? x = if x = piv[i] then some i else (piv.take i).idxOf? x := by
 have h1 : (piv.take (i + 1)).Nodup := hn.sublist (List.take_sublist _ _);have h2 : (piv.take i).Nodup := hn.sublist (List.take_sublist _ _)
 split
 ·rename_i h
  refine jf h1 ?_;rw [List.getElem?_take, if_pos (by omega), List.getElem?_eq_getElem hi, h]
 ·rename_i h
  by_cases hm : x ∈ piv.take i
  ·obtain ⟨j, hj, he⟩ := List.mem_iff_getElem.1 hm;have hj' : j < i := by simp at hj; omega
   have e1 : (piv.take i)[j]? = some x := by rw [List.getElem?_eq_getElem hj, he]
   have e2 : (piv.take (i + 1))[j]? = some x := by
    rw [List.getElem?_take, if_pos hj'] at e1;rw [List.getElem?_take, if_pos (by omega), e1]
   rw [jf h1 e2, jf h2 e1]
  ·rw [k8 hm, k8];rw [List.take_add_one, List.getElem?_eq_getElem hi, List.mem_append];rintro (h3 | h3)
   ·exact hm h3
   ·simp at h3; exact h h3

set_option maxHeartbeats 8000000 in
theorem zel (p : Int) [SP p] (n : Nat) (hn0 : 1 <= n) (hn : n <= 1000) (el b : Nat) (bl0 : Nat -> Nat) (R0 : Nat -> Nat -> Int) (tb0 : Nat -> Option (List Int)) (hM0 : MatT tb0 bl0 n R0) (hR0 : ∀ i x, i < n -> x < n -> 0 <= R0 i x ∧ R0 i x < p) :
   MFn Try.prog 73 [.int .i64 p, .nil] 1 (.ownV el 1 b n λj => .rf (bl0 j) n) (.tab tb0) (λ_ av x' t' => x' = .dead ∧ t' = .dead ∧ ∃ L : List (Poly p), Basis p n R0 L ∧ av = .v (vPs L)) := by
 have hp := Pr.two (p := p);have hp2 := SP.le (p := p);refine kv (cx := cx [0, 1, 4, 5, 6, 7, 8, 9, 10, 11, 12, 13, 14, 15, 16, 17, 18, 19, 22, 23, 24, 41, 46, 70, 71, 72, 92, 93, 94, 109, 110, 111, 112, 146, 147, 148, 152, 158, 159, 160, 161, 1000000, 1000001]) Try.func73 rfl (by decide) Try.ntmps73 (Nat.le_of_ble_eq_true rfl) (Nat.le_of_ble_eq_true rfl) rfl rfl λbase hs0 O U hw v0 hb0 => ?_;refine W.rs (za _) (by rfl) λK hK => ?_;conv=>whnf
 refine hK _ ?_;clear hK;refine W.rs (za _) (by rfl) λK hK => ?_;conv=>whnf
 refine hK _ ?_;clear hK;refine W.rs (za _) (by rfl) λK hK => ?_;conv=>whnf
 refine hK _ ?_;clear hK;refine W.seqK λK1 hK1 => W.rs (za _) (by rfl) λK hK => ?_;conv=>whnf
 refine hK _ (W.block (W.invH hs0 hb0 (λm e => ∃ (col bp : Nat) (piv : List Nat) (bl : Nat -> Nat) (tb : Nat -> Option (List Int)) (R : Nat -> Nat -> Int), col <= n ∧ Steps p n col piv R ∧ (∀ c, Sol p n n R c ↔ Sol p n n R0 c) ∧ (∀ i x, i < n -> x < n -> 0 <= R i x ∧ R i x < p) ∧ MatT tb bl n R ∧ m = n - col ∧ e = [(0, .v (.int .i64 p)), (1, .ownV el 1 b n λj => .rf (bl j) n), (5, .v (.int .i64 n)), (6, .ownI 3 bp (yL piv)), (22, .v (.int .i64 n)), (23, .v (.int .i64 col)), (vt, .tab tb), (vk, .keep O U hw 1 v0)]) _ _ (⟨0, 0, [], bl0, tb0, R0, Nat.zero_le _, Steps.start p n R0, λ_ => Iff.rfl, hR0, hM0, rfl, rfl⟩) (by dsimp only; omega) (by repeat' first | refine And.intro ?_ ?_ | exact trivial | rfl | omega | exact .inl rfl | exact λ_ _ => rfl | exact λ_ _ h => h | assumption | exact λi hi => (by obtain rfl : i = 0 := (by omega); rfl)) ?_));clear hK;rintro m e ⟨col, bp, piv, bl, tb, R, h1, hst, hsol, hR, hM, hm, rfl⟩;refine W.rs (za _) (by rfl) λK hK => ?_;conv=>whnf
 refine hK _ ?_;clear hK;refine W.seqK λK7 hK7 => W.cond ⟨λh2 => ?_, λh2 => ?_⟩ <;> (first | replace h2 := of_decide_eq_true h2 | replace h2 := of_decide_eq_false h2)
 · have h2 : col < n := by omega
   refine W.skip (hK7 _ ?_);clear hK7;refine W.seqK λK8 hK8 => W.block ?_;refine W.rs (za _) (by rfl) λK hK => ?_;conv=>whnf
   refine hK _ ?_;clear hK;refine W.rs (za _) (by rfl) λK hK => ?_;conv=>whnf
   rw [yD];refine hK _ ?_;clear hK;refine W.rs (za _) (by rfl) λK hK => ?_;conv=>whnf
   refine hK _ ?_;clear hK;have hle := hst.le;refine W.seqK λK1 hK1 => W.block (W.invH hs0 hb0 (λm e => ∃ k : Nat, piv.length <= k ∧ k <= n ∧ (∀ j, piv.length <= j -> j < k -> R j col = 0) ∧ m = n - k ∧ e = [(0, .v (.int .i64 p)), (1, .ownV el 1 b n λj => .rf (bl j) n), (5, .v (.int .i64 n)), (6, .ownI 3 bp (yL piv)), (7, .v (.int .i64 col)), (8, .v (.int .i64 piv.length)), (9, .v (.int .i64 k)), (22, .v (.int .i64 n)), (23, .v (.int .i64 col)), (vt, .tab tb), (vk, .keep O U hw 1 v0)]) _ _ (⟨piv.length, Nat.le_refl _, hle, λj h3 h4 => by omega, rfl, rfl⟩) (by dsimp only; omega) (by repeat' first | refine And.intro ?_ ?_ | exact trivial | rfl | omega | exact .inl rfl | exact λ_ _ => rfl | exact λ_ _ h => h | assumption | exact λi hi => (by obtain rfl : i = 0 := (by omega); rfl)) ?_);rintro m' e ⟨k, h3, h4, h5, hm', rfl⟩
   -- where the search ends
   have hout : (k = n ∨ (k < n ∧ R k col ≠ 0)) -> ∀ s : S, hs0 <= s.hs -> zD s.env [(0, .v (.int .i64 p)), (1, .ownV el 1 b n λj => .rf (bl j) n), (5, .v (.int .i64 n)), (6, .ownI 3 bp (yL piv)), (7, .v (.int .i64 col)), (8, .v (.int .i64 piv.length)), (9, .v (.int .i64 k)), (22, .v (.int .i64 n)), (23, .v (.int .i64 col)), (vt, .tab tb), (vk, .keep O U hw 1 v0)] -> K1 s := by
     intro hkk s hs1 hs2;refine hK1 _ (W.weak (t := ⟨[(0, .v (.int .i64 p)), (1, .ownV el 1 b n λj => .rf (bl j) n), (5, .v (.int .i64 n)), (6, .ownI 3 bp (yL piv)), (7, .v (.int .i64 col)), (8, .v (.int .i64 piv.length)), (9, .v (.int .i64 k)), (22, .v (.int .i64 n)), (23, .v (.int .i64 col)), (vt, .tab tb), (vk, .keep O U hw 1 v0)], hs0⟩) ⟨hs1, hs2⟩ hb0 ?_);clear hs1 hs2 hK1;refine W.seqK λK3 hK3 => W.rs (za _) (by rfl) λK hK => ?_;conv=>whnf
     refine hK _ (W.cond ⟨λh6 => ?_, λh6 => ?_⟩) <;> clear hK
     · have h6 : k = n := by have := of_decide_eq_true h6; omega
       refine W.exit (hK8 _ ?_);clear hK8 hK3;refine W.region (za _) (by rfl) ?_;conv=>whnf
       refine ⟨by constructor <;> omega, ?_⟩;conv=>whnf
       exact zp ⟨col + 1, bp, piv, bl, tb, R, by omega, hst.skip (λj h7 h8 => by rw [h5 j h7 (by omega)]; simp), hsol, hR, hM, rfl, rfl⟩
     · have h6 : k < n ∧ R k col ≠ 0 := by have := of_decide_eq_false h6; rcases hkk with h | h; omega; exact h
       obtain ⟨hkn, hne⟩ := h6;have hat : piv.length < n := by omega
       obtain ⟨bl1, R1, hb1, hst1, hsol1, hR1, hM1, hne1⟩ := zik hst hsol hR hM hkn h3 hne;clear hst hsol hR h5;refine W.skip (hK3 _ ?_);clear hK3;refine W.rd (za _) follows (by rfl) λK hK => ?_;conv=>whnf
       refine ⟨⟨by omega, by omega⟩, ?_⟩;conv=>whnf
       refine ⟨⟨by omega, by omega⟩, ?_⟩;conv=>whnf
       refine ⟨⟨by omega, by omega⟩, ?_⟩;conv=>whnf
       rw [Int.toNat_natCast, Int.toNat_natCast];refine ⟨⟨by show 0 + 1 <= 1; omega, rfl⟩, λj => .rf (if j = piv.length then bl k else bl j) n, by show V.rf (if piv.length = piv.length then bl k else bl piv.length) n = _; rw [if_pos rfl]; rfl, λj _ hj => by show V.rf (if j = piv.length then bl k else bl j) n = _; rw [if_neg hj], ?_⟩;conv=>whnf
       refine ⟨⟨by omega, by omega⟩, ?_⟩;conv=>whnf
       rw [Int.toNat_natCast];refine ⟨⟨by show 0 + 1 <= 1; omega, rfl⟩, λj => .rf (if j = k then bl piv.length else if j = piv.length then bl k else bl j) n, by show V.rf (if k = k then bl piv.length else if k = piv.length then bl k else bl k) n = _; rw [if_pos rfl]; rfl, λj _ hj => by show V.rf (if j = k then bl piv.length else if j = piv.length then bl k else bl j) n = V.rf (if j = piv.length then bl k else bl j) n; rw [if_neg hj], ?_⟩;conv=>whnf
       refine hK _ (W.weak (t := ⟨[(0, .v (.int .i64 p)), (1, .ownV el 1 b n λj => .rf (bl1 j) n), (5, .v (.int .i64 n)), (6, .ownI 3 bp (yL piv)), (7, .v (.int .i64 col)), (8, .v (.int .i64 piv.length)), (22, .v (.int .i64 n)), (23, .v (.int .i64 col)), (vt, .tab tb), (vk, .keep O U hw 1 v0)], hs0⟩) ⟨by dsimp only; omega, ?_⟩ hb0 ?_)
       · repeat' first | refine And.intro ?_ ?_ | exact trivial | rfl | omega | assumption | exact λi _ => congrArg (λz => V.rf z n) (hb1 i) | exact λ_ _ h => h
       clear hK;obtain ⟨la, hla1, hla2, hla3⟩ := hM1.row piv.length hat;have e1 : la.getD col 0 = R1 piv.length col := hla3 col h2;have hrc := hR1 piv.length col hat h2;have hmod : R1 piv.length col % p ≠ 0 := by rw [Int.emod_eq_of_lt hrc.1 hrc.2]; exact hne1
       obtain ⟨hi1, hi2, hi3⟩ := xn hmod;generalize hsc : yZ p (R1 piv.length col) = sc at hi1 hi2 hi3;refine W.rs (za _) (by rfl) λK hK => ?_;conv=>whnf
       refine ⟨⟨by omega, by omega⟩, ?_⟩;conv=>whnf
       rw [Int.toNat_natCast];refine ⟨⟨by omega, by omega⟩, ?_⟩;conv=>whnf
       rw [Int.toNat_natCast];refine ⟨la, hla1, by omega, ?_⟩;conv=>whnf
       rw [e1];refine zl rfl (jh p _ (by omega) hmod) λhs' hhs => ?_;try dsimp only at hhs
       conv=>whnf
       rw [hsc];refine hK _ ?_;clear hK;clear hla1 hla2 hla3 e1 la
       -- the pivot's row is scaled
       refine W.seqK λK4 hK4 => W.rs (za _) (by rfl) λK hK => ?_;conv=>whnf
       refine hK _ (W.block (W.invH hs0 hb0 (λm e => ∃ (j : Nat) (tb : Nat -> Option (List Int)), j <= n ∧ MatT tb bl1 n (λi x => if i = piv.length ∧ x < j then R1 i x * sc % p else R1 i x) ∧ m = n - j ∧ e = [(0, .v (.int .i64 p)), (1, .ownV el 1 b n λj => .rf (bl1 j) n), (5, .v (.int .i64 n)), (6, .ownI 3 bp (yL piv)), (7, .v (.int .i64 col)), (8, .v (.int .i64 piv.length)), (10, .v (.int .i64 sc)), (22, .v (.int .i64 n)), (23, .v (.int .i64 col)), (vt, .tab tb), (vk, .keep O U hw 1 v0), (70, .v (.int .i64 n)), (71, .v (.int .i64 j))]) _ _ (⟨0, tb, Nat.zero_le _, hM1.congr λi x _ _ => by rw [if_neg (by omega)], rfl, rfl⟩) (by dsimp only; omega) (by repeat' first | refine And.intro ?_ ?_ | exact trivial | rfl | omega | exact .inl rfl | exact λ_ _ => rfl | exact λ_ _ h => h | assumption | exact λi hi => (by obtain rfl : i = 0 := (by omega); rfl)) ?_));clear hK;clear hM1 hM tb;rintro m2 e ⟨j, tb, hj, hMj, hm2, rfl⟩;refine W.rs (za _) (by rfl) λK hK => ?_;conv=>whnf
       refine hK _ ?_;clear hK;refine W.seqK λK7 hK7 => W.cond ⟨λh6 => ?_, λh6 => ?_⟩ <;> (first | replace h6 := of_decide_eq_true h6 | replace h6 := of_decide_eq_false h6)
       · have h6 : j < n := by omega
         obtain ⟨la, hla1, hla2, hla3⟩ := hMj.row piv.length hat
         have e1 : la.getD j 0 = R1 piv.length j := by
           have := hla3 j h6;rw [if_neg (by omega)] at this; exact this
         have hrj := hR1 piv.length j hat h6;have h7 := zdF (a := R1 piv.length j) (b := sc) (by omega) (by omega);have h8 : 0 <= R1 piv.length j * sc := Int.mul_nonneg hrj.1 hi1;refine W.skip (hK7 _ ?_);clear hK7;refine W.seqK λK5 hK5 => W.block ?_;refine W.rs (za _) (by rfl) λK hK => ?_;conv=>whnf
         refine hK _ ?_;clear hK;refine W.draw (za _) follows (by rfl) ?_;conv=>whnf
         refine ⟨⟨by omega, by omega⟩, ?_⟩;conv=>whnf
         refine ⟨⟨by omega, by omega⟩, ?_⟩;conv=>whnf
         rw [Int.toNat_natCast];refine ⟨⟨by omega, by omega⟩, ?_⟩;conv=>whnf
         rw [Int.toNat_natCast];refine ⟨la, hla1, by omega, ?_⟩;conv=>whnf
         rw [e1];refine ⟨by constructor <;> omega, ?_⟩;conv=>whnf
         refine ⟨by omega, ?_⟩;conv=>whnf
         rw [Int.tmod_eq_emod_of_nonneg h8];refine ⟨⟨by omega, by omega⟩, ?_⟩;conv=>whnf
         refine ⟨la, hla1, by omega, ?_⟩;conv=>whnf
         refine hK5 _ ?_;clear hK5;refine W.region (za _) (by rfl) ?_;conv=>whnf
         refine ⟨by constructor <;> omega, ?_⟩;conv=>whnf
         have h9 := (hMj.store hat h6 hla1 (R1 piv.length j * sc % p)).congr (R' := λi x => if i = piv.length ∧ x < j + 1 then R1 i x * sc % p else R1 i x) λi x hi hx => by
           show (if i = piv.length ∧ x = j then R1 piv.length j * sc % p else if i = piv.length ∧ x < j then R1 i x * sc % p else R1 i x) = if i = piv.length ∧ x < j + 1 then R1 i x * sc % p else R1 i x
           by_cases c1 : i = piv.length
           · subst c1
             by_cases c2 : x = j
             · subst c2; rw [if_pos ⟨rfl, rfl⟩, if_pos ⟨rfl, by omega⟩]
             · rw [if_neg (by omega)]
               by_cases c3 : x < j
               · rw [if_pos ⟨rfl, c3⟩, if_pos ⟨rfl, by omega⟩]
               · rw [if_neg (by omega), if_neg (by omega)]
           · rw [if_neg (by omega), if_neg (by omega), if_neg (by omega)]
         exact zp ⟨j + 1, _, by omega, h9, rfl, rfl⟩
       · obtain rfl : n = j := by omega
         refine W.exit (hK4 _ ?_);clear hK7 hK4;have hmm : ∀ a : Int, 0 <= a % p ∧ a % p < p := λa => ⟨Int.emod_nonneg _ (by omega), Int.emod_lt_of_pos _ (by omega)⟩
         obtain ⟨R2, hM2, hR2a, hR2o, hR2⟩ : ∃ R2 : Nat -> Nat -> Int, MatT tb bl1 n R2 ∧ (∀ x, x < n -> R2 piv.length x = R1 piv.length x * sc % p) ∧ (∀ i x, i ≠ piv.length -> R2 i x = R1 i x) ∧ ∀ i x, i < n -> x < n -> 0 <= R2 i x ∧ R2 i x < p :=
           ⟨_, hMj, λx hx => if_pos ⟨rfl, hx⟩, λi x hi => if_neg (by omega), λi x hi hx => by
             show 0 <= (if i = piv.length ∧ x < n then R1 i x * sc % p else R1 i x) ∧ (if i = piv.length ∧ x < n then R1 i x * sc % p else R1 i x) < p
             split
             · exact hmm _
             · exact hR1 i x hi hx⟩
         clear hMj hj;refine W.seqK λK5 hK5 => W.rs (za _) (by rfl) λK hK => ?_;conv=>whnf
         refine hK _ (W.block (W.invH hs0 hb0 (λm e => ∃ (i : Nat) (tb : Nat -> Option (List Int)), i <= n ∧ MatT tb bl1 n (λa x => if a < i ∧ a ≠ piv.length then (R2 a x - R2 a col * R2 piv.length x) % p else R2 a x) ∧ m = n - i ∧ e = [(0, .v (.int .i64 p)), (1, .ownV el 1 b n λj => .rf (bl1 j) n), (5, .v (.int .i64 n)), (6, .ownI 3 bp (yL piv)), (7, .v (.int .i64 col)), (8, .v (.int .i64 piv.length)), (22, .v (.int .i64 n)), (23, .v (.int .i64 col)), (vt, .tab tb), (vk, .keep O U hw 1 v0), (92, .v (.int .i64 n)), (93, .v (.int .i64 i))]) _ _ (⟨0, tb, Nat.zero_le _, hM2.congr λi x _ _ => by rw [if_neg (by omega)], rfl, rfl⟩) (by dsimp only; omega) (by repeat' first | refine And.intro ?_ ?_ | exact trivial | rfl | omega | exact .inl rfl | exact λ_ _ => rfl | exact λ_ _ h => h | assumption | exact λi hi => (by obtain rfl : i = 0 := (by omega); rfl)) ?_));clear hK;clear hM2 tb hm2;rintro m2 e ⟨i, tb, hi, hMi, hm2, rfl⟩;refine W.rs (za _) (by rfl) λK hK => ?_;conv=>whnf
         refine hK _ ?_;clear hK;refine W.seqK λK7 hK7 => W.cond ⟨λh6 => ?_, λh6 => ?_⟩ <;> (first | replace h6 := of_decide_eq_true h6 | replace h6 := of_decide_eq_false h6)
         · have h6 : i < n := by omega
           have hfi := hR2 i col h6 h2;generalize hfac : R2 i col = fac at hfi;refine W.skip (hK7 _ ?_);clear hK7;refine W.seqK λK6 hK6 => W.block ?_
           -- the end of the row
           have fin : ∀ (tb : Nat -> Option (List Int)) (s : S), MatT tb bl1 n (λa x => if a < i + 1 ∧ a ≠ piv.length then (R2 a x - R2 a col * R2 piv.length x) % p else R2 a x) -> hs0 <= s.hs ->
               zD s.env [(0, .v (.int .i64 p)), (1, .ownV el 1 b n λj => .rf (bl1 j) n), (5, .v (.int .i64 n)), (6, .ownI 3 bp (yL piv)), (7, .v (.int .i64 col)), (8, .v (.int .i64 piv.length)), (22, .v (.int .i64 n)), (23, .v (.int .i64 col)), (vt, .tab tb), (vk, .keep O U hw 1 v0), (92, .v (.int .i64 n)), (93, .v (.int .i64 i))] -> K6 s := by
             intro tb s h7 h8 h9;refine hK6 _ (W.weak (t := ⟨[(0, .v (.int .i64 p)), (1, .ownV el 1 b n λj => .rf (bl1 j) n), (5, .v (.int .i64 n)), (6, .ownI 3 bp (yL piv)), (7, .v (.int .i64 col)), (8, .v (.int .i64 piv.length)), (22, .v (.int .i64 n)), (23, .v (.int .i64 col)), (vt, .tab tb), (vk, .keep O U hw 1 v0), (92, .v (.int .i64 n)), (93, .v (.int .i64 i))], hs0⟩) ⟨h8, h9⟩ hb0 ?_);refine W.region (za _) (by rfl) ?_;conv=>whnf
             refine ⟨by constructor <;> omega, ?_⟩;conv=>whnf
             exact zp ⟨i + 1, tb, by omega, h7, rfl, rfl⟩
           clear hK6;obtain ⟨la, hla1, hla2, hla3⟩ := hMi.row i h6
           have e1 : la.getD col 0 = fac := by
             have := hla3 col h2;rw [if_neg (by omega), hfac] at this; exact this
           refine W.rs (za _) (by rfl) λK hK => ?_;conv=>whnf
           refine hK _ ?_;clear hK;refine W.rs (za _) (by rfl) λK hK => ?_;conv=>whnf
           refine ⟨⟨by omega, by omega⟩, ?_⟩;conv=>whnf
           rw [Int.toNat_natCast];refine ⟨⟨by omega, by omega⟩, ?_⟩;conv=>whnf
           rw [Int.toNat_natCast];refine ⟨la, hla1, by omega, ?_⟩;conv=>whnf
           rw [e1];refine hK _ ?_;clear hK;clear hla1 hla2 hla3 e1 la;refine W.rs (za _) (by rfl) λK hK => ?_;conv=>whnf
           refine ⟨λh7 => ?_, λh7 => ?_⟩ <;> conv=>whnf
           · have h7 : i ≠ piv.length := by have := of_decide_eq_true h7; omega
             refine hK _ (W.cond ⟨λh8 => ?_, λh8 => ?_⟩) <;> clear hK
             · clear h8
               refine W.rs (za _) (by rfl) λK hK => ?_;conv=>whnf
               refine hK _ (W.block (W.invH hs0 hb0 (λm e => ∃ (j : Nat) (tb : Nat -> Option (List Int)), j <= n ∧ MatT tb bl1 n (λa x => if a = i ∧ x < j then (R2 i x - fac * R2 piv.length x) % p else if a < i ∧ a ≠ piv.length then (R2 a x - R2 a col * R2 piv.length x) % p else R2 a x) ∧ m = n - j ∧ e = [(0, .v (.int .i64 p)), (1, .ownV el 1 b n λj => .rf (bl1 j) n), (5, .v (.int .i64 n)), (6, .ownI 3 bp (yL piv)), (7, .v (.int .i64 col)), (8, .v (.int .i64 piv.length)), (12, .v (.int .i64 i)), (13, .v (.int .i64 fac)), (22, .v (.int .i64 n)), (23, .v (.int .i64 col)), (vt, .tab tb), (vk, .keep O U hw 1 v0), (92, .v (.int .i64 n)), (93, .v (.int .i64 i)), (110, .v (.int .i64 n)), (111, .v (.int .i64 j))]) _ _ ⟨0, tb, Nat.zero_le _, hMi.congr λa x _ _ => by rw [if_neg (by omega : ¬ (a = i ∧ x < 0))], rfl, rfl⟩ (by dsimp only; omega) (by repeat' first | refine And.intro ?_ ?_ | exact trivial | rfl | omega | assumption | exact λ_ _ => rfl | exact λ_ _ h => h) ?_));clear hK hMi tb;rintro m3 e ⟨j', tb, hj', hMj, hm3, rfl⟩;refine W.rs (za _) (by rfl) λK hK => ?_;conv=>whnf
               refine hK _ ?_;clear hK;refine W.seqK λK7 hK7 => W.cond ⟨λh8 => ?_, λh8 => ?_⟩ <;> (first | replace h8 := of_decide_eq_true h8 | replace h8 := of_decide_eq_false h8)
               · have h8 : j' < n := by omega
                 obtain ⟨la, hla1, hla2, hla3⟩ := hMj.row i h6;obtain ⟨lb, hlb1, hlb2, hlb3⟩ := hMj.row piv.length (by omega)
                 have e1 : la.getD j' 0 = R2 i j' := by
                   have := hla3 j' h8;rw [if_neg (by omega), if_neg (by omega)] at this; exact this
                 have e2 : lb.getD j' 0 = R2 piv.length j' := by
                   have := hlb3 j' h8;rw [if_neg (by omega), if_neg (by omega)] at this; exact this
                 have hr1 := hR2 i j' h6 h8;have hr2 := hR2 piv.length j' (by omega) h8;have h9 := zdF (a := fac) (b := R2 piv.length j') (by omega) (by omega);refine W.skip (hK7 _ ?_);clear hK7;refine W.seqK λK7 hK7 => W.block ?_;refine W.rs (za _) (by rfl) λK hK => ?_;conv=>whnf
                 refine hK _ ?_;clear hK;refine W.draw (za _) follows (by rfl) ?_;conv=>whnf
                 refine ⟨⟨by omega, by omega⟩, ?_⟩;conv=>whnf
                 refine ⟨⟨by omega, by omega⟩, ?_⟩;conv=>whnf
                 rw [Int.toNat_natCast];refine ⟨⟨by omega, by omega⟩, ?_⟩;conv=>whnf
                 rw [Int.toNat_natCast];refine ⟨la, hla1, by omega, ?_⟩;conv=>whnf
                 rw [e1];refine ⟨⟨by omega, by omega⟩, ?_⟩;conv=>whnf
                 rw [Int.toNat_natCast];refine ⟨⟨by omega, by omega⟩, ?_⟩;conv=>whnf
                 rw [Int.toNat_natCast];refine ⟨lb, hlb1, by omega, ?_⟩;conv=>whnf
                 rw [e2];refine ⟨by constructor <;> omega, ?_⟩;conv=>whnf
                 refine ⟨by constructor <;> omega, ?_⟩;conv=>whnf
                 refine ⟨_, cxF (kI _ p (by omega) (by omega) (by omega)), ?_⟩;conv=>whnf
                 refine ⟨⟨by omega, by omega⟩, ?_⟩;conv=>whnf
                 refine ⟨la, hla1, by omega, ?_⟩;conv=>whnf
                 refine hK7 _ ?_;clear hK7;refine W.region (za _) (by rfl) ?_;conv=>whnf
                 refine ⟨by constructor <;> omega, ?_⟩;conv=>whnf
                 have h10 := (hMj.store h6 h8 hla1 ((R2 i j' - fac * R2 piv.length j') % p)).congr (R' := λa x => if a = i ∧ x < j' + 1 then (R2 i x - fac * R2 piv.length x) % p else if a < i ∧ a ≠ piv.length then (R2 a x - R2 a col * R2 piv.length x) % p else R2 a x) λa x ha hx => by
                   show (if a = i ∧ x = j' then (R2 i j' - fac * R2 piv.length j') % p else if a = i ∧ x < j' then _ else _) = _
                   by_cases c1 : a = i
                   · subst c1
                     by_cases c2 : x = j'
                     · subst c2; rw [if_pos ⟨rfl, rfl⟩, if_pos ⟨rfl, by omega⟩]
                     · rw [if_neg (by omega)]
                       by_cases c3 : x < j'
                       · rw [if_pos ⟨rfl, c3⟩, if_pos ⟨rfl, by omega⟩]
                       · rw [if_neg (by omega : ¬ (a = a ∧ x < j')), if_neg (by omega : ¬ (a = a ∧ x < j' + 1))]
                   · rw [if_neg (by omega), if_neg (by omega), if_neg (by omega : ¬ (a = i ∧ x < j' + 1))]
                 exact zp ⟨j' + 1, _, by omega, h10, rfl, rfl⟩
               · obtain rfl : n = j' := by omega
                 refine W.exit (fin tb _ (hMj.congr λa x ha hx => ?_) (by dsimp only; omega) ?_)
                 · by_cases c1 : a = i
                   · subst c1; rw [if_pos ⟨rfl, hx⟩, if_pos ⟨by omega, h7⟩, hfac]
                   · rw [if_neg (by omega)]
                     by_cases c2 : a < i ∧ a ≠ piv.length
                     · rw [if_pos c2, if_pos (by omega)]
                     · rw [if_neg c2, if_neg (by omega)]
                 · repeat' first | refine And.intro ?_ ?_ | exact trivial | rfl | omega | exact .inl rfl | exact λ_ _ => rfl | exact λ_ _ h => h | assumption | exact λi hi => (by obtain rfl : i = 0 := (by omega); rfl)
             · have h8 := of_decide_eq_false h8
               have hf0 : fac = 0 := Classical.byContradiction h8;refine W.skip (fin tb _ (hMi.congr λa x ha hx => ?_) (by dsimp only; omega) ?_)
               · by_cases c1 : a = i
                 · subst c1
                   rw [if_neg (by omega), if_pos ⟨by omega, h7⟩, hfac, hf0, Int.zero_mul, Int.sub_zero];have := hR2 a x h6 hx;rw [Int.emod_eq_of_lt this.1 this.2]
                 · by_cases c2 : a < i ∧ a ≠ piv.length
                   · rw [if_pos c2, if_pos (by omega)]
                   · rw [if_neg c2, if_neg (by omega)]
               · repeat' first | refine And.intro ?_ ?_ | exact trivial | rfl | omega | exact .inl rfl | exact λ_ _ => rfl | exact λ_ _ h => h | assumption | exact λi hi => (by obtain rfl : i = 0 := (by omega); rfl)
           · have h7 : i = piv.length := by have := of_decide_eq_false h7; omega
             refine hK _ (W.condF rfl ?_);refine W.skip (fin tb _ (hMi.congr λa x ha hx => ?_) (by dsimp only; omega) ?_)
             · by_cases c2 : a < i ∧ a ≠ piv.length
               · rw [if_pos c2, if_pos (by omega)]
               · rw [if_neg c2, if_neg (by omega)]
             · repeat' first | refine And.intro ?_ ?_ | exact trivial | rfl | omega | exact .inl rfl | exact λ_ _ => rfl | exact λ_ _ h => h | assumption | exact λi hi => (by obtain rfl : i = 0 := (by omega); rfl)
         · obtain rfl : n = i := by omega
           refine W.exit (hK5 _ ?_);clear hK7 hK5
           obtain ⟨h3', h4', h5'⟩ := zil (R3 := λa x => if a < n ∧ a ≠ piv.length then (R2 a x - R2 a col * R2 piv.length x) % p else R2 a x) hst1 hsol1 h2 hat hi3
             (λx hx => by rw [if_neg (by omega)]; exact hR2a x hx) (λi x hi hx hne => by rw [if_pos ⟨hi, hne⟩, hR2o i x hne, hR2o i col hne, hR2a x hx])
           refine W.region (za _) (by rfl) ?_;conv=>whnf
           refine ⟨⟨rfl, by decide⟩, ?_⟩;conv=>whnf
           intro b_1 hs_1 hh_1 hf_1;try dsimp only at hh_1 hf_1
           conv=>whnf
           refine ⟨by rw [yD]; simp; omega, ?_⟩;conv=>whnf
           intro b_2 hs_2 hh_2 hf_2;try dsimp only at hh_2 hf_2
           conv=>whnf
           refine hK8 _ ?_;clear hK8;refine W.region (za _) (by rfl) ?_;conv=>whnf
           refine ⟨by constructor <;> omega, ?_⟩;conv=>whnf
           refine ⟨_, _, ⟨col + 1, b_2, piv ++ [col], bl1, tb, _, by omega, h3', h4', h5', hMi, rfl, rfl⟩, by omega, by dsimp only; omega, ?_⟩
           repeat' first | refine And.intro ?_ ?_ | exact trivial | rfl | omega | exact .inl rfl | exact λ_ _ => rfl | exact λ_ _ h => h | assumption | exact λi hi => (by obtain rfl : i = 0 := (by omega); rfl)
           exact (zek _ _).symm
   clear hK1;refine W.seqK λK7 hK7 => W.rs (za _) (by rfl) λK hK => ?_;conv=>whnf
   refine ⟨λh6 => ?_, λh6 => ?_⟩ <;> conv=>whnf
   · have h6 : k < n := by have := of_decide_eq_true h6; omega
     obtain ⟨l, hl1, hl2, hl3⟩ := hM.row k h6;refine ⟨⟨by omega, by omega⟩, ?_⟩;conv=>whnf
     rw [Int.toNat_natCast];refine ⟨⟨by omega, by omega⟩, ?_⟩;conv=>whnf
     rw [Int.toNat_natCast];refine ⟨l, hl1, by omega, ?_⟩;conv=>whnf
     have e1 : l.getD col 0 = R k col := hl3 col h2;rw [e1];refine hK _ (W.cond ⟨λh7 => ?_, λh7 => ?_⟩) <;> clear hK
     · have h7 := of_decide_eq_true h7
       refine W.skip (hK7 _ ?_);clear hK7;refine W.block ?_;refine W.region (za _) (by rfl) ?_;conv=>whnf
       refine ⟨by constructor <;> omega, ?_⟩;conv=>whnf
       have h8 : ∀ j, piv.length <= j -> j < k + 1 -> R j col = 0 := λj h9 h10 => by
         by_cases hj : j = k
         · rw [hj]; exact h7
         · exact h5 j h9 (by omega)
       exact zp ⟨k + 1, by omega, by omega, h8, rfl, rfl⟩
     · have h7 := of_decide_eq_false h7
       refine W.exit (hout (.inr ⟨h6, h7⟩) _ (by dsimp only; omega) ?_)
       repeat' first | refine And.intro ?_ ?_ | exact trivial | rfl | omega | exact .inl rfl | exact λ_ _ => rfl | exact λ_ _ h => h | assumption | exact λi hi => (by obtain rfl : i = 0 := (by omega); rfl)
   · have h6 : ¬ k < n := by have := of_decide_eq_false h6; omega
     refine hK _ (W.condF rfl ?_);refine W.exit (hout (.inl (by omega)) _ (by dsimp only; omega) ?_)
     repeat' first | refine And.intro ?_ ?_ | exact trivial | rfl | omega | exact .inl rfl | exact λ_ _ => rfl | exact λ_ _ h => h | assumption | exact λi hi => (by obtain rfl : i = 0 := (by omega); rfl)
 · refine W.exit (hK1 _ ?_)
   clear hK7 hK1;obtain rfl : n = col := by omega
   have hB := Poly.Steps.basis hst hsol;have hlt := hst.lt;have hle := hst.le;have hnd := hst.nodup;refine W.rs (za _) (by rfl) λK hK => ?_;conv=>whnf
   refine hK _ ?_;clear hK;refine W.seqK λK1 hK1 => W.rs (za _) (by rfl) λK hK => ?_;conv=>whnf
   refine hK _ (W.block (W.invH hs0 hb0 (λm e => ∃ (c b15 : Nat), c <= n ∧ m = n - c ∧ e = [(0, .v (.int .i64 p)), (1, .ownV el 1 b n λj => .rf (bl j) n), (5, .v (.int .i64 n)), (6, .ownI 3 bp (yL piv)), (15, .ownV 22 1 b15 (xd p n piv R c).length λj => .ints none ((xd p n piv R c).getD j 0).l), (146, .v (.int .i64 n)), (147, .v (.int .i64 c)), (vt, .tab tb), (vk, .keep O U hw 1 v0)]) _ _ (⟨0, 0, Nat.zero_le _, rfl, rfl⟩) (by dsimp only; omega) (by repeat' first | refine And.intro ?_ ?_ | exact trivial | rfl | omega | exact .inl rfl | exact λ_ _ => rfl | exact λ_ _ h => h | assumption | exact λi hi => (by obtain rfl : i = 0 := (by omega); rfl)) ?_));clear hK;rintro m2 e ⟨c, b15, hc, hm2, rfl⟩
   have hLl : (xd p n piv R c).length <= c := by
     unfold xd;rw [List.length_map];exact Nat.le_trans (List.length_filter_le _ _) (by simp)
   refine W.rs (za _) (by rfl) λK hK => ?_;conv=>whnf
   refine hK _ ?_;clear hK;refine W.seqK λK7 hK7 => W.cond ⟨λh2 => ?_, λh2 => ?_⟩ <;> (first | replace h2 := of_decide_eq_true h2 | replace h2 := of_decide_eq_false h2)
   · have h2 : c < n := by omega
     refine W.skip (hK7 _ ?_);clear hK7;refine W.seqK λK8 hK8 => W.block ?_;refine W.rs (za _) (by rfl) λK hK => ?_;conv=>whnf
     refine hK _ ?_;clear hK;refine W.seqK λK3 hK3 => W.rs (za _) (by rfl) λK hK => ?_;conv=>whnf
     refine zl rfl (zbm _ _ _ (by rw [yD]; omega)) λhs' hhs => ?_;try dsimp only at hhs
     conv=>whnf
     refine hK _ (W.cond ⟨λh3 => ?_, λh3 => ?_⟩) <;> clear hK
     · have h3 := (zdH piv c).1 (of_decide_eq_true h3)
       refine W.exit (hK8 _ ?_);clear hK8 hK3;refine W.region (za _) (by rfl) ?_;conv=>whnf
       refine ⟨by constructor <;> omega, ?_⟩;conv=>whnf
       have e1 : xd p n piv R (c + 1) = xd p n piv R c := by rw [zcA, if_pos h3]
       refine ⟨_, _, ⟨c + 1, b15, by omega, rfl, rfl⟩, by omega, by dsimp only; omega, ?_⟩;rw [e1]
       repeat' first | refine And.intro ?_ ?_ | exact trivial | rfl | omega | exact .inl rfl | exact λ_ _ => rfl | exact λ_ _ h => h | assumption | exact λi hi => (by obtain rfl : i = 0 := (by omega); rfl)
     · have h3 := λhm => of_decide_eq_false h3 ((zdH piv c).2 hm)
       refine W.skip (hK3 _ ?_);clear hK3;refine W.rs (za _) (by rfl) λK hK => ?_;conv=>whnf
       refine ⟨rfl, ?_⟩;conv=>whnf
       refine ⟨⟨by omega, by omega⟩, ?_⟩;conv=>whnf
       rw [Int.toNat_natCast];intro b_v hs_v hh_v hf_v;try dsimp only at hh_v hf_v
       conv=>whnf
       refine hK _ ?_;clear hK;refine W.rs (za _) (by rfl) λK hK => ?_;conv=>whnf
       refine ⟨⟨by omega, by simp; omega⟩, ?_⟩;conv=>whnf
       rw [Int.toNat_natCast];refine hK _ ?_;clear hK;have hset : ∀ x, cf ((List.replicate n 0).set c 1) x = if x = c then 1 else 0 := λx => by rw [yb (by simp; omega), zF]
       refine W.seqK λK4 hK4 => W.rs (za _) (by rfl) λK hK => ?_;conv=>whnf
       rw [yD];refine hK _ (W.block (W.invH hs0 hb0 (λm e => ∃ (i bv : Nat) (v : List Int), i <= piv.length ∧ v.length = n ∧ (∀ x, cf v x = if x = c then 1 else match (piv.take i).idxOf? x with | some j => (-(R j c)) % p | none => 0) ∧ m = piv.length - i ∧ e = [(0, .v (.int .i64 p)), (1, .ownV el 1 b n λj => .rf (bl j) n), (5, .v (.int .i64 n)), (6, .ownI 3 bp (yL piv)), (15, .ownV 22 1 b15 (xd p n piv R c).length λj => .ints none ((xd p n piv R c).getD j 0).l), (16, .v (.int .i64 c)), (17, .ownI 2 bv v), (146, .v (.int .i64 n)), (147, .v (.int .i64 c)), (158, .al 6), (159, .v (.int .i64 piv.length)), (160, .v (.int .i64 i)), (vt, .tab tb), (vk, .keep O U hw 1 v0)]) _ _ (⟨0, b_v, (List.replicate n 0).set c 1, Nat.zero_le _, by simp, λx => by rw [hset]; rfl, rfl, rfl⟩) (by dsimp only; omega) (by repeat' first | refine And.intro ?_ ?_ | exact trivial | rfl | omega | exact .inl rfl | exact λ_ _ => rfl | exact λ_ _ h => h | assumption | exact λi hi => (by obtain rfl : i = 0 := (by omega); rfl)) ?_));clear hK;clear hset;rintro m3 e ⟨i, bv, v, hi, hvl, hv, hm3, rfl⟩;refine W.rs (za _) (by rfl) λK hK => ?_;conv=>whnf
       refine hK _ ?_;clear hK;refine W.seqK λK7 hK7 => W.cond ⟨λh4 => ?_, λh4 => ?_⟩ <;> (first | replace h4 := of_decide_eq_true h4 | replace h4 := of_decide_eq_false h4)
       · have h4 : i < piv.length := by omega
         have hx : piv[i] < n := hlt _ (List.getElem_mem h4);have hin : i < n := by omega
         obtain ⟨la, hla1, hla2, hla3⟩ := hM.row i hin;have hrc := hR i c hin h2;have e1 : la.getD c 0 = R i c := hla3 c h2;have e2 : (yL piv).getD i 0 = (piv[i] : Nat) := zjR h4;refine W.skip (hK7 _ ?_);clear hK7;refine W.seqK λK6 hK6 => W.block ?_;refine W.rs (za _) (by rfl) λK hK => ?_;conv=>whnf
         rw [yD];refine ⟨⟨by omega, by omega⟩, ?_⟩;conv=>whnf
         rw [Int.toNat_natCast, e2];refine hK _ ?_;clear hK;refine W.region (za _) (by rfl) ?_;conv=>whnf
         refine ⟨⟨by omega, by omega⟩, ?_⟩;conv=>whnf
         rw [Int.toNat_natCast];refine ⟨⟨by omega, by omega⟩, ?_⟩;conv=>whnf
         rw [Int.toNat_natCast];refine ⟨la, hla1, by omega, ?_⟩;conv=>whnf
         rw [e1];refine ⟨by constructor <;> omega, ?_⟩;conv=>whnf
         refine zl rfl (kI _ p (by omega) (by omega) (by omega)) λhs' hhs => ?_;try dsimp only at hhs
         conv=>whnf
         refine ⟨⟨by omega, by omega⟩, ?_⟩;conv=>whnf
         rw [Int.toNat_natCast];refine hK6 _ ?_;clear hK6;refine W.region (za _) (by rfl) ?_;conv=>whnf
         refine ⟨by constructor <;> omega, ?_⟩;conv=>whnf
         have h5 : ∀ x, cf (v.set piv[i] ((-(R i c)) % p)) x = if x = c then 1 else match (piv.take (i + 1)).idxOf? x with | some j => (-(R j c)) % p | none => 0 := λx => by
           rw [yb (by omega), zjS hnd h4, hv x]
           by_cases hxi : x = piv[i]
           · rw [if_pos hxi, if_pos hxi, if_neg (λe => h3 (by rw [<- e, hxi]; exact List.getElem_mem h4))]
           · rw [if_neg hxi, if_neg hxi]
         exact zp ⟨i + 1, bv, v.set piv[i] ((-(R i c)) % p), by omega, by simpa using hvl, h5, rfl, rfl⟩
       · obtain rfl : i = piv.length := by omega
         refine W.exit (hK4 _ ?_);clear hK7 hK4
         have hvp : zw v = (za7 p n piv R c).l := by
           rw [List.take_length] at hv
           have hrng : ∀ x, 0 <= cf v x ∧ cf v x < p := λx => by
             rw [hv x]
             split
             · omega
             · split
               · exact ⟨Int.emod_nonneg _ (by omega), Int.emod_lt_of_pos _ (by omega)⟩
               · omega
           rw [<- zec hrng];refine congrArg Poly.l (zkM (p := p) (a := v) (b := mkL n (x6 p piv R c)) λx => ?_);rw [y8]
           by_cases hxn : x < n
           · rw [if_pos hxn, hv x]
             unfold x6
             by_cases hxc : x = c
             · rw [if_pos hxc, if_pos hxc]
             · rw [if_neg hxc, if_neg hxc]
               cases piv.idxOf? x with
               | none => rfl
               | some j => exact zO p _
           · rw [if_neg hxn, zV (by omega)]
         refine W.region (za _) (by rfl) ?_;conv=>whnf
         refine zB rfl (j2 _ _ (by omega)) λhs_t b_t hh_t hf_t => ?_;try dsimp only at hh_t hf_t
         conv=>whnf
         rw [hvp];refine ⟨⟨rfl, by decide, λx hx => by simp at hx; subst hx; exact ⟨rfl, rfl⟩⟩, ?_⟩;conv=>whnf
         intro b_1 hs_1 hh_1 hf_1;try dsimp only at hh_1 hf_1
         conv=>whnf
         refine ⟨by omega, ?_⟩;conv=>whnf
         refine ⟨λj => .ints none ((xd p n piv R c ++ [za7 p n piv R c]).getD j 0).l, λj hj => congrArg (λq : Poly p => V.ints none q.l) (zcM hj), λj hj => ?_, ?_⟩
         · obtain rfl : j = 0 := by omega
           exact congrArg (λq : Poly p => V.ints none q.l) zcN
         intro b_2 hs_2 hh_2 hf_2;try dsimp only at hh_2 hf_2
         conv=>whnf
         refine hK8 _ ?_;clear hK8;refine W.region (za _) (by rfl) ?_;conv=>whnf
         refine ⟨by constructor <;> omega, ?_⟩;conv=>whnf
         have e1 : xd p n piv R (c + 1) = xd p n piv R c ++ [za7 p n piv R c] := by rw [zcA, if_neg h3]
         refine ⟨_, _, ⟨c + 1, b_2, by omega, rfl, rfl⟩, by omega, by dsimp only; omega, ?_⟩;rw [e1, List.length_append]
         repeat' first | refine And.intro ?_ ?_ | exact trivial | rfl | omega | exact .inl rfl | exact λ_ _ => rfl | exact λ_ _ h => h | assumption | exact λi hi => (by obtain rfl : i = 0 := (by omega); rfl)
   · refine W.exit (hK1 _ ?_)
     clear hK7 hK1;obtain rfl : n = c := by omega
     refine W.rs (za _) (by rfl) λK hK => ?_;conv=>whnf
     refine hK _ (W.ret ?_);conv=>whnf
     exact ⟨by dsimp only; omega, rfl, .v (vPs (xd p n piv R n)), ⟨rfl, rfl, rfl, λ_ _ => rfl⟩, rfl, trivial, .dead, trivial, .inl rfl, .dead, trivial, rfl, rfl, rfl, rfl, _, hB, rfl⟩


set_option maxHeartbeats 8000000 in
theorem zim (p : Int) [SP p] (g : Option Nat) (f : Poly p) (n : Nat) (hf : dg f = n + 1) (hn0 : 1 <= n) (hn : n <= 400) : Fn Try.prog 51 [.int .i64 p, .ints g f.l] (λ_ _ z => ∃ L : List (Poly p), Ker f L ∧ z = .v (vPs L)) := by
 have hp := Pr.two (p := p);have hp2 := SP.le (p := p);have hfl : f.l.length = n + 1 := hf;have hf0 : f ≠ 0 := λe => by rw [e, zu] at hf; omega
 refine zm (zi [0, 1, 4, 5, 6, 7, 8, 9, 10, 17, 18, 19, 27, 28, 29, 37, 38, 39, 40, 1000000]) Try.func51 rfl (by decide) Try.ntmps51 (Nat.le_of_ble_eq_true rfl) λbase => ?_;refine W.tab0 rfl ?_;refine W.rs (zi _) (by rfl) λK hK => ?_;conv=>whnf
 refine hK _ ?_;clear hK;refine W.rs (zi _) (by rfl) λK hK => ?_;conv=>whnf
 rw [hfl];refine ⟨by constructor <;> omega, ?_⟩;conv=>whnf
 have e0 : (((n + 1 : Nat) : Int) - 1) = n := by omega
 rw [e0];refine hK _ ?_;clear hK;refine W.rs (zi _) (by rfl) λK hK => ?_;conv=>whnf
 refine ⟨rfl, ?_⟩;conv=>whnf
 refine ⟨⟨by omega, by omega⟩, ?_⟩;conv=>whnf
 rw [Int.toNat_natCast];intro b_0 hs_0 hh_0 hf_0;try dsimp only at hh_0 hf_0
 conv=>whnf
 refine hK _ ?_;clear hK;refine W.seqK λK1 hK1 => W.rs (zi _) (by rfl) λK hK => ?_;conv=>whnf
 refine hK _ (W.block (W.inv (λm s => ∃ (i hs : Nat) (bl : Nat -> Nat) (tb : Nat -> Option (List Int)), i <= n ∧ base <= hs ∧ (∀ j, j < i -> bl j < hs) ∧ (∀ j k, j < i -> k < i -> bl j = bl k -> j = k) ∧ (∀ j, j < i -> tb (bl j) = some (List.replicate n 0)) ∧ m = n - i ∧
  s = ⟨[(0, .v (.int .i64 p)), (1, .v (.ints g f.l)), (5, .v (.int .i64 n)), (6, .ownV 22 1 b_0 n λj => if j < i then .rf (bl j) n else .nil), (17, .v (.int .i64 n)), (18, .v (.int .i64 i)), (vt, .tab tb)], hs⟩) _ _
  ⟨0, base, λ_ => 0, λ_ => none, Nat.zero_le _, Nat.le_refl _, λj hj => by omega, λj k hj => by omega, λj hj => by omega, rfl, rfl⟩ ⟨by dsimp only; omega, by repeat' first | refine And.intro ?_ ?_ | exact trivial | rfl | omega | assumption | exact λ_ _ => rfl | exact λ_ _ h => h⟩
  (by rintro m s ⟨_, _, _, _, _, h, _, _, _, _, rfl⟩; exact h) ?_))
 clear hK;rintro m s ⟨i, hs, bl, tb, hi, hhs, hlt, hinj, htb, hm, rfl⟩;refine W.rs (zi _) (by rfl) λK hK => ?_;conv=>whnf
 refine hK _ ?_;clear hK;refine W.seqK λK7 hK7 => W.cond ⟨λh2 => ?_, λh2 => ?_⟩ <;> (first | replace h2 := of_decide_eq_true h2 | replace h2 := of_decide_eq_false h2)
 ·have h2 : i < n := by omega
  refine W.skip (hK7 _ ?_);clear hK7;refine W.seqK λK8 hK8 => W.block ?_;refine W.rs (zi _) (by rfl) λK hK => ?_;conv=>whnf
  refine hK _ ?_;clear hK;refine W.region (zi _) (by rfl) ?_;conv=>whnf
  refine ⟨rfl, ?_⟩;conv=>whnf
  refine ⟨⟨by omega, by omega⟩, ?_⟩;conv=>whnf
  rw [Int.toNat_natCast];intro b_1 hs_1 hh_1 hf_1;try dsimp only at hh_1 hf_1
  conv=>whnf
  refine ⟨⟨by omega, by omega⟩, ?_⟩;conv=>whnf
  rw [Int.toNat_natCast];refine ⟨by simp; omega, ?_⟩;conv=>whnf
  refine ⟨⟨by show 0 + 1 <= 1; omega, rfl⟩, λj => if j < i + 1 then .rf (if j < i then bl j else b_1) n else .nil, ?_, λj hj hji => ?_, ?_⟩
  ·show (if i < i + 1 then V.rf (if i < i then bl i else b_1) n else .nil) = zP (if i < i then V.rf (bl i) n else .nil) 0 (V.rf b_1 (List.replicate n 0).length)
   rw [if_pos (by omega), if_neg (by omega), if_neg (by omega), List.length_replicate]
   rfl
  ·show (if j < i + 1 then V.rf (if j < i then bl j else b_1) n else .nil) = if j < i then V.rf (bl j) n else .nil
   by_cases h : j < i
   ·rw [if_pos (by omega), if_pos h, if_pos h]
   ·rw [if_neg (by omega), if_neg h]
  conv=>whnf
  refine hK8 _ ?_;clear hK8;refine W.region (zi _) (by rfl) ?_;conv=>whnf
  refine ⟨by constructor <;> omega, ?_⟩;conv=>whnf
  have hb1 := hf_1 (by omega);refine ⟨_, _, ⟨i + 1, hs_1, λj => if j < i then bl j else b_1, z2 tb b_1 (List.replicate n 0), by omega, by omega, λj hj => ?_, λj k hj hk he => ?_, λj hj => ?_, rfl, rfl⟩, by omega, by dsimp only; omega, ?_⟩
  ·show (if j < i then bl j else b_1) < hs_1
   split
   ·have := hlt j (by assumption); omega
   ·omega
  ·have he' : (if j < i then bl j else b_1) = (if k < i then bl k else b_1) := he
   split at he' <;> split at he'
   ·exact hinj j k (by omega) (by omega) he'
   ·have := hlt j (by omega); omega
   ·have := hlt k (by omega); omega
   ·omega
  ·show z2 tb b_1 (List.replicate n 0) (if j < i then bl j else b_1) = _
   split
   ·have := hlt j (by omega);rw [yH _ _ (by omega)]; exact htb j (by omega)
   ·exact yn _ _ _
  repeat' first | refine And.intro ?_ ?_ | exact trivial | rfl | omega | exact .inl rfl | exact λ_ _ => rfl | exact λ_ _ h => h | assumption | exact λi hi => (by obtain rfl : i = 0 := (by omega); rfl)
 ·obtain rfl : n = i := by omega
  refine W.exit (hK1 _ ?_);clear hK7 hK1;have hM : MatT tb bl n (λ_ _ => 0) := ⟨hinj, λj hj => ⟨_, htb j hj, by simp, λx _ => zF _ _⟩⟩
  clear hlt hinj htb;refine W.weak (t := ⟨[(0, .v (.int .i64 p)), (1, .v (.ints g f.l)), (5, .v (.int .i64 n)), (6, .ownV 22 1 b_0 n λj => .rf (bl j) n), (vt, .tab tb)], base⟩) ⟨by dsimp only; omega, ?_⟩ (Nat.le_refl _) ?_
  ·repeat' first | refine And.intro ?_ ?_ | exact trivial | rfl | omega | assumption | exact λi hi => if_pos hi | exact λ_ _ h => h
  refine W.seqK λK1 hK1 => W.rs (zi _) (by rfl) λK hK => ?_;conv=>whnf
  refine hK _ (W.block (W.invA (λm e => ∃ (i : Nat) (tb : Nat -> Option (List Int)), i <= n ∧ MatT tb bl n (λa j => if j < i then zaL f a j else 0) ∧ m = n - i ∧ e = [(0, .v (.int .i64 p)), (1, .v (.ints g f.l)), (5, .v (.int .i64 n)), (6, .ownV 22 1 b_0 n λj => .rf (bl j) n), (27, .v (.int .i64 n)), (28, .v (.int .i64 i)), (vt, .tab tb)]) ⟨0, tb, Nat.zero_le _, hM.congr λa j _ _ => by rw [if_neg (by omega)], rfl, rfl⟩ ?_));clear hK;clear hM hm tb;rintro m e ⟨i, tb, hi, hM, hm, rfl⟩;refine W.rs (zi _) (by rfl) λK hK => ?_;conv=>whnf
  refine hK _ ?_;clear hK;refine W.seqK λK7 hK7 => W.cond ⟨λh2 => ?_, λh2 => ?_⟩ <;> (first | replace h2 := of_decide_eq_true h2 | replace h2 := of_decide_eq_false h2)
  ·have h2 : i < n := by omega
   have epi : p * (i : Int) = ((p.toNat * i : Nat) : Int) := by rw [Int.natCast_mul]; congr 1; omega
   have hpi : p.toNat * i <= 97 * 400 := Nat.mul_le_mul (by omega) (by omega);have hWl : (rem (X p ^ (p.toNat * i)) f).l.length = dg (rem (X p ^ (p.toNat * i)) f) := rfl;have hWd := yl (X p ^ (p.toNat * i)) hf0;have hkm := λa => zef f a i;refine W.skip (hK7 _ ?_);clear hK7;refine W.seqK λK8 hK8 => W.block ?_;refine W.rs (zi _) (by rfl) λK hK => ?_;conv=>whnf
   refine hK _ ?_;clear hK;refine W.seqK λK9 hK9 => W.rs (zi _) (by rfl) λK hK => ?_;conv=>whnf
   refine ⟨⟨rfl, by decide⟩, ?_⟩;conv=>whnf
   intro b_x hs_x hh_x hf_x;try dsimp only at hh_x hf_x
   conv=>whnf
   refine ⟨by rw [epi]; constructor <;> omega, ?_⟩;conv=>whnf
   rw [epi];have ex : [(0 : Int), 1] = (X p).l := X_l.symm;rw [ex]
   have hXd : dg (X p) <= 1000000 := by
    have : (X p).l.length = 2 := by rw [X_l]; rfl
    show (X p).l.length <= _
    omega
   refine zl rfl (zgL p _ g (X p) f (p.toNat * i) (by omega) hXd (by omega) hf0) λhs' hhs => ?_;try dsimp only at hhs
   conv=>whnf
   generalize hW : rem (X p ^ (p.toNat * i)) f = Wp at *;rw [hWl];refine hK _ (W.block (W.invA (λm e => ∃ (k : Nat) (tb : Nat -> Option (List Int)), k <= dg Wp ∧ MatT tb bl n (λa j => if j < i then zaL f a j else if j = i ∧ a < k then cf Wp.l a else 0) ∧ m = dg Wp - k ∧ e = [(0, .v (.int .i64 p)), (1, .v (.ints g f.l)), (5, .v (.int .i64 n)), (6, .ownV 22 1 b_0 n λj => .rf (bl j) n), (8, .v (.int .i64 i)), (27, .v (.int .i64 n)), (28, .v (.int .i64 i)), (37, .v (.ints none Wp.l)), (38, .v (.int .i64 (dg Wp))), (39, .v (.int .i64 k)), (vt, .tab tb)]) ⟨0, tb, Nat.zero_le _, hM.congr λa j _ _ => by rw [if_neg (by omega : ¬ (j = i ∧ a < 0))], rfl, rfl⟩ ?_));clear hK;clear hM tb;rintro m2 e ⟨k, tb, hk, hMk, hm2, rfl⟩;refine W.rs (zi _) (by rfl) λK hK => ?_;conv=>whnf
   refine hK _ ?_;clear hK;refine W.seqK λK7 hK7 => W.cond ⟨λh3 => ?_, λh3 => ?_⟩ <;> (first | replace h3 := of_decide_eq_true h3 | replace h3 := of_decide_eq_false h3)
   ·have h3 : k < dg Wp := by omega
    obtain ⟨la, hla1, hla2, hla3⟩ := hMk.row k (by omega);refine W.skip (hK7 _ ?_);clear hK7;refine W.seqK λK6 hK6 => W.block ?_;refine W.rs (zi _) (by rfl) λK hK => ?_;conv=>whnf
    rw [hWl];refine ⟨⟨by omega, by omega⟩, ?_⟩;conv=>whnf
    rw [Int.toNat_natCast];refine hK _ ?_;clear hK;refine W.region (zi _) (by rfl) ?_;conv=>whnf
    refine ⟨⟨by omega, by omega⟩, ?_⟩;conv=>whnf
    rw [Int.toNat_natCast];refine ⟨⟨by omega, by omega⟩, ?_⟩;conv=>whnf
    rw [Int.toNat_natCast];refine ⟨la, hla1, by omega, ?_⟩;conv=>whnf
    refine hK6 _ ?_;clear hK6;refine W.region (zi _) (by rfl) ?_;conv=>whnf
    refine ⟨by constructor <;> omega, ?_⟩;conv=>whnf
    have h4 := (hMk.store (i := k) (by omega) h2 hla1 (cf Wp.l k)).congr (R' := λa j => if j < i then zaL f a j else if j = i ∧ a < k + 1 then cf Wp.l a else 0) λa j ha hj => by
     show (if a = k ∧ j = i then cf Wp.l k else if j < i then zaL f a j else if j = i ∧ a < k then cf Wp.l a else 0) = _
     by_cases c1 : j < i
     ·rw [if_neg (by omega), if_pos c1, if_pos c1]
     ·by_cases c2 : j = i
      ·subst c2
       by_cases c3 : a = k
       ·subst c3; rw [if_pos ⟨rfl, rfl⟩, if_neg c1, if_pos ⟨rfl, by omega⟩]
       ·by_cases c4 : a < k
        ·rw [if_neg (by omega), if_neg c1, if_pos ⟨rfl, c4⟩, if_neg c1, if_pos ⟨rfl, by omega⟩]
        ·rw [if_neg (by omega), if_neg c1, if_neg (by omega), if_neg c1, if_neg (by omega)]
      ·rw [if_neg (by omega), if_neg c1, if_neg (by omega), if_neg c1, if_neg (by omega)]
    exact zp ⟨k + 1, _, by omega, h4, rfl, rfl⟩
   ·obtain rfl : k = dg Wp := by omega
    refine W.exit (hK9 _ ?_);clear hK7 hK9
    have hM2 : MatT tb bl n (λa j => if j < i then zaL f a j else if j = i then cf Wp.l a else 0) := hMk.congr λa j ha hj => by
     by_cases c1 : j < i
     ·rw [if_pos c1, if_pos c1]
     ·rw [if_neg c1, if_neg c1]
      by_cases c2 : j = i
      ·rw [if_pos c2]
       by_cases c3 : a < dg Wp
       ·rw [if_pos ⟨c2, c3⟩]
       ·rw [if_neg (by omega), z9 (by omega)]
      ·rw [if_neg c2, if_neg (by omega)]
    obtain ⟨la, hla1, hla2, hla3⟩ := hM2.row i h2
    have e1 : la.getD i 0 = cf Wp.l i := by
     have := hla3 i h2;rw [if_neg (by omega), if_pos rfl] at this; exact this
    have hrc := zab Wp i;refine W.draw (zi _) follows (by rfl) ?_;conv=>whnf
    refine ⟨⟨by omega, by omega⟩, ?_⟩;conv=>whnf
    refine ⟨⟨by omega, by omega⟩, ?_⟩;conv=>whnf
    rw [Int.toNat_natCast];refine ⟨⟨by omega, by omega⟩, ?_⟩;conv=>whnf
    refine ⟨la, hla1, by omega, ?_⟩;conv=>whnf
    rw [e1];refine ⟨by constructor <;> omega, ?_⟩;conv=>whnf
    refine ⟨_, cxmF (kI _ p (by omega) (by omega) (by omega)), ?_⟩;conv=>whnf
    refine ⟨⟨by omega, by omega⟩, ?_⟩;conv=>whnf
    refine ⟨la, hla1, by omega, ?_⟩;conv=>whnf
    refine hK8 _ ?_;clear hK8;refine W.region (zi _) (by rfl) ?_;conv=>whnf
    refine ⟨by constructor <;> omega, ?_⟩;conv=>whnf
    have h4 := (hM2.store h2 h2 hla1 ((cf Wp.l i - 1) % p)).congr (R' := λa j => if j < i + 1 then zaL f a j else 0) λa j ha hj => by
     show (if a = i ∧ j = i then (cf Wp.l i - 1) % p else if j < i then zaL f a j else if j = i then cf Wp.l a else 0) = _
     by_cases c1 : j < i
     ·rw [if_neg (by omega), if_pos c1, if_pos (by omega)]
     ·by_cases c2 : j = i
      ·subst c2
       by_cases c3 : a = j
       ·subst c3; rw [if_pos ⟨rfl, rfl⟩, if_pos (by omega : a < a + 1), hkm a, if_pos rfl]
       ·rw [if_neg (by omega : ¬ (a = j ∧ j = j)), if_neg c1, if_pos rfl, if_pos (by omega : j < j + 1), hkm a, if_neg c3, Int.sub_zero, vw]
      ·rw [if_neg (by omega), if_neg c1, if_neg c2, if_neg (by omega)]
    exact zp ⟨i + 1, _, by omega, h4, rfl, rfl⟩
  ·obtain rfl : n = i := by omega
   refine W.exit (hK1 _ ?_);clear hK7 hK1;have hM2 : MatT tb bl n (zaL f) := hM.congr λa j ha hj => if_pos hj;refine W.rs (zi _) (by rfl) λK hK => ?_;conv=>whnf
   refine ⟨⟨rfl, rfl⟩, ?_⟩;conv=>whnf
   refine ⟨rfl, _, zel p n hn0 (by omega) _ _ bl (zaL f) tb hM2 (λa j _ _ => by rw [zef]; exact ⟨Int.emod_nonneg _ (by omega), Int.emod_lt_of_pos _ (by omega)⟩), ?_⟩;rintro hs' av x' t' hh ⟨rfl, rfl, L, hL, rfl⟩ _ _ _;conv=>whnf
   refine hK _ (W.ret ?_);conv=>whnf
   exact ⟨.v (vPs L), ⟨rfl, rfl, rfl, λ_ _ => rfl⟩, ⟨trivial, λ_ _ => trivial⟩, L, hL.ker hf, rfl⟩


set_option maxHeartbeats 8000000 in
theorem zkw (p : Int) [SP p] (f : Poly p) (hm : Mon f) (hs : Sqf f) (hd : 2 <= dg f) (hd2 : dg f <= 400) : Fn Try.prog 28 [.int .i64 p, .ints none f.l] (λlo hi z => ∃ (P : List (Poly p)) (c : Nat -> Nat), kF f P ∧ Frs lo hi P.length c ∧ z = .v (vPw c P)) := by
 have hp := Pr.two (p := p);have hp2 := SP.le (p := p);have hf0 : f ≠ 0 := hm.1;refine zm (za [0, 1, 4, 5, 6, 8, 9, 11, 12, 13, 19, 20, 21, 22, 25, 26, 27, 28, 31, 32, 33, 47]) Try.func28 rfl (by decide) Try.ntmps28 (Nat.le_of_ble_eq_true rfl) λbase => ?_;refine W.rs (za _) (by rfl) λK hK => ?_;conv=>whnf
 refine hK _ ?_;clear hK;refine W.rs (za _) (by rfl) λK hK => ?_;conv=>whnf
 refine ⟨⟨rfl, by decide, λx hx => by simp at hx; subst hx; exact ⟨rfl, rfl⟩⟩, ?_⟩;conv=>whnf
 intro b_0 hs_0 hh_0 hf_0;try dsimp only at hh_0 hf_0
 conv=>whnf
 refine hK _ ?_;clear hK;refine W.rs (za _) (by rfl) λK hK => ?_;conv=>whnf
 refine xc rfl (zim p none f (dg f - 1) (by omega) (by omega) (by omega)) ?_;rintro lo hi hi' z hl1 hl2 hl3 ⟨L, hL, rfl⟩ _;have hLf := hL.few
 have hL1 : 0 < L.length := by
  rcases Nat.eq_zero_or_pos L.length with h | h
  ·have hn : L = [] := List.eq_nil_of_length_eq_zero h;subst hn;have h1 : zaK [] (1 : Poly p) := hL.span 1 (by rw [xm]; omega) ⟨0, by rw [k6]; exact zg [f] (by rfl)⟩;exact absurd (h1 (λw => w = 0) rfl (λa b ha hb => by rw [ha, hb]; exact zg [] (by rfl)) (λc a ha => by rw [ha]; exact zg [con p c] (by rfl)) (λa ha => by cases ha)) zd2
  ·exact h
 try dsimp only at hl1 hl2
 conv=>whnf
 refine hK _ ?_;clear hK;refine W.seqK λK1 hK1 => ?_;refine W.rs (za _) (by rfl) λK hK => ?_;conv=>whnf
 refine hK _ (W.block (W.invS (λm e hs => base <= hs ∧ ∃ (k : Nat) (P : List (Poly p)) (c : Nat -> Nat) (g : Nat -> V), k <= L.length ∧ Cut f (L.take k) P ∧ (∀ j, j < P.length -> g j = .ints none (P.getD j 0).l ∨ g j = .wh 2 (c j) (P.getD j 0).l) ∧ (0 < k -> Frs base hs P.length c ∧ ∀ j, j < P.length -> g j = .wh 2 (c j) (P.getD j 0).l) ∧ m = L.length - k ∧ e = [(0, .v (.int .i64 p)), (5, .v (.vals none 1 P.length g)), (19, .v (vPs L)), (20, .v (.int .i64 L.length)), (21, .v (.int .i64 k))]) _ _ base
  ⟨Nat.le_refl _, 0, [f], λ_ => 0, λj => .ints none (([f] : List (Poly p)).getD j 0).l, Nat.zero_le _, Cut.start hm hd, λj _ => .inl rfl, λh => absurd h (by decide), rfl, rfl⟩ (λm e h q => q.1) (by dsimp only; omega) (by repeat' first | refine And.intro ?_ ?_ | exact trivial | rfl | omega | assumption | exact .inl rfl | exact λ_ _ => rfl | exact λi hi => (by obtain rfl : i = 0 := (by omega); rfl)) ?_))
 clear hK;clear hh_0 hf_0 hl1 hl2 hl3;rintro m e hs1 ⟨hb1, k, P, c, g, hk, hC, hg, hgk, hm', rfl⟩;refine W.rs (za _) (by rfl) λK hK => ?_;conv=>whnf
 refine hK _ ?_;clear hK;refine W.seqK λK7 hK7 => W.cond ⟨λh2 => ?_, λh2 => ?_⟩ <;> (first | replace h2 := of_decide_eq_true h2 | replace h2 := of_decide_eq_false h2)
 ·have h2 : k < L.length := by omega
  have hber := hL.ber _ (zfF h2);have hPl := hC.parts.few hf0;have hC' : Cut f (L.take (k + 1)) (zq (L.getD k 0) P) := by rw [zih h2]; exact hC.next hber.1
  have hPl' := hC'.parts.few hf0;generalize hv : L.getD k 0 = v at *;refine W.skip (hK7 _ ?_);clear hK7;refine W.seqK λK8 hK8 => W.block ?_;refine W.rs (za _) (by rfl) λK hK => ?_;conv=>whnf
  refine ⟨⟨by omega, by omega⟩, ?_⟩;conv=>whnf
  have e1 : (λj => V.ints none (L.getD j 0).l) (k : Int).toNat = .ints none v.l := by rw [Int.toNat_natCast]; show V.ints none (L.getD k 0).l = _; rw [hv]
  rw [e1];conv=>whnf
  refine hK _ ?_;clear hK;refine W.rs (za _) (by rfl) λK hK => ?_;conv=>whnf
  refine hK _ ?_;clear hK;refine W.seqK λK3 hK3 => ?_;refine W.rs (za _) (by rfl) λK hK => ?_;conv=>whnf
  refine hK _ (W.block (W.invS (λm e hs => hs1 <= hs ∧ ∃ (j bf : Nat) (d : Nat -> Nat), j <= P.length ∧ Frs hs1 hs (zq v (P.take j)).length d ∧ m = P.length - j ∧ e = [(0, .v (.int .i64 p)), (8, .v (.ints none v.l)), (9, .ownV 22 1 bf (zq v (P.take j)).length λi => .wh 2 (d i) ((zq v (P.take j)).getD i 0).l), (19, .v (vPs L)), (20, .v (.int .i64 L.length)), (21, .v (.int .i64 k)), (25, .v (.vals none 1 P.length g)), (26, .v (.int .i64 P.length)), (27, .v (.int .i64 j))]) _ _ hs1
   ⟨Nat.le_refl _, 0, 0, λ_ => 0, Nat.zero_le _, λi hi => absurd hi (Nat.not_lt_zero i), rfl, rfl⟩ (λm e h q => Nat.le_trans hb1 q.1) (by dsimp only; omega) (by repeat' first | refine And.intro ?_ ?_ | exact trivial | rfl | omega | assumption | exact .inl rfl | exact λ_ _ => rfl | exact λi hi => (by obtain rfl : i = 0 := (by omega); rfl)) ?_))
  clear hK;rintro m2 e hs2 ⟨hb2, j, bf, d, hj, hd4, hm2, rfl⟩;refine W.rs (za _) (by rfl) λK hK => ?_;conv=>whnf
  refine hK _ ?_;clear hK;refine W.seqK λK7 hK7 => W.cond ⟨λh3 => ?_, λh3 => ?_⟩ <;> (first | replace h3 := of_decide_eq_true h3 | replace h3 := of_decide_eq_false h3)
  ·have h3 : j < P.length := by omega
   have hgj := hg j h3;have hpart := hC.parts.each _ (zfF h3);have hpd := zC hpart.2.2 hf0;generalize hpq : P.getD j 0 = part at hpart hpd hgj;refine W.skip (hK7 _ ?_);clear hK7;refine W.seqK λK4 hK4 => W.block ?_;refine W.rs (za _) (by rfl) λK hK => ?_;conv=>whnf
   have body : ∀ (gp : Option Nat) (t : S), hs2 <= t.hs -> zD t.env [(0, .v (.int .i64 p)), (8, .v (.ints none v.l)), (9, .ownV 22 1 bf (zq v (P.take j)).length λi => .wh 2 (d i) ((zq v (P.take j)).getD i 0).l), (11, .v (.ints gp part.l)), (19, .v (vPs L)), (20, .v (.int .i64 L.length)), (21, .v (.int .i64 k)), (25, .v (.vals none 1 P.length g)), (26, .v (.int .i64 P.length)), (27, .v (.int .i64 j))] -> K t := by
    intro gp t h7 h8;refine hK _ (W.weak (t := ⟨[(0, .v (.int .i64 p)), (8, .v (.ints none v.l)), (9, .ownV 22 1 bf (zq v (P.take j)).length λi => .wh 2 (d i) ((zq v (P.take j)).getD i 0).l), (11, .v (.ints gp part.l)), (19, .v (vPs L)), (20, .v (.int .i64 L.length)), (21, .v (.int .i64 k)), (25, .v (.vals none 1 P.length g)), (26, .v (.int .i64 P.length)), (27, .v (.int .i64 j))], hs2⟩) ⟨h7, h8⟩ (by dsimp only; omega) ?_);clear hK h8 h7 t;refine W.rs (za _) (by rfl) λK hK => ?_;conv=>whnf
    have e3 : zq v (P.take j) ++ z8 v part 0 = zq v (P.take j) := List.append_nil _
    refine hK _ (W.block (W.invS (λm e hs => hs2 <= hs ∧ ∃ (a bf : Nat) (d : Nat -> Nat), a <= p.toNat ∧ Frs hs1 hs (zq v (P.take j) ++ z8 v part a).length d ∧ m = p.toNat - a ∧ e = [(0, .v (.int .i64 p)), (8, .v (.ints none v.l)), (9, .ownV 22 1 bf (zq v (P.take j) ++ z8 v part a).length λi => .wh 2 (d i) ((zq v (P.take j) ++ z8 v part a).getD i 0).l), (11, .v (.ints gp part.l)), (19, .v (vPs L)), (20, .v (.int .i64 L.length)), (21, .v (.int .i64 k)), (25, .v (.vals none 1 P.length g)), (26, .v (.int .i64 P.length)), (27, .v (.int .i64 j)), (31, .v (.int .i64 p)), (32, .v (.int .i64 a))]) _ _ hs2
     ⟨Nat.le_refl _, 0, bf, d, Nat.zero_le _, by rw [e3]; exact hd4, rfl, rfl⟩ (λm e h q => Nat.le_trans hb1 (Nat.le_trans hb2 q.1)) (by dsimp only; omega) (by
     rw [e3]
     repeat' first | refine And.intro ?_ ?_ | exact trivial | rfl | omega | assumption | exact .inl rfl | exact λ_ _ => rfl) ?_))
    clear hK hd4 bf d;rintro m3 e hs3 ⟨hb3, a, bf, d, ha, hd4, hm3, rfl⟩;refine W.rs (za _) (by rfl) λK hK => ?_;conv=>whnf
    refine hK _ ?_;clear hK;refine W.seqK λK7 hK7 => W.cond ⟨λh4 => ?_, λh4 => ?_⟩ <;> (first | replace h4 := of_decide_eq_true h4 | replace h4 := of_decide_eq_false h4)
    ·have h4 : a < p.toNat := by omega
     have hlen := zku v (P := P) (a := a) h3 (by omega);rw [hpq] at hlen;have hgd := zif part (v - con p (a : Int)) hpart.1.1
     have hsub : dg (v - con p (a : Int)) <= 1000 := by
      have := zck v (con p (a : Int));have := vB (p := p) (a : Int);have := hber.2;omega
     have hvl : v.l.length = dg v := rfl;have hgl : (gcd part (v - con p (a : Int))).l.length = dg (gcd part (v - con p (a : Int))) := rfl
     have hb9 : Bd 97 [-(a : Int)] := λi => by
      cases i with
      | zero => rw [yg]; omega
      | succ i => rw [zy, yG]; omega
     refine W.skip (hK7 _ ?_);clear hK7;refine W.seqK λK5 hK5 => W.block ?_
     -- the end of the round
     have fin : ∀ (b' : Nat) (d' : Nat -> Nat) (t : S), Frs hs1 t.hs (zq v (P.take j) ++ z8 v part (a + 1)).length d' -> hs3 <= t.hs -> zD t.env [(0, .v (.int .i64 p)), (8, .v (.ints none v.l)), (9, .ownV 22 1 b' (zq v (P.take j) ++ z8 v part (a + 1)).length λi => .wh 2 (d' i) ((zq v (P.take j) ++ z8 v part (a + 1)).getD i 0).l), (11, .v (.ints gp part.l)), (19, .v (vPs L)), (20, .v (.int .i64 L.length)), (21, .v (.int .i64 k)), (25, .v (.vals none 1 P.length g)), (26, .v (.int .i64 P.length)), (27, .v (.int .i64 j)), (31, .v (.int .i64 p)), (32, .v (.int .i64 a))] -> K5 t := by
      intro b' d' t hd5 h5 h6;obtain ⟨te, ths⟩ := t;dsimp only at hd5 h5
      refine hK5 _ (W.weak (t := ⟨[(0, .v (.int .i64 p)), (8, .v (.ints none v.l)), (9, .ownV 22 1 b' (zq v (P.take j) ++ z8 v part (a + 1)).length λi => .wh 2 (d' i) ((zq v (P.take j) ++ z8 v part (a + 1)).getD i 0).l), (11, .v (.ints gp part.l)), (19, .v (vPs L)), (20, .v (.int .i64 L.length)), (21, .v (.int .i64 k)), (25, .v (.vals none 1 P.length g)), (26, .v (.int .i64 P.length)), (27, .v (.int .i64 j)), (31, .v (.int .i64 p)), (32, .v (.int .i64 a))], ths⟩) ⟨Nat.le_refl _, h6⟩ (by dsimp only; omega) ?_);refine W.region (za _) (by rfl) ?_;conv=>whnf
      refine ⟨by constructor <;> omega, ?_⟩;conv=>whnf
      refine ⟨_, _, ths, ⟨by omega, a + 1, b', d', by omega, hd5, rfl, rfl⟩, by omega, by dsimp only; omega, ?_⟩
      repeat' first | refine And.intro ?_ ?_ | exact trivial | rfl | omega | exact .inl rfl | exact λ_ _ => rfl | exact λ_ _ h => h | assumption | exact λi hi => (by obtain rfl : i = 0 := (by omega); rfl)
     clear hK5;refine W.rs (za _) (by rfl) λK hK => ?_;conv=>whnf
     refine hK _ ?_;clear hK;refine W.rs (za _) (by rfl) λK hK => ?_;conv=>whnf
     refine ⟨by constructor <;> omega, ?_⟩;conv=>whnf
     refine ⟨⟨rfl, by decide⟩, ?_⟩;conv=>whnf
     intro b_1 hs_1 hh_1 hf_1;try dsimp only at hh_1 hf_1
     conv=>whnf
     refine zB rfl (zjP none _ v.l [-(a : Int)] ((j4 v).le (by omega)) (hb9.le (by omega)) (by have := hber.2; omega) (by simp)) λhs_2 b_2 hh_2 hf_2 => ?_;try dsimp only at hh_2 hf_2
     conv=>whnf
     refine zB rfl (zaQ p (by omega) (by omega) _ (zw (jJ v.l [-(a : Int)])) (Bd.trim λi => by rw [vm]; have := j4 v i; have := hb9 i; omega) (Nat.le_trans (xF _) (by rw [jJ, zT]; have := hber.2; simp; omega))) λhs_3 b_3 hh_3 hf_3 => ?_;try dsimp only at hh_3 hf_3
     conv=>whnf
     rw [zdB];refine zB rfl (zdG p gp _ part (v - con p (a : Int)) (by omega) hsub) λhs_4 b_4 hh_4 hf_4 => ?_;try dsimp only at hh_4 hf_4
     conv=>whnf
     refine hK _ ?_;clear hK;refine W.rs (za _) (by rfl) λK hK => ?_;conv=>whnf
     rw [hgl];refine hK _ ?_;clear hK;refine W.cond ⟨λh5 => ?_, λh5 => ?_⟩
     ·have h5 := of_decide_eq_true h5;have hb4 := hf_4 (λh => by rw [h] at hgl; simp at hgl; omega)
      have e4 : (zq v (P.take j) ++ z8 v part (a + 1)) = (zq v (P.take j) ++ z8 v part a) ++ [gcd part (v - con p (a : Int))] := by
       rw [vW, zc0, if_pos (by omega), List.append_assoc]
      refine W.sw (c' := cxh [0, 1, 4, 5, 6, 8, 9, 11, 12, 13, 19, 20, 21, 22, 25, 26, 27, 28, 31, 32, 33, 47]) (W.region (zk5 _) (by rfl) ?_);conv=>whnf
      refine ⟨⟨rfl, by decide, λx hx => by simp at hx; subst hx; exact ⟨rfl, rfl⟩⟩, ?_⟩;conv=>whnf
      intro b_5 hs_5 hh_5 hf_5;try dsimp only at hh_5 hf_5
      conv=>whnf
      refine ⟨by omega, ?_⟩;conv=>whnf
      refine ⟨λi => .wh 2 (if i < (zq v (P.take j) ++ z8 v part a).length then d i else b_4) (((zq v (P.take j) ++ z8 v part a) ++ [gcd part (v - con p (a : Int))]).getD i 0).l, λi hi => by show V.wh _ (if i < (zq v (P.take j) ++ z8 v part a).length then d i else b_4) _ = V.wh _ (d i) _; rw [if_pos hi, zcM hi], λi hi => ?_, ?_⟩
      ·obtain rfl : i = 0 := by omega
       show V.wh _ (if (zq v (P.take j) ++ z8 v part a).length + 0 < (zq v (P.take j) ++ z8 v part a).length then d _ else b_4) _ = V.wh _ b_4 _
       rw [if_neg (by omega), zcN]
      intro b_6 hs_6 hh_6 hf_6;try dsimp only at hh_6 hf_6
      conv=>whnf
      refine fin b_6 (λi => if i < (zq v (P.take j) ++ z8 v part a).length then d i else b_4) _ ?_ (by dsimp only; omega) ?_
      ·rw [e4, List.length_append (bs := [_])];exact hd4.snoc (by omega) (by omega) (by dsimp only; omega)
      rw [e4, List.length_append (bs := [_])]
      repeat' first | refine And.intro ?_ ?_ | exact trivial | rfl | omega | exact .inl rfl | exact λ_ _ => rfl | exact λ_ _ h => h | assumption | exact λi hi => (by obtain rfl : i = 0 := (by omega); rfl)
     ·have h5 := of_decide_eq_false h5
      have e4 : (zq v (P.take j) ++ z8 v part (a + 1)) = (zq v (P.take j) ++ z8 v part a) := by
       rw [vW, zc0, if_neg (by omega), List.append_nil]
      refine W.skip (fin bf d _ (by rw [e4]; exact hd4.mono (Nat.le_refl _) (by dsimp only; omega)) (by dsimp only; omega) ?_);rw [e4]
      repeat' first | refine And.intro ?_ ?_ | exact trivial | rfl | omega | exact .inl rfl | exact λ_ _ => rfl | exact λ_ _ h => h | assumption | exact λi hi => (by obtain rfl : i = 0 := (by omega); rfl)
    ·obtain rfl : a = p.toNat := by omega
     have e4 : zq v (P.take (j + 1)) = zq v (P.take j) ++ z8 v part p.toNat := by rw [za8 v h3, hpq]
     refine W.exit (hK4 _ ?_);clear hK7 hK4;refine W.region (za _) (by rfl) ?_;conv=>whnf
     refine ⟨by constructor <;> omega, ?_⟩;conv=>whnf
     refine ⟨_, _, hs3, ⟨by omega, j + 1, bf, d, by omega, by rw [e4]; exact hd4, rfl, rfl⟩, by omega, by dsimp only; omega, ?_⟩;rw [e4]
     repeat' first | refine And.intro ?_ ?_ | exact trivial | rfl | omega | exact .inl rfl | exact λ_ _ => rfl | exact λ_ _ h => h | assumption | exact λi hi => (by obtain rfl : i = 0 := (by omega); rfl)
   refine ⟨⟨by omega, by omega⟩, ?_⟩;conv=>whnf
   rw [Int.toNat_natCast];rcases hgj with e2 | e2
   ·rw [e2];conv=>whnf
    refine body none _ (by dsimp only; omega) ?_;clear body
    repeat' first | refine And.intro ?_ ?_ | exact trivial | rfl | omega | exact .inl rfl | exact λ_ _ => rfl | exact λ_ _ h => h | assumption | exact λi hi => (by obtain rfl : i = 0 := (by omega); rfl)
   ·rw [e2];conv=>whnf
    refine body (some (c j)) _ (by dsimp only; omega) ?_;clear body
    repeat' first | refine And.intro ?_ ?_ | exact trivial | rfl | omega | exact .inl rfl | exact λ_ _ => rfl | exact λ_ _ h => h | assumption | exact λi hi => (by obtain rfl : i = 0 := (by omega); rfl)
  ·obtain rfl : j = P.length := by omega
   refine W.exit (hK3 _ ?_);clear hK7 hK3;rw [List.take_length] at hd4 ⊢;refine W.region (za _) (by rfl) ?_;conv=>whnf
   refine hK8 _ ?_;clear hK8;refine W.region (za _) (by rfl) ?_;conv=>whnf
   refine ⟨by constructor <;> omega, ?_⟩;conv=>whnf
   refine ⟨_, _, hs2, ⟨by omega, k + 1, zq v P, d, λi => .wh 2 (d i) ((zq v P).getD i 0).l, by omega, hC', λ_ _ => .inr rfl, λ_ => ⟨hd4.mono hb1 (Nat.le_refl _), λ_ _ => rfl⟩, rfl, rfl⟩, by omega, by dsimp only; omega, ?_⟩
   repeat' first | refine And.intro ?_ ?_ | exact trivial | rfl | omega | exact .inl rfl | exact λ_ _ => rfl | exact λ_ _ h => h | assumption | exact λi hi => (by obtain rfl : i = 0 := (by omega); rfl)
 ·obtain rfl : k = L.length := by omega
  rw [List.take_length] at hC;obtain ⟨hfr, hgw⟩ := hgk hL1;refine W.exit (hK1 _ ?_);clear hK7 hK1;refine W.rs (za _) (by rfl) λK hK => ?_;conv=>whnf
  refine hK _ (W.ret ?_);conv=>whnf
  exact ⟨.v (vPw c P), ⟨rfl, rfl, rfl, hgw⟩, ⟨trivial, λj hj => (hfr j hj).1.1⟩, P, c, hC.done hf0 hs hL, hfr, rfl⟩


def jP (x y : Int) : Int := if x < y then -1 else if y < x then 1 else 0
def kb (f g : List Int) : Nat -> Int
 | 0 => 0
 | n + 1 => if cf f n < cf g n then -1 else if cf g n < cf f n then 1 else kb f g n
def xI (f g : List Int) : Int := if f.length < g.length then -1 else if g.length < f.length then 1 else kb f g f.length

theorem zkx {xs ys : List Int} (h : xs.length ≠ ys.length) : xI xs ys = jP xs.length ys.length := by
 unfold xI jP
 by_cases h1 : xs.length < ys.length
 ·rw [if_pos h1, if_pos (by omega)]
 ·rw [if_neg h1, if_pos (by omega), if_neg (by omega), if_pos (by omega)]

theorem zbb (x : Int) : FnV 84 [.int .i64 x] (.bool false) := by
 refine zm (za [0, 2]) Try.func84 rfl (by decide) Try.ntmps84 (Nat.le_of_ble_eq_true rfl) λbase => ?_;refine W.rs (za _) (by rfl) λK hK => ?_;conv=>whnf
 refine hK _ ?_;clear hK;refine W.rs (za _) (by rfl) λK hK => ?_;conv=>whnf
 refine hK _ (W.ret ?_);conv=>whnf
 exact ⟨.v (.bool false), (decide_eq_false λh : x ≠ x => h rfl), trivial, rfl⟩
theorem kd (x : Int) : FnV 85 [.int .i64 x] (.bool false) := by
 refine zm (za [0, 2]) Try.func85 rfl (by decide) Try.ntmps85 (Nat.le_of_ble_eq_true rfl) λbase => ?_;refine W.rs (za _) (by rfl) λK hK => ?_;conv=>whnf
 refine hK _ ?_;clear hK;refine W.rs (za _) (by rfl) λK hK => ?_;conv=>whnf
 refine hK _ (W.ret ?_);conv=>whnf
 exact ⟨.v (.bool false), (decide_eq_false λh : x ≠ x => h rfl), trivial, rfl⟩
theorem zc4 (x y : Int) : FnV 55 [.int .i64 x, .int .i64 y] (.int .i64 (jP x y)) := by
 refine zm (za [0, 1, 4, 5, 6, 11, 12, 13, 16, 19]) Try.func55 rfl (by decide) Try.ntmps55 (Nat.le_of_ble_eq_true rfl) λbase => ?_;refine W.rs (za _) (by rfl) λK hK => ?_;conv=>whnf
 refine hK _ ?_;clear hK;refine W.rs (za _) (by rfl) λK hK => ?_;conv=>whnf
 refine zl rfl (zbb x) λhs' hhs => ?_;try dsimp only at hhs
 conv=>whnf
 refine hK _ ?_;clear hK;refine W.rs (za _) (by rfl) λK hK => ?_;conv=>whnf
 refine zl rfl (zbb y) λhs' hhs => ?_;try dsimp only at hhs
 conv=>whnf
 refine hK _ ?_;clear hK;refine W.seqK λK1 hK1 => W.rs (za _) (by rfl) λK hK => ?_;conv=>whnf
 refine hK _ (W.cond ⟨λh => absurd h (by decide), λ_ => W.skip (hK1 _ ?_)⟩);clear hK hK1;refine W.seqK λK1 hK1 => W.rs (za _) (by rfl) λK hK => ?_;conv=>whnf
 refine hK _ (W.cond ⟨λh => absurd h (by decide), λ_ => W.skip (hK1 _ ?_)⟩);clear hK hK1;refine W.seqK λK1 hK1 => W.rs (za _) (by rfl) λK hK => ?_;conv=>whnf
 refine hK _ (W.cond ⟨λh => ?_, λh => ?_⟩) <;> clear hK
 ·have h := of_decide_eq_true h;refine W.rs (za _) (by rfl) λK hK => ?_;conv=>whnf
  refine hK _ (W.ret ?_);conv=>whnf
  exact ⟨.v (.int .i64 (jP x y)), ⟨rfl, by rw [jP, if_pos h]⟩, trivial, rfl⟩
 ·have h := of_decide_eq_false h;refine W.skip (hK1 _ ?_);clear hK1;refine W.seqK λK1 hK1 => W.rs (za _) (by rfl) λK hK => ?_;conv=>whnf
  refine hK _ (W.cond ⟨λh2 => ?_, λh2 => ?_⟩) <;> clear hK
  ·have h2 := of_decide_eq_true h2;refine W.rs (za _) (by rfl) λK hK => ?_;conv=>whnf
   refine hK _ (W.ret ?_);conv=>whnf
   exact ⟨.v (.int .i64 (jP x y)), ⟨rfl, by rw [jP, if_neg h, if_pos h2]⟩, trivial, rfl⟩
  ·have h2 := of_decide_eq_false h2;refine W.skip (hK1 _ ?_);clear hK1;refine W.rs (za _) (by rfl) λK hK => ?_;conv=>whnf
   refine hK _ (W.ret ?_);conv=>whnf
   exact ⟨.v (.int .i64 (jP x y)), ⟨rfl, by rw [jP, if_neg h, if_neg h2]⟩, trivial, rfl⟩
theorem zbn (x y : Int) : FnV 56 [.int .i64 x, .int .i64 y] (.int .i64 (jP x y)) := by
 refine zm (za [0, 1, 4, 5, 6, 11, 12, 13, 16, 19]) Try.func56 rfl (by decide) Try.ntmps56 (Nat.le_of_ble_eq_true rfl) λbase => ?_;refine W.rs (za _) (by rfl) λK hK => ?_;conv=>whnf
 refine hK _ ?_;clear hK;refine W.rs (za _) (by rfl) λK hK => ?_;conv=>whnf
 refine zl rfl (kd x) λhs' hhs => ?_;try dsimp only at hhs
 conv=>whnf
 refine hK _ ?_;clear hK;refine W.rs (za _) (by rfl) λK hK => ?_;conv=>whnf
 refine zl rfl (kd y) λhs' hhs => ?_;try dsimp only at hhs
 conv=>whnf
 refine hK _ ?_;clear hK;refine W.seqK λK1 hK1 => W.rs (za _) (by rfl) λK hK => ?_;conv=>whnf
 refine hK _ (W.cond ⟨λh => absurd h (by decide), λ_ => W.skip (hK1 _ ?_)⟩);clear hK hK1;refine W.seqK λK1 hK1 => W.rs (za _) (by rfl) λK hK => ?_;conv=>whnf
 refine hK _ (W.cond ⟨λh => absurd h (by decide), λ_ => W.skip (hK1 _ ?_)⟩);clear hK hK1;refine W.seqK λK1 hK1 => W.rs (za _) (by rfl) λK hK => ?_;conv=>whnf
 refine hK _ (W.cond ⟨λh => ?_, λh => ?_⟩) <;> clear hK
 ·have h := of_decide_eq_true h;refine W.rs (za _) (by rfl) λK hK => ?_;conv=>whnf
  refine hK _ (W.ret ?_);conv=>whnf
  exact ⟨.v (.int .i64 (jP x y)), ⟨rfl, by rw [jP, if_pos h]⟩, trivial, rfl⟩
 ·have h := of_decide_eq_false h;refine W.skip (hK1 _ ?_);clear hK1;refine W.seqK λK1 hK1 => W.rs (za _) (by rfl) λK hK => ?_;conv=>whnf
  refine hK _ (W.cond ⟨λh2 => ?_, λh2 => ?_⟩) <;> clear hK
  ·have h2 := of_decide_eq_true h2;refine W.rs (za _) (by rfl) λK hK => ?_;conv=>whnf
   refine hK _ (W.ret ?_);conv=>whnf
   exact ⟨.v (.int .i64 (jP x y)), ⟨rfl, by rw [jP, if_neg h, if_pos h2]⟩, trivial, rfl⟩
  ·have h2 := of_decide_eq_false h2;refine W.skip (hK1 _ ?_);clear hK1;refine W.rs (za _) (by rfl) λK hK => ?_;conv=>whnf
   refine hK _ (W.ret ?_);conv=>whnf
   exact ⟨.v (.int .i64 (jP x y)), ⟨rfl, by rw [jP, if_neg h, if_neg h2]⟩, trivial, rfl⟩
theorem jq (g g' : Option Nat) (xs ys : List Int) (hx : xs.length <= 1000000) (_ : ys.length <= 1000000) : FnV 32 [.ints g xs, .ints g' ys] (.int .i64 (xI xs ys)) := by
 refine zm (za [0, 1, 4, 5, 10, 20, 31]) Try.func32 rfl (by decide) Try.ntmps32 (Nat.le_of_ble_eq_true rfl) λbase => ?_;refine W.rs (za _) (by rfl) λK hK => ?_;conv=>whnf
 refine hK _ ?_;clear hK;refine W.seqK λK1 hK1 => W.rs (za _) (by rfl) λK hK => ?_;conv=>whnf
 refine hK _ (W.cond ⟨λh => ?_, λh => ?_⟩) <;> clear hK
 ·have h := of_decide_eq_true h;refine W.rs (za _) (by rfl) λK hK => ?_;conv=>whnf
  refine zl rfl (zc4 xs.length ys.length) λhs' hhs => ?_;try dsimp only at hhs
  conv=>whnf
  refine hK _ ?_;clear hK;have h' : xs.length ≠ ys.length := λe => h (by rw [e]);refine W.ret ?_;conv=>whnf
  exact ⟨.v (.int .i64 (xI xs ys)), ⟨rfl, (zkx h').symm⟩, trivial, rfl⟩
 ·have h := of_decide_eq_false h;have h' : xs.length = ys.length := by omega
  refine W.skip (hK1 _ ?_);clear hK1;refine W.seqK λK1 hK1 => W.rs (za _) (by rfl) λK hK => ?_;conv=>whnf
  refine ⟨by constructor <;> omega, ?_⟩;conv=>whnf
  refine hK _ (W.block (W.invA (λm e => ∃ n : Nat, n <= xs.length ∧ xI xs ys = kb xs ys n ∧ m = n ∧ e = [(0, .v (.ints g xs)), (1, .v (.ints g' ys)), (5, .v (.int .i64 ((n : Int) - 1)))]) ⟨xs.length, Nat.le_refl _, by unfold xI; rw [if_neg (by omega), if_neg (by omega)], rfl, rfl⟩ ?_));clear hK;rintro m e ⟨n, h1, h2, hm, rfl⟩;refine W.seqK λK7 hK7 => W.rs (za _) (by rfl) λK hK => ?_;conv=>whnf
  refine hK _ (W.cond ⟨λh3 => ?_, λh3 => ?_⟩) <;> clear hK <;> (first | replace h3 := of_decide_eq_true h3 | replace h3 := of_decide_eq_false h3)
  ·obtain ⟨k, rfl⟩ : ∃ k, n = k + 1 := ⟨n - 1, by omega⟩
   have ek : (((k + 1 : Nat) : Int) - 1) = (k : Int) := by omega
   rw [ek];refine W.skip (hK7 _ ?_);clear hK7;refine W.seqK λK8 hK8 => W.block ?_;refine W.rd (za _) follows (by rfl) λK hK => ?_;conv=>whnf
   refine ⟨⟨by omega, by omega⟩, ?_⟩;conv=>whnf
   refine ⟨⟨by omega, by omega⟩, ?_⟩;conv=>whnf
   rw [Int.toNat_natCast];refine hK _ (W.cond ⟨λh4 => ?_, λh4 => ?_⟩) <;> clear hK
   ·have h4 : cf xs k ≠ cf ys k := of_decide_eq_true h4;refine W.rd (za _) follows (by rfl) λK hK => ?_;conv=>whnf
    refine ⟨⟨by omega, by omega⟩, ?_⟩;conv=>whnf
    refine ⟨⟨by omega, by omega⟩, ?_⟩;conv=>whnf
    rw [Int.toNat_natCast];refine ⟨_, cxF (zbn (cf xs k) (cf ys k)), ?_⟩;conv=>whnf
    refine hK _ (W.ret ?_);conv=>whnf
    exact ⟨.v (.int .i64 (xI xs ys)), ⟨rfl, by rw [h2]; unfold kb jP; by_cases h5 : cf xs k < cf ys k <;> by_cases h6 : cf ys k < cf xs k <;> first | omega | simp [h5, h6]⟩, trivial, rfl⟩
   ·have h4 : ¬ cf xs k ≠ cf ys k := of_decide_eq_false h4;refine W.skip (hK8 _ ?_);clear hK8;refine W.region (za _) (by rfl) ?_;conv=>whnf
    refine ⟨by constructor <;> omega, ?_⟩;conv=>whnf
    exact zp ⟨k, by omega, by rw [h2]; exact (if_neg (by omega)).trans (if_neg (by omega)), rfl, rfl⟩
  ·obtain rfl : n = 0 := by omega
   refine W.exit (hK1 _ ?_);clear hK7 hK1;refine W.rs (za _) (by rfl) λK hK => ?_;conv=>whnf
   refine hK _ (W.ret ?_);conv=>whnf
   exact ⟨.v (.int .i64 (xI xs ys)), ⟨rfl, h2.symm⟩, trivial, rfl⟩

theorem zc5 (g g' : Option Nat) (xs ys : List Int) (hx : xs.length <= 1000000) (_ : ys.length <= 1000000) : FnV 65 [.ints g xs, .ints g' ys] (.int .i64 (xI xs ys)) := by
 refine zm (za [0, 1, 4, 5, 6, 12, 22, 25, 35]) Try.func65 rfl (by decide) Try.ntmps65 (Nat.le_of_ble_eq_true rfl) λbase => ?_;refine W.rs (za _) (by rfl) λK hK => ?_;conv=>whnf
 refine hK _ ?_;clear hK;refine W.seqK λK1 hK1 => W.block (W.rs (za _) (by rfl) λK hK => ?_);conv=>whnf
 refine hK _ (W.cond ⟨λh => ?_, λh => ?_⟩) <;> clear hK
 ·have h := of_decide_eq_true h;refine W.rs (za _) (by rfl) λK hK => ?_;conv=>whnf
  refine hK _ (W.ret ?_);conv=>whnf
  exact ⟨.v (.int .i64 (xI xs ys)), ⟨rfl, by unfold xI; rw [if_pos (by omega)]⟩, trivial, rfl⟩
 have h := of_decide_eq_false h;refine W.rs (za _) (by rfl) λK hK => ?_;conv=>whnf
 refine hK _ (W.cond ⟨λh' => ?_, λh' => ?_⟩) <;> clear hK
 ·have h' := of_decide_eq_true h';refine W.rs (za _) (by rfl) λK hK => ?_;conv=>whnf
  refine hK _ (W.ret ?_);conv=>whnf
  exact ⟨.v (.int .i64 (xI xs ys)), ⟨rfl, by unfold xI; rw [if_neg (by omega), if_pos (by omega)]⟩, trivial, rfl⟩
 have h' := of_decide_eq_false h';refine W.skip (hK1 _ ?_);clear hK1;refine W.seqK λK1 hK1 => W.rs (za _) (by rfl) λK hK => ?_;conv=>whnf
 refine ⟨by constructor <;> omega, ?_⟩;conv=>whnf
 refine hK _ (W.block (W.invA (λm e => ∃ n : Nat, n <= xs.length ∧ xI xs ys = kb xs ys n ∧ m = n ∧ e = [(0, .v (.ints g xs)), (1, .v (.ints g' ys)), (5, .v (.int .i64 ((n : Int) - 1)))]) ⟨xs.length, Nat.le_refl _, by unfold xI; rw [if_neg (by omega), if_neg (by omega)], rfl, rfl⟩ ?_));clear hK;rintro m e ⟨n, h1, h2, hm, rfl⟩;refine W.seqK λK7 hK7 => W.rs (za _) (by rfl) λK hK => ?_;conv=>whnf
 refine hK _ (W.cond ⟨λh3 => ?_, λh3 => ?_⟩) <;> clear hK <;> (first | replace h3 := of_decide_eq_true h3 | replace h3 := of_decide_eq_false h3)
 ·obtain ⟨k, rfl⟩ : ∃ k, n = k + 1 := ⟨n - 1, by omega⟩
  have ek : (((k + 1 : Nat) : Int) - 1) = (k : Int) := by omega
  rw [ek];refine W.skip (hK7 _ ?_);clear hK7;refine W.seqK λK8 hK8 => W.block ?_;refine W.block ?_;refine W.rd (za _) follows (by rfl) λK hK => ?_;conv=>whnf
  refine ⟨⟨by omega, by omega⟩, ?_⟩;conv=>whnf
  refine ⟨⟨by omega, by omega⟩, ?_⟩;conv=>whnf
  rw [Int.toNat_natCast];refine hK _ (W.cond ⟨λh4 => ?_, λh4 => ?_⟩) <;> clear hK
  ·have h4 : cf xs k < cf ys k := of_decide_eq_true h4;refine W.rs (za _) (by rfl) λK hK => ?_;conv=>whnf
   refine hK _ (W.ret ?_);conv=>whnf
   exact ⟨.v (.int .i64 (xI xs ys)), ⟨rfl, by rw [h2]; unfold kb; rw [if_pos h4]⟩, trivial, rfl⟩
  have h4 : ¬ cf xs k < cf ys k := of_decide_eq_false h4;refine W.rd (za _) follows (by rfl) λK hK => ?_;conv=>whnf
  refine ⟨⟨by omega, by omega⟩, ?_⟩;conv=>whnf
  refine ⟨⟨by omega, by omega⟩, ?_⟩;conv=>whnf
  rw [Int.toNat_natCast];refine hK _ (W.cond ⟨λh5 => ?_, λh5 => ?_⟩) <;> clear hK
  ·have h5 : cf ys k < cf xs k := of_decide_eq_true h5;refine W.rs (za _) (by rfl) λK hK => ?_;conv=>whnf
   refine hK _ (W.ret ?_);conv=>whnf
   exact ⟨.v (.int .i64 (xI xs ys)), ⟨rfl, by rw [h2]; unfold kb; rw [if_neg h4, if_pos h5]⟩, trivial, rfl⟩
  have h5 : ¬ cf ys k < cf xs k := of_decide_eq_false h5;refine W.skip (hK8 _ ?_);clear hK8;refine W.region (za _) (by rfl) ?_;conv=>whnf
  refine ⟨by constructor <;> omega, ?_⟩;conv=>whnf
  exact zp ⟨k, by omega, by rw [h2]; exact (if_neg (by omega)).trans (if_neg (by omega)), rfl, rfl⟩
 ·obtain rfl : n = 0 := by omega
  refine W.exit (hK1 _ ?_);clear hK7 hK1;refine W.rs (za _) (by rfl) λK hK => ?_;conv=>whnf
  refine hK _ (W.ret ?_);conv=>whnf
  exact ⟨.v (.int .i64 (xI xs ys)), ⟨rfl, h2.symm⟩, trivial, rfl⟩

theorem zfP {f g : List Int} : ∀ n, kb f g n < 0 ↔ ∃ i, i < n ∧ cf f i < cf g i ∧ ∀ j, i < j -> j < n -> cf f j = cf g j
 | 0 => ⟨λh => by simp [kb] at h, λ⟨i, h, _⟩ => by omega⟩
 | n + 1 => by
  unfold kb
  by_cases h1 : cf f n < cf g n
  ·rw [if_pos h1];exact ⟨λ_ => ⟨n, by omega, h1, λj h2 h3 => by omega⟩, λ_ => by omega⟩
  ·rw [if_neg h1]
   by_cases h2 : cf g n < cf f n
   ·rw [if_pos h2];refine ⟨λh => by omega, λ⟨i, h3, h4, h5⟩ => ?_⟩
    by_cases hi : i = n
    ·subst hi; omega
    ·have := h5 n (by omega) (by omega); omega
   ·rw [if_neg h2, zfP n]
    constructor
    ·rintro ⟨i, h3, h4, h5⟩;refine ⟨i, by omega, h4, λj h6 h7 => ?_⟩
     by_cases hj : j = n
     ·subst hj; omega
     ·exact h5 j h6 (by omega)
    ·rintro ⟨i, h3, h4, h5⟩
     by_cases hi : i = n
     ·subst hi; omega
     ·exact ⟨i, by omega, h4, λj h6 h7 => h5 j h6 (by omega)⟩
theorem zbB {p : Int} [SP p] (f g : Poly p) : xI f.l g.l < 0 ↔ ltP f g := by
 have hf : f.l.length = dg f := rfl;have hg : g.l.length = dg g := rfl;unfold xI ltP
 by_cases h1 : f.l.length < g.l.length
 ·rw [if_pos h1]; exact ⟨λ_ => .inl h1, λ_ => by omega⟩
 ·rw [if_neg h1]
  by_cases h2 : g.l.length < f.l.length
  ·rw [if_pos h2]; exact ⟨λh => by omega, λh => by omega⟩
  ·rw [if_neg h2, zfP];have he : ∀ j, f.l.length <= j -> cf f.l j = cf g.l j := λj hj => by rw [zV hj, zV (by omega)]
   constructor
   ·rintro ⟨i, h3, h4, h5⟩
    exact .inr ⟨by omega, i, h4, λj hj => by
     by_cases h6 : j < f.l.length
     ·exact h5 j hj h6
     ·exact he j (by omega)⟩
   ·rintro (h | ⟨_, i, h4, h5⟩)
    ·omega
    ·refine ⟨i, ?_, h4, λj hj _ => h5 j hj⟩
     by_cases h6 : i < f.l.length
     ·exact h6
     ·have := he i (by omega); omega

end Go.Proofs.Ytffhmebkkbfaeaa
