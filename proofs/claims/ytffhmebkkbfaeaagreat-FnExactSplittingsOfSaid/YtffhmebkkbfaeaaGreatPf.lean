/- What the program's functions and the reference's return. No conditions. -/
import Derived.Test.YtffhmebkkbfaeaaGreatPe
import Derived.Test.YtffhmebkkbfaeaaGreatProg
namespace Go.Proofs.YtffhmebkkbfaeaaGreat
open Go Go.RowKit Go.Proofs

def tt : TT := [(2, zkM),
 (3, zkM),
 (83, zhV),
 (174, zhV),
 (4, zkN),
 (22, xR 2),
 (77, xR 22),
 (5, tiU8),
 (32, xR 5),
 (164, xR 3),
 (201, xR 4),
 (145, y3 [(0, 22), (1, 2)] 32 [.nil, .int .i64 0]),
 (142, xR 145),
 (35, y3 [(0, 2), (1, 2)] 16 [.int .i64 0, .int .i64 0]),
 (45, y3 [(0, 2), (1, 22)] 32 [.int .i64 0, .nil]),
 (37, y3 [(0, 35), (2, 22)] 40 [.int .i64 0, .int .i64 0, .nil]),
 (136, y3 [(0, 2), (1, 2)] 16 [.int .i64 0, .int .i64 0]),
 (133, xR 136),
 (100, y3 [(0, 2), (1, 2), (2, 2)] 24 [.int .i64 0, .int .i64 0, .int .i64 0]),
 (101, xR 100),
 (61, y3 [(0, 2), (1, 2), (2, 2)] 24 [.int .i64 0, .int .i64 0, .int .i64 0]),
 (23, xR 61),
 (132, y3 [(0, 32), (1, 3), (2, 2)] 40 [.nil, .int .i64 0, .int .i64 0])]
theorem zhl : ze8 Tryz.prog tt :=
 ⟨zgp (by kernel_rfl) Tryz.underlying2,
  zgp (by kernel_rfl) Tryz.underlying3,
  zeB (by kernel_rfl) Tryz.underlying83,
  zeB (by kernel_rfl) Tryz.underlying174,
  zjK (by kernel_rfl) Tryz.underlying4,
  yh (by kernel_rfl) Tryz.underlying22,
  yh (by kernel_rfl) Tryz.underlying77,
  zmw (by kernel_rfl) Tryz.underlying5,
  yh (by kernel_rfl) Tryz.underlying32,
  yh (by kernel_rfl) Tryz.underlying164,
  yh (by kernel_rfl) Tryz.underlying201,
  yd (by kernel_rfl) Tryz.underlying145 rfl (by kernel_rfl) (by decide) (by decide) rfl,
  yh (by kernel_rfl) Tryz.underlying142,
  yd (by kernel_rfl) Tryz.underlying35 rfl (by kernel_rfl) (by decide) (by decide) rfl,
  yd (by kernel_rfl) Tryz.underlying45 rfl (by kernel_rfl) (by decide) (by decide) rfl,
  yd (by kernel_rfl) Tryz.underlying37 rfl (by kernel_rfl) (by decide) (by decide) rfl,
  yd (by kernel_rfl) Tryz.underlying136 rfl (by kernel_rfl) (by decide) (by decide) rfl,
  yh (by kernel_rfl) Tryz.underlying133,
  yd (by kernel_rfl) Tryz.underlying100 rfl (by kernel_rfl) (by decide) (by decide) rfl,
  yh (by kernel_rfl) Tryz.underlying101,
  yd (by kernel_rfl) Tryz.underlying61 rfl (by kernel_rfl) (by decide) (by decide) rfl,
  yh (by kernel_rfl) Tryz.underlying23,
  yd (by kernel_rfl) Tryz.underlying132 rfl (by kernel_rfl) (by decide) (by decide) rfl, trivial⟩

def ms : List (Nat × Nat) := [(237, 0), (225, 0), (209, 0), (236, 1)
 , (12, 0)
 , (13, 0)
 , (155, 0)
 , (101, 0)
 , (205, 0)
 , (190, 0)
 , (168, 0)
 , (170, 0)
 , (192, 0)
 , (154, 0)
 , (91, 0)
 , (204, 0)
 , (169, 0)
 , (218, 0)
 , (191, 0)
 , (112, 0)
 , (113, 0)
 ]
theorem zdM : znk Tryz.prog 61 3 := by
 intro w xs ys x y hx hy
 obtain ⟨a, b, c, rfl⟩ : ∃ a b c, xs = [a, b, c] := by
  match xs, hx with
  | [a, b, c], _ => exact ⟨a, b, c, rfl⟩
 obtain ⟨a', b', c', rfl⟩ : ∃ a b c, ys = [a, b, c] := by
  match ys, hy with
  | [a, b, c], _ => exact ⟨a, b, c, rfl⟩
 refine ⟨run_eqGuard_agg w _ _ _ _ _ _ (by kernel_rfl), ?_⟩;rw [run_neq_struct, run_equalIn_agg w 9999 _ _ _ (by kernel_rfl) (by kernel_rfl)];simp only [Program.fieldsOf, Tryz.underlying61]
 have h1 (cs : Array Value) (j : Nat) (hj : j < cs.size) : (Go.part 2 cs j).run Tryz.prog w = .ok (cs.getD j undef) w := by
  unfold Go.part;simp [hj, Array.getD]
 have h2 (p q : Int) : (Op.equalIn 9999 2 (.int .i64 p) (.int .i64 q)).run Tryz.prog w = .ok (p == q) w := run_equalIn_int w 9998 _ .i64 .i64 p q Tryz.underlying2;simp [Op.eqFields, h1, h2, Array.getD]
 by_cases h1 : a = a' <;> by_cases h2 : b = b' <;> by_cases h3 : c = c' <;> simp [h1, h2, h3]
def eqs : List (Nat × Nat) := []
 ++ [(61, 3)]
theorem zdN : ∀ q ∈ eqs, znk Tryz.prog q.1 q.2 := by
 intro q hq;unfold eqs at hq;simp at hq
 subst hq; exact zdM
def cx (ks : List Nat) : Cx := { F := Fn Tryz.prog, M := MFn Tryz.prog, T := FnT Tryz.prog, ms := ms, ts := [], tt := tt, eqs := eqs, gh := .no, ks := ks }
theorem za (ks : List Nat) : OkCx Tryz.prog (cx ks) := ⟨λ_ _ _ h => h, λ_ _ _ _ _ _ h => h, λ_ _ _ h => h, zhl, zdN⟩
def cxm (ks : List Nat) : Cx := { F := Fn Tryz.prog, M := MFn Tryz.prog, T := FnT Tryz.prog, ms := ms, ts := [], tt := tt, eqs := eqs, gh := .mv, ks := ks }
theorem zl (ks : List Nat) : OkCx Tryz.prog (cxm ks) := ⟨λ_ _ _ h => h, λ_ _ _ _ _ _ h => h, λ_ _ _ h => h, zhl, zdN⟩
def cxr (ks : List Nat) : Cx := { F := Fn Tryz.prog, M := MFn Tryz.prog, T := FnT Tryz.prog, ms := ms, ts := [], tt := tt, eqs := eqs, gh := .tr, ks := ks }
theorem zfK (ks : List Nat) : OkCx Tryz.prog (cxr ks) := ⟨λ_ _ _ h => h, λ_ _ _ _ _ _ h => h, λ_ _ _ h => h, zhl, zdN⟩
def cxt (ts ks : List Nat) : Cx := { F := Fn Tryz.prog, M := MFn Tryz.prog, T := FnT Tryz.prog, ms := ms, ts := ts, tt := tt, eqs := eqs, gh := .mt, ks := ks }
theorem zfL (ts ks : List Nat) : OkCx Tryz.prog (cxt ts ks) := ⟨λ_ _ _ h => h, λ_ _ _ _ _ _ h => h, λ_ _ _ h => h, zhl, zdN⟩
theorem W.sw {P : Program} {c c' : Cx} {N base : Nat} {x : Code} {QQ : Exit -> S -> Prop} {s : S} (h : W P c' N base x QQ s) : W P c N base x QQ s := h
theorem follows : Tryz.prog.follows .mixedOrders = true := by kernel_rfl

abbrev FnV (f : Nat) (xs : List V) (r : V) : Prop := Fn Tryz.prog f xs (λ_ _ a => a = .v r)
abbrev FnI (f : Nat) (xs : List V) (l : List Int) : Prop := Fn Tryz.prog f xs (λ_ _ a => ∃ b, a = .ownI 2 b l)

theorem yT {c : Cx} (hc : c.F = Fn Tryz.prog) {K : S -> Prop} {d : Nat} {e : Env} {hs f : Nat} {xs : List V} {post : zd5} (h : Fn Tryz.prog f xs post) (k : ∀ lo hi hi' a, hs <= lo -> lo <= hi' -> hi <= hi' -> post lo hi a -> a.fresh lo hi' -> K1 K hi' d e a) : zaJ c K d e hs f xs :=
 ⟨post, by rw [hc]; exact h, k⟩
theorem zc {c : Cx} (hc : c.F = Fn Tryz.prog) {K : S -> Prop} {d : Nat} {e : Env} {hs f : Nat} {xs : List V} {r : V} (h : FnV f xs r) (k : ∀ hs', hs <= hs' -> K1 K hs' d e (.v r)) : zaJ c K d e hs f xs :=
 yT hc h λlo hi hi' a h1 h2 _ h3 _ => by subst h3; exact k _ (Nat.le_trans h1 h2)
theorem zv {c : Cx} (hc : c.F = Fn Tryz.prog) {K : S -> Prop} {d : Nat} {e : Env} {hs f : Nat} {xs : List V} {l : List Int} (h : FnI f xs l) (k : ∀ hs' b, hs <= hs' -> (l ≠ [] -> hs <= b ∧ b < hs') -> K1 K hs' d e (.ownI 2 b l)) : zaJ c K d e hs f xs :=
 yT hc h λlo hi hi' a h1 h2 _ h3 h4 => by
  obtain ⟨b, rfl⟩ := h3;exact k _ b (Nat.le_trans h1 h2) λhne => by have := h4 hne; omega
theorem FnV.mono {f : Nat} {xs : List V} {r r' : V} (h : FnV f xs r) (e : r = r') : FnV f xs r' := e ▸ h

theorem W.inv {P : Program} {c : Cx} {N base : Nat} {x : Code} {QQ : Exit -> S -> Prop} {s : S} (I : Nat -> S -> Prop) (m0 : Nat) (s0 : S) (h0 : I m0 s0) (hle : le s s0) (hb : ∀ m s, I m s -> base <= s.hs)
  (round : ∀ m s, I m s -> W P c N base x (Ex (λs' => ∃ m' s'', I m' s'' ∧ m' < m ∧ le s' s'') QQ) s) : W P c N base (.loop x) QQ s :=
 W.loop (λt : { q : Nat × S // I q.1 q.2 } => t.1.2) (λt => t.1.1) ⟨(m0, s0), h0⟩ hle (λt => hb _ _ t.2) λt => (round _ _ t.2).mono λe s' h => by
  cases e with
  | normal => obtain ⟨m', s'', h1, h2, h3⟩ := h; exact ⟨⟨(m', s''), h1⟩, h2, h3⟩
  | _ => exact h

theorem W.invE {P : Program} {c : Cx} {N base : Nat} {x : Code} {QQ : Exit -> S -> Prop} {s : S} (I : Nat -> Env -> Prop) (m0 : Nat) (e0 : Env) (h0 : I m0 e0) (hh : base <= s.hs) (hc : zB s.env e0)
  (round : ∀ m e, I m e -> W P c N base x (Ex (λs' => ∃ m' e', I m' e' ∧ m' < m ∧ base <= s'.hs ∧ zB s'.env e') QQ) ⟨e, base⟩) : W P c N base (.loop x) QQ s :=
 W.inv (λm s => I m s.env ∧ s.hs = base) m0 ⟨e0, base⟩ ⟨h0, rfl⟩ ⟨hh, hc⟩ (λm s h => Nat.le_of_eq h.2.symm) λm s h => by
  obtain ⟨e, hs⟩ := s;obtain ⟨h, rfl⟩ := h;refine (round m e h).mono λex s' hq => ?_;cases ex with
  | normal => obtain ⟨m', e', h1, h2, h3, h4⟩ := hq; exact ⟨m', ⟨e', _⟩, ⟨h1, rfl⟩, h2, h3, h4⟩
  | _ => exact hq

theorem W.invA {P : Program} {c : Cx} {N base : Nat} {x : Code} {QQ : Exit -> S -> Prop} {s : S} (I : Nat -> Env -> Prop) {m0 : Nat} {e0 : Env} (h0 : I m0 e0)
 (round : ∀ m e, I m e -> W P c N base x (Ex (λs' => ∃ m' e', I m' e' ∧ m' < m ∧ base <= s'.hs ∧ zB s'.env e') QQ) ⟨e, base⟩)
 (hh : base <= s.hs := by dsimp only; omega) (hc : zB s.env e0 := by repeat' first | refine And.intro ?_ ?_ | exact trivial | rfl | omega | exact .inl rfl | exact λ_ _ => rfl | exact λ_ _ h => h | assumption | exact λi hi => (by obtain rfl : i = 0 := (by omega); rfl)) : W P c N base (.loop x) QQ s := W.invE I m0 e0 h0 hh hc round
theorem ze {I : Nat -> Env -> Prop} {m base : Nat} {s : S} {m' : Nat} {e' : Env} (h : I m' e') (h1 : m' < m := by omega) (h2 : base <= s.hs := by dsimp only; omega)
 (h3 : zB s.env e' := by repeat' first | refine And.intro ?_ ?_ | exact trivial | rfl | omega | exact .inl rfl | exact λ_ _ => rfl | exact λ_ _ h => h | assumption | exact λi hi => (by obtain rfl : i = 0 := (by omega); rfl)) : ∃ m' e', I m' e' ∧ m' < m ∧ base <= s.hs ∧ zB s.env e' := ⟨m', e', h, h1, h2, h3⟩

theorem W.condT {P : Program} {c : Cx} {N base : Nat} {x y : Code} {QQ : Exit -> S -> Prop} {s : S} {t : Nat} (h : get s.env t = .v .tr) (k : W P c N base x QQ s) : W P c N base (.cond (.tmp t) x y) QQ s :=
 W.cond (by rw [rdK, zb, h]; exact k)
theorem W.condF {P : Program} {c : Cx} {N base : Nat} {x y : Code} {QQ : Exit -> S -> Prop} {s : S} {t : Nat} (h : get s.env t = .v .fa) (k : W P c N base y QQ s) : W P c N base (.cond (.tmp t) x y) QQ s :=
 W.cond (by rw [rdK, zb, h]; exact k)

theorem cxF {ks : List Nat} {f : Nat} {xs : List V} {r : V} (h : FnV f xs r) : (cx ks).F f xs (λ_ _ a => a = .v r) := h
theorem cxmF {ks : List Nat} {f : Nat} {xs : List V} {r : V} (h : FnV f xs r) : (cxm ks).F f xs (λ_ _ a => a = .v r) := h

theorem W.invH {P : Program} {c : Cx} {N base : Nat} {x : Code} {QQ : Exit -> S -> Prop} {s : S} (h0 : Nat) (hb : base <= h0) (I : Nat -> Env -> Prop) (m0 : Nat) (e0 : Env) (hi : I m0 e0) (hh : h0 <= s.hs) (hc : zB s.env e0)
  (round : ∀ m e, I m e -> W P c N base x (Ex (λs' => ∃ m' e', I m' e' ∧ m' < m ∧ h0 <= s'.hs ∧ zB s'.env e') QQ) ⟨e, h0⟩) : W P c N base (.loop x) QQ s :=
 W.inv (λm s => I m s.env ∧ s.hs = h0) m0 ⟨e0, h0⟩ ⟨hi, rfl⟩ ⟨hh, hc⟩ (λm s h => by rw [h.2]; exact hb) λm s h => by
  obtain ⟨e, hs⟩ := s;obtain ⟨h, rfl⟩ := h;refine (round m e h).mono λex s' hq => ?_;cases ex with
  | normal => obtain ⟨m', e', h1, h2, h3, h4⟩ := hq; exact ⟨m', ⟨e', _⟩, ⟨h1, rfl⟩, h2, h3, h4⟩
  | _ => exact hq

def vPs {p : Int} [SP p] (L : List (Poly p)) : V := .vals none 1 L.length λj => .ints none (L.getD j 0).l

open Go Go.RowKit Go.Proofs

theorem lb {a b : Nat} (h : Nat.ble a b = true) : a <= b := Nat.le_of_ble_eq_true h
theorem cvr {p : Prop} (h : p := by (repeat' first | refine And.intro ?_ ?_ | exact trivial | rfl | omega | exact .inl rfl | exact λ_ _ => rfl | exact λ_ _ h => h | assumption | exact λi hi => (by obtain rfl : i = 0 := (by omega); rfl))) : p := h
theorem rx {p : Prop} (h : p := by ((conv=>whnf); exact ⟨Nat.le_refl _, rfl⟩)) : p := h
theorem ry {p : Prop} (h : p := by ((conv=>whnf); refine ⟨by first | assumption | omega | exact ⟨by omega, by omega⟩, ?_⟩; (conv=>whnf); exact ⟨Nat.le_refl _, rfl⟩)) : p := h
theorem dso {p : Prop} (h : p := by (dsimp only; omega)) : p := h
theorem s23 {p q : Prop} (h : p := by (first | (show 2 <= 2; omega) | (show 3 <= 3; omega))) (h' : q := by rfl) : p ∧ q := ⟨h, h'⟩
theorem oo {p q : Prop} (h : p := by omega) (h' : q := by omega) : p ∧ q := ⟨h, h'⟩
section
variable {N : Nat} {ops : Array Oper} {fuel : Nat} {listed : Array Bool} {K : S -> Prop} {s : S} {e : Env} {hs : Nat} {o o' : Oper}
theorem wd1 (h : K s) (hr : Region.ready .any ops listed = [] := by kernel_rfl) : Wany Tryz.prog N ops fuel listed K s := Wany.done hr h
theorem w1 (i : Nat) (h : z6 (cx []) o (λs' => match s' with | ⟨e, hs⟩ => Wany Tryz.prog N ops fuel (listed.setIfInBounds i true) K ⟨e, hs⟩) e hs) (hlt : zR N ops.toList = true := by rfl) (hr : Region.ready .any ops listed = [i] := by kernel_rfl) (hi : ops[i]? = some o := by rfl) (hg : o.guard = none := by rfl) :
 Wany Tryz.prog N ops (fuel + 1) listed K ⟨e, hs⟩ := Wany.one (za []) i hlt hr hi hg h
theorem w2 (i j : Nat) (h : z6 (cx []) o (λs' => match s' with | ⟨e, hs⟩ => Wany Tryz.prog N ops fuel (listed.setIfInBounds i true) K ⟨e, hs⟩) e hs) (h' : z6 (cx []) o' (λs' => match s' with | ⟨e, hs⟩ => Wany Tryz.prog N ops fuel (listed.setIfInBounds j true) K ⟨e, hs⟩) e hs)
 (hlt : zR N ops.toList = true := by rfl) (hr : Region.ready .any ops listed = [i, j] := by kernel_rfl) (hi : ops[i]? = some o := by rfl) (hg : o.guard = none := by rfl) (hj : ops[j]? = some o' := by rfl) (hg' : o'.guard = none := by rfl) :
 Wany Tryz.prog N ops (fuel + 1) listed K ⟨e, hs⟩ := Wany.two (za []) i j hlt hr hi hg hj hg' h h'
theorem wt (i : Nat) (h : z6 (cx []) o (λs' => match s' with | ⟨e, hs⟩ => Wany Tryz.prog N ops fuel (listed.setIfInBounds i true) K ⟨e, hs⟩) e hs) (hi : ops[i]? = some o := by rfl) (hg : o.guard = none := by rfl) (hlt : ∀ d, o.dst = some d -> d < N := by (exact λd hd => by injection hd with hd; subst hd; decide)) (hns : Region.noSelect ops = true := by kernel_rfl) (hf : Region.free .any ops listed i = true := by kernel_rfl)
 (hr : (Region.ready .any ops listed).contains i = true := by kernel_rfl) (hp : zbC o = true := by rfl) : Wany Tryz.prog N ops (fuel + 1) listed K ⟨e, hs⟩ := Wany.take (za []) i hi hg hlt hns hf hr hp h
theorem wi {d t : Nat} {x ix : Operand} (i : Nat) (h : z6 (cx []) o (λs' => match s' with | ⟨e, hs⟩ => Wany Tryz.prog N ops fuel (listed.setIfInBounds i true) K ⟨e, hs⟩) e hs) (hi : ops[i]? = some o := by rfl) (hg : o.guard = none := by rfl) (hdst : o.dst = some d := by rfl) (hop : o.op = .indexAddr t x ix := by rfl) (hdN : d < N := by decide)
 (hns : Region.noSelect ops = true := by kernel_rfl) (hf : Region.free .any ops listed i = true := by kernel_rfl) (hr : (Region.ready .any ops listed).contains i = true := by kernel_rfl) : Wany Tryz.prog N ops (fuel + 1) listed K ⟨e, hs⟩ := Wany.takeI (za []) i hi hg hdst hop hdN hns hf hr h
theorem wb {d t t' : Nat} {op : BinOp} {x y : Operand} (i : Nat) (h : z6 (cx []) o (λs' => match s' with | ⟨e, hs⟩ => Wany Tryz.prog N ops fuel (listed.setIfInBounds i true) K ⟨e, hs⟩) e hs) (hi : ops[i]? = some o := by rfl) (hg : o.guard = none := by rfl) (hdst : o.dst = some d := by rfl) (hop : o.op = .binOp op t x y t' := by rfl) (hdN : d < N := by decide)
 (hx : zb5 e x = true := by rfl) (hy : zb5 e y = true := by rfl) (hns : Region.noSelect ops = true := by kernel_rfl) (hf : Region.free .any ops listed i = true := by kernel_rfl) (hr : (Region.ready .any ops listed).contains i = true := by kernel_rfl) : Wany Tryz.prog N ops (fuel + 1) listed K ⟨e, hs⟩ := Wany.takeB (za []) i hi hg hdst hop hdN hx hy hns hf hr h
theorem wf {d t aa k : Nat} (i : Nat) (h : z6 (cx []) o (λs' => match s' with | ⟨e, hs⟩ => Wany Tryz.prog N ops fuel (listed.setIfInBounds i true) K ⟨e, hs⟩) e hs) (hi : ops[i]? = some o := by rfl) (hg : o.guard = none := by rfl) (hdst : o.dst = some d := by rfl) (hop : o.op = .fieldAddr t (.tmp aa) k := by rfl) (hdN : d < N := by decide)
 (hns : Region.noSelect ops = true := by kernel_rfl) (hf : Region.free .any ops listed i = true := by kernel_rfl) (hr : (Region.ready .any ops listed).contains i = true := by kernel_rfl) : Wany Tryz.prog N ops (fuel + 1) listed K ⟨e, hs⟩ := Wany.takeF (za []) i hi hg hdst hop hdN hns hf hr h
theorem w3 {o'' : Oper} (i j k : Nat) (h : z6 (cx []) o (λs' => match s' with | ⟨e, hs⟩ => Wany Tryz.prog N ops fuel (listed.setIfInBounds i true) K ⟨e, hs⟩) e hs) (h' : z6 (cx []) o' (λs' => match s' with | ⟨e, hs⟩ => Wany Tryz.prog N ops fuel (listed.setIfInBounds j true) K ⟨e, hs⟩) e hs)
  (h'' : z6 (cx []) o'' (λs' => match s' with | ⟨e, hs⟩ => Wany Tryz.prog N ops fuel (listed.setIfInBounds k true) K ⟨e, hs⟩) e hs)
  (hlt : zR N ops.toList = true := by rfl) (hr : Region.ready .any ops listed = [i, j, k] := by kernel_rfl) (hi : ops[i]? = some o := by rfl) (hg : o.guard = none := by rfl) (hj : ops[j]? = some o' := by rfl) (hg' : o'.guard = none := by rfl) (hk : ops[k]? = some o'' := by rfl) (hg'' : o''.guard = none := by rfl) :
  Wany Tryz.prog N ops (fuel + 1) listed K ⟨e, hs⟩ := Wany.all (za []) hlt hr (by simp) λq hq => by
 simp only [List.mem_cons, List.not_mem_nil, or_false] at hq
 rcases hq with rfl | rfl | rfl
 ·exact ⟨o, hi, hg, h⟩
 ·exact ⟨o', hj, hg', h'⟩
 ·exact ⟨o'', hk, hg'', h''⟩
variable {base : Nat} {ks : List Nat} {y : Code} {QQ : Exit -> S -> Prop} {id : Nat}
theorem wrs (h : ∀ K : S -> Prop, (∀ s, W Tryz.prog (cx ks) N base y QQ s -> K s) -> jq (cx ks) ops.toList ops.toList (λs => vw s.env (cx ks).ks λe => K ⟨e, s.hs⟩) s.env s.hs) (hlt : zR N ops.toList = true := by rfl) : W Tryz.prog (cx ks) N base (.seq (.region id ops false) y) QQ s := W.rs (za ks) hlt h
theorem wrg (h : jq (cx ks) ops.toList ops.toList (λs => vw s.env (cx ks).ks λe => QQ .normal ⟨e, s.hs⟩) s.env s.hs) (hlt : zR N ops.toList = true := by rfl) : W Tryz.prog (cx ks) N base (.region id ops false) QQ s := W.region (za ks) hlt h
end

open Go Go.RowKit Go.Proofs

set_option maxRecDepth 100000
set_option maxHeartbeats 8000000
theorem kN (n m : Int) (hm : 0 < m) (_ : -9223372036854775808 <= n ∧ n <= 9223372036854775807) (hm2 : m <= 4611686018427387904) : FnV 125 [.int .i64 n, .int .i64 m] (.int .i64 (n % m)) := by
 refine zf (za [0, 1, 4]) Tryz.func125 rfl (by decide) Tryz.ntmps125 (lb rfl) λbase => ?_;refine wrs λK hK => ?_;conv=>whnf
 refine hK _ (wrs λK hK => ?_);conv=>whnf
 refine ⟨by omega, ?_⟩;conv=>whnf
 have h1 : n.tmod m + m < 2 * m ∧ 0 < n.tmod m + m := by
  have := Int.tmod_lt_of_pos n hm;have := Int.lt_tmod_of_pos n hm;omega
 refine ⟨oo, ?_⟩;conv=>whnf
 refine ⟨by omega, ?_⟩;conv=>whnf
 refine hK _ (W.ret ?_);conv=>whnf
 exact ⟨.v (.int .i64 (n % m)), ⟨rfl, zg1 n m hm⟩, trivial, rfl⟩

theorem vu (n m : Int) (hm : 0 < m) (_ : -9223372036854775808 <= n ∧ n <= 9223372036854775807) (hm2 : m <= 4611686018427387904) : FnV 131 [.int .i64 n, .int .i64 m] (.int .i64 (n % m)) := by
 refine zf (za [0, 1, 4]) Tryz.func131 rfl (by decide) Tryz.ntmps131 (lb rfl) λbase => ?_;refine wrs λK hK => ?_;conv=>whnf
 refine hK _ (wrs λK hK => ?_);conv=>whnf
 refine ⟨by omega, ?_⟩;conv=>whnf
 have h1 : n.tmod m + m < 2 * m ∧ 0 < n.tmod m + m := by
  have := Int.tmod_lt_of_pos n hm;have := Int.lt_tmod_of_pos n hm;omega
 refine ⟨oo, ?_⟩;conv=>whnf
 refine ⟨by omega, ?_⟩;conv=>whnf
 refine hK _ (W.ret ?_);conv=>whnf
 exact ⟨.v (.int .i64 (n % m)), ⟨rfl, zg1 n m hm⟩, trivial, rfl⟩

theorem zbO (n a b : Int) : FnV 102 [.int .i64 n, .int .i64 a, .int .i64 b] (.bool (decide (a <= n ∧ n <= b))) := by
 refine zf (za [0, 1, 2, 6]) Tryz.func102 rfl (by decide) Tryz.ntmps102 (lb rfl) λbase => ?_;refine wrs λK hK => ?_;conv=>whnf
 refine hK _ (wrs λK hK => ?_);conv=>whnf
 refine ⟨λh => ?_, λh => ?_⟩ <;> conv=>whnf
 ·refine hK _ (W.ret ?_);conv=>whnf
  exact ⟨.v (.bool (decide (a <= n ∧ n <= b))), by have := of_decide_eq_true h; exact decide_eq_decide.2 (by omega), trivial, rfl⟩
 ·refine hK _ (W.ret ?_);conv=>whnf
  exact ⟨.v (.bool (decide (a <= n ∧ n <= b))), by have := of_decide_eq_false h; exact decide_eq_false (by omega), trivial, rfl⟩

theorem ziv (n : Int) (hn : n <= 97) : FnV 166 [.int .i64 n] (.bool (isP n)) := by
 refine zf (za [0, 2, 3, 6, 11, 17]) Tryz.func166 rfl (by decide) Tryz.ntmps166 (lb rfl) λbase => ?_;refine wrs λK hK => ?_;conv=>whnf
 refine hK _ (W.seqK λK1 hK1 => wrs λK hK => ?_);conv=>whnf
 refine zc rfl (zbO _ _ _) λhs' hhs => ?_;try dsimp only at hhs
 conv=>whnf
 refine hK _ (W.cond ⟨λh => ?_, λh => ?_⟩) <;> clear hK
 ·refine wrs λK hK => ?_;conv=>whnf
  refine hK _ (W.ret ?_);conv=>whnf
  refine ⟨.v (.bool (isP n)), ?_, trivial, rfl⟩;have : n ∉ yX := λhm => by have := jE hm; simp at h; omega
  exact decide_eq_false this
 ·refine W.skip (hK1 _ ?_);clear hK1;have h2 : 2 <= n := by simp at h; omega
  clear h;refine W.seqK λK2 hK2 => wrs λK hK => ?_;conv=>whnf
  refine hK _ (W.block (W.inv (λm s => ∃ d : Int, 2 <= d ∧ d <= 98 ∧ (∀ d', 2 <= d' -> d' < d -> n % d' ≠ 0) ∧ m = (98 - d).toNat ∧ s = ⟨[(0, .v (.int .i64 n)), (3, .v (.int .i64 d))], base⟩) _ _
   ⟨2, by omega, by omega, λd' h1 h2 => by omega, rfl, rfl⟩ ⟨hhs, ⟨rfl, rfl⟩, ⟨rfl, rfl⟩, trivial⟩ (by rintro m s ⟨d, _, _, _, _, rfl⟩; exact Nat.le_refl _) ?_))
  clear hK;rintro m s ⟨d, h3, h4, h5, rfl, rfl⟩;refine W.seqK λK3 hK3 => wrs λK hK => ?_;conv=>whnf
  have hdd : d * d <= 98 * 98 := Int.mul_le_mul h4 h4 (by omega) (by omega);have hd0 : 2 * 2 <= d * d := Int.mul_le_mul h3 h3 (by omega) (by omega);refine ⟨by omega, ?_⟩;conv=>whnf
  refine hK _ (W.cond ⟨λh => ?_, λh => ?_⟩) <;> clear hK
  ·refine W.skip (hK3 _ ?_);clear hK3;have h6 := of_decide_eq_true h
   have h7 : d < 10 := by
    rcases Int.lt_or_le d 10 with h | h
    ·exact h
    ·have : 10 * 10 <= d * d := Int.mul_le_mul h h (by omega) (by omega);omega
   refine W.seqK λK4 hK4 => W.block ?_;refine wrs λK hK => ?_;conv=>whnf
   refine ⟨by omega, ?_⟩;conv=>whnf
   refine hK _ (W.cond ⟨λh8 => ?_, λh8 => ?_⟩) <;> clear hK
   ·have h9 := of_decide_eq_true h8;rw [Int.tmod_eq_emod_of_nonneg (by omega)] at h9;refine wrs λK hK => ?_;conv=>whnf
    refine hK _ (W.ret ?_);conv=>whnf
    refine ⟨.v (.bool (isP n)), ?_, trivial, rfl⟩;exact decide_eq_false λhm => ((jX hn).1 hm).2 d h3 h6 h9
   ·have h9 := of_decide_eq_false h8;rw [Int.tmod_eq_emod_of_nonneg (by omega)] at h9;refine W.skip (hK4 _ ?_);clear hK4;refine wrg ?_;conv=>whnf
    refine ⟨by omega, ?_⟩;conv=>whnf
    exact ⟨_, _, ⟨d + 1, by omega, by omega, λd' h10 h11 => by
     by_cases hdd : d' = d
     ·subst hdd; exact h9
     ·exact h5 d' h10 (by omega), rfl, rfl⟩, by omega, Nat.le_refl _, ⟨rfl, rfl⟩, ⟨rfl, rfl⟩, trivial⟩
  ·have h6 := of_decide_eq_false h;refine W.exit (hK2 _ ?_);clear hK3 hK2;refine wrs λK hK => ?_;conv=>whnf
   refine hK _ (W.ret ?_);conv=>whnf
   refine ⟨.v (.bool (isP n)), ?_, trivial, rfl⟩;refine decide_eq_true ((jX hn).2 ⟨h2, λd' h7 h8 => h5 d' h7 ?_⟩);rcases Int.lt_or_le d' d with h | h
   ·exact h
   ·have : d * d <= d' * d' := Int.mul_le_mul h h (by omega) (by omega);omega

theorem zhm (n : Int) (hn : n <= 97) : FnV 195 [.int .i64 n] (.bool (isP n)) := by
 refine zf (za [0, 2, 3, 5, 10, 16]) Tryz.func195 rfl (by decide) Tryz.ntmps195 (lb rfl) λbase => ?_;refine wrs λK hK => ?_;conv=>whnf
 refine hK _ (W.seqK λK1 hK1 => wrs λK hK => ?_);conv=>whnf
 refine hK _ (W.cond ⟨λh => ?_, λh => ?_⟩) <;> clear hK
 ·refine wrs λK hK => ?_;conv=>whnf
  refine hK _ (W.ret ?_);conv=>whnf
  refine ⟨.v (.bool (isP n)), ?_, trivial, rfl⟩;have : n ∉ yX := λhm => by have := jE hm; have := of_decide_eq_true h; omega
  exact decide_eq_false this
 ·refine W.skip (hK1 _ ?_);clear hK1;have h2 : 2 <= n := by have := of_decide_eq_false h; omega
  clear h;refine W.seqK λK2 hK2 => wrs λK hK => ?_;conv=>whnf
  refine hK _ (W.block (W.inv (λm s => ∃ d : Int, 2 <= d ∧ d <= 98 ∧ (∀ d', 2 <= d' -> d' < d -> n % d' ≠ 0) ∧ m = (98 - d).toNat ∧ s = ⟨[(0, .v (.int .i64 n)), (3, .v (.int .i64 d))], base⟩) _ _
   ⟨2, by omega, by omega, λd' h1 h2 => by omega, rfl, rfl⟩ ⟨Nat.le_refl _, ⟨rfl, rfl⟩, ⟨rfl, rfl⟩, trivial⟩ (by rintro m s ⟨d, _, _, _, _, rfl⟩; exact Nat.le_refl _) ?_))
  clear hK;rintro m s ⟨d, h3, h4, h5, rfl, rfl⟩;refine W.seqK λK3 hK3 => wrs λK hK => ?_;conv=>whnf
  have hdd : d * d <= 98 * 98 := Int.mul_le_mul h4 h4 (by omega) (by omega);have hd0 : 2 * 2 <= d * d := Int.mul_le_mul h3 h3 (by omega) (by omega);refine ⟨by omega, ?_⟩;conv=>whnf
  refine hK _ (W.cond ⟨λh => ?_, λh => ?_⟩) <;> clear hK
  ·refine W.skip (hK3 _ ?_);clear hK3;have h6 := of_decide_eq_true h
   have h7 : d < 10 := by
    rcases Int.lt_or_le d 10 with h | h
    ·exact h
    ·have : 10 * 10 <= d * d := Int.mul_le_mul h h (by omega) (by omega);omega
   refine W.seqK λK4 hK4 => W.block ?_;refine wrs λK hK => ?_;conv=>whnf
   refine ⟨by omega, ?_⟩;conv=>whnf
   refine hK _ (W.cond ⟨λh8 => ?_, λh8 => ?_⟩) <;> clear hK
   ·have h9 := of_decide_eq_true h8;rw [Int.tmod_eq_emod_of_nonneg (by omega)] at h9;refine wrs λK hK => ?_;conv=>whnf
    refine hK _ (W.ret ?_);conv=>whnf
    refine ⟨.v (.bool (isP n)), ?_, trivial, rfl⟩;exact decide_eq_false λhm => ((jX hn).1 hm).2 d h3 h6 h9
   ·have h9 := of_decide_eq_false h8;rw [Int.tmod_eq_emod_of_nonneg (by omega)] at h9;refine W.skip (hK4 _ ?_);clear hK4;refine wrg ?_;conv=>whnf
    refine ⟨by omega, ?_⟩;conv=>whnf
    exact ⟨_, _, ⟨d + 1, by omega, by omega, λd' h10 h11 => by
     by_cases hdd : d' = d
     ·subst hdd; exact h9
     ·exact h5 d' h10 (by omega), rfl, rfl⟩, by omega, Nat.le_refl _, ⟨rfl, rfl⟩, ⟨rfl, rfl⟩, trivial⟩
  ·have h6 := of_decide_eq_false h;refine W.exit (hK2 _ ?_);clear hK3 hK2;refine wrs λK hK => ?_;conv=>whnf
   refine hK _ (W.ret ?_);conv=>whnf
   refine ⟨.v (.bool (isP n)), ?_, trivial, rfl⟩;refine decide_eq_true ((jX hn).2 ⟨h2, λd' h7 h8 => h5 d' h7 ?_⟩);rcases Int.lt_or_le d' d with h | h
   ·exact h
   ·have : d * d <= d' * d' := Int.mul_le_mul h h (by omega) (by omega);omega

theorem zco (n : Int) : FnV 109 [.int .i64 n] (.bool (isP n)) := by
 refine zf (za [0, 2]) Tryz.func109 rfl (by decide) Tryz.ntmps109 (lb rfl) λbase => ?_;refine wrs λK hK => ?_;conv=>whnf
 refine hK _ (wrs λK hK => ?_);conv=>whnf
 refine ⟨λh => ?_, λh => ?_⟩ <;> conv=>whnf
 ·refine zc rfl (ziv n (of_decide_eq_true h)) λhs' hhs => ?_;try dsimp only at hhs
  conv=>whnf
  refine hK _ (W.ret ?_);conv=>whnf
  exact ⟨.v (.bool (isP n)), rfl, trivial, rfl⟩
 ·refine hK _ (W.ret ?_);conv=>whnf
  refine ⟨.v (.bool (isP n)), ?_, trivial, rfl⟩;have h := of_decide_eq_false h;exact decide_eq_false λhm => by have := jE hm; omega
theorem zdO (n a b : Int) : FnV 106 [.int .i64 n, .int .i64 a, .int .i64 b] (.bool (decide (a <= n ∧ n <= b))) := by
 refine zf (za [0, 1, 2, 6]) Tryz.func106 rfl (by decide) Tryz.ntmps106 (lb rfl) λbase => ?_;refine wrs λK hK => ?_;conv=>whnf
 refine hK _ (wrs λK hK => ?_);conv=>whnf
 refine ⟨λh => ?_, λh => ?_⟩ <;> conv=>whnf
 ·refine hK _ (W.ret ?_);conv=>whnf
  exact ⟨.v (.bool (decide (a <= n ∧ n <= b))), by have := of_decide_eq_true h; exact decide_eq_decide.2 (by omega), trivial, rfl⟩
 ·refine hK _ (W.ret ?_);conv=>whnf
  exact ⟨.v (.bool (decide (a <= n ∧ n <= b))), by have := of_decide_eq_false h; exact decide_eq_false (by omega), trivial, rfl⟩
theorem zce (n : Int) : FnV 158 [.int .i64 n] (.bool (isP n)) := by
 refine zf (za [0, 2]) Tryz.func158 rfl (by decide) Tryz.ntmps158 (lb rfl) λbase => ?_;refine wrs λK hK => ?_;conv=>whnf
 refine hK _ (wrs λK hK => ?_);conv=>whnf
 refine zc rfl (zdO _ _ _) λhs' hhs => ?_;try dsimp only at hhs
 conv=>whnf
 refine ⟨λh => ?_, λh => ?_⟩ <;> conv=>whnf
 ·refine zc rfl (zhm n (of_decide_eq_true h).2) λhs' hhs => ?_;try dsimp only at hhs
  conv=>whnf
  refine hK _ (W.ret ?_);conv=>whnf
  exact ⟨.v (.bool (isP n)), rfl, trivial, rfl⟩
 ·refine hK _ (W.ret ?_);conv=>whnf
  refine ⟨.v (.bool (isP n)), ?_, trivial, rfl⟩;have h := of_decide_eq_false h;exact decide_eq_false λhm => by have := jE hm; omega
theorem zdP (n : Int) : FnV 248 [.int .i64 n] (.bool (decide (-1000000000000 <= n ∧ n <= 1000000000000))) := by
 refine zf (za [0, 2]) Tryz.func248 rfl (by decide) Tryz.ntmps248 (lb rfl) λbase => ?_;refine wrs λK hK => ?_;conv=>whnf
 refine hK _ (wrs λK hK => ?_);conv=>whnf
 refine zc rfl (zbO _ _ _) λhs' hhs => ?_;try dsimp only at hhs
 conv=>whnf
 refine hK _ (W.ret ?_);conv=>whnf
 exact ⟨.v (.bool (decide (-1000000000000 <= n ∧ n <= 1000000000000))), rfl, trivial, rfl⟩
theorem zhn (n : Int) (e : Nat) (h : ∀ k, k <= e -> inR (n ^ k)) (he : (e : Int) <= 1000000) : FnV 137 [.int .i64 n, .int .i64 e] (.int .i64 (n ^ e)) := by
 refine zf (za [0, 1, 4, 5, 6, 7, 8]) Tryz.func137 rfl (by decide) Tryz.ntmps137 (lb rfl) λbase => ?_;refine wrs λK hK => ?_;conv=>whnf
 refine hK _ (wrs λK hK => ?_);conv=>whnf
 refine hK _ (W.seqK λK1 hK1 => wrs λK hK => ?_);conv=>whnf
 refine hK _ (W.block (W.inv (λm s => ∃ i : Nat, i <= e ∧ m = e - i ∧ s = ⟨[(0, .v (.int .i64 n)), (5, .v (.int .i64 (n ^ i))), (6, .v (.int .i64 e)), (7, .v (.int .i64 i))], base⟩) _ _
     ⟨0, Nat.zero_le _, rfl, rfl⟩ ⟨Nat.le_refl _, ⟨rfl, rfl⟩, ⟨rfl, (Int.pow_zero n).symm⟩, ⟨rfl, rfl⟩, ⟨rfl, rfl⟩, trivial⟩ (by rintro m s ⟨d, _, _, rfl⟩; exact Nat.le_refl _) ?_))
 clear hK;rintro m s ⟨i, h1, rfl, rfl⟩;refine wrs λK hK => ?_;conv=>whnf
 refine hK _ ?_;clear hK;refine W.seqK λK3 hK3 => W.cond ⟨λh2 => ?_, λh2 => ?_⟩
 · have h2 := of_decide_eq_true h2
   refine W.skip (hK3 _ ?_);clear hK3;refine W.seqK λK2 hK2 => W.block ?_;refine wrg ?_;conv=>whnf
   refine ⟨by have := h (i + 1) (by omega); rwa [Int.pow_succ] at this, ?_⟩;conv=>whnf
   refine hK2 _ ?_;clear hK2;refine wrg ?_;conv=>whnf
   refine ⟨by omega, ?_⟩;conv=>whnf
   exact ⟨_, _, ⟨i + 1, by omega, rfl, rfl⟩, by omega, Nat.le_refl _, ⟨rfl, rfl⟩, ⟨rfl, (Int.pow_succ ..).symm⟩, ⟨rfl, rfl⟩, ⟨rfl, by omega⟩, trivial⟩
 · have h2 := of_decide_eq_false h2
   obtain rfl : i = e := by omega
   refine W.exit (hK1 _ ?_);clear hK3 hK1;refine wrs λK hK => ?_;conv=>whnf
   refine hK _ (W.ret ?_);conv=>whnf
   exact ⟨.v (.int .i64 (n ^ i)), ⟨rfl, rfl⟩, trivial, rfl⟩

abbrev zlU (p k : Int) : V := .agg [.int .i64 p, .int .i64 k]
theorem ziw (p : Int) (k : Nat) (h : ∀ j, j <= k -> inR (p ^ j)) (hk : (k : Int) <= 1000000) : FnV 69 [zlU p k] (.int .i64 (p ^ k)) := by
 refine zf (za [0, 1, 2]) Tryz.func69 rfl (by decide) Tryz.ntmps69 (lb rfl) λbase => ?_;refine wrs λK hK => ?_;conv=>whnf
 refine ⟨rfl, ?_⟩;conv=>whnf
 intro b_1 hs_1 hh_1 hf_1;try dsimp only at hh_1 hf_1
 conv=>whnf
 refine hK _ (wrs λK hK => ?_);conv=>whnf
 refine zc rfl (zhn p k h hk) λhs' hhs => ?_;try dsimp only at hhs
 conv=>whnf
 refine hK _ (W.ret ?_);conv=>whnf
 exact ⟨.v (.int .i64 (p ^ k)), ⟨rfl, rfl⟩, trivial, rfl⟩
theorem zke (a b : Int) (ha : 0 <= a ∧ a <= 1000000000000) (hb : 0 <= b ∧ b <= 1000000000000) :
   Fn Tryz.prog 231 [.int .i64 a, .int .i64 b] (λ_ _ z => ∃ r x y u v, Bz a b r x y 0 u v ∧ (-(b + 1) <= x ∧ x <= b + 1) ∧ z = .v (.tup [.int .i64 x, .int .i64 y, .int .i64 0])) := by
 refine zf (za [0, 1, 4, 5, 6, 7, 8, 9, 10, 11, 12, 13, 21, 25, 48]) Tryz.func231 rfl (by decide) Tryz.ntmps231 (lb rfl) λbase => ?_;refine wrs λK hK => ?_;conv=>whnf
 refine hK _ (W.seqK λK1 hK1 => wrs λK hK => ?_);conv=>whnf
 refine zc rfl (zdP a) λhs' hhs => ?_;try dsimp only at hhs
 conv=>whnf
 refine ⟨λh => ?_, λh => ?_⟩ <;> conv=>whnf
 · exfalso; simp at h; omega
 refine zc rfl (zdP b) λhs' hhs => ?_;try dsimp only at hhs
 conv=>whnf
 refine hK _ (W.cond ⟨λhc => ?_, λ_ => ?_⟩)
 · exfalso; simp at hc; omega
 clear hK;refine W.skip (hK1 _ ?_);clear hK1;refine wrs λK hK => ?_;conv=>whnf
 refine hK _ (wrs λK hK => ?_);conv=>whnf
 refine hK _ ?_;clear hK
 refine W.seqK λK1 hK1 => W.block (W.inv (λm s => ∃ r x y q u v : Int, Bz a b r x y q u v ∧ (-(b + 1) <= x ∧ x <= b + 1) ∧ (-(b + 1) <= u ∧ u <= b + 1) ∧ (-(a + 1) <= y ∧ y <= a + 1) ∧ (-(a + 1) <= v ∧ v <= a + 1) ∧ r <= 1000000000000 ∧ q <= 1000000000000 ∧ m = q.toNat ∧
     s = ⟨[(7, .v (.int .i64 r)), (8, .v (.int .i64 x)), (9, .v (.int .i64 y)), (10, .v (.int .i64 q)), (11, .v (.int .i64 u)), (12, .v (.int .i64 v))], base⟩) _ _
     ⟨a, 1, 0, b, 0, 1, Bz.start ha.1 hb.1, by omega, by omega, by omega, by omega, by omega, by omega, rfl, rfl⟩ ⟨by dsimp only; omega, ⟨rfl, rfl⟩, ⟨rfl, rfl⟩, ⟨rfl, rfl⟩, ⟨rfl, rfl⟩, ⟨rfl, rfl⟩, ⟨rfl, rfl⟩, trivial⟩ (by rintro m s ⟨_, _, _, _, _, _, _, _, _, _, _, _, _, _, rfl⟩; exact Nat.le_refl _) ?_)
 rintro m s ⟨r, x, y, q, u, v, hz, hx, hu, hy, hv, hr, hq, rfl, rfl⟩;refine W.seqK λK2 hK2 => wrs λK hK => ?_;conv=>whnf
 refine hK _ (W.cond ⟨λh => ?_, λh => ?_⟩) <;> clear hK
 · refine W.skip (hK2 _ ?_)
   clear hK2;have h := of_decide_eq_true h;obtain ⟨hB, hz'⟩ := hz.step h;have h0 := hz.r0;have h1 := hz.s0;have e : r.tdiv q = r / q := Int.tdiv_eq_ediv_of_nonneg h0;refine W.block ?_;refine wrs λK hK => ?_;conv=>whnf
   refine ⟨h, ?_⟩;conv=>whnf
   rw [e];have := hB.q0;have := hB.qr;have := hB.qs;have := hB.qu;have := hB.qv;have := hB.nx;have := hB.ny;refine ⟨by omega, ?_⟩;conv=>whnf
   refine hK _ ?_;clear hK;refine wrg ?_;conv=>whnf
   refine ⟨by omega, ?_⟩;conv=>whnf
   refine ⟨by omega, ?_⟩;conv=>whnf
   refine ⟨by omega, ?_⟩;conv=>whnf
   refine ⟨by omega, ?_⟩;conv=>whnf
   refine ⟨by omega, ?_⟩;conv=>whnf
   refine ⟨by omega, ?_⟩;conv=>whnf
   have hm := Int.emod_lt_of_pos r (show 0 < q by omega);have hd : r - r / q * q = r % q := by have := Int.mul_ediv_add_emod r q; rw [Int.mul_comm] at this; omega
   exact ⟨_, _, ⟨q, u, v, r - r / q * q, x - r / q * u, y - r / q * v, hz', by omega, by omega, by omega, by omega, by omega, by omega, rfl, rfl⟩, by rw [hd]; omega, Nat.le_refl _, ⟨rfl, rfl⟩, ⟨rfl, rfl⟩, ⟨rfl, rfl⟩, ⟨rfl, rfl⟩, ⟨rfl, rfl⟩, ⟨rfl, rfl⟩, trivial⟩
 · have h := of_decide_eq_false h
   obtain rfl : q = 0 := by omega
   have h0 := hz.r0;refine W.exit (hK1 _ ?_);clear hK1 hK2;refine W.seqK λK3 hK3 => wrs λK hK => ?_;conv=>whnf
   refine hK _ (W.cond ⟨λhc => ?_, λ_ => ?_⟩)
   · have := of_decide_eq_true hc; omega
   clear hK;refine W.skip (hK3 _ ?_);clear hK3;refine wrs λK hK => ?_;conv=>whnf
   refine hK _ (W.ret ?_);conv=>whnf
   exact ⟨.v (.int .i64 x), ⟨rfl, rfl⟩, trivial, .v (.int .i64 y), ⟨rfl, rfl⟩, trivial, .v (.int .i64 0), ⟨rfl, rfl⟩, trivial, r, x, y, u, v, hz, hx, rfl⟩
theorem zfM (a b : Int) (ha : 0 <= a ∧ a <= 1000000000000) (hb : 0 <= b ∧ b <= 1000000000000) :
   Fn Tryz.prog 249 [.int .i64 a, .int .i64 b] (λ_ _ z => ∃ r x y u v, Bz a b r x y 0 u v ∧ (-(b + 1) <= x ∧ x <= b + 1) ∧ z = .v (.tup [.int .i64 x, .int .i64 y])) := by
 refine zf (za [0, 1, 4, 5, 6, 7, 8, 9, 10, 11, 12, 16, 39]) Tryz.func249 rfl (by decide) Tryz.ntmps249 (lb rfl) λbase => ?_;refine wrs λK hK => ?_;conv=>whnf
 refine hK _ ?_;clear hK

 refine wrs λK hK => ?_;conv=>whnf
 refine hK _ (wrs λK hK => ?_);conv=>whnf
 refine hK _ ?_;clear hK
 refine W.seqK λK1 hK1 => W.block (W.inv (λm s => ∃ r x y q u v : Int, Bz a b r x y q u v ∧ (-(b + 1) <= x ∧ x <= b + 1) ∧ (-(b + 1) <= u ∧ u <= b + 1) ∧ (-(a + 1) <= y ∧ y <= a + 1) ∧ (-(a + 1) <= v ∧ v <= a + 1) ∧ r <= 1000000000000 ∧ q <= 1000000000000 ∧ m = q.toNat ∧
     s = ⟨[(6, .v (.int .i64 r)), (7, .v (.int .i64 x)), (8, .v (.int .i64 y)), (9, .v (.int .i64 q)), (10, .v (.int .i64 u)), (11, .v (.int .i64 v))], base⟩) _ _
     ⟨a, 1, 0, b, 0, 1, Bz.start ha.1 hb.1, by omega, by omega, by omega, by omega, by omega, by omega, rfl, rfl⟩ ⟨Nat.le_refl _, ⟨rfl, rfl⟩, ⟨rfl, rfl⟩, ⟨rfl, rfl⟩, ⟨rfl, rfl⟩, ⟨rfl, rfl⟩, ⟨rfl, rfl⟩, trivial⟩ (by rintro m s ⟨_, _, _, _, _, _, _, _, _, _, _, _, _, _, rfl⟩; exact Nat.le_refl _) ?_)
 rintro m s ⟨r, x, y, q, u, v, hz, hx, hu, hy, hv, hr, hq, rfl, rfl⟩;refine W.seqK λK2 hK2 => wrs λK hK => ?_;conv=>whnf
 refine hK _ (W.cond ⟨λh => ?_, λh => ?_⟩) <;> clear hK
 · refine W.skip (hK2 _ ?_)
   clear hK2;have h := of_decide_eq_true h;obtain ⟨hB, hz'⟩ := hz.step h;have h0 := hz.r0;have h1 := hz.s0;have e : r.tdiv q = r / q := Int.tdiv_eq_ediv_of_nonneg h0;refine W.block ?_;refine wrs λK hK => ?_;conv=>whnf
   refine ⟨h, ?_⟩;conv=>whnf
   rw [e];have := hB.q0;have := hB.qr;have := hB.qs;have := hB.qu;have := hB.qv;have := hB.nx;have := hB.ny;refine ⟨by omega, ?_⟩;conv=>whnf
   refine hK _ ?_;clear hK;refine wrg ?_;conv=>whnf
   refine ⟨by omega, ?_⟩;conv=>whnf
   refine ⟨by omega, ?_⟩;conv=>whnf
   refine ⟨by omega, ?_⟩;conv=>whnf
   refine ⟨by omega, ?_⟩;conv=>whnf
   refine ⟨by omega, ?_⟩;conv=>whnf
   refine ⟨by omega, ?_⟩;conv=>whnf
   have hm := Int.emod_lt_of_pos r (show 0 < q by omega);have hd : r - r / q * q = r % q := by have := Int.mul_ediv_add_emod r q; rw [Int.mul_comm] at this; omega
   exact ⟨_, _, ⟨q, u, v, r - r / q * q, x - r / q * u, y - r / q * v, hz', by omega, by omega, by omega, by omega, by omega, by omega, rfl, rfl⟩, by rw [hd]; omega, Nat.le_refl _, ⟨rfl, rfl⟩, ⟨rfl, rfl⟩, ⟨rfl, rfl⟩, ⟨rfl, rfl⟩, ⟨rfl, rfl⟩, ⟨rfl, rfl⟩, trivial⟩
 · have h := of_decide_eq_false h
   obtain rfl : q = 0 := by omega
   have h0 := hz.r0;refine W.exit (hK1 _ ?_);clear hK1 hK2;refine W.seqK λK3 hK3 => wrs λK hK => ?_;conv=>whnf
   refine hK _ (W.cond ⟨λhc => ?_, λ_ => ?_⟩)
   · have := of_decide_eq_true hc; omega
   clear hK;refine W.skip (hK3 _ ?_);clear hK3;refine wrs λK hK => ?_;conv=>whnf
   refine hK _ (W.ret ?_);conv=>whnf
   exact ⟨.v (.int .i64 x), ⟨rfl, rfl⟩, trivial, .v (.int .i64 y), ⟨rfl, rfl⟩, trivial, r, x, y, u, v, hz, hx, rfl⟩

theorem zix (p : Int) [SP p] (a : Int) (ha : 0 <= a ∧ a < p) (ha0 : a % p ≠ 0) : FnV 215 [zlU p 1, .int .i64 a] (.int .i64 (xk p a)) := by
 have hp := Pr.two (p := p);have hp2 := SP.le (p := p)
 have hm : FnV 69 [zlU p 1] (.int .i64 p) := by
  have := ziw p 1 (λj hj => by
   rcases (by omega : j = 0 ∨ j = 1) with rfl | rfl
   ·rw [Int.pow_zero]; constructor <;> omega
   ·rw [show (1 : Nat) = 0 + 1 from rfl, Int.pow_succ, Int.pow_zero, Int.one_mul]; constructor <;> omega) (by omega)
  refine this.mono ?_;rw [show (1 : Nat) = 0 + 1 from rfl, Int.pow_succ, Int.pow_zero, Int.one_mul]
 refine zf (za [0, 1, 2, 4, 5]) Tryz.func215 rfl (by decide) Tryz.ntmps215 (lb rfl) λbase => ?_;refine wrs λK hK => ?_;conv=>whnf
 refine ⟨rfl, ?_⟩;conv=>whnf
 intro b_1 hs_1 hh_1 hf_1;try dsimp only at hh_1 hf_1
 conv=>whnf
 refine hK _ (wrs λK hK => ?_);conv=>whnf
 refine zc rfl (hm) λhs' hhs => ?_;try dsimp only at hhs
 conv=>whnf
 refine yT rfl (zke a p (by omega) (by omega)) ?_;rintro lo hi hi' z h1 h2 h3 ⟨r, x, y, u, v, hz, hx, rfl⟩ _;conv=>whnf
 refine hK _ (wrs λK hK => ?_);conv=>whnf
 refine zc rfl (hm) λhs' hhs => ?_;try dsimp only at hhs
 conv=>whnf
 refine zc rfl (kN x p (by omega) (by omega) (by omega)) λhs' hhs => ?_;try dsimp only at hhs
 conv=>whnf
 refine hK _ (W.ret ?_);conv=>whnf
 exact ⟨.v (.int .i64 (xk p a)), ⟨rfl, hz.inv ha0⟩, trivial, rfl⟩
theorem jZ (p : Int) [SP p] (a : Int) (hb : -4611686018427387904 <= a ∧ a <= 4611686018427387904) (ha0 : a % p ≠ 0) : FnV 183 [.int .i64 p, .int .i64 a] (.int .i64 (xk p a)) := by
 have hp := Pr.two (p := p);have hp2 := SP.le (p := p);have h1 := Int.emod_nonneg a (show p ≠ 0 by omega);have h2 := Int.emod_lt_of_pos a (show 0 < p by omega);refine zf (za [0, 1, 4]) Tryz.func183 rfl (by decide) Tryz.ntmps183 (lb rfl) λbase => ?_;refine wrs λK hK => ?_;conv=>whnf
 refine hK _ (wrs λK hK => ?_);conv=>whnf
 refine zc rfl (kN a p (by omega) (by omega) (by omega)) λhs' hhs => ?_;try dsimp only at hhs
 conv=>whnf
 refine zc rfl (zix p (a % p) ⟨h1, h2⟩ (by rw [Int.emod_emod_of_dvd _ (Int.dvd_refl p)]; exact ha0)) λhs' hhs => ?_;try dsimp only at hhs
 conv=>whnf
 refine hK _ (W.ret ?_);conv=>whnf
 exact ⟨.v (.int .i64 (xk p a)), ⟨rfl, zlC ha0⟩, trivial, rfl⟩
theorem jo (p : Int) [SP p] (a : Int) (ha : 0 <= a ∧ a < p) (ha0 : a % p ≠ 0) : FnV 233 [.int .i64 a, .int .i64 p] (.int .i64 (xk p a)) := by
 have hp := Pr.two (p := p);have hp2 := SP.le (p := p);refine zf (za [0, 1, 4, 5]) Tryz.func233 rfl (by decide) Tryz.ntmps233 (lb rfl) λbase => ?_;refine wrs λK hK => ?_;conv=>whnf
 refine hK _ (wrs λK hK => ?_);conv=>whnf
 refine yT rfl (zfM a p (by omega) (by omega)) ?_;rintro lo hi hi' z h1 h2 h3 ⟨r, x, y, u, v, hz, hx, rfl⟩ _;conv=>whnf
 refine hK _ (wrs λK hK => ?_);conv=>whnf
 refine zc rfl (vu x p (by omega) (by omega) (by omega)) λhs' hhs => ?_;try dsimp only at hhs
 conv=>whnf
 refine hK _ (W.ret ?_);conv=>whnf
 exact ⟨.v (.int .i64 (xk p a)), ⟨rfl, hz.inv ha0⟩, trivial, rfl⟩

open Go Go.RowKit Go.Proofs

theorem zho (g : Option Nat) (xs : List Int) (hl : xs.length <= 100000000) : FnI 79 [.ints g xs] xs := by
 refine zf (za [0, 2, 4]) Tryz.func79 rfl (by decide) Tryz.ntmps79 (lb rfl) λbase => ?_;refine wrs λK hK => ?_;conv=>whnf
 refine hK _ (W.seqK λK1 hK1 => wrs λK hK => ?_);conv=>whnf
 intro b hb;conv=>whnf
 refine hK _ (W.cond ⟨λhc => ?_, λhc => ?_⟩) <;> clear hK
 ·obtain rfl := hb hc;refine wrs λK hK => ?_;conv=>whnf
  refine hK _ (W.ret ?_);conv=>whnf
  exact ⟨.ownI 2 0 [], rfl, trivial, _, rfl⟩
 ·refine W.skip (hK1 _ ?_);clear hK1;refine wrs λK hK => ?_;conv=>whnf
  refine ⟨⟨rfl, by decide⟩, ?_⟩;conv=>whnf
  intro b_1 hs_1 hh_1 hf_1;try dsimp only at hh_1 hf_1
  conv=>whnf
  refine ⟨by simp; omega, ?_⟩;conv=>whnf
  intro b_2 hs_2 hh_2 hf_2;try dsimp only at hh_2 hf_2
  conv=>whnf
  refine hK _ (W.ret ?_);conv=>whnf
  exact ⟨.ownI 2 _ (xs), ⟨rfl, rfl, rfl⟩, trivial, _, rfl⟩
theorem zlV (g : Option Nat) (xs : List Int) (hl : xs.length <= 100000000) : FnI 82 [.ints g xs] xs := by
 refine zf (za [0, 2]) Tryz.func82 rfl (by decide) Tryz.ntmps82 (lb rfl) λbase => ?_;refine wrs λK hK => ?_;conv=>whnf
 refine hK _ (wrs λK hK => ?_);conv=>whnf
 refine ⟨⟨rfl, by decide⟩, ?_⟩;conv=>whnf
 intro b_1 hs_1 hh_1 hf_1;try dsimp only at hh_1 hf_1
 conv=>whnf
 refine ⟨by simp; omega, ?_⟩;conv=>whnf
 intro b_2 hs_2 hh_2 hf_2;try dsimp only at hh_2 hf_2
 conv=>whnf
 refine hK _ (W.ret ?_);conv=>whnf
 exact ⟨.ownI 2 _ (xs), ⟨rfl, rfl, rfl⟩, trivial, _, rfl⟩
theorem j1 (g : Option Nat) (xs : List Int) (hl : xs.length <= 100000000) : FnI 126 [.ints g xs] (zx xs) := by
 refine zf (za [0, 2, 3, 15]) Tryz.func126 rfl (by decide) Tryz.ntmps126 (lb rfl) λbase => ?_;refine wrs λK hK => ?_;conv=>whnf
 refine hK _ (wrs λK hK => ?_);conv=>whnf
 refine hK _ ?_;clear hK;refine W.seqK λK1 hK1 => W.block (W.invA (λm e => ∃ n : Nat, n <= xs.length ∧ (∀ j, n <= j -> cf xs j = 0) ∧ m = n ∧ e = [(0, .v (.ints g xs)), (3, .v (.int .i64 n))]) ⟨xs.length, Nat.le_refl _, λj hj => z1 hj, rfl, rfl⟩ ?_);rintro m e ⟨n, h1, h2, hm, rfl⟩
 have hout : (n = 0 ∨ cf xs (n - 1) ≠ 0) -> ∀ s : S, base <= s.hs -> get s.env 0 = .v (.ints g xs) -> get s.env 3 = .v (.int .i64 n) -> K1 s := λh3 s h4 h5 h6 => by
  refine hK1 _ (W.weak (t := ⟨[(0, .v (.ints g xs)), (3, .v (.int .i64 n))], base⟩) ⟨h4, by rw [zb, h5]; exact ⟨rfl, rfl⟩, by rw [zb, h6]; exact ⟨rfl, rfl⟩, trivial⟩ (Nat.le_refl _) ?_);clear hK1;refine wrs λK hK => ?_;conv=>whnf
  refine ⟨by omega, ?_⟩;conv=>whnf
  have e : ((xs.take (n : Int).toNat).drop (0 : Int).toNat) = zx xs := by
   rw [Int.toNat_natCast, Int.toNat_zero, List.drop_zero, zcC h1 h2 h3]
  rw [e];refine zv rfl (zho _ _ (by rw [<- zcC h1 h2 h3, List.length_take]; omega)) λhs_1 b_1 hh_1 hf_1 => ?_;try dsimp only at hh_1 hf_1
  conv=>whnf
  refine hK _ (W.ret ?_);conv=>whnf
  exact ⟨.ownI 2 _ (zx xs), ⟨rfl, rfl, rfl⟩, trivial, _, rfl⟩
 clear hK1;refine W.seqK λK2 hK2 => wrs λK hK => ?_;conv=>whnf
 refine ⟨λh3 => ?_, λh3 => ?_⟩ <;> conv=>whnf
 ·have h3 := of_decide_eq_true h3;refine ⟨by omega, ?_⟩;conv=>whnf
  refine ⟨oo, ?_⟩;conv=>whnf
  refine hK _ (W.cond ⟨λh4 => ?_, λh4 => ?_⟩) <;> clear hK
  ·refine W.skip (hK2 _ ?_);clear hK2;have h4 := of_decide_eq_true h4;refine W.block ?_;refine wrg ?_;conv=>whnf
   refine ⟨by omega, ?_⟩;conv=>whnf
   have h5 : ((n : Int) - 1).toNat = n - 1 := by omega
   have h6 : cf xs (n - 1) = 0 := by rw [h5] at h4; exact h4
   exact ze ⟨n - 1, by omega, λj hj => (by rcases Nat.eq_or_lt_of_le hj with h | h; rw [<- h]; exact h6; exact h2 j (by omega)), rfl, rfl⟩
  ·have h4 := of_decide_eq_false h4;refine W.exit (hout ?_ _ (by dsimp only; omega) rfl rfl);have h5 : ((n : Int) - 1).toNat = n - 1 := by omega
   rw [h5] at h4;exact .inr h4
 ·have h3 := of_decide_eq_false h3;refine hK _ (W.cond ?_);clear hK;exact W.exit (cx := cx []) (hout (by omega) _ (by dsimp only; omega) rfl rfl)

theorem xP (g : Option Nat) (xs : List Int) (hl : xs.length <= 100000000) : FnI 132 [.ints g xs] (zx xs) := by
 refine zf (za [0, 2, 3, 15]) Tryz.func132 rfl (by decide) Tryz.ntmps132 (lb rfl) λbase => ?_;refine wrs λK hK => ?_;conv=>whnf
 refine hK _ (wrs λK hK => ?_);conv=>whnf
 refine hK _ ?_;clear hK;refine W.seqK λK1 hK1 => W.block (W.invA (λm e => ∃ n : Nat, n <= xs.length ∧ (∀ j, n <= j -> cf xs j = 0) ∧ m = n ∧ e = [(0, .v (.ints g xs)), (3, .v (.int .i64 n))]) ⟨xs.length, Nat.le_refl _, λj hj => z1 hj, rfl, rfl⟩ ?_);rintro m e ⟨n, h1, h2, hm, rfl⟩
 have hout : (n = 0 ∨ cf xs (n - 1) ≠ 0) -> ∀ s : S, base <= s.hs -> get s.env 0 = .v (.ints g xs) -> get s.env 3 = .v (.int .i64 n) -> K1 s := λh3 s h4 h5 h6 => by
  refine hK1 _ (W.weak (t := ⟨[(0, .v (.ints g xs)), (3, .v (.int .i64 n))], base⟩) ⟨h4, by rw [zb, h5]; exact ⟨rfl, rfl⟩, by rw [zb, h6]; exact ⟨rfl, rfl⟩, trivial⟩ (Nat.le_refl _) ?_);clear hK1;refine wrs λK hK => ?_;conv=>whnf
  refine ⟨by omega, ?_⟩;conv=>whnf
  have e : ((xs.take (n : Int).toNat).drop (0 : Int).toNat) = zx xs := by
   rw [Int.toNat_natCast, Int.toNat_zero, List.drop_zero, zcC h1 h2 h3]
  rw [e];refine zv rfl (zlV _ _ (by rw [<- zcC h1 h2 h3, List.length_take]; omega)) λhs_1 b_1 hh_1 hf_1 => ?_;try dsimp only at hh_1 hf_1
  conv=>whnf
  refine hK _ (W.ret ?_);conv=>whnf
  exact ⟨.ownI 2 _ (zx xs), ⟨rfl, rfl, rfl⟩, trivial, _, rfl⟩
 clear hK1;refine W.seqK λK2 hK2 => wrs λK hK => ?_;conv=>whnf
 refine ⟨λh3 => ?_, λh3 => ?_⟩ <;> conv=>whnf
 ·have h3 := of_decide_eq_true h3;refine ⟨by omega, ?_⟩;conv=>whnf
  refine ⟨oo, ?_⟩;conv=>whnf
  refine hK _ (W.cond ⟨λh4 => ?_, λh4 => ?_⟩) <;> clear hK
  ·refine W.skip (hK2 _ ?_);clear hK2;have h4 := of_decide_eq_true h4;refine W.block ?_;refine wrg ?_;conv=>whnf
   refine ⟨by omega, ?_⟩;conv=>whnf
   have h5 : ((n : Int) - 1).toNat = n - 1 := by omega
   have h6 : cf xs (n - 1) = 0 := by rw [h5] at h4; exact h4
   exact ze ⟨n - 1, by omega, λj hj => (by rcases Nat.eq_or_lt_of_le hj with h | h; rw [<- h]; exact h6; exact h2 j (by omega)), rfl, rfl⟩
  ·have h4 := of_decide_eq_false h4;refine W.exit (hout ?_ _ (by dsimp only; omega) rfl rfl);have h5 : ((n : Int) - 1).toNat = n - 1 := by omega
   rw [h5] at h4;exact .inr h4
 ·have h3 := of_decide_eq_false h3;refine hK _ (W.cond ?_);clear hK;exact W.exit (cx := cx []) (hout (by omega) _ (by dsimp only; omega) rfl rfl)

theorem zhp (p : Int) (hp : 0 < p) (hp2 : p <= 4611686018427387904) (g : Option Nat) (xs : List Int) (hb : Bd 9223372036854775807 xs) (hl : xs.length <= 100000000) : FnI 62 [.int .i64 p, .ints g xs] (nrm p xs) := by
 refine zf (za [0, 1, 4, 5, 7, 8, 9, 10, 11]) Tryz.func62 rfl (by decide) Tryz.ntmps62 (lb rfl) λbase => ?_;refine wrs λK hK => ?_;conv=>whnf
 refine hK _ (wrs λK hK => ?_);conv=>whnf
 refine hK _ (W.seqK λK1 hK1 => wrs λK hK => ?_);conv=>whnf
 refine hK _ (W.block (W.invA (λm e => ∃ (i b : Nat), i <= xs.length ∧ m = xs.length - i ∧ e = [(0, .v (.int .i64 p)), (5, .ownI 2 b ((xs.take i).map (· % p))), (8, .v (.ints g xs)), (9, .v (.int .i64 xs.length)), (10, .v (.int .i64 i))]) ⟨0, 0, Nat.zero_le _, rfl, rfl⟩ ?_));clear hK;rintro m e ⟨i, b, h1, hm, rfl⟩;refine wrs λK hK => ?_;conv=>whnf
 refine hK _ ?_;clear hK;refine W.seqK λK7 hK7 => W.cond ⟨λh => ?_, λh => ?_⟩ <;> (first | replace h := of_decide_eq_true h | replace h := of_decide_eq_false h)
 ·refine W.skip (hK7 _ ?_);clear hK7;refine W.seqK λK8 hK8 => W.block ?_;refine wrs λK hK => ?_;conv=>whnf
  refine ⟨oo, ?_⟩;conv=>whnf
  refine hK _ ?_;clear hK;refine wrg ?_;conv=>whnf
  refine zc rfl (kN _ p hp (by rw [Int.toNat_natCast]; have := hb i; show _ <= cf xs i ∧ cf xs i <= _; omega) hp2) λhs' hhs => ?_;try dsimp only at hhs
  conv=>whnf
  refine ⟨⟨rfl, by decide⟩, ?_⟩;conv=>whnf
  intro b_1 hs_1 hh_1 hf_1;try dsimp only at hh_1 hf_1
  conv=>whnf
  refine ⟨by simp; omega, ?_⟩;conv=>whnf
  intro b_2 hs_2 hh_2 hf_2;try dsimp only at hh_2 hf_2
  conv=>whnf
  refine hK8 _ ?_;clear hK8;refine wrg ?_;conv=>whnf
  refine ⟨by omega, ?_⟩;conv=>whnf
  refine ⟨_, _, ⟨i + 1, b_2, by omega, rfl, rfl⟩, by omega, by dsimp only; omega, ?_⟩
  repeat' first | refine And.intro ?_ ?_ | exact trivial | rfl | omega | exact .inl rfl | exact λ_ _ => rfl | exact λ_ _ h => h | assumption | exact λi hi => (by obtain rfl : i = 0 := (by omega); rfl)
  rw [zae _ (by omega), Int.toNat_natCast]
 ·refine W.exit (hK1 _ ?_);clear hK7 hK1;have e : xs.take i = xs := by rw [show i = xs.length by omega, List.take_length]
  refine wrs λK hK => ?_;conv=>whnf
  refine zv rfl (j1 _ _ (by rw [e]; simpa using hl)) λhs_1 b_1 hh_1 hf_1 => ?_;try dsimp only at hh_1 hf_1
  conv=>whnf
  refine hK _ ?_;clear hK;rw [e];refine W.ret ?_;conv=>whnf
  exact ⟨.ownI 2 _ (nrm p xs), ⟨rfl, rfl, rfl⟩, trivial, _, rfl⟩
theorem zaa (p : Int) (hp : 0 < p) (hp2 : p <= 4611686018427387904) (g : Option Nat) (xs : List Int) (hb : Bd 4611686018427387904 xs) (hl : xs.length <= 100000000) : FnI 62 [.int .i64 p, .ints g xs] (nrm p xs) :=
 zhp p hp hp2 g xs (λj => by have := hb j; omega) hl

theorem zdQ (p : Int) (hp : 0 < p) (hp2 : p <= 4611686018427387904) (g : Option Nat) (xs : List Int) (hb : Bd 9223372036854775807 xs) (hl : xs.length <= 100000000) : FnI 65 [.int .i64 p, .ints g xs] (nrm p xs) := by
 refine zf (za [0, 1, 4, 5, 6, 11]) Tryz.func65 rfl (by decide) Tryz.ntmps65 (lb rfl) λbase => ?_;refine wrs λK hK => ?_;conv=>whnf
 refine hK _ (wrs λK hK => ?_);conv=>whnf
 refine ⟨⟨rfl, by decide⟩, ?_⟩;conv=>whnf
 intro b_0 hs_0 hh_0 hf_0;try dsimp only at hh_0 hf_0
 conv=>whnf
 refine hK _ (W.seqK λK1 hK1 => wrs λK hK => ?_);conv=>whnf
 refine hK _ (W.block (W.invA (λm e => ∃ (i b : Nat), i <= xs.length ∧ m = xs.length - i ∧ e = [(0, .v (.int .i64 p)), (1, .v (.ints g xs)), (5, .ownI 2 b ((xs.take i).map (· % p))), (6, .v (.int .i64 i))]) ⟨0, b_0, Nat.zero_le _, rfl, rfl⟩ ?_));clear hK;rintro m e ⟨i, b, h1, hm, rfl⟩;refine W.seqK λK7 hK7 => wrs λK hK => ?_;conv=>whnf
 refine hK _ (W.cond ⟨λh => ?_, λh => ?_⟩) <;> clear hK <;> (first | replace h := of_decide_eq_true h | replace h := of_decide_eq_false h)
 ·refine W.skip (hK7 _ ?_);clear hK7;refine W.seqK λK8 hK8 => W.block ?_;refine wrg ?_;conv=>whnf
  refine ⟨oo, ?_⟩;conv=>whnf
  refine zc rfl (vu _ p hp (by rw [Int.toNat_natCast]; have := hb i; show _ <= cf xs i ∧ cf xs i <= _; omega) hp2) λhs' hhs => ?_;try dsimp only at hhs
  conv=>whnf
  refine ⟨⟨rfl, by decide⟩, ?_⟩;conv=>whnf
  intro b_1 hs_1 hh_1 hf_1;try dsimp only at hh_1 hf_1
  conv=>whnf
  refine ⟨by simp; omega, ?_⟩;conv=>whnf
  intro b_2 hs_2 hh_2 hf_2;try dsimp only at hh_2 hf_2
  conv=>whnf
  refine hK8 _ ?_;clear hK8;refine wrg ?_;conv=>whnf
  refine ⟨by omega, ?_⟩;conv=>whnf
  refine ⟨_, _, ⟨i + 1, b_2, by omega, rfl, rfl⟩, by omega, by dsimp only; omega, ?_⟩
  repeat' first | refine And.intro ?_ ?_ | exact trivial | rfl | omega | exact .inl rfl | exact λ_ _ => rfl | exact λ_ _ h => h | assumption | exact λi hi => (by obtain rfl : i = 0 := (by omega); rfl)
  rw [zae _ (by omega), Int.toNat_natCast]
 ·refine W.exit (hK1 _ ?_);clear hK7 hK1;have e : xs.take i = xs := by rw [show i = xs.length by omega, List.take_length]
  refine wrs λK hK => ?_;conv=>whnf
  refine zv rfl (xP _ _ (by rw [e]; simpa using hl)) λhs_1 b_1 hh_1 hf_1 => ?_;try dsimp only at hh_1 hf_1
  conv=>whnf
  refine hK _ ?_;clear hK;rw [e];refine W.ret ?_;conv=>whnf
  exact ⟨.ownI 2 _ (nrm p xs), ⟨rfl, rfl, rfl⟩, trivial, _, rfl⟩
theorem j2 (p : Int) (hp : 0 < p) (hp2 : p <= 4611686018427387904) (g : Option Nat) (xs : List Int) (hb : Bd 4611686018427387904 xs) (hl : xs.length <= 100000000) : FnI 65 [.int .i64 p, .ints g xs] (nrm p xs) :=
 zdQ p hp hp2 g xs (λj => by have := hb j; omega) hl

theorem zaf (g : Option Nat) (xs : List Int) (hb : Bd 1000000000000 xs) (hl : xs.length <= 1000000) : FnV 135 [.ints g xs] (.ints none (mkL (xs.length - 1) (dv (cf xs)))) := by
 refine zf (za [0, 2, 3, 4, 8]) Tryz.func135 rfl (by decide) Tryz.ntmps135 (lb rfl) λbase => ?_;refine wrs λK hK => ?_;conv=>whnf
 refine hK _ (wrs λK hK => ?_);conv=>whnf
 refine hK _ (W.seqK λK1 hK1 => wrs λK hK => ?_);conv=>whnf
 refine hK _ (W.block (W.invA (λm e => ∃ (k b : Nat), k <= xs.length - 1 ∧ m = xs.length - k ∧ e = [(0, .v (.ints g xs)), (3, .ownI 2 b (mkL k (dv (cf xs)))), (4, .v (.int .i64 ((k : Int) + 1)))]) ⟨0, 0, Nat.zero_le _, rfl, rfl⟩ ?_));clear hK;rintro m e ⟨k, b, h1, hm, rfl⟩;refine W.seqK λK7 hK7 => wrs λK hK => ?_;conv=>whnf
 refine hK _ (W.cond ⟨λh => ?_, λh => ?_⟩) <;> clear hK <;> (first | replace h := of_decide_eq_true h | replace h := of_decide_eq_false h)
 ·refine W.skip (hK7 _ ?_);clear hK7;refine W.seqK λK8 hK8 => W.block ?_;have hk : ((k : Int) + 1).toNat = k + 1 := by omega
  have hv : -(1000000 * 1000000000000) <= ((k : Int) + 1) * cf xs (k + 1) ∧ ((k : Int) + 1) * cf xs (k + 1) <= 1000000 * 1000000000000 := by
   have h2 := hb (k + 1)
   have e1 : (((k : Int) + 1) * cf xs (k + 1)).natAbs <= (1000000 * 1000000000000 : Int).natAbs := by
    rw [Int.natAbs_mul, Int.natAbs_mul];exact Nat.mul_le_mul (by omega) (by omega)
   omega
  refine wrg ?_;conv=>whnf
  refine ⟨oo, ?_⟩;conv=>whnf
  rw [hk];refine ⟨by show _ <= ((k : Int) + 1) * cf xs (k + 1) ∧ ((k : Int) + 1) * cf xs (k + 1) <= _; omega, ?_⟩;conv=>whnf
  refine ⟨⟨rfl, by decide⟩, ?_⟩;conv=>whnf
  intro b_1 hs_1 hh_1 hf_1;try dsimp only at hh_1 hf_1
  conv=>whnf
  refine ⟨by simp [mkL]; omega, ?_⟩;conv=>whnf
  intro b_2 hs_2 hh_2 hf_2;try dsimp only at hh_2 hf_2
  conv=>whnf
  refine hK8 _ ?_;clear hK8;refine wrg ?_;conv=>whnf
  refine ⟨by omega, ?_⟩;conv=>whnf
  refine ⟨_, _, ⟨k + 1, b_2, by omega, rfl, rfl⟩, by omega, by dsimp only; omega, ?_⟩
  repeat' first | refine And.intro ?_ ?_ | exact trivial | rfl | omega | exact .inl rfl | exact λ_ _ => rfl | exact λ_ _ h => h | assumption | exact λi hi => (by obtain rfl : i = 0 := (by omega); rfl)
  rw [za6]; rfl
 ·refine W.exit (hK1 _ ?_);clear hK7 hK1;have e : k = xs.length - 1 := by omega
  refine wrs λK hK => ?_;conv=>whnf
  refine hK _ (W.ret ?_);conv=>whnf
  exact ⟨.v (.ints none (mkL (xs.length - 1) (dv (cf xs)))), ⟨rfl, by rw [e]⟩, trivial, rfl⟩
theorem zbP (g : Option Nat) (xs : List Int) (hb : Bd 1000000000000 xs) (hl : xs.length <= 1000000) : FnV 171 [.ints g xs] (.ints none (mkL (xs.length - 1) (dv (cf xs)))) := by
 refine zf (za [0, 2, 3, 4, 9]) Tryz.func171 rfl (by decide) Tryz.ntmps171 (lb rfl) λbase => ?_;refine wrs λK hK => ?_;conv=>whnf
 refine hK _ (wrs λK hK => ?_);conv=>whnf
 refine ⟨⟨rfl, by decide⟩, ?_⟩;conv=>whnf
 intro b_0 hs_0 hh_0 hf_0;try dsimp only at hh_0 hf_0
 conv=>whnf
 refine hK _ (W.seqK λK1 hK1 => wrs λK hK => ?_);conv=>whnf
 refine hK _ (W.block (W.invA (λm e => ∃ (k b : Nat), k <= xs.length - 1 ∧ m = xs.length - k ∧ e = [(0, .v (.ints g xs)), (3, .ownI 2 b (mkL k (dv (cf xs)))), (4, .v (.int .i64 ((k : Int) + 1)))]) ⟨0, b_0, Nat.zero_le _, rfl, rfl⟩ ?_));clear hK;rintro m e ⟨k, b, h1, hm, rfl⟩;refine W.seqK λK7 hK7 => wrs λK hK => ?_;conv=>whnf
 refine hK _ (W.cond ⟨λh => ?_, λh => ?_⟩) <;> clear hK <;> (first | replace h := of_decide_eq_true h | replace h := of_decide_eq_false h)
 ·refine W.skip (hK7 _ ?_);clear hK7;refine W.seqK λK8 hK8 => W.block ?_;have hk : ((k : Int) + 1).toNat = k + 1 := by omega
  have hv : -(1000000 * 1000000000000) <= ((k : Int) + 1) * cf xs (k + 1) ∧ ((k : Int) + 1) * cf xs (k + 1) <= 1000000 * 1000000000000 := by
   have h2 := hb (k + 1)
   have e1 : (((k : Int) + 1) * cf xs (k + 1)).natAbs <= (1000000 * 1000000000000 : Int).natAbs := by
    rw [Int.natAbs_mul, Int.natAbs_mul];exact Nat.mul_le_mul (by omega) (by omega)
   omega
  refine wrg ?_;conv=>whnf
  refine ⟨oo, ?_⟩;conv=>whnf
  rw [hk];refine ⟨by show _ <= ((k : Int) + 1) * cf xs (k + 1) ∧ ((k : Int) + 1) * cf xs (k + 1) <= _; omega, ?_⟩;conv=>whnf
  refine ⟨⟨rfl, by decide⟩, ?_⟩;conv=>whnf
  intro b_1 hs_1 hh_1 hf_1;try dsimp only at hh_1 hf_1
  conv=>whnf
  refine ⟨by simp [mkL]; omega, ?_⟩;conv=>whnf
  intro b_2 hs_2 hh_2 hf_2;try dsimp only at hh_2 hf_2
  conv=>whnf
  refine hK8 _ ?_;clear hK8;refine wrg ?_;conv=>whnf
  refine ⟨by omega, ?_⟩;conv=>whnf
  refine ⟨_, _, ⟨k + 1, b_2, by omega, rfl, rfl⟩, by omega, by dsimp only; omega, ?_⟩
  repeat' first | refine And.intro ?_ ?_ | exact trivial | rfl | omega | exact .inl rfl | exact λ_ _ => rfl | exact λ_ _ h => h | assumption | exact λi hi => (by obtain rfl : i = 0 := (by omega); rfl)
  rw [za6]; rfl
 ·refine W.exit (hK1 _ ?_);clear hK7 hK1;have e : k = xs.length - 1 := by omega
  refine wrs λK hK => ?_;conv=>whnf
  refine hK _ (W.ret ?_);conv=>whnf
  exact ⟨.v (.ints none (mkL (xs.length - 1) (dv (cf xs)))), ⟨rfl, by rw [e]⟩, trivial, rfl⟩

theorem ziy (g g' : Option Nat) (f h : List Int) (hf : Bd 9223372036854775807 f) (hs : ∀ j, -9223372036854775807 <= cf f j + cf h j ∧ cf f j + cf h j <= 9223372036854775807) (hl : f.length <= 100000000) (hl' : h.length <= 100000000) : FnI 70 [.ints g f, .ints g' h] (zx (kC f h)) := by
 generalize hn : max f.length h.length = n;have hmx : (max (f.length : Int) (h.length : Int)) = n := by omega
 refine zf (za [0, 1, 4, 5, 6, 7, 8, 9, 16, 17, 18, 19, 31, 32, 33, 34]) Tryz.func70 rfl (by decide) Tryz.ntmps70 (lb rfl) λbase => ?_;refine wrs λK hK => ?_;conv=>whnf
 refine hK _ (wrs λK hK => ?_);conv=>whnf
 rw [hmx];refine ⟨rfl, ?_⟩;conv=>whnf
 refine ⟨oo, ?_⟩;conv=>whnf
 intro b_0 hs_0 hh_0 hf_0;try dsimp only at hh_0 hf_0
 conv=>whnf
 refine hK _ (W.seqK λK1 hK1 => wrs λK hK => ?_);conv=>whnf
 refine hK _ (W.block (W.invA (λm e => ∃ (i b : Nat) (o : List Int), i <= f.length ∧ o.length = n ∧ (∀ j, cf o j = if j < i then cf f j else 0) ∧ m = f.length - i ∧ e = [(0, .v (.ints g f)), (1, .v (.ints g' h)), (5, .ownI 2 b o), (16, .v (.ints g f)), (17, .v (.int .i64 f.length)), (18, .v (.int .i64 i))]) ⟨0, b_0, List.replicate n 0, Nat.zero_le _, by simp, λj => by rw [zI]; simp, rfl, rfl⟩ ?_));clear hK;rintro m e ⟨i, b, o, h1, h2, h3, hm, rfl⟩;refine wrs λK hK => ?_;conv=>whnf
 refine hK _ ?_;clear hK;refine W.seqK λK7 hK7 => W.cond ⟨λh4 => ?_, λh4 => ?_⟩ <;> (first | replace h4 := of_decide_eq_true h4 | replace h4 := of_decide_eq_false h4)
 ·refine W.skip (hK7 _ ?_);clear hK7;refine W.seqK λK8 hK8 => W.block ?_;refine wrs λK hK => ?_;conv=>whnf
  refine ⟨oo, ?_⟩;conv=>whnf
  refine hK _ ?_;clear hK;refine wrg ?_;conv=>whnf
  rw [Int.toNat_natCast];refine ⟨oo, ?_⟩;conv=>whnf
  have e1 : cf o i = 0 := by rw [h3, if_neg (by omega)]
  have e2 := hf i;refine ⟨by show _ <= cf o i + cf f i ∧ cf o i + cf f i <= _; omega, ?_⟩;conv=>whnf
  refine ⟨oo, ?_⟩;conv=>whnf
  refine hK8 _ ?_;clear hK8;refine wrg ?_;conv=>whnf
  refine ⟨by omega, ?_⟩;conv=>whnf
  have h5 : ∀ j, cf (o.set i (cf o i + cf f i)) j = if j < i + 1 then cf f j else 0 := λj => by
   rw [yu (by omega), h3 j]
   by_cases hj : j = i
   ·subst hj; rw [if_pos rfl, if_pos (by omega), e1]; omega
   ·by_cases hj2 : j < i
    ·rw [if_neg hj, if_pos hj2, if_pos (by omega)]
    ·rw [if_neg hj, if_neg hj2, if_neg (by omega)]
  exact ze ⟨i + 1, b, o.set i (cf o i + cf f i), by omega, by simpa using h2, h5, rfl, rfl⟩
 ·refine W.exit (hK1 _ ?_);clear hK7 hK1;obtain rfl : i = f.length := by omega
  have h3' : ∀ j, cf o j = cf f j := λj => by
   rw [h3]
   split
   ·rfl
   ·rw [z1 (by omega)]
  clear h3;refine W.seqK λK1 hK1 => wrs λK hK => ?_;conv=>whnf
  refine hK _ (W.block (W.invA (λm e => ∃ (i b : Nat) (o : List Int), i <= h.length ∧ o.length = n ∧ (∀ j, cf o j = cf f j + if j < i then cf h j else 0) ∧ m = h.length - i ∧ e = [(5, .ownI 2 b o), (31, .v (.ints g' h)), (32, .v (.int .i64 h.length)), (33, .v (.int .i64 i))]) ⟨0, b, o, Nat.zero_le _, h2, λj => by rw [h3']; simp, rfl, rfl⟩ ?_));clear hK;rintro m e ⟨i, b, o, h1, h2, h3, hm, rfl⟩;refine wrs λK hK => ?_;conv=>whnf
  refine hK _ ?_;clear hK;refine W.seqK λK7 hK7 => W.cond ⟨λh4 => ?_, λh4 => ?_⟩ <;> (first | replace h4 := of_decide_eq_true h4 | replace h4 := of_decide_eq_false h4)
  ·refine W.skip (hK7 _ ?_);clear hK7;refine W.seqK λK8 hK8 => W.block ?_;refine wrs λK hK => ?_;conv=>whnf
   refine ⟨oo, ?_⟩;conv=>whnf
   refine hK _ ?_;clear hK;refine wrg ?_;conv=>whnf
   rw [Int.toNat_natCast];refine ⟨oo, ?_⟩;conv=>whnf
   have e1 : cf o i = cf f i := by rw [h3, if_neg (by omega)]; omega
   have e2 := hs i;refine ⟨by show _ <= cf o i + cf h i ∧ cf o i + cf h i <= _; omega, ?_⟩;conv=>whnf
   refine ⟨oo, ?_⟩;conv=>whnf
   refine hK8 _ ?_;clear hK8;refine wrg ?_;conv=>whnf
   refine ⟨by omega, ?_⟩;conv=>whnf
   have h5 : ∀ j, cf (o.set i (cf o i + cf h i)) j = cf f j + if j < i + 1 then cf h j else 0 := λj => by
    rw [yu (by omega), h3 j]
    by_cases hj : j = i
    ·subst hj; rw [if_pos rfl, if_pos (by omega), e1]
    ·by_cases hj2 : j < i
     ·rw [if_neg hj, if_pos hj2, if_pos (by omega)]
     ·rw [if_neg hj, if_neg hj2, if_neg (by omega)]
   exact ze ⟨i + 1, b, o.set i (cf o i + cf h i), by omega, by simpa using h2, h5, rfl, rfl⟩
  ·refine W.exit (hK1 _ ?_);clear hK7 hK1
   have h3' : ∀ j, cf o j = cf f j + cf h j := λj => by
    rw [h3]
    split
    ·rfl
    ·rw [z1 (l := h) (by omega)]
   refine wrs λK hK => ?_;conv=>whnf
   refine zv rfl (j1 _ _ (by omega)) λhs_1 b_1 hh_1 hf_1 => ?_;try dsimp only at hh_1 hf_1
   conv=>whnf
   refine hK _ (W.ret ?_);conv=>whnf
   exact ⟨.ownI 2 _ (zx (kC f h)), ⟨rfl, rfl, zg4 h3'⟩, trivial, _, rfl⟩

theorem zlW (g g' : Option Nat) (f h : List Int) (hf : Bd 2305843009213693951 f) (hh : Bd 2305843009213693951 h) (hl : f.length <= 100000000) (hl' : h.length <= 100000000) : FnI 70 [.ints g f, .ints g' h] (zx (kC f h)) :=
 ziy g g' f h (λj => by have := hf j; omega) (λj => by have := hf j; have := hh j; omega) hl hl'

theorem zkf (g g' : Option Nat) (f h : List Int) (k : Int) (hk : -1 <= k ∧ k <= 1) (hf : Bd 2305843009213693951 f) (hh : Bd 2305843009213693951 h) (hl : f.length <= 100000000) (hl' : h.length <= 100000000) : FnI 251 [.ints g f, .ints g' h, .int .i64 k] (zx (kC f (kD k h))) := by
 generalize hn : max f.length h.length = n;have hmx : (max (f.length : Int) (h.length : Int)) = n := by omega
 have hkh : ∀ i, -2305843009213693951 <= k * cf h i ∧ k * cf h i <= 2305843009213693951 := λi => by
  have := hh i;rcases (by omega : k = -1 ∨ k = 0 ∨ k = 1) with rfl | rfl | rfl <;> omega
 refine zf (za [0, 1, 2, 6, 7, 8, 18, 24, 35]) Tryz.func251 rfl (by decide) Tryz.ntmps251 (lb rfl) λbase => ?_;refine wrs λK hK => ?_;conv=>whnf
 refine hK _ (wrs λK hK => ?_);conv=>whnf
 rw [hmx];refine ⟨rfl, ?_⟩;conv=>whnf
 refine ⟨oo, ?_⟩;conv=>whnf
 intro b_0 hs_0 hh_0 hf_0;try dsimp only at hh_0 hf_0
 conv=>whnf
 refine hK _ (W.seqK λK1 hK1 => wrs λK hK => ?_);conv=>whnf
 refine hK _ (W.block (W.invA (λm e => ∃ (i b : Nat) (o : List Int), i <= n ∧ o.length = n ∧ (∀ j, cf o j = if j < i then cf f j + k * cf h j else 0) ∧ m = n - i ∧ e = [(0, .v (.ints g f)), (1, .v (.ints g' h)), (2, .v (.int .i64 k)), (7, .ownI 2 b o), (8, .v (.int .i64 i))]) ⟨0, b_0, List.replicate n 0, Nat.zero_le _, by simp, λj => by rw [zI]; simp, rfl, rfl⟩ ?_));clear hK;rintro m e ⟨i, b, o, h1, h2, h3, hm, rfl⟩;refine W.seqK λK7 hK7 => wrs λK hK => ?_;conv=>whnf
 refine hK _ (W.cond ⟨λh4 => ?_, λh4 => ?_⟩) <;> clear hK <;> (first | replace h4 := of_decide_eq_true h4 | replace h4 := of_decide_eq_false h4)
 ·refine W.skip (hK7 _ ?_);clear hK7;refine W.seqK λK8 hK8 => W.block ?_;have e1 : cf o i = 0 := by rw [h3, if_neg (by omega)]
  have e2 := hf i;have e3 := hkh i
  -- the end of the round
  have fin : ∀ (o' : List Int) (s : S), o'.length = n -> (∀ j, cf o' j = if j = i then cf f i + k * cf h i else cf o j) -> base <= s.hs ->
    zB s.env [(0, .v (.ints g f)), (1, .v (.ints g' h)), (2, .v (.int .i64 k)), (7, .ownI 2 b o'), (8, .v (.int .i64 i))] -> K8 s := by
   intro o' s h5 h6 h7 h8;refine hK8 _ (W.weak (t := ⟨[(0, .v (.ints g f)), (1, .v (.ints g' h)), (2, .v (.int .i64 k)), (7, .ownI 2 b o'), (8, .v (.int .i64 i))], base⟩) ⟨h7, h8⟩ (Nat.le_refl _) ?_);refine wrg ?_;conv=>whnf
   refine ⟨by omega, ?_⟩;conv=>whnf
   have h9 : ∀ j, cf o' j = if j < i + 1 then cf f j + k * cf h j else 0 := λj => by
    rw [h6, h3 j]
    by_cases hj : j = i
    ·subst hj; rw [if_pos rfl, if_pos (by omega)]
    ·by_cases hj2 : j < i
     ·rw [if_neg hj, if_pos hj2, if_pos (by omega)]
     ·rw [if_neg hj, if_neg hj2, if_neg (by omega)]
   exact ze ⟨i + 1, b, o', by omega, h5, h9, rfl, rfl⟩
  clear hK8;refine W.seqK λK9 hK9 => ?_
  -- the second half of the round
  have sec : ∀ (o' : List Int) (s : S), o'.length = n -> (∀ j, cf o' j = if j = i then cf f i else cf o j) -> base <= s.hs ->
    zB s.env [(0, .v (.ints g f)), (1, .v (.ints g' h)), (2, .v (.int .i64 k)), (7, .ownI 2 b o'), (8, .v (.int .i64 i))] -> K9 s := by
   intro o' s h5 h6 h7 h8;refine hK9 _ (W.weak (t := ⟨[(0, .v (.ints g f)), (1, .v (.ints g' h)), (2, .v (.int .i64 k)), (7, .ownI 2 b o'), (8, .v (.int .i64 i))], base⟩) ⟨h7, h8⟩ (Nat.le_refl _) ?_);clear hK9;have e4 : cf o' i = cf f i := by rw [h6, if_pos rfl]
   refine wrs λK hK => ?_;conv=>whnf
   refine hK _ (W.cond ⟨λh9 => ?_, λh9 => ?_⟩) <;> clear hK
   ·have h9 := of_decide_eq_true h9;refine W.draw (za _) follows (by rfl) ?_;conv=>whnf
    rw [Int.toNat_natCast];refine ⟨oo, ?_⟩;conv=>whnf
    refine ⟨oo, ?_⟩;conv=>whnf
    refine ⟨by show _ <= k * cf h i ∧ k * cf h i <= _; omega, ?_⟩;conv=>whnf
    refine ⟨by show _ <= cf o' i + k * cf h i ∧ cf o' i + k * cf h i <= _; omega, ?_⟩;conv=>whnf
    refine ⟨oo, ?_⟩;conv=>whnf
    refine fin (o'.set i (cf o' i + k * cf h i)) _ (by simpa using h5) (λj => ?_) (by dsimp only; omega) ?_
    ·rw [yu (by omega), e4]
     split
     ·rfl
     ·rename_i hj; rw [h6, if_neg hj]
    ·exact cvr
   ·have h9 := of_decide_eq_false h9;have e5 : cf h i = 0 := z1 (by omega);refine W.skip (fin o' _ h5 (λj => ?_) (by dsimp only; omega) ?_)
    ·rw [h6]; split
     ·rw [e5]; omega
     ·rfl
    ·exact cvr
  clear hK9 fin;refine wrs λK hK => ?_;conv=>whnf
  refine hK _ (W.cond ⟨λh5 => ?_, λh5 => ?_⟩) <;> clear hK
  ·have h5 := of_decide_eq_true h5;refine wrg ?_;conv=>whnf
   rw [Int.toNat_natCast];refine ⟨oo, ?_⟩;conv=>whnf
   refine ⟨oo, ?_⟩;conv=>whnf
   refine sec (o.set i (cf f i)) _ (by simpa using h2) (λj => ?_) (by dsimp only; omega) ?_
   ·exact yu (by omega) _ _
   ·exact cvr
  ·have h5 := of_decide_eq_false h5;refine W.skip (sec o _ h2 (λj => ?_) (by dsimp only; omega) ?_)
   ·split
    ·rename_i hj; rw [hj, e1, z1 (by omega)]
    ·rfl
   ·exact cvr
 ·refine W.exit (hK1 _ ?_);clear hK7 hK1
  have h3' : ∀ j, cf o j = cf f j + cf (kD k h) j := λj => by
   rw [h3, zdj]
   split
   ·rfl
   ·rw [z1 (l := f) (by omega), z1 (l := h) (by omega)]; omega
  refine wrs λK hK => ?_;conv=>whnf
  refine zv rfl (xP _ _ (by omega)) λhs_1 b_1 hh_1 hf_1 => ?_;try dsimp only at hh_1 hf_1
  conv=>whnf
  refine hK _ (W.ret ?_);conv=>whnf
  exact ⟨.ownI 2 _ (zx (kC f (kD k h))), ⟨rfl, rfl, zg4 h3'⟩, trivial, _, rfl⟩

open Go Go.RowKit Go.Proofs

theorem zeX {f h : List Int} {o : List Int} {i k : Nat} (hn : o.length + 1 = f.length + h.length) (hi : i < f.length) (hk : k < h.length) (h3 : ∀ j, cf o j = part (cf f) (cf h) i k j) :
  i + k < o.length ∧ ∀ j, cf (o.set (i + k) (cf o (i + k) + cf f i * cf h k)) j = part (cf f) (cf h) i (k + 1) j := by
 refine ⟨by omega, λj => ?_⟩;rw [yu (by omega), zbI]
 split
 ·rename_i hj; subst hj; rw [h3]
 ·exact h3 j

theorem zdR (g g' : Option Nat) (f h : List Int) (A B : Int) (hA : 0 <= A) (hB : 0 <= B) (hf : Bd A f) (hh : Bd B h) (hAB : ((f.length : Int) + 1) * (A * B) <= 9223372036854775807) (hl : f.length <= 10000000) (hl' : h.length <= 10000000) : FnI 186 [.ints g f, .ints g' h] (zx (jP f h)) := by
 have hpb : ∀ i k j, i < f.length -> -9223372036854775807 <= part (cf f) (cf h) i k j ∧ part (cf f) (cf h) i k j <= 9223372036854775807 := λi k j hi => by
  have h1 := zjf hA hB hf hh i k j;have h2 : ((i : Int) + 1) * (A * B) <= ((f.length : Int) + 1) * (A * B) := Int.mul_le_mul_of_nonneg_right (by omega) (Int.mul_nonneg hA hB);omega
 have hmb : ∀ i k, i < f.length -> -9223372036854775807 <= cf f i * cf h k ∧ cf f i * cf h k <= 9223372036854775807 := λi k hi => by
  have h1 := hf i;have h2 := hh k
  have e1 : (cf f i * cf h k).natAbs <= (A * B).natAbs := by
   rw [Int.natAbs_mul, Int.natAbs_mul];exact Nat.mul_le_mul (by omega) (by omega)
  have h3 : 0 <= A * B := Int.mul_nonneg hA hB;have h4 : 1 * (A * B) <= ((f.length : Int) + 1) * (A * B) := Int.mul_le_mul_of_nonneg_right (by omega) h3;omega
 refine zf (za [0, 1, 4, 5, 6, 7, 8, 9, 17, 25, 26, 27, 28, 32, 33, 34, 35]) Tryz.func186 rfl (by decide) Tryz.ntmps186 (lb rfl) λbase => ?_;refine wrs λK hK => ?_;conv=>whnf
 refine hK _ (W.seqK λK1 hK1 => wrs λK hK => ?_);conv=>whnf
 have hnil : (f = [] ∨ h = []) -> zx (jP f h) = [] := za7;refine ⟨λh0 => ?_, λh0 => ?_⟩ <;> conv=>whnf
 ·have h0 := of_decide_eq_true h0;refine hK _ (W.condT rfl ?_);clear hK;refine wrs λK hK => ?_;conv=>whnf
  refine hK _ (W.ret ?_);conv=>whnf
  exact ⟨.ownI 2 0 [], rfl, trivial, _, by rw [hnil (.inl (List.eq_nil_of_length_eq_zero (by omega)))]⟩
 have h0 := of_decide_eq_false h0;refine hK _ (W.cond ⟨λh0' => ?_, λh0' => ?_⟩) <;> clear hK
 ·have h0' := of_decide_eq_true h0';refine wrs λK hK => ?_;conv=>whnf
  refine hK _ (W.ret ?_);conv=>whnf
  exact ⟨.ownI 2 0 [], rfl, trivial, _, by rw [hnil (.inr (List.eq_nil_of_length_eq_zero (by omega)))]⟩
 have h0' := of_decide_eq_false h0';clear hnil;refine W.skip (hK1 _ ?_);clear hK1;refine wrs λK hK => ?_;conv=>whnf
 refine ⟨oo, ?_⟩;conv=>whnf
 refine ⟨oo, ?_⟩;conv=>whnf
 refine ⟨rfl, ?_⟩;conv=>whnf
 refine ⟨oo, ?_⟩;conv=>whnf
 have hn : ((f.length : Int) + h.length - 1).toNat + 1 = f.length + h.length := by omega
 generalize hnn : ((f.length : Int) + h.length - 1).toNat = n at hn;intro b_0 hs_0 hh_0 hf_0;try dsimp only at hh_0 hf_0
 conv=>whnf
 refine hK _ (W.seqK λK1 hK1 => wrs λK hK => ?_);conv=>whnf
 refine hK _ (W.block (W.invA (λm e => ∃ (i b : Nat) (o : List Int), i <= f.length ∧ o.length = n ∧ (∀ j, cf o j = part (cf f) (cf h) i 0 j) ∧ m = f.length - i ∧ e = [(1, .v (.ints g' h)), (5, .ownI 2 b o), (25, .v (.ints g f)), (26, .v (.int .i64 f.length)), (27, .v (.int .i64 i))]) ⟨0, b_0, List.replicate n 0, Nat.zero_le _, by simp, λj => by rw [zI, zdz], rfl, rfl⟩ ?_));clear hK;rintro m e ⟨i, b, o, h1, h2, h3, hm, rfl⟩;refine wrs λK hK => ?_;conv=>whnf
 refine hK _ ?_;clear hK;refine W.seqK λK7 hK7 => W.cond ⟨λh4 => ?_, λh4 => ?_⟩ <;> (first | replace h4 := of_decide_eq_true h4 | replace h4 := of_decide_eq_false h4)
 ·refine W.skip (hK7 _ ?_);clear hK7;refine W.seqK λK8 hK8 => W.block ?_;refine wrs λK hK => ?_;conv=>whnf
  refine ⟨oo, ?_⟩;conv=>whnf
  rw [Int.toNat_natCast];refine hK _ (wrs λK hK => ?_);conv=>whnf
  refine hK _ (W.block (W.invE (λm e => ∃ (k b : Nat) (o : List Int), k <= h.length ∧ o.length = n ∧ (∀ j, cf o j = part (cf f) (cf h) i k j) ∧ m = h.length - k ∧ e = [(1, .v (.ints g' h)), (5, .ownI 2 b o), (6, .v (.int .i64 i)), (7, .v (.int .i64 (cf f i))), (25, .v (.ints g f)), (26, .v (.int .i64 f.length)), (27, .v (.int .i64 i)), (32, .v (.ints g' h)), (33, .v (.int .i64 h.length)), (34, .v (.int .i64 k))]) _ _ ⟨0, b, o, Nat.zero_le _, h2, h3, rfl, rfl⟩ (by dsimp only; omega) (by repeat' first | refine And.intro ?_ ?_ | exact trivial | rfl | omega | assumption) ?_));clear hK;clear h3 h2 b o;rintro m' e ⟨k, b, o, h5, h2, h3, hm', rfl⟩;refine wrs λK hK => ?_;conv=>whnf
  refine hK _ ?_;clear hK;refine W.seqK λK7 hK7 => W.cond ⟨λh6 => ?_, λh6 => ?_⟩ <;> (first | replace h6 := of_decide_eq_true h6 | replace h6 := of_decide_eq_false h6)
  ·refine W.skip (hK7 _ ?_);clear hK7;refine W.seqK λK10 hK10 => W.block ?_;refine wrs λK hK => ?_;conv=>whnf
   refine ⟨oo, ?_⟩;conv=>whnf
   rw [Int.toNat_natCast];refine hK _ ?_;clear hK;refine wrg ?_;conv=>whnf
   have h4 : i < f.length := by omega
   have h7 := zeX (o := o) (by omega) h4 (by omega : k < h.length) h3;have h8 := hpb i k (i + k) h4;have h9 := hpb i (k + 1) (i + k) h4;rw [zbI, if_pos rfl] at h9;have h10 := hmb i k h4;rw [<- h3] at h8 h9;refine ⟨oo, ?_⟩;conv=>whnf
   have e1 : ((i : Int) + k).toNat = i + k := by omega
   refine ⟨oo, ?_⟩;conv=>whnf
   rw [e1];refine ⟨by show _ <= cf f i * cf h k ∧ cf f i * cf h k <= _; omega, ?_⟩;conv=>whnf
   refine ⟨by show _ <= cf o (i + k) + cf f i * cf h k ∧ cf o (i + k) + cf f i * cf h k <= _; omega, ?_⟩;conv=>whnf
   refine ⟨oo, ?_⟩;conv=>whnf
   refine hK10 _ ?_;clear hK10 K10;refine wrg ?_;conv=>whnf
   refine ⟨by omega, ?_⟩;conv=>whnf
   exact ze ⟨k + 1, b, o.set (i + k) (cf o (i + k) + cf f i * cf h k), by omega, by simpa using h2, h7.2, rfl, rfl⟩
  ·obtain rfl : k = h.length := by omega
   refine W.exit (hK8 _ ?_);clear hK7 hK8;refine wrg ?_;conv=>whnf
   refine ⟨by omega, ?_⟩;conv=>whnf
   exact ze ⟨i + 1, b, o, by omega, h2, λj => by rw [h3 j]; exact zg2 (λj hj => z1 hj) i j, rfl, rfl⟩
 ·refine W.exit (hK1 _ ?_);clear hK7 hK1;obtain rfl : i = f.length := by omega
  refine wrs λK hK => ?_;conv=>whnf
  refine zv rfl (j1 _ _ (by omega)) λhs_1 b_1 hh_1 hf_1 => ?_;try dsimp only at hh_1 hf_1
  conv=>whnf
  refine hK _ (W.ret ?_);conv=>whnf
  exact ⟨.ownI 2 _ (zx (jP f h)), ⟨rfl, rfl, zg5 λj => by rw [h3 j]; exact zg3 (λj hj => z1 hj) j⟩, trivial, _, rfl⟩
theorem zfN (g g' : Option Nat) (f h : List Int) (A B : Int) (hA : 0 <= A) (hB : 0 <= B) (hf : Bd A f) (hh : Bd B h) (hAB : ((f.length : Int) + 1) * (A * B) <= 4611686018427387904) (hl : f.length <= 10000000) (hl' : h.length <= 10000000) : FnI 186 [.ints g f, .ints g' h] (zx (jP f h)) :=
 zdR g g' f h A B hA hB hf hh (by omega) hl hl'

theorem zdS (g g' : Option Nat) (f h : List Int) (A B : Int) (hA : 0 <= A) (hB : 0 <= B) (hf : Bd A f) (hh : Bd B h) (hAB : ((f.length : Int) + 1) * (A * B) <= 4611686018427387904) (hl : f.length <= 10000000) (hl' : h.length <= 10000000) : FnI 232 [.ints g f, .ints g' h] (zx (jP f h)) := by
 have hpb : ∀ i k j, i < f.length -> -4611686018427387904 <= part (cf f) (cf h) i k j ∧ part (cf f) (cf h) i k j <= 4611686018427387904 := λi k j hi => by
  have h1 := zjf hA hB hf hh i k j;have h2 : ((i : Int) + 1) * (A * B) <= ((f.length : Int) + 1) * (A * B) := Int.mul_le_mul_of_nonneg_right (by omega) (Int.mul_nonneg hA hB);omega
 have hmb : ∀ i k, i < f.length -> -4611686018427387904 <= cf f i * cf h k ∧ cf f i * cf h k <= 4611686018427387904 := λi k hi => by
  have h1 := hf i;have h2 := hh k
  have e1 : (cf f i * cf h k).natAbs <= (A * B).natAbs := by
   rw [Int.natAbs_mul, Int.natAbs_mul];exact Nat.mul_le_mul (by omega) (by omega)
  have h3 : 0 <= A * B := Int.mul_nonneg hA hB;have h4 : 1 * (A * B) <= ((f.length : Int) + 1) * (A * B) := Int.mul_le_mul_of_nonneg_right (by omega) h3;omega
 refine zf (za [0, 1, 4, 5, 6, 7, 15, 27, 33]) Tryz.func232 rfl (by decide) Tryz.ntmps232 (lb rfl) λbase => ?_;refine wrs λK hK => ?_;conv=>whnf
 refine hK _ (W.seqK λK1 hK1 => wrs λK hK => ?_);conv=>whnf
 have hnil : (f = [] ∨ h = []) -> zx (jP f h) = [] := za7;refine ⟨λh0 => ?_, λh0 => ?_⟩ <;> conv=>whnf
 ·have h0 := of_decide_eq_true h0;refine hK _ (W.condT rfl ?_);clear hK;refine wrs λK hK => ?_;conv=>whnf
  refine ⟨⟨rfl, by decide⟩, ?_⟩;conv=>whnf
  intro b_0 hs_0 hh_0 hf_0;try dsimp only at hh_0 hf_0
  conv=>whnf
  refine hK _ (W.ret ?_);conv=>whnf
  exact ⟨.ownI 2 b_0 [], ⟨rfl, rfl, rfl⟩, trivial, _, by rw [hnil (.inl (List.eq_nil_of_length_eq_zero (by omega)))]⟩
 have h0 := of_decide_eq_false h0;refine hK _ (W.cond ⟨λh0' => ?_, λh0' => ?_⟩) <;> clear hK
 ·have h0' := of_decide_eq_true h0';refine wrs λK hK => ?_;conv=>whnf
  refine ⟨⟨rfl, by decide⟩, ?_⟩;conv=>whnf
  intro b_0 hs_0 hh_0 hf_0;try dsimp only at hh_0 hf_0
  conv=>whnf
  refine hK _ (W.ret ?_);conv=>whnf
  exact ⟨.ownI 2 b_0 [], ⟨rfl, rfl, rfl⟩, trivial, _, by rw [hnil (.inr (List.eq_nil_of_length_eq_zero (by omega)))]⟩
 have h0' := of_decide_eq_false h0';clear hnil;refine W.skip (hK1 _ ?_);clear hK1;refine wrs λK hK => ?_;conv=>whnf
 refine ⟨oo, ?_⟩;conv=>whnf
 refine ⟨oo, ?_⟩;conv=>whnf
 refine ⟨rfl, ?_⟩;conv=>whnf
 refine ⟨oo, ?_⟩;conv=>whnf
 have hn : ((f.length : Int) + h.length - 1).toNat + 1 = f.length + h.length := by omega
 generalize hnn : ((f.length : Int) + h.length - 1).toNat = n at hn;intro b_0 hs_0 hh_0 hf_0;try dsimp only at hh_0 hf_0
 conv=>whnf
 refine hK _ (W.seqK λK1 hK1 => wrs λK hK => ?_);conv=>whnf
 refine hK _ (W.block (W.invA (λm e => ∃ (i b : Nat) (o : List Int), i <= f.length ∧ o.length = n ∧ (∀ j, cf o j = part (cf f) (cf h) i 0 j) ∧ m = f.length - i ∧ e = [(0, .v (.ints g f)), (1, .v (.ints g' h)), (5, .ownI 2 b o), (6, .v (.int .i64 i))]) ⟨0, b_0, List.replicate n 0, Nat.zero_le _, by simp, λj => by rw [zI, zdz], rfl, rfl⟩ ?_));clear hK;rintro m e ⟨i, b, o, h1, h2, h3, hm, rfl⟩;refine W.seqK λK7 hK7 => wrs λK hK => ?_;conv=>whnf
 refine hK _ (W.cond ⟨λh4 => ?_, λh4 => ?_⟩) <;> clear hK <;> (first | replace h4 := of_decide_eq_true h4 | replace h4 := of_decide_eq_false h4)
 ·refine W.skip (hK7 _ ?_);clear hK7;refine W.seqK λK8 hK8 => W.block ?_;have h4 : i < f.length := by omega
  refine wrs λK hK => ?_;conv=>whnf
  refine hK _ (W.block (W.invE (λm e => ∃ (k b : Nat) (o : List Int), k <= h.length ∧ o.length = n ∧ (∀ j, cf o j = part (cf f) (cf h) i k j) ∧ m = h.length - k ∧ e = [(0, .v (.ints g f)), (1, .v (.ints g' h)), (5, .ownI 2 b o), (6, .v (.int .i64 i)), (7, .v (.int .i64 k))]) _ _ ⟨0, b, o, Nat.zero_le _, h2, h3, rfl, rfl⟩ (by dsimp only; omega) (by repeat' first | refine And.intro ?_ ?_ | exact trivial | rfl | omega | assumption) ?_));clear hK;clear h3 h2 b o;rintro m' e ⟨k, b, o, h5, h2, h3, hm', rfl⟩;refine W.seqK λK7 hK7 => wrs λK hK => ?_;conv=>whnf
  refine hK _ (W.cond ⟨λh6 => ?_, λh6 => ?_⟩) <;> clear hK <;> (first | replace h6 := of_decide_eq_true h6 | replace h6 := of_decide_eq_false h6)
  ·refine W.skip (hK7 _ ?_);clear hK7;refine W.seqK λK10 hK10 => W.block ?_;have h7 := zeX (o := o) (by omega) h4 (by omega : k < h.length) h3;have h8 := hpb i k (i + k) h4;have h9 := hpb i (k + 1) (i + k) h4;rw [zbI, if_pos rfl] at h9;have h10 := hmb i k h4;rw [<- h3] at h8 h9;have e1 : ((i : Int) + k).toNat = i + k := by omega
   refine W.draw (za _) follows (by rfl) ?_;conv=>whnf
   refine ⟨oo, ?_⟩;conv=>whnf
   refine ⟨oo, ?_⟩;conv=>whnf
   refine ⟨oo, ?_⟩;conv=>whnf
   refine ⟨oo, ?_⟩;conv=>whnf
   refine ⟨oo, ?_⟩;conv=>whnf
   rw [e1, Int.toNat_natCast, Int.toNat_natCast];refine ⟨by show _ <= cf f i * cf h k ∧ cf f i * cf h k <= _; omega, ?_⟩;conv=>whnf
   refine ⟨by show _ <= cf o (i + k) + cf f i * cf h k ∧ cf o (i + k) + cf f i * cf h k <= _; omega, ?_⟩;conv=>whnf
   refine ⟨oo, ?_⟩;conv=>whnf
   refine hK10 _ ?_;clear hK10 K10;refine wrg ?_;conv=>whnf
   refine ⟨oo, ?_⟩;conv=>whnf
   exact ze ⟨k + 1, b, o.set (i + k) (cf o (i + k) + cf f i * cf h k), by omega, by simpa using h2, h7.2, rfl, rfl⟩
  ·obtain rfl : k = h.length := by omega
   refine W.exit (hK8 _ ?_);clear hK7 hK8;refine wrg ?_;conv=>whnf
   refine ⟨oo, ?_⟩;conv=>whnf
   exact ze ⟨i + 1, b, o, by omega, h2, λj => by rw [h3 j]; exact zg2 (λj hj => z1 hj) i j, rfl, rfl⟩
 ·refine W.exit (hK1 _ ?_);clear hK7 hK1;obtain rfl : i = f.length := by omega
  refine wrs λK hK => ?_;conv=>whnf
  refine zv rfl (xP _ _ (by omega)) λhs_1 b_1 hh_1 hf_1 => ?_;try dsimp only at hh_1 hf_1
  conv=>whnf
  refine hK _ (W.ret ?_);conv=>whnf
  exact ⟨.ownI 2 _ (zx (jP f h)), ⟨rfl, rfl, zg5 λj => by rw [h3 j]; exact zg3 (λj hj => z1 hj) j⟩, trivial, _, rfl⟩

open Go Go.RowKit Go.Proofs Poly

theorem zeY {a b : Int} (ha : -97 <= a ∧ a <= 97) (hb : -97 <= b ∧ b <= 97) : -9409 <= a * b ∧ a * b <= 9409 := by
 have e1 : (a * b).natAbs <= (97 * 97 : Int).natAbs := by
  rw [Int.natAbs_mul, Int.natAbs_mul];exact Nat.mul_le_mul (by omega) (by omega)
 omega
theorem zlX {p : Int} [SP p] (F G : Poly p) (h : dg F <= 1000) : Bd 10000000 (zx (jP F.l G.l)) := by
 refine Bd.trim λj => ?_;rw [zcx];have := znb (A := 97) (B := 97) (by omega) (by omega) (n := dg F) (cf F.l) (cf G.l) (kM F) (λj hj => yj hj) (kM G) j;have h2 : (dg F : Int) * (97 * 97) <= 1000 * (97 * 97) := Int.mul_le_mul_of_nonneg_right (by omega) (by omega);omega
theorem Bd.le {M N : Int} {l : List Int} (h : Bd M l) (hm : M <= N) : Bd N l := λj => by have := h j; omega
theorem zdT (p : Int) [SP p] (g g' : Option Nat) (F G : Poly p) (hF : dg F <= 1000) (hG : dg G <= 1000) : FnI 153 [.int .i64 p, .ints g F.l, .ints g' G.l] (F * G).l := by
 have hp := Pr.two (p := p);have hp2 := SP.le (p := p);have hFl : F.l.length = dg F := rfl;have hGl : G.l.length = dg G := rfl;have hml : (jP F.l G.l).length <= 2000 := by rw [jP, zT]; omega
 have hml2 := vh (jP F.l G.l);refine zf (za [0, 1, 2, 6]) Tryz.func153 rfl (by decide) Tryz.ntmps153 (lb rfl) λbase => ?_;refine wrs λK hK => ?_;conv=>whnf
 refine hK _ (wrs λK hK => ?_);conv=>whnf
 refine zv rfl (zfN _ _ _ _ 97 97 (by omega) (by omega) (kM F) (kM G) (by have : ((dg F : Int) + 1) * (97 * 97) <= 1001 * (97 * 97) := Int.mul_le_mul_of_nonneg_right (by omega) (by omega); rw [hFl]; omega) (by omega) (by omega)) λhs_1 b_1 hh_1 hf_1 => ?_;try dsimp only at hh_1 hf_1
 conv=>whnf
 refine zv rfl (zaa p (by omega) (by omega) _ _ ((zlX F G hF).le (by omega)) (by omega)) λhs_2 b_2 hh_2 hf_2 => ?_;try dsimp only at hh_2 hf_2
 conv=>whnf
 refine hK _ (W.ret ?_);conv=>whnf
 exact ⟨.ownI 2 _ ((F * G).l), ⟨rfl, rfl, zdA _ _⟩, trivial, _, rfl⟩
theorem vQ (p : Int) [SP p] (g g' : Option Nat) (F G : Poly p) (hF : dg F <= 1000) (hG : dg G <= 1000) : FnI 217 [.int .i64 p, .ints g F.l, .ints g' G.l] (F * G).l := by
 have hp := Pr.two (p := p);have hp2 := SP.le (p := p);have hFl : F.l.length = dg F := rfl;have hGl : G.l.length = dg G := rfl;have hml : (jP F.l G.l).length <= 2000 := by rw [jP, zT]; omega
 have hml2 := vh (jP F.l G.l);refine zf (za [0, 1, 2, 6]) Tryz.func217 rfl (by decide) Tryz.ntmps217 (lb rfl) λbase => ?_;refine wrs λK hK => ?_;conv=>whnf
 refine hK _ (wrs λK hK => ?_);conv=>whnf
 refine zv rfl (zdS _ _ _ _ 97 97 (by omega) (by omega) (kM F) (kM G) (by have : ((dg F : Int) + 1) * (97 * 97) <= 1001 * (97 * 97) := Int.mul_le_mul_of_nonneg_right (by omega) (by omega); rw [hFl]; omega) (by omega) (by omega)) λhs_1 b_1 hh_1 hf_1 => ?_;try dsimp only at hh_1 hf_1
 conv=>whnf
 refine zv rfl (j2 p (by omega) (by omega) _ _ ((zlX F G hF).le (by omega)) (by omega)) λhs_2 b_2 hh_2 hf_2 => ?_;try dsimp only at hh_2 hf_2
 conv=>whnf
 refine hK _ (W.ret ?_);conv=>whnf
 exact ⟨.ownI 2 _ ((F * G).l), ⟨rfl, rfl, zdA _ _⟩, trivial, _, rfl⟩
theorem jI (p : Int) [SP p] (g g' : Option Nat) (F G : Poly p) (hF : dg F <= 1000000) (hG : dg G <= 1000000) (hG0 : G ≠ 0) : FnV 182 [.int .i64 p, .ints g F.l, .ints g' G.l] (.tup [.ints none (quo F G).l, .ints none (rem F G).l]) := by
 have hp := Pr.two (p := p);have hp2 := SP.le (p := p);have hFl : F.l.length = dg F := rfl;have hGl : G.l.length = dg G := rfl;have hm0 : dg G ≠ 0 := λe => hG0 (zd.1 e);have hlead : cf G.l (dg G - 1) % p ≠ 0 := ya (yO (by omega));have hmx : (max (0 : Int) ((dg F : Int) - dg G + 1)) = ((dg F + 1 - dg G : Nat) : Int) := by omega
 have hiv := xN hlead;refine zf (za [0, 1, 2, 6, 7, 8, 9, 10, 11, 12, 13, 36, 54, 55, 56, 57]) Tryz.func182 rfl (by decide) Tryz.ntmps182 (lb rfl) λbase => ?_;refine wrs λK hK => ?_;conv=>whnf
 refine hK _ (wrs λK hK => ?_);conv=>whnf
 refine zv rfl (zho _ _ (by omega)) λhs_0 b_0 hh_0 hf_0 => ?_;try dsimp only at hh_0 hf_0
 conv=>whnf
 refine hK _ (wrs λK hK => ?_);conv=>whnf
 rw [hFl, hGl];refine ⟨oo, ?_⟩;conv=>whnf
 refine ⟨oo, ?_⟩;conv=>whnf
 rw [hmx];refine ⟨rfl, ?_⟩;conv=>whnf
 refine ⟨oo, ?_⟩;conv=>whnf
 generalize hnq : dg F + 1 - dg G = nq;rw [Int.toNat_natCast];intro b_q hs_q hh_q hf_q;try dsimp only at hh_q hf_q
 conv=>whnf
 refine hK _ (wrs λK hK => ?_);conv=>whnf
 rw [hGl];refine ⟨oo, ?_⟩;conv=>whnf
 refine ⟨oo, ?_⟩;conv=>whnf
 have e0 : ((dg G : Int) - 1).toNat = dg G - 1 := by omega
 rw [e0];refine zc rfl (jZ p _ (by have := kM G (dg G - 1); show _ <= cf G.l (dg G - 1) ∧ cf G.l (dg G - 1) <= _; omega) hlead) λhs' hhs => ?_;try dsimp only at hhs
 conv=>whnf
 generalize hlast : xk p (cf G.l (dg G - 1)) = last at hiv;refine hK _ (W.seqK λK1 hK1 => wrs λK hK => ?_);conv=>whnf
 rw [List.length_replicate];refine ⟨oo, ?_⟩;conv=>whnf
 refine hK _ (W.block (W.invA (λm e => ∃ (k b b' : Nat) (r q : List Int), k <= nq ∧ DivI p F G nq k r q ∧ m = k ∧ e = [(0, .v (.int .i64 p)), (2, .v (.ints g' G.l)), (8, .ownI 2 b r), (9, .ownI 2 b' q), (10, .v (.int .i64 last)), (11, .v (.int .i64 ((k : Int) - 1)))]) ⟨nq, b_0, b_q, F.l, List.replicate nq 0, Nat.le_refl _, DivI.start F G (by omega), rfl, rfl⟩ ?_));clear hK;rintro m e ⟨k', b, b', r, q, hk, hd, hm, rfl⟩;refine W.seqK λK7 hK7 => wrs λK hK => ?_;conv=>whnf
 refine hK _ (W.cond ⟨λh => ?_, λh => ?_⟩) <;> clear hK <;> (first | replace h := of_decide_eq_true h | replace h := of_decide_eq_false h)
 ·refine W.skip (hK7 _ ?_);clear hK7;refine W.seqK λK8 hK8 => W.block ?_;obtain ⟨k, rfl⟩ : ∃ k, k' = k + 1 := ⟨k' - 1, by omega⟩
  have hrl := hd.rl;have hql := hd.ql;have e1 : (((k + 1 : Nat) : Int) - 1) = k := by omega
  have e2 : ((k : Int) + dg G - 1).toNat = k + dg G - 1 := by omega
  rw [e1];have h1 := hd.rr (k + dg G - 1);generalize hc : cf r (k + dg G - 1) * last % p = c;have hcr : 0 <= c ∧ c < p := by rw [<- hc]; exact ⟨Int.emod_nonneg _ (by omega), Int.emod_lt_of_pos _ (by omega)⟩
  have h2 := zeY (a := cf r (k + dg G - 1)) (b := last) (by omega) (by omega);have h3 : 0 <= cf r (k + dg G - 1) * last := Int.mul_nonneg (by omega) (by omega);have hcm : (cf r (k + dg G - 1) * last).tmod p = c := by rw [<- hc]; exact Int.tmod_eq_emod_of_nonneg h3
  refine wrs λK hK => ?_;conv=>whnf
  rw [hGl];refine ⟨oo, ?_⟩;conv=>whnf
  refine ⟨oo, ?_⟩;conv=>whnf
  refine ⟨oo, ?_⟩;conv=>whnf
  rw [e2];refine ⟨by show _ <= cf r (k + dg G - 1) * last ∧ cf r (k + dg G - 1) * last <= _; omega, ?_⟩;conv=>whnf
  refine ⟨by omega, ?_⟩;conv=>whnf
  refine ⟨oo, ?_⟩;conv=>whnf
  have e3 : (r.getD (k + dg G - 1) 0 * last).tmod p = c := hcm;rw [Int.toNat_natCast, e3];refine hK _ (wrs λK hK => ?_);conv=>whnf
  rw [hGl];refine hK _ (W.block (W.invE (λm e => ∃ (i b : Nat) (o : List Int), i <= dg G ∧ o.length = dg F ∧ (∀ j, cf o j = if k <= j ∧ j < k + i then (cf r j - c * cf G.l (j - k)) % p else cf r j) ∧ m = dg G - i ∧ e = [(0, .v (.int .i64 p)), (2, .v (.ints g' G.l)), (8, .ownI 2 b o), (9, .ownI 2 b' (q.set k c)), (10, .v (.int .i64 last)), (11, .v (.int .i64 k)), (54, .v (.ints g' G.l)), (55, .v (.int .i64 (dg G))), (56, .v (.int .i64 i))]) _ _ ⟨0, b, r, Nat.zero_le _, hrl, λj => by rw [if_neg (by omega)], rfl, rfl⟩ (by dsimp only; omega) (by repeat' first | refine And.intro ?_ ?_ | exact trivial | rfl | omega | assumption) ?_));clear hK b;rintro m' e ⟨i, b, o, h5, h6, h7, hm', rfl⟩;refine wrs λK hK => ?_;conv=>whnf
  refine hK _ ?_;clear hK;refine W.seqK λK7 hK7 => W.cond ⟨λh8 => ?_, λh8 => ?_⟩ <;> (first | replace h8 := of_decide_eq_true h8 | replace h8 := of_decide_eq_false h8)
  ·refine W.skip (hK7 _ ?_);clear hK7;refine W.seqK λK9 hK9 => W.block ?_;have h8 : i < dg G := by omega
   refine wrs λK hK => ?_;conv=>whnf
   refine ⟨oo, ?_⟩;conv=>whnf
   rw [Int.toNat_natCast];refine hK _ ?_;clear hK;obtain ⟨h9, h10⟩ := zg6 (p := p) (c := c) (g := cf G.l) (r := r) (o := o) (k := k) (i := i) h6 (by omega) h7;have h11 := hd.rr (k + i);have h12 := kM G i;have h13 := zeY (a := c) (b := cf G.l i) (by omega) h12;have e4 : ((k : Int) + i).toNat = k + i := by omega
   have e5 : (q.set k c).getD k 0 = c := by
    have := yu (l := q) (i := k) (by omega) c k;rw [if_pos rfl] at this; exact this
   refine W.draw (za _) follows (by rfl) ?_;conv=>whnf
   refine ⟨oo, ?_⟩;conv=>whnf
   refine ⟨oo, ?_⟩;conv=>whnf
   refine ⟨oo, ?_⟩;conv=>whnf
   rw [e4];refine ⟨⟨by omega, by simp; omega⟩, ?_⟩;conv=>whnf
   rw [Int.toNat_natCast, e5];refine ⟨by show _ <= c * cf G.l i ∧ c * cf G.l i <= _; omega, ?_⟩;conv=>whnf
   refine ⟨by show _ <= cf o (k + i) - c * cf G.l i ∧ cf o (k + i) - c * cf G.l i <= _; omega, ?_⟩;conv=>whnf
   refine ⟨_, cxF (kN _ p (by omega) (by show _ <= cf o (k + i) - c * cf G.l i ∧ cf o (k + i) - c * cf G.l i <= _; omega) (by omega)), ?_⟩;conv=>whnf
   refine ⟨oo, ?_⟩;conv=>whnf
   refine hK9 _ ?_;clear hK9;refine wrg ?_;conv=>whnf
   refine ⟨oo, ?_⟩;conv=>whnf
   exact ze ⟨i + 1, b, o.set (k + i) ((cf o (k + i) - c * cf G.l i) % p), by omega, by simpa using h6, h10, rfl, rfl⟩
  ·obtain rfl : i = dg G := by omega
   refine W.exit (hK8 _ ?_);clear hK7 hK8;refine wrg ?_;conv=>whnf
   refine ⟨oo, ?_⟩;conv=>whnf
   exact ze ⟨k, b, b', o, q.set k c, by omega, hd.step hG0 (by omega) c (by rw [hlast]; exact hc.symm) (by omega) h7, rfl, rfl⟩
 ·refine W.exit (hK1 _ ?_);clear hK7 hK1;obtain rfl : k' = 0 := by omega
  obtain ⟨h1, h2⟩ := hd.fin hG0;have hrl := hd.rl;have hql := hd.ql;refine wrs λK hK => ?_;conv=>whnf
  refine zv rfl (j1 _ _ (by omega)) λhs_1 b_1 hh_1 hf_1 => ?_;try dsimp only at hh_1 hf_1
  conv=>whnf
  refine zv rfl (j1 _ _ (by omega)) λhs_2 b_2 hh_2 hf_2 => ?_;try dsimp only at hh_2 hf_2
  conv=>whnf
  refine hK _ ?_;clear hK;rw [h1, h2];refine W.ret ?_;conv=>whnf
  exact ⟨.v (.ints none (quo F G).l), ⟨.inl rfl, rfl⟩, trivial, .v (.ints none (rem F G).l), ⟨.inl rfl, rfl⟩, trivial, rfl⟩

theorem vj (p : Int) [SP p] (g g' : Option Nat) (F G : Poly p) (hF : dg F <= 1000000) (hG : dg G <= 1000000) (hG0 : G ≠ 0) : FnV 219 [.int .i64 p, .ints g F.l, .ints g' G.l] (.tup [.ints none (quo F G).l, .ints none (rem F G).l]) := by
 have hp := Pr.two (p := p);have hp2 := SP.le (p := p);have hFl : F.l.length = dg F := rfl;have hGl : G.l.length = dg G := rfl;have hm0 : dg G ≠ 0 := λe => hG0 (zd.1 e);have hlead : cf G.l (dg G - 1) % p ≠ 0 := ya (yO (by omega));have hmx : (max (0 : Int) ((dg F : Int) - dg G + 1)) = ((dg F + 1 - dg G : Nat) : Int) := by omega
 have hiv := xN hlead;refine zf (za [0, 1, 2, 6, 7, 8, 9, 10, 11, 12, 13, 36, 58]) Tryz.func219 rfl (by decide) Tryz.ntmps219 (lb rfl) λbase => ?_;refine wrs λK hK => ?_;conv=>whnf
 refine hK _ (wrs λK hK => ?_);conv=>whnf
 refine zv rfl (zlV _ _ (by omega)) λhs_0 b_0 hh_0 hf_0 => ?_;try dsimp only at hh_0 hf_0
 conv=>whnf
 refine hK _ (wrs λK hK => ?_);conv=>whnf
 rw [hFl, hGl];refine ⟨oo, ?_⟩;conv=>whnf
 refine ⟨oo, ?_⟩;conv=>whnf
 rw [hmx];refine ⟨rfl, ?_⟩;conv=>whnf
 refine ⟨oo, ?_⟩;conv=>whnf
 generalize hnq : dg F + 1 - dg G = nq;rw [Int.toNat_natCast];intro b_q hs_q hh_q hf_q;try dsimp only at hh_q hf_q
 conv=>whnf
 refine hK _ (wrs λK hK => ?_);conv=>whnf
 rw [hGl];refine ⟨oo, ?_⟩;conv=>whnf
 refine ⟨oo, ?_⟩;conv=>whnf
 have e0 : ((dg G : Int) - 1).toNat = dg G - 1 := by omega
 rw [e0];refine zc rfl (jo p _ (kL G (dg G - 1)) hlead) λhs' hhs => ?_;try dsimp only at hhs
 conv=>whnf
 generalize hlast : xk p (cf G.l (dg G - 1)) = last at hiv;refine hK _ (W.seqK λK1 hK1 => wrs λK hK => ?_);conv=>whnf
 rw [List.length_replicate];refine ⟨oo, ?_⟩;conv=>whnf
 refine hK _ (W.block (W.invA (λm e => ∃ (k b b' : Nat) (r q : List Int), k <= nq ∧ DivI p F G nq k r q ∧ m = k ∧ e = [(0, .v (.int .i64 p)), (2, .v (.ints g' G.l)), (8, .ownI 2 b r), (9, .ownI 2 b' q), (10, .v (.int .i64 last)), (11, .v (.int .i64 ((k : Int) - 1)))]) ⟨nq, b_0, b_q, F.l, List.replicate nq 0, Nat.le_refl _, DivI.start F G (by omega), rfl, rfl⟩ ?_));clear hK;rintro m e ⟨k', b, b', r, q, hk, hd, hm, rfl⟩;refine W.seqK λK7 hK7 => wrs λK hK => ?_;conv=>whnf
 refine hK _ (W.cond ⟨λh => ?_, λh => ?_⟩) <;> clear hK <;> (first | replace h := of_decide_eq_true h | replace h := of_decide_eq_false h)
 ·refine W.skip (hK7 _ ?_);clear hK7;refine W.seqK λK8 hK8 => W.block ?_;obtain ⟨k, rfl⟩ : ∃ k, k' = k + 1 := ⟨k' - 1, by omega⟩
  have hrl := hd.rl;have hql := hd.ql;have e1 : (((k + 1 : Nat) : Int) - 1) = k := by omega
  have e2 : ((k : Int) + dg G - 1).toNat = k + dg G - 1 := by omega
  rw [e1];have h1 := hd.rr (k + dg G - 1);generalize hc : cf r (k + dg G - 1) * last % p = c;have hcr : 0 <= c ∧ c < p := by rw [<- hc]; exact ⟨Int.emod_nonneg _ (by omega), Int.emod_lt_of_pos _ (by omega)⟩
  have h2 := zeY (a := cf r (k + dg G - 1)) (b := last) (by omega) (by omega);have h3 : 0 <= cf r (k + dg G - 1) * last := Int.mul_nonneg (by omega) (by omega);have hcm : (cf r (k + dg G - 1) * last).tmod p = c := by rw [<- hc]; exact Int.tmod_eq_emod_of_nonneg h3
  have e3 : (r.getD (k + dg G - 1) 0 * last).tmod p = c := hcm;refine wrs λK hK => ?_;conv=>whnf
  rw [hGl];refine ⟨oo, ?_⟩;conv=>whnf
  refine ⟨oo, ?_⟩;conv=>whnf
  refine ⟨oo, ?_⟩;conv=>whnf
  rw [e2];refine ⟨by show _ <= cf r (k + dg G - 1) * last ∧ cf r (k + dg G - 1) * last <= _; omega, ?_⟩;conv=>whnf
  refine ⟨by omega, ?_⟩;conv=>whnf
  rw [e3];refine hK _ (wrs λK hK => ?_);conv=>whnf
  refine ⟨oo, ?_⟩;conv=>whnf
  rw [Int.toNat_natCast];refine hK _ (wrs λK hK => ?_);conv=>whnf
  refine hK _ (W.block (W.invE (λm e => ∃ (i b : Nat) (o : List Int), i <= dg G ∧ o.length = dg F ∧ (∀ j, cf o j = if k <= j ∧ j < k + i then (cf r j - c * cf G.l (j - k)) % p else cf r j) ∧ m = dg G - i ∧ e = [(0, .v (.int .i64 p)), (2, .v (.ints g' G.l)), (8, .ownI 2 b o), (9, .ownI 2 b' (q.set k c)), (10, .v (.int .i64 last)), (11, .v (.int .i64 k)), (12, .v (.int .i64 c)), (13, .v (.int .i64 i))]) _ _ ⟨0, b, r, Nat.zero_le _, hrl, λj => by rw [if_neg (by omega)], rfl, rfl⟩ (by dsimp only; omega) (by repeat' first | refine And.intro ?_ ?_ | exact trivial | rfl | omega | assumption) ?_));clear hK b;rintro m' e ⟨i, b, o, h5, h6, h7, hm', rfl⟩;refine W.seqK λK7 hK7 => wrs λK hK => ?_;conv=>whnf
  refine hK _ (W.cond ⟨λh8 => ?_, λh8 => ?_⟩) <;> clear hK <;> (first | replace h8 := of_decide_eq_true h8 | replace h8 := of_decide_eq_false h8)
  ·refine W.skip (hK7 _ ?_);clear hK7;refine W.seqK λK9 hK9 => W.block ?_;have h8 : i < dg G := by omega
   obtain ⟨h9, h10⟩ := zg6 (p := p) (c := c) (g := cf G.l) (r := r) (o := o) (k := k) (i := i) h6 (by omega) h7;have h11 := hd.rr (k + i);have h12 := kM G i;have h13 := zeY (a := c) (b := cf G.l i) (by omega) h12;have e4 : ((k : Int) + i).toNat = k + i := by omega
   refine W.draw (za _) follows (by rfl) ?_;conv=>whnf
   refine ⟨oo, ?_⟩;conv=>whnf
   refine ⟨oo, ?_⟩;conv=>whnf
   refine ⟨oo, ?_⟩;conv=>whnf
   rw [e4];refine ⟨oo, ?_⟩;conv=>whnf
   rw [Int.toNat_natCast];refine ⟨by show _ <= c * cf G.l i ∧ c * cf G.l i <= _; omega, ?_⟩;conv=>whnf
   refine ⟨by show _ <= cf o (k + i) - c * cf G.l i ∧ cf o (k + i) - c * cf G.l i <= _; omega, ?_⟩;conv=>whnf
   refine ⟨_, cxF (vu _ p (by omega) (by show _ <= cf o (k + i) - c * cf G.l i ∧ cf o (k + i) - c * cf G.l i <= _; omega) (by omega)), ?_⟩;conv=>whnf
   refine ⟨oo, ?_⟩;conv=>whnf
   refine hK9 _ ?_;clear hK9;refine wrg ?_;conv=>whnf
   refine ⟨oo, ?_⟩;conv=>whnf
   exact ze ⟨i + 1, b, o.set (k + i) ((cf o (k + i) - c * cf G.l i) % p), by omega, by simpa using h6, h10, rfl, rfl⟩
  ·obtain rfl : i = dg G := by omega
   refine W.exit (hK8 _ ?_);clear hK7 hK8;refine wrg ?_;conv=>whnf
   refine ⟨oo, ?_⟩;conv=>whnf
   exact ze ⟨k, b, b', o, q.set k c, by omega, hd.step hG0 (by omega) c (by rw [hlast]; exact hc.symm) (by omega) h7, rfl, rfl⟩
 ·refine W.exit (hK1 _ ?_);clear hK7 hK1;obtain rfl : k' = 0 := by omega
  obtain ⟨h1, h2⟩ := hd.fin hG0;have hrl := hd.rl;have hql := hd.ql;refine wrs λK hK => ?_;conv=>whnf
  refine zv rfl (xP _ _ (by omega)) λhs_1 b_1 hh_1 hf_1 => ?_;try dsimp only at hh_1 hf_1
  conv=>whnf
  refine zv rfl (xP _ _ (by omega)) λhs_2 b_2 hh_2 hf_2 => ?_;try dsimp only at hh_2 hf_2
  conv=>whnf
  refine hK _ ?_;clear hK;rw [h1, h2];refine W.ret ?_;conv=>whnf
  exact ⟨.v (.ints none (quo F G).l), ⟨.inl rfl, rfl⟩, trivial, .v (.ints none (rem F G).l), ⟨.inl rfl, rfl⟩, trivial, rfl⟩


theorem vm (p : Int) [SP p] (g g' : Option Nat) (F G : Poly p) (hF : dg F <= 1000000) (hG : dg G <= 1000000) (hG0 : G ≠ 0) : FnV 152 [.int .i64 p, .ints g F.l, .ints g' G.l] (.ints none (rem F G).l) := by
 refine zf (za [0, 1, 2, 6, 8]) Tryz.func152 rfl (by decide) Tryz.ntmps152 (lb rfl) λbase => ?_;refine wrs λK hK => ?_;conv=>whnf
 refine hK _ (wrs λK hK => ?_);conv=>whnf
 refine zc rfl (jI p g g' F G hF hG hG0) λhs' hhs => ?_;try dsimp only at hhs
 conv=>whnf
 refine hK _ (wrs λK hK => ?_);conv=>whnf
 refine hK _ (W.ret ?_);conv=>whnf
 exact ⟨.v (.ints none (rem F G).l), ⟨rfl, rfl⟩, trivial, rfl⟩
theorem j3 (p : Int) [SP p] (g g' : Option Nat) (F G : Poly p) (hF : dg F <= 1000000) (hG : dg G <= 1000000) (hG0 : G ≠ 0) : FnV 216 [.int .i64 p, .ints g F.l, .ints g' G.l] (.ints none (rem F G).l) := by
 refine zf (za [0, 1, 2, 6, 8]) Tryz.func216 rfl (by decide) Tryz.ntmps216 (lb rfl) λbase => ?_;refine wrs λK hK => ?_;conv=>whnf
 refine hK _ (wrs λK hK => ?_);conv=>whnf
 refine zc rfl (vj p g g' F G hF hG hG0) λhs' hhs => ?_;try dsimp only at hhs
 conv=>whnf
 refine hK _ (wrs λK hK => ?_);conv=>whnf
 refine hK _ (W.ret ?_);conv=>whnf
 exact ⟨.v (.ints none (rem F G).l), ⟨rfl, rfl⟩, trivial, rfl⟩
theorem zhq (p : Int) [SP p] (g : Option Nat) (F : Poly p) (hF : dg F <= 1000) : FnI 194 [.int .i64 p, .ints g F.l] (mnc F).l := by
 have hp := Pr.two (p := p);have hFl : F.l.length = dg F := rfl;refine zf (za [0, 1, 4, 7]) Tryz.func194 rfl (by decide) Tryz.ntmps194 (lb rfl) λbase => ?_;refine wrs λK hK => ?_;conv=>whnf
 refine hK _ (W.seqK λK1 hK1 => wrs λK hK => ?_);conv=>whnf
 rw [hFl];refine hK _ (W.cond ⟨λh => ?_, λh => ?_⟩) <;> clear hK
 ·have h := of_decide_eq_true h;have hF0 : F = 0 := zd.1 (by omega);refine wrs λK hK => ?_;conv=>whnf
  refine hK _ (W.ret ?_);conv=>whnf
  exact ⟨.ownI 2 0 [], rfl, trivial, _, by rw [hF0, zgO, zfq]⟩
 ·have h := of_decide_eq_false h;have hF0 : F ≠ 0 := λe => h (by rw [e, zt]; rfl);have e0 : ((dg F : Int) - 1).toNat = dg F - 1 := by omega
  have hlead : cf F.l (dg F - 1) % p ≠ 0 := ya (yO (by omega));obtain ⟨h1, h2, h3⟩ := zlF hF0;refine W.skip (hK1 _ ?_);clear hK1;refine wrs λK hK => ?_;conv=>whnf
  rw [hFl];refine ⟨oo, ?_⟩;conv=>whnf
  refine ⟨oo, ?_⟩;conv=>whnf
  rw [e0];refine zc rfl (jZ p _ (by have := kM F (dg F - 1); show _ <= cf F.l (dg F - 1) ∧ cf F.l (dg F - 1) <= _; omega) hlead) λhs' hhs => ?_;try dsimp only at hhs
  conv=>whnf
  refine ⟨⟨rfl, by decide⟩, ?_⟩;conv=>whnf
  intro b_1 hs_1 hh_1 hf_1;try dsimp only at hh_1 hf_1
  conv=>whnf
  have e1 : [xk p (F.l.getD (dg F - 1) 0)] = (con p (xk p (cf F.l (dg F - 1)))).l := (zlE h1 h2).symm;rw [e1];refine zv rfl (zdT p _ _ F (con p (xk p (cf F.l (dg F - 1)))) hF (Nat.le_trans (jk _) (by omega))) λhs_2 b_2 hh_2 hf_2 => ?_;try dsimp only at hh_2 hf_2
  conv=>whnf
  refine hK _ (W.ret ?_);conv=>whnf
  exact ⟨.ownI 2 _ ((mnc F).l), ⟨rfl, rfl, by rw [h3]⟩, trivial, _, rfl⟩
theorem zcf (p : Int) [SP p] (g : Option Nat) (F : Poly p) (hF : dg F <= 1000) : FnI 220 [.int .i64 p, .ints g F.l] (mnc F).l := by
 have hp := Pr.two (p := p);have hFl : F.l.length = dg F := rfl;refine zf (za [0, 1, 4, 7]) Tryz.func220 rfl (by decide) Tryz.ntmps220 (lb rfl) λbase => ?_;refine wrs λK hK => ?_;conv=>whnf
 refine hK _ (W.seqK λK1 hK1 => wrs λK hK => ?_);conv=>whnf
 rw [hFl];refine hK _ (W.cond ⟨λh => ?_, λh => ?_⟩) <;> clear hK
 ·have h := of_decide_eq_true h;have hF0 : F = 0 := zd.1 (by omega);refine wrs λK hK => ?_;conv=>whnf
  refine ⟨⟨rfl, by decide⟩, ?_⟩;conv=>whnf
  intro b_1 hs_1 hh_1 hf_1;try dsimp only at hh_1 hf_1
  conv=>whnf
  refine hK _ (W.ret ?_);conv=>whnf
  exact ⟨.ownI 2 b_1 [], ⟨rfl, rfl, rfl⟩, trivial, _, by rw [hF0, zgO, zfq]⟩
 ·have h := of_decide_eq_false h;have hF0 : F ≠ 0 := λe => h (by rw [e, zt]; rfl);have e0 : ((dg F : Int) - 1).toNat = dg F - 1 := by omega
  have hlead : cf F.l (dg F - 1) % p ≠ 0 := ya (yO (by omega));obtain ⟨h1, h2, h3⟩ := zlF hF0;refine W.skip (hK1 _ ?_);clear hK1;refine wrs λK hK => ?_;conv=>whnf
  rw [hFl];refine ⟨oo, ?_⟩;conv=>whnf
  refine ⟨oo, ?_⟩;conv=>whnf
  rw [e0];refine zc rfl (jo p _ (kL F (dg F - 1)) hlead) λhs' hhs => ?_;try dsimp only at hhs
  conv=>whnf
  refine ⟨⟨rfl, by decide⟩, ?_⟩;conv=>whnf
  intro b_1 hs_1 hh_1 hf_1;try dsimp only at hh_1 hf_1
  conv=>whnf
  have e1 : [xk p (F.l.getD (dg F - 1) 0)] = (con p (xk p (cf F.l (dg F - 1)))).l := (zlE h1 h2).symm;rw [e1];refine zv rfl (vQ p _ _ F (con p (xk p (cf F.l (dg F - 1)))) hF (Nat.le_trans (jk _) (by omega))) λhs_2 b_2 hh_2 hf_2 => ?_;try dsimp only at hh_2 hf_2
  conv=>whnf
  refine hK _ (W.ret ?_);conv=>whnf
  exact ⟨.ownI 2 _ ((mnc F).l), ⟨rfl, rfl, by rw [h3]⟩, trivial, _, rfl⟩
theorem zbQ (p : Int) [SP p] (g g' : Option Nat) (F G : Poly p) (hF : dg F <= 1000) (hG : dg G <= 1000) : FnI 157 [.int .i64 p, .ints g F.l, .ints g' G.l] (gcd F G).l := by
 refine zf (za [0, 1, 2, 6, 8, 11]) Tryz.func157 rfl (by decide) Tryz.ntmps157 (lb rfl) λbase => ?_;refine wrs λK hK => ?_;conv=>whnf
 refine hK _ ?_;clear hK;refine W.seqK λK1 hK1 => W.block (W.invA (λm e => ∃ (x y : Option Nat) (A B : Poly p), gcd A B = gcd F G ∧ dg A <= 1000 ∧ dg B <= 1000 ∧ m = dg B ∧ e = [(0, .v (.int .i64 p)), (1, .v (.ints x A.l)), (2, .v (.ints y B.l))]) ⟨g, g', F, G, rfl, hF, hG, rfl, rfl⟩ ?_);rintro m e ⟨x, y, A, B, h1, h2, h3, hm, rfl⟩;have hBl : B.l.length = dg B := rfl;refine W.seqK λK7 hK7 => wrs λK hK => ?_;conv=>whnf
 rw [hBl];refine hK _ (W.cond ⟨λh => ?_, λh => ?_⟩) <;> clear hK
 ·have h := of_decide_eq_true h;have hB0 : B ≠ 0 := λe => by rw [e, zt] at h; simp at h
  have h4 := yB A hB0;refine W.skip (hK7 _ ?_);clear hK7;refine W.block ?_;refine wrs λK hK => ?_;conv=>whnf
  refine zc rfl (jI p x y A B (by omega) (by omega) hB0) λhs' hhs => ?_;try dsimp only at hhs
  conv=>whnf
  refine hK _ ?_;clear hK;refine wrg ?_;conv=>whnf
  exact ze ⟨y, none, B, rem A B, (zif A hB0).symm.trans h1, h3, by omega, rfl, rfl⟩
 ·have h := of_decide_eq_false h;have hB0 : B = 0 := zd.1 (by omega);subst hB0;refine W.exit (hK1 _ ?_);clear hK1 hK7;refine wrs λK hK => ?_;conv=>whnf
  refine zv rfl (zhq p _ A h2) λhs_1 b_1 hh_1 hf_1 => ?_;try dsimp only at hh_1 hf_1
  conv=>whnf
  refine hK _ ?_;clear hK;rw [<- zdq, h1];refine W.ret ?_;conv=>whnf
  exact ⟨.ownI 2 _ ((gcd F G).l), ⟨rfl, rfl, rfl⟩, trivial, _, rfl⟩
theorem j4 (p : Int) [SP p] (g g' : Option Nat) (F G : Poly p) (hF : dg F <= 1000) (hG : dg G <= 1000) : FnI 196 [.int .i64 p, .ints g F.l, .ints g' G.l] (gcd F G).l := by
 refine zf (za [0, 1, 2, 6, 8, 11]) Tryz.func196 rfl (by decide) Tryz.ntmps196 (lb rfl) λbase => ?_;refine wrs λK hK => ?_;conv=>whnf
 refine hK _ ?_;clear hK;refine W.seqK λK1 hK1 => W.block (W.invA (λm e => ∃ (x y : Option Nat) (A B : Poly p), gcd A B = gcd F G ∧ dg A <= 1000 ∧ dg B <= 1000 ∧ m = dg B ∧ e = [(0, .v (.int .i64 p)), (1, .v (.ints x A.l)), (2, .v (.ints y B.l))]) ⟨g, g', F, G, rfl, hF, hG, rfl, rfl⟩ ?_);rintro m e ⟨x, y, A, B, h1, h2, h3, hm, rfl⟩;have hBl : B.l.length = dg B := rfl;refine W.seqK λK7 hK7 => wrs λK hK => ?_;conv=>whnf
 rw [hBl];refine hK _ (W.cond ⟨λh => ?_, λh => ?_⟩) <;> clear hK
 ·have h := of_decide_eq_true h;have hB0 : B ≠ 0 := λe => by rw [e, zt] at h; simp at h
  have h4 := yB A hB0;refine W.skip (hK7 _ ?_);clear hK7;refine W.block ?_;refine wrs λK hK => ?_;conv=>whnf
  refine zc rfl (vj p x y A B (by omega) (by omega) hB0) λhs' hhs => ?_;try dsimp only at hhs
  conv=>whnf
  refine hK _ (wrs λK hK => ?_);conv=>whnf
  refine hK _ ?_;clear hK;refine wrg ?_;conv=>whnf
  exact ze ⟨y, none, B, rem A B, (zif A hB0).symm.trans h1, h3, by omega, rfl, rfl⟩
 ·have h := of_decide_eq_false h;have hB0 : B = 0 := zd.1 (by omega);subst hB0;refine W.exit (hK1 _ ?_);clear hK1 hK7;refine wrs λK hK => ?_;conv=>whnf
  refine zv rfl (zcf p _ A h2) λhs_1 b_1 hh_1 hf_1 => ?_;try dsimp only at hh_1 hf_1
  conv=>whnf
  refine hK _ ?_;clear hK;rw [<- zdq, h1];refine W.ret ?_;conv=>whnf
  exact ⟨.ownI 2 _ ((gcd F G).l), ⟨rfl, rfl, rfl⟩, trivial, _, rfl⟩


theorem ziz (p : Int) [SP p] (g g' : Option Nat) (a f : Poly p) (n0 : Nat) (hn : n0 <= 1000000000000) (ha : dg a <= 1000000) (hf : dg f <= 500) (hf0 : f ≠ 0) : FnV 185 [.int .i64 p, .ints g a.l, .int .i64 n0, .ints g' f.l] (.ints none (rem (a ^ n0) f).l) := by
 have hfd : dg f ≠ 0 := λe => hf0 (zd.1 e);refine zf (za [0, 1, 2, 3, 8, 9, 19, 24]) Tryz.func185 rfl (by decide) Tryz.ntmps185 (lb rfl) λbase => ?_;refine wrs λK hK => ?_;conv=>whnf
 refine hK _ (wrs λK hK => ?_);conv=>whnf
 refine ⟨⟨rfl, by decide⟩, ?_⟩;conv=>whnf
 intro b_1 hs_1 hh_1 hf_1;try dsimp only at hh_1 hf_1
 conv=>whnf
 have e1 : [(1 : Int)] = (1 : Poly p).l := znc.symm;rw [e1];refine zc rfl (vm p _ g' 1 f (by rw [xh]; omega) (by omega) hf0) λhs' hhs => ?_;try dsimp only at hhs
 conv=>whnf
 refine hK _ (wrs λK hK => ?_);conv=>whnf
 refine zc rfl (vm p g g' a f ha (by omega) hf0) λhs' hhs => ?_;try dsimp only at hhs
 conv=>whnf
 refine hK _ ?_;clear hK;refine W.seqK λK1 hK1 => W.block (W.invA (λm e => ∃ (n : Nat) (B O : Poly p), n <= 1000000000000 ∧ rem (O * B ^ n) f = rem (a ^ n0) f ∧ dg B < dg f ∧ dg O < dg f ∧ m = n ∧ e = [(0, .v (.int .i64 p)), (1, .v (.ints none B.l)), (2, .v (.int .i64 n)), (3, .v (.ints g' f.l)), (9, .v (.ints none O.l))]) ⟨n0, rem a f, rem 1 f, hn, by rw [yQ hf0, CR.one_mul, zfE hf0], yB _ hf0, yB _ hf0, rfl, rfl⟩ ?_);rintro m e ⟨n, B, O, hn1, h1, h2, h3, hm, rfl⟩;have hmul : ∀ A B : Poly p, dg A < dg f -> dg B < dg f -> dg (A * B) <= 1000000 := λA B h h' => by have := k6 A B; omega
 refine W.seqK λK7 hK7 => wrs λK hK => ?_;conv=>whnf
 refine hK _ (W.cond ⟨λh => ?_, λh => ?_⟩) <;> clear hK <;> (first | replace h := of_decide_eq_true h | replace h := of_decide_eq_false h)
 ·refine W.skip (hK7 _ ?_);clear hK7;refine W.seqK λK8 hK8 => W.block ?_;refine W.seqK λK9 hK9 => ?_
  have fin : ∀ (O' : Poly p) (s : S), dg O' < dg f -> O' = (if n % 2 = 1 then rem (O * B) f else O) -> base <= s.hs ->
    zB s.env [(0, .v (.int .i64 p)), (1, .v (.ints none B.l)), (2, .v (.int .i64 n)), (3, .v (.ints g' f.l)), (9, .v (.ints none O'.l))] -> K9 s := by
   intro O' s h4 h5 h6 h7;refine hK9 _ (W.weak (t := ⟨[(0, .v (.int .i64 p)), (1, .v (.ints none B.l)), (2, .v (.int .i64 n)), (3, .v (.ints g' f.l)), (9, .v (.ints none O'.l))], base⟩) ⟨h6, h7⟩ (Nat.le_refl _) ?_);clear hK9;refine wrg ?_;conv=>whnf
   refine zv rfl (zdT p _ _ B B (by omega) (by omega)) λhs_2 b_2 hh_2 hf_2 => ?_;try dsimp only at hh_2 hf_2
   conv=>whnf
   refine zc rfl (vm p _ _ (B * B) f (hmul _ _ h2 h2) (by omega) hf0) λhs' hhs => ?_;try dsimp only at hhs
   conv=>whnf
   refine hK8 _ ?_;clear hK8;refine wrg ?_;conv=>whnf
   refine ⟨⟨by omega, rfl⟩, ?_⟩;conv=>whnf
   exact ze ⟨n / 2, rem (B * B) f, O', by omega, by rw [h5]; exact zg8 hf0 h1, yB _ hf0, h4, rfl, rfl⟩
  clear hK9;refine wrs λK hK => ?_;conv=>whnf
  refine ⟨⟨by omega, by omega, rfl⟩, ?_⟩;conv=>whnf
  refine hK _ (W.cond ⟨λh4 => ?_, λh4 => ?_⟩) <;> clear hK
  ·have h4 := of_decide_eq_true h4;refine wrg ?_;conv=>whnf
   refine zv rfl (zdT p _ _ O B (by omega) (by omega)) λhs_2 b_2 hh_2 hf_2 => ?_;try dsimp only at hh_2 hf_2
   conv=>whnf
   refine zc rfl (vm p _ _ (O * B) f (hmul _ _ h3 h2) (by omega) hf0) λhs' hhs => ?_;try dsimp only at hhs
   conv=>whnf
   refine fin (rem (O * B) f) _ (yB _ hf0) (by rw [if_pos (by omega)]) (by dsimp only; omega) ?_;exact cvr
  ·have h4 := of_decide_eq_false h4;refine W.skip (fin O _ h3 (by rw [if_neg (by omega)]) (by dsimp only; omega) ?_);exact cvr
 ·refine W.exit (hK1 _ ?_);clear hK7 hK1;obtain rfl : n = 0 := by omega
  refine wrs λK hK => ?_;conv=>whnf
  refine hK _ ?_;clear hK
  have e2 : O = rem (a ^ n0) f := by
   rw [<- h1, zq, CR.mul_one, zeT h3]
  rw [<- e2];refine W.ret ?_;conv=>whnf
  exact ⟨.v (.ints none O.l), ⟨rfl, rfl⟩, trivial, rfl⟩
theorem zhr (p : Int) [SP p] (g g' : Option Nat) (a f : Poly p) (n0 : Nat) (hn : n0 <= 1000000000000) (ha : dg a <= 1000000) (hf : dg f <= 500) (hf0 : f ≠ 0) : FnV 184 [.int .i64 p, .ints g a.l, .int .i64 n0, .ints g' f.l] (.ints none (rem (a ^ n0) f).l) := by
 have hfd : dg f ≠ 0 := λe => hf0 (zd.1 e);refine zf (za [0, 1, 2, 3, 8, 9, 19, 24]) Tryz.func184 rfl (by decide) Tryz.ntmps184 (lb rfl) λbase => ?_;refine wrs λK hK => ?_;conv=>whnf
 refine hK _ (wrs λK hK => ?_);conv=>whnf
 refine ⟨⟨rfl, by decide⟩, ?_⟩;conv=>whnf
 intro b_1 hs_1 hh_1 hf_1;try dsimp only at hh_1 hf_1
 conv=>whnf
 have e1 : [(1 : Int)] = (1 : Poly p).l := znc.symm;rw [e1];refine zc rfl (j3 p _ g' 1 f (by rw [xh]; omega) (by omega) hf0) λhs' hhs => ?_;try dsimp only at hhs
 conv=>whnf
 refine hK _ (wrs λK hK => ?_);conv=>whnf
 refine zc rfl (j3 p g g' a f ha (by omega) hf0) λhs' hhs => ?_;try dsimp only at hhs
 conv=>whnf
 refine hK _ ?_;clear hK;refine W.seqK λK1 hK1 => W.block (W.invA (λm e => ∃ (n : Nat) (B O : Poly p), n <= 1000000000000 ∧ rem (O * B ^ n) f = rem (a ^ n0) f ∧ dg B < dg f ∧ dg O < dg f ∧ m = n ∧ e = [(0, .v (.int .i64 p)), (1, .v (.ints none B.l)), (2, .v (.int .i64 n)), (3, .v (.ints g' f.l)), (9, .v (.ints none O.l))]) ⟨n0, rem a f, rem 1 f, hn, by rw [yQ hf0, CR.one_mul, zfE hf0], yB _ hf0, yB _ hf0, rfl, rfl⟩ ?_);rintro m e ⟨n, B, O, hn1, h1, h2, h3, hm, rfl⟩;have hmul : ∀ A B : Poly p, dg A < dg f -> dg B < dg f -> dg (A * B) <= 1000000 := λA B h h' => by have := k6 A B; omega
 refine W.seqK λK7 hK7 => wrs λK hK => ?_;conv=>whnf
 refine hK _ (W.cond ⟨λh => ?_, λh => ?_⟩) <;> clear hK <;> (first | replace h := of_decide_eq_true h | replace h := of_decide_eq_false h)
 ·refine W.skip (hK7 _ ?_);clear hK7;refine W.seqK λK8 hK8 => W.block ?_;refine W.seqK λK9 hK9 => ?_
  have fin : ∀ (O' : Poly p) (s : S), dg O' < dg f -> O' = (if n % 2 = 1 then rem (O * B) f else O) -> base <= s.hs ->
    zB s.env [(0, .v (.int .i64 p)), (1, .v (.ints none B.l)), (2, .v (.int .i64 n)), (3, .v (.ints g' f.l)), (9, .v (.ints none O'.l))] -> K9 s := by
   intro O' s h4 h5 h6 h7;refine hK9 _ (W.weak (t := ⟨[(0, .v (.int .i64 p)), (1, .v (.ints none B.l)), (2, .v (.int .i64 n)), (3, .v (.ints g' f.l)), (9, .v (.ints none O'.l))], base⟩) ⟨h6, h7⟩ (Nat.le_refl _) ?_);clear hK9;refine wrg ?_;conv=>whnf
   refine zv rfl (vQ p _ _ B B (by omega) (by omega)) λhs_2 b_2 hh_2 hf_2 => ?_;try dsimp only at hh_2 hf_2
   conv=>whnf
   refine zc rfl (j3 p _ _ (B * B) f (hmul _ _ h2 h2) (by omega) hf0) λhs' hhs => ?_;try dsimp only at hhs
   conv=>whnf
   refine hK8 _ ?_;clear hK8;refine wrg ?_;conv=>whnf
   refine ⟨by omega, ?_⟩;conv=>whnf
   rw [Int.tdiv_eq_ediv_of_nonneg (by omega)];refine ⟨oo, ?_⟩;conv=>whnf
   exact ze ⟨n / 2, rem (B * B) f, O', by omega, by rw [h5]; exact zg8 hf0 h1, yB _ hf0, h4, rfl, rfl⟩
  clear hK9;refine wrs λK hK => ?_;conv=>whnf
  refine ⟨by omega, ?_⟩;conv=>whnf
  rw [Int.tmod_eq_emod_of_nonneg (by omega)];refine hK _ (W.cond ⟨λh4 => ?_, λh4 => ?_⟩) <;> clear hK
  ·have h4 := of_decide_eq_true h4;refine wrg ?_;conv=>whnf
   refine zv rfl (vQ p _ _ O B (by omega) (by omega)) λhs_2 b_2 hh_2 hf_2 => ?_;try dsimp only at hh_2 hf_2
   conv=>whnf
   refine zc rfl (j3 p _ _ (O * B) f (hmul _ _ h3 h2) (by omega) hf0) λhs' hhs => ?_;try dsimp only at hhs
   conv=>whnf
   refine fin (rem (O * B) f) _ (yB _ hf0) (by rw [if_pos (by omega)]) (by dsimp only; omega) ?_;exact cvr
  ·have h4 := of_decide_eq_false h4;refine W.skip (fin O _ h3 (by rw [if_neg (by omega)]) (by dsimp only; omega) ?_);exact cvr
 ·refine W.exit (hK1 _ ?_);clear hK7 hK1;obtain rfl : n = 0 := by omega
  refine wrs λK hK => ?_;conv=>whnf
  refine hK _ ?_;clear hK
  have e2 : O = rem (a ^ n0) f := by
   rw [<- h1, zq, CR.mul_one, zeT h3]
  rw [<- e2];refine W.ret ?_;conv=>whnf
  exact ⟨.v (.ints none O.l), ⟨rfl, rfl⟩, trivial, rfl⟩


theorem zfO (g : Option Nat) (xs : List Int) (v : Int) (hl : xs.length <= 100000000) : Fn Tryz.prog 259 [.ints g xs, .int .i64 v] (λ_ _ z => ∃ r : Int, z = .v (.int .i64 r) ∧ (0 <= r ↔ v ∈ xs)) := by
 refine zf (za [0, 1, 4, 5, 7, 8, 9, 16]) Tryz.func259 rfl (by decide) Tryz.ntmps259 (lb rfl) λbase => ?_;refine wrs λK hK => ?_;conv=>whnf
 refine hK _ (W.seqK λK1 hK1 => wrs λK hK => ?_);conv=>whnf
 refine hK _ (W.block (W.invA (λm e => ∃ i : Nat, i <= xs.length ∧ (∀ j, j < i -> cf xs j ≠ v) ∧ m = xs.length - i ∧ e = [(0, .v (.ints g xs)), (1, .v (.int .i64 v)), (7, .v (.int .i64 xs.length)), (8, .v (.int .i64 i))]) ⟨0, Nat.zero_le _, λj hj => by omega, rfl, rfl⟩ ?_));clear hK;rintro m e ⟨i, h1, h2, hm, rfl⟩;refine wrs λK hK => ?_;conv=>whnf
 refine hK _ ?_;clear hK;refine W.seqK λK7 hK7 => W.cond ⟨λh => ?_, λh => ?_⟩ <;> (first | replace h := of_decide_eq_true h | replace h := of_decide_eq_false h)
 ·refine W.skip (hK7 _ ?_);clear hK7;refine W.seqK λK8 hK8 => W.block ?_;refine wrs λK hK => ?_;conv=>whnf
  refine hK _ (wrs λK hK => ?_);conv=>whnf
  refine ⟨oo, ?_⟩;conv=>whnf
  rw [Int.toNat_natCast];refine hK _ (W.cond ⟨λh3 => ?_, λh3 => ?_⟩) <;> clear hK
  ·have h3 := of_decide_eq_true h3;refine wrs λK hK => ?_;conv=>whnf
   refine hK _ (W.ret ?_);conv=>whnf
   refine ⟨.v (.int .i64 i), ⟨rfl, rfl⟩, trivial, i, rfl, λ_ => ?_, λ_ => by omega⟩;have : v = cf xs i := h3;rw [this]; exact zlD (by omega)
  ·have h3 := of_decide_eq_false h3;refine W.skip (hK8 _ ?_);clear hK8;refine wrg ?_;conv=>whnf
   refine ⟨oo, ?_⟩;conv=>whnf
   have h4 : ∀ j, j < i + 1 -> cf xs j ≠ v := λj hj => by
    by_cases hji : j = i
    ·subst hji; exact λh => h3 h.symm
    ·exact h2 j (by omega)
   exact ze ⟨i + 1, by omega, h4, rfl, rfl⟩
 ·refine W.exit (hK1 _ ?_);clear hK7 hK1;refine wrs λK hK => ?_;conv=>whnf
  refine hK _ (W.ret ?_);conv=>whnf
  refine ⟨.v (.int .i64 (-1)), ⟨rfl, rfl⟩, trivial, -1, rfl, λh => by omega, λhv => ?_⟩;obtain ⟨j, hj, he⟩ := List.getElem_of_mem hv;exact absurd (by rw [v6 hj]; exact he) (h2 j (by omega))
theorem zcp (g : Option Nat) (xs : List Int) (v : Int) (hl : xs.length <= 100000000) : FnV 253 [.ints g xs, .int .i64 v] (.bool (decide (v ∈ xs))) := by
 refine zf (za [0, 1, 4]) Tryz.func253 rfl (by decide) Tryz.ntmps253 (lb rfl) λbase => ?_;refine wrs λK hK => ?_;conv=>whnf
 refine hK _ (wrs λK hK => ?_);conv=>whnf
 refine yT rfl (zfO g xs v hl) ?_;rintro lo hi hi' z h1 h2 h3 ⟨r, rfl, hr⟩ _;conv=>whnf
 refine hK _ (W.ret ?_);conv=>whnf
 exact ⟨.v (.bool (decide (v ∈ xs))), decide_eq_decide.2 hr, trivial, rfl⟩

def y6 (l : List Nat) : List Int := l.map Int.ofNat
theorem yS (l : List Nat) : (y6 l).length = l.length := List.length_map ..
theorem zfP (l : List Nat) (c : Nat) : y6 (l ++ [c]) = y6 l ++ [(c : Int)] := by simp [y6]
theorem zeZ (l : List Nat) (c : Nat) : (c : Int) ∈ y6 l ↔ c ∈ l := by
 simp only [y6, List.mem_map, Int.ofNat_eq_natCast]
 constructor
 ·rintro ⟨a, h, e⟩;obtain rfl : a = c := by omega
  exact h
 ·exact λh => ⟨c, h, rfl⟩
theorem zlY {l : List Nat} {i : Nat} (h : i < l.length) : cf (y6 l) i = (l[i] : Nat) := by
 rw [v6 (by rw [yS]; exact h)];simp [y6]

structure MatT (tb : Nat -> Option (List Int)) (bl : Nat -> Nat) (n : Nat) (R : Nat -> Nat -> Int) : Prop where
 inj : ∀ i j, i < n -> j < n -> bl i = bl j -> i = j
 row : ∀ i, i < n -> ∃ l, tb (bl i) = some l ∧ l.length = n ∧ ∀ x, x < n -> cf l x = R i x

theorem MatT.store {tb : Nat -> Option (List Int)} {bl : Nat -> Nat} {n : Nat} {R : Nat -> Nat -> Int} (h : MatT tb bl n R) {i x : Nat} (hi : i < n) (hx : x < n) {l : List Int} (hl : tb (bl i) = some l) (v : Int) :
  MatT (yb tb (bl i) (l.set x v)) bl n (λa y => if a = i ∧ y = x then v else R a y) := by
 refine ⟨h.inj, λa ha => ?_⟩;obtain ⟨l1, h1, h2, h3⟩ := h.row a ha
 by_cases he : a = i
 ·subst he;rw [hl] at h1;cases h1
  refine ⟨l.set x v, yf _ _ _, by simpa using h2, λy hy => ?_⟩;rw [yu (by omega)]
  by_cases hyx : y = x
  ·simp [hyx]
  ·simp [hyx, h3 y hy]
 ·have hne : bl a ≠ bl i := λe => he (h.inj a i ha hi e);refine ⟨l1, by rw [xr _ _ hne]; exact h1, h2, λy hy => ?_⟩;simp [he, h3 y hy]
theorem MatT.congr {tb : Nat -> Option (List Int)} {bl : Nat -> Nat} {n : Nat} {R R' : Nat -> Nat -> Int} (h : MatT tb bl n R) (he : ∀ i x, i < n -> x < n -> R i x = R' i x) : MatT tb bl n R' :=
 ⟨h.inj, λi hi => by obtain ⟨l, h1, h2, h3⟩ := h.row i hi; exact ⟨l, h1, h2, λx hx => by rw [h3 x hx, he i x hi hx]⟩⟩
theorem MatT.swap {tb : Nat -> Option (List Int)} {bl : Nat -> Nat} {n : Nat} {R : Nat -> Nat -> Int} (h : MatT tb bl n R) {a k : Nat} (ha : a < n) (hk : k < n) :
  MatT tb (λj => if j = k then bl a else if j = a then bl k else bl j) n (λj => if j = k then R a else if j = a then R k else R j) := by
 refine ⟨λi j hi hj he => ?_, λi hi => ?_⟩
 ·have key : ∀ i, i < n -> ∃ i', i' < n ∧ (if i = k then bl a else if i = a then bl k else bl i) = bl i' ∧ (i' = if i = k then a else if i = a then k else i) := λi hi => by
   by_cases h1 : i = k
   ·exact ⟨a, ha, by rw [if_pos h1], by rw [if_pos h1]⟩
   ·by_cases h2 : i = a
    ·exact ⟨k, hk, by rw [if_neg h1, if_pos h2], by rw [if_neg h1, if_pos h2]⟩
    ·exact ⟨i, hi, by rw [if_neg h1, if_neg h2], by rw [if_neg h1, if_neg h2]⟩
  obtain ⟨i', h1, h2, h3⟩ := key i hi;obtain ⟨j', h4, h5, h6⟩ := key j hj;have he' : (if i = k then bl a else if i = a then bl k else bl i) = (if j = k then bl a else if j = a then bl k else bl j) := he;rw [h2, h5] at he';have := h.inj i' j' h1 h4 he';subst this;clear he he' h2 h5
  split at h3 <;> split at h6 <;> first | omega | (split at h3 <;> first | omega | (split at h6 <;> omega)) | (split at h6 <;> omega)
 ·show ∃ l, tb (if i = k then bl a else if i = a then bl k else bl i) = some l ∧ l.length = n ∧ ∀ x, x < n -> cf l x = (if i = k then R a else if i = a then R k else R i) x
  by_cases h1 : i = k
  ·rw [if_pos h1, if_pos h1]; exact h.row a ha
  ·rw [if_neg h1, if_neg h1]
   by_cases h2 : i = a
   ·rw [if_pos h2, if_pos h2]; exact h.row k hk
   ·rw [if_neg h2, if_neg h2]; exact h.row i hi

theorem zkg {p : Int} {tb : Nat -> Option (List Int)} {bl : Nat -> Nat} {n col k : Nat} {piv : List Nat} {R R0 : Nat -> Nat -> Int} (hst : Steps p n col piv R) (hsol : ∀ c, Sol p n n R c ↔ Sol p n n R0 c) (hR : ∀ i x, i < n -> x < n -> 0 <= R i x ∧ R i x < p) (hM : MatT tb bl n R)
  (hk : k < n) (hat : piv.length <= k) (hne : R k col ≠ 0) : ∃ (bl1 : Nat -> Nat) (R1 : Nat -> Nat -> Int), (∀ j, (if j = k then bl piv.length else if j = piv.length then bl k else bl j) = bl1 j) ∧ Steps p n col piv R1 ∧ (∀ c, Sol p n n R1 c ↔ Sol p n n R0 c) ∧ (∀ i x, i < n -> x < n -> 0 <= R1 i x ∧ R1 i x < p) ∧ MatT tb bl1 n R1 ∧ R1 piv.length col ≠ 0 := by
 have ha : piv.length < n := by omega
 have e1 : (λj => if j = k then R piv.length else if j = piv.length then R k else R j) piv.length = R k := by
  show (if piv.length = k then R piv.length else if piv.length = piv.length then R k else R piv.length) = R k
  by_cases h : piv.length = k
  ·rw [if_pos h, h]
  ·rw [if_neg h, if_pos rfl]
 have e2 : (λj => if j = k then R piv.length else if j = piv.length then R k else R j) k = R piv.length := if_pos rfl
 have e3 : ∀ j, j < n -> j ≠ piv.length -> j ≠ k -> (λj => if j = k then R piv.length else if j = piv.length then R k else R j) j = R j := λj _ h1 h2 => by
  show (if j = k then R piv.length else if j = piv.length then R k else R j) = R j
  rw [if_neg h2, if_neg h1]
 refine ⟨_, _, λj => rfl, hst.swap hat hk e1 e2 e3, λc => (zlw ha hk e1 e2 e3 c).trans (hsol c), λi x hi hx => ?_, hM.swap ha hk, ?_⟩
 ·show 0 <= (if i = k then R piv.length else if i = piv.length then R k else R i) x ∧ (if i = k then R piv.length else if i = piv.length then R k else R i) x < p
  split
  ·exact hR _ x ha hx
  ·split
   ·exact hR _ x hk hx
   ·exact hR i x hi hx
 ·show (λj => if j = k then R piv.length else if j = piv.length then R k else R j) piv.length col ≠ 0
  rw [e1]; exact hne

theorem zkh {p : Int} [SP p] {n col : Nat} {piv : List Nat} {R1 R0 R3 : Nat -> Nat -> Int} {sc : Int} (hst : Steps p n col piv R1) (hsol : ∀ c, Sol p n n R1 c ↔ Sol p n n R0 c) (hc : col < n) (hat : piv.length < n) (hsc : R1 piv.length col * sc % p = 1)
  (ha : ∀ x, x < n -> R3 piv.length x = R1 piv.length x * sc % p) (ho : ∀ i x, i < n -> x < n -> i ≠ piv.length -> R3 i x = (R1 i x - R1 i col * (R1 piv.length x * sc % p)) % p) :
  Steps p n (col + 1) (piv ++ [col]) R3 ∧ (∀ c, Sol p n n R3 c ↔ Sol p n n R0 c) ∧ ∀ i x, i < n -> x < n -> 0 <= R3 i x ∧ R3 i x < p := by
 have hp := Pr.two (p := p);have h1 : ∀ x, x < n -> R3 piv.length x % p = (sc * R1 piv.length x) % p := λx hx => by rw [ha x hx, zW, Int.mul_comm]
 have h2 : ∀ i, i < n -> i ≠ piv.length -> ∀ x, x < n -> R3 i x % p = (R1 i x - R1 i col * (sc * R1 piv.length x)) % p := λi hi hne x hx => by
  rw [ho i x hi hx hne, zW];refine k7 rfl (yz _ ?_);rw [zW, Int.mul_comm]
 refine ⟨hst.pivot (Int.emod_eq_of_lt (by omega) (by omega)) hc hat (by rw [Int.mul_comm]; exact hsc) h1 h2, λc => (zj9 (b := R1 piv.length col) (by rw [Int.mul_comm]; exact hsc) hat h1 (λi hi hne => ⟨R1 i col, h2 i hi hne⟩) c).trans (hsol c), λi x hi hx => ?_⟩;have hm : ∀ a : Int, 0 <= a % p ∧ a % p < p := λa => ⟨Int.emod_nonneg _ (by omega), Int.emod_lt_of_pos _ (by omega)⟩
 by_cases hne : i = piv.length
 ·rw [hne, ha x hx]; exact hm _
 ·rw [ho i x hi hx hne]; exact hm _

theorem zdU {p : Int} [SP p] {L : List (Poly p)} {w : Poly p} {j : Nat} (h : j < L.length) : (L ++ [w]).getD j 0 = L.getD j 0 := by
 rw [List.getD_eq_getElem?_getD, List.getElem?_append_left h, <- List.getD_eq_getElem?_getD]
theorem zdV {p : Int} [SP p] {L : List (Poly p)} {w : Poly p} : (L ++ [w]).getD (L.length + 0) 0 = w := by
 rw [List.getD_eq_getElem?_getD, List.getElem?_append_right (by omega)];simp
theorem zlZ {piv : List Nat} (hn : piv.Nodup) {i : Nat} (hi : i < piv.length) (x : Nat) : (piv.take (i + 1)).idxOf? x = if x = piv[i] then some i else (piv.take i).idxOf? x := by
 have h1 : (piv.take (i + 1)).Nodup := hn.sublist (List.take_sublist _ _);have h2 : (piv.take i).Nodup := hn.sublist (List.take_sublist _ _)
 split
 ·rename_i h
  refine jW h1 ?_;rw [List.getElem?_take, if_pos (by omega), List.getElem?_eq_getElem hi, h]
 ·rename_i h
  by_cases hm : x ∈ piv.take i
  ·obtain ⟨j, hj, he⟩ := List.mem_iff_getElem.1 hm;have hj' : j < i := by simp at hj; omega
   have e1 : (piv.take i)[j]? = some x := by rw [List.getElem?_eq_getElem hj, he]
   have e2 : (piv.take (i + 1))[j]? = some x := by
    rw [List.getElem?_take, if_pos hj'] at e1;rw [List.getElem?_take, if_pos (by omega), e1]
   rw [jW h1 e2, jW h2 e1]
  ·rw [za4 hm, za4];rw [List.take_add_one, List.getElem?_eq_getElem hi, List.mem_append];rintro (h3 | h3)
   ·exact hm h3
   ·simp at h3; exact h h3

set_option maxHeartbeats 8000000 in
theorem zfQ (p : Int) [SP p] (n : Nat) (hn0 : 1 <= n) (hn : n <= 1000) (el b : Nat) (bl0 : Nat -> Nat) (R0 : Nat -> Nat -> Int) (tb0 : Nat -> Option (List Int)) (hM0 : MatT tb0 bl0 n R0) (hR0 : ∀ i x, i < n -> x < n -> 0 <= R0 i x ∧ R0 i x < p) :
   MFn Tryz.prog 236 [.int .i64 p, .nil] 1 (.ownV el 1 b n λj => .rf (bl0 j) n) (.tab tb0) (λ_ av x' t' => x' = .dead ∧ t' = .dead ∧ ∃ L : List (Poly p), Basis p n R0 L ∧ av = .v (vPs L)) := by
 have hp := Pr.two (p := p);have hp2 := SP.le (p := p);refine zbE (cx := cx [0, 1, 4, 5, 6, 7, 8, 9, 10, 11, 12, 13, 14, 15, 16, 17, 18, 19, 22, 23, 24, 41, 46, 70, 71, 72, 92, 93, 94, 109, 110, 111, 112, 146, 147, 148, 152, 158, 159, 160, 161, 1000000, 1000001]) Tryz.func236 rfl (by decide) Tryz.ntmps236 (lb rfl) (lb rfl) rfl rfl λbase hs0 O U hw v0 hb0 => ?_;refine wrs λK hK => ?_;conv=>whnf
 refine hK _ (wrs λK hK => ?_);conv=>whnf
 refine hK _ (wrs λK hK => ?_);conv=>whnf
 refine hK _ (W.seqK λK1 hK1 => wrs λK hK => ?_);conv=>whnf
 refine hK _ (W.block (W.invH hs0 hb0 (λm e => ∃ (col bp : Nat) (piv : List Nat) (bl : Nat -> Nat) (tb : Nat -> Option (List Int)) (R : Nat -> Nat -> Int), col <= n ∧ Steps p n col piv R ∧ (∀ c, Sol p n n R c ↔ Sol p n n R0 c) ∧ (∀ i x, i < n -> x < n -> 0 <= R i x ∧ R i x < p) ∧ MatT tb bl n R ∧ m = n - col ∧ e = [(0, .v (.int .i64 p)), (1, .ownV el 1 b n λj => .rf (bl j) n), (5, .v (.int .i64 n)), (6, .ownI 3 bp (y6 piv)), (22, .v (.int .i64 n)), (23, .v (.int .i64 col)), (vt, .tab tb), (vk, .keep O U hw 1 v0)]) _ _ (⟨0, 0, [], bl0, tb0, R0, Nat.zero_le _, Steps.start p n R0, λ_ => Iff.rfl, hR0, hM0, rfl, rfl⟩) (by dsimp only; omega) (by repeat' first | refine And.intro ?_ ?_ | exact trivial | rfl | omega | exact .inl rfl | exact λ_ _ => rfl | exact λ_ _ h => h | assumption | exact λi hi => (by obtain rfl : i = 0 := (by omega); rfl)) ?_));clear hK;rintro m e ⟨col, bp, piv, bl, tb, R, h1, hst, hsol, hR, hM, hm, rfl⟩;refine wrs λK hK => ?_;conv=>whnf
 refine hK _ ?_;clear hK;refine W.seqK λK7 hK7 => W.cond ⟨λh2 => ?_, λh2 => ?_⟩ <;> (first | replace h2 := of_decide_eq_true h2 | replace h2 := of_decide_eq_false h2)
 · have h2 : col < n := by omega
   refine W.skip (hK7 _ ?_);clear hK7;refine W.seqK λK8 hK8 => W.block ?_;refine wrs λK hK => ?_;conv=>whnf
   refine hK _ (wrs λK hK => ?_);conv=>whnf
   rw [yS];refine hK _ (wrs λK hK => ?_);conv=>whnf
   refine hK _ ?_;clear hK;have hle := hst.le;refine W.seqK λK1 hK1 => W.block (W.invH hs0 hb0 (λm e => ∃ k : Nat, piv.length <= k ∧ k <= n ∧ (∀ j, piv.length <= j -> j < k -> R j col = 0) ∧ m = n - k ∧ e = [(0, .v (.int .i64 p)), (1, .ownV el 1 b n λj => .rf (bl j) n), (5, .v (.int .i64 n)), (6, .ownI 3 bp (y6 piv)), (7, .v (.int .i64 col)), (8, .v (.int .i64 piv.length)), (9, .v (.int .i64 k)), (22, .v (.int .i64 n)), (23, .v (.int .i64 col)), (vt, .tab tb), (vk, .keep O U hw 1 v0)]) _ _ (⟨piv.length, Nat.le_refl _, hle, λj h3 h4 => by omega, rfl, rfl⟩) (by dsimp only; omega) (by repeat' first | refine And.intro ?_ ?_ | exact trivial | rfl | omega | exact .inl rfl | exact λ_ _ => rfl | exact λ_ _ h => h | assumption | exact λi hi => (by obtain rfl : i = 0 := (by omega); rfl)) ?_);rintro m' e ⟨k, h3, h4, h5, hm', rfl⟩
   -- where the search ends
   have hout : (k = n ∨ (k < n ∧ R k col ≠ 0)) -> ∀ s : S, hs0 <= s.hs -> zB s.env [(0, .v (.int .i64 p)), (1, .ownV el 1 b n λj => .rf (bl j) n), (5, .v (.int .i64 n)), (6, .ownI 3 bp (y6 piv)), (7, .v (.int .i64 col)), (8, .v (.int .i64 piv.length)), (9, .v (.int .i64 k)), (22, .v (.int .i64 n)), (23, .v (.int .i64 col)), (vt, .tab tb), (vk, .keep O U hw 1 v0)] -> K1 s := by
     intro hkk s hs1 hs2;refine hK1 _ (W.weak (t := ⟨[(0, .v (.int .i64 p)), (1, .ownV el 1 b n λj => .rf (bl j) n), (5, .v (.int .i64 n)), (6, .ownI 3 bp (y6 piv)), (7, .v (.int .i64 col)), (8, .v (.int .i64 piv.length)), (9, .v (.int .i64 k)), (22, .v (.int .i64 n)), (23, .v (.int .i64 col)), (vt, .tab tb), (vk, .keep O U hw 1 v0)], hs0⟩) ⟨hs1, hs2⟩ hb0 ?_);clear hs1 hs2 hK1;refine W.seqK λK3 hK3 => wrs λK hK => ?_;conv=>whnf
     refine hK _ (W.cond ⟨λh6 => ?_, λh6 => ?_⟩) <;> clear hK
     · have h6 : k = n := by have := of_decide_eq_true h6; omega
       refine W.exit (hK8 _ ?_);clear hK8 hK3;refine wrg ?_;conv=>whnf
       refine ⟨oo, ?_⟩;conv=>whnf
       exact ze ⟨col + 1, bp, piv, bl, tb, R, by omega, hst.skip (λj h7 h8 => by rw [h5 j h7 (by omega)]; simp), hsol, hR, hM, rfl, rfl⟩
     · have h6 : k < n ∧ R k col ≠ 0 := by have := of_decide_eq_false h6; rcases hkk with h | h; omega; exact h
       obtain ⟨hkn, hne⟩ := h6;have hat : piv.length < n := by omega
       obtain ⟨bl1, R1, hb1, hst1, hsol1, hR1, hM1, hne1⟩ := zkg hst hsol hR hM hkn h3 hne;clear hst hsol hR h5;refine W.skip (hK3 _ ?_);clear hK3;refine W.rd (za _) follows (by rfl) λK hK => ?_;conv=>whnf
       refine ⟨oo, ?_⟩;conv=>whnf
       refine ⟨oo, ?_⟩;conv=>whnf
       refine ⟨oo, ?_⟩;conv=>whnf
       rw [Int.toNat_natCast, Int.toNat_natCast];refine ⟨⟨by show 0 + 1 <= 1; omega, rfl⟩, λj => .rf (if j = piv.length then bl k else bl j) n, by show V.rf (if piv.length = piv.length then bl k else bl piv.length) n = _; rw [if_pos rfl]; rfl, λj _ hj => by show V.rf (if j = piv.length then bl k else bl j) n = _; rw [if_neg hj], ?_⟩;conv=>whnf
       refine ⟨oo, ?_⟩;conv=>whnf
       rw [Int.toNat_natCast];refine ⟨⟨by show 0 + 1 <= 1; omega, rfl⟩, λj => .rf (if j = k then bl piv.length else if j = piv.length then bl k else bl j) n, by show V.rf (if k = k then bl piv.length else if k = piv.length then bl k else bl k) n = _; rw [if_pos rfl]; rfl, λj _ hj => by show V.rf (if j = k then bl piv.length else if j = piv.length then bl k else bl j) n = V.rf (if j = piv.length then bl k else bl j) n; rw [if_neg hj], ?_⟩;conv=>whnf
       refine hK _ (W.weak (t := ⟨[(0, .v (.int .i64 p)), (1, .ownV el 1 b n λj => .rf (bl1 j) n), (5, .v (.int .i64 n)), (6, .ownI 3 bp (y6 piv)), (7, .v (.int .i64 col)), (8, .v (.int .i64 piv.length)), (22, .v (.int .i64 n)), (23, .v (.int .i64 col)), (vt, .tab tb), (vk, .keep O U hw 1 v0)], hs0⟩) ⟨by dsimp only; omega, ?_⟩ hb0 ?_)
       · repeat' first | refine And.intro ?_ ?_ | exact trivial | rfl | omega | assumption | exact λi _ => congrArg (λz => V.rf z n) (hb1 i) | exact λ_ _ h => h
       clear hK;obtain ⟨la, hla1, hla2, hla3⟩ := hM1.row piv.length hat;have e1 : la.getD col 0 = R1 piv.length col := hla3 col h2;have hrc := hR1 piv.length col hat h2;have hmod : R1 piv.length col % p ≠ 0 := by rw [Int.emod_eq_of_lt hrc.1 hrc.2]; exact hne1
       obtain ⟨hi1, hi2, hi3⟩ := xN hmod;generalize hsc : xk p (R1 piv.length col) = sc at hi1 hi2 hi3;refine wrs λK hK => ?_;conv=>whnf
       refine ⟨oo, ?_⟩;conv=>whnf
       rw [Int.toNat_natCast];refine ⟨oo, ?_⟩;conv=>whnf
       rw [Int.toNat_natCast];refine ⟨la, hla1, by omega, ?_⟩;conv=>whnf
       rw [e1];refine zc rfl (jZ p _ (by omega) hmod) λhs' hhs => ?_;try dsimp only at hhs
       conv=>whnf
       rw [hsc];refine hK _ ?_;clear hK;clear hla1 hla2 hla3 e1 la
       -- the pivot's row is scaled
       refine W.seqK λK4 hK4 => wrs λK hK => ?_;conv=>whnf
       refine hK _ (W.block (W.invH hs0 hb0 (λm e => ∃ (j : Nat) (tb : Nat -> Option (List Int)), j <= n ∧ MatT tb bl1 n (λi x => if i = piv.length ∧ x < j then R1 i x * sc % p else R1 i x) ∧ m = n - j ∧ e = [(0, .v (.int .i64 p)), (1, .ownV el 1 b n λj => .rf (bl1 j) n), (5, .v (.int .i64 n)), (6, .ownI 3 bp (y6 piv)), (7, .v (.int .i64 col)), (8, .v (.int .i64 piv.length)), (10, .v (.int .i64 sc)), (22, .v (.int .i64 n)), (23, .v (.int .i64 col)), (vt, .tab tb), (vk, .keep O U hw 1 v0), (70, .v (.int .i64 n)), (71, .v (.int .i64 j))]) _ _ (⟨0, tb, Nat.zero_le _, hM1.congr λi x _ _ => by rw [if_neg (by omega)], rfl, rfl⟩) (by dsimp only; omega) (by repeat' first | refine And.intro ?_ ?_ | exact trivial | rfl | omega | exact .inl rfl | exact λ_ _ => rfl | exact λ_ _ h => h | assumption | exact λi hi => (by obtain rfl : i = 0 := (by omega); rfl)) ?_));clear hK;clear hM1 hM tb;rintro m2 e ⟨j, tb, hj, hMj, hm2, rfl⟩;refine wrs λK hK => ?_;conv=>whnf
       refine hK _ ?_;clear hK;refine W.seqK λK7 hK7 => W.cond ⟨λh6 => ?_, λh6 => ?_⟩ <;> (first | replace h6 := of_decide_eq_true h6 | replace h6 := of_decide_eq_false h6)
       · have h6 : j < n := by omega
         obtain ⟨la, hla1, hla2, hla3⟩ := hMj.row piv.length hat
         have e1 : la.getD j 0 = R1 piv.length j := by
           have := hla3 j h6;rw [if_neg (by omega)] at this; exact this
         have hrj := hR1 piv.length j hat h6;have h7 := zeY (a := R1 piv.length j) (b := sc) (by omega) (by omega);have h8 : 0 <= R1 piv.length j * sc := Int.mul_nonneg hrj.1 hi1;refine W.skip (hK7 _ ?_);clear hK7;refine W.seqK λK5 hK5 => W.block ?_;refine wrs λK hK => ?_;conv=>whnf
         refine hK _ ?_;clear hK;refine W.draw (za _) follows (by rfl) ?_;conv=>whnf
         refine ⟨oo, ?_⟩;conv=>whnf
         refine ⟨oo, ?_⟩;conv=>whnf
         rw [Int.toNat_natCast];refine ⟨oo, ?_⟩;conv=>whnf
         rw [Int.toNat_natCast];refine ⟨la, hla1, by omega, ?_⟩;conv=>whnf
         rw [e1];refine ⟨oo, ?_⟩;conv=>whnf
         refine ⟨by omega, ?_⟩;conv=>whnf
         rw [Int.tmod_eq_emod_of_nonneg h8];refine ⟨oo, ?_⟩;conv=>whnf
         refine ⟨la, hla1, by omega, ?_⟩;conv=>whnf
         refine hK5 _ ?_;clear hK5;refine wrg ?_;conv=>whnf
         refine ⟨oo, ?_⟩;conv=>whnf
         have h9 := (hMj.store hat h6 hla1 (R1 piv.length j * sc % p)).congr (R' := λi x => if i = piv.length ∧ x < j + 1 then R1 i x * sc % p else R1 i x) λi x hi hx => by
           show (if i = piv.length ∧ x = j then R1 piv.length j * sc % p else if i = piv.length ∧ x < j then R1 i x * sc % p else R1 i x) = if i = piv.length ∧ x < j + 1 then R1 i x * sc % p else R1 i x
           by_cases c1 : i = piv.length
           · subst c1
             by_cases c2 : x = j
             · subst c2; rw [if_pos ⟨rfl, rfl⟩, if_pos ⟨rfl, by omega⟩]
             · rw [if_neg (by omega)]
               by_cases c3 : x < j
               · rw [if_pos ⟨rfl, c3⟩, if_pos ⟨rfl, by omega⟩]
               · rw [if_neg (by omega), if_neg (by omega)]
           · rw [if_neg (by omega), if_neg (by omega), if_neg (by omega)]
         exact ze ⟨j + 1, _, by omega, h9, rfl, rfl⟩
       · obtain rfl : n = j := by omega
         refine W.exit (hK4 _ ?_);clear hK7 hK4;have hmm : ∀ a : Int, 0 <= a % p ∧ a % p < p := λa => ⟨Int.emod_nonneg _ (by omega), Int.emod_lt_of_pos _ (by omega)⟩
         obtain ⟨R2, hM2, hR2a, hR2o, hR2⟩ : ∃ R2 : Nat -> Nat -> Int, MatT tb bl1 n R2 ∧ (∀ x, x < n -> R2 piv.length x = R1 piv.length x * sc % p) ∧ (∀ i x, i ≠ piv.length -> R2 i x = R1 i x) ∧ ∀ i x, i < n -> x < n -> 0 <= R2 i x ∧ R2 i x < p :=
           ⟨_, hMj, λx hx => if_pos ⟨rfl, hx⟩, λi x hi => if_neg (by omega), λi x hi hx => by
             show 0 <= (if i = piv.length ∧ x < n then R1 i x * sc % p else R1 i x) ∧ (if i = piv.length ∧ x < n then R1 i x * sc % p else R1 i x) < p
             split
             · exact hmm _
             · exact hR1 i x hi hx⟩
         clear hMj hj;refine W.seqK λK5 hK5 => wrs λK hK => ?_;conv=>whnf
         refine hK _ (W.block (W.invH hs0 hb0 (λm e => ∃ (i : Nat) (tb : Nat -> Option (List Int)), i <= n ∧ MatT tb bl1 n (λa x => if a < i ∧ a ≠ piv.length then (R2 a x - R2 a col * R2 piv.length x) % p else R2 a x) ∧ m = n - i ∧ e = [(0, .v (.int .i64 p)), (1, .ownV el 1 b n λj => .rf (bl1 j) n), (5, .v (.int .i64 n)), (6, .ownI 3 bp (y6 piv)), (7, .v (.int .i64 col)), (8, .v (.int .i64 piv.length)), (22, .v (.int .i64 n)), (23, .v (.int .i64 col)), (vt, .tab tb), (vk, .keep O U hw 1 v0), (92, .v (.int .i64 n)), (93, .v (.int .i64 i))]) _ _ (⟨0, tb, Nat.zero_le _, hM2.congr λi x _ _ => by rw [if_neg (by omega)], rfl, rfl⟩) (by dsimp only; omega) (by repeat' first | refine And.intro ?_ ?_ | exact trivial | rfl | omega | exact .inl rfl | exact λ_ _ => rfl | exact λ_ _ h => h | assumption | exact λi hi => (by obtain rfl : i = 0 := (by omega); rfl)) ?_));clear hK;clear hM2 tb hm2;rintro m2 e ⟨i, tb, hi, hMi, hm2, rfl⟩;refine wrs λK hK => ?_;conv=>whnf
         refine hK _ ?_;clear hK;refine W.seqK λK7 hK7 => W.cond ⟨λh6 => ?_, λh6 => ?_⟩ <;> (first | replace h6 := of_decide_eq_true h6 | replace h6 := of_decide_eq_false h6)
         · have h6 : i < n := by omega
           have hfi := hR2 i col h6 h2;generalize hfac : R2 i col = fac at hfi;refine W.skip (hK7 _ ?_);clear hK7;refine W.seqK λK6 hK6 => W.block ?_
           -- the end of the row
           have fin : ∀ (tb : Nat -> Option (List Int)) (s : S), MatT tb bl1 n (λa x => if a < i + 1 ∧ a ≠ piv.length then (R2 a x - R2 a col * R2 piv.length x) % p else R2 a x) -> hs0 <= s.hs ->
               zB s.env [(0, .v (.int .i64 p)), (1, .ownV el 1 b n λj => .rf (bl1 j) n), (5, .v (.int .i64 n)), (6, .ownI 3 bp (y6 piv)), (7, .v (.int .i64 col)), (8, .v (.int .i64 piv.length)), (22, .v (.int .i64 n)), (23, .v (.int .i64 col)), (vt, .tab tb), (vk, .keep O U hw 1 v0), (92, .v (.int .i64 n)), (93, .v (.int .i64 i))] -> K6 s := by
             intro tb s h7 h8 h9;refine hK6 _ (W.weak (t := ⟨[(0, .v (.int .i64 p)), (1, .ownV el 1 b n λj => .rf (bl1 j) n), (5, .v (.int .i64 n)), (6, .ownI 3 bp (y6 piv)), (7, .v (.int .i64 col)), (8, .v (.int .i64 piv.length)), (22, .v (.int .i64 n)), (23, .v (.int .i64 col)), (vt, .tab tb), (vk, .keep O U hw 1 v0), (92, .v (.int .i64 n)), (93, .v (.int .i64 i))], hs0⟩) ⟨h8, h9⟩ hb0 ?_);refine wrg ?_;conv=>whnf
             refine ⟨oo, ?_⟩;conv=>whnf
             exact ze ⟨i + 1, tb, by omega, h7, rfl, rfl⟩
           clear hK6;obtain ⟨la, hla1, hla2, hla3⟩ := hMi.row i h6
           have e1 : la.getD col 0 = fac := by
             have := hla3 col h2;rw [if_neg (by omega), hfac] at this; exact this
           refine wrs λK hK => ?_;conv=>whnf
           refine hK _ (wrs λK hK => ?_);conv=>whnf
           refine ⟨oo, ?_⟩;conv=>whnf
           rw [Int.toNat_natCast];refine ⟨oo, ?_⟩;conv=>whnf
           rw [Int.toNat_natCast];refine ⟨la, hla1, by omega, ?_⟩;conv=>whnf
           rw [e1];refine hK _ ?_;clear hK;clear hla1 hla2 hla3 e1 la;refine wrs λK hK => ?_;conv=>whnf
           refine ⟨λh7 => ?_, λh7 => ?_⟩ <;> conv=>whnf
           · have h7 : i ≠ piv.length := by have := of_decide_eq_true h7; omega
             refine hK _ (W.cond ⟨λh8 => ?_, λh8 => ?_⟩) <;> clear hK
             · clear h8
               refine wrs λK hK => ?_;conv=>whnf
               refine hK _ (W.block (W.invH hs0 hb0 (λm e => ∃ (j : Nat) (tb : Nat -> Option (List Int)), j <= n ∧ MatT tb bl1 n (λa x => if a = i ∧ x < j then (R2 i x - fac * R2 piv.length x) % p else if a < i ∧ a ≠ piv.length then (R2 a x - R2 a col * R2 piv.length x) % p else R2 a x) ∧ m = n - j ∧ e = [(0, .v (.int .i64 p)), (1, .ownV el 1 b n λj => .rf (bl1 j) n), (5, .v (.int .i64 n)), (6, .ownI 3 bp (y6 piv)), (7, .v (.int .i64 col)), (8, .v (.int .i64 piv.length)), (12, .v (.int .i64 i)), (13, .v (.int .i64 fac)), (22, .v (.int .i64 n)), (23, .v (.int .i64 col)), (vt, .tab tb), (vk, .keep O U hw 1 v0), (92, .v (.int .i64 n)), (93, .v (.int .i64 i)), (110, .v (.int .i64 n)), (111, .v (.int .i64 j))]) _ _ ⟨0, tb, Nat.zero_le _, hMi.congr λa x _ _ => by rw [if_neg (by omega : ¬ (a = i ∧ x < 0))], rfl, rfl⟩ (by dsimp only; omega) (by repeat' first | refine And.intro ?_ ?_ | exact trivial | rfl | omega | assumption | exact λ_ _ => rfl | exact λ_ _ h => h) ?_));clear hK hMi tb;rintro m3 e ⟨j', tb, hj', hMj, hm3, rfl⟩;refine wrs λK hK => ?_;conv=>whnf
               refine hK _ ?_;clear hK;refine W.seqK λK7 hK7 => W.cond ⟨λh8 => ?_, λh8 => ?_⟩ <;> (first | replace h8 := of_decide_eq_true h8 | replace h8 := of_decide_eq_false h8)
               · have h8 : j' < n := by omega
                 obtain ⟨la, hla1, hla2, hla3⟩ := hMj.row i h6;obtain ⟨lb, hlb1, hlb2, hlb3⟩ := hMj.row piv.length (by omega)
                 have e1 : la.getD j' 0 = R2 i j' := by
                   have := hla3 j' h8;rw [if_neg (by omega), if_neg (by omega)] at this; exact this
                 have e2 : lb.getD j' 0 = R2 piv.length j' := by
                   have := hlb3 j' h8;rw [if_neg (by omega), if_neg (by omega)] at this; exact this
                 have hr1 := hR2 i j' h6 h8;have hr2 := hR2 piv.length j' (by omega) h8;have h9 := zeY (a := fac) (b := R2 piv.length j') (by omega) (by omega);refine W.skip (hK7 _ ?_);clear hK7;refine W.seqK λK7 hK7 => W.block ?_;refine wrs λK hK => ?_;conv=>whnf
                 refine hK _ ?_;clear hK;refine W.draw (za _) follows (by rfl) ?_;conv=>whnf
                 refine ⟨oo, ?_⟩;conv=>whnf
                 refine ⟨oo, ?_⟩;conv=>whnf
                 rw [Int.toNat_natCast];refine ⟨oo, ?_⟩;conv=>whnf
                 rw [Int.toNat_natCast];refine ⟨la, hla1, by omega, ?_⟩;conv=>whnf
                 rw [e1];refine ⟨oo, ?_⟩;conv=>whnf
                 rw [Int.toNat_natCast];refine ⟨oo, ?_⟩;conv=>whnf
                 rw [Int.toNat_natCast];refine ⟨lb, hlb1, by omega, ?_⟩;conv=>whnf
                 rw [e2];refine ⟨oo, ?_⟩;conv=>whnf
                 refine ⟨oo, ?_⟩;conv=>whnf
                 refine ⟨_, cxF (kN _ p (by omega) (by omega) (by omega)), ?_⟩;conv=>whnf
                 refine ⟨oo, ?_⟩;conv=>whnf
                 refine ⟨la, hla1, by omega, ?_⟩;conv=>whnf
                 refine hK7 _ ?_;clear hK7;refine wrg ?_;conv=>whnf
                 refine ⟨oo, ?_⟩;conv=>whnf
                 have h10 := (hMj.store h6 h8 hla1 ((R2 i j' - fac * R2 piv.length j') % p)).congr (R' := λa x => if a = i ∧ x < j' + 1 then (R2 i x - fac * R2 piv.length x) % p else if a < i ∧ a ≠ piv.length then (R2 a x - R2 a col * R2 piv.length x) % p else R2 a x) λa x ha hx => by
                   show (if a = i ∧ x = j' then (R2 i j' - fac * R2 piv.length j') % p else if a = i ∧ x < j' then _ else _) = _
                   by_cases c1 : a = i
                   · subst c1
                     by_cases c2 : x = j'
                     · subst c2; rw [if_pos ⟨rfl, rfl⟩, if_pos ⟨rfl, by omega⟩]
                     · rw [if_neg (by omega)]
                       by_cases c3 : x < j'
                       · rw [if_pos ⟨rfl, c3⟩, if_pos ⟨rfl, by omega⟩]
                       · rw [if_neg (by omega : ¬ (a = a ∧ x < j')), if_neg (by omega : ¬ (a = a ∧ x < j' + 1))]
                   · rw [if_neg (by omega), if_neg (by omega), if_neg (by omega : ¬ (a = i ∧ x < j' + 1))]
                 exact ze ⟨j' + 1, _, by omega, h10, rfl, rfl⟩
               · obtain rfl : n = j' := by omega
                 refine W.exit (fin tb _ (hMj.congr λa x ha hx => ?_) (by dsimp only; omega) ?_)
                 · by_cases c1 : a = i
                   · subst c1; rw [if_pos ⟨rfl, hx⟩, if_pos ⟨by omega, h7⟩, hfac]
                   · rw [if_neg (by omega)]
                     by_cases c2 : a < i ∧ a ≠ piv.length
                     · rw [if_pos c2, if_pos (by omega)]
                     · rw [if_neg c2, if_neg (by omega)]
                 · exact cvr
             · have h8 := of_decide_eq_false h8
               have hf0 : fac = 0 := Classical.byContradiction h8;refine W.skip (fin tb _ (hMi.congr λa x ha hx => ?_) (by dsimp only; omega) ?_)
               · by_cases c1 : a = i
                 · subst c1
                   rw [if_neg (by omega), if_pos ⟨by omega, h7⟩, hfac, hf0, Int.zero_mul, Int.sub_zero];have := hR2 a x h6 hx;rw [Int.emod_eq_of_lt this.1 this.2]
                 · by_cases c2 : a < i ∧ a ≠ piv.length
                   · rw [if_pos c2, if_pos (by omega)]
                   · rw [if_neg c2, if_neg (by omega)]
               · exact cvr
           · have h7 : i = piv.length := by have := of_decide_eq_false h7; omega
             refine hK _ (W.condF rfl ?_);refine W.skip (fin tb _ (hMi.congr λa x ha hx => ?_) (by dsimp only; omega) ?_)
             · by_cases c2 : a < i ∧ a ≠ piv.length
               · rw [if_pos c2, if_pos (by omega)]
               · rw [if_neg c2, if_neg (by omega)]
             · exact cvr
         · obtain rfl : n = i := by omega
           refine W.exit (hK5 _ ?_);clear hK7 hK5
           obtain ⟨h3', h4', h5'⟩ := zkh (R3 := λa x => if a < n ∧ a ≠ piv.length then (R2 a x - R2 a col * R2 piv.length x) % p else R2 a x) hst1 hsol1 h2 hat hi3
             (λx hx => by rw [if_neg (by omega)]; exact hR2a x hx) (λi x hi hx hne => by rw [if_pos ⟨hi, hne⟩, hR2o i x hne, hR2o i col hne, hR2a x hx])
           refine wrg ?_;conv=>whnf
           refine ⟨⟨rfl, by decide⟩, ?_⟩;conv=>whnf
           intro b_1 hs_1 hh_1 hf_1;try dsimp only at hh_1 hf_1
           conv=>whnf
           refine ⟨by rw [yS]; simp; omega, ?_⟩;conv=>whnf
           intro b_2 hs_2 hh_2 hf_2;try dsimp only at hh_2 hf_2
           conv=>whnf
           refine hK8 _ ?_;clear hK8;refine wrg ?_;conv=>whnf
           refine ⟨oo, ?_⟩;conv=>whnf
           refine ⟨_, _, ⟨col + 1, b_2, piv ++ [col], bl1, tb, _, by omega, h3', h4', h5', hMi, rfl, rfl⟩, by omega, by dsimp only; omega, ?_⟩
           repeat' first | refine And.intro ?_ ?_ | exact trivial | rfl | omega | exact .inl rfl | exact λ_ _ => rfl | exact λ_ _ h => h | assumption | exact λi hi => (by obtain rfl : i = 0 := (by omega); rfl)
           exact (zfP _ _).symm
   clear hK1;refine W.seqK λK7 hK7 => wrs λK hK => ?_;conv=>whnf
   refine ⟨λh6 => ?_, λh6 => ?_⟩ <;> conv=>whnf
   · have h6 : k < n := by have := of_decide_eq_true h6; omega
     obtain ⟨l, hl1, hl2, hl3⟩ := hM.row k h6;refine ⟨oo, ?_⟩;conv=>whnf
     rw [Int.toNat_natCast];refine ⟨oo, ?_⟩;conv=>whnf
     rw [Int.toNat_natCast];refine ⟨l, hl1, by omega, ?_⟩;conv=>whnf
     have e1 : l.getD col 0 = R k col := hl3 col h2;rw [e1];refine hK _ (W.cond ⟨λh7 => ?_, λh7 => ?_⟩) <;> clear hK
     · have h7 := of_decide_eq_true h7
       refine W.skip (hK7 _ ?_);clear hK7;refine W.block ?_;refine wrg ?_;conv=>whnf
       refine ⟨oo, ?_⟩;conv=>whnf
       have h8 : ∀ j, piv.length <= j -> j < k + 1 -> R j col = 0 := λj h9 h10 => by
         by_cases hj : j = k
         · rw [hj]; exact h7
         · exact h5 j h9 (by omega)
       exact ze ⟨k + 1, by omega, by omega, h8, rfl, rfl⟩
     · have h7 := of_decide_eq_false h7
       refine W.exit (hout (.inr ⟨h6, h7⟩) _ (by dsimp only; omega) ?_);exact cvr
   · have h6 : ¬ k < n := by have := of_decide_eq_false h6; omega
     refine hK _ (W.condF rfl ?_);refine W.exit (hout (.inl (by omega)) _ (by dsimp only; omega) ?_);exact cvr
 · refine W.exit (hK1 _ ?_)
   clear hK7 hK1;obtain rfl : n = col := by omega
   have hB := Poly.Steps.basis hst hsol;have hlt := hst.lt;have hle := hst.le;have hnd := hst.nodup;refine wrs λK hK => ?_;conv=>whnf
   refine hK _ (W.seqK λK1 hK1 => wrs λK hK => ?_);conv=>whnf
   refine hK _ (W.block (W.invH hs0 hb0 (λm e => ∃ (c b15 : Nat), c <= n ∧ m = n - c ∧ e = [(0, .v (.int .i64 p)), (1, .ownV el 1 b n λj => .rf (bl j) n), (5, .v (.int .i64 n)), (6, .ownI 3 bp (y6 piv)), (15, .ownV 22 1 b15 (xE p n piv R c).length λj => .ints none ((xE p n piv R c).getD j 0).l), (146, .v (.int .i64 n)), (147, .v (.int .i64 c)), (vt, .tab tb), (vk, .keep O U hw 1 v0)]) _ _ (⟨0, 0, Nat.zero_le _, rfl, rfl⟩) (by dsimp only; omega) (by repeat' first | refine And.intro ?_ ?_ | exact trivial | rfl | omega | exact .inl rfl | exact λ_ _ => rfl | exact λ_ _ h => h | assumption | exact λi hi => (by obtain rfl : i = 0 := (by omega); rfl)) ?_));clear hK;rintro m2 e ⟨c, b15, hc, hm2, rfl⟩
   have hLl : (xE p n piv R c).length <= c := by
     unfold xE;rw [List.length_map];exact Nat.le_trans (List.length_filter_le _ _) (by simp)
   refine wrs λK hK => ?_;conv=>whnf
   refine hK _ ?_;clear hK;refine W.seqK λK7 hK7 => W.cond ⟨λh2 => ?_, λh2 => ?_⟩ <;> (first | replace h2 := of_decide_eq_true h2 | replace h2 := of_decide_eq_false h2)
   · have h2 : c < n := by omega
     refine W.skip (hK7 _ ?_);clear hK7;refine W.seqK λK8 hK8 => W.block ?_;refine wrs λK hK => ?_;conv=>whnf
     refine hK _ (W.seqK λK3 hK3 => wrs λK hK => ?_);conv=>whnf
     refine zc rfl (zcp _ _ _ (by rw [yS]; omega)) λhs' hhs => ?_;try dsimp only at hhs
     conv=>whnf
     refine hK _ (W.cond ⟨λh3 => ?_, λh3 => ?_⟩) <;> clear hK
     · have h3 := (zeZ piv c).1 (of_decide_eq_true h3)
       refine W.exit (hK8 _ ?_);clear hK8 hK3;refine wrg ?_;conv=>whnf
       refine ⟨oo, ?_⟩;conv=>whnf
       have e1 : xE p n piv R (c + 1) = xE p n piv R c := by rw [zdC, if_pos h3]
       refine ⟨_, _, ⟨c + 1, b15, by omega, rfl, rfl⟩, by omega, by dsimp only; omega, ?_⟩;rw [e1];exact cvr
     · have h3 := λhm => of_decide_eq_false h3 ((zeZ piv c).2 hm)
       refine W.skip (hK3 _ ?_);clear hK3;refine wrs λK hK => ?_;conv=>whnf
       refine ⟨rfl, ?_⟩;conv=>whnf
       refine ⟨oo, ?_⟩;conv=>whnf
       rw [Int.toNat_natCast];intro b_v hs_v hh_v hf_v;try dsimp only at hh_v hf_v
       conv=>whnf
       refine hK _ (wrs λK hK => ?_);conv=>whnf
       refine ⟨⟨by omega, by simp; omega⟩, ?_⟩;conv=>whnf
       rw [Int.toNat_natCast];refine hK _ ?_;clear hK;have hset : ∀ x, cf ((List.replicate n 0).set c 1) x = if x = c then 1 else 0 := λx => by rw [yu (by simp; omega), zI]
       refine W.seqK λK4 hK4 => wrs λK hK => ?_;conv=>whnf
       rw [yS];refine hK _ (W.block (W.invH hs0 hb0 (λm e => ∃ (i bv : Nat) (v : List Int), i <= piv.length ∧ v.length = n ∧ (∀ x, cf v x = if x = c then 1 else match (piv.take i).idxOf? x with | some j => (-(R j c)) % p | none => 0) ∧ m = piv.length - i ∧ e = [(0, .v (.int .i64 p)), (1, .ownV el 1 b n λj => .rf (bl j) n), (5, .v (.int .i64 n)), (6, .ownI 3 bp (y6 piv)), (15, .ownV 22 1 b15 (xE p n piv R c).length λj => .ints none ((xE p n piv R c).getD j 0).l), (16, .v (.int .i64 c)), (17, .ownI 2 bv v), (146, .v (.int .i64 n)), (147, .v (.int .i64 c)), (158, .al 6), (159, .v (.int .i64 piv.length)), (160, .v (.int .i64 i)), (vt, .tab tb), (vk, .keep O U hw 1 v0)]) _ _ (⟨0, b_v, (List.replicate n 0).set c 1, Nat.zero_le _, by simp, λx => by rw [hset]; rfl, rfl, rfl⟩) (by dsimp only; omega) (by repeat' first | refine And.intro ?_ ?_ | exact trivial | rfl | omega | exact .inl rfl | exact λ_ _ => rfl | exact λ_ _ h => h | assumption | exact λi hi => (by obtain rfl : i = 0 := (by omega); rfl)) ?_));clear hK;clear hset;rintro m3 e ⟨i, bv, v, hi, hvl, hv, hm3, rfl⟩;refine wrs λK hK => ?_;conv=>whnf
       refine hK _ ?_;clear hK;refine W.seqK λK7 hK7 => W.cond ⟨λh4 => ?_, λh4 => ?_⟩ <;> (first | replace h4 := of_decide_eq_true h4 | replace h4 := of_decide_eq_false h4)
       · have h4 : i < piv.length := by omega
         have hx : piv[i] < n := hlt _ (List.getElem_mem h4);have hin : i < n := by omega
         obtain ⟨la, hla1, hla2, hla3⟩ := hM.row i hin;have hrc := hR i c hin h2;have e1 : la.getD c 0 = R i c := hla3 c h2;have e2 : (y6 piv).getD i 0 = (piv[i] : Nat) := zlY h4;refine W.skip (hK7 _ ?_);clear hK7;refine W.seqK λK6 hK6 => W.block ?_;refine wrs λK hK => ?_;conv=>whnf
         rw [yS];refine ⟨oo, ?_⟩;conv=>whnf
         rw [Int.toNat_natCast, e2];refine hK _ ?_;clear hK;refine wrg ?_;conv=>whnf
         refine ⟨oo, ?_⟩;conv=>whnf
         rw [Int.toNat_natCast];refine ⟨oo, ?_⟩;conv=>whnf
         rw [Int.toNat_natCast];refine ⟨la, hla1, by omega, ?_⟩;conv=>whnf
         rw [e1];refine ⟨oo, ?_⟩;conv=>whnf
         refine zc rfl (kN _ p (by omega) (by omega) (by omega)) λhs' hhs => ?_;try dsimp only at hhs
         conv=>whnf
         refine ⟨oo, ?_⟩;conv=>whnf
         rw [Int.toNat_natCast];refine hK6 _ ?_;clear hK6;refine wrg ?_;conv=>whnf
         refine ⟨oo, ?_⟩;conv=>whnf
         have h5 : ∀ x, cf (v.set piv[i] ((-(R i c)) % p)) x = if x = c then 1 else match (piv.take (i + 1)).idxOf? x with | some j => (-(R j c)) % p | none => 0 := λx => by
           rw [yu (by omega), zlZ hnd h4, hv x]
           by_cases hxi : x = piv[i]
           · rw [if_pos hxi, if_pos hxi, if_neg (λe => h3 (by rw [<- e, hxi]; exact List.getElem_mem h4))]
           · rw [if_neg hxi, if_neg hxi]
         exact ze ⟨i + 1, bv, v.set piv[i] ((-(R i c)) % p), by omega, by simpa using hvl, h5, rfl, rfl⟩
       · obtain rfl : i = piv.length := by omega
         refine W.exit (hK4 _ ?_);clear hK7 hK4
         have hvp : zx v = (zca p n piv R c).l := by
           rw [List.take_length] at hv
           have hrng : ∀ x, 0 <= cf v x ∧ cf v x < p := λx => by
             rw [hv x]
             split
             · omega
             · split
               · exact ⟨Int.emod_nonneg _ (by omega), Int.emod_lt_of_pos _ (by omega)⟩
               · omega
           rw [<- zfD hrng];refine congrArg Poly.l (zm8 (p := p) (a := v) (b := mkL n (vP p piv R c)) λx => ?_);rw [xA]
           by_cases hxn : x < n
           · rw [if_pos hxn, hv x]
             unfold vP
             by_cases hxc : x = c
             · rw [if_pos hxc, if_pos hxc]
             · rw [if_neg hxc, if_neg hxc]
               cases piv.idxOf? x with
               | none => rfl
               | some j => exact zW p _
           · rw [if_neg hxn, z1 (by omega)]
         refine wrg ?_;conv=>whnf
         refine zv rfl (j1 _ _ (by omega)) λhs_t b_t hh_t hf_t => ?_;try dsimp only at hh_t hf_t
         conv=>whnf
         rw [hvp];refine ⟨⟨rfl, by decide, λx hx => by simp at hx; subst hx; exact ⟨rfl, rfl⟩⟩, ?_⟩;conv=>whnf
         intro b_1 hs_1 hh_1 hf_1;try dsimp only at hh_1 hf_1
         conv=>whnf
         refine ⟨by omega, ?_⟩;conv=>whnf
         refine ⟨λj => .ints none ((xE p n piv R c ++ [zca p n piv R c]).getD j 0).l, λj hj => congrArg (λq : Poly p => V.ints none q.l) (zdU hj), λj hj => ?_, ?_⟩
         · obtain rfl : j = 0 := by omega
           exact congrArg (λq : Poly p => V.ints none q.l) zdV
         intro b_2 hs_2 hh_2 hf_2;try dsimp only at hh_2 hf_2
         conv=>whnf
         refine hK8 _ ?_;clear hK8;refine wrg ?_;conv=>whnf
         refine ⟨oo, ?_⟩;conv=>whnf
         have e1 : xE p n piv R (c + 1) = xE p n piv R c ++ [zca p n piv R c] := by rw [zdC, if_neg h3]
         refine ⟨_, _, ⟨c + 1, b_2, by omega, rfl, rfl⟩, by omega, by dsimp only; omega, ?_⟩;rw [e1, List.length_append];exact cvr
   · refine W.exit (hK1 _ ?_)
     clear hK7 hK1;obtain rfl : n = c := by omega
     refine wrs λK hK => ?_;conv=>whnf
     refine hK _ (W.ret ?_);conv=>whnf
     exact ⟨by dsimp only; omega, rfl, .v (vPs (xE p n piv R n)), ⟨rfl, rfl, rfl, λ_ _ => rfl⟩, rfl, trivial, .dead, trivial, .inl rfl, .dead, trivial, rfl, rfl, rfl, rfl, _, hB, rfl⟩


set_option maxHeartbeats 8000000 in
theorem zki (p : Int) [SP p] (g : Option Nat) (f : Poly p) (n : Nat) (hf : dg f = n + 1) (hn0 : 1 <= n) (hn : n <= 400) : Fn Tryz.prog 224 [.int .i64 p, .ints g f.l] (λ_ _ z => ∃ L : List (Poly p), Ker f L ∧ z = .v (vPs L)) := by
 have hp := Pr.two (p := p);have hp2 := SP.le (p := p);have hfl : f.l.length = n + 1 := hf;have hf0 : f ≠ 0 := λe => by rw [e, zt] at hf; omega
 refine zf (zl [0, 1, 4, 5, 6, 7, 8, 9, 10, 17, 18, 19, 27, 28, 29, 37, 38, 39, 40, 1000000]) Tryz.func224 rfl (by decide) Tryz.ntmps224 (lb rfl) λbase => ?_;refine W.tab0 rfl ?_;refine W.rs (zl _) (by rfl) λK hK => ?_;conv=>whnf
 refine hK _ ?_;clear hK;refine W.rs (zl _) (by rfl) λK hK => ?_;conv=>whnf
 rw [hfl];refine ⟨oo, ?_⟩;conv=>whnf
 have e0 : (((n + 1 : Nat) : Int) - 1) = n := by omega
 rw [e0];refine hK _ ?_;clear hK;refine W.rs (zl _) (by rfl) λK hK => ?_;conv=>whnf
 refine ⟨rfl, ?_⟩;conv=>whnf
 refine ⟨oo, ?_⟩;conv=>whnf
 rw [Int.toNat_natCast];intro b_0 hs_0 hh_0 hf_0;try dsimp only at hh_0 hf_0
 conv=>whnf
 refine hK _ ?_;clear hK;refine W.seqK λK1 hK1 => W.rs (zl _) (by rfl) λK hK => ?_;conv=>whnf
 refine hK _ (W.block (W.inv (λm s => ∃ (i hs : Nat) (bl : Nat -> Nat) (tb : Nat -> Option (List Int)), i <= n ∧ base <= hs ∧ (∀ j, j < i -> bl j < hs) ∧ (∀ j k, j < i -> k < i -> bl j = bl k -> j = k) ∧ (∀ j, j < i -> tb (bl j) = some (List.replicate n 0)) ∧ m = n - i ∧
  s = ⟨[(0, .v (.int .i64 p)), (1, .v (.ints g f.l)), (5, .v (.int .i64 n)), (6, .ownV 22 1 b_0 n λj => if j < i then .rf (bl j) n else .nil), (17, .v (.int .i64 n)), (18, .v (.int .i64 i)), (vt, .tab tb)], hs⟩) _ _
  ⟨0, base, λ_ => 0, λ_ => none, Nat.zero_le _, Nat.le_refl _, λj hj => by omega, λj k hj => by omega, λj hj => by omega, rfl, rfl⟩ ⟨by dsimp only; omega, by repeat' first | refine And.intro ?_ ?_ | exact trivial | rfl | omega | assumption | exact λ_ _ => rfl | exact λ_ _ h => h⟩
  (by rintro m s ⟨_, _, _, _, _, h, _, _, _, _, rfl⟩; exact h) ?_))
 clear hK;rintro m s ⟨i, hs, bl, tb, hi, hhs, hlt, hinj, htb, hm, rfl⟩;refine W.rs (zl _) (by rfl) λK hK => ?_;conv=>whnf
 refine hK _ ?_;clear hK;refine W.seqK λK7 hK7 => W.cond ⟨λh2 => ?_, λh2 => ?_⟩ <;> (first | replace h2 := of_decide_eq_true h2 | replace h2 := of_decide_eq_false h2)
 ·have h2 : i < n := by omega
  refine W.skip (hK7 _ ?_);clear hK7;refine W.seqK λK8 hK8 => W.block ?_;refine W.rs (zl _) (by rfl) λK hK => ?_;conv=>whnf
  refine hK _ ?_;clear hK;refine W.region (zl _) (by rfl) ?_;conv=>whnf
  refine ⟨rfl, ?_⟩;conv=>whnf
  refine ⟨oo, ?_⟩;conv=>whnf
  rw [Int.toNat_natCast];intro b_1 hs_1 hh_1 hf_1;try dsimp only at hh_1 hf_1
  conv=>whnf
  refine ⟨oo, ?_⟩;conv=>whnf
  rw [Int.toNat_natCast];refine ⟨by simp; omega, ?_⟩;conv=>whnf
  refine ⟨⟨by show 0 + 1 <= 1; omega, rfl⟩, λj => if j < i + 1 then .rf (if j < i then bl j else b_1) n else .nil, ?_, λj hj hji => ?_, ?_⟩
  ·show (if i < i + 1 then V.rf (if i < i then bl i else b_1) n else .nil) = setCells (if i < i then V.rf (bl i) n else .nil) 0 (V.rf b_1 (List.replicate n 0).length)
   rw [if_pos (by omega), if_neg (by omega), if_neg (by omega), List.length_replicate]
   rfl
  ·show (if j < i + 1 then V.rf (if j < i then bl j else b_1) n else .nil) = if j < i then V.rf (bl j) n else .nil
   by_cases h : j < i
   ·rw [if_pos (by omega), if_pos h, if_pos h]
   ·rw [if_neg (by omega), if_neg h]
  conv=>whnf
  refine hK8 _ ?_;clear hK8;refine W.region (zl _) (by rfl) ?_;conv=>whnf
  refine ⟨oo, ?_⟩;conv=>whnf
  have hb1 := hf_1 (by omega);refine ⟨_, _, ⟨i + 1, hs_1, λj => if j < i then bl j else b_1, yb tb b_1 (List.replicate n 0), by omega, by omega, λj hj => ?_, λj k hj hk he => ?_, λj hj => ?_, rfl, rfl⟩, by omega, by dsimp only; omega, ?_⟩
  ·show (if j < i then bl j else b_1) < hs_1
   split
   ·have := hlt j (by assumption); omega
   ·omega
  ·have he' : (if j < i then bl j else b_1) = (if k < i then bl k else b_1) := he
   split at he' <;> split at he'
   ·exact hinj j k (by omega) (by omega) he'
   ·have := hlt j (by omega); omega
   ·have := hlt k (by omega); omega
   ·omega
  ·show yb tb b_1 (List.replicate n 0) (if j < i then bl j else b_1) = _
   split
   ·have := hlt j (by omega);rw [xr _ _ (by omega)]; exact htb j (by omega)
   ·exact yf _ _ _
  exact cvr
 ·obtain rfl : n = i := by omega
  refine W.exit (hK1 _ ?_);clear hK7 hK1;have hM : MatT tb bl n (λ_ _ => 0) := ⟨hinj, λj hj => ⟨_, htb j hj, by simp, λx _ => zI _ _⟩⟩
  clear hlt hinj htb;refine W.weak (t := ⟨[(0, .v (.int .i64 p)), (1, .v (.ints g f.l)), (5, .v (.int .i64 n)), (6, .ownV 22 1 b_0 n λj => .rf (bl j) n), (vt, .tab tb)], base⟩) ⟨by dsimp only; omega, ?_⟩ (Nat.le_refl _) ?_
  ·repeat' first | refine And.intro ?_ ?_ | exact trivial | rfl | omega | assumption | exact λi hi => if_pos hi | exact λ_ _ h => h
  refine W.seqK λK1 hK1 => W.rs (zl _) (by rfl) λK hK => ?_;conv=>whnf
  refine hK _ (W.block (W.invA (λm e => ∃ (i : Nat) (tb : Nat -> Option (List Int)), i <= n ∧ MatT tb bl n (λa j => if j < i then zbJ f a j else 0) ∧ m = n - i ∧ e = [(0, .v (.int .i64 p)), (1, .v (.ints g f.l)), (5, .v (.int .i64 n)), (6, .ownV 22 1 b_0 n λj => .rf (bl j) n), (27, .v (.int .i64 n)), (28, .v (.int .i64 i)), (vt, .tab tb)]) ⟨0, tb, Nat.zero_le _, hM.congr λa j _ _ => by rw [if_neg (by omega)], rfl, rfl⟩ ?_));clear hK;clear hM hm tb;rintro m e ⟨i, tb, hi, hM, hm, rfl⟩;refine W.rs (zl _) (by rfl) λK hK => ?_;conv=>whnf
  refine hK _ ?_;clear hK;refine W.seqK λK7 hK7 => W.cond ⟨λh2 => ?_, λh2 => ?_⟩ <;> (first | replace h2 := of_decide_eq_true h2 | replace h2 := of_decide_eq_false h2)
  ·have h2 : i < n := by omega
   have epi : p * (i : Int) = ((p.toNat * i : Nat) : Int) := by rw [Int.natCast_mul]; congr 1; omega
   have hpi : p.toNat * i <= 97 * 400 := Nat.mul_le_mul (by omega) (by omega);have hWl : (rem (X p ^ (p.toNat * i)) f).l.length = dg (rem (X p ^ (p.toNat * i)) f) := rfl;have hWd := yB (X p ^ (p.toNat * i)) hf0;have hkm := λa => zfG f a i;refine W.skip (hK7 _ ?_);clear hK7;refine W.seqK λK8 hK8 => W.block ?_;refine W.rs (zl _) (by rfl) λK hK => ?_;conv=>whnf
   refine hK _ ?_;clear hK;refine W.seqK λK9 hK9 => W.rs (zl _) (by rfl) λK hK => ?_;conv=>whnf
   refine ⟨⟨rfl, by decide⟩, ?_⟩;conv=>whnf
   intro b_x hs_x hh_x hf_x;try dsimp only at hh_x hf_x
   conv=>whnf
   refine ⟨by rw [epi]; constructor <;> omega, ?_⟩;conv=>whnf
   rw [epi];have ex : [(0 : Int), 1] = (X p).l := X_l.symm;rw [ex]
   have hXd : dg (X p) <= 1000000 := by
    have : (X p).l.length = 2 := by rw [X_l]; rfl
    show (X p).l.length <= _
    omega
   refine zc rfl (ziz p _ g (X p) f (p.toNat * i) (by omega) hXd (by omega) hf0) λhs' hhs => ?_;try dsimp only at hhs
   conv=>whnf
   generalize hW : rem (X p ^ (p.toNat * i)) f = Wp at *;rw [hWl];refine hK _ (W.block (W.invA (λm e => ∃ (k : Nat) (tb : Nat -> Option (List Int)), k <= dg Wp ∧ MatT tb bl n (λa j => if j < i then zbJ f a j else if j = i ∧ a < k then cf Wp.l a else 0) ∧ m = dg Wp - k ∧ e = [(0, .v (.int .i64 p)), (1, .v (.ints g f.l)), (5, .v (.int .i64 n)), (6, .ownV 22 1 b_0 n λj => .rf (bl j) n), (8, .v (.int .i64 i)), (27, .v (.int .i64 n)), (28, .v (.int .i64 i)), (37, .v (.ints none Wp.l)), (38, .v (.int .i64 (dg Wp))), (39, .v (.int .i64 k)), (vt, .tab tb)]) ⟨0, tb, Nat.zero_le _, hM.congr λa j _ _ => by rw [if_neg (by omega : ¬ (j = i ∧ a < 0))], rfl, rfl⟩ ?_));clear hK;clear hM tb;rintro m2 e ⟨k, tb, hk, hMk, hm2, rfl⟩;refine W.rs (zl _) (by rfl) λK hK => ?_;conv=>whnf
   refine hK _ ?_;clear hK;refine W.seqK λK7 hK7 => W.cond ⟨λh3 => ?_, λh3 => ?_⟩ <;> (first | replace h3 := of_decide_eq_true h3 | replace h3 := of_decide_eq_false h3)
   ·have h3 : k < dg Wp := by omega
    obtain ⟨la, hla1, hla2, hla3⟩ := hMk.row k (by omega);refine W.skip (hK7 _ ?_);clear hK7;refine W.seqK λK6 hK6 => W.block ?_;refine W.rs (zl _) (by rfl) λK hK => ?_;conv=>whnf
    rw [hWl];refine ⟨oo, ?_⟩;conv=>whnf
    rw [Int.toNat_natCast];refine hK _ ?_;clear hK;refine W.region (zl _) (by rfl) ?_;conv=>whnf
    refine ⟨oo, ?_⟩;conv=>whnf
    rw [Int.toNat_natCast];refine ⟨oo, ?_⟩;conv=>whnf
    rw [Int.toNat_natCast];refine ⟨la, hla1, by omega, ?_⟩;conv=>whnf
    refine hK6 _ ?_;clear hK6;refine W.region (zl _) (by rfl) ?_;conv=>whnf
    refine ⟨oo, ?_⟩;conv=>whnf
    have h4 := (hMk.store (i := k) (by omega) h2 hla1 (cf Wp.l k)).congr (R' := λa j => if j < i then zbJ f a j else if j = i ∧ a < k + 1 then cf Wp.l a else 0) λa j ha hj => by
     show (if a = k ∧ j = i then cf Wp.l k else if j < i then zbJ f a j else if j = i ∧ a < k then cf Wp.l a else 0) = _
     by_cases c1 : j < i
     ·rw [if_neg (by omega), if_pos c1, if_pos c1]
     ·by_cases c2 : j = i
      ·subst c2
       by_cases c3 : a = k
       ·subst c3; rw [if_pos ⟨rfl, rfl⟩, if_neg c1, if_pos ⟨rfl, by omega⟩]
       ·by_cases c4 : a < k
        ·rw [if_neg (by omega), if_neg c1, if_pos ⟨rfl, c4⟩, if_neg c1, if_pos ⟨rfl, by omega⟩]
        ·rw [if_neg (by omega), if_neg c1, if_neg (by omega), if_neg c1, if_neg (by omega)]
      ·rw [if_neg (by omega), if_neg c1, if_neg (by omega), if_neg c1, if_neg (by omega)]
    exact ze ⟨k + 1, _, by omega, h4, rfl, rfl⟩
   ·obtain rfl : k = dg Wp := by omega
    refine W.exit (hK9 _ ?_);clear hK7 hK9
    have hM2 : MatT tb bl n (λa j => if j < i then zbJ f a j else if j = i then cf Wp.l a else 0) := hMk.congr λa j ha hj => by
     by_cases c1 : j < i
     ·rw [if_pos c1, if_pos c1]
     ·rw [if_neg c1, if_neg c1]
      by_cases c2 : j = i
      ·rw [if_pos c2]
       by_cases c3 : a < dg Wp
       ·rw [if_pos ⟨c2, c3⟩]
       ·rw [if_neg (by omega), yj (by omega)]
      ·rw [if_neg c2, if_neg (by omega)]
    obtain ⟨la, hla1, hla2, hla3⟩ := hM2.row i h2
    have e1 : la.getD i 0 = cf Wp.l i := by
     have := hla3 i h2;rw [if_neg (by omega), if_pos rfl] at this; exact this
    have hrc := kL Wp i;refine W.draw (zl _) follows (by rfl) ?_;conv=>whnf
    refine ⟨oo, ?_⟩;conv=>whnf
    refine ⟨oo, ?_⟩;conv=>whnf
    rw [Int.toNat_natCast];refine ⟨oo, ?_⟩;conv=>whnf
    refine ⟨la, hla1, by omega, ?_⟩;conv=>whnf
    rw [e1];refine ⟨oo, ?_⟩;conv=>whnf
    refine ⟨_, cxmF (kN _ p (by omega) (by omega) (by omega)), ?_⟩;conv=>whnf
    refine ⟨oo, ?_⟩;conv=>whnf
    refine ⟨la, hla1, by omega, ?_⟩;conv=>whnf
    refine hK8 _ ?_;clear hK8;refine W.region (zl _) (by rfl) ?_;conv=>whnf
    refine ⟨oo, ?_⟩;conv=>whnf
    have h4 := (hM2.store h2 h2 hla1 ((cf Wp.l i - 1) % p)).congr (R' := λa j => if j < i + 1 then zbJ f a j else 0) λa j ha hj => by
     show (if a = i ∧ j = i then (cf Wp.l i - 1) % p else if j < i then zbJ f a j else if j = i then cf Wp.l a else 0) = _
     by_cases c1 : j < i
     ·rw [if_neg (by omega), if_pos c1, if_pos (by omega)]
     ·by_cases c2 : j = i
      ·subst c2
       by_cases c3 : a = j
       ·subst c3; rw [if_pos ⟨rfl, rfl⟩, if_pos (by omega : a < a + 1), hkm a, if_pos rfl]
       ·rw [if_neg (by omega : ¬ (a = j ∧ j = j)), if_neg c1, if_pos rfl, if_pos (by omega : j < j + 1), hkm a, if_neg c3, Int.sub_zero, jh]
      ·rw [if_neg (by omega), if_neg c1, if_neg c2, if_neg (by omega)]
    exact ze ⟨i + 1, _, by omega, h4, rfl, rfl⟩
  ·obtain rfl : n = i := by omega
   refine W.exit (hK1 _ ?_);clear hK7 hK1;have hM2 : MatT tb bl n (zbJ f) := hM.congr λa j ha hj => if_pos hj;refine W.rs (zl _) (by rfl) λK hK => ?_;conv=>whnf
   refine ⟨⟨rfl, rfl⟩, ?_⟩;conv=>whnf
   refine ⟨rfl, _, zfQ p n hn0 (by omega) _ _ bl (zbJ f) tb hM2 (λa j _ _ => by rw [zfG]; exact ⟨Int.emod_nonneg _ (by omega), Int.emod_lt_of_pos _ (by omega)⟩), ?_⟩;rintro hs' av x' t' hh ⟨rfl, rfl, L, hL, rfl⟩ _ _ _;conv=>whnf
   refine hK _ (W.ret ?_);conv=>whnf
   exact ⟨.v (vPs L), ⟨rfl, rfl, rfl, λ_ _ => rfl⟩, ⟨trivial, λ_ _ => trivial⟩, L, hL.ker hf, rfl⟩


set_option maxHeartbeats 8000000 in
theorem zl0 (p : Int) [SP p] (f : Poly p) (hm : Mon f) (hs : Sqf f) (hd : 2 <= dg f) (hd2 : dg f <= 400) : Fn Tryz.prog 208 [.int .i64 p, .ints none f.l] (λ_ _ z => ∃ P : List (Poly p), zaD f P ∧ z = .v (vPs P)) := by
 have hp := Pr.two (p := p);have hp2 := SP.le (p := p);have hf0 : f ≠ 0 := hm.1;refine zf (za [0, 1, 4, 5, 6, 8, 9, 11, 12, 13, 19, 20, 21, 22, 25, 26, 27, 28, 31, 32, 33, 47]) Tryz.func208 rfl (by decide) Tryz.ntmps208 (lb rfl) λbase => ?_;refine wrs λK hK => ?_;conv=>whnf
 refine hK _ (wrs λK hK => ?_);conv=>whnf
 refine ⟨⟨rfl, by decide, λx hx => by simp at hx; subst hx; exact ⟨rfl, rfl⟩⟩, ?_⟩;conv=>whnf
 intro b_0 hs_0 hh_0 hf_0;try dsimp only at hh_0 hf_0
 conv=>whnf
 refine hK _ (wrs λK hK => ?_);conv=>whnf
 refine yT rfl (zki p none f (dg f - 1) (by omega) (by omega) (by omega)) ?_;rintro lo hi hi' z hl1 hl2 hl3 ⟨L, hL, rfl⟩ _;have hLf := hL.few;try dsimp only at hl1 hl2
 conv=>whnf
 refine hK _ (W.seqK λK1 hK1 => wrs λK hK => ?_);conv=>whnf
 refine hK _ (W.block (W.invA (λm e => ∃ (k : Nat) (P : List (Poly p)), k <= L.length ∧ Cut f (L.take k) P ∧ m = L.length - k ∧ e = [(0, .v (.int .i64 p)), (5, .v (vPs P)), (19, .v (vPs L)), (20, .v (.int .i64 L.length)), (21, .v (.int .i64 k))]) ⟨0, [f], Nat.zero_le _, Cut.start hm hd, rfl, rfl⟩ ?_));clear hK;clear hh_0 hf_0 hl1 hl2 hl3;rintro m e ⟨k, P, hk, hC, hm', rfl⟩;refine wrs λK hK => ?_;conv=>whnf
 refine hK _ ?_;clear hK;refine W.seqK λK7 hK7 => W.cond ⟨λh2 => ?_, λh2 => ?_⟩ <;> (first | replace h2 := of_decide_eq_true h2 | replace h2 := of_decide_eq_false h2)
 ·have h2 : k < L.length := by omega
  have hber := hL.ber _ (zha h2);have hPl := hC.parts.few hf0;have hC' : Cut f (L.take (k + 1)) (zE (L.getD k 0) P) := by rw [zka h2]; exact hC.next hber.1
  have hPl' := hC'.parts.few hf0;generalize hv : L.getD k 0 = v at *;refine W.skip (hK7 _ ?_);clear hK7;refine W.seqK λK8 hK8 => W.block ?_;refine wrs λK hK => ?_;conv=>whnf
  refine ⟨oo, ?_⟩;conv=>whnf
  have e1 : (λj => V.ints none (L.getD j 0).l) (k : Int).toNat = .ints none v.l := by rw [Int.toNat_natCast]; show V.ints none (L.getD k 0).l = _; rw [hv]
  rw [e1];conv=>whnf
  refine hK _ (wrs λK hK => ?_);conv=>whnf
  refine hK _ (W.seqK λK3 hK3 => wrs λK hK => ?_);conv=>whnf
  refine hK _ (W.block (W.invA (λm e => ∃ (j bf : Nat), j <= P.length ∧ m = P.length - j ∧ e = [(0, .v (.int .i64 p)), (8, .v (.ints none v.l)), (9, .ownV 22 1 bf (zE v (P.take j)).length λi => .ints none ((zE v (P.take j)).getD i 0).l), (19, .v (vPs L)), (20, .v (.int .i64 L.length)), (21, .v (.int .i64 k)), (25, .v (vPs P)), (26, .v (.int .i64 P.length)), (27, .v (.int .i64 j))]) ⟨0, 0, Nat.zero_le _, rfl, rfl⟩ ?_));clear hK;rintro m2 e ⟨j, bf, hj, hm2, rfl⟩;refine wrs λK hK => ?_;conv=>whnf
  refine hK _ ?_;clear hK;refine W.seqK λK7 hK7 => W.cond ⟨λh3 => ?_, λh3 => ?_⟩ <;> (first | replace h3 := of_decide_eq_true h3 | replace h3 := of_decide_eq_false h3)
  ·have h3 : j < P.length := by omega
   have hpart := hC.parts.each _ (zha h3);have hpd := zD hpart.2.2 hf0;generalize hpq : P.getD j 0 = part at hpart hpd;refine W.skip (hK7 _ ?_);clear hK7;refine W.seqK λK4 hK4 => W.block ?_;refine wrs λK hK => ?_;conv=>whnf
   refine ⟨oo, ?_⟩;conv=>whnf
   have e2 : (λj => V.ints none (P.getD j 0).l) (j : Int).toNat = .ints none part.l := by rw [Int.toNat_natCast]; show V.ints none (P.getD j 0).l = _; rw [hpq]
   rw [e2];conv=>whnf
   refine hK _ (wrs λK hK => ?_);conv=>whnf
   refine hK _ (W.block (W.invE (λm e => ∃ (a bf : Nat), a <= p.toNat ∧ m = p.toNat - a ∧ e = [(0, .v (.int .i64 p)), (8, .v (.ints none v.l)), (9, .ownV 22 1 bf (zE v (P.take j) ++ yP v part a).length λi => .ints none ((zE v (P.take j) ++ yP v part a).getD i 0).l), (11, .v (.ints none part.l)), (19, .v (vPs L)), (20, .v (.int .i64 L.length)), (21, .v (.int .i64 k)), (25, .v (vPs P)), (26, .v (.int .i64 P.length)), (27, .v (.int .i64 j)), (31, .v (.int .i64 p)), (32, .v (.int .i64 a))]) _ _ ⟨0, bf, Nat.zero_le _, rfl, rfl⟩ (by dsimp only; omega) (by
    have e3 : zE v (P.take j) ++ yP v part 0 = zE v (P.take j) := List.append_nil _;rw [e3]
    repeat' first | refine And.intro ?_ ?_ | exact trivial | rfl | omega | assumption | exact .inl rfl | exact λ_ _ => rfl) ?_))
   clear hK bf;rintro m3 e ⟨a, bf, ha, hm3, rfl⟩;refine wrs λK hK => ?_;conv=>whnf
   refine hK _ ?_;clear hK;refine W.seqK λK7 hK7 => W.cond ⟨λh4 => ?_, λh4 => ?_⟩ <;> (first | replace h4 := of_decide_eq_true h4 | replace h4 := of_decide_eq_false h4)
   ·have h4 : a < p.toNat := by omega
    have hlen := zmR v (P := P) (a := a) h3 (by omega);rw [hpq] at hlen;have hgd := zj8 part (v - con p (a : Int)) hpart.1.1
    have hsub : dg (v - con p (a : Int)) <= 1000 := by
     have := zdk v (con p (a : Int));have := jk (p := p) (a : Int);have := hber.2;omega
    have hvl : v.l.length = dg v := rfl;have hgl : (gcd part (v - con p (a : Int))).l.length = dg (gcd part (v - con p (a : Int))) := rfl
    have hb1 : Bd 97 [-(a : Int)] := λi => by
     cases i with
     | zero => rw [yt]; omega
     | succ i => rw [zA, yW]; omega
    refine W.skip (hK7 _ ?_);clear hK7;refine W.seqK λK5 hK5 => W.block ?_
    -- the end of the round
    have fin : ∀ (b' : Nat) (s : S), base <= s.hs -> zB s.env [(0, .v (.int .i64 p)), (8, .v (.ints none v.l)), (9, .ownV 22 1 b' (zE v (P.take j) ++ yP v part (a + 1)).length λi => .ints none ((zE v (P.take j) ++ yP v part (a + 1)).getD i 0).l), (11, .v (.ints none part.l)), (19, .v (vPs L)), (20, .v (.int .i64 L.length)), (21, .v (.int .i64 k)), (25, .v (vPs P)), (26, .v (.int .i64 P.length)), (27, .v (.int .i64 j)), (31, .v (.int .i64 p)), (32, .v (.int .i64 a))] -> K5 s := by
     intro b' s h5 h6;refine hK5 _ (W.weak (t := ⟨_, base⟩) ⟨h5, h6⟩ (Nat.le_refl _) ?_);refine wrg ?_;conv=>whnf
     refine ⟨oo, ?_⟩;conv=>whnf
     refine ⟨_, _, ⟨a + 1, b', by omega, rfl, rfl⟩, by omega, by dsimp only; omega, ?_⟩;exact cvr
    clear hK5;refine wrs λK hK => ?_;conv=>whnf
    refine hK _ (wrs λK hK => ?_);conv=>whnf
    refine ⟨oo, ?_⟩;conv=>whnf
    refine ⟨⟨rfl, by decide⟩, ?_⟩;conv=>whnf
    intro b_1 hs_1 hh_1 hf_1;try dsimp only at hh_1 hf_1
    conv=>whnf
    refine zv rfl (zlW none _ v.l [-(a : Int)] ((kM v).le (by omega)) (hb1.le (by omega)) (by have := hber.2; omega) (by simp)) λhs_2 b_2 hh_2 hf_2 => ?_;try dsimp only at hh_2 hf_2
    conv=>whnf
    refine zv rfl (zaa p (by omega) (by omega) _ (zx (kC v.l [-(a : Int)])) (Bd.trim λi => by rw [v7]; have := kM v i; have := hb1 i; omega) (Nat.le_trans (vh _) (by rw [kC, zT]; have := hber.2; simp; omega))) λhs_3 b_3 hh_3 hf_3 => ?_;try dsimp only at hh_3 hf_3
    conv=>whnf
    rw [zeU];refine zv rfl (zbQ p none _ part (v - con p (a : Int)) (by omega) hsub) λhs_4 b_4 hh_4 hf_4 => ?_;try dsimp only at hh_4 hf_4
    conv=>whnf
    refine hK _ (wrs λK hK => ?_);conv=>whnf
    rw [hgl];refine hK _ ?_;clear hK;refine W.cond ⟨λh5 => ?_, λh5 => ?_⟩
    ·have h5 := of_decide_eq_true h5;refine wrg ?_;conv=>whnf
     refine ⟨⟨rfl, by decide, λx hx => by simp at hx; subst hx; exact ⟨rfl, rfl⟩⟩, ?_⟩;conv=>whnf
     intro b_5 hs_5 hh_5 hf_5;try dsimp only at hh_5 hf_5
     conv=>whnf
     refine ⟨by omega, ?_⟩;conv=>whnf
     refine ⟨λi => .ints none ((zE v (P.take j) ++ yP v part a ++ [gcd part (v - con p (a : Int))]).getD i 0).l, λi hi => congrArg (λq : Poly p => V.ints none q.l) (zdU hi), λi hi => ?_, ?_⟩
     ·obtain rfl : i = 0 := by omega
      exact congrArg (λq : Poly p => V.ints none q.l) zdV
     intro b_6 hs_6 hh_6 hf_6;try dsimp only at hh_6 hf_6
     conv=>whnf
     refine fin b_6 _ (by dsimp only; omega) ?_
     have e4 : zE v (P.take j) ++ yP v part (a + 1) = zE v (P.take j) ++ yP v part a ++ [gcd part (v - con p (a : Int))] := by
      rw [jG, zef, if_pos (by omega), List.append_assoc]
     rw [e4, List.length_append (bs := [_])];exact cvr
    ·have h5 := of_decide_eq_false h5;refine W.skip (fin bf _ (by dsimp only; omega) ?_)
     have e4 : zE v (P.take j) ++ yP v part (a + 1) = zE v (P.take j) ++ yP v part a := by
      rw [jG, zef, if_neg (by omega), List.append_nil]
     rw [e4];exact cvr
   ·obtain rfl : a = p.toNat := by omega
    refine W.exit (hK4 _ ?_);clear hK7 hK4;refine wrg ?_;conv=>whnf
    refine ⟨oo, ?_⟩;conv=>whnf
    refine ⟨_, _, ⟨j + 1, bf, by omega, rfl, rfl⟩, by omega, by dsimp only; omega, ?_⟩;have e4 : zE v (P.take (j + 1)) = zE v (P.take j) ++ yP v part p.toNat := by rw [zcb v h3, hpq]
    rw [e4];exact cvr
  ·obtain rfl : j = P.length := by omega
   refine W.exit (hK3 _ ?_);clear hK7 hK3;rw [List.take_length];refine wrg ?_;conv=>whnf
   refine hK8 _ ?_;clear hK8;refine wrg ?_;conv=>whnf
   refine ⟨oo, ?_⟩;conv=>whnf
   refine ⟨_, _, ⟨k + 1, zE v P, by omega, hC', rfl, rfl⟩, by omega, by dsimp only; omega, ?_⟩;exact cvr
 ·obtain rfl : k = L.length := by omega
  rw [List.take_length] at hC;refine W.exit (hK1 _ ?_);clear hK7 hK1;refine wrs λK hK => ?_;conv=>whnf
  refine hK _ (W.ret ?_);conv=>whnf
  exact ⟨.v (vPs P), ⟨rfl, rfl, rfl, λ_ _ => rfl⟩, ⟨trivial, λ_ _ => trivial⟩, P, hC.done hf0 hs hL, rfl⟩


def vR (x y : Int) : Int := if x < y then -1 else if y < x then 1 else 0
def zag (f g : List Int) : Nat -> Int
 | 0 => 0
 | n + 1 => if cf f n < cf g n then -1 else if cf g n < cf f n then 1 else zag f g n
def vn (f g : List Int) : Int := if f.length < g.length then -1 else if g.length < f.length then 1 else zag f g f.length

theorem zmX {xs ys : List Int} (h : xs.length ≠ ys.length) : vn xs ys = vR xs.length ys.length := by
 unfold vn vR
 by_cases h1 : xs.length < ys.length
 ·rw [if_pos h1, if_pos (by omega)]
 ·rw [if_neg h1, if_pos (by omega), if_neg (by omega), if_pos (by omega)]

theorem zcg (x : Int) : FnV 247 [.int .i64 x] (.bool false) := by
 refine zf (za [0, 2]) Tryz.func247 rfl (by decide) Tryz.ntmps247 (lb rfl) λbase => ?_;refine wrs λK hK => ?_;conv=>whnf
 refine hK _ (wrs λK hK => ?_);conv=>whnf
 refine hK _ (W.ret ?_);conv=>whnf
 exact ⟨.v (.bool false), (decide_eq_false λh : x ≠ x => h rfl), trivial, rfl⟩
theorem zah (x : Int) : FnV 213 [.int .i64 x] (.bool false) := by
 refine zf (za [0, 2]) Tryz.func213 rfl (by decide) Tryz.ntmps213 (lb rfl) λbase => ?_;refine wrs λK hK => ?_;conv=>whnf
 refine hK _ (wrs λK hK => ?_);conv=>whnf
 refine hK _ (W.ret ?_);conv=>whnf
 exact ⟨.v (.bool false), (decide_eq_false λh : x ≠ x => h rfl), trivial, rfl⟩
theorem zei (x y : Int) : FnV 227 [.int .i64 x, .int .i64 y] (.int .i64 (vR x y)) := by
 refine zf (za [0, 1, 4, 5, 6, 11, 12, 13, 16, 19]) Tryz.func227 rfl (by decide) Tryz.ntmps227 (lb rfl) λbase => ?_;refine wrs λK hK => ?_;conv=>whnf
 refine hK _ (wrs λK hK => ?_);conv=>whnf
 refine zc rfl (zcg x) λhs' hhs => ?_;try dsimp only at hhs
 conv=>whnf
 refine hK _ (wrs λK hK => ?_);conv=>whnf
 refine zc rfl (zcg y) λhs' hhs => ?_;try dsimp only at hhs
 conv=>whnf
 refine hK _ (W.seqK λK1 hK1 => wrs λK hK => ?_);conv=>whnf
 refine hK _ (W.cond ⟨λh => absurd h (by decide), λ_ => W.skip (hK1 _ ?_)⟩);clear hK hK1;refine W.seqK λK1 hK1 => wrs λK hK => ?_;conv=>whnf
 refine hK _ (W.cond ⟨λh => absurd h (by decide), λ_ => W.skip (hK1 _ ?_)⟩);clear hK hK1;refine W.seqK λK1 hK1 => wrs λK hK => ?_;conv=>whnf
 refine hK _ (W.cond ⟨λh => ?_, λh => ?_⟩) <;> clear hK
 ·have h := of_decide_eq_true h;refine wrs λK hK => ?_;conv=>whnf
  refine hK _ (W.ret ?_);conv=>whnf
  exact ⟨.v (.int .i64 (vR x y)), ⟨rfl, by rw [vR, if_pos h]⟩, trivial, rfl⟩
 ·have h := of_decide_eq_false h;refine W.skip (hK1 _ ?_);clear hK1;refine W.seqK λK1 hK1 => wrs λK hK => ?_;conv=>whnf
  refine hK _ (W.cond ⟨λh2 => ?_, λh2 => ?_⟩) <;> clear hK
  ·have h2 := of_decide_eq_true h2;refine wrs λK hK => ?_;conv=>whnf
   refine hK _ (W.ret ?_);conv=>whnf
   exact ⟨.v (.int .i64 (vR x y)), ⟨rfl, by rw [vR, if_neg h, if_pos h2]⟩, trivial, rfl⟩
  ·have h2 := of_decide_eq_false h2;refine W.skip (hK1 _ ?_);clear hK1;refine wrs λK hK => ?_;conv=>whnf
   refine hK _ (W.ret ?_);conv=>whnf
   exact ⟨.v (.int .i64 (vR x y)), ⟨rfl, by rw [vR, if_neg h, if_neg h2]⟩, trivial, rfl⟩
theorem x9 (x y : Int) : FnV 178 [.int .i64 x, .int .i64 y] (.int .i64 (vR x y)) := by
 refine zf (za [0, 1, 4, 5, 6, 11, 12, 13, 16, 19]) Tryz.func178 rfl (by decide) Tryz.ntmps178 (lb rfl) λbase => ?_;refine wrs λK hK => ?_;conv=>whnf
 refine hK _ (wrs λK hK => ?_);conv=>whnf
 refine zc rfl (zah x) λhs' hhs => ?_;try dsimp only at hhs
 conv=>whnf
 refine hK _ (wrs λK hK => ?_);conv=>whnf
 refine zc rfl (zah y) λhs' hhs => ?_;try dsimp only at hhs
 conv=>whnf
 refine hK _ (W.seqK λK1 hK1 => wrs λK hK => ?_);conv=>whnf
 refine hK _ (W.cond ⟨λh => absurd h (by decide), λ_ => W.skip (hK1 _ ?_)⟩);clear hK hK1;refine W.seqK λK1 hK1 => wrs λK hK => ?_;conv=>whnf
 refine hK _ (W.cond ⟨λh => absurd h (by decide), λ_ => W.skip (hK1 _ ?_)⟩);clear hK hK1;refine W.seqK λK1 hK1 => wrs λK hK => ?_;conv=>whnf
 refine hK _ (W.cond ⟨λh => ?_, λh => ?_⟩) <;> clear hK
 ·have h := of_decide_eq_true h;refine wrs λK hK => ?_;conv=>whnf
  refine hK _ (W.ret ?_);conv=>whnf
  exact ⟨.v (.int .i64 (vR x y)), ⟨rfl, by rw [vR, if_pos h]⟩, trivial, rfl⟩
 ·have h := of_decide_eq_false h;refine W.skip (hK1 _ ?_);clear hK1;refine W.seqK λK1 hK1 => wrs λK hK => ?_;conv=>whnf
  refine hK _ (W.cond ⟨λh2 => ?_, λh2 => ?_⟩) <;> clear hK
  ·have h2 := of_decide_eq_true h2;refine wrs λK hK => ?_;conv=>whnf
   refine hK _ (W.ret ?_);conv=>whnf
   exact ⟨.v (.int .i64 (vR x y)), ⟨rfl, by rw [vR, if_neg h, if_pos h2]⟩, trivial, rfl⟩
  ·have h2 := of_decide_eq_false h2;refine W.skip (hK1 _ ?_);clear hK1;refine wrs λK hK => ?_;conv=>whnf
   refine hK _ (W.ret ?_);conv=>whnf
   exact ⟨.v (.int .i64 (vR x y)), ⟨rfl, by rw [vR, if_neg h, if_neg h2]⟩, trivial, rfl⟩
theorem kd (g g' : Option Nat) (xs ys : List Int) (hx : xs.length <= 1000000) (_ : ys.length <= 1000000) : FnV 211 [.ints g xs, .ints g' ys] (.int .i64 (vn xs ys)) := by
 refine zf (za [0, 1, 4, 5, 10, 20, 31]) Tryz.func211 rfl (by decide) Tryz.ntmps211 (lb rfl) λbase => ?_;refine wrs λK hK => ?_;conv=>whnf
 refine hK _ (W.seqK λK1 hK1 => wrs λK hK => ?_);conv=>whnf
 refine hK _ (W.cond ⟨λh => ?_, λh => ?_⟩) <;> clear hK
 ·have h := of_decide_eq_true h;refine wrs λK hK => ?_;conv=>whnf
  refine zc rfl (zei xs.length ys.length) λhs' hhs => ?_;try dsimp only at hhs
  conv=>whnf
  refine hK _ ?_;clear hK;have h' : xs.length ≠ ys.length := λe => h (by rw [e]);refine W.ret ?_;conv=>whnf
  exact ⟨.v (.int .i64 (vn xs ys)), ⟨rfl, (zmX h').symm⟩, trivial, rfl⟩
 ·have h := of_decide_eq_false h;have h' : xs.length = ys.length := by omega
  refine W.skip (hK1 _ ?_);clear hK1;refine W.seqK λK1 hK1 => wrs λK hK => ?_;conv=>whnf
  refine ⟨oo, ?_⟩;conv=>whnf
  refine hK _ (W.block (W.invA (λm e => ∃ n : Nat, n <= xs.length ∧ vn xs ys = zag xs ys n ∧ m = n ∧ e = [(0, .v (.ints g xs)), (1, .v (.ints g' ys)), (5, .v (.int .i64 ((n : Int) - 1)))]) ⟨xs.length, Nat.le_refl _, by unfold vn; rw [if_neg (by omega), if_neg (by omega)], rfl, rfl⟩ ?_));clear hK;rintro m e ⟨n, h1, h2, hm, rfl⟩;refine W.seqK λK7 hK7 => wrs λK hK => ?_;conv=>whnf
  refine hK _ (W.cond ⟨λh3 => ?_, λh3 => ?_⟩) <;> clear hK <;> (first | replace h3 := of_decide_eq_true h3 | replace h3 := of_decide_eq_false h3)
  ·obtain ⟨k, rfl⟩ : ∃ k, n = k + 1 := ⟨n - 1, by omega⟩
   have ek : (((k + 1 : Nat) : Int) - 1) = (k : Int) := by omega
   rw [ek];refine W.skip (hK7 _ ?_);clear hK7;refine W.seqK λK8 hK8 => W.block ?_;refine W.rd (za _) follows (by rfl) λK hK => ?_;conv=>whnf
   refine ⟨oo, ?_⟩;conv=>whnf
   refine ⟨oo, ?_⟩;conv=>whnf
   rw [Int.toNat_natCast];refine hK _ (W.cond ⟨λh4 => ?_, λh4 => ?_⟩) <;> clear hK
   ·have h4 : cf xs k ≠ cf ys k := of_decide_eq_true h4;refine W.rd (za _) follows (by rfl) λK hK => ?_;conv=>whnf
    refine ⟨oo, ?_⟩;conv=>whnf
    refine ⟨oo, ?_⟩;conv=>whnf
    rw [Int.toNat_natCast];refine ⟨_, cxF (x9 (cf xs k) (cf ys k)), ?_⟩;conv=>whnf
    refine hK _ (W.ret ?_);conv=>whnf
    exact ⟨.v (.int .i64 (vn xs ys)), ⟨rfl, by rw [h2]; unfold zag vR; by_cases h5 : cf xs k < cf ys k <;> by_cases h6 : cf ys k < cf xs k <;> first | omega | simp [h5, h6]⟩, trivial, rfl⟩
   ·have h4 : ¬ cf xs k ≠ cf ys k := of_decide_eq_false h4;refine W.skip (hK8 _ ?_);clear hK8;refine wrg ?_;conv=>whnf
    refine ⟨oo, ?_⟩;conv=>whnf
    exact ze ⟨k, by omega, by rw [h2]; exact (if_neg (by omega)).trans (if_neg (by omega)), rfl, rfl⟩
  ·obtain rfl : n = 0 := by omega
   refine W.exit (hK1 _ ?_);clear hK7 hK1;refine wrs λK hK => ?_;conv=>whnf
   refine hK _ (W.ret ?_);conv=>whnf
   exact ⟨.v (.int .i64 (vn xs ys)), ⟨rfl, h2.symm⟩, trivial, rfl⟩

theorem zej (g g' : Option Nat) (xs ys : List Int) (hx : xs.length <= 1000000) (_ : ys.length <= 1000000) : FnV 252 [.ints g xs, .ints g' ys] (.int .i64 (vn xs ys)) := by
 refine zf (za [0, 1, 4, 5, 6, 12, 22, 25, 35]) Tryz.func252 rfl (by decide) Tryz.ntmps252 (lb rfl) λbase => ?_;refine wrs λK hK => ?_;conv=>whnf
 refine hK _ ?_;clear hK;refine W.seqK λK1 hK1 => W.block (wrs λK hK => ?_);conv=>whnf
 refine hK _ (W.cond ⟨λh => ?_, λh => ?_⟩) <;> clear hK
 ·have h := of_decide_eq_true h;refine wrs λK hK => ?_;conv=>whnf
  refine hK _ (W.ret ?_);conv=>whnf
  exact ⟨.v (.int .i64 (vn xs ys)), ⟨rfl, by unfold vn; rw [if_pos (by omega)]⟩, trivial, rfl⟩
 have h := of_decide_eq_false h;refine wrs λK hK => ?_;conv=>whnf
 refine hK _ (W.cond ⟨λh' => ?_, λh' => ?_⟩) <;> clear hK
 ·have h' := of_decide_eq_true h';refine wrs λK hK => ?_;conv=>whnf
  refine hK _ (W.ret ?_);conv=>whnf
  exact ⟨.v (.int .i64 (vn xs ys)), ⟨rfl, by unfold vn; rw [if_neg (by omega), if_pos (by omega)]⟩, trivial, rfl⟩
 have h' := of_decide_eq_false h';refine W.skip (hK1 _ ?_);clear hK1;refine W.seqK λK1 hK1 => wrs λK hK => ?_;conv=>whnf
 refine ⟨oo, ?_⟩;conv=>whnf
 refine hK _ (W.block (W.invA (λm e => ∃ n : Nat, n <= xs.length ∧ vn xs ys = zag xs ys n ∧ m = n ∧ e = [(0, .v (.ints g xs)), (1, .v (.ints g' ys)), (5, .v (.int .i64 ((n : Int) - 1)))]) ⟨xs.length, Nat.le_refl _, by unfold vn; rw [if_neg (by omega), if_neg (by omega)], rfl, rfl⟩ ?_));clear hK;rintro m e ⟨n, h1, h2, hm, rfl⟩;refine W.seqK λK7 hK7 => wrs λK hK => ?_;conv=>whnf
 refine hK _ (W.cond ⟨λh3 => ?_, λh3 => ?_⟩) <;> clear hK <;> (first | replace h3 := of_decide_eq_true h3 | replace h3 := of_decide_eq_false h3)
 ·obtain ⟨k, rfl⟩ : ∃ k, n = k + 1 := ⟨n - 1, by omega⟩
  have ek : (((k + 1 : Nat) : Int) - 1) = (k : Int) := by omega
  rw [ek];refine W.skip (hK7 _ ?_);clear hK7;refine W.seqK λK8 hK8 => W.block ?_;refine W.block ?_;refine W.rd (za _) follows (by rfl) λK hK => ?_;conv=>whnf
  refine ⟨oo, ?_⟩;conv=>whnf
  refine ⟨oo, ?_⟩;conv=>whnf
  rw [Int.toNat_natCast];refine hK _ (W.cond ⟨λh4 => ?_, λh4 => ?_⟩) <;> clear hK
  ·have h4 : cf xs k < cf ys k := of_decide_eq_true h4;refine wrs λK hK => ?_;conv=>whnf
   refine hK _ (W.ret ?_);conv=>whnf
   exact ⟨.v (.int .i64 (vn xs ys)), ⟨rfl, by rw [h2]; unfold zag; rw [if_pos h4]⟩, trivial, rfl⟩
  have h4 : ¬ cf xs k < cf ys k := of_decide_eq_false h4;refine W.rd (za _) follows (by rfl) λK hK => ?_;conv=>whnf
  refine ⟨oo, ?_⟩;conv=>whnf
  refine ⟨oo, ?_⟩;conv=>whnf
  rw [Int.toNat_natCast];refine hK _ (W.cond ⟨λh5 => ?_, λh5 => ?_⟩) <;> clear hK
  ·have h5 : cf ys k < cf xs k := of_decide_eq_true h5;refine wrs λK hK => ?_;conv=>whnf
   refine hK _ (W.ret ?_);conv=>whnf
   exact ⟨.v (.int .i64 (vn xs ys)), ⟨rfl, by rw [h2]; unfold zag; rw [if_neg h4, if_pos h5]⟩, trivial, rfl⟩
  have h5 : ¬ cf ys k < cf xs k := of_decide_eq_false h5;refine W.skip (hK8 _ ?_);clear hK8;refine wrg ?_;conv=>whnf
  refine ⟨oo, ?_⟩;conv=>whnf
  exact ze ⟨k, by omega, by rw [h2]; exact (if_neg (by omega)).trans (if_neg (by omega)), rfl, rfl⟩
 ·obtain rfl : n = 0 := by omega
  refine W.exit (hK1 _ ?_);clear hK7 hK1;refine wrs λK hK => ?_;conv=>whnf
  refine hK _ (W.ret ?_);conv=>whnf
  exact ⟨.v (.int .i64 (vn xs ys)), ⟨rfl, h2.symm⟩, trivial, rfl⟩

theorem zhs {f g : List Int} : ∀ n, zag f g n < 0 ↔ ∃ i, i < n ∧ cf f i < cf g i ∧ ∀ j, i < j -> j < n -> cf f j = cf g j
 | 0 => ⟨λh => by simp [zag] at h, λ⟨i, h, _⟩ => by omega⟩
 | n + 1 => by
  unfold zag
  by_cases h1 : cf f n < cf g n
  ·rw [if_pos h1];exact ⟨λ_ => ⟨n, by omega, h1, λj h2 h3 => by omega⟩, λ_ => by omega⟩
  ·rw [if_neg h1]
   by_cases h2 : cf g n < cf f n
   ·rw [if_pos h2];refine ⟨λh => by omega, λ⟨i, h3, h4, h5⟩ => ?_⟩
    by_cases hi : i = n
    ·subst hi; omega
    ·have := h5 n (by omega) (by omega); omega
   ·rw [if_neg h2, zhs n]
    constructor
    ·rintro ⟨i, h3, h4, h5⟩;refine ⟨i, by omega, h4, λj h6 h7 => ?_⟩
     by_cases hj : j = n
     ·subst hj; omega
     ·exact h5 j h6 (by omega)
    ·rintro ⟨i, h3, h4, h5⟩
     by_cases hi : i = n
     ·subst hi; omega
     ·exact ⟨i, by omega, h4, λj h6 h7 => h5 j h6 (by omega)⟩
theorem zcE {p : Int} [SP p] (f g : Poly p) : vn f.l g.l < 0 ↔ ltP f g := by
 have hf : f.l.length = dg f := rfl;have hg : g.l.length = dg g := rfl;unfold vn ltP
 by_cases h1 : f.l.length < g.l.length
 ·rw [if_pos h1]; exact ⟨λ_ => .inl h1, λ_ => by omega⟩
 ·rw [if_neg h1]
  by_cases h2 : g.l.length < f.l.length
  ·rw [if_pos h2]; exact ⟨λh => by omega, λh => by omega⟩
  ·rw [if_neg h2, zhs];have he : ∀ j, f.l.length <= j -> cf f.l j = cf g.l j := λj hj => by rw [z1 hj, z1 (by omega)]
   constructor
   ·rintro ⟨i, h3, h4, h5⟩
    exact .inr ⟨by omega, i, h4, λj hj => by
     by_cases h6 : j < f.l.length
     ·exact h5 j hj h6
     ·exact he j (by omega)⟩
   ·rintro (h | ⟨_, i, h4, h5⟩)
    ·omega
    ·refine ⟨i, ?_, h4, λj hj _ => h5 j hj⟩
     by_cases h6 : i < f.l.length
     ·exact h6
     ·have := he i (by omega); omega


variable {p : Int} [SP p]
def vF (x : Poly p × Nat) : V := .agg [.ints none x.1.l, .int .i64 (x.2 : Int)]

structure Mix (n : Nat) (h0 h : Nat -> Poly p × Nat) : Prop where
 mem : ∀ x, (∃ i, i < n ∧ h i = x) ↔ (∃ i, i < n ∧ h0 i = x)
 dis : ∀ i j, i < n -> j < n -> (h i).1 = (h j).1 -> i = j
def jb (h : Nat -> Poly p × Nat) (a b : Nat) : Nat -> Poly p × Nat := λj => if j = a then h b else if j = b then h a else h j
theorem zfR {p : Int} (h : Nat -> Poly p × Nat) (a b : Nat) : jb h a b a = h b := if_pos rfl
theorem zjm {p : Int} (h : Nat -> Poly p × Nat) (a b : Nat) : jb h a b b = h a := by
 unfold jb
 by_cases e : b = a
 ·rw [if_pos e, e]
 ·rw [if_neg e, if_pos rfl]
theorem zbe {p : Int} {h : Nat -> Poly p × Nat} {a b j : Nat} (h1 : j ≠ a) (h2 : j ≠ b) : jb h a b j = h j := by
 unfold jb; rw [if_neg h1, if_neg h2]
def trp (a b j : Nat) : Nat := if j = a then b else if j = b then a else j
theorem zbf {p : Int} (h : Nat -> Poly p × Nat) (a b j : Nat) : jb h a b j = h (trp a b j) := by
 unfold jb trp; split
 ·rfl
 ·split <;> rfl
theorem zfS (a b j : Nat) : trp a b (trp a b j) = j := by
 unfold trp
 by_cases h1 : j = a
 ·rw [if_pos h1]; by_cases h2 : b = a
  ·rw [if_pos h2, h2, h1]
  ·rw [if_neg h2, if_pos rfl, h1]
 ·rw [if_neg h1]; by_cases h2 : j = b
  ·rw [if_pos h2, if_pos rfl, h2]
  ·rw [if_neg h2, if_neg h1, if_neg h2]
theorem zfT {a b j n : Nat} (ha : a < n) (hb : b < n) (hj : j < n) : trp a b j < n := by
 unfold trp; split
 ·exact hb
 ·split <;> assumption
theorem Mix.swap {p : Int} {n : Nat} {h0 h : Nat -> Poly p × Nat} (m : Mix n h0 h) {a b : Nat} (ha : a < n) (hb : b < n) : Mix n h0 (jb h a b) := by
 refine ⟨λx => Iff.trans ⟨?_, ?_⟩ (m.mem x), λi j hi hj e => ?_⟩
 ·rintro ⟨i, hi, e⟩; rw [zbf] at e; exact ⟨_, zfT ha hb hi, e⟩
 ·rintro ⟨i, hi, e⟩; exact ⟨trp a b i, zfT ha hb hi, by rw [zbf, zfS]; exact e⟩
 ·rw [zbf, zbf] at e;have := m.dis _ _ (zfT ha hb hi) (zfT ha hb hj) e;have := congrArg (trp a b) this
  rwa [zfS, zfS] at this
def Ord (h : Nat -> Poly p × Nat) (i : Nat) : Prop := ∀ x y, x < y -> y < i -> ltP (h x).1 (h y).1
def zfU (h : Nat -> Poly p × Nat) (i j : Nat) : Prop := (∀ x y, x < y -> y <= i -> x ≠ j -> y ≠ j -> ltP (h x).1 (h y).1) ∧ ∀ y, j < y -> y <= i -> ltP (h j).1 (h y).1
theorem zfU.start {p : Int} {h : Nat -> Poly p × Nat} {i : Nat} (o : Ord h i) : zfU h i i := ⟨λx y h1 h2 h3 h4 => o x y h1 (by omega), λy h1 h2 => by omega⟩
theorem zfU.step {p : Int} {h : Nat -> Poly p × Nat} {i j : Nat} (o : zfU h i (j + 1)) (hj : j + 1 <= i) (hl : ltP (h (j + 1)).1 (h j).1) : zfU (jb h (j + 1) j) i j := by
 refine ⟨λx y h1 h2 h3 h4 => ?_, λy h1 h2 => ?_⟩
 ·by_cases hx : x = j + 1
  ·subst hx;rw [zfR, zbe (by omega) (by omega)];exact o.1 j y (by omega) h2 (by omega) (by omega)
  ·rw [zbe hx h3]
   by_cases hy : y = j + 1
   ·subst hy; rw [zfR]; exact o.1 x j (by omega) (by omega) (by omega) (by omega)
   ·rw [zbe hy h4]; exact o.1 x y h1 h2 hx hy
 ·rw [zjm]
  by_cases hy : y = j + 1
  ·subst hy; rw [zfR]; exact hl
  ·rw [zbe hy (by omega)]; exact o.2 y (by omega) h2
theorem zfU.fin {p : Int} {n : Nat} {h0 h : Nat -> Poly p × Nat} (m : Mix n h0 h) {i j : Nat} (hi : i < n) (hj : j <= i) (o : zfU h i j) (hs : j = 0 ∨ ∃ k, j = k + 1 ∧ ¬ ltP (h j).1 (h k).1) : Ord h (i + 1) := by
 intro x y h1 h2
 by_cases hx : x = j
 ·subst hx; exact o.2 y h1 (by omega)
 ·by_cases hy : y = j
  ·subst hy;obtain ⟨k, rfl, hk⟩ := hs.resolve_left (by omega);have hlt : ltP (h k).1 (h (k + 1)).1 := (zeQ λe => by have := m.dis _ _ (by omega) (by omega) e; omega).resolve_left hk
   by_cases hxk : x = k
   ·subst hxk; exact hlt
   ·exact zbH (o.1 x k (by omega) (by omega) (by omega) (by omega)) hlt
  ·exact o.1 x y h1 (by omega) hx hy

theorem zkj {p : Int} (x y : Poly p × Nat) (hx : dg x.1 <= 1000000) (hy : dg y.1 <= 1000000) : FnV 210 [vF x, vF y] (.int .i64 (vn x.1.l y.1.l)) := by
 refine zf (za [0, 1, 2, 3, 4]) Tryz.func210 rfl (by decide) Tryz.ntmps210 (lb rfl) λbase => ?_;refine wrs λK hK => ?_;conv=>whnf
 refine ⟨rfl, ?_⟩;conv=>whnf
 intro b_1 hs_1 hh_1 hf_1;try dsimp only at hh_1 hf_1
 conv=>whnf
 refine ⟨rfl, ?_⟩;conv=>whnf
 intro b_2 hs_2 hh_2 hf_2;try dsimp only at hh_2 hf_2
 conv=>whnf
 refine hK _ (wrs λK hK => ?_);conv=>whnf
 refine zc rfl (kd none none x.1.l y.1.l hx hy) λhs' hhs => ?_;conv=>whnf
 refine hK _ (W.ret ?_);conv=>whnf
 exact ⟨.v (.int .i64 (vn x.1.l y.1.l)), ⟨rfl, rfl⟩, trivial, rfl⟩

theorem zbR (bk n : Nat) (h0 : Nat -> Poly p × Nat) (hn : n <= 1000000) (hd : ∀ i, i < n -> dg (h0 i).1 <= 1000000) (hdis : ∀ i j, i < n -> j < n -> (h0 i).1 = (h0 j).1 -> i = j) :
  MFn Tryz.prog 237 [.nil, .int .i64 0, .int .i64 n, .func 210 []] 0 (.ownV 145 2 bk n λj => vF (h0 j)) .dead
   (λ_ av x' t' => av = .v (.tup []) ∧ t' = .dead ∧ ∃ h : Nat -> Poly p × Nat, Mix n h0 h ∧ Ord h n ∧ x' = .ownV 145 2 bk n λj => vF (h j)) := by
 refine zbE (cx := cx [0, 1, 2, 3, 8, 9, 14, 34, 1000000, 1000001]) Tryz.func237 rfl (by decide) Tryz.ntmps237 (lb rfl) (lb rfl) rfl rfl λbase hs0 O U hw v0 hb0 => ?_;refine wrs λK hK => ?_;conv=>whnf
 refine ⟨by decide, ?_⟩;conv=>whnf
 refine hK _ (W.block (W.invH hs0 hb0 (λm e => ∃ (i : Nat) (h : Nat -> Poly p × Nat), 1 <= i ∧ i <= n + 1 ∧ Mix n h0 h ∧ Ord h i ∧ m = n + 1 - i ∧ e = [(0, .ownV 145 2 bk n λj => vF (h j)), (1, .v (.int .i64 0)), (2, .v (.int .i64 n)), (3, .v (.func 210 [])), (8, .v (.int .i64 i)), (vt, .dead), (vk, .keep O U hw 0 v0)]) _ _ (⟨1, h0, by omega, by omega, ⟨λ_ => Iff.rfl, hdis⟩, λx y h1 h2 => by omega, rfl, rfl⟩) (by dsimp only; omega) (by repeat' first | refine And.intro ?_ ?_ | exact trivial | rfl | omega | exact .inl rfl | exact λ_ _ => rfl | exact λ_ _ h => h | assumption | exact λi hi => (by obtain rfl : i = 0 := (by omega); rfl)) ?_));clear hK;rintro m e ⟨i, h, hi1, hi2, hM, hO, hm, rfl⟩;refine W.seqK λK7 hK7 => wrs λK hK => ?_;conv=>whnf
 refine hK _ (W.cond ⟨λh3 => ?_, λh3 => ?_⟩) <;> clear hK <;> (first | replace h3 := of_decide_eq_true h3 | replace h3 := of_decide_eq_false h3)
 ·have h3 : i < n := by omega
  refine W.skip (hK7 _ ?_);clear hK7;refine W.seqK λK8 hK8 => W.block ?_;refine wrs λK hK => ?_;conv=>whnf
  refine hK _ (W.block (W.invH hs0 hb0 (λm e => ∃ (j : Nat) (h : Nat -> Poly p × Nat), j <= i ∧ Mix n h0 h ∧ zfU h i j ∧ m = j ∧ e = [(0, .ownV 145 2 bk n λj => vF (h j)), (1, .v (.int .i64 0)), (2, .v (.int .i64 n)), (3, .v (.func 210 [])), (8, .v (.int .i64 i)), (9, .v (.int .i64 j)), (vt, .dead), (vk, .keep O U hw 0 v0)]) _ _ (⟨i, h, by omega, hM, zfU.start hO, rfl, rfl⟩) (by dsimp only; omega) (by repeat' first | refine And.intro ?_ ?_ | exact trivial | rfl | omega | exact .inl rfl | exact λ_ _ => rfl | exact λ_ _ h => h | assumption | exact λi hi => (by obtain rfl : i = 0 := (by omega); rfl)) ?_));clear hK;clear hM hO h;rintro m' e ⟨j, h, hj, hM, hO, hm', rfl⟩
  -- the end of the inner loop
  have fin : (j = 0 ∨ ∃ k, j = k + 1 ∧ ¬ ltP (h j).1 (h k).1) -> ∀ s : S, hs0 <= s.hs -> zB s.env [(0, .ownV 145 2 bk n λj => vF (h j)), (1, .v (.int .i64 0)), (2, .v (.int .i64 n)), (3, .v (.func 210 [])), (8, .v (.int .i64 i)), (vt, .dead), (vk, .keep O U hw 0 v0)] -> K8 s := by
   intro h4 s h5 h6;refine hK8 _ (W.weak (t := ⟨[(0, .ownV 145 2 bk n λj => vF (h j)), (1, .v (.int .i64 0)), (2, .v (.int .i64 n)), (3, .v (.func 210 [])), (8, .v (.int .i64 i)), (vt, .dead), (vk, .keep O U hw 0 v0)], hs0⟩) ⟨h5, h6⟩ hb0 ?_);clear hK8;refine wrg ?_;conv=>whnf
   refine ⟨oo, ?_⟩;conv=>whnf
   exact ze ⟨i + 1, h, by omega, by omega, hM, hO.fin hM h3 hj h4, rfl, rfl⟩
  clear hK8;refine W.seqK λK7 hK7 => ?_;refine W.rd (za _) follows (by rfl) λK hK => ?_;conv=>whnf
  rcases Nat.eq_zero_or_pos j with rfl | hj0
  ·have e0 : decide (0 < ((0 : Nat) : Int)) = false := by decide
   rw [e0];conv=>whnf
   refine ⟨rfl, ?_⟩;conv=>whnf
   refine hK _ (W.cond ⟨λh => absurd h (by decide), λ_ => W.exit (fin (.inl rfl) _ (by dsimp only; omega) ?_)⟩);clear fin hK hK7;exact cvr
  ·obtain ⟨k, rfl⟩ : ∃ k, j = k + 1 := ⟨j - 1, by omega⟩
   have e0 : decide (0 < ((k + 1 : Nat) : Int)) = true := decide_eq_true (by omega);rw [e0];conv=>whnf
   refine ⟨oo, ?_⟩;conv=>whnf
   refine ⟨oo, ?_⟩;conv=>whnf
   refine ⟨oo, ?_⟩;conv=>whnf
   have ek : (((k + 1 : Nat) : Int) - 1) = (k : Int) := by omega
   rw [ek, Int.toNat_natCast, Int.toNat_natCast]
   have hb : ∀ i, i < n -> dg (h i).1 <= 1000000 := λi hi => by
    obtain ⟨i', h1, h2⟩ := (hM.mem (h i)).1 ⟨i, hi, rfl⟩;rw [<- h2]; exact hd i' h1
   refine ⟨_, cxF (zkj (h (k + 1)) (h k) (hb _ (by omega)) (hb _ (by omega))), ?_⟩;conv=>whnf
   refine hK _ (W.cond ⟨λh4 => ?_, λh4 => ?_⟩) <;> clear hK
   ·have h4 : vn (h (k + 1)).1.l (h k).1.l < 0 := of_decide_eq_true h4;have h4 := (zcE _ _).1 h4;clear fin;refine W.skip (hK7 _ ?_);clear hK7;refine W.seqK λK8 hK8 => W.block ?_;refine W.draw (za _) follows (by rfl) ?_;conv=>whnf
    refine ⟨oo, ?_⟩;conv=>whnf
    refine ⟨oo, ?_⟩;conv=>whnf
    refine ⟨oo, ?_⟩;conv=>whnf
    rw [ek, Int.toNat_natCast];refine ⟨oo, ?_⟩;conv=>whnf
    rw [Int.toNat_natCast];refine ⟨oo, ?_⟩;conv=>whnf
    refine ⟨⟨by show 0 + 2 <= 2; omega, rfl⟩, λj => vF (if j = k + 1 then h k else h j), by show vF (if k + 1 = k + 1 then h k else h (k + 1)) = _; rw [if_pos rfl]; rfl, λj _ hj => by show vF (if j = k + 1 then h k else h j) = _; rw [if_neg hj], ?_⟩;conv=>whnf
    refine ⟨oo, ?_⟩;conv=>whnf
    rw [Int.toNat_natCast];refine ⟨⟨by show 0 + 2 <= 2; omega, rfl⟩, λj => vF (jb h (k + 1) k j), by show vF (jb h (k + 1) k k) = _; rw [zjm]; rfl, λj _ hj => by show vF (jb h (k + 1) k j) = vF (if j = k + 1 then h k else h j); unfold jb; by_cases h5 : j = k + 1 <;> simp [h5, hj], ?_⟩;conv=>whnf
    refine hK8 _ ?_;clear hK8;refine wrg ?_;conv=>whnf
    refine ⟨oo, ?_⟩;conv=>whnf
    exact ze ⟨k, jb h (k + 1) k, by omega, hM.swap (by omega) (by omega), hO.step hj h4, rfl, rfl⟩
   ·have h4 : ¬ vn (h (k + 1)).1.l (h k).1.l < 0 := of_decide_eq_false h4;refine W.exit (fin (.inr ⟨k, rfl, λe => h4 ((zcE _ _).2 e)⟩) _ (by dsimp only; omega) ?_);clear fin hK7;exact cvr
 ·have hin : n <= i := by omega
  refine W.exit ?_;conv=>whnf
  refine ⟨by dsimp only; omega, ?_⟩;conv=>whnf
  refine ⟨.ownV 145 2 bk n λj => vF (h j), ⟨rfl, rfl, rfl, rfl, λ_ _ => rfl⟩, .inr ⟨rfl, rfl⟩, .dead, trivial, rfl, rfl, rfl, rfl, h, hM, λx y h1 h2 => hO x y h1 (by omega), rfl⟩

end Go.Proofs.YtffhmebkkbfaeaaGreat
