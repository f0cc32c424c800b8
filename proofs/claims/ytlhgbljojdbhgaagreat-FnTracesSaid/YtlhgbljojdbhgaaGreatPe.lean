/- What the program's functions and the reference's return. No conditions. -/
import Derived.Test.YtlhgbljojdbhgaaGreatPd
import Derived.Test.YtlhgbljojdbhgaaGreatProg
namespace Go.Proofs.YtlhgbljojdbhgaaGreat
open Go Go.RowKit Go.Proofs

def tt : TT := [(2, tiInt),
 (3, tiInt),
 (143, tiUint),
 (50, tiUint),
 (4, tiBool),
 (24, tiSlice 2),
 (59, tiSlice 24),
 (5, tiU8),
 (22, tiSlice 5),
 (262, tiSlice 3),
 (271, tiSlice 4),
 (75, tiStruct [(0, 24), (1, 2)] 32 [.nil, .int .i64 0]),
 (66, tiSlice 75),
 (84, tiStruct [(0, 2), (1, 2)] 16 [.int .i64 0, .int .i64 0]),
 (26, tiStruct [(0, 2), (1, 24)] 32 [.int .i64 0, .nil]),
 (92, tiStruct [(0, 84), (2, 24)] 40 [.int .i64 0, .int .i64 0, .nil]),
 (153, tiStruct [(0, 2), (1, 2)] 16 [.int .i64 0, .int .i64 0]),
 (150, tiSlice 153),
 (231, tiStruct [(0, 2), (1, 2)] 16 [.int .i64 0, .int .i64 0]),
 (228, tiSlice 231),
 (200, tiStruct [(0, 2), (1, 2), (2, 2)] 24 [.int .i64 0, .int .i64 0, .int .i64 0]),
 (201, tiSlice 200),
 (113, tiStruct [(0, 2), (1, 2), (2, 2)] 24 [.int .i64 0, .int .i64 0, .int .i64 0]),
 (104, tiSlice 113),
 (208, tiStruct [(0, 22), (1, 3), (2, 2)] 40 [.nil, .int .i64 0, .int .i64 0]),
 (142, tiStruct [(0, 22), (1, 3), (2, 50)] 40 [.nil, .int .i64 0, .int .u64 0])]
theorem tt_ok : okTT Tryz.prog tt :=
  ⟨okTI_int (by kernel_rfl) Tryz.underlying2,
   okTI_int (by kernel_rfl) Tryz.underlying3,
   okTI_uint (by kernel_rfl) Tryz.underlying143,
   okTI_uint (by kernel_rfl) Tryz.underlying50,
   okTI_bool (by kernel_rfl) Tryz.underlying4,
   okTI_slice (by kernel_rfl) Tryz.underlying24,
   okTI_slice (by kernel_rfl) Tryz.underlying59,
   okTI_u8 (by kernel_rfl) Tryz.underlying5,
   okTI_slice (by kernel_rfl) Tryz.underlying22,
   okTI_slice (by kernel_rfl) Tryz.underlying262,
   okTI_slice (by kernel_rfl) Tryz.underlying271,
   okTI_struct (by kernel_rfl) Tryz.underlying75 rfl (by kernel_rfl) (by decide) (by decide) rfl,
   okTI_slice (by kernel_rfl) Tryz.underlying66,
   okTI_struct (by kernel_rfl) Tryz.underlying84 rfl (by kernel_rfl) (by decide) (by decide) rfl,
   okTI_struct (by kernel_rfl) Tryz.underlying26 rfl (by kernel_rfl) (by decide) (by decide) rfl,
   okTI_struct (by kernel_rfl) Tryz.underlying92 rfl (by kernel_rfl) (by decide) (by decide) rfl,
   okTI_struct (by kernel_rfl) Tryz.underlying153 rfl (by kernel_rfl) (by decide) (by decide) rfl,
   okTI_slice (by kernel_rfl) Tryz.underlying150,
   okTI_struct (by kernel_rfl) Tryz.underlying231 rfl (by kernel_rfl) (by decide) (by decide) rfl,
   okTI_slice (by kernel_rfl) Tryz.underlying228,
   okTI_struct (by kernel_rfl) Tryz.underlying200 rfl (by kernel_rfl) (by decide) (by decide) rfl,
   okTI_slice (by kernel_rfl) Tryz.underlying201,
   okTI_struct (by kernel_rfl) Tryz.underlying113 rfl (by kernel_rfl) (by decide) (by decide) rfl,
   okTI_slice (by kernel_rfl) Tryz.underlying104,
   okTI_struct (by kernel_rfl) Tryz.underlying208 rfl (by kernel_rfl) (by decide) (by decide) rfl,
   okTI_struct (by kernel_rfl) Tryz.underlying142 rfl (by kernel_rfl) (by decide) (by decide) rfl, trivial⟩

def ms : List (Nat × Nat) := [(402, 0), (380, 0), (337, 0), (401, 1)
 , (273, 1)
 , (270, 1)
 , (183, 0)
 , (182, 0)
 , (196, 0)
 , (246, 0)
 , (238, 0)
 , (265, 0)
 , (327, 0)
 , (181, 0)
 , (213, 0)
 , (212, 0)
 , (218, 0)
 , (352, 0)
 , (268, 0)
 , (392, 0)
 , (365, 0)
 , (300, 0)
 , (389, 0)
 , (349, 0)
 , (416, 0)
 , (391, 0)
 , (279, 0)
 , (280, 0)
 , (51, 0)
 ]
def cx (ks : List Nat) : Cx := { F := Fn Tryz.prog, M := MFn Tryz.prog, T := FnT Tryz.prog, ms := ms, ts := [], tt := tt, gh := .no, ks := ks }
theorem cx_ok (ks : List Nat) : OkCx Tryz.prog (cx ks) := ⟨fun _ _ _ h => h, fun _ _ _ _ _ _ h => h, fun _ _ _ h => h, tt_ok⟩
def cxm (ks : List Nat) : Cx := { F := Fn Tryz.prog, M := MFn Tryz.prog, T := FnT Tryz.prog, ms := ms, ts := [], tt := tt, gh := .mv, ks := ks }
theorem cxm_ok (ks : List Nat) : OkCx Tryz.prog (cxm ks) := ⟨fun _ _ _ h => h, fun _ _ _ _ _ _ h => h, fun _ _ _ h => h, tt_ok⟩
def cxr (ks : List Nat) : Cx := { F := Fn Tryz.prog, M := MFn Tryz.prog, T := FnT Tryz.prog, ms := ms, ts := [], tt := tt, gh := .tr, ks := ks }
theorem cxr_ok (ks : List Nat) : OkCx Tryz.prog (cxr ks) := ⟨fun _ _ _ h => h, fun _ _ _ _ _ _ h => h, fun _ _ _ h => h, tt_ok⟩
def cxt (ts ks : List Nat) : Cx := { F := Fn Tryz.prog, M := MFn Tryz.prog, T := FnT Tryz.prog, ms := ms, ts := ts, tt := tt, gh := .mt, ks := ks }
theorem cxt_ok (ts ks : List Nat) : OkCx Tryz.prog (cxt ts ks) := ⟨fun _ _ _ h => h, fun _ _ _ _ _ _ h => h, fun _ _ _ h => h, tt_ok⟩
theorem cxtF {ts ks : List Nat} {f : Nat} {xs : List V} {r : V} (h : Fn Tryz.prog f xs (fun _ _ a => a = .v r)) : (cxt ts ks).F f xs (fun _ _ a => a = .v r) := h
theorem W.sw {P : Program} {c c' : Cx} {N base : Nat} {x : Code} {QQ : Exit → S → Prop} {s : S} (h : W P c' N base x QQ s) : W P c N base x QQ s := h
theorem follows : Tryz.prog.follows .mixedOrders = true := by kernel_rfl

abbrev FnV (f : Nat) (xs : List V) (r : V) : Prop := Fn Tryz.prog f xs (fun _ _ a => a = .v r)
abbrev FnI (f : Nat) (xs : List V) (l : List Int) : Prop := Fn Tryz.prog f xs (fun _ _ a => ∃ b, a = .ownI 2 b l)

theorem _root_.Go.Proofs.YtlhgbljojdbhgaaGreat.Fn.tr {f : Nat} {xs : List V} {b : Bool} (h : FnV f xs (.bool b)) (hb : b = true) : FnV f xs .tr := by
 subst hb
 refine ⟨h.1, fun D w vs hD hs hv => (h.2 D w vs hD hs hv).mono ?_⟩
 rintro _ w' ⟨v, av, hi, h1, h2, rfl, h4, _, h6, h7⟩
 refine ⟨v, .v .tr, hi, h1, h2, rfl, h4, rfl, ?_, fun b hb => by simp [rb] at hb⟩
 cases h6; exact .tr
theorem _root_.Go.Proofs.YtlhgbljojdbhgaaGreat.Fn.fa {f : Nat} {xs : List V} {b : Bool} (h : FnV f xs (.bool b)) (hb : b = false) : FnV f xs .fa := by
 subst hb
 refine ⟨h.1, fun D w vs hD hs hv => (h.2 D w vs hD hs hv).mono ?_⟩
 rintro _ w' ⟨v, av, hi, h1, h2, rfl, h4, _, h6, h7⟩
 refine ⟨v, .v .fa, hi, h1, h2, rfl, h4, rfl, ?_, fun b hb => by simp [rb] at hb⟩
 cases h6; exact .fa

theorem _root_.Go.Proofs.YtlhgbljojdbhgaaGreat.Fn.toV {f : Nat} {xs : List V} {l : List Int} (h : FnI f xs l) : FnV f xs (.ints none l) := by
 refine ⟨h.1, fun D w vs hD hs hv => (h.2 D w vs hD hs hv).mono ?_⟩
 rintro _ w' ⟨v, av, hi, h1, h2, ⟨b, rfl⟩, h4, _, h6, h7⟩
 refine ⟨v, .v (.ints none l), hi, h1, h2, rfl, h4, rfl, ?_, fun b hb => by simp [rb] at hb⟩
 refine OwnS.ints h6 fun c hc => ?_
 have h8 := h7 b (by rw [hc]; rfl)
 exact ⟨h8.2, fun hd => hd.elim (fun hd => by have := hD b hd; omega) (fun hd => by simp [rb] at hd), trivial⟩

theorem _root_.Go.Proofs.YtlhgbljojdbhgaaGreat.Fn.le {f : Nat} {xs : List V} {x y : V} (h : FnV f xs x) (hxy : ∀ ok hp v, Rep ok hp x v → Rep ok hp y v) : FnV f xs y := by
 refine ⟨h.1, fun D w vs hD hs hv => (h.2 D w vs hD hs hv).mono ?_⟩
 rintro _ w' ⟨v, av, hi, h1, h2, rfl, h4, _, h6, h7⟩
 exact ⟨v, .v y, hi, h1, h2, rfl, h4, rfl, hxy _ _ _ h6, fun b hb => by simp [rb] at hb⟩
theorem _root_.Go.Proofs.YtlhgbljojdbhgaaGreat.FnT.le {P : Program} {f : Nat} {xs : List V} {post post' : PostT} (h : FnT P f xs post) (hxy : ∀ lo hi x tb, post lo hi x tb → ∃ y, post' lo hi y tb ∧ ∀ ok hp v, Rep ok hp x v → Rep ok hp y v) : FnT P f xs post' := by
 refine ⟨h.1, fun D w vs hD hs hv => (h.2 D w vs hD hs hv).mono ?_⟩
 rintro _ w' ⟨v, x, tb, hi, h1, h2, h3, h4, h5, h6, h7⟩
 obtain ⟨y, h8, h9⟩ := hxy _ _ _ _ h3
 exact ⟨v, y, tb, hi, h1, h2, h8, h4, h9 _ _ _ h5, h6, h7⟩
theorem callP {c : Cx} (hc : c.F = Fn Tryz.prog) {K : S → Prop} {d : Nat} {e : Env} {hs f : Nat} {xs : List V} {post : Post} (h : Fn Tryz.prog f xs post) (k : ∀ lo hi hi' a, hs ≤ lo → lo ≤ hi' → hi ≤ hi' → post lo hi a → a.fresh lo hi' → K1 K hi' d e a) : callK c K d e hs f xs :=
 ⟨post, by rw [hc]; exact h, k⟩
theorem callV {c : Cx} (hc : c.F = Fn Tryz.prog) {K : S → Prop} {d : Nat} {e : Env} {hs f : Nat} {xs : List V} {r : V} (h : FnV f xs r) (k : ∀ hs', hs ≤ hs' → K1 K hs' d e (.v r)) : callK c K d e hs f xs :=
 callP hc h fun lo hi hi' a h1 h2 _ h3 _ => by subst h3; exact k _ (Nat.le_trans h1 h2)
theorem callI {c : Cx} (hc : c.F = Fn Tryz.prog) {K : S → Prop} {d : Nat} {e : Env} {hs f : Nat} {xs : List V} {l : List Int} (h : FnI f xs l) (k : ∀ hs' b, hs ≤ hs' → (l ≠ [] → hs ≤ b ∧ b < hs') → K1 K hs' d e (.ownI 2 b l)) : callK c K d e hs f xs :=
 callP hc h fun lo hi hi' a h1 h2 _ h3 h4 => by
  obtain ⟨b, rfl⟩ := h3
  exact k _ b (Nat.le_trans h1 h2) fun hne => by have := h4 hne; omega
theorem Fn.mono {P : Program} {f : Nat} {xs : List V} {post post' : Post} (h : Fn P f xs post) (k : ∀ lo hi a, post lo hi a → post' lo hi a) : Fn P f xs post' :=
 ⟨h.1, fun D w vs hD hs hv => (h.2 D w vs hD hs hv).mono fun _ _ ⟨v, av, hi, h1, h2, h3, h4⟩ => ⟨v, av, hi, h1, h2, k _ _ _ h3, h4⟩⟩
theorem FnV.mono {f : Nat} {xs : List V} {r r' : V} (h : FnV f xs r) (e : r = r') : FnV f xs r' := e ▸ h

theorem W.inv {P : Program} {c : Cx} {N base : Nat} {x : Code} {QQ : Exit → S → Prop} {s : S} (I : Nat → S → Prop) (m0 : Nat) (s0 : S) (h0 : I m0 s0) (hle : le s s0) (hb : ∀ m s, I m s → base ≤ s.hs)
  (round : ∀ m s, I m s → W P c N base x (Ex (fun s' => ∃ m' s'', I m' s'' ∧ m' < m ∧ le s' s'') QQ) s) : W P c N base (.loop x) QQ s :=
 W.loop (fun t : { q : Nat × S // I q.1 q.2 } => t.1.2) (fun t => t.1.1) ⟨(m0, s0), h0⟩ hle (fun t => hb _ _ t.2) fun t => (round _ _ t.2).mono fun e s' h => by
  cases e with
  | normal => obtain ⟨m', s'', h1, h2, h3⟩ := h; exact ⟨⟨(m', s''), h1⟩, h2, h3⟩
  | _ => exact h

theorem W.invE {P : Program} {c : Cx} {N base : Nat} {x : Code} {QQ : Exit → S → Prop} {s : S} (I : Nat → Env → Prop) (m0 : Nat) (e0 : Env) (h0 : I m0 e0) (hh : base ≤ s.hs) (hc : coverK s.env e0)
  (round : ∀ m e, I m e → W P c N base x (Ex (fun s' => ∃ m' e', I m' e' ∧ m' < m ∧ base ≤ s'.hs ∧ coverK s'.env e') QQ) ⟨e, base⟩) : W P c N base (.loop x) QQ s :=
 W.inv (fun m s => I m s.env ∧ s.hs = base) m0 ⟨e0, base⟩ ⟨h0, rfl⟩ ⟨hh, hc⟩ (fun m s h => Nat.le_of_eq h.2.symm) fun m s h => by
  obtain ⟨e, hs⟩ := s
  obtain ⟨h, rfl⟩ := h
  refine (round m e h).mono fun ex s' hq => ?_
  cases ex with
  | normal => obtain ⟨m', e', h1, h2, h3, h4⟩ := hq; exact ⟨m', ⟨e', _⟩, ⟨h1, rfl⟩, h2, h3, h4⟩
  | _ => exact hq

theorem W.invA {P : Program} {c : Cx} {N base : Nat} {x : Code} {QQ : Exit → S → Prop} {s : S} (I : Nat → Env → Prop) {m0 : Nat} {e0 : Env} (h0 : I m0 e0)
  (round : ∀ m e, I m e → W P c N base x (Ex (fun s' => ∃ m' e', I m' e' ∧ m' < m ∧ base ≤ s'.hs ∧ coverK s'.env e') QQ) ⟨e, base⟩)
  (hh : base ≤ s.hs := by dsimp only; omega) (hc : coverK s.env e0 := by repeat' first | refine And.intro ?_ ?_ | exact trivial | rfl | omega | exact .inl rfl | exact fun _ _ => rfl | exact fun _ _ h => h | assumption | exact fun i hi => (by obtain rfl : i = 0 := (by omega); rfl)) : W P c N base (.loop x) QQ s := W.invE I m0 e0 h0 hh hc round
theorem againA {I : Nat → Env → Prop} {m base : Nat} {s : S} {m' : Nat} {e' : Env} (h : I m' e') (h1 : m' < m := by omega) (h2 : base ≤ s.hs := by dsimp only; omega)
  (h3 : coverK s.env e' := by repeat' first | refine And.intro ?_ ?_ | exact trivial | rfl | omega | exact .inl rfl | exact fun _ _ => rfl | exact fun _ _ h => h | assumption | exact fun i hi => (by obtain rfl : i = 0 := (by omega); rfl)) : ∃ m' e', I m' e' ∧ m' < m ∧ base ≤ s.hs ∧ coverK s.env e' := ⟨m', e', h, h1, h2, h3⟩

theorem W.condT {P : Program} {c : Cx} {N base : Nat} {x y : Code} {QQ : Exit → S → Prop} {s : S} {t : Nat} (h : get s.env t = .v .tr) (k : W P c N base x QQ s) : W P c N base (.cond (.tmp t) x y) QQ s :=
 W.cond (by rw [rdK, getK_eq, h]; exact k)
theorem W.condF {P : Program} {c : Cx} {N base : Nat} {x y : Code} {QQ : Exit → S → Prop} {s : S} {t : Nat} (h : get s.env t = .v .fa) (k : W P c N base y QQ s) : W P c N base (.cond (.tmp t) x y) QQ s :=
 W.cond (by rw [rdK, getK_eq, h]; exact k)

theorem cxT {ts ks : List Nat} {f : Nat} {xs : List V} {post : PostT} (h : FnT Tryz.prog f xs post) : (cxt ts ks).T f xs post := h
theorem cxF {ks : List Nat} {f : Nat} {xs : List V} {r : V} (h : FnV f xs r) : (cx ks).F f xs (fun _ _ a => a = .v r) := h
theorem cxmF {ks : List Nat} {f : Nat} {xs : List V} {r : V} (h : FnV f xs r) : (cxm ks).F f xs (fun _ _ a => a = .v r) := h

theorem W.invH {P : Program} {c : Cx} {N base : Nat} {x : Code} {QQ : Exit → S → Prop} {s : S} (h0 : Nat) (hb : base ≤ h0) (I : Nat → Env → Prop) (m0 : Nat) (e0 : Env) (hi : I m0 e0) (hh : h0 ≤ s.hs) (hc : coverK s.env e0)
  (round : ∀ m e, I m e → W P c N base x (Ex (fun s' => ∃ m' e', I m' e' ∧ m' < m ∧ h0 ≤ s'.hs ∧ coverK s'.env e') QQ) ⟨e, h0⟩) : W P c N base (.loop x) QQ s :=
 W.inv (fun m s => I m s.env ∧ s.hs = h0) m0 ⟨e0, h0⟩ ⟨hi, rfl⟩ ⟨hh, hc⟩ (fun m s h => by rw [h.2]; exact hb) fun m s h => by
  obtain ⟨e, hs⟩ := s
  obtain ⟨h, rfl⟩ := h
  refine (round m e h).mono fun ex s' hq => ?_
  cases ex with
  | normal => obtain ⟨m', e', h1, h2, h3, h4⟩ := hq; exact ⟨m', ⟨e', _⟩, ⟨h1, rfl⟩, h2, h3, h4⟩
  | _ => exact hq

def vPs {p : Int} [SP p] (L : List (Poly p)) : V := .vals none 1 L.length fun j => .ints none (L.getD j 0).l

open Go Go.RowKit Go.Proofs

theorem cvr {p : Prop} (h : p := by (repeat' first | refine And.intro ?_ ?_ | exact trivial | rfl | omega | exact .inl rfl | exact fun _ _ => rfl | exact fun _ _ h => h | assumption | exact fun i hi => (by obtain rfl : i = 0 := (by omega); rfl))) : p := h
theorem dso {p : Prop} (h : p := by (dsimp only; omega)) : p := h
theorem s23 {p q : Prop} (h : p := by (first | (show 2 ≤ 2; omega) | (show 3 ≤ 3; omega))) (h' : q := by rfl) : p ∧ q := ⟨h, h'⟩
theorem oo {p q : Prop} (h : p := by omega) (h' : q := by omega) : p ∧ q := ⟨h, h'⟩
section
variable {N : Nat} {ops : Array Oper} {fuel : Nat} {listed : Array Bool} {K : S → Prop} {s : S} {e : Env} {hs : Nat} {o o' : Oper}
theorem wd1 (h : K s) (hr : Region.ready .any ops listed = [] := by kernel_rfl) : Wany Tryz.prog N ops fuel listed K s := Wany.done hr h
theorem w1 (i : Nat) (h : step1 (cx []) o (fun s' => match s' with | ⟨e, hs⟩ => Wany Tryz.prog N ops fuel (listed.setIfInBounds i true) K ⟨e, hs⟩) e hs) (hlt : dstsLt N ops.toList = true := by rfl) (hr : Region.ready .any ops listed = [i] := by kernel_rfl) (hi : ops[i]? = some o := by rfl) (hg : o.guard = none := by rfl) :
  Wany Tryz.prog N ops (fuel + 1) listed K ⟨e, hs⟩ := Wany.one (cx_ok []) i hlt hr hi hg h
theorem w2 (i j : Nat) (h : step1 (cx []) o (fun s' => match s' with | ⟨e, hs⟩ => Wany Tryz.prog N ops fuel (listed.setIfInBounds i true) K ⟨e, hs⟩) e hs) (h' : step1 (cx []) o' (fun s' => match s' with | ⟨e, hs⟩ => Wany Tryz.prog N ops fuel (listed.setIfInBounds j true) K ⟨e, hs⟩) e hs)
  (hlt : dstsLt N ops.toList = true := by rfl) (hr : Region.ready .any ops listed = [i, j] := by kernel_rfl) (hi : ops[i]? = some o := by rfl) (hg : o.guard = none := by rfl) (hj : ops[j]? = some o' := by rfl) (hg' : o'.guard = none := by rfl) :
  Wany Tryz.prog N ops (fuel + 1) listed K ⟨e, hs⟩ := Wany.two (cx_ok []) i j hlt hr hi hg hj hg' h h'
theorem wt (i : Nat) (h : step1 (cx []) o (fun s' => match s' with | ⟨e, hs⟩ => Wany Tryz.prog N ops fuel (listed.setIfInBounds i true) K ⟨e, hs⟩) e hs) (hi : ops[i]? = some o := by rfl) (hg : o.guard = none := by rfl) (hlt : ∀ d, o.dst = some d → d < N := by (exact fun d hd => by injection hd with hd; subst hd; decide)) (hns : Region.noSelect ops = true := by kernel_rfl) (hf : Region.free .any ops listed i = true := by kernel_rfl)
  (hr : (Region.ready .any ops listed).contains i = true := by kernel_rfl) (hp : pureOp o = true := by rfl) : Wany Tryz.prog N ops (fuel + 1) listed K ⟨e, hs⟩ := Wany.take (cx_ok []) i hi hg hlt hns hf hr hp h
theorem wi {d t : Nat} {x ix : Operand} (i : Nat) (h : step1 (cx []) o (fun s' => match s' with | ⟨e, hs⟩ => Wany Tryz.prog N ops fuel (listed.setIfInBounds i true) K ⟨e, hs⟩) e hs) (hi : ops[i]? = some o := by rfl) (hg : o.guard = none := by rfl) (hdst : o.dst = some d := by rfl) (hop : o.op = .indexAddr t x ix := by rfl) (hdN : d < N := by decide)
  (hns : Region.noSelect ops = true := by kernel_rfl) (hf : Region.free .any ops listed i = true := by kernel_rfl) (hr : (Region.ready .any ops listed).contains i = true := by kernel_rfl) : Wany Tryz.prog N ops (fuel + 1) listed K ⟨e, hs⟩ := Wany.takeI (cx_ok []) i hi hg hdst hop hdN hns hf hr h
theorem w3 {o'' : Oper} (i j k : Nat) (h : step1 (cx []) o (fun s' => match s' with | ⟨e, hs⟩ => Wany Tryz.prog N ops fuel (listed.setIfInBounds i true) K ⟨e, hs⟩) e hs) (h' : step1 (cx []) o' (fun s' => match s' with | ⟨e, hs⟩ => Wany Tryz.prog N ops fuel (listed.setIfInBounds j true) K ⟨e, hs⟩) e hs)
  (h'' : step1 (cx []) o'' (fun s' => match s' with | ⟨e, hs⟩ => Wany Tryz.prog N ops fuel (listed.setIfInBounds k true) K ⟨e, hs⟩) e hs)
  (hlt : dstsLt N ops.toList = true := by rfl) (hr : Region.ready .any ops listed = [i, j, k] := by kernel_rfl) (hi : ops[i]? = some o := by rfl) (hg : o.guard = none := by rfl) (hj : ops[j]? = some o' := by rfl) (hg' : o'.guard = none := by rfl) (hk : ops[k]? = some o'' := by rfl) (hg'' : o''.guard = none := by rfl) :
  Wany Tryz.prog N ops (fuel + 1) listed K ⟨e, hs⟩ := Wany.all (cx_ok []) hlt hr (by simp) fun q hq => by
 simp only [List.mem_cons, List.not_mem_nil, or_false] at hq
 rcases hq with rfl | rfl | rfl
 ·exact ⟨o, hi, hg, h⟩
 ·exact ⟨o', hj, hg', h'⟩
 ·exact ⟨o'', hk, hg'', h''⟩
variable {base : Nat} {ks : List Nat} {y : Code} {QQ : Exit → S → Prop} {id : Nat}
theorem wrs (h : ∀ K : S → Prop, (∀ s, W Tryz.prog (cx ks) N base y QQ s → K s) → vcOps (cx ks) ops.toList ops.toList (fun s => keepK s.env (cx ks).ks fun e => K ⟨e, s.hs⟩) s.env s.hs) (hlt : dstsLt N ops.toList = true := by rfl) : W Tryz.prog (cx ks) N base (.seq (.region id ops false) y) QQ s := W.rs (cx_ok ks) hlt h
theorem wrg (h : vcOps (cx ks) ops.toList ops.toList (fun s => keepK s.env (cx ks).ks fun e => QQ .normal ⟨e, s.hs⟩) s.env s.hs) (hlt : dstsLt N ops.toList = true := by rfl) : W Tryz.prog (cx ks) N base (.region id ops false) QQ s := W.region (cx_ok ks) hlt h
end

open Go Go.RowKit Go.Proofs

set_option maxRecDepth 100000
set_option maxHeartbeats 8000000
theorem mod_fn (n m : Int) (hm : 0 < m) (_ : -9223372036854775808 ≤ n ∧ n ≤ 9223372036854775807) (hm2 : m ≤ 4611686018427387904) : FnV 323 [.int .i64 n, .int .i64 m] (.int .i64 (n % m)) := by
 refine fn_of (cx_ok [0, 1, 4]) Tryz.func323 rfl (by decide) Tryz.ntmps323 (Nat.le_of_ble_eq_true rfl) fun base => ?_
 refine wrs fun K hK => ?_
 conv => whnf
 refine hK _ ?_
 clear hK K
 refine wrs fun K hK => ?_
 conv => whnf
 refine ⟨by omega, ?_⟩
 conv => whnf
 have h1 : n.tmod m + m < 2 * m ∧ 0 < n.tmod m + m := by
  have := Int.tmod_lt_of_pos n hm
  have := Int.lt_tmod_of_pos n hm
  omega
 refine ⟨oo, ?_⟩
 conv => whnf
 refine ⟨by omega, ?_⟩
 conv => whnf
 refine hK _ ?_
 clear hK K
 refine W.ret ?_
 conv => whnf
 exact ⟨.v (.int .i64 (n % m)), ⟨rfl, tmod_mod n m hm⟩, trivial, rfl⟩

theorem l01Mod_fn (n m : Int) (hm : 0 < m) (_ : -9223372036854775808 ≤ n ∧ n ≤ 9223372036854775807) (hm2 : m ≤ 4611686018427387904) : FnV 325 [.int .i64 n, .int .i64 m] (.int .i64 (n % m)) := by
 refine fn_of (cx_ok [0, 1, 4]) Tryz.func325 rfl (by decide) Tryz.ntmps325 (Nat.le_of_ble_eq_true rfl) fun base => ?_
 refine wrs fun K hK => ?_
 conv => whnf
 refine hK _ ?_
 clear hK K
 refine wrs fun K hK => ?_
 conv => whnf
 refine ⟨by omega, ?_⟩
 conv => whnf
 have h1 : n.tmod m + m < 2 * m ∧ 0 < n.tmod m + m := by
  have := Int.tmod_lt_of_pos n hm
  have := Int.lt_tmod_of_pos n hm
  omega
 refine ⟨oo, ?_⟩
 conv => whnf
 refine ⟨by omega, ?_⟩
 conv => whnf
 refine hK _ ?_
 clear hK K
 refine W.ret ?_
 conv => whnf
 exact ⟨.v (.int .i64 (n % m)), ⟨rfl, tmod_mod n m hm⟩, trivial, rfl⟩

theorem within_fn (n a b : Int) : FnV 185 [.int .i64 n, .int .i64 a, .int .i64 b] (.bool (decide (a ≤ n ∧ n ≤ b))) := by
 refine fn_of (cx_ok [0, 1, 2, 6]) Tryz.func185 rfl (by decide) Tryz.ntmps185 (Nat.le_of_ble_eq_true rfl) fun base => ?_
 refine wrs fun K hK => ?_
 conv => whnf
 refine hK _ ?_
 clear hK K
 refine wrs fun K hK => ?_
 conv => whnf
 refine ⟨fun h => ?_, fun h => ?_⟩ <;> conv => whnf
 ·refine hK _ ?_
  clear hK K
  refine W.ret ?_
  conv => whnf
  exact ⟨.v (.bool (decide (a ≤ n ∧ n ≤ b))), by have := of_decide_eq_true h; exact decide_eq_decide.2 (by omega), trivial, rfl⟩
 ·refine hK _ ?_
  clear hK K
  refine W.ret ?_
  conv => whnf
  exact ⟨.v (.bool (decide (a ≤ n ∧ n ≤ b))), by have := of_decide_eq_false h; exact decide_eq_false (by omega), trivial, rfl⟩

theorem isPrime_fn (n : Int) (hn : n ≤ 97) : FnV 341 [.int .i64 n] (.bool (isP n)) := by
 refine fn_of (cx_ok [0, 2, 3, 6, 11, 17]) Tryz.func341 rfl (by decide) Tryz.ntmps341 (Nat.le_of_ble_eq_true rfl) fun base => ?_
 refine wrs fun K hK => ?_
 conv => whnf
 refine hK _ ?_
 clear hK K
 refine W.seqK fun K1 hK1 => wrs fun K hK => ?_
 conv => whnf
 refine callV rfl (within_fn _ _ _) fun hs' hhs => ?_
 try dsimp only at hhs
 conv => whnf
 refine hK _ (W.cond ⟨fun h => ?_, fun h => ?_⟩) <;> clear hK K
 ·refine wrs fun K hK => ?_
  conv => whnf
  refine hK _ ?_
  clear hK K
  refine W.ret ?_
  conv => whnf
  refine ⟨.v (.bool (isP n)), ?_, trivial, rfl⟩
  have : n ∉ primes := fun hm => by have := primes_le hm; simp at h; omega
  exact decide_eq_false this
 ·refine W.skip (hK1 _ ?_)
  clear hK1 K1
  have h2 : 2 ≤ n := by simp at h; omega
  clear h
  refine W.seqK fun K2 hK2 => wrs fun K hK => ?_
  conv => whnf
  refine hK _ (W.block (W.inv (fun m s => ∃ d : Int, 2 ≤ d ∧ d ≤ 98 ∧ (∀ d', 2 ≤ d' → d' < d → n % d' ≠ 0) ∧ m = (98 - d).toNat ∧ s = ⟨[(0, .v (.int .i64 n)), (3, .v (.int .i64 d))], base⟩) _ _
   ⟨2, by omega, by omega, fun d' h1 h2 => by omega, rfl, rfl⟩ ⟨hhs, ⟨rfl, rfl⟩, ⟨rfl, rfl⟩, trivial⟩ (by rintro m s ⟨d, _, _, _, _, rfl⟩; exact Nat.le_refl _) ?_))
  clear hK K
  rintro m s ⟨d, h3, h4, h5, rfl, rfl⟩
  refine W.seqK fun K3 hK3 => wrs fun K hK => ?_
  conv => whnf
  have hdd : d * d ≤ 98 * 98 := Int.mul_le_mul h4 h4 (by omega) (by omega)
  have hd0 : 2 * 2 ≤ d * d := Int.mul_le_mul h3 h3 (by omega) (by omega)
  refine ⟨by omega, ?_⟩
  conv => whnf
  refine hK _ (W.cond ⟨fun h => ?_, fun h => ?_⟩) <;> clear hK K
  ·refine W.skip (hK3 _ ?_)
   clear hK3 K3
   have h6 := of_decide_eq_true h
   have h7 : d < 10 := by
    rcases Int.lt_or_le d 10 with h | h
    ·exact h
    ·have : 10 * 10 ≤ d * d := Int.mul_le_mul h h (by omega) (by omega)
     omega
   refine W.seqK fun K4 hK4 => W.block ?_
   refine wrs fun K hK => ?_
   conv => whnf
   refine ⟨by omega, ?_⟩
   conv => whnf
   refine hK _ (W.cond ⟨fun h8 => ?_, fun h8 => ?_⟩) <;> clear hK K
   ·have h9 := of_decide_eq_true h8
    rw [Int.tmod_eq_emod_of_nonneg (by omega)] at h9
    refine wrs fun K hK => ?_
    conv => whnf
    refine hK _ ?_
    clear hK K
    refine W.ret ?_
    conv => whnf
    refine ⟨.v (.bool (isP n)), ?_, trivial, rfl⟩
    exact decide_eq_false fun hm => ((primes_iff hn).1 hm).2 d h3 h6 h9
   ·have h9 := of_decide_eq_false h8
    rw [Int.tmod_eq_emod_of_nonneg (by omega)] at h9
    refine W.skip (hK4 _ ?_)
    clear hK4 K4
    refine wrg ?_
    conv => whnf
    refine ⟨by omega, ?_⟩
    conv => whnf
    exact ⟨_, _, ⟨d + 1, by omega, by omega, fun d' h10 h11 => by
     by_cases hdd : d' = d
     ·subst hdd; exact h9
     ·exact h5 d' h10 (by omega), rfl, rfl⟩, by omega, Nat.le_refl _, ⟨rfl, rfl⟩, ⟨rfl, rfl⟩, trivial⟩
  ·have h6 := of_decide_eq_false h
   refine W.exit (hK2 _ ?_)
   clear hK3 K3 hK2 K2
   refine wrs fun K hK => ?_
   conv => whnf
   refine hK _ ?_
   clear hK K
   refine W.ret ?_
   conv => whnf
   refine ⟨.v (.bool (isP n)), ?_, trivial, rfl⟩
   refine decide_eq_true ((primes_iff hn).2 ⟨h2, fun d' h7 h8 => h5 d' h7 ?_⟩)
   rcases Int.lt_or_le d' d with h | h
   ·exact h
   ·have : d * d ≤ d' * d' := Int.mul_le_mul h h (by omega) (by omega)
    omega

theorem l01Prime_fn (n : Int) (hn : n ≤ 97) : FnV 344 [.int .i64 n] (.bool (isP n)) := by
 refine fn_of (cx_ok [0, 2, 3, 5, 10, 16]) Tryz.func344 rfl (by decide) Tryz.ntmps344 (Nat.le_of_ble_eq_true rfl) fun base => ?_
 refine wrs fun K hK => ?_
 conv => whnf
 refine hK _ ?_
 clear hK K
 refine W.seqK fun K1 hK1 => wrs fun K hK => ?_
 conv => whnf
 refine hK _ (W.cond ⟨fun h => ?_, fun h => ?_⟩) <;> clear hK K
 ·refine wrs fun K hK => ?_
  conv => whnf
  refine hK _ ?_
  clear hK K
  refine W.ret ?_
  conv => whnf
  refine ⟨.v (.bool (isP n)), ?_, trivial, rfl⟩
  have : n ∉ primes := fun hm => by have := primes_le hm; have := of_decide_eq_true h; omega
  exact decide_eq_false this
 ·refine W.skip (hK1 _ ?_)
  clear hK1 K1
  have h2 : 2 ≤ n := by have := of_decide_eq_false h; omega
  clear h
  refine W.seqK fun K2 hK2 => wrs fun K hK => ?_
  conv => whnf
  refine hK _ (W.block (W.inv (fun m s => ∃ d : Int, 2 ≤ d ∧ d ≤ 98 ∧ (∀ d', 2 ≤ d' → d' < d → n % d' ≠ 0) ∧ m = (98 - d).toNat ∧ s = ⟨[(0, .v (.int .i64 n)), (3, .v (.int .i64 d))], base⟩) _ _
   ⟨2, by omega, by omega, fun d' h1 h2 => by omega, rfl, rfl⟩ ⟨Nat.le_refl _, ⟨rfl, rfl⟩, ⟨rfl, rfl⟩, trivial⟩ (by rintro m s ⟨d, _, _, _, _, rfl⟩; exact Nat.le_refl _) ?_))
  clear hK K
  rintro m s ⟨d, h3, h4, h5, rfl, rfl⟩
  refine W.seqK fun K3 hK3 => wrs fun K hK => ?_
  conv => whnf
  have hdd : d * d ≤ 98 * 98 := Int.mul_le_mul h4 h4 (by omega) (by omega)
  have hd0 : 2 * 2 ≤ d * d := Int.mul_le_mul h3 h3 (by omega) (by omega)
  refine ⟨by omega, ?_⟩
  conv => whnf
  refine hK _ (W.cond ⟨fun h => ?_, fun h => ?_⟩) <;> clear hK K
  ·refine W.skip (hK3 _ ?_)
   clear hK3 K3
   have h6 := of_decide_eq_true h
   have h7 : d < 10 := by
    rcases Int.lt_or_le d 10 with h | h
    ·exact h
    ·have : 10 * 10 ≤ d * d := Int.mul_le_mul h h (by omega) (by omega)
     omega
   refine W.seqK fun K4 hK4 => W.block ?_
   refine wrs fun K hK => ?_
   conv => whnf
   refine ⟨by omega, ?_⟩
   conv => whnf
   refine hK _ (W.cond ⟨fun h8 => ?_, fun h8 => ?_⟩) <;> clear hK K
   ·have h9 := of_decide_eq_true h8
    rw [Int.tmod_eq_emod_of_nonneg (by omega)] at h9
    refine wrs fun K hK => ?_
    conv => whnf
    refine hK _ ?_
    clear hK K
    refine W.ret ?_
    conv => whnf
    refine ⟨.v (.bool (isP n)), ?_, trivial, rfl⟩
    exact decide_eq_false fun hm => ((primes_iff hn).1 hm).2 d h3 h6 h9
   ·have h9 := of_decide_eq_false h8
    rw [Int.tmod_eq_emod_of_nonneg (by omega)] at h9
    refine W.skip (hK4 _ ?_)
    clear hK4 K4
    refine wrg ?_
    conv => whnf
    refine ⟨by omega, ?_⟩
    conv => whnf
    exact ⟨_, _, ⟨d + 1, by omega, by omega, fun d' h10 h11 => by
     by_cases hdd : d' = d
     ·subst hdd; exact h9
     ·exact h5 d' h10 (by omega), rfl, rfl⟩, by omega, Nat.le_refl _, ⟨rfl, rfl⟩, ⟨rfl, rfl⟩, trivial⟩
  ·have h6 := of_decide_eq_false h
   refine W.exit (hK2 _ ?_)
   clear hK3 K3 hK2 K2
   refine wrs fun K hK => ?_
   conv => whnf
   refine hK _ ?_
   clear hK K
   refine W.ret ?_
   conv => whnf
   refine ⟨.v (.bool (isP n)), ?_, trivial, rfl⟩
   refine decide_eq_true ((primes_iff hn).2 ⟨h2, fun d' h7 h8 => h5 d' h7 ?_⟩)
   rcases Int.lt_or_le d' d with h | h
   ·exact h
   ·have : d * d ≤ d' * d' := Int.mul_le_mul h h (by omega) (by omega)
    omega

theorem isSmallPrime_fn (n : Int) : FnV 248 [.int .i64 n] (.bool (isP n)) := by
 refine fn_of (cx_ok [0, 2]) Tryz.func248 rfl (by decide) Tryz.ntmps248 (Nat.le_of_ble_eq_true rfl) fun base => ?_
 refine wrs fun K hK => ?_
 conv => whnf
 refine hK _ ?_
 clear hK K
 refine wrs fun K hK => ?_
 conv => whnf
 refine ⟨fun h => ?_, fun h => ?_⟩ <;> conv => whnf
 ·refine callV rfl (isPrime_fn n (of_decide_eq_true h)) fun hs' hhs => ?_
  try dsimp only at hhs
  conv => whnf
  refine hK _ ?_
  clear hK K
  refine W.ret ?_
  conv => whnf
  exact ⟨.v (.bool (isP n)), rfl, trivial, rfl⟩
 ·refine hK _ ?_
  clear hK K
  refine W.ret ?_
  conv => whnf
  refine ⟨.v (.bool (isP n)), ?_, trivial, rfl⟩
  have h := of_decide_eq_false h
  exact decide_eq_false fun hm => by have := primes_le hm; omega
theorem l01In_fn (n a b : Int) : FnV 188 [.int .i64 n, .int .i64 a, .int .i64 b] (.bool (decide (a ≤ n ∧ n ≤ b))) := by
 refine fn_of (cx_ok [0, 1, 2, 6]) Tryz.func188 rfl (by decide) Tryz.ntmps188 (Nat.le_of_ble_eq_true rfl) fun base => ?_
 refine wrs fun K hK => ?_
 conv => whnf
 refine hK _ ?_
 clear hK K
 refine wrs fun K hK => ?_
 conv => whnf
 refine ⟨fun h => ?_, fun h => ?_⟩ <;> conv => whnf
 ·refine hK _ ?_
  clear hK K
  refine W.ret ?_
  conv => whnf
  exact ⟨.v (.bool (decide (a ≤ n ∧ n ≤ b))), by have := of_decide_eq_true h; exact decide_eq_decide.2 (by omega), trivial, rfl⟩
 ·refine hK _ ?_
  clear hK K
  refine W.ret ?_
  conv => whnf
  exact ⟨.v (.bool (decide (a ≤ n ∧ n ≤ b))), by have := of_decide_eq_false h; exact decide_eq_false (by omega), trivial, rfl⟩
theorem l01Small_fn (n : Int) : FnV 252 [.int .i64 n] (.bool (isP n)) := by
 refine fn_of (cx_ok [0, 2]) Tryz.func252 rfl (by decide) Tryz.ntmps252 (Nat.le_of_ble_eq_true rfl) fun base => ?_
 refine wrs fun K hK => ?_
 conv => whnf
 refine hK _ ?_
 clear hK K
 refine wrs fun K hK => ?_
 conv => whnf
 refine callV rfl (l01In_fn _ _ _) fun hs' hhs => ?_
 try dsimp only at hhs
 conv => whnf
 refine ⟨fun h => ?_, fun h => ?_⟩ <;> conv => whnf
 ·refine callV rfl (l01Prime_fn n (of_decide_eq_true h).2) fun hs' hhs => ?_
  try dsimp only at hhs
  conv => whnf
  refine hK _ ?_
  clear hK K
  refine W.ret ?_
  conv => whnf
  exact ⟨.v (.bool (isP n)), rfl, trivial, rfl⟩
 ·refine hK _ ?_
  clear hK K
  refine W.ret ?_
  conv => whnf
  refine ⟨.v (.bool (isP n)), ?_, trivial, rfl⟩
  have h := of_decide_eq_false h
  exact decide_eq_false fun hm => by have := primes_le hm; omega
theorem isValue_fn (n : Int) : FnV 420 [.int .i64 n] (.bool (decide (-1000000000000 ≤ n ∧ n ≤ 1000000000000))) := by
 refine fn_of (cx_ok [0, 2]) Tryz.func420 rfl (by decide) Tryz.ntmps420 (Nat.le_of_ble_eq_true rfl) fun base => ?_
 refine wrs fun K hK => ?_
 conv => whnf
 refine hK _ ?_
 clear hK K
 refine wrs fun K hK => ?_
 conv => whnf
 refine callV rfl (within_fn _ _ _) fun hs' hhs => ?_
 try dsimp only at hhs
 conv => whnf
 refine hK _ ?_
 clear hK K
 refine W.ret ?_
 conv => whnf
 exact ⟨.v (.bool (decide (-1000000000000 ≤ n ∧ n ≤ 1000000000000))), rfl, trivial, rfl⟩
theorem power_fn (n : Int) (e : Nat) (h : ∀ k, k ≤ e → inR (n ^ k)) (he : (e : Int) ≤ 1000000) : FnV 198 [.int .i64 n, .int .i64 e] (.int .i64 (n ^ e)) := by
  refine fn_of (cx_ok [0, 1, 4, 5, 6, 7, 8]) Tryz.func198 rfl (by decide) Tryz.ntmps198 (Nat.le_of_ble_eq_true rfl) fun base => ?_
  refine wrs fun K hK => ?_
  conv => whnf
  refine hK _ ?_
  clear hK K
  refine wrs fun K hK => ?_
  conv => whnf
  refine hK _ ?_
  clear hK K
  refine W.seqK fun K1 hK1 => wrs fun K hK => ?_
  conv => whnf
  refine hK _ (W.block (W.inv (fun m s => ∃ i : Nat, i ≤ e ∧ m = e - i ∧ s = ⟨[(0, .v (.int .i64 n)), (5, .v (.int .i64 (n ^ i))), (6, .v (.int .i64 e)), (7, .v (.int .i64 i))], base⟩) _ _
      ⟨0, Nat.zero_le _, rfl, rfl⟩ ⟨Nat.le_refl _, ⟨rfl, rfl⟩, ⟨rfl, (Int.pow_zero n).symm⟩, ⟨rfl, rfl⟩, ⟨rfl, rfl⟩, trivial⟩ (by rintro m s ⟨d, _, _, rfl⟩; exact Nat.le_refl _) ?_))
  clear hK K
  rintro m s ⟨i, h1, rfl, rfl⟩
  refine wrs fun K hK => ?_
  conv => whnf
  refine hK _ ?_
  clear hK K
  refine W.seqK fun K3 hK3 => W.cond ⟨fun h2 => ?_, fun h2 => ?_⟩
  · have h2 := of_decide_eq_true h2
    refine W.skip (hK3 _ ?_)
    clear hK3 K3
    refine W.seqK fun K2 hK2 => W.block ?_
    refine wrg ?_
    conv => whnf
    refine ⟨by have := h (i + 1) (by omega); rwa [Int.pow_succ] at this, ?_⟩
    conv => whnf
    refine hK2 _ ?_
    clear hK2 K2
    refine wrg ?_
    conv => whnf
    refine ⟨by omega, ?_⟩
    conv => whnf
    exact ⟨_, _, ⟨i + 1, by omega, rfl, rfl⟩, by omega, Nat.le_refl _, ⟨rfl, rfl⟩, ⟨rfl, (Int.pow_succ ..).symm⟩, ⟨rfl, rfl⟩, ⟨rfl, by omega⟩, trivial⟩
  · have h2 := of_decide_eq_false h2
    obtain rfl : i = e := by omega
    refine W.exit (hK1 _ ?_)
    clear hK3 K3 hK1 K1
    refine wrs fun K hK => ?_
    conv => whnf
    refine hK _ ?_
    clear hK K
    refine W.ret ?_
    conv => whnf
    exact ⟨.v (.int .i64 (n ^ i)), ⟨rfl, rfl⟩, trivial, rfl⟩

abbrev vRing (p k : Int) : V := .agg [.int .i64 p, .int .i64 k]
theorem modulus_fn (p : Int) (k : Nat) (h : ∀ j, j ≤ k → inR (p ^ j)) (hk : (k : Int) ≤ 1000000) : FnV 294 [vRing p k] (.int .i64 (p ^ k)) := by
 refine fn_of (cx_ok [0, 1, 2]) Tryz.func294 rfl (by decide) Tryz.ntmps294 (Nat.le_of_ble_eq_true rfl) fun base => ?_
 refine wrs fun K hK => ?_
 conv => whnf
 refine ⟨rfl, ?_⟩
 conv => whnf
 intro b_1 hs_1 hh_1 hf_1
 try dsimp only at hh_1 hf_1
 conv => whnf
 refine hK _ ?_
 clear hK K
 refine wrs fun K hK => ?_
 conv => whnf
 refine callV rfl (power_fn p k h hk) fun hs' hhs => ?_
 try dsimp only at hhs
 conv => whnf
 refine hK _ ?_
 clear hK K
 refine W.ret ?_
 conv => whnf
 exact ⟨.v (.int .i64 (p ^ k)), ⟨rfl, rfl⟩, trivial, rfl⟩
theorem bezout_fn (a b : Int) (ha : 0 ≤ a ∧ a ≤ 1000000000000) (hb : 0 ≤ b ∧ b ≤ 1000000000000) :
    Fn Tryz.prog 400 [.int .i64 a, .int .i64 b] (fun _ _ z => ∃ r x y u v, Bz a b r x y 0 u v ∧ (-(b + 1) ≤ x ∧ x ≤ b + 1) ∧ z = .v (.tup [.int .i64 x, .int .i64 y, .int .i64 0])) := by
  refine fn_of (cx_ok [0, 1, 4, 5, 6, 7, 8, 9, 10, 11, 12, 13, 21, 25, 48]) Tryz.func400 rfl (by decide) Tryz.ntmps400 (Nat.le_of_ble_eq_true rfl) fun base => ?_
  refine wrs fun K hK => ?_
  conv => whnf
  refine hK _ ?_
  clear hK K
  refine W.seqK fun K1 hK1 => wrs fun K hK => ?_
  conv => whnf
  refine callV rfl (isValue_fn a) fun hs' hhs => ?_
  try dsimp only at hhs
  conv => whnf
  refine ⟨fun h => ?_, fun h => ?_⟩ <;> conv => whnf
  · exfalso; simp at h; omega
  refine callV rfl (isValue_fn b) fun hs' hhs => ?_
  try dsimp only at hhs
  conv => whnf
  refine hK _ (W.cond ⟨fun hc => ?_, fun _ => ?_⟩)
  · exfalso; simp at hc; omega
  clear hK K
  refine W.skip (hK1 _ ?_)
  clear hK1 K1
  refine wrs fun K hK => ?_
  conv => whnf
  refine hK _ ?_
  clear hK K
  refine wrs fun K hK => ?_
  conv => whnf
  refine hK _ ?_
  clear hK K
  refine W.seqK fun K1 hK1 => W.block (W.inv (fun m s => ∃ r x y q u v : Int, Bz a b r x y q u v ∧ (-(b + 1) ≤ x ∧ x ≤ b + 1) ∧ (-(b + 1) ≤ u ∧ u ≤ b + 1) ∧ (-(a + 1) ≤ y ∧ y ≤ a + 1) ∧ (-(a + 1) ≤ v ∧ v ≤ a + 1) ∧ r ≤ 1000000000000 ∧ q ≤ 1000000000000 ∧ m = q.toNat ∧
      s = ⟨[(7, .v (.int .i64 r)), (8, .v (.int .i64 x)), (9, .v (.int .i64 y)), (10, .v (.int .i64 q)), (11, .v (.int .i64 u)), (12, .v (.int .i64 v))], base⟩) _ _
      ⟨a, 1, 0, b, 0, 1, Bz.start ha.1 hb.1, by omega, by omega, by omega, by omega, by omega, by omega, rfl, rfl⟩ ⟨by dsimp only; omega, ⟨rfl, rfl⟩, ⟨rfl, rfl⟩, ⟨rfl, rfl⟩, ⟨rfl, rfl⟩, ⟨rfl, rfl⟩, ⟨rfl, rfl⟩, trivial⟩ (by rintro m s ⟨_, _, _, _, _, _, _, _, _, _, _, _, _, _, rfl⟩; exact Nat.le_refl _) ?_)
  rintro m s ⟨r, x, y, q, u, v, hz, hx, hu, hy, hv, hr, hq, rfl, rfl⟩
  refine W.seqK fun K2 hK2 => wrs fun K hK => ?_
  conv => whnf
  refine hK _ (W.cond ⟨fun h => ?_, fun h => ?_⟩) <;> clear hK K
  · refine W.skip (hK2 _ ?_)
    clear hK2 K2
    have h := of_decide_eq_true h
    obtain ⟨hB, hz'⟩ := hz.step h
    have h0 := hz.r0
    have h1 := hz.s0
    have e : r.tdiv q = r / q := Int.tdiv_eq_ediv_of_nonneg h0
    refine W.block ?_
    refine wrs fun K hK => ?_
    conv => whnf
    refine ⟨h, ?_⟩
    conv => whnf
    rw [e]
    have := hB.q0
    have := hB.qr
    have := hB.qs
    have := hB.qu
    have := hB.qv
    have := hB.nx
    have := hB.ny
    refine ⟨by omega, ?_⟩
    conv => whnf
    refine hK _ ?_
    clear hK K
    refine wrg ?_
    conv => whnf
    refine ⟨by omega, ?_⟩
    conv => whnf
    refine ⟨by omega, ?_⟩
    conv => whnf
    refine ⟨by omega, ?_⟩
    conv => whnf
    refine ⟨by omega, ?_⟩
    conv => whnf
    refine ⟨by omega, ?_⟩
    conv => whnf
    refine ⟨by omega, ?_⟩
    conv => whnf
    have hm := Int.emod_lt_of_pos r (show 0 < q by omega)
    have hd : r - r / q * q = r % q := by have := Int.mul_ediv_add_emod r q; rw [Int.mul_comm] at this; omega
    exact ⟨_, _, ⟨q, u, v, r - r / q * q, x - r / q * u, y - r / q * v, hz', by omega, by omega, by omega, by omega, by omega, by omega, rfl, rfl⟩, by rw [hd]; omega, Nat.le_refl _, ⟨rfl, rfl⟩, ⟨rfl, rfl⟩, ⟨rfl, rfl⟩, ⟨rfl, rfl⟩, ⟨rfl, rfl⟩, ⟨rfl, rfl⟩, trivial⟩
  · have h := of_decide_eq_false h
    obtain rfl : q = 0 := by omega
    have h0 := hz.r0
    refine W.exit (hK1 _ ?_)
    clear hK1 K1 hK2 K2
    refine W.seqK fun K3 hK3 => wrs fun K hK => ?_
    conv => whnf
    refine hK _ (W.cond ⟨fun hc => ?_, fun _ => ?_⟩)
    · have := of_decide_eq_true hc; omega
    clear hK K
    refine W.skip (hK3 _ ?_)
    clear hK3 K3
    refine wrs fun K hK => ?_
    conv => whnf
    refine hK _ ?_
    clear hK K
    refine W.ret ?_
    conv => whnf
    exact ⟨.v (.int .i64 x), ⟨rfl, rfl⟩, trivial, .v (.int .i64 y), ⟨rfl, rfl⟩, trivial, .v (.int .i64 0), ⟨rfl, rfl⟩, trivial, r, x, y, u, v, hz, hx, rfl⟩
theorem l01Bezout_fn (a b : Int) (ha : 0 ≤ a ∧ a ≤ 1000000000000) (hb : 0 ≤ b ∧ b ≤ 1000000000000) :
    Fn Tryz.prog 390 [.int .i64 a, .int .i64 b] (fun _ _ z => ∃ r x y u v, Bz a b r x y 0 u v ∧ (-(b + 1) ≤ x ∧ x ≤ b + 1) ∧ z = .v (.tup [.int .i64 x, .int .i64 y])) := by
  refine fn_of (cx_ok [0, 1, 4, 5, 6, 7, 8, 9, 10, 11, 12, 16, 39]) Tryz.func390 rfl (by decide) Tryz.ntmps390 (Nat.le_of_ble_eq_true rfl) fun base => ?_
  refine wrs fun K hK => ?_
  conv => whnf
  refine hK _ ?_
  clear hK K

  refine wrs fun K hK => ?_
  conv => whnf
  refine hK _ ?_
  clear hK K
  refine wrs fun K hK => ?_
  conv => whnf
  refine hK _ ?_
  clear hK K
  refine W.seqK fun K1 hK1 => W.block (W.inv (fun m s => ∃ r x y q u v : Int, Bz a b r x y q u v ∧ (-(b + 1) ≤ x ∧ x ≤ b + 1) ∧ (-(b + 1) ≤ u ∧ u ≤ b + 1) ∧ (-(a + 1) ≤ y ∧ y ≤ a + 1) ∧ (-(a + 1) ≤ v ∧ v ≤ a + 1) ∧ r ≤ 1000000000000 ∧ q ≤ 1000000000000 ∧ m = q.toNat ∧
      s = ⟨[(6, .v (.int .i64 r)), (7, .v (.int .i64 x)), (8, .v (.int .i64 y)), (9, .v (.int .i64 q)), (10, .v (.int .i64 u)), (11, .v (.int .i64 v))], base⟩) _ _
      ⟨a, 1, 0, b, 0, 1, Bz.start ha.1 hb.1, by omega, by omega, by omega, by omega, by omega, by omega, rfl, rfl⟩ ⟨Nat.le_refl _, ⟨rfl, rfl⟩, ⟨rfl, rfl⟩, ⟨rfl, rfl⟩, ⟨rfl, rfl⟩, ⟨rfl, rfl⟩, ⟨rfl, rfl⟩, trivial⟩ (by rintro m s ⟨_, _, _, _, _, _, _, _, _, _, _, _, _, _, rfl⟩; exact Nat.le_refl _) ?_)
  rintro m s ⟨r, x, y, q, u, v, hz, hx, hu, hy, hv, hr, hq, rfl, rfl⟩
  refine W.seqK fun K2 hK2 => wrs fun K hK => ?_
  conv => whnf
  refine hK _ (W.cond ⟨fun h => ?_, fun h => ?_⟩) <;> clear hK K
  · refine W.skip (hK2 _ ?_)
    clear hK2 K2
    have h := of_decide_eq_true h
    obtain ⟨hB, hz'⟩ := hz.step h
    have h0 := hz.r0
    have h1 := hz.s0
    have e : r.tdiv q = r / q := Int.tdiv_eq_ediv_of_nonneg h0
    refine W.block ?_
    refine wrs fun K hK => ?_
    conv => whnf
    refine ⟨h, ?_⟩
    conv => whnf
    rw [e]
    have := hB.q0
    have := hB.qr
    have := hB.qs
    have := hB.qu
    have := hB.qv
    have := hB.nx
    have := hB.ny
    refine ⟨by omega, ?_⟩
    conv => whnf
    refine hK _ ?_
    clear hK K
    refine wrg ?_
    conv => whnf
    refine ⟨by omega, ?_⟩
    conv => whnf
    refine ⟨by omega, ?_⟩
    conv => whnf
    refine ⟨by omega, ?_⟩
    conv => whnf
    refine ⟨by omega, ?_⟩
    conv => whnf
    refine ⟨by omega, ?_⟩
    conv => whnf
    refine ⟨by omega, ?_⟩
    conv => whnf
    have hm := Int.emod_lt_of_pos r (show 0 < q by omega)
    have hd : r - r / q * q = r % q := by have := Int.mul_ediv_add_emod r q; rw [Int.mul_comm] at this; omega
    exact ⟨_, _, ⟨q, u, v, r - r / q * q, x - r / q * u, y - r / q * v, hz', by omega, by omega, by omega, by omega, by omega, by omega, rfl, rfl⟩, by rw [hd]; omega, Nat.le_refl _, ⟨rfl, rfl⟩, ⟨rfl, rfl⟩, ⟨rfl, rfl⟩, ⟨rfl, rfl⟩, ⟨rfl, rfl⟩, ⟨rfl, rfl⟩, trivial⟩
  · have h := of_decide_eq_false h
    obtain rfl : q = 0 := by omega
    have h0 := hz.r0
    refine W.exit (hK1 _ ?_)
    clear hK1 K1 hK2 K2
    refine W.seqK fun K3 hK3 => wrs fun K hK => ?_
    conv => whnf
    refine hK _ (W.cond ⟨fun hc => ?_, fun _ => ?_⟩)
    · have := of_decide_eq_true hc; omega
    clear hK K
    refine W.skip (hK3 _ ?_)
    clear hK3 K3
    refine wrs fun K hK => ?_
    conv => whnf
    refine hK _ ?_
    clear hK K
    refine W.ret ?_
    conv => whnf
    exact ⟨.v (.int .i64 x), ⟨rfl, rfl⟩, trivial, .v (.int .i64 y), ⟨rfl, rfl⟩, trivial, r, x, y, u, v, hz, hx, rfl⟩

theorem inverse_fn (p : Int) [SP p] (a : Int) (ha : 0 ≤ a ∧ a < p) (ha0 : a % p ≠ 0) : FnV 378 [vRing p 1, .int .i64 a] (.int .i64 (invm p a)) := by
 have hp := Pr.two (p := p)
 have hp2 := SP.le (p := p)
 have hm : FnV 294 [vRing p 1] (.int .i64 p) := by
  have := modulus_fn p 1 (fun j hj => by
   rcases (by omega : j = 0 ∨ j = 1) with rfl | rfl
   ·rw [Int.pow_zero]; constructor <;> omega
   ·rw [show (1 : Nat) = 0 + 1 from rfl, Int.pow_succ, Int.pow_zero, Int.one_mul]; constructor <;> omega) (by omega)
  refine this.mono ?_
  rw [show (1 : Nat) = 0 + 1 from rfl, Int.pow_succ, Int.pow_zero, Int.one_mul]
 refine fn_of (cx_ok [0, 1, 2, 4, 5]) Tryz.func378 rfl (by decide) Tryz.ntmps378 (Nat.le_of_ble_eq_true rfl) fun base => ?_
 refine wrs fun K hK => ?_
 conv => whnf
 refine ⟨rfl, ?_⟩
 conv => whnf
 intro b_1 hs_1 hh_1 hf_1
 try dsimp only at hh_1 hf_1
 conv => whnf
 refine hK _ ?_
 clear hK K
 refine wrs fun K hK => ?_
 conv => whnf
 refine callV rfl (hm) fun hs' hhs => ?_
 try dsimp only at hhs
 conv => whnf
 refine callP rfl (bezout_fn a p (by omega) (by omega)) ?_
 rintro lo hi hi' z h1 h2 h3 ⟨r, x, y, u, v, hz, hx, rfl⟩ _
 conv => whnf
 refine hK _ ?_
 clear hK K
 refine wrs fun K hK => ?_
 conv => whnf
 refine callV rfl (hm) fun hs' hhs => ?_
 try dsimp only at hhs
 conv => whnf
 refine callV rfl (mod_fn x p (by omega) (by omega) (by omega)) fun hs' hhs => ?_
 try dsimp only at hhs
 conv => whnf
 refine hK _ ?_
 clear hK K
 refine W.ret ?_
 conv => whnf
 exact ⟨.v (.int .i64 (invm p a)), ⟨rfl, hz.inv ha0⟩, trivial, rfl⟩
theorem inverseBy_fn (p : Int) [SP p] (a : Int) (hb : -4611686018427387904 ≤ a ∧ a ≤ 4611686018427387904) (ha0 : a % p ≠ 0) : FnV 330 [.int .i64 p, .int .i64 a] (.int .i64 (invm p a)) := by
 have hp := Pr.two (p := p)
 have hp2 := SP.le (p := p)
 have h1 := Int.emod_nonneg a (show p ≠ 0 by omega)
 have h2 := Int.emod_lt_of_pos a (show 0 < p by omega)
 refine fn_of (cx_ok [0, 1, 4]) Tryz.func330 rfl (by decide) Tryz.ntmps330 (Nat.le_of_ble_eq_true rfl) fun base => ?_
 refine wrs fun K hK => ?_
 conv => whnf
 refine hK _ ?_
 clear hK K
 refine wrs fun K hK => ?_
 conv => whnf
 refine callV rfl (mod_fn a p (by omega) (by omega) (by omega)) fun hs' hhs => ?_
 try dsimp only at hhs
 conv => whnf
 refine callV rfl (inverse_fn p (a % p) ⟨h1, h2⟩ (by rw [Int.emod_emod_of_dvd _ (Int.dvd_refl p)]; exact ha0)) fun hs' hhs => ?_
 try dsimp only at hhs
 conv => whnf
 refine hK _ ?_
 clear hK K
 refine W.ret ?_
 conv => whnf
 exact ⟨.v (.int .i64 (invm p a)), ⟨rfl, invm_mod ha0⟩, trivial, rfl⟩
theorem l02Inverse_fn (p : Int) [SP p] (a : Int) (ha : 0 ≤ a ∧ a < p) (ha0 : a % p ≠ 0) : FnV 355 [.int .i64 a, .int .i64 p] (.int .i64 (invm p a)) := by
 have hp := Pr.two (p := p)
 have hp2 := SP.le (p := p)
 refine fn_of (cx_ok [0, 1, 4, 5]) Tryz.func355 rfl (by decide) Tryz.ntmps355 (Nat.le_of_ble_eq_true rfl) fun base => ?_
 refine wrs fun K hK => ?_
 conv => whnf
 refine hK _ ?_
 clear hK K
 refine wrs fun K hK => ?_
 conv => whnf
 refine callP rfl (l01Bezout_fn a p (by omega) (by omega)) ?_
 rintro lo hi hi' z h1 h2 h3 ⟨r, x, y, u, v, hz, hx, rfl⟩ _
 conv => whnf
 refine hK _ ?_
 clear hK K
 refine wrs fun K hK => ?_
 conv => whnf
 refine callV rfl (l01Mod_fn x p (by omega) (by omega) (by omega)) fun hs' hhs => ?_
 try dsimp only at hhs
 conv => whnf
 refine hK _ ?_
 clear hK K
 refine W.ret ?_
 conv => whnf
 exact ⟨.v (.int .i64 (invm p a)), ⟨rfl, hz.inv ha0⟩, trivial, rfl⟩

open Go Go.RowKit Go.Proofs Poly
set_option maxRecDepth 100000
set_option maxHeartbeats 8000000

structure Byt (n : Nat) (c : Nat → Int) : Prop where
 few : n ≤ 1000000
 bd : ∀ i, 0 ≤ c i ∧ c i ≤ 255
abbrev vBy (n : Nat) (c : Nat → Int) : V := .vals none 1 n fun i => .int .u8 (c i)
abbrev vSrc (n : Nat) (c : Nat → Int) (at' : Nat) (seed : Int) : V := .agg [vBy n c, .int .i64 at', .int .i64 seed]
def OkSrc (n : Nat) (c : Nat → Int) (x : V) : Prop := ∃ (at' : Nat) (seed : Int), at' ≤ n ∧ (0 ≤ seed ∧ seed < 2147483647) ∧ x = vSrc n c at' seed
def MSrc (f : Nat) (xs : List V) (n : Nat) (c : Nat → Int) (Q : V → Prop) : Prop :=
 ∀ (b : Nat) (x : V), OkSrc n c x → MFn Tryz.prog f (.nil :: xs) 0 (.ownB b x) .dead (fun _ av x' t' => t' = .dead ∧ (∃ x1, OkSrc n c x1 ∧ x' = .ownB b x1) ∧ ∃ r, av = .v r ∧ Q r)

theorem tmod_in {a b : Int} (ha : 0 ≤ a) (hb : 0 < b) : ∃ r, a.tmod b = r ∧ 0 ≤ r ∧ r < b :=
 ⟨a.tmod b, rfl, by rw [Int.tmod_eq_emod_of_nonneg ha]; exact Int.emod_nonneg _ (by omega), by rw [Int.tmod_eq_emod_of_nonneg ha]; exact Int.emod_lt_of_pos _ hb⟩
theorem tdiv_in {a b : Int} (ha : 0 ≤ a) (hb : 0 < b) : ∃ r, a.tdiv b = r ∧ 0 ≤ r ∧ r ≤ a :=
 ⟨a.tdiv b, rfl, by rw [Int.tdiv_eq_ediv_of_nonneg ha]; exact Int.ediv_nonneg ha (by omega), by rw [Int.tdiv_eq_ediv_of_nonneg ha]; exact Int.ediv_le_self _ ha⟩


theorem l01Next_m {n : Nat} {c : Nat → Int} (hc : Byt n c) (m : Int) (hm : inR m) : MSrc 183 [.int .i64 m] n c (fun r => ∃ q : Int, r = .int .i64 q ∧ 0 ≤ q ∧ (1 < m → q < m) ∧ (m ≤ 1 → q = 0)) := by
 rintro b x ⟨at', seed, h1, h2, rfl⟩
 have hcf := hc.few
 refine mfn_ofV (cx := cxt [] [0, 1, 4, 5, 7, 32, 62, 1000000, 1000001]) (cxt_ok [] [0, 1, 4, 5, 7, 32, 62, 1000000, 1000001]) Tryz.func183 rfl (by decide) Tryz.ntmps183 (Nat.le_of_ble_eq_true rfl) (Nat.le_of_ble_eq_true rfl) rfl rfl fun base hs0 O U hw v0 hb0 => ?_
 refine W.sw (c' := cx [0, 1, 4, 5, 7, 32, 62, 1000000, 1000001]) ?_
 refine wrs fun K hK => ?_
 conv => whnf
 refine hK _ ?_
 clear hK K
 refine W.seqK fun K1 hK1 => ?_
 refine wrs fun K hK => ?_
 conv => whnf
 refine hK _ (W.cond ⟨fun h => ?_, fun h => ?_⟩) <;> clear hK K
 ·have h := of_decide_eq_true h
  refine wrs fun K hK => ?_
  conv => whnf
  refine hK _ ?_
  clear hK K
  refine W.ret ?_
  conv => whnf
  refine ⟨by dsimp only; omega, ?_⟩
  conv => whnf
  refine ⟨rfl, ?_⟩
  conv => whnf
  refine ⟨.int .i64 0, ⟨rfl, rfl⟩, ?_⟩
  conv => whnf
  exact ⟨.ownB b (vSrc n c at' seed), ⟨rfl, rfl⟩, .inr ⟨rfl, rfl⟩, .dead, trivial, rfl, rfl, rfl, ⟨vSrc n c at' seed, ⟨at', seed, h1, h2, rfl⟩, rfl⟩, _, rfl, ⟨0, rfl, by omega, fun _ => by omega, fun _ => rfl⟩⟩
 have h := of_decide_eq_false h
 refine W.skip (hK1 _ ?_)
 clear hK1 K1
 obtain ⟨s2, e1, h5, h6⟩ := tmod_in (a := seed * 48271 + 29) (b := 2147483647) (by omega) (by decide)
 obtain ⟨x0, e2, h7, h8⟩ := tdiv_in (a := s2) (b := 31) h5 (by decide)
 refine wrs fun K hK => ?_
 conv => whnf
 refine ⟨oo, ?_⟩
 conv => whnf
 refine ⟨oo, ?_⟩
 conv => whnf
 refine ⟨by decide, ?_⟩
 conv => whnf
 rw [e1]
 refine ⟨⟨(by show 2 + 1 ≤ 3; omega), rfl⟩, ?_⟩
 conv => whnf
 refine hK _ ?_
 clear hK K
 refine wrs fun K hK => ?_
 conv => whnf
 refine ⟨by decide, ?_⟩
 conv => whnf
 rw [e2]
 refine ⟨oo, ?_⟩
 conv => whnf
 refine hK _ ?_
 clear hK K
 refine W.seqK fun K2 hK2 => ?_
 have last : ∀ (a2 : Nat) (x : Int) (t : S), a2 ≤ n → 0 ≤ x → x ≤ 2147483647 + 1000 → hs0 ≤ t.hs → coverK t.env [(vt, .dead), (vk, .keep O U hw 0 v0), (0, .ownB b (vSrc n c a2 s2)), (1, .v (.int .i64 m)), (5, .v (.int .i64 x))] → K2 t := by
  intro a2 x t g1 g2 g3 h9 h10
  refine hK2 _ (W.weak (t := ⟨[(vt, .dead), (vk, .keep O U hw 0 v0), (0, .ownB b (vSrc n c a2 s2)), (1, .v (.int .i64 m)), (5, .v (.int .i64 x))], hs0⟩) ⟨h9, h10⟩ hb0 ?_)
  clear hK2 K2
  obtain ⟨q, e3, h11, h12⟩ := tmod_in (a := x) (b := m) g2 (by omega)
  refine wrs fun K hK => ?_
  conv => whnf
  refine ⟨by show m ≠ 0; omega, ?_⟩
  conv => whnf
  rw [e3]
  refine hK _ ?_
  clear hK K
  refine W.ret ?_
  conv => whnf
  refine ⟨by dsimp only; omega, ?_⟩
  conv => whnf
  refine ⟨rfl, ?_⟩
  conv => whnf
  refine ⟨.int .i64 q, ⟨rfl, rfl⟩, ?_⟩
  conv => whnf
  exact ⟨.ownB b (vSrc n c a2 s2), ⟨rfl, rfl⟩, .inr ⟨rfl, rfl⟩, .dead, trivial, rfl, rfl, rfl, ⟨vSrc n c a2 s2, ⟨a2, s2, g1, ⟨h5, h6⟩, rfl⟩, rfl⟩, _, rfl, ⟨q, rfl, h11, fun _ => h12, fun hh => absurd hh (by omega)⟩⟩
 refine W.seqK fun K3 hK3 => ?_
 have mid : ∀ t : S, hs0 ≤ t.hs → coverK t.env [(vt, .dead), (vk, .keep O U hw 0 v0), (0, .ownB b (vSrc n c at' s2)), (1, .v (.int .i64 m)), (5, .v (.int .i64 x0)), (32, .v (.bool (decide ((at' : Int) < (n : Int)))))] → K3 t := by
  intro t h9 h10
  refine hK3 _ (W.weak (t := ⟨[(vt, .dead), (vk, .keep O U hw 0 v0), (0, .ownB b (vSrc n c at' s2)), (1, .v (.int .i64 m)), (5, .v (.int .i64 x0)), (32, .v (.bool (decide ((at' : Int) < (n : Int)))))], hs0⟩) ⟨h9, h10⟩ hb0 ?_)
  clear hK3 K3
  refine W.cond ⟨fun h => ?_, fun h => ?_⟩
  ·have h := of_decide_eq_true h
   have hb := hc.bd at'
   refine W.seqK fun K4 hK4 => ?_
   have mid2 : ∀ t : S, hs0 ≤ t.hs → coverK t.env [(vt, .dead), (vk, .keep O U hw 0 v0), (0, .ownB b (vSrc n c at' s2)), (1, .v (.int .i64 m)), (5, .v (.int .i64 (x0 + c at')))] → K4 t := by
    intro t h9 h10
    refine hK4 _ (W.weak (t := ⟨[(vt, .dead), (vk, .keep O U hw 0 v0), (0, .ownB b (vSrc n c at' s2)), (1, .v (.int .i64 m)), (5, .v (.int .i64 (x0 + c at')))], hs0⟩) ⟨h9, h10⟩ hb0 ?_)
    clear hK4 K4
    refine wrs fun K hK => ?_
    conv => whnf
    refine ⟨oo, ?_⟩
    conv => whnf
    refine ⟨⟨(by show 1 + 1 ≤ 3; omega), rfl⟩, ?_⟩
    conv => whnf
    refine hK _ ?_
    clear hK K
    refine wrs fun K hK => ?_
    conv => whnf
    refine ⟨fun h3 => ?_, fun h3 => ?_⟩ <;> conv => whnf
    ·refine ⟨by decide, ?_⟩
     conv => whnf
     refine hK _ (W.cond ⟨fun h4 => ?_, fun h4 => ?_⟩) <;> clear hK K
     ·have e4 : (((at' : Int) + 1) - 1).toNat = at' := by omega
      refine W.sch follows ?_
      refine wt 0 ?_
      conv => whnf
      refine wt 4 ?_
      conv => whnf
      refine w2 1 5 ?_ ?_ <;> conv => whnf
      ·refine Wany.takeF (cx_ok []) 2 (by rfl) (by rfl) (by rfl) (by rfl) (by decide) (by kernel_rfl) (by kernel_rfl) (by kernel_rfl) ?_
       conv => whnf
       refine w2 3 5 ?_ ?_ <;> conv => whnf
       ·refine w1 5 ?_
        conv => whnf
        refine Wany.takeF (cx_ok []) 6 (by rfl) (by rfl) (by rfl) (by rfl) (by decide) (by kernel_rfl) (by kernel_rfl) (by kernel_rfl) ?_
        conv => whnf
        refine w1 7 ?_
        conv => whnf
        refine Wany.takeB (cx_ok []) 8 (by rfl) (by rfl) (by rfl) (by rfl) (by decide) (by rfl) (by rfl) (by kernel_rfl) (by kernel_rfl) (by kernel_rfl) ?_
        conv => whnf
        refine ⟨oo, ?_⟩
        conv => whnf
        refine wi 9 ?_
        conv => whnf
        refine ⟨oo, ?_⟩
        conv => whnf
        rw [e4]
        refine w1 10 ?_
        conv => whnf
        refine w1 11 ?_
        conv => whnf
        refine ⟨⟨hb.1, hb.2⟩, ?_⟩
        conv => whnf
        refine w1 12 ?_
        conv => whnf
        refine wd1 (last (at' + 1) (c at') _ (by omega) hb.1 (by omega) (by dsimp only; omega) ?_)
        exact cvr
       ·refine Wany.takeF (cx_ok []) 6 (by rfl) (by rfl) (by rfl) (by rfl) (by decide) (by kernel_rfl) (by kernel_rfl) (by kernel_rfl) ?_
        conv => whnf
        refine w2 3 7 ?_ ?_ <;> conv => whnf
        ·refine w1 7 ?_
         conv => whnf
         refine Wany.takeB (cx_ok []) 8 (by rfl) (by rfl) (by rfl) (by rfl) (by decide) (by rfl) (by rfl) (by kernel_rfl) (by kernel_rfl) (by kernel_rfl) ?_
         conv => whnf
         refine ⟨oo, ?_⟩
         conv => whnf
         refine wi 9 ?_
         conv => whnf
         refine ⟨oo, ?_⟩
         conv => whnf
         rw [e4]
         refine w1 10 ?_
         conv => whnf
         refine w1 11 ?_
         conv => whnf
         refine ⟨⟨hb.1, hb.2⟩, ?_⟩
         conv => whnf
         refine w1 12 ?_
         conv => whnf
         refine wd1 (last (at' + 1) (c at') _ (by omega) hb.1 (by omega) (by dsimp only; omega) ?_)
         exact cvr
        ·refine Wany.takeB (cx_ok []) 8 (by rfl) (by rfl) (by rfl) (by rfl) (by decide) (by rfl) (by rfl) (by kernel_rfl) (by kernel_rfl) (by kernel_rfl) ?_
         conv => whnf
         refine ⟨oo, ?_⟩
         conv => whnf
         refine w1 3 ?_
         conv => whnf
         refine wi 9 ?_
         conv => whnf
         refine ⟨oo, ?_⟩
         conv => whnf
         rw [e4]
         refine w1 10 ?_
         conv => whnf
         refine w1 11 ?_
         conv => whnf
         refine ⟨⟨hb.1, hb.2⟩, ?_⟩
         conv => whnf
         refine w1 12 ?_
         conv => whnf
         refine wd1 (last (at' + 1) (c at') _ (by omega) hb.1 (by omega) (by dsimp only; omega) ?_)
         exact cvr
      ·refine Wany.takeF (cx_ok []) 6 (by rfl) (by rfl) (by rfl) (by rfl) (by decide) (by kernel_rfl) (by kernel_rfl) (by kernel_rfl) ?_
       conv => whnf
       refine w2 1 7 ?_ ?_ <;> conv => whnf
       ·refine Wany.takeF (cx_ok []) 2 (by rfl) (by rfl) (by rfl) (by rfl) (by decide) (by kernel_rfl) (by kernel_rfl) (by kernel_rfl) ?_
        conv => whnf
        refine w2 3 7 ?_ ?_ <;> conv => whnf
        ·refine w1 7 ?_
         conv => whnf
         refine Wany.takeB (cx_ok []) 8 (by rfl) (by rfl) (by rfl) (by rfl) (by decide) (by rfl) (by rfl) (by kernel_rfl) (by kernel_rfl) (by kernel_rfl) ?_
         conv => whnf
         refine ⟨oo, ?_⟩
         conv => whnf
         refine wi 9 ?_
         conv => whnf
         refine ⟨oo, ?_⟩
         conv => whnf
         rw [e4]
         refine w1 10 ?_
         conv => whnf
         refine w1 11 ?_
         conv => whnf
         refine ⟨⟨hb.1, hb.2⟩, ?_⟩
         conv => whnf
         refine w1 12 ?_
         conv => whnf
         refine wd1 (last (at' + 1) (c at') _ (by omega) hb.1 (by omega) (by dsimp only; omega) ?_)
         exact cvr
        ·refine Wany.takeB (cx_ok []) 8 (by rfl) (by rfl) (by rfl) (by rfl) (by decide) (by rfl) (by rfl) (by kernel_rfl) (by kernel_rfl) (by kernel_rfl) ?_
         conv => whnf
         refine ⟨oo, ?_⟩
         conv => whnf
         refine w1 3 ?_
         conv => whnf
         refine wi 9 ?_
         conv => whnf
         refine ⟨oo, ?_⟩
         conv => whnf
         rw [e4]
         refine w1 10 ?_
         conv => whnf
         refine w1 11 ?_
         conv => whnf
         refine ⟨⟨hb.1, hb.2⟩, ?_⟩
         conv => whnf
         refine w1 12 ?_
         conv => whnf
         refine wd1 (last (at' + 1) (c at') _ (by omega) hb.1 (by omega) (by dsimp only; omega) ?_)
         exact cvr
       ·refine Wany.takeB (cx_ok []) 8 (by rfl) (by rfl) (by rfl) (by rfl) (by decide) (by rfl) (by rfl) (by kernel_rfl) (by kernel_rfl) (by kernel_rfl) ?_
        conv => whnf
        refine ⟨oo, ?_⟩
        conv => whnf
        refine w1 1 ?_
        conv => whnf
        refine Wany.takeF (cx_ok []) 2 (by rfl) (by rfl) (by rfl) (by rfl) (by decide) (by kernel_rfl) (by kernel_rfl) (by kernel_rfl) ?_
        conv => whnf
        refine w1 3 ?_
        conv => whnf
        refine wi 9 ?_
        conv => whnf
        refine ⟨oo, ?_⟩
        conv => whnf
        rw [e4]
        refine w1 10 ?_
        conv => whnf
        refine w1 11 ?_
        conv => whnf
        refine ⟨⟨hb.1, hb.2⟩, ?_⟩
        conv => whnf
        refine w1 12 ?_
        conv => whnf
        refine wd1 (last (at' + 1) (c at') _ (by omega) hb.1 (by omega) (by dsimp only; omega) ?_)
        exact cvr
-- 6 ways
     ·refine W.skip (last (at' + 1) (x0 + c at') _ (by omega) (by omega) (by omega) (by dsimp only; omega) ?_)
      exact cvr
    ·refine hK _ (W.condF rfl (W.skip (last (at' + 1) (x0 + c at') _ (by omega) (by omega) (by omega) (by dsimp only; omega) ?_)))
     exact cvr
   refine W.sch follows ?_
   refine wt 0 ?_
   conv => whnf
   refine wt 1 ?_
   conv => whnf
   refine wt 5 ?_
   conv => whnf
   refine w2 2 6 ?_ ?_ <;> conv => whnf
   ·refine Wany.takeF (cx_ok []) 3 (by rfl) (by rfl) (by rfl) (by rfl) (by decide) (by kernel_rfl) (by kernel_rfl) (by kernel_rfl) ?_
    conv => whnf
    refine w2 4 6 ?_ ?_ <;> conv => whnf
    ·refine w1 6 ?_
     conv => whnf
     refine Wany.takeF (cx_ok []) 7 (by rfl) (by rfl) (by rfl) (by rfl) (by decide) (by kernel_rfl) (by kernel_rfl) (by kernel_rfl) ?_
     conv => whnf
     refine w1 8 ?_
     conv => whnf
     refine wi 9 ?_
     conv => whnf
     refine ⟨oo, ?_⟩
     conv => whnf
     rw [Int.toNat_natCast]
     refine w1 10 ?_
     conv => whnf
     refine w1 11 ?_
     conv => whnf
     refine ⟨⟨hb.1, hb.2⟩, ?_⟩
     conv => whnf
     refine Wany.takeB (cx_ok []) 12 (by rfl) (by rfl) (by rfl) (by rfl) (by decide) (by rfl) (by rfl) (by kernel_rfl) (by kernel_rfl) (by kernel_rfl) ?_
     conv => whnf
     refine ⟨by show _ ≤ x0 + c at' ∧ x0 + c at' ≤ _; omega, ?_⟩
     conv => whnf
     refine w1 13 ?_
     conv => whnf
     refine wd1 (mid2 _ (by dsimp only; omega) ?_)
     exact cvr
    ·refine Wany.takeF (cx_ok []) 7 (by rfl) (by rfl) (by rfl) (by rfl) (by decide) (by kernel_rfl) (by kernel_rfl) (by kernel_rfl) ?_
     conv => whnf
     refine w2 4 8 ?_ ?_ <;> conv => whnf
     ·refine w1 8 ?_
      conv => whnf
      refine wi 9 ?_
      conv => whnf
      refine ⟨oo, ?_⟩
      conv => whnf
      rw [Int.toNat_natCast]
      refine w1 10 ?_
      conv => whnf
      refine w1 11 ?_
      conv => whnf
      refine ⟨⟨hb.1, hb.2⟩, ?_⟩
      conv => whnf
      refine Wany.takeB (cx_ok []) 12 (by rfl) (by rfl) (by rfl) (by rfl) (by decide) (by rfl) (by rfl) (by kernel_rfl) (by kernel_rfl) (by kernel_rfl) ?_
      conv => whnf
      refine ⟨by show _ ≤ x0 + c at' ∧ x0 + c at' ≤ _; omega, ?_⟩
      conv => whnf
      refine w1 13 ?_
      conv => whnf
      refine wd1 (mid2 _ (by dsimp only; omega) ?_)
      exact cvr
     ·refine w1 4 ?_
      conv => whnf
      refine wi 9 ?_
      conv => whnf
      refine ⟨oo, ?_⟩
      conv => whnf
      rw [Int.toNat_natCast]
      refine w1 10 ?_
      conv => whnf
      refine w1 11 ?_
      conv => whnf
      refine ⟨⟨hb.1, hb.2⟩, ?_⟩
      conv => whnf
      refine Wany.takeB (cx_ok []) 12 (by rfl) (by rfl) (by rfl) (by rfl) (by decide) (by rfl) (by rfl) (by kernel_rfl) (by kernel_rfl) (by kernel_rfl) ?_
      conv => whnf
      refine ⟨by show _ ≤ x0 + c at' ∧ x0 + c at' ≤ _; omega, ?_⟩
      conv => whnf
      refine w1 13 ?_
      conv => whnf
      refine wd1 (mid2 _ (by dsimp only; omega) ?_)
      exact cvr
   ·refine Wany.takeF (cx_ok []) 7 (by rfl) (by rfl) (by rfl) (by rfl) (by decide) (by kernel_rfl) (by kernel_rfl) (by kernel_rfl) ?_
    conv => whnf
    refine w2 2 8 ?_ ?_ <;> conv => whnf
    ·refine Wany.takeF (cx_ok []) 3 (by rfl) (by rfl) (by rfl) (by rfl) (by decide) (by kernel_rfl) (by kernel_rfl) (by kernel_rfl) ?_
     conv => whnf
     refine w2 4 8 ?_ ?_ <;> conv => whnf
     ·refine w1 8 ?_
      conv => whnf
      refine wi 9 ?_
      conv => whnf
      refine ⟨oo, ?_⟩
      conv => whnf
      rw [Int.toNat_natCast]
      refine w1 10 ?_
      conv => whnf
      refine w1 11 ?_
      conv => whnf
      refine ⟨⟨hb.1, hb.2⟩, ?_⟩
      conv => whnf
      refine Wany.takeB (cx_ok []) 12 (by rfl) (by rfl) (by rfl) (by rfl) (by decide) (by rfl) (by rfl) (by kernel_rfl) (by kernel_rfl) (by kernel_rfl) ?_
      conv => whnf
      refine ⟨by show _ ≤ x0 + c at' ∧ x0 + c at' ≤ _; omega, ?_⟩
      conv => whnf
      refine w1 13 ?_
      conv => whnf
      refine wd1 (mid2 _ (by dsimp only; omega) ?_)
      exact cvr
     ·refine w1 4 ?_
      conv => whnf
      refine wi 9 ?_
      conv => whnf
      refine ⟨oo, ?_⟩
      conv => whnf
      rw [Int.toNat_natCast]
      refine w1 10 ?_
      conv => whnf
      refine w1 11 ?_
      conv => whnf
      refine ⟨⟨hb.1, hb.2⟩, ?_⟩
      conv => whnf
      refine Wany.takeB (cx_ok []) 12 (by rfl) (by rfl) (by rfl) (by rfl) (by decide) (by rfl) (by rfl) (by kernel_rfl) (by kernel_rfl) (by kernel_rfl) ?_
      conv => whnf
      refine ⟨by show _ ≤ x0 + c at' ∧ x0 + c at' ≤ _; omega, ?_⟩
      conv => whnf
      refine w1 13 ?_
      conv => whnf
      refine wd1 (mid2 _ (by dsimp only; omega) ?_)
      exact cvr
    ·refine w1 2 ?_
     conv => whnf
     refine Wany.takeF (cx_ok []) 3 (by rfl) (by rfl) (by rfl) (by rfl) (by decide) (by kernel_rfl) (by kernel_rfl) (by kernel_rfl) ?_
     conv => whnf
     refine w1 4 ?_
     conv => whnf
     refine wi 9 ?_
     conv => whnf
     refine ⟨oo, ?_⟩
     conv => whnf
     rw [Int.toNat_natCast]
     refine w1 10 ?_
     conv => whnf
     refine w1 11 ?_
     conv => whnf
     refine ⟨⟨hb.1, hb.2⟩, ?_⟩
     conv => whnf
     refine Wany.takeB (cx_ok []) 12 (by rfl) (by rfl) (by rfl) (by rfl) (by decide) (by rfl) (by rfl) (by kernel_rfl) (by kernel_rfl) (by kernel_rfl) ?_
     conv => whnf
     refine ⟨by show _ ≤ x0 + c at' ∧ x0 + c at' ≤ _; omega, ?_⟩
     conv => whnf
     refine w1 13 ?_
     conv => whnf
     refine wd1 (mid2 _ (by dsimp only; omega) ?_)
     exact cvr
-- 6 ways
  ·refine W.skip (last at' x0 _ h1 h7 (by omega) (by dsimp only; omega) ?_)
   exact cvr
 refine W.sch follows ?_
 refine wt 0 ?_
 conv => whnf
 refine wt 4 ?_
 conv => whnf
 refine w2 1 5 ?_ ?_ <;> conv => whnf
 ·refine Wany.takeF (cx_ok []) 2 (by rfl) (by rfl) (by rfl) (by rfl) (by decide) (by kernel_rfl) (by kernel_rfl) (by kernel_rfl) ?_
  conv => whnf
  refine w2 3 5 ?_ ?_ <;> conv => whnf
  ·refine w1 5 ?_
   conv => whnf
   refine Wany.takeF (cx_ok []) 6 (by rfl) (by rfl) (by rfl) (by rfl) (by decide) (by kernel_rfl) (by kernel_rfl) (by kernel_rfl) ?_
   conv => whnf
   refine w1 7 ?_
   conv => whnf
   refine w1 8 ?_
   conv => whnf
   refine Wany.takeB (cx_ok []) 9 (by rfl) (by rfl) (by rfl) (by rfl) (by decide) (by rfl) (by rfl) (by kernel_rfl) (by kernel_rfl) (by kernel_rfl) ?_
   conv => whnf
   refine wd1 (mid _ (by dsimp only; omega) ?_)
   exact cvr
  ·refine Wany.takeF (cx_ok []) 6 (by rfl) (by rfl) (by rfl) (by rfl) (by decide) (by kernel_rfl) (by kernel_rfl) (by kernel_rfl) ?_
   conv => whnf
   refine w2 3 7 ?_ ?_ <;> conv => whnf
   ·refine w1 7 ?_
    conv => whnf
    refine w1 8 ?_
    conv => whnf
    refine Wany.takeB (cx_ok []) 9 (by rfl) (by rfl) (by rfl) (by rfl) (by decide) (by rfl) (by rfl) (by kernel_rfl) (by kernel_rfl) (by kernel_rfl) ?_
    conv => whnf
    refine wd1 (mid _ (by dsimp only; omega) ?_)
    exact cvr
   ·refine w2 3 8 ?_ ?_ <;> conv => whnf
    ·refine w1 8 ?_
     conv => whnf
     refine Wany.takeB (cx_ok []) 9 (by rfl) (by rfl) (by rfl) (by rfl) (by decide) (by rfl) (by rfl) (by kernel_rfl) (by kernel_rfl) (by kernel_rfl) ?_
     conv => whnf
     refine wd1 (mid _ (by dsimp only; omega) ?_)
     exact cvr
    ·refine w1 3 ?_
     conv => whnf
     refine Wany.takeB (cx_ok []) 9 (by rfl) (by rfl) (by rfl) (by rfl) (by decide) (by rfl) (by rfl) (by kernel_rfl) (by kernel_rfl) (by kernel_rfl) ?_
     conv => whnf
     refine wd1 (mid _ (by dsimp only; omega) ?_)
     exact cvr
 ·refine Wany.takeF (cx_ok []) 6 (by rfl) (by rfl) (by rfl) (by rfl) (by decide) (by kernel_rfl) (by kernel_rfl) (by kernel_rfl) ?_
  conv => whnf
  refine w2 1 7 ?_ ?_ <;> conv => whnf
  ·refine Wany.takeF (cx_ok []) 2 (by rfl) (by rfl) (by rfl) (by rfl) (by decide) (by kernel_rfl) (by kernel_rfl) (by kernel_rfl) ?_
   conv => whnf
   refine w2 3 7 ?_ ?_ <;> conv => whnf
   ·refine w1 7 ?_
    conv => whnf
    refine w1 8 ?_
    conv => whnf
    refine Wany.takeB (cx_ok []) 9 (by rfl) (by rfl) (by rfl) (by rfl) (by decide) (by rfl) (by rfl) (by kernel_rfl) (by kernel_rfl) (by kernel_rfl) ?_
    conv => whnf
    refine wd1 (mid _ (by dsimp only; omega) ?_)
    exact cvr
   ·refine w2 3 8 ?_ ?_ <;> conv => whnf
    ·refine w1 8 ?_
     conv => whnf
     refine Wany.takeB (cx_ok []) 9 (by rfl) (by rfl) (by rfl) (by rfl) (by decide) (by rfl) (by rfl) (by kernel_rfl) (by kernel_rfl) (by kernel_rfl) ?_
     conv => whnf
     refine wd1 (mid _ (by dsimp only; omega) ?_)
     exact cvr
    ·refine w1 3 ?_
     conv => whnf
     refine Wany.takeB (cx_ok []) 9 (by rfl) (by rfl) (by rfl) (by rfl) (by decide) (by rfl) (by rfl) (by kernel_rfl) (by kernel_rfl) (by kernel_rfl) ?_
     conv => whnf
     refine wd1 (mid _ (by dsimp only; omega) ?_)
     exact cvr
  ·refine w2 1 8 ?_ ?_ <;> conv => whnf
   ·refine Wany.takeF (cx_ok []) 2 (by rfl) (by rfl) (by rfl) (by rfl) (by decide) (by kernel_rfl) (by kernel_rfl) (by kernel_rfl) ?_
    conv => whnf
    refine w2 3 8 ?_ ?_ <;> conv => whnf
    ·refine w1 8 ?_
     conv => whnf
     refine Wany.takeB (cx_ok []) 9 (by rfl) (by rfl) (by rfl) (by rfl) (by decide) (by rfl) (by rfl) (by kernel_rfl) (by kernel_rfl) (by kernel_rfl) ?_
     conv => whnf
     refine wd1 (mid _ (by dsimp only; omega) ?_)
     exact cvr
    ·refine w1 3 ?_
     conv => whnf
     refine Wany.takeB (cx_ok []) 9 (by rfl) (by rfl) (by rfl) (by rfl) (by decide) (by rfl) (by rfl) (by kernel_rfl) (by kernel_rfl) (by kernel_rfl) ?_
     conv => whnf
     refine wd1 (mid _ (by dsimp only; omega) ?_)
     exact cvr
   ·refine w1 1 ?_
    conv => whnf
    refine Wany.takeF (cx_ok []) 2 (by rfl) (by rfl) (by rfl) (by rfl) (by decide) (by kernel_rfl) (by kernel_rfl) (by kernel_rfl) ?_
    conv => whnf
    refine w1 3 ?_
    conv => whnf
    refine Wany.takeB (cx_ok []) 9 (by rfl) (by rfl) (by rfl) (by rfl) (by decide) (by rfl) (by rfl) (by kernel_rfl) (by kernel_rfl) (by kernel_rfl) ?_
    conv => whnf
    refine wd1 (mid _ (by dsimp only; omega) ?_)
    exact cvr
-- 10 ways

theorem l01Pick_m {n : Nat} {c : Nat → Int} (hc : Byt n c) (g : Option Nat) (L : List Int) (hL : 1 ≤ L.length ∧ L.length ≤ 1000) : MSrc 182 [.ints g L] n c (fun r => ∃ q : Int, r = .int .i64 q ∧ q ∈ L) := by
 rintro b x hx
 refine mfn_ofV (cx := cxt [] [0, 1, 4, 1000000, 1000001]) (cxt_ok [] [0, 1, 4, 1000000, 1000001]) Tryz.func182 rfl (by decide) Tryz.ntmps182 (Nat.le_of_ble_eq_true rfl) (Nat.le_of_ble_eq_true rfl) rfl rfl fun base hs0 O U hw v0 hb0 => ?_
 refine W.sw (c' := cx [0, 1, 4, 1000000, 1000001]) ?_
 refine wrs fun K hK => ?_
 conv => whnf
 refine hK _ ?_
 clear hK K
 refine wrs fun K hK => ?_
 conv => whnf
 refine ⟨⟨rfl, rfl⟩, ?_⟩
 conv => whnf
 refine ⟨rfl, _, (l01Next_m hc L.length (by constructor <;> omega) b x hx), ?_⟩
 rintro hs_ms1 av x' t' hh_ms1 ⟨rfl, ⟨x1, hx1, rfl⟩, _, rfl, ⟨q, rfl, h1, h2, h3⟩⟩ _ _ _
 try dsimp only at hh_ms1
 conv => whnf
 have h4 : q.toNat < L.length := by
  rcases Nat.lt_or_ge 1 L.length with h | h
  ·have := h2 (by omega); omega
  ·have := h3 (by omega); omega
 refine ⟨oo, ?_⟩
 conv => whnf
 refine hK _ ?_
 clear hK K
 refine W.ret ?_
 conv => whnf
 refine ⟨by dsimp only; omega, ?_⟩
 conv => whnf
 refine ⟨rfl, ?_⟩
 conv => whnf
 refine ⟨.int .i64 (L.getD q.toNat 0), ⟨rfl, rfl⟩, ?_⟩
 conv => whnf
 exact ⟨.ownB b (x1), ⟨rfl, rfl⟩, .inr ⟨rfl, rfl⟩, .dead, trivial, rfl, rfl, rfl, ⟨x1, hx1, rfl⟩, _, rfl, ⟨L.getD q.toNat 0, rfl, by rw [List.getD_eq_getElem?_getD, List.getElem?_eq_getElem h4]; exact List.getElem_mem h4⟩⟩

theorem l01From_fn {n : Nat} {c : Nat → Int} (hc : Byt n c) : Fn Tryz.prog 180 [vBy n c] (fun _ _ z => ∃ b x, OkSrc n c x ∧ z = .ownB b x) := by
 have hcf := hc.few
 refine fn_of (cx_ok [0, 2, 3, 4, 15]) Tryz.func180 rfl (by decide) Tryz.ntmps180 (Nat.le_of_ble_eq_true rfl) fun base => ?_
 refine wrs fun K hK => ?_
 conv => whnf
 refine hK _ ?_
 clear hK K
 refine wrs fun K hK => ?_
 conv => whnf
 refine ⟨rfl, ?_⟩
 conv => whnf
 intro b_3 hs_3 hh_3 hf_3
 try dsimp only at hh_3 hf_3
 conv => whnf
 refine hK _ ?_
 clear hK K
 refine W.seqK fun K1 hK1 => wrs fun K hK => ?_
 conv => whnf
 refine hK _ (W.block (W.invA (fun m e => ∃ (i : Nat) (seed : Int), i ≤ n ∧ (0 ≤ seed ∧ seed < 2147483647) ∧ m = n - i ∧ e = [(0, .v (vBy n c)), (3, .ownB b_3 (vSrc n c 0 seed)), (4, .v (.int .i64 i))]) ⟨0, 31019, Nat.zero_le _, ⟨by decide, by decide⟩, rfl, rfl⟩ ?_))
 clear hK K
 rintro m e ⟨i, seed, h1, h2, hm, rfl⟩
 have fin : ∀ t : S, base ≤ t.hs → coverK t.env [(3, .ownB b_3 (vSrc n c 0 seed))] → K1 t := by
  intro t h9 h10
  refine hK1 _ (W.weak (t := ⟨[(3, .ownB b_3 (vSrc n c 0 seed))], base⟩) ⟨h9, h10⟩ (Nat.le_refl _) ?_)
  clear hK1 K1
  refine W.sw (c' := cxr [0, 2, 3, 4, 15]) (W.rs (cxr_ok _) (by rfl) fun K hK => ?_)
  conv => whnf
  refine hK _ ?_
  clear hK K
  refine W.ret ?_
  conv => whnf
  exact ⟨.ownB b_3 (vSrc n c 0 seed), ⟨rfl, rfl⟩, ⟨⟨trivial, fun _ _ => trivial⟩, trivial, trivial, trivial⟩, b_3, _, ⟨0, seed, Nat.zero_le _, h2, rfl⟩, rfl⟩
 refine W.seqK fun K7 hK7 => ?_
 refine wrs fun K hK => ?_
 conv => whnf
 refine ⟨fun h3 => ?_, fun h3 => ?_⟩ <;> conv => whnf
 ·have h3 := of_decide_eq_true h3
  refine hK _ (W.cond ⟨fun h4 => ?_, fun h4 => ?_⟩) <;> clear hK K
  ·have hb := hc.bd i
   obtain ⟨s2, e1, h5, h6⟩ := tmod_in (a := seed * 61 + c i) (b := 2147483647) (by omega) (by decide)
   refine W.skip (hK7 _ (W.seqK fun K8 hK8 => W.block ?_))
   clear hK7 K7 fin
   refine W.sch follows ?_
   refine wt 0 ?_
   conv => whnf
   refine wt 1 ?_
   conv => whnf
   refine wt 6 ?_
   conv => whnf
   refine wt 7 ?_
   conv => whnf
   refine wi 8 ?_
   conv => whnf
   refine ⟨oo, ?_⟩
   conv => whnf
   rw [Int.toNat_natCast]
   refine w2 2 9 ?_ ?_ <;> conv => whnf
   ·refine Wany.takeF (cx_ok []) 3 (by rfl) (by rfl) (by rfl) (by rfl) (by decide) (by kernel_rfl) (by kernel_rfl) (by kernel_rfl) ?_
    conv => whnf
    refine w2 4 9 ?_ ?_ <;> conv => whnf
    ·refine Wany.takeB (cx_ok []) 5 (by rfl) (by rfl) (by rfl) (by rfl) (by decide) (by rfl) (by rfl) (by kernel_rfl) (by kernel_rfl) (by kernel_rfl) ?_
     conv => whnf
     refine ⟨oo, ?_⟩
     conv => whnf
     refine w1 9 ?_
     conv => whnf
     refine w1 10 ?_
     conv => whnf
     refine ⟨⟨hb.1, hb.2⟩, ?_⟩
     conv => whnf
     refine Wany.takeB (cx_ok []) 11 (by rfl) (by rfl) (by rfl) (by rfl) (by decide) (by rfl) (by rfl) (by kernel_rfl) (by kernel_rfl) (by kernel_rfl) ?_
     conv => whnf
     refine ⟨by show _ ≤ seed * 61 + c i ∧ seed * 61 + c i ≤ _; omega, ?_⟩
     conv => whnf
     refine Wany.takeB (cx_ok []) 12 (by rfl) (by rfl) (by rfl) (by rfl) (by decide) (by rfl) (by rfl) (by kernel_rfl) (by kernel_rfl) (by kernel_rfl) ?_
     conv => whnf
     refine ⟨by decide, ?_⟩
     conv => whnf
     rw [e1]
     refine w1 13 ?_
     conv => whnf
     refine Wany.takeF (cx_ok []) 14 (by rfl) (by rfl) (by rfl) (by rfl) (by decide) (by kernel_rfl) (by kernel_rfl) (by kernel_rfl) ?_
     conv => whnf
     refine w1 15 ?_
     conv => whnf
     refine ⟨⟨(by show 2 + 1 ≤ 3; omega), rfl⟩, ?_⟩
     conv => whnf
     refine wd1 (hK8 _ ?_)
     clear hK8 K8
     refine wrg ?_
     conv => whnf
     refine ⟨oo, ?_⟩
     conv => whnf
     exact againA ⟨i + 1, s2, by omega, ⟨h5, h6⟩, rfl, rfl⟩
    ·refine w2 4 10 ?_ ?_ <;> conv => whnf
     ·refine Wany.takeB (cx_ok []) 5 (by rfl) (by rfl) (by rfl) (by rfl) (by decide) (by rfl) (by rfl) (by kernel_rfl) (by kernel_rfl) (by kernel_rfl) ?_
      conv => whnf
      refine ⟨oo, ?_⟩
      conv => whnf
      refine w1 10 ?_
      conv => whnf
      refine ⟨⟨hb.1, hb.2⟩, ?_⟩
      conv => whnf
      refine Wany.takeB (cx_ok []) 11 (by rfl) (by rfl) (by rfl) (by rfl) (by decide) (by rfl) (by rfl) (by kernel_rfl) (by kernel_rfl) (by kernel_rfl) ?_
      conv => whnf
      refine ⟨by show _ ≤ seed * 61 + c i ∧ seed * 61 + c i ≤ _; omega, ?_⟩
      conv => whnf
      refine Wany.takeB (cx_ok []) 12 (by rfl) (by rfl) (by rfl) (by rfl) (by decide) (by rfl) (by rfl) (by kernel_rfl) (by kernel_rfl) (by kernel_rfl) ?_
      conv => whnf
      refine ⟨by decide, ?_⟩
      conv => whnf
      rw [e1]
      refine w1 13 ?_
      conv => whnf
      refine Wany.takeF (cx_ok []) 14 (by rfl) (by rfl) (by rfl) (by rfl) (by decide) (by kernel_rfl) (by kernel_rfl) (by kernel_rfl) ?_
      conv => whnf
      refine w1 15 ?_
      conv => whnf
      refine ⟨⟨(by show 2 + 1 ≤ 3; omega), rfl⟩, ?_⟩
      conv => whnf
      refine wd1 (hK8 _ ?_)
      clear hK8 K8
      refine wrg ?_
      conv => whnf
      refine ⟨oo, ?_⟩
      conv => whnf
      exact againA ⟨i + 1, s2, by omega, ⟨h5, h6⟩, rfl, rfl⟩
     ·refine ⟨⟨hb.1, hb.2⟩, ?_⟩
      conv => whnf
      refine w1 4 ?_
      conv => whnf
      refine Wany.takeB (cx_ok []) 5 (by rfl) (by rfl) (by rfl) (by rfl) (by decide) (by rfl) (by rfl) (by kernel_rfl) (by kernel_rfl) (by kernel_rfl) ?_
      conv => whnf
      refine ⟨oo, ?_⟩
      conv => whnf
      refine Wany.takeB (cx_ok []) 11 (by rfl) (by rfl) (by rfl) (by rfl) (by decide) (by rfl) (by rfl) (by kernel_rfl) (by kernel_rfl) (by kernel_rfl) ?_
      conv => whnf
      refine ⟨by show _ ≤ seed * 61 + c i ∧ seed * 61 + c i ≤ _; omega, ?_⟩
      conv => whnf
      refine Wany.takeB (cx_ok []) 12 (by rfl) (by rfl) (by rfl) (by rfl) (by decide) (by rfl) (by rfl) (by kernel_rfl) (by kernel_rfl) (by kernel_rfl) ?_
      conv => whnf
      refine ⟨by decide, ?_⟩
      conv => whnf
      rw [e1]
      refine w1 13 ?_
      conv => whnf
      refine Wany.takeF (cx_ok []) 14 (by rfl) (by rfl) (by rfl) (by rfl) (by decide) (by kernel_rfl) (by kernel_rfl) (by kernel_rfl) ?_
      conv => whnf
      refine w1 15 ?_
      conv => whnf
      refine ⟨⟨(by show 2 + 1 ≤ 3; omega), rfl⟩, ?_⟩
      conv => whnf
      refine wd1 (hK8 _ ?_)
      clear hK8 K8
      refine wrg ?_
      conv => whnf
      refine ⟨oo, ?_⟩
      conv => whnf
      exact againA ⟨i + 1, s2, by omega, ⟨h5, h6⟩, rfl, rfl⟩
   ·refine w2 2 10 ?_ ?_ <;> conv => whnf
    ·refine Wany.takeF (cx_ok []) 3 (by rfl) (by rfl) (by rfl) (by rfl) (by decide) (by kernel_rfl) (by kernel_rfl) (by kernel_rfl) ?_
     conv => whnf
     refine w2 4 10 ?_ ?_ <;> conv => whnf
     ·refine Wany.takeB (cx_ok []) 5 (by rfl) (by rfl) (by rfl) (by rfl) (by decide) (by rfl) (by rfl) (by kernel_rfl) (by kernel_rfl) (by kernel_rfl) ?_
      conv => whnf
      refine ⟨oo, ?_⟩
      conv => whnf
      refine w1 10 ?_
      conv => whnf
      refine ⟨⟨hb.1, hb.2⟩, ?_⟩
      conv => whnf
      refine Wany.takeB (cx_ok []) 11 (by rfl) (by rfl) (by rfl) (by rfl) (by decide) (by rfl) (by rfl) (by kernel_rfl) (by kernel_rfl) (by kernel_rfl) ?_
      conv => whnf
      refine ⟨by show _ ≤ seed * 61 + c i ∧ seed * 61 + c i ≤ _; omega, ?_⟩
      conv => whnf
      refine Wany.takeB (cx_ok []) 12 (by rfl) (by rfl) (by rfl) (by rfl) (by decide) (by rfl) (by rfl) (by kernel_rfl) (by kernel_rfl) (by kernel_rfl) ?_
      conv => whnf
      refine ⟨by decide, ?_⟩
      conv => whnf
      rw [e1]
      refine w1 13 ?_
      conv => whnf
      refine Wany.takeF (cx_ok []) 14 (by rfl) (by rfl) (by rfl) (by rfl) (by decide) (by kernel_rfl) (by kernel_rfl) (by kernel_rfl) ?_
      conv => whnf
      refine w1 15 ?_
      conv => whnf
      refine ⟨⟨(by show 2 + 1 ≤ 3; omega), rfl⟩, ?_⟩
      conv => whnf
      refine wd1 (hK8 _ ?_)
      clear hK8 K8
      refine wrg ?_
      conv => whnf
      refine ⟨oo, ?_⟩
      conv => whnf
      exact againA ⟨i + 1, s2, by omega, ⟨h5, h6⟩, rfl, rfl⟩
     ·refine ⟨⟨hb.1, hb.2⟩, ?_⟩
      conv => whnf
      refine w1 4 ?_
      conv => whnf
      refine Wany.takeB (cx_ok []) 5 (by rfl) (by rfl) (by rfl) (by rfl) (by decide) (by rfl) (by rfl) (by kernel_rfl) (by kernel_rfl) (by kernel_rfl) ?_
      conv => whnf
      refine ⟨oo, ?_⟩
      conv => whnf
      refine Wany.takeB (cx_ok []) 11 (by rfl) (by rfl) (by rfl) (by rfl) (by decide) (by rfl) (by rfl) (by kernel_rfl) (by kernel_rfl) (by kernel_rfl) ?_
      conv => whnf
      refine ⟨by show _ ≤ seed * 61 + c i ∧ seed * 61 + c i ≤ _; omega, ?_⟩
      conv => whnf
      refine Wany.takeB (cx_ok []) 12 (by rfl) (by rfl) (by rfl) (by rfl) (by decide) (by rfl) (by rfl) (by kernel_rfl) (by kernel_rfl) (by kernel_rfl) ?_
      conv => whnf
      refine ⟨by decide, ?_⟩
      conv => whnf
      rw [e1]
      refine w1 13 ?_
      conv => whnf
      refine Wany.takeF (cx_ok []) 14 (by rfl) (by rfl) (by rfl) (by rfl) (by decide) (by kernel_rfl) (by kernel_rfl) (by kernel_rfl) ?_
      conv => whnf
      refine w1 15 ?_
      conv => whnf
      refine ⟨⟨(by show 2 + 1 ≤ 3; omega), rfl⟩, ?_⟩
      conv => whnf
      refine wd1 (hK8 _ ?_)
      clear hK8 K8
      refine wrg ?_
      conv => whnf
      refine ⟨oo, ?_⟩
      conv => whnf
      exact againA ⟨i + 1, s2, by omega, ⟨h5, h6⟩, rfl, rfl⟩
    ·refine ⟨⟨hb.1, hb.2⟩, ?_⟩
     conv => whnf
     refine w1 2 ?_
     conv => whnf
     refine Wany.takeF (cx_ok []) 3 (by rfl) (by rfl) (by rfl) (by rfl) (by decide) (by kernel_rfl) (by kernel_rfl) (by kernel_rfl) ?_
     conv => whnf
     refine w1 4 ?_
     conv => whnf
     refine Wany.takeB (cx_ok []) 5 (by rfl) (by rfl) (by rfl) (by rfl) (by decide) (by rfl) (by rfl) (by kernel_rfl) (by kernel_rfl) (by kernel_rfl) ?_
     conv => whnf
     refine ⟨oo, ?_⟩
     conv => whnf
     refine Wany.takeB (cx_ok []) 11 (by rfl) (by rfl) (by rfl) (by rfl) (by decide) (by rfl) (by rfl) (by kernel_rfl) (by kernel_rfl) (by kernel_rfl) ?_
     conv => whnf
     refine ⟨by show _ ≤ seed * 61 + c i ∧ seed * 61 + c i ≤ _; omega, ?_⟩
     conv => whnf
     refine Wany.takeB (cx_ok []) 12 (by rfl) (by rfl) (by rfl) (by rfl) (by decide) (by rfl) (by rfl) (by kernel_rfl) (by kernel_rfl) (by kernel_rfl) ?_
     conv => whnf
     refine ⟨by decide, ?_⟩
     conv => whnf
     rw [e1]
     refine w1 13 ?_
     conv => whnf
     refine Wany.takeF (cx_ok []) 14 (by rfl) (by rfl) (by rfl) (by rfl) (by decide) (by kernel_rfl) (by kernel_rfl) (by kernel_rfl) ?_
     conv => whnf
     refine w1 15 ?_
     conv => whnf
     refine ⟨⟨(by show 2 + 1 ≤ 3; omega), rfl⟩, ?_⟩
     conv => whnf
     refine wd1 (hK8 _ ?_)
     clear hK8 K8
     refine wrg ?_
     conv => whnf
     refine ⟨oo, ?_⟩
     conv => whnf
     exact againA ⟨i + 1, s2, by omega, ⟨h5, h6⟩, rfl, rfl⟩
-- 6 ways
  ·refine W.exit (fin _ (by dsimp only; omega) ?_)
   clear hK7 K7 fin
   exact cvr
 ·refine hK _ (W.condF rfl (W.exit (fin _ (by dsimp only; omega) ?_)))
  exact cvr

open Go Go.RowKit Go.Proofs Poly
set_option maxRecDepth 100000
set_option maxHeartbeats 8000000

abbrev vDi (n : Nat) (c : Nat → Int) (at' : Nat) (h : Int) : V := .agg [vBy n c, .int .i64 at', .int .u64 h]
def OkDi (n : Nat) (c : Nat → Int) (x : V) : Prop := ∃ (at' : Nat) (h : Int), at' ≤ n ∧ (0 ≤ h ∧ h < 18446744073709551616) ∧ x = vDi n c at' h
theorem emod64 (a : Int) : 0 ≤ a % 18446744073709551616 ∧ a % 18446744073709551616 < 18446744073709551616 := ⟨Int.emod_nonneg _ (by decide), Int.emod_lt_of_pos _ (by decide)⟩

theorem roll_fn {n : Nat} {c : Nat → Int} (hc : Byt n c) (seed : Int) : Fn Tryz.prog 50 [vBy n c, .int .u64 seed] (fun _ _ z => ∃ b x, OkDi n c x ∧ z = .ownB b x) := by
 have hcf := hc.few
 refine fn_of (cx_ok [0, 1, 4, 5, 6, 19]) Tryz.func50 rfl (by decide) Tryz.ntmps50 (Nat.le_of_ble_eq_true rfl) fun base => ?_
 refine wrs fun K hK => ?_
 conv => whnf
 refine hK _ ?_
 clear hK K
 refine wrs fun K hK => ?_
 conv => whnf
 refine ⟨⟨by omega, by constructor <;> omega⟩, ?_⟩
 conv => whnf
 refine ⟨rfl, ?_⟩
 conv => whnf
 intro b_5 hs_5 hh_5 hf_5
 try dsimp only at hh_5 hf_5
 conv => whnf
 refine hK _ ?_
 clear hK K
 refine W.seqK fun K1 hK1 => wrs fun K hK => ?_
 conv => whnf
 refine hK _ (W.block (W.invA (fun m e => ∃ (i : Nat) (h : Int), i ≤ n ∧ (0 ≤ h ∧ h < 18446744073709551616) ∧ m = n - i ∧ e = [(0, .v (vBy n c)), (5, .ownB b_5 (vDi n c 0 h)), (6, .v (.int .i64 i))]) ⟨0, _, Nat.zero_le _, emod64 _, rfl, rfl⟩ ?_))
 clear hK K
 rintro m e ⟨i, h, h1, h2, hm, rfl⟩
 refine W.seqK fun K7 hK7 => wrs fun K hK => ?_
 conv => whnf
 refine hK _ (W.cond ⟨fun h3 => ?_, fun h3 => ?_⟩) <;> clear hK K <;> (first | replace h3 := of_decide_eq_true h3 | replace h3 := of_decide_eq_false h3)
 ·have hb := hc.bd i
  refine W.skip (hK7 _ (W.seqK fun K8 hK8 => W.block ?_))
  clear hK7 K7
  refine W.sch follows ?_
  refine wt 0 ?_
  conv => whnf
  refine wt 1 ?_
  conv => whnf
  refine wt 6 ?_
  conv => whnf
  refine wt 7 ?_
  conv => whnf
  refine w2 2 8 ?_ ?_ <;> conv => whnf
  ·refine Wany.takeF (cx_ok []) 3 (by rfl) (by rfl) (by rfl) (by rfl) (by decide) (by kernel_rfl) (by kernel_rfl) (by kernel_rfl) ?_
   conv => whnf
   refine w2 4 8 ?_ ?_ <;> conv => whnf
   ·refine w2 5 8 ?_ ?_ <;> conv => whnf
    ·refine w1 8 ?_
     conv => whnf
     refine ⟨oo, ?_⟩
     conv => whnf
     rw [Int.toNat_natCast]
     refine w1 9 ?_
     conv => whnf
     refine w1 10 ?_
     conv => whnf
     refine ⟨⟨hb.1, hb.2⟩, ?_⟩
     conv => whnf
     refine w1 11 ?_
     conv => whnf
     refine w1 12 ?_
     conv => whnf
     refine w1 13 ?_
     conv => whnf
     refine Wany.takeF (cx_ok []) 14 (by rfl) (by rfl) (by rfl) (by rfl) (by decide) (by kernel_rfl) (by kernel_rfl) (by kernel_rfl) ?_
     conv => whnf
     refine w1 15 ?_
     conv => whnf
     refine ⟨⟨(by show 2 + 1 ≤ 3; omega), rfl⟩, ?_⟩
     conv => whnf
     refine wd1 (hK8 _ ?_)
     clear hK8 K8
     refine wrg ?_
     conv => whnf
     refine ⟨oo, ?_⟩
     conv => whnf
     exact againA ⟨i + 1, _, by omega, emod64 _, rfl, rfl⟩
    ·refine ⟨oo, ?_⟩
     conv => whnf
     rw [Int.toNat_natCast]
     refine w2 5 9 ?_ ?_ <;> conv => whnf
     ·refine w1 9 ?_
      conv => whnf
      refine w1 10 ?_
      conv => whnf
      refine ⟨⟨hb.1, hb.2⟩, ?_⟩
      conv => whnf
      refine w1 11 ?_
      conv => whnf
      refine w1 12 ?_
      conv => whnf
      refine w1 13 ?_
      conv => whnf
      refine Wany.takeF (cx_ok []) 14 (by rfl) (by rfl) (by rfl) (by rfl) (by decide) (by kernel_rfl) (by kernel_rfl) (by kernel_rfl) ?_
      conv => whnf
      refine w1 15 ?_
      conv => whnf
      refine ⟨⟨(by show 2 + 1 ≤ 3; omega), rfl⟩, ?_⟩
      conv => whnf
      refine wd1 (hK8 _ ?_)
      clear hK8 K8
      refine wrg ?_
      conv => whnf
      refine ⟨oo, ?_⟩
      conv => whnf
      exact againA ⟨i + 1, _, by omega, emod64 _, rfl, rfl⟩
     ·refine w2 5 10 ?_ ?_ <;> conv => whnf
      ·refine w1 10 ?_
       conv => whnf
       refine ⟨⟨hb.1, hb.2⟩, ?_⟩
       conv => whnf
       refine w1 11 ?_
       conv => whnf
       refine w1 12 ?_
       conv => whnf
       refine w1 13 ?_
       conv => whnf
       refine Wany.takeF (cx_ok []) 14 (by rfl) (by rfl) (by rfl) (by rfl) (by decide) (by kernel_rfl) (by kernel_rfl) (by kernel_rfl) ?_
       conv => whnf
       refine w1 15 ?_
       conv => whnf
       refine ⟨⟨(by show 2 + 1 ≤ 3; omega), rfl⟩, ?_⟩
       conv => whnf
       refine wd1 (hK8 _ ?_)
       clear hK8 K8
       refine wrg ?_
       conv => whnf
       refine ⟨oo, ?_⟩
       conv => whnf
       exact againA ⟨i + 1, _, by omega, emod64 _, rfl, rfl⟩
      ·refine ⟨⟨hb.1, hb.2⟩, ?_⟩
       conv => whnf
       refine w1 5 ?_
       conv => whnf
       refine w1 11 ?_
       conv => whnf
       refine w1 12 ?_
       conv => whnf
       refine w1 13 ?_
       conv => whnf
       refine Wany.takeF (cx_ok []) 14 (by rfl) (by rfl) (by rfl) (by rfl) (by decide) (by kernel_rfl) (by kernel_rfl) (by kernel_rfl) ?_
       conv => whnf
       refine w1 15 ?_
       conv => whnf
       refine ⟨⟨(by show 2 + 1 ≤ 3; omega), rfl⟩, ?_⟩
       conv => whnf
       refine wd1 (hK8 _ ?_)
       clear hK8 K8
       refine wrg ?_
       conv => whnf
       refine ⟨oo, ?_⟩
       conv => whnf
       exact againA ⟨i + 1, _, by omega, emod64 _, rfl, rfl⟩
   ·refine ⟨oo, ?_⟩
    conv => whnf
    rw [Int.toNat_natCast]
    refine w2 4 9 ?_ ?_ <;> conv => whnf
    ·refine w2 5 9 ?_ ?_ <;> conv => whnf
     ·refine w1 9 ?_
      conv => whnf
      refine w1 10 ?_
      conv => whnf
      refine ⟨⟨hb.1, hb.2⟩, ?_⟩
      conv => whnf
      refine w1 11 ?_
      conv => whnf
      refine w1 12 ?_
      conv => whnf
      refine w1 13 ?_
      conv => whnf
      refine Wany.takeF (cx_ok []) 14 (by rfl) (by rfl) (by rfl) (by rfl) (by decide) (by kernel_rfl) (by kernel_rfl) (by kernel_rfl) ?_
      conv => whnf
      refine w1 15 ?_
      conv => whnf
      refine ⟨⟨(by show 2 + 1 ≤ 3; omega), rfl⟩, ?_⟩
      conv => whnf
      refine wd1 (hK8 _ ?_)
      clear hK8 K8
      refine wrg ?_
      conv => whnf
      refine ⟨oo, ?_⟩
      conv => whnf
      exact againA ⟨i + 1, _, by omega, emod64 _, rfl, rfl⟩
     ·refine w2 5 10 ?_ ?_ <;> conv => whnf
      ·refine w1 10 ?_
       conv => whnf
       refine ⟨⟨hb.1, hb.2⟩, ?_⟩
       conv => whnf
       refine w1 11 ?_
       conv => whnf
       refine w1 12 ?_
       conv => whnf
       refine w1 13 ?_
       conv => whnf
       refine Wany.takeF (cx_ok []) 14 (by rfl) (by rfl) (by rfl) (by rfl) (by decide) (by kernel_rfl) (by kernel_rfl) (by kernel_rfl) ?_
       conv => whnf
       refine w1 15 ?_
       conv => whnf
       refine ⟨⟨(by show 2 + 1 ≤ 3; omega), rfl⟩, ?_⟩
       conv => whnf
       refine wd1 (hK8 _ ?_)
       clear hK8 K8
       refine wrg ?_
       conv => whnf
       refine ⟨oo, ?_⟩
       conv => whnf
       exact againA ⟨i + 1, _, by omega, emod64 _, rfl, rfl⟩
      ·refine ⟨⟨hb.1, hb.2⟩, ?_⟩
       conv => whnf
       refine w1 5 ?_
       conv => whnf
       refine w1 11 ?_
       conv => whnf
       refine w1 12 ?_
       conv => whnf
       refine w1 13 ?_
       conv => whnf
       refine Wany.takeF (cx_ok []) 14 (by rfl) (by rfl) (by rfl) (by rfl) (by decide) (by kernel_rfl) (by kernel_rfl) (by kernel_rfl) ?_
       conv => whnf
       refine w1 15 ?_
       conv => whnf
       refine ⟨⟨(by show 2 + 1 ≤ 3; omega), rfl⟩, ?_⟩
       conv => whnf
       refine wd1 (hK8 _ ?_)
       clear hK8 K8
       refine wrg ?_
       conv => whnf
       refine ⟨oo, ?_⟩
       conv => whnf
       exact againA ⟨i + 1, _, by omega, emod64 _, rfl, rfl⟩
    ·refine w2 4 10 ?_ ?_ <;> conv => whnf
     ·refine w2 5 10 ?_ ?_ <;> conv => whnf
      ·refine w1 10 ?_
       conv => whnf
       refine ⟨⟨hb.1, hb.2⟩, ?_⟩
       conv => whnf
       refine w1 11 ?_
       conv => whnf
       refine w1 12 ?_
       conv => whnf
       refine w1 13 ?_
       conv => whnf
       refine Wany.takeF (cx_ok []) 14 (by rfl) (by rfl) (by rfl) (by rfl) (by decide) (by kernel_rfl) (by kernel_rfl) (by kernel_rfl) ?_
       conv => whnf
       refine w1 15 ?_
       conv => whnf
       refine ⟨⟨(by show 2 + 1 ≤ 3; omega), rfl⟩, ?_⟩
       conv => whnf
       refine wd1 (hK8 _ ?_)
       clear hK8 K8
       refine wrg ?_
       conv => whnf
       refine ⟨oo, ?_⟩
       conv => whnf
       exact againA ⟨i + 1, _, by omega, emod64 _, rfl, rfl⟩
      ·refine ⟨⟨hb.1, hb.2⟩, ?_⟩
       conv => whnf
       refine w1 5 ?_
       conv => whnf
       refine w1 11 ?_
       conv => whnf
       refine w1 12 ?_
       conv => whnf
       refine w1 13 ?_
       conv => whnf
       refine Wany.takeF (cx_ok []) 14 (by rfl) (by rfl) (by rfl) (by rfl) (by decide) (by kernel_rfl) (by kernel_rfl) (by kernel_rfl) ?_
       conv => whnf
       refine w1 15 ?_
       conv => whnf
       refine ⟨⟨(by show 2 + 1 ≤ 3; omega), rfl⟩, ?_⟩
       conv => whnf
       refine wd1 (hK8 _ ?_)
       clear hK8 K8
       refine wrg ?_
       conv => whnf
       refine ⟨oo, ?_⟩
       conv => whnf
       exact againA ⟨i + 1, _, by omega, emod64 _, rfl, rfl⟩
     ·refine ⟨⟨hb.1, hb.2⟩, ?_⟩
      conv => whnf
      refine w1 4 ?_
      conv => whnf
      refine w1 5 ?_
      conv => whnf
      refine w1 11 ?_
      conv => whnf
      refine w1 12 ?_
      conv => whnf
      refine w1 13 ?_
      conv => whnf
      refine Wany.takeF (cx_ok []) 14 (by rfl) (by rfl) (by rfl) (by rfl) (by decide) (by kernel_rfl) (by kernel_rfl) (by kernel_rfl) ?_
      conv => whnf
      refine w1 15 ?_
      conv => whnf
      refine ⟨⟨(by show 2 + 1 ≤ 3; omega), rfl⟩, ?_⟩
      conv => whnf
      refine wd1 (hK8 _ ?_)
      clear hK8 K8
      refine wrg ?_
      conv => whnf
      refine ⟨oo, ?_⟩
      conv => whnf
      exact againA ⟨i + 1, _, by omega, emod64 _, rfl, rfl⟩
  ·refine ⟨oo, ?_⟩
   conv => whnf
   rw [Int.toNat_natCast]
   refine w2 2 9 ?_ ?_ <;> conv => whnf
   ·refine Wany.takeF (cx_ok []) 3 (by rfl) (by rfl) (by rfl) (by rfl) (by decide) (by kernel_rfl) (by kernel_rfl) (by kernel_rfl) ?_
    conv => whnf
    refine w2 4 9 ?_ ?_ <;> conv => whnf
    ·refine w2 5 9 ?_ ?_ <;> conv => whnf
     ·refine w1 9 ?_
      conv => whnf
      refine w1 10 ?_
      conv => whnf
      refine ⟨⟨hb.1, hb.2⟩, ?_⟩
      conv => whnf
      refine w1 11 ?_
      conv => whnf
      refine w1 12 ?_
      conv => whnf
      refine w1 13 ?_
      conv => whnf
      refine Wany.takeF (cx_ok []) 14 (by rfl) (by rfl) (by rfl) (by rfl) (by decide) (by kernel_rfl) (by kernel_rfl) (by kernel_rfl) ?_
      conv => whnf
      refine w1 15 ?_
      conv => whnf
      refine ⟨⟨(by show 2 + 1 ≤ 3; omega), rfl⟩, ?_⟩
      conv => whnf
      refine wd1 (hK8 _ ?_)
      clear hK8 K8
      refine wrg ?_
      conv => whnf
      refine ⟨oo, ?_⟩
      conv => whnf
      exact againA ⟨i + 1, _, by omega, emod64 _, rfl, rfl⟩
     ·refine w2 5 10 ?_ ?_ <;> conv => whnf
      ·refine w1 10 ?_
       conv => whnf
       refine ⟨⟨hb.1, hb.2⟩, ?_⟩
       conv => whnf
       refine w1 11 ?_
       conv => whnf
       refine w1 12 ?_
       conv => whnf
       refine w1 13 ?_
       conv => whnf
       refine Wany.takeF (cx_ok []) 14 (by rfl) (by rfl) (by rfl) (by rfl) (by decide) (by kernel_rfl) (by kernel_rfl) (by kernel_rfl) ?_
       conv => whnf
       refine w1 15 ?_
       conv => whnf
       refine ⟨⟨(by show 2 + 1 ≤ 3; omega), rfl⟩, ?_⟩
       conv => whnf
       refine wd1 (hK8 _ ?_)
       clear hK8 K8
       refine wrg ?_
       conv => whnf
       refine ⟨oo, ?_⟩
       conv => whnf
       exact againA ⟨i + 1, _, by omega, emod64 _, rfl, rfl⟩
      ·refine ⟨⟨hb.1, hb.2⟩, ?_⟩
       conv => whnf
       refine w1 5 ?_
       conv => whnf
       refine w1 11 ?_
       conv => whnf
       refine w1 12 ?_
       conv => whnf
       refine w1 13 ?_
       conv => whnf
       refine Wany.takeF (cx_ok []) 14 (by rfl) (by rfl) (by rfl) (by rfl) (by decide) (by kernel_rfl) (by kernel_rfl) (by kernel_rfl) ?_
       conv => whnf
       refine w1 15 ?_
       conv => whnf
       refine ⟨⟨(by show 2 + 1 ≤ 3; omega), rfl⟩, ?_⟩
       conv => whnf
       refine wd1 (hK8 _ ?_)
       clear hK8 K8
       refine wrg ?_
       conv => whnf
       refine ⟨oo, ?_⟩
       conv => whnf
       exact againA ⟨i + 1, _, by omega, emod64 _, rfl, rfl⟩
    ·refine w2 4 10 ?_ ?_ <;> conv => whnf
     ·refine w2 5 10 ?_ ?_ <;> conv => whnf
      ·refine w1 10 ?_
       conv => whnf
       refine ⟨⟨hb.1, hb.2⟩, ?_⟩
       conv => whnf
       refine w1 11 ?_
       conv => whnf
       refine w1 12 ?_
       conv => whnf
       refine w1 13 ?_
       conv => whnf
       refine Wany.takeF (cx_ok []) 14 (by rfl) (by rfl) (by rfl) (by rfl) (by decide) (by kernel_rfl) (by kernel_rfl) (by kernel_rfl) ?_
       conv => whnf
       refine w1 15 ?_
       conv => whnf
       refine ⟨⟨(by show 2 + 1 ≤ 3; omega), rfl⟩, ?_⟩
       conv => whnf
       refine wd1 (hK8 _ ?_)
       clear hK8 K8
       refine wrg ?_
       conv => whnf
       refine ⟨oo, ?_⟩
       conv => whnf
       exact againA ⟨i + 1, _, by omega, emod64 _, rfl, rfl⟩
      ·refine ⟨⟨hb.1, hb.2⟩, ?_⟩
       conv => whnf
       refine w1 5 ?_
       conv => whnf
       refine w1 11 ?_
       conv => whnf
       refine w1 12 ?_
       conv => whnf
       refine w1 13 ?_
       conv => whnf
       refine Wany.takeF (cx_ok []) 14 (by rfl) (by rfl) (by rfl) (by rfl) (by decide) (by kernel_rfl) (by kernel_rfl) (by kernel_rfl) ?_
       conv => whnf
       refine w1 15 ?_
       conv => whnf
       refine ⟨⟨(by show 2 + 1 ≤ 3; omega), rfl⟩, ?_⟩
       conv => whnf
       refine wd1 (hK8 _ ?_)
       clear hK8 K8
       refine wrg ?_
       conv => whnf
       refine ⟨oo, ?_⟩
       conv => whnf
       exact againA ⟨i + 1, _, by omega, emod64 _, rfl, rfl⟩
     ·refine ⟨⟨hb.1, hb.2⟩, ?_⟩
      conv => whnf
      refine w1 4 ?_
      conv => whnf
      refine w1 5 ?_
      conv => whnf
      refine w1 11 ?_
      conv => whnf
      refine w1 12 ?_
      conv => whnf
      refine w1 13 ?_
      conv => whnf
      refine Wany.takeF (cx_ok []) 14 (by rfl) (by rfl) (by rfl) (by rfl) (by decide) (by kernel_rfl) (by kernel_rfl) (by kernel_rfl) ?_
      conv => whnf
      refine w1 15 ?_
      conv => whnf
      refine ⟨⟨(by show 2 + 1 ≤ 3; omega), rfl⟩, ?_⟩
      conv => whnf
      refine wd1 (hK8 _ ?_)
      clear hK8 K8
      refine wrg ?_
      conv => whnf
      refine ⟨oo, ?_⟩
      conv => whnf
      exact againA ⟨i + 1, _, by omega, emod64 _, rfl, rfl⟩
   ·refine w2 2 10 ?_ ?_ <;> conv => whnf
    ·refine Wany.takeF (cx_ok []) 3 (by rfl) (by rfl) (by rfl) (by rfl) (by decide) (by kernel_rfl) (by kernel_rfl) (by kernel_rfl) ?_
     conv => whnf
     refine w2 4 10 ?_ ?_ <;> conv => whnf
     ·refine w2 5 10 ?_ ?_ <;> conv => whnf
      ·refine w1 10 ?_
       conv => whnf
       refine ⟨⟨hb.1, hb.2⟩, ?_⟩
       conv => whnf
       refine w1 11 ?_
       conv => whnf
       refine w1 12 ?_
       conv => whnf
       refine w1 13 ?_
       conv => whnf
       refine Wany.takeF (cx_ok []) 14 (by rfl) (by rfl) (by rfl) (by rfl) (by decide) (by kernel_rfl) (by kernel_rfl) (by kernel_rfl) ?_
       conv => whnf
       refine w1 15 ?_
       conv => whnf
       refine ⟨⟨(by show 2 + 1 ≤ 3; omega), rfl⟩, ?_⟩
       conv => whnf
       refine wd1 (hK8 _ ?_)
       clear hK8 K8
       refine wrg ?_
       conv => whnf
       refine ⟨oo, ?_⟩
       conv => whnf
       exact againA ⟨i + 1, _, by omega, emod64 _, rfl, rfl⟩
      ·refine ⟨⟨hb.1, hb.2⟩, ?_⟩
       conv => whnf
       refine w1 5 ?_
       conv => whnf
       refine w1 11 ?_
       conv => whnf
       refine w1 12 ?_
       conv => whnf
       refine w1 13 ?_
       conv => whnf
       refine Wany.takeF (cx_ok []) 14 (by rfl) (by rfl) (by rfl) (by rfl) (by decide) (by kernel_rfl) (by kernel_rfl) (by kernel_rfl) ?_
       conv => whnf
       refine w1 15 ?_
       conv => whnf
       refine ⟨⟨(by show 2 + 1 ≤ 3; omega), rfl⟩, ?_⟩
       conv => whnf
       refine wd1 (hK8 _ ?_)
       clear hK8 K8
       refine wrg ?_
       conv => whnf
       refine ⟨oo, ?_⟩
       conv => whnf
       exact againA ⟨i + 1, _, by omega, emod64 _, rfl, rfl⟩
     ·refine ⟨⟨hb.1, hb.2⟩, ?_⟩
      conv => whnf
      refine w1 4 ?_
      conv => whnf
      refine w1 5 ?_
      conv => whnf
      refine w1 11 ?_
      conv => whnf
      refine w1 12 ?_
      conv => whnf
      refine w1 13 ?_
      conv => whnf
      refine Wany.takeF (cx_ok []) 14 (by rfl) (by rfl) (by rfl) (by rfl) (by decide) (by kernel_rfl) (by kernel_rfl) (by kernel_rfl) ?_
      conv => whnf
      refine w1 15 ?_
      conv => whnf
      refine ⟨⟨(by show 2 + 1 ≤ 3; omega), rfl⟩, ?_⟩
      conv => whnf
      refine wd1 (hK8 _ ?_)
      clear hK8 K8
      refine wrg ?_
      conv => whnf
      refine ⟨oo, ?_⟩
      conv => whnf
      exact againA ⟨i + 1, _, by omega, emod64 _, rfl, rfl⟩
    ·refine ⟨⟨hb.1, hb.2⟩, ?_⟩
     conv => whnf
     refine w1 2 ?_
     conv => whnf
     refine Wany.takeF (cx_ok []) 3 (by rfl) (by rfl) (by rfl) (by rfl) (by decide) (by kernel_rfl) (by kernel_rfl) (by kernel_rfl) ?_
     conv => whnf
     refine w1 4 ?_
     conv => whnf
     refine w1 5 ?_
     conv => whnf
     refine w1 11 ?_
     conv => whnf
     refine w1 12 ?_
     conv => whnf
     refine w1 13 ?_
     conv => whnf
     refine Wany.takeF (cx_ok []) 14 (by rfl) (by rfl) (by rfl) (by rfl) (by decide) (by kernel_rfl) (by kernel_rfl) (by kernel_rfl) ?_
     conv => whnf
     refine w1 15 ?_
     conv => whnf
     refine ⟨⟨(by show 2 + 1 ≤ 3; omega), rfl⟩, ?_⟩
     conv => whnf
     refine wd1 (hK8 _ ?_)
     clear hK8 K8
     refine wrg ?_
     conv => whnf
     refine ⟨oo, ?_⟩
     conv => whnf
     exact againA ⟨i + 1, _, by omega, emod64 _, rfl, rfl⟩
-- 20 ways
 ·refine W.exit (hK1 _ ?_)
  clear hK7 K7 hK1 K1
  refine W.sw (c' := cxr [0, 1, 4, 5, 6, 19]) (W.rs (cxr_ok _) (by rfl) fun K hK => ?_)
  conv => whnf
  refine hK _ ?_
  clear hK K
  refine W.ret ?_
  conv => whnf
  exact ⟨.ownB b_5 (vDi n c 0 h), ⟨rfl, rfl⟩, ⟨⟨trivial, fun _ _ => trivial⟩, trivial, trivial, trivial⟩, b_5, _, ⟨0, h, Nat.zero_le _, h2, rfl⟩, rfl⟩

theorem below_m {n : Nat} {c : Nat → Int} (hc : Byt n c) (m : Int) (hm : 1 ≤ m ∧ m ≤ 1000000000000) (b : Nat) (x : V) (hx : OkDi n c x) :
  MFn Tryz.prog 51 [.nil, .int .i64 m] 0 (.ownB b x) .dead (fun _ av x' t' => t' = .dead ∧ (∃ x1, OkDi n c x1 ∧ x' = .ownB b x1) ∧ ∃ r, av = .v r ∧ ∃ q : Int, r = .int .i64 q ∧ 0 ≤ q ∧ q < m) := by
 obtain ⟨at', h, h1, h2, rfl⟩ := hx
 have hcf := hc.few
 refine mfn_ofV (cx := cxt [] [0, 1, 4, 5, 31, 1000000, 1000001]) (cxt_ok [] [0, 1, 4, 5, 31, 1000000, 1000001]) Tryz.func51 rfl (by decide) Tryz.ntmps51 (Nat.le_of_ble_eq_true rfl) (Nat.le_of_ble_eq_true rfl) rfl rfl fun base hs0 O U hw v0 hb0 => ?_
 refine W.sw (c' := cx [0, 1, 4, 5, 31, 1000000, 1000001]) ?_
 refine wrs fun K hK => ?_
 conv => whnf
 refine hK _ ?_
 clear hK K
 obtain ⟨h3, e1, h5⟩ : ∃ h3 : Int, (h * 6364136223846793005 % 18446744073709551616 + 1442695040888963407) % 18446744073709551616 = h3 ∧ 0 ≤ h3 ∧ h3 < 18446744073709551616 := ⟨_, rfl, emod64 _⟩
 obtain ⟨x0, e2, h6, h7⟩ : ∃ x0 : Int, h3 / 2 ^ Int.toNat 33 % (16777215 + 1) = x0 ∧ 0 ≤ x0 ∧ x0 < 16777216 := ⟨_, rfl, Int.emod_nonneg _ (by decide), Int.emod_lt_of_pos _ (by decide)⟩
 have h8 : 0 ≤ h3 / 2 ^ Int.toNat 33 ∧ h3 / 2 ^ Int.toNat 33 ≤ 18446744073709551615 := ⟨Int.ediv_nonneg h5.1 (by decide), Int.le_trans (Int.ediv_le_self _ h5.1) (by omega)⟩
 refine wrs fun K hK => ?_
 conv => whnf
 rw [e1]
 refine ⟨⟨(by show 2 + 1 ≤ 3; omega), rfl⟩, ?_⟩
 conv => whnf
 refine hK _ ?_
 clear hK K
 refine wrs fun K hK => ?_
 conv => whnf
 refine ⟨⟨by omega, by decide, by decide⟩, ?_⟩
 conv => whnf
 refine ⟨⟨h8, .inr rfl⟩, ?_⟩
 conv => whnf
 rw [e2]
 refine ⟨⟨h6, by constructor <;> omega⟩, ?_⟩
 conv => whnf
 refine hK _ ?_
 clear hK K
 refine W.seqK fun K2 hK2 => ?_
 have last : ∀ (a2 : Nat) (x : Int) (t : S), a2 ≤ n → 0 ≤ x → x ≤ 2147483647 → hs0 ≤ t.hs → coverK t.env [(vt, .dead), (vk, .keep O U hw 0 v0), (0, .ownB b (vDi n c a2 h3)), (1, .v (.int .i64 m)), (5, .v (.int .i64 x))] → K2 t := by
  intro a2 x t g1 g2 g3 h9 h10
  refine hK2 _ (W.weak (t := ⟨[(vt, .dead), (vk, .keep O U hw 0 v0), (0, .ownB b (vDi n c a2 h3)), (1, .v (.int .i64 m)), (5, .v (.int .i64 x))], hs0⟩) ⟨h9, h10⟩ hb0 ?_)
  clear hK2 K2
  obtain ⟨q, e3, h11, h12⟩ := tmod_in (a := x) (b := m) g2 (by omega)
  refine wrs fun K hK => ?_
  conv => whnf
  refine ⟨by show m ≠ 0; omega, ?_⟩
  conv => whnf
  rw [e3]
  refine hK _ ?_
  clear hK K
  refine W.ret ?_
  conv => whnf
  refine ⟨by dsimp only; omega, ?_⟩
  conv => whnf
  refine ⟨rfl, ?_⟩
  conv => whnf
  refine ⟨.int .i64 q, ⟨rfl, rfl⟩, ?_⟩
  conv => whnf
  exact ⟨.ownB b (vDi n c a2 h3), ⟨rfl, rfl⟩, .inr ⟨rfl, rfl⟩, .dead, trivial, rfl, rfl, rfl, ⟨vDi n c a2 h3, ⟨a2, h3, g1, h5, rfl⟩, rfl⟩, _, rfl, ⟨q, rfl, h11, h12⟩⟩
 refine W.seqK fun K3 hK3 => ?_
 have mid : ∀ t : S, hs0 ≤ t.hs → coverK t.env [(vt, .dead), (vk, .keep O U hw 0 v0), (0, .ownB b (vDi n c at' h3)), (1, .v (.int .i64 m)), (5, .v (.int .i64 x0)), (31, .v (.bool (decide ((at' : Int) < (n : Int)))))] → K3 t := by
  intro t h9 h10
  refine hK3 _ (W.weak (t := ⟨[(vt, .dead), (vk, .keep O U hw 0 v0), (0, .ownB b (vDi n c at' h3)), (1, .v (.int .i64 m)), (5, .v (.int .i64 x0)), (31, .v (.bool (decide ((at' : Int) < (n : Int)))))], hs0⟩) ⟨h9, h10⟩ hb0 ?_)
  clear hK3 K3
  refine W.cond ⟨fun h => ?_, fun h => ?_⟩
  ·have h := of_decide_eq_true h
   have hb := hc.bd at'
   refine W.seqK fun K4 hK4 => ?_
   have mid2 : ∀ t : S, hs0 ≤ t.hs → coverK t.env [(vt, .dead), (vk, .keep O U hw 0 v0), (0, .ownB b (vDi n c at' h3)), (1, .v (.int .i64 m)), (5, .v (.int .i64 (x0 + c at')))] → K4 t := by
    intro t h9 h10
    refine hK4 _ (W.weak (t := ⟨[(vt, .dead), (vk, .keep O U hw 0 v0), (0, .ownB b (vDi n c at' h3)), (1, .v (.int .i64 m)), (5, .v (.int .i64 (x0 + c at')))], hs0⟩) ⟨h9, h10⟩ hb0 ?_)
    clear hK4 K4
    refine wrg ?_
    conv => whnf
    refine ⟨oo, ?_⟩
    conv => whnf
    refine ⟨⟨(by show 1 + 1 ≤ 3; omega), rfl⟩, ?_⟩
    conv => whnf
    refine last (at' + 1) (x0 + c at') _ (by omega) (by omega) (by omega) (by dsimp only; omega) ?_
    exact cvr
   refine W.sch follows ?_
   refine wt 0 ?_
   conv => whnf
   refine wt 1 ?_
   conv => whnf
   refine wt 5 ?_
   conv => whnf
   refine w2 2 6 ?_ ?_ <;> conv => whnf
   ·refine Wany.takeF (cx_ok []) 3 (by rfl) (by rfl) (by rfl) (by rfl) (by decide) (by kernel_rfl) (by kernel_rfl) (by kernel_rfl) ?_
    conv => whnf
    refine w2 4 6 ?_ ?_ <;> conv => whnf
    ·refine w1 6 ?_
     conv => whnf
     refine Wany.takeF (cx_ok []) 7 (by rfl) (by rfl) (by rfl) (by rfl) (by decide) (by kernel_rfl) (by kernel_rfl) (by kernel_rfl) ?_
     conv => whnf
     refine w1 8 ?_
     conv => whnf
     refine wi 9 ?_
     conv => whnf
     refine ⟨oo, ?_⟩
     conv => whnf
     rw [Int.toNat_natCast]
     refine w1 10 ?_
     conv => whnf
     refine w1 11 ?_
     conv => whnf
     refine ⟨⟨hb.1, hb.2⟩, ?_⟩
     conv => whnf
     refine Wany.takeB (cx_ok []) 12 (by rfl) (by rfl) (by rfl) (by rfl) (by decide) (by rfl) (by rfl) (by kernel_rfl) (by kernel_rfl) (by kernel_rfl) ?_
     conv => whnf
     refine ⟨by show _ ≤ x0 + c at' ∧ x0 + c at' ≤ _; omega, ?_⟩
     conv => whnf
     refine w1 13 ?_
     conv => whnf
     refine wd1 (mid2 _ (by dsimp only; omega) ?_)
     exact cvr
    ·refine Wany.takeF (cx_ok []) 7 (by rfl) (by rfl) (by rfl) (by rfl) (by decide) (by kernel_rfl) (by kernel_rfl) (by kernel_rfl) ?_
     conv => whnf
     refine w2 4 8 ?_ ?_ <;> conv => whnf
     ·refine w1 8 ?_
      conv => whnf
      refine wi 9 ?_
      conv => whnf
      refine ⟨oo, ?_⟩
      conv => whnf
      rw [Int.toNat_natCast]
      refine w1 10 ?_
      conv => whnf
      refine w1 11 ?_
      conv => whnf
      refine ⟨⟨hb.1, hb.2⟩, ?_⟩
      conv => whnf
      refine Wany.takeB (cx_ok []) 12 (by rfl) (by rfl) (by rfl) (by rfl) (by decide) (by rfl) (by rfl) (by kernel_rfl) (by kernel_rfl) (by kernel_rfl) ?_
      conv => whnf
      refine ⟨by show _ ≤ x0 + c at' ∧ x0 + c at' ≤ _; omega, ?_⟩
      conv => whnf
      refine w1 13 ?_
      conv => whnf
      refine wd1 (mid2 _ (by dsimp only; omega) ?_)
      exact cvr
     ·refine w1 4 ?_
      conv => whnf
      refine wi 9 ?_
      conv => whnf
      refine ⟨oo, ?_⟩
      conv => whnf
      rw [Int.toNat_natCast]
      refine w1 10 ?_
      conv => whnf
      refine w1 11 ?_
      conv => whnf
      refine ⟨⟨hb.1, hb.2⟩, ?_⟩
      conv => whnf
      refine Wany.takeB (cx_ok []) 12 (by rfl) (by rfl) (by rfl) (by rfl) (by decide) (by rfl) (by rfl) (by kernel_rfl) (by kernel_rfl) (by kernel_rfl) ?_
      conv => whnf
      refine ⟨by show _ ≤ x0 + c at' ∧ x0 + c at' ≤ _; omega, ?_⟩
      conv => whnf
      refine w1 13 ?_
      conv => whnf
      refine wd1 (mid2 _ (by dsimp only; omega) ?_)
      exact cvr
   ·refine Wany.takeF (cx_ok []) 7 (by rfl) (by rfl) (by rfl) (by rfl) (by decide) (by kernel_rfl) (by kernel_rfl) (by kernel_rfl) ?_
    conv => whnf
    refine w2 2 8 ?_ ?_ <;> conv => whnf
    ·refine Wany.takeF (cx_ok []) 3 (by rfl) (by rfl) (by rfl) (by rfl) (by decide) (by kernel_rfl) (by kernel_rfl) (by kernel_rfl) ?_
     conv => whnf
     refine w2 4 8 ?_ ?_ <;> conv => whnf
     ·refine w1 8 ?_
      conv => whnf
      refine wi 9 ?_
      conv => whnf
      refine ⟨oo, ?_⟩
      conv => whnf
      rw [Int.toNat_natCast]
      refine w1 10 ?_
      conv => whnf
      refine w1 11 ?_
      conv => whnf
      refine ⟨⟨hb.1, hb.2⟩, ?_⟩
      conv => whnf
      refine Wany.takeB (cx_ok []) 12 (by rfl) (by rfl) (by rfl) (by rfl) (by decide) (by rfl) (by rfl) (by kernel_rfl) (by kernel_rfl) (by kernel_rfl) ?_
      conv => whnf
      refine ⟨by show _ ≤ x0 + c at' ∧ x0 + c at' ≤ _; omega, ?_⟩
      conv => whnf
      refine w1 13 ?_
      conv => whnf
      refine wd1 (mid2 _ (by dsimp only; omega) ?_)
      exact cvr
     ·refine w1 4 ?_
      conv => whnf
      refine wi 9 ?_
      conv => whnf
      refine ⟨oo, ?_⟩
      conv => whnf
      rw [Int.toNat_natCast]
      refine w1 10 ?_
      conv => whnf
      refine w1 11 ?_
      conv => whnf
      refine ⟨⟨hb.1, hb.2⟩, ?_⟩
      conv => whnf
      refine Wany.takeB (cx_ok []) 12 (by rfl) (by rfl) (by rfl) (by rfl) (by decide) (by rfl) (by rfl) (by kernel_rfl) (by kernel_rfl) (by kernel_rfl) ?_
      conv => whnf
      refine ⟨by show _ ≤ x0 + c at' ∧ x0 + c at' ≤ _; omega, ?_⟩
      conv => whnf
      refine w1 13 ?_
      conv => whnf
      refine wd1 (mid2 _ (by dsimp only; omega) ?_)
      exact cvr
    ·refine w1 2 ?_
     conv => whnf
     refine Wany.takeF (cx_ok []) 3 (by rfl) (by rfl) (by rfl) (by rfl) (by decide) (by kernel_rfl) (by kernel_rfl) (by kernel_rfl) ?_
     conv => whnf
     refine w1 4 ?_
     conv => whnf
     refine wi 9 ?_
     conv => whnf
     refine ⟨oo, ?_⟩
     conv => whnf
     rw [Int.toNat_natCast]
     refine w1 10 ?_
     conv => whnf
     refine w1 11 ?_
     conv => whnf
     refine ⟨⟨hb.1, hb.2⟩, ?_⟩
     conv => whnf
     refine Wany.takeB (cx_ok []) 12 (by rfl) (by rfl) (by rfl) (by rfl) (by decide) (by rfl) (by rfl) (by kernel_rfl) (by kernel_rfl) (by kernel_rfl) ?_
     conv => whnf
     refine ⟨by show _ ≤ x0 + c at' ∧ x0 + c at' ≤ _; omega, ?_⟩
     conv => whnf
     refine w1 13 ?_
     conv => whnf
     refine wd1 (mid2 _ (by dsimp only; omega) ?_)
     exact cvr
-- 6 ways
  ·refine W.skip (last at' x0 _ h1 h6 (by omega) (by dsimp only; omega) ?_)
   exact cvr
 refine W.sch follows ?_
 refine wt 0 ?_
 conv => whnf
 refine wt 4 ?_
 conv => whnf
 refine w2 1 5 ?_ ?_ <;> conv => whnf
 ·refine Wany.takeF (cx_ok []) 2 (by rfl) (by rfl) (by rfl) (by rfl) (by decide) (by kernel_rfl) (by kernel_rfl) (by kernel_rfl) ?_
  conv => whnf
  refine w2 3 5 ?_ ?_ <;> conv => whnf
  ·refine w1 5 ?_
   conv => whnf
   refine Wany.takeF (cx_ok []) 6 (by rfl) (by rfl) (by rfl) (by rfl) (by decide) (by kernel_rfl) (by kernel_rfl) (by kernel_rfl) ?_
   conv => whnf
   refine w1 7 ?_
   conv => whnf
   refine w1 8 ?_
   conv => whnf
   refine Wany.takeB (cx_ok []) 9 (by rfl) (by rfl) (by rfl) (by rfl) (by decide) (by rfl) (by rfl) (by kernel_rfl) (by kernel_rfl) (by kernel_rfl) ?_
   conv => whnf
   refine wd1 (mid _ (by dsimp only; omega) ?_)
   exact cvr
  ·refine Wany.takeF (cx_ok []) 6 (by rfl) (by rfl) (by rfl) (by rfl) (by decide) (by kernel_rfl) (by kernel_rfl) (by kernel_rfl) ?_
   conv => whnf
   refine w2 3 7 ?_ ?_ <;> conv => whnf
   ·refine w1 7 ?_
    conv => whnf
    refine w1 8 ?_
    conv => whnf
    refine Wany.takeB (cx_ok []) 9 (by rfl) (by rfl) (by rfl) (by rfl) (by decide) (by rfl) (by rfl) (by kernel_rfl) (by kernel_rfl) (by kernel_rfl) ?_
    conv => whnf
    refine wd1 (mid _ (by dsimp only; omega) ?_)
    exact cvr
   ·refine w2 3 8 ?_ ?_ <;> conv => whnf
    ·refine w1 8 ?_
     conv => whnf
     refine Wany.takeB (cx_ok []) 9 (by rfl) (by rfl) (by rfl) (by rfl) (by decide) (by rfl) (by rfl) (by kernel_rfl) (by kernel_rfl) (by kernel_rfl) ?_
     conv => whnf
     refine wd1 (mid _ (by dsimp only; omega) ?_)
     exact cvr
    ·refine w1 3 ?_
     conv => whnf
     refine Wany.takeB (cx_ok []) 9 (by rfl) (by rfl) (by rfl) (by rfl) (by decide) (by rfl) (by rfl) (by kernel_rfl) (by kernel_rfl) (by kernel_rfl) ?_
     conv => whnf
     refine wd1 (mid _ (by dsimp only; omega) ?_)
     exact cvr
 ·refine Wany.takeF (cx_ok []) 6 (by rfl) (by rfl) (by rfl) (by rfl) (by decide) (by kernel_rfl) (by kernel_rfl) (by kernel_rfl) ?_
  conv => whnf
  refine w2 1 7 ?_ ?_ <;> conv => whnf
  ·refine Wany.takeF (cx_ok []) 2 (by rfl) (by rfl) (by rfl) (by rfl) (by decide) (by kernel_rfl) (by kernel_rfl) (by kernel_rfl) ?_
   conv => whnf
   refine w2 3 7 ?_ ?_ <;> conv => whnf
   ·refine w1 7 ?_
    conv => whnf
    refine w1 8 ?_
    conv => whnf
    refine Wany.takeB (cx_ok []) 9 (by rfl) (by rfl) (by rfl) (by rfl) (by decide) (by rfl) (by rfl) (by kernel_rfl) (by kernel_rfl) (by kernel_rfl) ?_
    conv => whnf
    refine wd1 (mid _ (by dsimp only; omega) ?_)
    exact cvr
   ·refine w2 3 8 ?_ ?_ <;> conv => whnf
    ·refine w1 8 ?_
     conv => whnf
     refine Wany.takeB (cx_ok []) 9 (by rfl) (by rfl) (by rfl) (by rfl) (by decide) (by rfl) (by rfl) (by kernel_rfl) (by kernel_rfl) (by kernel_rfl) ?_
     conv => whnf
     refine wd1 (mid _ (by dsimp only; omega) ?_)
     exact cvr
    ·refine w1 3 ?_
     conv => whnf
     refine Wany.takeB (cx_ok []) 9 (by rfl) (by rfl) (by rfl) (by rfl) (by decide) (by rfl) (by rfl) (by kernel_rfl) (by kernel_rfl) (by kernel_rfl) ?_
     conv => whnf
     refine wd1 (mid _ (by dsimp only; omega) ?_)
     exact cvr
  ·refine w2 1 8 ?_ ?_ <;> conv => whnf
   ·refine Wany.takeF (cx_ok []) 2 (by rfl) (by rfl) (by rfl) (by rfl) (by decide) (by kernel_rfl) (by kernel_rfl) (by kernel_rfl) ?_
    conv => whnf
    refine w2 3 8 ?_ ?_ <;> conv => whnf
    ·refine w1 8 ?_
     conv => whnf
     refine Wany.takeB (cx_ok []) 9 (by rfl) (by rfl) (by rfl) (by rfl) (by decide) (by rfl) (by rfl) (by kernel_rfl) (by kernel_rfl) (by kernel_rfl) ?_
     conv => whnf
     refine wd1 (mid _ (by dsimp only; omega) ?_)
     exact cvr
    ·refine w1 3 ?_
     conv => whnf
     refine Wany.takeB (cx_ok []) 9 (by rfl) (by rfl) (by rfl) (by rfl) (by decide) (by rfl) (by rfl) (by kernel_rfl) (by kernel_rfl) (by kernel_rfl) ?_
     conv => whnf
     refine wd1 (mid _ (by dsimp only; omega) ?_)
     exact cvr
   ·refine w1 1 ?_
    conv => whnf
    refine Wany.takeF (cx_ok []) 2 (by rfl) (by rfl) (by rfl) (by rfl) (by decide) (by kernel_rfl) (by kernel_rfl) (by kernel_rfl) ?_
    conv => whnf
    refine w1 3 ?_
    conv => whnf
    refine Wany.takeB (cx_ok []) 9 (by rfl) (by rfl) (by rfl) (by rfl) (by decide) (by rfl) (by rfl) (by kernel_rfl) (by kernel_rfl) (by kernel_rfl) ?_
    conv => whnf
    refine wd1 (mid _ (by dsimp only; omega) ?_)
    exact cvr
-- 10 ways

theorem big_fn {n : Nat} {c : Nat → Int} : FnV 16 [vBy n c] (.bool (decide ((4096 : Int) < (n : Int)))) := by
 refine fn_of (cx_ok [0, 2]) Tryz.func16 rfl (by decide) Tryz.ntmps16 (Nat.le_of_ble_eq_true rfl) fun base => ?_
 refine wrs fun K hK => ?_
 conv => whnf
 refine hK _ ?_
 clear hK K
 refine wrs fun K hK => ?_
 conv => whnf
 refine hK _ ?_
 clear hK K
 refine W.ret ?_
 conv => whnf
 exact ⟨.v (.bool (decide ((4096 : Int) < (n : Int)))), rfl, trivial, rfl⟩

theorem likeInts_same (g g' : Option Nat) (xs : List Int) (hl : xs.length ≤ 1000000000) : FnV 28 [.ints g xs, .ints g' xs] .tr := by
 refine fn_of (cx_ok [0, 1, 4, 5, 10, 14, 25]) Tryz.func28 rfl (by decide) Tryz.ntmps28 (Nat.le_of_ble_eq_true rfl) fun base => ?_
 refine wrs fun K hK => ?_
 conv => whnf
 refine hK _ ?_
 clear hK K
 refine W.seqK fun K1 hK1 => wrs fun K hK => ?_
 conv => whnf
 refine hK _ (W.cond ⟨fun hcc => absurd rfl (of_decide_eq_true hcc), fun _ => W.skip (hK1 _ ?_)⟩)
 clear hK K hK1 K1
 refine W.seqK fun K1 hK1 => wrs fun K hK => ?_
 conv => whnf
 refine hK _ (W.block (W.invA (fun m e => ∃ i : Nat, i ≤ xs.length ∧ m = xs.length - i ∧ e = [(0, .v (.ints g xs)), (1, .v (.ints g' xs)), (5, .v (.int .i64 i))]) ⟨0, Nat.zero_le _, rfl, rfl⟩ ?_))
 clear hK K
 rintro m e ⟨i, h1, hm, rfl⟩
 refine W.seqK fun K7 hK7 => wrs fun K hK => ?_
 conv => whnf
 refine hK _ (W.cond ⟨fun h3 => ?_, fun h3 => ?_⟩) <;> clear hK K <;> (first | replace h3 := of_decide_eq_true h3 | replace h3 := of_decide_eq_false h3)
 ·refine W.skip (hK7 _ ?_)
  clear hK7 K7
  refine W.seqK fun K8 hK8 => W.block ?_
  refine W.rd (cx_ok _) follows (by rfl) fun K hK => ?_
  conv => whnf
  refine ⟨oo, ?_⟩
  conv => whnf
  refine ⟨oo, ?_⟩
  conv => whnf
  refine hK _ (W.cond ⟨fun hcc => absurd rfl (of_decide_eq_true hcc), fun _ => W.skip (hK8 _ ?_)⟩)
  clear hK K hK8 K8
  refine wrg ?_
  conv => whnf
  refine ⟨oo, ?_⟩
  conv => whnf
  exact againA ⟨i + 1, by omega, rfl, rfl⟩
 ·refine W.exit (hK1 _ ?_)
  clear hK7 K7 hK1 K1
  refine wrs fun K hK => ?_
  conv => whnf
  refine hK _ ?_
  clear hK K
  refine W.ret ?_
  conv => whnf
  exact ⟨.v (.tr), rfl, trivial, rfl⟩

open Go Go.RowKit Go.Proofs
set_option maxRecDepth 100000
set_option maxHeartbeats 8000000

theorem clone_fn (g : Option Nat) (xs : List Int) (hl : xs.length ≤ 100000000) : FnI 210 [.ints g xs] xs := by
 refine fn_of (cx_ok [0, 2, 4]) Tryz.func210 rfl (by decide) Tryz.ntmps210 (Nat.le_of_ble_eq_true rfl) fun base => ?_
 refine wrs fun K hK => ?_
 conv => whnf
 refine hK _ ?_
 clear hK K
 refine W.seqK fun K1 hK1 => wrs fun K hK => ?_
 conv => whnf
 intro b hb
 conv => whnf
 refine hK _ (W.cond ⟨fun hc => ?_, fun hc => ?_⟩) <;> clear hK K
 ·obtain rfl := hb hc
  refine wrs fun K hK => ?_
  conv => whnf
  refine hK _ (W.ret ?_)
  conv => whnf
  exact ⟨.ownI 2 0 [], rfl, trivial, _, rfl⟩
 ·refine W.skip (hK1 _ ?_)
  clear hK1 K1
  refine wrs fun K hK => ?_
  conv => whnf
  refine ⟨⟨rfl, by decide⟩, ?_⟩
  conv => whnf
  intro b_1 hs_1 hh_1 hf_1
  try dsimp only at hh_1 hf_1
  conv => whnf
  refine ⟨by simp; omega, ?_⟩
  conv => whnf
  intro b_2 hs_2 hh_2 hf_2
  try dsimp only at hh_2 hf_2
  conv => whnf
  refine hK _ ?_
  clear hK K
  refine W.ret ?_
  conv => whnf
  exact ⟨.ownI 2 _ (xs), ⟨rfl, rfl, rfl⟩, trivial, _, rfl⟩
theorem own_fn (g : Option Nat) (xs : List Int) (hl : xs.length ≤ 100000000) : FnI 211 [.ints g xs] xs := by
 refine fn_of (cx_ok [0, 2]) Tryz.func211 rfl (by decide) Tryz.ntmps211 (Nat.le_of_ble_eq_true rfl) fun base => ?_
 refine wrs fun K hK => ?_
 conv => whnf
 refine hK _ ?_
 clear hK K
 refine wrs fun K hK => ?_
 conv => whnf
 refine ⟨⟨rfl, by decide⟩, ?_⟩
 conv => whnf
 intro b_1 hs_1 hh_1 hf_1
 try dsimp only at hh_1 hf_1
 conv => whnf
 refine ⟨by simp; omega, ?_⟩
 conv => whnf
 intro b_2 hs_2 hh_2 hf_2
 try dsimp only at hh_2 hf_2
 conv => whnf
 refine hK _ ?_
 clear hK K
 refine W.ret ?_
 conv => whnf
 exact ⟨.ownI 2 _ (xs), ⟨rfl, rfl, rfl⟩, trivial, _, rfl⟩
theorem trim_fn (g : Option Nat) (xs : List Int) (hl : xs.length ≤ 100000000) : FnI 324 [.ints g xs] (trimZ xs) := by
 refine fn_of (cx_ok [0, 2, 3, 15]) Tryz.func324 rfl (by decide) Tryz.ntmps324 (Nat.le_of_ble_eq_true rfl) fun base => ?_
 refine wrs fun K hK => ?_
 conv => whnf
 refine hK _ ?_
 clear hK K
 refine wrs fun K hK => ?_
 conv => whnf
 refine hK _ ?_
 clear hK K
 refine W.seqK fun K1 hK1 => W.block (W.invA (fun m e => ∃ n : Nat, n ≤ xs.length ∧ (∀ j, n ≤ j → cf xs j = 0) ∧ m = n ∧ e = [(0, .v (.ints g xs)), (3, .v (.int .i64 n))]) ⟨xs.length, Nat.le_refl _, fun j hj => cf_ge hj, rfl, rfl⟩ ?_)
 rintro m e ⟨n, h1, h2, hm, rfl⟩
 have hout : (n = 0 ∨ cf xs (n - 1) ≠ 0) → ∀ s : S, base ≤ s.hs → get s.env 0 = .v (.ints g xs) → get s.env 3 = .v (.int .i64 n) → K1 s := fun h3 s h4 h5 h6 => by
  refine hK1 _ (W.weak (t := ⟨[(0, .v (.ints g xs)), (3, .v (.int .i64 n))], base⟩) ⟨h4, by rw [getK_eq, h5]; exact ⟨rfl, rfl⟩, by rw [getK_eq, h6]; exact ⟨rfl, rfl⟩, trivial⟩ (Nat.le_refl _) ?_)
  clear hK1 K1
  refine wrs fun K hK => ?_
  conv => whnf
  refine ⟨by omega, ?_⟩
  conv => whnf
  have e : ((xs.take (n : Int).toNat).drop (0 : Int).toNat) = trimZ xs := by
   rw [Int.toNat_natCast, Int.toNat_zero, List.drop_zero, trim_at h1 h2 h3]
  rw [e]
  refine callI rfl (clone_fn _ _ (by rw [← trim_at h1 h2 h3, List.length_take]; omega)) fun hs_1 b_1 hh_1 hf_1 => ?_
  try dsimp only at hh_1 hf_1
  conv => whnf
  refine hK _ ?_
  clear hK K
  refine W.ret ?_
  conv => whnf
  exact ⟨.ownI 2 _ (trimZ xs), ⟨rfl, rfl, rfl⟩, trivial, _, rfl⟩
 clear hK1
 refine W.seqK fun K2 hK2 => wrs fun K hK => ?_
 conv => whnf
 refine ⟨fun h3 => ?_, fun h3 => ?_⟩ <;> conv => whnf
 ·have h3 := of_decide_eq_true h3
  refine ⟨by omega, ?_⟩
  conv => whnf
  refine ⟨oo, ?_⟩
  conv => whnf
  refine hK _ (W.cond ⟨fun h4 => ?_, fun h4 => ?_⟩) <;> clear hK K
  ·refine W.skip (hK2 _ ?_)
   clear hK2 K2
   have h4 := of_decide_eq_true h4
   refine W.block ?_
   refine wrg ?_
   conv => whnf
   refine ⟨by omega, ?_⟩
   conv => whnf
   have h5 : ((n : Int) - 1).toNat = n - 1 := by omega
   have h6 : cf xs (n - 1) = 0 := by rw [h5] at h4; exact h4
   exact againA ⟨n - 1, by omega, fun j hj => (by rcases Nat.eq_or_lt_of_le hj with h | h; rw [← h]; exact h6; exact h2 j (by omega)), rfl, rfl⟩
  ·have h4 := of_decide_eq_false h4
   refine W.exit (hout ?_ _ (by dsimp only; omega) rfl rfl)
   have h5 : ((n : Int) - 1).toNat = n - 1 := by omega
   rw [h5] at h4
   exact .inr h4
 ·have h3 := of_decide_eq_false h3
  refine hK _ (W.cond ?_)
  clear hK K
  exact W.exit (cx := cx []) (hout (by omega) _ (by dsimp only; omega) rfl rfl)

theorem l06Trim_fn (g : Option Nat) (xs : List Int) (hl : xs.length ≤ 100000000) : FnI 326 [.ints g xs] (trimZ xs) := by
 refine fn_of (cx_ok [0, 2, 3, 15]) Tryz.func326 rfl (by decide) Tryz.ntmps326 (Nat.le_of_ble_eq_true rfl) fun base => ?_
 refine wrs fun K hK => ?_
 conv => whnf
 refine hK _ ?_
 clear hK K
 refine wrs fun K hK => ?_
 conv => whnf
 refine hK _ ?_
 clear hK K
 refine W.seqK fun K1 hK1 => W.block (W.invA (fun m e => ∃ n : Nat, n ≤ xs.length ∧ (∀ j, n ≤ j → cf xs j = 0) ∧ m = n ∧ e = [(0, .v (.ints g xs)), (3, .v (.int .i64 n))]) ⟨xs.length, Nat.le_refl _, fun j hj => cf_ge hj, rfl, rfl⟩ ?_)
 rintro m e ⟨n, h1, h2, hm, rfl⟩
 have hout : (n = 0 ∨ cf xs (n - 1) ≠ 0) → ∀ s : S, base ≤ s.hs → get s.env 0 = .v (.ints g xs) → get s.env 3 = .v (.int .i64 n) → K1 s := fun h3 s h4 h5 h6 => by
  refine hK1 _ (W.weak (t := ⟨[(0, .v (.ints g xs)), (3, .v (.int .i64 n))], base⟩) ⟨h4, by rw [getK_eq, h5]; exact ⟨rfl, rfl⟩, by rw [getK_eq, h6]; exact ⟨rfl, rfl⟩, trivial⟩ (Nat.le_refl _) ?_)
  clear hK1 K1
  refine wrs fun K hK => ?_
  conv => whnf
  refine ⟨by omega, ?_⟩
  conv => whnf
  have e : ((xs.take (n : Int).toNat).drop (0 : Int).toNat) = trimZ xs := by
   rw [Int.toNat_natCast, Int.toNat_zero, List.drop_zero, trim_at h1 h2 h3]
  rw [e]
  refine callI rfl (own_fn _ _ (by rw [← trim_at h1 h2 h3, List.length_take]; omega)) fun hs_1 b_1 hh_1 hf_1 => ?_
  try dsimp only at hh_1 hf_1
  conv => whnf
  refine hK _ ?_
  clear hK K
  refine W.ret ?_
  conv => whnf
  exact ⟨.ownI 2 _ (trimZ xs), ⟨rfl, rfl, rfl⟩, trivial, _, rfl⟩
 clear hK1
 refine W.seqK fun K2 hK2 => wrs fun K hK => ?_
 conv => whnf
 refine ⟨fun h3 => ?_, fun h3 => ?_⟩ <;> conv => whnf
 ·have h3 := of_decide_eq_true h3
  refine ⟨by omega, ?_⟩
  conv => whnf
  refine ⟨oo, ?_⟩
  conv => whnf
  refine hK _ (W.cond ⟨fun h4 => ?_, fun h4 => ?_⟩) <;> clear hK K
  ·refine W.skip (hK2 _ ?_)
   clear hK2 K2
   have h4 := of_decide_eq_true h4
   refine W.block ?_
   refine wrg ?_
   conv => whnf
   refine ⟨by omega, ?_⟩
   conv => whnf
   have h5 : ((n : Int) - 1).toNat = n - 1 := by omega
   have h6 : cf xs (n - 1) = 0 := by rw [h5] at h4; exact h4
   exact againA ⟨n - 1, by omega, fun j hj => (by rcases Nat.eq_or_lt_of_le hj with h | h; rw [← h]; exact h6; exact h2 j (by omega)), rfl, rfl⟩
  ·have h4 := of_decide_eq_false h4
   refine W.exit (hout ?_ _ (by dsimp only; omega) rfl rfl)
   have h5 : ((n : Int) - 1).toNat = n - 1 := by omega
   rw [h5] at h4
   exact .inr h4
 ·have h3 := of_decide_eq_false h3
  refine hK _ (W.cond ?_)
  clear hK K
  exact W.exit (cx := cx []) (hout (by omega) _ (by dsimp only; omega) rfl rfl)

theorem reduce_wide (p : Int) (hp : 0 < p) (hp2 : p ≤ 4611686018427387904) (g : Option Nat) (xs : List Int) (hb : Bd 9223372036854775807 xs) (hl : xs.length ≤ 100000000) : FnI 176 [.int .i64 p, .ints g xs] (nrm p xs) := by
 refine fn_of (cx_ok [0, 1, 4, 5, 7, 8, 9, 10, 11]) Tryz.func176 rfl (by decide) Tryz.ntmps176 (Nat.le_of_ble_eq_true rfl) fun base => ?_
 refine wrs fun K hK => ?_
 conv => whnf
 refine hK _ ?_
 clear hK K
 refine wrs fun K hK => ?_
 conv => whnf
 refine hK _ ?_
 clear hK K
 refine W.seqK fun K1 hK1 => wrs fun K hK => ?_
 conv => whnf
 refine hK _ (W.block (W.invA (fun m e => ∃ (i b : Nat), i ≤ xs.length ∧ m = xs.length - i ∧ e = [(0, .v (.int .i64 p)), (5, .ownI 2 b ((xs.take i).map (· % p))), (8, .v (.ints g xs)), (9, .v (.int .i64 xs.length)), (10, .v (.int .i64 i))]) ⟨0, 0, Nat.zero_le _, rfl, rfl⟩ ?_))
 clear hK K
 rintro m e ⟨i, b, h1, hm, rfl⟩
 refine wrs fun K hK => ?_
 conv => whnf
 refine hK _ ?_
 clear hK K
 refine W.seqK fun K7 hK7 => W.cond ⟨fun h => ?_, fun h => ?_⟩ <;> (first | replace h := of_decide_eq_true h | replace h := of_decide_eq_false h)
 ·refine W.skip (hK7 _ ?_)
  clear hK7 K7
  refine W.seqK fun K8 hK8 => W.block ?_
  refine wrs fun K hK => ?_
  conv => whnf
  refine ⟨oo, ?_⟩
  conv => whnf
  refine hK _ ?_
  clear hK K
  refine wrg ?_
  conv => whnf
  refine callV rfl (mod_fn _ p hp (by rw [Int.toNat_natCast]; have := hb i; show _ ≤ cf xs i ∧ cf xs i ≤ _; omega) hp2) fun hs' hhs => ?_
  try dsimp only at hhs
  conv => whnf
  refine ⟨⟨rfl, by decide⟩, ?_⟩
  conv => whnf
  intro b_1 hs_1 hh_1 hf_1
  try dsimp only at hh_1 hf_1
  conv => whnf
  refine ⟨by simp; omega, ?_⟩
  conv => whnf
  intro b_2 hs_2 hh_2 hf_2
  try dsimp only at hh_2 hf_2
  conv => whnf
  refine hK8 _ ?_
  clear hK8 K8
  refine wrg ?_
  conv => whnf
  refine ⟨by omega, ?_⟩
  conv => whnf
  refine ⟨_, _, ⟨i + 1, b_2, by omega, rfl, rfl⟩, by omega, by dsimp only; omega, ?_⟩
  repeat' first | refine And.intro ?_ ?_ | exact trivial | rfl | omega | exact .inl rfl | exact fun _ _ => rfl | exact fun _ _ h => h | assumption | exact fun i hi => (by obtain rfl : i = 0 := (by omega); rfl)
  rw [take_map_succ _ (by omega), Int.toNat_natCast]
 ·refine W.exit (hK1 _ ?_)
  clear hK7 K7 hK1 K1
  have e : xs.take i = xs := by rw [show i = xs.length by omega, List.take_length]
  refine wrs fun K hK => ?_
  conv => whnf
  refine callI rfl (trim_fn _ _ (by rw [e]; simpa using hl)) fun hs_1 b_1 hh_1 hf_1 => ?_
  try dsimp only at hh_1 hf_1
  conv => whnf
  refine hK _ ?_
  clear hK K
  rw [e]
  refine W.ret ?_
  conv => whnf
  exact ⟨.ownI 2 _ (nrm p xs), ⟨rfl, rfl, rfl⟩, trivial, _, rfl⟩
theorem reduce_fn (p : Int) (hp : 0 < p) (hp2 : p ≤ 4611686018427387904) (g : Option Nat) (xs : List Int) (hb : Bd 4611686018427387904 xs) (hl : xs.length ≤ 100000000) : FnI 176 [.int .i64 p, .ints g xs] (nrm p xs) :=
 reduce_wide p hp hp2 g xs (fun j => by have := hb j; omega) hl

theorem l08Reduce_wide (p : Int) (hp : 0 < p) (hp2 : p ≤ 4611686018427387904) (g : Option Nat) (xs : List Int) (hb : Bd 9223372036854775807 xs) (hl : xs.length ≤ 100000000) : FnI 178 [.int .i64 p, .ints g xs] (nrm p xs) := by
 refine fn_of (cx_ok [0, 1, 4, 5, 6, 11]) Tryz.func178 rfl (by decide) Tryz.ntmps178 (Nat.le_of_ble_eq_true rfl) fun base => ?_
 refine wrs fun K hK => ?_
 conv => whnf
 refine hK _ ?_
 clear hK K
 refine wrs fun K hK => ?_
 conv => whnf
 refine ⟨⟨rfl, by decide⟩, ?_⟩
 conv => whnf
 intro b_0 hs_0 hh_0 hf_0
 try dsimp only at hh_0 hf_0
 conv => whnf
 refine hK _ ?_
 clear hK K
 refine W.seqK fun K1 hK1 => wrs fun K hK => ?_
 conv => whnf
 refine hK _ (W.block (W.invA (fun m e => ∃ (i b : Nat), i ≤ xs.length ∧ m = xs.length - i ∧ e = [(0, .v (.int .i64 p)), (1, .v (.ints g xs)), (5, .ownI 2 b ((xs.take i).map (· % p))), (6, .v (.int .i64 i))]) ⟨0, b_0, Nat.zero_le _, rfl, rfl⟩ ?_))
 clear hK K
 rintro m e ⟨i, b, h1, hm, rfl⟩
 refine W.seqK fun K7 hK7 => wrs fun K hK => ?_
 conv => whnf
 refine hK _ (W.cond ⟨fun h => ?_, fun h => ?_⟩) <;> clear hK K <;> (first | replace h := of_decide_eq_true h | replace h := of_decide_eq_false h)
 ·refine W.skip (hK7 _ ?_)
  clear hK7 K7
  refine W.seqK fun K8 hK8 => W.block ?_
  refine wrg ?_
  conv => whnf
  refine ⟨oo, ?_⟩
  conv => whnf
  refine callV rfl (l01Mod_fn _ p hp (by rw [Int.toNat_natCast]; have := hb i; show _ ≤ cf xs i ∧ cf xs i ≤ _; omega) hp2) fun hs' hhs => ?_
  try dsimp only at hhs
  conv => whnf
  refine ⟨⟨rfl, by decide⟩, ?_⟩
  conv => whnf
  intro b_1 hs_1 hh_1 hf_1
  try dsimp only at hh_1 hf_1
  conv => whnf
  refine ⟨by simp; omega, ?_⟩
  conv => whnf
  intro b_2 hs_2 hh_2 hf_2
  try dsimp only at hh_2 hf_2
  conv => whnf
  refine hK8 _ ?_
  clear hK8 K8
  refine wrg ?_
  conv => whnf
  refine ⟨by omega, ?_⟩
  conv => whnf
  refine ⟨_, _, ⟨i + 1, b_2, by omega, rfl, rfl⟩, by omega, by dsimp only; omega, ?_⟩
  repeat' first | refine And.intro ?_ ?_ | exact trivial | rfl | omega | exact .inl rfl | exact fun _ _ => rfl | exact fun _ _ h => h | assumption | exact fun i hi => (by obtain rfl : i = 0 := (by omega); rfl)
  rw [take_map_succ _ (by omega), Int.toNat_natCast]
 ·refine W.exit (hK1 _ ?_)
  clear hK7 K7 hK1 K1
  have e : xs.take i = xs := by rw [show i = xs.length by omega, List.take_length]
  refine wrs fun K hK => ?_
  conv => whnf
  refine callI rfl (l06Trim_fn _ _ (by rw [e]; simpa using hl)) fun hs_1 b_1 hh_1 hf_1 => ?_
  try dsimp only at hh_1 hf_1
  conv => whnf
  refine hK _ ?_
  clear hK K
  rw [e]
  refine W.ret ?_
  conv => whnf
  exact ⟨.ownI 2 _ (nrm p xs), ⟨rfl, rfl, rfl⟩, trivial, _, rfl⟩
theorem l08Reduce_fn (p : Int) (hp : 0 < p) (hp2 : p ≤ 4611686018427387904) (g : Option Nat) (xs : List Int) (hb : Bd 4611686018427387904 xs) (hl : xs.length ≤ 100000000) : FnI 178 [.int .i64 p, .ints g xs] (nrm p xs) :=
 l08Reduce_wide p hp hp2 g xs (fun j => by have := hb j; omega) hl

theorem derivative_fn (g : Option Nat) (xs : List Int) (hb : Bd 1000000000000 xs) (hl : xs.length ≤ 1000000) : FnV 259 [.ints g xs] (.ints none (mkL (xs.length - 1) (dv (cf xs)))) := by
 refine fn_of (cx_ok [0, 2, 3, 4, 8]) Tryz.func259 rfl (by decide) Tryz.ntmps259 (Nat.le_of_ble_eq_true rfl) fun base => ?_
 refine wrs fun K hK => ?_
 conv => whnf
 refine hK _ ?_
 clear hK K
 refine wrs fun K hK => ?_
 conv => whnf
 refine hK _ ?_
 clear hK K
 refine W.seqK fun K1 hK1 => wrs fun K hK => ?_
 conv => whnf
 refine hK _ (W.block (W.invA (fun m e => ∃ (k b : Nat), k ≤ xs.length - 1 ∧ m = xs.length - k ∧ e = [(0, .v (.ints g xs)), (3, .ownI 2 b (mkL k (dv (cf xs)))), (4, .v (.int .i64 ((k : Int) + 1)))]) ⟨0, 0, Nat.zero_le _, rfl, rfl⟩ ?_))
 clear hK K
 rintro m e ⟨k, b, h1, hm, rfl⟩
 refine W.seqK fun K7 hK7 => wrs fun K hK => ?_
 conv => whnf
 refine hK _ (W.cond ⟨fun h => ?_, fun h => ?_⟩) <;> clear hK K <;> (first | replace h := of_decide_eq_true h | replace h := of_decide_eq_false h)
 ·refine W.skip (hK7 _ ?_)
  clear hK7 K7
  refine W.seqK fun K8 hK8 => W.block ?_
  have hk : ((k : Int) + 1).toNat = k + 1 := by omega
  have hv : -(1000000 * 1000000000000) ≤ ((k : Int) + 1) * cf xs (k + 1) ∧ ((k : Int) + 1) * cf xs (k + 1) ≤ 1000000 * 1000000000000 := by
   have h2 := hb (k + 1)
   have e1 : (((k : Int) + 1) * cf xs (k + 1)).natAbs ≤ (1000000 * 1000000000000 : Int).natAbs := by
    rw [Int.natAbs_mul, Int.natAbs_mul]
    exact Nat.mul_le_mul (by omega) (by omega)
   omega
  refine wrg ?_
  conv => whnf
  refine ⟨oo, ?_⟩
  conv => whnf
  rw [hk]
  refine ⟨by show _ ≤ ((k : Int) + 1) * cf xs (k + 1) ∧ ((k : Int) + 1) * cf xs (k + 1) ≤ _; omega, ?_⟩
  conv => whnf
  refine ⟨⟨rfl, by decide⟩, ?_⟩
  conv => whnf
  intro b_1 hs_1 hh_1 hf_1
  try dsimp only at hh_1 hf_1
  conv => whnf
  refine ⟨by simp [mkL]; omega, ?_⟩
  conv => whnf
  intro b_2 hs_2 hh_2 hf_2
  try dsimp only at hh_2 hf_2
  conv => whnf
  refine hK8 _ ?_
  clear hK8 K8
  refine wrg ?_
  conv => whnf
  refine ⟨by omega, ?_⟩
  conv => whnf
  refine ⟨_, _, ⟨k + 1, b_2, by omega, rfl, rfl⟩, by omega, by dsimp only; omega, ?_⟩
  repeat' first | refine And.intro ?_ ?_ | exact trivial | rfl | omega | exact .inl rfl | exact fun _ _ => rfl | exact fun _ _ h => h | assumption | exact fun i hi => (by obtain rfl : i = 0 := (by omega); rfl)
  rw [mkL_succ]; rfl
 ·refine W.exit (hK1 _ ?_)
  clear hK7 K7 hK1 K1
  have e : k = xs.length - 1 := by omega
  refine wrs fun K hK => ?_
  conv => whnf
  refine hK _ ?_
  clear hK K
  refine W.ret ?_
  conv => whnf
  exact ⟨.v (.ints none (mkL (xs.length - 1) (dv (cf xs)))), ⟨rfl, by rw [e]⟩, trivial, rfl⟩
theorem l06Derivative_fn (g : Option Nat) (xs : List Int) (hb : Bd 1000000000000 xs) (hl : xs.length ≤ 1000000) : FnV 364 [.ints g xs] (.ints none (mkL (xs.length - 1) (dv (cf xs)))) := by
 refine fn_of (cx_ok [0, 2, 3, 4, 9]) Tryz.func364 rfl (by decide) Tryz.ntmps364 (Nat.le_of_ble_eq_true rfl) fun base => ?_
 refine wrs fun K hK => ?_
 conv => whnf
 refine hK _ ?_
 clear hK K
 refine wrs fun K hK => ?_
 conv => whnf
 refine ⟨⟨rfl, by decide⟩, ?_⟩
 conv => whnf
 intro b_0 hs_0 hh_0 hf_0
 try dsimp only at hh_0 hf_0
 conv => whnf
 refine hK _ ?_
 clear hK K
 refine W.seqK fun K1 hK1 => wrs fun K hK => ?_
 conv => whnf
 refine hK _ (W.block (W.invA (fun m e => ∃ (k b : Nat), k ≤ xs.length - 1 ∧ m = xs.length - k ∧ e = [(0, .v (.ints g xs)), (3, .ownI 2 b (mkL k (dv (cf xs)))), (4, .v (.int .i64 ((k : Int) + 1)))]) ⟨0, b_0, Nat.zero_le _, rfl, rfl⟩ ?_))
 clear hK K
 rintro m e ⟨k, b, h1, hm, rfl⟩
 refine W.seqK fun K7 hK7 => wrs fun K hK => ?_
 conv => whnf
 refine hK _ (W.cond ⟨fun h => ?_, fun h => ?_⟩) <;> clear hK K <;> (first | replace h := of_decide_eq_true h | replace h := of_decide_eq_false h)
 ·refine W.skip (hK7 _ ?_)
  clear hK7 K7
  refine W.seqK fun K8 hK8 => W.block ?_
  have hk : ((k : Int) + 1).toNat = k + 1 := by omega
  have hv : -(1000000 * 1000000000000) ≤ ((k : Int) + 1) * cf xs (k + 1) ∧ ((k : Int) + 1) * cf xs (k + 1) ≤ 1000000 * 1000000000000 := by
   have h2 := hb (k + 1)
   have e1 : (((k : Int) + 1) * cf xs (k + 1)).natAbs ≤ (1000000 * 1000000000000 : Int).natAbs := by
    rw [Int.natAbs_mul, Int.natAbs_mul]
    exact Nat.mul_le_mul (by omega) (by omega)
   omega
  refine wrg ?_
  conv => whnf
  refine ⟨oo, ?_⟩
  conv => whnf
  rw [hk]
  refine ⟨by show _ ≤ ((k : Int) + 1) * cf xs (k + 1) ∧ ((k : Int) + 1) * cf xs (k + 1) ≤ _; omega, ?_⟩
  conv => whnf
  refine ⟨⟨rfl, by decide⟩, ?_⟩
  conv => whnf
  intro b_1 hs_1 hh_1 hf_1
  try dsimp only at hh_1 hf_1
  conv => whnf
  refine ⟨by simp [mkL]; omega, ?_⟩
  conv => whnf
  intro b_2 hs_2 hh_2 hf_2
  try dsimp only at hh_2 hf_2
  conv => whnf
  refine hK8 _ ?_
  clear hK8 K8
  refine wrg ?_
  conv => whnf
  refine ⟨by omega, ?_⟩
  conv => whnf
  refine ⟨_, _, ⟨k + 1, b_2, by omega, rfl, rfl⟩, by omega, by dsimp only; omega, ?_⟩
  repeat' first | refine And.intro ?_ ?_ | exact trivial | rfl | omega | exact .inl rfl | exact fun _ _ => rfl | exact fun _ _ h => h | assumption | exact fun i hi => (by obtain rfl : i = 0 := (by omega); rfl)
  rw [mkL_succ]; rfl
 ·refine W.exit (hK1 _ ?_)
  clear hK7 K7 hK1 K1
  have e : k = xs.length - 1 := by omega
  refine wrs fun K hK => ?_
  conv => whnf
  refine hK _ ?_
  clear hK K
  refine W.ret ?_
  conv => whnf
  exact ⟨.v (.ints none (mkL (xs.length - 1) (dv (cf xs)))), ⟨rfl, by rw [e]⟩, trivial, rfl⟩

theorem sumOf_wide (g g' : Option Nat) (f h : List Int) (hf : Bd 9223372036854775807 f) (hs : ∀ j, -9223372036854775807 ≤ cf f j + cf h j ∧ cf f j + cf h j ≤ 9223372036854775807) (hl : f.length ≤ 100000000) (hl' : h.length ≤ 100000000) : FnI 177 [.ints g f, .ints g' h] (trimZ (addL f h)) := by
 generalize hn : max f.length h.length = n
 have hmx : (max (f.length : Int) (h.length : Int)) = n := by omega
 refine fn_of (cx_ok [0, 1, 4, 5, 6, 7, 8, 9, 16, 17, 18, 19, 31, 32, 33, 34]) Tryz.func177 rfl (by decide) Tryz.ntmps177 (Nat.le_of_ble_eq_true rfl) fun base => ?_
 refine wrs fun K hK => ?_
 conv => whnf
 refine hK _ ?_
 clear hK K
 refine wrs fun K hK => ?_
 conv => whnf
 rw [hmx]
 refine ⟨rfl, ?_⟩
 conv => whnf
 refine ⟨oo, ?_⟩
 conv => whnf
 intro b_0 hs_0 hh_0 hf_0
 try dsimp only at hh_0 hf_0
 conv => whnf
 refine hK _ ?_
 clear hK K
 refine W.seqK fun K1 hK1 => wrs fun K hK => ?_
 conv => whnf
 refine hK _ (W.block (W.invA (fun m e => ∃ (i b : Nat) (o : List Int), i ≤ f.length ∧ o.length = n ∧ (∀ j, cf o j = if j < i then cf f j else 0) ∧ m = f.length - i ∧ e = [(0, .v (.ints g f)), (1, .v (.ints g' h)), (5, .ownI 2 b o), (16, .v (.ints g f)), (17, .v (.int .i64 f.length)), (18, .v (.int .i64 i))]) ⟨0, b_0, List.replicate n 0, Nat.zero_le _, by simp, fun j => by rw [cf_replicate]; simp, rfl, rfl⟩ ?_))
 clear hK K
 rintro m e ⟨i, b, o, h1, h2, h3, hm, rfl⟩
 refine wrs fun K hK => ?_
 conv => whnf
 refine hK _ ?_
 clear hK K
 refine W.seqK fun K7 hK7 => W.cond ⟨fun h4 => ?_, fun h4 => ?_⟩ <;> (first | replace h4 := of_decide_eq_true h4 | replace h4 := of_decide_eq_false h4)
 ·refine W.skip (hK7 _ ?_)
  clear hK7 K7
  refine W.seqK fun K8 hK8 => W.block ?_
  refine wrs fun K hK => ?_
  conv => whnf
  refine ⟨oo, ?_⟩
  conv => whnf
  refine hK _ ?_
  clear hK K
  refine wrg ?_
  conv => whnf
  rw [Int.toNat_natCast]
  refine ⟨oo, ?_⟩
  conv => whnf
  have e1 : cf o i = 0 := by rw [h3, if_neg (by omega)]
  have e2 := hf i
  refine ⟨by show _ ≤ cf o i + cf f i ∧ cf o i + cf f i ≤ _; omega, ?_⟩
  conv => whnf
  refine ⟨oo, ?_⟩
  conv => whnf
  refine hK8 _ ?_
  clear hK8 K8
  refine wrg ?_
  conv => whnf
  refine ⟨by omega, ?_⟩
  conv => whnf
  have h5 : ∀ j, cf (o.set i (cf o i + cf f i)) j = if j < i + 1 then cf f j else 0 := fun j => by
   rw [cf_set (by omega), h3 j]
   by_cases hj : j = i
   ·subst hj; rw [if_pos rfl, if_pos (by omega), e1]; omega
   ·by_cases hj2 : j < i
    ·rw [if_neg hj, if_pos hj2, if_pos (by omega)]
    ·rw [if_neg hj, if_neg hj2, if_neg (by omega)]
  exact againA ⟨i + 1, b, o.set i (cf o i + cf f i), by omega, by simpa using h2, h5, rfl, rfl⟩
 ·refine W.exit (hK1 _ ?_)
  clear hK7 K7 hK1 K1
  obtain rfl : i = f.length := by omega
  have h3' : ∀ j, cf o j = cf f j := fun j => by
   rw [h3]
   split
   ·rfl
   ·rw [cf_ge (by omega)]
  clear h3
  refine W.seqK fun K1 hK1 => wrs fun K hK => ?_
  conv => whnf
  refine hK _ (W.block (W.invA (fun m e => ∃ (i b : Nat) (o : List Int), i ≤ h.length ∧ o.length = n ∧ (∀ j, cf o j = cf f j + if j < i then cf h j else 0) ∧ m = h.length - i ∧ e = [(5, .ownI 2 b o), (31, .v (.ints g' h)), (32, .v (.int .i64 h.length)), (33, .v (.int .i64 i))]) ⟨0, b, o, Nat.zero_le _, h2, fun j => by rw [h3']; simp, rfl, rfl⟩ ?_))
  clear hK K
  rintro m e ⟨i, b, o, h1, h2, h3, hm, rfl⟩
  refine wrs fun K hK => ?_
  conv => whnf
  refine hK _ ?_
  clear hK K
  refine W.seqK fun K7 hK7 => W.cond ⟨fun h4 => ?_, fun h4 => ?_⟩ <;> (first | replace h4 := of_decide_eq_true h4 | replace h4 := of_decide_eq_false h4)
  ·refine W.skip (hK7 _ ?_)
   clear hK7 K7
   refine W.seqK fun K8 hK8 => W.block ?_
   refine wrs fun K hK => ?_
   conv => whnf
   refine ⟨oo, ?_⟩
   conv => whnf
   refine hK _ ?_
   clear hK K
   refine wrg ?_
   conv => whnf
   rw [Int.toNat_natCast]
   refine ⟨oo, ?_⟩
   conv => whnf
   have e1 : cf o i = cf f i := by rw [h3, if_neg (by omega)]; omega
   have e2 := hs i
   refine ⟨by show _ ≤ cf o i + cf h i ∧ cf o i + cf h i ≤ _; omega, ?_⟩
   conv => whnf
   refine ⟨oo, ?_⟩
   conv => whnf
   refine hK8 _ ?_
   clear hK8 K8
   refine wrg ?_
   conv => whnf
   refine ⟨by omega, ?_⟩
   conv => whnf
   have h5 : ∀ j, cf (o.set i (cf o i + cf h i)) j = cf f j + if j < i + 1 then cf h j else 0 := fun j => by
    rw [cf_set (by omega), h3 j]
    by_cases hj : j = i
    ·subst hj; rw [if_pos rfl, if_pos (by omega), e1]
    ·by_cases hj2 : j < i
     ·rw [if_neg hj, if_pos hj2, if_pos (by omega)]
     ·rw [if_neg hj, if_neg hj2, if_neg (by omega)]
   exact againA ⟨i + 1, b, o.set i (cf o i + cf h i), by omega, by simpa using h2, h5, rfl, rfl⟩
  ·refine W.exit (hK1 _ ?_)
   clear hK7 K7 hK1 K1
   have h3' : ∀ j, cf o j = cf f j + cf h j := fun j => by
    rw [h3]
    split
    ·rfl
    ·rw [cf_ge (l := h) (by omega)]
   refine wrs fun K hK => ?_
   conv => whnf
   refine callI rfl (trim_fn _ _ (by omega)) fun hs_1 b_1 hh_1 hf_1 => ?_
   try dsimp only at hh_1 hf_1
   conv => whnf
   refine hK _ ?_
   clear hK K
   refine W.ret ?_
   conv => whnf
   exact ⟨.ownI 2 _ (trimZ (addL f h)), ⟨rfl, rfl, trim_add h3'⟩, trivial, _, rfl⟩

theorem sumOf_fn (g g' : Option Nat) (f h : List Int) (hf : Bd 2305843009213693951 f) (hh : Bd 2305843009213693951 h) (hl : f.length ≤ 100000000) (hl' : h.length ≤ 100000000) : FnI 177 [.ints g f, .ints g' h] (trimZ (addL f h)) :=
 sumOf_wide g g' f h (fun j => by have := hf j; omega) (fun j => by have := hf j; have := hh j; omega) hl hl'

theorem l06Add_fn (g g' : Option Nat) (f h : List Int) (k : Int) (hk : -1 ≤ k ∧ k ≤ 1) (hf : Bd 2305843009213693951 f) (hh : Bd 2305843009213693951 h) (hl : f.length ≤ 100000000) (hl' : h.length ≤ 100000000) : FnI 179 [.ints g f, .ints g' h, .int .i64 k] (trimZ (addL f (smulL k h))) := by
 generalize hn : max f.length h.length = n
 have hmx : (max (f.length : Int) (h.length : Int)) = n := by omega
 have hkh : ∀ i, -2305843009213693951 ≤ k * cf h i ∧ k * cf h i ≤ 2305843009213693951 := fun i => by
  have := hh i
  rcases (by omega : k = -1 ∨ k = 0 ∨ k = 1) with rfl | rfl | rfl <;> omega
 refine fn_of (cx_ok [0, 1, 2, 6, 7, 8, 18, 24, 35]) Tryz.func179 rfl (by decide) Tryz.ntmps179 (Nat.le_of_ble_eq_true rfl) fun base => ?_
 refine wrs fun K hK => ?_
 conv => whnf
 refine hK _ ?_
 clear hK K
 refine wrs fun K hK => ?_
 conv => whnf
 rw [hmx]
 refine ⟨rfl, ?_⟩
 conv => whnf
 refine ⟨oo, ?_⟩
 conv => whnf
 intro b_0 hs_0 hh_0 hf_0
 try dsimp only at hh_0 hf_0
 conv => whnf
 refine hK _ ?_
 clear hK K
 refine W.seqK fun K1 hK1 => wrs fun K hK => ?_
 conv => whnf
 refine hK _ (W.block (W.invA (fun m e => ∃ (i b : Nat) (o : List Int), i ≤ n ∧ o.length = n ∧ (∀ j, cf o j = if j < i then cf f j + k * cf h j else 0) ∧ m = n - i ∧ e = [(0, .v (.ints g f)), (1, .v (.ints g' h)), (2, .v (.int .i64 k)), (7, .ownI 2 b o), (8, .v (.int .i64 i))]) ⟨0, b_0, List.replicate n 0, Nat.zero_le _, by simp, fun j => by rw [cf_replicate]; simp, rfl, rfl⟩ ?_))
 clear hK K
 rintro m e ⟨i, b, o, h1, h2, h3, hm, rfl⟩
 refine W.seqK fun K7 hK7 => wrs fun K hK => ?_
 conv => whnf
 refine hK _ (W.cond ⟨fun h4 => ?_, fun h4 => ?_⟩) <;> clear hK K <;> (first | replace h4 := of_decide_eq_true h4 | replace h4 := of_decide_eq_false h4)
 ·refine W.skip (hK7 _ ?_)
  clear hK7 K7
  refine W.seqK fun K8 hK8 => W.block ?_
  have e1 : cf o i = 0 := by rw [h3, if_neg (by omega)]
  have e2 := hf i
  have e3 := hkh i
  -- the end of the round
  have fin : ∀ (o' : List Int) (s : S), o'.length = n → (∀ j, cf o' j = if j = i then cf f i + k * cf h i else cf o j) → base ≤ s.hs →
    coverK s.env [(0, .v (.ints g f)), (1, .v (.ints g' h)), (2, .v (.int .i64 k)), (7, .ownI 2 b o'), (8, .v (.int .i64 i))] → K8 s := by
   intro o' s h5 h6 h7 h8
   refine hK8 _ (W.weak (t := ⟨[(0, .v (.ints g f)), (1, .v (.ints g' h)), (2, .v (.int .i64 k)), (7, .ownI 2 b o'), (8, .v (.int .i64 i))], base⟩) ⟨h7, h8⟩ (Nat.le_refl _) ?_)
   refine wrg ?_
   conv => whnf
   refine ⟨by omega, ?_⟩
   conv => whnf
   have h9 : ∀ j, cf o' j = if j < i + 1 then cf f j + k * cf h j else 0 := fun j => by
    rw [h6, h3 j]
    by_cases hj : j = i
    ·subst hj; rw [if_pos rfl, if_pos (by omega)]
    ·by_cases hj2 : j < i
     ·rw [if_neg hj, if_pos hj2, if_pos (by omega)]
     ·rw [if_neg hj, if_neg hj2, if_neg (by omega)]
   exact againA ⟨i + 1, b, o', by omega, h5, h9, rfl, rfl⟩
  clear hK8
  refine W.seqK fun K9 hK9 => ?_
  -- the second half of the round
  have sec : ∀ (o' : List Int) (s : S), o'.length = n → (∀ j, cf o' j = if j = i then cf f i else cf o j) → base ≤ s.hs →
    coverK s.env [(0, .v (.ints g f)), (1, .v (.ints g' h)), (2, .v (.int .i64 k)), (7, .ownI 2 b o'), (8, .v (.int .i64 i))] → K9 s := by
   intro o' s h5 h6 h7 h8
   refine hK9 _ (W.weak (t := ⟨[(0, .v (.ints g f)), (1, .v (.ints g' h)), (2, .v (.int .i64 k)), (7, .ownI 2 b o'), (8, .v (.int .i64 i))], base⟩) ⟨h7, h8⟩ (Nat.le_refl _) ?_)
   clear hK9 K9
   have e4 : cf o' i = cf f i := by rw [h6, if_pos rfl]
   refine wrs fun K hK => ?_
   conv => whnf
   refine hK _ (W.cond ⟨fun h9 => ?_, fun h9 => ?_⟩) <;> clear hK K
   ·have h9 := of_decide_eq_true h9
    refine W.draw (cx_ok _) follows (by rfl) ?_
    conv => whnf
    rw [Int.toNat_natCast]
    refine ⟨oo, ?_⟩
    conv => whnf
    refine ⟨oo, ?_⟩
    conv => whnf
    refine ⟨by show _ ≤ k * cf h i ∧ k * cf h i ≤ _; omega, ?_⟩
    conv => whnf
    refine ⟨by show _ ≤ cf o' i + k * cf h i ∧ cf o' i + k * cf h i ≤ _; omega, ?_⟩
    conv => whnf
    refine ⟨oo, ?_⟩
    conv => whnf
    refine fin (o'.set i (cf o' i + k * cf h i)) _ (by simpa using h5) (fun j => ?_) (by dsimp only; omega) ?_
    ·rw [cf_set (by omega), e4]
     split
     ·rfl
     ·rename_i hj; rw [h6, if_neg hj]
    ·exact cvr
   ·have h9 := of_decide_eq_false h9
    have e5 : cf h i = 0 := cf_ge (by omega)
    refine W.skip (fin o' _ h5 (fun j => ?_) (by dsimp only; omega) ?_)
    ·rw [h6]; split
     ·rw [e5]; omega
     ·rfl
    ·exact cvr
  clear hK9 fin
  refine wrs fun K hK => ?_
  conv => whnf
  refine hK _ (W.cond ⟨fun h5 => ?_, fun h5 => ?_⟩) <;> clear hK K
  ·have h5 := of_decide_eq_true h5
   refine wrg ?_
   conv => whnf
   rw [Int.toNat_natCast]
   refine ⟨oo, ?_⟩
   conv => whnf
   refine ⟨oo, ?_⟩
   conv => whnf
   refine sec (o.set i (cf f i)) _ (by simpa using h2) (fun j => ?_) (by dsimp only; omega) ?_
   ·exact cf_set (by omega) _ _
   ·exact cvr
  ·have h5 := of_decide_eq_false h5
   refine W.skip (sec o _ h2 (fun j => ?_) (by dsimp only; omega) ?_)
   ·split
    ·rename_i hj; rw [hj, e1, cf_ge (by omega)]
    ·rfl
   ·exact cvr
 ·refine W.exit (hK1 _ ?_)
  clear hK7 K7 hK1 K1
  have h3' : ∀ j, cf o j = cf f j + cf (smulL k h) j := fun j => by
   rw [h3, cf_smulL]
   split
   ·rfl
   ·rw [cf_ge (l := f) (by omega), cf_ge (l := h) (by omega)]; omega
  refine wrs fun K hK => ?_
  conv => whnf
  refine callI rfl (l06Trim_fn _ _ (by omega)) fun hs_1 b_1 hh_1 hf_1 => ?_
  try dsimp only at hh_1 hf_1
  conv => whnf
  refine hK _ ?_
  clear hK K
  refine W.ret ?_
  conv => whnf
  exact ⟨.ownI 2 _ (trimZ (addL f (smulL k h))), ⟨rfl, rfl, trim_add h3'⟩, trivial, _, rfl⟩

open Go Go.RowKit Go.Proofs
set_option maxRecDepth 100000
set_option maxHeartbeats 8000000

theorem part_next {f h : List Int} {o : List Int} {i k : Nat} (hn : o.length + 1 = f.length + h.length) (hi : i < f.length) (hk : k < h.length) (h3 : ∀ j, cf o j = part (cf f) (cf h) i k j) :
  i + k < o.length ∧ ∀ j, cf (o.set (i + k) (cf o (i + k) + cf f i * cf h k)) j = part (cf f) (cf h) i (k + 1) j := by
 refine ⟨by omega, fun j => ?_⟩
 rw [cf_set (by omega), part_step]
 split
 ·rename_i hj; subst hj; rw [h3]
 ·exact h3 j

theorem productOf_wide (g g' : Option Nat) (f h : List Int) (A B : Int) (hA : 0 ≤ A) (hB : 0 ≤ B) (hf : Bd A f) (hh : Bd B h) (hAB : ((f.length : Int) + 1) * (A * B) ≤ 9223372036854775807) (hl : f.length ≤ 10000000) (hl' : h.length ≤ 10000000) : FnI 343 [.ints g f, .ints g' h] (trimZ (mulL f h)) := by
 have hpb : ∀ i k j, i < f.length → -9223372036854775807 ≤ part (cf f) (cf h) i k j ∧ part (cf f) (cf h) i k j ≤ 9223372036854775807 := fun i k j hi => by
  have h1 := part_bd hA hB hf hh i k j
  have h2 : ((i : Int) + 1) * (A * B) ≤ ((f.length : Int) + 1) * (A * B) := Int.mul_le_mul_of_nonneg_right (by omega) (Int.mul_nonneg hA hB)
  omega
 have hmb : ∀ i k, i < f.length → -9223372036854775807 ≤ cf f i * cf h k ∧ cf f i * cf h k ≤ 9223372036854775807 := fun i k hi => by
  have h1 := hf i
  have h2 := hh k
  have e1 : (cf f i * cf h k).natAbs ≤ (A * B).natAbs := by
   rw [Int.natAbs_mul, Int.natAbs_mul]
   exact Nat.mul_le_mul (by omega) (by omega)
  have h3 : 0 ≤ A * B := Int.mul_nonneg hA hB
  have h4 : 1 * (A * B) ≤ ((f.length : Int) + 1) * (A * B) := Int.mul_le_mul_of_nonneg_right (by omega) h3
  omega
 refine fn_of (cx_ok [0, 1, 4, 5, 6, 7, 8, 9, 17, 25, 26, 27, 28, 32, 33, 34, 35]) Tryz.func343 rfl (by decide) Tryz.ntmps343 (Nat.le_of_ble_eq_true rfl) fun base => ?_
 refine wrs fun K hK => ?_
 conv => whnf
 refine hK _ ?_
 clear hK K
 refine W.seqK fun K1 hK1 => wrs fun K hK => ?_
 conv => whnf
 have hnil : (f = [] ∨ h = []) → trimZ (mulL f h) = [] := trim_mul_nil
 refine ⟨fun h0 => ?_, fun h0 => ?_⟩ <;> conv => whnf
 ·have h0 := of_decide_eq_true h0
  refine hK _ (W.condT rfl ?_)
  clear hK K
  refine wrs fun K hK => ?_
  conv => whnf
  refine hK _ ?_
  clear hK K
  refine W.ret ?_
  conv => whnf
  exact ⟨.ownI 2 0 [], rfl, trivial, _, by rw [hnil (.inl (List.eq_nil_of_length_eq_zero (by omega)))]⟩
 have h0 := of_decide_eq_false h0
 refine hK _ (W.cond ⟨fun h0' => ?_, fun h0' => ?_⟩) <;> clear hK K
 ·have h0' := of_decide_eq_true h0'
  refine wrs fun K hK => ?_
  conv => whnf
  refine hK _ ?_
  clear hK K
  refine W.ret ?_
  conv => whnf
  exact ⟨.ownI 2 0 [], rfl, trivial, _, by rw [hnil (.inr (List.eq_nil_of_length_eq_zero (by omega)))]⟩
 have h0' := of_decide_eq_false h0'
 clear hnil
 refine W.skip (hK1 _ ?_)
 clear hK1 K1
 refine wrs fun K hK => ?_
 conv => whnf
 refine ⟨oo, ?_⟩
 conv => whnf
 refine ⟨oo, ?_⟩
 conv => whnf
 refine ⟨rfl, ?_⟩
 conv => whnf
 refine ⟨oo, ?_⟩
 conv => whnf
 have hn : ((f.length : Int) + h.length - 1).toNat + 1 = f.length + h.length := by omega
 generalize hnn : ((f.length : Int) + h.length - 1).toNat = n at hn
 intro b_0 hs_0 hh_0 hf_0
 try dsimp only at hh_0 hf_0
 conv => whnf
 refine hK _ ?_
 clear hK K
 refine W.seqK fun K1 hK1 => wrs fun K hK => ?_
 conv => whnf
 refine hK _ (W.block (W.invA (fun m e => ∃ (i b : Nat) (o : List Int), i ≤ f.length ∧ o.length = n ∧ (∀ j, cf o j = part (cf f) (cf h) i 0 j) ∧ m = f.length - i ∧ e = [(1, .v (.ints g' h)), (5, .ownI 2 b o), (25, .v (.ints g f)), (26, .v (.int .i64 f.length)), (27, .v (.int .i64 i))]) ⟨0, b_0, List.replicate n 0, Nat.zero_le _, by simp, fun j => by rw [cf_replicate, part_start], rfl, rfl⟩ ?_))
 clear hK K
 rintro m e ⟨i, b, o, h1, h2, h3, hm, rfl⟩
 refine wrs fun K hK => ?_
 conv => whnf
 refine hK _ ?_
 clear hK K
 refine W.seqK fun K7 hK7 => W.cond ⟨fun h4 => ?_, fun h4 => ?_⟩ <;> (first | replace h4 := of_decide_eq_true h4 | replace h4 := of_decide_eq_false h4)
 ·refine W.skip (hK7 _ ?_)
  clear hK7 K7
  refine W.seqK fun K8 hK8 => W.block ?_
  refine wrs fun K hK => ?_
  conv => whnf
  refine ⟨oo, ?_⟩
  conv => whnf
  rw [Int.toNat_natCast]
  refine hK _ ?_
  clear hK K
  refine wrs fun K hK => ?_
  conv => whnf
  refine hK _ (W.block (W.invE (fun m e => ∃ (k b : Nat) (o : List Int), k ≤ h.length ∧ o.length = n ∧ (∀ j, cf o j = part (cf f) (cf h) i k j) ∧ m = h.length - k ∧ e = [(1, .v (.ints g' h)), (5, .ownI 2 b o), (6, .v (.int .i64 i)), (7, .v (.int .i64 (cf f i))), (25, .v (.ints g f)), (26, .v (.int .i64 f.length)), (27, .v (.int .i64 i)), (32, .v (.ints g' h)), (33, .v (.int .i64 h.length)), (34, .v (.int .i64 k))]) _ _ ⟨0, b, o, Nat.zero_le _, h2, h3, rfl, rfl⟩ (by dsimp only; omega) (by repeat' first | refine And.intro ?_ ?_ | exact trivial | rfl | omega | assumption) ?_))
  clear hK K
  clear h3 h2 b o
  rintro m' e ⟨k, b, o, h5, h2, h3, hm', rfl⟩
  refine wrs fun K hK => ?_
  conv => whnf
  refine hK _ ?_
  clear hK K
  refine W.seqK fun K7 hK7 => W.cond ⟨fun h6 => ?_, fun h6 => ?_⟩ <;> (first | replace h6 := of_decide_eq_true h6 | replace h6 := of_decide_eq_false h6)
  ·refine W.skip (hK7 _ ?_)
   clear hK7 K7
   refine W.seqK fun K10 hK10 => W.block ?_
   refine wrs fun K hK => ?_
   conv => whnf
   refine ⟨oo, ?_⟩
   conv => whnf
   rw [Int.toNat_natCast]
   refine hK _ ?_
   clear hK K
   refine wrg ?_
   conv => whnf
   have h4 : i < f.length := by omega
   have h7 := part_next (o := o) (by omega) h4 (by omega : k < h.length) h3
   have h8 := hpb i k (i + k) h4
   have h9 := hpb i (k + 1) (i + k) h4
   rw [part_step, if_pos rfl] at h9
   have h10 := hmb i k h4
   rw [← h3] at h8 h9
   refine ⟨oo, ?_⟩
   conv => whnf
   have e1 : ((i : Int) + k).toNat = i + k := by omega
   refine ⟨oo, ?_⟩
   conv => whnf
   rw [e1]
   refine ⟨by show _ ≤ cf f i * cf h k ∧ cf f i * cf h k ≤ _; omega, ?_⟩
   conv => whnf
   refine ⟨by show _ ≤ cf o (i + k) + cf f i * cf h k ∧ cf o (i + k) + cf f i * cf h k ≤ _; omega, ?_⟩
   conv => whnf
   refine ⟨oo, ?_⟩
   conv => whnf
   refine hK10 _ ?_
   clear hK10 K10
   refine wrg ?_
   conv => whnf
   refine ⟨by omega, ?_⟩
   conv => whnf
   exact againA ⟨k + 1, b, o.set (i + k) (cf o (i + k) + cf f i * cf h k), by omega, by simpa using h2, h7.2, rfl, rfl⟩
  ·obtain rfl : k = h.length := by omega
   refine W.exit (hK8 _ ?_)
   clear hK7 K7 hK8 K8
   refine wrg ?_
   conv => whnf
   refine ⟨by omega, ?_⟩
   conv => whnf
   exact againA ⟨i + 1, b, o, by omega, h2, fun j => by rw [h3 j]; exact part_row (fun j hj => cf_ge hj) i j, rfl, rfl⟩
 ·refine W.exit (hK1 _ ?_)
  clear hK7 K7 hK1 K1
  obtain rfl : i = f.length := by omega
  refine wrs fun K hK => ?_
  conv => whnf
  refine callI rfl (trim_fn _ _ (by omega)) fun hs_1 b_1 hh_1 hf_1 => ?_
  try dsimp only at hh_1 hf_1
  conv => whnf
  refine hK _ ?_
  clear hK K
  refine W.ret ?_
  conv => whnf
  exact ⟨.ownI 2 _ (trimZ (mulL f h)), ⟨rfl, rfl, trim_mul fun j => by rw [h3 j]; exact part_end (fun j hj => cf_ge hj) j⟩, trivial, _, rfl⟩
theorem productOf_fn (g g' : Option Nat) (f h : List Int) (A B : Int) (hA : 0 ≤ A) (hB : 0 ≤ B) (hf : Bd A f) (hh : Bd B h) (hAB : ((f.length : Int) + 1) * (A * B) ≤ 4611686018427387904) (hl : f.length ≤ 10000000) (hl' : h.length ≤ 10000000) : FnI 343 [.ints g f, .ints g' h] (trimZ (mulL f h)) :=
 productOf_wide g g' f h A B hA hB hf hh (by omega) hl hl'

theorem l06Multiply_fn (g g' : Option Nat) (f h : List Int) (A B : Int) (hA : 0 ≤ A) (hB : 0 ≤ B) (hf : Bd A f) (hh : Bd B h) (hAB : ((f.length : Int) + 1) * (A * B) ≤ 4611686018427387904) (hl : f.length ≤ 10000000) (hl' : h.length ≤ 10000000) : FnI 345 [.ints g f, .ints g' h] (trimZ (mulL f h)) := by
 have hpb : ∀ i k j, i < f.length → -4611686018427387904 ≤ part (cf f) (cf h) i k j ∧ part (cf f) (cf h) i k j ≤ 4611686018427387904 := fun i k j hi => by
  have h1 := part_bd hA hB hf hh i k j
  have h2 : ((i : Int) + 1) * (A * B) ≤ ((f.length : Int) + 1) * (A * B) := Int.mul_le_mul_of_nonneg_right (by omega) (Int.mul_nonneg hA hB)
  omega
 have hmb : ∀ i k, i < f.length → -4611686018427387904 ≤ cf f i * cf h k ∧ cf f i * cf h k ≤ 4611686018427387904 := fun i k hi => by
  have h1 := hf i
  have h2 := hh k
  have e1 : (cf f i * cf h k).natAbs ≤ (A * B).natAbs := by
   rw [Int.natAbs_mul, Int.natAbs_mul]
   exact Nat.mul_le_mul (by omega) (by omega)
  have h3 : 0 ≤ A * B := Int.mul_nonneg hA hB
  have h4 : 1 * (A * B) ≤ ((f.length : Int) + 1) * (A * B) := Int.mul_le_mul_of_nonneg_right (by omega) h3
  omega
 refine fn_of (cx_ok [0, 1, 4, 5, 6, 7, 15, 27, 33]) Tryz.func345 rfl (by decide) Tryz.ntmps345 (Nat.le_of_ble_eq_true rfl) fun base => ?_
 refine wrs fun K hK => ?_
 conv => whnf
 refine hK _ ?_
 clear hK K
 refine W.seqK fun K1 hK1 => wrs fun K hK => ?_
 conv => whnf
 have hnil : (f = [] ∨ h = []) → trimZ (mulL f h) = [] := trim_mul_nil
 refine ⟨fun h0 => ?_, fun h0 => ?_⟩ <;> conv => whnf
 ·have h0 := of_decide_eq_true h0
  refine hK _ (W.condT rfl ?_)
  clear hK K
  refine wrs fun K hK => ?_
  conv => whnf
  refine ⟨⟨rfl, by decide⟩, ?_⟩
  conv => whnf
  intro b_0 hs_0 hh_0 hf_0
  try dsimp only at hh_0 hf_0
  conv => whnf
  refine hK _ ?_
  clear hK K
  refine W.ret ?_
  conv => whnf
  exact ⟨.ownI 2 b_0 [], ⟨rfl, rfl, rfl⟩, trivial, _, by rw [hnil (.inl (List.eq_nil_of_length_eq_zero (by omega)))]⟩
 have h0 := of_decide_eq_false h0
 refine hK _ (W.cond ⟨fun h0' => ?_, fun h0' => ?_⟩) <;> clear hK K
 ·have h0' := of_decide_eq_true h0'
  refine wrs fun K hK => ?_
  conv => whnf
  refine ⟨⟨rfl, by decide⟩, ?_⟩
  conv => whnf
  intro b_0 hs_0 hh_0 hf_0
  try dsimp only at hh_0 hf_0
  conv => whnf
  refine hK _ ?_
  clear hK K
  refine W.ret ?_
  conv => whnf
  exact ⟨.ownI 2 b_0 [], ⟨rfl, rfl, rfl⟩, trivial, _, by rw [hnil (.inr (List.eq_nil_of_length_eq_zero (by omega)))]⟩
 have h0' := of_decide_eq_false h0'
 clear hnil
 refine W.skip (hK1 _ ?_)
 clear hK1 K1
 refine wrs fun K hK => ?_
 conv => whnf
 refine ⟨oo, ?_⟩
 conv => whnf
 refine ⟨oo, ?_⟩
 conv => whnf
 refine ⟨rfl, ?_⟩
 conv => whnf
 refine ⟨oo, ?_⟩
 conv => whnf
 have hn : ((f.length : Int) + h.length - 1).toNat + 1 = f.length + h.length := by omega
 generalize hnn : ((f.length : Int) + h.length - 1).toNat = n at hn
 intro b_0 hs_0 hh_0 hf_0
 try dsimp only at hh_0 hf_0
 conv => whnf
 refine hK _ ?_
 clear hK K
 refine W.seqK fun K1 hK1 => wrs fun K hK => ?_
 conv => whnf
 refine hK _ (W.block (W.invA (fun m e => ∃ (i b : Nat) (o : List Int), i ≤ f.length ∧ o.length = n ∧ (∀ j, cf o j = part (cf f) (cf h) i 0 j) ∧ m = f.length - i ∧ e = [(0, .v (.ints g f)), (1, .v (.ints g' h)), (5, .ownI 2 b o), (6, .v (.int .i64 i))]) ⟨0, b_0, List.replicate n 0, Nat.zero_le _, by simp, fun j => by rw [cf_replicate, part_start], rfl, rfl⟩ ?_))
 clear hK K
 rintro m e ⟨i, b, o, h1, h2, h3, hm, rfl⟩
 refine W.seqK fun K7 hK7 => wrs fun K hK => ?_
 conv => whnf
 refine hK _ (W.cond ⟨fun h4 => ?_, fun h4 => ?_⟩) <;> clear hK K <;> (first | replace h4 := of_decide_eq_true h4 | replace h4 := of_decide_eq_false h4)
 ·refine W.skip (hK7 _ ?_)
  clear hK7 K7
  refine W.seqK fun K8 hK8 => W.block ?_
  have h4 : i < f.length := by omega
  refine wrs fun K hK => ?_
  conv => whnf
  refine hK _ (W.block (W.invE (fun m e => ∃ (k b : Nat) (o : List Int), k ≤ h.length ∧ o.length = n ∧ (∀ j, cf o j = part (cf f) (cf h) i k j) ∧ m = h.length - k ∧ e = [(0, .v (.ints g f)), (1, .v (.ints g' h)), (5, .ownI 2 b o), (6, .v (.int .i64 i)), (7, .v (.int .i64 k))]) _ _ ⟨0, b, o, Nat.zero_le _, h2, h3, rfl, rfl⟩ (by dsimp only; omega) (by repeat' first | refine And.intro ?_ ?_ | exact trivial | rfl | omega | assumption) ?_))
  clear hK K
  clear h3 h2 b o
  rintro m' e ⟨k, b, o, h5, h2, h3, hm', rfl⟩
  refine W.seqK fun K7 hK7 => wrs fun K hK => ?_
  conv => whnf
  refine hK _ (W.cond ⟨fun h6 => ?_, fun h6 => ?_⟩) <;> clear hK K <;> (first | replace h6 := of_decide_eq_true h6 | replace h6 := of_decide_eq_false h6)
  ·refine W.skip (hK7 _ ?_)
   clear hK7 K7
   refine W.seqK fun K10 hK10 => W.block ?_
   have h7 := part_next (o := o) (by omega) h4 (by omega : k < h.length) h3
   have h8 := hpb i k (i + k) h4
   have h9 := hpb i (k + 1) (i + k) h4
   rw [part_step, if_pos rfl] at h9
   have h10 := hmb i k h4
   rw [← h3] at h8 h9
   have e1 : ((i : Int) + k).toNat = i + k := by omega
   refine W.draw (cx_ok _) follows (by rfl) ?_
   conv => whnf
   refine ⟨oo, ?_⟩
   conv => whnf
   refine ⟨oo, ?_⟩
   conv => whnf
   refine ⟨oo, ?_⟩
   conv => whnf
   refine ⟨oo, ?_⟩
   conv => whnf
   refine ⟨oo, ?_⟩
   conv => whnf
   rw [e1, Int.toNat_natCast, Int.toNat_natCast]
   refine ⟨by show _ ≤ cf f i * cf h k ∧ cf f i * cf h k ≤ _; omega, ?_⟩
   conv => whnf
   refine ⟨by show _ ≤ cf o (i + k) + cf f i * cf h k ∧ cf o (i + k) + cf f i * cf h k ≤ _; omega, ?_⟩
   conv => whnf
   refine ⟨oo, ?_⟩
   conv => whnf
   refine hK10 _ ?_
   clear hK10 K10
   refine wrg ?_
   conv => whnf
   refine ⟨oo, ?_⟩
   conv => whnf
   exact againA ⟨k + 1, b, o.set (i + k) (cf o (i + k) + cf f i * cf h k), by omega, by simpa using h2, h7.2, rfl, rfl⟩
  ·obtain rfl : k = h.length := by omega
   refine W.exit (hK8 _ ?_)
   clear hK7 K7 hK8 K8
   refine wrg ?_
   conv => whnf
   refine ⟨oo, ?_⟩
   conv => whnf
   exact againA ⟨i + 1, b, o, by omega, h2, fun j => by rw [h3 j]; exact part_row (fun j hj => cf_ge hj) i j, rfl, rfl⟩
 ·refine W.exit (hK1 _ ?_)
  clear hK7 K7 hK1 K1
  obtain rfl : i = f.length := by omega
  refine wrs fun K hK => ?_
  conv => whnf
  refine callI rfl (l06Trim_fn _ _ (by omega)) fun hs_1 b_1 hh_1 hf_1 => ?_
  try dsimp only at hh_1 hf_1
  conv => whnf
  refine hK _ ?_
  clear hK K
  refine W.ret ?_
  conv => whnf
  exact ⟨.ownI 2 _ (trimZ (mulL f h)), ⟨rfl, rfl, trim_mul fun j => by rw [h3 j]; exact part_end (fun j hj => cf_ge hj) j⟩, trivial, _, rfl⟩

open Go Go.RowKit Go.Proofs Poly
set_option maxRecDepth 100000
set_option maxHeartbeats 8000000

theorem mul97 {a b : Int} (ha : -97 ≤ a ∧ a ≤ 97) (hb : -97 ≤ b ∧ b ≤ 97) : -9409 ≤ a * b ∧ a * b ≤ 9409 := by
 have e1 : (a * b).natAbs ≤ (97 * 97 : Int).natAbs := by
  rw [Int.natAbs_mul, Int.natAbs_mul]
  exact Nat.mul_le_mul (by omega) (by omega)
 omega
theorem mul_bd {p : Int} [SP p] (F G : Poly p) (h : dg F ≤ 1000) : Bd 10000000 (trimZ (mulL F.l G.l)) := by
 refine Bd.trim fun j => ?_
 rw [cf_mulL]
 have := cv_bd (A := 97) (B := 97) (by omega) (by omega) (n := dg F) (cf F.l) (cf G.l) (l_bd F) (fun j hj => cf_dg hj) (l_bd G) j
 have h2 : (dg F : Int) * (97 * 97) ≤ 1000 * (97 * 97) := Int.mul_le_mul_of_nonneg_right (by omega) (by omega)
 omega
theorem Bd.le {M N : Int} {l : List Int} (h : Bd M l) (hm : M ≤ N) : Bd N l := fun j => by have := h j; omega
theorem times_fn (p : Int) [SP p] (g g' : Option Nat) (F G : Poly p) (hF : dg F ≤ 1000) (hG : dg G ≤ 1000) : FnI 251 [.int .i64 p, .ints g F.l, .ints g' G.l] (F * G).l := by
 have hp := Pr.two (p := p)
 have hp2 := SP.le (p := p)
 have hFl : F.l.length = dg F := rfl
 have hGl : G.l.length = dg G := rfl
 have hml : (mulL F.l G.l).length ≤ 2000 := by rw [mulL, mkL_length]; omega
 have hml2 := trimZ_length (mulL F.l G.l)
 refine fn_of (cx_ok [0, 1, 2, 6]) Tryz.func251 rfl (by decide) Tryz.ntmps251 (Nat.le_of_ble_eq_true rfl) fun base => ?_
 refine wrs fun K hK => ?_
 conv => whnf
 refine hK _ ?_
 clear hK K
 refine wrs fun K hK => ?_
 conv => whnf
 refine callI rfl (productOf_fn _ _ _ _ 97 97 (by omega) (by omega) (l_bd F) (l_bd G) (by have : ((dg F : Int) + 1) * (97 * 97) ≤ 1001 * (97 * 97) := Int.mul_le_mul_of_nonneg_right (by omega) (by omega); rw [hFl]; omega) (by omega) (by omega)) fun hs_1 b_1 hh_1 hf_1 => ?_
 try dsimp only at hh_1 hf_1
 conv => whnf
 refine callI rfl (reduce_fn p (by omega) (by omega) _ _ ((mul_bd F G hF).le (by omega)) (by omega)) fun hs_2 b_2 hh_2 hf_2 => ?_
 try dsimp only at hh_2 hf_2
 conv => whnf
 refine hK _ ?_
 clear hK K
 refine W.ret ?_
 conv => whnf
 exact ⟨.ownI 2 _ ((F * G).l), ⟨rfl, rfl, nrm_trim _ _⟩, trivial, _, rfl⟩
theorem l08Multiply_fn (p : Int) [SP p] (g g' : Option Nat) (F G : Poly p) (hF : dg F ≤ 1000) (hG : dg G ≤ 1000) : FnI 253 [.int .i64 p, .ints g F.l, .ints g' G.l] (F * G).l := by
 have hp := Pr.two (p := p)
 have hp2 := SP.le (p := p)
 have hFl : F.l.length = dg F := rfl
 have hGl : G.l.length = dg G := rfl
 have hml : (mulL F.l G.l).length ≤ 2000 := by rw [mulL, mkL_length]; omega
 have hml2 := trimZ_length (mulL F.l G.l)
 refine fn_of (cx_ok [0, 1, 2, 6]) Tryz.func253 rfl (by decide) Tryz.ntmps253 (Nat.le_of_ble_eq_true rfl) fun base => ?_
 refine wrs fun K hK => ?_
 conv => whnf
 refine hK _ ?_
 clear hK K
 refine wrs fun K hK => ?_
 conv => whnf
 refine callI rfl (l06Multiply_fn _ _ _ _ 97 97 (by omega) (by omega) (l_bd F) (l_bd G) (by have : ((dg F : Int) + 1) * (97 * 97) ≤ 1001 * (97 * 97) := Int.mul_le_mul_of_nonneg_right (by omega) (by omega); rw [hFl]; omega) (by omega) (by omega)) fun hs_1 b_1 hh_1 hf_1 => ?_
 try dsimp only at hh_1 hf_1
 conv => whnf
 refine callI rfl (l08Reduce_fn p (by omega) (by omega) _ _ ((mul_bd F G hF).le (by omega)) (by omega)) fun hs_2 b_2 hh_2 hf_2 => ?_
 try dsimp only at hh_2 hf_2
 conv => whnf
 refine hK _ ?_
 clear hK K
 refine W.ret ?_
 conv => whnf
 exact ⟨.ownI 2 _ ((F * G).l), ⟨rfl, rfl, nrm_trim _ _⟩, trivial, _, rfl⟩
theorem divide_fn (p : Int) [SP p] (g g' : Option Nat) (F G : Poly p) (hF : dg F ≤ 1000000) (hG : dg G ≤ 1000000) (hG0 : G ≠ 0) : FnV 260 [.int .i64 p, .ints g F.l, .ints g' G.l] (.tup [.ints none (quo F G).l, .ints none (rem F G).l]) := by
 have hp := Pr.two (p := p)
 have hp2 := SP.le (p := p)
 have hFl : F.l.length = dg F := rfl
 have hGl : G.l.length = dg G := rfl
 have hm0 : dg G ≠ 0 := fun e => hG0 (dg_eq_zero.1 e)
 have hlead : cf G.l (dg G - 1) % p ≠ 0 := cf_ne_mod (dg_lead (by omega))
 have hmx : (max (0 : Int) ((dg F : Int) - dg G + 1)) = ((dg F + 1 - dg G : Nat) : Int) := by omega
 have hiv := invm_spec hlead
 refine fn_of (cx_ok [0, 1, 2, 6, 7, 8, 9, 10, 11, 12, 13, 36, 54, 55, 56, 57]) Tryz.func260 rfl (by decide) Tryz.ntmps260 (Nat.le_of_ble_eq_true rfl) fun base => ?_
 refine wrs fun K hK => ?_
 conv => whnf
 refine hK _ ?_
 clear hK K
 refine wrs fun K hK => ?_
 conv => whnf
 refine callI rfl (clone_fn _ _ (by omega)) fun hs_0 b_0 hh_0 hf_0 => ?_
 try dsimp only at hh_0 hf_0
 conv => whnf
 refine hK _ ?_
 clear hK K
 refine wrs fun K hK => ?_
 conv => whnf
 rw [hFl, hGl]
 refine ⟨oo, ?_⟩
 conv => whnf
 refine ⟨oo, ?_⟩
 conv => whnf
 rw [hmx]
 refine ⟨rfl, ?_⟩
 conv => whnf
 refine ⟨oo, ?_⟩
 conv => whnf
 generalize hnq : dg F + 1 - dg G = nq
 rw [Int.toNat_natCast]
 intro b_q hs_q hh_q hf_q
 try dsimp only at hh_q hf_q
 conv => whnf
 refine hK _ ?_
 clear hK K
 refine wrs fun K hK => ?_
 conv => whnf
 rw [hGl]
 refine ⟨oo, ?_⟩
 conv => whnf
 refine ⟨oo, ?_⟩
 conv => whnf
 have e0 : ((dg G : Int) - 1).toNat = dg G - 1 := by omega
 rw [e0]
 refine callV rfl (inverseBy_fn p _ (by have := l_bd G (dg G - 1); show _ ≤ cf G.l (dg G - 1) ∧ cf G.l (dg G - 1) ≤ _; omega) hlead) fun hs' hhs => ?_
 try dsimp only at hhs
 conv => whnf
 generalize hlast : invm p (cf G.l (dg G - 1)) = last at hiv
 refine hK _ ?_
 clear hK K
 refine W.seqK fun K1 hK1 => wrs fun K hK => ?_
 conv => whnf
 rw [List.length_replicate]
 refine ⟨oo, ?_⟩
 conv => whnf
 refine hK _ (W.block (W.invA (fun m e => ∃ (k b b' : Nat) (r q : List Int), k ≤ nq ∧ DivI p F G nq k r q ∧ m = k ∧ e = [(0, .v (.int .i64 p)), (2, .v (.ints g' G.l)), (8, .ownI 2 b r), (9, .ownI 2 b' q), (10, .v (.int .i64 last)), (11, .v (.int .i64 ((k : Int) - 1)))]) ⟨nq, b_0, b_q, F.l, List.replicate nq 0, Nat.le_refl _, DivI.start F G (by omega), rfl, rfl⟩ ?_))
 clear hK K
 rintro m e ⟨k', b, b', r, q, hk, hd, hm, rfl⟩
 refine W.seqK fun K7 hK7 => wrs fun K hK => ?_
 conv => whnf
 refine hK _ (W.cond ⟨fun h => ?_, fun h => ?_⟩) <;> clear hK K <;> (first | replace h := of_decide_eq_true h | replace h := of_decide_eq_false h)
 ·refine W.skip (hK7 _ ?_)
  clear hK7 K7
  refine W.seqK fun K8 hK8 => W.block ?_
  obtain ⟨k, rfl⟩ : ∃ k, k' = k + 1 := ⟨k' - 1, by omega⟩
  have hrl := hd.rl
  have hql := hd.ql
  have e1 : (((k + 1 : Nat) : Int) - 1) = k := by omega
  have e2 : ((k : Int) + dg G - 1).toNat = k + dg G - 1 := by omega
  rw [e1]
  have h1 := hd.rr (k + dg G - 1)
  generalize hc : cf r (k + dg G - 1) * last % p = c
  have hcr : 0 ≤ c ∧ c < p := by rw [← hc]; exact ⟨Int.emod_nonneg _ (by omega), Int.emod_lt_of_pos _ (by omega)⟩
  have h2 := mul97 (a := cf r (k + dg G - 1)) (b := last) (by omega) (by omega)
  have h3 : 0 ≤ cf r (k + dg G - 1) * last := Int.mul_nonneg (by omega) (by omega)
  have hcm : (cf r (k + dg G - 1) * last).tmod p = c := by rw [← hc]; exact Int.tmod_eq_emod_of_nonneg h3
  refine wrs fun K hK => ?_
  conv => whnf
  rw [hGl]
  refine ⟨oo, ?_⟩
  conv => whnf
  refine ⟨oo, ?_⟩
  conv => whnf
  refine ⟨oo, ?_⟩
  conv => whnf
  rw [e2]
  refine ⟨by show _ ≤ cf r (k + dg G - 1) * last ∧ cf r (k + dg G - 1) * last ≤ _; omega, ?_⟩
  conv => whnf
  refine ⟨by omega, ?_⟩
  conv => whnf
  refine ⟨oo, ?_⟩
  conv => whnf
  have e3 : (r.getD (k + dg G - 1) 0 * last).tmod p = c := hcm
  rw [Int.toNat_natCast, e3]
  refine hK _ ?_
  clear hK K
  refine wrs fun K hK => ?_
  conv => whnf
  rw [hGl]
  refine hK _ (W.block (W.invE (fun m e => ∃ (i b : Nat) (o : List Int), i ≤ dg G ∧ o.length = dg F ∧ (∀ j, cf o j = if k ≤ j ∧ j < k + i then (cf r j - c * cf G.l (j - k)) % p else cf r j) ∧ m = dg G - i ∧ e = [(0, .v (.int .i64 p)), (2, .v (.ints g' G.l)), (8, .ownI 2 b o), (9, .ownI 2 b' (q.set k c)), (10, .v (.int .i64 last)), (11, .v (.int .i64 k)), (54, .v (.ints g' G.l)), (55, .v (.int .i64 (dg G))), (56, .v (.int .i64 i))]) _ _ ⟨0, b, r, Nat.zero_le _, hrl, fun j => by rw [if_neg (by omega)], rfl, rfl⟩ (by dsimp only; omega) (by repeat' first | refine And.intro ?_ ?_ | exact trivial | rfl | omega | assumption) ?_))
  clear hK K b
  rintro m' e ⟨i, b, o, h5, h6, h7, hm', rfl⟩
  refine wrs fun K hK => ?_
  conv => whnf
  refine hK _ ?_
  clear hK K
  refine W.seqK fun K7 hK7 => W.cond ⟨fun h8 => ?_, fun h8 => ?_⟩ <;> (first | replace h8 := of_decide_eq_true h8 | replace h8 := of_decide_eq_false h8)
  ·refine W.skip (hK7 _ ?_)
   clear hK7 K7
   refine W.seqK fun K9 hK9 => W.block ?_
   have h8 : i < dg G := by omega
   refine wrs fun K hK => ?_
   conv => whnf
   refine ⟨oo, ?_⟩
   conv => whnf
   rw [Int.toNat_natCast]
   refine hK _ ?_
   clear hK K
   obtain ⟨h9, h10⟩ := row_next (p := p) (c := c) (g := cf G.l) (r := r) (o := o) (k := k) (i := i) h6 (by omega) h7
   have h11 := hd.rr (k + i)
   have h12 := l_bd G i
   have h13 := mul97 (a := c) (b := cf G.l i) (by omega) h12
   have e4 : ((k : Int) + i).toNat = k + i := by omega
   have e5 : (q.set k c).getD k 0 = c := by
    have := cf_set (l := q) (i := k) (by omega) c k
    rw [if_pos rfl] at this; exact this
   refine W.draw (cx_ok _) follows (by rfl) ?_
   conv => whnf
   refine ⟨oo, ?_⟩
   conv => whnf
   refine ⟨oo, ?_⟩
   conv => whnf
   refine ⟨oo, ?_⟩
   conv => whnf
   rw [e4]
   refine ⟨⟨by omega, by simp; omega⟩, ?_⟩
   conv => whnf
   rw [Int.toNat_natCast, e5]
   refine ⟨by show _ ≤ c * cf G.l i ∧ c * cf G.l i ≤ _; omega, ?_⟩
   conv => whnf
   refine ⟨by show _ ≤ cf o (k + i) - c * cf G.l i ∧ cf o (k + i) - c * cf G.l i ≤ _; omega, ?_⟩
   conv => whnf
   refine ⟨_, cxF (mod_fn _ p (by omega) (by show _ ≤ cf o (k + i) - c * cf G.l i ∧ cf o (k + i) - c * cf G.l i ≤ _; omega) (by omega)), ?_⟩
   conv => whnf
   refine ⟨oo, ?_⟩
   conv => whnf
   refine hK9 _ ?_
   clear hK9 K9
   refine wrg ?_
   conv => whnf
   refine ⟨oo, ?_⟩
   conv => whnf
   exact againA ⟨i + 1, b, o.set (k + i) ((cf o (k + i) - c * cf G.l i) % p), by omega, by simpa using h6, h10, rfl, rfl⟩
  ·obtain rfl : i = dg G := by omega
   refine W.exit (hK8 _ ?_)
   clear hK7 K7 hK8 K8
   refine wrg ?_
   conv => whnf
   refine ⟨oo, ?_⟩
   conv => whnf
   exact againA ⟨k, b, b', o, q.set k c, by omega, hd.step hG0 (by omega) c (by rw [hlast]; exact hc.symm) (by omega) h7, rfl, rfl⟩
 ·refine W.exit (hK1 _ ?_)
  clear hK7 K7 hK1 K1
  obtain rfl : k' = 0 := by omega
  obtain ⟨h1, h2⟩ := hd.fin hG0
  have hrl := hd.rl
  have hql := hd.ql
  refine wrs fun K hK => ?_
  conv => whnf
  refine callI rfl (trim_fn _ _ (by omega)) fun hs_1 b_1 hh_1 hf_1 => ?_
  try dsimp only at hh_1 hf_1
  conv => whnf
  refine callI rfl (trim_fn _ _ (by omega)) fun hs_2 b_2 hh_2 hf_2 => ?_
  try dsimp only at hh_2 hf_2
  conv => whnf
  refine hK _ ?_
  clear hK K
  rw [h1, h2]
  refine W.ret ?_
  conv => whnf
  exact ⟨.v (.ints none (quo F G).l), ⟨.inl rfl, rfl⟩, trivial, .v (.ints none (rem F G).l), ⟨.inl rfl, rfl⟩, trivial, rfl⟩

theorem l08Divide_fn (p : Int) [SP p] (g g' : Option Nat) (F G : Poly p) (hF : dg F ≤ 1000000) (hG : dg G ≤ 1000000) (hG0 : G ≠ 0) : FnV 275 [.int .i64 p, .ints g F.l, .ints g' G.l] (.tup [.ints none (quo F G).l, .ints none (rem F G).l]) := by
 have hp := Pr.two (p := p)
 have hp2 := SP.le (p := p)
 have hFl : F.l.length = dg F := rfl
 have hGl : G.l.length = dg G := rfl
 have hm0 : dg G ≠ 0 := fun e => hG0 (dg_eq_zero.1 e)
 have hlead : cf G.l (dg G - 1) % p ≠ 0 := cf_ne_mod (dg_lead (by omega))
 have hmx : (max (0 : Int) ((dg F : Int) - dg G + 1)) = ((dg F + 1 - dg G : Nat) : Int) := by omega
 have hiv := invm_spec hlead
 refine fn_of (cx_ok [0, 1, 2, 6, 7, 8, 9, 10, 11, 12, 13, 36, 58]) Tryz.func275 rfl (by decide) Tryz.ntmps275 (Nat.le_of_ble_eq_true rfl) fun base => ?_
 refine wrs fun K hK => ?_
 conv => whnf
 refine hK _ ?_
 clear hK K
 refine wrs fun K hK => ?_
 conv => whnf
 refine callI rfl (own_fn _ _ (by omega)) fun hs_0 b_0 hh_0 hf_0 => ?_
 try dsimp only at hh_0 hf_0
 conv => whnf
 refine hK _ ?_
 clear hK K
 refine wrs fun K hK => ?_
 conv => whnf
 rw [hFl, hGl]
 refine ⟨oo, ?_⟩
 conv => whnf
 refine ⟨oo, ?_⟩
 conv => whnf
 rw [hmx]
 refine ⟨rfl, ?_⟩
 conv => whnf
 refine ⟨oo, ?_⟩
 conv => whnf
 generalize hnq : dg F + 1 - dg G = nq
 rw [Int.toNat_natCast]
 intro b_q hs_q hh_q hf_q
 try dsimp only at hh_q hf_q
 conv => whnf
 refine hK _ ?_
 clear hK K
 refine wrs fun K hK => ?_
 conv => whnf
 rw [hGl]
 refine ⟨oo, ?_⟩
 conv => whnf
 refine ⟨oo, ?_⟩
 conv => whnf
 have e0 : ((dg G : Int) - 1).toNat = dg G - 1 := by omega
 rw [e0]
 refine callV rfl (l02Inverse_fn p _ (cf_bd G (dg G - 1)) hlead) fun hs' hhs => ?_
 try dsimp only at hhs
 conv => whnf
 generalize hlast : invm p (cf G.l (dg G - 1)) = last at hiv
 refine hK _ ?_
 clear hK K
 refine W.seqK fun K1 hK1 => wrs fun K hK => ?_
 conv => whnf
 rw [List.length_replicate]
 refine ⟨oo, ?_⟩
 conv => whnf
 refine hK _ (W.block (W.invA (fun m e => ∃ (k b b' : Nat) (r q : List Int), k ≤ nq ∧ DivI p F G nq k r q ∧ m = k ∧ e = [(0, .v (.int .i64 p)), (2, .v (.ints g' G.l)), (8, .ownI 2 b r), (9, .ownI 2 b' q), (10, .v (.int .i64 last)), (11, .v (.int .i64 ((k : Int) - 1)))]) ⟨nq, b_0, b_q, F.l, List.replicate nq 0, Nat.le_refl _, DivI.start F G (by omega), rfl, rfl⟩ ?_))
 clear hK K
 rintro m e ⟨k', b, b', r, q, hk, hd, hm, rfl⟩
 refine W.seqK fun K7 hK7 => wrs fun K hK => ?_
 conv => whnf
 refine hK _ (W.cond ⟨fun h => ?_, fun h => ?_⟩) <;> clear hK K <;> (first | replace h := of_decide_eq_true h | replace h := of_decide_eq_false h)
 ·refine W.skip (hK7 _ ?_)
  clear hK7 K7
  refine W.seqK fun K8 hK8 => W.block ?_
  obtain ⟨k, rfl⟩ : ∃ k, k' = k + 1 := ⟨k' - 1, by omega⟩
  have hrl := hd.rl
  have hql := hd.ql
  have e1 : (((k + 1 : Nat) : Int) - 1) = k := by omega
  have e2 : ((k : Int) + dg G - 1).toNat = k + dg G - 1 := by omega
  rw [e1]
  have h1 := hd.rr (k + dg G - 1)
  generalize hc : cf r (k + dg G - 1) * last % p = c
  have hcr : 0 ≤ c ∧ c < p := by rw [← hc]; exact ⟨Int.emod_nonneg _ (by omega), Int.emod_lt_of_pos _ (by omega)⟩
  have h2 := mul97 (a := cf r (k + dg G - 1)) (b := last) (by omega) (by omega)
  have h3 : 0 ≤ cf r (k + dg G - 1) * last := Int.mul_nonneg (by omega) (by omega)
  have hcm : (cf r (k + dg G - 1) * last).tmod p = c := by rw [← hc]; exact Int.tmod_eq_emod_of_nonneg h3
  have e3 : (r.getD (k + dg G - 1) 0 * last).tmod p = c := hcm
  refine wrs fun K hK => ?_
  conv => whnf
  rw [hGl]
  refine ⟨oo, ?_⟩
  conv => whnf
  refine ⟨oo, ?_⟩
  conv => whnf
  refine ⟨oo, ?_⟩
  conv => whnf
  rw [e2]
  refine ⟨by show _ ≤ cf r (k + dg G - 1) * last ∧ cf r (k + dg G - 1) * last ≤ _; omega, ?_⟩
  conv => whnf
  refine ⟨by omega, ?_⟩
  conv => whnf
  rw [e3]
  refine hK _ ?_
  clear hK K
  refine wrs fun K hK => ?_
  conv => whnf
  refine ⟨oo, ?_⟩
  conv => whnf
  rw [Int.toNat_natCast]
  refine hK _ ?_
  clear hK K
  refine wrs fun K hK => ?_
  conv => whnf
  refine hK _ (W.block (W.invE (fun m e => ∃ (i b : Nat) (o : List Int), i ≤ dg G ∧ o.length = dg F ∧ (∀ j, cf o j = if k ≤ j ∧ j < k + i then (cf r j - c * cf G.l (j - k)) % p else cf r j) ∧ m = dg G - i ∧ e = [(0, .v (.int .i64 p)), (2, .v (.ints g' G.l)), (8, .ownI 2 b o), (9, .ownI 2 b' (q.set k c)), (10, .v (.int .i64 last)), (11, .v (.int .i64 k)), (12, .v (.int .i64 c)), (13, .v (.int .i64 i))]) _ _ ⟨0, b, r, Nat.zero_le _, hrl, fun j => by rw [if_neg (by omega)], rfl, rfl⟩ (by dsimp only; omega) (by repeat' first | refine And.intro ?_ ?_ | exact trivial | rfl | omega | assumption) ?_))
  clear hK K b
  rintro m' e ⟨i, b, o, h5, h6, h7, hm', rfl⟩
  refine W.seqK fun K7 hK7 => wrs fun K hK => ?_
  conv => whnf
  refine hK _ (W.cond ⟨fun h8 => ?_, fun h8 => ?_⟩) <;> clear hK K <;> (first | replace h8 := of_decide_eq_true h8 | replace h8 := of_decide_eq_false h8)
  ·refine W.skip (hK7 _ ?_)
   clear hK7 K7
   refine W.seqK fun K9 hK9 => W.block ?_
   have h8 : i < dg G := by omega
   obtain ⟨h9, h10⟩ := row_next (p := p) (c := c) (g := cf G.l) (r := r) (o := o) (k := k) (i := i) h6 (by omega) h7
   have h11 := hd.rr (k + i)
   have h12 := l_bd G i
   have h13 := mul97 (a := c) (b := cf G.l i) (by omega) h12
   have e4 : ((k : Int) + i).toNat = k + i := by omega
   refine W.draw (cx_ok _) follows (by rfl) ?_
   conv => whnf
   refine ⟨oo, ?_⟩
   conv => whnf
   refine ⟨oo, ?_⟩
   conv => whnf
   refine ⟨oo, ?_⟩
   conv => whnf
   rw [e4]
   refine ⟨oo, ?_⟩
   conv => whnf
   rw [Int.toNat_natCast]
   refine ⟨by show _ ≤ c * cf G.l i ∧ c * cf G.l i ≤ _; omega, ?_⟩
   conv => whnf
   refine ⟨by show _ ≤ cf o (k + i) - c * cf G.l i ∧ cf o (k + i) - c * cf G.l i ≤ _; omega, ?_⟩
   conv => whnf
   refine ⟨_, cxF (l01Mod_fn _ p (by omega) (by show _ ≤ cf o (k + i) - c * cf G.l i ∧ cf o (k + i) - c * cf G.l i ≤ _; omega) (by omega)), ?_⟩
   conv => whnf
   refine ⟨oo, ?_⟩
   conv => whnf
   refine hK9 _ ?_
   clear hK9 K9
   refine wrg ?_
   conv => whnf
   refine ⟨oo, ?_⟩
   conv => whnf
   exact againA ⟨i + 1, b, o.set (k + i) ((cf o (k + i) - c * cf G.l i) % p), by omega, by simpa using h6, h10, rfl, rfl⟩
  ·obtain rfl : i = dg G := by omega
   refine W.exit (hK8 _ ?_)
   clear hK7 K7 hK8 K8
   refine wrg ?_
   conv => whnf
   refine ⟨oo, ?_⟩
   conv => whnf
   exact againA ⟨k, b, b', o, q.set k c, by omega, hd.step hG0 (by omega) c (by rw [hlast]; exact hc.symm) (by omega) h7, rfl, rfl⟩
 ·refine W.exit (hK1 _ ?_)
  clear hK7 K7 hK1 K1
  obtain rfl : k' = 0 := by omega
  obtain ⟨h1, h2⟩ := hd.fin hG0
  have hrl := hd.rl
  have hql := hd.ql
  refine wrs fun K hK => ?_
  conv => whnf
  refine callI rfl (l06Trim_fn _ _ (by omega)) fun hs_1 b_1 hh_1 hf_1 => ?_
  try dsimp only at hh_1 hf_1
  conv => whnf
  refine callI rfl (l06Trim_fn _ _ (by omega)) fun hs_2 b_2 hh_2 hf_2 => ?_
  try dsimp only at hh_2 hf_2
  conv => whnf
  refine hK _ ?_
  clear hK K
  rw [h1, h2]
  refine W.ret ?_
  conv => whnf
  exact ⟨.v (.ints none (quo F G).l), ⟨.inl rfl, rfl⟩, trivial, .v (.ints none (rem F G).l), ⟨.inl rfl, rfl⟩, trivial, rfl⟩


theorem remainder_fn (p : Int) [SP p] (g g' : Option Nat) (F G : Poly p) (hF : dg F ≤ 1000000) (hG : dg G ≤ 1000000) (hG0 : G ≠ 0) : FnV 321 [.int .i64 p, .ints g F.l, .ints g' G.l] (.ints none (rem F G).l) := by
 refine fn_of (cx_ok [0, 1, 2, 6, 8]) Tryz.func321 rfl (by decide) Tryz.ntmps321 (Nat.le_of_ble_eq_true rfl) fun base => ?_
 refine wrs fun K hK => ?_
 conv => whnf
 refine hK _ ?_
 clear hK K
 refine wrs fun K hK => ?_
 conv => whnf
 refine callV rfl (divide_fn p g g' F G hF hG hG0) fun hs' hhs => ?_
 try dsimp only at hhs
 conv => whnf
 refine hK _ ?_
 clear hK K
 refine wrs fun K hK => ?_
 conv => whnf
 refine hK _ ?_
 clear hK K
 refine W.ret ?_
 conv => whnf
 exact ⟨.v (.ints none (rem F G).l), ⟨rfl, rfl⟩, trivial, rfl⟩
theorem l08Rest_fn (p : Int) [SP p] (g g' : Option Nat) (F G : Poly p) (hF : dg F ≤ 1000000) (hG : dg G ≤ 1000000) (hG0 : G ≠ 0) : FnV 322 [.int .i64 p, .ints g F.l, .ints g' G.l] (.ints none (rem F G).l) := by
 refine fn_of (cx_ok [0, 1, 2, 6, 8]) Tryz.func322 rfl (by decide) Tryz.ntmps322 (Nat.le_of_ble_eq_true rfl) fun base => ?_
 refine wrs fun K hK => ?_
 conv => whnf
 refine hK _ ?_
 clear hK K
 refine wrs fun K hK => ?_
 conv => whnf
 refine callV rfl (l08Divide_fn p g g' F G hF hG hG0) fun hs' hhs => ?_
 try dsimp only at hhs
 conv => whnf
 refine hK _ ?_
 clear hK K
 refine wrs fun K hK => ?_
 conv => whnf
 refine hK _ ?_
 clear hK K
 refine W.ret ?_
 conv => whnf
 exact ⟨.v (.ints none (rem F G).l), ⟨rfl, rfl⟩, trivial, rfl⟩
theorem monic_fn (p : Int) [SP p] (g : Option Nat) (F : Poly p) (hF : dg F ≤ 1000) : FnI 335 [.int .i64 p, .ints g F.l] (mnc F).l := by
 have hp := Pr.two (p := p)
 have hFl : F.l.length = dg F := rfl
 refine fn_of (cx_ok [0, 1, 4, 7]) Tryz.func335 rfl (by decide) Tryz.ntmps335 (Nat.le_of_ble_eq_true rfl) fun base => ?_
 refine wrs fun K hK => ?_
 conv => whnf
 refine hK _ ?_
 clear hK K
 refine W.seqK fun K1 hK1 => wrs fun K hK => ?_
 conv => whnf
 rw [hFl]
 refine hK _ (W.cond ⟨fun h => ?_, fun h => ?_⟩) <;> clear hK K
 ·have h := of_decide_eq_true h
  have hF0 : F = 0 := dg_eq_zero.1 (by omega)
  refine wrs fun K hK => ?_
  conv => whnf
  refine hK _ ?_
  clear hK K
  refine W.ret ?_
  conv => whnf
  exact ⟨.ownI 2 0 [], rfl, trivial, _, by rw [hF0, mnc_zero, zero_l]⟩
 ·have h := of_decide_eq_false h
  have hF0 : F ≠ 0 := fun e => h (by rw [e, dg_zero]; rfl)
  have e0 : ((dg F : Int) - 1).toNat = dg F - 1 := by omega
  have hlead : cf F.l (dg F - 1) % p ≠ 0 := cf_ne_mod (dg_lead (by omega))
  obtain ⟨h1, h2, h3⟩ := mnc_by hF0
  refine W.skip (hK1 _ ?_)
  clear hK1 K1
  refine wrs fun K hK => ?_
  conv => whnf
  rw [hFl]
  refine ⟨oo, ?_⟩
  conv => whnf
  refine ⟨oo, ?_⟩
  conv => whnf
  rw [e0]
  refine callV rfl (inverseBy_fn p _ (by have := l_bd F (dg F - 1); show _ ≤ cf F.l (dg F - 1) ∧ cf F.l (dg F - 1) ≤ _; omega) hlead) fun hs' hhs => ?_
  try dsimp only at hhs
  conv => whnf
  refine ⟨⟨rfl, by decide⟩, ?_⟩
  conv => whnf
  intro b_1 hs_1 hh_1 hf_1
  try dsimp only at hh_1 hf_1
  conv => whnf
  have e1 : [invm p (F.l.getD (dg F - 1) 0)] = (con p (invm p (cf F.l (dg F - 1)))).l := (con_l h1 h2).symm
  rw [e1]
  refine callI rfl (times_fn p _ _ F (con p (invm p (cf F.l (dg F - 1)))) hF (Nat.le_trans (con_dg _) (by omega))) fun hs_2 b_2 hh_2 hf_2 => ?_
  try dsimp only at hh_2 hf_2
  conv => whnf
  refine hK _ ?_
  clear hK K
  refine W.ret ?_
  conv => whnf
  exact ⟨.ownI 2 _ ((mnc F).l), ⟨rfl, rfl, by rw [h3]⟩, trivial, _, rfl⟩
theorem l08Monic_fn (p : Int) [SP p] (g : Option Nat) (F : Poly p) (hF : dg F ≤ 1000) : FnI 340 [.int .i64 p, .ints g F.l] (mnc F).l := by
 have hp := Pr.two (p := p)
 have hFl : F.l.length = dg F := rfl
 refine fn_of (cx_ok [0, 1, 4, 7]) Tryz.func340 rfl (by decide) Tryz.ntmps340 (Nat.le_of_ble_eq_true rfl) fun base => ?_
 refine wrs fun K hK => ?_
 conv => whnf
 refine hK _ ?_
 clear hK K
 refine W.seqK fun K1 hK1 => wrs fun K hK => ?_
 conv => whnf
 rw [hFl]
 refine hK _ (W.cond ⟨fun h => ?_, fun h => ?_⟩) <;> clear hK K
 ·have h := of_decide_eq_true h
  have hF0 : F = 0 := dg_eq_zero.1 (by omega)
  refine wrs fun K hK => ?_
  conv => whnf
  refine ⟨⟨rfl, by decide⟩, ?_⟩
  conv => whnf
  intro b_1 hs_1 hh_1 hf_1
  try dsimp only at hh_1 hf_1
  conv => whnf
  refine hK _ ?_
  clear hK K
  refine W.ret ?_
  conv => whnf
  exact ⟨.ownI 2 b_1 [], ⟨rfl, rfl, rfl⟩, trivial, _, by rw [hF0, mnc_zero, zero_l]⟩
 ·have h := of_decide_eq_false h
  have hF0 : F ≠ 0 := fun e => h (by rw [e, dg_zero]; rfl)
  have e0 : ((dg F : Int) - 1).toNat = dg F - 1 := by omega
  have hlead : cf F.l (dg F - 1) % p ≠ 0 := cf_ne_mod (dg_lead (by omega))
  obtain ⟨h1, h2, h3⟩ := mnc_by hF0
  refine W.skip (hK1 _ ?_)
  clear hK1 K1
  refine wrs fun K hK => ?_
  conv => whnf
  rw [hFl]
  refine ⟨oo, ?_⟩
  conv => whnf
  refine ⟨oo, ?_⟩
  conv => whnf
  rw [e0]
  refine callV rfl (l02Inverse_fn p _ (cf_bd F (dg F - 1)) hlead) fun hs' hhs => ?_
  try dsimp only at hhs
  conv => whnf
  refine ⟨⟨rfl, by decide⟩, ?_⟩
  conv => whnf
  intro b_1 hs_1 hh_1 hf_1
  try dsimp only at hh_1 hf_1
  conv => whnf
  have e1 : [invm p (F.l.getD (dg F - 1) 0)] = (con p (invm p (cf F.l (dg F - 1)))).l := (con_l h1 h2).symm
  rw [e1]
  refine callI rfl (l08Multiply_fn p _ _ F (con p (invm p (cf F.l (dg F - 1)))) hF (Nat.le_trans (con_dg _) (by omega))) fun hs_2 b_2 hh_2 hf_2 => ?_
  try dsimp only at hh_2 hf_2
  conv => whnf
  refine hK _ ?_
  clear hK K
  refine W.ret ?_
  conv => whnf
  exact ⟨.ownI 2 _ ((mnc F).l), ⟨rfl, rfl, by rw [h3]⟩, trivial, _, rfl⟩
theorem common_fn (p : Int) [SP p] (g g' : Option Nat) (F G : Poly p) (hF : dg F ≤ 1000) (hG : dg G ≤ 1000) : FnI 258 [.int .i64 p, .ints g F.l, .ints g' G.l] (gcd F G).l := by
 refine fn_of (cx_ok [0, 1, 2, 6, 8, 11]) Tryz.func258 rfl (by decide) Tryz.ntmps258 (Nat.le_of_ble_eq_true rfl) fun base => ?_
 refine wrs fun K hK => ?_
 conv => whnf
 refine hK _ ?_
 clear hK K
 refine W.seqK fun K1 hK1 => W.block (W.invA (fun m e => ∃ (x y : Option Nat) (A B : Poly p), gcd A B = gcd F G ∧ dg A ≤ 1000 ∧ dg B ≤ 1000 ∧ m = dg B ∧ e = [(0, .v (.int .i64 p)), (1, .v (.ints x A.l)), (2, .v (.ints y B.l))]) ⟨g, g', F, G, rfl, hF, hG, rfl, rfl⟩ ?_)
 rintro m e ⟨x, y, A, B, h1, h2, h3, hm, rfl⟩
 have hBl : B.l.length = dg B := rfl
 refine W.seqK fun K7 hK7 => wrs fun K hK => ?_
 conv => whnf
 rw [hBl]
 refine hK _ (W.cond ⟨fun h => ?_, fun h => ?_⟩) <;> clear hK K
 ·have h := of_decide_eq_true h
  have hB0 : B ≠ 0 := fun e => by rw [e, dg_zero] at h; simp at h
  have h4 := rem_lt A hB0
  refine W.skip (hK7 _ ?_)
  clear hK7 K7
  refine W.block ?_
  refine wrs fun K hK => ?_
  conv => whnf
  refine callV rfl (divide_fn p x y A B (by omega) (by omega) hB0) fun hs' hhs => ?_
  try dsimp only at hhs
  conv => whnf
  refine hK _ ?_
  clear hK K
  refine wrg ?_
  conv => whnf
  exact againA ⟨y, none, B, rem A B, (gcd_ne A hB0).symm.trans h1, h3, by omega, rfl, rfl⟩
 ·have h := of_decide_eq_false h
  have hB0 : B = 0 := dg_eq_zero.1 (by omega)
  subst hB0
  refine W.exit (hK1 _ ?_)
  clear hK1 K1 hK7 K7
  refine wrs fun K hK => ?_
  conv => whnf
  refine callI rfl (monic_fn p _ A h2) fun hs_1 b_1 hh_1 hf_1 => ?_
  try dsimp only at hh_1 hf_1
  conv => whnf
  refine hK _ ?_
  clear hK K
  rw [← gcd_zero, h1]
  refine W.ret ?_
  conv => whnf
  exact ⟨.ownI 2 _ ((gcd F G).l), ⟨rfl, rfl, rfl⟩, trivial, _, rfl⟩
theorem l08Common_fn (p : Int) [SP p] (g g' : Option Nat) (F G : Poly p) (hF : dg F ≤ 1000) (hG : dg G ≤ 1000) : FnI 383 [.int .i64 p, .ints g F.l, .ints g' G.l] (gcd F G).l := by
 refine fn_of (cx_ok [0, 1, 2, 6, 8, 11]) Tryz.func383 rfl (by decide) Tryz.ntmps383 (Nat.le_of_ble_eq_true rfl) fun base => ?_
 refine wrs fun K hK => ?_
 conv => whnf
 refine hK _ ?_
 clear hK K
 refine W.seqK fun K1 hK1 => W.block (W.invA (fun m e => ∃ (x y : Option Nat) (A B : Poly p), gcd A B = gcd F G ∧ dg A ≤ 1000 ∧ dg B ≤ 1000 ∧ m = dg B ∧ e = [(0, .v (.int .i64 p)), (1, .v (.ints x A.l)), (2, .v (.ints y B.l))]) ⟨g, g', F, G, rfl, hF, hG, rfl, rfl⟩ ?_)
 rintro m e ⟨x, y, A, B, h1, h2, h3, hm, rfl⟩
 have hBl : B.l.length = dg B := rfl
 refine W.seqK fun K7 hK7 => wrs fun K hK => ?_
 conv => whnf
 rw [hBl]
 refine hK _ (W.cond ⟨fun h => ?_, fun h => ?_⟩) <;> clear hK K
 ·have h := of_decide_eq_true h
  have hB0 : B ≠ 0 := fun e => by rw [e, dg_zero] at h; simp at h
  have h4 := rem_lt A hB0
  refine W.skip (hK7 _ ?_)
  clear hK7 K7
  refine W.block ?_
  refine wrs fun K hK => ?_
  conv => whnf
  refine callV rfl (l08Divide_fn p x y A B (by omega) (by omega) hB0) fun hs' hhs => ?_
  try dsimp only at hhs
  conv => whnf
  refine hK _ ?_
  clear hK K
  refine wrs fun K hK => ?_
  conv => whnf
  refine hK _ ?_
  clear hK K
  refine wrg ?_
  conv => whnf
  exact againA ⟨y, none, B, rem A B, (gcd_ne A hB0).symm.trans h1, h3, by omega, rfl, rfl⟩
 ·have h := of_decide_eq_false h
  have hB0 : B = 0 := dg_eq_zero.1 (by omega)
  subst hB0
  refine W.exit (hK1 _ ?_)
  clear hK1 K1 hK7 K7
  refine wrs fun K hK => ?_
  conv => whnf
  refine callI rfl (l08Monic_fn p _ A h2) fun hs_1 b_1 hh_1 hf_1 => ?_
  try dsimp only at hh_1 hf_1
  conv => whnf
  refine hK _ ?_
  clear hK K
  rw [← gcd_zero, h1]
  refine W.ret ?_
  conv => whnf
  exact ⟨.ownI 2 _ ((gcd F G).l), ⟨rfl, rfl, rfl⟩, trivial, _, rfl⟩

open Go Go.RowKit Go.Proofs Poly
set_option maxRecDepth 100000
set_option maxHeartbeats 8000000

theorem powerBy_fn (p : Int) [SP p] (g g' : Option Nat) (a f : Poly p) (n0 : Nat) (hn : n0 ≤ 1000000000000) (ha : dg a ≤ 1000000) (hf : dg f ≤ 500) (hf0 : f ≠ 0) : FnV 328 [.int .i64 p, .ints g a.l, .int .i64 n0, .ints g' f.l] (.ints none (rem (a ^ n0) f).l) := by
 have hfd : dg f ≠ 0 := fun e => hf0 (dg_eq_zero.1 e)
 refine fn_of (cx_ok [0, 1, 2, 3, 8, 9, 19, 24]) Tryz.func328 rfl (by decide) Tryz.ntmps328 (Nat.le_of_ble_eq_true rfl) fun base => ?_
 refine wrs fun K hK => ?_
 conv => whnf
 refine hK _ ?_
 clear hK K
 refine wrs fun K hK => ?_
 conv => whnf
 refine ⟨⟨rfl, by decide⟩, ?_⟩
 conv => whnf
 intro b_1 hs_1 hh_1 hf_1
 try dsimp only at hh_1 hf_1
 conv => whnf
 have e1 : [(1 : Int)] = (1 : Poly p).l := one_l.symm
 rw [e1]
 refine callV rfl (remainder_fn p _ g' 1 f (by rw [dg_one]; omega) (by omega) hf0) fun hs' hhs => ?_
 try dsimp only at hhs
 conv => whnf
 refine hK _ ?_
 clear hK K
 refine wrs fun K hK => ?_
 conv => whnf
 refine callV rfl (remainder_fn p g g' a f ha (by omega) hf0) fun hs' hhs => ?_
 try dsimp only at hhs
 conv => whnf
 refine hK _ ?_
 clear hK K
 refine W.seqK fun K1 hK1 => W.block (W.invA (fun m e => ∃ (n : Nat) (B O : Poly p), n ≤ 1000000000000 ∧ rem (O * B ^ n) f = rem (a ^ n0) f ∧ dg B < dg f ∧ dg O < dg f ∧ m = n ∧ e = [(0, .v (.int .i64 p)), (1, .v (.ints none B.l)), (2, .v (.int .i64 n)), (3, .v (.ints g' f.l)), (9, .v (.ints none O.l))]) ⟨n0, rem a f, rem 1 f, hn, by rw [rem_mul_left hf0, CR.one_mul, rem_pow hf0], rem_lt _ hf0, rem_lt _ hf0, rfl, rfl⟩ ?_)
 rintro m e ⟨n, B, O, hn1, h1, h2, h3, hm, rfl⟩
 have hmul : ∀ A B : Poly p, dg A < dg f → dg B < dg f → dg (A * B) ≤ 1000000 := fun A B h h' => by have := dg_mul_le A B; omega
 refine W.seqK fun K7 hK7 => wrs fun K hK => ?_
 conv => whnf
 refine hK _ (W.cond ⟨fun h => ?_, fun h => ?_⟩) <;> clear hK K <;> (first | replace h := of_decide_eq_true h | replace h := of_decide_eq_false h)
 ·refine W.skip (hK7 _ ?_)
  clear hK7 K7
  refine W.seqK fun K8 hK8 => W.block ?_
  refine W.seqK fun K9 hK9 => ?_
  have fin : ∀ (O' : Poly p) (s : S), dg O' < dg f → O' = (if n % 2 = 1 then rem (O * B) f else O) → base ≤ s.hs →
    coverK s.env [(0, .v (.int .i64 p)), (1, .v (.ints none B.l)), (2, .v (.int .i64 n)), (3, .v (.ints g' f.l)), (9, .v (.ints none O'.l))] → K9 s := by
   intro O' s h4 h5 h6 h7
   refine hK9 _ (W.weak (t := ⟨[(0, .v (.int .i64 p)), (1, .v (.ints none B.l)), (2, .v (.int .i64 n)), (3, .v (.ints g' f.l)), (9, .v (.ints none O'.l))], base⟩) ⟨h6, h7⟩ (Nat.le_refl _) ?_)
   clear hK9 K9
   refine wrg ?_
   conv => whnf
   refine callI rfl (times_fn p _ _ B B (by omega) (by omega)) fun hs_2 b_2 hh_2 hf_2 => ?_
   try dsimp only at hh_2 hf_2
   conv => whnf
   refine callV rfl (remainder_fn p _ _ (B * B) f (hmul _ _ h2 h2) (by omega) hf0) fun hs' hhs => ?_
   try dsimp only at hhs
   conv => whnf
   refine hK8 _ ?_
   clear hK8 K8
   refine wrg ?_
   conv => whnf
   refine ⟨⟨by omega, rfl⟩, ?_⟩
   conv => whnf
   exact againA ⟨n / 2, rem (B * B) f, O', by omega, by rw [h5]; exact pow_step hf0 h1, rem_lt _ hf0, h4, rfl, rfl⟩
  clear hK9
  refine wrs fun K hK => ?_
  conv => whnf
  refine ⟨⟨by omega, by omega, rfl⟩, ?_⟩
  conv => whnf
  refine hK _ (W.cond ⟨fun h4 => ?_, fun h4 => ?_⟩) <;> clear hK K
  ·have h4 := of_decide_eq_true h4
   refine wrg ?_
   conv => whnf
   refine callI rfl (times_fn p _ _ O B (by omega) (by omega)) fun hs_2 b_2 hh_2 hf_2 => ?_
   try dsimp only at hh_2 hf_2
   conv => whnf
   refine callV rfl (remainder_fn p _ _ (O * B) f (hmul _ _ h3 h2) (by omega) hf0) fun hs' hhs => ?_
   try dsimp only at hhs
   conv => whnf
   refine fin (rem (O * B) f) _ (rem_lt _ hf0) (by rw [if_pos (by omega)]) (by dsimp only; omega) ?_
   exact cvr
  ·have h4 := of_decide_eq_false h4
   refine W.skip (fin O _ h3 (by rw [if_neg (by omega)]) (by dsimp only; omega) ?_)
   exact cvr
 ·refine W.exit (hK1 _ ?_)
  clear hK7 K7 hK1 K1
  obtain rfl : n = 0 := by omega
  refine wrs fun K hK => ?_
  conv => whnf
  refine hK _ ?_
  clear hK K
  have e2 : O = rem (a ^ n0) f := by
   rw [← h1, pow_zero', CR.mul_one, rem_small h3]
  rw [← e2]
  refine W.ret ?_
  conv => whnf
  exact ⟨.v (.ints none O.l), ⟨rfl, rfl⟩, trivial, rfl⟩
theorem l08Power_fn (p : Int) [SP p] (g g' : Option Nat) (a f : Poly p) (n0 : Nat) (hn : n0 ≤ 1000000000000) (ha : dg a ≤ 1000000) (hf : dg f ≤ 500) (hf0 : f ≠ 0) : FnV 329 [.int .i64 p, .ints g a.l, .int .i64 n0, .ints g' f.l] (.ints none (rem (a ^ n0) f).l) := by
 have hfd : dg f ≠ 0 := fun e => hf0 (dg_eq_zero.1 e)
 refine fn_of (cx_ok [0, 1, 2, 3, 8, 9, 19, 24]) Tryz.func329 rfl (by decide) Tryz.ntmps329 (Nat.le_of_ble_eq_true rfl) fun base => ?_
 refine wrs fun K hK => ?_
 conv => whnf
 refine hK _ ?_
 clear hK K
 refine wrs fun K hK => ?_
 conv => whnf
 refine ⟨⟨rfl, by decide⟩, ?_⟩
 conv => whnf
 intro b_1 hs_1 hh_1 hf_1
 try dsimp only at hh_1 hf_1
 conv => whnf
 have e1 : [(1 : Int)] = (1 : Poly p).l := one_l.symm
 rw [e1]
 refine callV rfl (l08Rest_fn p _ g' 1 f (by rw [dg_one]; omega) (by omega) hf0) fun hs' hhs => ?_
 try dsimp only at hhs
 conv => whnf
 refine hK _ ?_
 clear hK K
 refine wrs fun K hK => ?_
 conv => whnf
 refine callV rfl (l08Rest_fn p g g' a f ha (by omega) hf0) fun hs' hhs => ?_
 try dsimp only at hhs
 conv => whnf
 refine hK _ ?_
 clear hK K
 refine W.seqK fun K1 hK1 => W.block (W.invA (fun m e => ∃ (n : Nat) (B O : Poly p), n ≤ 1000000000000 ∧ rem (O * B ^ n) f = rem (a ^ n0) f ∧ dg B < dg f ∧ dg O < dg f ∧ m = n ∧ e = [(0, .v (.int .i64 p)), (1, .v (.ints none B.l)), (2, .v (.int .i64 n)), (3, .v (.ints g' f.l)), (9, .v (.ints none O.l))]) ⟨n0, rem a f, rem 1 f, hn, by rw [rem_mul_left hf0, CR.one_mul, rem_pow hf0], rem_lt _ hf0, rem_lt _ hf0, rfl, rfl⟩ ?_)
 rintro m e ⟨n, B, O, hn1, h1, h2, h3, hm, rfl⟩
 have hmul : ∀ A B : Poly p, dg A < dg f → dg B < dg f → dg (A * B) ≤ 1000000 := fun A B h h' => by have := dg_mul_le A B; omega
 refine W.seqK fun K7 hK7 => wrs fun K hK => ?_
 conv => whnf
 refine hK _ (W.cond ⟨fun h => ?_, fun h => ?_⟩) <;> clear hK K <;> (first | replace h := of_decide_eq_true h | replace h := of_decide_eq_false h)
 ·refine W.skip (hK7 _ ?_)
  clear hK7 K7
  refine W.seqK fun K8 hK8 => W.block ?_
  refine W.seqK fun K9 hK9 => ?_
  have fin : ∀ (O' : Poly p) (s : S), dg O' < dg f → O' = (if n % 2 = 1 then rem (O * B) f else O) → base ≤ s.hs →
    coverK s.env [(0, .v (.int .i64 p)), (1, .v (.ints none B.l)), (2, .v (.int .i64 n)), (3, .v (.ints g' f.l)), (9, .v (.ints none O'.l))] → K9 s := by
   intro O' s h4 h5 h6 h7
   refine hK9 _ (W.weak (t := ⟨[(0, .v (.int .i64 p)), (1, .v (.ints none B.l)), (2, .v (.int .i64 n)), (3, .v (.ints g' f.l)), (9, .v (.ints none O'.l))], base⟩) ⟨h6, h7⟩ (Nat.le_refl _) ?_)
   clear hK9 K9
   refine wrg ?_
   conv => whnf
   refine callI rfl (l08Multiply_fn p _ _ B B (by omega) (by omega)) fun hs_2 b_2 hh_2 hf_2 => ?_
   try dsimp only at hh_2 hf_2
   conv => whnf
   refine callV rfl (l08Rest_fn p _ _ (B * B) f (hmul _ _ h2 h2) (by omega) hf0) fun hs' hhs => ?_
   try dsimp only at hhs
   conv => whnf
   refine hK8 _ ?_
   clear hK8 K8
   refine wrg ?_
   conv => whnf
   refine ⟨by omega, ?_⟩
   conv => whnf
   rw [Int.tdiv_eq_ediv_of_nonneg (by omega)]
   refine ⟨oo, ?_⟩
   conv => whnf
   exact againA ⟨n / 2, rem (B * B) f, O', by omega, by rw [h5]; exact pow_step hf0 h1, rem_lt _ hf0, h4, rfl, rfl⟩
  clear hK9
  refine wrs fun K hK => ?_
  conv => whnf
  refine ⟨by omega, ?_⟩
  conv => whnf
  rw [Int.tmod_eq_emod_of_nonneg (by omega)]
  refine hK _ (W.cond ⟨fun h4 => ?_, fun h4 => ?_⟩) <;> clear hK K
  ·have h4 := of_decide_eq_true h4
   refine wrg ?_
   conv => whnf
   refine callI rfl (l08Multiply_fn p _ _ O B (by omega) (by omega)) fun hs_2 b_2 hh_2 hf_2 => ?_
   try dsimp only at hh_2 hf_2
   conv => whnf
   refine callV rfl (l08Rest_fn p _ _ (O * B) f (hmul _ _ h3 h2) (by omega) hf0) fun hs' hhs => ?_
   try dsimp only at hhs
   conv => whnf
   refine fin (rem (O * B) f) _ (rem_lt _ hf0) (by rw [if_pos (by omega)]) (by dsimp only; omega) ?_
   exact cvr
  ·have h4 := of_decide_eq_false h4
   refine W.skip (fin O _ h3 (by rw [if_neg (by omega)]) (by dsimp only; omega) ?_)
   exact cvr
 ·refine W.exit (hK1 _ ?_)
  clear hK7 K7 hK1 K1
  obtain rfl : n = 0 := by omega
  refine wrs fun K hK => ?_
  conv => whnf
  refine hK _ ?_
  clear hK K
  have e2 : O = rem (a ^ n0) f := by
   rw [← h1, pow_zero', CR.mul_one, rem_small h3]
  rw [← e2]
  refine W.ret ?_
  conv => whnf
  exact ⟨.v (.ints none O.l), ⟨rfl, rfl⟩, trivial, rfl⟩

end Go.Proofs.YtlhgbljojdbhgaaGreat
