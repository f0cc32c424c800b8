/- What the program's functions and the reference's return. No conditions. -/
import Derived.Test.YtffhmebkkbfaeaaGreatPj
import Derived.Test.YtffhmebkkbfaeaaGreatRows
namespace Go.Proofs.YtffhmebkkbfaeaaGreat
open Go Go.RowKit Go.Proofs Poly
set_option maxRecDepth 100000
set_option maxHeartbeats 8000000

theorem RT.toV {f : Nat} {xs : List V} {l : List Int} {c : Int} (h : FnT Tryz.prog f xs (RT l c)) : FnV f xs (.tup [.ints none l, .int .i64 c]) :=
 FnT.toV h λ_ _ x tb hx => by
  obtain ⟨b, rfl, hb⟩ := hx;refine ⟨_, rfl, rfl, λj hj => ?_⟩
  match j, hj with
  | 0, _ => exact ⟨l, rfl, hb, rfl⟩
  | 1, _ => rfl
theorem zrb {p : Int} (hp : p ∈ zY) : letI := yL hp; ∀ f X : Poly p, dg X < dg f -> dg f <= 10 -> Has p f.l X.l := by
 letI := yL hp;intro f X h1 h2;have h3 : X.l.length < f.l.length := h1;have h4 : f.l.length <= 10 := h2;refine ⟨⟨decide_eq_true hp, by omega, λj _ => by have := jP X j; omega, ?_⟩, h1⟩
 by_cases h : X.l.length = 0
 ·exact .inl (by omega)
 ·exact .inr (X.ok.2 _ (by omega))
theorem zmP {p : Int} {l : List Int} {n : Nat} {X : Nat -> List Int} (hk : IsFld p l) (h : ∀ i, i < n -> Has p l (X i)) : jc p l true n X = 0 := by
 unfold jc; rw [zj hk, zj h]; rfl


open Go Go.RowKit Go.ChangeShapes Go.WideShapes Go.ChangeAt Go.Proofs Go.Proofs.YtffhmebkkbfaeaaGreat

theorem zoV {P : Program} {f : Nat} {xs : List V} {r : V} {w : World} {vs : Array Value} (h : Fn P f xs (λ_ _ a => a = .v r)) (hl : vs.size = xs.length)
  (hr : ∀ j, j < xs.length -> Rep (zgy w) w.heap (xs.getD j .nil) (vs.getD j undef)) :
  Calls P f vs w λe w' => ∃ v, e = .returned v ∧ Below w.heap.size w w' ∧ Rep (okR (λ_ => False) w'.heap.size) w'.heap r v := by
 refine (h.2 (λ_ => False) w vs (λ_ h => h.elim) hl hr).mono λe w' ⟨v, av, hi, h1, h2, h3, h4, h5⟩ => ?_;subst h3;obtain ⟨_, h6, _⟩ := h5;refine ⟨v, h1, h4, ?_⟩;exact Rep.mono h6 λg b hb => ⟨⟨hb.1, λh => h.elim, hb.2.2⟩, rfl⟩

theorem ownP : ownKnob Tryz.prog.godebug = none := by kernel_rfl
theorem zoW : laidOutB Tryz.prog = true := by kernel_rfl
open Go Go.RowKit Go.ChangeShapes Go.WideShapes Go.ChangeAt Go.Proofs Go.Proofs.YtffhmebkkbfaeaaGreat

section
variable {H : Type} {enc : TypeId × Value -> H} {P : Program} {w : World}
def zqJ (xs : List V) : Prop := ∃ n : Int, xs = [.int .u8 n] ∧ 0 <= n ∧ n <= 255
theorem zrc {n : Int} (h : (Lit.int .u8 n).wf = true) : 0 <= n ∧ n <= 255 := by
 simp only [Lit.wf, Bool.and_eq_true, decide_eq_true_eq] at h
 have h1 : IntKind.u8.min = 0 := rfl;have h2 : IntKind.u8.max = 255 := rfl;omega
theorem zoX {t : TypeId} (ht : P.underlying t = some (.int .u8)) : ziC enc P w t 1 zqJ := by
 intro fuel cs d ps h;obtain ⟨n, hc, hx, hw⟩ := DataW.trod_int ht h;subst hc;refine ⟨rfl, _, ⟨n, rfl, zrc hw⟩, rfl, by simp [V.isCell], λj hj => ?_⟩;obtain rfl : j = 0 := by omega
 exact .int _ _
theorem zoY {xs : List V} (h : zj9 1 zeK zqJ xs) : ∃ (n : Nat) (c : Nat -> Int), (∀ i, 0 <= c i ∧ c i <= 255) ∧ xs.length = 1 ∧ ∀ ok h' v, Rep ok h' (xs.getD 0 .nil) v -> Rep ok h' (vBy n c) v := by
 obtain ⟨n, f, rfl, _, hf⟩ := h
 have hf2 : ∀ i, ∃ z : Int, (0 <= z ∧ z <= 255) ∧ (i < n -> f i = .int .u8 z) := by
  intro i
  by_cases hi : i < n
  ·obtain ⟨ys, ⟨z, rfl, hz⟩, e⟩ := hf i hi;exact ⟨z, hz, λ_ => e⟩
  ·exact ⟨0, by omega, λh => absurd h hi⟩
 refine ⟨n, λi => Classical.choose (hf2 i), λi => (Classical.choose_spec (hf2 i)).1, rfl, λok h' v r => zbb (x := .vals none 1 n f) ⟨rfl, rfl, rfl, λi hi => (Classical.choose_spec (hf2 i)).2 hi⟩ r⟩
end
theorem zoZ {P : Program} {f : Nat} {xs : List V} {w : World} {vs : Array Value} (h : Fn P f xs (λ_ _ a => a = .v (.bool true))) (hl : vs.size = xs.length)
  (hr : ∀ j, j < xs.length -> Rep (zgy w) w.heap (xs.getD j .nil) (vs.getD j undef)) :
  Calls P f vs w λe w' => e = .returned (.bool true) ∧ Below w.heap.size w w' :=
 (zoV h hl hr).mono λe w' ⟨v, h1, h2, h3⟩ => by
  cases h3
  exact ⟨h1, h2⟩
theorem zpY : Tryz.prog.cellsOf 5 = 1 := by kernel_rfl
theorem zkP {H : Type} {enc : TypeId × Value -> H} {W : World} : ziC enc Tryz.prog W 32 1 (zj9 1 zeK zqJ) :=
 ziE Tryz.underlying32 zpY (λxs h1 h2 => zpl xs h1 h2) (zoX Tryz.underlying5)




section
variable {p k M : Int} [SP p] [Pos M]
end

theorem RT3.toV {f : Nat} {xs : List V} {l m : List Int} {c : Int} (h : FnT Tryz.prog f xs (RT3 l m c)) : FnV f xs (.tup [.ints none l, .ints none m, .int .i64 c]) :=
 FnT.toV h λ_ _ x tb hx => by
  obtain ⟨b, b', rfl, hb, hb', _⟩ := hx;refine ⟨_, rfl, rfl, λj hj => ?_⟩
  match j, hj with
  | 0, _ => exact ⟨l, rfl, hb, rfl⟩
  | 1, _ => exact ⟨m, rfl, hb', rfl⟩
  | 2, _ => rfl
theorem zqa {p k M : Int} [Pos M] (hr : xQ p k) (hm : p ^ k.toNat = M) (F : Poly M) (h : dg F <= 9) : xV p k F.l :=
 ⟨hr, h, λj _ => by have := jb F j; rw [hm]; omega, by
  by_cases h0 : F.l.length = 0
  ·exact .inl h0
  ·exact .inr (F.ok.2 _ (by omega))⟩
theorem zfR {p k M : Int} [SP p] [Pos M] (hr : xQ p k) (hm : p ^ k.toNat = M) (g : Option Nat) (F : Poly M) (hF : dg F <= 9) : FnV 29 [vR p k, .ints g F.l] (.tup [.ints none (im p F).l, .int .i64 0]) := by
 obtain ⟨s1, s2, s3, s4, s5, s6⟩ := hr.small;have hfl : F.l.length = dg F := rfl;refine ze (za [0, 1, 2, 4, 5, 9]) Tryz.func29 rfl (by decide) Tryz.ntmps29 (lb rfl) λbase => ?_;refine wrs λK hK => ?_;conv=>whnf
 refine ⟨rfl, ?_⟩;conv=>whnf
 intro b_2 hs_2 hh_2 hf_2;try dsimp only at hh_2 hf_2
 conv=>whnf
 refine hK _ (W.seqK λK1 hK1 => wrs λK hK => ?_);conv=>whnf
 refine zb rfl ((xU p k g F.l (by omega)).tr (zj (zqa hr hm F (by omega)))) λhs' hhs => ?_;try dsimp only at hhs
 conv=>whnf
 refine hK _ (W.condF rfl (W.skip (hK1 _ ?_)));clear hK hK1;refine wrs λK hK => ?_;conv=>whnf
 refine zr rfl (zG p (by omega) (by omega) g F.l ((kv (by omega) F).le (by omega)) (by omega)) λhs_4 b_4 hh_4 hf_4 => ?_;try dsimp only at hh_4 hf_4
 conv=>whnf
 refine hK _ (W.ret ?_);conv=>whnf
 exact ⟨.v (.ints none (im p F).l), ⟨.inl rfl, rfl⟩, trivial, .v (.int .i64 0), ⟨rfl, rfl⟩, trivial, rfl⟩


theorem zkQ {n : Nat} {c : Nat -> Int} (hc : Byt n c) : zjk 204 [] n c (λr => ∃ p k : Int, r = vR p k ∧ xQ p k ∧ p <= 13 ∧ k <= 6) := by
 rintro b x hx;refine j1 (cx := cxt [] [0, 2, 3, 4, 14, 1000000, 1000001]) (zg [] [0, 2, 3, 4, 14, 1000000, 1000001]) Tryz.func204 rfl (by decide) Tryz.ntmps204 (lb rfl) (lb rfl) rfl rfl λbase hs0 O U hw v0 hb0 => ?_;refine W.sw (c' := cx [0, 2, 3, 4, 14, 1000000, 1000001]) ?_;refine wrs λK hK => ?_;conv=>whnf
 intro b_2 hs_2 hh_2 hf_2;try dsimp only at hh_2 hf_2
 conv=>whnf
 refine hK _ (wrs λK hK => ?_);conv=>whnf
 refine ⟨⟨rfl, by decide⟩, ?_⟩;conv=>whnf
 intro b_7 hs_7 hh_7 hf_7;try dsimp only at hh_7 hf_7
 conv=>whnf
 refine ⟨⟨rfl, rfl⟩, ?_⟩;conv=>whnf
 refine ⟨rfl, _, (vI hc none [2, 3, 5, 7, 2, 3, 5, 11, 13] ⟨by decide, by decide⟩ b x hx), ?_⟩;rintro hs_ms1 av x' t' hh_ms1 ⟨rfl, ⟨x1, hx1, rfl⟩, _, rfl, ⟨p, rfl, hp⟩⟩ _ _ _;try dsimp only at hh_ms1
 conv=>whnf
 refine hK _ (wrs λK hK => ?_);conv=>whnf
 refine ⟨⟨rfl, rfl⟩, ?_⟩;conv=>whnf
 refine ⟨rfl, _, (zR hc 6 (by constructor <;> decide) b x1 hx1), ?_⟩;rintro hs_ms2 av x' t' hh_ms2 ⟨rfl, ⟨x2, hx2, rfl⟩, _, rfl, ⟨q, rfl, q0, q1, _⟩⟩ _ _ _;try dsimp only at hh_ms2
 conv=>whnf
 have q6 := q1 (by decide);refine ⟨oo, ?_⟩;conv=>whnf
 refine hK _ ?_;clear hK
 have hr : xQ p (1 + q) ∧ p <= 13 := by
  simp only [List.mem_cons, List.not_mem_nil, or_false] at hp
  have hq : q = 0 ∨ q = 1 ∨ q = 2 ∨ q = 3 ∨ q = 4 ∨ q = 5 := by omega
  refine ⟨⟨?_, by omega, ?_⟩, by omega⟩
  ·rcases hp with rfl | rfl | rfl | rfl | rfl | rfl | rfl | rfl | rfl <;> decide
  ·rcases hp with rfl | rfl | rfl | rfl | rfl | rfl | rfl | rfl | rfl <;> rcases hq with rfl | rfl | rfl | rfl | rfl | rfl <;> decide
 obtain ⟨hr, h13⟩ := hr;obtain ⟨s1, s2, s3, s4, s5, s6⟩ := hr.small;refine W.seqK λK1 hK1 => W.block (W.invH hs0 hb0 (λm e => m = 0 ∧ e = [(vt, .dead), (vk, .keep O U hw 0 v0), (0, .ownB b x2), (2, .ownB b_2 (vR 0 0)), (3, .v (.int .i64 p)), (4, .v (.int .i64 (1 + q)))]) _ _ ⟨rfl, rfl⟩ (by dsimp only; omega) (by repeat' first | refine And.intro ?_ ?_ | exact trivial | rfl | omega | assumption) ?_);rintro m e ⟨hm, rfl⟩;refine W.seqK λK7 hK7 => wrs λK hK => ?_;conv=>whnf
 refine zb rfl (zhT hr rfl) λhs' hhs => ?_;try dsimp only at hhs
 conv=>whnf
 refine hK _ (W.cond ⟨λh => absurd (of_decide_eq_true h) (by omega), λ_ => W.exit (hK1 _ (W.weak (t := ⟨[(vt, .dead), (vk, .keep O U hw 0 v0), (0, .ownB b x2), (2, .ownB b_2 (vR 0 0)), (3, .v (.int .i64 p)), (4, .v (.int .i64 (1 + q)))], hs0⟩) ⟨by dsimp only; omega, ?_⟩ hb0 ?_))⟩)
 ·exact cvr
 clear hK hK7 hK1;refine wrs λK hK => ?_;conv=>whnf
 refine ⟨s23, ?_⟩;conv=>whnf
 refine hK _ (W.ret ?_);conv=>whnf
 refine ⟨by dsimp only; omega, ?_⟩;conv=>whnf
 exact ⟨.ownB b (x2), ⟨rfl, rfl⟩, .inr ⟨rfl, rfl⟩, .dead, trivial, rfl, rfl, rfl, ⟨x2, hx2, rfl⟩, _, rfl, ⟨p, 1 + q, rfl, hr, h13, by omega⟩⟩

theorem zmQ {n : Nat} {c : Nat -> Int} (hc : Byt n c) : zjk 169 [] n c (λr => ∃ p k : Int, r = vR p k ∧ (-1000 <= p ∧ p <= 1000) ∧ (-1000 <= k ∧ k <= 1000)) := by
 rintro b x hx;refine j1 (cx := cxt [] [0, 2, 3, 7, 8, 13, 1000000, 1000001]) (zg [] [0, 2, 3, 7, 8, 13, 1000000, 1000001]) Tryz.func169 rfl (by decide) Tryz.ntmps169 (lb rfl) (lb rfl) rfl rfl λbase hs0 O U hw v0 hb0 => ?_;refine W.sw (c' := cx [0, 2, 3, 7, 8, 13, 1000000, 1000001]) ?_;refine wrs λK hK => ?_;conv=>whnf
 intro b_2 hs_2 hh_2 hf_2;try dsimp only at hh_2 hf_2
 conv=>whnf
 refine hK _ (wrs λK hK => ?_);conv=>whnf
 refine ⟨⟨rfl, rfl⟩, ?_⟩;conv=>whnf
 refine ⟨rfl, _, (zkQ hc b x hx), ?_⟩;rintro hs_ms1 av x' t' hh_ms1 ⟨rfl, ⟨x1, hx1, rfl⟩, _, rfl, ⟨p, k, rfl, hr, hp, hk⟩⟩ _ _ _;try dsimp only at hh_ms1
 conv=>whnf
 obtain ⟨s1, s2, s3, s4, s5, s6⟩ := hr.small;intro b_3 hs_3 hh_3 hf_3;try dsimp only at hh_3 hf_3
 conv=>whnf
 refine ⟨s23, ?_⟩;conv=>whnf
 refine hK _ ?_;clear hK;refine W.seqK λK1 hK1 => ?_
 have fin : ∀ (p k : Int) (y : V) (t : S), (-1000 <= p ∧ p <= 1000) -> (-1000 <= k ∧ k <= 1000) -> zaX n c y -> hs0 <= t.hs -> zB t.env [(vt, .dead), (vk, .keep O U hw 0 v0), (0, .ownB b y), (2, .ownB b_2 (vR 0 0)), (3, .ownB b_3 (vR p k))] -> K1 t := by
  intro p k y t h7 h8 hy h9 h10;refine hK1 _ (W.weak (t := ⟨_, hs0⟩) ⟨h9, h10⟩ hb0 ?_);clear hK1;refine wrs λK hK => ?_;conv=>whnf
  refine ⟨s23, ?_⟩;conv=>whnf
  refine hK _ (W.ret ?_);conv=>whnf
  refine ⟨by dsimp only; omega, ?_⟩;conv=>whnf
  exact ⟨.ownB b (y), ⟨rfl, rfl⟩, .inr ⟨rfl, rfl⟩, .dead, trivial, rfl, rfl, rfl, ⟨y, hy, rfl⟩, _, rfl, ⟨p, k, rfl, h7, h8⟩⟩
 refine wrs λK hK => ?_;conv=>whnf
 refine ⟨⟨rfl, rfl⟩, ?_⟩;conv=>whnf
 refine ⟨rfl, _, (zR hc 20 (by constructor <;> decide) b x1 hx1), ?_⟩;rintro hs_ms2 av x' t' hh_ms2 ⟨rfl, ⟨x2, hx2, rfl⟩, _, rfl, ⟨q, rfl, q0, q1, _⟩⟩ _ _ _;try dsimp only at hh_ms2
 conv=>whnf
 refine hK _ (W.block ?_);clear hK;refine wrs λK hK => ?_;conv=>whnf
 refine hK _ (W.cond ⟨λh => ?_, λh => ?_⟩) <;> clear hK
 ·refine wrg ?_;conv=>whnf
  refine ⟨⟨rfl, rfl⟩, ?_⟩;conv=>whnf
  refine ⟨rfl, _, (zfQ hc b x2 hx2), ?_⟩;rintro hs_ms3 av x' t' hh_ms3 ⟨rfl, ⟨x3, hx3, rfl⟩, _, rfl, ⟨p2, rfl, hp2⟩⟩ _ _ _;try dsimp only at hh_ms3
  conv=>whnf
  refine ⟨⟨(by show 0 + 1 <= 2; omega), rfl⟩, ?_⟩;conv=>whnf
  have hp3 : -1000 <= p2 ∧ p2 <= 1000 := by (simp only [List.mem_cons, List.not_mem_nil, or_false] at hp2; omega)
  refine fin p2 k x3 _ hp3 (by omega) hx3 (by dsimp only; omega) ?_;exact cvr
 refine wrs λK hK => ?_;conv=>whnf
 refine hK _ (W.cond ⟨λh1 => ?_, λh1 => ?_⟩) <;> clear hK
 ·refine wrg ?_;conv=>whnf
  refine ⟨⟨rfl, by decide⟩, ?_⟩;conv=>whnf
  intro b_7 hs_7 hh_7 hf_7;try dsimp only at hh_7 hf_7
  conv=>whnf
  refine ⟨⟨rfl, rfl⟩, ?_⟩;conv=>whnf
  refine ⟨rfl, _, (vI hc none [0, 1, 29, 30, 12, -1] ⟨by decide, by decide⟩ b x2 hx2), ?_⟩;rintro hs_ms3 av x' t' hh_ms3 ⟨rfl, ⟨x3, hx3, rfl⟩, _, rfl, ⟨k2, rfl, hk2⟩⟩ _ _ _;try dsimp only at hh_ms3
  conv=>whnf
  refine ⟨⟨(by show 1 + 1 <= 2; omega), rfl⟩, ?_⟩;conv=>whnf
  have hk3 : -1000 <= k2 ∧ k2 <= 1000 := by (simp only [List.mem_cons, List.not_mem_nil, or_false] at hk2; omega)
  refine fin p k2 x3 _ (by omega) hk3 hx3 (by dsimp only; omega) ?_;exact cvr
 ·refine W.skip (fin p k x2 _ (by omega) (by omega) hx2 (by dsimp only; omega) ?_);exact cvr

def zqK (M : Int) (d : Nat) (L : List Int) : Prop := L.length = d + 1 ∧ (∀ j, 0 <= cf L j ∧ cf L j < M) ∧ cf L d = 1
theorem zhU {L : List Int} {r : Int} {j : Nat} : cf (L ++ [r]) j = if j < L.length then cf L j else if j = L.length then r else 0 := by
 unfold cf;rw [List.getD_eq_getElem?_getD];rcases Nat.lt_trichotomy j L.length with hj | hj | hj
 ·rw [List.getElem?_append_left hj, <- List.getD_eq_getElem?_getD, if_pos hj]
 ·rw [List.getElem?_append_right (by omega), hj, Nat.sub_self, if_neg (by omega), if_pos rfl]; rfl
 ·rw [List.getElem?_eq_none (by simp; omega), if_neg (by omega), if_neg (by omega)]; rfl

theorem zkR {n : Nat} {c : Nat -> Int} (hc : Byt n c) {p k M : Int} (hr : xQ p k) (hM : p ^ k.toNat = M) (d : Nat) (hd : d <= 12) : zp9 170 [vR p k, .int .i64 d] n c (λL => zqK M d L) := by
 obtain ⟨s1, s2, s3, s4, s5, s6⟩ := hr.small;rw [hM] at s5 s6;rintro b x hx;refine zeI (cx := cx [0, 1, 2, 4, 6, 7, 8, 9, 18, 1000000, 1000001]) Tryz.func170 rfl (by decide) Tryz.ntmps170 (lb rfl) (lb rfl) rfl rfl λbase hs0 O U hw v0 hb0 => ?_;refine wrs λK hK => ?_;conv=>whnf
 refine ⟨rfl, ?_⟩;conv=>whnf
 intro b_4 hs_4 hh_4 hf_4;try dsimp only at hh_4 hf_4
 conv=>whnf
 refine hK _ (wrs λK hK => ?_);conv=>whnf
 refine zb rfl (zhT hr hM) λhs' hhs => ?_;try dsimp only at hhs
 conv=>whnf
 refine hK _ (wrs λK hK => ?_);conv=>whnf
 refine ⟨⟨rfl, by decide⟩, ?_⟩;conv=>whnf
 intro b_8 hs_8 hh_8 hf_8;try dsimp only at hh_8 hf_8
 conv=>whnf
 refine hK _ (W.seqK λK1 hK1 => wrs λK hK => ?_);conv=>whnf
 refine hK _ (W.block (W.invS (λm e hs => hs0 <= hs ∧ ∃ (i bo : Nat) (y : V) (L : List Int), i <= d ∧ zaX n c y ∧ L.length = i ∧ (∀ j, 0 <= cf L j ∧ cf L j < M) ∧ (hs0 <= bo ∧ bo < hs) ∧ m = d - i ∧ e = [(vt, .dead), (vk, .keep O U hw 0 v0), (0, .ownB b y), (2, .v (.int .i64 d)), (4, .ownB b_4 (vR p k)), (7, .v (.int .i64 M)), (8, .ownI 2 bo L), (9, .v (.int .i64 i))]) _ _ hs_8
  ⟨by omega, 0, b_8, x, [], by omega, hx, rfl, λj => by rw [zS]; omega, (by have := hf_8 (by decide); omega), rfl, rfl⟩ (λm e hs h => Nat.le_trans hb0 h.1) (by dsimp only; omega) (by repeat' first | refine And.intro ?_ ?_ | exact trivial | rfl | omega | exact .inl rfl | assumption) ?_))
 clear hK;rintro m e hs ⟨hsl, i, bo, y, L, h1, hy, rfl, h3, hbo, hm, rfl⟩;refine W.seqK λK7 hK7 => wrs λK hK => ?_;conv=>whnf
 refine hK _ (W.cond ⟨λh5 => ?_, λh5 => ?_⟩) <;> clear hK <;> (first | replace h5 := of_decide_eq_true h5 | replace h5 := of_decide_eq_false h5)
 ·have hk : L.length < d := by omega
  refine W.skip (hK7 _ (W.seqK λK8 hK8 => W.block ?_));clear hK7;refine wrg ?_;conv=>whnf
  refine ⟨⟨rfl, rfl⟩, ?_⟩;conv=>whnf
  refine ⟨rfl, _, (zR hc M (by constructor <;> omega) b y hy), ?_⟩;rintro hs_ms2 av x' t' hh_ms2 ⟨rfl, ⟨x2, hx2, rfl⟩, _, rfl, ⟨r1, rfl, r10, r11, _⟩⟩ _ _ _;try dsimp only at hh_ms2
  conv=>whnf
  have hmin : 1 <= min M 9 ∧ min M 9 <= M := by omega
  refine ⟨⟨rfl, rfl⟩, ?_⟩;conv=>whnf
  refine ⟨rfl, _, (zR hc (min M 9) (by constructor <;> omega) b x2 hx2), ?_⟩;rintro hs_ms3 av x' t' hh_ms3 ⟨rfl, ⟨x3, hx3, rfl⟩, _, rfl, ⟨r2, rfl, r20, r21, r22⟩⟩ _ _ _;try dsimp only at hh_ms3
  conv=>whnf
  have h11 := r11 (by omega)
  have h21 : r2 < M := by
   by_cases h : 1 < min M 9
   ·have := r21 h; omega
   ·have := r22 (by omega); omega
  refine ⟨⟨rfl, by decide⟩, ?_⟩;conv=>whnf
  intro b_1 hs_1 hh_1 hf_1;try dsimp only at hh_1 hf_1
  conv=>whnf
  refine ⟨⟨rfl, rfl⟩, ?_⟩;conv=>whnf
  refine ⟨rfl, _, (vI hc none [r1, r2, 0] ⟨(by show 1 <= 3; omega), (by show 3 <= 1000; omega)⟩ b x3 hx3), ?_⟩;rintro hs_ms4 av x' t' hh_ms4 ⟨rfl, ⟨x4, hx4, rfl⟩, _, rfl, ⟨r, rfl, hr'⟩⟩ _ _ _;try dsimp only at hh_ms4
  conv=>whnf
  have hr' : 0 <= r ∧ r < M := by
   simp only [List.mem_cons, List.not_mem_nil, or_false] at hr'
   omega
  refine ⟨⟨rfl, by decide⟩, ?_⟩;conv=>whnf
  intro b_2 hs_2 hh_2 hf_2;try dsimp only at hh_2 hf_2
  conv=>whnf
  refine ⟨by simp; omega, ?_⟩;conv=>whnf
  intro b_3 hs_3 hh_3 hf_3;try dsimp only at hh_3 hf_3
  conv=>whnf
  refine hK8 _ ?_;clear hK8;refine wrg ?_;conv=>whnf
  refine ⟨oo, ?_⟩;conv=>whnf
  have hL : ∀ j, 0 <= cf (L ++ [r]) j ∧ cf (L ++ [r]) j < M := λj => by
   rw [zhU]
   split
   ·exact h3 j
   ·split <;> omega
  have hlen : (L ++ [r]).length = L.length + 1 := by simp
  refine ⟨_, _, hs_3, ⟨by omega, L.length + 1, b_3, x4, L ++ [r], by omega, hx4, hlen, hL, ?_, rfl, rfl⟩, by omega, by dsimp only; omega, ?_⟩
  ·rcases hf_3 (by simp) with h | h
   ·injection h with h
    omega
   ·omega
  ·exact cvr
 ·obtain rfl : L.length = d := by omega
  refine W.exit (hK1 _ ?_);clear hK7 hK1;refine wrs λK hK => ?_;conv=>whnf
  refine ⟨⟨rfl, by decide⟩, ?_⟩;conv=>whnf
  intro b_1 hs_1 hh_1 hf_1;try dsimp only at hh_1 hf_1
  conv=>whnf
  refine ⟨by simp; omega, ?_⟩;conv=>whnf
  intro b_2 hs_2 hh_2 hf_2;try dsimp only at hh_2 hf_2
  conv=>whnf
  refine hK _ ?_;clear hK
  have hL : zqK M L.length (L ++ [1]) := by
   refine ⟨by simp, λj => ?_, ?_⟩
   ·rw [zhU]
    split
    ·exact h3 j
    ·split <;> omega
   ·rw [zhU, if_neg (by omega), if_pos rfl]
  refine W.ret ?_;conv=>whnf
  refine ⟨by dsimp only; omega, ?_⟩;conv=>whnf
  refine ⟨rfl, ?_⟩;conv=>whnf
  refine ⟨.ownI 2 b_2 (L ++ [1]), ⟨rfl, rfl, rfl⟩, rfl, λ_ => ?_, ?_⟩
  ·rcases hf_2 (by simp) with h | h
   ·injection h with h
    dsimp only
    omega
   ·dsimp only
    omega
  conv=>whnf
  exact ⟨.ownB b y, ⟨rfl, rfl⟩, .inr ⟨rfl, rfl⟩, .dead, trivial, rfl, rfl, rfl, ⟨y, hy, rfl⟩, _, _, rfl, hL⟩

theorem zjG {n : Nat} {c : Nat -> Int} (hc : Byt n c) {p k M : Int} (hr : xQ p k) (hM : p ^ k.toNat = M) (e : Int) (d : Nat) (he : e = d) (hd : d <= 12) : zp9 170 [vR p k, .int .i64 e] n c (λL => zqK M d L) := by
 subst he; exact zkR hc hr hM d hd


def QE (r : V) : Prop := ∃ (p k : Int) (L : List Int), r = vE p k none L ∧ (-1000 <= p ∧ p <= 1000) ∧ (-1000 <= k ∧ k <= 1000) ∧ L.length <= 30

theorem zo0 {p k : Int} (hp : p ∈ zY) (h7 : p <= 7) (h1 : 1 <= k) (h5 : k <= 5) : xQ p k := by
 have hp2 := yU hp;refine ⟨decide_eq_true hp, h1, ?_⟩;have hp' : p = 2 ∨ p = 3 ∨ p = 4 ∨ p = 5 ∨ p = 6 ∨ p = 7 := by omega
 have hk : k = 1 ∨ k = 2 ∨ k = 3 ∨ k = 4 ∨ k = 5 := by omega
 rcases hp' with rfl | rfl | rfl | rfl | rfl | rfl <;> rcases hk with rfl | rfl | rfl | rfl | rfl <;> decide

theorem zmR {n : Nat} {c : Nat -> Int} (hc : Byt n c) : zjk 112 [] n c QE := by
 rintro b x hx;refine j1 (cx := cxt [] [0, 2, 3, 4, 5, 6, 7, 23, 49, 50, 56, 1000000, 1000001]) (zg [] [0, 2, 3, 4, 5, 6, 7, 23, 49, 50, 56, 1000000, 1000001]) Tryz.func112 rfl (by decide) Tryz.ntmps112 (lb rfl) (lb rfl) rfl rfl λbase hs0 O U hw v0 hb0 => ?_;refine W.sw (c' := cx [0, 2, 3, 4, 5, 6, 7, 23, 49, 50, 56, 1000000, 1000001]) ?_;refine wrs λK hK => ?_;conv=>whnf
 intro b_2 hs_2 hh_2 hf_2;try dsimp only at hh_2 hf_2
 conv=>whnf
 refine hK _ (wrs λK hK => ?_);conv=>whnf
 refine ⟨⟨rfl, rfl⟩, ?_⟩;conv=>whnf
 refine ⟨rfl, _, (zkO hc b x hx), ?_⟩;rintro hs_ms1 av x' t' hh_ms1 ⟨rfl, ⟨x1, hx1, rfl⟩, _, rfl, ⟨p, L, rfl, hp, hL, hpp, hLb⟩⟩ _ _ _;try dsimp only at hh_ms1
 conv=>whnf
 intro b_3 hs_3 hh_3 hf_3;try dsimp only at hh_3 hf_3
 conv=>whnf
 refine ⟨s23, ?_⟩;conv=>whnf
 refine hK _ ?_;clear hK;refine W.seqK λK2 hK2 => ?_
 have next : ∀ (b4 : Nat) (e : Int) (y : V) (t : S), (1 <= e ∧ e <= 5) -> zaX n c y -> hs0 <= t.hs -> zB t.env [(vt, .dead), (vk, .keep O U hw 0 v0), (0, .ownB b y), (2, .ownB b_2 (.agg [.int .i64 0, .int .i64 0, .nil])), (3, .ownB b_3 (vK p none L)), (4, .ownB b4 (vR p e))] -> K2 t := by
  intro b4 e y t he hy h9 h10;have hp2 := yU hpp;have hrg := zo0 hpp (by omega) he.1 he.2;obtain ⟨s1, s2, s3, s4, s5, s6⟩ := hrg.small;obtain ⟨M, hM⟩ : ∃ M, p ^ e.toNat = M := ⟨_, rfl⟩
  rw [hM] at s5 s6;refine hK2 _ (W.weak (t := ⟨_, hs0⟩) ⟨h9, h10⟩ hb0 ?_);clear hK2;refine wrs λK hK => ?_;conv=>whnf
  refine zr rfl (zdb none L (by omega)) λhs_5 b_5 hh_5 hf_5 => ?_;try dsimp only at hh_5 hf_5
  conv=>whnf
  refine hK _ (W.seqK λK1 hK1 => wrs λK hK => ?_);conv=>whnf
  refine hK _ (W.block (W.invH hs0 hb0 (λm e' => ∃ (i bo : Nat) (y : V) (X : List Int), zaX n c y ∧ X.length = L.length ∧ (∀ j, 0 <= cf X j ∧ cf X j <= 1000000000) ∧ m = L.length - i ∧ e' = [(vt, .dead), (vk, .keep O U hw 0 v0), (0, .ownB b y), (2, .ownB b_2 (.agg [.int .i64 0, .int .i64 0, .nil])), (3, .ownB b_3 (vK p none L)), (4, .ownB b4 (vR p e)), (5, .ownI 2 bo X), (6, .v (.int .i64 i))]) _ _ ⟨0, b_5, y, L, hy, rfl, λj => by have := hLb j; omega, rfl, rfl⟩ (by dsimp only; omega) (by repeat' first | refine And.intro ?_ ?_ | exact trivial | rfl | omega | assumption) ?_));clear hK;rintro m e' ⟨i, bo, y, X, hy, hXl, hXb, hm, rfl⟩;refine W.seqK λK7 hK7 => wrs λK hK => ?_;conv=>whnf
  refine ⟨oo, ?_⟩;conv=>whnf
  refine hK _ (W.cond ⟨λh5 => ?_, λh5 => ?_⟩) <;> clear hK
  ·have h5 := of_decide_eq_true h5;refine W.skip (hK7 _ (W.seqK λK8 hK8 => W.block ?_));clear hK7;have hi : i < X.length := by omega
   have hXi : X.getD (i : Int).toNat 0 = cf X i := rfl;have hXbi := hXb i;refine W.gh follows ?_;refine Wgh.tk (za []) 0 ?_;conv=>whnf
   refine Wgh.tk (za []) 1 ?_;conv=>whnf
   refine Wgh.tk (za []) 2 ?_;conv=>whnf
   refine Wgh.tk (za []) 3 ?_;conv=>whnf
   refine Wgh.tk (za []) 4 ?_;conv=>whnf
   refine ⟨oo, ?_⟩;conv=>whnf
   refine Wgh.tk (za []) 5 ?_;conv=>whnf
   refine Wgh.tk (za []) 6 ?_;conv=>whnf
   refine Wgh.tk (za []) 7 ?_;conv=>whnf
   refine Wgh.tk (za []) 8 ?_;conv=>whnf
   refine Wgh.tk (za []) 12 ?_;conv=>whnf
   refine Wgh.tk (za []) 13 ?_;conv=>whnf
   refine Wgh.tk (za []) 14 ?_;conv=>whnf
   refine Wgh.tk (za []) 15 ?_;conv=>whnf
   refine Wgh.on (za []) 9 [15, 14, 13, 12, 7, 6, 5, 4, 3, 2, 1, 0] ⟨(by (conv=>whnf); exact ⟨Nat.le_refl _, rfl⟩), (by (conv=>whnf); exact ⟨Nat.le_refl _, rfl⟩), (by (conv=>whnf); exact ⟨Nat.le_refl _, rfl⟩), (by (conv=>whnf); exact ⟨Nat.le_refl _, rfl⟩), (by (conv=>whnf); exact ⟨Nat.le_refl _, rfl⟩), (by (conv=>whnf); exact ⟨Nat.le_refl _, rfl⟩), (by (conv=>whnf); exact ⟨Nat.le_refl _, rfl⟩), (by (conv=>whnf); exact ⟨Nat.le_refl _, rfl⟩), (by (conv=>whnf); refine ⟨by first | assumption | omega | exact ⟨by omega, by omega⟩, ?_⟩; (conv=>whnf); exact ⟨Nat.le_refl _, rfl⟩), (by (conv=>whnf); exact ⟨Nat.le_refl _, rfl⟩), (by (conv=>whnf); exact ⟨Nat.le_refl _, rfl⟩), (by (conv=>whnf); exact ⟨Nat.le_refl _, rfl⟩), (by (conv=>whnf); exact ⟨Nat.le_refl _, rfl⟩), trivial⟩ ?_;conv=>whnf
   refine ⟨⟨rfl, rfl⟩, ?_⟩;conv=>whnf
   refine ⟨rfl, _, (zR hc 10 (by constructor <;> decide) b y hy), ?_⟩;rintro hs_ms3 av x' t' hh_ms3 ⟨rfl, ⟨x3, hx3, rfl⟩, _, rfl, ⟨q, rfl, q0, q1, _⟩⟩ _ _ _;try dsimp only at hh_ms3
   conv=>whnf
   have q10 := q1 (by decide);have hmul : 0 <= p * q ∧ p * q <= 70 := ⟨Int.mul_nonneg (by omega) q0, by have := Int.mul_le_mul hp.2 (show q <= 10 by omega) q0 (by omega : (0 : Int) <= 7); omega⟩
   refine Wgh.tk (za []) 10 ?_;conv=>whnf
   refine ⟨oo, ?_⟩;conv=>whnf
   refine Wgh.tk (za []) 11 ?_;conv=>whnf
   refine ⟨oo, ?_⟩;conv=>whnf
   refine Wgh.on (za []) 16 [11, 10, 7, 6, 5, 4, 3, 2, 1, 0] ⟨(by (conv=>whnf); refine ⟨by first | assumption | omega | exact ⟨by omega, by omega⟩, ?_⟩; (conv=>whnf); exact ⟨Nat.le_refl _, rfl⟩), (by (conv=>whnf); refine ⟨by first | assumption | omega | exact ⟨by omega, by omega⟩, ?_⟩; (conv=>whnf); exact ⟨Nat.le_refl _, rfl⟩), (by (conv=>whnf); exact ⟨Nat.le_refl _, rfl⟩), (by (conv=>whnf); exact ⟨Nat.le_refl _, rfl⟩), (by (conv=>whnf); exact ⟨Nat.le_refl _, rfl⟩), (by (conv=>whnf); exact ⟨Nat.le_refl _, rfl⟩), (by (conv=>whnf); exact ⟨Nat.le_refl _, rfl⟩), (by (conv=>whnf); exact ⟨Nat.le_refl _, rfl⟩), (by (conv=>whnf); exact ⟨Nat.le_refl _, rfl⟩), (by (conv=>whnf); refine ⟨by first | assumption | omega | exact ⟨by omega, by omega⟩, ?_⟩; (conv=>whnf); exact ⟨Nat.le_refl _, rfl⟩), (by (conv=>whnf); exact ⟨Nat.le_refl _, rfl⟩), (by (conv=>whnf); exact ⟨Nat.le_refl _, rfl⟩), (by (conv=>whnf); exact ⟨Nat.le_refl _, rfl⟩), (by (conv=>whnf); exact ⟨Nat.le_refl _, rfl⟩), trivial⟩ ?_;conv=>whnf
   refine zb rfl (zhT hrg hM) λhs' hhs => ?_;try dsimp only at hhs
   conv=>whnf
   refine Wgh.tk (za []) 17 ?_;conv=>whnf
   refine ⟨by show M ≠ 0; omega, ?_⟩;conv=>whnf
   refine Wgh.tk (za []) 18 ?_;conv=>whnf
   refine ⟨oo, ?_⟩;conv=>whnf
   refine Wgh.on (za []) 19 [] ⟨(by (conv=>whnf); refine ⟨by first | assumption | omega | exact ⟨by omega, by omega⟩, ?_⟩; (conv=>whnf); exact ⟨Nat.le_refl _, rfl⟩), (by (conv=>whnf); refine ⟨by first | assumption | omega | exact ⟨by omega, by omega⟩, ?_⟩; (conv=>whnf); exact ⟨Nat.le_refl _, rfl⟩), (by (conv=>whnf); refine ⟨by first | assumption | omega | exact ⟨by omega, by omega⟩, ?_⟩; (conv=>whnf); exact ⟨Nat.le_refl _, rfl⟩), (by (conv=>whnf); refine ⟨by first | assumption | omega | exact ⟨by omega, by omega⟩, ?_⟩; (conv=>whnf); exact ⟨Nat.le_refl _, rfl⟩), (by (conv=>whnf); exact ⟨Nat.le_refl _, rfl⟩), (by (conv=>whnf); exact ⟨Nat.le_refl _, rfl⟩), (by (conv=>whnf); exact ⟨Nat.le_refl _, rfl⟩), (by (conv=>whnf); refine ⟨by first | assumption | omega | exact ⟨by omega, by omega⟩, ?_⟩; (conv=>whnf); exact ⟨Nat.le_refl _, rfl⟩), (by (conv=>whnf); exact ⟨Nat.le_refl _, rfl⟩), (by (conv=>whnf); exact ⟨Nat.le_refl _, rfl⟩), (by (conv=>whnf); exact ⟨Nat.le_refl _, rfl⟩), (by (conv=>whnf); exact ⟨Nat.le_refl _, rfl⟩), trivial⟩ ?_;conv=>whnf
   refine Wgh.dn (za []) trivial ?_;conv=>whnf
   obtain ⟨r, hr, hr0, hr1⟩ := zd3 (a := X.getD (i : Int).toNat 0 + p * q) (b := M) (by omega) (by omega);rw [hr];refine hK8 _ ?_;clear hK8;refine wrg ?_;conv=>whnf
   refine ⟨oo, ?_⟩;conv=>whnf
   have hX2 : ∀ j, 0 <= cf (X.set (i : Int).toNat r) j ∧ cf (X.set (i : Int).toNat r) j <= 1000000000 := λj => by
    unfold cf;rw [show (i : Int).toNat = i from rfl, List.getD_eq_getElem?_getD, List.getElem?_set]
    by_cases hj : i = j
    ·rw [if_pos hj, if_pos (by omega)]; exact ⟨hr0, by show r <= _; omega⟩
    ·rw [if_neg hj, <- List.getD_eq_getElem?_getD]; exact hXb j
   exact zk ⟨i + 1, bo, x3, X.set (i : Int).toNat r, hx3, by rw [List.length_set]; exact hXl, hX2, rfl, rfl⟩
  ·have hXl2 : X.length <= 9 := by omega
   refine W.exit (hK1 _ ?_);clear hK7 hK1;refine wrs λK hK => ?_;conv=>whnf
   intro b_7 hs_7 hh_7 hf_7;try dsimp only at hh_7 hf_7
   conv=>whnf
   refine ⟨s23, ?_⟩;conv=>whnf
   refine hK _ (W.seqK λK1 hK1 => wrs λK hK => ?_);conv=>whnf
   refine ⟨⟨rfl, rfl⟩, ?_⟩;conv=>whnf
   refine ⟨rfl, _, (zR hc 24 (by constructor <;> decide) b y hy), ?_⟩;rintro hs_ms3 av x' t' hh_ms3 ⟨rfl, ⟨x3, hx3, rfl⟩, _, rfl, ⟨q, rfl, q0, q1, _⟩⟩ _ _ _;try dsimp only at hh_ms3
   conv=>whnf
   refine hK _ (W.block ?_);clear hK;refine wrs λK hK => ?_;conv=>whnf
   refine hK _ (W.cond ⟨λh => ?_, λh => ?_⟩) <;> clear hK
   ·refine wrs λK hK => ?_;conv=>whnf
    refine ⟨⟨rfl, rfl⟩, ?_⟩;conv=>whnf
    refine ⟨rfl, _, (zmQ hc b x3 hx3), ?_⟩;rintro hs_ms4 av x' t' hh_ms4 ⟨rfl, ⟨x4, hx4, rfl⟩, _, rfl, ⟨p', k', rfl, hp', hk'⟩⟩ _ _ _;try dsimp only at hh_ms4
    conv=>whnf
    refine ⟨s23, ?_⟩;conv=>whnf
    refine hK _ (W.ret ?_);conv=>whnf
    refine ⟨by dsimp only; omega, ?_⟩;conv=>whnf
    exact ⟨.ownB b (x4), ⟨rfl, rfl⟩, .inr ⟨rfl, rfl⟩, .dead, trivial, rfl, rfl, rfl, ⟨x4, hx4, rfl⟩, _, rfl, ⟨p', k', X, rfl, hp', hk', by omega⟩⟩
   refine wrs λK hK => ?_;conv=>whnf
   refine hK _ (W.cond ⟨λh => ?_, λh => ?_⟩) <;> clear hK
   ·refine W.rgh follows λK hK => ?_;refine Wgh.tk (za []) 0 ?_;conv=>whnf
    refine Wgh.tk (za []) 1 ?_;conv=>whnf
    refine Wgh.tk (za []) 2 ?_;conv=>whnf
    refine Wgh.on (za []) 3 [0] (by refine ⟨?_, ?_, ?_, trivial⟩ <;> (conv=>whnf) <;> exact ⟨Nat.le_refl _, rfl⟩) ?_;conv=>whnf
    refine ⟨⟨rfl, rfl⟩, ?_⟩;conv=>whnf
    refine ⟨rfl, _, (zjG hc hrg hM 2 2 (by decide) (by decide) b x3 hx3), ?_⟩;rintro hs_ms4 av x' t' hh_ms4 ⟨rfl, ⟨x4, hx4, rfl⟩, bo4, L4, rfl, hL4⟩ _ _ hf_ms4
    replace hf_ms4 := hf_ms4 (by simp)
    try dsimp only at hh_ms4
    conv=>whnf
    refine Wgh.tk (za []) 4 ?_;conv=>whnf
    refine Wgh.on (za []) 5 [] (by refine ⟨?_, ?_, trivial⟩ <;> (conv=>whnf) <;> exact ⟨Nat.le_refl _, rfl⟩) ?_;conv=>whnf
    refine ⟨s23, ?_⟩;conv=>whnf
    refine Wgh.dn (za []) trivial (hK _ ?_);clear hK;have := hL4.1;refine W.ret ?_;conv=>whnf
    refine ⟨by dsimp only; omega, ?_⟩;conv=>whnf
    exact ⟨.ownB b (x4), ⟨rfl, rfl⟩, .inr ⟨rfl, rfl⟩, .dead, trivial, rfl, rfl, rfl, ⟨x4, hx4, rfl⟩, _, rfl, ⟨p, e, L4, rfl, by omega, by omega, by omega⟩⟩
   ·refine W.skip (hK1 _ ?_);clear hK1;refine wrs λK hK => ?_;conv=>whnf
    refine ⟨s23, ?_⟩;conv=>whnf
    refine hK _ (W.ret ?_);conv=>whnf
    refine ⟨by dsimp only; omega, ?_⟩;conv=>whnf
    exact ⟨.ownB b (x3), ⟨rfl, rfl⟩, .inr ⟨rfl, rfl⟩, .dead, trivial, rfl, rfl, rfl, ⟨x3, hx3, rfl⟩, _, rfl, ⟨p, e, X, rfl, by omega, by omega, by omega⟩⟩
 clear hK2;refine W.sch follows ?_;refine wf 0 ?_;conv=>whnf
 refine wt 2 ?_;conv=>whnf
 refine w3 1 3 6 ?_ ?_ ?_ <;> conv=>whnf
 ·refine w2 3 6 ?_ ?_ <;> conv=>whnf
  ·refine ⟨⟨rfl, rfl⟩, ?_⟩;conv=>whnf
   refine ⟨rfl, _, (zR hc 5 (by constructor <;> decide) b x1 hx1), ?_⟩;rintro hs_ms2 av x' t' hh_ms2 ⟨rfl, ⟨x2, hx2, rfl⟩, _, rfl, ⟨q, rfl, q0, q1, _⟩⟩ _ _ _;try dsimp only at hh_ms2
   conv=>whnf
   have q5 := q1 (by decide);refine wb 4 ?_;conv=>whnf
   refine ⟨oo, ?_⟩;conv=>whnf
   refine wt 5 ?_;conv=>whnf
   refine w1 6 ?_;conv=>whnf
   intro b_4 hs_4 hh_4 hf_4;try dsimp only at hh_4 hf_4
   conv=>whnf
   refine w1 7 ?_;conv=>whnf
   refine ⟨s23, ?_⟩;conv=>whnf
   refine wd1 (next b_4 (1 + q) x2 _ (by omega) hx2 (by dsimp only; omega) ?_);exact cvr
  ·intro b_4 hs_4 hh_4 hf_4;try dsimp only at hh_4 hf_4
   conv=>whnf
   refine w1 3 ?_;conv=>whnf
   refine ⟨⟨rfl, rfl⟩, ?_⟩;conv=>whnf
   refine ⟨rfl, _, (zR hc 5 (by constructor <;> decide) b x1 hx1), ?_⟩;rintro hs_ms2 av x' t' hh_ms2 ⟨rfl, ⟨x2, hx2, rfl⟩, _, rfl, ⟨q, rfl, q0, q1, _⟩⟩ _ _ _;try dsimp only at hh_ms2
   conv=>whnf
   have q5 := q1 (by decide);refine wb 4 ?_;conv=>whnf
   refine ⟨oo, ?_⟩;conv=>whnf
   refine wt 5 ?_;conv=>whnf
   refine w1 7 ?_;conv=>whnf
   refine ⟨s23, ?_⟩;conv=>whnf
   refine wd1 (next b_4 (1 + q) x2 _ (by omega) hx2 (by dsimp only; omega) ?_);exact cvr
 ·refine ⟨⟨rfl, rfl⟩, ?_⟩;conv=>whnf
  refine ⟨rfl, _, (zR hc 5 (by constructor <;> decide) b x1 hx1), ?_⟩;rintro hs_ms2 av x' t' hh_ms2 ⟨rfl, ⟨x2, hx2, rfl⟩, _, rfl, ⟨q, rfl, q0, q1, _⟩⟩ _ _ _;try dsimp only at hh_ms2
  conv=>whnf
  have q5 := q1 (by decide);refine wb 4 ?_;conv=>whnf
  refine ⟨oo, ?_⟩;conv=>whnf
  refine w2 1 6 ?_ ?_ <;> conv=>whnf
  ·refine wt 5 ?_;conv=>whnf
   refine w1 6 ?_;conv=>whnf
   intro b_4 hs_4 hh_4 hf_4;try dsimp only at hh_4 hf_4
   conv=>whnf
   refine w1 7 ?_;conv=>whnf
   refine ⟨s23, ?_⟩;conv=>whnf
   refine wd1 (next b_4 (1 + q) x2 _ (by omega) hx2 (by dsimp only; omega) ?_);exact cvr
  ·intro b_4 hs_4 hh_4 hf_4;try dsimp only at hh_4 hf_4
   conv=>whnf
   refine w1 1 ?_;conv=>whnf
   refine wt 5 ?_;conv=>whnf
   refine w1 7 ?_;conv=>whnf
   refine ⟨s23, ?_⟩;conv=>whnf
   refine wd1 (next b_4 (1 + q) x2 _ (by omega) hx2 (by dsimp only; omega) ?_);exact cvr
 ·intro b_4 hs_4 hh_4 hf_4;try dsimp only at hh_4 hf_4
  conv=>whnf
  refine w2 1 3 ?_ ?_ <;> conv=>whnf
  ·refine w1 3 ?_;conv=>whnf
   refine ⟨⟨rfl, rfl⟩, ?_⟩;conv=>whnf
   refine ⟨rfl, _, (zR hc 5 (by constructor <;> decide) b x1 hx1), ?_⟩;rintro hs_ms2 av x' t' hh_ms2 ⟨rfl, ⟨x2, hx2, rfl⟩, _, rfl, ⟨q, rfl, q0, q1, _⟩⟩ _ _ _;try dsimp only at hh_ms2
   conv=>whnf
   have q5 := q1 (by decide);refine wb 4 ?_;conv=>whnf
   refine ⟨oo, ?_⟩;conv=>whnf
   refine wt 5 ?_;conv=>whnf
   refine w1 7 ?_;conv=>whnf
   refine ⟨s23, ?_⟩;conv=>whnf
   refine wd1 (next b_4 (1 + q) x2 _ (by omega) hx2 (by dsimp only; omega) ?_);exact cvr
  ·refine ⟨⟨rfl, rfl⟩, ?_⟩;conv=>whnf
   refine ⟨rfl, _, (zR hc 5 (by constructor <;> decide) b x1 hx1), ?_⟩;rintro hs_ms2 av x' t' hh_ms2 ⟨rfl, ⟨x2, hx2, rfl⟩, _, rfl, ⟨q, rfl, q0, q1, _⟩⟩ _ _ _;try dsimp only at hh_ms2
   conv=>whnf
   have q5 := q1 (by decide);refine wb 4 ?_;conv=>whnf
   refine ⟨oo, ?_⟩;conv=>whnf
   refine w1 1 ?_;conv=>whnf
   refine wt 5 ?_;conv=>whnf
   refine w1 7 ?_;conv=>whnf
   refine ⟨s23, ?_⟩;conv=>whnf
   refine wd1 (next b_4 (1 + q) x2 _ (by omega) hx2 (by dsimp only; omega) ?_);exact cvr
-- 6 ways


theorem kW {n : Nat} {c : Nat -> Int} (hc : Byt n c) (p k : Int) (l : List Int) (hl : l.length <= 100) : zjk 113 [vE p k none l] n c (λr => ∃ L, r = .ints none L ∧ L.length <= 100000) := by
 rintro b x hx;refine j1 (cx := cxt [] [0, 1, 3, 4, 5, 6, 9, 13, 21, 1000000, 1000001]) (zg [] [0, 1, 3, 4, 5, 6, 9, 13, 21, 1000000, 1000001]) Tryz.func113 rfl (by decide) Tryz.ntmps113 (lb rfl) (lb rfl) rfl rfl λbase hs0 O U hw v0 hb0 => ?_;refine W.sw (c' := cx [0, 1, 3, 4, 5, 6, 9, 13, 21, 1000000, 1000001]) ?_;refine wrs λK hK => ?_;conv=>whnf
 refine ⟨rfl, ?_⟩;conv=>whnf
 intro b_3 hs_3 hh_3 hf_3;try dsimp only at hh_3 hf_3
 conv=>whnf
 refine hK _ (W.seqK λK1 hK1 => wrs λK hK => ?_);conv=>whnf
 refine zb rfl (yn p k none l (by omega)) λhs' hhs => ?_;try dsimp only at hhs
 conv=>whnf
 refine hK _ (W.cond ⟨λh => ?_, λh => ?_⟩) <;> clear hK
 ·refine wrs λK hK => ?_;conv=>whnf
  refine ⟨⟨rfl, by decide⟩, ?_⟩;conv=>whnf
  intro b_8 hs_8 hh_8 hf_8;try dsimp only at hh_8 hf_8
  conv=>whnf
  refine hK _ (W.ret ?_);conv=>whnf
  refine ⟨by dsimp only; omega, ?_⟩;conv=>whnf
  refine ⟨rfl, ?_⟩;conv=>whnf
  refine ⟨.ints none [1], ⟨.inl rfl, rfl⟩, ?_⟩;conv=>whnf
  exact ⟨.ownB b (x), ⟨rfl, rfl⟩, .inr ⟨rfl, rfl⟩, .dead, trivial, rfl, rfl, rfl, ⟨x, hx, rfl⟩, _, rfl, ⟨_, rfl, by decide⟩⟩
 have hk : kU p k l := zdf.1 (by simpa using h);refine W.skip (hK1 _ ?_);clear hK1 h;obtain ⟨hpp, hx2⟩ := kh hk;letI := yL hpp;obtain ⟨M, _, f, nn, rfl, he⟩ := hx2;have hfl : f.l.length = dg f := rfl;have hf1 := he.mn.1;have hn8 := he.n8;have hm2 := he.m2;have hm9 := he.m9;have hp2 := yU hpp;refine W.seqK λK1 hK1 => wrs λK hK => ?_;conv=>whnf
 refine ⟨⟨rfl, rfl⟩, ?_⟩;conv=>whnf
 refine ⟨rfl, _, (zR hc 24 (by constructor <;> decide) b x hx), ?_⟩;rintro hs_ms1 av x' t' hh_ms1 ⟨rfl, ⟨x1, hx1, rfl⟩, _, rfl, ⟨q, rfl, q0, q1, _⟩⟩ _ _ _;try dsimp only at hh_ms1
 conv=>whnf
 refine hK _ (W.cond ⟨λh1 => ?_, λh1 => ?_⟩) <;> clear hK
 ·refine wrs λK hK => ?_;conv=>whnf
  refine hK _ (W.ret ?_);conv=>whnf
  refine ⟨by dsimp only; omega, ?_⟩;conv=>whnf
  refine ⟨rfl, ?_⟩;conv=>whnf
  refine ⟨.ints none f.l, ⟨rfl, rfl⟩, ?_⟩;conv=>whnf
  exact ⟨.ownB b (x1), ⟨rfl, rfl⟩, .inr ⟨rfl, rfl⟩, .dead, trivial, rfl, rfl, rfl, ⟨x1, hx1, rfl⟩, _, rfl, ⟨_, rfl, by omega⟩⟩
 refine W.skip (hK1 _ ?_);clear hK1;refine wrs λK hK => ?_;conv=>whnf
 refine ⟨⟨rfl, by decide⟩, ?_⟩;conv=>whnf
 intro b_5 hs_5 hh_5 hf_5;try dsimp only at hh_5 hf_5
 conv=>whnf
 refine hK _ (W.seqK λK1 hK1 => wrs λK hK => ?_);conv=>whnf
 refine hK _ (W.block (W.invH hs0 hb0 (λm e' => ∃ (i bo : Nat) (y : V) (X : List Int), zaX n c y ∧ 1 <= i ∧ X.length < i ∧ i <= 9 ∧ m = f.l.length - i ∧ e' = [(vt, .dead), (vk, .keep O U hw 0 v0), (0, .ownB b y), (3, .ownB b_3 (vE p k none f.l)), (5, .ownI 2 bo X), (6, .v (.int .i64 i))]) _ _ ⟨1, b_5, x1, [], hx1, Nat.le_refl _, by decide, by omega, rfl, rfl⟩ (by dsimp only; omega) (by repeat' first | refine And.intro ?_ ?_ | exact trivial | rfl | omega | assumption) ?_));clear hK;rintro m e' ⟨i, bo, y, X, hy, hi1, hXl, hi9, hm, rfl⟩;refine W.seqK λK7 hK7 => wrs λK hK => ?_;conv=>whnf
 refine hK _ (W.cond ⟨λh5 => ?_, λh5 => ?_⟩) <;> clear hK <;> (first | replace h5 := of_decide_eq_true h5 | replace h5 := of_decide_eq_false h5)
 ·refine W.skip (hK7 _ (W.seqK λK8 hK8 => W.block ?_));clear hK7;refine W.gh follows ?_;refine Wgh.tk (za []) 0 ?_;conv=>whnf
  refine Wgh.tk (za []) 1 ?_;conv=>whnf
  refine Wgh.tk (za []) 2 ?_;conv=>whnf
  refine Wgh.tk (za []) 3 ?_;conv=>whnf
  refine Wgh.tk (za []) 6 ?_;conv=>whnf
  refine Wgh.tk (za []) 7 ?_;conv=>whnf
  refine Wgh.tk (za []) 8 ?_;conv=>whnf
  refine Wgh.tk (za []) 9 ?_;conv=>whnf
  refine Wgh.on (za []) 4 [9, 8, 7, 6, 2, 1, 0] (by refine ⟨?_, ?_, ?_, ?_, ?_, ?_, ?_, ?_, trivial⟩ <;> (conv=>whnf) <;> exact ⟨Nat.le_refl _, rfl⟩) ?_;conv=>whnf
  refine zb rfl (jp he none) λhs' hhs => ?_;try dsimp only at hhs
  conv=>whnf
  refine Wgh.on (za []) 5 [9, 8, 7, 6, 1, 0] (by refine ⟨?_, ?_, ?_, ?_, ?_, ?_, ?_, trivial⟩ <;> (conv=>whnf) <;> exact ⟨Nat.le_refl _, rfl⟩) ?_;conv=>whnf
  refine ⟨⟨rfl, rfl⟩, ?_⟩;conv=>whnf
  refine ⟨rfl, _, (zR hc M (by constructor <;> omega) b y hy), ?_⟩;rintro hs_ms2 av x' t' hh_ms2 ⟨rfl, ⟨x2, hx2, rfl⟩, _, rfl, ⟨r1, rfl, _⟩⟩ _ _ _;try dsimp only at hh_ms2
  conv=>whnf
  refine Wgh.on (za []) 10 [1, 0] (by refine ⟨?_, ?_, ?_, ?_, ?_, ?_, trivial⟩ <;> (conv=>whnf) <;> exact ⟨Nat.le_refl _, rfl⟩) ?_;conv=>whnf
  refine ⟨⟨rfl, rfl⟩, ?_⟩;conv=>whnf
  refine ⟨rfl, _, (zR hc p (by constructor <;> omega) b x2 hx2), ?_⟩;rintro hs_ms3 av x' t' hh_ms3 ⟨rfl, ⟨x3, hx3, rfl⟩, _, rfl, ⟨r2, rfl, _⟩⟩ _ _ _;try dsimp only at hh_ms3
  conv=>whnf
  refine Wgh.on (za []) 11 [1, 0] (by refine ⟨?_, ?_, trivial⟩ <;> (conv=>whnf) <;> exact ⟨Nat.le_refl _, rfl⟩) ?_;conv=>whnf
  refine ⟨⟨rfl, by decide⟩, ?_⟩;conv=>whnf
  intro b_1 hs_1 hh_1 hf_1;try dsimp only at hh_1 hf_1
  conv=>whnf
  refine Wgh.on (za []) 12 [0] (by refine ⟨?_, ?_, trivial⟩ <;> (conv=>whnf) <;> exact ⟨Nat.le_refl _, rfl⟩) ?_;conv=>whnf
  refine ⟨⟨rfl, rfl⟩, ?_⟩;conv=>whnf
  refine ⟨rfl, _, (vI hc none [r1, r2, 0] ⟨(by show 1 <= 3; omega), (by show 3 <= 1000; omega)⟩ b x3 hx3), ?_⟩;rintro hs_ms4 av x' t' hh_ms4 ⟨rfl, ⟨x4, hx4, rfl⟩, _, rfl, ⟨r, rfl, _⟩⟩ _ _ _;try dsimp only at hh_ms4
  conv=>whnf
  refine Wgh.on (za []) 13 [0] ⟨(by (conv=>whnf); exact ⟨Nat.le_refl _, rfl⟩), trivial⟩ ?_;conv=>whnf
  refine ⟨⟨rfl, by decide⟩, ?_⟩;conv=>whnf
  intro b_2 hs_2 hh_2 hf_2;try dsimp only at hh_2 hf_2
  conv=>whnf
  refine Wgh.on (za []) 14 [] ⟨(by (conv=>whnf); exact ⟨Nat.le_refl _, rfl⟩), trivial⟩ ?_;conv=>whnf
  refine ⟨by simp; omega, ?_⟩;conv=>whnf
  intro b_4 hs_4 hh_4 hf_4;try dsimp only at hh_4 hf_4
  conv=>whnf
  refine Wgh.on (za []) 15 [] trivial ?_;conv=>whnf
  refine Wgh.dn (za []) trivial ?_;conv=>whnf
  refine hK8 _ ?_;clear hK8;refine wrg ?_;conv=>whnf
  refine ⟨oo, ?_⟩;conv=>whnf
  exact zk ⟨i + 1, b_4, x4, X ++ [r], hx4, by omega, by simp; omega, by omega, rfl, rfl⟩
 ·refine W.exit (hK1 _ ?_);clear hK7 hK1;refine wrs λK hK => ?_;conv=>whnf
  refine zr rfl (yy _ X (by omega)) λhs_6 b_6 hh_6 hf_6 => ?_;try dsimp only at hh_6 hf_6
  conv=>whnf
  refine hK _ (W.ret ?_);conv=>whnf
  refine ⟨by dsimp only; omega, ?_⟩;conv=>whnf
  refine ⟨rfl, ?_⟩;conv=>whnf
  refine ⟨.ints none (zu X), ⟨.inl rfl, rfl⟩, ?_⟩;conv=>whnf
  exact ⟨.ownB b (y), ⟨rfl, rfl⟩, .inr ⟨rfl, rfl⟩, .dead, trivial, rfl, rfl, rfl, ⟨y, hy, rfl⟩, _, rfl, ⟨_, rfl, by have := zW X; omega⟩⟩

theorem za8 {n : Nat} {c : Nat -> Int} (hc : Byt n c) : Fn Tryz.prog 47 [vBy n c] (λ_ _ z => ∃ p k L X Y, z = .v (.tup [vE p k none L, .ints none X, .ints none Y]) ∧ (-1000 <= p ∧ p <= 1000) ∧ (-1000 <= k ∧ k <= 1000) ∧ L.length <= 30 ∧ X.length <= 100000 ∧ Y.length <= 100000) := by
 refine ze (za [0, 2, 3, 4, 5, 6, 7]) Tryz.func47 rfl (by decide) Tryz.ntmps47 (lb rfl) λbase => ?_;refine wrs λK hK => ?_;conv=>whnf
 intro b_2 hs_2 hh_2 hf_2;try dsimp only at hh_2 hf_2
 conv=>whnf
 refine hK _ (wrs λK hK => ?_);conv=>whnf
 refine y7 rfl (zkz hc) ?_;rintro lo hi hi' z hl1 hl2 hl3 ⟨b, x, hx, rfl⟩ _;try dsimp only at hl1 hl2
 conv=>whnf
 refine hK _ (wrs λK hK => ?_);conv=>whnf
 refine ⟨⟨rfl, rfl⟩, ?_⟩;conv=>whnf
 refine ⟨rfl, _, (zmR hc b x hx), ?_⟩;rintro hs_ms1 av x' t' hh_ms1 ⟨rfl, ⟨x1, hx1, rfl⟩, _, rfl, ⟨p, k, L, rfl, hp, hk, hL⟩⟩ _ _ _;try dsimp only at hh_ms1
 conv=>whnf
 intro b_6 hs_6 hh_6 hf_6;try dsimp only at hh_6 hf_6
 conv=>whnf
 refine ⟨s23, ?_⟩;conv=>whnf
 refine hK _ (wrs λK hK => ?_);conv=>whnf
 refine ⟨⟨rfl, rfl⟩, ?_⟩;conv=>whnf
 refine ⟨rfl, _, (kW hc p k L (by omega) b x1 hx1), ?_⟩;rintro hs_ms2 av x' t' hh_ms2 ⟨rfl, ⟨x2, hx2, rfl⟩, _, rfl, ⟨X, rfl, hX⟩⟩ _ _ _;try dsimp only at hh_ms2
 conv=>whnf
 refine hK _ ?_;clear hK;refine W.rgh follows λK hK => ?_;refine Wgh.tk (za []) 0 ?_;conv=>whnf
 refine Wgh.tk (za []) 1 ?_;conv=>whnf
 refine Wgh.tk (za []) 2 ?_;conv=>whnf
 refine Wgh.tk (za []) 3 ?_;conv=>whnf
 refine Wgh.on (za []) 4 [1, 0] (by refine ⟨?_, ?_, ?_, ?_, trivial⟩ <;> (conv=>whnf) <;> exact ⟨Nat.le_refl _, rfl⟩) ?_;conv=>whnf
 refine ⟨⟨rfl, rfl⟩, ?_⟩;conv=>whnf
 refine ⟨rfl, _, (kW hc p k L (by omega) b x2 hx2), ?_⟩;rintro hs_ms3 av x' t' hh_ms3 ⟨rfl, ⟨x3, hx3, rfl⟩, _, rfl, ⟨Y, rfl, hY⟩⟩ _ _ _;try dsimp only at hh_ms3
 conv=>whnf
 refine Wgh.on (za []) 5 [1] (by refine ⟨?_, ?_, trivial⟩ <;> (conv=>whnf) <;> exact ⟨Nat.le_refl _, rfl⟩) ?_;conv=>whnf
 refine ⟨s23, ?_⟩;conv=>whnf
 refine Wgh.on (za []) 6 [] ⟨(by (conv=>whnf); exact ⟨Nat.le_refl _, rfl⟩), trivial⟩ ?_;conv=>whnf
 refine Wgh.on (za []) 7 [] trivial ?_;conv=>whnf
 refine Wgh.dn (za []) trivial (hK _ ?_);clear hK;refine W.ret ?_;conv=>whnf
 exact ⟨⟨trivial, trivial, trivial, trivial⟩, .v (.ints none X), ⟨rfl, rfl⟩, trivial, .v (.ints none Y), ⟨rfl, rfl⟩, trivial, p, k, L, X, Y, rfl, hp, hk, hL, hX, hY⟩

theorem zf8 {n : Nat} {c : Nat -> Int} (hc : Byt n c) : Fn Tryz.prog 60 [vBy n c] (λ_ _ z => ∃ p k L X, z = .v (.tup [vE p k none L, .ints none X]) ∧ (-1000 <= p ∧ p <= 1000) ∧ (-1000 <= k ∧ k <= 1000) ∧ L.length <= 30 ∧ X.length <= 100000) := by
 refine ze (za [0, 2, 3, 4, 5]) Tryz.func60 rfl (by decide) Tryz.ntmps60 (lb rfl) λbase => ?_;refine wrs λK hK => ?_;conv=>whnf
 intro b_2 hs_2 hh_2 hf_2;try dsimp only at hh_2 hf_2
 conv=>whnf
 refine hK _ (wrs λK hK => ?_);conv=>whnf
 refine y7 rfl (za8 hc) ?_;rintro lo hi hi' z hl1 hl2 hl3 ⟨p, k, L, X, Y, rfl, hp, hk, hL, hX, hY⟩ _;try dsimp only at hl1 hl2
 conv=>whnf
 intro b_4 hs_4 hh_4 hf_4;try dsimp only at hh_4 hf_4
 conv=>whnf
 refine ⟨s23, ?_⟩;conv=>whnf
 refine hK _ (wrs λK hK => ?_);conv=>whnf
 refine ⟨s23, ?_⟩;conv=>whnf
 refine hK _ (W.ret ?_);conv=>whnf
 exact ⟨⟨trivial, trivial, trivial, trivial⟩, .v (.ints none X), ⟨rfl, rfl⟩, trivial, p, k, L, X, rfl, hp, hk, hL, hX⟩

theorem zb0 {n : Nat} {c : Nat -> Int} (hc : Byt n c) : Fn Tryz.prog 16 [vBy n c] (λ_ _ z => ∃ p k L X, z = .v (.tup [vE p k none L, .ints none X]) ∧ (-1000 <= p ∧ p <= 1000) ∧ (-1000 <= k ∧ k <= 1000) ∧ L.length <= 30 ∧ X.length <= 100000) := by
 refine ze (za [0, 2, 3]) Tryz.func16 rfl (by decide) Tryz.ntmps16 (lb rfl) λbase => ?_;refine wrs λK hK => ?_;conv=>whnf
 intro b_2 hs_2 hh_2 hf_2;try dsimp only at hh_2 hf_2
 conv=>whnf
 refine hK _ (wrs λK hK => ?_);conv=>whnf
 refine y7 rfl (zf8 hc) ?_;rintro lo hi hi' z hl1 hl2 hl3 ⟨p, k, L, X, rfl, hp, hk, hL, hX⟩ _;try dsimp only at hl1 hl2
 conv=>whnf
 refine ⟨s23, ?_⟩;conv=>whnf
 refine hK _ (W.ret ?_);conv=>whnf
 exact ⟨⟨trivial, trivial, trivial, trivial⟩, .v (.ints none X), ⟨rfl, rfl⟩, trivial, p, k, L, X, rfl, hp, hk, hL, hX⟩

theorem zkS {p k : Int} {l : List Int} {n : Nat} {X : Nat -> List Int} (h : kU p k l) (h2 : ∀ i, i < n -> jq p k l (X i)) : z3 p k l n X = 0 := by
 unfold z3; rw [zj h, zj h2]; rfl
theorem zlH {p k M : Int} [SP p] [Pos M] {f : Poly M} {n : Nat} (he : ExtP p k M f n) (X : Poly M) (h : dg X <= n) : jq p k f.l X.l := by
 have h1 := he.mn.1;have h8 := he.n8;refine ⟨zqa he.rn.1 he.hm X (by omega), ?_⟩;show dg X < dg f; omega

theorem zmS (kp : Int) [SP kp] (f X : Poly kp) (hk : IsFld kp f.l) (hxl : dg X < dg f) (hc : zoG kp f.l X.l = 0) (n : Nat) (hn : dg f = n + 1) (g0 g1 : Option Nat) : FnV 30 [vK kp g0 f.l, .ints g1 X.l] (.tup [.int .i64 (cf (trN f X n).l 0), .int .i64 0]) := by
 have hf9 := hk.mod.2.1;have hfl : f.l.length = dg f := rfl;have hXl : X.l.length = dg X := rfl;have hf0 : f ≠ 0 := λe => by rw [e, zy] at hxl; omega
 have hp1 := zaj hk.mod.1;have hF := zku hf0 hxl;have hT := zoI hf0 hxl;refine ze (za [0, 1, 2, 4, 5, 6, 7, 8, 14, 19, 20, 21]) Tryz.func30 rfl (by decide) Tryz.ntmps30 (lb rfl) λbase => ?_;refine wrs λK hK => ?_;conv=>whnf
 refine ⟨rfl, ?_⟩;conv=>whnf
 intro b_1 hs_1 hh_1 hf_1;try dsimp only at hh_1 hf_1
 conv=>whnf
 refine hK _ (W.seqK λK1 hK1 => wrs λK hK => ?_);conv=>whnf
 refine ⟨⟨rfl, by decide, λx hx => (by simp at hx; subst hx; exact ⟨rfl, rfl⟩)⟩, ?_⟩;conv=>whnf
 intro b_2 hs_2 hh_2 hf_2;try dsimp only at hh_2 hf_2
 conv=>whnf
 refine zb rfl (zdG kp g0 (some b_2) f.l 1 _ (λ_ => X.l) (by omega) (by omega) (zfD g1 X.l)) λhs' hhs => ?_;try dsimp only at hhs
 conv=>whnf
 rw [show jc kp f.l true 1 (λ_ => X.l) = 0 from hc];refine hK _ (wrs λK hK => ?_);conv=>whnf
 refine hK _ (W.cond ⟨λhcc => absurd rfl (of_decide_eq_true hcc), λ_ => W.skip (hK1 _ ?_)⟩);clear hK hK1;refine wrs λK hK => ?_;conv=>whnf
 refine hK _ (wrs λK hK => ?_);conv=>whnf
 refine hK _ (W.seqK λK1 hK1 => wrs λK hK => ?_);conv=>whnf
 refine zb rfl (jw g0 f.l (by omega)) λhs' hhs => ?_;try dsimp only at hhs
 conv=>whnf
 refine hK _ (W.block (W.invA (λm e => ∃ (j : Nat) (g' : Option Nat) (s : List Int), j <= n ∧ s = (trN f X j).l ∧ m = n - j ∧ e = [(2, .ownB b_1 (vK kp g0 f.l)), (7, .v (.ints none s)), (8, .v (.ints g' (frN f X j).l)), (19, .v (.int .i64 ((f.l.length : Int) - 1))), (20, .v (.int .i64 j))]) ⟨0, g1, [], Nat.zero_le _, ko.symm, rfl, rfl⟩ ?_));clear hK;rintro m e ⟨j, g', s, hj, rfl, hm, rfl⟩;have hFj := hF j;have hTj := hT j;have hTl : (trN f X j).l.length = dg (trN f X j) := rfl;have hFl : (frN f X j).l.length = dg (frN f X j) := rfl;have hbd : Bd 4611686018427387904 (zu (yr (trN f X j).l (frN f X j).l)) := λi => by rw [yC, y1]; have := jP (trN f X j) i; have := jP (frN f X j) i; omega
 have htl : (zu (yr (trN f X j).l (frN f X j).l)).length <= 100 := by have := zW (yr (trN f X j).l (frN f X j).l); unfold yr at *; rw [zH] at *; omega
 refine wrs λK hK => ?_;conv=>whnf
 refine hK _ ?_;clear hK;refine W.seqK λK7 hK7 => W.cond ⟨λh => ?_, λh => ?_⟩ <;> (first | replace h := of_decide_eq_true h | replace h := of_decide_eq_false h)
 ·refine W.skip (hK7 _ ?_);clear hK7;refine W.seqK λK8 hK8 => W.block ?_;refine W.rd (za _) follows (by rfl) λK hK => ?_;conv=>whnf
  refine ⟨_, cxF ((zcy none g' (trN f X j).l (frN f X j).l (zp7 _) (zp7 _) (by omega) (by omega)).toV), ?_⟩;conv=>whnf
  refine ⟨_, cxF ((zG kp (by omega) (by omega) none _ hbd (by omega)).toV), ?_⟩;conv=>whnf
  rw [zq6];refine hK _ ?_;clear hK;refine wrg ?_;conv=>whnf
  refine zb rfl (zju kp g0 g' f (frN f X j) (by omega) (by omega) hf0) λhs' hhs => ?_;try dsimp only at hhs
  conv=>whnf
  refine hK8 _ ?_;clear hK8;refine wrg ?_;conv=>whnf
  refine ⟨oo, ?_⟩;conv=>whnf
  exact zk ⟨j + 1, none, _, by omega, rfl, rfl, rfl⟩
 ·obtain rfl : j = n := by omega
  refine W.exit (hK1 _ ?_);clear hK7 hK1;refine wrs λK hK => ?_;conv=>whnf
  refine zb rfl (kf none (trN f X j).l (by omega)) λhs' hhs => ?_;try dsimp only at hhs
  conv=>whnf
  refine hK _ (W.ret ?_);conv=>whnf
  exact ⟨.v (.int .i64 (cf (trN f X j).l 0)), ⟨rfl, rfl⟩, trivial, .v (.int .i64 0), ⟨rfl, rfl⟩, trivial, rfl⟩

theorem zo1 (kp : Int) [SP kp] (f X : Poly kp) (hk : IsFld kp f.l) (hxl : dg X < dg f) (hc : zoG kp f.l X.l = 0) (n : Nat) (hn : dg f = n + 1) (g0 g1 : Option Nat) : FnV 31 [vK kp g0 f.l, .ints g1 X.l] (.tup [.int .i64 (cf (nrN f X n).l 0), .int .i64 0]) := by
 have hf9 := hk.mod.2.1;have h2 := hk.two;have hfl : f.l.length = dg f := rfl;have hXl : X.l.length = dg X := rfl;have hf0 : f ≠ 0 := λe => by rw [e, zy] at hxl; omega
 have hp1 := zaj hk.mod.1;have hF := zku hf0 hxl;have hN := zqE (X := X) hf0 h2;refine ze (za [0, 1, 2, 4, 5, 6, 7, 8, 14, 20, 21, 22]) Tryz.func31 rfl (by decide) Tryz.ntmps31 (lb rfl) λbase => ?_;refine wrs λK hK => ?_;conv=>whnf
 refine ⟨rfl, ?_⟩;conv=>whnf
 intro b_1 hs_1 hh_1 hf_1;try dsimp only at hh_1 hf_1
 conv=>whnf
 refine hK _ (W.seqK λK1 hK1 => wrs λK hK => ?_);conv=>whnf
 refine ⟨⟨rfl, by decide, λx hx => (by simp at hx; subst hx; exact ⟨rfl, rfl⟩)⟩, ?_⟩;conv=>whnf
 intro b_2 hs_2 hh_2 hf_2;try dsimp only at hh_2 hf_2
 conv=>whnf
 refine zb rfl (zdG kp g0 (some b_2) f.l 1 _ (λ_ => X.l) (by omega) (by omega) (zfD g1 X.l)) λhs' hhs => ?_;try dsimp only at hhs
 conv=>whnf
 rw [show jc kp f.l true 1 (λ_ => X.l) = 0 from hc];refine hK _ (wrs λK hK => ?_);conv=>whnf
 refine hK _ (W.cond ⟨λhcc => absurd rfl (of_decide_eq_true hcc), λ_ => W.skip (hK1 _ ?_)⟩);clear hK hK1;refine wrs λK hK => ?_;conv=>whnf
 refine ⟨⟨rfl, by decide⟩, ?_⟩;conv=>whnf
 intro b_3 hs_3 hh_3 hf_3;try dsimp only at hh_3 hf_3
 conv=>whnf
 refine hK _ (W.seqK λK1 hK1 => wrs λK hK => ?_);conv=>whnf
 refine zb rfl (jw g0 f.l (by omega)) λhs' hhs => ?_;try dsimp only at hhs
 conv=>whnf
 refine hK _ (W.block (W.invA (λm e => ∃ (j : Nat) (g' : Option Nat) (s : List Int), j <= n ∧ s = (nrN f X j).l ∧ m = n - j ∧ e = [(2, .ownB b_1 (vK kp g0 f.l)), (7, .v (.ints none s)), (8, .v (.ints g' (frN f X j).l)), (20, .v (.int .i64 ((f.l.length : Int) - 1))), (21, .v (.int .i64 j))]) ⟨0, g1, [1], Nat.zero_le _, ziZ.symm, rfl, rfl⟩ ?_));clear hK;rintro m e ⟨j, g', s, hj, rfl, hm, rfl⟩;have hFj := hF j;have hNj := hN j;have hNl : (nrN f X j).l.length = dg (nrN f X j) := rfl;refine wrs λK hK => ?_;conv=>whnf
 refine hK _ ?_;clear hK;refine W.seqK λK7 hK7 => W.cond ⟨λh => ?_, λh => ?_⟩ <;> (first | replace h := of_decide_eq_true h | replace h := of_decide_eq_false h)
 ·refine W.skip (hK7 _ ?_);clear hK7;refine W.seqK λK8 hK8 => W.block ?_;refine wrs λK hK => ?_;conv=>whnf
  refine zb rfl (zmH kp g0 none g' f (nrN f X j) (frN f X j) (by omega) (by omega) (by omega) hf0) λhs' hhs => ?_;try dsimp only at hhs
  conv=>whnf
  refine hK _ ?_;clear hK;refine wrg ?_;conv=>whnf
  refine zb rfl (zju kp g0 g' f (frN f X j) (by omega) (by omega) hf0) λhs' hhs => ?_;try dsimp only at hhs
  conv=>whnf
  refine hK8 _ ?_;clear hK8;refine wrg ?_;conv=>whnf
  refine ⟨oo, ?_⟩;conv=>whnf
  exact zk ⟨j + 1, none, _, by omega, rfl, rfl, rfl⟩
 ·obtain rfl : j = n := by omega
  refine W.exit (hK1 _ ?_);clear hK7 hK1;refine wrs λK hK => ?_;conv=>whnf
  refine zb rfl (kf none (nrN f X j).l (by omega)) λhs' hhs => ?_;try dsimp only at hhs
  conv=>whnf
  refine hK _ (W.ret ?_);conv=>whnf
  exact ⟨.v (.int .i64 (cf (nrN f X j).l 0)), ⟨rfl, rfl⟩, trivial, .v (.int .i64 0), ⟨rfl, rfl⟩, trivial, rfl⟩


section
variable {m p : Int} [Pos m] [SP p]
theorem imP (hd : p ∣ m) (A : Poly m) : ∀ q : Nat, im p (A ^ q) = im p A ^ q
 | 0 => zfj hd
 | q + 1 => by rw [zi, jQ hd, imP hd A q]; rfl
theorem imR (hd : p ∣ m) {f : Poly m} {n : Nat} (hf : Mn f n) (A : Poly m) : im p (rdM A f) = rem (im p A) (im p f) := by
 have h3 := zaV hd hf;have h4 : im p f ≠ 0 := λe => by have := h3.1; rw [e, zy] at this; omega
 have h5 : Cg (im p f) (im p (rdM A f)) (im p A) := zls hd (xk hf A);refine Cg.eq (n := n) h3 (h5.trans ?_) ?_ ?_
 ·obtain ⟨u, hu⟩ := xi (im p A) (im p f);exact ⟨u, comb 1 hu (zh [im p A, rem (im p A) (im p f), im p f, u] (by rfl))⟩
 ·have := zbw (p := p) (rdM A f);have := yi hf A;omega
 ·have := zO (im p A) h4;have := h3.1;omega
theorem zo2 {f R : Poly m} {n k : Nat} (hd : p ∣ m) (hf : Mn f n) (h1 : 1 <= n) (hR : RootI p f n k R) (X : Poly m) : ∀ j, im p (frM f R X j) = frN (im p f) (im p X) j
 | 0 => rfl
 | j + 1 => by
  have h := zqA hd hf h1 hR (frM f R X j);rw [zo2 hd hf h1 hR X j] at h;exact h
theorem zqb {f R : Poly m} {n k : Nat} (hd : p ∣ m) (hf : Mn f n) (h1 : 1 <= n) (hR : RootI p f n k R) (X : Poly m) : ∀ j, im p (trM f R X j) = trN (im p f) (im p X) j
 | 0 => zx λi => by rw [vV]; show cf (0 : Poly m).l i % p = cf (0 : Poly p).l i; rw [zN, zN]; rfl
 | j + 1 => by rw [trM, trN, zhx hd, zqb hd hf h1 hR X j, zo2 hd hf h1 hR X j]
theorem zqc {f R : Poly m} {n k : Nat} (hd : p ∣ m) (hf : Mn f n) (h1 : 1 <= n) (hR : RootI p f n k R) (X : Poly m) : ∀ j, im p (nrM f R X j) = nrN (im p f) (im p X) j
 | 0 => zfj hd
 | j + 1 => by rw [nrM, nrN, imR hd hf, jQ hd, zqc hd hf h1 hR X j, zo2 hd hf h1 hR X j]
theorem zqd {f : Poly m} {n : Nat} (hd : p ∣ m) (hf : Mn f n) (hi : Irr (im p f)) (X : Poly m) (hX : dg X <= n) : ∀ j, im p (tcM f X (p.toNat ^ n) j) = im p X
 | 0 => rfl
 | j + 1 => by
  have h3 := (zaV hd hf).1;have h4 := zbw (p := p) X;rw [tcM, imR hd hf, imP hd, zqd hd hf hi X hX j, <- zhv hi.ne (by omega) n, zpD hi (by omega) h3]
end

open Go Go.RowKit Go.ChangeShapes Go.WideShapes Go.ChangeAt Go.Proofs Go.Proofs.YtffhmebkkbfaeaaGreat

def zrd : List Char := [104, 97, 114, 110, 101, 115, 115, 32, 54, 53, 102, 56, 102, 97, 101, 99, 98, 50, 51, 54, 53, 50, 51, 49, 100, 56, 48, 51, 99, 57, 101, 55, 98, 99, 57, 50, 53, 51, 101, 56, 54, 54, 53, 51, 49, 49, 56, 100, 97, 101, 53, 100, 55, 98, 54, 99, 101, 102, 102, 99, 53, 98, 54, 48, 97, 49, 48, 57, 57, 98, 48, 56, 32, 99, 117, 116, 32, 97, 116, 32, 108, 111, 111, 112, 46, 101, 120, 97, 109, 112, 108, 101, 47, 103, 48, 49, 48, 48, 48, 47, 108, 97, 119, 115, 46, 70, 110, 69, 120, 97, 99, 116, 83, 112, 108, 105, 116, 116, 105, 110, 103, 115, 79, 102, 32, 108, 111, 111, 112, 46, 101, 120, 97, 109, 112, 108, 101, 47, 103, 48, 49, 48, 48, 48, 47, 108, 97, 119, 115, 46, 70, 110, 85, 110, 105, 116, 115, 32, 108, 111, 111, 112, 46, 101, 120, 97, 109, 112, 108, 101, 47, 103, 48, 49, 48, 48, 48, 47, 108, 97, 119, 115, 46, 70, 110, 82, 101, 115, 105, 100, 117, 97, 108, 70, 97, 99, 116, 111, 114, 115, 32, 108, 111, 111, 112, 46, 101, 120, 97, 109, 112, 108, 101, 47, 103, 48, 49, 48, 48, 48, 47, 108, 97, 119, 115, 46, 70, 110, 69, 120, 116, 101, 110, 115, 105, 111, 110, 115].map Char.ofNat
def zo3 : List Char := [99, 117, 116].map Char.ofNat
def zo4 : List (List Char) := [[97, 116], [108, 111, 111, 112, 46, 101, 120, 97, 109, 112, 108, 101, 47, 103, 48, 49, 48, 48, 48, 47, 108, 97, 119, 115, 46, 70, 110, 69, 120, 97, 99, 116, 83, 112, 108, 105, 116, 116, 105, 110, 103, 115, 79, 102], [108, 111, 111, 112, 46, 101, 120, 97, 109, 112, 108, 101, 47, 103, 48, 49, 48, 48, 48, 47, 108, 97, 119, 115, 46, 70, 110, 85, 110, 105, 116, 115], [108, 111, 111, 112, 46, 101, 120, 97, 109, 112, 108, 101, 47, 103, 48, 49, 48, 48, 48, 47, 108, 97, 119, 115, 46, 70, 110, 82, 101, 115, 105, 100, 117, 97, 108, 70, 97, 99, 116, 111, 114, 115], [108, 111, 111, 112, 46, 101, 120, 97, 109, 112, 108, 101, 47, 103, 48, 49, 48, 48, 48, 47, 108, 97, 119, 115, 46, 70, 110, 69, 120, 116, 101, 110, 115, 105, 111, 110, 115]].map λw => w.map Char.ofNat
theorem zre : Tryz.checked.prog.initOrder = String.ofList zrd := by kernel_rfl
theorem zlI : behindMainWord (wordsSigns Tryz.checked.prog.initOrder.toList) = zo3 :: zo4 := by rw [zre, String.toList_ofList]; kernel_rfl
theorem zjH {P : Program} {c : List Char} {rest : List (List Char)} (h0 : behindMainWord (wordsSigns P.initOrder.toList) = c :: rest) (h1 : (stripLifts liftWords (c :: rest)) = ([], c :: rest)) (h2 : (c == "cut".toList) = true)
  (h3 : P.laysLater = false) (h4 : P.bearsReflect = false) (h5 : P.doorFits [] = true) : P.mayEnter = true := by
 unfold Program.mayEnter;rw [h0];have e : (some c == some "cut".toList) = true := h2
 refine (Bool.or_eq_true _ _).mpr (.inr ?_);rw [h1, h3, h4, h5];show ((some c == some "cut".toList) && _ && _ && _ && _) = true
 rw [e]
 rfl
theorem zo5 : stripLifts liftWords (zo3 :: zo4) = ([], zo3 :: zo4) := by kernel_rfl
theorem zqL : Tryz.checked.prog.mayEnter = true := zjH zlI zo5 (by kernel_rfl) (by kernel_rfl) (by kernel_rfl) (by kernel_rfl)
theorem zhV {P : Program} {c : List Char} {rest : List (List Char)} (h0 : behindMainWord (wordsSigns P.initOrder.toList) = c :: rest) (h1 : stripLifts liftWords (c :: rest) = ([], c :: rest)) : P.headLifts = [] := by
 unfold Program.headLifts;rw [h0, h1];dsimp only
 split <;> rfl
theorem zf9 {P : Program} {c : List Char} {rest : List (List Char)} (h0 : behindMainWord (wordsSigns P.initOrder.toList) = c :: rest) (hh : P.headLifts = []) (h2 : (c == "carried".toList) = false) : P.liftsFinal = false := by
 have e : (some c == some "carried".toList) = false := h2
 unfold Program.liftsFinal;rw [h0, hh];show (((some c == some "carried".toList) && _) || _) = false
 rw [e]
 rfl
theorem zpZ {P : Program} {c : List Char} {rest : List (List Char)} (h0 : behindMainWord (wordsSigns P.initOrder.toList) = c :: rest) (h1 : (c == "gc".toList) = false) (h2 : (c == "spec".toList) = false) (h3 : (c == "cut".toList) = true) : P.make = some .cut := by
 unfold Program.make;rw [h0];dsimp only
 rw [h1, h2, h3]
 rfl
theorem zrf : Tryz.checked.prog.headLifts = [] := zhV zlI zo5
theorem zrg : Tryz.checked.prog.liftsFinal = false := zf9 zlI zrf (by kernel_rfl)
theorem zrh : Tryz.checked.prog.make = some .cut := zpZ zlI (by kernel_rfl) (by kernel_rfl) (by kernel_rfl)

end Go.Proofs.YtffhmebkkbfaeaaGreat
