/- What the program's functions and the reference's return. No conditions. -/
import Derived.Test.YtlmckocbhcpmdaaGreatPi
import Derived.Test.YtlmckocbhcpmdaaGreatRows
namespace Go.Proofs.YtlmckocbhcpmdaaGreat
open Go Go.RowKit Go.Proofs Poly
set_option maxRecDepth 100000
set_option maxHeartbeats 8000000

def MSrcO (f : Nat) (xs : List V) (n : Nat) (c : Nat → Int) (Q : List Int → Prop) : Prop :=
 ∀ (b : Nat) (x : V), OkSrc n c x → MFn Tryz.prog f (.nil :: xs) 0 (.ownB b x) .dead (fun _ av x' t' => t' = .dead ∧ (∃ x1, OkSrc n c x1 ∧ x' = .ownB b x1) ∧ ∃ bo L, av = .ownI 2 bo L ∧ Q L)

theorem W.invS {P : Program} {c : Cx} {N base : Nat} {x : Code} {QQ : Exit → S → Prop} {s : S} (I : Nat → Env → Nat → Prop) (m0 : Nat) (e0 : Env) (h0 : Nat) (hi : I m0 e0 h0) (hb : ∀ m e h, I m e h → base ≤ h) (hh : h0 ≤ s.hs) (hc : coverK s.env e0)
  (round : ∀ m e h, I m e h → W P c N base x (Ex (fun s' => ∃ m' e' h', I m' e' h' ∧ m' < m ∧ h' ≤ s'.hs ∧ coverK s'.env e') QQ) ⟨e, h⟩) : W P c N base (.loop x) QQ s :=
 W.inv (fun m s => I m s.env s.hs) m0 ⟨e0, h0⟩ hi ⟨hh, hc⟩ (fun m s h => hb _ _ _ h) fun m s h => by
  obtain ⟨e, hs⟩ := s
  refine (round m e hs h).mono fun ex s' hq => ?_
  cases ex with
  | normal => obtain ⟨m', e', h', h1, h2, h3, h4⟩ := hq; exact ⟨m', ⟨e', h'⟩, h1, h2, h3, h4⟩
  | _ => exact hq


theorem l08Valid_o {n : Nat} {c : Nat → Int} (hc : Byt n c) (p : Int) (hp : 2 ≤ p ∧ p ≤ 1000) (d : Nat) (hd : d ≤ 100) : MSrcO 190 [.int .i64 p, .int .i64 d] n c (fun L => PolL p d L) := by
 rintro b x hx
 refine mfn_of (cx := cx [0, 1, 2, 6, 7, 8, 15, 1000000, 1000001]) Tryz.func190 rfl (by decide) Tryz.ntmps190 (Nat.le_of_ble_eq_true rfl) (Nat.le_of_ble_eq_true rfl) rfl rfl fun base hs0 O U hw v0 hb0 => ?_
 refine wrs fun K hK => ?_
 conv => whnf
 refine hK _ ?_
 clear hK K
 refine wrs fun K hK => ?_
 conv => whnf
 refine ⟨⟨rfl, by decide⟩, ?_⟩
 conv => whnf
 intro b_7 hs_7 hh_7 hf_7
 try dsimp only at hh_7 hf_7
 conv => whnf
 refine hK _ ?_
 clear hK K
 refine W.seqK fun K1 hK1 => wrs fun K hK => ?_
 conv => whnf
 refine ⟨oo, ?_⟩
 conv => whnf
 refine ⟨⟨rfl, rfl⟩, ?_⟩
 conv => whnf
 refine ⟨rfl, _, (l01Next_m hc ((d : Int) + 1) (by constructor <;> omega) b x hx), ?_⟩
 rintro hs_ms1 av x' t' hh_ms1 ⟨rfl, ⟨x1, hx1, rfl⟩, _, rfl, ⟨q, rfl, q0, q1, q2⟩⟩ _ _ _
 try dsimp only at hh_ms1
 conv => whnf
 have hq : q ≤ d := by
  by_cases h : d = 0
  ·have := q2 (by omega); omega
  ·have := q1 (by omega); omega
 refine hK _ (W.block (W.invS (fun m e hs => hs0 ≤ hs ∧ ∃ (k bo : Nat) (y : V) (L : List Int), k ≤ d ∧ OkSrc n c y ∧ L.length + k ≤ d ∧ (∀ j, 0 ≤ cf L j ∧ cf L j < p) ∧ (hs0 ≤ bo ∧ bo < hs) ∧ m = k ∧ e = [(vt, .dead), (vk, .keep O U hw 0 v0), (0, .ownB b y), (1, .v (.int .i64 p)), (2, .v (.int .i64 d)), (7, .ownI 2 bo L), (8, .v (.int .i64 k))]) _ _ hs_7
  ⟨by omega, q.toNat, b_7, x1, [], by omega, hx1, by simp; omega, fun j => by rw [cf_nil]; omega, (by have := hf_7 (by decide); omega), rfl, by rw [Int.toNat_of_nonneg q0]⟩ (fun m e hs h => Nat.le_trans hb0 h.1) (by dsimp only; omega) (by repeat' first | refine And.intro ?_ ?_ | exact trivial | rfl | omega | exact .inl rfl | assumption) ?_))
 clear hK K
 rintro m e hs ⟨hsl, k, bo, y, L, h1, hy, h2, h3, hbo, hm, rfl⟩
 refine W.seqK fun K7 hK7 => wrs fun K hK => ?_
 conv => whnf
 refine hK _ (W.cond ⟨fun h5 => ?_, fun h5 => ?_⟩) <;> clear hK K <;> (first | replace h5 := of_decide_eq_true h5 | replace h5 := of_decide_eq_false h5)
 ·have hk : 1 ≤ k := by omega
  refine W.skip (hK7 _ (W.seqK fun K8 hK8 => W.block ?_))
  clear hK7 K7
  refine wrg ?_
  conv => whnf
  refine ⟨⟨rfl, rfl⟩, ?_⟩
  conv => whnf
  refine ⟨rfl, _, (l01Next_m hc p (by constructor <;> omega) b y hy), ?_⟩
  rintro hs_ms2 av x' t' hh_ms2 ⟨rfl, ⟨x2, hx2, rfl⟩, _, rfl, ⟨r1, rfl, r10, r11, _⟩⟩ _ _ _
  try dsimp only at hh_ms2
  conv => whnf
  refine ⟨⟨rfl, rfl⟩, ?_⟩
  conv => whnf
  refine ⟨rfl, _, (l01Next_m hc p (by constructor <;> omega) b x2 hx2), ?_⟩
  rintro hs_ms3 av x' t' hh_ms3 ⟨rfl, ⟨x3, hx3, rfl⟩, _, rfl, ⟨r2, rfl, r20, r21, _⟩⟩ _ _ _
  try dsimp only at hh_ms3
  conv => whnf
  have h11 := r11 (by omega)
  have h21 := r21 (by omega)
  refine ⟨⟨rfl, by decide⟩, ?_⟩
  conv => whnf
  intro b_1 hs_1 hh_1 hf_1
  try dsimp only at hh_1 hf_1
  conv => whnf
  refine ⟨⟨rfl, rfl⟩, ?_⟩
  conv => whnf
  refine ⟨rfl, _, (l01Pick_m hc none [r1, 0, r2] ⟨(by show 1 ≤ 3; omega), (by show 3 ≤ 1000; omega)⟩ b x3 hx3), ?_⟩
  rintro hs_ms4 av x' t' hh_ms4 ⟨rfl, ⟨x4, hx4, rfl⟩, _, rfl, ⟨r, rfl, hr⟩⟩ _ _ _
  try dsimp only at hh_ms4
  conv => whnf
  have hr : 0 ≤ r ∧ r < p := by
   simp only [List.mem_cons, List.not_mem_nil, or_false] at hr
   omega
  refine ⟨⟨rfl, by decide⟩, ?_⟩
  conv => whnf
  intro b_2 hs_2 hh_2 hf_2
  try dsimp only at hh_2 hf_2
  conv => whnf
  refine ⟨by simp; omega, ?_⟩
  conv => whnf
  intro b_3 hs_3 hh_3 hf_3
  try dsimp only at hh_3 hf_3
  conv => whnf
  refine hK8 _ ?_
  clear hK8 K8
  refine wrg ?_
  conv => whnf
  refine ⟨oo, ?_⟩
  conv => whnf
  have hL : ∀ j, 0 ≤ cf (L ++ [r]) j ∧ cf (L ++ [r]) j < p := fun j => by
   unfold cf
   rw [List.getD_eq_getElem?_getD]
   rcases Nat.lt_trichotomy j L.length with hj | hj | hj
   ·rw [List.getElem?_append_left hj, ← List.getD_eq_getElem?_getD]; exact h3 j
   ·rw [List.getElem?_append_right (by omega), hj, Nat.sub_self]; exact hr
   ·rw [List.getElem?_eq_none (by simp; omega)]; show (0 : Int) ≤ 0 ∧ (0 : Int) < p; omega
  rw [show ((k : Int) - 1) = ((k - 1 : Nat) : Int) by omega]
  refine ⟨_, _, hs_3, ⟨by omega, k - 1, b_3, x4, L ++ [r], by omega, hx4, by simp; omega, hL, ?_, rfl, rfl⟩, by omega, by dsimp only; omega, ?_⟩
  ·rcases hf_3 (by simp) with h | h
   ·injection h with h
    omega
   ·omega
  ·exact cvr
 ·obtain rfl : k = 0 := by omega
  refine W.exit (hK1 _ ?_)
  clear hK7 K7 hK1 K1
  refine wrs fun K hK => ?_
  conv => whnf
  refine ⟨oo, ?_⟩
  conv => whnf
  refine ⟨⟨rfl, rfl⟩, ?_⟩
  conv => whnf
  refine ⟨rfl, _, (l01Next_m hc (p - 1) (by constructor <;> omega) b y hy), ?_⟩
  rintro hs_ms2 av x' t' hh_ms2 ⟨rfl, ⟨x2, hx2, rfl⟩, _, rfl, ⟨r1, rfl, r10, r11, r12⟩⟩ _ _ _
  try dsimp only at hh_ms2
  conv => whnf
  refine ⟨⟨rfl, rfl⟩, ?_⟩
  conv => whnf
  refine ⟨rfl, _, (l01Next_m hc 2 (by constructor <;> decide) b x2 hx2), ?_⟩
  rintro hs_ms3 av x' t' hh_ms3 ⟨rfl, ⟨x3, hx3, rfl⟩, _, rfl, ⟨r2, rfl, r20, r21, _⟩⟩ _ _ _
  try dsimp only at hh_ms3
  conv => whnf
  have h11 : r1 ≤ p - 2 := by
   by_cases h : 1 < p - 1
   ·have := r11 h; omega
   ·have := r12 (by omega); omega
  have h21 := r21 (by omega)
  have hmul : 0 ≤ r1 * r2 ∧ r1 * r2 ≤ p - 2 := by
   have : r2 = 0 ∨ r2 = 1 := by omega
   rcases this with rfl | rfl <;> simp <;> omega
  refine ⟨by show _ ≤ r1 * r2 ∧ r1 * r2 ≤ _; omega, ?_⟩
  conv => whnf
  refine ⟨by show _ ≤ 1 + r1 * r2 ∧ 1 + r1 * r2 ≤ _; omega, ?_⟩
  conv => whnf
  refine ⟨⟨rfl, by decide⟩, ?_⟩
  conv => whnf
  intro b_1 hs_1 hh_1 hf_1
  try dsimp only at hh_1 hf_1
  conv => whnf
  refine ⟨by simp; omega, ?_⟩
  conv => whnf
  intro b_2 hs_2 hh_2 hf_2
  try dsimp only at hh_2 hf_2
  conv => whnf
  refine hK _ ?_
  clear hK K
  have hL : PolL p d (L ++ [1 + r1 * r2]) := by
   have hlen : (L ++ [1 + r1 * r2]).length = L.length + 1 := by simp
   refine ⟨by omega, by omega, fun j => ?_, ?_⟩
   ·unfold cf
    rw [List.getD_eq_getElem?_getD]
    rcases Nat.lt_trichotomy j L.length with hj | hj | hj
    ·rw [List.getElem?_append_left hj, ← List.getD_eq_getElem?_getD]; exact h3 j
    ·rw [List.getElem?_append_right (by omega), hj, Nat.sub_self]; show (0 : Int) ≤ 1 + r1 * r2 ∧ 1 + r1 * r2 < p; omega
    ·rw [List.getElem?_eq_none (by omega)]; show (0 : Int) ≤ 0 ∧ (0 : Int) < p; omega
   ·rw [hlen]
    unfold cf
    rw [List.getD_eq_getElem?_getD, List.getElem?_append_right (by omega), show L.length + 1 - 1 - L.length = 0 by omega]
    show (1 + r1 * r2 : Int) ≠ 0
    omega
  refine W.ret ?_
  conv => whnf
  refine ⟨by dsimp only; omega, ?_⟩
  conv => whnf
  refine ⟨rfl, ?_⟩
  conv => whnf
  refine ⟨.ownI 2 b_2 (L ++ [1 + r1 * r2]), ⟨rfl, rfl, rfl⟩, rfl, fun _ => ?_, ?_⟩
  ·rcases hf_2 (by simp) with h | h
   ·injection h with h
    dsimp only
    omega
   ·dsimp only
    omega
  conv => whnf
  exact ⟨.ownB b x3, ⟨rfl, rfl⟩, .inr ⟨rfl, rfl⟩, .dead, trivial, rfl, rfl, rfl, ⟨x3, hx3, rfl⟩, _, _, rfl, hL⟩

theorem polL_mod {p : Int} {d : Nat} {L : List Int} (hp : isP p = true) (hd : d ≤ 8) (h : PolL p d L) : IsMod p L :=
 ⟨hp, by have := h.2.1; omega, fun j _ => by have := h.2.2.1 j; omega, .inr h.2.2.2⟩

theorem l08Draw_m {n : Nat} {c : Nat → Int} (hc : Byt n c) (p : Int) (_hp : inR p) : MSrc 220 [.int .i64 p] n c (fun r => ∃ L, r = .ints none L ∧ L.length ≤ 20) := by
 rintro b x hx
 refine mfn_ofV (cx := cxt [] [0, 1, 4, 5, 8, 14, 15, 24, 27, 32, 1000000, 1000001]) (cxt_ok [] [0, 1, 4, 5, 8, 14, 15, 24, 27, 32, 1000000, 1000001]) Tryz.func220 rfl (by decide) Tryz.ntmps220 (Nat.le_of_ble_eq_true rfl) (Nat.le_of_ble_eq_true rfl) rfl rfl fun base hs0 O U hw v0 hb0 => ?_
 refine W.sw (c' := cx [0, 1, 4, 5, 8, 14, 15, 24, 27, 32, 1000000, 1000001]) ?_
 refine wrs fun K hK => ?_
 conv => whnf
 refine hK _ ?_
 clear hK K
 refine W.seqK fun K1 hK1 => ?_
 refine wrs fun K hK => ?_
 conv => whnf
 refine callV rfl (l01Small_fn p) fun hs' hhs => ?_
 try dsimp only at hhs
 conv => whnf
 refine hK _ (W.cond ⟨fun h => ?_, fun h => ?_⟩) <;> clear hK K
 ·refine wrs fun K hK => ?_
  conv => whnf
  refine ⟨⟨rfl, by decide⟩, ?_⟩
  conv => whnf
  intro b_4 hs_4 hh_4 hf_4
  try dsimp only at hh_4 hf_4
  conv => whnf
  refine hK _ ?_
  clear hK K
  refine W.ret ?_
  conv => whnf
  refine ⟨by dsimp only; omega, ?_⟩
  conv => whnf
  refine ⟨rfl, ?_⟩
  conv => whnf
  refine ⟨.ints none [1, 1], ⟨.inl rfl, rfl⟩, ?_⟩
  conv => whnf
  exact ⟨.ownB b (x), ⟨rfl, rfl⟩, .inr ⟨rfl, rfl⟩, .dead, trivial, rfl, rfl, rfl, ⟨x, hx, rfl⟩, _, rfl, ⟨_, rfl, by decide⟩⟩
 have hP : isP p = true := by simpa using h
 have hp2 := isP_le hP
 refine W.skip (hK1 _ ?_)
 clear hK1 K1
 refine wrs fun K hK => ?_
 conv => whnf
 refine ⟨⟨rfl, rfl⟩, ?_⟩
 conv => whnf
 refine ⟨rfl, _, (l08Valid_o hc p (by omega) 4 (by omega) b x hx), ?_⟩
 rintro hs_ms1 av x' t' hh_ms1 ⟨rfl, ⟨x1, hx1, rfl⟩, bo1, L1, rfl, hL1⟩ _ _ hf_ms1
 replace hf_ms1 := hf_ms1 (by simp)
 try dsimp only at hh_ms1
 conv => whnf
 refine hK _ ?_
 clear hK K
 have hl1 := hL1.2.1
 refine W.seqK fun K1 hK1 => ?_
 refine wrs fun K hK => ?_
 conv => whnf
 refine ⟨⟨rfl, rfl⟩, ?_⟩
 conv => whnf
 refine ⟨rfl, _, (l01Next_m hc 24 (by constructor <;> decide) b x1 hx1), ?_⟩
 rintro hs_ms2 av x' t' hh_ms2 ⟨rfl, ⟨x2, hx2, rfl⟩, _, rfl, ⟨q, rfl, q0, q1, _⟩⟩ _ _ _
 try dsimp only at hh_ms2
 conv => whnf
 refine hK _ (W.block ?_)
 clear hK K
 have fin : ∀ (bo : Nat) (L : List Int) (x2 : V) (t : S), L.length ≤ 20 → OkSrc n c x2 → hs0 ≤ t.hs → coverK t.env [(vt, .dead), (vk, .keep O U hw 0 v0), (0, .ownB b x2), (5, .ownI 2 bo L)] → K1 t := by
  intro bo L x2 t hL hx2 h9 h10
  refine hK1 _ (W.weak (t := ⟨[(vt, .dead), (vk, .keep O U hw 0 v0), (0, .ownB b x2), (5, .ownI 2 bo L)], hs0⟩) ⟨h9, h10⟩ hb0 ?_)
  clear hK1 K1
  refine wrs fun K hK => ?_
  conv => whnf
  refine hK _ ?_
  clear hK K
  refine W.ret ?_
  conv => whnf
  refine ⟨by dsimp only; omega, ?_⟩
  conv => whnf
  refine ⟨rfl, ?_⟩
  conv => whnf
  refine ⟨.ints none L, ⟨rfl, rfl⟩, ?_⟩
  conv => whnf
  exact ⟨.ownB b (x2), ⟨rfl, rfl⟩, .inr ⟨rfl, rfl⟩, .dead, trivial, rfl, rfl, rfl, ⟨x2, hx2, rfl⟩, _, rfl, ⟨_, rfl, hL⟩⟩
 refine wrs fun K hK => ?_
 conv => whnf
 refine hK _ (W.cond ⟨fun h => ?_, fun h => ?_⟩) <;> clear hK K
 ·refine wrg ?_
  conv => whnf
  refine ⟨⟨rfl, by decide⟩, ?_⟩
  conv => whnf
  intro b_6 hs_6 hh_6 hf_6
  try dsimp only at hh_6 hf_6
  conv => whnf
  refine ⟨⟨rfl, rfl⟩, ?_⟩
  conv => whnf
  refine ⟨rfl, _, (l01Pick_m hc none [0, p, -1] ⟨(by show 1 ≤ 3; omega), (by show 3 ≤ 1000; omega)⟩ b x2 hx2), ?_⟩
  rintro hs_ms3 av x' t' hh_ms3 ⟨rfl, ⟨x3, hx3, rfl⟩, _, rfl, ⟨r, rfl, hr⟩⟩ _ _ _
  try dsimp only at hh_ms3
  conv => whnf
  refine ⟨⟨rfl, by decide⟩, ?_⟩
  conv => whnf
  intro b_7 hs_7 hh_7 hf_7
  try dsimp only at hh_7 hf_7
  conv => whnf
  refine ⟨by simp; omega, ?_⟩
  conv => whnf
  intro b_8 hs_8 hh_8 hf_8
  try dsimp only at hh_8 hf_8
  conv => whnf
  refine fin b_8 (L1 ++ [r]) x3 _ (by simp; omega) hx3 (by dsimp only; omega) ?_
  exact cvr
 refine wrs fun K hK => ?_
 conv => whnf
 refine hK _ (W.cond ⟨fun h1 => ?_, fun h1 => ?_⟩) <;> clear hK K
 ·refine wrs fun K hK => ?_
  conv => whnf
  refine ⟨⟨rfl, by decide⟩, ?_⟩
  conv => whnf
  intro b_4 hs_4 hh_4 hf_4
  try dsimp only at hh_4 hf_4
  conv => whnf
  refine hK _ ?_
  clear hK K
  refine W.ret ?_
  conv => whnf
  refine ⟨by dsimp only; omega, ?_⟩
  conv => whnf
  refine ⟨rfl, ?_⟩
  conv => whnf
  refine ⟨.ints none [], ⟨.inl rfl, rfl⟩, ?_⟩
  conv => whnf
  exact ⟨.ownB b (x2), ⟨rfl, rfl⟩, .inr ⟨rfl, rfl⟩, .dead, trivial, rfl, rfl, rfl, ⟨x2, hx2, rfl⟩, _, rfl, ⟨_, rfl, by decide⟩⟩
 refine wrs fun K hK => ?_
 conv => whnf
 refine hK _ (W.cond ⟨fun h2 => ?_, fun h2 => ?_⟩) <;> clear hK K
 ·refine wrs fun K hK => ?_
  conv => whnf
  refine ⟨⟨rfl, rfl⟩, ?_⟩
  conv => whnf
  refine ⟨rfl, _, (l08Valid_o hc p (by omega) 8 (by omega) b x2 hx2), ?_⟩
  rintro hs_ms3 av x' t' hh_ms3 ⟨rfl, ⟨x3, hx3, rfl⟩, bo3, L3, rfl, hL3⟩ _ _ hf_ms3
  replace hf_ms3 := hf_ms3 (by simp)
  try dsimp only at hh_ms3
  conv => whnf
  refine hK _ ?_
  clear hK K
  refine W.ret ?_
  conv => whnf
  refine ⟨by dsimp only; omega, ?_⟩
  conv => whnf
  refine ⟨rfl, ?_⟩
  conv => whnf
  refine ⟨.ints none L3, ⟨.inl rfl, rfl⟩, ?_⟩
  conv => whnf
  exact ⟨.ownB b (x3), ⟨rfl, rfl⟩, .inr ⟨rfl, rfl⟩, .dead, trivial, rfl, rfl, rfl, ⟨x3, hx3, rfl⟩, _, rfl, ⟨_, rfl, by have := hL3.2.1; omega⟩⟩
 refine wrs fun K hK => ?_
 conv => whnf
 refine hK _ (W.cond ⟨fun h3 => ?_, fun h3 => ?_⟩) <;> clear hK K
 ·refine wrs fun K hK => ?_
  conv => whnf
  refine ⟨⟨rfl, rfl⟩, ?_⟩
  conv => whnf
  refine ⟨rfl, _, (l08Valid_o hc p (by omega) 2 (by omega) b x2 hx2), ?_⟩
  rintro hs_ms3 av x' t' hh_ms3 ⟨rfl, ⟨x3, hx3, rfl⟩, bo3, L3, rfl, hL3⟩ _ _ hf_ms3
  replace hf_ms3 := hf_ms3 (by simp)
  try dsimp only at hh_ms3
  conv => whnf
  refine hK _ ?_
  clear hK K
  obtain ⟨hpr, f, hf⟩ := poly_of (polL_mod hP (by omega) hL3)
  letI := sp_of hpr
  have hfl : dg f ≤ 3 := by show f.l.length ≤ 3; rw [hf]; exact hL3.2.1
  rw [← hf]
  refine wrs fun K hK => ?_
  conv => whnf
  refine callI rfl (l08Multiply_fn p _ _ f f (by omega) (by omega)) fun hs_9 b_9 hh_9 hf_9 => ?_
  try dsimp only at hh_9 hf_9
  conv => whnf
  refine hK _ ?_
  clear hK K
  refine W.ret ?_
  conv => whnf
  refine ⟨by dsimp only; omega, ?_⟩
  conv => whnf
  refine ⟨rfl, ?_⟩
  conv => whnf
  refine ⟨.ints none (f * f).l, ⟨.inl rfl, rfl⟩, ?_⟩
  conv => whnf
  exact ⟨.ownB b (x3), ⟨rfl, rfl⟩, .inr ⟨rfl, rfl⟩, .dead, trivial, rfl, rfl, rfl, ⟨x3, hx3, rfl⟩, _, rfl, ⟨_, rfl, by have := dg_mul_le f f; show dg (f * f) ≤ 20; omega⟩⟩
 refine W.skip (fin bo1 L1 x2 _ (by omega) hx2 (by dsimp only; omega) ?_)
 exact cvr

theorem DrawIsModular_fn {n : Nat} {c : Nat → Int} (hc : Byt n c) : Fn Tryz.prog 181 [vBy n c] (fun _ _ z => ∃ (p : Int) (L : List Int), z = .v (.tup [.int .i64 p, .ints none L]) ∧ (-1000 ≤ p ∧ p ≤ 1000) ∧ L.length ≤ 20) := by
 refine fn_of (cx_ok [0, 2, 3, 4, 5]) Tryz.func181 rfl (by decide) Tryz.ntmps181 (Nat.le_of_ble_eq_true rfl) fun base => ?_
 refine wrs fun K hK => ?_
 conv => whnf
 refine hK _ ?_
 clear hK K
 refine wrs fun K hK => ?_
 conv => whnf
 refine callP rfl (l01From_fn hc) ?_
 rintro lo hi hi' z hl1 hl2 hl3 ⟨b, x, hx, rfl⟩ _
 try dsimp only at hl1 hl2
 conv => whnf
 refine hK _ ?_
 clear hK K
 refine wrs fun K hK => ?_
 conv => whnf
 refine ⟨⟨rfl, rfl⟩, ?_⟩
 conv => whnf
 refine ⟨rfl, _, (l08DrawPrime_m hc b x hx), ?_⟩
 rintro hs_ms1 av x' t' hh_ms1 ⟨rfl, ⟨x1, hx1, rfl⟩, _, rfl, ⟨p, rfl, hp⟩⟩ _ _ _
 try dsimp only at hh_ms1
 conv => whnf
 refine hK _ ?_
 clear hK K
 have hp2 : -1000 ≤ p ∧ p ≤ 1000 := by (simp only [List.mem_cons, List.not_mem_nil, or_false] at hp; omega)
 refine wrs fun K hK => ?_
 conv => whnf
 refine ⟨⟨rfl, rfl⟩, ?_⟩
 conv => whnf
 refine ⟨rfl, _, (l08Draw_m hc p (by constructor <;> omega) b x1 hx1), ?_⟩
 rintro hs_ms2 av x' t' hh_ms2 ⟨rfl, ⟨x2, hx2, rfl⟩, _, rfl, ⟨L, rfl, hL⟩⟩ _ _ _
 try dsimp only at hh_ms2
 conv => whnf
 refine hK _ ?_
 clear hK K
 refine W.ret ?_
 conv => whnf
 exact ⟨.v (.int .i64 p), ⟨rfl, rfl⟩, trivial, .v (.ints none L), ⟨rfl, rfl⟩, trivial, p, L, rfl, hp2, hL⟩

theorem DrawNumberOf_fn {n : Nat} {c : Nat → Int} (hc : Byt n c) : Fn Tryz.prog 28 [vBy n c] (fun _ _ z => ∃ (p : Int) (L : List Int), z = .v (.tup [.int .i64 p, .ints none L]) ∧ (-1000 ≤ p ∧ p ≤ 1000) ∧ L.length ≤ 20) := by
 refine fn_of (cx_ok [0, 2, 3]) Tryz.func28 rfl (by decide) Tryz.ntmps28 (Nat.le_of_ble_eq_true rfl) fun base => ?_
 refine wrs fun K hK => ?_
 conv => whnf
 refine hK _ ?_
 clear hK K
 refine wrs fun K hK => ?_
 conv => whnf
 refine callP rfl (DrawIsModular_fn hc) ?_
 rintro lo hi hi' z hl1 hl2 hl3 ⟨p, L, rfl, hp, hL⟩ _
 try dsimp only at hl1 hl2
 conv => whnf
 refine hK _ ?_
 clear hK K
 refine W.ret ?_
 conv => whnf
 exact ⟨.v (.int .i64 p), ⟨rfl, rfl⟩, trivial, .v (.ints none L), ⟨rfl, rfl⟩, trivial, p, L, rfl, hp, hL⟩

theorem DrawNextIrreducible_fn {n : Nat} {c : Nat → Int} (hc : Byt n c) : Fn Tryz.prog 34 [vBy n c] (fun _ _ z => ∃ (p : Int) (L : List Int), z = .v (.tup [.int .i64 p, .ints none L]) ∧ (-1000 ≤ p ∧ p ≤ 1000) ∧ L.length ≤ 20) := by
 refine fn_of (cx_ok [0, 2, 3, 4, 5, 6, 20]) Tryz.func34 rfl (by decide) Tryz.ntmps34 (Nat.le_of_ble_eq_true rfl) fun base => ?_
 refine wrs fun K hK => ?_
 conv => whnf
 refine hK _ ?_
 clear hK K
 refine wrs fun K hK => ?_
 conv => whnf
 refine callP rfl (l01From_fn hc) ?_
 rintro lo hi hi' z hl1 hl2 hl3 ⟨b, x, hx, rfl⟩ _
 try dsimp only at hl1 hl2
 conv => whnf
 refine hK _ ?_
 clear hK K
 refine wrs fun K hK => ?_
 conv => whnf
 refine callP rfl (DrawIsModular_fn hc) ?_
 rintro lo2 hi2 hi2' z hm1 hm2 hm3 ⟨p, L, rfl, hp, hL⟩ _
 try dsimp only at hm1 hm2
 conv => whnf
 refine hK _ ?_
 clear hK K
 refine W.seqK fun K1 hK1 => ?_
 have fin : ∀ (L : List Int) (t : S), L.length ≤ 20 → base ≤ t.hs → coverK t.env [(5, .v (.int .i64 p)), (6, .v (.ints none L))] → K1 t := by
  intro L t hL h9 h10
  refine hK1 _ (W.weak (t := ⟨[(5, .v (.int .i64 p)), (6, .v (.ints none L))], base⟩) ⟨h9, h10⟩ (Nat.le_refl _) ?_)
  clear hK1 K1
  refine wrs fun K hK => ?_
  conv => whnf
  refine hK _ ?_
  clear hK K
  refine W.ret ?_
  conv => whnf
  exact ⟨.v (.int .i64 p), ⟨rfl, rfl⟩, trivial, .v (.ints none L), ⟨rfl, rfl⟩, trivial, p, L, rfl, hp, hL⟩
 refine wrs fun K hK => ?_
 conv => whnf
 refine callV rfl (l01Small_fn p) fun hs' hhs => ?_
 try dsimp only at hhs
 conv => whnf
 refine ⟨fun hP => ?_, fun hP => ?_⟩
 ·conv => whnf
  have hp2 := isP_le hP
  refine ⟨⟨rfl, rfl⟩, ?_⟩
  conv => whnf
  refine ⟨rfl, _, (l01Next_m hc 4 (by constructor <;> decide) b x hx), ?_⟩
  rintro hs_ms1 av x' t' hh_ms1 ⟨rfl, ⟨x1, hx1, rfl⟩, _, rfl, ⟨q, rfl, q0, q1, _⟩⟩ _ _ _
  try dsimp only at hh_ms1
  conv => whnf
  refine hK _ (W.cond ⟨fun h => ?_, fun h => ?_⟩) <;> clear hK K
  ·refine wrs fun K hK => ?_
   conv => whnf
   refine ⟨⟨rfl, rfl⟩, ?_⟩
   conv => whnf
   refine ⟨rfl, _, (l08Valid_o hc p (by omega) 4 (by omega) b x1 hx1), ?_⟩
   rintro hs_ms2 av x' t' hh_ms2 ⟨rfl, ⟨x2, hx2, rfl⟩, bo2, L2, rfl, hL2⟩ _ _ hf_ms2
   replace hf_ms2 := hf_ms2 (by simp)
   try dsimp only at hh_ms2
   conv => whnf
   refine hK _ ?_
   clear hK K
   have hl1 := hL2.1
   have hl2 := hL2.2.1
   refine wrg ?_
   conv => whnf
   refine ⟨oo, ?_⟩
   conv => whnf
   refine ⟨oo, ?_⟩
   conv => whnf
   rw [show ((L2.length : Int) - 1).toNat = L2.length - 1 by omega]
   refine fin (L2.set (L2.length - 1) 1) _ (by simp; omega) (by dsimp only; omega) ?_
   exact cvr
  ·refine W.skip (fin L _ hL (by dsimp only; omega) ?_)
   exact cvr
 ·conv => whnf
  refine hK _ (W.condF rfl (W.skip (fin L _ hL (by dsimp only; omega) ?_)))
  exact cvr

open Go Go.RowKit Go.Proofs Poly
set_option maxRecDepth 100000
set_option maxHeartbeats 8000000

theorem RT.toV {f : Nat} {xs : List V} {l : List Int} {c : Int} (h : FnT Tryz.prog f xs (RT l c)) : FnV f xs (.tup [.ints none l, .int .i64 c]) :=
 FnT.toV h fun _ _ x tb hx => by
  obtain ⟨b, rfl, hb⟩ := hx
  refine ⟨_, rfl, rfl, fun j hj => ?_⟩
  match j, hj with
  | 0, _ => exact ⟨l, rfl, hb, rfl⟩
  | 1, _ => rfl
open Go Go.RowKit Go.Proofs Poly
set_option maxRecDepth 100000
set_option maxHeartbeats 8000000

theorem irreducibleFrom_V (p : Int) [SP p] (d a : Nat) (hd : d ≤ 4) (ha1 : 1 ≤ a) (ha : a ≤ 2 * p.toNat ^ d) (r : Option Nat) (hr : IsFirst (fun n => Irr (polyN p n)) a (2 * p.toNat ^ d) r) :
  FnV 193 [.int .i64 p, .int .i64 d, .int .i64 a] (.tup [.ints none (outL p.toNat r), .bool r.isSome]) :=
 FnT.toV (irreducibleFrom_T p d a hd ha1 ha r hr) fun _ _ x tb hx => by
  obtain ⟨b, rfl, hb⟩ := hx
  refine ⟨_, rfl, rfl, fun j hj => ?_⟩
  match j, hj with
  | 0, _ => exact ⟨_, rfl, hb, rfl⟩
  | 1, _ => rfl

theorem FirstIrreducible_E (p n : Int) : ∃ (r0 : List Int) (r1 : Int), (FnV 39 [.int .i64 p, .int .i64 n] (.tup [.ints none r0, .int .i64 r1])) ∧ (FnV 38 [.int .i64 p, .int .i64 n] (.tup [.ints none r0, .int .i64 r1])) ∧ r0.length ≤ 1000000 ∧
  (r1 = 0 → ∃ hp : p ∈ primes, letI := sp_of hp; ∃ (d : Nat) (r : Option Nat), n = d ∧ 1 ≤ d ∧ d ≤ 4 ∧ IsFirst (fun k => Irr (polyN p k)) (p.toNat ^ d) (2 * p.toNat ^ d) r ∧ r0 = outL p.toNat r) := by
 by_cases hc : codeCn p n = 0
 ·obtain ⟨hp0, hn1, hn4⟩ := codeCn_ok hc
  have hp := isP_le hp0
  have hpr : p ∈ primes := of_decide_eq_true hp0
  letI := sp_of hpr
  obtain ⟨d, rfl⟩ : ∃ d : Nat, n = d := ⟨n.toNat, by omega⟩
  obtain ⟨r, hr⟩ := exists_first (fun k => Irr (polyN p k)) (p.toNat ^ d) (2 * p.toNat ^ d)
  have hB : 0 < p.toNat ^ d := Nat.pow_pos (by omega)
  have hpc := pow_p (p := p) (by omega) d
  have hF := FirstIrreducible_fn p d r (fun _ _ => by rw [Int.toNat_natCast]; exact hr)
  rw [if_pos hc] at hF
  have hol : (outL p.toNat r).length ≤ 5 := by
   cases r with
   | none => simp [outL]
   | some m => exact dig_len5 (p := p) (by omega) (d := d) (by omega) hr.2.1
  refine ⟨outL p.toNat r, 0, hF, ?_, by omega, fun _ => ⟨hpr, d, r, rfl, by omega, by omega, hr, rfl⟩⟩
  refine fn_of (cx_ok [0, 1, 4, 5, 6, 7, 13]) Tryz.func38 rfl (by decide) Tryz.ntmps38 (Nat.le_of_ble_eq_true rfl) fun base => ?_
  refine wrs fun K hK => ?_
  conv => whnf
  refine hK _ ?_
  clear hK K
  refine W.seqK fun K1 hK1 => ?_
  refine wrs fun K hK => ?_
  conv => whnf
  refine callV rfl (counting_fn p d 1 4) fun hs' hhs => ?_
  try dsimp only at hhs
  conv => whnf
  rw [show (if isP p = true then (if 1 ≤ (d : Int) ∧ (d : Int) ≤ 4 then (0 : Int) else 2) else 1) = 0 from hc]
  refine hK _ ?_
  clear hK K
  refine wrs fun K hK => ?_
  conv => whnf
  refine hK _ (W.cond ⟨fun hcc => absurd rfl (of_decide_eq_true hcc), fun _ => W.skip (hK1 _ ?_)⟩)
  clear hK K hK1 K1
  refine wrs fun K hK => ?_
  conv => whnf
  refine callV rfl (power_fn p d (fun j hj => pow_inR (by omega) (by omega) (by omega)) (by omega)) fun hs' hhs => ?_
  try dsimp only at hhs
  conv => whnf
  rw [hpc]
  refine callV rfl (irreducibleFrom_V p d (p.toNat ^ d) (by omega) (by omega) (by omega) r hr) fun hs' hhs => ?_
  try dsimp only at hhs
  conv => whnf
  refine hK _ ?_
  clear hK K
  refine wrs fun K hK => ?_
  conv => whnf
  refine hK _ ?_
  clear hK K
  refine W.ret ?_
  conv => whnf
  exact ⟨.v (.ints none (outL p.toNat r)), ⟨rfl, rfl⟩, trivial, .v (.int .i64 0), ⟨rfl, rfl⟩, trivial, rfl⟩
 ·have hF := FirstIrreducible_fn p n none (fun h hn => by
   have hcc : codeCn p n = 0 := by unfold codeCn; rw [if_pos (decide_eq_true h), if_pos hn]
   exact absurd hcc hc)
  rw [if_neg hc] at hF
  refine ⟨[], codeCn p n, hF, ?_, by simp, fun h => absurd h hc⟩
  refine fn_of (cx_ok [0, 1, 4, 5, 6, 7, 13]) Tryz.func38 rfl (by decide) Tryz.ntmps38 (Nat.le_of_ble_eq_true rfl) fun base => ?_
  refine wrs fun K hK => ?_
  conv => whnf
  refine hK _ ?_
  clear hK K
  refine W.seqK fun K1 hK1 => ?_
  refine wrs fun K hK => ?_
  conv => whnf
  refine callV rfl (counting_fn p n 1 4) fun hs' hhs => ?_
  try dsimp only at hhs
  conv => whnf
  rw [show (if isP p = true then (if 1 ≤ n ∧ n ≤ 4 then (0 : Int) else 2) else 1) = codeCn p n from rfl]
  refine hK _ ?_
  clear hK K
  refine wrs fun K hK => ?_
  conv => whnf
  refine hK _ (W.cond ⟨fun _ => ?_, fun hcc => absurd hc (of_decide_eq_false hcc)⟩)
  clear hK K
  refine wrs fun K hK => ?_
  conv => whnf
  refine hK _ ?_
  clear hK K
  refine W.ret ?_
  conv => whnf
  exact ⟨.v (.ints none []), rfl, trivial, .v (.int .i64 (codeCn p n)), ⟨rfl, rfl⟩, trivial, rfl⟩

theorem ComparePolynomials_ok (p : Int) (g g' : Option Nat) (f h : List Int) (hf : IsMod p f) (hh : IsMod p h) : FnV 40 [.int .i64 p, .ints g f, .ints g' h] (.tup [.int .i64 (cmpP f h), .int .i64 0]) := by
 have h1 := hf.2.1
 have h2 := hh.2.1
 refine fn_of (cx_ok [0, 1, 2, 6, 7, 17]) Tryz.func40 rfl (by decide) Tryz.ntmps40 (Nat.le_of_ble_eq_true rfl) fun base => ?_
 refine wrs fun K hK => ?_
 conv => whnf
 refine hK _ ?_
 clear hK K
 refine W.seqK fun K1 hK1 => ?_
 refine wrs fun K hK => ?_
 conv => whnf
 refine callV rfl ((isModular_fn g p f).tr (bP_true hf)) fun hs' hhs => ?_
 try dsimp only at hhs
 conv => whnf
 refine callV rfl ((isModular_fn g' p h).tr (bP_true hh)) fun hs' hhs => ?_
 try dsimp only at hhs
 conv => whnf
 refine hK _ (W.condF rfl (W.skip (hK1 _ ?_)))
 clear hK K hK1 K1
 refine wrs fun K hK => ?_
 conv => whnf
 refine callV rfl (comparePolynomials_fn g g' f h (by omega) (by omega)) fun hs' hhs => ?_
 try dsimp only at hhs
 conv => whnf
 refine hK _ ?_
 clear hK K
 refine W.ret ?_
 conv => whnf
 exact ⟨.v (.int .i64 (cmpP f h)), ⟨rfl, rfl⟩, trivial, .v (.int .i64 0), ⟨rfl, rfl⟩, trivial, rfl⟩

theorem IsIrreducible_ok (p : Int) [SP p] (g : Option Nat) (f : Poly p) (hm : IsMod p f.l) (h2 : 2 ≤ dg f) : FnV 41 [.int .i64 p, .ints g f.l] (.tup [.bool (bP (Irr f)), .int .i64 0]) := by
 have hl : f.l.length = dg f := rfl
 have h9 := hm.2.1
 have hc : codeFa p f.l = 0 := by unfold codeFa; rw [bP_true hm, if_neg (by omega)]; rfl
 refine fn_of (cx_ok [0, 1, 4, 5, 6, 11]) Tryz.func41 rfl (by decide) Tryz.ntmps41 (Nat.le_of_ble_eq_true rfl) fun base => ?_
 refine wrs fun K hK => ?_
 conv => whnf
 refine hK _ ?_
 clear hK K
 refine W.seqK fun K1 hK1 => ?_
 refine wrs fun K hK => ?_
 conv => whnf
 refine callV rfl (factorable_fn g p f.l) fun hs' hhs => ?_
 try dsimp only at hhs
 conv => whnf
 rw [hc]
 refine hK _ ?_
 clear hK K
 refine wrs fun K hK => ?_
 conv => whnf
 refine hK _ (W.cond ⟨fun hcc => absurd rfl (of_decide_eq_true hcc), fun _ => W.skip (hK1 _ ?_)⟩)
 clear hK K hK1 K1
 refine wrs fun K hK => ?_
 conv => whnf
 refine callV rfl (isIrreducible_V p g f (by omega) (fun e => by rw [e, dg_zero] at h2; omega)) fun hs' hhs => ?_
 try dsimp only at hhs
 conv => whnf
 refine hK _ ?_
 clear hK K
 refine W.ret ?_
 conv => whnf
 exact ⟨.v (.bool (bP (Irr f))), rfl, trivial, .v (.int .i64 0), ⟨rfl, rfl⟩, trivial, rfl⟩

open Go Go.RowKit Go.ChangeShapes Go.WideShapes Go.ChangeAt Go.Proofs Go.Proofs.YtlmckocbhcpmdaaGreat

theorem fn_calls {P : Program} {f : Nat} {xs : List V} {r : V} {w : World} {vs : Array Value} (h : Fn P f xs (fun _ _ a => a = .v r)) (hl : vs.size = xs.length)
  (hr : ∀ j, j < xs.length → Rep (okAll w) w.heap (xs.getD j .nil) (vs.getD j undef)) :
  Calls P f vs w fun e w' => ∃ v, e = .returned v ∧ Below w.heap.size w w' ∧ Rep (okR (fun _ => False) w'.heap.size) w'.heap r v := by
 refine (h.2 (fun _ => False) w vs (fun _ h => h.elim) hl hr).mono fun e w' ⟨v, av, hi, h1, h2, h3, h4, h5⟩ => ?_
 subst h3
 obtain ⟨_, h6, _⟩ := h5
 refine ⟨v, h1, h4, ?_⟩
 exact Rep.mono h6 fun g b hb => ⟨⟨hb.1, fun h => h.elim, hb.2.2⟩, rfl⟩

theorem ownP : ownKnob Tryz.prog.godebug = none := by kernel_rfl
theorem laidOutP : laidOutB Tryz.prog = true := by kernel_rfl
open Go Go.RowKit Go.ChangeShapes Go.WideShapes Go.ChangeAt Go.Proofs Go.Proofs.YtlmckocbhcpmdaaGreat

section
variable {H : Type} {enc : TypeId × Value → H} {P : Program} {w : World}
def TyU8 (xs : List V) : Prop := ∃ n : Int, xs = [.int .u8 n] ∧ 0 ≤ n ∧ n ≤ 255
theorem wf_u8 {n : Int} (h : (Lit.int .u8 n).wf = true) : 0 ≤ n ∧ n ≤ 255 := by
 simp only [Lit.wf, Bool.and_eq_true, decide_eq_true_eq] at h
 have h1 : IntKind.u8.min = 0 := rfl
 have h2 : IntKind.u8.max = 255 := rfl
 omega
theorem reads_u8 {t : TypeId} (ht : P.underlying t = some (.int .u8)) : Reads enc P w t 1 TyU8 := by
 intro fuel cs d ps h
 obtain ⟨n, hc, hx, hw⟩ := DataW.trod_int ht h
 subst hc
 refine ⟨rfl, _, ⟨n, rfl, wf_u8 hw⟩, rfl, by simp [V.isCell], fun j hj => ?_⟩
 obtain rfl : j = 0 := by omega
 exact .int _ _
theorem bytes_of {xs : List V} (h : TyVals 1 mkHead TyU8 xs) : ∃ (n : Nat) (c : Nat → Int), (∀ i, 0 ≤ c i ∧ c i ≤ 255) ∧ xs.length = 1 ∧ ∀ ok h' v, Rep ok h' (xs.getD 0 .nil) v → Rep ok h' (vBy n c) v := by
 obtain ⟨n, f, rfl, _, hf⟩ := h
 have hf2 : ∀ i, ∃ z : Int, (0 ≤ z ∧ z ≤ 255) ∧ (i < n → f i = .int .u8 z) := by
  intro i
  by_cases hi : i < n
  ·obtain ⟨ys, ⟨z, rfl, hz⟩, e⟩ := hf i hi
   exact ⟨z, hz, fun _ => e⟩
  ·exact ⟨0, by omega, fun h => absurd h hi⟩
 refine ⟨n, fun i => Classical.choose (hf2 i), fun i => (Classical.choose_spec (hf2 i)).1, rfl, fun ok h' v r => leV_sound (x := .vals none 1 n f) ⟨rfl, rfl, rfl, fun i hi => (Classical.choose_spec (hf2 i)).2 hi⟩ r⟩
end
theorem fn_trueB {P : Program} {f : Nat} {xs : List V} {w : World} {vs : Array Value} (h : Fn P f xs (fun _ _ a => a = .v (.bool true))) (hl : vs.size = xs.length)
  (hr : ∀ j, j < xs.length → Rep (okAll w) w.heap (xs.getD j .nil) (vs.getD j undef)) :
  Calls P f vs w fun e w' => e = .returned (.bool true) ∧ Below w.heap.size w w' :=
 (fn_calls h hl hr).mono fun e w' ⟨v, h1, h2, h3⟩ => by
  cases h3
  exact ⟨h1, h2⟩
theorem cellsU8 : Tryz.prog.cellsOf 5 = 1 := by kernel_rfl
theorem readsBytes {H : Type} {enc : TypeId × Value → H} {W : World} : Reads enc Tryz.prog W 22 1 (TyVals 1 mkHead TyU8) :=
 reads_slice Tryz.underlying22 cellsU8 (fun xs h1 h2 => mk_head xs h1 h2) (reads_u8 Tryz.underlying5)

open Go Go.RowKit Go.ChangeShapes Go.WideShapes Go.ChangeAt Go.Proofs Go.Proofs.YtlmckocbhcpmdaaGreat
set_option maxRecDepth 100000

def signs : List Char := [104, 97, 114, 110, 101, 115, 115, 32, 48, 57, 56, 100, 53, 97, 99, 53, 56, 52, 54, 50, 51, 98, 100, 54, 52, 56, 97, 51, 53, 53, 49, 100, 101, 98, 98, 54, 102, 54, 101, 101, 55, 55, 53, 52, 97, 52, 102, 97, 55, 50, 97, 54, 56, 54, 52, 48, 101, 56, 97, 48, 50, 50, 48, 55, 51, 54, 97, 56, 50, 51, 53, 49, 32, 99, 117, 116, 32, 97, 116, 32, 108, 111, 111, 112, 46, 101, 120, 97, 109, 112, 108, 101, 47, 103, 48, 49, 48, 48, 48, 47, 108, 97, 119, 115, 46, 70, 110, 69, 108, 101, 109, 101, 110, 116, 115, 32, 108, 111, 111, 112, 46, 101, 120, 97, 109, 112, 108, 101, 47, 103, 48, 49, 48, 48, 48, 47, 108, 97, 119, 115, 46, 70, 110, 78, 117, 109, 98, 101, 114, 101, 100, 32, 108, 111, 111, 112, 46, 101, 120, 97, 109, 112, 108, 101, 47, 103, 48, 49, 48, 48, 48, 47, 108, 97, 119, 115, 46, 70, 110, 68, 101, 103, 114, 101, 101, 115, 32, 108, 111, 111, 112, 46, 101, 120, 97, 109, 112, 108, 101, 47, 103, 48, 49, 48, 48, 48, 47, 108, 97, 119, 115, 46, 70, 110, 77, 105, 110, 105, 109, 97, 108, 32, 108, 111, 111, 112, 46, 101, 120, 97, 109, 112, 108, 101, 47, 103, 48, 49, 48, 48, 48, 47, 108, 97, 119, 115, 46, 70, 110, 77, 111, 100, 117, 108, 97, 114, 70, 97, 99, 116, 111, 114, 115, 32, 108, 111, 111, 112, 46, 101, 120, 97, 109, 112, 108, 101, 47, 103, 48, 49, 48, 48, 48, 47, 108, 97, 119, 115, 46, 70, 110, 76, 111, 103, 115, 32, 108, 111, 111, 112, 46, 101, 120, 97, 109, 112, 108, 101, 47, 103, 48, 49, 48, 48, 48, 47, 108, 97, 119, 115, 46, 70, 110, 80, 114, 105, 109, 105, 116, 105, 118, 101, 32, 108, 111, 111, 112, 46, 101, 120, 97, 109, 112, 108, 101, 47, 103, 48, 49, 48, 48, 48, 47, 108, 97, 119, 115, 46, 70, 110, 76, 105, 102, 116, 101, 100, 70, 97, 99, 116, 111, 114, 115, 32, 108, 111, 111, 112, 46, 101, 120, 97, 109, 112, 108, 101, 47, 103, 48, 49, 48, 48, 48, 47, 108, 97, 119, 115, 46, 70, 110, 69, 120, 116, 101, 110, 115, 105, 111, 110, 115, 32, 108, 111, 111, 112, 46, 101, 120, 97, 109, 112, 108, 101, 47, 103, 48, 49, 48, 48, 48, 47, 108, 97, 119, 115, 46, 70, 110, 85, 110, 105, 116, 115, 32, 108, 111, 111, 112, 46, 101, 120, 97, 109, 112, 108, 101, 47, 103, 48, 49, 48, 48, 48, 47, 108, 97, 119, 115, 46, 70, 110, 82, 101, 115, 105, 100, 117, 97, 108, 70, 97, 99, 116, 111, 114, 115, 32, 108, 111, 111, 112, 46, 101, 120, 97, 109, 112, 108, 101, 47, 103, 48, 49, 48, 48, 48, 47, 108, 97, 119, 115, 46, 70, 110, 69, 120, 97, 99, 116, 83, 112, 108, 105, 116, 116, 105, 110, 103, 115, 79, 102].map Char.ofNat
def word1 : List Char := [99, 117, 116].map Char.ofNat
def words : List (List Char) := [[97, 116], [108, 111, 111, 112, 46, 101, 120, 97, 109, 112, 108, 101, 47, 103, 48, 49, 48, 48, 48, 47, 108, 97, 119, 115, 46, 70, 110, 69, 108, 101, 109, 101, 110, 116, 115], [108, 111, 111, 112, 46, 101, 120, 97, 109, 112, 108, 101, 47, 103, 48, 49, 48, 48, 48, 47, 108, 97, 119, 115, 46, 70, 110, 78, 117, 109, 98, 101, 114, 101, 100], [108, 111, 111, 112, 46, 101, 120, 97, 109, 112, 108, 101, 47, 103, 48, 49, 48, 48, 48, 47, 108, 97, 119, 115, 46, 70, 110, 68, 101, 103, 114, 101, 101, 115], [108, 111, 111, 112, 46, 101, 120, 97, 109, 112, 108, 101, 47, 103, 48, 49, 48, 48, 48, 47, 108, 97, 119, 115, 46, 70, 110, 77, 105, 110, 105, 109, 97, 108], [108, 111, 111, 112, 46, 101, 120, 97, 109, 112, 108, 101, 47, 103, 48, 49, 48, 48, 48, 47, 108, 97, 119, 115, 46, 70, 110, 77, 111, 100, 117, 108, 97, 114, 70, 97, 99, 116, 111, 114, 115], [108, 111, 111, 112, 46, 101, 120, 97, 109, 112, 108, 101, 47, 103, 48, 49, 48, 48, 48, 47, 108, 97, 119, 115, 46, 70, 110, 76, 111, 103, 115], [108, 111, 111, 112, 46, 101, 120, 97, 109, 112, 108, 101, 47, 103, 48, 49, 48, 48, 48, 47, 108, 97, 119, 115, 46, 70, 110, 80, 114, 105, 109, 105, 116, 105, 118, 101], [108, 111, 111, 112, 46, 101, 120, 97, 109, 112, 108, 101, 47, 103, 48, 49, 48, 48, 48, 47, 108, 97, 119, 115, 46, 70, 110, 76, 105, 102, 116, 101, 100, 70, 97, 99, 116, 111, 114, 115], [108, 111, 111, 112, 46, 101, 120, 97, 109, 112, 108, 101, 47, 103, 48, 49, 48, 48, 48, 47, 108, 97, 119, 115, 46, 70, 110, 69, 120, 116, 101, 110, 115, 105, 111, 110, 115], [108, 111, 111, 112, 46, 101, 120, 97, 109, 112, 108, 101, 47, 103, 48, 49, 48, 48, 48, 47, 108, 97, 119, 115, 46, 70, 110, 85, 110, 105, 116, 115], [108, 111, 111, 112, 46, 101, 120, 97, 109, 112, 108, 101, 47, 103, 48, 49, 48, 48, 48, 47, 108, 97, 119, 115, 46, 70, 110, 82, 101, 115, 105, 100, 117, 97, 108, 70, 97, 99, 116, 111, 114, 115], [108, 111, 111, 112, 46, 101, 120, 97, 109, 112, 108, 101, 47, 103, 48, 49, 48, 48, 48, 47, 108, 97, 119, 115, 46, 70, 110, 69, 120, 97, 99, 116, 83, 112, 108, 105, 116, 116, 105, 110, 103, 115, 79, 102]].map fun w => w.map Char.ofNat
theorem initS : Tryz.checked.prog.initOrder = String.ofList signs := by kernel_rfl
theorem initW : behindMainWord (wordsSigns Tryz.checked.prog.initOrder.toList) = word1 :: words := by rw [initS, String.toList_ofList]; kernel_rfl
theorem mayEnter_of {P : Program} {c : List Char} {rest : List (List Char)} (h0 : behindMainWord (wordsSigns P.initOrder.toList) = c :: rest) (h1 : (stripLifts liftWords (c :: rest)) = ([], c :: rest)) (h2 : (c == "cut".toList) = true)
  (h3 : P.laysLater = false) (h4 : P.bearsReflect = false) (h5 : P.doorFits [] = true) : P.mayEnter = true := by
 unfold Program.mayEnter
 rw [h0]
 have e : (some c == some "cut".toList) = true := h2
 refine (Bool.or_eq_true _ _).mpr (.inr ?_)
 rw [h1, h3, h4, h5]
 show ((some c == some "cut".toList) && _ && _ && _ && _) = true
 rw [e]
 rfl
theorem lifts0 : stripLifts liftWords (word1 :: words) = ([], word1 :: words) := by kernel_rfl
theorem enterP : Tryz.checked.prog.mayEnter = true := mayEnter_of initW lifts0 (by kernel_rfl) (by kernel_rfl) (by kernel_rfl) (by kernel_rfl)
theorem headLifts_of {P : Program} {c : List Char} {rest : List (List Char)} (h0 : behindMainWord (wordsSigns P.initOrder.toList) = c :: rest) (h1 : stripLifts liftWords (c :: rest) = ([], c :: rest)) : P.headLifts = [] := by
 unfold Program.headLifts
 rw [h0, h1]
 dsimp only
 split <;> rfl
theorem liftsFinal_of {P : Program} {c : List Char} {rest : List (List Char)} (h0 : behindMainWord (wordsSigns P.initOrder.toList) = c :: rest) (hh : P.headLifts = []) (h2 : (c == "carried".toList) = false) : P.liftsFinal = false := by
 have e : (some c == some "carried".toList) = false := h2
 unfold Program.liftsFinal
 rw [h0, hh]
 show (((some c == some "carried".toList) && _) || _) = false
 rw [e]
 rfl
theorem make_of {P : Program} {c : List Char} {rest : List (List Char)} (h0 : behindMainWord (wordsSigns P.initOrder.toList) = c :: rest) (h1 : (c == "gc".toList) = false) (h2 : (c == "spec".toList) = false) (h3 : (c == "cut".toList) = true) : P.make = some .cut := by
 unfold Program.make
 rw [h0]
 dsimp only
 rw [h1, h2, h3]
 rfl
theorem headP : Tryz.checked.prog.headLifts = [] := headLifts_of initW lifts0
theorem liftP : Tryz.checked.prog.liftsFinal = false := liftsFinal_of initW headP (by kernel_rfl)
theorem makeP : Tryz.checked.prog.make = some .cut := make_of initW (by kernel_rfl) (by kernel_rfl) (by kernel_rfl)

end Go.Proofs.YtlmckocbhcpmdaaGreat
