/- What the program's functions and the reference's return. No conditions. -/
import Derived.Test.YtffhmebkkbfaeaaGreatPj
namespace Go.Proofs.YtffhmebkkbfaeaaGreat
open Go Go.RowKit Go.Proofs Poly
set_option maxRecDepth 100000
set_option maxHeartbeats 8000000

def zoy (f n : Nat) (c : Nat -> Int) (Q : Int -> List Int -> Prop) : Prop :=
 ∀ (b : Nat) (x : V), zac n c x -> MFn Tryz.prog f [.nil] 0 (.ownB b x) .dead (λ_ av x' t' => t' = .dead ∧ (∃ x1, zac n c x1 ∧ x' = .ownB b x1) ∧ ∃ bo L p, av = .tupO 1 (.ownI 2 bo L) [.int .i64 p, .nil] ∧ Q p L)


theorem zbH {L M : List Int} {bo b hs0 hs hs' : Nat} (hM : M ≠ []) (h : L ++ M ≠ [] -> (some b = some bo ∨ (hs <= b ∧ b < hs'))) (h1 : hs0 <= bo ∧ bo < hs) (h2 : hs <= hs') (_ : hs0 <= hs) : hs0 <= b ∧ b < hs' := by
 rcases h (by simp [hM]) with h | h
 ·injection h with h; omega
 ·omega

theorem zer {n : Nat} {c : Nat -> Int} (hc : Byt n c) (d : Nat) (hd : d <= 12) (e : Int) (he : e = d) : zmP 218 [.int .i64 e] n c (λL => L.length = d + 1) := by
 subst he;rintro b x hx;refine zaR (cx := cx [0, 1, 4, 5, 6, 10, 1000000, 1000001]) Tryz.func218 rfl (by decide) Tryz.ntmps218 (lb rfl) (lb rfl) rfl rfl λbase hs0 O U hw v0 hb0 => ?_;refine wrs λK hK => ?_;conv=>whnf
 refine hK _ (wrs λK hK => ?_);conv=>whnf
 refine ⟨⟨rfl, by decide⟩, ?_⟩;conv=>whnf
 intro b_7 hs_7 hh_7 hf_7;try dsimp only at hh_7 hf_7
 conv=>whnf
 refine hK _ (W.seqK λK1 hK1 => wrs λK hK => ?_);conv=>whnf
 refine hK _ (W.block (W.invS (λm e hs => hs0 <= hs ∧ ∃ (i bo : Nat) (y : V) (L : List Int), i <= d ∧ zac n c y ∧ L.length = i ∧ (hs0 <= bo ∧ bo < hs) ∧ m = d - i ∧ e = [(vt, .dead), (vk, .keep O U hw 0 v0), (0, .ownB b y), (1, .v (.int .i64 d)), (5, .ownI 2 bo L), (6, .v (.int .i64 i))]) _ _ hs_7
  ⟨by omega, 0, b_7, x, [], by omega, hx, rfl, (by have := hf_7 (by decide); omega), rfl, rfl⟩ (λm e hs h => Nat.le_trans hb0 h.1) (by dsimp only; omega) (by repeat' first | refine And.intro ?_ ?_ | exact trivial | rfl | omega | exact .inl rfl | assumption) ?_))
 clear hK;rintro m e hs ⟨hsl, i, bo, y, L, h1, hy, rfl, hbo, hm, rfl⟩;refine W.seqK λK7 hK7 => wrs λK hK => ?_;conv=>whnf
 refine hK _ (W.cond ⟨λh5 => ?_, λh5 => ?_⟩) <;> clear hK <;> (first | replace h5 := of_decide_eq_true h5 | replace h5 := of_decide_eq_false h5)
 ·have hk : L.length < d := by omega
  refine W.skip (hK7 _ (W.seqK λK8 hK8 => W.block ?_));clear hK7;refine wrg ?_;conv=>whnf
  refine ⟨⟨rfl, rfl⟩, ?_⟩;conv=>whnf
  refine ⟨rfl, _, (zT hc 13 (by constructor <;> decide) b y hy), ?_⟩;rintro hs_ms2 av x' t' hh_ms2 ⟨rfl, ⟨x2, hx2, rfl⟩, _, rfl, ⟨r1, rfl, r10, r11, _⟩⟩ _ _ _;try dsimp only at hh_ms2
  conv=>whnf
  have h11 := r11 (by decide);refine ⟨oo, ?_⟩;conv=>whnf
  refine ⟨⟨rfl, rfl⟩, ?_⟩;conv=>whnf
  refine ⟨rfl, _, (zT hc 5 (by constructor <;> decide) b x2 hx2), ?_⟩;rintro hs_ms3 av x' t' hh_ms3 ⟨rfl, ⟨x3, hx3, rfl⟩, _, rfl, ⟨r2, rfl, r20, r21, _⟩⟩ _ _ _;try dsimp only at hh_ms3
  conv=>whnf
  have h21 := r21 (by decide);refine ⟨oo, ?_⟩;conv=>whnf
  refine ⟨⟨rfl, rfl⟩, ?_⟩;conv=>whnf
  refine ⟨rfl, _, (zT hc 201 (by constructor <;> decide) b x3 hx3), ?_⟩;rintro hs_ms4 av x' t' hh_ms4 ⟨rfl, ⟨x4, hx4, rfl⟩, _, rfl, ⟨r3, rfl, r30, r31, _⟩⟩ _ _ _;try dsimp only at hh_ms4
  conv=>whnf
  have h31 := r31 (by decide);refine ⟨oo, ?_⟩;conv=>whnf
  refine ⟨⟨rfl, by decide⟩, ?_⟩;conv=>whnf
  intro b_1 hs_1 hh_1 hf_1;try dsimp only at hh_1 hf_1
  conv=>whnf
  refine ⟨⟨rfl, rfl⟩, ?_⟩;conv=>whnf
  refine ⟨rfl, _, (y1 hc none [r1 - 6, r2 - 2, 0, r3 - 100] ⟨(by show 1 <= 4; omega), (by show 4 <= 1000; omega)⟩ b x4 hx4), ?_⟩;rintro hs_ms5 av x' t' hh_ms5 ⟨rfl, ⟨x5, hx5, rfl⟩, _, rfl, ⟨r, rfl, _⟩⟩ _ _ _;try dsimp only at hh_ms5
  conv=>whnf
  refine ⟨⟨rfl, by decide⟩, ?_⟩;conv=>whnf
  intro b_2 hs_2 hh_2 hf_2;try dsimp only at hh_2 hf_2
  conv=>whnf
  refine ⟨by simp; omega, ?_⟩;conv=>whnf
  intro b_3 hs_3 hh_3 hf_3;try dsimp only at hh_3 hf_3
  conv=>whnf
  refine hK8 _ ?_;clear hK8;refine wrg ?_;conv=>whnf
  refine ⟨oo, ?_⟩;conv=>whnf
  have hlen : (L ++ [r]).length = L.length + 1 := by simp
  refine ⟨_, _, hs_3, ⟨by omega, L.length + 1, b_3, x5, L ++ [r], by omega, hx5, hlen, zbH (by simp) hf_3 (by omega) (by omega) (by omega), rfl, rfl⟩, by omega, by dsimp only; omega, ?_⟩;exact cvr
 ·obtain rfl : L.length = d := by omega
  refine W.exit (hK1 _ ?_);clear hK7 hK1;refine wrs λK hK => ?_;conv=>whnf
  refine ⟨⟨rfl, rfl⟩, ?_⟩;conv=>whnf
  refine ⟨rfl, _, (zT hc 6 (by constructor <;> decide) b y hy), ?_⟩;rintro hs_ms2 av x' t' hh_ms2 ⟨rfl, ⟨x2, hx2, rfl⟩, _, rfl, ⟨r1, rfl, r10, r11, _⟩⟩ _ _ _;try dsimp only at hh_ms2
  conv=>whnf
  have h11 := r11 (by decide);refine ⟨oo, ?_⟩;conv=>whnf
  refine ⟨⟨rfl, rfl⟩, ?_⟩;conv=>whnf
  refine ⟨rfl, _, (zT hc 3 (by constructor <;> decide) b x2 hx2), ?_⟩;rintro hs_ms3 av x' t' hh_ms3 ⟨rfl, ⟨x3, hx3, rfl⟩, _, rfl, ⟨r2, rfl, r20, r21, _⟩⟩ _ _ _;try dsimp only at hh_ms3
  conv=>whnf
  have h21 := r21 (by decide);refine ⟨oo, ?_⟩;conv=>whnf
  refine ⟨⟨rfl, by decide⟩, ?_⟩;conv=>whnf
  intro b_1 hs_1 hh_1 hf_1;try dsimp only at hh_1 hf_1
  conv=>whnf
  refine ⟨⟨rfl, rfl⟩, ?_⟩;conv=>whnf
  refine ⟨rfl, _, (y1 hc none [1, 1, 1 + r1, -1 - r2] ⟨(by show 1 <= 4; omega), (by show 4 <= 1000; omega)⟩ b x3 hx3), ?_⟩;rintro hs_ms4 av x' t' hh_ms4 ⟨rfl, ⟨x4, hx4, rfl⟩, _, rfl, ⟨r, rfl, _⟩⟩ _ _ _;try dsimp only at hh_ms4
  conv=>whnf
  refine ⟨⟨rfl, by decide⟩, ?_⟩;conv=>whnf
  intro b_2 hs_2 hh_2 hf_2;try dsimp only at hh_2 hf_2
  conv=>whnf
  refine ⟨by simp; omega, ?_⟩;conv=>whnf
  intro b_3 hs_3 hh_3 hf_3;try dsimp only at hh_3 hf_3
  conv=>whnf
  refine hK _ ?_;clear hK;have hbk := zbH (by simp) hf_3 (hs0 := hs0) (by omega) (by omega) (by omega);refine W.ret ?_;conv=>whnf
  refine ⟨by dsimp only; omega, ?_⟩;conv=>whnf
  refine ⟨rfl, ?_⟩;conv=>whnf
  refine ⟨.ownI 2 b_3 (L ++ [r]), ⟨rfl, rfl, rfl⟩, rfl, λ_ => ?_, ?_⟩
  ·dsimp only; omega
  conv=>whnf
  exact ⟨.ownB b x4, ⟨rfl, rfl⟩, .inr ⟨rfl, rfl⟩, .dead, trivial, rfl, rfl, rfl, ⟨x4, hx4, rfl⟩, _, _, rfl, (by simp)⟩

theorem zft {n : Nat} {c : Nat -> Int} (hc : Byt n c) : zmP 191 [] n c (λL => L.length <= 20) := by
 rintro b x hx;refine zaR (cx := cx [0, 2, 3, 9, 10, 15, 22, 29, 1000000, 1000001]) Tryz.func191 rfl (by decide) Tryz.ntmps191 (lb rfl) (lb rfl) rfl rfl λbase hs0 O U hw v0 hb0 => ?_;refine wrs λK hK => ?_;conv=>whnf
 refine hK _ (wrs λK hK => ?_);conv=>whnf
 refine ⟨⟨rfl, rfl⟩, ?_⟩;conv=>whnf
 refine ⟨rfl, _, (zT hc 6 (by constructor <;> decide) b x hx), ?_⟩;rintro hs_ms1 av x' t' hh_ms1 ⟨rfl, ⟨x1, hx1, rfl⟩, _, rfl, ⟨d0, rfl, d00, d01, _⟩⟩ _ _ _;try dsimp only at hh_ms1
 conv=>whnf
 have d02 := d01 (by decide);obtain ⟨d, rfl⟩ : ∃ d : Nat, d0 = d := ⟨d0.toNat, by omega⟩
 refine ⟨⟨rfl, rfl⟩, ?_⟩;conv=>whnf
 refine ⟨rfl, _, (zer hc d (by omega) d rfl b x1 hx1), ?_⟩;rintro hs_ms2 av x' t' hh_ms2 ⟨rfl, ⟨x2, hx2, rfl⟩, bo2, L2, rfl, hL2⟩ _ _ hf_ms2
 replace hf_ms2 := hf_ms2 (by simp)
 try dsimp only at hh_ms2
 conv=>whnf
 have hb2 := hf_ms2 (λh => by rw [h] at hL2; cases hL2);refine hK _ ?_;clear hK;refine W.seqK λK1 hK1 => ?_
 have fin : ∀ (bo : Nat) (L : List Int) (y : V) (t : S), L.length <= 20 -> (L ≠ [] -> hs0 <= bo ∧ bo < t.hs) -> zac n c y -> hs0 <= t.hs -> zr t.env [(vt, .dead), (vk, .keep O U hw 0 v0), (0, .ownB b y), (3, .ownI 2 bo L)] -> K1 t := by
  intro bo L y t hL hbo hy h9 h10;obtain ⟨te, ths⟩ := t;dsimp only at hbo h9
  refine hK1 _ (W.weak (t := ⟨[(vt, .dead), (vk, .keep O U hw 0 v0), (0, .ownB b y), (3, .ownI 2 bo L)], ths⟩) ⟨Nat.le_refl _, h10⟩ (Nat.le_trans hb0 h9) ?_);clear hK1;refine W.sw (c' := cxr [0, 2, 3, 9, 10, 15, 22, 29, 1000000, 1000001]) (W.rs (zgb _) (by rfl) λK hK => ?_);conv=>whnf
  refine hK _ (W.ret ?_);conv=>whnf
  refine ⟨by dsimp only; omega, ?_⟩;conv=>whnf
  refine ⟨rfl, ?_⟩;conv=>whnf
  refine ⟨.ownI 2 bo (L), ⟨rfl, rfl, rfl⟩, rfl, λ_ => ?_, ?_⟩
  ·exact hbo ‹_›
  conv=>whnf
  exact ⟨.ownB b y, ⟨rfl, rfl⟩, .inr ⟨rfl, rfl⟩, .dead, trivial, rfl, rfl, rfl, ⟨y, hy, rfl⟩, _, _, rfl, hL⟩
 refine wrs λK hK => ?_;conv=>whnf
 refine ⟨⟨rfl, rfl⟩, ?_⟩;conv=>whnf
 refine ⟨rfl, _, (zT hc 24 (by constructor <;> decide) b x2 hx2), ?_⟩;rintro hs_ms3 av x' t' hh_ms3 ⟨rfl, ⟨x3, hx3, rfl⟩, _, rfl, ⟨q, rfl, q0, q1, _⟩⟩ _ _ _;try dsimp only at hh_ms3
 conv=>whnf
 refine hK _ (W.block ?_);clear hK;refine wrs λK hK => ?_;conv=>whnf
 refine hK _ (W.cond ⟨λh => ?_, λh => ?_⟩) <;> clear hK
 ·refine wrg ?_;conv=>whnf
  refine ⟨⟨rfl, by decide⟩, ?_⟩;conv=>whnf
  intro b_6 hs_6 hh_6 hf_6;try dsimp only at hh_6 hf_6
  conv=>whnf
  refine ⟨by simp; omega, ?_⟩;conv=>whnf
  intro b_7 hs_7 hh_7 hf_7;try dsimp only at hh_7 hf_7
  conv=>whnf
  have hbk := zbH (by simp) hf_7 (hs0 := hs0) (by omega) (by omega) (by omega);refine fin b_7 (L2 ++ [0]) x3 _ (by simp; omega) (λ_ => by dsimp only; omega) hx3 (by dsimp only; omega) ?_;exact cvr
 refine wrs λK hK => ?_;conv=>whnf
 refine hK _ (W.cond ⟨λh => ?_, λh => ?_⟩) <;> clear hK
 ·refine wrg ?_;conv=>whnf
  refine ⟨⟨rfl, by decide⟩, ?_⟩;conv=>whnf
  intro b_6 hs_6 hh_6 hf_6;try dsimp only at hh_6 hf_6
  conv=>whnf
  refine ⟨⟨rfl, rfl⟩, ?_⟩;conv=>whnf
  refine ⟨rfl, _, (y1 hc none [1000000, 1000001, -1000000] ⟨by decide, by decide⟩ b x3 hx3), ?_⟩;rintro hs_ms4 av x' t' hh_ms4 ⟨rfl, ⟨x4, hx4, rfl⟩, _, rfl, ⟨r, rfl, _⟩⟩ _ _ _;try dsimp only at hh_ms4
  conv=>whnf
  refine ⟨oo, ?_⟩;conv=>whnf
  refine fin bo2 (L2.set (0 : Int).toNat r) x4 _ (by rw [List.length_set]; omega) (λ_ => by dsimp only; omega) hx4 (by dsimp only; omega) ?_;exact cvr
 refine wrs λK hK => ?_;conv=>whnf
 refine hK _ (W.cond ⟨λh => ?_, λh => ?_⟩) <;> clear hK
 ·refine wrs λK hK => ?_;conv=>whnf
  refine ⟨⟨rfl, rfl⟩, ?_⟩;conv=>whnf
  refine ⟨rfl, _, (zT hc 3 (by constructor <;> decide) b x3 hx3), ?_⟩;rintro hs_ms4 av x' t' hh_ms4 ⟨rfl, ⟨x4, hx4, rfl⟩, _, rfl, ⟨d1, rfl, d10, d11, _⟩⟩ _ _ _;try dsimp only at hh_ms4
  conv=>whnf
  have d12 := d11 (by decide);refine ⟨oo, ?_⟩;conv=>whnf
  obtain ⟨d3, rfl⟩ : ∃ d : Nat, d1 = d := ⟨d1.toNat, by omega⟩
  refine ⟨⟨rfl, rfl⟩, ?_⟩;conv=>whnf
  refine ⟨rfl, _, (zer hc (7 + d3) (by omega) (7 + d3) (by omega) b x4 hx4), ?_⟩;rintro hs_ms5 av x' t' hh_ms5 ⟨rfl, ⟨x5, hx5, rfl⟩, bo5, L5, rfl, hL5⟩ _ _ hf_ms5
  replace hf_ms5 := hf_ms5 (by simp)
  try dsimp only at hh_ms5
  conv=>whnf
  have hb5 := hf_ms5 (λh => by rw [h] at hL5; simp only [List.length_nil] at hL5; omega);refine hK _ (W.ret ?_);conv=>whnf
  refine ⟨by dsimp only; omega, ?_⟩;conv=>whnf
  refine ⟨rfl, ?_⟩;conv=>whnf
  refine ⟨.ownI 2 bo5 (L5), ⟨rfl, rfl, rfl⟩, rfl, λ_ => ?_, ?_⟩
  ·dsimp only; omega
  conv=>whnf
  exact ⟨.ownB b x5, ⟨rfl, rfl⟩, .inr ⟨rfl, rfl⟩, .dead, trivial, rfl, rfl, rfl, ⟨x5, hx5, rfl⟩, _, _, rfl, (by omega)⟩
 refine wrs λK hK => ?_;conv=>whnf
 refine hK _ (W.cond ⟨λh => ?_, λh => ?_⟩) <;> clear hK
 ·refine wrs λK hK => ?_;conv=>whnf
  refine ⟨⟨rfl, by decide⟩, ?_⟩;conv=>whnf
  intro b_6 hs_6 hh_6 hf_6;try dsimp only at hh_6 hf_6
  conv=>whnf
  refine hK _ (W.ret ?_);conv=>whnf
  refine ⟨by dsimp only; omega, ?_⟩;conv=>whnf
  refine ⟨rfl, ?_⟩;conv=>whnf
  refine ⟨.ownI 2 b_6 ([]), ⟨rfl, rfl, rfl⟩, rfl, λ_ => ?_, ?_⟩
  ·dsimp only; omega
  conv=>whnf
  exact ⟨.ownB b x3, ⟨rfl, rfl⟩, .inr ⟨rfl, rfl⟩, .dead, trivial, rfl, rfl, rfl, ⟨x3, hx3, rfl⟩, _, _, rfl, (by decide)⟩
 ·refine W.skip (fin bo2 L2 x3 _ (by omega) (λ_ => by dsimp only; omega) hx3 (by dsimp only; omega) ?_);exact cvr

theorem zji {n : Nat} {c : Nat -> Int} (hc : Byt n c) (p : Int) (hp : 2 <= p ∧ p <= 97) (d : Nat) (hd : d <= 12) : zmP 192 [.int .i64 p, .int .i64 d] n c (λL => L.length = d + 1) := by
 rintro b x hx;refine zaR (cx := cx [0, 1, 2, 6, 7, 8, 9, 10, 14, 30, 1000000, 1000001]) Tryz.func192 rfl (by decide) Tryz.ntmps192 (lb rfl) (lb rfl) rfl rfl λbase hs0 O U hw v0 hb0 => ?_;refine wrs λK hK => ?_;conv=>whnf
 refine hK _ (wrs λK hK => ?_);conv=>whnf
 refine ⟨⟨rfl, by decide⟩, ?_⟩;conv=>whnf
 intro b_7 hs_7 hh_7 hf_7;try dsimp only at hh_7 hf_7
 conv=>whnf
 refine hK _ (W.seqK λK1 hK1 => wrs λK hK => ?_);conv=>whnf
 refine hK _ (W.block (W.invS (λm e hs => hs0 <= hs ∧ ∃ (i bo : Nat) (y : V) (L : List Int), i <= d ∧ zac n c y ∧ L.length = i ∧ (hs0 <= bo ∧ bo < hs) ∧ m = d - i ∧ e = [(vt, .dead), (vk, .keep O U hw 0 v0), (0, .ownB b y), (1, .v (.int .i64 p)), (2, .v (.int .i64 d)), (7, .ownI 2 bo L), (8, .v (.int .i64 i))]) _ _ hs_7
  ⟨by omega, 0, b_7, x, [], by omega, hx, rfl, (by have := hf_7 (by decide); omega), rfl, rfl⟩ (λm e hs h => Nat.le_trans hb0 h.1) (by dsimp only; omega) (by repeat' first | refine And.intro ?_ ?_ | exact trivial | rfl | omega | exact .inl rfl | assumption) ?_))
 clear hK;rintro m e hs ⟨hsl, i, bo, y, L, h1, hy, rfl, hbo, hm, rfl⟩;refine W.seqK λK7 hK7 => wrs λK hK => ?_;conv=>whnf
 refine hK _ (W.cond ⟨λh5 => ?_, λh5 => ?_⟩) <;> clear hK <;> (first | replace h5 := of_decide_eq_true h5 | replace h5 := of_decide_eq_false h5)
 ·have hk : L.length < d := by omega
  refine W.skip (hK7 _ (W.seqK λK8 hK8 => W.block ?_));clear hK7;refine wrs λK hK => ?_;conv=>whnf
  refine ⟨⟨rfl, by decide⟩, ?_⟩;conv=>whnf
  intro b_1 hs_1 hh_1 hf_1;try dsimp only at hh_1 hf_1
  conv=>whnf
  refine ⟨⟨rfl, rfl⟩, ?_⟩;conv=>whnf
  refine ⟨rfl, _, (y1 hc none [0, 1, 1, 2, -1, 3] ⟨by decide, by decide⟩ b y hy), ?_⟩;rintro hs_ms2 av x' t' hh_ms2 ⟨rfl, ⟨x2, hx2, rfl⟩, _, rfl, ⟨r0, rfl, hr0⟩⟩ _ _ _;try dsimp only at hh_ms2
  conv=>whnf
  have hr0 : -10000 <= r0 ∧ r0 <= 10000 := by (simp only [List.mem_cons, List.not_mem_nil, or_false] at hr0; omega)
  refine hK _ (W.seqK λK9 hK9 => wrs λK hK => ?_);conv=>whnf
  refine ⟨⟨rfl, rfl⟩, ?_⟩;conv=>whnf
  refine ⟨rfl, _, (zT hc 5 (by constructor <;> decide) b x2 hx2), ?_⟩;rintro hs_ms3 av x' t' hh_ms3 ⟨rfl, ⟨x3, hx3, rfl⟩, _, rfl, ⟨q, rfl, q0, q1, _⟩⟩ _ _ _;try dsimp only at hh_ms3
  conv=>whnf
  obtain ⟨q, rfl⟩ : ∃ k : Nat, q = k := ⟨q.toNat, by omega⟩
  have mid : ∀ (r : Int) (t : S), hs_ms3 <= t.hs -> zr t.env [(vt, .dead), (vk, .keep O U hw 0 v0), (0, .ownB b x3), (1, .v (.int .i64 p)), (2, .v (.int .i64 d)), (7, .ownI 2 bo L), (8, .v (.int .i64 L.length)), (9, .v (.int .i64 r))] -> K9 t := by
   intro r t h9 h10;obtain ⟨te, ths⟩ := t;dsimp only at h9
   refine hK9 _ (W.weak (t := ⟨[(vt, .dead), (vk, .keep O U hw 0 v0), (0, .ownB b x3), (1, .v (.int .i64 p)), (2, .v (.int .i64 d)), (7, .ownI 2 bo L), (8, .v (.int .i64 L.length)), (9, .v (.int .i64 r))], ths⟩) ⟨Nat.le_refl _, h10⟩ (by dsimp only; omega) ?_);clear hK hK9;refine wrg ?_;conv=>whnf
   refine ⟨⟨rfl, by decide⟩, ?_⟩;conv=>whnf
   intro b_2 hs_2 hh_2 hf_2;try dsimp only at hh_2 hf_2
   conv=>whnf
   refine ⟨by simp; omega, ?_⟩;conv=>whnf
   intro b_3 hs_3 hh_3 hf_3;try dsimp only at hh_3 hf_3
   conv=>whnf
   refine hK8 _ ?_;clear hK8;refine wrg ?_;conv=>whnf
   refine ⟨oo, ?_⟩;conv=>whnf
   have hlen : (L ++ [r]).length = L.length + 1 := by simp
   refine ⟨_, _, hs_3, ⟨by omega, L.length + 1, b_3, x3, L ++ [r], by omega, hx3, hlen, zbH (by simp) hf_3 (by omega) (by omega) (by omega), rfl, rfl⟩, by omega, by dsimp only; omega, ?_⟩;exact cvr
  refine hK _ (W.block (W.invH hs_ms3 (by omega) (λm e => ∃ (k : Nat) (r : Int), k <= 5 ∧ (-10000 <= r ∧ r <= 10000) ∧ m = k ∧ e = [(vt, .dead), (vk, .keep O U hw 0 v0), (0, .ownB b x3), (1, .v (.int .i64 p)), (2, .v (.int .i64 d)), (7, .ownI 2 bo L), (8, .v (.int .i64 L.length)), (9, .v (.int .i64 r)), (10, .v (.int .i64 k))]) _ _ ⟨q, r0, (by have := q1 (by decide); omega), hr0, rfl, rfl⟩ (by dsimp only; omega) (by repeat' first | refine And.intro ?_ ?_ | exact trivial | rfl | omega | exact .inl rfl | assumption) ?_));clear hK;rintro m e ⟨k, r, hk5, hr, hm2, rfl⟩
  have hrp : -1000000 <= r * p ∧ r * p <= 1000000 := by
   have h1 : r * p <= 10000 * p := Int.mul_le_mul_of_nonneg_right hr.2 (by omega);have h2 : -10000 * p <= r * p := Int.mul_le_mul_of_nonneg_right hr.1 (by omega);omega
  refine W.seqK λK4 hK4 => wrs λK hK => ?_;conv=>whnf
  refine ⟨λh6 => ?_, λh6 => ?_⟩ <;> conv=>whnf
  ·have h6 := of_decide_eq_true h6;refine ⟨by show _ <= r * p ∧ r * p <= _; omega, ?_⟩;conv=>whnf
   refine zc rfl (za2 (r * p) (by omega)) λhs' hhs => ?_;try dsimp only at hhs
   conv=>whnf
   refine hK _ (W.cond ⟨λh7 => ?_, λ_ => ?_⟩) <;> clear hK
   ·have h7 := of_decide_eq_true h7;refine W.skip (hK4 _ (W.seqK λK5 hK5 => W.block ?_));clear hK4 mid;refine wrg ?_;conv=>whnf
    refine ⟨by show _ <= r * p ∧ r * p <= _; omega, ?_⟩;conv=>whnf
    refine hK5 _ ?_;clear hK5;refine wrg ?_;conv=>whnf
    refine ⟨oo, ?_⟩;conv=>whnf
    rw [show ((k : Int) - 1) = ((k - 1 : Nat) : Int) by omega];exact zf ⟨k - 1, r * p, by omega, by omega, rfl, rfl⟩
   ·refine W.exit (mid r _ (by dsimp only; omega) ?_);exact cvr
  ·refine hK _ (W.condF rfl (W.exit (mid r _ (by dsimp only; omega) ?_)));exact cvr
 ·obtain rfl : L.length = d := by omega
  refine W.exit (hK1 _ ?_);clear hK7 hK1;refine wrs λK hK => ?_;conv=>whnf
  refine ⟨⟨rfl, by decide⟩, ?_⟩;conv=>whnf
  intro b_1 hs_1 hh_1 hf_1;try dsimp only at hh_1 hf_1
  conv=>whnf
  refine ⟨⟨rfl, rfl⟩, ?_⟩;conv=>whnf
  refine ⟨rfl, _, (y1 hc none [1, 1, 1, p, 2] ⟨(by show 1 <= 5; omega), (by show 5 <= 1000; omega)⟩ b y hy), ?_⟩;rintro hs_ms4 av x' t' hh_ms4 ⟨rfl, ⟨x4, hx4, rfl⟩, _, rfl, ⟨r, rfl, _⟩⟩ _ _ _;try dsimp only at hh_ms4
  conv=>whnf
  refine ⟨⟨rfl, by decide⟩, ?_⟩;conv=>whnf
  intro b_2 hs_2 hh_2 hf_2;try dsimp only at hh_2 hf_2
  conv=>whnf
  refine ⟨by simp; omega, ?_⟩;conv=>whnf
  intro b_3 hs_3 hh_3 hf_3;try dsimp only at hh_3 hf_3
  conv=>whnf
  refine hK _ ?_;clear hK;have hbk := zbH (by simp) hf_3 (hs0 := hs0) (by omega) (by omega) (by omega);refine W.ret ?_;conv=>whnf
  refine ⟨by dsimp only; omega, ?_⟩;conv=>whnf
  refine ⟨rfl, ?_⟩;conv=>whnf
  refine ⟨.ownI 2 b_3 (L ++ [r]), ⟨rfl, rfl, rfl⟩, rfl, λ_ => ?_, ?_⟩
  ·dsimp only; omega
  conv=>whnf
  exact ⟨.ownB b x4, ⟨rfl, rfl⟩, .inr ⟨rfl, rfl⟩, .dead, trivial, rfl, rfl, rfl, ⟨x4, hx4, rfl⟩, _, _, rfl, (by simp)⟩

theorem zk2 {n : Nat} {c : Nat -> Int} (hc : Byt n c) : zoy 154 n c (λp L => (-1000 <= p ∧ p <= 1000) ∧ L.length <= 20) := by
 rintro b x hx;refine zna (cx := cx [0, 2, 3, 4, 14, 1000000, 1000001]) 1 3 2 Tryz.func154 rfl (by decide) Tryz.ntmps154 (lb rfl) (lb rfl) rfl (by decide) (by decide) λbase hs0 O U hw v0 hb0 => ?_;refine wrs λK hK => ?_;conv=>whnf
 refine hK _ (wrs λK hK => ?_);conv=>whnf
 refine ⟨⟨rfl, rfl⟩, ?_⟩;conv=>whnf
 refine ⟨rfl, _, (zeq hc b x hx), ?_⟩;rintro hs_ms1 av x' t' hh_ms1 ⟨rfl, ⟨x1, hx1, rfl⟩, _, rfl, ⟨p, rfl, hp⟩⟩ _ _ _;try dsimp only at hh_ms1
 conv=>whnf
 have hp3 : -1000 <= p ∧ p <= 1000 := by (simp only [List.mem_cons, List.not_mem_nil, or_false] at hp; omega)
 refine hK _ (W.seqK λK1 hK1 => wrs λK hK => ?_);conv=>whnf
 refine zc rfl (zab p) λhs' hhs => ?_;try dsimp only at hhs
 conv=>whnf
 refine ⟨λh1 => ?_, λh1 => ?_⟩ <;> conv=>whnf
 ·refine hK _ (W.condT rfl ?_);clear hK;refine wrs λK hK => ?_;conv=>whnf
  refine ⟨⟨rfl, rfl⟩, ?_⟩;conv=>whnf
  refine ⟨rfl, _, (zft hc b x1 hx1), ?_⟩;rintro hs_ms2 av x' t' hh_ms2 ⟨rfl, ⟨x2, hx2, rfl⟩, bo2, L2, rfl, hL2⟩ _ _ hf_ms2
  replace hf_ms2 := hf_ms2 (by simp)
  try dsimp only at hh_ms2
  conv=>whnf
  refine hK _ (W.ret ?_);conv=>whnf
  refine ⟨by dsimp only; omega, ?_⟩;conv=>whnf
  refine ⟨.ownI 2 bo2 (L2), ⟨rfl, rfl, rfl⟩, rfl, λhne => (by have h0 := hf_ms2 hne; (try dsimp only at h0 ⊢); omega), ?_⟩;conv=>whnf
  refine ⟨.int .i64 p, ⟨rfl, rfl⟩, ?_⟩;conv=>whnf
  exact ⟨.ownB b x2, ⟨rfl, rfl⟩, .inr ⟨rfl, rfl⟩, .dead, trivial, rfl, rfl, rfl, ⟨x2, hx2, rfl⟩, bo2, L2, p, rfl, ⟨hp3, hL2⟩⟩
 ·have hP : isP p = true := by simpa using h1
  have hp2 := zei hP;refine ⟨⟨rfl, rfl⟩, ?_⟩;conv=>whnf
  refine ⟨rfl, _, (zT hc 12 (by constructor <;> decide) b x1 hx1), ?_⟩;rintro hs_ms2 av x' t' hh_ms2 ⟨rfl, ⟨x2, hx2, rfl⟩, _, rfl, ⟨q, rfl, _, _, _⟩⟩ _ _ _;try dsimp only at hh_ms2
  conv=>whnf
  refine hK _ (W.cond ⟨λ_ => ?_, λ_ => ?_⟩) <;> clear hK
  ·refine wrs λK hK => ?_;conv=>whnf
   refine ⟨⟨rfl, rfl⟩, ?_⟩;conv=>whnf
   refine ⟨rfl, _, (zft hc b x2 hx2), ?_⟩;rintro hs_ms3 av x' t' hh_ms3 ⟨rfl, ⟨x3, hx3, rfl⟩, bo3, L3, rfl, hL3⟩ _ _ hf_ms3
   replace hf_ms3 := hf_ms3 (by simp)
   try dsimp only at hh_ms3
   conv=>whnf
   refine hK _ (W.ret ?_);conv=>whnf
   refine ⟨by dsimp only; omega, ?_⟩;conv=>whnf
   refine ⟨.ownI 2 bo3 (L3), ⟨rfl, rfl, rfl⟩, rfl, λhne => (by have h0 := hf_ms3 hne; (try dsimp only at h0 ⊢); omega), ?_⟩;conv=>whnf
   refine ⟨.int .i64 p, ⟨rfl, rfl⟩, ?_⟩;conv=>whnf
   exact ⟨.ownB b x3, ⟨rfl, rfl⟩, .inr ⟨rfl, rfl⟩, .dead, trivial, rfl, rfl, rfl, ⟨x3, hx3, rfl⟩, bo3, L3, p, rfl, ⟨hp3, hL3⟩⟩
  ·refine W.skip (hK1 _ ?_);clear hK1;refine wrs λK hK => ?_;conv=>whnf
   refine ⟨⟨rfl, rfl⟩, ?_⟩;conv=>whnf
   refine ⟨rfl, _, (zT hc 7 (by constructor <;> decide) b x2 hx2), ?_⟩;rintro hs_ms3 av x' t' hh_ms3 ⟨rfl, ⟨x3, hx3, rfl⟩, _, rfl, ⟨d0, rfl, d00, d01, _⟩⟩ _ _ _;try dsimp only at hh_ms3
   conv=>whnf
   have d02 := d01 (by decide);obtain ⟨d, rfl⟩ : ∃ d : Nat, d0 = d := ⟨d0.toNat, by omega⟩
   refine ⟨⟨rfl, rfl⟩, ?_⟩;conv=>whnf
   refine ⟨rfl, _, (zji hc p (by omega) d (by omega) b x3 hx3), ?_⟩;rintro hs_ms4 av x' t' hh_ms4 ⟨rfl, ⟨x4, hx4, rfl⟩, bo4, L4, rfl, hL4⟩ _ _ hf_ms4
   replace hf_ms4 := hf_ms4 (by simp)
   try dsimp only at hh_ms4
   conv=>whnf
   refine hK _ (W.ret ?_);conv=>whnf
   refine ⟨by dsimp only; omega, ?_⟩;conv=>whnf
   refine ⟨.ownI 2 bo4 (L4), ⟨rfl, rfl, rfl⟩, rfl, λhne => (by have h0 := hf_ms4 hne; (try dsimp only at h0 ⊢); omega), ?_⟩;conv=>whnf
   refine ⟨.int .i64 p, ⟨rfl, rfl⟩, ?_⟩;conv=>whnf
   exact ⟨.ownB b x4, ⟨rfl, rfl⟩, .inr ⟨rfl, rfl⟩, .dead, trivial, rfl, rfl, rfl, ⟨x4, hx4, rfl⟩, bo4, L4, p, rfl, ⟨hp3, by omega⟩⟩

theorem zfu {n : Nat} {c : Nat -> Int} (hc : Byt n c) : zmr 91 [] n c (λr => ∃ (p : Int) (L : List Int), r = .tup [.int .i64 p, .ints none L] ∧ (-1000 <= p ∧ p <= 1000) ∧ L.length <= 20) := by
 rintro b x hx;refine zbh (cx := cxt [] [0, 2, 3, 4, 5, 24, 1000000, 1000001]) (k8 [] [0, 2, 3, 4, 5, 24, 1000000, 1000001]) Tryz.func91 rfl (by decide) Tryz.ntmps91 (lb rfl) (lb rfl) rfl rfl λbase hs0 O U hw v0 hb0 => ?_;refine W.sw (c' := cx [0, 2, 3, 4, 5, 24, 1000000, 1000001]) ?_;refine wrs λK hK => ?_;conv=>whnf
 refine hK _ (wrs λK hK => ?_);conv=>whnf
 refine ⟨⟨rfl, rfl⟩, ?_⟩;conv=>whnf
 refine ⟨rfl, _, (zk2 hc b x hx), ?_⟩;rintro hs_ms1 av x' t' hh_ms1 ⟨rfl, ⟨x1, hx1, rfl⟩, bo1, L1, p1, rfl, ⟨hp, hL⟩⟩ _ _ hf_ms1
 replace hf_ms1 := hf_ms1 (by simp)
 try dsimp only at hh_ms1
 conv=>whnf
 refine ⟨rfl, ?_⟩;conv=>whnf
 refine hK _ ?_;clear hK;refine W.seqK λK1 hK1 => ?_
 have fin : ∀ (L : List Int) (y : V) (t : S), L.length <= 20 -> zac n c y -> hs0 <= t.hs -> zr t.env [(vt, .dead), (vk, .keep O U hw 0 v0), (0, .ownB b y), (4, .v (.int .i64 p1)), (5, .ownI 2 bo1 L)] -> K1 t := by
  intro L y t hL hy h9 h10;refine hK1 _ (W.weak (t := ⟨_, hs0⟩) ⟨h9, h10⟩ hb0 ?_);clear hK1;refine wrs λK hK => ?_;conv=>whnf
  refine hK _ (W.ret ?_);conv=>whnf
  refine ⟨by dsimp only; omega, ?_⟩;conv=>whnf
  refine ⟨rfl, ?_⟩;conv=>whnf
  refine ⟨.int .i64 p1, ⟨rfl, rfl⟩, ?_⟩;conv=>whnf
  refine ⟨rfl, ?_⟩;conv=>whnf
  refine ⟨.ints none (L), ⟨rfl, rfl⟩, ?_⟩;conv=>whnf
  exact ⟨.ownB b y, ⟨rfl, rfl⟩, .inr ⟨rfl, rfl⟩, .dead, trivial, rfl, rfl, rfl, ⟨y, hy, rfl⟩, _, rfl, ⟨p1, L, rfl, hp, hL⟩⟩
 refine wrs λK hK => ?_;conv=>whnf
 refine ⟨λh1 => ?_, λh1 => ?_⟩ <;> conv=>whnf
 ·have h1 := of_decide_eq_true h1;refine ⟨oo, ?_⟩;conv=>whnf
  refine ⟨λh2 => ?_, λh2 => ?_⟩ <;> conv=>whnf
  ·refine ⟨⟨rfl, rfl⟩, ?_⟩;conv=>whnf
   refine ⟨rfl, _, (zT hc 8 (by constructor <;> decide) b x1 hx1), ?_⟩;rintro hs_ms2 av x' t' hh_ms2 ⟨rfl, ⟨x2, hx2, rfl⟩, _, rfl, ⟨q, rfl, _, _, _⟩⟩ _ _ _;try dsimp only at hh_ms2
   conv=>whnf
   refine hK _ (W.cond ⟨λ_ => ?_, λ_ => ?_⟩) <;> clear hK
   ·refine wrg ?_;conv=>whnf
    refine ⟨oo, ?_⟩;conv=>whnf
    refine fin (L1.set (0 : Int).toNat (max 1 (min p1 97))) x2 _ (by rw [List.length_set]; omega) hx2 (by dsimp only; omega) ?_;exact cvr
   ·refine W.skip (fin L1 x2 _ hL hx2 (by dsimp only; omega) ?_);exact cvr
  ·refine hK _ (W.condF rfl (W.skip (fin L1 x1 _ hL hx1 (by dsimp only; omega) ?_)));exact cvr
 ·refine hK _ (W.condF rfl (W.skip (fin L1 x1 _ hL hx1 (by dsimp only; omega) ?_)));exact cvr

theorem zaw {n : Nat} {c : Nat -> Int} (hc : Byt n c) : Fn Tryz.prog 33 [vBy n c] (λ_ _ z => ∃ (p : Int) (L : List Int), z = .v (.tup [.int .i64 p, .ints none L]) ∧ (-1000 <= p ∧ p <= 1000) ∧ L.length <= 20) := by
 refine ze (za [0, 2, 3]) Tryz.func33 rfl (by decide) Tryz.ntmps33 (lb rfl) λbase => ?_;refine wrs λK hK => ?_;conv=>whnf
 refine hK _ (wrs λK hK => ?_);conv=>whnf
 refine yR rfl (zea hc) ?_;rintro lo hi hi' z hl1 hl2 hl3 ⟨b, x, hx, rfl⟩ _;try dsimp only at hl1 hl2
 conv=>whnf
 refine ⟨⟨rfl, rfl⟩, ?_⟩;conv=>whnf
 refine ⟨rfl, _, (zfu hc b x hx), ?_⟩;rintro hs_ms1 av x' t' hh_ms1 ⟨rfl, ⟨x1, hx1, rfl⟩, _, rfl, ⟨p, L, rfl, hp, hL⟩⟩ _ _ _;try dsimp only at hh_ms1
 conv=>whnf
 refine hK _ (W.ret ?_);conv=>whnf
 exact ⟨.v (.int .i64 p), ⟨rfl, rfl⟩, trivial, .v (.ints none L), ⟨rfl, rfl⟩, trivial, p, L, rfl, hp, hL⟩

theorem zbI {n : Nat} {c : Nat -> Int} (hc : Byt n c) : Fn Tryz.prog 42 [vBy n c] (λ_ _ z => ∃ (p : Int) (L : List Int) (i : Int), z = .v (.tup [.int .i64 p, .ints none L, .int .i64 i]) ∧ (-1000 <= p ∧ p <= 1000) ∧ L.length <= 20 ∧ (-1 <= i ∧ i <= 2)) := by
 refine ze (za [0, 2, 3, 4, 5, 6, 7]) Tryz.func42 rfl (by decide) Tryz.ntmps42 (lb rfl) λbase => ?_;refine wrs λK hK => ?_;conv=>whnf
 refine hK _ (wrs λK hK => ?_);conv=>whnf
 refine yR rfl (zea hc) ?_;rintro lo hi hi' z hl1 hl2 hl3 ⟨b, x, hx, rfl⟩ _;try dsimp only at hl1 hl2
 conv=>whnf
 refine hK _ (wrs λK hK => ?_);conv=>whnf
 refine ⟨⟨rfl, rfl⟩, ?_⟩;conv=>whnf
 refine ⟨rfl, _, (zfu hc b x hx), ?_⟩;rintro hs_ms1 av x' t' hh_ms1 ⟨rfl, ⟨x1, hx1, rfl⟩, _, rfl, ⟨p, L, rfl, hp, hL⟩⟩ _ _ _;try dsimp only at hh_ms1
 conv=>whnf
 refine hK _ (wrs λK hK => ?_);conv=>whnf
 refine ⟨⟨rfl, by decide⟩, ?_⟩;conv=>whnf
 intro b_1 hs_1 hh_1 hf_1;try dsimp only at hh_1 hf_1
 conv=>whnf
 refine ⟨⟨rfl, rfl⟩, ?_⟩;conv=>whnf
 refine ⟨rfl, _, (y1 hc none [0, 0, 1, 0, 2, -1] ⟨by decide, by decide⟩ b x1 hx1), ?_⟩;rintro hs_ms2 av x' t' hh_ms2 ⟨rfl, ⟨x2, hx2, rfl⟩, _, rfl, ⟨i, rfl, hi2⟩⟩ _ _ _;try dsimp only at hh_ms2
 conv=>whnf
 have hi2 : -1 <= i ∧ i <= 2 := by (simp only [List.mem_cons, List.not_mem_nil, or_false] at hi2; omega)
 refine hK _ (W.ret ?_);conv=>whnf
 exact ⟨.v (.int .i64 p), ⟨rfl, rfl⟩, trivial, .v (.ints none L), ⟨rfl, rfl⟩, trivial, .v (.int .i64 i), ⟨rfl, rfl⟩, trivial, p, L, i, rfl, hp, hL, hi2⟩

open Go Go.RowKit Go.Proofs Poly Hull

theorem zai {p : Int} {f : List Int} {S : List Spl.Sp} {code : Int} (hS : SplB p f S code) : (∀ g1 : Option Nat, FnV 7 [.int .i64 p, .ints g1 f] (.tup [vSs S, .int .i64 code])) ∧
  (∀ g1 : Option Nat, FnV 9 [.int .i64 p, .ints g1 f] (.tup [vSs S, .int .i64 code])) := by
 refine ⟨λg => ?_, λg => ?_⟩
 ·refine ze (za [0, 1, 4, 5]) Tryz.func7 rfl (by decide) Tryz.ntmps7 (lb rfl) λbase => ?_;refine wrs λK hK => ?_;conv=>whnf
  refine hK _ (wrs λK hK => ?_);conv=>whnf
  refine zc rfl (hS.spe g) λhs' hhs => ?_;try dsimp only at hhs
  conv=>whnf
  refine hK _ (W.ret ?_);conv=>whnf
  exact ⟨.v (vSs S), ⟨rfl, rfl, rfl, λ_ _ => rfl⟩, ⟨trivial, λ_ _ => ⟨trivial, trivial, trivial, trivial⟩⟩, .v (.int .i64 code), ⟨rfl, rfl⟩, trivial, rfl⟩
 ·refine ze (za [0, 1, 4, 5]) Tryz.func9 rfl (by decide) Tryz.ntmps9 (lb rfl) λbase => ?_;refine wrs λK hK => ?_;conv=>whnf
  refine hK _ (wrs λK hK => ?_);conv=>whnf
  refine zc rfl (hS.imp g) λhs' hhs => ?_;try dsimp only at hhs
  conv=>whnf
  refine hK _ (W.ret ?_);conv=>whnf
  exact ⟨.v (vSs S), ⟨rfl, rfl, rfl, λ_ _ => rfl⟩, ⟨trivial, λ_ _ => ⟨trivial, trivial, trivial, trivial⟩⟩, .v (.int .i64 code), ⟨rfl, rfl⟩, trivial, rfl⟩

theorem zcB {p : Int} {f : List Int} {S : List Spl.Sp} {code : Int} (hS : SplB p f S code) (h : f.length <= 1048576) : (∀ g1 : Option Nat, FnV 37 [.int .i64 p, .ints g1 f] (.tup [.bool (decide (code = 0)), .int .i64 (zo p f)])) ∧
  (∀ g1 : Option Nat, FnV 36 [.int .i64 p, .ints g1 f] (.tup [.bool (decide (code = 0)), .int .i64 (zo p f)])) := by
 refine ⟨λg => ?_, λg => ?_⟩
 ·refine ze (za [0, 1, 4, 5, 6, 11]) Tryz.func37 rfl (by decide) Tryz.ntmps37 (lb rfl) λbase => ?_;refine wrs λK hK => ?_;conv=>whnf
  refine hK _ (wrs λK hK => ?_);conv=>whnf
  refine zc rfl (xt g p f (by omega)) λhs' hhs => ?_;try dsimp only at hhs
  conv=>whnf
  refine hK _ (W.seqK λK1 hK1 => wrs λK hK => ?_);conv=>whnf
  by_cases hc : zo p f = 0
  ·obtain ⟨_, h2⟩ := hS.reg hc;rw [hc];refine hK _ (W.cond ⟨λhcc => absurd rfl (of_decide_eq_true hcc), λ_ => W.skip (hK1 _ ?_)⟩);clear hK hK1;refine wrs λK hK => ?_;conv=>whnf
   refine zc rfl (h2 g) λhs' hhs => ?_;try dsimp only at hhs
   conv=>whnf
   refine hK _ (W.ret ?_);conv=>whnf
   exact ⟨.v (.bool (decide (code = 0))), rfl, trivial, .v (.int .i64 (zo p f)), ⟨rfl, hc.symm⟩, trivial, rfl⟩
  ·have hc2 : code ≠ 0 := λe => hc ((hS.cde hc).symm.trans e);refine hK _ (W.cond ⟨λ_ => ?_, λhcc => absurd hc (of_decide_eq_false hcc)⟩);clear hK;refine wrs λK hK => ?_;conv=>whnf
   refine hK _ (W.ret ?_);conv=>whnf
   exact ⟨.v (.bool (decide (code = 0))), decide_eq_false hc2, trivial, .v (.int .i64 (zo p f)), ⟨rfl, rfl⟩, trivial, rfl⟩
 ·refine ze (za [0, 1, 4, 5, 6, 11]) Tryz.func36 rfl (by decide) Tryz.ntmps36 (lb rfl) λbase => ?_;refine wrs λK hK => ?_;conv=>whnf
  refine hK _ (W.seqK λK1 hK1 => wrs λK hK => ?_);conv=>whnf
  refine zc rfl (yS g p f) λhs' hhs => ?_;try dsimp only at hhs
  conv=>whnf
  refine hK _ (wrs λK hK => ?_);conv=>whnf
  by_cases hc : zo p f = 0
  ·obtain ⟨h2, _⟩ := hS.reg hc;rw [hc];refine hK _ (W.cond ⟨λhcc => absurd rfl (of_decide_eq_true hcc), λ_ => W.skip (hK1 _ ?_)⟩);clear hK hK1;refine wrs λK hK => ?_;conv=>whnf
   refine zc rfl (h2 g) λhs' hhs => ?_;try dsimp only at hhs
   conv=>whnf
   refine hK _ (W.ret ?_);conv=>whnf
   exact ⟨.v (.bool (decide (code = 0))), rfl, trivial, .v (.int .i64 (zo p f)), ⟨rfl, hc.symm⟩, trivial, rfl⟩
  ·have hc2 : code ≠ 0 := λe => hc ((hS.cde hc).symm.trans e);refine hK _ (W.cond ⟨λ_ => ?_, λhcc => absurd hc (of_decide_eq_false hcc)⟩);clear hK;refine wrs λK hK => ?_;conv=>whnf
   refine hK _ (W.ret ?_);conv=>whnf
   exact ⟨.v (.bool (decide (code = 0))), decide_eq_false hc2, trivial, .v (.int .i64 (zo p f)), ⟨rfl, rfl⟩, trivial, rfl⟩

theorem zfv (T : List (Int × Int × Int)) : FnV 103 [vSs T] (.int .i64 T.length) := by
 refine ze (za [0, 2]) Tryz.func103 rfl (by decide) Tryz.ntmps103 (lb rfl) λbase => ?_;refine wrs λK hK => ?_;conv=>whnf
 refine hK _ (wrs λK hK => ?_);conv=>whnf
 refine hK _ (W.ret ?_);conv=>whnf
 exact ⟨.v (.int .i64 T.length), ⟨rfl, rfl⟩, trivial, rfl⟩

theorem zgv (p : Int) (f : List Int) (i : Int) (h : f.length <= 1048576) : ∃ (L : List Int) (code : Int), (∀ g1 : Option Nat, FnV 44 [.int .i64 p, .ints g1 f, .int .i64 i] (.tup [.ints none L, .int .i64 code])) ∧
  (∀ g1 : Option Nat, FnV 43 [.int .i64 p, .ints g1 f, .int .i64 i] (.tup [.ints none L, .int .i64 code])) ∧ L.length <= 100 ∧ (code = 0 -> xN p L ∧ 2 <= L.length ∧ cf L 0 ≠ 0) := by
 by_cases hc : zo p f = 0
 case neg =>
  refine ⟨[], zo p f, λg => ?_, λg => ?_, by decide, λh => absurd h hc⟩
  ·refine ze (za [0, 1, 2, 6, 7, 8, 23, 25]) Tryz.func44 rfl (by decide) Tryz.ntmps44 (lb rfl) λbase => ?_;refine wrs λK hK => ?_;conv=>whnf
   refine hK _ (wrs λK hK => ?_);conv=>whnf
   refine zc rfl (xt g p f (by omega)) λhs' hhs => ?_;try dsimp only at hhs
   conv=>whnf
   refine hK _ (W.seqK λK1 hK1 => wrs λK hK => ?_);conv=>whnf
   refine ⟨λh1 => ?_, λh1 => ?_⟩ <;> conv=>whnf
   ·exact absurd (of_decide_eq_true h1) hc
   refine hK _ (W.condF rfl (W.skip (hK1 _ ?_)));clear hK hK1;refine W.seqK λK1 hK1 => wrs λK hK => ?_;conv=>whnf
   refine hK _ (W.cond ⟨λ_ => ?_, λhcc => absurd hc (of_decide_eq_false hcc)⟩);clear hK;refine wrs λK hK => ?_;conv=>whnf
   refine hK _ (W.ret ?_);conv=>whnf
   exact ⟨.v (.ints none []), rfl, trivial, .v (.int .i64 (zo p f)), ⟨rfl, rfl⟩, trivial, rfl⟩
  ·refine ze (za [0, 1, 2, 6, 7, 8, 13, 22]) Tryz.func43 rfl (by decide) Tryz.ntmps43 (lb rfl) λbase => ?_;refine wrs λK hK => ?_;conv=>whnf
   refine hK _ (W.seqK λK1 hK1 => wrs λK hK => ?_);conv=>whnf
   refine zc rfl (yS g p f) λhs' hhs => ?_;try dsimp only at hhs
   conv=>whnf
   refine hK _ (wrs λK hK => ?_);conv=>whnf
   refine hK _ (W.cond ⟨λ_ => ?_, λhcc => absurd hc (of_decide_eq_false hcc)⟩);clear hK;refine wrs λK hK => ?_;conv=>whnf
   refine hK _ (W.ret ?_);conv=>whnf
   exact ⟨.v (.ints none []), rfl, trivial, .v (.int .i64 (zo p f)), ⟨rfl, rfl⟩, trivial, rfl⟩
 obtain ⟨hp, hP, T, R, F, hN⟩ := zmM p f hc;letI := zfc hp;have hfew := hN.few
 by_cases hi : 0 <= i ∧ i <= (T.length : Int) - 1
 case neg =>
  refine ⟨[], 2, λg => ?_, λg => ?_, by decide, λh => absurd h (by decide)⟩
  ·refine ze (za [0, 1, 2, 6, 7, 8, 23, 25]) Tryz.func44 rfl (by decide) Tryz.ntmps44 (lb rfl) λbase => ?_;refine wrs λK hK => ?_;conv=>whnf
   refine hK _ (wrs λK hK => ?_);conv=>whnf
   refine zc rfl (xt g p f (by omega)) λhs' hhs => ?_;try dsimp only at hhs
   conv=>whnf
   rw [hc];refine hK _ (W.seqK λK1 hK1 => wrs λK hK => ?_);conv=>whnf
   refine ⟨λh1 => ?_, λh1 => ?_⟩ <;> conv=>whnf
   ·refine zc rfl (hN.slS g) λhs' hhs => ?_;try dsimp only at hhs
    conv=>whnf
    refine ⟨oo, ?_⟩;conv=>whnf
    refine zc rfl (zaa i 0 ((T.length : Int) - 1)) λhs' hhs => ?_;try dsimp only at hhs
    conv=>whnf
    rw [decide_eq_false hi];conv=>whnf
    refine hK _ (W.cond ⟨λ_ => ?_, λhcc => absurd hcc (by decide)⟩);clear hK;refine wrg ?_;conv=>whnf
    refine hK1 _ ?_;clear hK1;refine W.seqK λK1 hK1 => wrs λK hK => ?_;conv=>whnf
    refine hK _ (W.cond ⟨λ_ => ?_, λhcc => absurd hcc (by decide)⟩);clear hK;refine wrs λK hK => ?_;conv=>whnf
    refine hK _ (W.ret ?_);conv=>whnf
    exact ⟨.v (.ints none []), rfl, trivial, .v (.int .i64 2), ⟨rfl, rfl⟩, trivial, rfl⟩
   ·exact absurd rfl (of_decide_eq_false h1)
  ·refine ze (za [0, 1, 2, 6, 7, 8, 13, 22]) Tryz.func43 rfl (by decide) Tryz.ntmps43 (lb rfl) λbase => ?_;refine wrs λK hK => ?_;conv=>whnf
   refine hK _ (W.seqK λK1 hK1 => wrs λK hK => ?_);conv=>whnf
   refine zc rfl (yS g p f) λhs' hhs => ?_;try dsimp only at hhs
   conv=>whnf
   rw [hc];refine hK _ (wrs λK hK => ?_);conv=>whnf
   refine hK _ (W.cond ⟨λhcc => absurd rfl (of_decide_eq_true hcc), λ_ => W.skip (hK1 _ ?_)⟩);clear hK hK1;refine W.seqK λK1 hK1 => wrs λK hK => ?_;conv=>whnf
   refine zc rfl (hN.slI g) λhs' hhs => ?_;try dsimp only at hhs
   conv=>whnf
   refine zc rfl (zfv T) λhs' hhs => ?_;try dsimp only at hhs
   conv=>whnf
   refine ⟨oo, ?_⟩;conv=>whnf
   refine zc rfl (vL i 0 ((T.length : Int) - 1)) λhs' hhs => ?_;try dsimp only at hhs
   conv=>whnf
   rw [decide_eq_false hi];conv=>whnf
   refine hK _ (W.cond ⟨λ_ => ?_, λhcc => absurd hcc (by decide)⟩);clear hK;refine wrs λK hK => ?_;conv=>whnf
   refine hK _ (W.ret ?_);conv=>whnf
   exact ⟨.v (.ints none []), rfl, trivial, .v (.int .i64 2), ⟨rfl, rfl⟩, trivial, rfl⟩
 obtain ⟨i, rfl⟩ : ∃ k : Nat, i = k := ⟨i.toNat, by omega⟩
 have hi2 : i < T.length := by omega
 have hm := hN.mod i hi2;obtain ⟨h2, h0⟩ := hN.two i hi2;refine ⟨(R i).l, 0, λg => ?_, λg => ?_, by have := hm.2.1; omega, λ_ => ⟨hm, h2, h0⟩⟩
 ·refine ze (za [0, 1, 2, 6, 7, 8, 23, 25]) Tryz.func44 rfl (by decide) Tryz.ntmps44 (lb rfl) λbase => ?_;refine wrs λK hK => ?_;conv=>whnf
  refine hK _ (wrs λK hK => ?_);conv=>whnf
  refine zc rfl (xt g p f (by omega)) λhs' hhs => ?_;try dsimp only at hhs
  conv=>whnf
  rw [hc];refine hK _ (W.seqK λK1 hK1 => wrs λK hK => ?_);conv=>whnf
  refine ⟨λh1 => ?_, λh1 => ?_⟩ <;> conv=>whnf
  ·refine zc rfl (hN.slS g) λhs' hhs => ?_;try dsimp only at hhs
   conv=>whnf
   refine ⟨oo, ?_⟩;conv=>whnf
   refine zc rfl (zaa i 0 ((T.length : Int) - 1)) λhs' hhs => ?_;try dsimp only at hhs
   conv=>whnf
   rw [decide_eq_true hi];conv=>whnf
   refine hK _ (W.cond ⟨λhcc => absurd hcc (by decide), λ_ => W.skip (hK1 _ ?_)⟩);clear hK hK1;refine W.seqK λK1 hK1 => wrs λK hK => ?_;conv=>whnf
   refine hK _ (W.cond ⟨λhcc => absurd rfl (of_decide_eq_true hcc), λ_ => W.skip (hK1 _ ?_)⟩);clear hK hK1;refine wrs λK hK => ?_;conv=>whnf
   refine zw rfl (hN.reS g i hi2) λhs_3 b_3 hh_3 hf_3 => ?_;try dsimp only at hh_3 hf_3
   conv=>whnf
   refine hK _ (W.ret ?_);conv=>whnf
   exact ⟨.v (.ints none (R i).l), ⟨.inl rfl, rfl⟩, trivial, .v (.int .i64 0), ⟨rfl, rfl⟩, trivial, rfl⟩
  ·exact absurd rfl (of_decide_eq_false h1)
 ·refine ze (za [0, 1, 2, 6, 7, 8, 13, 22]) Tryz.func43 rfl (by decide) Tryz.ntmps43 (lb rfl) λbase => ?_;refine wrs λK hK => ?_;conv=>whnf
  refine hK _ (W.seqK λK1 hK1 => wrs λK hK => ?_);conv=>whnf
  refine zc rfl (yS g p f) λhs' hhs => ?_;try dsimp only at hhs
  conv=>whnf
  rw [hc];refine hK _ (wrs λK hK => ?_);conv=>whnf
  refine hK _ (W.cond ⟨λhcc => absurd rfl (of_decide_eq_true hcc), λ_ => W.skip (hK1 _ ?_)⟩);clear hK hK1;refine W.seqK λK1 hK1 => wrs λK hK => ?_;conv=>whnf
  refine zc rfl (hN.slI g) λhs' hhs => ?_;try dsimp only at hhs
  conv=>whnf
  refine zc rfl (zfv T) λhs' hhs => ?_;try dsimp only at hhs
  conv=>whnf
  refine ⟨oo, ?_⟩;conv=>whnf
  refine zc rfl (vL i 0 ((T.length : Int) - 1)) λhs' hhs => ?_;try dsimp only at hhs
  conv=>whnf
  rw [decide_eq_true hi];conv=>whnf
  refine hK _ (W.cond ⟨λhcc => absurd hcc (by decide), λ_ => W.skip (hK1 _ ?_)⟩);clear hK hK1;refine wrs λK hK => ?_;conv=>whnf
  refine zw rfl (hN.reI g i hi2) λhs_3 b_3 hh_3 hf_3 => ?_;try dsimp only at hh_3 hf_3
  conv=>whnf
  refine hK _ (W.ret ?_);conv=>whnf
  exact ⟨.v (.ints none (R i).l), ⟨.inl rfl, rfl⟩, trivial, .v (.int .i64 0), ⟨rfl, rfl⟩, trivial, rfl⟩

open Go Go.RowKit Go.ChangeShapes Go.WideShapes Go.ChangeAt Go.Proofs Go.Proofs.YtffhmebkkbfaeaaGreat

def zoz : List Char := [104, 97, 114, 110, 101, 115, 115, 32, 54, 53, 102, 56, 102, 97, 101, 99, 98, 50, 51, 54, 53, 50, 51, 49, 100, 56, 48, 51, 99, 57, 101, 55, 98, 99, 57, 50, 53, 51, 101, 56, 54, 54, 53, 51, 49, 49, 56, 100, 97, 101, 53, 100, 55, 98, 54, 99, 101, 102, 102, 99, 53, 98, 54, 48, 97, 49, 48, 57, 57, 98, 48, 56, 32, 99, 117, 116, 32, 97, 116, 32, 108, 111, 111, 112, 46, 101, 120, 97, 109, 112, 108, 101, 47, 103, 48, 49, 48, 48, 48, 47, 108, 97, 119, 115, 46, 70, 110, 69, 120, 97, 99, 116, 83, 112, 108, 105, 116, 116, 105, 110, 103, 115, 79, 102, 32, 108, 111, 111, 112, 46, 101, 120, 97, 109, 112, 108, 101, 47, 103, 48, 49, 48, 48, 48, 47, 108, 97, 119, 115, 46, 70, 110, 85, 110, 105, 116, 115, 32, 108, 111, 111, 112, 46, 101, 120, 97, 109, 112, 108, 101, 47, 103, 48, 49, 48, 48, 48, 47, 108, 97, 119, 115, 46, 70, 110, 82, 101, 115, 105, 100, 117, 97, 108, 70, 97, 99, 116, 111, 114, 115, 32, 108, 111, 111, 112, 46, 101, 120, 97, 109, 112, 108, 101, 47, 103, 48, 49, 48, 48, 48, 47, 108, 97, 119, 115, 46, 70, 110, 69, 120, 116, 101, 110, 115, 105, 111, 110, 115].map Char.ofNat
def zmV : List Char := [99, 117, 116].map Char.ofNat
def zmW : List (List Char) := [[97, 116], [108, 111, 111, 112, 46, 101, 120, 97, 109, 112, 108, 101, 47, 103, 48, 49, 48, 48, 48, 47, 108, 97, 119, 115, 46, 70, 110, 69, 120, 97, 99, 116, 83, 112, 108, 105, 116, 116, 105, 110, 103, 115, 79, 102], [108, 111, 111, 112, 46, 101, 120, 97, 109, 112, 108, 101, 47, 103, 48, 49, 48, 48, 48, 47, 108, 97, 119, 115, 46, 70, 110, 85, 110, 105, 116, 115], [108, 111, 111, 112, 46, 101, 120, 97, 109, 112, 108, 101, 47, 103, 48, 49, 48, 48, 48, 47, 108, 97, 119, 115, 46, 70, 110, 82, 101, 115, 105, 100, 117, 97, 108, 70, 97, 99, 116, 111, 114, 115], [108, 111, 111, 112, 46, 101, 120, 97, 109, 112, 108, 101, 47, 103, 48, 49, 48, 48, 48, 47, 108, 97, 119, 115, 46, 70, 110, 69, 120, 116, 101, 110, 115, 105, 111, 110, 115]].map λw => w.map Char.ofNat
theorem zoA : Tryz.checked.prog.initOrder = String.ofList zoz := by kernel_rfl
theorem zjX : behindMainWord (wordsSigns Tryz.checked.prog.initOrder.toList) = zmV :: zmW := by rw [zoA, String.toList_ofList]; kernel_rfl
theorem zh7 {P : Program} {c : List Char} {rest : List (List Char)} (h0 : behindMainWord (wordsSigns P.initOrder.toList) = c :: rest) (h1 : (stripLifts liftWords (c :: rest)) = ([], c :: rest)) (h2 : (c == "cut".toList) = true)
  (h3 : P.laysLater = false) (h4 : P.bearsReflect = false) (h5 : P.doorFits [] = true) : P.mayEnter = true := by
 unfold Program.mayEnter;rw [h0];have e : (some c == some "cut".toList) = true := h2
 refine (Bool.or_eq_true _ _).mpr (.inr ?_);rw [h1, h3, h4, h5];show ((some c == some "cut".toList) && _ && _ && _ && _) = true
 rw [e]
 rfl
theorem zmX : stripLifts liftWords (zmV :: zmW) = ([], zmV :: zmW) := by kernel_rfl
theorem zog : Tryz.checked.prog.mayEnter = true := zh7 zjX zmX (by kernel_rfl) (by kernel_rfl) (by kernel_rfl) (by kernel_rfl)
theorem zgw {P : Program} {c : List Char} {rest : List (List Char)} (h0 : behindMainWord (wordsSigns P.initOrder.toList) = c :: rest) (h1 : stripLifts liftWords (c :: rest) = ([], c :: rest)) : P.headLifts = [] := by
 unfold Program.headLifts;rw [h0, h1];dsimp only
 split <;> rfl
theorem zeK {P : Program} {c : List Char} {rest : List (List Char)} (h0 : behindMainWord (wordsSigns P.initOrder.toList) = c :: rest) (hh : P.headLifts = []) (h2 : (c == "carried".toList) = false) : P.liftsFinal = false := by
 have e : (some c == some "carried".toList) = false := h2
 unfold Program.liftsFinal;rw [h0, hh];show (((some c == some "carried".toList) && _) || _) = false
 rw [e]
 rfl
theorem znD {P : Program} {c : List Char} {rest : List (List Char)} (h0 : behindMainWord (wordsSigns P.initOrder.toList) = c :: rest) (h1 : (c == "gc".toList) = false) (h2 : (c == "spec".toList) = false) (h3 : (c == "cut".toList) = true) : P.make = some .cut := by
 unfold Program.make;rw [h0];dsimp only
 rw [h1, h2, h3]
 rfl
theorem zoB : Tryz.checked.prog.headLifts = [] := zgw zjX zmX
theorem zoC : Tryz.checked.prog.liftsFinal = false := zeK zjX zoB (by kernel_rfl)
theorem zoD : Tryz.checked.prog.make = some .cut := znD zjX (by kernel_rfl) (by kernel_rfl) (by kernel_rfl)

end Go.Proofs.YtffhmebkkbfaeaaGreat
