/- What the program's functions and the reference's return. No conditions. -/
import Derived.Test.YtlmckocbhcpmdaaGreatPi
import Derived.Test.YtlmckocbhcpmdaaGreatRows
namespace Go.Proofs.YtlmckocbhcpmdaaGreat
open Go Go.RowKit Go.Proofs Poly
set_option maxRecDepth 100000
set_option maxHeartbeats 8000000

theorem ziV (p : Int) [SP p] (g g1 g2 : Option Nat) (f F X : Poly p) (hF : dg F <= 1000) (hX : dg X < dg f) (hf : dg f <= 500) (h2 : 2 <= dg f) (hf0 : f ≠ 0) : FnT Tryz.prog 221 [vK p g f.l, .ints g1 F.l, .ints g2 X.l] (R1 (yY f F X (dg F)).l) := by
 have hp := Pr.two (p := p);have hp2 := SP.le (p := p);have hFl : F.l.length = dg F := rfl;have hE := zce (F := F) (X := X) hf0 h2;refine yT (zm [] [0, 1, 2, 3, 6, 7, 8, 13, 1000000]) Tryz.func221 rfl (by decide) Tryz.ntmps221 (Nat.le_of_ble_eq_true rfl) (fun base => ?_) (Nat.le_of_ble_eq_true rfl);refine W.rs (zm _ _) (by rfl) fun K hK => ?_;conv => whnf
 refine ⟨rfl, ?_⟩;conv => whnf
 intro b_1 hs_1 hh_1 hf_1;try dsimp only at hh_1 hf_1
 conv => whnf
 refine hK _ ?_;clear hK K;refine W.rs (zm _ _) (by rfl) fun K hK => ?_;conv => whnf
 refine hK _ ?_;clear hK K;refine W.seqK fun K1 hK1 => ?_;refine W.rs (zm _ _) (by rfl) fun K hK => ?_;conv => whnf
 rw [hFl];refine ⟨oo, ?_⟩;conv => whnf
 refine hK _ (W.block (W.invA (fun m e => ∃ (k b : Nat) (tb : Tab) (s : List Int), k <= dg F ∧ s = (yY f F X k).l ∧ m = dg F - k ∧ e = [(vt, .tab tb), (1, .v (.ints g1 F.l)), (2, .v (.ints g2 X.l)), (3, .ownB b_1 (vK p g f.l)), (7, .ownI 2 b s), (8, .v (.int .i64 ((dg F : Int) - 1 - k)))]) ⟨0, 0, _, [], Nat.zero_le _, xZ.symm, rfl, by congr 5 <;> omega⟩ ?_));clear hK K;rintro m e ⟨k, b, tb, s, hk, rfl, hm, rfl⟩;have hEk := hE k;have hR := zM (yY f F X k * X) hf0;refine W.seqK fun K7 hK7 => W.rs (zm _ _) (by rfl) fun K hK => ?_;conv => whnf
 refine hK _ (W.cond ⟨fun h => ?_, fun h => ?_⟩) <;> clear hK K <;> (first | replace h := of_decide_eq_true h | replace h := of_decide_eq_false h)
 ·have e1 : ((dg F : Int) - 1 - k).toNat = dg F - 1 - k := by omega
  have hEl := znC (rem (yY f F X k * X) f) (cf F.l (dg F - 1 - k)) (n := 500) (by omega);have hEb := zoA (rem (yY f F X k * X) f) F (dg F - 1 - k);have hRl : (rem (yY f F X k * X) f).l.length = dg (rem (yY f F X k * X) f) := rfl;refine W.skip (hK7 _ ?_);clear hK7 K7;refine W.seqK fun K8 hK8 => W.block ?_;refine W.drawS 12 (zm _ _) follows (by rfl) ?_;conv => whnf
  refine ⟨_, cxtF (zcU p g (some b) g2 f (yY f F X k) X (by omega) (by omega) (by omega) hf0), ?_⟩;conv => whnf
  refine ⟨oo, ?_⟩;conv => whnf
  rw [e1];refine ⟨⟨rfl, by decide⟩, ?_⟩;conv => whnf
  refine ⟨_, cxtF ((zeZ none none (rem (yY f F X k * X) f).l [cf F.l (dg F - 1 - k)] (ziT _) (zjX F _) (by omega) (by simp)).toV), ?_⟩;conv => whnf
  refine zD rfl (vA p (by omega) (by omega) none _ hEb (by omega)) fun hs_3 b_3 hh_3 hf_3 => ?_;try dsimp only at hh_3 hf_3
  conv => whnf
  rw [zgp];refine hK8 _ ?_;clear hK8 K8;refine W.region (zm _ _) (by rfl) ?_;conv => whnf
  refine ⟨oo, ?_⟩;conv => whnf
  exact zl ⟨k + 1, b_3, tb, _, by omega, rfl, rfl, by congr 5 <;> omega⟩
 ·obtain rfl : k = dg F := by omega
  refine W.exit (hK1 _ ?_);clear hK7 K7 hK1 K1;refine W.give 7 fun K hK => ?_;conv => whnf
  refine hK _ ?_;clear hK K;refine W.rs (zm _ _) (by rfl) fun K hK => ?_;conv => whnf
  refine hK _ ?_;clear hK K;refine W.ret ?_;conv => whnf
  exact ⟨.v (.rf b _), rfl, trivial, b, rfl, fun hne => xf _ _ hne⟩

theorem va (kp : Int) (kl F x : List Int) (_ : inR kp) (hkl : kl.length <= 1048576) (hF : F.length <= 1048576) (hx : x.length <= 1048576) : ∃ (r0 : List Int) (r1 : Int),
  (∀ g0 g1 g2 : Option Nat, FnV 69 [vK kp g0 kl, .ints g1 F, .ints g2 x] (.tup [.ints none r0, .int .i64 r1])) ∧ (∀ g0 g1 g2 : Option Nat, FnT Tryz.prog 68 [vK kp g0 kl, .ints g1 F, .ints g2 x] (RT r0 r1)) ∧ r0.length <= 1000000 ∧ (∀ hp : kp ∈ z6, letI := yE hp; ∀ f Φ X : Poly kp, f.l = kl -> Φ.l = F -> X.l = x -> xC kp kl x = 0 -> yc kp F -> r1 = 0 ∧ r0 = (yY f Φ X (dg Φ)).l) := by
 generalize hc : xC kp kl x = c
 by_cases h0 : c = 0
 case neg =>
  refine ⟨[], c, fun g0 g1 g2 => ?_, fun g0 g1 g2 => ?_, by simp, fun _ _ _ _ _ _ _ h _ => absurd h h0⟩
  ·refine ze (za [0, 1, 2, 3, 6, 7, 8, 21, 23]) Tryz.func69 rfl (by decide) Tryz.ntmps69 (Nat.le_of_ble_eq_true rfl) fun base => ?_;refine wrs fun K hK => ?_;conv => whnf
   refine ⟨rfl, ?_⟩;conv => whnf
   intro b_1 hs_1 hh_1 hf_1;try dsimp only at hh_1 hf_1
   conv => whnf
   refine hK _ ?_;clear hK K;refine wrs fun K hK => ?_;conv => whnf
   refine zc rfl (z8 kp g0 g2 g2 kl x (by omega) (by omega)) fun hs' hhs => ?_;try dsimp only at hhs
   conv => whnf
   rw [hc];refine hK _ ?_;clear hK K;refine W.seqK fun K1 hK1 => ?_;refine wrs fun K hK => ?_;conv => whnf
   refine ⟨fun h => ?_, fun h => ?_⟩ <;> conv => whnf
   ·exact absurd (of_decide_eq_true h) h0
   refine hK _ (W.condF rfl (W.skip (hK1 _ ?_)));clear hK K hK1 K1;refine W.seqK fun K1 hK1 => ?_;refine wrs fun K hK => ?_;conv => whnf
   refine hK _ (W.cond ⟨fun _ => ?_, fun hcc => absurd h0 (of_decide_eq_false hcc)⟩);clear hK K;refine wrs fun K hK => ?_;conv => whnf
   refine hK _ ?_;clear hK K;refine W.ret ?_;conv => whnf
   exact ⟨.v (.ints none []), rfl, trivial, .v (.int .i64 c), ⟨rfl, rfl⟩, trivial, rfl⟩
  ·refine yT (zm [] [0, 1, 2, 3, 6, 7, 8, 18, 1000000]) Tryz.func68 rfl (by decide) Tryz.ntmps68 (Nat.le_of_ble_eq_true rfl) (fun base => ?_) (Nat.le_of_ble_eq_true rfl);refine W.sw (c' := cx [0, 1, 2, 3, 6, 7, 8, 18, 1000000]) ?_;refine wrs fun K hK => ?_;conv => whnf
   refine ⟨rfl, ?_⟩;conv => whnf
   intro b_1 hs_1 hh_1 hf_1;try dsimp only at hh_1 hf_1
   conv => whnf
   refine hK _ ?_;clear hK K;refine W.seqK fun K1 hK1 => ?_;refine W.rd (za _) follows (by rfl) fun K hK => ?_;conv => whnf
   refine ⟨_, cxF (zJ g1 kp F), ?_⟩;conv => whnf
   refine ⟨⟨rfl, by decide, fun x hx => (by simp at hx; subst hx; exact ⟨rfl, rfl⟩)⟩, ?_⟩;conv => whnf
   refine ⟨_, cxF (yy kp g0 none kl _ 1 _ (fun _ => x) (by omega) (by omega) (zfb g2 x)), ?_⟩;conv => whnf
   rw [zlN hc h0];refine hK _ ?_;clear hK K;refine wrs fun K hK => ?_;conv => whnf
   refine hK _ (W.cond ⟨fun _ => ?_, fun hcc => absurd h0 (of_decide_eq_false hcc)⟩);clear hK K;refine wrs fun K hK => ?_;conv => whnf
   refine hK _ ?_;clear hK K;refine W.ret ?_;conv => whnf
   exact ⟨.v (.rf 0 0), rfl, trivial, .v (.int .i64 (c)), ⟨rfl, rfl⟩, trivial, 0, rfl, fun hne => absurd rfl hne⟩
 subst h0
 by_cases he : yc kp F
 case neg =>
  refine ⟨[], 2, fun g0 g1 g2 => ?_, fun g0 g1 g2 => ?_, by simp, fun _ _ _ _ _ _ _ _ h => absurd h he⟩
  ·refine ze (za [0, 1, 2, 3, 6, 7, 8, 21, 23]) Tryz.func69 rfl (by decide) Tryz.ntmps69 (Nat.le_of_ble_eq_true rfl) fun base => ?_;refine wrs fun K hK => ?_;conv => whnf
   refine ⟨rfl, ?_⟩;conv => whnf
   intro b_1 hs_1 hh_1 hf_1;try dsimp only at hh_1 hf_1
   conv => whnf
   refine hK _ ?_;clear hK K;refine wrs fun K hK => ?_;conv => whnf
   refine zc rfl (z8 kp g0 g2 g2 kl x (by omega) (by omega)) fun hs' hhs => ?_;try dsimp only at hhs
   conv => whnf
   rw [hc];refine hK _ ?_;clear hK K;refine W.seqK fun K1 hK1 => ?_;refine wrs fun K hK => ?_;conv => whnf
   refine ⟨fun h => ?_, fun h => ?_⟩ <;> conv => whnf
   ·refine zc rfl ((yF g1 kp F (by omega)).fa (zh he)) fun hs' hhs => ?_;try dsimp only at hhs
    conv => whnf
    refine hK _ (W.condT rfl ?_);clear hK K;refine wrg ?_;conv => whnf
    refine hK1 _ ?_;clear hK1 K1;refine W.seqK fun K1 hK1 => ?_;refine wrs fun K hK => ?_;conv => whnf
    refine hK _ (W.cond ⟨fun _ => ?_, fun hcc => absurd (by decide : (2 : Int) ≠ 0) (of_decide_eq_false hcc)⟩);clear hK K;refine wrs fun K hK => ?_;conv => whnf
    refine hK _ ?_;clear hK K;refine W.ret ?_;conv => whnf
    exact ⟨.v (.ints none []), rfl, trivial, .v (.int .i64 2), ⟨rfl, rfl⟩, trivial, rfl⟩
   ·exact absurd rfl (of_decide_eq_false h)
  ·refine yT (zm [] [0, 1, 2, 3, 6, 7, 8, 18, 1000000]) Tryz.func68 rfl (by decide) Tryz.ntmps68 (Nat.le_of_ble_eq_true rfl) (fun base => ?_) (Nat.le_of_ble_eq_true rfl);refine W.sw (c' := cx [0, 1, 2, 3, 6, 7, 8, 18, 1000000]) ?_;refine wrs fun K hK => ?_;conv => whnf
   refine ⟨rfl, ?_⟩;conv => whnf
   intro b_1 hs_1 hh_1 hf_1;try dsimp only at hh_1 hf_1
   conv => whnf
   refine hK _ ?_;clear hK K;refine W.seqK fun K1 hK1 => ?_;refine W.rd (za _) follows (by rfl) fun K hK => ?_;conv => whnf
   refine ⟨_, cxF (zJ g1 kp F), ?_⟩;conv => whnf
   refine ⟨⟨rfl, by decide, fun x hx => (by simp at hx; subst hx; exact ⟨rfl, rfl⟩)⟩, ?_⟩;conv => whnf
   refine ⟨_, cxF (yy kp g0 none kl _ 1 _ (fun _ => x) (by omega) (by omega) (zfb g2 x)), ?_⟩;conv => whnf
   rw [zlO hc (zh he)];refine hK _ ?_;clear hK K;refine wrs fun K hK => ?_;conv => whnf
   refine hK _ (W.cond ⟨fun _ => ?_, fun hcc => absurd (by decide : (2 : Int) ≠ 0) (of_decide_eq_false hcc)⟩);clear hK K;refine wrs fun K hK => ?_;conv => whnf
   refine hK _ ?_;clear hK K;refine W.ret ?_;conv => whnf
   exact ⟨.v (.rf 0 0), rfl, trivial, .v (.int .i64 (2)), ⟨rfl, rfl⟩, trivial, 0, rfl, fun hne => absurd rfl hne⟩
 have he9 := he.2.1;obtain ⟨hk, hh⟩ := zaH hc;obtain ⟨hp, f, rfl, hfi, _, _, hf9⟩ := vQ hk;letI := yE hp;obtain ⟨X, rfl⟩ := vR hh.1;have hxl : X.l.length < f.l.length := hh.2;have hfl : f.l.length = dg f := rfl;have hXl : X.l.length = dg X := rfl;have hf0 := hfi.ne;have hp1 := zX hp;obtain ⟨F, rfl⟩ := vR he;have hFl : F.l.length = dg F := rfl;have h2 := hfi.1;refine ⟨(yY f F X (dg F)).l, 0, fun g0 g1 g2 => ?_, fun g0 g1 g2 => ?_, ?_, fun _ φ G Y e1 e2 e3 _ _ => (by obtain rfl := jr e1; obtain rfl := jr e2; obtain rfl := jr e3; exact ⟨rfl, rfl⟩)⟩
 ·refine ze (za [0, 1, 2, 3, 6, 7, 8, 21, 23]) Tryz.func69 rfl (by decide) Tryz.ntmps69 (Nat.le_of_ble_eq_true rfl) fun base => ?_;refine wrs fun K hK => ?_;conv => whnf
  refine ⟨rfl, ?_⟩;conv => whnf
  intro b_1 hs_1 hh_1 hf_1;try dsimp only at hh_1 hf_1
  conv => whnf
  refine hK _ ?_;clear hK K;refine wrs fun K hK => ?_;conv => whnf
  refine zc rfl (z8 kp g0 g2 g2 f.l X.l (by omega) (by omega)) fun hs' hhs => ?_;try dsimp only at hhs
  conv => whnf
  rw [hc];refine hK _ ?_;clear hK K;refine W.seqK fun K1 hK1 => ?_;refine wrs fun K hK => ?_;conv => whnf
  refine ⟨fun h => ?_, fun h => ?_⟩ <;> conv => whnf
  ·refine zc rfl ((yF g1 kp F.l (by omega)).tr (zj he)) fun hs' hhs => ?_;try dsimp only at hhs
   conv => whnf
   refine hK _ (W.condF rfl (W.skip (hK1 _ ?_)));clear hK K hK1 K1;refine W.seqK fun K1 hK1 => ?_;refine wrs fun K hK => ?_;conv => whnf
   refine hK _ (W.cond ⟨fun hcc => absurd rfl (of_decide_eq_true hcc), fun _ => W.skip (hK1 _ ?_)⟩);clear hK K hK1 K1;refine wrs fun K hK => ?_;conv => whnf
   refine zc rfl (zdl kp g0 g1 g2 f F X (by omega) (by omega) (by omega) h2 hf0) fun hs' hhs => ?_;try dsimp only at hhs
   conv => whnf
   refine hK _ ?_;clear hK K;refine W.ret ?_;conv => whnf
   exact ⟨.v (.ints none (yY f F X (dg F)).l), ⟨rfl, rfl⟩, trivial, .v (.int .i64 0), ⟨rfl, rfl⟩, trivial, rfl⟩
  ·exact absurd rfl (of_decide_eq_false h)
 ·refine yT (zm [] [0, 1, 2, 3, 6, 7, 8, 18, 1000000]) Tryz.func68 rfl (by decide) Tryz.ntmps68 (Nat.le_of_ble_eq_true rfl) (fun base => ?_) (Nat.le_of_ble_eq_true rfl);refine W.sw (c' := cx [0, 1, 2, 3, 6, 7, 8, 18, 1000000]) ?_;refine wrs fun K hK => ?_;conv => whnf
  refine ⟨rfl, ?_⟩;conv => whnf
  intro b_1 hs_1 hh_1 hf_1;try dsimp only at hh_1 hf_1
  conv => whnf
  refine hK _ ?_;clear hK K;refine W.seqK fun K1 hK1 => ?_;refine W.rd (za _) follows (by rfl) fun K hK => ?_;conv => whnf
  refine ⟨_, cxF (zJ g1 kp F.l), ?_⟩;conv => whnf
  refine ⟨⟨rfl, by decide, fun x hx => (by simp at hx; subst hx; exact ⟨rfl, rfl⟩)⟩, ?_⟩;conv => whnf
  refine ⟨_, cxF (yy kp g0 none f.l _ 1 _ (fun _ => X.l) (by omega) (by omega) (zfb g2 X.l)), ?_⟩;conv => whnf
  rw [znB hc (zj he)];refine hK _ ?_;clear hK K;refine wrs fun K hK => ?_;conv => whnf
  refine hK _ (W.cond ⟨fun hcc => absurd rfl (of_decide_eq_true hcc), fun _ => W.skip (hK1 _ ?_)⟩);clear hK K hK1 K1;refine W.sw (c' := cxt [221] [0, 1, 2, 3, 6, 7, 8, 18, 1000000]) ?_;refine W.rs (zm _ _) (by rfl) fun K hK => ?_;conv => whnf
  refine ⟨_, cxT (ziV kp g0 g1 g2 f F X (by omega) (by omega) (by omega) h2 hf0), fun lo_t hi_t hs_t x_t tn_t tb_t hl1_t hl2_t _ hp_t hf_t hn_t ho_t => ?_⟩;try dsimp only at hl1_t hl2_t
  obtain ⟨bt, rfl, ht⟩ := hp_t;conv => whnf
  refine hK _ ?_;clear hK K;refine W.ret ?_;conv => whnf
  exact ⟨.v (.rf bt (yY f F X (dg F)).l.length), rfl, trivial, .v (.int .i64 0), ⟨rfl, rfl⟩, trivial, bt, rfl, fun h => hn_t _ _ (ht h)⟩
 ·have := zce (F := F) (X := X) hf0 h2 (dg F);show dg (yY f F X (dg F)) <= _; omega

theorem vC (p : Int) (g : Option Nat) (l : List Int) (n : Nat) (hp : 2 <= p) (hn : n <= 1000000000) : FnV 177 [vK p g l, .int .i64 n] (.ints none (dig p.toNat n)) := by
 obtain ⟨q, rfl⟩ : ∃ q : Nat, p = q := ⟨p.toNat, by omega⟩
 rw [Int.toNat_natCast];have hp : 2 <= q := by omega
 refine ze (za [0, 1, 2, 4, 5, 8]) Tryz.func177 rfl (by decide) Tryz.ntmps177 (Nat.le_of_ble_eq_true rfl) fun base => ?_;refine wrs fun K hK => ?_;conv => whnf
 refine ⟨rfl, ?_⟩;conv => whnf
 intro b_1 hs_1 hh_1 hf_1;try dsimp only at hh_1 hf_1
 conv => whnf
 refine hK _ ?_;clear hK K;refine wrs fun K hK => ?_;conv => whnf
 refine ⟨⟨rfl, by decide⟩, ?_⟩;conv => whnf
 intro b_2 hs_2 hh_2 hf_2;try dsimp only at hh_2 hf_2
 conv => whnf
 refine hK _ ?_;clear hK K;refine W.seqK fun K1 hK1 => W.block (W.invA (fun m e => ∃ (k b : Nat) (o : List Int), k <= n ∧ o ++ dig q k = dig q n ∧ o.length + k <= n ∧ m = k ∧ e = [(1, .v (.int .i64 k)), (2, .ownB b_1 (vK q g l)), (5, .ownI 2 b o)]) ⟨n, b_2, [], Nat.le_refl _, rfl, by simp, rfl, rfl⟩ ?_);rintro m e ⟨k, b, o, hk, ho, hol, hm, rfl⟩;refine W.seqK fun K7 hK7 => wrs fun K hK => ?_;conv => whnf
 refine hK _ (W.cond ⟨fun h => ?_, fun h => ?_⟩) <;> clear hK K <;> (first | replace h := of_decide_eq_true h | replace h := of_decide_eq_false h)
 ·have h1 := x8 hp (n := k) (by omega);have h2 : k / q < k := Nat.div_lt_self (by omega) hp;have h3 : ((k : Int)).tmod q = ((k % q : Nat) : Int) := zcc k q;have h4 : ((k : Int)).tdiv q = ((k / q : Nat) : Int) := ziS k q;generalize k / q = v at h1 h2 h4;generalize k % q = u at h1 h3;refine W.skip (hK7 _ ?_);clear hK7 K7;refine W.seqK fun K8 hK8 => W.block ?_;refine wrg ?_;conv => whnf
  refine ⟨by omega, ?_⟩;conv => whnf
  rw [h3];refine ⟨⟨rfl, by decide⟩, ?_⟩;conv => whnf
  intro b_1 hs_1 hh_1 hf_1;try dsimp only at hh_1 hf_1
  conv => whnf
  refine ⟨by dsimp only [List.length]; omega, ?_⟩;conv => whnf
  intro b_2 hs_2 hh_2 hf_2;try dsimp only at hh_2 hf_2
  conv => whnf
  refine hK8 _ ?_;clear hK8 K8;refine wrg ?_;conv => whnf
  rw [h4];refine ⟨by omega, ?_⟩;conv => whnf
  refine ⟨oo, ?_⟩;conv => whnf
  exact zl ⟨v, b_2, o ++ [(u : Int)], by omega, by rw [<- ho, h1, List.append_assoc]; rfl, by rw [List.length_append]; dsimp only [List.length]; omega, rfl, rfl⟩
 ·obtain rfl : k = 0 := by omega
  rw [vP, List.append_nil] at ho;subst ho;refine W.exit (hK1 _ ?_);clear hK7 K7 hK1 K1;refine wrs fun K hK => ?_;conv => whnf
  refine hK _ ?_;clear hK K;refine W.ret ?_;conv => whnf
  exact ⟨.v (.ints none (dig q n)), ⟨rfl, rfl⟩, trivial, rfl⟩



theorem znD {p : Int} [SP p] {f : Poly p} (hk : IsFld p f.l) {d : Nat} (hd : dg f = d + 1) : (p ^ (f.l.length - 1) : Int) = ((p.toNat ^ d : Nat) : Int) ∧ p.toNat ^ d <= 20000 ∧ 2 <= p.toNat ^ d := by
 have h2 := Pr.two (p := p);have h1 : f.l.length - 1 = d := by have : f.l.length = dg f := rfl; omega
 have h3 : (p ^ (f.l.length - 1) : Int) = ((p.toNat ^ d : Nat) : Int) := by rw [h1, Int.natCast_pow, Int.toNat_of_nonneg (by omega)]
 have h4 := hk.ord;have h5 := hk.two;have h6 : p.toNat ^ 1 <= p.toNat ^ d := Nat.pow_le_pow_right (by omega) (by omega);rw [Nat.pow_one] at h6;exact ⟨h3, by omega, by omega⟩

theorem zkM (g g' : Option Nat) (xs ys : List Int) (hl : xs.length <= 1000000000) : FnV 246 [.ints g xs, .ints g' ys] (.bool (decide (xs = ys))) := by
 refine ze (za [0, 1, 4, 5, 10, 14, 25]) Tryz.func246 rfl (by decide) Tryz.ntmps246 (Nat.le_of_ble_eq_true rfl) fun base => ?_;refine wrs fun K hK => ?_;conv => whnf
 refine hK _ ?_;clear hK K;refine W.seqK fun K1 hK1 => ?_;refine wrs fun K hK => ?_;conv => whnf
 refine hK _ (W.cond ⟨fun h => ?_, fun h => ?_⟩) <;> clear hK K
 ·have h := of_decide_eq_true h;refine wrs fun K hK => ?_;conv => whnf
  refine hK _ ?_;clear hK K;refine W.ret ?_;conv => whnf
  exact ⟨.v (.bool (decide (xs = ys))), (by show decide _ = false; exact decide_eq_false fun e => h (by rw [e])), trivial, rfl⟩
 have h := of_decide_eq_false h;have hlen : xs.length = ys.length := by omega
 refine W.skip (hK1 _ ?_);clear hK1 K1;refine W.seqK fun K1 hK1 => ?_;refine wrs fun K hK => ?_;conv => whnf
 refine hK _ (W.block (W.invA (fun m e => ∃ k : Nat, k <= xs.length ∧ (∀ j, j < k -> cf xs j = cf ys j) ∧ m = xs.length - k ∧ e = [(0, .v (.ints g xs)), (1, .v (.ints g' ys)), (5, .v (.int .i64 k))]) ⟨0, Nat.zero_le _, fun j hj => by omega, rfl, rfl⟩ ?_));clear hK K;rintro m e ⟨k, h1, h2, hm, rfl⟩;refine W.seqK fun K7 hK7 => wrs fun K hK => ?_;conv => whnf
 refine hK _ (W.cond ⟨fun h3 => ?_, fun h3 => ?_⟩) <;> clear hK K <;> (first | replace h3 := of_decide_eq_true h3 | replace h3 := of_decide_eq_false h3)
 ·refine W.skip (hK7 _ ?_);clear hK7 K7;refine W.seqK fun K8 hK8 => W.block ?_;refine W.rd (za _) follows (by rfl) fun K hK => ?_;conv => whnf
  refine ⟨oo, ?_⟩;conv => whnf
  refine ⟨oo, ?_⟩;conv => whnf
  rw [Int.toNat_natCast];refine hK _ (W.cond ⟨fun h4 => ?_, fun h4 => ?_⟩) <;> clear hK K
  ·have h4 : cf xs k ≠ cf ys k := of_decide_eq_true h4;refine wrs fun K hK => ?_;conv => whnf
   refine hK _ ?_;clear hK K;refine W.ret ?_;conv => whnf
   exact ⟨.v (.bool (decide (xs = ys))), (by show decide _ = false; exact decide_eq_false fun e => h4 (by rw [e])), trivial, rfl⟩
  ·have h4 : ¬ cf xs k ≠ cf ys k := of_decide_eq_false h4;refine W.skip (hK8 _ ?_);clear hK8 K8;refine wrg ?_;conv => whnf
   refine ⟨oo, ?_⟩;conv => whnf
   exact zl ⟨k + 1, by omega, fun j hj => by by_cases h9 : j = k; (subst h9; exact Classical.byContradiction h4); exact h2 j (by omega), rfl, rfl⟩
 ·obtain rfl : k = xs.length := by omega
  refine W.exit (hK1 _ ?_);clear hK7 K7 hK1 K1;obtain rfl : xs = ys := kj hlen fun j hj => h2 j hj;refine wrs fun K hK => ?_;conv => whnf
  refine hK _ ?_;clear hK K;refine W.ret ?_;conv => whnf
  exact ⟨.v (.bool (decide (xs = xs))), (by show decide _ = true; exact decide_eq_true rfl), trivial, rfl⟩

theorem zfe (g g' : Option Nat) (xs ys : List Int) (hl : xs.length <= 1000000000) : FnV 219 [.ints g xs, .ints g' ys] (.bool (decide (xs = ys))) := by
 refine ze (za [0, 1, 4, 5, 10, 12, 13, 14, 24]) Tryz.func219 rfl (by decide) Tryz.ntmps219 (Nat.le_of_ble_eq_true rfl) fun base => ?_;refine wrs fun K hK => ?_;conv => whnf
 refine hK _ ?_;clear hK K;refine W.seqK fun K1 hK1 => ?_;refine wrs fun K hK => ?_;conv => whnf
 refine hK _ (W.cond ⟨fun h => ?_, fun h => ?_⟩) <;> clear hK K
 ·have h := of_decide_eq_true h;refine wrs fun K hK => ?_;conv => whnf
  refine hK _ ?_;clear hK K;refine W.ret ?_;conv => whnf
  exact ⟨.v (.bool (decide (xs = ys))), (by show decide _ = false; exact decide_eq_false fun e => h (by rw [e])), trivial, rfl⟩
 have h := of_decide_eq_false h;have hlen : xs.length = ys.length := by omega
 refine W.skip (hK1 _ ?_);clear hK1 K1;refine W.seqK fun K1 hK1 => ?_;refine wrs fun K hK => ?_;conv => whnf
 refine hK _ (W.block (W.invA (fun m e => ∃ k : Nat, k <= xs.length ∧ (∀ j, j < k -> cf xs j = cf ys j) ∧ m = xs.length - k ∧ e = [(0, .v (.ints g xs)), (1, .v (.ints g' ys)), (12, .v (.int .i64 xs.length)), (13, .v (.int .i64 k))]) ⟨0, Nat.zero_le _, fun j hj => by omega, rfl, rfl⟩ ?_));clear hK K;rintro m e ⟨k, h1, h2, hm, rfl⟩;refine wrs fun K hK => ?_;conv => whnf
 refine hK _ ?_;clear hK K;refine W.seqK fun K7 hK7 => W.cond ⟨fun h3 => ?_, fun h3 => ?_⟩ <;> (first | replace h3 := of_decide_eq_true h3 | replace h3 := of_decide_eq_false h3)
 ·refine W.skip (hK7 _ ?_);clear hK7 K7;refine W.seqK fun K8 hK8 => W.block ?_;refine wrs fun K hK => ?_;conv => whnf
  refine hK _ ?_;clear hK K;refine W.rd (za _) follows (by rfl) fun K hK => ?_;conv => whnf
  refine ⟨oo, ?_⟩;conv => whnf
  refine ⟨oo, ?_⟩;conv => whnf
  rw [Int.toNat_natCast];refine hK _ (W.cond ⟨fun h4 => ?_, fun h4 => ?_⟩) <;> clear hK K
  ·have h4 : cf xs k ≠ cf ys k := of_decide_eq_true h4;refine wrs fun K hK => ?_;conv => whnf
   refine hK _ ?_;clear hK K;refine W.ret ?_;conv => whnf
   exact ⟨.v (.bool (decide (xs = ys))), (by show decide _ = false; exact decide_eq_false fun e => h4 (by rw [e])), trivial, rfl⟩
  ·have h4 : ¬ cf xs k ≠ cf ys k := of_decide_eq_false h4;refine W.skip (hK8 _ ?_);clear hK8 K8;refine wrg ?_;conv => whnf
   refine ⟨oo, ?_⟩;conv => whnf
   exact zl ⟨k + 1, by omega, fun j hj => by by_cases h9 : j = k; (subst h9; exact Classical.byContradiction h4); exact h2 j (by omega), rfl, rfl⟩
 ·obtain rfl : k = xs.length := by omega
  refine W.exit (hK1 _ ?_);clear hK7 K7 hK1 K1;obtain rfl : xs = ys := kj hlen fun j hj => h2 j hj;refine wrs fun K hK => ?_;conv => whnf
  refine hK _ ?_;clear hK K;refine W.ret ?_;conv => whnf
  exact ⟨.v (.bool (decide (xs = xs))), (by show decide _ = true; exact decide_eq_true rfl), trivial, rfl⟩

def Prim {p : Int} [SP p] (f X : Poly p) : Prop := zpc f X (p.toNat ^ (dg f - 1) - 1)

theorem zlP {ys : List Int} {i : Nat} (h : i < ys.length) : yl (-1) (ys.take (i + 1)) = yl (-1) (ys.take i) ++ [-(cf ys i)] := by
 have h1 := jW (fun x => (-1) * x) h;have e : ys.getD i 0 = cf ys i := rfl;rw [e] at h1;unfold yl;rw [h1]; congr 2; omega
theorem zjY (g g' : Option Nat) (xs ys : List Int) (hx : Bd 9223372036854775807 xs) (hy : Bd 9223372036854775807 ys) (hs : ∀ j, -9223372036854775807 <= cf xs j - cf ys j ∧ cf xs j - cf ys j <= 9223372036854775807) (hxl : xs.length <= 1000000) (hyl : ys.length <= 1000000) : FnI 213 [.ints g xs, .ints g' ys] (zx (y8 xs (yl (-1) ys))) := by
 refine ze (za [0, 1, 4, 5, 7, 8, 9, 10, 11]) Tryz.func213 rfl (by decide) Tryz.ntmps213 (Nat.le_of_ble_eq_true rfl) fun base => ?_;refine wrs fun K hK => ?_;conv => whnf
 refine hK _ ?_;clear hK K;refine wrs fun K hK => ?_;conv => whnf
 refine hK _ ?_;clear hK K;refine W.seqK fun K1 hK1 => ?_;refine wrs fun K hK => ?_;conv => whnf
 refine hK _ (W.block (W.invA (fun m e => ∃ i b : Nat, i <= ys.length ∧ m = ys.length - i ∧ e = [(0, .v (.ints g xs)), (5, .ownI 2 b (yl (-1) (ys.take i))), (8, .v (.ints g' ys)), (9, .v (.int .i64 ys.length)), (10, .v (.int .i64 i))]) ⟨0, 0, Nat.zero_le _, rfl, rfl⟩ ?_));clear hK K;rintro m e ⟨i, b, hi, hm, rfl⟩;refine wrs fun K hK => ?_;conv => whnf
 refine hK _ ?_;clear hK K;refine W.seqK fun K7 hK7 => W.cond ⟨fun h => ?_, fun h => ?_⟩ <;> (first | replace h := of_decide_eq_true h | replace h := of_decide_eq_false h)
 ·have hi2 : i < ys.length := by omega
  have hyi := hy i;have hst := zlP hi2;have hsl : (yl (-1) (ys.take i)).length = i := by simp [yl]; omega
  refine W.skip (hK7 _ ?_);clear hK7 K7;refine W.seqK fun K8 hK8 => W.block ?_;refine wrs fun K hK => ?_;conv => whnf
  refine ⟨oo, ?_⟩;conv => whnf
  rw [Int.toNat_natCast];refine hK _ ?_;clear hK K;refine wrg ?_;conv => whnf
  refine ⟨by show _ <= -(cf ys i) ∧ -(cf ys i) <= _; omega, ?_⟩;conv => whnf
  refine ⟨⟨rfl, by decide⟩, ?_⟩;conv => whnf
  intro b_1 hs_1 hh_1 hf_1;try dsimp only at hh_1 hf_1
  conv => whnf
  refine ⟨by dsimp only [List.length]; omega, ?_⟩;conv => whnf
  intro b_2 hs_2 hh_2 hf_2;try dsimp only at hh_2 hf_2
  conv => whnf
  refine hK8 _ ?_;clear hK8 K8;refine wrg ?_;conv => whnf
  refine ⟨oo, ?_⟩;conv => whnf
  exact zl ⟨i + 1, b_2, by omega, rfl, by rw [hst]⟩
 ·obtain rfl : i = ys.length := by omega
  rw [List.take_length];have hsl : (yl (-1) ys).length = ys.length := by simp [yl]
  refine W.exit (hK1 _ ?_);clear hK7 K7 hK1 K1;refine wrs fun K hK => ?_;conv => whnf
  refine zD rfl (zeY g (some b) xs (yl (-1) ys) hx (fun j => by rw [kf]; have := hs j; omega) (by omega) (by omega)) fun hs_3 b_3 hh_3 hf_3 => ?_;try dsimp only at hh_3 hf_3
  conv => whnf
  refine hK _ ?_;clear hK K;refine W.ret ?_;conv => whnf
  exact ⟨.ownI 2 _ (zx (y8 xs (yl (-1) ys))), ⟨rfl, rfl, rfl⟩, trivial, _, rfl⟩

theorem ziW (g g' : Option Nat) (xs ys : List Int) (hx : Bd 1000000000000 xs) (hy : Bd 1000000000000 ys) (hxl : xs.length <= 1000000) (hyl : ys.length <= 1000000) : FnI 213 [.ints g xs, .ints g' ys] (zx (y8 xs (yl (-1) ys))) :=
 zjY g g' xs ys (hx.le (by omega)) (hy.le (by omega)) (fun j => by have := hx j; have := hy j; omega) hxl hyl

theorem zoB {p : Int} [SP p] (X Y : Poly p) : nrm p (zx (y8 X.l (yl (-1) Y.l))) = (X - Y).l := zaz _ _



/- how many are primitive -/

noncomputable def zff {p : Int} [SP p] (f X : Poly p) (m : Nat) : V := .vals none 1 m fun j => .ints none (frN f X j).l

theorem vD (p : Int) [SP p] (g g1 : Option Nat) (f X : Poly p) (hf : dg f <= 500) (hf0 : f ≠ 0) (hX : dg X < dg f) (n : Nat) (hn : Per f X n) (hn2 : n <= 1000) : FnV 216 [vK p g f.l, .ints g1 X.l] (zff f X n) := by
 have hF := zbv hf0 hX;have hXl : X.l.length = dg X := rfl;refine ze (za [0, 1, 2, 4, 5, 6, 22]) Tryz.func216 rfl (by decide) Tryz.ntmps216 (Nat.le_of_ble_eq_true rfl) fun base => ?_;refine wrs fun K hK => ?_;conv => whnf
 refine ⟨rfl, ?_⟩;conv => whnf
 intro b_1 hs_1 hh_1 hf_1;try dsimp only at hh_1 hf_1
 conv => whnf
 refine hK _ ?_;clear hK K;refine wrs fun K hK => ?_;conv => whnf
 refine zD rfl (zhc g1 X.l (by omega)) fun hs_2 b_2 hh_2 hf_2 => ?_;try dsimp only at hh_2 hf_2
 conv => whnf
 refine ⟨⟨rfl, by decide, fun x hx => by simp at hx; subst hx; exact ⟨rfl, rfl⟩⟩, ?_⟩;conv => whnf
 intro b_3 hs_3 hh_3 hf_3;try dsimp only at hh_3 hf_3
 conv => whnf
 refine hK _ ?_;clear hK K;refine W.block (W.invE (fun m e => ∃ j b : Nat, j < n ∧ m = n - j ∧ e = [(1, .v (.ints g1 X.l)), (2, .ownB b_1 (vK p g f.l)), (5, .ownV 24 1 b (j + 1) fun i => .ints none (frN f X i).l)]) _ _ ⟨0, b_3, hn.pos, rfl, rfl⟩ (by dsimp only; omega) (by repeat' first | refine And.intro ?_ ?_ | exact trivial | rfl | omega | exact fun _ _ => rfl | exact fun i hi => (by obtain rfl : i = 0 := (by omega); rfl)) ?_);rintro m e ⟨j, b, hj, hm, rfl⟩;have hFj := hF j;have hF1 := hF (j + 1);have hFl : (frN f X (j + 1)).l.length = dg (frN f X (j + 1)) := rfl;refine W.block ?_;refine W.rd (za _) follows (by rfl) fun K hK => ?_;conv => whnf
 refine ⟨oo, ?_⟩;conv => whnf
 refine ⟨oo, ?_⟩;conv => whnf
 rw [show (((j + 1 : Nat) : Int) - 1).toNat = j by omega];refine ⟨_, cxF (zhp p g none f (frN f X j) (by omega) (by omega) hf0), ?_⟩;conv => whnf
 refine hK _ ?_;clear hK K;refine W.seqK fun K7 hK7 => ?_;refine wrs fun K hK => ?_;conv => whnf
 by_cases h : frN f X (j + 1) = X
 ·have hjn : n = j + 1 := Classical.byContradiction fun h2 => hn.first (j + 1) (by omega) (by omega) h
  subst hjn;refine zc rfl ((zkM none g1 (frN f X (j + 1)).l X.l (by omega)).tr (decide_eq_true (by rw [h]))) fun hs' hhs => ?_;try dsimp only at hhs
  conv => whnf
  refine hK _ (W.condT rfl ?_);clear hK K;refine wrs fun K hK => ?_;conv => whnf
  refine hK _ ?_;clear hK K;refine W.ret ?_;conv => whnf
  exact ⟨.v (zff f X (j + 1)), ⟨rfl, rfl, rfl, fun _ _ => rfl⟩, ⟨trivial, fun _ _ => trivial⟩, rfl⟩
 ·have hjn : j + 1 ≠ n := fun h2 => h (h2 ▸ hn.back);refine zc rfl ((zkM none g1 (frN f X (j + 1)).l X.l (by omega)).fa (decide_eq_false fun h2 => h (jr h2))) fun hs' hhs => ?_;try dsimp only at hhs
  conv => whnf
  refine hK _ (W.condF rfl (W.skip (hK7 _ ?_)));clear hK K hK7 K7;refine wrg ?_;conv => whnf
  refine ⟨⟨rfl, by decide, fun x hx => by simp at hx; subst hx; exact ⟨rfl, rfl⟩⟩, ?_⟩;conv => whnf
  intro b_4 hs_4 hh_4 hf_4;try dsimp only at hh_4 hf_4
  conv => whnf
  refine ⟨by omega, ?_⟩;conv => whnf
  refine ⟨fun i => .ints none (frN f X i).l, fun i hi => rfl, fun i hi => ?_, ?_⟩
  ·obtain rfl : i = 0 := by omega
   rfl
  intro b_5 hs_5 hh_5 hf_5;try dsimp only at hh_5 hf_5
  conv => whnf
  exact zl ⟨j + 1, b_5, by omega, rfl, rfl⟩

theorem zcf (kp : Int) (kl x : List Int) (k : Int) (_ : inR kp) (_ : inR k) (hkl : kl.length <= 1048576) (hx : x.length <= 1048576) : ∃ (r0 : Bool) (r1 : Int),
  (∀ g0 g1 : Option Nat, FnV 63 [vK kp g0 kl, .ints g1 x, .int .i64 k] (.tup [.bool r0, .int .i64 r1])) ∧ (∀ g0 g1 : Option Nat, FnV 62 [vK kp g0 kl, .ints g1 x, .int .i64 k] (.tup [.bool r0, .int .i64 r1])) := by
 generalize hc : xC kp kl x = c
 by_cases h0 : c = 0
 case neg =>
  refine ⟨false, c, fun g0 g1 => ?_, fun g0 g1 => ?_⟩
  ·refine ze (za [0, 1, 2, 3, 6, 7, 8, 32, 34]) Tryz.func63 rfl (by decide) Tryz.ntmps63 (Nat.le_of_ble_eq_true rfl) fun base => ?_;refine wrs fun K hK => ?_;conv => whnf
   refine ⟨rfl, ?_⟩;conv => whnf
   intro b_1 hs_1 hh_1 hf_1;try dsimp only at hh_1 hf_1
   conv => whnf
   refine hK _ ?_;clear hK K;refine wrs fun K hK => ?_;conv => whnf
   refine zc rfl (z8 kp g0 g1 g1 kl x (by omega) (by omega)) fun hs' hhs => ?_;try dsimp only at hhs
   conv => whnf
   rw [hc];refine hK _ ?_;clear hK K;refine W.seqK fun K1 hK1 => ?_;refine wrs fun K hK => ?_;conv => whnf
   refine ⟨fun h => ?_, fun h => ?_⟩ <;> conv => whnf
   ·exact absurd (of_decide_eq_true h) h0
   refine hK _ (W.condF rfl (W.skip (hK1 _ ?_)));clear hK K hK1 K1;refine W.seqK fun K1 hK1 => ?_;refine wrs fun K hK => ?_;conv => whnf
   refine hK _ (W.cond ⟨fun _ => ?_, fun hcc => absurd h0 (of_decide_eq_false hcc)⟩);clear hK K;refine wrs fun K hK => ?_;conv => whnf
   refine hK _ ?_;clear hK K;refine W.ret ?_;conv => whnf
   exact ⟨.v (.bool false), rfl, trivial, .v (.int .i64 c), ⟨rfl, rfl⟩, trivial, rfl⟩
  ·refine ze (za [0, 1, 2, 3, 6, 7, 8, 9, 15, 26, 28, 29, 30]) Tryz.func62 rfl (by decide) Tryz.ntmps62 (Nat.le_of_ble_eq_true rfl) fun base => ?_;refine wrs fun K hK => ?_;conv => whnf
   refine ⟨rfl, ?_⟩;conv => whnf
   intro b_1 hs_1 hh_1 hf_1;try dsimp only at hh_1 hf_1
   conv => whnf
   refine hK _ ?_;clear hK K;refine W.seqK fun K1 hK1 => ?_;refine wrs fun K hK => ?_;conv => whnf
   refine ⟨⟨rfl, by decide, fun x hx => (by simp at hx; subst hx; exact ⟨rfl, rfl⟩)⟩, ?_⟩;conv => whnf
   intro b_2 hs_2 hh_2 hf_2;try dsimp only at hh_2 hf_2
   conv => whnf
   refine zc rfl (yH kp g0 (some b_2) kl 1 _ (fun _ => x) (by omega) (by omega) (zfb g1 x)) fun hs' hhs => ?_;try dsimp only at hhs
   conv => whnf
   rw [show zr kp kl true 1 (fun _ => x) = c from hc];refine hK _ ?_;clear hK K;refine wrs fun K hK => ?_;conv => whnf
   refine hK _ (W.cond ⟨fun _ => ?_, fun hcc => absurd h0 (of_decide_eq_false hcc)⟩);clear hK K;refine wrs fun K hK => ?_;conv => whnf
   refine hK _ ?_;clear hK K;refine W.ret ?_;conv => whnf
   exact ⟨.v (.bool false), rfl, trivial, .v (.int .i64 c), ⟨rfl, rfl⟩, trivial, rfl⟩
 subst h0;obtain ⟨hk, hh⟩ := zaH hc;obtain ⟨hp, f, rfl, hfi, _, _, hf9⟩ := vQ hk;letI := yE hp;obtain ⟨X, rfl⟩ := vR hh.1;have hxl : X.l.length < f.l.length := hh.2;have hfl : f.l.length = dg f := rfl;have hXl : X.l.length = dg X := rfl;have hf0 := hfi.ne;have hp1 := zX hp;have h2 := hfi.1;obtain ⟨d, hd⟩ : ∃ d, dg f = d + 1 := ⟨dg f - 1, by omega⟩
 have hfe : ((f.l.length : Int) - 1) = ((d : Nat) : Int) := by omega
 by_cases he : 1 <= k ∧ k <= d
 case neg =>
  refine ⟨false, 2, fun g0 g1 => ?_, fun g0 g1 => ?_⟩
  ·refine ze (za [0, 1, 2, 3, 6, 7, 8, 32, 34]) Tryz.func63 rfl (by decide) Tryz.ntmps63 (Nat.le_of_ble_eq_true rfl) fun base => ?_;refine wrs fun K hK => ?_;conv => whnf
   refine ⟨rfl, ?_⟩;conv => whnf
   intro b_1 hs_1 hh_1 hf_1;try dsimp only at hh_1 hf_1
   conv => whnf
   refine hK _ ?_;clear hK K;refine wrs fun K hK => ?_;conv => whnf
   refine zc rfl (z8 kp g0 g1 g1 f.l X.l (by omega) (by omega)) fun hs' hhs => ?_;try dsimp only at hhs
   conv => whnf
   rw [hc];refine hK _ ?_;clear hK K;refine W.seqK fun K1 hK1 => ?_;refine wrs fun K hK => ?_;conv => whnf
   refine ⟨fun h => ?_, fun h => ?_⟩ <;> conv => whnf
   ·refine ⟨oo, ?_⟩;conv => whnf
    rw [hfe];refine zc rfl ((kq k 1 (d : Nat)).fa (decide_eq_false he)) fun hs' hhs => ?_;try dsimp only at hhs
    conv => whnf
    refine hK _ (W.condT rfl ?_);clear hK K;refine wrg ?_;conv => whnf
    refine hK1 _ ?_;clear hK1 K1;refine W.seqK fun K1 hK1 => ?_;refine wrs fun K hK => ?_;conv => whnf
    refine hK _ (W.cond ⟨fun _ => ?_, fun hcc => absurd (by decide : (2 : Int) ≠ 0) (of_decide_eq_false hcc)⟩);clear hK K;refine wrs fun K hK => ?_;conv => whnf
    refine hK _ ?_;clear hK K;refine W.ret ?_;conv => whnf
    exact ⟨.v (.bool false), rfl, trivial, .v (.int .i64 2), ⟨rfl, rfl⟩, trivial, rfl⟩
   ·exact absurd rfl (of_decide_eq_false h)
  ·refine ze (za [0, 1, 2, 3, 6, 7, 8, 9, 15, 26, 28, 29, 30]) Tryz.func62 rfl (by decide) Tryz.ntmps62 (Nat.le_of_ble_eq_true rfl) fun base => ?_;refine wrs fun K hK => ?_;conv => whnf
   refine ⟨rfl, ?_⟩;conv => whnf
   intro b_1 hs_1 hh_1 hf_1;try dsimp only at hh_1 hf_1
   conv => whnf
   refine hK _ ?_;clear hK K;refine W.seqK fun K1 hK1 => ?_;refine wrs fun K hK => ?_;conv => whnf
   refine ⟨⟨rfl, by decide, fun x hx => (by simp at hx; subst hx; exact ⟨rfl, rfl⟩)⟩, ?_⟩;conv => whnf
   intro b_2 hs_2 hh_2 hf_2;try dsimp only at hh_2 hf_2
   conv => whnf
   refine zc rfl (yH kp g0 (some b_2) f.l 1 _ (fun _ => X.l) (by omega) (by omega) (zfb g1 X.l)) fun hs' hhs => ?_;try dsimp only at hhs
   conv => whnf
   rw [show zr kp f.l true 1 (fun _ => X.l) = 0 from hc];refine hK _ ?_;clear hK K;refine wrs fun K hK => ?_;conv => whnf
   refine hK _ (W.cond ⟨fun hcc => absurd rfl (of_decide_eq_true hcc), fun _ => W.skip (hK1 _ ?_)⟩);clear hK K hK1 K1;refine W.seqK fun K1 hK1 => ?_;refine wrs fun K hK => ?_;conv => whnf
   refine ⟨fun h => ?_, fun h => ?_⟩ <;> conv => whnf
   ·refine hK _ (W.condT rfl ?_);clear hK K;refine wrs fun K hK => ?_;conv => whnf
    refine hK _ ?_;clear hK K;refine W.ret ?_;conv => whnf
    exact ⟨.v (.bool false), rfl, trivial, .v (.int .i64 2), ⟨rfl, rfl⟩, trivial, rfl⟩
   ·have h := of_decide_eq_false h;have hgt : (d : Int) < k := by omega
    have hm : ((d : Int)).tmod k = d := by rw [Int.tmod_eq_emod_of_nonneg (by omega)]; exact Int.emod_eq_of_lt (by omega) hgt
    refine zc rfl (jd g0 f.l (by omega)) fun hs' hhs => ?_;try dsimp only at hhs
    conv => whnf
    rw [hfe];refine ⟨by omega, ?_⟩;conv => whnf
    rw [hm];refine hK _ (W.cond ⟨fun _ => ?_, fun h4 => absurd (of_decide_eq_false h4) (by omega)⟩);clear hK K;refine wrs fun K hK => ?_;conv => whnf
    refine hK _ ?_;clear hK K;refine W.ret ?_;conv => whnf
    exact ⟨.v (.bool false), rfl, trivial, .v (.int .i64 2), ⟨rfl, rfl⟩, trivial, rfl⟩
 obtain ⟨k, rfl⟩ : ∃ j : Nat, k = j := ⟨k.toNat, by omega⟩
 have hmd : ((d : Int)).tmod (k : Nat) = ((d % k : Nat) : Int) := zcc d k
 by_cases hdv : d % k = 0
 case neg =>
  refine ⟨false, 2, fun g0 g1 => ?_, fun g0 g1 => ?_⟩
  ·refine ze (za [0, 1, 2, 3, 6, 7, 8, 32, 34]) Tryz.func63 rfl (by decide) Tryz.ntmps63 (Nat.le_of_ble_eq_true rfl) fun base => ?_;refine wrs fun K hK => ?_;conv => whnf
   refine ⟨rfl, ?_⟩;conv => whnf
   intro b_1 hs_1 hh_1 hf_1;try dsimp only at hh_1 hf_1
   conv => whnf
   refine hK _ ?_;clear hK K;refine wrs fun K hK => ?_;conv => whnf
   refine zc rfl (z8 kp g0 g1 g1 f.l X.l (by omega) (by omega)) fun hs' hhs => ?_;try dsimp only at hhs
   conv => whnf
   rw [hc];refine hK _ ?_;clear hK K;refine W.seqK fun K1 hK1 => ?_;refine wrs fun K hK => ?_;conv => whnf
   refine ⟨fun h => ?_, fun h => ?_⟩ <;> conv => whnf
   ·refine ⟨oo, ?_⟩;conv => whnf
    rw [hfe];refine zc rfl ((kq (k : Nat) 1 (d : Nat)).tr (decide_eq_true he)) fun hs' hhs => ?_;try dsimp only at hhs
    conv => whnf
    refine ⟨oo, ?_⟩;conv => whnf
    rw [hfe];refine ⟨by omega, ?_⟩;conv => whnf
    rw [hmd];refine hK _ (W.cond ⟨fun _ => ?_, fun h4 => absurd (of_decide_eq_false h4) (by omega)⟩);clear hK K;refine wrg ?_;conv => whnf
    refine hK1 _ ?_;clear hK1 K1;refine W.seqK fun K1 hK1 => ?_;refine wrs fun K hK => ?_;conv => whnf
    refine hK _ (W.cond ⟨fun _ => ?_, fun hcc => absurd (by decide : (2 : Int) ≠ 0) (of_decide_eq_false hcc)⟩);clear hK K;refine wrs fun K hK => ?_;conv => whnf
    refine hK _ ?_;clear hK K;refine W.ret ?_;conv => whnf
    exact ⟨.v (.bool false), rfl, trivial, .v (.int .i64 2), ⟨rfl, rfl⟩, trivial, rfl⟩
   ·exact absurd rfl (of_decide_eq_false h)
  ·refine ze (za [0, 1, 2, 3, 6, 7, 8, 9, 15, 26, 28, 29, 30]) Tryz.func62 rfl (by decide) Tryz.ntmps62 (Nat.le_of_ble_eq_true rfl) fun base => ?_;refine wrs fun K hK => ?_;conv => whnf
   refine ⟨rfl, ?_⟩;conv => whnf
   intro b_1 hs_1 hh_1 hf_1;try dsimp only at hh_1 hf_1
   conv => whnf
   refine hK _ ?_;clear hK K;refine W.seqK fun K1 hK1 => ?_;refine wrs fun K hK => ?_;conv => whnf
   refine ⟨⟨rfl, by decide, fun x hx => (by simp at hx; subst hx; exact ⟨rfl, rfl⟩)⟩, ?_⟩;conv => whnf
   intro b_2 hs_2 hh_2 hf_2;try dsimp only at hh_2 hf_2
   conv => whnf
   refine zc rfl (yH kp g0 (some b_2) f.l 1 _ (fun _ => X.l) (by omega) (by omega) (zfb g1 X.l)) fun hs' hhs => ?_;try dsimp only at hhs
   conv => whnf
   rw [show zr kp f.l true 1 (fun _ => X.l) = 0 from hc];refine hK _ ?_;clear hK K;refine wrs fun K hK => ?_;conv => whnf
   refine hK _ (W.cond ⟨fun hcc => absurd rfl (of_decide_eq_true hcc), fun _ => W.skip (hK1 _ ?_)⟩);clear hK K hK1 K1;refine W.seqK fun K1 hK1 => ?_;refine wrs fun K hK => ?_;conv => whnf
   refine ⟨fun h => ?_, fun h => ?_⟩ <;> conv => whnf
   ·exact absurd (of_decide_eq_true h) (by omega)
   ·refine zc rfl (jd g0 f.l (by omega)) fun hs' hhs => ?_;try dsimp only at hhs
    conv => whnf
    rw [hfe];refine ⟨by omega, ?_⟩;conv => whnf
    rw [hmd];refine hK _ (W.cond ⟨fun _ => ?_, fun h4 => absurd (of_decide_eq_false h4) (by omega)⟩);clear hK K;refine wrs fun K hK => ?_;conv => whnf
    refine hK _ ?_;clear hK K;refine W.ret ?_;conv => whnf
    exact ⟨.v (.bool false), rfl, trivial, .v (.int .i64 2), ⟨rfl, rfl⟩, trivial, rfl⟩
 obtain ⟨n, hn, hn2⟩ := jw hfi hxl hd;have hn0 := hn.pos;have hper := hn.iff k;have hF := zbv hf0 hxl;have hb : decide ((frN f X k).l = X.l) = decide (((k % n : Nat) : Int) = 0) := decide_eq_decide.2 ⟨fun h => by have := hper.1 (jr h); omega, fun h => by rw [hper.2 (by omega)]⟩;refine ⟨decide ((frN f X k).l = X.l), 0, fun g0 g1 => ?_, fun g0 g1 => ?_⟩
 ·refine ze (za [0, 1, 2, 3, 6, 7, 8, 32, 34]) Tryz.func63 rfl (by decide) Tryz.ntmps63 (Nat.le_of_ble_eq_true rfl) fun base => ?_;refine wrs fun K hK => ?_;conv => whnf
  refine ⟨rfl, ?_⟩;conv => whnf
  intro b_1 hs_1 hh_1 hf_1;try dsimp only at hh_1 hf_1
  conv => whnf
  refine hK _ ?_;clear hK K;refine wrs fun K hK => ?_;conv => whnf
  refine zc rfl (z8 kp g0 g1 g1 f.l X.l (by omega) (by omega)) fun hs' hhs => ?_;try dsimp only at hhs
  conv => whnf
  rw [hc];refine hK _ ?_;clear hK K;refine W.seqK fun K1 hK1 => ?_;refine wrs fun K hK => ?_;conv => whnf
  refine ⟨fun h => ?_, fun h => ?_⟩ <;> conv => whnf
  ·refine ⟨oo, ?_⟩;conv => whnf
   rw [hfe];refine zc rfl ((kq (k : Nat) 1 (d : Nat)).tr (decide_eq_true he)) fun hs' hhs => ?_;try dsimp only at hhs
   conv => whnf
   refine ⟨oo, ?_⟩;conv => whnf
   rw [hfe];refine ⟨by omega, ?_⟩;conv => whnf
   rw [hmd];refine hK _ (W.cond ⟨fun h4 => absurd (of_decide_eq_true h4) (by omega), fun _ => W.skip (hK1 _ ?_)⟩);clear hK K hK1 K1;refine W.seqK fun K1 hK1 => ?_;refine wrs fun K hK => ?_;conv => whnf
   refine hK _ (W.cond ⟨fun hcc => absurd rfl (of_decide_eq_true hcc), fun _ => W.skip (hK1 _ ?_)⟩);clear hK K hK1 K1;refine wrs fun K hK => ?_;conv => whnf
   refine zc rfl (vD kp g0 g1 f X (by omega) hf0 hxl n hn (by omega)) fun hs' hhs => ?_;try dsimp only at hhs
   conv => whnf
   refine ⟨by omega, ?_⟩;conv => whnf
   rw [zcc];refine hK _ ?_;clear hK K;refine W.ret ?_;conv => whnf
   exact ⟨.v (.bool (decide ((frN f X k).l = X.l))), hb.symm, trivial, .v (.int .i64 0), ⟨rfl, rfl⟩, trivial, rfl⟩
  ·exact absurd rfl (of_decide_eq_false h)
 ·refine ze (za [0, 1, 2, 3, 6, 7, 8, 9, 15, 26, 28, 29, 30]) Tryz.func62 rfl (by decide) Tryz.ntmps62 (Nat.le_of_ble_eq_true rfl) fun base => ?_;refine wrs fun K hK => ?_;conv => whnf
  refine ⟨rfl, ?_⟩;conv => whnf
  intro b_1 hs_1 hh_1 hf_1;try dsimp only at hh_1 hf_1
  conv => whnf
  refine hK _ ?_;clear hK K;refine W.seqK fun K1 hK1 => ?_;refine wrs fun K hK => ?_;conv => whnf
  refine ⟨⟨rfl, by decide, fun x hx => (by simp at hx; subst hx; exact ⟨rfl, rfl⟩)⟩, ?_⟩;conv => whnf
  intro b_2 hs_2 hh_2 hf_2;try dsimp only at hh_2 hf_2
  conv => whnf
  refine zc rfl (yH kp g0 (some b_2) f.l 1 _ (fun _ => X.l) (by omega) (by omega) (zfb g1 X.l)) fun hs' hhs => ?_;try dsimp only at hhs
  conv => whnf
  rw [show zr kp f.l true 1 (fun _ => X.l) = 0 from hc];refine hK _ ?_;clear hK K;refine wrs fun K hK => ?_;conv => whnf
  refine hK _ (W.cond ⟨fun hcc => absurd rfl (of_decide_eq_true hcc), fun _ => W.skip (hK1 _ ?_)⟩);clear hK K hK1 K1;refine W.seqK fun K1 hK1 => ?_;refine wrs fun K hK => ?_;conv => whnf
  refine ⟨fun h => ?_, fun h => ?_⟩ <;> conv => whnf
  ·exact absurd (of_decide_eq_true h) (by omega)
  ·refine zc rfl (jd g0 f.l (by omega)) fun hs' hhs => ?_;try dsimp only at hhs
   conv => whnf
   rw [hfe];refine ⟨by omega, ?_⟩;conv => whnf
   rw [hmd];refine hK _ (W.cond ⟨fun h4 => absurd (of_decide_eq_true h4) (by omega), fun _ => W.skip (hK1 _ ?_)⟩);clear hK K hK1 K1;refine wrs fun K hK => ?_;conv => whnf
   refine hK _ ?_;clear hK K;refine W.seqK fun K1 hK1 => ?_;refine wrs fun K hK => ?_;conv => whnf
   refine hK _ (W.block (W.invA (fun m e => ∃ (j : Nat) (g' : Option Nat), j <= k ∧ m = k - j ∧ e = [(1, .v (.ints g1 X.l)), (3, .ownB b_1 (vK kp g0 f.l)), (9, .v (.ints g' (frN f X j).l)), (28, .v (.int .i64 (k : Nat))), (29, .v (.int .i64 j))]) ⟨0, g1, Nat.zero_le _, rfl, rfl⟩ ?_));clear hK K;rintro m e ⟨j, g', hj, hm, rfl⟩;have hFj := hF j;have hFl : (frN f X j).l.length = dg (frN f X j) := rfl;refine wrs fun K hK => ?_;conv => whnf
   refine hK _ ?_;clear hK K;refine W.seqK fun K7 hK7 => W.cond ⟨fun h2 => ?_, fun h2 => ?_⟩ <;> (first | replace h2 := of_decide_eq_true h2 | replace h2 := of_decide_eq_false h2)
   ·refine W.skip (hK7 _ ?_);clear hK7 K7;refine W.seqK fun K8 hK8 => W.block ?_;refine wrg ?_;conv => whnf
    refine zc rfl (znA kp g0 g' f (frN f X j) (by omega) (by omega) hf0) fun hs' hhs => ?_;try dsimp only at hhs
    conv => whnf
    refine hK8 _ ?_;clear hK8 K8;refine wrg ?_;conv => whnf
    refine ⟨oo, ?_⟩;conv => whnf
    exact zl ⟨j + 1, none, by omega, rfl, rfl⟩
   ·obtain rfl : j = k := by omega
    refine W.exit (hK1 _ ?_);clear hK7 K7 hK1 K1;refine wrs fun K hK => ?_;conv => whnf
    refine zc rfl (zfe g' g1 (frN f X j).l X.l (by omega)) fun hs' hhs => ?_;try dsimp only at hhs
    conv => whnf
    refine hK _ ?_;clear hK K;refine W.ret ?_;conv => whnf
    exact ⟨.v (.bool (decide ((frN f X j).l = X.l))), rfl, trivial, .v (.int .i64 0), ⟨rfl, rfl⟩, trivial, rfl⟩


abbrev vLL (L : List (List Int)) : V := .vals none 1 L.length fun j => .ints none (L.getD j [])
abbrev vRF (L : List (List Int)) (bs : Nat -> Nat) : V := .vals none 1 L.length fun j => .rf (bs j) (L.getD j []).length
def RTS (L : List (List Int)) (c : Int) : za1 := fun _ _ x tb => ∃ bs : Nat -> Nat, x = .tup [.vals none 1 L.length (fun j => .rf (bs j) (L.getD j []).length), .int .i64 c] ∧
 (∀ j, j < L.length -> L.getD j [] ≠ [] -> tb (bs j) = some (L.getD j [])) ∧ (∀ i j, i < L.length -> j < L.length -> i ≠ j -> L.getD i [] ≠ [] -> L.getD j [] ≠ [] -> bs i ≠ bs j)
noncomputable def zfA {p : Int} [SP p] (f X : Poly p) (n : Nat) : List (List Int) := (List.range n).map fun j => (frN f X j).l
theorem ziX {p : Int} [SP p] (f X : Poly p) (n : Nat) : (zfA f X n).length = n := by simp [zfA]
theorem zaU {p : Int} [SP p] (f X : Poly p) {n j : Nat} (h : j < n) : (zfA f X n).getD j [] = (frN f X j).l := by
 unfold zfA;rw [List.getD_eq_getElem?_getD];simp [h]
theorem zjZ {p : Int} [SP p] (f X : Poly p) (n : Nat) (hF : ∀ j, dg (frN f X j) < dg f) (h9 : dg f <= 9) (j : Nat) : ((zfA f X n).getD j []).length <= 9 := by
 by_cases h : j < n
 ·rw [zaU f X h]; have := hF j; show dg _ <= _; omega
 ·rw [List.getD_eq_getElem?_getD, List.getElem?_eq_none (by rw [ziX]; omega)]; simp

theorem zcg (p : Int) [SP p] (g g1 : Option Nat) (f X : Poly p) (hf : dg f <= 500) (hf0 : f ≠ 0) (hX : dg X < dg f) (n : Nat) (hn : Per f X n) (hn2 : n <= 1000) :
  FnT Tryz.prog 212 [vK p g f.l, .ints g1 X.l] (fun _ _ x tb => ∃ bs : Nat -> Nat, x = .vals none 1 n (fun j => .rf (bs j) (frN f X j).l.length) ∧
   (∀ j, j < n -> (frN f X j).l ≠ [] -> tb (bs j) = some (frN f X j).l) ∧ (∀ i j, i < n -> j < n -> i ≠ j -> (frN f X i).l ≠ [] -> (frN f X j).l ≠ [] -> bs i ≠ bs j)) := by
 have hF := zbv hf0 hX;have hXl : X.l.length = dg X := rfl;have hpos := hn.pos;refine yT (zm [] [0, 1, 2, 4, 5, 6, 16, 1000000]) Tryz.func212 rfl (by decide) Tryz.ntmps212 (Nat.le_of_ble_eq_true rfl) (fun base => ?_) (Nat.le_of_ble_eq_true rfl);refine W.sw (c' := cx [0, 1, 2, 4, 5, 6, 16, 1000000]) ?_;refine wrs fun K hK => ?_;conv => whnf
 refine ⟨rfl, ?_⟩;conv => whnf
 intro b_2 hs_2 hh_2 hf_2;try dsimp only at hh_2 hf_2
 conv => whnf
 refine hK _ ?_;clear hK K;refine W.sw (c' := cxt [] [0, 1, 2, 4, 5, 6, 16, 1000000]) ?_;refine W.rs (zm _ _) (by rfl) fun K hK => ?_;conv => whnf
 refine zD rfl (zb5 g1 X.l (by omega)) fun hs_3 b_3 hh_3 hf_3 => ?_;try dsimp only at hh_3 hf_3
 conv => whnf
 refine ⟨⟨rfl, by decide, fun x hx => by simp at hx; subst hx; exact ⟨rfl, rfl⟩⟩, ?_⟩;conv => whnf
 intro b_4 hs_4 hh_4 hf_4;try dsimp only at hh_4 hf_4
 conv => whnf
 refine hK _ ?_;clear hK K
 have inj : ∀ (bs : Nat -> Nat) (j b : Nat), (∀ i, i <= j -> (frN f X i).l ≠ [] -> (frN f X (j + 1)).l ≠ [] -> b ≠ bs i) ->
   (∀ i i', i <= j -> i' <= j -> i ≠ i' -> (frN f X i).l ≠ [] -> (frN f X i').l ≠ [] -> bs i ≠ bs i') -> ∀ i i', i <= j + 1 -> i' <= j + 1 -> i ≠ i' -> (frN f X i).l ≠ [] -> (frN f X i').l ≠ [] -> (if i = j + 1 then b else bs i) ≠ (if i' = j + 1 then b else bs i') := by
  intro bs j b h2 h3 i i' hi hi' hne h4 h5
  by_cases h6 : i = j + 1
  ·rw [if_pos h6, if_neg (by omega)]; exact h2 i' (by omega) h5 (h6 ▸ h4)
  ·rw [if_neg h6]
   by_cases h7 : i' = j + 1
   ·rw [if_pos h7]; exact fun e => h2 i (by omega) h4 (h7 ▸ h5) e.symm
   ·rw [if_neg h7]; exact h3 i i' (by omega) (by omega) hne h4 h5
 refine W.seqK fun K1 hK1 => ?_;refine W.tick rfl fun hs9 hhs9 hbb => ?_;dsimp only at hhs9
 refine W.sw (c' := cxt [218] [0, 1, 2, 4, 5, 6, 16, 1000000]) ?_;refine W.rs (zm _ _) (by rfl) fun K hK => ?_;conv => whnf
 refine ⟨_, cxT (zkL p g g1 f X (by omega) (by omega) hf0), fun lo_y hi_y hs_y x_y tn_y tb_y hl1_y hl2_y _ hp_y hf_y hn_y ho_y => ?_⟩;try dsimp only at hl1_y hl2_y
 obtain ⟨b0, rfl, hy0⟩ := hp_y;conv => whnf
 refine hK _ ?_;clear hK K;refine W.sw (c' := cxt [] [0, 1, 2, 4, 5, 6, 16, 1000000]) ?_;refine W.block (W.invE (fun m e => ∃ (j b : Nat) (bs : Nat -> Nat) (by' : Nat) (tb : Tab), j < n ∧ (∀ i, i <= j -> (frN f X i).l ≠ [] -> tb (bs i) = some (frN f X i).l) ∧ ((frN f X (j + 1)).l ≠ [] -> tb by' = some (frN f X (j + 1)).l) ∧ (∀ i, i <= j -> (frN f X i).l ≠ [] -> (frN f X (j + 1)).l ≠ [] -> by' ≠ bs i) ∧ (∀ i i', i <= j -> i' <= j -> i ≠ i' -> (frN f X i).l ≠ [] -> (frN f X i').l ≠ [] -> bs i ≠ bs i') ∧ m = n - j ∧ e = [(vt, .tab tb), (1, .v (.ints g1 X.l)), (2, .ownB b_2 (vK p g f.l)), (5, .ownV 24 1 b (j + 1) fun i => .rf (bs i) (frN f X i).l.length), (6, .v (.rf by' (frN f X (j + 1)).l.length))]) _ _ ⟨0, b_4, fun _ => b_3, b0, tb_y, hpos, fun i hi h => ?_, fun h => hn_y _ _ (hy0 h), fun i hi h h' e => ?_, fun i i' hi hi' hne => by omega, rfl, rfl⟩ (by dsimp only; omega) (by repeat' first | refine And.intro ?_ ?_ | exact trivial | rfl | omega | exact fun _ _ h => h | exact fun i hi => (by obtain rfl : i = 0 := (by omega); rfl)) ?_)
 ·obtain rfl : i = 0 := by omega
  exact ho_y _ _ (xf _ _ h)
 ·obtain rfl : i = 0 := by omega
  have e : b0 = b_3 := e;have k1 := hf_y b0 (by rw [hy0 h']; simp);have k2 := hbb b_3 (by have := xf (fun _ => none) b_3 (xs := X.l) h; rw [this]; simp);omega
 rintro m e ⟨j, b, bs, by', tb, hj, h1, h2, h3, h4, hm, rfl⟩;have hF1 := hF (j + 1);have hFl : (frN f X (j + 1)).l.length = dg (frN f X (j + 1)) := rfl;refine W.seqK fun K7 hK7 => ?_;refine W.rs (zm _ _) (by rfl) fun K hK => ?_;conv => whnf
 refine ⟨(frN f X (j + 1)).l, ⟨rfl, h2⟩, ?_⟩;conv => whnf
 by_cases h : frN f X (j + 1) = X
 ·have hjn : n = j + 1 := Classical.byContradiction fun h2 => hn.first (j + 1) (by omega) (by omega) h
  subst hjn;refine zc rfl ((zfe (some by') g1 (frN f X (j + 1)).l X.l (by omega)).tr (decide_eq_true (by rw [h]))) fun hs' hhs => ?_;try dsimp only at hhs
  conv => whnf
  refine hK _ (W.condF rfl (W.exit (hK1 _ ?_)));clear hK K hK7 K7 hK1 K1;refine W.rs (zm _ _) (by rfl) fun K hK => ?_;conv => whnf
  refine hK _ ?_;clear hK K;refine W.ret ?_;conv => whnf
  exact ⟨.v (.vals none 1 (j + 1) fun i => .rf (bs i) (frN f X i).l.length), ⟨rfl, rfl, rfl, fun _ _ => rfl⟩, ⟨trivial, fun _ _ => trivial⟩, bs, rfl, fun i hi => h1 i (by omega), fun i i' hi hi' => h4 i i' (by omega) (by omega)⟩
 ·have hjn : j + 1 ≠ n := fun h2 => h (h2 ▸ hn.back);refine zc rfl ((zfe (some by') g1 (frN f X (j + 1)).l X.l (by omega)).fa (decide_eq_false fun h2 => h (jr h2))) fun hs' hhs => ?_;try dsimp only at hhs
  conv => whnf
  refine hK _ (W.condT rfl (W.skip (hK7 _ ?_)));clear hK K hK7 K7;refine W.seqK fun K8 hK8 => W.block ?_;refine W.region (zm _ _) (by rfl) ?_;conv => whnf
  refine ⟨⟨rfl, by decide, fun x hx => by simp at hx; subst hx; exact ⟨rfl, rfl⟩⟩, ?_⟩;conv => whnf
  intro b_5 hs_5 hh_5 hf_5;try dsimp only at hh_5 hf_5
  conv => whnf
  refine ⟨by omega, ?_⟩;conv => whnf
  refine ⟨fun i => .rf (if i = j + 1 then by' else bs i) (frN f X i).l.length, fun i hi => ?_, fun i hi => ?_, ?_⟩
  ·show V.rf (if i = j + 1 then by' else bs i) _ = V.rf (bs i) _
   rw [if_neg (by omega)]
  ·obtain rfl : i = 0 := by omega
   show V.rf (if j + 1 + 0 = j + 1 then by' else bs (j + 1 + 0)) _ = V.rf by' _
   rw [if_pos rfl]
  intro b_6 hs_6 hh_6 hf_6;try dsimp only at hh_6 hf_6
  conv => whnf
  refine hK8 _ ?_;clear hK8 K8;refine W.tick rfl fun hs8 hhs8 hbb8 => ?_;dsimp only at hhs8
  refine W.sw (c' := cxt [218] [0, 1, 2, 4, 5, 6, 16, 1000000]) ?_;refine W.region (zm _ _) (by rfl) ?_;conv => whnf
  refine ⟨(frN f X (j + 1)).l, ⟨rfl, h2⟩, ?_⟩;conv => whnf
  refine ⟨_, cxT (zkL p g (some by') f (frN f X (j + 1)) (by omega) (by omega) hf0), fun lo_z hi_z hs_z x_z tn_z tb_z hl1_z hl2_z _ hp_z hf_z hn_z ho_z => ?_⟩;try dsimp only at hl1_z hl2_z
  obtain ⟨b7, rfl, hy7⟩ := hp_z;conv => whnf
  refine ⟨_, _, ⟨j + 1, b_6, fun i => if i = j + 1 then by' else bs i, b7, tb_z, by omega, fun i hi hne => ?_, fun h => hn_z _ _ (hy7 h), fun i hi hne hne2 e => ?_, inj bs j by' h3 h4, rfl, rfl⟩, by omega, by dsimp only; omega, ?_⟩
  ·show tb_z (if i = j + 1 then by' else bs i) = _
   by_cases h6 : i = j + 1
   ·subst h6; rw [if_pos rfl]; exact ho_z _ _ (h2 hne)
   ·rw [if_neg h6]; exact ho_z _ _ (h1 i (by omega) hne)
  ·have e : b7 = if i = j + 1 then by' else bs i := e
   have k1 := hf_z b7 (by rw [hy7 hne2]; simp)
   have k2 : b7 < hs8 := by
    rw [e]
    by_cases h6 : i = j + 1
    ·subst h6; rw [if_pos rfl]; exact hbb8 _ (by rw [h2 hne]; simp)
    ·rw [if_neg h6]; exact hbb8 _ (by rw [h1 i (by omega) hne]; simp)
   omega
  ·repeat' first | refine And.intro ?_ ?_ | exact trivial | rfl | omega | exact fun _ _ => rfl | exact fun _ _ h => h

theorem zfg (kp : Int) (kl x : List Int) (_ : inR kp) (hkl : kl.length <= 1048576) (hx : x.length <= 1048576) : ∃ (r0 : List (List Int)) (r1 : Int),
  (∀ g0 g1 : Option Nat, FnV 60 [vK kp g0 kl, .ints g1 x] (.tup [vLL r0, .int .i64 r1])) ∧ (∀ g0 g1 : Option Nat, FnT Tryz.prog 59 [vK kp g0 kl, .ints g1 x] (RTS r0 r1)) ∧ r0.length <= 100000 ∧ (∀ j, (r0.getD j []).length <= 100000) ∧ r1 = xC kp kl x ∧
  (∀ hp : kp ∈ z6, letI := yE hp; ∀ f X : Poly kp, f.l = kl -> X.l = x -> xC kp kl x = 0 -> ∃ n, Per f X n ∧ r0.length = n) := by
 generalize hc : xC kp kl x = c
 by_cases h0 : c = 0
 case neg =>
  refine ⟨[], c, fun g0 g1 => ?_, fun g0 g1 => ?_, by simp, by simp, rfl, fun _ _ _ _ _ h => absurd h h0⟩
  ·refine ze (za [0, 1, 2, 4, 5, 6, 12]) Tryz.func60 rfl (by decide) Tryz.ntmps60 (Nat.le_of_ble_eq_true rfl) fun base => ?_;refine wrs fun K hK => ?_;conv => whnf
   refine ⟨rfl, ?_⟩;conv => whnf
   intro b_1 hs_1 hh_1 hf_1;try dsimp only at hh_1 hf_1
   conv => whnf
   refine hK _ ?_;clear hK K;refine wrs fun K hK => ?_;conv => whnf
   refine zc rfl (z8 kp g0 g1 g1 kl x (by omega) (by omega)) fun hs' hhs => ?_;try dsimp only at hhs
   conv => whnf
   rw [hc];refine hK _ ?_;clear hK K;refine W.seqK fun K1 hK1 => ?_;refine wrs fun K hK => ?_;conv => whnf
   refine hK _ (W.cond ⟨fun _ => ?_, fun hcc => absurd h0 (of_decide_eq_false hcc)⟩);clear hK K;refine wrs fun K hK => ?_;conv => whnf
   refine hK _ ?_;clear hK K;refine W.ret ?_;conv => whnf
   exact ⟨.v (vLL []), rfl, ⟨trivial, fun _ _ => trivial⟩, .v (.int .i64 c), ⟨rfl, rfl⟩, trivial, rfl⟩
  ·refine yT (zm [] [0, 1, 2, 4, 5, 6, 12, 1000000]) Tryz.func59 rfl (by decide) Tryz.ntmps59 (Nat.le_of_ble_eq_true rfl) (fun base => ?_) (Nat.le_of_ble_eq_true rfl);refine W.sw (c' := cx [0, 1, 2, 4, 5, 6, 12, 1000000]) ?_;refine wrs fun K hK => ?_;conv => whnf
   refine ⟨rfl, ?_⟩;conv => whnf
   intro b_1 hs_1 hh_1 hf_1;try dsimp only at hh_1 hf_1
   conv => whnf
   refine hK _ ?_;clear hK K;refine W.seqK fun K1 hK1 => ?_;refine wrs fun K hK => ?_;conv => whnf
   refine ⟨⟨rfl, by decide, fun x hx => (by simp at hx; subst hx; exact ⟨rfl, rfl⟩)⟩, ?_⟩;conv => whnf
   intro b_2 hs_2 hh_2 hf_2;try dsimp only at hh_2 hf_2
   conv => whnf
   refine zc rfl (yH kp g0 (some b_2) kl 1 _ (fun _ => x) (by omega) (by omega) (zfb g1 x)) fun hs' hhs => ?_;try dsimp only at hhs
   conv => whnf
   rw [show zr kp kl true 1 (fun _ => x) = c from hc];refine hK _ ?_;clear hK K;refine wrs fun K hK => ?_;conv => whnf
   refine hK _ (W.cond ⟨fun _ => ?_, fun hcc => absurd h0 (of_decide_eq_false hcc)⟩);clear hK K;refine wrs fun K hK => ?_;conv => whnf
   refine hK _ ?_;clear hK K;refine W.ret ?_;conv => whnf
   exact ⟨.v (vRF [] fun _ => 0), rfl, ⟨trivial, fun _ _ => trivial⟩, .v (.int .i64 c), ⟨rfl, rfl⟩, trivial, fun _ => 0, rfl, fun j hj => absurd hj (Nat.not_lt_zero j), fun i j hi => absurd hi (Nat.not_lt_zero i)⟩
 subst h0;obtain ⟨hk, hh⟩ := zaH hc;obtain ⟨hp, f, rfl, hfi, _, _, hf9⟩ := vQ hk;letI := yE hp;obtain ⟨X, rfl⟩ := vR hh.1;have hxl : X.l.length < f.l.length := hh.2;have hfl : f.l.length = dg f := rfl;have hXl : X.l.length = dg X := rfl;have hf0 := hfi.ne;have hp1 := zX hp;have h2 := hfi.1;obtain ⟨d, hd⟩ : ∃ d, dg f = d + 1 := ⟨dg f - 1, by omega⟩
 obtain ⟨n, hn, hn2⟩ := jw hfi hxl hd;have hF := zbv hf0 hxl;have hsm := zjZ f X n hF (by omega);have hcl := ziX f X n;refine ⟨zfA f X n, 0, fun g0 g1 => ?_, fun g0 g1 => ?_, by omega, fun j => Nat.le_trans (hsm j) (by omega), rfl, fun _ φ Y e1 e2 _ => (by obtain rfl := jr e1; obtain rfl := jr e2; exact ⟨n, hn, hcl⟩)⟩
 ·refine ze (za [0, 1, 2, 4, 5, 6, 12]) Tryz.func60 rfl (by decide) Tryz.ntmps60 (Nat.le_of_ble_eq_true rfl) fun base => ?_;refine wrs fun K hK => ?_;conv => whnf
  refine ⟨rfl, ?_⟩;conv => whnf
  intro b_1 hs_1 hh_1 hf_1;try dsimp only at hh_1 hf_1
  conv => whnf
  refine hK _ ?_;clear hK K;refine wrs fun K hK => ?_;conv => whnf
  refine zc rfl (z8 kp g0 g1 g1 f.l X.l (by omega) (by omega)) fun hs' hhs => ?_;try dsimp only at hhs
  conv => whnf
  rw [hc];refine hK _ ?_;clear hK K;refine W.seqK fun K1 hK1 => ?_;refine wrs fun K hK => ?_;conv => whnf
  refine hK _ (W.cond ⟨fun hcc => absurd rfl (of_decide_eq_true hcc), fun _ => W.skip (hK1 _ ?_)⟩);clear hK K hK1 K1;refine wrs fun K hK => ?_;conv => whnf
  refine zc rfl (vD kp g0 g1 f X (by omega) hf0 hxl n hn (by omega)) fun hs' hhs => ?_;try dsimp only at hhs
  conv => whnf
  refine hK _ ?_;clear hK K;refine W.ret ?_;conv => whnf
  exact ⟨.v (vLL (zfA f X n)), ⟨rfl, rfl, hcl.symm, fun i hi => by show V.ints none _ = V.ints none ((zfA f X n).getD i []); rw [zaU f X hi]⟩, ⟨trivial, fun _ _ => trivial⟩, .v (.int .i64 0), ⟨rfl, rfl⟩, trivial, rfl⟩
 ·refine yT (zm [] [0, 1, 2, 4, 5, 6, 12, 1000000]) Tryz.func59 rfl (by decide) Tryz.ntmps59 (Nat.le_of_ble_eq_true rfl) (fun base => ?_) (Nat.le_of_ble_eq_true rfl);refine W.sw (c' := cx [0, 1, 2, 4, 5, 6, 12, 1000000]) ?_;refine wrs fun K hK => ?_;conv => whnf
  refine ⟨rfl, ?_⟩;conv => whnf
  intro b_1 hs_1 hh_1 hf_1;try dsimp only at hh_1 hf_1
  conv => whnf
  refine hK _ ?_;clear hK K;refine W.seqK fun K1 hK1 => ?_;refine wrs fun K hK => ?_;conv => whnf
  refine ⟨⟨rfl, by decide, fun x hx => (by simp at hx; subst hx; exact ⟨rfl, rfl⟩)⟩, ?_⟩;conv => whnf
  intro b_2 hs_2 hh_2 hf_2;try dsimp only at hh_2 hf_2
  conv => whnf
  refine zc rfl (yH kp g0 (some b_2) f.l 1 _ (fun _ => X.l) (by omega) (by omega) (zfb g1 X.l)) fun hs' hhs => ?_;try dsimp only at hhs
  conv => whnf
  rw [show zr kp f.l true 1 (fun _ => X.l) = 0 from hc];refine hK _ ?_;clear hK K;refine wrs fun K hK => ?_;conv => whnf
  refine hK _ (W.cond ⟨fun hcc => absurd rfl (of_decide_eq_true hcc), fun _ => W.skip (hK1 _ ?_)⟩);clear hK K hK1 K1;refine W.sw (c' := cxt [212] [0, 1, 2, 4, 5, 6, 12, 1000000]) ?_;refine W.rs (zm _ _) (by rfl) fun K hK => ?_;conv => whnf
  refine ⟨_, cxT (zcg kp g0 g1 f X (by omega) hf0 hxl n hn (by omega)), fun lo_t hi_t hs_t x_t tn_t tb_t hl1_t hl2_t _ hp_t hf_t hn_t ho_t => ?_⟩;try dsimp only at hl1_t hl2_t
  obtain ⟨bs, rfl, k1, k2⟩ := hp_t;conv => whnf
  refine hK _ ?_;clear hK K;refine W.ret ?_;conv => whnf
  refine ⟨.v (vRF (zfA f X n) bs), ⟨rfl, rfl, hcl.symm, fun i hi => by show V.rf (bs i) _ = V.rf (bs i) ((zfA f X n).getD i []).length; rw [zaU f X hi]⟩, ⟨trivial, fun _ _ => trivial⟩, .v (.int .i64 0), ⟨rfl, rfl⟩, trivial, bs, rfl, fun j hj hne => ?_, fun i j hi hj hij hne hne' => ?_⟩
  ·rw [hcl] at hj;rw [zaU f X hj] at hne ⊢;exact hn_t _ _ (k1 j hj hne)
  ·rw [hcl] at hi hj;rw [zaU f X hi] at hne;rw [zaU f X hj] at hne';exact k2 i j hi hj hij hne hne'


theorem R1w {f : Nat} {xs : List V} {l : List Int} (h : FnT Tryz.prog f xs (R1 l)) : FnV f xs (.ints none l) :=
 h.toV fun _ _ _ _ ⟨_, hx, hb⟩ => by subst hx; exact ⟨l, rfl, hb, rfl⟩

def yG (D : Nat -> List Int) (Q : Nat -> Bool) : Nat -> List (List Int)
 | 0 => []
 | k + 1 => if Q k = true then yG D Q k ++ [D k] else yG D Q k
theorem zaV (D : Nat -> List Int) (Q : Nat -> Bool) : ∀ k, (yG D Q k).length <= k
 | 0 => Nat.le_refl _
 | k + 1 => by
  have := zaV D Q k;rw [yG]; split
  ·simp; omega
  ·omega
theorem jP (L : List (List Int)) (d : List Int) {i : Nat} (h : i < L.length) : (L ++ [d]).getD i [] = L.getD i [] := by
 rw [List.getD_eq_getElem?_getD, List.getD_eq_getElem?_getD, List.getElem?_append_left h]
theorem jz (L : List (List Int)) (d : List Int) : (L ++ [d]).getD L.length [] = d := by
 rw [List.getD_eq_getElem?_getD]; simp
theorem zdm (D : Nat -> List Int) (Q : Nat -> Bool) (B : Nat) : ∀ k, (∀ i, i < k -> (D i).length <= B) -> ∀ j, ((yG D Q k).getD j []).length <= B
 | 0, _, j => by rw [yG]; simp
 | k + 1, h, j => by
  have ih := zdm D Q B k (fun i hi => h i (by omega)) j;rw [yG]; split
  ·rcases Nat.lt_trichotomy j (yG D Q k).length with h1 | h1 | h1
   ·rw [jP _ _ h1]; exact ih
   ·rw [h1, jz]; exact h k (by omega)
   ·rw [List.getD_eq_getElem?_getD, List.getElem?_eq_none (by simp; omega)]; simp
  ·exact ih

theorem zfh (D : Nat -> List Int) (Q : Nat -> Bool) : ∀ q j, j < (yG D Q q).length -> ∃ k, k < q ∧ (yG D Q q).getD j [] = D k ∧ Q k = true
 | 0, _, h => absurd h (by simp [yG])
 | q + 1, j, h => by
  rw [yG] at h ⊢
  by_cases hq : Q q = true
  ·rw [if_pos hq] at h ⊢
   by_cases hj : j < (yG D Q q).length
   ·obtain ⟨k, h1, h2, h3⟩ := zfh D Q q j hj;exact ⟨k, by omega, by rw [jP _ _ hj, h2], h3⟩
   ·obtain rfl : j = (yG D Q q).length := by simp at h; omega
    exact ⟨q, by omega, jz _ _, hq⟩
  ·rw [if_neg hq] at h ⊢;obtain ⟨k, h1, h2, h3⟩ := zfh D Q q j h;exact ⟨k, by omega, h2, h3⟩

theorem zfi (kp : Int) (kl F : List Int) (_ : inR kp) (hkl : kl.length <= 1048576) (hF : F.length <= 1048576) : ∃ (r0 : List (List Int)) (r1 : Int),
  (∀ g0 g1 : Option Nat, FnV 66 [vK kp g0 kl, .ints g1 F] (.tup [vLL r0, .int .i64 r1])) ∧ (∀ g0 g1 : Option Nat, FnT Tryz.prog 65 [vK kp g0 kl, .ints g1 F] (RTS r0 r1)) ∧ r0.length <= 100000 ∧ (∀ j, (r0.getD j []).length <= 100000) ∧ (r1 = 0 -> ∃ hp : kp ∈ z6, letI := yE hp; ∃ f Φ : Poly kp, f.l = kl ∧ Φ.l = F ∧ IsFld kp kl ∧ yc kp F ∧ ∀ j, j < r0.length -> ∃ X : Poly kp, r0.getD j [] = X.l ∧ dg X < dg f ∧ (yY f Φ X (dg Φ)).l.length = 0) := by
 by_cases hk : IsFld kp kl
 case neg =>
  have hc : zr kp kl (bP (yc kp F)) 0 (fun _ => []) = 1 := by unfold zr; rw [zh hk]; rfl
  refine ⟨[], 1, fun g0 g1 => ?_, fun g0 g1 => ?_, by simp, by simp, fun h => absurd h (by decide)⟩
  ·refine ze (za [0, 1, 2, 4, 5, 6, 7, 8, 11, 16, 19, 24, 35]) Tryz.func66 rfl (by decide) Tryz.ntmps66 (Nat.le_of_ble_eq_true rfl) fun base => ?_;refine wrs fun K hK => ?_;conv => whnf
   refine ⟨rfl, ?_⟩;conv => whnf
   intro b_1 hs_1 hh_1 hf_1;try dsimp only at hh_1 hf_1
   conv => whnf
   refine hK _ ?_;clear hK K;refine W.seqK fun K1 hK1 => ?_;refine wrs fun K hK => ?_;conv => whnf
   refine zc rfl ((z7 kp g0 kl (by omega)).fa (zh hk)) fun hs' hhs => ?_;try dsimp only at hhs
   conv => whnf
   refine hK _ (W.condT rfl ?_);clear hK K;refine wrs fun K hK => ?_;conv => whnf
   refine hK _ ?_;clear hK K;refine W.ret ?_;conv => whnf
   exact ⟨.v (vLL []), rfl, ⟨trivial, fun _ _ => trivial⟩, .v (.int .i64 1), ⟨rfl, rfl⟩, trivial, rfl⟩
  ·refine yT (zm [] [0, 1, 2, 4, 5, 6, 7, 8, 9, 17, 21, 23, 24, 25, 36, 1000000]) Tryz.func65 rfl (by decide) Tryz.ntmps65 (Nat.le_of_ble_eq_true rfl) (fun base => ?_) (Nat.le_of_ble_eq_true rfl);refine W.sw (c' := cx [0, 1, 2, 4, 5, 6, 7, 8, 9, 17, 21, 23, 24, 25, 36, 1000000]) ?_;refine wrs fun K hK => ?_;conv => whnf
   refine ⟨rfl, ?_⟩;conv => whnf
   intro b_1 hs_1 hh_1 hf_1;try dsimp only at hh_1 hf_1
   conv => whnf
   refine hK _ ?_;clear hK K;refine W.seqK fun K1 hK1 => ?_;refine W.rd (za _) follows (by rfl) fun K hK => ?_;conv => whnf
   refine ⟨_, cxF (zJ g1 kp F), ?_⟩;conv => whnf
   refine ⟨_, cxF (yy kp g0 none kl _ 0 _ (fun _ => []) (by omega) (by omega) (fun i hi => by omega)), ?_⟩;conv => whnf
   rw [hc];refine hK _ ?_;clear hK K;refine wrs fun K hK => ?_;conv => whnf
   refine hK _ (W.cond ⟨fun _ => ?_, fun hcc => absurd (by decide : (1 : Int) ≠ 0) (of_decide_eq_false hcc)⟩);clear hK K;refine wrs fun K hK => ?_;conv => whnf
   refine hK _ ?_;clear hK K;refine W.ret ?_;conv => whnf
   exact ⟨.v (vRF [] fun _ => 0), rfl, ⟨trivial, fun _ _ => trivial⟩, .v (.int .i64 1), ⟨rfl, rfl⟩, trivial, fun _ => 0, rfl, fun j hj => absurd hj (Nat.not_lt_zero j), fun i j hi => absurd hi (Nat.not_lt_zero i)⟩
 have hkk := hk;obtain ⟨hp, f, rfl, hi, _, _, hf9⟩ := vQ hk;letI := yE hp;have hp1 := zX hp;have hfl : f.l.length = dg f := rfl
 by_cases he : yc kp F
 case neg =>
  have hc : zr kp f.l (bP (yc kp F)) 0 (fun _ => []) = 2 := by unfold zr; rw [zj hk, zh he]; rfl
  refine ⟨[], 2, fun g0 g1 => ?_, fun g0 g1 => ?_, by simp, by simp, fun h => absurd h (by decide)⟩
  ·refine ze (za [0, 1, 2, 4, 5, 6, 7, 8, 11, 16, 19, 24, 35]) Tryz.func66 rfl (by decide) Tryz.ntmps66 (Nat.le_of_ble_eq_true rfl) fun base => ?_;refine wrs fun K hK => ?_;conv => whnf
   refine ⟨rfl, ?_⟩;conv => whnf
   intro b_1 hs_1 hh_1 hf_1;try dsimp only at hh_1 hf_1
   conv => whnf
   refine hK _ ?_;clear hK K;refine W.seqK fun K1 hK1 => ?_;refine wrs fun K hK => ?_;conv => whnf
   refine zc rfl ((z7 kp g0 f.l (by omega)).tr (zj hkk)) fun hs' hhs => ?_;try dsimp only at hhs
   conv => whnf
   refine hK _ (W.condF rfl (W.skip (hK1 _ ?_)));clear hK K hK1 K1;refine W.seqK fun K1 hK1 => ?_;refine wrs fun K hK => ?_;conv => whnf
   refine zc rfl ((yF g1 kp F (by omega)).fa (zh he)) fun hs' hhs => ?_;try dsimp only at hhs
   conv => whnf
   refine hK _ (W.condT rfl ?_);clear hK K;refine wrs fun K hK => ?_;conv => whnf
   refine hK _ ?_;clear hK K;refine W.ret ?_;conv => whnf
   exact ⟨.v (vLL []), rfl, ⟨trivial, fun _ _ => trivial⟩, .v (.int .i64 2), ⟨rfl, rfl⟩, trivial, rfl⟩
  ·refine yT (zm [] [0, 1, 2, 4, 5, 6, 7, 8, 9, 17, 21, 23, 24, 25, 36, 1000000]) Tryz.func65 rfl (by decide) Tryz.ntmps65 (Nat.le_of_ble_eq_true rfl) (fun base => ?_) (Nat.le_of_ble_eq_true rfl);refine W.sw (c' := cx [0, 1, 2, 4, 5, 6, 7, 8, 9, 17, 21, 23, 24, 25, 36, 1000000]) ?_;refine wrs fun K hK => ?_;conv => whnf
   refine ⟨rfl, ?_⟩;conv => whnf
   intro b_1 hs_1 hh_1 hf_1;try dsimp only at hh_1 hf_1
   conv => whnf
   refine hK _ ?_;clear hK K;refine W.seqK fun K1 hK1 => ?_;refine W.rd (za _) follows (by rfl) fun K hK => ?_;conv => whnf
   refine ⟨_, cxF (zJ g1 kp F), ?_⟩;conv => whnf
   refine ⟨_, cxF (yy kp g0 none f.l _ 0 _ (fun _ => []) (by omega) (by omega) (fun i hi => by omega)), ?_⟩;conv => whnf
   rw [hc];refine hK _ ?_;clear hK K;refine wrs fun K hK => ?_;conv => whnf
   refine hK _ (W.cond ⟨fun _ => ?_, fun hcc => absurd (by decide : (2 : Int) ≠ 0) (of_decide_eq_false hcc)⟩);clear hK K;refine wrs fun K hK => ?_;conv => whnf
   refine hK _ ?_;clear hK K;refine W.ret ?_;conv => whnf
   exact ⟨.v (vRF [] fun _ => 0), rfl, ⟨trivial, fun _ _ => trivial⟩, .v (.int .i64 2), ⟨rfl, rfl⟩, trivial, fun _ => 0, rfl, fun j hj => absurd hj (Nat.not_lt_zero j), fun i j hi => absurd hi (Nat.not_lt_zero i)⟩
 have hc : zr kp f.l (bP (yc kp F)) 0 (fun _ => []) = 0 := by unfold zr; rw [zj hk, zj he, zj (fun i hi => by omega)]; rfl
 have he2 := he;have he9 := he.2.1;obtain ⟨F, rfl⟩ := vR he;have hFl : F.l.length = dg F := rfl
 by_cases hF0 : dg F = 0
 ·refine ⟨[], 5, fun g0 g1 => ?_, fun g0 g1 => ?_, by simp, by simp, fun h => absurd h (by decide)⟩
  ·refine ze (za [0, 1, 2, 4, 5, 6, 7, 8, 11, 16, 19, 24, 35]) Tryz.func66 rfl (by decide) Tryz.ntmps66 (Nat.le_of_ble_eq_true rfl) fun base => ?_;refine wrs fun K hK => ?_;conv => whnf
   refine ⟨rfl, ?_⟩;conv => whnf
   intro b_1 hs_1 hh_1 hf_1;try dsimp only at hh_1 hf_1
   conv => whnf
   refine hK _ ?_;clear hK K;refine W.seqK fun K1 hK1 => ?_;refine wrs fun K hK => ?_;conv => whnf
   refine zc rfl ((z7 kp g0 f.l (by omega)).tr (zj hkk)) fun hs' hhs => ?_;try dsimp only at hhs
   conv => whnf
   refine hK _ (W.condF rfl (W.skip (hK1 _ ?_)));clear hK K hK1 K1;refine W.seqK fun K1 hK1 => ?_;refine wrs fun K hK => ?_;conv => whnf
   refine zc rfl ((yF g1 kp F.l (by omega)).tr (zj he2)) fun hs' hhs => ?_;try dsimp only at hhs
   conv => whnf
   refine hK _ (W.condF rfl (W.skip (hK1 _ ?_)));clear hK K hK1 K1;refine W.seqK fun K1 hK1 => ?_;refine wrs fun K hK => ?_;conv => whnf
   refine hK _ (W.cond ⟨fun _ => ?_, fun h4 => absurd (of_decide_eq_false h4) (by omega)⟩);clear hK K;refine wrs fun K hK => ?_;conv => whnf
   refine hK _ ?_;clear hK K;refine W.ret ?_;conv => whnf
   exact ⟨.v (vLL []), rfl, ⟨trivial, fun _ _ => trivial⟩, .v (.int .i64 5), ⟨rfl, rfl⟩, trivial, rfl⟩
  ·refine yT (zm [] [0, 1, 2, 4, 5, 6, 7, 8, 9, 17, 21, 23, 24, 25, 36, 1000000]) Tryz.func65 rfl (by decide) Tryz.ntmps65 (Nat.le_of_ble_eq_true rfl) (fun base => ?_) (Nat.le_of_ble_eq_true rfl);refine W.sw (c' := cx [0, 1, 2, 4, 5, 6, 7, 8, 9, 17, 21, 23, 24, 25, 36, 1000000]) ?_;refine wrs fun K hK => ?_;conv => whnf
   refine ⟨rfl, ?_⟩;conv => whnf
   intro b_1 hs_1 hh_1 hf_1;try dsimp only at hh_1 hf_1
   conv => whnf
   refine hK _ ?_;clear hK K;refine W.seqK fun K1 hK1 => ?_;refine W.rd (za _) follows (by rfl) fun K hK => ?_;conv => whnf
   refine ⟨_, cxF (zJ g1 kp F.l), ?_⟩;conv => whnf
   refine ⟨_, cxF (yy kp g0 none f.l _ 0 _ (fun _ => []) (by omega) (by omega) (fun i hi => by omega)), ?_⟩;conv => whnf
   rw [hc];refine hK _ ?_;clear hK K;refine wrs fun K hK => ?_;conv => whnf
   refine hK _ (W.cond ⟨fun hcc => absurd rfl (of_decide_eq_true hcc), fun _ => W.skip (hK1 _ ?_)⟩);clear hK K hK1 K1;refine W.seqK fun K1 hK1 => ?_;refine wrs fun K hK => ?_;conv => whnf
   refine hK _ (W.cond ⟨fun _ => ?_, fun h4 => absurd (of_decide_eq_false h4) (by omega)⟩);clear hK K;refine wrs fun K hK => ?_;conv => whnf
   refine hK _ ?_;clear hK K;refine W.ret ?_;conv => whnf
   exact ⟨.v (vRF [] fun _ => 0), rfl, ⟨trivial, fun _ _ => trivial⟩, .v (.int .i64 5), ⟨rfl, rfl⟩, trivial, fun _ => 0, rfl, fun j hj => absurd hj (Nat.not_lt_zero j), fun i j hi => absurd hi (Nat.not_lt_zero i)⟩
 have h2 := hi.1;have hf0 := hi.ne;obtain ⟨d, hd⟩ : ∃ d, dg f = d + 1 := ⟨dg f - 1, by omega⟩
 obtain ⟨hq1, hq2, hq3⟩ := znD hk hd;have hpd : ∀ {k : Nat}, k < kp.toNat ^ d -> dg (zZ kp k) < dg f := fun {k} h => by have := zeN (p := kp) h; omega
 have hnl : ∀ k : Nat, dig kp.toNat k = (zZ kp k).l := fun k => (kO k).symm;generalize kp.toNat ^ d = q at hq1 hq2 hq3 hpd;have hE := fun X : Poly kp => zce (F := F) (X := X) hf0 h2 (dg F);obtain ⟨D, hD⟩ : ∃ D : Nat -> List Int, D = fun k => (zZ kp k).l := ⟨_, rfl⟩
 obtain ⟨Q, hQ⟩ : ∃ Q : Nat -> Bool, Q = fun k => decide (((yY f F (zZ kp k) (dg F)).l.length : Int) = 0) := ⟨_, rfl⟩
 have hDk : ∀ k, (zZ kp k).l = D k := fun k => by rw [hD]
 have hQk : ∀ k, decide (((yY f F (zZ kp k) (dg F)).l.length : Int) = 0) = Q k := fun k => by rw [hQ]
 have hsm := zdm D Q 9 q (fun i hi => by rw [<- hDk]; have := hpd hi; show dg _ <= _; omega);have hrl := zaV D Q q
 refine ⟨yG D Q q, 0, fun g0 g1 => ?_, fun g0 g1 => ?_, by omega, fun j => Nat.le_trans (hsm j) (by omega), fun _ => ⟨hp, f, F, rfl, rfl, hkk, he2, fun j hj => (by
  obtain ⟨k, hk1, hk2, hk3⟩ := zfh D Q q j hj;rw [<- hQk k] at hk3;exact ⟨zZ kp k, (by rw [hk2, hDk]), hpd hk1, (by have := of_decide_eq_true hk3; omega)⟩)⟩⟩
 ·refine ze (za [0, 1, 2, 4, 5, 6, 7, 8, 11, 16, 19, 24, 35]) Tryz.func66 rfl (by decide) Tryz.ntmps66 (Nat.le_of_ble_eq_true rfl) fun base => ?_;refine wrs fun K hK => ?_;conv => whnf
  refine ⟨rfl, ?_⟩;conv => whnf
  intro b_1 hs_1 hh_1 hf_1;try dsimp only at hh_1 hf_1
  conv => whnf
  refine hK _ ?_;clear hK K;refine W.seqK fun K1 hK1 => ?_;refine wrs fun K hK => ?_;conv => whnf
  refine zc rfl ((z7 kp g0 f.l (by omega)).tr (zj hkk)) fun hs' hhs => ?_;try dsimp only at hhs
  conv => whnf
  refine hK _ (W.condF rfl (W.skip (hK1 _ ?_)));clear hK K hK1 K1;refine W.seqK fun K1 hK1 => ?_;refine wrs fun K hK => ?_;conv => whnf
  refine zc rfl ((yF g1 kp F.l (by omega)).tr (zj he2)) fun hs' hhs => ?_;try dsimp only at hhs
  conv => whnf
  refine hK _ (W.condF rfl (W.skip (hK1 _ ?_)));clear hK K hK1 K1;refine W.seqK fun K1 hK1 => ?_;refine wrs fun K hK => ?_;conv => whnf
  refine hK _ (W.cond ⟨fun h4 => absurd (of_decide_eq_true h4) (by omega), fun _ => W.skip (hK1 _ ?_)⟩);clear hK K hK1 K1;refine wrs fun K hK => ?_;conv => whnf
  refine ⟨⟨rfl, by decide, fun x hx => by simp at hx⟩, ?_⟩;conv => whnf
  intro b_3 hs_3 hh_3 hf_3;try dsimp only at hh_3 hf_3
  conv => whnf
  refine hK _ ?_;clear hK K;refine W.seqK fun K1 hK1 => ?_;refine wrs fun K hK => ?_;conv => whnf
  refine hK _ (W.block (W.invE (fun m e => ∃ (k b : Nat) (L : List (List Int)), k <= q ∧ L = yG D Q k ∧ m = q - k ∧ e = [(1, .v (.ints g1 F.l)), (2, .ownB b_1 (vK kp g0 f.l)), (6, .ownV 24 1 b L.length fun i => .ints none (L.getD i [])), (7, .v (.int .i64 k))]) _ _ ⟨0, b_3, [], Nat.zero_le _, rfl, rfl, rfl⟩ (by dsimp only; omega) (by repeat' first | refine And.intro ?_ ?_ | exact trivial | rfl | omega | exact fun _ _ => rfl | exact fun i hi => absurd hi (Nat.not_lt_zero i)) ?_));clear hK K;rintro m e ⟨k, b, L, hkq, hL, hm, rfl⟩;have hLl := zaV D Q k;rw [<- hL] at hLl;refine W.seqK fun K7 hK7 => ?_;refine wrs fun K hK => ?_;conv => whnf
  refine zc rfl (vB kp g0 f.l hk) fun hs' hhs => ?_;try dsimp only at hhs
  conv => whnf
  rw [hq1];refine hK _ (W.cond ⟨fun h => ?_, fun h => ?_⟩) <;> clear hK K
  ·have h := of_decide_eq_true h;have hP := hpd (k := k) (by omega);have hQq := hQk k;refine W.skip (hK7 _ ?_);clear hK7 K7;refine W.seqK fun K8 hK8 => W.block ?_;refine wrs fun K hK => ?_;conv => whnf
   refine zc rfl (vC kp g0 f.l k (by omega) (by omega)) fun hs' hhs => ?_;try dsimp only at hhs
   conv => whnf
   rw [hnl k];refine hK _ ?_;clear hK K;refine wrs fun K hK => ?_;conv => whnf
   refine zc rfl (zdl kp g0 g1 none f F (zZ kp k) (by omega) (by omega) (by omega) h2 hf0) fun hs' hhs => ?_;try dsimp only at hhs
   conv => whnf
   rw [hQq, hDk k];refine hK _ (W.cond ⟨fun h5 => ?_, fun h5 => ?_⟩) <;> clear hK K
   ·have e1 : yG D Q (k + 1) = L ++ [D k] := by rw [yG, if_pos h5, hL]
    have hlen : (L ++ [D k]).length = L.length + 1 := by simp
    refine wrg ?_;conv => whnf
    refine ⟨⟨rfl, by decide, fun x hx => by simp at hx; subst hx; exact ⟨rfl, rfl⟩⟩, ?_⟩;conv => whnf
    intro b_4 hs_4 hh_4 hf_4;try dsimp only at hh_4 hf_4
    conv => whnf
    refine ⟨by omega, ?_⟩;conv => whnf
    refine ⟨fun i => .ints none ((L ++ [D k]).getD i []), fun i hi => ?_, fun i hi => ?_, ?_⟩
    ·show V.ints none _ = V.ints none _
     rw [jP L _ hi]
    ·obtain rfl : i = 0 := by omega
     show V.ints none ((L ++ [D k]).getD L.length []) = V.ints none (D k)
     rw [jz]
    intro b_5 hs_5 hh_5 hf_5;try dsimp only at hh_5 hf_5
    conv => whnf
    refine hK8 _ ?_;clear hK8 K8;refine wrg ?_;conv => whnf
    refine ⟨oo, ?_⟩;conv => whnf
    refine ⟨_, _, ⟨k + 1, b_5, L ++ [D k], by omega, e1.symm, rfl, rfl⟩, by omega, by dsimp only; omega, ?_⟩
    repeat' first | refine And.intro ?_ ?_ | exact trivial | rfl | omega | exact fun _ _ => rfl
   ·have e1 : yG D Q (k + 1) = L := by rw [yG, if_neg (by rw [h5]; decide), hL]
    refine W.skip (hK8 _ ?_);clear hK8 K8;refine wrg ?_;conv => whnf
    refine ⟨oo, ?_⟩;conv => whnf
    refine ⟨_, _, ⟨k + 1, b, L, by omega, e1.symm, rfl, rfl⟩, by omega, by dsimp only; omega, ?_⟩
    repeat' first | refine And.intro ?_ ?_ | exact trivial | rfl | omega | exact fun _ _ => rfl
  ·have h := of_decide_eq_false h;obtain rfl : k = q := by omega
   subst hL;refine W.exit (hK1 _ ?_);clear hK7 K7 hK1 K1;refine wrs fun K hK => ?_;conv => whnf
   refine hK _ ?_;clear hK K;refine W.ret ?_;conv => whnf
   exact ⟨.v (vLL (yG D Q k)), ⟨rfl, rfl, rfl, fun _ _ => rfl⟩, ⟨trivial, fun _ _ => trivial⟩, .v (.int .i64 0), ⟨rfl, rfl⟩, trivial, rfl⟩
 ·refine yT (zm [] [0, 1, 2, 4, 5, 6, 7, 8, 9, 17, 21, 23, 24, 25, 36, 1000000]) Tryz.func65 rfl (by decide) Tryz.ntmps65 (Nat.le_of_ble_eq_true rfl) (fun base => ?_) (Nat.le_of_ble_eq_true rfl);refine W.sw (c' := cx [0, 1, 2, 4, 5, 6, 7, 8, 9, 17, 21, 23, 24, 25, 36, 1000000]) ?_;refine wrs fun K hK => ?_;conv => whnf
  refine ⟨rfl, ?_⟩;conv => whnf
  intro b_1 hs_1 hh_1 hf_1;try dsimp only at hh_1 hf_1
  conv => whnf
  refine hK _ ?_;clear hK K;refine W.seqK fun K1 hK1 => ?_;refine W.rd (za _) follows (by rfl) fun K hK => ?_;conv => whnf
  refine ⟨_, cxF (zJ g1 kp F.l), ?_⟩;conv => whnf
  refine ⟨_, cxF (yy kp g0 none f.l _ 0 _ (fun _ => []) (by omega) (by omega) (fun i hi => by omega)), ?_⟩;conv => whnf
  rw [hc];refine hK _ ?_;clear hK K;refine wrs fun K hK => ?_;conv => whnf
  refine hK _ (W.cond ⟨fun hcc => absurd rfl (of_decide_eq_true hcc), fun _ => W.skip (hK1 _ ?_)⟩);clear hK K hK1 K1;refine W.seqK fun K1 hK1 => ?_;refine wrs fun K hK => ?_;conv => whnf
  refine hK _ (W.cond ⟨fun h4 => absurd (of_decide_eq_true h4) (by omega), fun _ => W.skip (hK1 _ ?_)⟩);clear hK K hK1 K1;refine W.sw (c' := cxt [] [0, 1, 2, 4, 5, 6, 7, 8, 9, 17, 21, 23, 24, 25, 36, 1000000]) ?_;refine W.rs (zm _ _) (by rfl) fun K hK => ?_;conv => whnf
  refine hK _ ?_;clear hK K;refine W.seqK fun K1 hK1 => ?_;refine W.rs (zm _ _) (by rfl) fun K hK => ?_;conv => whnf
  refine zc rfl (ziR kp g0 f.l (by omega) (by omega) (by omega) (by omega)) fun hs' hhs => ?_;try dsimp only at hhs
  conv => whnf
  rw [hq1];refine hK _ (W.block (W.invE (fun m e => ∃ (k b : Nat) (bs : Nat -> Nat) (tb : Tab) (L : List (List Int)), k <= q ∧ L = yG D Q k ∧ (∀ j, j < L.length -> L.getD j [] ≠ [] -> tb (bs j) = some (L.getD j [])) ∧ (∀ i j, i < L.length -> j < L.length -> i ≠ j -> L.getD i [] ≠ [] -> L.getD j [] ≠ [] -> bs i ≠ bs j) ∧ m = q - k ∧ e = [(vt, .tab tb), (1, .v (.ints g1 F.l)), (2, .ownB b_1 (vK kp g0 f.l)), (7, .ownV 24 1 b L.length fun i => .rf (bs i) (L.getD i []).length), (23, .v (.int .i64 (q : Nat))), (24, .v (.int .i64 k))]) _ _ ⟨0, 0, fun _ => 0, _, [], Nat.zero_le _, rfl, fun j hj => absurd hj (Nat.not_lt_zero j), fun i j hi => absurd hi (Nat.not_lt_zero i), rfl, rfl⟩ (by dsimp only; omega) (by repeat' first | refine And.intro ?_ ?_ | exact trivial | rfl | omega | exact fun _ _ h => h | decide) ?_));clear hK K;rintro m e ⟨k, b, bs, tb, L, hkq, hL, h3, h4, hm, rfl⟩;have hLl := zaV D Q k;rw [<- hL] at hLl;refine W.rs (zm _ _) (by rfl) fun K hK => ?_;conv => whnf
  refine hK _ ?_;clear hK K;refine W.seqK fun K7 hK7 => W.cond ⟨fun h => ?_, fun h => ?_⟩ <;> (first | replace h := of_decide_eq_true h | replace h := of_decide_eq_false h)
  ·have hP := hpd (k := k) (by omega);have hQq := hQk k;have hPl : (zZ kp k).l.length = dg (zZ kp k) := rfl;refine W.skip (hK7 _ ?_);clear hK7 K7;refine W.seqK fun K8 hK8 => W.block ?_;refine W.rs (zm _ _) (by rfl) fun K hK => ?_;conv => whnf
   refine hK _ ?_;clear hK K;refine W.tick rfl fun hs9 hhs9 hbb => ?_;dsimp only at hhs9
   refine W.rs (zm _ _) (by rfl) fun K hK => ?_;conv => whnf
   refine zD rfl (zhn kp k (by omega) (by omega)) fun hs_3 b_3 hh_3 hf_3 => ?_;try dsimp only at hh_3 hf_3
   conv => whnf
   rw [hnl k] at hf_3;rw [hnl k];refine hK _ ?_;clear hK K;refine W.rs (zm _ _) (by rfl) fun K hK => ?_;conv => whnf
   refine zc rfl (R1w (ziV kp g0 g1 (some b_3) f F (zZ kp k) (by omega) (by omega) (by omega) h2 hf0)) fun hs' hhs => ?_;try dsimp only at hhs
   conv => whnf
   rw [hQq, hDk k];rw [hDk k] at hf_3;refine hK _ (W.cond ⟨fun h5 => ?_, fun h5 => ?_⟩) <;> clear hK K
   ·have e1 : yG D Q (k + 1) = L ++ [D k] := by rw [yG, if_pos h5, hL]
    have hlen : (L ++ [D k]).length = L.length + 1 := by simp
    refine W.region (zm _ _) (by rfl) ?_;conv => whnf
    refine ⟨⟨rfl, by decide, fun x hx => by simp at hx; subst hx; exact ⟨rfl, rfl⟩⟩, ?_⟩;conv => whnf
    intro b_4 hs_4 hh_4 hf_4;try dsimp only at hh_4 hf_4
    conv => whnf
    refine ⟨by omega, ?_⟩;conv => whnf
    refine ⟨fun i => .rf (if i = L.length then b_3 else bs i) ((L ++ [D k]).getD i []).length, fun i hi => ?_, fun i hi => ?_, ?_⟩
    ·show V.rf (if i = L.length then b_3 else bs i) _ = V.rf (bs i) _
     rw [if_neg (by omega), jP L _ hi]
    ·obtain rfl : i = 0 := by omega
     show V.rf (if L.length + 0 = L.length then b_3 else bs (L.length + 0)) ((L ++ [D k]).getD L.length []).length = V.rf b_3 (D k).length
     rw [Nat.add_zero, if_pos rfl, jz]
    intro b_5 hs_5 hh_5 hf_5;try dsimp only at hh_5 hf_5
    conv => whnf
    refine hK8 _ ?_;clear hK8 K8;refine W.region (zm _ _) (by rfl) ?_;conv => whnf
    refine ⟨oo, ?_⟩;conv => whnf
    refine ⟨_, _, ⟨k + 1, b_5, fun i => if i = L.length then b_3 else bs i, zhs tb b_3 (D k), L ++ [D k], by omega, e1.symm, fun j hj hne => ?_, fun i j hi hj hij hne hne' => ?_, rfl, rfl⟩, by omega, by dsimp only; omega, ?_⟩
    ·show zhs tb b_3 (D k) (if j = L.length then b_3 else bs j) = _
     by_cases h6 : j = L.length
     ·subst h6;rw [jz] at hne ⊢;rw [if_pos rfl];exact xf _ _ hne
     ·rw [jP L _ (by omega)] at hne ⊢;rw [if_neg h6];refine (ziQ _ _ ?_).trans (h3 j (by omega) hne)
      by_cases h7 : D k = []
      ·exact .inl h7
      ·exact .inr fun e => by
        have k1 := hf_3 h7;have k2 := hbb (bs j) (by rw [h3 j (by omega) hne]; simp);omega
    ·show (if i = L.length then b_3 else bs i) ≠ (if j = L.length then b_3 else bs j)
     by_cases h6 : i = L.length
     ·rw [if_pos h6, if_neg (by omega)];rw [h6, jz] at hne;rw [jP L _ (by omega)] at hne'
      exact fun e => by
       have k1 := hf_3 hne;have k2 := hbb (bs j) (by rw [h3 j (by omega) hne']; simp);omega
     ·rw [if_neg h6];rw [jP L _ (by omega)] at hne
      by_cases h7 : j = L.length
      ·rw [if_pos h7];rw [h7, jz] at hne'
       exact fun e => by
        have k1 := hf_3 hne';have k2 := hbb (bs i) (by rw [h3 i (by omega) hne]; simp);omega
      ·rw [if_neg h7];rw [jP L _ (by omega)] at hne';exact h4 i j (by omega) (by omega) hij hne hne'
    ·repeat' first | refine And.intro ?_ ?_ | exact trivial | rfl | omega | exact fun _ _ => rfl | exact fun _ _ h => h
   ·have e1 : yG D Q (k + 1) = L := by rw [yG, if_neg (by rw [h5]; decide), hL]
    refine W.skip (hK8 _ ?_);clear hK8 K8;refine W.region (zm _ _) (by rfl) ?_;conv => whnf
    refine ⟨oo, ?_⟩;conv => whnf
    refine ⟨_, _, ⟨k + 1, b, bs, tb, L, by omega, e1.symm, h3, h4, rfl, rfl⟩, by omega, by dsimp only; omega, ?_⟩
    repeat' first | refine And.intro ?_ ?_ | exact trivial | rfl | omega | exact fun _ _ => rfl | exact fun _ _ h => h
  ·obtain rfl : k = q := by omega
   subst hL;refine W.exit (hK1 _ ?_);clear hK7 K7 hK1 K1;refine W.rs (zm _ _) (by rfl) fun K hK => ?_;conv => whnf
   refine hK _ ?_;clear hK K;refine W.ret ?_;conv => whnf
   exact ⟨.v (vRF (yG D Q k) bs), ⟨rfl, rfl, rfl, fun _ _ => rfl⟩, ⟨trivial, fun _ _ => trivial⟩, .v (.int .i64 0), ⟨rfl, rfl⟩, trivial, bs, rfl, h3, h4⟩


theorem zfB (p : Int) [SP p] (g g1 : Option Nat) (f X : Poly p) (hf : dg f <= 500) (hf0 : f ≠ 0) (hX : dg X < dg f) (n : Nat) (hn : Per f X n) (hn2 : n <= 1000) :
  FnV 212 [vK p g f.l, .ints g1 X.l] (zff f X n) :=
 (zcg p g g1 f X hf hf0 hX n hn hn2).toV fun _ _ _ _ ⟨_, hx, h1, _⟩ => by subst hx; exact ⟨_, rfl, rfl, fun i hi => ⟨(frN f X i).l, rfl, h1 i hi, rfl⟩⟩

noncomputable def vMp {p : Int} [SP p] (f X : Poly p) (k : Nat) : V := .vals none 1 (k + 1) fun j => .ints none (mpN f X k j).l

theorem zhq {p : Int} [SP p] (A B : Poly p) : Bd 4611686018427387904 (zx (y8 A.l (yl (-1) B.l))) := fun i => by
 rw [y6, xY, kf];have := vO A i;have := vO B i;have := SP.le (p := p);omega
theorem zfj {p : Int} [SP p] (A B : Poly p) {n : Nat} (hA : dg A <= n) (hB : dg B <= n) : (zx (y8 A.l (yl (-1) B.l))).length <= n := by
 have h1 := yK (y8 A.l (yl (-1) B.l));unfold y8 yl at *;rw [zE, List.length_map] at *;have : A.l.length = dg A := rfl;have : B.l.length = dg B := rfl;omega

theorem za9 (p : Int) [SP p] (g g1 : Option Nat) (f X : Poly p) (hf : dg f <= 500) (h2 : 2 <= dg f) (hf0 : f ≠ 0) (hX : dg X < dg f) (n : Nat) (hn : Per f X n) (hn2 : n <= 1000) :
  FnV 215 [vK p g f.l, .ints g1 X.l] (.ints none (mpL f X n (n + 1))) := by
 have hp := Pr.two (p := p);have hp2 := SP.le (p := p);have hF := zbv hf0 hX;have hM := zeT hf0 h2 X;have hS := znd hf0 h2 X;have e1 : [(1 : Int)] = (1 : Poly p).l := zgb.symm;refine ze (za [0, 1, 2, 4, 5, 6, 7, 8, 9, 10, 11, 12, 13, 22, 32, 38, 47, 72]) Tryz.func215 rfl (by decide) Tryz.ntmps215 (Nat.le_of_ble_eq_true rfl) fun base => ?_;refine wrs fun K hK => ?_;conv => whnf
 refine ⟨rfl, ?_⟩;conv => whnf
 intro b_2 hs_2 hh_2 hf_2;try dsimp only at hh_2 hf_2
 conv => whnf
 refine hK _ ?_;clear hK K;refine wrs fun K hK => ?_;conv => whnf
 refine zc rfl (vD p g g1 f X hf hf0 hX n hn hn2) fun hs' hhs => ?_;try dsimp only at hhs
 conv => whnf
 refine hK _ ?_;clear hK K;refine wrs fun K hK => ?_;conv => whnf
 refine ⟨⟨rfl, by decide⟩, ?_⟩;conv => whnf
 intro b_3 hs_3 hh_3 hf_3;try dsimp only at hh_3 hf_3
 conv => whnf
 rw [e1];refine ⟨⟨rfl, by decide, fun x hx => by simp at hx; subst hx; exact ⟨rfl, rfl⟩⟩, ?_⟩;conv => whnf
 intro b_4 hs_4 hh_4 hf_4;try dsimp only at hh_4 hf_4
 conv => whnf
 refine hK _ ?_;clear hK K;refine W.seqK fun K1 hK1 => ?_;refine wrs fun K hK => ?_;conv => whnf
 refine hK _ (W.block (W.invA (fun m e => ∃ k : Nat, k <= n ∧ m = n - k ∧ e = [(2, .ownB b_2 (vK p g f.l)), (5, .v (zff f X n)), (6, .v (vMp f X k)), (7, .v (.int .i64 k))]) ⟨0, Nat.zero_le _, rfl, rfl⟩ ?_));clear hK K;rintro m e ⟨k, hk, hm, rfl⟩;have hFk := hF k;have hTop := zg8 hf0 X k;refine W.seqK fun K7 hK7 => wrs fun K hK => ?_;conv => whnf
 refine hK _ (W.cond ⟨fun h => ?_, fun h => ?_⟩) <;> clear hK K <;> (first | replace h := of_decide_eq_true h | replace h := of_decide_eq_false h)
 ·have e2 : (((k + 1 : Nat) : Int) + 1).toNat = k + 2 := by omega
  refine W.skip (hK7 _ ?_);clear hK7 K7;refine W.seqK fun K8 hK8 => W.block ?_;refine wrs fun K hK => ?_;conv => whnf
  refine ⟨oo, ?_⟩;conv => whnf
  refine ⟨rfl, ?_⟩;conv => whnf
  refine ⟨oo, ?_⟩;conv => whnf
  rw [e2];intro b_5 hs_5 hh_5 hf_5;try dsimp only at hh_5 hf_5
  conv => whnf
  refine hK _ ?_;clear hK K;refine W.seqK fun K9 hK9 => ?_;refine wrs fun K hK => ?_;conv => whnf
  refine hK _ (W.block (W.invE (fun m e => ∃ j : Nat, j <= k + 2 ∧ m = k + 2 - j ∧ e = [(2, .ownB b_2 (vK p g f.l)), (5, .v (zff f X n)), (6, .v (vMp f X k)), (7, .v (.int .i64 k)), (8, .ownV 24 1 b_5 (k + 2) fun i => if i < j then .ints none (mpN f X (k + 1) i).l else .nil), (9, .v (.int .i64 j))]) _ _ ⟨0, Nat.zero_le _, rfl, rfl⟩ (by dsimp only; omega) (by repeat' first | refine And.intro ?_ ?_ | exact trivial | rfl | omega | exact fun _ _ => rfl) ?_));clear hK K;rintro m' e ⟨j, hj, hm', rfl⟩;have hMj := hM k j;have hSj := hS k j;have hR := zM (mpN f X k j * frN f X k) hf0;have hRl : (rem (mpN f X k j * frN f X k) f).l.length = dg (rem (mpN f X k j * frN f X k) f) := rfl;have hSl : (mpS f X k j).l.length = dg (mpS f X k j) := rfl;refine W.seqK fun K7 hK7 => wrs fun K hK => ?_;conv => whnf
  refine hK _ (W.cond ⟨fun h3 => ?_, fun h3 => ?_⟩) <;> clear hK K <;> (first | replace h3 := of_decide_eq_true h3 | replace h3 := of_decide_eq_false h3)
  ·refine W.skip (hK7 _ ?_);clear hK7 K7;refine W.seqK fun K6 hK6 => W.block ?_;refine wrs fun K hK => ?_;conv => whnf
   refine ⟨⟨rfl, by decide⟩, ?_⟩;conv => whnf
   intro b_6 hs_6 hh_6 hf_6;try dsimp only at hh_6 hf_6
   conv => whnf
   refine ⟨⟨rfl, by decide⟩, ?_⟩;conv => whnf
   intro b_7 hs_7 hh_7 hf_7;try dsimp only at hh_7 hf_7
   conv => whnf
   refine hK _ ?_;clear hK K
   -- what stands ahead
   refine W.seqK fun K3 hK3 => ?_
   have mid : ∀ (t : S), base <= t.hs -> zB t.env [(2, .ownB b_2 (vK p g f.l)), (5, .v (zff f X n)), (6, .v (vMp f X k)), (7, .v (.int .i64 k)), (8, .ownV 24 1 b_5 (k + 2) fun i => if i < j then .ints none (mpN f X (k + 1) i).l else .nil), (9, .v (.int .i64 j)), (10, .v (.ints none (mpS f X k j).l)), (11, .v (.ints none []))] -> K3 t := by
    intro t h7 h8;refine hK3 _ (W.weak (t := ⟨[(2, .ownB b_2 (vK p g f.l)), (5, .v (zff f X n)), (6, .v (vMp f X k)), (7, .v (.int .i64 k)), (8, .ownV 24 1 b_5 (k + 2) fun i => if i < j then .ints none (mpN f X (k + 1) i).l else .nil), (9, .v (.int .i64 j)), (10, .v (.ints none (mpS f X k j).l)), (11, .v (.ints none []))], base⟩) ⟨h7, h8⟩ (Nat.le_refl _) ?_);clear hK3 K3;refine W.seqK fun K4 hK4 => ?_
    have mid2 : ∀ (t : S), base <= t.hs -> zB t.env [(2, .ownB b_2 (vK p g f.l)), (5, .v (zff f X n)), (6, .v (vMp f X k)), (7, .v (.int .i64 k)), (8, .ownV 24 1 b_5 (k + 2) fun i => if i < j then .ints none (mpN f X (k + 1) i).l else .nil), (9, .v (.int .i64 j)), (10, .v (.ints none (mpS f X k j).l)), (11, .v (.ints none (rem (mpN f X k j * frN f X k) f).l))] -> K4 t := by
     intro t h7 h8;refine hK4 _ (W.weak (t := ⟨[(2, .ownB b_2 (vK p g f.l)), (5, .v (zff f X n)), (6, .v (vMp f X k)), (7, .v (.int .i64 k)), (8, .ownV 24 1 b_5 (k + 2) fun i => if i < j then .ints none (mpN f X (k + 1) i).l else .nil), (9, .v (.int .i64 j)), (10, .v (.ints none (mpS f X k j).l)), (11, .v (.ints none (rem (mpN f X k j * frN f X k) f).l))], base⟩) ⟨h7, h8⟩ (Nat.le_refl _) ?_);clear hK4 K4;refine W.draw (za _) follows (by rfl) ?_;conv => whnf
     refine ⟨_, cxF ((zcP none none (mpS f X k j).l (rem (mpN f X k j * frN f X k) f).l (-1) (by omega) (ziT _) (ziT _) (by omega) (by omega)).toV), ?_⟩;conv => whnf
     refine ⟨_, cxF ((x9 p (by omega) (by omega) none _ (zhq _ _) (Nat.le_trans (zfj (mpS f X k j) (rem (mpN f X k j * frN f X k) f) (n := 500) (by omega) (by omega)) (by omega))).toV), ?_⟩;conv => whnf
     rw [zoB, <- ziz];refine ⟨oo, ?_⟩;conv => whnf
     rw [Int.toNat_natCast];refine ⟨⟨by show 0 + 1 <= 1; omega, rfl⟩, fun i => if i < j + 1 then .ints none (mpN f X (k + 1) i).l else .nil, by show (if j < j + 1 then V.ints none (mpN f X (k + 1) j).l else .nil) = zU (if j < j then V.ints none (mpN f X (k + 1) j).l else .nil) 0 _; rw [if_pos (by omega), if_neg (by omega)]; rfl, fun i _ hi => by show (if i < j + 1 then V.ints none (mpN f X (k + 1) i).l else .nil) = (if i < j then V.ints none (mpN f X (k + 1) i).l else .nil); by_cases h9 : i < j; (rw [if_pos h9, if_pos (by omega)]); (rw [if_neg h9, if_neg (by omega)]), ?_⟩;conv => whnf
     refine hK6 _ ?_;clear hK6 K6;refine wrg ?_;conv => whnf
     refine ⟨oo, ?_⟩;conv => whnf
     refine ⟨_, _, ⟨j + 1, by omega, rfl, rfl⟩, by omega, by dsimp only; omega, ?_⟩
     repeat' first | refine And.intro ?_ ?_ | exact trivial | rfl | omega | exact fun _ _ => rfl
    clear hK4;refine wrs fun K hK => ?_;conv => whnf
    refine hK _ (W.cond ⟨fun h5 => ?_, fun h5 => ?_⟩) <;> clear hK K
    ·have h5 := of_decide_eq_true h5;refine W.draw (za _) follows (by rfl) ?_;conv => whnf
     refine ⟨oo, ?_⟩;conv => whnf
     rw [Int.toNat_natCast];refine ⟨oo, ?_⟩;conv => whnf
     rw [Int.toNat_natCast];refine ⟨_, cxF (zaG p g none none f (mpN f X k j) (frN f X k) (by omega) (by omega) (by omega) hf0), ?_⟩;conv => whnf
     refine mid2 _ (by dsimp only; omega) ?_
     repeat' first | refine And.intro ?_ ?_ | exact trivial | rfl | omega | exact fun _ _ => rfl
    ·have h5 := of_decide_eq_false h5;have e3 : (rem (mpN f X k j * frN f X k) f).l = [] := by rw [zb4 hf0 X k j (by omega), zeS hf0, xZ]
     refine W.skip (mid2 _ (by dsimp only; omega) ?_);rw [e3]
     repeat' first | refine And.intro ?_ ?_ | exact trivial | rfl | omega | exact .inl rfl | exact fun _ _ => rfl
   clear hK3;refine wrs fun K hK => ?_;conv => whnf
   refine hK _ (W.cond ⟨fun h5 => ?_, fun h5 => ?_⟩) <;> clear hK K
   ·have h5 := of_decide_eq_true h5;obtain ⟨i, rfl⟩ : ∃ i, j = i + 1 := ⟨j - 1, by omega⟩
    have e4 : (((i + 1 : Nat) : Int) - 1).toNat = i := by omega
    refine wrg ?_;conv => whnf
    refine ⟨oo, ?_⟩;conv => whnf
    refine ⟨oo, ?_⟩;conv => whnf
    rw [e4];refine mid _ (by dsimp only; omega) ?_
    repeat' first | refine And.intro ?_ ?_ | exact trivial | rfl | omega | exact .inl rfl | exact fun _ _ => rfl
   ·have h5 := of_decide_eq_false h5;obtain rfl : j = 0 := by omega
    have e3 : (mpS f X k 0).l = [] := xZ;refine W.skip (mid _ (by dsimp only; omega) ?_);rw [e3]
    repeat' first | refine And.intro ?_ ?_ | exact trivial | rfl | omega | exact .inl rfl | exact fun _ _ => rfl
  ·obtain rfl : j = k + 2 := by omega
   refine W.exit (hK9 _ ?_);clear hK7 K7 hK9 K9;refine wrg ?_;conv => whnf
   refine hK8 _ ?_;clear hK8 K8;refine wrg ?_;conv => whnf
   refine ⟨oo, ?_⟩;conv => whnf
   refine ⟨_, _, ⟨k + 1, by omega, rfl, rfl⟩, by omega, by dsimp only; omega, ?_⟩
   repeat' first | refine And.intro ?_ ?_ | exact trivial | rfl | omega | exact fun _ _ => rfl | exact fun i hi => if_pos hi
 ·obtain rfl : k = n := by omega
  refine W.exit (hK1 _ ?_);clear hK7 K7 hK1 K1;refine wrs fun K hK => ?_;conv => whnf
  refine ⟨⟨rfl, by decide⟩, ?_⟩;conv => whnf
  intro b_8 hs_8 hh_8 hf_8;try dsimp only at hh_8 hf_8
  conv => whnf
  refine hK _ ?_;clear hK K;refine W.seqK fun K1 hK1 => ?_;refine wrs fun K hK => ?_;conv => whnf
  refine hK _ (W.block (W.invA (fun m e => ∃ (j b : Nat) (o : List Int), j <= k + 1 ∧ o = mpL f X k j ∧ m = k + 1 - j ∧ e = [(6, .v (vMp f X k)), (12, .ownI 2 b o), (13, .v (.int .i64 j))]) ⟨0, b_8, [], Nat.zero_le _, rfl, rfl, rfl⟩ ?_));clear hK K;rintro m e ⟨j, b, o, hj, rfl, hm, rfl⟩;have hMj := hM k j;have hMl : (mpN f X k j).l.length = dg (mpN f X k j) := rfl;have hol : (mpL f X k j).length = j := zE _ _;refine W.seqK fun K7 hK7 => wrs fun K hK => ?_;conv => whnf
  refine hK _ (W.cond ⟨fun h3 => ?_, fun h3 => ?_⟩) <;> clear hK K <;> (first | replace h3 := of_decide_eq_true h3 | replace h3 := of_decide_eq_false h3)
  ·refine W.skip (hK7 _ ?_);clear hK7 K7;refine W.seqK fun K8 hK8 => W.block ?_;refine wrg ?_;conv => whnf
   refine ⟨oo, ?_⟩;conv => whnf
   rw [Int.toNat_natCast];refine zc rfl (zfd none (mpN f X k j).l (by omega)) fun hs' hhs => ?_;try dsimp only at hhs
   conv => whnf
   refine ⟨⟨rfl, by decide⟩, ?_⟩;conv => whnf
   intro b_3 hs_3 hh_3 hf_3;try dsimp only at hh_3 hf_3
   conv => whnf
   refine ⟨by dsimp only [List.length]; omega, ?_⟩;conv => whnf
   intro b_4 hs_4 hh_4 hf_4;try dsimp only at hh_4 hf_4
   conv => whnf
   refine hK8 _ ?_;clear hK8 K8;refine wrg ?_;conv => whnf
   refine ⟨oo, ?_⟩;conv => whnf
   exact zl ⟨j + 1, b_4, _, by omega, (km j fun j => cf (mpN f X k j).l 0).symm, rfl, rfl⟩
  ·obtain rfl : j = k + 1 := by omega
   refine W.exit (hK1 _ ?_);clear hK7 K7 hK1 K1;refine wrs fun K hK => ?_;conv => whnf
   refine hK _ ?_;clear hK K;refine W.ret ?_;conv => whnf
   exact ⟨.v (.ints none (mpL f X k (k + 1))), ⟨rfl, rfl⟩, trivial, rfl⟩



noncomputable def mpV {p : Int} [SP p] (f X : Poly p) (k : Nat) : Nat -> V
 | 0 => .nil
 | j + 1 => .ints none (mpN f X k j).l
noncomputable def mpW {p : Int} [SP p] (f X : Poly p) (k i j : Nat) : V := if j < i then .ints none (mpN f X (k + 1) j).l else if j = i then mpV f X k j else .nil
theorem zlQ {p : Int} [SP p] (f X : Poly p) (k j : Nat) : mpW f X k 0 j = .nil := by
 unfold mpW;rw [if_neg (by omega)]
 split
 ·rename_i h; subst h; rfl
 ·rfl

theorem zoV (p : Int) [SP p] (g g1 : Option Nat) (f X : Poly p) (h9 : dg f <= 9) (h2 : 2 <= dg f) (hf0 : f ≠ 0) (hX : dg X < dg f) (n : Nat) (hn : Per f X n) (hn2 : n <= 1000) (hc : xC p f.l X.l = 0) :
  FnT Tryz.prog 57 [vK p g f.l, .ints g1 X.l] (RT (mpL f X n (n + 1)) 0) := by
 have hp := Pr.two (p := p);have hp2 := SP.le (p := p);have hF := zbv hf0 hX;have hM := zeT hf0 h2 X;have hS := znd hf0 h2 X;have hfl : f.l.length = dg f := rfl;have hXl : X.l.length = dg X := rfl;have e1 : [(1 : Int)] = (1 : Poly p).l := zgb.symm;refine yT (zm [] [0, 1, 2, 4, 5, 6, 7, 9, 10, 11, 12, 13, 15, 21, 27, 28, 29, 30, 37, 38, 39, 40, 76, 77, 78, 79, 1000000]) Tryz.func57 rfl (by decide) Tryz.ntmps57 (Nat.le_of_ble_eq_true rfl) (fun base => ?_) (Nat.le_of_ble_eq_true rfl);refine W.sw (c' := cx [0, 1, 2, 4, 5, 6, 7, 9, 10, 11, 12, 13, 15, 21, 27, 28, 29, 30, 37, 38, 39, 40, 76, 77, 78, 79, 1000000]) ?_;refine wrs fun K hK => ?_;conv => whnf
 refine ⟨rfl, ?_⟩;conv => whnf
 intro b_1 hs_1 hh_1 hf_1;try dsimp only at hh_1 hf_1
 conv => whnf
 refine hK _ ?_;clear hK K;refine W.seqK fun K1 hK1 => ?_;refine wrs fun K hK => ?_;conv => whnf
 refine ⟨⟨rfl, by decide, fun x hx => (by simp at hx; subst hx; exact ⟨rfl, rfl⟩)⟩, ?_⟩;conv => whnf
 intro b_2 hs_2 hh_2 hf_2;try dsimp only at hh_2 hf_2
 conv => whnf
 refine zc rfl (yH p g (some b_2) f.l 1 _ (fun _ => X.l) (by omega) (by omega) (zfb g1 X.l)) fun hs' hhs => ?_;try dsimp only at hhs
 conv => whnf
 rw [show zr p f.l true 1 (fun _ => X.l) = 0 from hc];refine hK _ ?_;clear hK K;refine wrs fun K hK => ?_;conv => whnf
 refine hK _ (W.cond ⟨fun hcc => absurd rfl (of_decide_eq_true hcc), fun _ => W.skip (hK1 _ ?_)⟩);clear hK K hK1 K1;refine wrs fun K hK => ?_;conv => whnf
 refine ⟨⟨rfl, by decide⟩, ?_⟩;conv => whnf
 intro b_3 hs_3 hh_3 hf_3;try dsimp only at hh_3 hf_3
 conv => whnf
 rw [e1];refine ⟨⟨rfl, by decide, fun x hx => by simp at hx; subst hx; exact ⟨rfl, rfl⟩⟩, ?_⟩;conv => whnf
 intro b_4 hs_4 hh_4 hf_4;try dsimp only at hh_4 hf_4
 conv => whnf
 refine hK _ ?_;clear hK K;refine W.seqK fun K1 hK1 => ?_;refine wrs fun K hK => ?_;conv => whnf
 refine zc rfl (zfB p g g1 f X (by omega) hf0 hX n hn hn2) fun hs' hhs => ?_;try dsimp only at hhs
 conv => whnf
 refine hK _ (W.block (W.invA (fun m e => ∃ k : Nat, k <= n ∧ m = n - k ∧ e = [(vt, .tab fun _ => none), (2, .ownB b_1 (vK p g f.l)), (7, .v (vMp f X k)), (27, .v (zff f X n)), (28, .v (.int .i64 (n : Nat))), (29, .v (.int .i64 k))]) ⟨0, Nat.zero_le _, rfl, rfl⟩ ?_));clear hK K;rintro m e ⟨k, hk, hm, rfl⟩;have hFk := hF k;have hTop := zg8 hf0 X k;refine wrs fun K hK => ?_;conv => whnf
 refine hK _ ?_;clear hK K;refine W.seqK fun K7 hK7 => W.cond ⟨fun h => ?_, fun h => ?_⟩ <;> (first | replace h := of_decide_eq_true h | replace h := of_decide_eq_false h)
 ·have e2 : (((k + 1 : Nat) : Int) + 1).toNat = k + 2 := by omega
  refine W.skip (hK7 _ ?_);clear hK7 K7;refine W.seqK fun K8 hK8 => W.block ?_;refine wrs fun K hK => ?_;conv => whnf
  refine ⟨oo, ?_⟩;conv => whnf
  rw [Int.toNat_natCast];refine hK _ ?_;clear hK K;refine wrs fun K hK => ?_;conv => whnf
  refine ⟨oo, ?_⟩;conv => whnf
  refine ⟨rfl, ?_⟩;conv => whnf
  refine ⟨oo, ?_⟩;conv => whnf
  rw [e2];intro b_5 hs_5 hh_5 hf_5;try dsimp only at hh_5 hf_5
  conv => whnf
  refine hK _ ?_;clear hK K;refine W.seqK fun K9 hK9 => ?_;refine wrs fun K hK => ?_;conv => whnf
  refine hK _ (W.block (W.invE (fun m e => ∃ (i : Nat) (hh : Nat -> V), i <= k + 1 ∧ (∀ j, j < k + 2 -> hh j = mpW f X k i j) ∧ m = k + 1 - i ∧ e = [(vt, .tab fun _ => none), (2, .ownB b_1 (vK p g f.l)), (27, .v (zff f X n)), (28, .v (.int .i64 (n : Nat))), (29, .v (.int .i64 k)), (9, .v (.ints none (frN f X k).l)), (10, .ownV 24 1 b_5 (k + 2) hh), (37, .v (vMp f X k)), (38, .v (.int .i64 (k + 1 : Nat))), (39, .v (.int .i64 i))]) _ _ ⟨0, fun _ => .nil, Nat.zero_le _, fun j _ => (zlQ f X k j).symm, rfl, rfl⟩ (by dsimp only; omega) (by repeat' first | refine And.intro ?_ ?_ | exact trivial | rfl | omega | exact fun _ _ h => h | exact fun _ _ => rfl) ?_));clear hK K;rintro m' e ⟨i, hh, hi, hhi, hm', rfl⟩;have hMi := hM k i;have hMl : (mpN f X k i).l.length = dg (mpN f X k i) := rfl;have hR := zM (mpN f X k i * frN f X k) hf0;have hRl : (rem (mpN f X k i * frN f X k) f).l.length = dg (rem (mpN f X k i * frN f X k) f) := rfl;have hRb : Bd 1000000000000 (rem (mpN f X k i * frN f X k) f).l := (jV _).le (by omega);refine wrs fun K hK => ?_;conv => whnf
  refine hK _ ?_;clear hK K;refine W.seqK fun K7 hK7 => W.cond ⟨fun h3 => ?_, fun h3 => ?_⟩ <;> (first | replace h3 := of_decide_eq_true h3 | replace h3 := of_decide_eq_false h3)
  ·have e3 : ((i : Int) + 1).toNat = i + 1 := by omega
   have e4 : hh (i + 1) = .nil := by rw [hhi _ (by omega)]; unfold mpW; rw [if_neg (by omega), if_neg (by omega)]
   have e5 : nrm p (zx (y8 [] (mpN f X k i).l)) = (mpN f X k i).l := by
    have h5 := zpg (0 : Poly p) (mpN f X k i);rw [xZ] at h5;rw [h5]; congr 1; exact zf [mpN f X k i] (by rfl)
   refine W.skip (hK7 _ ?_);clear hK7 K7;refine W.seqK fun K6 hK6 => W.block ?_;refine wrs fun K hK => ?_;conv => whnf
   refine ⟨oo, ?_⟩;conv => whnf
   rw [Int.toNat_natCast];refine hK _ ?_;clear hK K;refine W.rd (za _) follows (by rfl) fun K hK => ?_;conv => whnf
   refine ⟨oo, ?_⟩;conv => whnf
   refine ⟨oo, ?_⟩;conv => whnf
   refine ⟨oo, ?_⟩;conv => whnf
   rw [e3, e4];conv => whnf
   refine ⟨_, cxF ((zeZ none none [] (mpN f X k i).l (fun j => by rw [yn]; omega) (ziT _) (by simp) (by omega)).toV), ?_⟩;conv => whnf
   refine ⟨_, cxF ((vA p (by omega) (by omega) none _ (fun j => by rw [y6, xY, yn]; have := vO (mpN f X k i) j; omega) (by have := yK (y8 [] (mpN f X k i).l); unfold y8 at *; rw [zE] at *; simp at this ⊢; omega)).toV), ?_⟩;conv => whnf
   rw [e5];refine ⟨oo, ?_⟩;conv => whnf
   rw [e3];obtain ⟨h1, e1a, e1b⟩ : ∃ h1 : Nat -> V, h1 (i + 1) = .ints none (mpN f X k i).l ∧ ∀ j, j ≠ i + 1 -> h1 j = hh j := ⟨fun j => if j = i + 1 then .ints none (mpN f X k i).l else hh j, if_pos rfl, fun j hj => if_neg hj⟩
   refine ⟨⟨by show 0 + 1 <= 1; omega, rfl⟩, h1, by rw [e1a, e4]; rfl, fun j _ hj => e1b j hj, ?_⟩;conv => whnf
   refine hK _ ?_;clear hK K
   have e6 : h1 i = mpV f X k i := by
    rw [e1b i (by omega), hhi i (by omega)]; unfold mpW; rw [if_neg (by omega), if_pos rfl]
   have fin : ∀ h : Nat -> V, h i = .ints none (mpN f X (k + 1) i).l -> (∀ j, j ≠ i -> h j = h1 j) -> ∀ j, j < k + 2 -> h j = mpW f X k (i + 1) j := by
    intro h h5 h6 j hj;unfold mpW
    by_cases h7 : j = i
    ·subst h7; rw [h5, if_pos (by omega)]
    ·rw [h6 j h7]
     by_cases h8 : j = i + 1
     ·subst h8; rw [e1a, if_neg (by omega), if_pos rfl]; rfl
     ·rw [e1b j h8, hhi j hj, if_neg h8];unfold mpW
      by_cases h9 : j < i
      ·rw [if_pos h9, if_pos (by omega)]
      ·rw [if_neg h9, if_neg h7, if_neg (by omega)]
   have e7 : nrm p (zx (y8 (mpS f X k i).l (yl (-1) (rem (mpN f X k i * frN f X k) f).l))) = (mpN f X (k + 1) i).l := by rw [zoB, <- ziz]
   have hSi := hS k i;have hSl : (mpS f X k i).l.length = dg (mpS f X k i) := rfl;have e8 : (∃ i', i = i' + 1) ∨ i = 0 := by cases i with | zero => exact .inr rfl | succ i' => exact .inl ⟨i', rfl⟩
   rcases e8 with ⟨i', hi'⟩ | hi'
   ·have e9 : mpV f X k i = .ints none (mpS f X k i).l := by subst hi'; rfl
    rw [e9] at e6;refine W.draw (za _) follows (by rfl) ?_;conv => whnf
    refine ⟨oo, ?_⟩;conv => whnf
    rw [Int.toNat_natCast, e6];conv => whnf
    refine ⟨_, cxF (zcU p g none none f (mpN f X k i) (frN f X k) (by omega) (by omega) (by omega) hf0), ?_⟩;conv => whnf
    refine ⟨_, cxF ((ziW none none (mpS f X k i).l (rem (mpN f X k i * frN f X k) f).l ((jV _).le (by omega)) hRb (by omega) (by omega)).toV), ?_⟩;conv => whnf
    refine ⟨_, cxF ((vA p (by omega) (by omega) none _ (zhq _ _) (Nat.le_trans (zfj (mpS f X k i) (rem (mpN f X k i * frN f X k) f) (n := 500) (by omega) (by omega)) (by omega))).toV), ?_⟩;conv => whnf
    rw [e7];refine ⟨oo, ?_⟩;conv => whnf
    rw [Int.toNat_natCast];obtain ⟨h2, e2a, e2b⟩ : ∃ h2 : Nat -> V, h2 i = .ints none (mpN f X (k + 1) i).l ∧ ∀ j, j ≠ i -> h2 j = h1 j := ⟨fun j => if j = i then .ints none (mpN f X (k + 1) i).l else h1 j, if_pos rfl, fun j hj => if_neg hj⟩
    refine ⟨⟨by show 0 + 1 <= 1; omega, rfl⟩, h2, by rw [e2a, e6]; rfl, fun j _ hj => e2b j hj, ?_⟩;conv => whnf
    refine hK6 _ ?_;clear hK6 K6;refine wrg ?_;conv => whnf
    refine ⟨oo, ?_⟩;conv => whnf
    refine ⟨_, _, ⟨i + 1, h2, by omega, fin h2 e2a e2b, rfl, rfl⟩, by omega, by dsimp only; omega, ?_⟩
    repeat' first | refine And.intro ?_ ?_ | exact trivial | rfl | omega | exact fun _ _ h => h | exact fun _ _ => rfl
   ·have e9 : mpV f X k i = .nil := by subst hi'; rfl
    have e10 : (mpS f X k i).l = [] := by subst hi'; exact xZ
    rw [e9] at e6;refine W.draw (za _) follows (by rfl) ?_;conv => whnf
    refine ⟨oo, ?_⟩;conv => whnf
    rw [Int.toNat_natCast, e6];conv => whnf
    refine ⟨_, cxF (zcU p g none none f (mpN f X k i) (frN f X k) (by omega) (by omega) (by omega) hf0), ?_⟩;conv => whnf
    refine ⟨_, cxF ((ziW none none [] (rem (mpN f X k i * frN f X k) f).l (fun j => by rw [yn]; omega) hRb (by simp) (by omega)).toV), ?_⟩;conv => whnf
    rw [<- e10];refine ⟨_, cxF ((vA p (by omega) (by omega) none _ (zhq _ _) (Nat.le_trans (zfj (mpS f X k i) (rem (mpN f X k i * frN f X k) f) (n := 500) (by omega) (by omega)) (by omega))).toV), ?_⟩;conv => whnf
    rw [e7];refine ⟨oo, ?_⟩;conv => whnf
    rw [Int.toNat_natCast];obtain ⟨h2, e2a, e2b⟩ : ∃ h2 : Nat -> V, h2 i = .ints none (mpN f X (k + 1) i).l ∧ ∀ j, j ≠ i -> h2 j = h1 j := ⟨fun j => if j = i then .ints none (mpN f X (k + 1) i).l else h1 j, if_pos rfl, fun j hj => if_neg hj⟩
    refine ⟨⟨by show 0 + 1 <= 1; omega, rfl⟩, h2, by rw [e2a, e6]; rfl, fun j _ hj => e2b j hj, ?_⟩;conv => whnf
    refine hK6 _ ?_;clear hK6 K6;refine wrg ?_;conv => whnf
    refine ⟨oo, ?_⟩;conv => whnf
    refine ⟨_, _, ⟨i + 1, h2, by omega, fin h2 e2a e2b, rfl, rfl⟩, by omega, by dsimp only; omega, ?_⟩
    repeat' first | refine And.intro ?_ ?_ | exact trivial | rfl | omega | exact fun _ _ h => h | exact fun _ _ => rfl
  ·obtain rfl : i = k + 1 := by omega
   have hfin : ∀ j, j < k + 2 -> hh j = V.ints none (mpN f X (k + 1) j).l := by
    intro j hj;rw [hhi j hj];unfold mpW
    by_cases h5 : j < k + 1
    ·rw [if_pos h5]
    ·obtain rfl : j = k + 1 := by omega
     rw [if_neg (by omega), if_pos rfl, hTop]; rfl
   refine W.exit (hK9 _ ?_);clear hK7 K7 hK9 K9;refine wrg ?_;conv => whnf
   refine hK8 _ ?_;clear hK8 K8;refine wrg ?_;conv => whnf
   refine ⟨oo, ?_⟩;conv => whnf
   refine ⟨_, _, ⟨k + 1, by omega, rfl, rfl⟩, by omega, by dsimp only; omega, ?_⟩
   repeat' first | refine And.intro ?_ ?_ | exact trivial | rfl | omega | exact fun _ _ h => h | exact fun _ _ => rfl | exact hfin
 ·obtain rfl : k = n := by omega
  refine W.exit (hK1 _ ?_);clear hK7 K7 hK1 K1;refine wrs fun K hK => ?_;conv => whnf
  refine hK _ ?_;clear hK K;refine W.seqK fun K1 hK1 => ?_;refine wrs fun K hK => ?_;conv => whnf
  refine hK _ (W.block (W.invA (fun m e => ∃ (j b : Nat) (o : List Int), j <= k + 1 ∧ o = mpL f X k j ∧ m = k + 1 - j ∧ e = [(vt, .tab fun _ => none), (13, .ownI 2 b o), (76, .v (vMp f X k)), (77, .v (.int .i64 (k + 1 : Nat))), (78, .v (.int .i64 j))]) ⟨0, 0, [], Nat.zero_le _, rfl, rfl, rfl⟩ ?_));clear hK K;rintro m e ⟨j, b, o, hj, rfl, hm, rfl⟩;have hMj := hM k j;have hMl : (mpN f X k j).l.length = dg (mpN f X k j) := rfl;have hol : (mpL f X k j).length = j := zE _ _;refine wrs fun K hK => ?_;conv => whnf
  refine hK _ ?_;clear hK K;refine W.seqK fun K7 hK7 => W.cond ⟨fun h3 => ?_, fun h3 => ?_⟩ <;> (first | replace h3 := of_decide_eq_true h3 | replace h3 := of_decide_eq_false h3)
  ·refine W.skip (hK7 _ ?_);clear hK7 K7;refine W.seqK fun K8 hK8 => W.block ?_;refine wrs fun K hK => ?_;conv => whnf
   refine ⟨oo, ?_⟩;conv => whnf
   rw [Int.toNat_natCast];refine hK _ ?_;clear hK K;refine wrg ?_;conv => whnf
   refine zc rfl (ziU none (mpN f X k j).l (by omega)) fun hs' hhs => ?_;try dsimp only at hhs
   conv => whnf
   refine ⟨⟨rfl, by decide⟩, ?_⟩;conv => whnf
   intro b_3 hs_3 hh_3 hf_3;try dsimp only at hh_3 hf_3
   conv => whnf
   refine ⟨by dsimp only [List.length]; omega, ?_⟩;conv => whnf
   intro b_4 hs_4 hh_4 hf_4;try dsimp only at hh_4 hf_4
   conv => whnf
   refine hK8 _ ?_;clear hK8 K8;refine wrg ?_;conv => whnf
   refine ⟨oo, ?_⟩;conv => whnf
   exact zl ⟨j + 1, b_4, _, by omega, (km j fun j => cf (mpN f X k j).l 0).symm, rfl, rfl⟩
  ·obtain rfl : j = k + 1 := by omega
   refine W.exit (hK1 _ ?_);clear hK7 K7 hK1 K1;refine W.sw (c' := cxt [] [0, 1, 2, 4, 5, 6, 7, 9, 10, 11, 12, 13, 15, 21, 27, 28, 29, 30, 37, 38, 39, 40, 76, 77, 78, 79, 1000000]) ?_;refine W.rs (zm _ _) (by rfl) fun K hK => ?_;conv => whnf
   refine hK _ ?_;clear hK K;refine W.ret ?_;conv => whnf
   exact ⟨.v (.rf b (mpL f X k (k + 1)).length), rfl, trivial, .v (.int .i64 0), ⟨rfl, rfl⟩, trivial, b, rfl, fun h => xf _ _ h⟩

theorem zaX (kp : Int) (kl x : List Int) (_ : inR kp) (hkl : kl.length <= 1048576) (hx : x.length <= 1048576) : ∃ (r0 : List Int) (r1 : Int),
  (∀ g0 g1 : Option Nat, FnV 58 [vK kp g0 kl, .ints g1 x] (.tup [.ints none r0, .int .i64 r1])) ∧ (∀ g0 g1 : Option Nat, FnT Tryz.prog 57 [vK kp g0 kl, .ints g1 x] (RT r0 r1)) ∧ r0.length <= 1000000 ∧ r1 = xC kp kl x ∧
  (∀ hp : kp ∈ z6, letI := yE hp; ∀ f X : Poly kp, f.l = kl -> X.l = x -> xC kp kl x = 0 -> ∃ n, Per f X n ∧ r0 = mpL f X n (n + 1)) := by
 generalize hc : xC kp kl x = c
 by_cases h0 : c = 0
 case neg =>
  refine ⟨[], c, fun g0 g1 => ?_, fun g0 g1 => ?_, by simp, rfl, fun _ _ _ _ _ h => absurd h h0⟩
  ·refine ze (za [0, 1, 2, 4, 5, 6, 12]) Tryz.func58 rfl (by decide) Tryz.ntmps58 (Nat.le_of_ble_eq_true rfl) fun base => ?_;refine wrs fun K hK => ?_;conv => whnf
   refine ⟨rfl, ?_⟩;conv => whnf
   intro b_1 hs_1 hh_1 hf_1;try dsimp only at hh_1 hf_1
   conv => whnf
   refine hK _ ?_;clear hK K;refine wrs fun K hK => ?_;conv => whnf
   refine zc rfl (z8 kp g0 g1 g1 kl x (by omega) (by omega)) fun hs' hhs => ?_;try dsimp only at hhs
   conv => whnf
   rw [hc];refine hK _ ?_;clear hK K;refine W.seqK fun K1 hK1 => ?_;refine wrs fun K hK => ?_;conv => whnf
   refine hK _ (W.cond ⟨fun _ => ?_, fun hcc => absurd h0 (of_decide_eq_false hcc)⟩);clear hK K;refine wrs fun K hK => ?_;conv => whnf
   refine hK _ ?_;clear hK K;refine W.ret ?_;conv => whnf
   exact ⟨.v (.ints none []), rfl, trivial, .v (.int .i64 c), ⟨rfl, rfl⟩, trivial, rfl⟩
  ·refine yT (zm [] [0, 1, 2, 4, 5, 6, 7, 9, 10, 11, 12, 13, 15, 21, 27, 28, 29, 30, 37, 38, 39, 40, 76, 77, 78, 79, 1000000]) Tryz.func57 rfl (by decide) Tryz.ntmps57 (Nat.le_of_ble_eq_true rfl) (fun base => ?_) (Nat.le_of_ble_eq_true rfl);refine W.sw (c' := cx [0, 1, 2, 4, 5, 6, 7, 9, 10, 11, 12, 13, 15, 21, 27, 28, 29, 30, 37, 38, 39, 40, 76, 77, 78, 79, 1000000]) ?_;refine wrs fun K hK => ?_;conv => whnf
   refine ⟨rfl, ?_⟩;conv => whnf
   intro b_1 hs_1 hh_1 hf_1;try dsimp only at hh_1 hf_1
   conv => whnf
   refine hK _ ?_;clear hK K;refine W.seqK fun K1 hK1 => ?_;refine wrs fun K hK => ?_;conv => whnf
   refine ⟨⟨rfl, by decide, fun x hx => (by simp at hx; subst hx; exact ⟨rfl, rfl⟩)⟩, ?_⟩;conv => whnf
   intro b_2 hs_2 hh_2 hf_2;try dsimp only at hh_2 hf_2
   conv => whnf
   refine zc rfl (yH kp g0 (some b_2) kl 1 _ (fun _ => x) (by omega) (by omega) (zfb g1 x)) fun hs' hhs => ?_;try dsimp only at hhs
   conv => whnf
   rw [show zr kp kl true 1 (fun _ => x) = c from hc];refine hK _ ?_;clear hK K;refine wrs fun K hK => ?_;conv => whnf
   refine hK _ (W.cond ⟨fun _ => ?_, fun hcc => absurd h0 (of_decide_eq_false hcc)⟩);clear hK K;refine wrs fun K hK => ?_;conv => whnf
   refine hK _ ?_;clear hK K;refine W.ret ?_;conv => whnf
   exact ⟨.v (.rf 0 0), rfl, trivial, .v (.int .i64 (c)), ⟨rfl, rfl⟩, trivial, 0, rfl, fun hne => absurd rfl hne⟩
 subst h0;have hc1 := hc;obtain ⟨hk, hh⟩ := zaH hc;obtain ⟨hp, f, rfl, hfi, _, _, hf9⟩ := vQ hk;letI := yE hp;obtain ⟨X, rfl⟩ := vR hh.1;have hxl : X.l.length < f.l.length := hh.2;have hfl : f.l.length = dg f := rfl;have hXl : X.l.length = dg X := rfl;have hf0 := hfi.ne;have hp1 := zX hp;have h2 := hfi.1;obtain ⟨d, hd⟩ : ∃ d, dg f = d + 1 := ⟨dg f - 1, by omega⟩
 obtain ⟨n, hn, hn2⟩ := jw hfi hxl hd;have hml : (mpL f X n (n + 1)).length = n + 1 := zE _ _;refine ⟨mpL f X n (n + 1), 0, fun g0 g1 => ?_, fun g0 g1 => zoV kp g0 g1 f X hf9 h2 hf0 hxl n hn (by omega) hc1, by omega, rfl, fun _ φ Y e1 e2 _ => (by obtain rfl := jr e1; obtain rfl := jr e2; exact ⟨n, hn, rfl⟩)⟩;refine ze (za [0, 1, 2, 4, 5, 6, 12]) Tryz.func58 rfl (by decide) Tryz.ntmps58 (Nat.le_of_ble_eq_true rfl) fun base => ?_;refine wrs fun K hK => ?_;conv => whnf
 refine ⟨rfl, ?_⟩;conv => whnf
 intro b_1 hs_1 hh_1 hf_1;try dsimp only at hh_1 hf_1
 conv => whnf
 refine hK _ ?_;clear hK K;refine wrs fun K hK => ?_;conv => whnf
 refine zc rfl (z8 kp g0 g1 g1 f.l X.l (by omega) (by omega)) fun hs' hhs => ?_;try dsimp only at hhs
 conv => whnf
 rw [hc];refine hK _ ?_;clear hK K;refine W.seqK fun K1 hK1 => ?_;refine wrs fun K hK => ?_;conv => whnf
 refine hK _ (W.cond ⟨fun hcc => absurd rfl (of_decide_eq_true hcc), fun _ => W.skip (hK1 _ ?_)⟩);clear hK K hK1 K1;refine wrs fun K hK => ?_;conv => whnf
 refine zc rfl (za9 kp g0 g1 f X (by omega) h2 hf0 hxl n hn (by omega)) fun hs' hhs => ?_;try dsimp only at hhs
 conv => whnf
 refine hK _ ?_;clear hK K;refine W.ret ?_;conv => whnf
 exact ⟨.v (.ints none (mpL f X n (n + 1))), ⟨rfl, rfl⟩, trivial, .v (.int .i64 0), ⟨rfl, rfl⟩, trivial, rfl⟩


def kU (p n : Int) : Int := if isP p = true then (if 1 <= n ∧ n <= 4 then 0 else 2) else 1
theorem zlR {p n : Int} (h : kU p n = 0) : isP p = true ∧ 1 <= n ∧ n <= 4 := by
 unfold kU at h
 by_cases h1 : isP p = true
 ·rw [if_pos h1] at h
  by_cases h2 : 1 <= n ∧ n <= 4
  ·exact ⟨h1, h2⟩
  ·rw [if_neg h2] at h; cases h
 ·rw [if_neg h1] at h; cases h

theorem zj0 {p : Int} (hp : 2 <= p) (d : Nat) : (List.replicate (d + 1) (0 : Int)).set d 1 = dig p.toNat (p.toNat ^ d) := by
 have hT : Top p.toNat d ((List.replicate (d + 1) (0 : Int)).set d 1) := by
  refine ⟨by simp, by rw [yo (by simp), if_pos rfl], fun x hx => ?_⟩;obtain ⟨i, hi, rfl⟩ := List.getElem_of_mem hx;rw [List.getElem_set]
  split
  ·omega
  ·simp; omega
 have hn : num p.toNat ((List.replicate (d + 1) (0 : Int)).set d 1) = p.toNat ^ d := by
  have h1 : (List.replicate (d + 1) (0 : Int)).set d 1 = List.replicate d 0 ++ [1] := by
   refine kj (by simp) fun j hj => ?_;have hj : j < d + 1 := by simpa using hj
   rw [yo (by simp)]
   by_cases h2 : j = d
   ·subst h2; rw [if_pos rfl, zcK]
   ·rw [if_neg h2, zO, yt (by simp; omega), List.getElem_append_left (by simp; omega)]; simp
  rw [h1, zcI]; simp [num]
 rw [<- hn, hT.dig (by omega)]

theorem zaY (p n : Int) (r : Option Nat) (hr : ∀ h : p ∈ z6, 1 <= n ∧ n <= 4 -> letI := yE h; kT (fun k => Irr (zZ p k)) (p.toNat ^ n.toNat) (2 * p.toNat ^ n.toNat) r) :
  FnV 39 [.int .i64 p, .int .i64 n] (if kU p n = 0 then RV (znv p.toNat r) 0 else RV [] (kU p n)) := by
 by_cases hc : kU p n = 0
 ·obtain ⟨hp0, hn1, hn4⟩ := zlR hc;have hp := zcT hp0;have hpr : p ∈ z6 := of_decide_eq_true hp0;have hr := hr hpr ⟨hn1, hn4⟩;letI := yE hpr;rw [if_pos hc];obtain ⟨d, rfl⟩ : ∃ d : Nat, n = d := ⟨n.toNat, by omega⟩
  rw [Int.toNat_natCast] at hr;have hB : 0 < p.toNat ^ d := Nat.pow_pos (by omega);have hfl := zj0 (p := p) (by omega) d;refine ze (za [0, 1, 4, 5, 6, 7, 12]) Tryz.func39 rfl (by decide) Tryz.ntmps39 (Nat.le_of_ble_eq_true rfl) fun base => ?_;refine wrs fun K hK => ?_;conv => whnf
  refine hK _ ?_;clear hK K;refine wrs fun K hK => ?_;conv => whnf
  refine zc rfl (ze9 p d 1 4) fun hs' hhs => ?_;try dsimp only at hhs
  conv => whnf
  rw [show (if isP p = true then (if 1 <= (d : Int) ∧ (d : Int) <= 4 then (0 : Int) else 2) else 1) = 0 from hc];refine hK _ ?_;clear hK K;refine W.seqK fun K1 hK1 => ?_;refine wrs fun K hK => ?_;conv => whnf
  refine hK _ (W.cond ⟨fun hcc => absurd rfl (of_decide_eq_true hcc), fun _ => W.skip (hK1 _ ?_)⟩);clear hK K hK1 K1;refine wrs fun K hK => ?_;conv => whnf
  refine ⟨oo, ?_⟩;conv => whnf
  refine ⟨rfl, ?_⟩;conv => whnf
  refine ⟨oo, ?_⟩;conv => whnf
  have e1 : ((d : Int) + 1).toNat = d + 1 := by omega
  rw [e1];intro b_2 hs_2 hh_2 hf_2;try dsimp only at hh_2 hf_2
  conv => whnf
  refine hK _ ?_;clear hK K;refine wrs fun K hK => ?_;conv => whnf
  refine ⟨⟨by omega, by simp; omega⟩, ?_⟩;conv => whnf
  rw [Int.toNat_natCast, hfl];refine hK _ ?_;clear hK K;refine wrs fun K hK => ?_;conv => whnf
  refine zc rfl (zfa p (some b_2) d (p.toNat ^ d) (by omega) (by omega) (Nat.le_refl _) (by omega) r hr) fun hs' hhs => ?_;try dsimp only at hhs
  conv => whnf
  refine hK _ ?_;clear hK K;refine W.ret ?_;conv => whnf
  exact ⟨.v (.ints none (znv p.toNat r)), ⟨rfl, rfl⟩, trivial, .v (.int .i64 0), ⟨rfl, rfl⟩, trivial, rfl⟩
 ·rw [if_neg hc];refine ze (za [0, 1, 4, 5, 6, 7, 12]) Tryz.func39 rfl (by decide) Tryz.ntmps39 (Nat.le_of_ble_eq_true rfl) fun base => ?_;refine wrs fun K hK => ?_;conv => whnf
  refine hK _ ?_;clear hK K;refine wrs fun K hK => ?_;conv => whnf
  refine zc rfl (ze9 p n 1 4) fun hs' hhs => ?_;try dsimp only at hhs
  conv => whnf
  rw [show (if isP p = true then (if 1 <= n ∧ n <= 4 then (0 : Int) else 2) else 1) = kU p n from rfl];refine hK _ ?_;clear hK K;refine W.seqK fun K1 hK1 => ?_;refine wrs fun K hK => ?_;conv => whnf
  refine hK _ (W.cond ⟨fun _ => ?_, fun hcc => absurd hc (of_decide_eq_false hcc)⟩);clear hK K;refine wrs fun K hK => ?_;conv => whnf
  refine hK _ ?_;clear hK K;refine W.ret ?_;conv => whnf
  exact ⟨.v (.ints none []), rfl, trivial, .v (.int .i64 (kU p n)), ⟨rfl, rfl⟩, trivial, rfl⟩




theorem zaI {n : Nat} {c : Nat -> Int} (hc : Byt n c) : ziH 186 [] n c (fun r => ∃ q : Int, r = .int .i64 q ∧ q ∈ ([1, 4, 0, 97, 101, -3, 9, 2, 3, 5, 7, 11, 13, 17, 31] : List Int)) := by
 rintro b x hx;refine jG (cx := cxt [] [0, 2, 5, 1000000, 1000001]) (zm [] [0, 2, 5, 1000000, 1000001]) Tryz.func186 rfl (by decide) Tryz.ntmps186 (Nat.le_of_ble_eq_true rfl) (Nat.le_of_ble_eq_true rfl) rfl rfl fun base hs0 O U hw v0 hb0 => ?_;refine W.sw (c' := cx [0, 2, 5, 1000000, 1000001]) ?_;refine wrs fun K hK => ?_;conv => whnf
 refine hK _ ?_;clear hK K;refine W.seqK fun K1 hK1 => ?_;refine wrs fun K hK => ?_;conv => whnf
 refine ⟨⟨rfl, rfl⟩, ?_⟩;conv => whnf
 refine ⟨rfl, _, (zy hc 24 (by constructor <;> decide) b x hx), ?_⟩;rintro hs_ms1 av x' t' hh_ms1 ⟨rfl, ⟨x1, hx1, rfl⟩, _, rfl, ⟨q, rfl, q0, q1, q2⟩⟩ _ _ _;try dsimp only at hh_ms1
 conv => whnf
 refine hK _ (W.cond ⟨fun h => ?_, fun h => ?_⟩) <;> clear hK K
 ·refine wrs fun K hK => ?_;conv => whnf
  refine ⟨⟨rfl, by decide⟩, ?_⟩;conv => whnf
  intro b_7 hs_7 hh_7 hf_7;try dsimp only at hh_7 hf_7
  conv => whnf
  refine ⟨⟨rfl, rfl⟩, ?_⟩;conv => whnf
  refine ⟨rfl, _, (vw hc none [1, 4, 0, 97, 101, -3, 9] ⟨by decide, by decide⟩ b x1 hx1), ?_⟩;rintro hs_ms2 av x' t' hh_ms2 ⟨rfl, ⟨x2, hx2, rfl⟩, _, rfl, ⟨r, rfl, hr⟩⟩ _ _ _;try dsimp only at hh_ms2
  conv => whnf
  refine hK _ ?_;clear hK K
  have hr2 : r ∈ ([1, 4, 0, 97, 101, -3, 9, 2, 3, 5, 7, 11, 13, 17, 31] : List Int) := by
   simp only [List.mem_cons, List.not_mem_nil, or_false] at hr ⊢
   omega
  refine W.ret ?_;conv => whnf
  refine ⟨by dsimp only; omega, ?_⟩;conv => whnf
  refine ⟨rfl, ?_⟩;conv => whnf
  refine ⟨.int .i64 r, ⟨rfl, rfl⟩, ?_⟩;conv => whnf
  exact ⟨.ownB b (x2), ⟨rfl, rfl⟩, .inr ⟨rfl, rfl⟩, .dead, trivial, rfl, rfl, rfl, ⟨x2, hx2, rfl⟩, _, rfl, ⟨r, rfl, hr2⟩⟩
 refine W.skip (hK1 _ ?_);clear hK1 K1;refine wrs fun K hK => ?_;conv => whnf
 refine ⟨⟨rfl, by decide⟩, ?_⟩;conv => whnf
 intro b_7 hs_7 hh_7 hf_7;try dsimp only at hh_7 hf_7
 conv => whnf
 refine ⟨⟨rfl, rfl⟩, ?_⟩;conv => whnf
 refine ⟨rfl, _, (vw hc none [2, 3, 5, 7, 2, 3, 5, 11, 13, 17, 31] ⟨by decide, by decide⟩ b x1 hx1), ?_⟩;rintro hs_ms2 av x' t' hh_ms2 ⟨rfl, ⟨x2, hx2, rfl⟩, _, rfl, ⟨r, rfl, hr⟩⟩ _ _ _;try dsimp only at hh_ms2
 conv => whnf
 refine hK _ ?_;clear hK K
 have hr2 : r ∈ ([1, 4, 0, 97, 101, -3, 9, 2, 3, 5, 7, 11, 13, 17, 31] : List Int) := by
  simp only [List.mem_cons, List.not_mem_nil, or_false] at hr ⊢
  omega
 refine W.ret ?_;conv => whnf
 refine ⟨by dsimp only; omega, ?_⟩;conv => whnf
 refine ⟨rfl, ?_⟩;conv => whnf
 refine ⟨.int .i64 r, ⟨rfl, rfl⟩, ?_⟩;conv => whnf
 exact ⟨.ownB b (x2), ⟨rfl, rfl⟩, .inr ⟨rfl, rfl⟩, .dead, trivial, rfl, rfl, rfl, ⟨x2, hx2, rfl⟩, _, rfl, ⟨r, rfl, hr2⟩⟩

def znE (p : Int) (d : Nat) (L : List Int) : Prop := 1 <= L.length ∧ L.length <= d + 1 ∧ (∀ j, 0 <= cf L j ∧ cf L j < p) ∧ cf L (L.length - 1) ≠ 0

theorem zbx {n : Nat} {c : Nat -> Int} (hc : Byt n c) (p : Int) (hp : 2 <= p ∧ p <= 1000) (d : Nat) (hd : d <= 100) : ziH 190 [.int .i64 p, .int .i64 d] n c (fun r => ∃ L, r = .ints none L ∧ znE p d L) := by
 rintro b x hx;refine jG (cx := cxt [] [0, 1, 2, 6, 7, 8, 15, 1000000, 1000001]) (zm [] [0, 1, 2, 6, 7, 8, 15, 1000000, 1000001]) Tryz.func190 rfl (by decide) Tryz.ntmps190 (Nat.le_of_ble_eq_true rfl) (Nat.le_of_ble_eq_true rfl) rfl rfl fun base hs0 O U hw v0 hb0 => ?_;refine W.sw (c' := cx [0, 1, 2, 6, 7, 8, 15, 1000000, 1000001]) ?_;refine wrs fun K hK => ?_;conv => whnf
 refine hK _ ?_;clear hK K;refine wrs fun K hK => ?_;conv => whnf
 refine ⟨⟨rfl, by decide⟩, ?_⟩;conv => whnf
 intro b_7 hs_7 hh_7 hf_7;try dsimp only at hh_7 hf_7
 conv => whnf
 refine hK _ ?_;clear hK K;refine W.seqK fun K1 hK1 => wrs fun K hK => ?_;conv => whnf
 refine ⟨oo, ?_⟩;conv => whnf
 refine ⟨⟨rfl, rfl⟩, ?_⟩;conv => whnf
 refine ⟨rfl, _, (zy hc ((d : Int) + 1) (by constructor <;> omega) b x hx), ?_⟩;rintro hs_ms1 av x' t' hh_ms1 ⟨rfl, ⟨x1, hx1, rfl⟩, _, rfl, ⟨q, rfl, q0, q1, q2⟩⟩ _ _ _;try dsimp only at hh_ms1
 conv => whnf
 have hq : q <= d := by
  by_cases h : d = 0
  ·have := q2 (by omega); omega
  ·have := q1 (by omega); omega
 refine hK _ (W.block (W.invH hs0 hb0 (fun m e => ∃ (k bo : Nat) (y : V) (L : List Int), k <= d ∧ zaE n c y ∧ L.length + k <= d ∧ (∀ j, 0 <= cf L j ∧ cf L j < p) ∧ m = k ∧ e = [(vt, .dead), (vk, .keep O U hw 0 v0), (0, .ownB b y), (1, .v (.int .i64 p)), (2, .v (.int .i64 d)), (7, .ownI 2 bo L), (8, .v (.int .i64 k))]) _ _ (⟨q.toNat, b_7, x1, [], by omega, hx1, by simp; omega, fun j => by rw [yn]; omega, rfl, by rw [Int.toNat_of_nonneg q0]⟩) (by dsimp only; omega) (by repeat' first | refine And.intro ?_ ?_ | exact trivial | rfl | omega | exact .inl rfl | exact fun _ _ => rfl | exact fun _ _ h => h | assumption | exact fun i hi => (by obtain rfl : i = 0 := (by omega); rfl)) ?_));clear hK K;rintro m e ⟨k, bo, y, L, h1, hy, h2, h3, hm, rfl⟩;refine W.seqK fun K7 hK7 => wrs fun K hK => ?_;conv => whnf
 refine hK _ (W.cond ⟨fun h5 => ?_, fun h5 => ?_⟩) <;> clear hK K <;> (first | replace h5 := of_decide_eq_true h5 | replace h5 := of_decide_eq_false h5)
 ·have hk : 1 <= k := by omega
  refine W.skip (hK7 _ (W.seqK fun K8 hK8 => W.block ?_));clear hK7 K7;refine wrg ?_;conv => whnf
  refine ⟨⟨rfl, rfl⟩, ?_⟩;conv => whnf
  refine ⟨rfl, _, (zy hc p (by constructor <;> omega) b y hy), ?_⟩;rintro hs_ms2 av x' t' hh_ms2 ⟨rfl, ⟨x2, hx2, rfl⟩, _, rfl, ⟨r1, rfl, r10, r11, _⟩⟩ _ _ _;try dsimp only at hh_ms2
  conv => whnf
  refine ⟨⟨rfl, rfl⟩, ?_⟩;conv => whnf
  refine ⟨rfl, _, (zy hc p (by constructor <;> omega) b x2 hx2), ?_⟩;rintro hs_ms3 av x' t' hh_ms3 ⟨rfl, ⟨x3, hx3, rfl⟩, _, rfl, ⟨r2, rfl, r20, r21, _⟩⟩ _ _ _;try dsimp only at hh_ms3
  conv => whnf
  have h11 := r11 (by omega);have h21 := r21 (by omega);refine ⟨⟨rfl, by decide⟩, ?_⟩;conv => whnf
  intro b_1 hs_1 hh_1 hf_1;try dsimp only at hh_1 hf_1
  conv => whnf
  refine ⟨⟨rfl, rfl⟩, ?_⟩;conv => whnf
  refine ⟨rfl, _, (vw hc none [r1, 0, r2] ⟨(by show 1 <= 3; omega), (by show 3 <= 1000; omega)⟩ b x3 hx3), ?_⟩;rintro hs_ms4 av x' t' hh_ms4 ⟨rfl, ⟨x4, hx4, rfl⟩, _, rfl, ⟨r, rfl, hr⟩⟩ _ _ _;try dsimp only at hh_ms4
  conv => whnf
  have hr : 0 <= r ∧ r < p := by
   simp only [List.mem_cons, List.not_mem_nil, or_false] at hr
   omega
  refine ⟨⟨rfl, by decide⟩, ?_⟩;conv => whnf
  intro b_2 hs_2 hh_2 hf_2;try dsimp only at hh_2 hf_2
  conv => whnf
  refine ⟨by simp; omega, ?_⟩;conv => whnf
  intro b_3 hs_3 hh_3 hf_3;try dsimp only at hh_3 hf_3
  conv => whnf
  refine hK8 _ ?_;clear hK8 K8;refine wrg ?_;conv => whnf
  refine ⟨oo, ?_⟩;conv => whnf
  have hL : ∀ j, 0 <= cf (L ++ [r]) j ∧ cf (L ++ [r]) j < p := fun j => by
   unfold cf;rw [List.getD_eq_getElem?_getD];rcases Nat.lt_trichotomy j L.length with hj | hj | hj
   ·rw [List.getElem?_append_left hj, <- List.getD_eq_getElem?_getD]; exact h3 j
   ·rw [List.getElem?_append_right (by omega), hj, Nat.sub_self]; exact hr
   ·rw [List.getElem?_eq_none (by simp; omega)]; show (0 : Int) <= 0 ∧ (0 : Int) < p; omega
  rw [show ((k : Int) - 1) = ((k - 1 : Nat) : Int) by omega];exact zl ⟨k - 1, b_3, x4, L ++ [r], by omega, hx4, by simp; omega, hL, rfl, rfl⟩
 ·obtain rfl : k = 0 := by omega
  refine W.exit (hK1 _ ?_);clear hK7 K7 hK1 K1;refine wrs fun K hK => ?_;conv => whnf
  refine ⟨oo, ?_⟩;conv => whnf
  refine ⟨⟨rfl, rfl⟩, ?_⟩;conv => whnf
  refine ⟨rfl, _, (zy hc (p - 1) (by constructor <;> omega) b y hy), ?_⟩;rintro hs_ms2 av x' t' hh_ms2 ⟨rfl, ⟨x2, hx2, rfl⟩, _, rfl, ⟨r1, rfl, r10, r11, r12⟩⟩ _ _ _;try dsimp only at hh_ms2
  conv => whnf
  refine ⟨⟨rfl, rfl⟩, ?_⟩;conv => whnf
  refine ⟨rfl, _, (zy hc 2 (by constructor <;> decide) b x2 hx2), ?_⟩;rintro hs_ms3 av x' t' hh_ms3 ⟨rfl, ⟨x3, hx3, rfl⟩, _, rfl, ⟨r2, rfl, r20, r21, _⟩⟩ _ _ _;try dsimp only at hh_ms3
  conv => whnf
  have h11 : r1 <= p - 2 := by
   by_cases h : 1 < p - 1
   ·have := r11 h; omega
   ·have := r12 (by omega); omega
  have h21 := r21 (by omega)
  have hmul : 0 <= r1 * r2 ∧ r1 * r2 <= p - 2 := by
   have : r2 = 0 ∨ r2 = 1 := by omega
   rcases this with rfl | rfl <;> simp <;> omega
  refine ⟨by show _ <= r1 * r2 ∧ r1 * r2 <= _; omega, ?_⟩;conv => whnf
  refine ⟨by show _ <= 1 + r1 * r2 ∧ 1 + r1 * r2 <= _; omega, ?_⟩;conv => whnf
  refine ⟨⟨rfl, by decide⟩, ?_⟩;conv => whnf
  intro b_1 hs_1 hh_1 hf_1;try dsimp only at hh_1 hf_1
  conv => whnf
  refine ⟨by simp; omega, ?_⟩;conv => whnf
  intro b_2 hs_2 hh_2 hf_2;try dsimp only at hh_2 hf_2
  conv => whnf
  refine hK _ ?_;clear hK K
  have hL : znE p d (L ++ [1 + r1 * r2]) := by
   have hlen : (L ++ [1 + r1 * r2]).length = L.length + 1 := by simp
   refine ⟨by omega, by omega, fun j => ?_, ?_⟩
   ·unfold cf;rw [List.getD_eq_getElem?_getD];rcases Nat.lt_trichotomy j L.length with hj | hj | hj
    ·rw [List.getElem?_append_left hj, <- List.getD_eq_getElem?_getD]; exact h3 j
    ·rw [List.getElem?_append_right (by omega), hj, Nat.sub_self]; show (0 : Int) <= 1 + r1 * r2 ∧ 1 + r1 * r2 < p; omega
    ·rw [List.getElem?_eq_none (by omega)]; show (0 : Int) <= 0 ∧ (0 : Int) < p; omega
   ·rw [hlen];unfold cf;rw [List.getD_eq_getElem?_getD, List.getElem?_append_right (by omega), show L.length + 1 - 1 - L.length = 0 by omega];show (1 + r1 * r2 : Int) ≠ 0
    omega
  refine W.ret ?_;conv => whnf
  refine ⟨by dsimp only; omega, ?_⟩;conv => whnf
  refine ⟨rfl, ?_⟩;conv => whnf
  refine ⟨.ints none (L ++ [1 + r1 * r2]), ⟨.inl rfl, rfl⟩, ?_⟩;conv => whnf
  exact ⟨.ownB b (x3), ⟨rfl, rfl⟩, .inr ⟨rfl, rfl⟩, .dead, trivial, rfl, rfl, rfl, ⟨x3, hx3, rfl⟩, _, rfl, ⟨_, rfl, hL⟩⟩

theorem zj1 {n : Nat} {c : Nat -> Int} (hc : Byt n c) : ziH 315 [] n c (fun r => ∃ (p : Int) (L : List Int), r = vK p none L ∧ (2 <= p ∧ p <= 7) ∧ L.length <= 9) := by
 rintro b x hx;refine jG (cx := cxt [] [0, 2, 3, 4, 5, 6, 7, 19, 36, 1000000, 1000001]) (zm [] [0, 2, 3, 4, 5, 6, 7, 19, 36, 1000000, 1000001]) Tryz.func315 rfl (by decide) Tryz.ntmps315 (Nat.le_of_ble_eq_true rfl) (Nat.le_of_ble_eq_true rfl) rfl rfl fun base hs0 O U hw v0 hb0 => ?_;refine W.sw (c' := cx [0, 2, 3, 4, 5, 6, 7, 19, 36, 1000000, 1000001]) ?_;refine wrs fun K hK => ?_;conv => whnf
 intro b_2 hs_2 hh_2 hf_2;try dsimp only at hh_2 hf_2
 conv => whnf
 refine hK _ ?_;clear hK K;refine wrs fun K hK => ?_;conv => whnf
 refine ⟨⟨rfl, by decide⟩, ?_⟩;conv => whnf
 intro b_7 hs_7 hh_7 hf_7;try dsimp only at hh_7 hf_7
 conv => whnf
 refine ⟨⟨rfl, rfl⟩, ?_⟩;conv => whnf
 refine ⟨rfl, _, (vw hc none [2, 3, 5, 2, 3, 7] ⟨by decide, by decide⟩ b x hx), ?_⟩;rintro hs_ms1 av x' t' hh_ms1 ⟨rfl, ⟨x1, hx1, rfl⟩, _, rfl, ⟨p, rfl, hp⟩⟩ _ _ _;try dsimp only at hh_ms1
 conv => whnf
 refine hK _ ?_;clear hK K
 have hpp : p ∈ z6 := by
  simp only [List.mem_cons, List.not_mem_nil, or_false] at hp
  unfold z6;simp only [List.mem_cons, List.not_mem_nil, or_false]
  omega
 have hp27 : 2 <= p ∧ p <= 7 := by
  simp only [List.mem_cons, List.not_mem_nil, or_false] at hp
  omega
 letI := yE hpp;refine wrs fun K hK => ?_;conv => whnf
 refine ⟨⟨rfl, rfl⟩, ?_⟩;conv => whnf
 refine ⟨rfl, _, (zy hc 4 (by constructor <;> decide) b x1 hx1), ?_⟩;rintro hs_ms2 av x' t' hh_ms2 ⟨rfl, ⟨x2, hx2, rfl⟩, _, rfl, ⟨q, rfl, q0, q1, _⟩⟩ _ _ _;try dsimp only at hh_ms2
 conv => whnf
 have hq4 := q1 (by decide);refine ⟨oo, ?_⟩;conv => whnf
 refine hK _ ?_;clear hK K;obtain ⟨d, hd⟩ : ∃ d : Nat, 1 + q = d := ⟨(1 + q).toNat, by omega⟩
 rw [hd];have hd14 : 1 <= d ∧ d <= 4 := by omega
 refine wrs fun K hK => ?_;conv => whnf
 refine ⟨oo, ?_⟩;conv => whnf
 refine ⟨rfl, ?_⟩;conv => whnf
 refine ⟨oo, ?_⟩;conv => whnf
 intro b_5 hs_5 hh_5 hf_5;try dsimp only at hh_5 hf_5
 conv => whnf
 refine hK _ ?_;clear hK K;refine W.seqK fun K1 hK1 => wrs fun K hK => ?_;conv => whnf
 refine hK _ (W.block (W.invH hs0 hb0 (fun m e => ∃ (i bo : Nat) (y : V) (X : List Int), i <= d ∧ zaE n c y ∧ X.length = d + 1 ∧ (∀ j, 0 <= cf X j ∧ cf X j < p) ∧ m = d - i ∧ e = [(vt, .dead), (vk, .keep O U hw 0 v0), (0, .ownB b y), (2, .ownB b_2 (.agg [.int .i64 0, .nil])), (3, .v (.int .i64 p)), (4, .v (.int .i64 d)), (5, .ownI 2 bo X), (6, .v (.int .i64 i))]) _ _ (⟨0, b_5, x2, List.replicate (d + 1) 0, Nat.zero_le _, hx2, by simp, fun j => by rw [zO]; omega, rfl, rfl⟩) (by dsimp only; omega) (by repeat' first | refine And.intro ?_ ?_ | exact trivial | rfl | omega | exact .inl rfl | exact fun _ _ => rfl | exact fun _ _ h => h | assumption | exact fun i hi => (by obtain rfl : i = 0 := (by omega); rfl)) ?_));clear hK K;rintro m e ⟨i, bo, y, X, h1, hy, h2, h3, hm, rfl⟩;refine W.seqK fun K7 hK7 => wrs fun K hK => ?_;conv => whnf
 refine hK _ (W.cond ⟨fun h5 => ?_, fun h5 => ?_⟩) <;> clear hK K <;> (first | replace h5 := of_decide_eq_true h5 | replace h5 := of_decide_eq_false h5)
 ·have hi : i < d := by omega
  refine W.skip (hK7 _ (W.seqK fun K8 hK8 => W.block ?_));clear hK7 K7;refine wrg ?_;conv => whnf
  refine ⟨⟨rfl, rfl⟩, ?_⟩;conv => whnf
  refine ⟨rfl, _, (zy hc p (by constructor <;> omega) b y hy), ?_⟩;rintro hs_ms3 av x' t' hh_ms3 ⟨rfl, ⟨x3, hx3, rfl⟩, _, rfl, ⟨r1, rfl, r10, r11, _⟩⟩ _ _ _;try dsimp only at hh_ms3
  conv => whnf
  have h11 := r11 (by omega);refine ⟨oo, ?_⟩;conv => whnf
  rw [Int.toNat_natCast];refine hK8 _ ?_;clear hK8 K8;refine wrg ?_;conv => whnf
  refine ⟨oo, ?_⟩;conv => whnf
  have hX : ∀ j, 0 <= cf (X.set i r1) j ∧ cf (X.set i r1) j < p := fun j => by
   unfold cf;rw [List.getD_eq_getElem?_getD, List.getElem?_set]
   by_cases hj : i = j
   ·rw [if_pos hj, if_pos (by omega)]; exact ⟨r10, h11⟩
   ·rw [if_neg hj, <- List.getD_eq_getElem?_getD]; exact h3 j
  exact zl ⟨i + 1, bo, x3, X.set i r1, by omega, hx3, by simp; omega, hX, rfl, rfl⟩
 ·obtain rfl : i = d := by omega
  have hp1 := zX hpp
  have hT : Top p.toNat i (X.set i 1) := by
   refine ⟨by simp; omega, ?_, fun z hz => ?_⟩
   ·unfold cf; rw [List.getD_eq_getElem?_getD, List.getElem?_set_self (by omega)]; rfl
   ·obtain ⟨j, hj, rfl⟩ := List.mem_iff_getElem.1 hz;rw [List.getElem_set]
    split
    ·omega
    ·have := h3 j;rw [yt (by simpa using hj)] at this;omega
  have hdig := hT.dig (by omega);have hrng := hT.range (by omega);obtain ⟨r, hr⟩ := zcd (fun n => Irr (zZ p n)) (num p.toNat (X.set i 1)) (2 * p.toNat ^ i);obtain ⟨r2, hr2⟩ := zcd (fun n => Irr (zZ p n)) (p.toNat ^ i) (2 * p.toNat ^ i)
  have ho : ∀ {a : Nat} {q : Option Nat}, p.toNat ^ i <= a -> kT (fun n => Irr (zZ p n)) a (2 * p.toNat ^ i) q -> (znv p.toNat q).length <= 9 := fun {a q} ha hq => by
   cases q with
   | none => show 0 <= 9; omega
   | some v =>
    have := (zm5 (p := p.toNat) (d := i) (k := v) (by omega) (by have := hq.1; omega) hq.2.1).len;show (dig p.toNat v).length <= 9
    omega
  refine W.exit (hK1 _ ?_);clear hK7 K7 hK1 K1;refine wrs fun K hK => ?_;conv => whnf
  refine ⟨oo, ?_⟩;conv => whnf
  rw [Int.toNat_natCast];refine hK _ ?_;clear hK K;refine wrs fun K hK => ?_;conv => whnf
  refine zc rfl ((by have := zfa p (some bo) i (num p.toNat (X.set i 1)) hd14.1 hd14.2 hrng.1 hrng.2 r hr; rw [hdig] at this; exact this)) fun hs' hhs => ?_;try dsimp only at hhs
  conv => whnf
  refine hK _ ?_;clear hK K;refine W.seqK fun K1 hK1 => ?_
  have fin : ∀ (L : List Int) (t : S), L.length <= 9 -> hs0 <= t.hs -> zB t.env [(vt, .dead), (vk, .keep O U hw 0 v0), (0, .ownB b y), (2, .ownB b_2 (.agg [.int .i64 0, .nil])), (3, .v (.int .i64 p)), (7, .v (.ints none L))] -> K1 t := by
   intro L t hL h9 h10;refine hK1 _ (W.weak (t := ⟨[(vt, .dead), (vk, .keep O U hw 0 v0), (0, .ownB b y), (2, .ownB b_2 (.agg [.int .i64 0, .nil])), (3, .v (.int .i64 p)), (7, .v (.ints none L))], hs0⟩) ⟨h9, h10⟩ hb0 ?_);clear hK1 K1;refine wrs fun K hK => ?_;conv => whnf
   refine ⟨s23, ?_⟩;conv => whnf
   refine hK _ ?_;clear hK K;refine W.ret ?_;conv => whnf
   refine ⟨by dsimp only; omega, ?_⟩;conv => whnf
   exact ⟨.ownB b (y), ⟨rfl, rfl⟩, .inr ⟨rfl, rfl⟩, .dead, trivial, rfl, rfl, rfl, ⟨y, hy, rfl⟩, _, rfl, ⟨p, L, rfl, hp27, hL⟩⟩
  refine wrs fun K hK => ?_;conv => whnf
  refine hK _ (W.cond ⟨fun h => ?_, fun h => ?_⟩) <;> clear hK K
  ·have hcn : kU p i = 0 := by
    unfold kU;rw [if_pos (show isP p = true from decide_eq_true hpp), if_pos (by omega)]
   refine wrg ?_;conv => whnf
   refine zc rfl ((by have := zaY p i r2 (fun _ _ => by rw [Int.toNat_natCast]; exact hr2); rw [if_pos hcn] at this; exact this)) fun hs' hhs => ?_;try dsimp only at hhs
   conv => whnf
   refine fin _ _ (ho (Nat.le_refl _) hr2) (by dsimp only; omega) ?_;exact cvr
  ·refine W.skip (fin _ _ (ho hrng.1 hr) (by dsimp only; omega) ?_);exact cvr


def QK (r : V) : Prop := ∃ (p : Int) (L : List Int), r = vK p none L ∧ (-1000 <= p ∧ p <= 1000) ∧ L.length <= 100


theorem zgq {n : Nat} {c : Nat -> Int} (hc : Byt n c) : ziH 168 [] n c QK := by
 rintro b x hx;refine jG (cx := cxt [] [0, 2, 3, 7, 8, 17, 24, 1000000, 1000001]) (zm [] [0, 2, 3, 7, 8, 17, 24, 1000000, 1000001]) Tryz.func168 rfl (by decide) Tryz.ntmps168 (Nat.le_of_ble_eq_true rfl) (Nat.le_of_ble_eq_true rfl) rfl rfl fun base hs0 O U hw v0 hb0 => ?_;refine W.sw (c' := cx [0, 2, 3, 7, 8, 17, 24, 1000000, 1000001]) ?_;refine wrs fun K hK => ?_;conv => whnf
 intro b_2 hs_2 hh_2 hf_2;try dsimp only at hh_2 hf_2
 conv => whnf
 refine hK _ ?_;clear hK K;refine wrs fun K hK => ?_;conv => whnf
 refine ⟨⟨rfl, rfl⟩, ?_⟩;conv => whnf
 refine ⟨rfl, _, (zj1 hc b x hx), ?_⟩;rintro hs_ms1 av x' t' hh_ms1 ⟨rfl, ⟨x1, hx1, rfl⟩, _, rfl, ⟨p, L, rfl, hp, hL⟩⟩ _ _ _;try dsimp only at hh_ms1
 conv => whnf
 intro b_3 hs_3 hh_3 hf_3;try dsimp only at hh_3 hf_3
 conv => whnf
 refine ⟨s23, ?_⟩;conv => whnf
 refine hK _ ?_;clear hK K;refine W.seqK fun K1 hK1 => ?_;refine wrs fun K hK => ?_;conv => whnf
 refine ⟨⟨rfl, rfl⟩, ?_⟩;conv => whnf
 refine ⟨rfl, _, (zy hc 24 (by constructor <;> decide) b x1 hx1), ?_⟩;rintro hs_ms2 av x' t' hh_ms2 ⟨rfl, ⟨x2, hx2, rfl⟩, _, rfl, ⟨q, rfl, q0, q1, _⟩⟩ _ _ _;try dsimp only at hh_ms2
 conv => whnf
 refine hK _ (W.block ?_);clear hK K;refine wrs fun K hK => ?_;conv => whnf
 refine hK _ (W.cond ⟨fun h => ?_, fun h => ?_⟩) <;> clear hK K
 ·refine W.seqK fun K2 hK2 => W.sch follows ?_;refine Wany.takeF (za []) 0 (by rfl) (by rfl) (by rfl) (by rfl) (by decide) (by kernel_rfl) (by kernel_rfl) (by kernel_rfl) ?_;conv => whnf
  refine wt 2 ?_;conv => whnf
  refine Wany.takeF (za []) 3 (by rfl) (by rfl) (by rfl) (by rfl) (by decide) (by kernel_rfl) (by kernel_rfl) (by kernel_rfl) ?_;conv => whnf
  refine w2 1 4 ?_ ?_ <;> conv => whnf
  ·refine w1 4 ?_;conv => whnf
   refine w1 5 ?_;conv => whnf
   refine ⟨⟨rfl, rfl⟩, ?_⟩;conv => whnf
   refine ⟨rfl, _, (zbx hc p (by omega) 4 (by omega) b x2 hx2), ?_⟩;rintro hs_ms3 av x' t' hh_ms3 ⟨rfl, ⟨x3, hx3, rfl⟩, _, rfl, ⟨L2, rfl, hL2⟩⟩ _ _ _;try dsimp only at hh_ms3
   conv => whnf
   refine wt 6 ?_;conv => whnf
   refine w1 7 ?_;conv => whnf
   refine ⟨s23, ?_⟩;conv => whnf
   refine wd1 (hK2 _ ?_);clear hK2 K2;refine W.ret ?_;conv => whnf
   refine ⟨by dsimp only; omega, ?_⟩;conv => whnf
   exact ⟨.ownB b (x3), ⟨rfl, rfl⟩, .inr ⟨rfl, rfl⟩, .dead, trivial, rfl, rfl, rfl, ⟨x3, hx3, rfl⟩, _, rfl, ⟨p, L2, rfl, by omega, by have := hL2.2.1; omega⟩⟩
  ·refine w2 1 5 ?_ ?_ <;> conv => whnf
   ·refine w1 5 ?_;conv => whnf
    refine ⟨⟨rfl, rfl⟩, ?_⟩;conv => whnf
    refine ⟨rfl, _, (zbx hc p (by omega) 4 (by omega) b x2 hx2), ?_⟩;rintro hs_ms3 av x' t' hh_ms3 ⟨rfl, ⟨x3, hx3, rfl⟩, _, rfl, ⟨L2, rfl, hL2⟩⟩ _ _ _;try dsimp only at hh_ms3
    conv => whnf
    refine wt 6 ?_;conv => whnf
    refine w1 7 ?_;conv => whnf
    refine ⟨s23, ?_⟩;conv => whnf
    refine wd1 (hK2 _ ?_);clear hK2 K2;refine W.ret ?_;conv => whnf
    refine ⟨by dsimp only; omega, ?_⟩;conv => whnf
    exact ⟨.ownB b (x3), ⟨rfl, rfl⟩, .inr ⟨rfl, rfl⟩, .dead, trivial, rfl, rfl, rfl, ⟨x3, hx3, rfl⟩, _, rfl, ⟨p, L2, rfl, by omega, by have := hL2.2.1; omega⟩⟩
   ·refine ⟨⟨rfl, rfl⟩, ?_⟩;conv => whnf
    refine ⟨rfl, _, (zbx hc p (by omega) 4 (by omega) b x2 hx2), ?_⟩;rintro hs_ms3 av x' t' hh_ms3 ⟨rfl, ⟨x3, hx3, rfl⟩, _, rfl, ⟨L2, rfl, hL2⟩⟩ _ _ _;try dsimp only at hh_ms3
    conv => whnf
    refine w1 1 ?_;conv => whnf
    refine wt 6 ?_;conv => whnf
    refine w1 7 ?_;conv => whnf
    refine ⟨s23, ?_⟩;conv => whnf
    refine wd1 (hK2 _ ?_);clear hK2 K2;refine W.ret ?_;conv => whnf
    refine ⟨by dsimp only; omega, ?_⟩;conv => whnf
    exact ⟨.ownB b (x3), ⟨rfl, rfl⟩, .inr ⟨rfl, rfl⟩, .dead, trivial, rfl, rfl, rfl, ⟨x3, hx3, rfl⟩, _, rfl, ⟨p, L2, rfl, by omega, by have := hL2.2.1; omega⟩⟩
-- 3 ways
 refine wrs fun K hK => ?_;conv => whnf
 refine hK _ (W.cond ⟨fun h1 => ?_, fun h1 => ?_⟩) <;> clear hK K
 ·refine W.seqK fun K2 hK2 => W.sch follows ?_;refine wt 0 ?_;conv => whnf
  refine Wany.takeF (za []) 2 (by rfl) (by rfl) (by rfl) (by rfl) (by decide) (by kernel_rfl) (by kernel_rfl) (by kernel_rfl) ?_;conv => whnf
  refine w2 1 3 ?_ ?_ <;> conv => whnf
  ·refine ⟨⟨rfl, rfl⟩, ?_⟩;conv => whnf
   refine ⟨rfl, _, (zaI hc b x2 hx2), ?_⟩;rintro hs_ms3 av x' t' hh_ms3 ⟨rfl, ⟨x3, hx3, rfl⟩, _, rfl, ⟨p2, rfl, hp2⟩⟩ _ _ _;try dsimp only at hh_ms3
   conv => whnf
   refine w1 3 ?_;conv => whnf
   refine wt 4 ?_;conv => whnf
   refine w1 5 ?_;conv => whnf
   refine ⟨s23, ?_⟩;conv => whnf
   refine wd1 (hK2 _ ?_);clear hK2 K2;have hp3 : -1000 <= p2 ∧ p2 <= 1000 := by (simp only [List.mem_cons, List.not_mem_nil, or_false] at hp2; omega)
   refine W.ret ?_;conv => whnf
   refine ⟨by dsimp only; omega, ?_⟩;conv => whnf
   exact ⟨.ownB b (x3), ⟨rfl, rfl⟩, .inr ⟨rfl, rfl⟩, .dead, trivial, rfl, rfl, rfl, ⟨x3, hx3, rfl⟩, _, rfl, ⟨p2, L, rfl, hp3, by omega⟩⟩
  ·refine w1 1 ?_;conv => whnf
   refine ⟨⟨rfl, rfl⟩, ?_⟩;conv => whnf
   refine ⟨rfl, _, (zaI hc b x2 hx2), ?_⟩;rintro hs_ms3 av x' t' hh_ms3 ⟨rfl, ⟨x3, hx3, rfl⟩, _, rfl, ⟨p2, rfl, hp2⟩⟩ _ _ _;try dsimp only at hh_ms3
   conv => whnf
   refine wt 4 ?_;conv => whnf
   refine w1 5 ?_;conv => whnf
   refine ⟨s23, ?_⟩;conv => whnf
   refine wd1 (hK2 _ ?_);clear hK2 K2;have hp3 : -1000 <= p2 ∧ p2 <= 1000 := by (simp only [List.mem_cons, List.not_mem_nil, or_false] at hp2; omega)
   refine W.ret ?_;conv => whnf
   refine ⟨by dsimp only; omega, ?_⟩;conv => whnf
   exact ⟨.ownB b (x3), ⟨rfl, rfl⟩, .inr ⟨rfl, rfl⟩, .dead, trivial, rfl, rfl, rfl, ⟨x3, hx3, rfl⟩, _, rfl, ⟨p2, L, rfl, hp3, by omega⟩⟩
-- 2 ways
 refine wrs fun K hK => ?_;conv => whnf
 refine hK _ (W.cond ⟨fun h2 => ?_, fun h2 => ?_⟩) <;> clear hK K
 ·refine wrs fun K hK => ?_;conv => whnf
  refine ⟨⟨rfl, by decide⟩, ?_⟩;conv => whnf
  intro b_26 hs_26 hh_26 hf_26;try dsimp only at hh_26 hf_26
  conv => whnf
  refine ⟨⟨rfl, by decide⟩, ?_⟩;conv => whnf
  intro b_27 hs_27 hh_27 hf_27;try dsimp only at hh_27 hf_27
  conv => whnf
  refine ⟨⟨rfl, by decide⟩, ?_⟩;conv => whnf
  intro b_28 hs_28 hh_28 hf_28;try dsimp only at hh_28 hf_28
  conv => whnf
  refine ⟨⟨rfl, by decide⟩, ?_⟩;conv => whnf
  intro b_29 hs_29 hh_29 hf_29;try dsimp only at hh_29 hf_29
  conv => whnf
  refine ⟨⟨rfl, by decide, fun y hy => by simp at hy; rcases hy with rfl | rfl | rfl | rfl <;> exact ⟨rfl, rfl⟩⟩, ?_⟩;conv => whnf
  intro b_30 hs_30 hh_30 hf_30;try dsimp only at hh_30 hf_30
  conv => whnf
  refine ⟨⟨rfl, rfl⟩, ?_⟩;conv => whnf
  refine ⟨rfl, _, (zy hc 4 (by constructor <;> decide) b x2 hx2), ?_⟩;rintro hs_ms3 av x' t' hh_ms3 ⟨rfl, ⟨x3, hx3, rfl⟩, _, rfl, ⟨u, rfl, u0, u1, _⟩⟩ _ _ _;try dsimp only at hh_ms3
  conv => whnf
  have hu := u1 (by decide);have hu4 : u = 0 ∨ u = 1 ∨ u = 2 ∨ u = 3 := by omega
  rcases hu4 with rfl | rfl | rfl | rfl
  ·refine ⟨⟨by decide, by decide⟩, ?_⟩;conv => whnf
   refine ⟨s23, ?_⟩;conv => whnf
   refine hK _ ?_;clear hK K;refine W.ret ?_;conv => whnf
   refine ⟨by dsimp only; omega, ?_⟩;conv => whnf
   exact ⟨.ownB b (x3), ⟨rfl, rfl⟩, .inr ⟨rfl, rfl⟩, .dead, trivial, rfl, rfl, rfl, ⟨x3, hx3, rfl⟩, _, rfl, ⟨2, _, rfl, ⟨by decide, by decide⟩, (by decide)⟩⟩
  ·refine ⟨⟨by decide, by decide⟩, ?_⟩;conv => whnf
   refine ⟨s23, ?_⟩;conv => whnf
   refine hK _ ?_;clear hK K;refine W.ret ?_;conv => whnf
   refine ⟨by dsimp only; omega, ?_⟩;conv => whnf
   exact ⟨.ownB b (x3), ⟨rfl, rfl⟩, .inr ⟨rfl, rfl⟩, .dead, trivial, rfl, rfl, rfl, ⟨x3, hx3, rfl⟩, _, rfl, ⟨2, _, rfl, ⟨by decide, by decide⟩, (by decide)⟩⟩
  ·refine ⟨⟨by decide, by decide⟩, ?_⟩;conv => whnf
   refine ⟨s23, ?_⟩;conv => whnf
   refine hK _ ?_;clear hK K;refine W.ret ?_;conv => whnf
   refine ⟨by dsimp only; omega, ?_⟩;conv => whnf
   exact ⟨.ownB b (x3), ⟨rfl, rfl⟩, .inr ⟨rfl, rfl⟩, .dead, trivial, rfl, rfl, rfl, ⟨x3, hx3, rfl⟩, _, rfl, ⟨2, _, rfl, ⟨by decide, by decide⟩, (by decide)⟩⟩
  ·refine ⟨⟨by decide, by decide⟩, ?_⟩;conv => whnf
   refine ⟨s23, ?_⟩;conv => whnf
   refine hK _ ?_;clear hK K;refine W.ret ?_;conv => whnf
   refine ⟨by dsimp only; omega, ?_⟩;conv => whnf
   exact ⟨.ownB b (x3), ⟨rfl, rfl⟩, .inr ⟨rfl, rfl⟩, .dead, trivial, rfl, rfl, rfl, ⟨x3, hx3, rfl⟩, _, rfl, ⟨2, _, rfl, ⟨by decide, by decide⟩, (by decide)⟩⟩
 refine W.skip (hK1 _ ?_);clear hK1 K1;refine wrs fun K hK => ?_;conv => whnf
 refine ⟨s23, ?_⟩;conv => whnf
 refine hK _ ?_;clear hK K;refine W.ret ?_;conv => whnf
 refine ⟨by dsimp only; omega, ?_⟩;conv => whnf
 exact ⟨.ownB b (x2), ⟨rfl, rfl⟩, .inr ⟨rfl, rfl⟩, .dead, trivial, rfl, rfl, rfl, ⟨x2, hx2, rfl⟩, _, rfl, ⟨p, L, rfl, by omega, by omega⟩⟩

theorem xn {n : Nat} {c : Nat -> Int} (hc : Byt n c) (p : Int) (l : List Int) (hl : l.length <= 100) : ziH 229 [vK p none l] n c (fun r => ∃ L, r = .ints none L ∧ L.length <= 100000) := by
 rintro b x hx;refine jG (cx := cxt [] [0, 1, 3, 4, 7, 11, 1000000, 1000001]) (zm [] [0, 1, 3, 4, 7, 11, 1000000, 1000001]) Tryz.func229 rfl (by decide) Tryz.ntmps229 (Nat.le_of_ble_eq_true rfl) (Nat.le_of_ble_eq_true rfl) rfl rfl fun base hs0 O U hw v0 hb0 => ?_;refine W.sw (c' := cx [0, 1, 3, 4, 7, 11, 1000000, 1000001]) ?_;refine wrs fun K hK => ?_;conv => whnf
 refine ⟨rfl, ?_⟩;conv => whnf
 intro b_3 hs_3 hh_3 hf_3;try dsimp only at hh_3 hf_3
 conv => whnf
 refine hK _ ?_;clear hK K;refine W.seqK fun K1 hK1 => ?_;refine wrs fun K hK => ?_;conv => whnf
 refine zc rfl (z7 p none l (by omega)) fun hs' hhs => ?_;try dsimp only at hhs
 conv => whnf
 refine hK _ (W.cond ⟨fun h => ?_, fun h => ?_⟩) <;> clear hK K
 ·refine wrs fun K hK => ?_;conv => whnf
  refine ⟨⟨rfl, by decide⟩, ?_⟩;conv => whnf
  intro b_8 hs_8 hh_8 hf_8;try dsimp only at hh_8 hf_8
  conv => whnf
  refine hK _ ?_;clear hK K;refine W.ret ?_;conv => whnf
  refine ⟨by dsimp only; omega, ?_⟩;conv => whnf
  refine ⟨rfl, ?_⟩;conv => whnf
  refine ⟨.ints none [1], ⟨.inl rfl, rfl⟩, ?_⟩;conv => whnf
  exact ⟨.ownB b (x), ⟨rfl, rfl⟩, .inr ⟨rfl, rfl⟩, .dead, trivial, rfl, rfl, rfl, ⟨x, hx, rfl⟩, _, rfl, ⟨_, rfl, by decide⟩⟩
 have hk : IsFld p l := kQ.1 (by simpa using h);refine W.skip (hK1 _ ?_);clear hK1 K1;refine W.seqK fun K1 hK1 => ?_;refine wrs fun K hK => ?_;conv => whnf
 refine ⟨⟨rfl, rfl⟩, ?_⟩;conv => whnf
 refine ⟨rfl, _, (zy hc 24 (by constructor <;> decide) b x hx), ?_⟩;rintro hs_ms1 av x' t' hh_ms1 ⟨rfl, ⟨x1, hx1, rfl⟩, _, rfl, ⟨q, rfl, q0, q1, _⟩⟩ _ _ _;try dsimp only at hh_ms1
 conv => whnf
 refine hK _ (W.cond ⟨fun h1 => ?_, fun h1 => ?_⟩) <;> clear hK K
 ·refine wrs fun K hK => ?_;conv => whnf
  refine hK _ ?_;clear hK K;refine W.ret ?_;conv => whnf
  refine ⟨by dsimp only; omega, ?_⟩;conv => whnf
  refine ⟨rfl, ?_⟩;conv => whnf
  refine ⟨.ints none l, ⟨rfl, rfl⟩, ?_⟩;conv => whnf
  exact ⟨.ownB b (x1), ⟨rfl, rfl⟩, .inr ⟨rfl, rfl⟩, .dead, trivial, rfl, rfl, rfl, ⟨x1, hx1, rfl⟩, _, rfl, ⟨_, rfl, by omega⟩⟩
 refine W.skip (hK1 _ ?_);clear hK1 K1;have hp2 := zcT hk.mod.1;have ho := hk.ord;have hpos : 0 < p ^ (l.length - 1) := Int.pow_pos (by omega);refine W.seqK fun K2 hK2 => W.sch follows ?_;refine wt 1 ?_;conv => whnf
 refine w2 0 2 ?_ ?_ <;> conv => whnf
 ·refine w1 2 ?_;conv => whnf
  refine w1 3 ?_;conv => whnf
  refine zc rfl (vB p none l hk) fun hs' hhs => ?_;try dsimp only at hhs
  conv => whnf
  refine w1 4 ?_;conv => whnf
  refine ⟨⟨rfl, rfl⟩, ?_⟩;conv => whnf
  refine ⟨rfl, _, (zy hc (p ^ (l.length - 1)) (by constructor <;> omega) b x1 hx1), ?_⟩;rintro hs_ms2 av x' t' hh_ms2 ⟨rfl, ⟨x2, hx2, rfl⟩, _, rfl, ⟨u, rfl, u0, u1, u2⟩⟩ _ _ _;try dsimp only at hh_ms2
  obtain ⟨k, rfl⟩ : ∃ k : Nat, u = k := ⟨u.toNat, by omega⟩
  have hk2 : k <= 20000 := by (by_cases hh : 1 < p ^ (l.length - 1); (have := u1 hh; omega); (have := u2 (by omega); omega))
  conv => whnf
  refine w1 5 ?_;conv => whnf
  refine zc rfl (vC p none l k hp2.1 (by omega)) fun hs' hhs => ?_;try dsimp only at hhs
  conv => whnf
  refine w1 6 ?_;conv => whnf
  refine wd1 (hK2 _ ?_);clear hK2 K2;have hdl : (dig p.toNat k).length <= 100000 := by (have := yR (p := p.toNat) (by omega) k k (Nat.lt_pow_self (by omega)); omega)
  refine W.ret ?_;conv => whnf
  refine ⟨by dsimp only; omega, ?_⟩;conv => whnf
  refine ⟨rfl, ?_⟩;conv => whnf
  refine ⟨.ints none (dig p.toNat k), ⟨rfl, rfl⟩, ?_⟩;conv => whnf
  exact ⟨.ownB b (x2), ⟨rfl, rfl⟩, .inr ⟨rfl, rfl⟩, .dead, trivial, rfl, rfl, rfl, ⟨x2, hx2, rfl⟩, _, rfl, ⟨_, rfl, hdl⟩⟩
 ·refine w2 0 3 ?_ ?_ <;> conv => whnf
  ·refine w1 3 ?_;conv => whnf
   refine zc rfl (vB p none l hk) fun hs' hhs => ?_;try dsimp only at hhs
   conv => whnf
   refine w1 4 ?_;conv => whnf
   refine ⟨⟨rfl, rfl⟩, ?_⟩;conv => whnf
   refine ⟨rfl, _, (zy hc (p ^ (l.length - 1)) (by constructor <;> omega) b x1 hx1), ?_⟩;rintro hs_ms2 av x' t' hh_ms2 ⟨rfl, ⟨x2, hx2, rfl⟩, _, rfl, ⟨u, rfl, u0, u1, u2⟩⟩ _ _ _;try dsimp only at hh_ms2
   obtain ⟨k, rfl⟩ : ∃ k : Nat, u = k := ⟨u.toNat, by omega⟩
   have hk2 : k <= 20000 := by (by_cases hh : 1 < p ^ (l.length - 1); (have := u1 hh; omega); (have := u2 (by omega); omega))
   conv => whnf
   refine w1 5 ?_;conv => whnf
   refine zc rfl (vC p none l k hp2.1 (by omega)) fun hs' hhs => ?_;try dsimp only at hhs
   conv => whnf
   refine w1 6 ?_;conv => whnf
   refine wd1 (hK2 _ ?_);clear hK2 K2;have hdl : (dig p.toNat k).length <= 100000 := by (have := yR (p := p.toNat) (by omega) k k (Nat.lt_pow_self (by omega)); omega)
   refine W.ret ?_;conv => whnf
   refine ⟨by dsimp only; omega, ?_⟩;conv => whnf
   refine ⟨rfl, ?_⟩;conv => whnf
   refine ⟨.ints none (dig p.toNat k), ⟨rfl, rfl⟩, ?_⟩;conv => whnf
   exact ⟨.ownB b (x2), ⟨rfl, rfl⟩, .inr ⟨rfl, rfl⟩, .dead, trivial, rfl, rfl, rfl, ⟨x2, hx2, rfl⟩, _, rfl, ⟨_, rfl, hdl⟩⟩
  ·refine zc rfl (vB p none l hk) fun hs' hhs => ?_;try dsimp only at hhs
   conv => whnf
   refine w2 0 4 ?_ ?_ <;> conv => whnf
   ·refine w1 4 ?_;conv => whnf
    refine ⟨⟨rfl, rfl⟩, ?_⟩;conv => whnf
    refine ⟨rfl, _, (zy hc (p ^ (l.length - 1)) (by constructor <;> omega) b x1 hx1), ?_⟩;rintro hs_ms2 av x' t' hh_ms2 ⟨rfl, ⟨x2, hx2, rfl⟩, _, rfl, ⟨u, rfl, u0, u1, u2⟩⟩ _ _ _;try dsimp only at hh_ms2
    obtain ⟨k, rfl⟩ : ∃ k : Nat, u = k := ⟨u.toNat, by omega⟩
    have hk2 : k <= 20000 := by (by_cases hh : 1 < p ^ (l.length - 1); (have := u1 hh; omega); (have := u2 (by omega); omega))
    conv => whnf
    refine w1 5 ?_;conv => whnf
    refine zc rfl (vC p none l k hp2.1 (by omega)) fun hs' hhs => ?_;try dsimp only at hhs
    conv => whnf
    refine w1 6 ?_;conv => whnf
    refine wd1 (hK2 _ ?_);clear hK2 K2;have hdl : (dig p.toNat k).length <= 100000 := by (have := yR (p := p.toNat) (by omega) k k (Nat.lt_pow_self (by omega)); omega)
    refine W.ret ?_;conv => whnf
    refine ⟨by dsimp only; omega, ?_⟩;conv => whnf
    refine ⟨rfl, ?_⟩;conv => whnf
    refine ⟨.ints none (dig p.toNat k), ⟨rfl, rfl⟩, ?_⟩;conv => whnf
    exact ⟨.ownB b (x2), ⟨rfl, rfl⟩, .inr ⟨rfl, rfl⟩, .dead, trivial, rfl, rfl, rfl, ⟨x2, hx2, rfl⟩, _, rfl, ⟨_, rfl, hdl⟩⟩
   ·refine ⟨⟨rfl, rfl⟩, ?_⟩;conv => whnf
    refine ⟨rfl, _, (zy hc (p ^ (l.length - 1)) (by constructor <;> omega) b x1 hx1), ?_⟩;rintro hs_ms2 av x' t' hh_ms2 ⟨rfl, ⟨x2, hx2, rfl⟩, _, rfl, ⟨u, rfl, u0, u1, u2⟩⟩ _ _ _;try dsimp only at hh_ms2
    obtain ⟨k, rfl⟩ : ∃ k : Nat, u = k := ⟨u.toNat, by omega⟩
    have hk2 : k <= 20000 := by (by_cases hh : 1 < p ^ (l.length - 1); (have := u1 hh; omega); (have := u2 (by omega); omega))
    conv => whnf
    refine w1 0 ?_;conv => whnf
    refine w1 5 ?_;conv => whnf
    refine zc rfl (vC p none l k hp2.1 (by omega)) fun hs' hhs => ?_;try dsimp only at hhs
    conv => whnf
    refine w1 6 ?_;conv => whnf
    refine wd1 (hK2 _ ?_);clear hK2 K2;have hdl : (dig p.toNat k).length <= 100000 := by (have := yR (p := p.toNat) (by omega) k k (Nat.lt_pow_self (by omega)); omega)
    refine W.ret ?_;conv => whnf
    refine ⟨by dsimp only; omega, ?_⟩;conv => whnf
    refine ⟨rfl, ?_⟩;conv => whnf
    refine ⟨.ints none (dig p.toNat k), ⟨rfl, rfl⟩, ?_⟩;conv => whnf
    exact ⟨.ownB b (x2), ⟨rfl, rfl⟩, .inr ⟨rfl, rfl⟩, .dead, trivial, rfl, rfl, rfl, ⟨x2, hx2, rfl⟩, _, rfl, ⟨_, rfl, hdl⟩⟩
-- 4 ways

theorem zfC {n : Nat} {c : Nat -> Int} (hc : Byt n c) : Fn Tryz.prog 158 [vBy n c] (fun _ _ z => ∃ p L X Y, z = .v (.tup [vK p none L, .ints none X, .ints none Y]) ∧ (-1000 <= p ∧ p <= 1000) ∧ L.length <= 100 ∧ X.length <= 100000 ∧ Y.length <= 100000) := by
 refine ze (za [0, 2, 3, 4, 5, 6, 7]) Tryz.func158 rfl (by decide) Tryz.ntmps158 (Nat.le_of_ble_eq_true rfl) fun base => ?_;refine wrs fun K hK => ?_;conv => whnf
 intro b_2 hs_2 hh_2 hf_2;try dsimp only at hh_2 hf_2
 conv => whnf
 refine hK _ ?_;clear hK K;refine wrs fun K hK => ?_;conv => whnf
 refine yi rfl (kP hc) ?_;rintro lo hi hi' z hl1 hl2 hl3 ⟨b, x, hx, rfl⟩ _;try dsimp only at hl1 hl2
 conv => whnf
 refine hK _ ?_;clear hK K;refine wrs fun K hK => ?_;conv => whnf
 refine ⟨⟨rfl, rfl⟩, ?_⟩;conv => whnf
 refine ⟨rfl, _, (zgq hc b x hx), ?_⟩;rintro hs_ms1 av x' t' hh_ms1 ⟨rfl, ⟨x1, hx1, rfl⟩, _, rfl, ⟨p, L, rfl, hp, hL⟩⟩ _ _ _;try dsimp only at hh_ms1
 conv => whnf
 intro b_6 hs_6 hh_6 hf_6;try dsimp only at hh_6 hf_6
 conv => whnf
 refine ⟨s23, ?_⟩;conv => whnf
 refine hK _ ?_;clear hK K;refine wrs fun K hK => ?_;conv => whnf
 refine ⟨⟨rfl, rfl⟩, ?_⟩;conv => whnf
 refine ⟨rfl, _, (xn hc p L hL b x1 hx1), ?_⟩;rintro hs_ms2 av x' t' hh_ms2 ⟨rfl, ⟨x2, hx2, rfl⟩, _, rfl, ⟨X, rfl, hX⟩⟩ _ _ _;try dsimp only at hh_ms2
 conv => whnf
 refine hK _ ?_;clear hK K;refine W.seqK fun K2 hK2 => W.sch follows ?_;refine wt 1 ?_;conv => whnf
 refine wt 2 ?_;conv => whnf
 refine w2 0 3 ?_ ?_ <;> conv => whnf
 ·refine w1 3 ?_;conv => whnf
  refine w1 4 ?_;conv => whnf
  refine ⟨⟨rfl, rfl⟩, ?_⟩;conv => whnf
  refine ⟨rfl, _, (xn hc p L hL b x2 hx2), ?_⟩;rintro hs_ms3 av x' t' hh_ms3 ⟨rfl, ⟨x3, hx3, rfl⟩, _, rfl, ⟨Y, rfl, hY⟩⟩ _ _ _;try dsimp only at hh_ms3
  conv => whnf
  refine w1 5 ?_;conv => whnf
  refine ⟨s23, ?_⟩;conv => whnf
  refine w1 6 ?_;conv => whnf
  refine w1 7 ?_;conv => whnf
  refine wd1 (hK2 _ ?_);clear hK2 K2;refine W.ret ?_;conv => whnf
  exact ⟨⟨trivial, trivial, trivial⟩, .v (.ints none X), ⟨rfl, rfl⟩, trivial, .v (.ints none Y), ⟨rfl, rfl⟩, trivial, p, L, X, Y, rfl, hp, hL, hX, hY⟩
 ·refine w2 0 4 ?_ ?_ <;> conv => whnf
  ·refine w1 4 ?_;conv => whnf
   refine ⟨⟨rfl, rfl⟩, ?_⟩;conv => whnf
   refine ⟨rfl, _, (xn hc p L hL b x2 hx2), ?_⟩;rintro hs_ms3 av x' t' hh_ms3 ⟨rfl, ⟨x3, hx3, rfl⟩, _, rfl, ⟨Y, rfl, hY⟩⟩ _ _ _;try dsimp only at hh_ms3
   conv => whnf
   refine w1 5 ?_;conv => whnf
   refine ⟨s23, ?_⟩;conv => whnf
   refine w1 6 ?_;conv => whnf
   refine w1 7 ?_;conv => whnf
   refine wd1 (hK2 _ ?_);clear hK2 K2;refine W.ret ?_;conv => whnf
   exact ⟨⟨trivial, trivial, trivial⟩, .v (.ints none X), ⟨rfl, rfl⟩, trivial, .v (.ints none Y), ⟨rfl, rfl⟩, trivial, p, L, X, Y, rfl, hp, hL, hX, hY⟩
  ·refine ⟨⟨rfl, rfl⟩, ?_⟩;conv => whnf
   refine ⟨rfl, _, (xn hc p L hL b x2 hx2), ?_⟩;rintro hs_ms3 av x' t' hh_ms3 ⟨rfl, ⟨x3, hx3, rfl⟩, _, rfl, ⟨Y, rfl, hY⟩⟩ _ _ _;try dsimp only at hh_ms3
   conv => whnf
   refine w1 0 ?_;conv => whnf
   refine w1 5 ?_;conv => whnf
   refine ⟨s23, ?_⟩;conv => whnf
   refine w1 6 ?_;conv => whnf
   refine w1 7 ?_;conv => whnf
   refine wd1 (hK2 _ ?_);clear hK2 K2;refine W.ret ?_;conv => whnf
   exact ⟨⟨trivial, trivial, trivial⟩, .v (.ints none X), ⟨rfl, rfl⟩, trivial, .v (.ints none Y), ⟨rfl, rfl⟩, trivial, p, L, X, Y, rfl, hp, hL, hX, hY⟩
-- 3 ways

theorem j1 {n : Nat} {c : Nat -> Int} (hc : Byt n c) : Fn Tryz.prog 178 [vBy n c] (fun _ _ z => ∃ p L X, z = .v (.tup [vK p none L, .ints none X]) ∧ (-1000 <= p ∧ p <= 1000) ∧ L.length <= 100 ∧ X.length <= 100000) := by
 refine ze (za [0, 2, 3, 4, 5]) Tryz.func178 rfl (by decide) Tryz.ntmps178 (Nat.le_of_ble_eq_true rfl) fun base => ?_;refine wrs fun K hK => ?_;conv => whnf
 intro b_2 hs_2 hh_2 hf_2;try dsimp only at hh_2 hf_2
 conv => whnf
 refine hK _ ?_;clear hK K;refine wrs fun K hK => ?_;conv => whnf
 refine yi rfl (zfC hc) ?_;rintro lo hi hi' z hl1 hl2 hl3 ⟨p, L, X, Y, rfl, hp, hL, hX, hY⟩ _;try dsimp only at hl1 hl2
 conv => whnf
 intro b_4 hs_4 hh_4 hf_4;try dsimp only at hh_4 hf_4
 conv => whnf
 refine ⟨s23, ?_⟩;conv => whnf
 refine hK _ ?_;clear hK K;refine wrs fun K hK => ?_;conv => whnf
 refine ⟨s23, ?_⟩;conv => whnf
 refine hK _ ?_;clear hK K;refine W.ret ?_;conv => whnf
 exact ⟨⟨trivial, trivial, trivial⟩, .v (.ints none X), ⟨rfl, rfl⟩, trivial, p, L, X, rfl, hp, hL, hX⟩

abbrev QOne : zgs := fun _ _ z => ∃ p L X, z = .v (.tup [vK p none L, .ints none X]) ∧ (-1000 <= p ∧ p <= 1000) ∧ L.length <= 100 ∧ X.length <= 100000
theorem j2 {n : Nat} {c : Nat -> Int} (hc : Byt n c) : Fn Tryz.prog 56 [vBy n c] QOne := by
 refine ze (za [0, 2, 3]) Tryz.func56 rfl (by decide) Tryz.ntmps56 (Nat.le_of_ble_eq_true rfl) fun base => ?_;refine wrs fun K hK => ?_;conv => whnf
 intro b_2 hs_2 hh_2 hf_2;try dsimp only at hh_2 hf_2
 conv => whnf
 refine hK _ ?_;clear hK K;refine wrs fun K hK => ?_;conv => whnf
 refine yi rfl (j1 hc) ?_;rintro lo hi hi' z hl1 hl2 hl3 ⟨p, L, X, rfl, hp, hL, hX⟩ _;try dsimp only at hl1 hl2
 conv => whnf
 refine ⟨s23, ?_⟩;conv => whnf
 refine hK _ ?_;clear hK K;refine W.ret ?_;conv => whnf
 exact ⟨⟨trivial, trivial, trivial⟩, .v (.ints none X), ⟨rfl, rfl⟩, trivial, p, L, X, rfl, hp, hL, hX⟩






def zph (f : Nat) (xs : List V) (n : Nat) (c : Nat -> Int) (Q : List Int -> Prop) : Prop :=
 ∀ (b : Nat) (x : V), zaE n c x -> MFn Tryz.prog f (.nil :: xs) 0 (.ownB b x) .dead (fun _ av x' t' => t' = .dead ∧ (∃ x1, zaE n c x1 ∧ x' = .ownB b x1) ∧ ∃ bo L, av = .ownI 2 bo L ∧ Q L)

theorem W.invS {P : Program} {c : Cx} {N base : Nat} {x : Code} {QQ : Exit -> S -> Prop} {s : S} (I : Nat -> Env -> Nat -> Prop) (m0 : Nat) (e0 : Env) (h0 : Nat) (hi : I m0 e0 h0) (hb : ∀ m e h, I m e h -> base <= h) (hh : h0 <= s.hs) (hc : zB s.env e0)
  (round : ∀ m e h, I m e h -> W P c N base x (Ex (fun s' => ∃ m' e' h', I m' e' h' ∧ m' < m ∧ h' <= s'.hs ∧ zB s'.env e') QQ) ⟨e, h⟩) : W P c N base (.loop x) QQ s :=
 W.inv (fun m s => I m s.env s.hs) m0 ⟨e0, h0⟩ hi ⟨hh, hc⟩ (fun m s h => hb _ _ _ h) fun m s h => by
  obtain ⟨e, hs⟩ := s;refine (round m e hs h).mono fun ex s' hq => ?_;cases ex with
  | normal => obtain ⟨m', e', h', h1, h2, h3, h4⟩ := hq; exact ⟨m', ⟨e', h'⟩, h1, h2, h3, h4⟩
  | _ => exact hq


theorem zby {n : Nat} {c : Nat -> Int} (hc : Byt n c) (p : Int) (hp : 2 <= p ∧ p <= 1000) (d : Nat) (hd : d <= 100) : zph 190 [.int .i64 p, .int .i64 d] n c (fun L => znE p d L) := by
 rintro b x hx;refine zei (cx := cx [0, 1, 2, 6, 7, 8, 15, 1000000, 1000001]) Tryz.func190 rfl (by decide) Tryz.ntmps190 (Nat.le_of_ble_eq_true rfl) (Nat.le_of_ble_eq_true rfl) rfl rfl fun base hs0 O U hw v0 hb0 => ?_;refine wrs fun K hK => ?_;conv => whnf
 refine hK _ ?_;clear hK K;refine wrs fun K hK => ?_;conv => whnf
 refine ⟨⟨rfl, by decide⟩, ?_⟩;conv => whnf
 intro b_7 hs_7 hh_7 hf_7;try dsimp only at hh_7 hf_7
 conv => whnf
 refine hK _ ?_;clear hK K;refine W.seqK fun K1 hK1 => wrs fun K hK => ?_;conv => whnf
 refine ⟨oo, ?_⟩;conv => whnf
 refine ⟨⟨rfl, rfl⟩, ?_⟩;conv => whnf
 refine ⟨rfl, _, (zy hc ((d : Int) + 1) (by constructor <;> omega) b x hx), ?_⟩;rintro hs_ms1 av x' t' hh_ms1 ⟨rfl, ⟨x1, hx1, rfl⟩, _, rfl, ⟨q, rfl, q0, q1, q2⟩⟩ _ _ _;try dsimp only at hh_ms1
 conv => whnf
 have hq : q <= d := by
  by_cases h : d = 0
  ·have := q2 (by omega); omega
  ·have := q1 (by omega); omega
 refine hK _ (W.block (W.invS (fun m e hs => hs0 <= hs ∧ ∃ (k bo : Nat) (y : V) (L : List Int), k <= d ∧ zaE n c y ∧ L.length + k <= d ∧ (∀ j, 0 <= cf L j ∧ cf L j < p) ∧ (hs0 <= bo ∧ bo < hs) ∧ m = k ∧ e = [(vt, .dead), (vk, .keep O U hw 0 v0), (0, .ownB b y), (1, .v (.int .i64 p)), (2, .v (.int .i64 d)), (7, .ownI 2 bo L), (8, .v (.int .i64 k))]) _ _ hs_7
  ⟨by omega, q.toNat, b_7, x1, [], by omega, hx1, by simp; omega, fun j => by rw [yn]; omega, (by have := hf_7 (by decide); omega), rfl, by rw [Int.toNat_of_nonneg q0]⟩ (fun m e hs h => Nat.le_trans hb0 h.1) (by dsimp only; omega) (by repeat' first | refine And.intro ?_ ?_ | exact trivial | rfl | omega | exact .inl rfl | assumption) ?_))
 clear hK K;rintro m e hs ⟨hsl, k, bo, y, L, h1, hy, h2, h3, hbo, hm, rfl⟩;refine W.seqK fun K7 hK7 => wrs fun K hK => ?_;conv => whnf
 refine hK _ (W.cond ⟨fun h5 => ?_, fun h5 => ?_⟩) <;> clear hK K <;> (first | replace h5 := of_decide_eq_true h5 | replace h5 := of_decide_eq_false h5)
 ·have hk : 1 <= k := by omega
  refine W.skip (hK7 _ (W.seqK fun K8 hK8 => W.block ?_));clear hK7 K7;refine wrg ?_;conv => whnf
  refine ⟨⟨rfl, rfl⟩, ?_⟩;conv => whnf
  refine ⟨rfl, _, (zy hc p (by constructor <;> omega) b y hy), ?_⟩;rintro hs_ms2 av x' t' hh_ms2 ⟨rfl, ⟨x2, hx2, rfl⟩, _, rfl, ⟨r1, rfl, r10, r11, _⟩⟩ _ _ _;try dsimp only at hh_ms2
  conv => whnf
  refine ⟨⟨rfl, rfl⟩, ?_⟩;conv => whnf
  refine ⟨rfl, _, (zy hc p (by constructor <;> omega) b x2 hx2), ?_⟩;rintro hs_ms3 av x' t' hh_ms3 ⟨rfl, ⟨x3, hx3, rfl⟩, _, rfl, ⟨r2, rfl, r20, r21, _⟩⟩ _ _ _;try dsimp only at hh_ms3
  conv => whnf
  have h11 := r11 (by omega);have h21 := r21 (by omega);refine ⟨⟨rfl, by decide⟩, ?_⟩;conv => whnf
  intro b_1 hs_1 hh_1 hf_1;try dsimp only at hh_1 hf_1
  conv => whnf
  refine ⟨⟨rfl, rfl⟩, ?_⟩;conv => whnf
  refine ⟨rfl, _, (vw hc none [r1, 0, r2] ⟨(by show 1 <= 3; omega), (by show 3 <= 1000; omega)⟩ b x3 hx3), ?_⟩;rintro hs_ms4 av x' t' hh_ms4 ⟨rfl, ⟨x4, hx4, rfl⟩, _, rfl, ⟨r, rfl, hr⟩⟩ _ _ _;try dsimp only at hh_ms4
  conv => whnf
  have hr : 0 <= r ∧ r < p := by
   simp only [List.mem_cons, List.not_mem_nil, or_false] at hr
   omega
  refine ⟨⟨rfl, by decide⟩, ?_⟩;conv => whnf
  intro b_2 hs_2 hh_2 hf_2;try dsimp only at hh_2 hf_2
  conv => whnf
  refine ⟨by simp; omega, ?_⟩;conv => whnf
  intro b_3 hs_3 hh_3 hf_3;try dsimp only at hh_3 hf_3
  conv => whnf
  refine hK8 _ ?_;clear hK8 K8;refine wrg ?_;conv => whnf
  refine ⟨oo, ?_⟩;conv => whnf
  have hL : ∀ j, 0 <= cf (L ++ [r]) j ∧ cf (L ++ [r]) j < p := fun j => by
   unfold cf;rw [List.getD_eq_getElem?_getD];rcases Nat.lt_trichotomy j L.length with hj | hj | hj
   ·rw [List.getElem?_append_left hj, <- List.getD_eq_getElem?_getD]; exact h3 j
   ·rw [List.getElem?_append_right (by omega), hj, Nat.sub_self]; exact hr
   ·rw [List.getElem?_eq_none (by simp; omega)]; show (0 : Int) <= 0 ∧ (0 : Int) < p; omega
  rw [show ((k : Int) - 1) = ((k - 1 : Nat) : Int) by omega];refine ⟨_, _, hs_3, ⟨by omega, k - 1, b_3, x4, L ++ [r], by omega, hx4, by simp; omega, hL, ?_, rfl, rfl⟩, by omega, by dsimp only; omega, ?_⟩
  ·rcases hf_3 (by simp) with h | h
   ·injection h with h
    omega
   ·omega
  ·exact cvr
 ·obtain rfl : k = 0 := by omega
  refine W.exit (hK1 _ ?_);clear hK7 K7 hK1 K1;refine wrs fun K hK => ?_;conv => whnf
  refine ⟨oo, ?_⟩;conv => whnf
  refine ⟨⟨rfl, rfl⟩, ?_⟩;conv => whnf
  refine ⟨rfl, _, (zy hc (p - 1) (by constructor <;> omega) b y hy), ?_⟩;rintro hs_ms2 av x' t' hh_ms2 ⟨rfl, ⟨x2, hx2, rfl⟩, _, rfl, ⟨r1, rfl, r10, r11, r12⟩⟩ _ _ _;try dsimp only at hh_ms2
  conv => whnf
  refine ⟨⟨rfl, rfl⟩, ?_⟩;conv => whnf
  refine ⟨rfl, _, (zy hc 2 (by constructor <;> decide) b x2 hx2), ?_⟩;rintro hs_ms3 av x' t' hh_ms3 ⟨rfl, ⟨x3, hx3, rfl⟩, _, rfl, ⟨r2, rfl, r20, r21, _⟩⟩ _ _ _;try dsimp only at hh_ms3
  conv => whnf
  have h11 : r1 <= p - 2 := by
   by_cases h : 1 < p - 1
   ·have := r11 h; omega
   ·have := r12 (by omega); omega
  have h21 := r21 (by omega)
  have hmul : 0 <= r1 * r2 ∧ r1 * r2 <= p - 2 := by
   have : r2 = 0 ∨ r2 = 1 := by omega
   rcases this with rfl | rfl <;> simp <;> omega
  refine ⟨by show _ <= r1 * r2 ∧ r1 * r2 <= _; omega, ?_⟩;conv => whnf
  refine ⟨by show _ <= 1 + r1 * r2 ∧ 1 + r1 * r2 <= _; omega, ?_⟩;conv => whnf
  refine ⟨⟨rfl, by decide⟩, ?_⟩;conv => whnf
  intro b_1 hs_1 hh_1 hf_1;try dsimp only at hh_1 hf_1
  conv => whnf
  refine ⟨by simp; omega, ?_⟩;conv => whnf
  intro b_2 hs_2 hh_2 hf_2;try dsimp only at hh_2 hf_2
  conv => whnf
  refine hK _ ?_;clear hK K
  have hL : znE p d (L ++ [1 + r1 * r2]) := by
   have hlen : (L ++ [1 + r1 * r2]).length = L.length + 1 := by simp
   refine ⟨by omega, by omega, fun j => ?_, ?_⟩
   ·unfold cf;rw [List.getD_eq_getElem?_getD];rcases Nat.lt_trichotomy j L.length with hj | hj | hj
    ·rw [List.getElem?_append_left hj, <- List.getD_eq_getElem?_getD]; exact h3 j
    ·rw [List.getElem?_append_right (by omega), hj, Nat.sub_self]; show (0 : Int) <= 1 + r1 * r2 ∧ 1 + r1 * r2 < p; omega
    ·rw [List.getElem?_eq_none (by omega)]; show (0 : Int) <= 0 ∧ (0 : Int) < p; omega
   ·rw [hlen];unfold cf;rw [List.getD_eq_getElem?_getD, List.getElem?_append_right (by omega), show L.length + 1 - 1 - L.length = 0 by omega];show (1 + r1 * r2 : Int) ≠ 0
    omega
  refine W.ret ?_;conv => whnf
  refine ⟨by dsimp only; omega, ?_⟩;conv => whnf
  refine ⟨rfl, ?_⟩;conv => whnf
  refine ⟨.ownI 2 b_2 (L ++ [1 + r1 * r2]), ⟨rfl, rfl, rfl⟩, rfl, fun _ => ?_, ?_⟩
  ·rcases hf_2 (by simp) with h | h
   ·injection h with h
    dsimp only
    omega
   ·dsimp only
    omega
  conv => whnf
  exact ⟨.ownB b x3, ⟨rfl, rfl⟩, .inr ⟨rfl, rfl⟩, .dead, trivial, rfl, rfl, rfl, ⟨x3, hx3, rfl⟩, _, _, rfl, hL⟩

theorem znF {p : Int} {d : Nat} {L : List Int} (hp : isP p = true) (hd : d <= 8) (h : znE p d L) : yc p L :=
 ⟨hp, by have := h.2.1; omega, fun j _ => by have := h.2.2.1 j; omega, .inr h.2.2.2⟩

theorem zgr {n : Nat} {c : Nat -> Int} (hc : Byt n c) (p : Int) (_hp : inR p) : ziH 220 [.int .i64 p] n c (fun r => ∃ L, r = .ints none L ∧ L.length <= 20) := by
 rintro b x hx;refine jG (cx := cxt [] [0, 1, 4, 5, 8, 14, 15, 24, 27, 32, 1000000, 1000001]) (zm [] [0, 1, 4, 5, 8, 14, 15, 24, 27, 32, 1000000, 1000001]) Tryz.func220 rfl (by decide) Tryz.ntmps220 (Nat.le_of_ble_eq_true rfl) (Nat.le_of_ble_eq_true rfl) rfl rfl fun base hs0 O U hw v0 hb0 => ?_;refine W.sw (c' := cx [0, 1, 4, 5, 8, 14, 15, 24, 27, 32, 1000000, 1000001]) ?_;refine wrs fun K hK => ?_;conv => whnf
 refine hK _ ?_;clear hK K;refine W.seqK fun K1 hK1 => ?_;refine wrs fun K hK => ?_;conv => whnf
 refine zc rfl (zaD p) fun hs' hhs => ?_;try dsimp only at hhs
 conv => whnf
 refine hK _ (W.cond ⟨fun h => ?_, fun h => ?_⟩) <;> clear hK K
 ·refine wrs fun K hK => ?_;conv => whnf
  refine ⟨⟨rfl, by decide⟩, ?_⟩;conv => whnf
  intro b_4 hs_4 hh_4 hf_4;try dsimp only at hh_4 hf_4
  conv => whnf
  refine hK _ ?_;clear hK K;refine W.ret ?_;conv => whnf
  refine ⟨by dsimp only; omega, ?_⟩;conv => whnf
  refine ⟨rfl, ?_⟩;conv => whnf
  refine ⟨.ints none [1, 1], ⟨.inl rfl, rfl⟩, ?_⟩;conv => whnf
  exact ⟨.ownB b (x), ⟨rfl, rfl⟩, .inr ⟨rfl, rfl⟩, .dead, trivial, rfl, rfl, rfl, ⟨x, hx, rfl⟩, _, rfl, ⟨_, rfl, by decide⟩⟩
 have hP : isP p = true := by simpa using h
 have hp2 := zcT hP;refine W.skip (hK1 _ ?_);clear hK1 K1;refine wrs fun K hK => ?_;conv => whnf
 refine ⟨⟨rfl, rfl⟩, ?_⟩;conv => whnf
 refine ⟨rfl, _, (zby hc p (by omega) 4 (by omega) b x hx), ?_⟩;rintro hs_ms1 av x' t' hh_ms1 ⟨rfl, ⟨x1, hx1, rfl⟩, bo1, L1, rfl, hL1⟩ _ _ hf_ms1
 replace hf_ms1 := hf_ms1 (by simp)
 try dsimp only at hh_ms1
 conv => whnf
 refine hK _ ?_;clear hK K;have hl1 := hL1.2.1;refine W.seqK fun K1 hK1 => ?_;refine wrs fun K hK => ?_;conv => whnf
 refine ⟨⟨rfl, rfl⟩, ?_⟩;conv => whnf
 refine ⟨rfl, _, (zy hc 24 (by constructor <;> decide) b x1 hx1), ?_⟩;rintro hs_ms2 av x' t' hh_ms2 ⟨rfl, ⟨x2, hx2, rfl⟩, _, rfl, ⟨q, rfl, q0, q1, _⟩⟩ _ _ _;try dsimp only at hh_ms2
 conv => whnf
 refine hK _ (W.block ?_);clear hK K
 have fin : ∀ (bo : Nat) (L : List Int) (x2 : V) (t : S), L.length <= 20 -> zaE n c x2 -> hs0 <= t.hs -> zB t.env [(vt, .dead), (vk, .keep O U hw 0 v0), (0, .ownB b x2), (5, .ownI 2 bo L)] -> K1 t := by
  intro bo L x2 t hL hx2 h9 h10;refine hK1 _ (W.weak (t := ⟨[(vt, .dead), (vk, .keep O U hw 0 v0), (0, .ownB b x2), (5, .ownI 2 bo L)], hs0⟩) ⟨h9, h10⟩ hb0 ?_);clear hK1 K1;refine wrs fun K hK => ?_;conv => whnf
  refine hK _ ?_;clear hK K;refine W.ret ?_;conv => whnf
  refine ⟨by dsimp only; omega, ?_⟩;conv => whnf
  refine ⟨rfl, ?_⟩;conv => whnf
  refine ⟨.ints none L, ⟨rfl, rfl⟩, ?_⟩;conv => whnf
  exact ⟨.ownB b (x2), ⟨rfl, rfl⟩, .inr ⟨rfl, rfl⟩, .dead, trivial, rfl, rfl, rfl, ⟨x2, hx2, rfl⟩, _, rfl, ⟨_, rfl, hL⟩⟩
 refine wrs fun K hK => ?_;conv => whnf
 refine hK _ (W.cond ⟨fun h => ?_, fun h => ?_⟩) <;> clear hK K
 ·refine wrg ?_;conv => whnf
  refine ⟨⟨rfl, by decide⟩, ?_⟩;conv => whnf
  intro b_6 hs_6 hh_6 hf_6;try dsimp only at hh_6 hf_6
  conv => whnf
  refine ⟨⟨rfl, rfl⟩, ?_⟩;conv => whnf
  refine ⟨rfl, _, (vw hc none [0, p, -1] ⟨(by show 1 <= 3; omega), (by show 3 <= 1000; omega)⟩ b x2 hx2), ?_⟩;rintro hs_ms3 av x' t' hh_ms3 ⟨rfl, ⟨x3, hx3, rfl⟩, _, rfl, ⟨r, rfl, hr⟩⟩ _ _ _;try dsimp only at hh_ms3
  conv => whnf
  refine ⟨⟨rfl, by decide⟩, ?_⟩;conv => whnf
  intro b_7 hs_7 hh_7 hf_7;try dsimp only at hh_7 hf_7
  conv => whnf
  refine ⟨by simp; omega, ?_⟩;conv => whnf
  intro b_8 hs_8 hh_8 hf_8;try dsimp only at hh_8 hf_8
  conv => whnf
  refine fin b_8 (L1 ++ [r]) x3 _ (by simp; omega) hx3 (by dsimp only; omega) ?_;exact cvr
 refine wrs fun K hK => ?_;conv => whnf
 refine hK _ (W.cond ⟨fun h1 => ?_, fun h1 => ?_⟩) <;> clear hK K
 ·refine wrs fun K hK => ?_;conv => whnf
  refine ⟨⟨rfl, by decide⟩, ?_⟩;conv => whnf
  intro b_4 hs_4 hh_4 hf_4;try dsimp only at hh_4 hf_4
  conv => whnf
  refine hK _ ?_;clear hK K;refine W.ret ?_;conv => whnf
  refine ⟨by dsimp only; omega, ?_⟩;conv => whnf
  refine ⟨rfl, ?_⟩;conv => whnf
  refine ⟨.ints none [], ⟨.inl rfl, rfl⟩, ?_⟩;conv => whnf
  exact ⟨.ownB b (x2), ⟨rfl, rfl⟩, .inr ⟨rfl, rfl⟩, .dead, trivial, rfl, rfl, rfl, ⟨x2, hx2, rfl⟩, _, rfl, ⟨_, rfl, by decide⟩⟩
 refine wrs fun K hK => ?_;conv => whnf
 refine hK _ (W.cond ⟨fun h2 => ?_, fun h2 => ?_⟩) <;> clear hK K
 ·refine wrs fun K hK => ?_;conv => whnf
  refine ⟨⟨rfl, rfl⟩, ?_⟩;conv => whnf
  refine ⟨rfl, _, (zby hc p (by omega) 8 (by omega) b x2 hx2), ?_⟩;rintro hs_ms3 av x' t' hh_ms3 ⟨rfl, ⟨x3, hx3, rfl⟩, bo3, L3, rfl, hL3⟩ _ _ hf_ms3
  replace hf_ms3 := hf_ms3 (by simp)
  try dsimp only at hh_ms3
  conv => whnf
  refine hK _ ?_;clear hK K;refine W.ret ?_;conv => whnf
  refine ⟨by dsimp only; omega, ?_⟩;conv => whnf
  refine ⟨rfl, ?_⟩;conv => whnf
  refine ⟨.ints none L3, ⟨.inl rfl, rfl⟩, ?_⟩;conv => whnf
  exact ⟨.ownB b (x3), ⟨rfl, rfl⟩, .inr ⟨rfl, rfl⟩, .dead, trivial, rfl, rfl, rfl, ⟨x3, hx3, rfl⟩, _, rfl, ⟨_, rfl, by have := hL3.2.1; omega⟩⟩
 refine wrs fun K hK => ?_;conv => whnf
 refine hK _ (W.cond ⟨fun h3 => ?_, fun h3 => ?_⟩) <;> clear hK K
 ·refine wrs fun K hK => ?_;conv => whnf
  refine ⟨⟨rfl, rfl⟩, ?_⟩;conv => whnf
  refine ⟨rfl, _, (zby hc p (by omega) 2 (by omega) b x2 hx2), ?_⟩;rintro hs_ms3 av x' t' hh_ms3 ⟨rfl, ⟨x3, hx3, rfl⟩, bo3, L3, rfl, hL3⟩ _ _ hf_ms3
  replace hf_ms3 := hf_ms3 (by simp)
  try dsimp only at hh_ms3
  conv => whnf
  refine hK _ ?_;clear hK K;obtain ⟨hpr, f, hf⟩ := zdI (znF hP (by omega) hL3);letI := yE hpr;have hfl : dg f <= 3 := by show f.l.length <= 3; rw [hf]; exact hL3.2.1
  rw [<- hf];refine wrs fun K hK => ?_;conv => whnf
  refine zD rfl (xe p _ _ f f (by omega) (by omega)) fun hs_9 b_9 hh_9 hf_9 => ?_;try dsimp only at hh_9 hf_9
  conv => whnf
  refine hK _ ?_;clear hK K;refine W.ret ?_;conv => whnf
  refine ⟨by dsimp only; omega, ?_⟩;conv => whnf
  refine ⟨rfl, ?_⟩;conv => whnf
  refine ⟨.ints none (f * f).l, ⟨.inl rfl, rfl⟩, ?_⟩;conv => whnf
  exact ⟨.ownB b (x3), ⟨rfl, rfl⟩, .inr ⟨rfl, rfl⟩, .dead, trivial, rfl, rfl, rfl, ⟨x3, hx3, rfl⟩, _, rfl, ⟨_, rfl, by have := xk f f; show dg (f * f) <= 20; omega⟩⟩
 refine W.skip (fin bo1 L1 x2 _ (by omega) hx2 (by dsimp only; omega) ?_);exact cvr


theorem RT.toV {f : Nat} {xs : List V} {l : List Int} {c : Int} (h : FnT Tryz.prog f xs (RT l c)) : FnV f xs (.tup [.ints none l, .int .i64 c]) :=
 FnT.toV h fun _ _ x tb hx => by
  obtain ⟨b, rfl, hb⟩ := hx;refine ⟨_, rfl, rfl, fun j hj => ?_⟩
  match j, hj with
  | 0, _ => exact ⟨l, rfl, hb, rfl⟩
  | 1, _ => rfl
theorem zpi {p : Int} (hp : p ∈ z6) : letI := yE hp; ∀ f X : Poly p, dg X < dg f -> dg f <= 10 -> Has p f.l X.l := by
 letI := yE hp;intro f X h1 h2;have h3 : X.l.length < f.l.length := h1;have h4 : f.l.length <= 10 := h2;refine ⟨⟨decide_eq_true hp, by omega, fun j _ => by have := vO X j; omega, ?_⟩, h1⟩
 by_cases h : X.l.length = 0
 ·exact .inl (by omega)
 ·exact .inr (X.ok.2 _ (by omega))
theorem zlS {p : Int} {l : List Int} {n : Nat} {X : Nat -> List Int} (hk : IsFld p l) (h : ∀ i, i < n -> Has p l (X i)) : zr p l true n X = 0 := by
 unfold zr; rw [zj hk, zj h]; rfl



theorem zcV (p : Int) [SP p] (g : Option Nat) (f : Poly p) (hm : yc p f.l) (h2 : 2 <= dg f) : FnV 41 [.int .i64 p, .ints g f.l] (.tup [.bool (bP (Irr f)), .int .i64 0]) := by
 have hl : f.l.length = dg f := rfl;have h9 := hm.2.1;have hc : kR p f.l = 0 := by unfold kR; rw [zj hm, if_neg (by omega)]; rfl
 refine ze (za [0, 1, 4, 5, 6, 11]) Tryz.func41 rfl (by decide) Tryz.ntmps41 (Nat.le_of_ble_eq_true rfl) fun base => ?_;refine wrs fun K hK => ?_;conv => whnf
 refine hK _ ?_;clear hK K;refine W.seqK fun K1 hK1 => ?_;refine wrs fun K hK => ?_;conv => whnf
 refine zc rfl (zfy g p f.l) fun hs' hhs => ?_;try dsimp only at hhs
 conv => whnf
 rw [hc];refine hK _ ?_;clear hK K;refine wrs fun K hK => ?_;conv => whnf
 refine hK _ (W.cond ⟨fun hcc => absurd rfl (of_decide_eq_true hcc), fun _ => W.skip (hK1 _ ?_)⟩);clear hK K hK1 K1;refine wrs fun K hK => ?_;conv => whnf
 refine zc rfl (k6 p g f (by omega) (fun e => by rw [e, zv] at h2; omega)) fun hs' hhs => ?_;try dsimp only at hhs
 conv => whnf
 refine hK _ ?_;clear hK K;refine W.ret ?_;conv => whnf
 exact ⟨.v (.bool (bP (Irr f))), rfl, trivial, .v (.int .i64 0), ⟨rfl, rfl⟩, trivial, rfl⟩

open Go Go.RowKit Go.ChangeShapes Go.WideShapes Go.ChangeAt Go.Proofs Go.Proofs.YtlmckocbhcpmdaaGreat

theorem znG {P : Program} {f : Nat} {xs : List V} {r : V} {w : World} {vs : Array Value} (h : Fn P f xs (fun _ _ a => a = .v r)) (hl : vs.size = xs.length)
  (hr : ∀ j, j < xs.length -> Rep (zf4 w) w.heap (xs.getD j .nil) (vs.getD j undef)) :
  Calls P f vs w fun e w' => ∃ v, e = .returned v ∧ Below w.heap.size w w' ∧ Rep (okR (fun _ => False) w'.heap.size) w'.heap r v := by
 refine (h.2 (fun _ => False) w vs (fun _ h => h.elim) hl hr).mono fun e w' ⟨v, av, hi, h1, h2, h3, h4, h5⟩ => ?_;subst h3;obtain ⟨_, h6, _⟩ := h5;refine ⟨v, h1, h4, ?_⟩;exact Rep.mono h6 fun g b hb => ⟨⟨hb.1, fun h => h.elim, hb.2.2⟩, rfl⟩

theorem ownP : ownKnob Tryz.prog.godebug = none := by kernel_rfl
theorem znH : laidOutB Tryz.prog = true := by kernel_rfl
open Go Go.RowKit Go.ChangeShapes Go.WideShapes Go.ChangeAt Go.Proofs Go.Proofs.YtlmckocbhcpmdaaGreat

section
variable {H : Type} {enc : TypeId × Value -> H} {P : Program} {w : World}
def zoW (xs : List V) : Prop := ∃ n : Int, xs = [.int .u8 n] ∧ 0 <= n ∧ n <= 255
theorem zpj {n : Int} (h : (Lit.int .u8 n).wf = true) : 0 <= n ∧ n <= 255 := by
 simp only [Lit.wf, Bool.and_eq_true, decide_eq_true_eq] at h
 have h1 : IntKind.u8.min = 0 := rfl;have h2 : IntKind.u8.max = 255 := rfl;omega
theorem znI {t : TypeId} (ht : P.underlying t = some (.int .u8)) : zh5 enc P w t 1 zoW := by
 intro fuel cs d ps h;obtain ⟨n, hc, hx, hw⟩ := DataW.trod_int ht h;subst hc;refine ⟨rfl, _, ⟨n, rfl, zpj hw⟩, rfl, by simp [V.isCell], fun j hj => ?_⟩;obtain rfl : j = 0 := by omega
 exact .int _ _
theorem znJ {xs : List V} (h : zjr 1 zek zoW xs) : ∃ (n : Nat) (c : Nat -> Int), (∀ i, 0 <= c i ∧ c i <= 255) ∧ xs.length = 1 ∧ ∀ ok h' v, Rep ok h' (xs.getD 0 .nil) v -> Rep ok h' (vBy n c) v := by
 obtain ⟨n, f, rfl, _, hf⟩ := h
 have hf2 : ∀ i, ∃ z : Int, (0 <= z ∧ z <= 255) ∧ (i < n -> f i = .int .u8 z) := by
  intro i
  by_cases hi : i < n
  ·obtain ⟨ys, ⟨z, rfl, hz⟩, e⟩ := hf i hi;exact ⟨z, hz, fun _ => e⟩
  ·exact ⟨0, by omega, fun h => absurd h hi⟩
 refine ⟨n, fun i => Classical.choose (hf2 i), fun i => (Classical.choose_spec (hf2 i)).1, rfl, fun ok h' v r => zfQ (x := .vals none 1 n f) ⟨rfl, rfl, rfl, fun i hi => (Classical.choose_spec (hf2 i)).2 hi⟩ r⟩
end
theorem znK {P : Program} {f : Nat} {xs : List V} {w : World} {vs : Array Value} (h : Fn P f xs (fun _ _ a => a = .v (.bool true))) (hl : vs.size = xs.length)
  (hr : ∀ j, j < xs.length -> Rep (zf4 w) w.heap (xs.getD j .nil) (vs.getD j undef)) :
  Calls P f vs w fun e w' => e = .returned (.bool true) ∧ Below w.heap.size w w' :=
 (znG h hl hr).mono fun e w' ⟨v, h1, h2, h3⟩ => by
  cases h3
  exact ⟨h1, h2⟩
theorem zoo : Tryz.prog.cellsOf 5 = 1 := by kernel_rfl
theorem zj2 {H : Type} {enc : TypeId × Value -> H} {W : World} : zh5 enc Tryz.prog W 22 1 (zjr 1 zek zoW) :=
 zh7 Tryz.underlying22 zoo (fun xs h1 h2 => zn1 xs h1 h2) (znI Tryz.underlying5)


theorem kV {n : Nat} {c : Nat -> Int} (hc : Byt n c) : Fn Tryz.prog 67 [vBy n c] (fun _ _ z => ∃ p L F X, z = .v (.tup [vK p none L, .ints none F, .ints none X]) ∧ (-1000 <= p ∧ p <= 1000) ∧ L.length <= 100 ∧ F.length <= 100 ∧ X.length <= 100000) := by
 refine ze (za [0, 2, 3, 4, 5, 6, 7]) Tryz.func67 rfl (by decide) Tryz.ntmps67 (Nat.le_of_ble_eq_true rfl) fun base => ?_;refine wrs fun K hK => ?_;conv => whnf
 intro b_2 hs_2 hh_2 hf_2;try dsimp only at hh_2 hf_2
 conv => whnf
 refine hK _ ?_;clear hK K;refine wrs fun K hK => ?_;conv => whnf
 refine yi rfl (kP hc) ?_;rintro lo hi hi' z hl1 hl2 hl3 ⟨b, x, hx, rfl⟩ _;try dsimp only at hl1 hl2
 conv => whnf
 refine hK _ ?_;clear hK K;refine wrs fun K hK => ?_;conv => whnf
 refine yi rfl (j1 hc) ?_;rintro lo2 hi2 hi2' z hm1 hm2 hm3 ⟨p, L, X, rfl, hp, hL, hX⟩ _;try dsimp only at hm1 hm2
 conv => whnf
 intro b_6 hs_6 hh_6 hf_6;try dsimp only at hh_6 hf_6
 conv => whnf
 refine ⟨s23, ?_⟩;conv => whnf
 refine hK _ ?_;clear hK K;refine W.rgh follows fun K hK => ?_;refine Wgh.take (za []) 0 (by rfl) (fun d hd => by injection hd with hd; subst hd; decide) (by kernel_rfl) (by kernel_rfl) (by rfl) ?_;conv => whnf
 refine Wgh.take (za []) 1 (by rfl) (fun d hd => by injection hd with hd; subst hd; decide) (by kernel_rfl) (by kernel_rfl) (by rfl) ?_;conv => whnf
 refine Wgh.take (za []) 2 (by rfl) (fun d hd => by injection hd with hd; subst hd; decide) (by kernel_rfl) (by kernel_rfl) (by rfl) ?_;conv => whnf
 refine Wgh.take (za []) 3 (by rfl) (fun d hd => by injection hd with hd; subst hd; decide) (by kernel_rfl) (by kernel_rfl) (by rfl) ?_;conv => whnf
 refine Wgh.take (za []) 5 (by rfl) (fun d hd => by injection hd with hd; subst hd; decide) (by kernel_rfl) (by kernel_rfl) (by rfl) ?_;conv => whnf
 refine Wgh.one (za []) 4 [5, 0] (by rfl) (by kernel_rfl) (by kernel_rfl) (by kernel_rfl) (by rfl) (by kernel_rfl) ⟨(by (conv => whnf); exact ⟨Nat.le_refl _, rfl⟩), (by (conv => whnf); exact ⟨Nat.le_refl _, rfl⟩), (by (conv => whnf); exact ⟨Nat.le_refl _, rfl⟩), (by (conv => whnf); exact ⟨Nat.le_refl _, rfl⟩), (by (conv => whnf); exact ⟨Nat.le_refl _, rfl⟩), trivial⟩ ?_;conv => whnf
 refine ⟨⟨rfl, rfl⟩, ?_⟩;conv => whnf
 refine ⟨rfl, _, (zgr hc p (by constructor <;> omega) b x hx), ?_⟩;rintro hs_ms3 av x' t' hh_ms3 ⟨rfl, ⟨x3, hx3, rfl⟩, _, rfl, ⟨F, rfl, hF⟩⟩ _ _ _;try dsimp only at hh_ms3
 conv => whnf
 refine Wgh.one (za []) 6 [5] (by rfl) (by kernel_rfl) (by kernel_rfl) (by kernel_rfl) (by rfl) (by kernel_rfl) ⟨(by (conv => whnf); exact ⟨Nat.le_refl _, rfl⟩), (by (conv => whnf); exact ⟨Nat.le_refl _, rfl⟩), trivial⟩ ?_;conv => whnf
 refine ⟨s23, ?_⟩;conv => whnf
 refine Wgh.one (za []) 7 [5] (by rfl) (by kernel_rfl) (by kernel_rfl) (by kernel_rfl) (by rfl) (by kernel_rfl) ⟨(by (conv => whnf); exact ⟨Nat.le_refl _, rfl⟩), trivial⟩ ?_;conv => whnf
 refine Wgh.one (za []) 8 [] (by rfl) (by kernel_rfl) (by kernel_rfl) (by kernel_rfl) (by rfl) (by kernel_rfl) ⟨(by (conv => whnf); exact ⟨Nat.le_refl _, rfl⟩), trivial⟩ ?_;conv => whnf
 refine Wgh.done (za []) (by rfl) (by kernel_rfl) (by kernel_rfl) (by kernel_rfl) trivial (hK _ ?_);clear hK K;refine W.ret ?_;conv => whnf
 exact ⟨⟨trivial, trivial, trivial⟩, .v (.ints none F), ⟨rfl, rfl⟩, trivial, .v (.ints none X), ⟨rfl, rfl⟩, trivial, p, L, F, X, rfl, hp, hL, by omega, hX⟩

theorem zaZ {n : Nat} {c : Nat -> Int} (hc : Byt n c) : Fn Tryz.prog 64 [vBy n c] (fun _ _ z => ∃ p L F, z = .v (.tup [vK p none L, .ints none F]) ∧ (-1000 <= p ∧ p <= 1000) ∧ L.length <= 100 ∧ F.length <= 100) := by
 refine ze (za [0, 2, 3, 4, 5, 16]) Tryz.func64 rfl (by decide) Tryz.ntmps64 (Nat.le_of_ble_eq_true rfl) fun base => ?_;refine wrs fun K hK => ?_;conv => whnf
 intro b_2 hs_2 hh_2 hf_2;try dsimp only at hh_2 hf_2
 conv => whnf
 refine hK _ ?_;clear hK K;refine wrs fun K hK => ?_;conv => whnf
 refine yi rfl (kP hc) ?_;rintro lo hi hi' z hl1 hl2 hl3 ⟨b, x, hx, rfl⟩ _;try dsimp only at hl1 hl2
 conv => whnf
 refine hK _ ?_;clear hK K;refine wrs fun K hK => ?_;conv => whnf
 refine ⟨⟨rfl, rfl⟩, ?_⟩;conv => whnf
 refine ⟨rfl, _, (zgq hc b x hx), ?_⟩;rintro hs_ms1 av x' t' hh_ms1 ⟨rfl, ⟨x1, hx1, rfl⟩, _, rfl, ⟨p, L, rfl, hp, hL⟩⟩ _ _ _;try dsimp only at hh_ms1
 conv => whnf
 intro b_5 hs_5 hh_5 hf_5;try dsimp only at hh_5 hf_5
 conv => whnf
 refine ⟨s23, ?_⟩;conv => whnf
 refine hK _ ?_;clear hK K;refine W.seqK fun K1 hK1 => ?_
 have fin : ∀ (x1 : V) (t : S), zaE n c x1 -> base <= t.hs -> zB t.env [(2, .ownB b_2 (.agg [.int .i64 0, .nil])), (4, .ownB b x1), (5, .ownB b_5 (vK p none L))] -> K1 t := by
  intro x1 t hx1 h9 h10;refine hK1 _ (W.weak (t := ⟨[(2, .ownB b_2 (.agg [.int .i64 0, .nil])), (4, .ownB b x1), (5, .ownB b_5 (vK p none L))], base⟩) ⟨h9, h10⟩ (Nat.le_refl _) ?_);clear hK1 K1;refine W.rgh follows fun K hK => ?_;refine Wgh.take (za []) 0 (by rfl) (fun d hd => by injection hd with hd; subst hd; decide) (by kernel_rfl) (by kernel_rfl) (by rfl) ?_;conv => whnf
  refine Wgh.take (za []) 1 (by rfl) (fun d hd => by injection hd with hd; subst hd; decide) (by kernel_rfl) (by kernel_rfl) (by rfl) ?_;conv => whnf
  refine Wgh.take (za []) 2 (by rfl) (fun d hd => by injection hd with hd; subst hd; decide) (by kernel_rfl) (by kernel_rfl) (by rfl) ?_;conv => whnf
  refine Wgh.take (za []) 3 (by rfl) (fun d hd => by injection hd with hd; subst hd; decide) (by kernel_rfl) (by kernel_rfl) (by rfl) ?_;conv => whnf
  refine Wgh.one (za []) 4 [0] (by rfl) (by kernel_rfl) (by kernel_rfl) (by kernel_rfl) (by rfl) (by kernel_rfl) ⟨(by (conv => whnf); exact ⟨Nat.le_refl _, rfl⟩), (by (conv => whnf); exact ⟨Nat.le_refl _, rfl⟩), (by (conv => whnf); exact ⟨Nat.le_refl _, rfl⟩), (by (conv => whnf); exact ⟨Nat.le_refl _, rfl⟩), trivial⟩ ?_;conv => whnf
  refine ⟨⟨rfl, rfl⟩, ?_⟩;conv => whnf
  refine ⟨rfl, _, (zgr hc p (by constructor <;> omega) b x1 hx1), ?_⟩;rintro hs_ms3 av x' t' hh_ms3 ⟨rfl, ⟨x3, hx3, rfl⟩, _, rfl, ⟨F, rfl, hF⟩⟩ _ _ _;try dsimp only at hh_ms3
  conv => whnf
  refine Wgh.one (za []) 5 [] (by rfl) (by kernel_rfl) (by kernel_rfl) (by kernel_rfl) (by rfl) (by kernel_rfl) ⟨(by (conv => whnf); exact ⟨Nat.le_refl _, rfl⟩), trivial⟩ ?_;conv => whnf
  refine ⟨s23, ?_⟩;conv => whnf
  refine Wgh.one (za []) 6 [] (by rfl) (by kernel_rfl) (by kernel_rfl) (by kernel_rfl) (by rfl) (by kernel_rfl) trivial ?_;conv => whnf
  refine Wgh.done (za []) (by rfl) (by kernel_rfl) (by kernel_rfl) (by kernel_rfl) trivial (hK _ ?_);clear hK K;refine W.ret ?_;conv => whnf
  exact ⟨⟨trivial, trivial, trivial⟩, .v (.ints none F), ⟨rfl, rfl⟩, trivial, p, L, F, rfl, hp, hL, by omega⟩
 refine wrs fun K hK => ?_;conv => whnf
 refine zc rfl (z7 p none L (by omega)) fun hs' hhs => ?_;try dsimp only at hhs
 conv => whnf
 refine ⟨fun hk => ?_, fun hk => ?_⟩
 ·conv => whnf
  refine ⟨⟨rfl, rfl⟩, ?_⟩;conv => whnf
  refine ⟨rfl, _, (zy hc 3 (by constructor <;> decide) b x1 hx1), ?_⟩;rintro hs_ms2 av x' t' hh_ms2 ⟨rfl, ⟨x2, hx2, rfl⟩, _, rfl, ⟨q, rfl, q0, q1, _⟩⟩ _ _ _;try dsimp only at hh_ms2
  conv => whnf
  refine hK _ (W.cond ⟨fun h => ?_, fun h => ?_⟩) <;> clear hK K
  ·have hk : IsFld p L := kQ.1 hk;have ho := hk.ord;obtain ⟨hpp, f, rfl, hfi, _, _, hf9⟩ := vQ hk;letI := yE hpp;have hp2 := zX hpp;have h2 := hfi.1;have hf0 := hfi.ne;obtain ⟨d, hd⟩ : ∃ d, dg f = d + 1 := ⟨dg f - 1, by omega⟩
   obtain ⟨hq1, hq2, hq3⟩ := znD hk hd;refine W.rgh follows fun K hK => ?_;refine Wgh.take (za []) 0 (by rfl) (fun d hd => by injection hd with hd; subst hd; decide) (by kernel_rfl) (by kernel_rfl) (by rfl) ?_;conv => whnf
   refine Wgh.take (za []) 1 (by rfl) (fun d hd => by injection hd with hd; subst hd; decide) (by kernel_rfl) (by kernel_rfl) (by rfl) ?_;conv => whnf
   refine Wgh.take (za []) 2 (by rfl) (fun d hd => by injection hd with hd; subst hd; decide) (by kernel_rfl) (by kernel_rfl) (by rfl) ?_;conv => whnf
   refine Wgh.take (za []) 3 (by rfl) (fun d hd => by injection hd with hd; subst hd; decide) (by kernel_rfl) (by kernel_rfl) (by rfl) ?_;conv => whnf
   refine Wgh.take (za []) 4 (by rfl) (fun d hd => by injection hd with hd; subst hd; decide) (by kernel_rfl) (by kernel_rfl) (by rfl) ?_;conv => whnf
   refine Wgh.one (za []) 5 [3, 2, 1, 0] (by rfl) (by kernel_rfl) (by kernel_rfl) (by kernel_rfl) (by rfl) (by kernel_rfl) ⟨(by (conv => whnf); exact ⟨Nat.le_refl _, rfl⟩), (by (conv => whnf); exact ⟨Nat.le_refl _, rfl⟩), (by (conv => whnf); exact ⟨Nat.le_refl _, rfl⟩), (by (conv => whnf); exact ⟨Nat.le_refl _, rfl⟩), (by (conv => whnf); exact ⟨Nat.le_refl _, rfl⟩), trivial⟩ ?_;conv => whnf
   refine zc rfl (vB p none f.l hk) fun hs' hhs => ?_;try dsimp only at hhs
   conv => whnf
   rw [hq1];refine Wgh.one (za []) 6 [2, 1, 0] (by rfl) (by kernel_rfl) (by kernel_rfl) (by kernel_rfl) (by rfl) (by kernel_rfl) ⟨(by (conv => whnf); exact ⟨Nat.le_refl _, rfl⟩), (by (conv => whnf); exact ⟨Nat.le_refl _, rfl⟩), (by (conv => whnf); exact ⟨Nat.le_refl _, rfl⟩), (by (conv => whnf); exact ⟨Nat.le_refl _, rfl⟩), trivial⟩ ?_;conv => whnf
   refine ⟨⟨rfl, rfl⟩, ?_⟩;conv => whnf
   refine ⟨rfl, _, (zy hc ((p.toNat ^ d : Nat) : Int) (by constructor <;> omega) b x2 hx2), ?_⟩;rintro hs_ms3 av x' t' hh_ms3 ⟨rfl, ⟨x3, hx3, rfl⟩, _, rfl, ⟨u, rfl, u0, u1, u2⟩⟩ _ _ _;try dsimp only at hh_ms3
   conv => whnf
   have u3 := u1 (by omega);obtain ⟨v, rfl⟩ : ∃ v : Nat, u = v := ⟨u.toNat, by omega⟩
   have hvl : dg (zZ p v) < dg f := by have := zeN (p := p) (show v < p.toNat ^ d by omega); omega
   obtain ⟨m, hm, hm2⟩ := jw hfi hvl hd;refine Wgh.one (za []) 7 [1, 0] (by rfl) (by kernel_rfl) (by kernel_rfl) (by kernel_rfl) (by rfl) (by kernel_rfl) ⟨(by (conv => whnf); exact ⟨Nat.le_refl _, rfl⟩), (by (conv => whnf); exact ⟨Nat.le_refl _, rfl⟩), (by (conv => whnf); exact ⟨Nat.le_refl _, rfl⟩), trivial⟩ ?_;conv => whnf
   refine zc rfl (vC p none f.l v hp2.1 (by omega)) fun hs' hhs => ?_;try dsimp only at hhs
   conv => whnf
   rw [<- kO];refine Wgh.one (za []) 8 [0] (by rfl) (by kernel_rfl) (by kernel_rfl) (by kernel_rfl) (by rfl) (by kernel_rfl) ⟨(by (conv => whnf); exact ⟨Nat.le_refl _, rfl⟩), (by (conv => whnf); exact ⟨Nat.le_refl _, rfl⟩), trivial⟩ ?_;conv => whnf
   refine zc rfl (za9 p none none f (zZ p v) (by omega) h2 hf0 hvl m hm (by omega)) fun hs' hhs => ?_;try dsimp only at hhs
   conv => whnf
   refine Wgh.one (za []) 9 [] (by rfl) (by kernel_rfl) (by kernel_rfl) (by kernel_rfl) (by rfl) (by kernel_rfl) ⟨(by (conv => whnf); exact ⟨Nat.le_refl _, rfl⟩), trivial⟩ ?_;conv => whnf
   refine ⟨s23, ?_⟩;conv => whnf
   refine Wgh.one (za []) 10 [] (by rfl) (by kernel_rfl) (by kernel_rfl) (by kernel_rfl) (by rfl) (by kernel_rfl) trivial ?_;conv => whnf
   refine Wgh.done (za []) (by rfl) (by kernel_rfl) (by kernel_rfl) (by kernel_rfl) trivial (hK _ ?_);clear hK K;have hml : (mpL f (zZ p v) m (m + 1)).length = m + 1 := zE _ _;refine W.ret ?_;conv => whnf
   exact ⟨⟨trivial, trivial, trivial⟩, .v (.ints none (mpL f (zZ p v) m (m + 1))), ⟨rfl, rfl⟩, trivial, p, f.l, _, rfl, hp, hL, by omega⟩
  ·refine W.skip (fin x2 _ hx2 (by dsimp only; omega) ?_);exact cvr
 ·conv => whnf
  refine hK _ (W.condF rfl (W.skip (fin x1 _ hx1 (by dsimp only; omega) ?_)));exact cvr

theorem za0 {n : Nat} {c : Nat -> Int} (hc : Byt n c) : Fn Tryz.prog 61 [vBy n c] (fun _ _ z => ∃ p L X q, z = .v (.tup [vK p none L, .ints none X, .int .i64 q]) ∧ (-1000 <= p ∧ p <= 1000) ∧ L.length <= 100 ∧ X.length <= 100000 ∧ (0 <= q ∧ q <= 5)) := by
 refine ze (za [0, 2, 3, 4, 5, 6, 7, 26]) Tryz.func61 rfl (by decide) Tryz.ntmps61 (Nat.le_of_ble_eq_true rfl) fun base => ?_;refine wrs fun K hK => ?_;conv => whnf
 intro b_2 hs_2 hh_2 hf_2;try dsimp only at hh_2 hf_2
 conv => whnf
 refine hK _ ?_;clear hK K;refine wrs fun K hK => ?_;conv => whnf
 refine yi rfl (kP hc) ?_;rintro lo hi hi' z hl1 hl2 hl3 ⟨b, x, hx, rfl⟩ _;try dsimp only at hl1 hl2
 conv => whnf
 refine hK _ ?_;clear hK K;refine wrs fun K hK => ?_;conv => whnf
 refine yi rfl (j1 hc) ?_;rintro lo2 hi2 hi2' z hm1 hm2 hm3 ⟨p, L, X, rfl, hp, hL, hX⟩ _;try dsimp only at hm1 hm2
 conv => whnf
 intro b_6 hs_6 hh_6 hf_6;try dsimp only at hh_6 hf_6
 conv => whnf
 refine ⟨s23, ?_⟩;conv => whnf
 refine hK _ ?_;clear hK K;refine W.seqK fun K1 hK1 => ?_
 have fin : ∀ (x1 : V) (X : List Int) (t : S), zaE n c x1 -> X.length <= 100000 -> base <= t.hs -> zB t.env [(2, .ownB b_2 (.agg [.int .i64 0, .nil])), (5, .ownB b x1), (6, .ownB b_6 (vK p none L)), (7, .v (.ints none X))] -> K1 t := by
  intro x1 X t hx1 hX h9 h10;refine hK1 _ (W.weak (t := ⟨[(2, .ownB b_2 (.agg [.int .i64 0, .nil])), (5, .ownB b x1), (6, .ownB b_6 (vK p none L)), (7, .v (.ints none X))], base⟩) ⟨h9, h10⟩ (Nat.le_refl _) ?_);clear hK1 K1;refine W.rgh follows fun K hK => ?_;refine Wgh.take (za []) 0 (by rfl) (fun d hd => by injection hd with hd; subst hd; decide) (by kernel_rfl) (by kernel_rfl) (by rfl) ?_;conv => whnf
  refine Wgh.take (za []) 1 (by rfl) (fun d hd => by injection hd with hd; subst hd; decide) (by kernel_rfl) (by kernel_rfl) (by rfl) ?_;conv => whnf
  refine Wgh.take (za []) 2 (by rfl) (fun d hd => by injection hd with hd; subst hd; decide) (by kernel_rfl) (by kernel_rfl) (by rfl) ?_;conv => whnf
  refine Wgh.one (za []) 3 [2, 1, 0] (by rfl) (by kernel_rfl) (by kernel_rfl) (by kernel_rfl) (by rfl) (by kernel_rfl) ⟨(by (conv => whnf); exact ⟨Nat.le_refl _, rfl⟩), (by (conv => whnf); exact ⟨Nat.le_refl _, rfl⟩), (by (conv => whnf); exact ⟨Nat.le_refl _, rfl⟩), trivial⟩ ?_;conv => whnf
  refine ⟨⟨rfl, by decide⟩, ?_⟩;conv => whnf
  intro b_7 hs_7 hh_7 hf_7;try dsimp only at hh_7 hf_7
  conv => whnf
  refine Wgh.one (za []) 4 [1, 0] (by rfl) (by kernel_rfl) (by kernel_rfl) (by kernel_rfl) (by rfl) (by kernel_rfl) ⟨(by (conv => whnf); exact ⟨Nat.le_refl _, rfl⟩), (by (conv => whnf); exact ⟨Nat.le_refl _, rfl⟩), (by (conv => whnf); exact ⟨Nat.le_refl _, rfl⟩), trivial⟩ ?_;conv => whnf
  refine ⟨⟨rfl, rfl⟩, ?_⟩;conv => whnf
  refine ⟨rfl, _, (vw hc none [1, 2, 1, 2, 3, 4, 0, 5] ⟨by decide, by decide⟩ b x1 hx1), ?_⟩;rintro hs_ms3 av x' t' hh_ms3 ⟨rfl, ⟨x3, hx3, rfl⟩, _, rfl, ⟨q, rfl, hq⟩⟩ _ _ _;try dsimp only at hh_ms3
  conv => whnf
  refine Wgh.one (za []) 5 [1] (by rfl) (by kernel_rfl) (by kernel_rfl) (by kernel_rfl) (by rfl) (by kernel_rfl) ⟨(by (conv => whnf); exact ⟨Nat.le_refl _, rfl⟩), (by (conv => whnf); exact ⟨Nat.le_refl _, rfl⟩), trivial⟩ ?_;conv => whnf
  refine ⟨s23, ?_⟩;conv => whnf
  refine Wgh.one (za []) 6 [] (by rfl) (by kernel_rfl) (by kernel_rfl) (by kernel_rfl) (by rfl) (by kernel_rfl) ⟨(by (conv => whnf); exact ⟨Nat.le_refl _, rfl⟩), trivial⟩ ?_;conv => whnf
  refine Wgh.one (za []) 7 [] (by rfl) (by kernel_rfl) (by kernel_rfl) (by kernel_rfl) (by rfl) (by kernel_rfl) trivial ?_;conv => whnf
  refine Wgh.done (za []) (by rfl) (by kernel_rfl) (by kernel_rfl) (by kernel_rfl) trivial (hK _ ?_);clear hK K;refine W.ret ?_;conv => whnf
  exact ⟨⟨trivial, trivial, trivial⟩, .v (.ints none X), ⟨rfl, rfl⟩, trivial, .v (.int .i64 q), ⟨rfl, rfl⟩, trivial, p, L, X, q, rfl, hp, hL, hX, (by simp only [List.mem_cons, List.not_mem_nil, or_false] at hq; omega)⟩
 refine wrs fun K hK => ?_;conv => whnf
 refine zc rfl (z7 p none L (by omega)) fun hs' hhs => ?_;try dsimp only at hhs
 conv => whnf
 refine ⟨fun hk => ?_, fun hk => ?_⟩
 ·conv => whnf
  refine zc rfl (kw p none none L X (by omega)) fun hs' hhs => ?_;try dsimp only at hhs
  conv => whnf
  refine ⟨fun hxk => ?_, fun hxk => ?_⟩
  ·conv => whnf
   refine ⟨⟨rfl, rfl⟩, ?_⟩;conv => whnf
   refine ⟨rfl, _, (zy hc 3 (by constructor <;> decide) b x hx), ?_⟩;rintro hs_ms2 av x' t' hh_ms2 ⟨rfl, ⟨x2, hx2, rfl⟩, _, rfl, ⟨q, rfl, q0, q1, _⟩⟩ _ _ _;try dsimp only at hh_ms2
   conv => whnf
   refine hK _ (W.cond ⟨fun h => ?_, fun h => ?_⟩) <;> clear hK K
   ·have hk : IsFld p L := kQ.1 hk;have hxk : Has p L X := kQ.1 hxk;obtain ⟨hpp, f, rfl, hfi, _, _, hf9⟩ := vQ hk;letI := yE hpp;have hp2 := zX hpp;have h2 := hfi.1;have hf0 := hfi.ne;obtain ⟨X, rfl⟩ := vR hxk.1;have hxl : dg X < dg f := hxk.2;obtain ⟨d, hd⟩ : ∃ d, dg f = d + 1 := ⟨dg f - 1, by omega⟩
    obtain ⟨hq1, hq2, hq3⟩ := znD hk hd
    obtain ⟨e, he, he2⟩ : ∃ e : Nat, (((p.toNat ^ d : Nat) : Int) - 1).tdiv (p - 1) = e ∧ e <= 20000 := by
     obtain ⟨r, h1, h3, h4⟩ := zkD (a := ((p.toNat ^ d : Nat) : Int) - 1) (b := p - 1) (by omega) (by omega);exact ⟨r.toNat, by omega, by omega⟩
    have hR : dg (rem (X ^ e) f) < dg f := zM _ hf0;refine W.gh follows ?_;refine Wgh.take (za []) 0 (by rfl) (fun d hd => by injection hd with hd; subst hd; decide) (by kernel_rfl) (by kernel_rfl) (by rfl) ?_;conv => whnf
    refine Wgh.take (za []) 1 (by rfl) (fun d hd => by injection hd with hd; subst hd; decide) (by kernel_rfl) (by kernel_rfl) (by rfl) ?_;conv => whnf
    refine Wgh.take (za []) 2 (by rfl) (fun d hd => by injection hd with hd; subst hd; decide) (by kernel_rfl) (by kernel_rfl) (by rfl) ?_;conv => whnf
    refine Wgh.take (za []) 5 (by rfl) (fun d hd => by injection hd with hd; subst hd; decide) (by kernel_rfl) (by kernel_rfl) (by rfl) ?_;conv => whnf
    refine Wgh.take (za []) 6 (by rfl) (fun d hd => by injection hd with hd; subst hd; decide) (by kernel_rfl) (by kernel_rfl) (by rfl) ?_;conv => whnf
    refine Wgh.take (za []) 7 (by rfl) (fun d hd => by injection hd with hd; subst hd; decide) (by kernel_rfl) (by kernel_rfl) (by rfl) ?_;conv => whnf
    refine ⟨oo, ?_⟩;conv => whnf
    refine Wgh.one (za []) 3 [7, 6, 5, 1, 0] (by rfl) (by kernel_rfl) (by kernel_rfl) (by kernel_rfl) (by rfl) (by kernel_rfl) ⟨(by (conv => whnf); refine ⟨by constructor <;> omega, ?_⟩; (conv => whnf); exact ⟨Nat.le_refl _, rfl⟩), (by (conv => whnf); exact ⟨Nat.le_refl _, rfl⟩), (by (conv => whnf); exact ⟨Nat.le_refl _, rfl⟩), (by (conv => whnf); exact ⟨Nat.le_refl _, rfl⟩), (by (conv => whnf); exact ⟨Nat.le_refl _, rfl⟩), (by (conv => whnf); exact ⟨Nat.le_refl _, rfl⟩), trivial⟩ ?_;conv => whnf
    refine zc rfl (vB p none f.l hk) fun hs' hhs => ?_;try dsimp only at hhs
    conv => whnf
    rw [hq1];refine Wgh.take (za []) 4 (by rfl) (fun d hd => by injection hd with hd; subst hd; decide) (by kernel_rfl) (by kernel_rfl) (by rfl) ?_;conv => whnf
    refine ⟨oo, ?_⟩;conv => whnf
    refine Wgh.take (za []) 8 (by rfl) (fun d hd => by injection hd with hd; subst hd; decide) (by kernel_rfl) (by kernel_rfl) (by rfl) ?_;conv => whnf
    refine ⟨(by show p - 1 ≠ 0; omega), ?_⟩;conv => whnf
    refine ⟨(by rw [he]; constructor <;> omega), ?_⟩;conv => whnf
    rw [he];refine Wgh.one (za []) 9 [] (by rfl) (by kernel_rfl) (by kernel_rfl) (by kernel_rfl) (by rfl) (by kernel_rfl) ⟨(by (conv => whnf); refine ⟨by show p - 1 ≠ 0; omega, ?_⟩; (conv => whnf); refine ⟨by rw [he]; constructor <;> omega, ?_⟩; (conv => whnf); rw [he]; exact ⟨Nat.le_refl _, rfl⟩), (by (conv => whnf); refine ⟨by constructor <;> omega, ?_⟩; (conv => whnf); exact ⟨Nat.le_refl _, rfl⟩), (by (conv => whnf); refine ⟨by constructor <;> omega, ?_⟩; (conv => whnf); exact ⟨Nat.le_refl _, rfl⟩), (by (conv => whnf); exact ⟨Nat.le_refl _, rfl⟩), (by (conv => whnf); exact ⟨Nat.le_refl _, rfl⟩), (by (conv => whnf); exact ⟨Nat.le_refl _, rfl⟩), (by (conv => whnf); exact ⟨Nat.le_refl _, rfl⟩), trivial⟩ ?_;conv => whnf
    refine zc rfl (zdk p none none f X e (by omega) (by omega) (by omega) hf0) fun hs' hhs => ?_;try dsimp only at hhs
    conv => whnf
    refine Wgh.one (za []) 10 [] (by rfl) (by kernel_rfl) (by kernel_rfl) (by kernel_rfl) (by rfl) (by kernel_rfl) trivial ?_;conv => whnf
    refine Wgh.done (za []) (by rfl) (by kernel_rfl) (by kernel_rfl) (by kernel_rfl) trivial ?_;conv => whnf
    refine fin x2 (rem (X ^ e) f).l _ hx2 (by show dg _ <= _; omega) (by dsimp only; omega) ?_;exact cvr
   ·refine W.skip (fin x2 X _ hx2 hX (by dsimp only; omega) ?_);exact cvr
  ·conv => whnf
   refine hK _ (W.condF rfl (W.skip (fin x X _ hx hX (by dsimp only; omega) ?_)));exact cvr
 ·conv => whnf
  refine hK _ (W.condF rfl (W.skip (fin x X _ hx hX (by dsimp only; omega) ?_)));exact cvr

theorem k8 (D : List (List Int)) (hl : D.length <= 1000000) (hd : ∀ j, (D.getD j []).length <= 1000000) : FnV 70 [vLL D, vLL D] .tr := by
 refine ze (za [0, 1, 4, 5, 10, 14, 26]) Tryz.func70 rfl (by decide) Tryz.ntmps70 (Nat.le_of_ble_eq_true rfl) fun base => ?_;refine wrs fun K hK => ?_;conv => whnf
 refine hK _ ?_;clear hK K;refine W.seqK fun K1 hK1 => wrs fun K hK => ?_;conv => whnf
 refine hK _ (W.cond ⟨fun hcc => absurd rfl (of_decide_eq_true hcc), fun _ => W.skip (hK1 _ ?_)⟩);clear hK K hK1 K1;refine W.seqK fun K1 hK1 => wrs fun K hK => ?_;conv => whnf
 refine hK _ (W.block (W.invA (fun m e => ∃ i : Nat, i <= D.length ∧ m = D.length - i ∧ e = [(0, .v (vLL D)), (1, .v (vLL D)), (5, .v (.int .i64 i))]) ⟨0, Nat.zero_le _, rfl, rfl⟩ ?_));clear hK K;rintro m e ⟨i, h1, hm, rfl⟩;refine W.seqK fun K7 hK7 => wrs fun K hK => ?_;conv => whnf
 refine hK _ (W.cond ⟨fun h3 => ?_, fun h3 => ?_⟩) <;> clear hK K <;> (first | replace h3 := of_decide_eq_true h3 | replace h3 := of_decide_eq_false h3)
 ·refine W.skip (hK7 _ ?_);clear hK7 K7;refine W.seqK fun K8 hK8 => W.block ?_;have hdi := hd i;refine W.rgh follows fun K hK => ?_;refine Wgh.take (za []) 0 (by rfl) (fun d hd => by injection hd with hd; subst hd; decide) (by kernel_rfl) (by kernel_rfl) (by rfl) ?_;conv => whnf
  refine Wgh.take (za []) 1 (by rfl) (fun d hd => by injection hd with hd; subst hd; decide) (by kernel_rfl) (by kernel_rfl) (by rfl) ?_;conv => whnf
  refine Wgh.take (za []) 2 (by rfl) (fun d hd => by injection hd with hd; subst hd; decide) (by kernel_rfl) (by kernel_rfl) (by rfl) ?_;conv => whnf
  refine ⟨oo, ?_⟩;conv => whnf
  refine Wgh.take (za []) 3 (by rfl) (fun d hd => by injection hd with hd; subst hd; decide) (by kernel_rfl) (by kernel_rfl) (by rfl) ?_;conv => whnf
  refine Wgh.take (za []) 4 (by rfl) (fun d hd => by injection hd with hd; subst hd; decide) (by kernel_rfl) (by kernel_rfl) (by rfl) ?_;conv => whnf
  refine Wgh.take (za []) 5 (by rfl) (fun d hd => by injection hd with hd; subst hd; decide) (by kernel_rfl) (by kernel_rfl) (by rfl) ?_;conv => whnf
  refine Wgh.take (za []) 6 (by rfl) (fun d hd => by injection hd with hd; subst hd; decide) (by kernel_rfl) (by kernel_rfl) (by rfl) ?_;conv => whnf
  refine ⟨oo, ?_⟩;conv => whnf
  refine Wgh.take (za []) 7 (by rfl) (fun d hd => by injection hd with hd; subst hd; decide) (by kernel_rfl) (by kernel_rfl) (by rfl) ?_;conv => whnf
  refine Wgh.one (za []) 8 [] (by rfl) (by kernel_rfl) (by kernel_rfl) (by kernel_rfl) (by rfl) (by kernel_rfl) ⟨(by (conv => whnf); exact ⟨Nat.le_refl _, rfl⟩), (by (conv => whnf); refine ⟨by first | assumption | omega | exact ⟨by omega, by omega⟩, ?_⟩; (conv => whnf); exact ⟨Nat.le_refl _, rfl⟩), (by (conv => whnf); exact ⟨Nat.le_refl _, rfl⟩), (by (conv => whnf); exact ⟨Nat.le_refl _, rfl⟩), (by (conv => whnf); exact ⟨Nat.le_refl _, rfl⟩), (by (conv => whnf); refine ⟨by first | assumption | omega | exact ⟨by omega, by omega⟩, ?_⟩; (conv => whnf); exact ⟨Nat.le_refl _, rfl⟩), (by (conv => whnf); exact ⟨Nat.le_refl _, rfl⟩), (by (conv => whnf); exact ⟨Nat.le_refl _, rfl⟩), trivial⟩ ?_;conv => whnf
  refine zc rfl (jZ _ _ (D.getD i []) (by omega)) fun hs' hhs => ?_;try dsimp only at hhs
  conv => whnf
  refine Wgh.take (za []) 9 (by rfl) (fun d hd => by injection hd with hd; subst hd; decide) (by kernel_rfl) (by kernel_rfl) (by rfl) ?_;conv => whnf
  refine Wgh.done (za []) (by rfl) (by kernel_rfl) (by kernel_rfl) (by kernel_rfl) ⟨(by (conv => whnf); exact ⟨Nat.le_refl _, rfl⟩), trivial⟩ (hK _ ?_);clear hK K;refine W.condF rfl (W.skip (hK8 _ ?_));clear hK8 K8;refine wrg ?_;conv => whnf
  refine ⟨oo, ?_⟩;conv => whnf
  exact zl ⟨i + 1, by omega, rfl, rfl⟩
 ·refine W.exit (hK1 _ ?_);clear hK7 K7 hK1 K1;refine wrs fun K hK => ?_;conv => whnf
  refine hK _ ?_;clear hK K;refine W.ret ?_;conv => whnf
  exact ⟨.v (.tr), rfl, trivial, rfl⟩


theorem RTS.toV {f : Nat} {xs : List V} {L : List (List Int)} {c : Int} (h : FnT Tryz.prog f xs (RTS L c)) : FnV f xs (.tup [vLL L, .int .i64 c]) := by
 refine ⟨h.1, fun D w vs hD hl hr => ?_⟩;refine (h.2 D w vs hD hl hr).mono ?_;rintro e w' ⟨v, x, tb, hi, rfl, hhi, ⟨bs, rfl, hb2, _⟩, hb, h1, h2, h3⟩;refine ⟨v, .v _, hi, rfl, hhi, rfl, hb, rfl, ?_, fun b hb => hb.elim⟩;have hm : ∀ g b, okR (fun b => D b ∨ tb b ≠ none) w'.heap.size g b -> okR (fun b => D b ∨ False) w'.heap.size g b ∧ w'.heap[b]? = w'.heap[b]? := fun g b hb => ⟨⟨hb.1, fun h => hb.2.1 (h.elim .inl False.elim), hb.2.2⟩, rfl⟩
 show Rep (okR (fun b => D b ∨ False) w'.heap.size) w'.heap _ v
 cases h1 with
 | tup _ vs' hl' hr' =>
  refine .tup _ vs' (by simpa using hl') fun j hj => ?_
  match j, hj with
  | 0, _ =>
   have h4 := hr' 0 (by simp)
   have h5 : Rep (okR (fun b => D b ∨ False) w'.heap.size) w'.heap (vLL L) (vs'.getD 0 undef) := by
    generalize vs'.getD 0 undef = u at h4;have h4 : Rep (okR (fun b => D b ∨ tb b ≠ none) w'.heap.size) w'.heap (vRF L bs) u := h4;have h6 : ∀ i, i < L.length -> uC tb (.rf (bs i) (L.getD i []).length) (.ints none (L.getD i [])) := fun i hi => ⟨_, rfl, hb2 i hi, rfl⟩
    cases h4 with
    | vals _ _ _ _ a cap hc hmx hl' hf' cc hx hr' =>
     refine .vals none 1 L.length _ a cap hc hmx (fun i hi => by rw [(zbL (h6 i hi)).1]; exact hl' i hi) (fun i hi => by rw [(zbL (h6 i hi)).2]; exact hf' i hi) cc (fun i j hi hj => ?_) fun i j hi hj => ?_
     ·obtain ⟨b, o, cur, e, fr, k1, k2, k3, k4⟩ := hx i j hi hj;exact ⟨b, o, cur, e, fr, k1, (hm _ _ k2).1, k3, k4⟩
     ·rcases zki (h6 i hi) j with h7 | h7
      ·exact zbM hD h2 h3 h7 (hr' i j hi hj)
      ·rw [h7]; exact (hr' i j hi hj).mono hm
   exact h5
  | 1, _ => exact (hr' 1 (by simp)).mono hm
  | j + 2, hj => simp at hj; omega

end Go.Proofs.YtlmckocbhcpmdaaGreat
