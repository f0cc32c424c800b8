/- The law FnLogs answers true, for all arguments. No conditions. -/
import Derived.Test.YtlmckocbhcpmdaaGreatPj
namespace Go.Proofs.YtlmckocbhcpmdaaGreat
open Go Go.RowKit Go.Proofs Poly
set_option maxRecDepth 100000
set_option maxHeartbeats 8000000

theorem znQ {p : Int} (hp : p ∈ zS) : letI := yv hp; ∀ {f : Poly p}, IsFld p f.l -> Irr f := by
 letI := yv hp;intro f hk;obtain ⟨_, g, hg, hi, _⟩ := vE hk;obtain rfl := vR hg;exact hi
theorem ze2 (kp : Int) (g : Option Nat) (kl : List Int) (hk : IsFld kp kl) : FnV 88 [vK kp g kl] (.tup [.int .i64 (kp ^ (kl.length - 1)), .int .i64 0]) := by
 have h2 := zbq hk.mod.1;have h9 := hk.mod.2.1;have hl2 := hk.two;have hc : zq kp kl true 0 (fun _ => []) = 0 := by unfold zq; rw [zh hk, zh (fun i hi => by omega)]; rfl
 refine ze (za [0, 1, 2, 3, 4, 8]) Tryz.func88 rfl (by decide) Tryz.ntmps88 (Nat.le_of_ble_eq_true rfl) fun base => ?_;refine wrs fun K hK => ?_;conv => whnf
 refine ⟨rfl, ?_⟩;conv => whnf
 intro b_1 hs_1 hh_1 hf_1;try dsimp only at hh_1 hf_1
 conv => whnf
 refine hK _ ?_;clear hK K;refine W.seqK fun K1 hK1 => ?_;refine wrs fun K hK => ?_;conv => whnf
 refine zc rfl (yH kp g none kl 0 _ (fun _ => []) (by omega) (by omega) (fun i hi => by omega)) fun hs' hhs => ?_;try dsimp only at hhs
 conv => whnf
 rw [hc];refine hK _ ?_;clear hK K;refine wrs fun K hK => ?_;conv => whnf
 refine hK _ (W.cond ⟨fun hcc => absurd rfl (of_decide_eq_true hcc), fun _ => W.skip (hK1 _ ?_)⟩);clear hK K hK1 K1;refine wrs fun K hK => ?_;conv => whnf
 refine zc rfl (zas kp g kl (by omega) (by omega) (by omega) (by omega)) fun hs' hhs => ?_;try dsimp only at hhs
 conv => whnf
 refine hK _ ?_;clear hK K;refine W.ret ?_;conv => whnf
 exact ⟨.v (.int .i64 (kp ^ (kl.length - 1))), ⟨rfl, rfl⟩, trivial, .v (.int .i64 0), ⟨rfl, rfl⟩, trivial, rfl⟩

theorem lawLogs {n : Nat} {c : Nat -> Int} (hb : ∀ i, 0 <= c i ∧ c i <= 255) : FnV 8 [vBy n c] (.bool true) := by
 refine ze (za [0, 2, 3, 4, 5, 6, 7, 8, 9, 10, 11, 12, 13, 14, 15, 16, 17, 18, 19, 20, 21, 22, 23, 24, 25, 26, 27, 28, 29, 30, 31, 32, 34, 119, 121, 158, 160]) Tryz.func8 rfl (by decide) Tryz.ntmps8 (Nat.le_of_ble_eq_true rfl) fun base => ?_;refine wrs fun K hK => ?_;conv => whnf
 refine hK _ ?_;clear hK K;refine W.seqK fun K1 hK1 => ?_;refine wrs fun K hK => ?_;conv => whnf
 refine zc rfl (zof) fun hs' hhs => ?_;try dsimp only at hhs
 conv => whnf
 refine hK _ (W.cond ⟨fun h => ?_, fun h => ?_⟩) <;> clear hK K
 ·refine wrs fun K hK => ?_;conv => whnf
  refine hK _ ?_;clear hK K;refine W.ret ?_;conv => whnf
  exact ⟨.v (.bool true), rfl, trivial, rfl⟩
 have h := of_decide_eq_false h;have hc : Byt n c := ⟨by omega, hb⟩
 refine W.skip (hK1 _ ?_);clear hK1 K1;refine wrs fun K hK => ?_;conv => whnf
 refine yz rfl (zbu hc) ?_;rintro lo hi hi' z hl1 hl2 hl3 ⟨p, L, G, X, rfl, hp, hL, hG, hX⟩ _;try dsimp only at hl1 hl2
 conv => whnf
 intro b_3 hs_3 hh_3 hf_3;try dsimp only at hh_3 hf_3
 conv => whnf
 refine ⟨s23, ?_⟩;conv => whnf
 refine hK _ ?_;clear hK K;have hpR : inR p := by constructor <;> omega
 obtain ⟨lg, e1, hS1, hI1, hV1⟩ := zfk p L G X hpR (by omega) (by omega) (by omega);refine wrs fun K hK => ?_;conv => whnf
 refine zc rfl (hI1 _ _ _) fun hs' hhs => ?_;try dsimp only at hhs
 conv => whnf
 refine hK _ ?_;clear hK K;refine wrs fun K hK => ?_;conv => whnf
 refine zc rfl (hS1 _ _ _) fun hs' hhs => ?_;try dsimp only at hhs
 conv => whnf
 refine hK _ ?_;clear hK K;refine wrs fun K hK => ?_;conv => whnf
 refine yz rfl (zaw hc) ?_;rintro lo2 hi2 hi2' z hm1 hm2 hm3 ⟨p2, L2, H, e, rfl, hp2, hL2, hH, he0, he9⟩ _;try dsimp only at hm1 hm2
 conv => whnf
 intro b_10 hs_10 hh_10 hf_10;try dsimp only at hh_10 hf_10
 conv => whnf
 refine ⟨s23, ?_⟩;conv => whnf
 refine hK _ ?_;clear hK K;have hpR2 : inR p2 := by constructor <;> omega
 obtain ⟨zl, e2, hS2, hI2, hV2⟩ := zdn p2 L2 H e hpR2 (by constructor <;> omega) (by omega) (by omega);refine wrs fun K hK => ?_;conv => whnf
 refine zc rfl (hI2 _ _) fun hs' hhs => ?_;try dsimp only at hhs
 conv => whnf
 refine hK _ ?_;clear hK K;refine wrs fun K hK => ?_;conv => whnf
 refine zc rfl (hS2 _ _) fun hs' hhs => ?_;try dsimp only at hhs
 conv => whnf
 refine hK _ ?_;clear hK K;refine wrs fun K hK => ?_;conv => whnf
 refine yz rfl (zbt hc) ?_;rintro lo3 hi3 hi3' z hk1 hk2 hk3 ⟨p3, L3, U, rfl, hp3, hL3, hU⟩ _;try dsimp only at hk1 hk2
 conv => whnf
 intro b_17 hs_17 hh_17 hf_17;try dsimp only at hh_17 hf_17
 conv => whnf
 refine ⟨s23, ?_⟩;conv => whnf
 refine hK _ ?_;clear hK K;obtain ⟨ip, e3, hS3, hI3⟩ := zcM p3 L3 U (by constructor <;> omega) (by omega) (by omega);refine wrs fun K hK => ?_;conv => whnf
 refine zc rfl (hI3 _ _) fun hs' hhs => ?_;try dsimp only at hhs
 conv => whnf
 refine hK _ ?_;clear hK K;refine wrs fun K hK => ?_;conv => whnf
 refine zc rfl (hS3 _ _) fun hs' hhs => ?_;try dsimp only at hhs
 conv => whnf
 refine hK _ ?_;clear hK K;refine W.seqK fun K1 hK1 => ?_;refine wrs fun K hK => ?_;conv => whnf
 refine ⟨fun hc0 => absurd hc0 (by simp), fun _ => ?_⟩;conv => whnf
 refine ⟨fun hc0 => absurd hc0 (by simp), fun _ => ?_⟩;conv => whnf
 refine ⟨fun hc0 => absurd hc0 (by simp), fun _ => ?_⟩;conv => whnf
 refine ⟨fun hc0 => absurd hc0 (by simp), fun _ => ?_⟩;conv => whnf
 refine ⟨fun hc0 => absurd hc0 (by simp), fun _ => ?_⟩;conv => whnf
 refine hK _ (W.cond ⟨fun hcc => absurd hcc (by simp), fun _ => W.skip (hK1 _ ?_)⟩);clear hK K hK1 K1;refine W.seqK fun K1 hK1 => ?_
 have fin : ∀ t : S, base <= t.hs -> zA t.env [(3, .ownB b_3 (vK p none L)), (4, .v (.ints none G)), (5, .v (.ints none X)), (6, .v (.int .i64 lg)), (7, .v (.int .i64 e1))] -> K1 t := by
  intro t h7 h8;refine hK1 _ (W.weak (t := ⟨[(3, .ownB b_3 (vK p none L)), (4, .v (.ints none G)), (5, .v (.ints none X)), (6, .v (.int .i64 lg)), (7, .v (.int .i64 e1))], base⟩) ⟨h7, h8⟩ (Nat.le_refl _) ?_);clear hK1 K1;refine W.seqK fun K1 hK1 => ?_;refine wrs fun K hK => ?_;conv => whnf
  refine hK _ (W.cond ⟨fun hz => ?_, fun hz => ?_⟩) <;> clear hK K
  ·refine wrs fun K hK => ?_;conv => whnf
   refine hK _ ?_;clear hK K;refine W.ret ?_;conv => whnf
   exact ⟨.v (.bool true), rfl, trivial, rfl⟩
  have hz : e1 = 0 := Decidable.of_not_not (of_decide_eq_false hz);refine W.skip (hK1 _ ?_);clear hK1 K1;obtain ⟨hpp, f, G, X, rfl, rfl, rfl, hk, hgl, hxl, m, rfl, hmq, hmx⟩ := hV1 hz;letI := yv hpp;have hf9 : dg f <= 9 := hk.mod.2.1;have ho := hk.ord;have hcz : jw p f.l G.l = 0 := zcN hk fun j hj => zks hpp f G hgl (by omega);have hXl : X.l.length = dg X := rfl;obtain ⟨R, e4, _, hI4, hR, _, hV4⟩ := jx p f.l G.l m hpR (by constructor <;> omega) (by omega) (by omega);obtain ⟨rfl, rfl⟩ := hV4 hpp f G rfl rfl hcz m rfl (by omega);rw [hmx] at hI4;subst hz;refine wrs fun K hK => ?_;conv => whnf
  refine zc rfl (RT.toV (hI4 _ _)) fun hs' hhs => ?_;try dsimp only at hhs
  conv => whnf
  refine hK _ ?_;clear hK K;refine wrs fun K hK => ?_;conv => whnf
  refine zc rfl (ze2 p _ f.l hk) fun hs' hhs => ?_;try dsimp only at hhs
  conv => whnf
  refine hK _ ?_;clear hK K;refine wrs fun K hK => ?_;conv => whnf
  refine ⟨fun _ => ?_, fun hc0 => absurd hc0 (by simp)⟩;conv => whnf
  refine zc rfl (zaU _ _ X.l (by omega)) fun hs' hhs => ?_;try dsimp only at hhs
  conv => whnf
  refine ⟨fun _ => ?_, fun hc0 => absurd hc0 (by simp)⟩;conv => whnf
  refine ⟨fun _ => ?_, fun hcc => absurd (of_decide_eq_false hcc) (by omega)⟩;conv => whnf
  refine ⟨oo, ?_⟩;conv => whnf
  refine hK _ ?_;clear hK K;refine W.ret ?_;conv => whnf
  exact ⟨.v (.bool true), decide_eq_true (by omega), trivial, rfl⟩
 refine wrs fun K hK => ?_;conv => whnf
 refine hK _ (W.cond ⟨fun hz => ?_, fun hz => ?_⟩) <;> clear hK K
 ·have hz : e2 = 0 := of_decide_eq_true hz;obtain ⟨hpp, f, H, rfl, rfl, hk, hhl, u, v, rfl, rfl, hu, hv, huv⟩ := hV2 hz;letI := yv hpp;have hf9 : dg f <= 9 := hk.mod.2.1;have h1f : 2 <= f.l.length := hk.two;have hfl : f.l.length = dg f := rfl;have hfi : Irr f := (znQ hpp hk)
  have hcz : jw p2 f.l H.l = 0 := zcN hk fun j hj => zks hpp f H hhl (by omega);have hPd (k : Nat) : dg (rem (H ^ k) f) < dg f := zM _ hfi.ne;have hPl (k : Nat) : (rem (H ^ k) f).l.length = dg (rem (H ^ k) f) := rfl;have hPu := hPd u;have hPv := hPd v;have hPlu := hPl u;have hPlv := hPl v;obtain ⟨R, e4, _, hI4, hR, _, hV4⟩ := jx p2 f.l H.l u hpR2 (by constructor <;> omega) (by omega) (by omega);obtain ⟨rfl, rfl⟩ := hV4 hpp f H rfl rfl hcz u rfl (by omega);obtain ⟨R2, e5, _, hI5, hR2, _, hV5⟩ := jx p2 f.l H.l v hpR2 (by constructor <;> omega) (by omega) (by omega);obtain ⟨rfl, rfl⟩ := hV5 hpp f H rfl rfl hcz v rfl (by omega);have hca : zq p2 f.l true 2 (two (rem (H ^ u) f).l (1 : Poly p2).l) = 0 := zcN hk fun i _ => by unfold two; split; exact zks hpp f _ hPu (by omega); exact zks hpp f 1 (by rw [yl]; omega) (by omega)
  obtain ⟨A, e6, _, hI6, _, he6, hV6⟩ := zfh p2 f.l (rem (H ^ u) f).l (1 : Poly p2).l hpR2 (by omega) (by omega) (by rw [zaT]; simp);obtain rfl : e6 = 0 := he6.trans hca;obtain rfl := hV6 hpp f (rem (H ^ u) f) 1 rfl rfl rfl hca;rw [show rem (H ^ u) f + 1 = 1 + rem (H ^ u) f from zg [rem (H ^ u) f] (by rfl), huv, zaT] at hI6;subst hz;refine wrs fun K hK => ?_;conv => whnf
  refine zc rfl (RT.toV (hI4 _ _)) fun hs' hhs => ?_;try dsimp only at hhs
  conv => whnf
  refine hK _ ?_;clear hK K;refine wrs fun K hK => ?_;conv => whnf
  refine ⟨⟨rfl, by decide⟩, ?_⟩;conv => whnf
  intro b_32 hs_32 hh_32 hf_32;try dsimp only at hh_32 hf_32
  conv => whnf
  refine zc rfl (RT.toV (hI6 _ _ _)) fun hs' hhs => ?_;try dsimp only at hhs
  conv => whnf
  refine hK _ ?_;clear hK K;refine wrs fun K hK => ?_;conv => whnf
  refine zc rfl (RT.toV (hI5 _ _)) fun hs' hhs => ?_;try dsimp only at hhs
  conv => whnf
  refine hK _ ?_;clear hK K;refine wrs fun K hK => ?_;conv => whnf
  refine ⟨fun hc0 => absurd hc0 (by simp), fun _ => ?_⟩;conv => whnf
  refine ⟨fun hc0 => absurd hc0 (by simp), fun _ => ?_⟩;conv => whnf
  refine ⟨fun hc0 => absurd hc0 (by simp), fun _ => ?_⟩;conv => whnf
  refine zc rfl (zaU _ _ (rem (H ^ v) f).l (by omega)) fun hs' hhs => ?_;try dsimp only at hhs
  conv => whnf
  refine hK _ (W.condF rfl (W.skip (fin _ (by dsimp only; omega) ?_)));exact cvr
 ·refine W.skip (fin _ (by dsimp only; omega) ?_);exact cvr

open Go Go.RowKit Go.ChangeShapes Go.WideShapes Go.ChangeAt Go.Proofs Go.Proofs.YtlmckocbhcpmdaaGreat

set_option maxRecDepth 100000 in
theorem liftedLogs (H : Type) (enc : TypeId × Value -> H) (os : Os) (started : os.Started) :
  ReturnsInHanded {} Tryz.checked os 8 .any (Rows.fnLogsSpec.pre6 enc Tryz.prog Tryz.f8 Rows.fnLogsRow.domain false) (Rows.fnLogsSpec.post enc Tryz.prog Tryz.f8 false true false false) := by
 refine zja (C := Tryz.checked) (tb := 4) ownP started (by kernel_rfl) Tryz.func8 zm7 ?_ rfl (by kernel_rfl) Tryz.underlying4 ?_
  (ChangeSpec.witness6 (enc := enc) (C := Tryz.checked) false ⟨#[], #[.slice none 0 0], []⟩ 8 (by kernel_rfl) (by kernel_rfl) (by kernel_rfl) (by kernel_rfl)) ?_
 ·rw [Tryz.params8];intro t ht;simp only [List.mem_singleton] at ht
  subst ht;exact ⟨by kernel_rfl, of_decide_eq_true (by kernel_rfl)⟩
 ·intro ds hds
  match ds, hds with
  | [d0], _ => exact ⟨rfl, rfl, rfl⟩
 ·intro W args ds ps hval hA;have hval' : ∀ (j : Nat) t v, Tryz.f8.params[j]? = some t -> args[j]? = some v -> ∃ base, Value.okWide Tryz.prog W .any base t v := hval;rw [Tryz.params8] at hA hval';obtain ⟨v0, d0, hv, rfl, h0⟩ := trodAll_one hA;subst hv;obtain ⟨_, hv0⟩ := hval' 0 22 v0 rfl rfl;obtain ⟨a0, len0, cap0, rfl⟩ := okWide_slice Tryz.underlying22 hv0;obtain ⟨x0, hx0, hr0⟩ := zl1 zjO h0 (by simp);obtain ⟨n, c, hb, _, hr⟩ := zm9 hx0;refine zna (lawLogs (n := n) (c := c) hb) rfl fun j hj => ?_;obtain rfl : j = 0 := by simpa using hj
  exact hr _ _ _ hr0

theorem joinedLogsa : (Rows.fnLogsRow.inPlace == Tryz.checked.prog.inPlace 8) = true := by kernel_rfl
theorem joinedLogsb : (Rows.fnLogsRow.unfollowed == Tryz.checked.prog.unfollowed 8) = true := by kernel_rfl
theorem joinedLogsc : (Rows.fnLogsRow.recurses == Tryz.checked.prog.recurses 8) = true := by kernel_rfl
theorem joinedLogsd : (Rows.fnLogsRow.named == Tryz.checked.prog.varsNamed 8) = true := by kernel_rfl
theorem joinedLogs : joinedFacts Tryz.checked.prog 8 Tryz.f8 Rows.fnLogsSpec Rows.fnLogsRow = true := by
 unfold joinedFacts;rw [zoi, zoD, zoE, joinedLogsa, joinedLogsb, joinedLogsc, joinedLogsd]
 kernel_rfl
theorem instLogs : Tryz.f8.isInstance Tryz.checked.prog Rows.fnLogsRow.origin Rows.fnLogsRow.targs := of_decide_eq_true (by kernel_rfl)

theorem claimLogs : Rows.FnLogsSaid :=
 OpenClaim.holds_of_wide (p := Tryz.pinned) (s := Rows.fnLogsSpec) (c := Rows.fnLogsRow) 8 Tryz.f8 rfl rfl rfl rfl rfl rfl rfl ⟨rfl, rfl, rfl, rfl, rfl⟩ rfl rfl rfl rfl rfl (by kernel_rfl) Tryz.func8 joinedLogs
  instLogs (by unfold Func.isWrapper; first | (rw [if_pos (by decide +kernel)]; kernel_rfl) | (rw [if_neg (by decide +kernel)]; exact ⟨rfl, rfl⟩))
  (fun os started H enc _ => liftedLogs H enc os started)

end Go.Proofs.YtlmckocbhcpmdaaGreat
