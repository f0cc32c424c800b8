/- An evaluator of the model's code over plain values, and that it is sound. No conditions. -/
import Derived.Test.YtffhmebkkbfaeaaPa
import Derived.Laws.CopyRow
import Derived.Deep.LoopGhost
import Derived.KernelRfl
import Derived.Orders
namespace Go.Proofs.Ytffhmebkkbfaeaa
open Go Go.RowKit

section
variable {P : Program} {cx : Cx} {D : Nat -> Prop} {w0 : World} {N : Nat} {hs : Nat} {a : Act} {w w' : World} {K : S -> Prop} {next : Act -> World -> Prop} {Q : Exit -> Act -> World -> Prop} {o : Oper} {d : Nat} {e : Env}

theorem zhI {t el : TypeId} {ti : TI} {tj : TI} {b oo n cap : Nat} {m : Int} (hti : xq P t ti) (hk : ti.kind = .slice el) (htj : xq P el tj) (hm : idx m n) :
  (Instr.indexAt t (.slice (some ⟨b, oo, none⟩) n cap) (.int .i64 m)).run P w = .ok (.pointer (some ⟨b, oo + m.toNat * tj.size, none⟩)) w := by
 obtain ⟨i, dd, hi1, hi2, _, _, _, _, _, _, _, hkind⟩ := hti;rw [hk] at hkind;obtain ⟨rfl, _⟩ := hkind;obtain ⟨j, dj, hj1, hj2, hj3, _⟩ := htj;have hb : 0 <= m ∧ m < (n : Int) := hm;simp [Instr.indexAt, asIntOf, run_underlying hi2, hb.1, hb.2, sizeOf, typeInfo, hj1, hj3, yp]

theorem zax {m : Int} {n : Nat} (h : idx m n) : m.toNat < n := by obtain ⟨h1, h2⟩ := h; omega

theorem xT {e : Env} (r : R D w0 N (get e) hs a w) {x : Operand} {C : Nat -> AV -> Prop} (h : xC e x C) : ∃ s, C s (get e s) ∧ a.eval x = tv a s := by
 cases x with
 | tmp t =>
  simp only [xC, zb] at h
  cases ht : get e t with
  | al s =>
   rw [ht] at h;have := r.slots t;rw [ht] at this;exact ⟨s, h, this⟩
  | _ => rw [ht] at h; exact ⟨t, by rw [ht]; exact h, rfl⟩
 | _ => exact h.elim

theorem zbj (hcx : OkCx P cx) {t : Nat} {x i : Operand} (ho : o.dst = some d) (hop : o.op = .indexAddr t x i) (hd : d < N) (hx : Nx D w0 N K next) (r : R D w0 N (get e) hs a w)
  (h : kg cx K d t x i e hs) : o.wp P a w next Q := by
 obtain ⟨ti, hti, h1⟩ := zf hcx.tt h;cases hk : ti.kind with
 | slice el =>
  rw [hk] at h1;obtain ⟨tj, htj, h2⟩ := zf hcx.tt h1;obtain ⟨vi, h3, hri⟩ := zA r h2;cases vi with
  | int k m =>
   cases k <;> first | exact h3.elim | skip
   have hvi := zJ hri;obtain ⟨s, h4, hv⟩ := xT r h3
   have go : ∀ {b oo n cap : Nat} {z : AV}, tv a s = .slice (some ⟨b, oo, none⟩) n cap -> idx m n -> z.free = true ->
     AVR (okF D (zj (get e) (tv a)) w.heap.size) w.heap (get e) (tv a) z (.pointer (some ⟨b, oo + m.toNat * tj.size, none⟩)) -> K1 K hs d e z -> o.wp P a w next Q := by
    intro b oo n cap z hts hm hrb hav hK;have hrun := zhI (P := P) (w := w) (b := b) (oo := oo) (cap := cap) hti hk htj hm;refine zk (w' := w) (v := .pointer (some ⟨b, oo + m.toNat * tj.size, none⟩)) ho ?_ (zh hx r hd hK hrb hav);simp [execOp, hop, hv, hvi, hts, hrun]
   have hss := r.slots s;cases has : get e s with
   | ownI el' b xs =>
    rw [has] at h4 hss;simp only at h4
    cases hc : Nat.beq tj.size 1
    ·rw [hc, cond_false] at h4; exact h4.elim
    rw [hc, cond_true] at h4;have hsz := Nat.eq_of_beq_eq_true hc;obtain ⟨hm, h5⟩ := h4;obtain ⟨cap, cur, hvs, _⟩ := zK.real hss (zax hm);refine go (z := .pl s m.toNat 0) hvs hm rfl ⟨⟨_, _, rfl⟩, λq hq => ?_⟩ h5;rw [has] at hq;simp only [AV.shape, Option.some.injEq] at hq
    subst hq;refine ⟨zax hm, λb' hb' => ?_⟩;rw [has, show tv a s = _ from hvs] at hb';obtain rfl : b' = b := hb';simp [hsz]
   | ownV el' sz b n f =>
    rw [has] at h4 hss;simp only at h4
    cases hc : Nat.beq sz tj.size
    ·rw [hc, cond_false] at h4; exact h4.elim
    rw [hc, cond_true] at h4;have hsz := Nat.eq_of_beq_eq_true hc;obtain ⟨hm, h5⟩ := h4;obtain ⟨_, cells, hO, _⟩ := hss;obtain ⟨cap, cur, hvs, _⟩ := hO.real (zax hm);refine go (z := .pl s m.toNat 0) hvs hm rfl ⟨⟨_, _, rfl⟩, λq hq => ?_⟩ h5;rw [has] at hq;simp only [AV.shape, Option.some.injEq] at hq
    subst hq;refine ⟨zax hm, λb' hb' => ?_⟩;rw [has, show tv a s = _ from hvs] at hb';obtain rfl : b' = b := hb';simp [hsz]
   | v y =>
    rw [has] at h4 hss;have hry : Rep _ _ y (tv a s) := hss;cases y with
    | ints g xs =>
     simp only at h4
     cases hc : Nat.beq tj.size 1
     ·rw [hc, cond_false] at h4; exact h4.elim
     rw [hc, cond_true] at h4;have hsz := Nat.eq_of_beq_eq_true hc;obtain ⟨hm, h5⟩ := h4;generalize hvv : tv a s = vv at hry;cases hry with
     | ints g xs ad cap hcap hmx hxs =>
      obtain ⟨b, oo, cur, el', fr, h6, h7, h8, h9⟩ := hxs m.toNat (zax hm);subst h6;refine go (z := .pv (.int .i64 (xs.getD m.toNat 0)) 0) hvv hm rfl ⟨rfl, oo + m.toNat * tj.size, ⟨b, rfl⟩, λj hj => ?_⟩ h5;simp only [V.cells, List.length_cons, List.length_nil] at hj
      have : j = 0 := by omega
      subst this;exact ⟨b, g, cur, el', fr, _, rfl, h7, h8, by rw [hsz, Nat.mul_one, Nat.add_zero]; exact h9, .int _ _⟩
    | vals g sz n f =>
     simp only at h4
     cases hc : Nat.beq sz tj.size
     ·rw [hc, cond_false] at h4; exact h4.elim
     rw [hc, cond_true] at h4;have hsz := Nat.eq_of_beq_eq_true hc;obtain ⟨hm, h5⟩ := h4;generalize hvv : tv a s = vv at hry;cases hry with
     | vals g sz n f ad cap hcap hmx hl hf c hxs hr =>
      have hlt := zax hm;have hpos : 0 < sz := by rw [hsz]; obtain ⟨_, _, _, _, _, _, _, hp, _⟩ := htj; exact hp
      obtain ⟨b, oo, cur, el', fr, h6, h7, h8, h9⟩ := hxs m.toNat 0 hlt hpos;subst h6;refine go (z := .pv (f m.toNat) 0) hvv hm rfl ⟨hf _ hlt, oo + m.toNat * tj.size, ⟨b, rfl⟩, λj hj => ?_⟩ h5;rw [hl _ hlt] at hj;obtain ⟨b', oo', cur', el'', fr', h6', h7', h8', h9'⟩ := hxs m.toNat j hlt hj;simp only [Option.some.injEq, Addr.mk.injEq, and_true] at h6'
      obtain ⟨rfl, rfl⟩ := h6';exact ⟨b, g, cur', el'', fr', _, rfl, h7', h8', by rw [<- hsz, Nat.add_assoc]; exact h9', hr _ _ hlt hj⟩
    | rf b n =>
     simp only at h4
     cases hc : Nat.beq tj.size 1
     ·rw [hc, cond_false] at h4; exact h4.elim
     rw [hc, cond_true] at h4;have hsz := Nat.eq_of_beq_eq_true hc;obtain ⟨hm, h5⟩ := h4;generalize hvv : tv a s = vv at hry;cases hry with
     | rf0 b ad cap hcm => exact absurd hm.2 (by have := hm.1; omega)
     | rf b n c hn hcc =>
      refine go (z := .pr b m.toNat) hvv hm rfl ?_ h5;show Value.pointer (some ⟨b, 0 + m.toNat * tj.size, none⟩) = Value.pointer (some ⟨b, m.toNat, none⟩)
      rw [hsz, Nat.zero_add, Nat.mul_one]
    | _ => exact h4.elim
   | _ => rw [has] at h4; exact h4.elim
  | _ => exact h3.elim
 | _ => rw [hk] at h1; exact h1.elim

theorem vK {e : Env} (r : R D w0 N (get e) hs a w) {x : Option Operand} {z : Int} {C : Int -> Prop} (h : zhx e x z C) : ∃ n, C n ∧ ((x = none ∧ n = z) ∨ ∃ y, x = some y ∧ a.eval y = .int .i64 n) := by
 cases x with
 | none => exact ⟨z, h, .inl ⟨rfl, rfl⟩⟩
 | some y =>
  obtain ⟨v, h1, h2⟩ := zA r h;cases v with
  | int k n => cases k <;> first | exact h1.elim | exact ⟨n, h1, .inr ⟨y, rfl, zJ h2⟩⟩
  | _ => exact h1.elim

theorem zay {m : Int} {n : Nat} {c : BoundsCode} (h1 : 0 <= m) (h2 : m <= n) : (Instr.sliceBound (.int .i64 m) n c).run P w = .ok m.toNat w := by
 simp [Instr.sliceBound, asIntOf, h1, h2]

theorem zaz {t el : TypeId} {ti tj : TI} {ad : Option Addr} {n cap : Nat} {lo hi : Option Value} {l h : Int} (hti : xq P t ti) (hk : ti.kind = .slice el) (htj : xq P el tj)
  (hlo : (lo = none ∧ l = 0) ∨ lo = some (.int .i64 l)) (hhi : (hi = none ∧ h = n) ∨ hi = some (.int .i64 h)) (h0 : 0 <= l) (h1 : l <= h) (h2 : h <= n) (h3 : n <= cap) :
  (Instr.sliceAt t (.slice ad n cap) lo hi none).run P w = .ok (.slice (if cap = l.toNat then ad else ad.map (·.add (l.toNat * tj.size))) (h.toNat - l.toNat) (cap - l.toNat)) w := by
 obtain ⟨i, dd, hi1, hi2, _, _, _, _, _, _, _, hkind⟩ := hti;rw [hk] at hkind;obtain ⟨rfl, _⟩ := hkind;obtain ⟨j, dj, hj1, hj2, hj3, _⟩ := htj
 have hb1 : (Instr.sliceBounds true n cap lo hi none).run P w = .ok (l.toNat, h.toNat, cap) w := by
  have hB : ∀ c, (Instr.sliceBound (.int .i64 h) cap c).run P w = .ok h.toNat w := λc => zay (by omega) (by omega);have hL : ∀ c m', h.toNat = m' -> (Instr.sliceBound (.int .i64 l) m' c).run P w = .ok l.toNat w := λc m' e => zay h0 (by omega);rcases hlo with ⟨rfl, rfl⟩ | rfl <;> rcases hhi with ⟨rfl, rfl⟩ | rfl
  ·simp [Instr.sliceBounds]
  ·simp [Instr.sliceBounds, hB]
  ·have := hL .sliceB n (by omega);simp [Instr.sliceBounds, this]
  ·have := hL .sliceB h.toNat rfl;simp [Instr.sliceBounds, hB, this]
 simp [Instr.sliceAt, Instr.slice, run_underlying hi2, hb1, sizeOf, typeInfo, hj1, hj3]

theorem zf9 {t el : TypeId} {ti tj : TI} {ad : Option Addr} {n cap : Nat} (hti : xq P t ti) (hk : ti.kind = .slice el) (htj : xq P el tj) :
  (Instr.sliceAt t (.slice ad n cap) none (some (.int .i64 0)) (some (.int .i64 0))).run P w = .ok (.slice ad 0 0) w := by
 obtain ⟨i, dd, hi1, hi2, _, _, _, _, _, _, _, hkind⟩ := hti;rw [hk] at hkind;obtain ⟨rfl, _⟩ := hkind;obtain ⟨j, dj, hj1, hj2, hj3, _⟩ := htj;have hB : ∀ c m, (Instr.sliceBound (.int .i64 0) m c).run P w = .ok 0 w := λc m => zay (by omega) (by omega);simp [Instr.sliceAt, Instr.slice, run_underlying hi2, Instr.sliceBounds, hB, sizeOf, typeInfo, hj1]

theorem zeQ (hcx : OkCx P cx) {t : Nat} {x : Operand} {lo hi mx : Option Operand} (ho : o.dst = some d) (hop : o.op = .slice t x lo hi mx) (hd : d < N) (hx : Nx D w0 N K next) (r : R D w0 N (get e) hs a w)
   (h : zeB cx K d t x lo hi mx e hs) : o.wp P a w next Q := by
 obtain ⟨ti, hti, h1⟩ := zf hcx.tt h;cases hk : ti.kind with
 | slice el =>
   rw [hk] at h1;obtain ⟨tj, htj, h2⟩ := zf hcx.tt h1;obtain ⟨e', y, h3, r', hr, _⟩ := vI r h2
   by_cases hrf : ∃ b n, y = .rf b n
   · obtain ⟨b, n, rfl⟩ := hrf
     have h3 : ziC K hs d tj.size e' b n lo hi mx := h3;unfold ziC at h3
     split at h3
     · cases hcb : Nat.beq tj.size 1
       · rw [hcb, cond_false] at h3; exact h3.elim
       rw [hcb, cond_true] at h3;have hsz := Nat.eq_of_beq_eq_true hcb;obtain ⟨l, h5, hlo⟩ := vK r' h3;obtain ⟨hh, h6, hhi⟩ := vK r' h5;obtain ⟨⟨hb0, hb1, hb2⟩, h7⟩ := h6;generalize hv : a.eval x = v at hr;cases hr with
       | rf0 => omega
       | rf _ _ c h8 h9 =>
         have hrun := zaz (P := P) (w := w) (ad := some ⟨b, 0, none⟩) (n := n) (cap := c + 1) (lo := lo.map a.eval) (hi := hi.map a.eval) hti hk htj
           (by rcases hlo with ⟨rfl, rfl⟩ | ⟨z, rfl, hz⟩
               · exact .inl ⟨rfl, rfl⟩
               · exact .inr (by simp [hz]))
           (by rcases hhi with ⟨rfl, rfl⟩ | ⟨z, rfl, hz⟩
               · exact .inl ⟨rfl, rfl⟩
               · exact .inr (by simp [hz])) hb0 (by omega) hb2 h8
         have hadd : ((some (⟨b, 0, none⟩ : Addr)).map (·.add (l.toNat * tj.size))) = some ⟨b, l.toNat, none⟩ := by simp [yp, hsz]
         rw [if_neg (by omega), hadd] at hrun;refine zk (w' := w) ho (by simp only [execOp, hop, hv]; simp [hrun]; rfl) ?_;refine zh hx r' hd (x := .sl b l.toNat (hh.toNat - l.toNat)) h7 rfl ?_;exact ⟨c + 1 - l.toNat, by omega, by omega, rfl⟩
     · exact h3.elim
   have h3 : zfY tj.size e' y lo hi mx λy => K1 K hs d e' (.v y) := by
     cases y <;> first | exact h3 | exact absurd ⟨_, _, rfl⟩ hrf
   unfold zfY at h3
   split at h3
   · -- two indexes
     obtain ⟨ad, n, cap, hv, h4⟩ := zbs hr h3;obtain ⟨l, h5, hlo⟩ := vK r' h4;obtain ⟨hh, h6, hhi⟩ := vK r' h5;obtain ⟨⟨hb0, hb1, hb2⟩, h7⟩ := h6
     have hcap : n <= cap := by
       rw [hv] at hr;cases hr with
       | wh _ _ _ _ ho _ => rcases ho.2 with ⟨_, h, _⟩ | ⟨_, _, h, _, hle, _⟩ <;> (injection h with _ h2 h3; omega)
       | _ => first | assumption | exact Nat.le_refl _ | exact Nat.zero_le _
     have hrun := zaz (P := P) (w := w) (ad := ad) (lo := lo.map a.eval) (hi := hi.map a.eval) hti hk htj
       (by rcases hlo with ⟨rfl, rfl⟩ | ⟨z, rfl, hz⟩
           · exact .inl ⟨rfl, rfl⟩
           · exact .inr (by simp [hz]))
       (by rcases hhi with ⟨rfl, rfl⟩ | ⟨z, rfl, hz⟩
           · exact .inl ⟨rfl, rfl⟩
           · exact .inr (by simp [hz])) hb0 hb1 hb2 hcap
     refine zk (w' := w) ho (by simp only [execOp, hop, hv]; simp [hrun]; rfl) ?_;have hadd : ∀ b oo, ((some (⟨b, oo, none⟩ : Addr)).map (·.add (l.toNat * tj.size))) = some ⟨b, oo + l.toNat * tj.size, none⟩ := λb oo => by simp [yp]
     rw [hv] at hr;cases hr with
     | nil =>
       have hl0 : l = 0 := by omega
       have hh0 : hh = 0 := by omega
       subst hl0 hh0;exact zh hx r' hd (x := .v .nil) h7 rfl (.nil _)
     | ints g xs _ _ hc hmx hxs =>
       simp only at h7
       cases hcb : Nat.beq tj.size 1
       · rw [hcb, cond_false] at h7; exact h7.elim
       rw [hcb, cond_true] at h7;have hsz := Nat.eq_of_beq_eq_true hcb;refine zh hx r' hd (x := .v _) h7 rfl ?_;have hlen : ((xs.take hh.toNat).drop l.toNat).length = hh.toNat - l.toNat := by simp; omega
       show Rep _ _ _ _
       rw [<- hlen];refine .ints g _ _ _ (by rw [hlen]; omega) (by omega) λj hj => ?_;rw [hlen] at hj;obtain ⟨b, oo, cur, el', fr, h8, h9, h10, h11⟩ := hxs (l.toNat + j) (by omega);subst h8;refine ⟨b, oo + l.toNat * tj.size, cur, el', fr, ?_, h9, h10, ?_⟩
       · rw [if_neg (by omega), hadd]
       · rw [hsz, Nat.mul_one, Nat.add_assoc, h11, List.getD_eq_getElem?_getD, List.getD_eq_getElem?_getD, List.getElem?_drop, List.getElem?_take_of_lt (by omega)]
     | vals g sz _ f _ _ hc hmx hl hf c hxs hrr =>
       simp only at h7
       cases hcb : Nat.beq tj.size sz
       · rw [hcb, cond_false] at h7; exact h7.elim
       rw [hcb, cond_true] at h7;have hsz := Nat.eq_of_beq_eq_true hcb;refine zh hx r' hd (x := .v _) h7 rfl ?_;have hlen : (hh - l).toNat = hh.toNat - l.toNat := by omega
       show Rep _ _ _ _
       rw [<- hlen];refine .vals g sz _ _ _ _ (by omega) (by omega) (λi hi => hl _ (by omega)) (λi hi => hf _ (by omega)) (λi j => c (l.toNat + i) j) (λi j hi hj => ?_) (λi j hi hj => hrr _ _ (by omega) hj);obtain ⟨b, oo, cur, el', fr, h8, h9, h10, h11⟩ := hxs (l.toNat + i) j (by omega) hj;subst h8;refine ⟨b, oo + l.toNat * tj.size, cur, el', fr, ?_, h9, h10, ?_⟩
       · rw [if_neg (by omega), hadd]
       · rw [hsz, show oo + l.toNat * sz + (i * sz + j) = oo + ((l.toNat + i) * sz + j) by rw [Nat.add_mul]; omega]; exact h11
     | _ => exact h7.elim
   · -- s[:0:0]
     split at h3
     · obtain ⟨ad, n, cap, hv, h4⟩ := zbs hr h3
       have hrun := zf9 (P := P) (w := w) (ad := ad) (n := n) (cap := cap) hti hk htj;refine zk (w' := w) (v := .slice ad 0 0) ho ?_ (zh hx r' hd (x := .v .nil) h4 rfl (.nil _));simp only [execOp, hop, hv]
       simp [Act.eval, hrun]
     · exact h3.elim
   · exact h3.elim
 | _ => rw [hk] at h1; exact h1.elim


theorem zhJ (hcx : OkCx P cx) {t : Nat} {x hi : Operand} (ho : o.dst = some d) (hop : o.op = .slice t x none (some hi) none) (hd : d < N) (hx : Nx D w0 N K next) (r : R D w0 N (get e) hs a w)
  (h : cutK cx K d t x hi e hs) : o.wp P a w next Q := by
 obtain ⟨ti, hti, h1⟩ := zf hcx.tt h;cases hk : ti.kind with
 | slice el =>
  rw [hk] at h1;obtain ⟨tj, htj, h2⟩ := zf hcx.tt h1;obtain ⟨m, h3, hhi⟩ := vK r h2;obtain ⟨s, h4, hev⟩ := xT r h3
  have hm : a.eval hi = .int .i64 m := by
   rcases hhi with ⟨h5, _⟩ | ⟨z, h5, hz⟩
   ·cases h5
   ·injection h5 with h5; subst h5; exact hz
  cases hg : get e s with
  | ownV el' sz b n f =>
   rw [hg] at h4;obtain ⟨⟨hsz, hm1, hm2⟩, h5⟩ := h4;rw [zr] at h5;have hs1 := r.slots s;rw [hg] at hs1;obtain ⟨hpos, cells, ⟨hcl, hv⟩, hre⟩ := hs1;rcases hv with ⟨ad, hv, hn⟩ | ⟨cap, cur, hv, hh, hnc, hcm, hcs, hct⟩
   ·omega
   ·have hrun := zaz (P := P) (w := w) (ad := some ⟨b, 0, none⟩) (n := n) (cap := cap + 1) (lo := none) (hi := some (.int .i64 m)) (l := 0) (h := m) hti hk htj (.inl ⟨rfl, rfl⟩) (.inr rfl) (by omega) (by omega) hm2 hnc;have hadd : ((some (⟨b, 0, none⟩ : Addr)).map (·.add ((0 : Int).toNat * tj.size))) = some ⟨b, 0, none⟩ := by simp [yp]
    rw [if_neg (by simp), hadd] at hrun;have e0 : (a.eval x) = .slice (some ⟨b, 0, none⟩) n (cap + 1) := hev.trans hv;refine zk (w' := w) (v := .slice (some ⟨b, 0, none⟩) m.toNat (cap + 1)) ho (by simp only [execOp, hop, e0]; simp [hm, hrun]) ?_;rw [kM] at h5;refine hx _ _ _ ?_ h5;show R D w0 N (get (put (vZ d (put e s .dead)) d (.ownV el' sz b m.toNat f))) hs _ _
    rw [zd, yd, zd];have hmn : m.toNat * sz <= n * sz := Nat.mul_le_mul_right _ (by omega)
    refine r.setOwn (s := s) (d := d) (x := .ownV el' sz b m.toNat f) (v := .slice (some ⟨b, 0, none⟩) m.toNat (cap + 1)) none (World.grownBy_refl w none) r.hs2 r.hs1 hd (by simp)
     (λb' hb => .inl (by rw [hg, show tv a s = _ from hv]; exact hb)) (λ_ => rfl) ⟨hpos, cells.take (m.toNat * sz), ⟨by rw [List.length_take, hcl]; omega, .inr ⟨cap, cur, rfl, hh, by omega, hcm, hcs, by rw [<- hct, List.take_take, Nat.min_eq_left hmn]⟩⟩, λi hi => hre.1 i (by omega), λi j hi hj => ?_⟩
    obtain ⟨c, hc1, hc2⟩ := hre.2 i j (by omega) hj
    have hlt : i * sz + j < m.toNat * sz := by
     have := Nat.mul_le_mul_right sz (show i + 1 <= m.toNat by omega);rw [Nat.add_mul, Nat.one_mul] at this;omega
    exact ⟨c, by rw [List.getElem?_take, if_pos hlt]; exact hc1, hc2⟩
  | _ => rw [hg] at h4; exact h4.elim
 | _ => rw [hk] at h1; exact h1.elim
theorem zdP (hcx : OkCx P cx) {t : Nat} {x : Operand} {lo hi mx : Option Operand} (ho : o.dst = some d) (hop : o.op = .slice t x lo hi mx) (hd : d < N) (hx : Nx D w0 N K next) (r : R D w0 N (get e) hs a w)
  (h : zdK cx K d t x lo hi mx e hs) : o.wp P a w next Q := by
 unfold zdK at h
 split at h
 ·exact zhJ hcx ho hop hd hx r h
 ·exact zeQ hcx ho hop hd hx r h

end
open Go Go.RowKit

section
variable {P : Program} {cx : Cx} {D : Nat -> Prop} {w0 : World} {N : Nat} {hs : Nat} {a : Act} {w w' : World} {K : S -> Prop} {next : Act -> World -> Prop} {Q : Exit -> Act -> World -> Prop} {o : Oper} {d : Nat} {e : Env}

theorem jS {f : Nat} {vs : Array Value} (h : xN P f) : (callFunc f vs).run P w = .ok (.enter f vs) w := by
 obtain ⟨fn, h1, h2, h3⟩ := h;have h4 : fn.body.isNone = false := by cases hb : fn.body <;> simp_all
 simp only [callFunc, Sem.run_bind, run_program, Result.andThen_ok, h1, h3, h4, Bool.false_eq_true, if_false, Sem.run_pure]

theorem jA {tt : TT} (ht : zdM P tt) {k : Nat} : ∀ {os : List Operand} {ts : List Nat} {j0 : Nat} {e : Env} {C : Env -> List V -> Prop}, R D w0 N (get e) hs a w -> zbI tt k e j0 os ts C ->
  ∃ e' xs, C e' xs ∧ R D w0 N (get e') hs a w ∧ xs.length = os.length ∧ (∀ j, j < os.length -> j0 + j ≠ k -> Rep (okF D (zj (get e') (tv a)) w.heap.size) w.heap (xs.getD j .nil) ((os.map a.eval).getD j undef)) ∧
   ∀ b, zj (get e') (tv a) b -> zj (get e) (tv a) b
 | [], ts, j0, e, C, r, hc => ⟨e, [], hc, r, rfl, λj hj => by simp at hj, λ_ h => h⟩
 | o :: os, [], j0, e, C, r, hc => hc.elim
 | o :: os, t :: ts, j0, e, C, r, hc => by
  simp only [zbI] at hc
  cases hb : Nat.beq j0 k
  ·rw [hb, cond_false] at hc;obtain ⟨e1, x, h1, r1, hr1, ho1⟩ := vI r hc;obtain ⟨y, h2, hr2⟩ := vg ht hr1 h1;obtain ⟨e2, xs, h3, r2, hl, hr3, ho2⟩ := jA ht (C := λe xs => C e (y :: xs)) r1 h2;refine ⟨e2, y :: xs, h3, r2, by simp [hl], λj hj hjk => ?_, λb hb => ho1 b (ho2 b hb)⟩;cases j with
   | zero => exact hr2.mono λg b hb => ⟨yo ho2 hb, rfl⟩
   | succ j => simpa using hr3 j (by simpa using hj) (by omega)
  ·rw [hb, cond_true] at hc;obtain ⟨e2, xs, h3, r2, hl, hr3, ho2⟩ := jA ht (C := λe xs => C e (.nil :: xs)) r hc;have := Nat.eq_of_beq_eq_true hb;refine ⟨e2, .nil :: xs, h3, r2, by simp [hl], λj hj hjk => ?_, ho2⟩;cases j with
   | zero => exact absurd (by omega) hjk
   | succ j => simpa using hr3 j (by simpa using hj) (by omega)

theorem zbZ (a : Act) : ∀ (os : List Operand) (k : Nat), k < os.length -> (os.map a.eval).getD k undef = a.eval (zeC os k)
 | o :: os, 0, _ => rfl
 | o :: os, k + 1, h => by simpa [zeC] using zbZ a os k (by simpa using h)
 | [], k, h => by simp at h
theorem zeR : ∀ (os : List Operand) (k : Nat), os.length <= k -> zeC os k = .const undef
 | [], k, _ => by cases k <;> rfl
 | o :: os, 0, h => by simp at h
 | o :: os, k + 1, h => zeR os k (by simpa using h)

theorem zaX {x : AV} (h : x.own = true) (t : Nat) : x.touches t = false := by cases x <;> simp_all [AV.own, AV.touches]
theorem jB {x : AV} (h : x.tabOk = true) (t : Nat) : x.touches t = false := by cases x <;> simp_all [AV.tabOk, AV.touches]
theorem zaY {x : AV} (h : x.isRes = true) (t : Nat) : x.touches t = false := by cases x <;> simp_all [AV.isRes, AV.touches]
theorem zdQ {x : AV} (h : x.tabOk = true) (v v' : Value) (b : Nat) (hb : rb x v b) : rb x v' b := by
 cases x <;> simp_all [AV.tabOk, rb]
theorem zhK {x : AV} (h : x.tabOk = true) : x.shape = none := by cases x <;> simp_all [AV.tabOk, AV.shape]
theorem yi {x x' : AV} (h : v2 x x') (t : Nat) : x'.touches t = false := by
 rcases h with rfl | ⟨h, _⟩
 ·rfl
 ·exact zaX h t

theorem xJ {vs : Array Value} {v : Value} {j : Nat} : (vs.push v).getD j undef = if j = vs.size then v else vs.getD j undef := by
 simp only [Array.getD_eq_getD_getElem?, Array.getElem?_push]
 split <;> rfl

theorem zeS (hcx : OkCx P cx) {f k : Nat} {args : List Operand} {ts : List Nat} (ho : o.dst = some d) (hop : o.op = .call ⟨.value (.func f), ⟨args⟩, ⟨ts⟩⟩) (hd : d < N) (hx : Nx D w0 N K next) (r : R D w0 N (get e) hs a w)
   (h : ziF cx K d f args ts k e hs) : o.wp P a w next Q := by
 obtain ⟨e, xs, h1, r, hl, hra, _⟩ := jA hcx.tt r h;obtain ⟨s, ⟨⟨hxo, hlt⟩, h2⟩, hev⟩ := xT r h1;rw [zb] at h2;obtain ⟨hto, post, hM, h3⟩ := h2;obtain ⟨hcall, hfn⟩ := hcx.mfns f xs k _ _ post hM;generalize hx0 : get e s = x at hxo hfn h3;generalize ht0 : get e vt = t at hto hfn h3
 have hkl : k < args.length := by
   rcases Nat.lt_or_ge k args.length with h | h
   · exact h
   · rw [zeR _ _ h] at h1; exact h1.elim
 have hvt0 : vt = 1000000 := rfl;have hvk0 : vk = 1000001 := rfl;have hnv : args.length + 1 <= vt := Nat.le_of_ble_eq_true hlt
 have hsv : s ≠ vt := λe' => by
   rw [e', ht0] at hx0; subst hx0;cases t <;> simp_all [AV.own, AV.tabOk]
 generalize hvs : (args.map a.eval).toArray = vs;have hsz : vs.size = xs.length := by rw [<- hvs]; simp [hl]
 have hvk : vs.getD k undef = tv a s := by
   have := zbZ a args k hkl;rw [<- hvs, Array.getD_eq_getD_getElem?, List.getElem?_toArray, <- List.getD_eq_getElem?_getD, this, hev]
 let O : Nat -> Prop := λb => ∃ j, j ≠ s ∧ j ≠ vt ∧ rb (get e j) (tv a j) b
 let U : Nat -> Prop := λb => b < w.heap.size ∧ ¬ zj (get e) (tv a) b
 -- the begin of the call
 have ho1 : ∀ j b, rb (vd xs k x t O U w.heap (vs.getD k undef) j) (vs.getD j undef) b -> (j = vk ∧ O b) ∨ (j = vt ∧ rb (get e vt) (tv a vt) b) ∨ (j = k ∧ rb (get e s) (tv a s) b) := by
   intro j b hb;unfold vd at hb
   split at hb
   · rename_i hj; exact .inl ⟨hj, hb⟩
   split at hb
   · rename_i hj; exact .inr (.inl ⟨hj, by rw [ht0]; exact zdQ hto _ _ _ hb⟩)
   split at hb
   · rename_i hj; subst hj; exact .inr (.inr ⟨rfl, by rw [hx0, <- hvk]; exact hb⟩)
   split at hb <;> exact hb.elim
 have hown1 : ∀ b, zj (vd xs k x t O U w.heap (vs.getD k undef)) (λj => vs.getD j undef) b -> zj (get e) (tv a) b := by
   rintro b ⟨j, hj⟩;rcases ho1 j b hj with ⟨_, i, _, _, h⟩ | ⟨_, h⟩ | ⟨_, h⟩
   · exact ⟨i, h⟩
   · exact ⟨_, h⟩
   · exact ⟨_, h⟩
 have hm1 : ∀ g b, okF D (zj (get e) (tv a)) w.heap.size g b -> okF D (zj (vd xs k x t O U w.heap (vs.getD k undef)) (λj => vs.getD j undef)) w.heap.size g b ∧ w.heap[b]? = w.heap[b]? :=
   λg b hb => ⟨yo hown1 hb, rfl⟩
 have R1 : R D w0 vs.size (vd xs k x t O U w.heap (vs.getD k undef)) hs { tmps := vs, defers := [] } w := by
   refine ⟨rfl, rfl, r.hs1, r.hs2, r.below, λj hj => ?_, λj => ?_, λj b hb => ?_, λj j' b hb hb' => ?_, r.old⟩
   · unfold vd at hj
     split at hj
     · omega
     split at hj
     · omega
     split at hj
     · omega
     split at hj
     · omega
     · exact absurd rfl hj
   · show AVR _ _ _ (λj => vs.getD j undef) _ (vs.getD j undef)
     generalize hy : vd xs k x t O U w.heap (vs.getD k undef) j = y;unfold vd at hy
     split at hy
     · subst hy
       exact ⟨λ_ _ => rfl, λb hu => ⟨⟨some b, hu.1, λho => hu.2 (hown1 b ho), rfl⟩, rfl⟩, rfl⟩
     split at hy
     · rename_i hj; subst hy
       have := r.slots vt;rw [ht0] at this;cases t <;> simp [AV.tabOk] at hto
       · trivial
       · exact this
     split at hy
     · rename_i hj; subst hy; subst hj
       have h8 := r.slots s;rw [hx0] at h8;have h9 : AVR (okF D (zj (get e) (tv a)) w.heap.size) w.heap (get e) (tv a) x (vs.getD j undef) := by rw [hvk]; exact h8
       exact AVR.keep h9 hm1 (λ_ _ => rfl) (λu hu => by rw [zaX hxo] at hu; cases hu)
     split at hy
     · rename_i hjk hj; subst hy
       have := hra j (by omega) (by omega);refine Rep.mono ?_ hm1;rw [<- hvs, Array.getD_eq_getD_getElem?, List.getElem?_toArray, <- List.getD_eq_getElem?_getD];exact this
     · subst hy; trivial
   · rcases ho1 j b hb with ⟨_, i, _, _, h⟩ | ⟨_, h⟩ | ⟨_, h⟩ <;> exact r.real _ b h
   · have hcl : ∀ {i i'}, i ≠ s -> i ≠ vt -> rb (get e i) (tv a i) b -> (i' = s ∨ i' = vt) -> rb (get e i') (tv a i') b -> False := by
       intro i i' h1 h2 h3 h4 h5;have := r.dist i i' b h3 h5;subst this;rcases h4 with h4 | h4
       · exact h1 h4
       · exact h2 h4
     rcases ho1 j b hb with ⟨h4, i, h5, h6, h7⟩ | ⟨h4, h7⟩ | ⟨h4, h7⟩ <;> rcases ho1 j' b hb' with ⟨h4', i', h5', h6', h7'⟩ | ⟨h4', h7'⟩ | ⟨h4', h7'⟩
     · omega
     · exact (hcl h5 h6 h7 (.inr rfl) h7').elim
     · exact (hcl h5 h6 h7 (.inl rfl) h7').elim
     · exact (hcl h5' h6' h7' (.inr rfl) h7).elim
     · omega
     · exact absurd (r.dist _ _ b h7' h7) hsv
     · exact (hcl h5' h6' h7' (.inl rfl) h7).elim
     · exact absurd (r.dist _ _ b h7 h7') hsv
     · omega
 unfold Oper.wp
 have hrun : (execOp a.eval o).run P w = .ok (.enter f vs) w := by
   have := jS (P := P) (w := w) (vs := (args.map a.eval).toArray) hcall;rw [<- hvs];simp [execOp, hop, resolve, Deferred.ofValue, Act.eval, invoke, this]
 rw [hrun, Oper.upon_enter];refine (hfn D w0 hs w vs O U hsz (by omega) R1).mono ?_;rintro ee w' ⟨v, av, x', t', hs', rfl, hhs, hp, haf, hto', hres, hfr, R2⟩;show next (a.put o.dst v) w'
 rw [ho];have hK := h3 hs' av x' t' hhs hp haf hto' hfr;simp only [zr] at hK
 rw [kM] at hK;refine hx _ _ _ ?_ hK;show R D w0 N (get (put (vZ d (put (put e s x') vt t')) d av)) hs' (a.put (some d) v) w'
 rw [zd, yd, zd, zd];have hn : ∀ j, yQ vs.size k av x' t' O U w.heap (vs.getD k undef) j = yQ vs.size k av x' t' O U w.heap (vs.getD k undef) j := λ_ => rfl;have hkn : k < vs.size := by omega
 have hnv' : vs.size < vt := by omega
 have fvk : yQ vs.size k av x' t' O U w.heap (vs.getD k undef) vk = .keep O U w.heap k (vs.getD k undef) := by unfold yQ; rw [if_pos rfl]
 have fvt : yQ vs.size k av x' t' O U w.heap (vs.getD k undef) vt = t' := by unfold yQ; rw [if_neg (by decide), if_pos rfl]
 have fk : yQ vs.size k av x' t' O U w.heap (vs.getD k undef) k = x' := by
   unfold yQ; rw [if_neg (by omega), if_neg (by omega), if_pos rfl]
 have fn : yQ vs.size k av x' t' O U w.heap (vs.getD k undef) vs.size = av := by
   unfold yQ; rw [if_neg (by omega), if_neg (by omega), if_neg (by omega), if_pos rfl]
 have tk : (vs.push v).getD k undef = tv a s := by rw [xJ, if_neg (by omega), hvk]
 have tn : (vs.push v).getD vs.size undef = v := by rw [xJ, if_pos rfl]
 have hT : ∀ j, tv (a.put (some d) v) j = if j = d then v else tv a j := λj => zeE a d v j (by rw [r.size]; exact hd)
 have kp := R2.slots vk;rw [fvk] at kp
 -- who zj a block behind the call
 have ho2 : ∀ j b, rb (upd (zn (upd (upd (get e) s x') vt t') d) d av j) (tv (a.put (some d) v) j) b ->
     ∃ i, rb (yQ vs.size k av x' t' O U w.heap (vs.getD k undef) i) ((vs.push v).getD i undef) b ∧ ((j = d ∧ i = vs.size) ∨ (j ≠ d ∧ j = vt ∧ i = vt) ∨ (j ≠ d ∧ j = s ∧ i = k) ∨ (j ≠ d ∧ j ≠ vt ∧ j ≠ s ∧ i = vk ∧ rb (get e j) (tv a j) b)) := by
   intro j b hb;rw [hT] at hb
   by_cases hjd : j = d
   · subst hjd
     simp only [upd, if_true] at hb
     exact ⟨vs.size, by rw [fn, tn]; exact hb, .inl ⟨rfl, rfl⟩⟩
   · simp only [upd, hjd, if_false, zn] at hb
     by_cases hjt : j = vt
     · simp only [hjt, if_true, jB hto', cond_false] at hb
       exact ⟨vt, by rw [fvt]; exact zdQ hto' _ _ _ hb, .inr (.inl ⟨hjd, hjt, rfl⟩)⟩
     · by_cases hjs : j = s
       · subst hjs
         simp only [hjt, if_false, if_true, yi haf, cond_false] at hb
         exact ⟨k, by rw [fk, tk]; exact hb, .inr (.inr (.inl ⟨hjd, rfl, rfl⟩))⟩
       · simp only [hjt, hjs, if_false] at hb
         cases htt : (get e j).touches d
         · rw [htt, cond_false] at hb
           exact ⟨vk, by rw [fvk]; exact ⟨j, hjs, hjt, hb⟩, .inr (.inr (.inr ⟨hjd, hjt, hjs, rfl, hb⟩))⟩
         · rw [htt, cond_true] at hb; exact hb.elim
 have hown2 : ∀ b, zj (upd (zn (upd (upd (get e) s x') vt t') d) d av) (tv (a.put (some d) v)) b -> zj (yQ vs.size k av x' t' O U w.heap (vs.getD k undef)) (λi => (vs.push v).getD i undef) b := by
   rintro b ⟨j, hj⟩;obtain ⟨i, hi, _⟩ := ho2 j b hj;exact ⟨i, hi⟩
 have hm2 : ∀ g b, okF D (zj (yQ vs.size k av x' t' O U w.heap (vs.getD k undef)) (λi => (vs.push v).getD i undef)) w'.heap.size g b ->
     okF D (zj (upd (zn (upd (upd (get e) s x') vt t') d) d av) (tv (a.put (some d) v))) w'.heap.size g b ∧ w'.heap[b]? = w'.heap[b]? := λg b hb => ⟨yo hown2 hb, rfl⟩
 have hsh : ∀ u, u ≠ d -> (upd (zn (upd (upd (get e) s x') vt t') d) d av u).shape = none ∨ (upd (zn (upd (upd (get e) s x') vt t') d) d av u).shape = (get e u).shape := by
   intro u hud;simp only [upd, hud, if_false, zn]
   by_cases hut : u = vt
   · simp only [hut, if_true, jB hto', cond_false]; exact .inl (zhK hto')
   · by_cases hus : u = s
     · subst hus
       simp only [hut, if_false, if_true, yi haf, cond_false]
       rcases haf with rfl | ⟨_, h⟩
       · exact .inl rfl
       · exact .inr (by rw [h, hx0])
     · simp only [hut, hus, if_false]
       cases (get e u).touches d
       · exact .inr rfl
       · exact .inl rfl
 refine ⟨by rw [ki]; exact r.defers, by rw [zbN]; exact r.size, R2.hs1, R2.hs2, R2.below, λj hj => ?_, λj => ?_, λj b hb => ?_, λj j' b hb hb' => ?_, r.old⟩
 · by_cases hjd : j = d
   · subst hjd; exact .inl hd
   · by_cases hjt : j = vt
     · omega
     · by_cases hjs : j = s
       · subst hjs; exact r.dom j (by rw [hx0]; intro h; rw [h] at hxo; cases hxo)
       · refine r.dom j λh => hj ?_
         simp [upd, hjd, zn, hjt, hjs, h, AV.touches]
 · show AVR _ _ _ (tv (a.put (some d) v)) _ (tv (a.put (some d) v) j)
   rw [hT]
   by_cases hjd : j = d
   · subst hjd
     simp only [if_true]
     have h4 := R2.slots vs.size;rw [fn] at h4;have e5 : ({ tmps := vs.push v, defers := [] } : Act).tmps.getD vs.size undef = v := tn;rw [e5] at h4;have e6 : upd (zn (upd (upd (get e) s x') vt t') j) j av j = av := by simp [upd]
     rw [e6];exact AVR.keep h4 hm2 (λ_ _ => rfl) (λu hu => by rw [zaY hres] at hu; cases hu)
   · simp only [hjd, if_false]
     by_cases hjt : j = vt
     · subst hjt
       have e6 : upd (zn (upd (upd (get e) s x') vt t') d) d av vt = t' := by simp [upd, hjd, zn, jB hto']
       rw [e6];have h4 := R2.slots vt;rw [fvt] at h4;cases t' <;> simp [AV.tabOk] at hto'
       · trivial
       · exact h4
     · by_cases hjs : j = s
       · subst hjs
         have e6 : upd (zn (upd (upd (get e) j x') vt t') d) d av j = x' := by simp [upd, hjd, zn, hjt, yi haf]
         rw [e6];have h4 := R2.slots k;rw [fk] at h4;have e5 : ({ tmps := vs.push v, defers := [] } : Act).tmps.getD k undef = tv a j := tk;rw [e5] at h4;exact AVR.keep h4 hm2 (λ_ _ => rfl) (λu hu => by rw [yi haf] at hu; cases hu)
       · cases htt : (get e j).touches d
         · have e6 : upd (zn (upd (upd (get e) s x') vt t') d) d av j = get e j := by simp [upd, hjd, zn, hjt, hjs, htt]
           rw [e6];refine AVR.keep (r.slots j) (λg b hb => ?_) (λb hb => kp.1 b ⟨j, hjs, hjt, hb⟩) (λu hu => ?_)
           · obtain ⟨⟨g', hg'⟩, hh⟩ := kp.2.1 b ⟨hb.1, hb.2.1⟩
             exact ⟨⟨hg'.1, λho => hg'.2.1 (hown2 b ho), hb.2.2⟩, hh⟩
           · have hud : u ≠ d := λe' => by rw [e'] at hu; rw [hu] at htt; cases htt
             exact ⟨by rw [hT]; simp [hud], hsh u hud⟩
         · have e6 : upd (zn (upd (upd (get e) s x') vt t') d) d av j = .dead := by simp [upd, hjd, zn, hjt, hjs, htt]
           rw [e6]; trivial
 · obtain ⟨i, hi, _⟩ := ho2 j b hb
   exact R2.real i b hi
 · obtain ⟨i, hi, hc⟩ := ho2 j b hb
   obtain ⟨i', hi', hc'⟩ := ho2 j' b hb';have hii := R2.dist i i' b hi hi'
   rcases hc with ⟨h4, h5⟩ | ⟨h4, h6, h5⟩ | ⟨h4, h6, h5⟩ | ⟨h4, h6, h7, h5, h8⟩ <;> rcases hc' with ⟨h4', h5'⟩ | ⟨h4', h6', h5'⟩ | ⟨h4', h6', h5'⟩ | ⟨h4', h6', h7', h5', h8'⟩ <;>
     first | (exfalso; omega) | omega | exact r.dist j j' b h8 h8'

end
open Go Go.RowKit

section
variable {P : Program} {cx : Cx} {D : Nat -> Prop} {w0 : World} {N : Nat} {hs : Nat} {a : Act} {w w' : World} {K : S -> Prop} {next : Act -> World -> Prop} {Q : Exit -> Act -> World -> Prop} {o : Oper} {d : Nat} {e : Env}

def yJ (w : World) (v : Value) (m sz : Nat) (news : List Value) : Prop :=
 news.length = m * sz ∧ ∃ ad cap, v = .slice ad m cap ∧ (0 < m -> ∃ b o, ad = some ⟨b, o, none⟩ ∧ ∀ j u, news[j]? = some u -> w.cell? ⟨b, o + j, none⟩ = some u)

theorem zeT {ok : OkB} {xs : List Int} {g : Option Nat} {v : Value} (r : Rep ok w.heap (.ints g xs) v) : yJ w v xs.length 1 (xs.map (Value.int .i64)) := by
 cases r with
 | ints g xs ad cap hc hm hx =>
  refine ⟨by simp, ad, cap, rfl, λhpos => ?_⟩;obtain ⟨b, oo, _, _, _, h1, _⟩ := hx 0 hpos;refine ⟨b, oo, h1, λj u hu => ?_⟩
  by_cases hj : j < xs.length
  ·obtain ⟨b', oo', cur, el, fr, h2, _, h4, h5⟩ := hx j hj;rw [h1] at h2;simp only [Option.some.injEq, Addr.mk.injEq, and_true] at h2
   obtain ⟨rfl, rfl⟩ := h2;rw [yw h4 h5];simp only [List.getElem?_map, List.getElem?_eq_getElem hj, Option.map_some] at hu
   rw [List.getD_eq_getElem?_getD, List.getElem?_eq_getElem hj];exact hu
  ·rw [List.getElem?_eq_none (by simp; omega)] at hu; cases hu

theorem zb0 {sz n k : Nat} (hsz : 0 < sz) (hk : k < n * sz) : k / sz < n ∧ k % sz < sz ∧ k / sz * sz + k % sz = k :=
 ⟨(Nat.div_lt_iff_lt_mul hsz).2 hk, Nat.mod_lt _ hsz, Nat.div_add_mod' k sz⟩

theorem zeU {ok : OkB} {n sz : Nat} {f : Nat -> V} {g : Option Nat} {v : Value} (hsz : 0 < sz) (r : Rep ok w.heap (.vals g sz n f) v) :
  ∃ news, yJ w v n sz news ∧ v3 ok w.heap sz n f news ∧ ∀ u ∈ news, u.oneCell' = true := by
 cases r with
 | vals g sz n f ad cap hc hm hl hf c hx hr =>
  have hget : ∀ i j, i < n -> j < sz -> ((List.range (n * sz)).map λk => c (k / sz) (k % sz))[i * sz + j]? = some (c i j) := by
   intro i j hi hj;have hlt := xj hi hj;rw [List.getElem?_map, List.getElem?_range hlt, Option.map_some, Nat.mul_comm i sz, Nat.mul_add_div hsz, Nat.mul_add_mod, Nat.div_eq_of_lt hj, Nat.mod_eq_of_lt hj, Nat.add_zero]
  refine ⟨(List.range (n * sz)).map λk => c (k / sz) (k % sz), ⟨by simp, ad, cap, rfl, λhpos => ?_⟩, ⟨λi hi => ⟨hl i hi, hf i hi⟩, λi j hi hj => ⟨_, hget i j hi hj, hr i j hi hj⟩⟩, λu hu => ?_⟩
  ·obtain ⟨b, oo, _, _, _, h1, _⟩ := hx 0 0 hpos hsz;refine ⟨b, oo, h1, λk u hu => ?_⟩
   by_cases hk : k < n * sz
   ·obtain ⟨h6, h7, h8⟩ := zb0 hsz hk;obtain ⟨b', oo', cur, el, fr, h2, _, h4, h5⟩ := hx _ _ h6 h7;rw [h1] at h2;simp only [Option.some.injEq, Addr.mk.injEq, and_true] at h2
    obtain ⟨rfl, rfl⟩ := h2;rw [h8] at h5;rw [yw h4 h5];rw [List.getElem?_map, List.getElem?_range hk] at hu;exact hu
   ·rw [List.getElem?_eq_none (by simp; omega)] at hu; cases hu
  ·simp only [List.mem_map, List.mem_range] at hu
   obtain ⟨k, hk, rfl⟩ := hu;obtain ⟨h6, h7, _⟩ := zb0 hsz hk;exact (hr _ _ h6 h7).oneCell (j6 (hf _ h6) (by rw [hl _ h6]; exact h7))

theorem vL {t ty el : TypeId} {i : TypeInfo} {ad : Option Addr} {n cap : Nat} {ad' : Option Addr} {cap' : Nat} (ht : P.underlying t = some (.slice el)) (hi : P.info? el = some i) (hn : n <= cap) :
  (Builtin.append_ #[t, t] ty #[.slice ad n cap, .slice ad' 0 cap']).run P w = .ok (.slice ad n cap) w := by
 have hn' : n + 0 <= cap := hn;cases ad <;> cases ad' <;> simp [Builtin.append_, run_underlying ht, sizeOf, typeInfo, hi, Builtin.lenOf, Builtin.firstCells, loadCells, loadCellsFrom, hn, storeCells]

theorem xD {t el ty : TypeId} {ti tj : TI} {b n m : Nat} {v sv : Value} {olds news : List Value} (hti : xq P t ti) (hk : ti.kind = .slice el) (htj : xq P el tj)
   (hO : zK w.heap el tj.size b n v olds) (hS : yJ w sv m tj.size news) (h1 : ∀ u ∈ news, u.oneCell' = true) (hbound : n + m <= 1000000000) :
   ∃ v' w', (Builtin.append_ #[t, t] ty #[v, sv]).run P w = .ok v' w' ∧ w.heap.size <= w'.heap.size ∧
     ((w.grownBy w' (some b) ∧ w'.heap.size = w.heap.size ∧ zK w'.heap el tj.size b (n + m) v' (olds ++ news) ∧ ((∃ c, v = .slice (some ⟨b, 0, none⟩) n (c + 1) ∧ v' = .slice (some ⟨b, 0, none⟩) (n + m) (c + 1)) ∨ (w' = w ∧ v' = v))) ∨
      (w.grownBy w' none ∧ w'.heap.size = w.heap.size + 1 ∧ zK w'.heap el tj.size w.heap.size (n + m) v' (olds ++ news) ∧ 0 < n + m)) := by
 obtain ⟨i, dd, hi1, hi2, _, _, _, _, _, _, _, hkind⟩ := hti;rw [hk] at hkind;obtain ⟨rfl, _⟩ := hkind;obtain ⟨j, dj, hj1, hj2, hj3, hj4, hj5, hj6, ⟨z, hz1, hz2⟩, hz3, hz4, _⟩ := htj;have hzs : z.cells.size = j.size := by rw [(zG (hz2 (λ_ _ => False) #[]) hz3).1, hz4, hj3]
 obtain ⟨hnl, ad, scap, rfl, hsrc⟩ := hS;have holen : olds.length = n * tj.size := hO.1;have hlen2 : (olds ++ news).length = (n + m) * tj.size := by rw [List.length_append, holen, hnl, Nat.add_mul]
 by_cases hm : m = 0
 · subst hm
   have hnn : news = [] := List.eq_nil_of_length_eq_zero (by simpa using hnl);subst hnn
   obtain ⟨dad, dn, dcap, hv, hle⟩ : ∃ dad dn dcap, v = .slice dad dn dcap ∧ dn <= dcap := by
     rcases hO.2 with ⟨ad, h, _⟩ | ⟨cap, cur, h, _, h2, _⟩
     · exact ⟨_, _, _, h, Nat.le_refl _⟩
     · exact ⟨_, _, _, h, h2⟩
   subst hv;refine ⟨_, w, vL hi2 hj1 hle, Nat.le_refl _, .inl ⟨World.grownBy_refl w _, rfl, by simpa using hO, .inr ⟨rfl, rfl⟩⟩⟩
 · obtain ⟨sb, so, rfl, hnews⟩ := hsrc (by omega)
   have hnews' : ∀ k u, news[k]? = some u -> w.cell? (({ block := sb, off := so, spot := none } : Addr).add k) = some u := λk u hu => by rw [yp]; exact hnews k u hu
   have hb1 : (n + m) * j.bytes <= 140737488355328 := by
     have : (n + m) * j.bytes <= 1000000000 * 64 := Nat.mul_le_mul hbound (by omega);omega
   have grown : ∀ (old : Nat), old < n + m ->
       zK (w.drew.alloc (.cells (olds.toArray ++ news.toArray ++ Builtin.zeroCells z.cells (grownCap w (n + m) old el - (n + m))) el)).heap el tj.size w.heap.size (n + m)
         (.slice (some ⟨w.heap.size, 0, none⟩) (n + m) (grownCap w (n + m) old el)) (olds ++ news) := by
     intro old ho;have hge := grownCap_ge w (n + m) old el;have hcm : grownCap w (n + m) old el <= maxLen := grownCap_le_maxLen w (n + m) old el (by simp [maxLen]; omega);obtain ⟨c, hc⟩ : ∃ c, grownCap w (n + m) old el = c + 1 := ⟨grownCap w (n + m) old el - 1, by omega⟩
     rw [hc] at hge hcm ⊢;refine ⟨hlen2, .inr ⟨c, _, rfl, heap_alloc_new w.drew _, hge, hcm, ?_, ?_⟩⟩
     · simp only [Array.size_append, List.size_toArray, size_zeroCells, hzs, hj3, holen, hnl]
       rw [<- Nat.add_mul, <- Nat.add_mul]; congr 1; omega
     · simp only [Array.toList_append, List.append_assoc]
       rw [<- List.append_assoc, <- hlen2];exact List.take_left
   have grB : ∀ X, w.grownBy (w.drew.alloc X) none := λX => ⟨rfl, rfl, rfl, by simp, λk hk _ => Below.heap_alloc w.drew X k hk⟩
   rcases hO.2 with ⟨dad, rfl, hn0⟩ | ⟨cap, cur, rfl, hh, hle, hmx, hcs, htk⟩
   · subst hn0
     have hon : olds = [] := List.eq_nil_of_length_eq_zero (by simpa using holen);subst hon
     have hrun : (Builtin.append_ #[t, t] ty #[.slice dad 0 0, .slice (some ⟨sb, so, none⟩) m scap]).run P w =
         .ok (.slice (some ⟨w.heap.size, 0, none⟩) (0 + m) (grownCap w (0 + m) 0 el)) (w.drew.alloc (.cells (([] : List Value).toArray ++ news.toArray ++ Builtin.zeroCells z.cells (grownCap w (0 + m) 0 el - (0 + m))) el)) := by
       cases dad with
       | none =>
         have := run_append_nil (P := P) w t ty el j z hi2 hj1 hz1 ⟨sb, so, none⟩ m scap news (by rw [hnl, hj3]) hnews' (by omega) (by omega) (by simp only [Nat.zero_add] at hb1; omega)
         simpa using this
       | some bb =>
         exact run_append_grow (P := P) w t ty el j z hi2 hj1 hz1 bb 0 0 [] (by simp) (λj v hv => by simp at hv) ⟨sb, so, none⟩ m scap news (by rw [hnl, hj3]) hnews' (by omega) (by omega) (growslice_fits (by omega) hb1)
     exact ⟨_, _, hrun, by simp, .inr ⟨grB _, by simp, grown 0 (by omega), by omega⟩⟩
   · have holds : ∀ k u, olds[k]? = some u -> w.cell? (({ block := b, off := 0, spot := none } : Addr).add k) = some u := by
       intro k u hu;rw [yp, Nat.zero_add]
       have hk : k < n * tj.size := by
         rw [<- holen];rcases Nat.lt_or_ge k olds.length with h | h
         · exact h
         · rw [List.getElem?_eq_none h] at hu; cases hu
       exact yw hh (by rw [<- Array.getElem?_toList, vJ htk hk]; exact hu)
     by_cases hroom : n + m <= cap + 1
     · have hfit : n * j.size + news.length <= cur.size := by
         rw [hnl, hcs, hj3, <- Nat.add_mul]; exact Nat.mul_le_mul_right _ hroom
       have hrun := run_append_room (P := P) w t ty el j hi2 hj1 b n (cap + 1) cur hh ⟨sb, so, none⟩ m scap news (by rw [hnl, hj3]) hnews' h1 hroom hfit;refine ⟨_, _, hrun, by rw [yq]; exact Nat.le_refl _, .inl ⟨yx w b _, yq _ _ _, ⟨hlen2, .inr ⟨cap, _, rfl, setRow_heap w b cur _ el _ hh, hroom, hmx, ?_, ?_⟩⟩, .inl ⟨cap, rfl, rfl⟩⟩⟩
       · simp only [List.size_toArray, List.length_append, List.length_take, List.length_drop, Array.length_toList]
         omega
       · rw [hj3, htk, <- hlen2]
         exact List.take_left
     · have hrun := run_append_grow (P := P) w t ty el j z hi2 hj1 hz1 ⟨b, 0, none⟩ n (cap + 1) olds (by rw [holen, hj3]) holds ⟨sb, so, none⟩ m scap news (by rw [hnl, hj3]) hnews' (by omega) (by omega) (growslice_fits (by omega) hb1)
       exact ⟨_, _, hrun, by simp, .inr ⟨grB _, by simp, grown (cap + 1) (by omega), by omega⟩⟩

theorem zb1 {e : Env} (r : R D w0 N (get e) hs a w) {k : Nat} {xs : List Int} (h : (∃ el b, get e k = .ownI el b xs) ∨ ∃ g, get e k = .v (.ints g xs)) : yJ w (tv a k) xs.length 1 (xs.map (Value.int .i64)) := by
 rcases h with ⟨el, b, h⟩ | ⟨g, h⟩
 ·exact zeT (r.argI h)
 ·exact zeT (r.val h)

theorem zb2 {e : Env} (r : R D w0 N (get e) hs a w) {k sz n : Nat} {f : Nat -> V} (hsz : 0 < sz) (h : (∃ el b, get e k = .ownV el sz b n f) ∨ ∃ g, get e k = .v (.vals g sz n f)) :
  ∃ news, yJ w (tv a k) n sz news ∧ v3 (okF D (zj (get e) (tv a)) w.heap.size) w.heap sz n f news ∧ ∀ u ∈ news, u.oneCell' = true := by
 rcases h with ⟨el, b, h⟩ | ⟨g, h⟩
 ·obtain ⟨news, h1, h2, h3⟩ := zeU hsz (r.argV h);have hss := r.slots k;rw [h] at hss;obtain ⟨_, cells, hO, hE⟩ := hss
  -- the same cells
  refine ⟨news, h1, ⟨hE.1, λi j hi hj => ?_⟩, h3⟩;obtain ⟨c, hc1, hc2⟩ := h2.2 i j hi hj;obtain ⟨c', hc3, hc4⟩ := hE.2 i j hi hj;refine ⟨c, hc1, ?_⟩;have hlt := xj hi hj;obtain ⟨_, ad, cap, hv, hsrc⟩ := h1;obtain ⟨bb, oo, had, hcells⟩ := hsrc (by omega);have h5 := hcells _ _ hc1;obtain ⟨cap', cur, hv', hh, _, _, _, htk⟩ := hO.real hi;rw [show tv a k = _ from hv'] at hv;simp only [Value.slice.injEq] at hv
  rw [had] at hv;simp only [Option.some.injEq, Addr.mk.injEq, and_true] at hv
  obtain ⟨⟨rfl, rfl⟩, _, _⟩ := hv;rw [Nat.zero_add, yw hh (c := c') (by rw [<- Array.getElem?_toList, vJ htk hlt]; exact hc3)] at h5;cases h5
  exact hc4
 ·exact zeU hsz (r.val h)

theorem v3.app {ok : OkB} {h : Array Obj} {sz n m : Nat} {f g q : Nat -> V} {olds news : List Value} (hol : olds.length = n * sz) (hf : v3 ok h sz n f olds) (hg : v3 ok h sz m g news) (h1 : ∀ i, i < n -> q i = f i) (h2 : ∀ j, j < m -> q (n + j) = g j) :
  v3 ok h sz (n + m) q (olds ++ news) := by
 refine ⟨λi hi => ?_, λi j hi hj => ?_⟩
 ·rcases Nat.lt_or_ge i n with hin | hin
  ·rw [h1 i hin]; exact hf.1 i hin
  ·obtain ⟨k, rfl⟩ : ∃ k, i = n + k := ⟨i - n, by omega⟩
   rw [h2 k (by omega)]; exact hg.1 k (by omega)
 ·rcases Nat.lt_or_ge i n with hin | hin
  ·rw [h1 i hin];obtain ⟨c, hc, hr⟩ := hf.2 i j hin hj;exact ⟨c, by rw [List.getElem?_append_left (by rw [hol]; exact xj hin hj)]; exact hc, hr⟩
  ·obtain ⟨k, rfl⟩ : ∃ k, i = n + k := ⟨i - n, by omega⟩
   rw [h2 k (by omega)];obtain ⟨c, hc, hr⟩ := hg.2 k j (by omega) hj;refine ⟨c, ?_, hr⟩;rw [List.getElem?_append_right (by rw [hol, Nat.add_mul]; omega), hol, Nat.add_mul, show n * sz + k * sz + j - n * sz = k * sz + j by omega];exact hc

theorem v3.mono {ok ok' : OkB} {h h' : Array Obj} {sz n : Nat} {f : Nat -> V} {cells : List Value} (r : v3 ok h sz n f cells) (m : ∀ g b, ok g b -> ok' g b ∧ h'[b]? = h[b]?) : v3 ok' h' sz n f cells :=
 ⟨r.1, λi j hi hj => by obtain ⟨c, h1, h2⟩ := r.2 i j hi hj; exact ⟨c, h1, h2.mono m⟩⟩

theorem zaA {own : Nat -> Prop} {mod : Option Nat} (hg : w.grownBy w' mod) (hmod : ∀ b, mod = some b -> own b) : ∀ g b, okF D own w.heap.size g b -> okF D own w.heap.size g b ∧ w'.heap[b]? = w.heap[b]? :=
 λ_ b hb => ⟨hb, hg.block b hb.1 (λe => hb.2.1 (hmod b e.symm))⟩

theorem kO {x : AV} {b n sz : Nat} (h : x.shape = some (false, b, n, sz)) (bb : Nat) (len cap : Nat) (ad : Addr) : rb x (.slice (some ad) len (cap + 1)) bb ↔ b = bb := by
 cases x <;> simp_all [AV.shape, rb] <;> exact eq_comm
theorem zdj {x : AV} {b n sz : Nat} (h : x.shape = some (false, b, n, sz)) (len : Nat) (ad : Option Addr) : ∀ bb, ¬ rb x (.slice ad len 0) bb := by
 cases x <;> cases ad <;> simp_all [AV.shape, rb]
theorem vu {x : AV} {q : Bool × Nat × Nat × Nat} (h : x.shape = some q) (t : Nat) : x.touches t = false := by
 cases x <;> simp_all [AV.shape, AV.touches]

abbrev ziK (w w' : World) (el sz b n m : Nat) (v v' : Value) (cells : List Value) : Prop :=
  (w.grownBy w' (some b) ∧ w'.heap.size = w.heap.size ∧ zK w'.heap el sz b (n + m) v' cells ∧ ((∃ c, v = .slice (some ⟨b, 0, none⟩) n (c + 1) ∧ v' = .slice (some ⟨b, 0, none⟩) (n + m) (c + 1)) ∨ (w' = w ∧ v' = v))) ∨
       (w.grownBy w' none ∧ w'.heap.size = w.heap.size + 1 ∧ zK w'.heap el sz w.heap.size (n + m) v' cells ∧ 0 < n + m)

theorem zK.rbs {h : Array Obj} {el sz b n : Nat} {v : Value} {cells : List Value} (o : zK h el sz b n v cells) {x : AV} {n' sz' : Nat} (hx : x.shape = some (false, b, n', sz')) : ∀ bb, rb x v bb -> bb = b ∧ ∃ c, v = .slice (some ⟨b, 0, none⟩) n (c + 1) := by
 intro bb hb;rcases o.2 with ⟨ad, rfl, _⟩ | ⟨cap, cur, rfl, _⟩
 ·exact absurd hb (zdj hx _ _ _)
 ·exact ⟨((kO hx bb _ _ _).1 hb).symm, cap, rfl⟩

theorem zg1 (hx : Nx D w0 N K next) (r : R D w0 N (get e) hs a w) {s el b n m sz n' : Nat} {olds cells : List Value} {v' : Value} (hd : d < N) (hsh : (get e s).shape = some (false, b, n', sz))
  (hO : zK w.heap el sz b n (tv a s) olds) {z : Nat -> AV} (hz : ∀ b', (z b').shape = some (false, b', n + m, sz))
  (hst : zgR hs (some b) (n + m ≠ 0) λb' hs' => K1 K hs' d (put e s .dead) (z b')) (hge : w.heap.size <= w'.heap.size) (hres : ziK w w' el sz b n m (tv a s) v' cells)
  (hav : ∀ b', zK w'.heap el sz b' (n + m) v' cells -> (∀ g bb, okF D (zj (get e) (tv a)) w.heap.size g bb -> okF D (zj (get e) (tv a)) w.heap.size g bb ∧ w'.heap[bb]? = w.heap[bb]?) ->
   AVR (okF D (zj (get e) (tv a)) w.heap.size) w'.heap (get e) (tv a) (z b') v') : next (a.put (some d) v') w' := by
 have hs1 := r.hs1;have hs2 := r.hs2
 have fin : ∀ (b' hs' : Nat) (mod : Option Nat), w.grownBy w' mod -> hs' <= w'.heap.size -> hs <= hs' -> (∀ bb, mod = some bb -> rb (get e s) (tv a s) bb) -> zK w'.heap el sz b' (n + m) v' cells ->
   (∀ bb, rb (z b') v' bb -> rb (get e s) (tv a s) bb ∨ (w.heap.size <= bb ∧ bb < w'.heap.size)) -> K1 K hs' d (put e s .dead) (z b') -> next (a.put (some d) v') w' := by
  intro b' hs' mod hg h1 h2 hmod hOS hown hK;have hav' := hav b' hOS (zaA hg (λbb hbb => ⟨s, hmod bb hbb⟩));rw [kM] at hK;refine hx _ _ _ ?_ hK;show R D w0 N (get (put (vZ d (put e s .dead)) d (z b'))) hs' _ _
  rw [zd, yd, zd];exact r.setOwn mod hg h1 (by omega) hd hmod hown (vu (hz b')) hav'
 rcases hres with ⟨hg, hsz, hOS, ⟨c, hv, hv'⟩ | ⟨rfl, rfl⟩⟩ | ⟨hg, hsz, hOS, hpos⟩
 ·have hrb : rb (get e s) (tv a s) b := by rw [hv]; exact (kO hsh b _ _ _).2 rfl
  exact fin b hs (some b) hg (by omega) (Nat.le_refl _) (λbb h => by cases h; exact hrb) hOS (λbb h => .inl (by
   rw [hv'] at h; have := (kO (hz b) bb _ _ _).1 h; subst this; exact hrb)) (hst b hs (Nat.le_refl _) (λ_ => .inl rfl))
 ·exact fin b hs none (World.grownBy_refl _ none) (by omega) (Nat.le_refl _) (by simp) hOS (λbb h => .inl (by
   obtain ⟨rfl, c, hc⟩ := hOS.rbs (hz b) bb h;rw [hc]; exact (kO hsh _ _ _ _).2 rfl)) (hst b hs (Nat.le_refl _) (λ_ => .inl rfl))
 ·exact fin w.heap.size (w.heap.size + 1) none hg (by omega) (by omega) (by simp) hOS (λbb h => .inr (by
   obtain ⟨rfl, _⟩ := hOS.rbs (hz _) bb h; omega)) (hst _ _ (by omega) (λ_ => .inr ⟨hs2, by omega⟩))

theorem zg2 (hx : Nx D w0 N K next) (r : R D w0 N (get e) hs a w) {s el b m sz : Nat} {ad : Option Addr} {cells : List Value} {v' : Value} (hd : d < N)
  (hv : tv a s = .slice ad 0 0) {z : Nat -> AV} (hz : ∀ b', (z b').shape = some (false, b', 0 + m, sz))
  (hst : zgR hs none (0 + m ≠ 0) λb' hs' => K1 K hs' d e (z b')) (hge : w.heap.size <= w'.heap.size) (hres : ziK w w' el sz b 0 m (tv a s) v' cells)
  (hav : ∀ b', zK w'.heap el sz b' (0 + m) v' cells -> (∀ g bb, okF D (zj (get e) (tv a)) w.heap.size g bb -> okF D (zj (get e) (tv a)) w.heap.size g bb ∧ w'.heap[bb]? = w.heap[bb]?) ->
   AVR (okF D (zj (get e) (tv a)) w.heap.size) w'.heap (get e) (tv a) (z b') v') : next (a.put (some d) v') w' := by
 have hs1 := r.hs1;have hs2 := r.hs2;rcases hres with ⟨hg, hsz, hOS, ⟨c, hv2, hv'⟩ | ⟨rfl, rfl⟩⟩ | ⟨hg, hsz, hOS, hpos⟩
 ·rw [hv] at hv2; simp at hv2
 ·have hm0 : 0 + m = 0 := by
   rcases hOS.2 with ⟨_, _, h⟩ | ⟨cap, cur, h, _⟩
   ·exact h
   ·rw [hv] at h; simp at h
  refine kn hx r (World.grownBy_refl _ none) hs2 hs1 hd (hst b hs (Nat.le_refl _) (λh => absurd hm0 h)) (λbb hbb => ?_) (vu (hz b)) (hav b hOS (zaA (World.grownBy_refl _ none) (by simp)));rw [hv] at hbb; exact absurd hbb (zdj (hz b) _ _ _)
 ·refine kn hx r hg (hs' := w.heap.size + 1) (by omega) (by omega) hd (hst _ _ (by omega) (λ_ => .inr ⟨hs2, by omega⟩)) (λbb hbb => ?_) (vu (hz _)) (hav _ hOS (zaA hg (by simp)));obtain ⟨rfl, _⟩ := hOS.rbs (hz _) bb hbb; omega

theorem v6 {b : AV} {I : List Int -> Prop} {F : Nat -> Nat -> (Nat -> V) -> Prop} {Z : Prop} (h : zhu b I F Z) :
  (∃ xs, I xs ∧ ((∃ el bb, b = .ownI el bb xs) ∨ ∃ g, b = .v (.ints g xs))) ∨ (∃ sz n f, F sz n f ∧ ((∃ el bb, b = .ownV el sz bb n f) ∨ ∃ g, b = .v (.vals g sz n f))) ∨ (Z ∧ b = .v .nil) := by
 cases b with
 | ownI el bb xs => exact .inl ⟨xs, h, .inl ⟨el, bb, rfl⟩⟩
 | ownV el sz bb n f => exact .inr (.inl ⟨sz, n, f, h, .inl ⟨el, bb, rfl⟩⟩)
 | v x =>
  cases x with
  | ints g xs => exact .inl ⟨xs, h, .inr ⟨g, rfl⟩⟩
  | vals g sz n f => exact .inr (.inl ⟨sz, n, f, h, .inr ⟨g, rfl⟩⟩)
  | nil => exact .inr (.inr ⟨h, rfl⟩)
  | _ => exact h.elim
 | _ => exact h.elim

theorem vM {e : Env} (r : R D w0 N (get e) hs a w) {k : Nat} (h : get e k = .v .nil) (sz : Nat) : yJ w (tv a k) 0 sz [] ∧ ∃ ad, tv a k = .slice ad 0 0 := by
 have := r.val h;generalize tv a k = v at this;cases this with
 | nil ad => exact ⟨⟨by simp, ad, 0, rfl, λh => absurd h (by omega)⟩, ad, rfl⟩

theorem zhL (r : R D w0 N (get e) hs a w) {x : Operand} {C : Nat -> Nat -> Nat -> Prop} (hc : zkS e x C) : ∃ b i n cap, a.eval x = .slice (some ⟨b, i, none⟩) n cap ∧ C b i n := by
 cases x with
 | tmp t =>
  simp only [zkS, zb] at hc
  have hs1 := r.slots t;cases ht : get e t with
  | sl b i n =>
   rw [ht] at hc hs1;obtain ⟨cap, _, _, hv⟩ := hs1;exact ⟨b, i, n, cap, hv, hc⟩
  | v z =>
   rw [ht] at hc;have hr := r.val ht;cases z with
   | rf b n =>
    obtain ⟨hn, hc⟩ := hc;have hev : a.eval (.tmp t) = tv a t := rfl;rw [hev];generalize tv a t = v at hr;cases hr with
    | rf0 => omega
    | rf _ _ c h1 h2 => exact ⟨b, 0, n, c + 1, rfl, hc⟩
   | _ => exact hc.elim
  | _ => rw [ht] at hc; exact hc.elim
 | _ => exact hc.elim

theorem zhM (r : R D w0 N (get e) hs a w) {tb : Tab} (ht : get e vt = .tab tb) {y : Operand} {C : List Int -> Prop} (hc : ziD e tb y C) :
  ∃ ys ad cap, a.eval y = .slice (some ad) ys.length cap ∧ C ys ∧ ∀ (j : Nat) (v : Value), (ys.map (Value.int .i64))[j]? = some v -> w.cell? (ad.add j) = some v := by
 have htab := r.slots vt;rw [ht] at htab;cases y with
 | tmp t =>
  simp only [ziD, zb] at hc
  have hs1 := r.slots t;have hev : a.eval (.tmp t) = tv a t := rfl;cases hq : get e t with
  | sl b i n =>
   rw [hq] at hc hs1;obtain ⟨cap, _, _, hv⟩ := hs1;obtain ⟨xs, h1, h2, h3⟩ := hc;obtain ⟨cur, el, h4, h5⟩ := htab _ _ h1;have hl : ((xs.drop i).take n).length = n := by simp; omega
   refine ⟨_, ⟨b, i, none⟩, cap, by rw [hl]; exact hv, h3, λj v hj => ?_⟩;rw [List.getElem?_map, Option.map_eq_some_iff] at hj;obtain ⟨z, hz, rfl⟩ := hj;rw [List.getElem?_take] at hz
   split at hz
   ·rw [List.getElem?_drop] at hz;have hlt : i + j < xs.length := (List.getElem?_eq_some_iff.1 hz).1;have h6 := h5 (i + j) hlt;rw [List.getD_eq_getElem?_getD, hz] at h6;rw [yp];exact yw h4 h6
   ·cases hz
  | v z =>
   rw [hq] at hc;have hr := r.val hq;cases z with
   | rf b n =>
    obtain ⟨hn, xs, h1, h2, h3⟩ := hc;obtain ⟨cur, el, h4, h5⟩ := htab _ _ h1;have hl : (xs.take n).length = n := by simp; omega
    rw [hev];generalize tv a t = v at hr;cases hr with
    | rf0 => omega
    | rf _ _ c h6 h7 =>
     refine ⟨_, ⟨b, 0, none⟩, c + 1, by rw [hl], h3, λj v hj => ?_⟩;rw [List.getElem?_map, Option.map_eq_some_iff] at hj;obtain ⟨z, hz, rfl⟩ := hj;rw [List.getElem?_take] at hz
     split at hz
     ·have hlt : j < xs.length := (List.getElem?_eq_some_iff.1 hz).1;have h6 := h5 j hlt;rw [List.getD_eq_getElem?_getD, hz] at h6;rw [yp, Nat.zero_add];exact yw h4 h6
     ·cases hz
   | ints g xs =>
    obtain ⟨hn, h3⟩ := hc;rw [hev];generalize tv a t = v at hr;cases hr with
    | ints _ _ ad cap h6 h7 h8 =>
     obtain ⟨b, oo, cur, el, fr, rfl, _, _, _⟩ := h8 0 hn;refine ⟨xs, ⟨b, oo, none⟩, cap, rfl, h3, λj v hj => ?_⟩;rw [List.getElem?_map, Option.map_eq_some_iff] at hj;obtain ⟨z, hz, rfl⟩ := hj;have hlt : j < xs.length := (List.getElem?_eq_some_iff.1 hz).1;obtain ⟨b', oo', cur', el', fr', he, _, h9, h10⟩ := h8 j hlt;simp only [Option.some.injEq, Addr.mk.injEq, and_true] at he
     obtain ⟨rfl, rfl⟩ := he;rw [List.getD_eq_getElem?_getD, hz] at h10;rw [yp];exact yw h9 h10
   | _ => exact hc.elim
  | _ => rw [hq] at hc; exact hc.elim
 | _ => exact hc.elim

theorem zga (hcx : OkCx P cx) {t t' : Nat} {x y : Operand} (ho : o.dst = some d) (hop : o.op = .call ⟨.builtin .copy, #[x, y], #[t, t']⟩) (hd : d < N) (hx : Nx D w0 N K next) (r : R D w0 N (get e) hs a w)
   (h : zdL cx K d t t' x y e hs) : o.wp P a w next Q := by
 unfold zdL at h;cases hb : Nat.beq t t'
 · rw [hb] at h; exact h.elim
 rw [hb] at h;have h : zH cx.tt t _ := h;obtain ⟨ti, hti, h1⟩ := zf hcx.tt h;cases hk : ti.kind with
 | slice el =>
   rw [hk] at h1;obtain ⟨tj, htj, h2⟩ := zf hcx.tt h1;cases hkj : tj.kind with
   | int kk =>
     rw [hkj] at h2;cases kk <;> first | exact h2.elim | skip
     obtain ⟨i, dd, hi1, hi2, _, _, _, _, _, _, _, hkind⟩ := hti;rw [hk] at hkind;obtain ⟨rfl, _⟩ := hkind;obtain ⟨j, dj, hj1, hj2, hj3, _, _, _, _, _, _, hkindj⟩ := htj;rw [hkj] at hkindj;obtain ⟨_, hjs, _⟩ := hkindj;have hs1 : (P.info? el).map (·.size) = some 1 := by rw [hj1]; simp [hj3, hjs]
     obtain ⟨b, i0, n, cap, hvx, h3⟩ := zhL r h2;obtain ⟨tb, ht, h4⟩ := xP r h3;obtain ⟨ys, ad, cap', hvy, h5, hsrc⟩ := zhM r ht h4;obtain ⟨xs, h6, h7, h8⟩ := h5;have htab := r.slots vt;rw [ht] at htab;obtain ⟨cur, el', h9, h10⟩ := htab _ _ h6
     have hxc : xs.length <= cur.size := by
       rcases Nat.eq_zero_or_pos xs.length with h0 | h0
       · omega
       · have := h10 (xs.length - 1) (by omega)
         have := (Array.getElem?_eq_some_iff.1 this).1;omega
     have hcl : ((ys.take n).map (Value.int .i64)).length = min n ys.length := by simp
     have hrun := run_copy_row (P := P) w t t' 0 el b i0 n cap ad ys.length cap' cur el' ((ys.take n).map (Value.int .i64)) hi2 hs1 h9 (by rw [hcl]; exact Nat.min_comm _ _) (λj v hj => hsrc j v (by
         rw [List.map_take, List.getElem?_take] at hj
         split at hj
         · exact hj
         · cases hj)) (by rw [hcl]; omega) (λv hv => by obtain ⟨z, _, rfl⟩ := List.mem_map.1 hv; rfl)
     have hgi : (goInt ((ys.take n).map (Value.int .i64)).length : Value) = .int .i64 (min n ys.length : Nat) := by rw [hcl]; rfl
     rw [zr] at h8;refine zk (w' := w.setRow b (cur.toList.take i0 ++ (ys.take n).map (Value.int .i64) ++ cur.toList.drop (i0 + ((ys.take n).map (Value.int .i64)).length)).toArray) (v := .int .i64 (min n ys.length : Nat)) ho ?_ (zh hx (e := put e vt (.tab (z2 tb b (zhy xs i0 n ys)))) ?_ hd h8 rfl (.int _ _))
     · simp only [execOp, hop, resolve, invoke, builtin, Sem.run_bind, Sem.run_pure, Result.andThen_ok, List.map_toArray, List.map_cons, List.map_nil, hvx, hvy, <- hgi]
       have hrun' : ∀ ty, (Builtin.copy_ #[t, t'] ty #[.slice (some ⟨b, i0, none⟩) n cap, .slice (some ad) ys.length cap']).run P w = _ := λty => hrun;rw [hrun']
       rfl
     · rw [zd]
       refine r.storeT (yx w b _) (yq _ _ _) ht h6 ⟨_, el', setRow_heap w b cur _ el' (0, 0) h9, λk hk2 => ?_⟩;have hpl : (zhy xs i0 n ys).length = xs.length := by unfold zhy; simp; omega
       rw [hpl] at hk2;rw [List.getElem?_toArray, v4 (by rw [hcl]; simp; omega), hcl]
       have hp : (zhy xs i0 n ys).getD k 0 = ((if i0 <= k ∧ k < i0 + min n ys.length then (ys.take n)[k - i0]? else xs[k]?)).getD 0 := by
         unfold zhy;rw [List.getD_eq_getElem?_getD];have e1 : min n ys.length = (ys.take n).length := by simp
         rw [e1, v4 (by simp; omega)]
       rw [hp]
       by_cases hc : i0 <= k ∧ k < i0 + min n ys.length
       · rw [if_pos hc, if_pos hc, List.getElem?_map]
         have : k - i0 < (ys.take n).length := by simp; omega
         rw [List.getElem?_eq_getElem this]; rfl
       · rw [if_neg hc, if_neg hc, Array.getElem?_toList, h10 k hk2, List.getD_eq_getElem?_getD]
   | _ => rw [hkj] at h2; exact h2.elim
 | _ => rw [hk] at h1; exact h1.elim

theorem zdR (hcx : OkCx P cx) {t t' : Nat} {x y : Operand} (ho : o.dst = some d) (hop : o.op = .call ⟨.builtin .append, #[x, y], #[t, t']⟩) (hd : d < N) (hx : Nx D w0 N K next) (r : R D w0 N (get e) hs a w)
  (h : zar cx K d t t' x y e hs) : o.wp P a w next Q := by
 unfold zar at h;cases htt : Nat.beq t t'
 ·rw [htt, cond_false] at h; exact h.elim
 rw [htt, cond_true] at h;have htt' := Nat.eq_of_beq_eq_true htt;subst htt';obtain ⟨k, h1, hvy⟩ := xT r h;obtain ⟨s, h2, hvx⟩ := xT r h1;obtain ⟨ti, hti, h3⟩ := zf hcx.tt h2;cases hk : ti.kind with
 | slice el =>
  rw [hk] at h3;obtain ⟨tj, htj, h4⟩ := zf hcx.tt h3;have hpos : 0 < tj.size := by obtain ⟨_, _, _, _, _, _, _, hp, _⟩ := htj; exact hp
  have hrunop : ∀ {v' w'}, (Builtin.append_ #[t, t] o.type #[tv a s, tv a k]).run P w = .ok v' w' -> (execOp a.eval o).run P w = .ok (.value v') w' := by
   intro v' w' hrun;simp only [execOp, hop, resolve, invoke, builtin, Sem.run_bind, Sem.run_pure, Result.andThen_ok, List.map_toArray, List.map_cons, List.map_nil, hvx, hvy, hrun]
  have hi64 : ∀ {xs : List Int}, ∀ u ∈ xs.map (Value.int .i64), u.oneCell' = true := by
   intro xs u hu;simp only [List.mem_map] at hu
   obtain ⟨_, _, rfl⟩ := hu
   rfl
  have hss := r.slots s;cases has : get e s with
  | ownI el' b xs =>
   rw [has] at h4 hss;simp only at h4
   cases hc : (Nat.beq el' el && Nat.beq tj.size 1)
   ·rw [hc, cond_false] at h4; exact h4.elim
   rw [hc, cond_true, zr] at h4;simp only [Bool.and_eq_true] at hc
   have hel := Nat.eq_of_beq_eq_true hc.1;have hsz := Nat.eq_of_beq_eq_true hc.2;subst hel;have hO : zK w.heap el' 1 b xs.length (tv a s) (xs.map (Value.int .i64)) := hss
   have go : ∀ (ys : List Int) (news : List Value), yJ w (tv a k) ys.length 1 news -> news = ys.map (Value.int .i64) -> zhv K hs d el' (some b) (put e s .dead) xs ys -> o.wp P a w next Q := by
    rintro ys _ hS rfl ⟨hb, hst⟩;obtain ⟨v', w', hrun, hge, hres⟩ := xD (ty := o.type) hti hk htj (by rw [hsz]; exact hO) (by rw [hsz]; exact hS) hi64 hb;rw [hsz] at hres;refine zk ho (hrunop hrun) (zg1 hx r hd (by rw [has]; rfl) hO (z := λb' => .ownI el' b' (xs ++ ys)) (λb' => by simp [AV.shape]) (λb' hs' h5 h6 => hst b' hs' h5 (λhne => h6 (λh0 => hne (List.eq_nil_of_length_eq_zero (by simpa using h0))))) hge hres (λb' hOS _ => ?_));show zK _ el' 1 b' _ _ _
    rw [List.length_append, List.map_append]; exact hOS
   rcases v6 h4 with ⟨ys, h5, h6⟩ | ⟨_, _, _, h5, _⟩ | ⟨h5, h6⟩
   ·exact go ys _ (zb1 r h6) rfl h5
   ·exact h5.elim
   ·exact go [] [] (vM r h6 1).1 rfl h5
  | ownV el' sz b n f =>
   rw [has] at h4 hss;simp only at h4
   cases hc : (Nat.beq el' el && Nat.beq sz tj.size)
   ·rw [hc, cond_false] at h4; exact h4.elim
   rw [hc, cond_true, zr] at h4;simp only [Bool.and_eq_true] at hc
   have hel := Nat.eq_of_beq_eq_true hc.1;have hsz := Nat.eq_of_beq_eq_true hc.2;subst hel;obtain ⟨hsz0, olds, hO, hE⟩ := hss;have hO : zK w.heap el' sz b n (tv a s) olds := hO
   have go : ∀ (m : Nat) (g : Nat -> V) (news : List Value), yJ w (tv a k) m sz news -> v3 (okF D (zj (get e) (tv a)) w.heap.size) w.heap sz m g news -> (∀ u ∈ news, u.oneCell' = true) ->
     zhw K hs d el' sz (some b) (put e s .dead) n m f g -> o.wp P a w next Q := by
    rintro m g news hS hEn h1' ⟨hb, q, hq1, hq2, hst⟩;obtain ⟨v', w', hrun, hge, hres⟩ := xD (ty := o.type) hti hk htj (by rw [<- hsz]; exact hO) (by rw [<- hsz]; exact hS) h1' hb;rw [<- hsz] at hres;refine zk ho (hrunop hrun) (zg1 hx r hd (by rw [has]; rfl) hO (z := λb' => .ownV el' sz b' (n + m) q) (λb' => by simp [AV.shape]) hst hge hres (λb' hOS hm' => ?_));exact ⟨hsz0, _, hOS, (v3.app hO.1 hE hEn hq1 hq2).mono hm'⟩
   rcases v6 h4 with ⟨_, h5, _⟩ | ⟨sz', m, g, h5, h6⟩ | ⟨h5, h6⟩
   ·exact h5.elim
   ·cases hc2 : Nat.beq sz' sz
    ·rw [hc2, cond_false] at h5; exact h5.elim
    rw [hc2, cond_true] at h5;have := Nat.eq_of_beq_eq_true hc2;subst this;obtain ⟨news, h7, h8, h9⟩ := zb2 r hsz0 h6;exact go m g news h7 h8 h9 h5
   ·exact go 0 (λ_ => .nil) [] (vM r h6 sz).1 ⟨λi hi => by omega, λi j hi => by omega⟩ (λu hu => by simp at hu) h5
  | v xx =>
   rw [has] at h4;cases xx with
   | nil =>
    simp only at h4
    obtain ⟨_, ad, hvn⟩ := vM r has 1;have hO : ∀ sz, zK w.heap el sz 0 0 (tv a s) [] := λsz => ⟨by simp, .inl ⟨ad, hvn, rfl⟩⟩
    have goV : ∀ (m : Nat) (g : Nat -> V) (news : List Value), yJ w (tv a k) m tj.size news -> v3 (okF D (zj (get e) (tv a)) w.heap.size) w.heap tj.size m g news -> (∀ u ∈ news, u.oneCell' = true) ->
      zhw K hs d el tj.size none e 0 m (λ_ => .nil) g -> o.wp P a w next Q := by
     rintro m g news hS hEn h1' ⟨hb, q, hq1, hq2, hst⟩;obtain ⟨v', w', hrun, hge, hres⟩ := xD (ty := o.type) hti hk htj (hO _) hS h1' hb;refine zk ho (hrunop hrun) (zg2 hx r hd hvn (z := λb' => .ownV el tj.size b' (0 + m) q) (λb' => by simp [AV.shape]) hst hge hres (λb' hOS hm' => ?_));exact ⟨hpos, _, hOS, (v3.app (f := λ_ => .nil) (by simp) ⟨λi hi => by omega, λi j hi => by omega⟩ hEn hq1 hq2).mono hm'⟩
    have goI : tj.kind = .int .i64 -> ∀ (ys : List Int) (news : List Value), yJ w (tv a k) ys.length 1 news -> news = ys.map (Value.int .i64) -> zhv K hs d el none e [] ys -> o.wp P a w next Q := by
     rintro hkk ys _ hS rfl ⟨hb, hst⟩
     have hsz : tj.size = 1 := by
      obtain ⟨_, _, _, _, _, _, _, _, _, _, _, hkj⟩ := htj;rw [hkk] at hkj; exact hkj.2.1
     obtain ⟨v', w', hrun, hge, hres⟩ := xD (ty := o.type) hti hk htj (hO _) (by rw [hsz]; exact hS) hi64 (by simpa using hb);rw [hsz] at hres;refine zk ho (hrunop hrun) (zg2 hx r hd hvn (z := λb' => .ownI el b' ([] ++ ys)) (λb' => by simp [AV.shape]) (λb' hs' h5 h6 => hst b' hs' h5 (λhne => h6 (λh0 => hne (List.eq_nil_of_length_eq_zero (by simpa using h0))))) hge hres (λb' hOS _ => ?_));show zK _ el 1 b' _ _ _
     simp only [List.nil_append] at hOS ⊢
     rw [Nat.zero_add] at hOS; exact hOS
    have goN : zhu (get e k) (λ_ => False) (λsz' m g => bif Nat.beq sz' tj.size then zhw K hs d el sz' none e 0 m (λ_ => .nil) g else False) (K1 K hs d e (.v .nil)) -> o.wp P a w next Q := by
     intro h4;rcases v6 h4 with ⟨_, h5, _⟩ | ⟨sz', m, g, h5, h6⟩ | ⟨h5, h6⟩
     ·exact h5.elim
     ·cases hc2 : Nat.beq sz' tj.size
      ·rw [hc2, cond_false] at h5; exact h5.elim
      rw [hc2, cond_true] at h5;have := Nat.eq_of_beq_eq_true hc2;subst this;obtain ⟨news, h7, h8, h9⟩ := zb2 r hpos h6;exact goV m g news h7 h8 h9 h5
     ·obtain ⟨_, ad', hvk⟩ := vM r h6 1;obtain ⟨_, _, hi1, hi2, _, _, _, _, _, _, _, hkind⟩ := hti;rw [hk] at hkind;obtain ⟨rfl, _⟩ := hkind;obtain ⟨_, _, hj1, _⟩ := htj;have hrun := vL (P := P) (w := w) (t := t) (ty := o.type) (ad := ad) (n := 0) (cap := 0) (ad' := ad') (cap' := 0) hi2 hj1 (Nat.le_refl _);refine zk ho (hrunop (by rw [hvn, hvk]; exact hrun)) (zh hx r hd h5 rfl (.nil ad))
    cases hkk : tj.kind with
    | int kk =>
     rw [hkk] at h4;cases kk <;> first | exact goN h4 | skip
     rcases v6 h4 with ⟨ys, h5, h6⟩ | ⟨_, _, _, h5, _⟩ | ⟨h5, h6⟩
     ·exact goI hkk ys _ (zb1 r h6) rfl h5
     ·exact h5.elim
     ·exact goI hkk [] [] (vM r h6 1).1 rfl h5
    | _ => rw [hkk] at h4; exact goN h4
   | _ => exact h4.elim
  | _ => rw [has] at h4; exact h4.elim
 | _ => rw [hk] at h3; exact h3.elim

theorem jC (hcx : OkCx P cx) {f : Nat} {xs : List V} {vs : Array Value} (ho : o.dst = some d) (hd : d < N) (hx : Nx D w0 N K next) (r : R D w0 N (get e) hs a w)
  (hl : vs.size = xs.length) (hr : ∀ j, j < xs.length -> Rep (xO D (get e) a w) w.heap (xs.getD j .nil) (vs.getD j undef))
  (hrun : xN P f -> (execOp a.eval o).run P w = .ok (.enter f vs) w)
  (h : kJ cx K d e hs f xs) : o.wp P a w next Q := by
 obtain ⟨post, hf, h1⟩ := h;obtain ⟨hc, hcall⟩ := hcx.fns f xs post hf;unfold Oper.wp;rw [hrun hc, Oper.upon_enter]
 have hD : ∀ b, (D b ∨ zj (get e) (tv a) b) -> b < w.heap.size := by
  rintro b (hb | ⟨k, hk⟩)
  ·have := r.old b hb; have := r.hs1; have := r.hs2; omega
  ·exact (r.real k b hk).2
 refine (hcall _ w vs hD hl hr).mono ?_;rintro ee w' ⟨v, av, hi, rfl, hhi, hp, hbel, hres, havr, hfresh⟩;have hg : w.grownBy w' none := ⟨hbel.os, hbel.tape, hbel.output, hbel.size, λk hk _ => hbel.block k hk⟩
 have hk := h1 w.heap.size hi w'.heap.size av r.hs2 hbel.size hhi hp (by
  cases av with
  | ownI el b ys =>
   intro hne;obtain ⟨cap, cur, hv, _⟩ := zK.real (i := 0) havr (List.length_pos_iff.2 hne);exact hfresh b (by rw [hv]; rfl)
  | ownV el sz b n f =>
   intro hne;obtain ⟨_, cells, hO, _⟩ := havr;obtain ⟨cap, cur, hv, _⟩ := hO.real (i := 0) (by omega);exact hfresh b (by rw [hv]; rfl)
  | tupO i q vs =>
   obtain ⟨us, rfl, _, _, _, h6⟩ := havr;cases q with
   | ownI el b ys =>
    intro hne;obtain ⟨cap, cur, hv, _⟩ := zK.real (i := 0) h6 (List.length_pos_iff.2 hne);exact hfresh b (by show rb1 _ _ b; rw [hv]; rfl)
   | ownV el sz b n f =>
    intro hne;obtain ⟨_, cells, hO, _⟩ := h6;obtain ⟨cap, cur, hv, _⟩ := hO.real (i := 0) (by omega);exact hfresh b (by show rb1 _ _ b; rw [hv]; rfl)
   | _ => trivial
  | _ => trivial)
 show next (a.put o.dst v) w'
 rw [ho]
 have hm : ∀ g b, okR (λb => (D b ∨ zj (get e) (tv a) b) ∨ rb av v b) w'.heap.size g b -> okF D (λb => zj (get e) (tv a) b ∨ rb av v b) w'.heap.size g b := by
  rintro g b ⟨h3, h4, h5⟩;refine ⟨h3, λh => h4 (h.imp .inr id), ?_⟩;cases g with
  | none => exact λh => h4 (.inl (.inl h))
  | some b' => exact h5
 have hs1 := r.hs1;have hs2 := r.hs2
 have hown : (∀ t, av.touches t = false) -> AVR (okR (λb => (D b ∨ zj (get e) (tv a) b) ∨ rb av v b) w'.heap.size) w'.heap (λ_ => .dead) (λ_ => undef) av v -> next (a.put (some d) v) w' := λhto h =>
  zj6 hx r hg (Nat.le_refl _) (by have := hbel.size; omega) hd hk hfresh hto (AVR.keep h (λg b hb => ⟨hm g b hb, rfl⟩) (λ_ _ => rfl) (λt ht => by rw [hto t] at ht; cases ht))
 cases av with
 | v x => exact zj5 hx r hg (Nat.le_refl _) (by have := hbel.size; omega) hd hk rfl (Rep.mono havr λg b hb => ⟨yo (λb h => .inl h) (hm g b hb), rfl⟩)
 | ownI el b ys => exact hown (λ_ => rfl) havr
 | ownV el sz b n f => exact hown (λ_ => rfl) havr
 | ownB b x => exact hown (λ_ => rfl) havr
 | tupO i q vs => exact hown (λ_ => rfl) havr
 | _ => simp [AV.isRes] at hres

theorem R.addTab (r : R D w0 N (get e) hs a w) {w' : World} (hg : w.grownBy w' none) {hs' : Nat} (h1 : hs' <= w'.heap.size) (h2 : w0.heap.size <= hs') {tb0 tb' : Tab} (ht : get e vt = .tab tb0)
  (hnew : ∀ b, tb' b ≠ none -> tb0 b ≠ none ∨ (w.heap.size <= b ∧ b < w'.heap.size))
  (htab : ∀ b xs, tb' b = some xs -> ∃ cur el, w'.heap[b]? = some (.cells cur el (0, 0)) ∧ ∀ j, j < xs.length -> cur[j]? = some (.int .i64 (xs.getD j 0))) :
  R D w0 N (get (put e vt (.tab tb'))) hs' a w' := by
 rw [zd]
 have hrb : ∀ k b, rb (upd (get e) vt (.tab tb') k) (tv a k) b -> rb (get e k) (tv a k) b ∨ (k = vt ∧ w.heap.size <= b ∧ b < w'.heap.size) := by
  intro k b hb
  by_cases hk : k = vt
  ·subst hk;simp only [upd, if_true, rb] at hb
   rcases hnew b hb with h | h
   ·exact .inl (by rw [ht]; exact h)
   ·exact .inr ⟨rfl, h⟩
  ·simp only [upd, hk, if_false] at hb; exact .inl hb
 refine r.next none hg (by simp) r.defers r.size h1 h2 (λk b hb => (hrb k b hb).imp id λh => .inr h.2) (λk k' b hb hb' => ?_) λk => ?_
 ·rcases hrb k b hb with h | ⟨h, h3, _⟩ <;> rcases hrb k' b hb' with h' | ⟨h', h3', _⟩
  ·exact r.dist k k' b h h'
  ·have := (r.real k b h).2; omega
  ·have := (r.real k' b h').2; omega
  ·omega
 ·by_cases hk : k = vt
  ·subst hk;refine .inr (.inr ⟨.inr (Nat.le_refl _), ?_⟩);have e1 : upd (get e) vt (.tab tb') vt = .tab tb' := by simp [upd]
   rw [e1];exact htab
  ·refine .inr (.inl ⟨by simp [upd, hk], rfl, by simp, λu _ => ⟨rfl, ?_⟩⟩)
   by_cases hu : u = vt
   ·subst hu; exact .inl (by simp [upd, AV.shape])
   ·exact .inr (by simp [upd, hu])

theorem zdS (hcx : OkCx P cx) {f : Nat} {xs : List V} {vs : Array Value} (ho : o.dst = some d) (hd : d < N) (hx : Nx D w0 N K next) (r : R D w0 N (get e) hs a w)
  (hl : vs.size = xs.length) (hr : ∀ j, j < xs.length -> Rep (xO D (get e) a w) w.heap (xs.getD j .nil) (vs.getD j undef))
  (hrun : xN P f -> (execOp a.eval o).run P w = .ok (.enter f vs) w)
  (h : zf2 cx K d e hs f xs) : o.wp P a w next Q := by
 obtain ⟨tb0, ht, post, hf, h1⟩ := xP r h;obtain ⟨hc, hcall⟩ := hcx.tfns f xs post hf;unfold Oper.wp;rw [hrun hc, Oper.upon_enter]
 have hD : ∀ b, (D b ∨ zj (get e) (tv a) b) -> b < w.heap.size := by
  rintro b (hb | ⟨k, hk⟩)
  ·have := r.old b hb; have := r.hs1; have := r.hs2; omega
  ·exact (r.real k b hk).2
 refine (hcall _ w vs hD hl hr).mono ?_;rintro ee w' ⟨v, x, tb, hi, rfl, hhi, hp, hbel, hrep, hfr, htab⟩;have hg : w.grownBy w' none := ⟨hbel.os, hbel.tape, hbel.output, hbel.size, λk hk _ => hbel.block k hk⟩
 have hold : ∀ b, tb0 b ≠ none -> b < w.heap.size := λb hb => (r.real vt b (by rw [ht]; exact hb)).2
 let tb' : Tab := λb => if tb b = none then tb0 b else tb b
 have h3 := h1 w.heap.size hi w'.heap.size x tb tb' r.hs2 hbel.size hhi hp hfr
  (λb c h => by show (if tb b = none then tb0 b else tb b) = some c; rw [if_neg (by rw [h]; simp)]; exact h)
  (λb c h => by
   show (if tb b = none then tb0 b else tb b) = some c
   have h4 := hold b (by rw [h]; simp)
   by_cases h5 : tb b = none
   ·rw [if_pos h5]; exact h
   ·have := (hfr b h5).1; omega)
 rw [zr] at h3
 have hnew : ∀ b, tb' b ≠ none -> tb0 b ≠ none ∨ (w.heap.size <= b ∧ b < w'.heap.size) := by
  intro b hb;have hb : (if tb b = none then tb0 b else tb b) ≠ none := hb
  by_cases h5 : tb b = none
  ·rw [if_pos h5] at hb; exact .inl hb
  ·exact .inr (hfr b h5)
 have rA := r.addTab (tb' := tb') (hs' := w'.heap.size) hg (Nat.le_refl _) (by have := hbel.size; have := r.hs1; have := r.hs2; omega) ht hnew (by
  intro b ys hb;have hb : (if tb b = none then tb0 b else tb b) = some ys := hb
  by_cases h5 : tb b = none
  ·rw [if_pos h5] at hb;have h6 := r.slots vt;rw [ht] at h6;obtain ⟨cur, el, h7, h8⟩ := h6 b ys hb;exact ⟨cur, el, by rw [hbel.block b (hold b (by rw [hb]; simp))]; exact h7, h8⟩
  ·rw [if_neg h5] at hb; exact htab b ys hb)
 show next (a.put o.dst v) w'
 rw [ho];refine zh hx rA hd h3 rfl (Rep.mono hrep ?_);rintro g b ⟨h5, h6, h7⟩;refine ⟨⟨h5, ?_, ?_⟩, rfl⟩
 ·rintro ⟨k, hk⟩;rw [zd] at hk
  by_cases hkv : k = vt
  ·subst hkv;simp only [upd, if_true, rb] at hk
   have hk : (if tb b = none then tb0 b else tb b) ≠ none := hk
   by_cases h8 : tb b = none
   ·rw [if_pos h8] at hk; exact h6 (.inl (.inr ⟨vt, by rw [ht]; exact hk⟩))
   ·exact h6 (.inr h8)
  ·simp only [upd, hkv, if_false] at hk
   exact h6 (.inl (.inr ⟨k, hk⟩))
 ·cases g with
  | none => exact λhd => h6 (.inl (.inl hd))
  | some b' => exact h7

theorem zdT (hcx : OkCx P cx) {f : Nat} {args : List Operand} {ts : List Nat} (ho : o.dst = some d) (hop : o.op = .call ⟨.value (.func f), ⟨args⟩, ⟨ts⟩⟩) (hd : d < N) (hx : Nx D w0 N K next) (r : R D w0 N (get e) hs a w)
  (h : zbr cx K d f args ts e hs) : o.wp P a w next Q := by
 unfold zbr at h
 split at h
 case h_2 k _ => exact zeS hcx ho hop hd hx r h
 split at h
 ·obtain ⟨xs, h1, hl, hr⟩ := zaV hcx.tt r h
  have hrr : ∀ j, j < xs.length -> Rep (xO D (get e) a w) w.heap (xs.getD j .nil) (((args.map a.eval).toArray).getD j undef) := λj hj => by
   have := hr j (by omega)
   simpa [Array.getD_eq_getD_getElem?, List.getD_eq_getElem?_getD] using this
  have hrun : xN P f -> (execOp a.eval o).run P w = .ok (.enter f (args.map a.eval).toArray) w := λhc => by
   have := jS (P := P) (w := w) (vs := (args.map a.eval).toArray) hc;simp [execOp, hop, resolve, Deferred.ofValue, Act.eval, invoke, this]
  cases hts : cx.ts.elem f
  ·rw [hts] at h1;exact jC hcx (vs := (args.map a.eval).toArray) ho hd hx r (by simp [hl]) hrr hrun h1
  ·rw [hts] at h1;exact zdS hcx (vs := (args.map a.eval).toArray) ho hd hx r (by simp [hl]) hrr hrun h1
 obtain ⟨xs, h1, hl, hr⟩ := km hcx.tt r h;refine jC hcx (vs := (args.map a.eval).toArray) ho hd hx r (by simp [hl]) (λj hj => ?_) (λhc => ?_) h1
 ·have := hr j (by omega)
  simpa [Array.getD_eq_getD_getElem?, List.getD_eq_getElem?_getD] using this
 ·have := jS (P := P) (w := w) (vs := (args.map a.eval).toArray) hc;simp [execOp, hop, resolve, Deferred.ofValue, Act.eval, invoke, this]

theorem zcW (hcx : OkCx P cx) {t : Nat} {args : List Operand} {ts : List Nat} (ho : o.dst = some d) (hop : o.op = .call ⟨.value (.tmp t), ⟨args⟩, ⟨ts⟩⟩) (hd : d < N) (hx : Nx D w0 N K next) (r : R D w0 N (get e) hs a w)
  (h : zbJ cx K d t args ts e hs) : o.wp P a w next Q := by
 obtain ⟨vf, h0, hrf⟩ := zA r h;cases vf with
 | func f caps =>
  obtain ⟨xs, h1, hl, hr⟩ := km hcx.tt r h0;generalize hvv : a.eval (.tmp t) = vv at hrf;cases hrf with
  | func f caps cvs hcl hcr =>
   refine jC hcx (vs := (args.map a.eval).toArray ++ cvs) ho hd hx r (by simp [hl, hcl]) (λj hj => ?_) (λhc => ?_) h1
   ·rw [Array.getD_eq_getD_getElem?, List.getD_eq_getElem?_getD]
    by_cases hja : j < args.length
    ·have := hr j hja;rw [List.getElem?_append_left (by omega), Array.getElem?_append_left (by simpa using hja)]
     simpa [Array.getD_eq_getD_getElem?, List.getD_eq_getElem?_getD] using this
    ·have := hcr (j - args.length) (by simp at hj; omega);rw [List.getElem?_append_right (by omega), Array.getElem?_append_right (by simp; omega), hl]
     simpa [Array.getD_eq_getD_getElem?, List.getD_eq_getElem?_getD] using this
   ·have := jS (P := P) (w := w) (vs := (args.map a.eval).toArray ++ cvs) hc;simp only [execOp, hop, resolve, hvv, Deferred.ofValue, Sem.run_bind, Sem.run_pure, Result.andThen_ok, invoke]
    simpa using this
 | _ => exact h0.elim

end
open Go Go.RowKit

section
variable {P : Program} {cx : Cx} {D : Nat -> Prop} {w0 : World} {N : Nat} {hs : Nat} {a : Act} {w w' : World} {K : S -> Prop} {next : Act -> World -> Prop} {Q : Exit -> Act -> World -> Prop} {o : Oper} {d : Nat} {e : Env}

theorem yr (hcx : OkCx P cx) (hd : ∀ d, o.dst = some d -> d < N) (hx : Nx D w0 N K next) (r : R D w0 N (get e) hs a w) (h : vb cx o K e hs) : o.wp P a w next Q := by
 unfold vb at h;cases ho : o.dst with
 | none =>
  rw [ho] at h;simp only at h
  split at h
  ·rename_i t aa x hop; exact zeP hcx ho hop hx r h
  ·exact h.elim
 | some d =>
  rw [ho] at h;have hdN := hd d ho;simp only at h
  split at h
  ·rename_i x hop; exact zf4 ho hop hdN hx r h
  ·rename_i x hop; exact zdN ho hop hdN hx r h
  ·rename_i x hop; exact zbO ho hop hdN hx r h
  ·rename_i c x y hop; exact zf5 ho hop hdN hx r h
  ·rename_i t x ty hop; exact zeJ hcx ho hop hdN hx r h
  ·rename_i op tx x y ty hop; exact zeI hcx ho hop hdN hx r h
  ·rename_i op tx x hop; exact zf6 ho hop hdN hx r h
  ·rename_i s t x hop; exact zcS hcx ho hop hdN hx r h
  ·rename_i t hop; exact zeM hcx ho hop hdN hx r h
  ·rename_i t x hop; exact zhG hcx ho hop hdN hx r h
  ·rename_i t ps hop; exact zeO hcx ho hop hdN hx r h
  ·rename_i t n ps hop; exact zav hcx ho hop hdN hx r h
  ·rename_i t aa hop; exact zf8 hcx ho hop hdN hx r h
  ·rename_i t l c hop; exact zbh hcx ho hop hdN hx r h
  ·rename_i f caps hop; exact zbQ ho hop hdN hx r h
  ·rename_i t x lo hi mx hop; exact zdP hcx ho hop hdN hx r h
  ·rename_i t aa k hop; exact zbi hcx ho hop hdN hx r h
  ·rename_i t x k hop; exact zeL hcx ho hop hdN hx r h
  ·rename_i t x i hop; exact zbj hcx ho hop hdN hx r h
  ·rename_i t i hop; exact zcT ho hop hdN hx r h
  ·rename_i x t hop; exact zhD hcx ho hop hdN hx r h
  ·rename_i x y ts hop; exact zhE ho hop hdN hx r h
  ·rename_i x y ts hop; exact zhF ho hop hdN hx r h
  ·rename_i x y t t' hop; exact zdR hcx ho hop hdN hx r h
  ·rename_i x y t t' hop; exact zga hcx ho hop hdN hx r h
  ·rename_i f args ts hop; exact zdT hcx ho hop hdN hx r h
  ·rename_i t args ts hop; exact zcW hcx ho hop hdN hx r h
  ·exact h.elim

theorem xK : ∀ (l : List Oper) (j : Nat), vr l j = (l[j]?).bind (·.dst)
 | [], j => by simp [vr]
 | o :: _, 0 => by simp [vr]
 | _ :: r, j + 1 => by simpa [vr] using xK r j

theorem xk : ∀ {l : List Oper}, yF N l = true -> ∀ o ∈ l, ∀ d, o.dst = some d -> d < N
 | [], _, o, ho, _, _ => by simp at ho
 | p :: l, h, o, ho, d, hd => by
  simp only [yF, Bool.and_eq_true] at h
  rcases List.mem_cons.1 ho with rfl | ho
  ·rw [hd] at h; simpa using h.1
  ·exact xk h.2 o ho d hd

theorem R.decide (r : R D w0 N (get e) hs a w) {t : Nat} {c : Bool} (h : get e t = .v (.bool c)) : R D w0 N (get (put e t (.v (bif c then .tr else .fa)))) hs a w := by
 rw [zd];refine r.freeze (r.dom t (by rw [h]; simp)) ?_;have := y4 (r.val h);show Rep _ _ _ _
 rw [this];cases c
 ·exact .fa
 ·exact .tr

theorem xL (hx : Nx D w0 N K next) (r : R D w0 N (get e) hs a w) (hd : ∀ d, o.dst = some d -> d < N) (h : jt o K e hs) : next (a.put o.dst undef) w := by
 unfold jt at h;cases ho : o.dst with
 | none => rw [ho] at h; exact hx _ _ _ r h
 | some d => rw [ho] at h; exact zh hx r (hd d ho) h rfl (.tup [] #[] rfl (λj hj => by simp at hj))

theorem zaZ (hcx : OkCx P cx) {ops : Array Oper} (hlt : yF N ops.toList = true) {Q : Exit -> Act -> World -> Prop} : ∀ (rest : List Oper) (k : Nat) {e : Env} {hs : Nat} {a : Act} {w : World}, ops.toList.drop k = rest ->
   R D w0 N (get e) hs a w -> Nx D w0 N K (Q .normal) -> zaU cx ops.toList rest K e hs -> wpOps P ops Q (List.range' k rest.length) a w
 | [], k, e, hs, a, w, _, r, hx, h => hx _ _ _ r h
 | o :: rest, k, e, hs, a, w, hdr, r, hx, h => by
   obtain ⟨hklt, _, hko⟩ := z5 (z := default) hdr;have hop : ops[k]? = some o := by rw [<- Array.getElem?_toList]; exact hko
   have hdr' : ops.toList.drop (k + 1) = rest := by
     rw [<- List.drop_drop, hdr]; rfl
   have hmem : o ∈ ops.toList := List.mem_of_getElem? hko;have hd := xk hlt o hmem
   have ih : Nx D w0 N (λs => match s with | ⟨e, hs⟩ => zaU cx ops.toList rest K e hs) (wpOps P ops Q (List.range' (k + 1) rest.length)) :=
     λs a' w' r' h' => zaZ hcx hlt rest (k + 1) hdr' r' hx h'
   rw [List.length_cons, List.range'_succ];simp only [wpOps, hop]
   simp only [zaU, ju] at h
   cases hg : o.guard with
   | none =>
     rw [hg] at h;simp only [Region.wanted, hg, if_true]
     exact .inl (yr hcx hd ih r h)
   | some q =>
     obtain ⟨j, want⟩ := q;rw [hg] at h;simp only at h
     rw [xK] at h;cases hj : (ops.toList[j]?).bind (·.dst) with
     | none => rw [hj] at h; exact h.elim
     | some t =>
       rw [hj] at h;simp only [zb] at h
       have hy : ∀ b, tv a t = .bool b -> t < N -> yielded ops a.tmps j = some b := by
         intro b hb htN;rw [Array.getElem?_toList] at hj
         have h3 : a.tmps[t]? = some (.bool b) := by
           have htl : t < a.tmps.size := by rw [r.size]; exact htN
           have : tv a t = a.tmps[t] := by simp [tv, Array.getD, htl]
           rw [Array.getElem?_eq_getElem htl, <- this, hb]
         simp [yielded, hj, h3]
       have go : ∀ (c : Bool) (e : Env), t < N -> R D w0 N (get e) hs a w -> tv a t = .bool c -> (bif (c == want) then vb cx o (λs => match s with | ⟨e, hs⟩ => zaU cx ops.toList rest K e hs) e hs else jt o (λs => match s with | ⟨e, hs⟩ => zaU cx ops.toList rest K e hs) e hs) ->
           (if Region.wanted o (yielded ops a.tmps) = true then o.wp P a w (wpOps P ops Q (List.range' (k + 1) rest.length)) Q ∨ (o.asks P a w ∧ LetsOut Q)
             else wpOps P ops Q (List.range' (k + 1) rest.length) (a.put o.dst undef) w) := by
         intro c e htN r hc h
         have hw : Region.wanted o (yielded ops a.tmps) = (c == want) := by
           simp [Region.wanted, hg, hy c hc htN]
         rw [hw];cases hcw : (c == want)
         · rw [hcw, cond_false] at h
           simp only [Bool.false_eq_true, if_false]
           exact xL ih r hd h
         · rw [hcw, cond_true] at h
           simp only [if_true]
           exact .inl (yr hcx hd ih r h)
       cases ht : get e t with
       | v x =>
         have htN' : ∀ {c : Bool}, tv a t = .bool c -> t < N := λ{c} hc => by
           rcases Nat.lt_or_ge t N with h | h
           · exact h
           · have h2 : tv a t = undef := by
               simp only [tv, Array.getD_eq_getD_getElem?]
               rw [Array.getElem?_eq_none (by rw [r.size]; exact h)]; rfl
             rw [h2] at hc; cases hc
         rw [ht] at h;cases x with
         | tr => exact go true e (htN' (xQ (r.val ht))) r (xQ (r.val ht)) (by cases want <;> exact h)
         | fa => exact go false e (htN' (xR (r.val ht))) r (xR (r.val ht)) (by cases want <;> exact h)
         | bool c =>
           have hv := y4 (r.val ht);have hr' := r.decide ht;simp only [zr] at h
           cases c
           · exact go false _ (htN' hv) hr' hv (by have := h.2 rfl; cases want <;> exact this)
           · exact go true _ (htN' hv) hr' hv (by have := h.1 rfl; cases want <;> exact this)
         | tup vs =>
           cases vs with
           | nil =>
             have hv : tv a t = undef := by
               have := r.val ht;generalize tv a t = v at this;cases this with
               | tup _ vs hl _ => exact congrArg Value.tuple (Array.eq_empty_of_size_eq_zero hl)
             have hy' : yielded ops a.tmps j = none := by
               rw [Array.getElem?_toList] at hj;unfold yielded;rw [hj];rcases Nat.lt_or_ge t a.tmps.size with htl | htl
               · have : tv a t = a.tmps[t] := by simp [tv, Array.getD, htl]
                 rw [Option.bind_some, Array.getElem?_eq_getElem htl, <- this, hv]; rfl
               · rw [Option.bind_some, Array.getElem?_eq_none htl]
             have hw : Region.wanted o (yielded ops a.tmps) = false := by simp [Region.wanted, hg, hy']
             rw [hw];simp only [Bool.false_eq_true, if_false]
             exact xL ih r hd h
           | cons _ _ => exact h.elim
         | _ => exact h.elim
       | _ => rw [ht] at h; exact h.elim

def W (P : Program) (_cx : Cx) (N base : Nat) (c : Code) (Q : Exit -> S -> Prop) (s : S) : Prop :=
 ∀ (D : Nat -> Prop) (w0 : World) (a : Act) (w : World), w0.heap.size = base -> R D w0 N (get s.env) s.hs a w ->
  c.wp P (λex a' w' => ∃ s', R D w0 N (get s'.env) s'.hs a' w' ∧ Q ex s') a w

variable {base : Nat} {QQ : Exit -> S -> Prop} {s : S} {x y : Code}

theorem W.skip (h : QQ .normal s) : W P cx N base .skip QQ s := λ_D _w0 _a _w _ r => wp_skip ⟨s, r, h⟩
theorem W.exit {id : Nat} (h : QQ (.exit id) s) : W P cx N base (.exit id) QQ s := λ_D _w0 _a _w _ r => wp_exit ⟨s, r, h⟩
theorem W.ret (h : QQ .ret s) : W P cx N base .ret QQ s := λ_D _w0 _a _w _ r => wp_ret ⟨s, r, h⟩

theorem W.region (hcx : OkCx P cx) {id : Nat} {ops : Array Oper} (hlt : yF N ops.toList = true)
  (h : zaU cx ops.toList ops.toList (λs => j5 s.env cx.ks λe => QQ .normal ⟨e, s.hs⟩) s.env s.hs) : W P cx N base (.region id ops false) QQ s := by
 intro D w0 a w _ r;refine wp_region ?_
 have := zaZ (N := N) (D := D) (w0 := w0) hcx hlt (Q := λex a' w' => ∃ s', R D w0 N (get s'.env) s'.hs a' w' ∧ QQ ex s') ops.toList 0 rfl r (λs' a' w' r' h' => by
  rw [zbM] at h';refine ⟨_, ?_, h'⟩;show R D w0 N (get (ym cx.ks s'.env)) s'.hs a' w'
  rw [zbL];exact r'.weak λk => by cases cx.ks.elem k <;> simp) h
 rwa [Array.length_toList, <- List.range_eq_range'] at this

theorem W.seq (h : W P cx N base x (Ex (W P cx N base y QQ) QQ) s) : W P cx N base (.seq x y) QQ s := by
 intro D w0 a w hb r;refine wp_seq (wp_mono (h D w0 a w hb r) ?_);rintro ex a' w' ⟨s', r', hq⟩;cases ex with
 | normal => exact hq D w0 a' w' hb r'
 | _ => exact ⟨s', r', hq⟩

theorem W.seqK (h : ∀ K : S -> Prop, (∀ s, W P cx N base y QQ s -> K s) -> W P cx N base x (Ex K QQ) s) : W P cx N base (.seq x y) QQ s := W.seq (h _ λ_ h => h)

theorem W.rs (hcx : OkCx P cx) {id : Nat} {ops : Array Oper} (hlt : yF N ops.toList = true)
  (h : ∀ K : S -> Prop, (∀ s, W P cx N base y QQ s -> K s) -> zaU cx ops.toList ops.toList (λs => j5 s.env cx.ks λe => K ⟨e, s.hs⟩) s.env s.hs) : W P cx N base (.seq (.region id ops false) y) QQ s :=
 W.seq (W.region hcx hlt (h _ λ_ h => h))

theorem W.cond {c : Operand} (h : rdK s.env c λv => match v with
  | .tr => W P cx N base x QQ s
  | .fa => W P cx N base y QQ s
  | .bool t => (t = true -> W P cx N base x QQ s) ∧ (t = false -> W P cx N base y QQ s)
  | _ => False) : W P cx N base (.cond c x y) QQ s := by
 intro D w0 a w hb r;obtain ⟨v, h1, hr⟩ := zA r h;cases v with
 | tr => exact wp_cond_true (xQ hr) (h1 D w0 a w hb r)
 | fa => exact wp_cond_false (xR hr) (h1 D w0 a w hb r)
 | bool t =>
  have hv := y4 hr;cases t
  ·exact wp_cond_false hv (h1.2 rfl D w0 a w hb r)
  ·exact wp_cond_true hv (h1.1 rfl D w0 a w hb r)
 | _ => exact h1.elim

theorem W.block {id : Nat} (h : W P cx N base x (ExB id QQ) s) : W P cx N base (.block id x) QQ s := by
 intro D w0 a w hb r;refine wp_block (wp_mono (h D w0 a w hb r) ?_);rintro ex a' w' ⟨s', r', hq⟩;cases ex with
 | exit id' =>
  simp only [Exit.inBlock]
  by_cases hid : id' = id
  ·subst hid; simp only [if_true]; simp only [ExB, zQ, cond_true] at hq; exact ⟨s', r', hq⟩
  ·simp only [hid, if_false]; simp only [ExB, yk hid, cond_false] at hq; exact ⟨s', r', hq⟩
 | _ => exact ⟨s', r', hq⟩

theorem zhN {ok : OkB} {h : Array Obj} {x y : V} {v : Value} (hl : leV x y) (r : Rep ok h x v) : Rep ok h y v := by
 have heq : ∀ x y : V, x = y -> Rep ok h x v -> Rep ok h y v := λ_ _ e r => e ▸ r;unfold leV at hl
 split at hl
 ·obtain ⟨rfl, rfl⟩ := hl; exact r
 ·obtain ⟨rfl, rfl⟩ := hl; exact r
 ·subst hl;cases r with
  | nil ad => exact .ints _ [] ad 0 (Nat.le_refl _) (by simp [maxLen]) (λj hj => by simp at hj)
 ·subst hl;cases r with
  | nil ad => exact .vals _ _ 0 _ ad 0 (Nat.le_refl _) (by simp [maxLen]) (λi hi => by omega) (λi hi => by omega) (λ_ _ => undef) (λi j hi => by omega) (λi j hi => by omega)
 ·subst hl;cases r with
  | nil ad => exact .rf0 _ ad 0 (by simp [maxLen])
 ·obtain ⟨rfl, rfl⟩ := hl;cases r with
  | wh _ _ _ _ ho hk => exact zK.ints ho hk
 ·obtain ⟨rfl, rfl, rfl, hf⟩ := hl;cases r with
  | vals g sz n f ad cap hc hm hl' hff c hx hr =>
   exact .vals _ _ _ _ ad cap hc hm (λi hi => by rw [<- hf i hi]; exact hl' i hi) (λi hi => by rw [<- hf i hi]; exact hff i hi) c hx (λi j hi hj => by rw [<- hf i hi]; exact hr i j hi hj)
 ·subst hl; cases r; exact .bool true
 ·subst hl; cases r; exact .bool false
 ·subst hl; exact r
 ·exact heq _ _ hl r

theorem v3.congr {ok : OkB} {h : Array Obj} {sz n : Nat} {f g : Nat -> V} {cells : List Value} (hf : ∀ i, i < n -> f i = g i) (r : v3 ok h sz n f cells) : v3 ok h sz n g cells :=
 ⟨λi hi => by rw [<- hf i hi]; exact r.1 i hi, λi j hi hj => by rw [<- hf i hi]; exact r.2 i j hi hj⟩

theorem R.leAll {σ σ' : Nat -> AV} (r : R D w0 N σ hs a w) (hl : ∀ k, leK (σ k) (σ' k)) : R D w0 N σ' hs a w := by
 -- what is owned afterwards was owned before
 have hrb : ∀ k b, rb (σ' k) (tv a k) b -> rb (σ k) (tv a k) b ∧ (σ' k).shape = (σ k).shape := by
  intro k b hb;have h1 := hl k;have hs := r.slots k;cases hσ' : σ' k with
  | ownI el b' xs =>
   rw [hσ'] at h1 hb;cases hσ : σ k with
   | ownI e2 b2 xs2 =>
    rw [hσ] at h1;obtain ⟨rfl, rfl, rfl⟩ := h1;exact ⟨hb, rfl⟩
   | v x =>
    rw [hσ] at h1 hs;cases x with
    | nil =>
     exfalso
     have hv : Rep _ _ V.nil (tv a k) := hs;generalize tv a k = vv at hv hb;cases hv with
     | nil ad => cases ad <;> simp [rb] at hb
    | _ => exact h1.elim
   | _ => rw [hσ] at h1; exact h1.elim
  | ownV el sz b' n f =>
   rw [hσ'] at h1 hb;cases hσ : σ k with
   | ownV e2 sz2 b2 n2 f2 =>
    rw [hσ] at h1;obtain ⟨rfl, rfl, rfl, rfl, _⟩ := h1;exact ⟨(congrFun (jv (x := .ownV e2 sz2 b2 n2 f2) (y := .ownV e2 sz2 b2 n2 f) rfl rfl _) b).mpr hb, rfl⟩
   | v x =>
    rw [hσ] at h1 hs;cases x with
    | nil =>
     exfalso
     have hv : Rep _ _ V.nil (tv a k) := hs;generalize tv a k = vv at hv hb;cases hv with
     | nil ad => cases ad <;> simp [rb] at hb
    | _ => exact h1.elim
   | _ => rw [hσ] at h1; exact h1.elim
  | ownB b' x =>
   rw [hσ'] at h1 hb;cases hσ : σ k with
   | ownB b2 x2 =>
    rw [hσ] at h1;obtain ⟨rfl, rfl⟩ := h1;exact ⟨hb, rfl⟩
   | v y => rw [hσ] at h1; cases y <;> exact h1.elim
   | _ => rw [hσ] at h1; exact h1.elim
  | tab tb' =>
   rw [hσ'] at h1 hb;cases hσ : σ k with
   | tab tb =>
    rw [hσ] at h1;refine ⟨?_, rfl⟩;have hb' : tb' b ≠ none := hb;show tb b ≠ none
    cases hx : tb' b with
    | none => exact absurd hx hb'
    | some xs => rw [h1 b xs hx]; simp
   | v y => rw [hσ] at h1; cases y <;> exact h1.elim
   | _ => rw [hσ] at h1; exact h1.elim
  | keep O' U' hw' kk' vv' =>
   rw [hσ'] at h1 hb;cases hσ : σ k with
   | keep O U hw kk vv =>
    rw [hσ] at h1;obtain ⟨rfl, rfl, rfl, rfl, rfl⟩ := h1;exact ⟨hb, rfl⟩
   | v y => rw [hσ] at h1; cases y <;> exact h1.elim
   | _ => rw [hσ] at h1; exact h1.elim
  | tupO i q vs =>
   rw [hσ'] at h1 hb;cases hσ : σ k with
   | tupO i2 q2 vs2 =>
    rw [hσ] at h1;obtain ⟨rfl, rfl, rfl⟩ := h1;exact ⟨hb, rfl⟩
   | v y => rw [hσ] at h1; cases y <;> exact h1.elim
   | _ => rw [hσ] at h1; exact h1.elim
  | _ => rw [hσ'] at hb; simp [rb] at hb
 have how : ∀ b, zj σ' (tv a) b -> zj σ (tv a) b := λb ⟨k, hk⟩ => ⟨k, (hrb k b hk).1⟩
 have hok : ∀ g b, okF D (zj σ (tv a)) w.heap.size g b -> okF D (zj σ' (tv a)) w.heap.size g b ∧ w.heap[b]? = w.heap[b]? := λg b hb => ⟨yo how hb, rfl⟩
 -- an owned block that is given up
 have hgive : ∀ k b, rb (σ k) (tv a k) b -> (σ' k).free = true -> ∀ g, (g = none ∨ g = some b) -> okF D (zj σ' (tv a)) w.heap.size g b := by
  intro k b h1 h2 g hg
  have h3 : ¬ zj σ' (tv a) b := by
   rintro ⟨k', hk'⟩;have := r.dist k' k b (hrb k' b hk').1 h1;subst this;exact zgW h2 hk'
  rcases hg with rfl | rfl
  ·exact ⟨(r.real k b h1).2, h3, r.notD h1⟩
  ·exact ⟨(r.real k b h1).2, h3, rfl⟩
 refine r.next none (World.grownBy_refl w none) (by simp) r.defers r.size r.hs2 r.hs1 (λk b hb => .inl (hrb k b hb).1) (λk k' b hb hb' => r.dist k k' b (hrb k b hb).1 (hrb k' b hb').1) λk => ?_;have h1 := hl k;have hs := r.slots k;have hN : σ k ≠ .dead -> k < N ∨ vt <= k := r.dom k;cases hσ' : σ' k with
 | dead => exact .inl rfl
 | v y =>
  refine .inr (.inr ?_);rw [hσ'] at h1;have hnone : (σ' k).free = true := by rw [hσ']; rfl
  cases hσ : σ k with
  | v x => rw [hσ] at h1 hs; exact ⟨hN (by rw [hσ]; simp), zhN h1 (Rep.mono hs hok)⟩
  | ownI el b xs =>
   rw [hσ] at h1 hs;cases y with
   | ints g ys =>
    obtain ⟨hg, rfl⟩ := h1;exact ⟨hN (by rw [hσ]; simp), zK.ints hs λc hc => hgive k b (by rw [hσ, show tv a k = _ from hc]; rfl) hnone g hg⟩
   | _ => exact h1.elim
  | ownV el sz b n f =>
   rw [hσ] at h1 hs;cases y with
   | vals g sz' n' f' =>
    obtain ⟨hg, rfl, rfl, hf⟩ := h1;obtain ⟨_, cells, hO, hE⟩ := hs;exact ⟨hN (by rw [hσ]; simp), zK.vals hO (hE.congr hf) (λc hc => hgive k b (by rw [hσ, show tv a k = _ from hc]; rfl) hnone g hg) (λg b hb => yo how hb)⟩
   | _ => exact h1.elim
  | _ => rw [hσ] at h1; exact h1.elim
 | ownI el b xs =>
  rw [hσ'] at h1;cases hσ : σ k with
  | ownI e2 b2 xs2 =>
   rw [hσ] at h1;obtain ⟨rfl, rfl, rfl⟩ := h1;exact .inr (.inl ⟨rfl, rfl, by simp, λs hs => by simp [AV.touches] at hs⟩)
  | v x =>
   rw [hσ] at h1 hs;cases x with
   | nil =>
    refine .inr (.inr ⟨hN (by rw [hσ]; simp), ?_⟩);have hxs : xs = [] := h1;subst hxs;have hv : Rep _ _ V.nil (tv a k) := hs;show zK _ _ _ _ _ (tv a k) _
    generalize tv a k = vv at hv;cases hv with
    | nil ad => exact ⟨by simp, .inl ⟨ad, rfl, rfl⟩⟩
   | _ => exact h1.elim
  | _ => rw [hσ] at h1; exact h1.elim
 | ownV el sz b n f =>
  rw [hσ'] at h1;cases hσ : σ k with
  | ownV e2 sz2 b2 n2 f2 =>
   rw [hσ] at h1 hs;obtain ⟨rfl, rfl, rfl, rfl, hf⟩ := h1;refine .inr (.inr ⟨hN (by rw [hσ]; simp), ?_⟩);obtain ⟨h0, cells, hO, hE⟩ := hs;exact ⟨h0, cells, hO, (hE.congr hf).mono hok⟩
  | v x =>
   rw [hσ] at h1 hs;cases x with
   | nil =>
    refine .inr (.inr ⟨hN (by rw [hσ]; simp), ?_⟩);obtain ⟨hn, hsz⟩ := h1;subst hn;have hv : Rep _ _ V.nil (tv a k) := hs;refine ⟨hsz, [], ?_, ⟨λi hi => by omega, λi j hi => by omega⟩⟩;show zK _ _ _ _ _ (tv a k) _
    generalize tv a k = vv at hv;cases hv with
    | nil ad => exact ⟨by simp, .inl ⟨ad, rfl, rfl⟩⟩
   | _ => exact h1.elim
  | _ => rw [hσ] at h1; exact h1.elim
 | ownB b x =>
  rw [hσ'] at h1;cases hσ : σ k with
  | ownB b2 x2 =>
   rw [hσ] at h1;obtain ⟨rfl, rfl⟩ := h1;exact .inr (.inl ⟨rfl, rfl, by simp, λs hs => by simp [AV.touches] at hs⟩)
  | v y => rw [hσ] at h1; cases y <;> exact h1.elim
  | _ => rw [hσ] at h1; exact h1.elim
 | al s =>
  rw [hσ'] at h1;cases hσ : σ k with
  | al s2 =>
   rw [hσ] at h1 hs;have : s2 = s := h1;subst this;exact .inr (.inr ⟨hN (by rw [hσ]; simp), hs⟩)
  | v y => rw [hσ] at h1; cases y <;> exact h1.elim
  | _ => rw [hσ] at h1; exact h1.elim
 | pl s i off =>
  rw [hσ'] at h1;cases hσ : σ k with
  | v y => rw [hσ] at h1; cases y <;> exact h1.elim
  | _ => rw [hσ] at h1; exact h1.elim
 | pv y off =>
  rw [hσ'] at h1;cases hσ : σ k with
  | v y => rw [hσ] at h1; cases y <;> exact h1.elim
  | _ => rw [hσ] at h1; exact h1.elim
 | pr b i =>
  rw [hσ'] at h1;cases hσ : σ k with
  | v y => rw [hσ] at h1; cases y <;> exact h1.elim
  | _ => rw [hσ] at h1; exact h1.elim
 | sl b i n =>
  rw [hσ'] at h1;cases hσ : σ k with
  | v y => rw [hσ] at h1; cases y <;> exact h1.elim
  | _ => rw [hσ] at h1; exact h1.elim
 | tab tb' =>
  rw [hσ'] at h1;cases hσ : σ k with
  | tab tb =>
   rw [hσ] at h1 hs;exact .inr (.inr ⟨hN (by rw [hσ]; simp), λb xs hx => hs b xs (h1 b xs hx)⟩)
  | v y => rw [hσ] at h1; cases y <;> exact h1.elim
  | _ => rw [hσ] at h1; exact h1.elim
 | tupO i q vs =>
  rw [hσ'] at h1;cases hσ : σ k with
  | tupO i2 q2 vs2 =>
   rw [hσ] at h1;obtain ⟨rfl, rfl, rfl⟩ := h1;exact .inr (.inl ⟨rfl, rfl, by simp, λs hs => by simp [AV.touches] at hs⟩)
  | v y => rw [hσ] at h1; cases y <;> exact h1.elim
  | _ => rw [hσ] at h1; exact h1.elim
 | keep O' U' hw' kk' vv' =>
  rw [hσ'] at h1;cases hσ : σ k with
  | keep O U hw kk vv =>
   rw [hσ] at h1 hs;obtain ⟨rfl, rfl, rfl, rfl, rfl⟩ := h1;refine .inr (.inr ⟨hN (by rw [hσ]; simp), hs.1, λb hu => ?_, hs.2.2⟩);obtain ⟨⟨g, hg⟩, h2⟩ := hs.2.1 b hu;exact ⟨⟨g, (hok g b hg).1⟩, h2⟩
  | v y => rw [hσ] at h1; cases y <;> exact h1.elim
  | _ => rw [hσ] at h1; exact h1.elim

theorem za0 {e : Env} : ∀ {t : Env}, zD e t -> ∀ k, leK (get e k) (get t k)
 | [], _, k => by simp [get, leK]
 | (i, y) :: t, h, k => by
  rw [z4];obtain ⟨h1, h2⟩ := h;rw [zb] at h1
  by_cases hk : i = k
  ·subst hk; simp only [if_true]; exact h1
  ·simp only [hk, if_false]; exact za0 h2 k

theorem zkV {s t : S} (r : R D w0 N (get s.env) s.hs a w) (hl : le s t) (hb : w0.heap.size <= t.hs) : R D w0 N (get t.env) t.hs a w :=
 (r.leAll (za0 hl.2)).lower hb (Nat.le_trans hl.1 r.hs2)

theorem W.weak {t : S} (hl : le s t) (hb : base <= t.hs) (h : W P cx N base x QQ t) : W P cx N base x QQ s :=
 λD w0 a w hw r => h D w0 a w hw (zkV r hl (by omega))

theorem W.mono {Q' : Exit -> S -> Prop} (h : W P cx N base x QQ s) (hq : ∀ e s, QQ e s -> Q' e s) : W P cx N base x Q' s :=
 λD w0 a w hw r => wp_mono (h D w0 a w hw r) λ_ _ _ ⟨s', r', q⟩ => ⟨s', r', hq _ _ q⟩

theorem W.loop {τ : Type} (st : τ -> S) (μ : τ -> Nat) (t0 : τ) (h0 : le s (st t0)) (hb : ∀ t, base <= (st t).hs)
  (round : ∀ t, W P cx N base x (Ex (λs' => ∃ t', μ t' < μ t ∧ le s' (st t')) QQ) (st t)) : W P cx N base (.loop x) QQ s := by
 intro D w0 a w hw r;refine wp_loop_ghost (λn a w => ∃ t, μ t = n ∧ R D w0 N (get (st t).env) (st t).hs a w) (μ t0) ⟨t0, rfl, zkV r h0 (by have := hb t0; omega)⟩ ?_;rintro n a w ⟨t, rfl, r⟩;refine wp_mono (round t D w0 a w hw r) ?_;rintro ex a' w' ⟨s', r', hq⟩;cases ex with
 | normal =>
  obtain ⟨t', hm, hl⟩ := hq;exact ⟨μ t', hm, t', rfl, zkV r' hl (by have := hb t'; omega)⟩
 | _ => exact ⟨s', r', hq⟩

/- the end of a call -/
theorem kP {lo : Nat} : ∀ {cs : List V} {j : Nat}, V.ngs lo cs -> j < cs.length -> (cs.getD j .nil).ng lo
 | c :: cs, 0, h, _ => by simpa using h.1
 | c :: cs, j + 1, h, hj => by simpa using kP h.2 (by simpa using hj)
 | [], j, _, hj => by simp at hj

theorem jT {lo : Nat} {x : V} {j : Nat} (h : x.ng lo) (hj : j < x.cells.length) : (zW x j).ng lo := by
 cases x with
 | agg cs =>
  have h' : V.ngs lo cs := by simpa [V.ng] using h
  exact kP h' hj
 | _ =>
  simp only [V.cells, List.length_cons, List.length_nil] at hj
  have : j = 0 := by omega
  subst this;exact h

theorem Rep.res {own : Nat -> Prop} {n lo : Nat} (hD : ∀ b, lo <= b -> ¬ D b) {h : Array Obj} {x : V} {v : Value} (r : Rep (okF D own n) h x v) : x.ng lo -> Rep (okR (λb => D b ∨ own b) n) h x v := by
 have hok : ∀ g b, okF D own n g b -> zda lo g -> okR (λb => D b ∨ own b) n g b := by
  rintro g b ⟨h1, h2, h3⟩ hg;refine ⟨h1, λh => ?_, ?_⟩
  ·rcases h with h | h
   ·cases g with
    | none => exact h3 h
    | some b' => exact hD b (by rw [show b = b' from h3]; exact hg) h
   ·exact h2 h
  ·cases g with
   | none => trivial
   | some b' => exact h3
 induction r with
 | tr => exact λ_ => .tr
 | fa => exact λ_ => .fa
 | bool b => exact λ_ => .bool b
 | int k n => exact λ_ => .int k n
 | nil a => exact λ_ => .nil a
 | ints g xs a cap hc hm hx =>
  intro hn;refine .ints g xs a cap hc hm λj hj => ?_;obtain ⟨b, o, cur, e, fr, h1, h2, h3⟩ := hx j hj;exact ⟨b, o, cur, e, fr, h1, hok g b h2 (by simpa [V.ng] using hn), h3⟩
 | vals g sz n f a cap hc hm hl hf c hx hr ih =>
  intro hn;have hn' : zda lo g ∧ ∀ i, i < n -> V.ng lo (f i) := by simpa [V.ng] using hn
  refine .vals g sz n f a cap hc hm hl hf c (λi j hi hj => ?_) (λi j hi hj => ih i j hi hj (jT (hn'.2 i hi) (by rw [hl i hi]; exact hj)));obtain ⟨b, o, cur, e, fr, h1, h2, h3⟩ := hx i j hi hj;exact ⟨b, o, cur, e, fr, h1, hok g b h2 hn'.1, h3⟩
 | agg cs vs hl hf hr ih => exact λhn => .agg cs vs hl hf λj hj => ih j hj (kP (by simpa [V.ng] using hn) hj)
 | tup cs vs hl hr ih => exact λhn => .tup cs vs hl λj hj => ih j hj (kP (by simpa [V.ng] using hn) hj)
 | box g x b hb hf cur e fr hh c hx hr ih =>
  intro hn;have hn' : zda lo g ∧ V.ng lo x := by simpa [V.ng] using hn
  exact .box g x b (hok g b hb hn'.1) hf cur e fr hh c hx λj hj => ih j hj (jT hn'.2 hj)
 | rf b n c hn hc => exact λ_ => .rf b n c hn hc
 | rf0 b a cap hm => exact λ_ => .rf0 b a cap hm
 | wh e b xs v ho hk =>
  intro hn;have hn' : lo <= b := by simpa [V.ng] using hn
  exact .wh e b xs v ho λc hc => hok (some b) b (hk c hc) hn'
 | func f caps vs hl hr ih => exact λhn => .func f caps vs hl λj hj => ih j hj (kP (by simpa [V.ng] using hn) hj)

theorem zkW {σ : Nat -> AV} (r : R D w0 N σ hs a w) {k : Nat} {av : AV} (hl : leK (σ k) av) (hn : av.ng w0.heap.size) : Res D w0.heap.size w av (tv a k) := by
 have r' : R D w0 N (upd (λ_ => .dead) k av) hs a w := r.leAll λk' => by
  by_cases hk : k' = k
  ·subst hk; simpa [upd] using hl
  ·simp [upd, hk, leK]
 have hs' := r'.slots k;have hrl := r'.real k;simp only [upd, if_true] at hs' hrl
 have hD : ∀ b, w0.heap.size <= b -> ¬ D b := λb h hb => by have := r.old b hb; omega
 have hown : ∀ b, zj (upd (λ_ => .dead) k av) (tv a) b ↔ rb av (tv a k) b := by
  intro b
  constructor
  ·rintro ⟨k', hk'⟩
   by_cases hk : k' = k
   ·subst hk; simpa [upd] using hk'
   ·simp [upd, hk, rb] at hk'
  ·intro h; exact ⟨k, by simpa [upd] using h⟩
 have hmono : ∀ g b, okR (λb => D b ∨ zj (upd (λ_ => .dead) k av) (tv a) b) w.heap.size g b -> okR (λb => D b ∨ rb av (tv a k) b) w.heap.size g b ∧ w.heap[b]? = w.heap[b]? := by
  rintro g b ⟨h1, h2, h3⟩;exact ⟨⟨h1, λh => h2 (h.imp id (hown b).2), h3⟩, rfl⟩
 cases av with
 | v x => exact ⟨rfl, (Rep.res hD hs' hn).mono hmono, λb hb => hrl b hb⟩
 | ownI e b xs => exact ⟨rfl, hs', λb hb => hrl b hb⟩
 | ownV e sz b n f =>
  obtain ⟨h0, cells, hO, hE⟩ := hs';refine ⟨rfl, ⟨h0, cells, hO, hE.1, λi j hi hj => ?_⟩, λb hb => hrl b hb⟩;obtain ⟨c, h1, h2⟩ := hE.2 i j hi hj;exact ⟨c, h1, (Rep.res hD h2 (jT (hn i hi) (by rw [(hE.1 i hi).1]; exact hj))).mono hmono⟩
 | ownB b x =>
  obtain ⟨h0, hf, cur, e, h1, h2⟩ := hs';refine ⟨rfl, ⟨h0, hf, cur, e, h1, λj hj => ?_⟩, λb hb => hrl b hb⟩;obtain ⟨c, h3, h4⟩ := h2 j hj;exact ⟨c, h3, (Rep.res hD h4 (jT hn hj)).mono hmono⟩
 | _ => exact hn.elim

def xU (_P : Program) (tmps : Array Value) : ResultVar -> Sem Value
 | .tmp t => pure (tmps.getD t undef)
 | .cell a t => do loadVar t (<- asAddr (tmps.getD a undef))

theorem zb3 (hcx : OkCx P cx) (r : R D w0 N (get e) hs a w) {rv : ResultVar} {C : AV -> Prop} (h : zeD cx.tt w0.heap.size e rv C) :
  ∃ v av, C av ∧ (xU P a.tmps rv).run P w = .ok v w ∧ Res D w0.heap.size w av v := by
 cases rv with
 | tmp k =>
  simp only [zeD, zb] at h
  obtain ⟨av, h1, h2, h3⟩ := h;exact ⟨tv a k, av, h3, rfl, zkW r h1 h2⟩
 | cell k t =>
  simp only [zeD, zb] at h
  cases hk : get e k with
  | ownB b x =>
   rw [hk] at h;obtain ⟨ti, hti, h1⟩ := zf hcx.tt h;cases hkk : ti.kind with
   | struct fs =>
    rw [hkk] at h1;cases hc : Nat.beq x.cells.length ti.size
    ·rw [hc] at h1; exact h1.elim
    simp only [hc, cond_true] at h1
    obtain ⟨hn, h2⟩ := h1;cases x with
    | agg cs =>
     obtain ⟨hm, hf⟩ := zbY r hk
     have hpart : z3 ti (.agg cs) 0 (λy => y = .agg cs) := by
      unfold z3; rw [hkk]; simp only [hc]; exact rfl
     obtain ⟨y, v, rfl, h4, h5⟩ := zbX hti hf hm hpart;have hv := r.ownB hk;refine ⟨v, .v (.agg cs), h2, ?_, ?_⟩
     ·have hv' : a.tmps.getD k undef = .pointer (some ⟨b, 0, none⟩) := hv;simp only [xU, hv', asAddr, Sem.run_bind, Sem.run_pure, Result.andThen_ok]
      exact h4
     ·have hD : ∀ b, w0.heap.size <= b -> ¬ D b := λb h hb => by have := r.old b hb; omega
      refine ⟨rfl, (Rep.res hD h5 hn).mono λg b hb => ⟨⟨hb.1, λh => hb.2.1 (h.imp id (λh => by simp [rb] at h)), hb.2.2⟩, rfl⟩, λb hb => by simp [rb] at hb⟩
    | _ => exact h2.elim
   | _ => rw [hkk] at h1; exact h1.elim
  | _ => rw [hk] at h; exact h.elim

theorem zb4 (hcx : OkCx P cx) (r : R D w0 N (get e) hs a w) : ∀ {rs : List ResultVar} {C : List V -> Prop}, zgV cx.tt w0.heap.size e rs C ->
  ∃ vs xs, C xs ∧ (rs.mapM (xU P a.tmps)).run P w = .ok vs w ∧ vs.length = rs.length ∧ vs.length = xs.length ∧ ∀ j, j < xs.length -> Rep (okR D w.heap.size) w.heap (xs.getD j .nil) (vs.getD j undef)
 | [], C, h => ⟨[], [], h, by simp, rfl, rfl, λj hj => by simp at hj⟩
 | rv :: rs, C, h => by
  obtain ⟨v, av, h1, h2, h3⟩ := zb3 hcx r h;cases av with
  | v x =>
   obtain ⟨vs, xs, h4, h5, h8, h6, h7⟩ := zb4 hcx r h1;refine ⟨v :: vs, x :: xs, h4, by simp [List.mapM_cons, h2, h5], by simp [h8], by simp [h6], λj hj => ?_⟩;cases j with
   | zero => exact Rep.mono h3.2.1 λg b hb => ⟨⟨hb.1, λh => hb.2.1 (.inl h), hb.2.2⟩, rfl⟩
   | succ j => simpa using h7 j (by simpa using hj)
  | _ => exact h1.elim

def zeV : List Value -> Value
 | [v] => v
 | vs => .tuple vs.toArray

theorem xr {fn : Func} {tmps : Array Value} {vs : List Value} (h : (fn.results.toList.mapM (xU P tmps)).run P w = .ok vs w) :
  (results fn tmps).run P w = .ok (zeV vs) w := by
 have hres : results fn tmps = (fn.results.mapM (xU P tmps) >>= λvs => pure (if h : vs.size = 1 then vs[0] else .tuple vs)) := by
  unfold results
  congr 1
 have : (fn.results.mapM (xU P tmps)).run P w = .ok vs.toArray w := by
  rw [Array.mapM_eq_mapM_toList, Sem.run_map, h]; rfl
 rw [hres, Sem.run_bind, this];simp only [Result.andThen_ok, Sem.run_pure]
 match vs with
 | [] => rfl
 | [v] => rfl
 | v :: u :: l => simp [zeV]

theorem v7 : ∀ (xs : List V) (k j : Nat), get (kh k xs) j = if k <= j ∧ j < k + xs.length then .v (xs.getD (j - k) .nil) else .dead
 | [], k, j => by simp only [kh, get, List.length_nil]; rw [if_neg (by omega)]
 | x :: xs, k, j => by
  simp only [kh, z4, v7 xs (k + 1) j, List.length_cons]
  by_cases h : k = j
  ·subst h; simp
  ·rw [if_neg h]
   by_cases h2 : k + 1 <= j ∧ j < k + 1 + xs.length
   ·rw [if_pos h2, if_pos (by omega)];obtain ⟨m, rfl⟩ : ∃ m, j = k + 1 + m := ⟨j - (k + 1), by omega⟩
    rw [show k + 1 + m - (k + 1) = m by omega, show k + 1 + m - k = m + 1 by omega];simp
   ·rw [if_neg h2, if_neg (by omega)]

theorem zm {f : Nat} {fn : Func} {c : Code} {xs : List V} {post : zfW} (hcx : OkCx P cx) (hf : P.funcs[f]? = some fn) (hb : fn.body = some c) (hname : (fn.name == "runtime.NumGoroutine") = false)
   (hN : fn.ntmps = N) (hxs : xs.length <= N) (h : ∀ base, W P cx N base c (retQ cx.tt base fn.results.toList post) ⟨kh 0 xs, base⟩) : Fn P f xs post := by
 refine ⟨⟨fn, hf, by rw [hb]; rfl, hname⟩, λD w vs hD hl hr => calls_of_wp hf hb ?_⟩
 have hT : ∀ k, tv { tmps := vs ++ Array.replicate (fn.ntmps - vs.size) undef, defers := [] } k = vs.getD k undef := by
   intro k;simp only [tv, Array.getD_eq_getD_getElem?, Array.getElem?_append, Array.getElem?_replicate]
   by_cases hk : k < vs.size
   · simp [hk]
   · simp only [hk, if_false]
     rw [Array.getElem?_eq_none (by omega)]
     split <;> rfl
 have hrb : ∀ k v b, ¬ rb (get (kh 0 xs) k) v b := by
   intro k v b;rw [v7]
   split <;> simp [rb]
 have r : R D w N (get (kh 0 xs)) w.heap.size { tmps := vs ++ Array.replicate (fn.ntmps - vs.size) undef, defers := [] } w := by
   refine ⟨rfl, by simp [hl, hN]; omega, Nat.le_refl _, Nat.le_refl _, Below.refl _ _, λk hk => ?_, λk => ?_, λk b hb => ?_, λk k' b hb => ?_, hD⟩
   · rw [v7] at hk
     by_cases h2 : 0 <= k ∧ k < 0 + xs.length
     · omega
     · rw [if_neg h2] at hk; exact absurd rfl hk
   · show AVR _ _ _ _ _ (tv _ k)
     rw [hT, v7]
     by_cases h2 : 0 <= k ∧ k < 0 + xs.length
     · rw [if_pos h2]
       have := hr k (by omega);rw [Nat.sub_zero];exact Rep.mono this λg b hb => ⟨⟨hb.1, (λ⟨k', hk'⟩ => hrb _ _ _ hk'), hb.2.2⟩, rfl⟩
     · rw [if_neg h2]; trivial
   · exact absurd hb (hrb _ _ _)
   · exact absurd hb (hrb _ _ _)
 refine wp_mono (h w.heap.size D w _ w rfl r) ?_
 have fin : ∀ (s' : S) (a' : Act) (w' : World), R D w N (get s'.env) s'.hs a' w' -> zkT cx.tt w.heap.size fn.results.toList s' post ->
     a'.defers = [] ∧ ∃ v, (results fn a'.tmps).run P w' = .ok v w' ∧ ∃ v' av hi, (Ending.returned v : Ending) = .returned v' ∧ hi <= w'.heap.size ∧ post w.heap.size hi av ∧ Below w.heap.size w w' ∧ Res D w.heap.size w' av v' := by
   intro s' a' w' r' hq;refine ⟨r'.defers, ?_⟩
   have hmany : zgV cx.tt w.heap.size s'.env fn.results.toList (λxs => post w.heap.size s'.hs (.v (.tup xs))) -> fn.results.toList.length ≠ 1 ->
       ∃ v, (results fn a'.tmps).run P w' = .ok v w' ∧ ∃ v' av hi, (Ending.returned v : Ending) = .returned v' ∧ hi <= w'.heap.size ∧ post w.heap.size hi av ∧ Below w.heap.size w w' ∧ Res D w.heap.size w' av v' := by
     intro hq hlen;obtain ⟨ws, ys, h1, h2, h5, h3, h4⟩ := zb4 hcx r' hq;have hwl : ws.length ≠ 1 := by rw [h5]; exact hlen
     have hmk : zeV ws = .tuple ws.toArray := by
       match ws, hwl with
       | [], _ => rfl
       | [v], h => simp at h
       | v :: u :: l, _ => rfl
     refine ⟨_, xr h2, _, _, s'.hs, rfl, r'.hs2, h1, r'.below, rfl, ?_, λb hb => ?_⟩
     · rw [hmk]
       refine .tup ys _ (by simp [h3]) λj hj => ?_;have := h4 j hj;rw [List.getD_eq_getElem?_getD (l := ws)] at this
       simpa [Array.getD_eq_getD_getElem?, rb] using this
     · simp [rb] at hb
   cases hrs : fn.results.toList with
   | nil => exact hmany (by rw [hrs] at hq ⊢; exact hq) (by rw [hrs]; simp)
   | cons rv l =>
     cases l with
     | nil =>
       rw [hrs] at hq;obtain ⟨v, av, h1, h2, h3⟩ := zb3 hcx r' hq
       have hm : (fn.results.toList.mapM (xU P a'.tmps)).run P w' = .ok [v] w' := by
         rw [hrs]; simp [List.mapM_cons, h2]
       exact ⟨v, xr hm, v, av, s'.hs, rfl, r'.hs2, h1, r'.below, h3⟩
     | cons rv2 l => exact hmany (by rw [hrs] at hq ⊢; exact hq) (by rw [hrs]; simp)
 rintro ex a' w' ⟨s', r', hq⟩;cases ex with
 | normal => exact fin s' a' w' r' hq
 | ret => exact fin s' a' w' r' hq
 | _ => exact hq.elim

end
open Go Go.RowKit

section
variable {P : Program}

theorem kQ {t : Nat} {ti : TI} {d : TypeDesc} {z : Value} (h : (P.info? t).map (λi => (i.size, i.bytes, i.zero)) = some (ti.size, ti.bytes, some z)) (hu : P.underlying t = some d)
   (hb : ti.bytes <= 64) (hs : 0 < ti.size) (hz : ∀ ok h, Rep ok h ti.zero z) (hf : ti.zero.flat = true) (hl : ti.zero.cells.length = ti.size)
   (hk : match ti.kind with
     | .int k => d = .int k ∧ ti.size = 1 ∧ ti.zero = .int k 0 ∧ z = .int k 0
     | .bool => d = .bool ∧ ti.size = 1
     | .slice e => d = .slice e ∧ ti.size = 1
     | .cell => kj d = false ∧ ti.size = 1
     | .struct fs => ∃ fields : Array Field, d = .struct fields ∧ fields.toList.map (λf => (f.offset, f.type)) = fs ∧
         (∃ places, fields.toList.mapM (λf => (P.info? f.type).map λi => (f.offset, i.size)) = some places) ∧ ∃ cs, ti.zero = .agg cs) : xq P t ti := by
 cases hi : P.info? t with
 | none => rw [hi] at h; cases h
 | some i =>
   rw [hi] at h;simp only [Option.map_some, Option.some.injEq, Prod.mk.injEq] at h
   obtain ⟨h1, h2, h3⟩ := h;refine ⟨i, d, hi, hu, h1, h2, hb, hs, ⟨z, h3, hz⟩, hf, hl, ?_⟩;cases hkk : ti.kind with
   | int k => rw [hkk] at hk; obtain ⟨a, b, c, e⟩ := hk; exact ⟨a, b, c, by rw [h3, e]⟩
   | _ => rw [hkk] at hk; exact hk

def ziL : TI := ⟨.int .i64, 1, 8, .int .i64 0⟩
def zgb : TI := ⟨.int .u64, 1, 8, .int .u64 0⟩
def ziM : TI := ⟨.bool, 1, 1, .bool false⟩
def jU (e : Nat) : TI := ⟨.slice e, 1, 24, .nil⟩

theorem zeW {t : Nat} (h : (P.info? t).map (λi => (i.size, i.bytes, i.zero)) = some (1, 8, some (.int .i64 0))) (hu : P.underlying t = some (.int .i64)) : xq P t ziL :=
 kQ h hu (by decide) (by decide) (λ_ _ => .int _ _) rfl rfl ⟨rfl, rfl, rfl, rfl⟩
theorem zdk {t : Nat} (h : (P.info? t).map (λi => (i.size, i.bytes, i.zero)) = some (1, 8, some (.int .u64 0))) (hu : P.underlying t = some (.int .u64)) : xq P t zgb :=
 kQ h hu (by decide) (by decide) (λ_ _ => .int _ _) rfl rfl ⟨rfl, rfl, rfl, rfl⟩
theorem zhO {t : Nat} (h : (P.info? t).map (λi => (i.size, i.bytes, i.zero)) = some (1, 1, some (.bool false))) (hu : P.underlying t = some .bool) : xq P t ziM :=
 kQ h hu (by decide) (by decide) (λ_ _ => .bool _) rfl rfl ⟨rfl, rfl⟩
theorem xV {t e : Nat} (h : (P.info? t).map (λi => (i.size, i.bytes, i.zero)) = some (1, 24, some (.slice none 0 0))) (hu : P.underlying t = some (.slice e)) : xq P t (jU e) :=
 kQ h hu (by show 24 <= 64; decide) (by show 0 < 1; decide) (λ_ _ => .nil _) rfl rfl ⟨rfl, rfl⟩


def ziN : V -> Value
 | .nil => .slice none 0 0
 | .int k n => .int k n
 | .bool b => .bool b
 | _ => undef
def V.isZ : V -> Bool
 | .nil | .int _ _ | .bool _ => true
 | _ => false
theorem ziO {x : V} (h : x.isZ = true) (ok : OkB) (hh : Array Obj) : Rep ok hh x (ziN x) := by
 cases x <;> simp [V.isZ] at h <;> constructor
theorem zeX {x : V} (h : x.isZ = true) : x.isCell = true := by cases x <;> simp_all [V.isZ, V.isCell]

def zb5 (fs : List (Nat × Nat)) (bytes : Nat) (zs : List V) : TI := ⟨.struct fs, zs.length, bytes, .agg zs⟩
theorem za1 {t : Nat} {fs : List (Nat × Nat)} {bytes : Nat} {zs : List V} {fields : Array Field} (h : (P.info? t).map (λi => (i.size, i.bytes, i.zero)) = some (zs.length, bytes, some (.agg (zs.map ziN).toArray)))
  (hu : P.underlying t = some (.struct fields)) (hf : fields.toList.map (λf => (f.offset, f.type)) = fs) (hp : (fields.toList.mapM (λf => (P.info? f.type).map λi => (f.offset, i.size))).isSome = true)
  (hb : bytes <= 64) (hs : 0 < zs.length) (hz : zs.all V.isZ = true) : xq P t (zb5 fs bytes zs) := by
 refine kQ (z := .agg (zs.map ziN).toArray) h hu hb hs (λok hh => ?_) ?_ rfl ⟨fields, rfl, hf, Option.isSome_iff_exists.1 hp, zs, rfl⟩
 ·refine .agg zs _ (by simp) (List.all_eq_true.2 λx hx => zeX (List.all_eq_true.1 hz x hx)) λj hj => ?_
  have e : (zs.map ziN).toArray.getD j undef = ziN (zs.getD j .nil) := by
   simp [Array.getD_eq_getD_getElem?, List.getD_eq_getElem?_getD, hj]
  rw [e];refine ziO (List.all_eq_true.1 hz _ ?_) _ _;rw [List.getD_eq_getElem?_getD, List.getElem?_eq_getElem hj]; exact List.getElem_mem _
 ·exact List.all_eq_true.2 λx hx => zeX (List.all_eq_true.1 hz x hx)

end
open Go Go.RowKit

/- what is asked of an operation in such a region: it writes one slot -/
def kR (cx : Cx) (f : Nat) (xs : List V) (C : AV -> Prop) : Prop := ∃ r, cx.F f xs (λ_ _ a => a = .v r) ∧ C (.v r)

def xW (e : Env) (s ix off : Nat) (x : V) (C : Nat -> AV -> Prop) : Prop :=
 zM e s λb => match b with
  | .ownI el b xs => match x with
   | .int .i64 n => bif Nat.beq off 0 then C s (.ownI el b (xs.set ix n)) else False
   | _ => False
  | .ownV el sz b n f => ((off + x.cells.length <= sz) ∧ x.flat = true) ∧ ∃ h : Nat -> V, h ix = zP (f ix) off x ∧ (∀ j, j < n -> j ≠ ix -> h j = f j) ∧ C s (.ownV el sz b n h)
  | .ownB b y => ((off + x.cells.length <= y.cells.length) ∧ x.flat = true) ∧ C s (.ownB b (zP y off x))
  | _ => False

def jV (e : Env) (b ix : Nat) (x : V) (C : Nat -> AV -> Prop) : Prop :=
 match x with
 | .int .i64 n => zM e vt λt => (match t with
  | .tab tb => ∃ xs, tb b = some xs ∧ ix < xs.length ∧ C vt (.tab (z2 tb b (xs.set ix n)))
  | _ => False)
 | _ => False

def ye (e : Env) (o : Operand) (C : V -> Prop) : Prop :=
 match o with
 | .tmp t => zM e t λa => match a with | .v x => C x | _ => False
 | .const c => xg c C
 | _ => False

def vh (d t : Nat) (e : Env) (C : Nat -> AV -> Prop) : Prop := zM e t λa => match a with
 | .ownI .. | .ownV .. | .ownB .. => C d (.al t)
 | .dead | .tab _ | .keep .. | .tupO .. => False
 | a => C d a
def jW (d t : Nat) (e : Env) (C : Nat -> AV -> Prop) : Prop := zM e t λa => match a with
 | .v x => C d (.v x)
 | _ => False
def ziP (tt : TT) (d : Nat) (op : BinOp) (t : Nat) (p q : Bool) (C : Nat -> AV -> Prop) : Prop := zH tt t λi => match i.kind, op with
 | .bool, .neq => C d (.v (.bool (!(p == q))))
 | _, _ => False
def zdU (tt : TT) (wr : Bool) (d : Nat) (op : BinOp) (t : Nat) (x y : Operand) (e : Env) (C : Nat -> AV -> Prop) : Prop := ye e x λvx => ye e y λvy => match vx, vy with
 | .bool p, .bool q => ziP tt d op t p q C
 | .int .i64 a, .int k b => zbD wr op .i64 a b λx => match k with | .i64 => C d (.v x) | _ => False
 | _, _ => False
def zg3 (d : Nat) (op : UnOp) (x : Operand) (e : Env) (C : Nat -> AV -> Prop) : Prop := ye e x λvx => match op, vx with
 | .not, .tr => C d (.v .fa)
 | .not, .fa => C d (.v .tr)
 | .not, .bool b => C d (.v (.bool (!b)))
 | .neg, .int .i64 n => inR (-n) ∧ C d (.v (.int .i64 (-n)))
 | _, _ => False
def zaB (cx : Cx) (d t : Nat) (x : Operand) (k : Nat) (e : Env) (C : Nat -> AV -> Prop) : Prop := zH cx.tt t λi => match i.kind with
 | .struct fs => (match fs.drop k with
  | (off, ft) :: _ => zH cx.tt ft λj => zhz e x λcs => match j.kind with
   | .struct _ => False
   | _ => z3 j (.agg cs) off λy => C d (.v y)
  | [] => False)
 | _ => False
def zdl (cx : Cx) (d t a : Nat) (e : Env) (C : Nat -> AV -> Prop) : Prop := zM e a λav => zc8 cx e t av λx => C d (.v x)
def yR (cx : Cx) (d t a k : Nat) (e : Env) (C : Nat -> AV -> Prop) : Prop := zH cx.tt t λi => match i.kind with
 | .struct fs => (match fs.drop k with
  | (off, ft) :: _ => zH cx.tt ft λ_ => zM e a λav => match av with
   | .pl s ix o => C d (.pl s ix (o + off))
   | .pv y o => C d (.pv y (o + off))
   | .ownB _ _ => C d (.pl a 0 off)
   | .v (.box _ y) => C d (.pv y off)
   | _ => False
  | [] => False)
 | _ => False
def yS (cx : Cx) (d t : Nat) (x i : Operand) (e : Env) (C : Nat -> AV -> Prop) : Prop := zH cx.tt t λti => match ti.kind with
 | .slice el => zH cx.tt el λtj => ye e i λvi => match vi with
  | .int .i64 n => xC e x λs a => match a with
   | .ownI _ _ xs => bif Nat.beq tj.size 1 then idx n xs.length ∧ C d (.pl s n.toNat 0) else False
   | .ownV _ sz _ m _ => bif Nat.beq sz tj.size then idx n m ∧ C d (.pl s n.toNat 0) else False
   | .v (.rf b m) => bif Nat.beq tj.size 1 then idx n m ∧ C d (.pr b n.toNat) else False
   | .v (.ints _ xs) => bif Nat.beq tj.size 1 then idx n xs.length ∧ C d (.pv (.int .i64 (xs.getD n.toNat 0)) 0) else False
   | .v (.vals _ sz m f) => bif Nat.beq sz tj.size then idx n m ∧ C d (.pv (f n.toNat) 0) else False
   | _ => False
  | _ => False
 | _ => False
def zhP (cx : Cx) (d t : Nat) (x : Operand) (e : Env) (C : Nat -> AV -> Prop) : Prop := zH cx.tt t λi => match i.kind with
 | .slice _ => rdK e x λvx => zfX vx λn => C d (.v (.int .i64 n))
 | _ => False
def kS (cx : Cx) (d f : Nat) (args : List Operand) (ts : List Nat) (e : Env) (C : Nat -> AV -> Prop) : Prop := match ziE cx.ms f with
 | none => (match cx.gh with
  | .mt => xA cx.tt e args ts λxs => bif cx.ts.elem f then False else kR cx f xs (C d)
  | _ => x9 cx.tt e args ts λxs => kR cx f xs (C d))
 | some _ => False
def vN (cx : Cx) (d t : Nat) (args : List Operand) (ts : List Nat) (e : Env) (C : Nat -> AV -> Prop) : Prop := zM e t λa => match a with
 | .v (.func f caps) => x9 cx.tt e args ts λxs => kR cx f (xs ++ caps) (C d)
 | _ => False
def zg4 (d : Nat) (c a b : Operand) (e : Env) (C : Nat -> AV -> Prop) : Prop := ye e c λvc => match vc with
 | .tr => ye e a λx => zR x λ_ => C d (.v x)
 | .fa => ye e b λx => zR x λ_ => C d (.v x)
 | .bool t => boK e a λp => boK e b λq => match p, q with
  | some p, some q => C d (.v (.bool (bif t then p else q)))
  | some p, none => t = true ∧ C d (.v (.bool p))
  | none, some q => t = false ∧ C d (.v (.bool q))
  | _, _ => False
 | _ => False
def kr (e : Env) : List (Nat × Operand) -> (List (Nat × V) -> Prop) -> Prop
 | [], C => C []
 | (i, o) :: r, C => ye e o λx => kr e r λxs => C ((i, x) :: xs)
def yt (cx : Cx) (d t n : Nat) (ps : List (Nat × Operand)) (e : Env) (C : Nat -> AV -> Prop) : Prop :=
 zH cx.tt t λi => match i.kind with
 | .slice el => zH cx.tt el λj => kr e ps λxs => match j.kind with
  | .int .i64 => xp xs 0 λl => (l.length = n ∧ n * j.size <= 10000) ∧ C d (.v (.ints none l))
  | _ => y3 xs 0 λl => (l.length = n ∧ n * j.size <= 10000 ∧ (∀ x ∈ l, x.cells.length = j.size ∧ x.flat = true)) ∧ C d (.v (.vals none j.size n (nth l)))
 | _ => False
def jD (cx : Cx) (t a : Nat) (x : Operand) (e : Env) (C : Nat -> AV -> Prop) : Prop :=
 ye e x λx => zH cx.tt t λi => bif Nat.beq x.cells.length i.size then zM e a λav => match av with
  | .pl s ix off => xW e s ix off x C
  | .pr b ix => jV e b ix x C
  | _ => False
 else False

def zY (cx : Cx) (o : Oper) (e : Env) (C : Nat -> AV -> Prop) : Prop :=
 match o.dst with
 | some d => match o.op with
  | .move (.tmp t) => vh d t e C
  | .move (.const c) => xg c λx => C d (.v x)
  | .assign (.tmp t) => jW d t e C
  | .assign (.const c) => xg c λx => C d (.v x)
  | .pick c a b => zg4 d c a b e C
  | .binOp .eql _ _ (.const (.slice none 0 0)) _ => False
  | .binOp op t x y _ => zdU cx.tt cx.wr d op t x y e C
  | .unOp op _ x => zg3 d op x e C
  | .field t x k => zaB cx d t x k e C
  | .load t (.tmp a) => zdl cx d t a e C
  | .fieldAddr t (.tmp a) k => yR cx d t a k e C
  | .indexAddr t x i => yS cx d t x i e C
  | .buildSlice t n ⟨ps⟩ => yt cx d t n ps e C
  | .call ⟨.builtin .len, ⟨[x]⟩, ⟨[t]⟩⟩ => zhP cx d t x e C
  | .call ⟨.value (.func f), ⟨args⟩, ⟨ts⟩⟩ => kS cx d f args ts e C
  | .call ⟨.value (.tmp t), ⟨args⟩, ⟨ts⟩⟩ => vN cx d t args ts e C
  | _ => False
 | none => match o.op with
  | .store t (.tmp a) x => jD cx t a x e C
  | _ => False

def yT (cx : Cx) (all : List Oper) (o : Oper) (e : Env) (C : Nat -> AV -> Prop) : Prop :=
 match o.guard with
 | none => zY cx o e C
 | some (j, want) => match o.dst, vr all j with
  | some d, some t => zM e t λa => match a with
   | .v .tr => bif want then zY cx o e C else C d (.v (.tup []))
   | .v .fa => bif want then C d (.v (.tup [])) else zY cx o e C
   | .v (.bool c) => bif (bif want then c else !c) then zY cx o e C else C d (.v (.tup []))
   | .v (.tup []) => C d (.v (.tup []))
   | _ => False
  | _, _ => False

def xE (o : Oper) : Nat :=
 match o.op with
 | .move _ | .pick .. | .binOp .. | .unOp .. | .fieldAddr .. | .indexAddr .. => 0
 | .store .. | .assign _ => 2
 | _ => 1

def zkJ (o : Oper) : List Nat := match o.op with | .call _ => [vt] | _ => []
def jo (o : Oper) : List Nat := zkJ o ++ o.op.operands.toList.filterMap λx => match x with | .tmp t => some t | _ => none

def gdT (all : List Oper) (o : Oper) : List Nat :=
 match o.guard with
 | some (j, _) => (match vr all j with | some t => [t] | none => [])
 | none => []
def vO (all : List Oper) (o : Oper) : List Nat := gdT all o ++ jo o

def xB (all : List Oper) (j i : Oper) : Bool :=
 (match j.dst with | some d => !(vO all i).elem d | none => true) && (match i.dst with | some d => !(vO all j).elem d | none => true) &&
 (match j.dst, i.dst with | some d, some d' => !Nat.beq d d' | _, _ => true) &&
 (match j.dst, i.dst with | none, none => false | none, some _ => Nat.beq (xE i) 0 | some _, none => Nat.beq (xE j) 0 | _, _ => true)

def yU (ops : List Oper) : Nat -> Nat -> Nat -> Bool
 | 0, _, _ => false
 | fuel + 1, i, j => match ops[i]? with
  | some o => o.after.toList.any λed => Region.binds .any ed && (Nat.beq ed.on j || yU ops fuel ed.on j)
  | none => false

def jE (ops : List Oper) (n : Nat) : Bool :=
 (List.range n).all λi => (List.range i).all λj => yU ops n i j || (match ops[j]?, ops[i]? with | some a, some b => xB ops a b | _, _ => false)

def xX (ops : List Oper) : Bool := ((List.range ops.length).all λi => match ops[i]? with | some o => (o.after.toList.all λed => !Region.binds .any ed || Nat.blt ed.on i) | none => false)

def zdV : List Nat -> Bool
 | [] => true
 | x :: r => !r.elem x && zdV r

def zN (ops : List Oper) : List Nat := ops.filterMap (·.dst)

def zdW (ops : List Oper) : Bool := jE ops ops.length && xX ops && zdV (zN ops)

def AV.touchesAny (ds : List Nat) : AV -> Bool
 | .al t => ds.elem t
 | .pl t _ _ => ds.elem t
 | .pr _ _ => ds.elem vt
 | .keep _ _ _ k _ => ds.elem k
 | _ => false
def AV.isOwn : AV -> Bool
 | .ownI .. | .ownV .. | .ownB .. | .tab _ | .keep .. | .tupO .. => true
 | _ => false
def ziQ (ds : List Nat) : Env -> Bool
 | [] => true
 | (k, x) :: r => !x.touchesAny ds && !(ds.elem k && x.isOwn) && ziQ ds r

def zgc (cx : Cx) (all : List Oper) (ds : List Nat) : List Oper -> (Env -> Prop) -> Env -> Prop
 | [], K, e => K e
 | o :: r, K, e => yT cx all o e λs a => bif a.touchesAny ds then False else yP e s a λe => zgc cx all ds r K e

def ziR (cx : Cx) (ops : List Oper) (K : S -> Prop) (e : Env) (hs : Nat) : Prop :=
 bif zdW ops && ziQ (zN ops) e then zgc cx ops (zN ops) ops (λe => j5 e cx.ks λe => K ⟨e, hs⟩) e else False

open Go Go.RowKit

def sim : AV -> AV -> Prop
 | .ownI e b xs, .ownI e' b' xs' => e = e' ∧ b = b' ∧ xs.length = xs'.length
 | .ownV e sz b n _, .ownV e' sz' b' n' _ => e = e' ∧ sz = sz' ∧ b = b' ∧ n = n'
 | .ownB b _, .ownB b' _ => b = b'
 | .tab tb, .tab tb' => ∀ b, (tb b).map List.length = (tb' b).map List.length
 | x, y => x = y

theorem vP (x : AV) : sim x x := by cases x <;> simp [sim]
theorem zdm {x y z : AV} (h : sim x y) (k : sim y z) : sim x z := by
 cases x <;> cases y <;> cases z <;> simp_all [sim]
theorem ziS {x y : AV} (h : sim x y) : sim y x := by
 cases x <;> cases y <;> simp_all [sim]

def rel (c : Nat) (x y : AV) : Prop := if c = 0 then sim x y else x = y
theorem ziT (c : Nat) (x : AV) : rel c x x := by unfold rel; split; exact vP x; rfl
theorem zbt {c : Nat} {x y : AV} (h : rel c x y) : sim x y := by
 unfold rel at h; split at h
 ·exact h
 ·subst h; exact vP x

def jp (c : Nat) (ts : List Nat) (σ σ' : Nat -> AV) : Prop := ∀ t ∈ ts, rel c (σ t) (σ' t) ∧ ∀ u, (σ t).touches u = true -> rel c (σ u) (σ' u)

def LS0 (cx : Cx) (o : Oper) (σ : Nat -> AV) (s : Nat) (av : AV) : Prop := ∀ e, jp (xE o) (jo o) σ (get e) -> zY cx o e (λs' a' => s' = s ∧ a' = av)
def LS (cx : Cx) (all : List Oper) (o : Oper) (σ : Nat -> AV) (s : Nat) (av : AV) : Prop := ∀ e, jp (xE o) (vO all o) σ (get e) -> yT cx all o e (λs' a' => s' = s ∧ a' = av)

theorem jp.sub {c : Nat} {ts ts' : List Nat} {σ σ' : Nat -> AV} (h : jp c ts σ σ') (k : ∀ t ∈ ts', t ∈ ts) : jp c ts' σ σ' := λt ht => h t (k t ht)

theorem zb6 {x : V} {y : AV} (h : sim (.v x) y) : y = .v x := by cases y <;> simp_all [sim]

theorem yy {c : Value} {C : V -> Prop} (h : xg c C) : ∃ x, C x ∧ ∀ D : V -> Prop, D x -> xg c D := by
 cases c with
 | bool b => cases b <;> exact ⟨_, h, λD h => h⟩
 | int k n => exact ⟨_, h, λD h => h⟩
 | slice a l c =>
  cases a with
  | some a => exact h.elim
  | none => cases l with
   | succ l => exact h.elim
   | zero => cases c with
    | succ c => exact h.elim
    | zero => exact ⟨_, h, λD h => h⟩
 | _ => exact h.elim

def opT : Operand -> List Nat
 | .tmp t => [t]
 | _ => []

theorem yz {e : Env} {o : Operand} {C : V -> Prop} (h : ye e o C) : ∃ x, C x ∧ ∀ e' (D : V -> Prop), (∀ t ∈ opT o, sim (get e t) (get e' t)) -> D x -> ye e' o D := by
 cases o with
 | tmp t =>
  simp only [ye, zb] at h
  cases ht : get e t with
  | v x =>
   rw [ht] at h;refine ⟨x, h, λe' D hs hD => ?_⟩;have := zb6 (ht ▸ hs t (by simp [opT]));simp only [ye, zb, this]; exact hD
  | _ => rw [ht] at h; exact h.elim
 | const c =>
  obtain ⟨x, h1, h2⟩ := yy h;exact ⟨x, h1, λe' D _ hD => h2 D hD⟩
 | _ => exact h.elim

theorem zg5 {op : BinOp} {k : IntKind} {a b : Int} {C : V -> Prop} (h : ziw op k a b C) : ∃ x, C x ∧ ∀ D : V -> Prop, D x -> ziw op k a b D := by
 cases op with
 | add => exact ⟨_, h.2, λD hD => ⟨h.1, hD⟩⟩
 | sub => exact ⟨_, h.2, λD hD => ⟨h.1, hD⟩⟩
 | mul => exact ⟨_, h.2, λD hD => ⟨h.1, hD⟩⟩
 | rem => exact ⟨_, h.2, λD hD => ⟨h.1, hD⟩⟩
 | quo => exact ⟨_, h.2.2, λD hD => ⟨h.1, h.2.1, hD⟩⟩
 | and => exact ⟨_, h.2, λD hD => ⟨h.1, hD⟩⟩
 | shr => exact ⟨_, h.2, λD hD => ⟨h.1, hD⟩⟩
 | eql => exact ⟨_, h, λD hD => hD⟩
 | neq => exact ⟨_, h, λD hD => hD⟩
 | lss => exact ⟨_, h, λD hD => hD⟩
 | leq => exact ⟨_, h, λD hD => hD⟩
 | gtr => exact ⟨_, h, λD hD => hD⟩
 | geq => exact ⟨_, h, λD hD => hD⟩
 | _ => exact h.elim

theorem zeY {wr : Bool} {op : BinOp} {k : IntKind} {a b : Int} {C : V -> Prop} (h : zbD wr op k a b C) : ∃ x, C x ∧ ∀ D : V -> Prop, D x -> zbD wr op k a b D := by
 cases wr with
 | false => exact zg5 h
 | true =>
  have h : zgP op k a b C := h;cases op with
  | add => exact ⟨_, h, λD hD => hD⟩
  | _ => simp only [zgP] at h; exact zg5 h

theorem zv {tt : TT} {t : Nat} {C : TI -> Prop} (h : zH tt t C) : ∃ i, C i ∧ ∀ D : TI -> Prop, D i -> zH tt t D := by
 induction tt with
 | nil => exact h.elim
 | cons p r ih =>
  obtain ⟨k, x⟩ := p
  by_cases hk : k = t
  ·subst hk;simp only [zH, zQ, cond_true] at h
   exact ⟨x, h, λD hD => by simpa only [zH, zQ, cond_true] using hD⟩
  ·simp only [zH, yk hk, cond_false] at h
   obtain ⟨i, h1, h2⟩ := ih h;exact ⟨i, h1, λD hD => by simpa only [zH, yk hk, cond_false] using h2 D hD⟩

theorem zb7 {i : TI} {x : V} {off : Nat} {C : V -> Prop} (h : z3 i x off C) : ∃ y, C y ∧ ∀ D : V -> Prop, D y -> z3 i x off D := by
 have hc : ∀ {C : V -> Prop}, zbC x off C -> ∃ y, C y ∧ ∀ D : V -> Prop, D y -> zbC x off D := by
  intro C h
  have hn : ∀ x : V, (bif Nat.beq off 0 then C x else False) -> ∃ y, C y ∧ ∀ D : V -> Prop, D y -> (bif Nat.beq off 0 then D x else False) := by
   intro x h;cases hb : Nat.beq off 0
   ·rw [hb] at h; exact h.elim
   ·rw [hb] at h; exact ⟨x, h, λD hD => hD⟩
  cases x with
  | agg cs =>
   unfold zbC at h ⊢;simp only at h ⊢
   cases hd : cs.drop off with
   | nil => rw [hd] at h; exact h.elim
   | cons c l => rw [hd] at h; exact ⟨c, h, λD hD => hD⟩
  | _ => exact hn _ h
 have hw : ∀ {C : V -> Prop}, (bif Nat.beq off 0 && Nat.beq x.cells.length i.size then zdI x C else (off + i.size <= x.cells.length) ∧ C (.agg ((x.cells.drop off).take i.size))) ->
   ∃ y, C y ∧ ∀ D : V -> Prop, D y -> (bif Nat.beq off 0 && Nat.beq x.cells.length i.size then zdI x D else (off + i.size <= x.cells.length) ∧ D (.agg ((x.cells.drop off).take i.size))) := by
  intro C h;cases hb : (Nat.beq off 0 && Nat.beq x.cells.length i.size)
  ·rw [hb, cond_false] at h;exact ⟨_, h.2, λD hD => ⟨h.1, hD⟩⟩
  ·rw [hb, cond_true] at h
   have : ∃ cs, x = .agg cs ∧ C (.agg cs) := by
    cases x <;> first | exact h.elim | exact ⟨_, rfl, h⟩
   obtain ⟨cs, rfl, h⟩ := this;exact ⟨_, h, λD hD => hD⟩
 cases hk : i.kind with
 | struct fs =>
  unfold z3 at h;rw [hk] at h;obtain ⟨y, h1, h2⟩ := hw h;exact ⟨y, h1, λD hD => by unfold z3; rw [hk]; exact h2 D hD⟩
 | _ =>
  unfold z3 at h;rw [hk] at h;obtain ⟨y, h1, h2⟩ := hc h;exact ⟨y, h1, λD hD => by unfold z3; rw [hk]; exact h2 D hD⟩

theorem zdX {e : Env} {o : Operand} {C : V -> Prop} (h : rdK e o C) : ∃ x, C x ∧ ∀ e' (D : V -> Prop), (∀ t ∈ opT o, get e t = get e' t ∧ ∀ u, (get e t).touches u = true -> get e u = get e' u) -> D x -> rdK e' o D := by
 cases o with
 | tmp t =>
  simp only [rdK, zb] at h
  cases ht : get e t with
  | v x => rw [ht] at h; exact ⟨_, h, λe' D hs hD => by simp only [rdK, zb, <- (hs t (by simp [opT])).1, ht]; exact hD⟩
  | ownI el b xs => rw [ht] at h; exact ⟨_, h, λe' D hs hD => by simp only [rdK, zb, <- (hs t (by simp [opT])).1, ht]; exact hD⟩
  | ownV el sz b n f => rw [ht] at h; exact ⟨_, h, λe' D hs hD => by simp only [rdK, zb, <- (hs t (by simp [opT])).1, ht]; exact hD⟩
  | al s =>
   rw [ht] at h;simp only at h
   have hu : ∀ e', (∀ t' ∈ opT (.tmp t), get e t' = get e' t' ∧ ∀ u, (get e t').touches u = true -> get e u = get e' u) -> get e' t = .al s ∧ get e' s = get e s := λe' hs => by
    obtain ⟨h1, h2⟩ := hs t (by simp [opT]);exact ⟨by rw [<- h1, ht], (h2 s (by rw [ht]; simp [AV.touches])).symm⟩
   cases hs : get e s with
   | v x => rw [hs] at h; exact ⟨_, h, λe' D hh hD => by simp only [rdK, zb, (hu e' hh).1, (hu e' hh).2, hs]; exact hD⟩
   | ownI el b xs => rw [hs] at h; exact ⟨_, h, λe' D hh hD => by simp only [rdK, zb, (hu e' hh).1, (hu e' hh).2, hs]; exact hD⟩
   | ownV el sz b n f => rw [hs] at h; exact ⟨_, h, λe' D hh hD => by simp only [rdK, zb, (hu e' hh).1, (hu e' hh).2, hs]; exact hD⟩
   | _ => rw [hs] at h; exact h.elim
  | _ => rw [ht] at h; exact h.elim
 | const c =>
  obtain ⟨x, h1, h2⟩ := yy h;exact ⟨x, h1, λe' D _ hD => h2 D hD⟩
 | func f => exact ⟨_, h, λe' D _ hD => hD⟩
 | global g => exact h.elim

theorem zdn {tt : TT} {t : Nat} {x : V} {C : V -> Prop} (h : xh tt t x C) : ∃ y, C y ∧ ∀ D : V -> Prop, D y -> xh tt t x D := by
 cases x with
 | nil =>
  simp only [xh] at h ⊢
  obtain ⟨i, h1, h2⟩ := zv h;cases hk : i.kind with
  | slice e =>
   rw [hk] at h1;obtain ⟨j, h3, h4⟩ := zv h1;cases hk' : j.kind with
   | int k =>
    rw [hk'] at h3;cases k <;> exact ⟨_, h3, λD hD => h2 _ (by rw [hk]; exact h4 _ (by rw [hk']; exact hD))⟩
   | _ => rw [hk'] at h3; exact ⟨_, h3, λD hD => h2 _ (by rw [hk]; exact h4 _ (by rw [hk']; exact hD))⟩
  | _ => rw [hk] at h1; exact ⟨_, h1, λD hD => h2 _ (by rw [hk]; exact hD)⟩
 | _ => exact ⟨_, h, λD hD => hD⟩

theorem jF {tt : TT} {e : Env} : ∀ {os : List Operand} {ts : List Nat} {C : List V -> Prop}, x9 tt e os ts C ->
  ∃ xs, C xs ∧ ∀ e' (D : List V -> Prop), (∀ o ∈ os, ∀ t ∈ opT o, get e t = get e' t ∧ ∀ u, (get e t).touches u = true -> get e u = get e' u) -> D xs -> x9 tt e' os ts D
 | [], ts, C, h => ⟨[], h, λe' D _ hD => hD⟩
 | o :: os, [], C, h => h.elim
 | o :: os, t :: ts, C, h => by
  obtain ⟨x, h1, h2⟩ := zdX (C := λx => xh tt t x λx => x9 tt e os ts λxs => C (x :: xs)) h;obtain ⟨y, h3, h4⟩ := zdn h1;obtain ⟨xs, h5, h6⟩ := jF (C := λxs => C (y :: xs)) h3;exact ⟨y :: xs, h5, λe' D ha hD => h2 e' _ (ha o (by simp)) (h4 _ (h6 e' (λxs => D (y :: xs)) (λo' ho' => ha o' (by simp [ho'])) hD))⟩

theorem zdo {e : Env} : ∀ {ps : List (Nat × Operand)} {C : List (Nat × V) -> Prop}, kr e ps C ->
  ∃ xs, C xs ∧ ∀ e' (D : List (Nat × V) -> Prop), (∀ q ∈ ps, ∀ t ∈ opT q.2, sim (get e t) (get e' t)) -> D xs -> kr e' ps D
 | [], C, h => ⟨[], h, λe' D _ hD => hD⟩
 | (i, o) :: r, C, h => by
  obtain ⟨x, h1, h2⟩ := yz (C := λx => kr e r λxs => C ((i, x) :: xs)) h;obtain ⟨xs, h3, h4⟩ := zdo (C := λxs => C ((i, x) :: xs)) h1;exact ⟨(i, x) :: xs, h3, λe' D ha hD => h2 e' _ (ha (i, o) (by simp)) (h4 e' (λxs => D ((i, x) :: xs)) (λq hq => ha q (by simp [hq])) hD)⟩
theorem kt : ∀ {xs : List (Nat × V)} {j : Nat} {C : List Int -> Prop}, xp xs j C -> ∃ l, C l ∧ ∀ D : List Int -> Prop, D l -> xp xs j D
 | [], _, C, h => ⟨[], h, λ_ h => h⟩
 | (i, .int .i64 n) :: r, j, C, h => by
  rw [xp] at h;cases hb : Nat.beq i j
  ·rw [hb] at h; exact h.elim
  ·rw [hb] at h;obtain ⟨l, h1, h2⟩ := kt (xs := r) (j := j + 1) (C := λl => C (n :: l)) h;exact ⟨n :: l, h1, λD hD => by rw [xp, hb]; exact h2 (λl => D (n :: l)) hD⟩
 | (_, .int .u64 _) :: _, _, _, h | (_, .int .i8 _) :: _, _, _, h | (_, .int .i16 _) :: _, _, _, h | (_, .int .i32 _) :: _, _, _, h | (_, .int .u8 _) :: _, _, _, h | (_, .int .u16 _) :: _, _, _, h | (_, .int .u32 _) :: _, _, _, h => h.elim
 | (_, .tr) :: _, _, _, h | (_, .fa) :: _, _, _, h | (_, .bool _) :: _, _, _, h | (_, .nil) :: _, _, _, h | (_, .ints _ _) :: _, _, _, h | (_, .vals _ _ _ _) :: _, _, _, h | (_, .agg _) :: _, _, _, h | (_, .tup _) :: _, _, _, h | (_, .box _ _) :: _, _, _, h | (_, .func _ _) :: _, _, _, h | (_, .rf _ _) :: _, _, _, h => h.elim
theorem ku : ∀ {xs : List (Nat × V)} {j : Nat} {C : List V -> Prop}, y3 xs j C -> ∃ l, C l ∧ ∀ D : List V -> Prop, D l -> y3 xs j D
 | [], _, C, h => ⟨[], h, λ_ h => h⟩
 | (i, x) :: r, j, C, h => by
  rw [y3] at h;cases hb : Nat.beq i j
  ·rw [hb] at h; exact h.elim
  ·rw [hb] at h;obtain ⟨l, h1, h2⟩ := ku (xs := r) (j := j + 1) (C := λl => C (x :: l)) h;exact ⟨x :: l, h1, λD hD => by rw [y3, hb]; exact h2 (λl => D (x :: l)) hD⟩
theorem zb8 {cx : Cx} {d t n : Nat} {ps : List (Nat × Operand)} {e : Env} {C : Nat -> AV -> Prop} (h : yt cx d t n ps e C) :
  ∃ av, C d av ∧ ∀ e' (D : Nat -> AV -> Prop), (∀ q ∈ ps, ∀ t ∈ opT q.2, sim (get e t) (get e' t)) -> D d av -> yt cx d t n ps e' D := by
 unfold yt at h;obtain ⟨i, h1, k1⟩ := zv h;cases hk : i.kind with
 | slice el =>
  rw [hk] at h1;obtain ⟨j, h2, k2⟩ := zv h1;obtain ⟨xs, h3, k3⟩ := zdo h2
  have fin : ∀ av, C d av -> (∀ (D : Nat -> AV -> Prop), D d av -> (match j.kind with
    | .int .i64 => xp xs 0 λl => (l.length = n ∧ n * j.size <= 10000) ∧ D d (.v (.ints none l))
    | _ => y3 xs 0 λl => (l.length = n ∧ n * j.size <= 10000 ∧ (∀ x ∈ l, x.cells.length = j.size ∧ x.flat = true)) ∧ D d (.v (.vals none j.size n (nth l))))) ->
    ∃ av, C d av ∧ ∀ e' (D : Nat -> AV -> Prop), (∀ q ∈ ps, ∀ t ∈ opT q.2, sim (get e t) (get e' t)) -> D d av -> yt cx d t n ps e' D := by
   intro av hav hb;refine ⟨av, hav, λe' D hs hD => ?_⟩;unfold yt;refine k1 _ ?_;rw [hk];exact k2 _ (k3 e' _ hs (hb D hD))
  split at h3
  ·rename_i hi
   obtain ⟨l, h4, k4⟩ := kt h3;refine fin _ h4.2 λD hD => ?_;rw [hi];exact k4 _ ⟨h4.1, hD⟩
  ·rename_i hi
   obtain ⟨l, h4, k4⟩ := ku h3;refine fin _ h4.2 λD hD => ?_
   split
   ·rename_i h5; exact absurd h5 hi
   ·exact k4 _ ⟨h4.1, hD⟩
 | _ => rw [hk] at h1; exact h1.elim

theorem zeZ {cx : Cx} {e : Env} {t : Nat} {a : AV} {C : V -> Prop} (h : zc8 cx e t a C) : ∃ x, C x ∧ ∀ e' (D : V -> Prop), (∀ u, a.touches u = true -> get e u = get e' u) -> D x -> zc8 cx e' t a D := by
 unfold zc8 at h;obtain ⟨i, h1, h2⟩ := zv h;have go : ∀ {x : V} {off : Nat} {C : V -> Prop}, z3 i x off C -> ∃ y, C y ∧ ∀ D : V -> Prop, D y -> z3 i x off D := zb7;cases a with
 | pv x off =>
  obtain ⟨y, h3, h4⟩ := go h1;exact ⟨y, h3, λe' D _ hD => h2 _ (h4 D hD)⟩
 | v x =>
  cases x with
  | box g z =>
   obtain ⟨y, h3, h4⟩ := go h1;exact ⟨y, h3, λe' D _ hD => h2 _ (h4 D hD)⟩
  | _ => exact h1.elim
 | ownB b x =>
  obtain ⟨y, h3, h4⟩ := go h1;exact ⟨y, h3, λe' D _ hD => h2 _ (h4 D hD)⟩
 | al s =>
  simp only [zb] at h1
  have hu : ∀ e', (∀ u, (AV.al s).touches u = true -> get e u = get e' u) -> get e' s = get e s := λe' hh => (hh s (by simp [AV.touches])).symm;cases hs : get e s with
  | ownB b x =>
   rw [hs] at h1;obtain ⟨y, h3, h4⟩ := go h1;exact ⟨y, h3, λe' D hh hD => h2 _ (by simp only [zb, hu e' hh, hs]; exact h4 D hD)⟩
  | v x =>
   rw [hs] at h1;cases x with
   | box g z =>
    obtain ⟨y, h3, h4⟩ := go h1;exact ⟨y, h3, λe' D hh hD => h2 _ (by simp only [zb, hu e' hh, hs]; exact h4 D hD)⟩
   | _ => exact h1.elim
  | _ => rw [hs] at h1; exact h1.elim
 | pl s ix off =>
  simp only [zb] at h1
  have hu : ∀ e', (∀ u, (AV.pl s ix off).touches u = true -> get e u = get e' u) -> get e' s = get e s := λe' hh => (hh s (by simp [AV.touches])).symm;cases hs : get e s with
  | ownI el b xs =>
   rw [hs] at h1;simp only at h1
   cases hk : i.kind with
   | int k =>
    rw [hk] at h1;cases k <;> first | exact h1.elim | skip
    simp only at h1
    cases hb : Nat.beq off 0
    ·rw [hb] at h1; exact h1.elim
    ·rw [hb] at h1;exact ⟨_, h1, λe' D hh hD => h2 _ (by simp only [zb, hu e' hh, hs, hk, hb]; exact hD)⟩
   | _ => rw [hk] at h1; exact h1.elim
  | ownV el sz b n f =>
   rw [hs] at h1;obtain ⟨y, h3, h4⟩ := go h1;exact ⟨y, h3, λe' D hh hD => h2 _ (by simp only [zb, hu e' hh, hs]; exact h4 D hD)⟩
  | ownB b x =>
   rw [hs] at h1;obtain ⟨y, h3, h4⟩ := go h1;exact ⟨y, h3, λe' D hh hD => h2 _ (by simp only [zb, hu e' hh, hs]; exact h4 D hD)⟩
  | _ => rw [hs] at h1; exact h1.elim
 | pr b ix =>
  cases hk : i.kind with
  | int k =>
   rw [hk] at h1;cases k <;> first | exact h1.elim | skip
   simp only [zb] at h1
   cases hs : get e vt with
   | tab tb =>
    rw [hs] at h1;obtain ⟨xs, h3, h4, h5⟩ := h1;refine ⟨_, h5, λe' D hh hD => h2 _ ?_⟩;have : get e' vt = .tab tb := by rw [<- hh vt (by simp [AV.touches]), hs]
    simp only [hk, zb, this]
    exact ⟨xs, h3, h4, hD⟩
   | _ => rw [hs] at h1; exact h1.elim
  | _ => rw [hk] at h1; exact h1.elim
 | _ => exact h1.elim

theorem ziU {o : Oper} {x : Operand} (h : x ∈ o.op.operands.toList) {t : Nat} (ht : t ∈ opT x) : t ∈ jo o := by
 cases x with
 | tmp u => simp only [opT, List.mem_singleton] at ht; subst ht; exact List.mem_append_right _ (List.mem_filterMap.2 ⟨.tmp t, h, rfl⟩)
 | _ => simp [opT] at ht

theorem ziV {d t : Nat} {e : Env} {C : Nat -> AV -> Prop} (h : vh d t e C) : ∃ av, C d av ∧ ∀ e' (D : Nat -> AV -> Prop), sim (get e t) (get e' t) -> D d av -> vh d t e' D := by
 simp only [vh, zb] at h
 cases ht : get e t with
 | dead => rw [ht] at h; exact h.elim
 | ownI el b xs =>
  rw [ht] at h;refine ⟨_, h, λe' D hs hD => ?_⟩;simp only [vh, zb]
  cases ht' : get e' t <;> rw [ht'] at hs <;> first | exact hD | simp [sim] at hs
 | ownV el sz b n f =>
  rw [ht] at h;refine ⟨_, h, λe' D hs hD => ?_⟩;simp only [vh, zb]
  cases ht' : get e' t <;> rw [ht'] at hs <;> first | exact hD | simp [sim] at hs
 | ownB b x =>
  rw [ht] at h;refine ⟨_, h, λe' D hs hD => ?_⟩;simp only [vh, zb]
  cases ht' : get e' t <;> rw [ht'] at hs <;> first | exact hD | simp [sim] at hs
 | v x =>
  rw [ht] at h;refine ⟨_, h, λe' D hs hD => ?_⟩;have : get e' t = .v x := by cases ht' : get e' t <;> rw [ht'] at hs <;> simp_all [sim]
  simp only [vh, zb, this]; exact hD
 | al s =>
  rw [ht] at h;refine ⟨_, h, λe' D hs hD => ?_⟩;have : get e' t = .al s := by cases ht' : get e' t <;> rw [ht'] at hs <;> simp_all [sim]
  simp only [vh, zb, this]; exact hD
 | pl s i off =>
  rw [ht] at h;refine ⟨_, h, λe' D hs hD => ?_⟩;have : get e' t = .pl s i off := by cases ht' : get e' t <;> rw [ht'] at hs <;> simp_all [sim]
  simp only [vh, zb, this]; exact hD
 | pv x off =>
  rw [ht] at h;refine ⟨_, h, λe' D hs hD => ?_⟩;have : get e' t = .pv x off := by cases ht' : get e' t <;> rw [ht'] at hs <;> simp_all [sim]
  simp only [vh, zb, this]; exact hD
 | sl b i n =>
  rw [ht] at h;refine ⟨_, h, λe' D hs hD => ?_⟩;have : get e' t = .sl b i n := by cases ht' : get e' t <;> rw [ht'] at hs <;> simp_all [sim]
  simp only [vh, zb, this]; exact hD
 | pr b i =>
  rw [ht] at h;refine ⟨_, h, λe' D hs hD => ?_⟩;have : get e' t = .pr b i := by cases ht' : get e' t <;> rw [ht'] at hs <;> simp_all [sim]
  simp only [vh, zb, this]; exact hD
 | tab tb => rw [ht] at h; exact h.elim
 | keep O U hw kk vv => rw [ht] at h; exact h.elim
 | tupO i o vs => rw [ht] at h; exact h.elim

theorem zgd {d t : Nat} {e : Env} {C : Nat -> AV -> Prop} (h : jW d t e C) : ∃ av, C d av ∧ ∀ e' (D : Nat -> AV -> Prop), sim (get e t) (get e' t) -> D d av -> jW d t e' D := by
 simp only [jW, zb] at h
 cases ht : get e t with
 | v x =>
  rw [ht] at h;refine ⟨_, h, λe' D hs hD => ?_⟩;have : get e' t = .v x := by cases ht' : get e' t <;> rw [ht'] at hs <;> simp_all [sim]
  simp only [jW, zb, this]; exact hD
 | _ => rw [ht] at h; exact h.elim

theorem zkb {tt : TT} {d : Nat} {op : BinOp} {t : Nat} {p q : Bool} {C : Nat -> AV -> Prop} (h : ziP tt d op t p q C) :
  C d (.v (.bool (!(p == q)))) ∧ ∀ D : Nat -> AV -> Prop, D d (.v (.bool (!(p == q)))) -> ziP tt d op t p q D := by
 unfold ziP at h;obtain ⟨i, h1, k1⟩ := zv h
 split at h1
 ·rename_i hk
  refine ⟨h1, λD hD => k1 _ ?_⟩;rw [hk]; exact hD
 ·exact h1.elim

theorem zhQ {tt : TT} {wr : Bool} {d : Nat} {op : BinOp} {ot : Nat} {x y : Operand} {e : Env} {C : Nat -> AV -> Prop} (h : zdU tt wr d op ot x y e C) :
  ∃ av, C d av ∧ ∀ e' (D : Nat -> AV -> Prop), (∀ t ∈ opT x, sim (get e t) (get e' t)) -> (∀ t ∈ opT y, sim (get e t) (get e' t)) -> D d av -> zdU tt wr d op ot x y e' D := by
 unfold zdU at h;obtain ⟨vx, h1, k1⟩ := yz h;obtain ⟨vy, h2, k2⟩ := yz h1
 split at h2
 ·obtain ⟨h3, k3⟩ := zkb h2;exact ⟨_, h3, λe' D hx hy hD => k1 e' _ hx (k2 e' _ hy (k3 _ hD))⟩
 ·rename_i a k b
  obtain ⟨z, h3, k3⟩ := zeY h2
  split at h3
  ·exact ⟨_, h3, λe' D hx hy hD => k1 e' _ hx (k2 e' _ hy (k3 _ hD))⟩
  ·exact h3.elim
 ·exact h2.elim

theorem ziW {d : Nat} {op : UnOp} {x : Operand} {e : Env} {C : Nat -> AV -> Prop} (h : zg3 d op x e C) :
  ∃ av, C d av ∧ ∀ e' (D : Nat -> AV -> Prop), (∀ t ∈ opT x, sim (get e t) (get e' t)) -> D d av -> zg3 d op x e' D := by
 unfold zg3 at h;obtain ⟨vx, h1, k1⟩ := yz h
 split at h1
 ·exact ⟨_, h1, λe' D hx hD => k1 e' _ hx hD⟩
 ·exact ⟨_, h1, λe' D hx hD => k1 e' _ hx hD⟩
 ·exact ⟨_, h1, λe' D hx hD => k1 e' _ hx hD⟩
 ·exact ⟨_, h1.2, λe' D hx hD => k1 e' _ hx ⟨h1.1, hD⟩⟩
 ·exact h1.elim

theorem zhR {cx : Cx} {d t k : Nat} {x : Operand} {e : Env} {C : Nat -> AV -> Prop} (h : zaB cx d t x k e C) :
  ∃ av, C d av ∧ ∀ e' (D : Nat -> AV -> Prop), (∀ t ∈ opT x, sim (get e t) (get e' t)) -> D d av -> zaB cx d t x k e' D := by
 unfold zaB at h;obtain ⟨i, h1, k1⟩ := zv h;cases hk : i.kind with
 | struct fs =>
  rw [hk] at h1;simp only at h1
  cases hdr : fs.drop k with
  | nil => rw [hdr] at h1; exact h1.elim
  | cons p l =>
   obtain ⟨off, ft⟩ := p;rw [hdr] at h1;simp only at h1
   obtain ⟨j, h2, k2⟩ := zv h1;obtain ⟨t0, cs, rfl, hgt, h3⟩ := zbR h2
   split at h3
   ·exact h3.elim
   ·rename_i hj
    obtain ⟨y, h4, k4⟩ := zb7 h3;refine ⟨_, h4, λe' D hx hD => ?_⟩;have hs := hx t0 (by simp [opT]);have hgt' : get e' t0 = .v (.agg cs) := by rw [hgt] at hs; cases ht' : get e' t0 <;> rw [ht'] at hs <;> simp_all [sim]
    unfold zaB;refine k1 _ ?_;rw [hk];simp only [hdr]
    refine k2 _ ?_;simp only [zhz, zb, hgt']
    exact k4 _ hD
 | _ => rw [hk] at h1; exact h1.elim

theorem zge {cx : Cx} {d t a : Nat} {e : Env} {C : Nat -> AV -> Prop} (h : zdl cx d t a e C) :
  ∃ av, C d av ∧ ∀ e' (D : Nat -> AV -> Prop), (get e a = get e' a ∧ ∀ u, (get e a).touches u = true -> get e u = get e' u) -> D d av -> zdl cx d t a e' D := by
 simp only [zdl, zb] at h
 obtain ⟨x, h1, k1⟩ := zeZ h;refine ⟨_, h1, λe' D hs hD => ?_⟩;simp only [zdl, zb]
 rw [<- hs.1];exact k1 e' _ hs.2 hD

theorem zcX {cx : Cx} {d t a k : Nat} {e : Env} {C : Nat -> AV -> Prop} (h : yR cx d t a k e C) :
  ∃ av, C d av ∧ ∀ e' (D : Nat -> AV -> Prop), sim (get e a) (get e' a) -> D d av -> yR cx d t a k e' D := by
 unfold yR at h;obtain ⟨i, h1, k1⟩ := zv h;cases hk : i.kind with
 | struct fs =>
  rw [hk] at h1;simp only at h1
  cases hdr : fs.drop k with
  | nil => rw [hdr] at h1; exact h1.elim
  | cons p l =>
   obtain ⟨off, ft⟩ := p;rw [hdr] at h1;simp only [zb] at h1
   obtain ⟨j, h2, k2⟩ := zv h1
   have go : ∀ av, (∀ e' (D : Nat -> AV -> Prop), sim (get e a) (get e' a) -> D d av -> (match get e' a with
     | .pl s ix o => D d (.pl s ix (o + off))
     | .pv y o => D d (.pv y (o + off))
     | .ownB _ _ => D d (.pl a 0 off)
     | .v (.box _ y) => D d (.pv y off)
     | _ => False)) -> ∀ e' (D : Nat -> AV -> Prop), sim (get e a) (get e' a) -> D d av -> yR cx d t a k e' D := by
    intro av hav e' D hs hD;unfold yR;refine k1 _ ?_;rw [hk];simp only [hdr, zb]
    exact k2 _ (hav e' D hs hD)
   generalize ht : get e a = av0 at h2 go ⊢;cases av0 with
   | pl s ix o =>
    skip
    refine ⟨_, h2, go _ λe' D hs hD => ?_⟩;have : get e' a = .pl s ix o := by cases ht' : get e' a <;> rw [ht'] at hs <;> simp_all [sim]
    rw [this]; exact hD
   | pv y o =>
    skip
    refine ⟨_, h2, go _ λe' D hs hD => ?_⟩;have : get e' a = .pv y o := by cases ht' : get e' a <;> rw [ht'] at hs <;> simp_all [sim]
    rw [this]; exact hD
   | ownB b y =>
    skip
    refine ⟨_, h2, go _ λe' D hs hD => ?_⟩;cases ht' : get e' a <;> rw [ht'] at hs <;> first | exact hD | simp [sim] at hs
   | v x =>
    skip
    cases x with
    | box g y =>
     refine ⟨_, h2, go _ λe' D hs hD => ?_⟩;have : get e' a = .v (.box g y) := by cases ht' : get e' a <;> rw [ht'] at hs <;> simp_all [sim]
     rw [this]; exact hD
    | _ => exact h2.elim
   | _ => exact h2.elim
 | _ => rw [hk] at h1; exact h1.elim

def zhS (e e' : Env) (t : Nat) : Prop := sim (get e t) (get e' t) ∧ ∀ u, (get e t).touches u = true -> sim (get e u) (get e' u)

theorem ziX {e : Env} {x : Operand} {C : Nat -> AV -> Prop} (h : xC e x C) :
  ∃ s a, C s a ∧ ∀ e' (D : Nat -> AV -> Prop), (∀ t ∈ opT x, zhS e e' t) -> (∀ a', sim a a' -> D s a') -> xC e' x D := by
 cases x with
 | tmp t =>
  simp only [xC, zb] at h
  have dir : ∀ a, get e t = a -> (∀ s, a ≠ .al s) -> C t a -> ∃ s a, C s a ∧ ∀ e' (D : Nat -> AV -> Prop), (∀ t' ∈ opT (.tmp t), zhS e e' t') -> (∀ a', sim a a' -> D s a') -> xC e' (.tmp t) D := by
   intro a ha hna hC;refine ⟨t, a, hC, λe' D hs hD => ?_⟩;have h1 := (hs t (by simp [opT])).1;rw [ha] at h1;have hD' := hD _ h1;simp only [xC, zb]
   split
   ·rename_i s hs'
    rw [hs'] at h1;cases a <;> simp [sim] at h1
    exact absurd rfl (hna _)
   ·exact hD'
  cases ht : get e t with
  | al s =>
   rw [ht] at h;simp only at h
   refine ⟨s, _, h, λe' D hs hD => ?_⟩;have h1 := hs t (by simp [opT]);have : get e' t = .al s := by have h1 := h1.1; cases ht' : get e' t <;> rw [ht, ht'] at h1 <;> simp_all [sim]
   simp only [xC, zb, this]
   exact hD _ (h1.2 s (by rw [ht]; simp [AV.touches]))
  | _ => rw [ht] at h; exact dir _ ht (by simp) h
 | _ => exact h.elim

theorem zcY {cx : Cx} {d t : Nat} {x i : Operand} {e : Env} {C : Nat -> AV -> Prop} (h : yS cx d t x i e C) :
  ∃ av, C d av ∧ ∀ e' (D : Nat -> AV -> Prop), (∀ t ∈ opT i, sim (get e t) (get e' t)) -> (∀ t ∈ opT x, zhS e e' t) -> D d av -> yS cx d t x i e' D := by
 unfold yS at h;obtain ⟨ti, h1, k1⟩ := zv h;cases hk : ti.kind with
 | slice el =>
  rw [hk] at h1;obtain ⟨tj, h2, k2⟩ := zv h1;obtain ⟨vi, h3, k3⟩ := yz h2
  have go : ∀ {n : Int} {av : AV} (_ : vi = .int .i64 n) (P : ∀ e' (D : Nat -> AV -> Prop), (∀ t ∈ opT x, zhS e e' t) -> D d av -> xC e' x λs a => match a with
   | .ownI _ _ xs => bif Nat.beq tj.size 1 then idx n xs.length ∧ D d (.pl s n.toNat 0) else False
   | .ownV _ sz _ m _ => bif Nat.beq sz tj.size then idx n m ∧ D d (.pl s n.toNat 0) else False
   | .v (.rf b m) => bif Nat.beq tj.size 1 then idx n m ∧ D d (.pr b n.toNat) else False
   | .v (.ints _ xs) => bif Nat.beq tj.size 1 then idx n xs.length ∧ D d (.pv (.int .i64 (xs.getD n.toNat 0)) 0) else False
   | .v (.vals _ sz m f) => bif Nat.beq sz tj.size then idx n m ∧ D d (.pv (f n.toNat) 0) else False
   | _ => False), ∀ e' (D : Nat -> AV -> Prop), (∀ t ∈ opT i, sim (get e t) (get e' t)) -> (∀ t ∈ opT x, zhS e e' t) -> D d av -> yS cx d t x i e' D := by
   intro n av hn P e' D hi hx hD;unfold yS;refine k1 _ ?_;rw [hk];refine k2 _ (k3 e' _ hi ?_);subst hn;exact P e' D hx hD
  cases vi with
  | int k n =>
   cases k with
   | i64 =>
    obtain ⟨s, a, h4, k4⟩ := ziX h3;have hb : ∀ {b : Bool} {p : Prop}, (bif b then p else False) -> b = true ∧ p := λ{b p} h => by cases b <;> simp_all
    cases a with
    | ownI el' b xs =>
     obtain ⟨hb1, hb2, hb3⟩ := hb h4;refine ⟨_, hb3, go rfl λe' D hx hD => k4 e' _ hx λa' ha' => ?_⟩;cases a' <;> simp [sim] at ha'
     show (bif _ then _ else False)
     rw [hb1]; exact ⟨⟨hb2.1, by rw [<- ha'.2.2]; exact hb2.2⟩, hD⟩
    | ownV el' sz b m f =>
     obtain ⟨hb1, hb2, hb3⟩ := hb h4;refine ⟨_, hb3, go rfl λe' D hx hD => k4 e' _ hx λa' ha' => ?_⟩;cases a' <;> simp [sim] at ha'
     obtain ⟨rfl, rfl, rfl, rfl⟩ := ha';show (bif _ then _ else False)
     rw [hb1]; exact ⟨hb2, hD⟩
    | v y =>
     cases y with
     | ints g xs =>
      obtain ⟨hb1, hb2, hb3⟩ := hb h4;refine ⟨_, hb3, go rfl λe' D hx hD => k4 e' _ hx λa' ha' => ?_⟩;rw [zb6 ha'];show (bif _ then _ else False)
      rw [hb1]; exact ⟨hb2, hD⟩
     | rf b m =>
      obtain ⟨hb1, hb2, hb3⟩ := hb h4;refine ⟨_, hb3, go rfl λe' D hx hD => k4 e' _ hx λa' ha' => ?_⟩;rw [zb6 ha'];show (bif _ then _ else False)
      rw [hb1]; exact ⟨hb2, hD⟩
     | vals g sz m f =>
      obtain ⟨hb1, hb2, hb3⟩ := hb h4;refine ⟨_, hb3, go rfl λe' D hx hD => k4 e' _ hx λa' ha' => ?_⟩;rw [zb6 ha'];show (bif _ then _ else False)
      rw [hb1]; exact ⟨hb2, hD⟩
     | _ => exact h4.elim
    | _ => exact h4.elim
   | _ => exact h3.elim
  | _ => exact h3.elim
 | _ => rw [hk] at h1; exact h1.elim

abbrev eqA (e e' : Env) (t : Nat) : Prop := get e t = get e' t ∧ ∀ u, (get e t).touches u = true -> get e u = get e' u

theorem zhT {cx : Cx} {d t : Nat} {x : Operand} {e : Env} {C : Nat -> AV -> Prop} (h : zhP cx d t x e C) :
  ∃ av, C d av ∧ ∀ e' (D : Nat -> AV -> Prop), (∀ t ∈ opT x, eqA e e' t) -> D d av -> zhP cx d t x e' D := by
 unfold zhP at h;obtain ⟨i, h1, k1⟩ := zv h;cases hk : i.kind with
 | slice el =>
  rw [hk] at h1;obtain ⟨vx, h2, k2⟩ := zdX h1
  have : ∃ n, C d (.v (.int .i64 n)) ∧ ∀ D : Int -> Prop, D n -> zfX vx D := by
   cases vx <;> first | exact h2.elim | exact ⟨_, h2, λD h => h⟩
  obtain ⟨n, h3, k3⟩ := this;refine ⟨_, h3, λe' D hx hD => ?_⟩;unfold zhP;refine k1 _ ?_;rw [hk];exact k2 e' _ hx (k3 _ hD)
 | _ => rw [hk] at h1; exact h1.elim

theorem zb9 {e : Env} : ∀ {cs : List V} {C : List V -> Prop}, zao e cs C -> ∃ ds, C ds ∧ ∀ (e' : Env) (D : List V -> Prop), get e vt = get e' vt -> D ds -> zao e' cs D
 | [], C, h => ⟨[], h, λe' D _ hD => hD⟩
 | x :: cs, C, h => by
  have go : (zao e cs λds => C (x :: ds)) -> (∀ e' (D : List V -> Prop), (zao e' cs λds => D (x :: ds)) -> zao e' (x :: cs) D) -> ∃ ds, C ds ∧ ∀ (e' : Env) (D : List V -> Prop), get e vt = get e' vt -> D ds -> zao e' (x :: cs) D := λh hk => by
   obtain ⟨ds, h1, h2⟩ := zb9 h;exact ⟨x :: ds, h1, λe' D hv hD => hk e' D (h2 e' (λds => D (x :: ds)) hv hD)⟩
  cases x with
  | rf b n =>
   simp only [zao, zan, zb] at h
   cases ht : get e vt with
   | tab tb =>
    rw [ht] at h;obtain ⟨xs, h1, h2⟩ := h;obtain ⟨ds, h3, h4⟩ := zb9 h2;refine ⟨_, h3, λe' D hv hD => ?_⟩;simp only [zao, zan, zb, <- hv]
    exact ⟨xs, h1, h4 e' (λds => D (.ints (some b) xs :: ds)) (ht.trans hv) hD⟩
   | _ => rw [ht] at h; exact h.elim
  | _ => exact go h λe' D h => h
theorem zkc {e : Env} {x : V} {C : V -> Prop} (h : deK e x C) : ∃ y, C y ∧ ∀ (e' : Env) (D : V -> Prop), get e vt = get e' vt -> D y -> deK e' x D := by
 cases x with
 | rf b n =>
  simp only [deK, zan, zb] at h
  cases ht : get e vt with
  | tab tb =>
   rw [ht] at h;obtain ⟨xs, h1, h2⟩ := h;refine ⟨_, h2, λe' D hv hD => ?_⟩;simp only [deK, zan, zb, <- hv]
   exact ⟨xs, h1, hD⟩
  | _ => rw [ht] at h; exact h.elim
 | agg cs =>
  obtain ⟨ds, h1, h2⟩ := zb9 h;exact ⟨_, h1, λe' D hv hD => h2 e' _ hv hD⟩
 | vals g sz n f =>
  simp only [deK, zan, zb] at h
  cases ht : get e vt with
  | tab tb =>
   rw [ht] at h;obtain ⟨f', h1, h2⟩ := h;refine ⟨_, h2, λe' D hv hD => ?_⟩;simp only [deK, zan, zb, <- hv]
   exact ⟨f', h1, hD⟩
  | _ => rw [ht] at h; exact h.elim
 | _ => exact ⟨_, h, λe' D _ hD => hD⟩
theorem zaC {tt : TT} {e : Env} : ∀ {os : List Operand} {ts : List Nat} {C : List V -> Prop}, xA tt e os ts C ->
  ∃ xs, C xs ∧ ∀ e' (D : List V -> Prop), (∀ o ∈ os, ∀ t ∈ opT o, get e t = get e' t ∧ ∀ u, (get e t).touches u = true -> get e u = get e' u) -> get e vt = get e' vt -> D xs -> xA tt e' os ts D
 | [], ts, C, h => ⟨[], h, λe' D _ _ hD => hD⟩
 | o :: os, [], C, h => h.elim
 | o :: os, t :: ts, C, h => by
  obtain ⟨x, h1, h2⟩ := zdX (C := λx => xh tt t x λx => deK e x λx => xA tt e os ts λxs => C (x :: xs)) h;obtain ⟨y, h3, h4⟩ := zdn h1;obtain ⟨z, h7, h8⟩ := zkc h3;obtain ⟨xs, h5, h6⟩ := zaC (C := λxs => C (z :: xs)) h7;exact ⟨z :: xs, h5, λe' D ha hv hD => h2 e' _ (ha o (by simp)) (h4 _ (h8 e' _ hv (h6 e' (λxs => D (z :: xs)) (λo' ho' => ha o' (by simp [ho'])) hv hD)))⟩

theorem zgf {cx : Cx} {d f : Nat} {args : List Operand} {ts : List Nat} {e : Env} {C : Nat -> AV -> Prop} (h : kS cx d f args ts e C) :
  ∃ av, C d av ∧ ∀ e' (D : Nat -> AV -> Prop), (∀ o ∈ args, ∀ t ∈ opT o, eqA e e' t) -> get e vt = get e' vt -> D d av -> kS cx d f args ts e' D := by
 unfold kS at h ⊢
 split at h
 ·rename_i hm
  have go : (x9 cx.tt e args ts λxs => kR cx f xs (C d)) -> ∃ av, C d av ∧ ∀ e' (D : Nat -> AV -> Prop), (∀ o ∈ args, ∀ t ∈ opT o, eqA e e' t) -> get e vt = get e' vt -> D d av -> x9 cx.tt e' args ts λxs => kR cx f xs (D d) := λh => by
   obtain ⟨xs, ⟨r, h1, h2⟩, k1⟩ := jF h;exact ⟨_, h2, λe' D hx _ hD => k1 e' _ hx ⟨r, h1, hD⟩⟩
  have goT : (xA cx.tt e args ts λxs => bif cx.ts.elem f then False else kR cx f xs (C d)) -> ∃ av, C d av ∧ ∀ e' (D : Nat -> AV -> Prop), (∀ o ∈ args, ∀ t ∈ opT o, eqA e e' t) -> get e vt = get e' vt -> D d av -> xA cx.tt e' args ts λxs => bif cx.ts.elem f then False else kR cx f xs (D d) := λh => by
   obtain ⟨xs, h0, k1⟩ := zaC h;cases hf : cx.ts.elem f
   ·rw [hf] at h0;obtain ⟨r, h1, h2⟩ := h0;exact ⟨_, h2, λe' D hx hv hD => k1 e' _ hx hv ⟨r, h1, hD⟩⟩
   ·rw [hf] at h0; exact h0.elim
  cases hg : cx.gh <;> rw [hg] at h <;> first | exact goT h | exact go h
 ·exact h.elim

theorem ze0 {cx : Cx} {d t : Nat} {args : List Operand} {ts : List Nat} {e : Env} {C : Nat -> AV -> Prop} (h : vN cx d t args ts e C) :
  ∃ av, C d av ∧ ∀ e' (D : Nat -> AV -> Prop), sim (get e t) (get e' t) -> (∀ o ∈ args, ∀ t ∈ opT o, eqA e e' t) -> D d av -> vN cx d t args ts e' D := by
 simp only [vN, zb] at h
 cases ht : get e t with
 | v x =>
  rw [ht] at h;cases x with
  | func f caps =>
   obtain ⟨xs, ⟨r, h1, h2⟩, k1⟩ := jF h;refine ⟨_, h2, λe' D hs hx hD => ?_⟩;have := zb6 hs;simp only [vN, zb, this]
   exact k1 e' _ hx ⟨r, h1, hD⟩
  | _ => exact h.elim
 | _ => rw [ht] at h; exact h.elim

theorem zca {x : V} {C : Prop} (h : zR x λ_ => C) : C ∧ ∀ D : Prop, D -> zR x λ_ => D := by
 cases x <;> first | exact h.elim | exact ⟨h, λD h => h⟩
theorem ze1 {x : V} {C : Bool -> Prop} (h : zR x C) : ∃ b, C b ∧ ∀ D : Bool -> Prop, D b -> zR x D := by
 cases x <;> first | exact h.elim | exact ⟨_, h, λD h => h⟩
theorem ziY {x : V} {C : Option Bool -> Prop} (h : zix x C) : ∃ p, C p ∧ ∀ D : Option Bool -> Prop, D p -> zix x D := by
 match x, h with
 | .tr, h => exact ⟨_, h, λD h => h⟩
 | .fa, h => exact ⟨_, h, λD h => h⟩
 | .bool _, h => exact ⟨_, h, λD h => h⟩
 | .tup [], h => exact ⟨_, h, λD h => h⟩
theorem zdY {e : Env} {o : Operand} {C : Option Bool -> Prop} (h : boK e o C) : ∃ p, C p ∧ ∀ e' (D : Option Bool -> Prop), (∀ t ∈ opT o, sim (get e t) (get e' t)) -> D p -> boK e' o D := by
 cases o with
 | tmp t =>
  simp only [boK, zb] at h
  cases ht : get e t with
  | v x =>
   rw [ht] at h;obtain ⟨b, h1, k1⟩ := ziY h;refine ⟨_, h1, λe' D hs hD => ?_⟩;have := zb6 (ht ▸ hs t (by simp [opT]));simp only [boK, zb, this]; exact k1 D hD
  | dead =>
   rw [ht] at h;refine ⟨_, h, λe' D hs hD => ?_⟩;have : get e' t = .dead := by have := hs t (by simp [opT]); rw [ht] at this; cases ht' : get e' t <;> rw [ht'] at this <;> simp_all [sim]
   simp only [boK, zb, this]; exact hD
  | _ => rw [ht] at h; exact h.elim
 | const c =>
  obtain ⟨x, h1, h2⟩ := yy (C := λx => zR x λb => C (some b)) h;obtain ⟨b, h3, k3⟩ := ze1 h1;exact ⟨_, h3, λe' D _ hD => h2 (λx => zR x λb => D (some b)) (k3 (λb => D (some b)) hD)⟩
 | _ => exact h.elim

theorem ziZ {d : Nat} {c a b : Operand} {e : Env} {C : Nat -> AV -> Prop} (h : zg4 d c a b e C) :
  ∃ av, C d av ∧ ∀ e' (D : Nat -> AV -> Prop), (∀ t ∈ opT c, sim (get e t) (get e' t)) -> (∀ t ∈ opT a, sim (get e t) (get e' t)) -> (∀ t ∈ opT b, sim (get e t) (get e' t)) -> D d av -> zg4 d c a b e' D := by
 unfold zg4 at h;obtain ⟨vc, h1, k1⟩ := yz h
 have go : ∀ {x : Operand}, (ye e x λx => zR x λ_ => C d (.v x)) -> ∃ y, C d (.v y) ∧ ∀ e' (D : Nat -> AV -> Prop), (∀ t ∈ opT x, sim (get e t) (get e' t)) -> D d (.v y) -> ye e' x λx => zR x λ_ => D d (.v x) := by
  intro x h;obtain ⟨y, h2, k2⟩ := yz h;obtain ⟨h3, k3⟩ := zca h2;exact ⟨y, h3, λe' D hs hD => k2 e' _ hs (k3 _ hD)⟩
 cases vc with
 | tr =>
  obtain ⟨y, h2, k2⟩ := go h1;exact ⟨_, h2, λe' D hc ha hb hD => k1 e' _ hc (k2 e' D ha hD)⟩
 | fa =>
  obtain ⟨y, h2, k2⟩ := go h1;exact ⟨_, h2, λe' D hc ha hb hD => k1 e' _ hc (k2 e' D hb hD)⟩
 | bool t =>
  obtain ⟨p, h2, k2⟩ := zdY h1;obtain ⟨q, h3, k3⟩ := zdY h2;cases p with
  | some p => cases q with
   | some q => exact ⟨_, h3, λe' D hc ha hb hD => k1 e' _ hc (k2 e' _ ha (k3 e' _ hb hD))⟩
   | none => exact ⟨_, h3.2, λe' D hc ha hb hD => k1 e' _ hc (k2 e' _ ha (k3 e' _ hb ⟨h3.1, hD⟩))⟩
  | none => cases q with
   | some q => exact ⟨_, h3.2, λe' D hc ha hb hD => k1 e' _ hc (k2 e' _ ha (k3 e' _ hb ⟨h3.1, hD⟩))⟩
   | none => exact h3.elim
 | _ => exact h1.elim

theorem zhU {cx : Cx} {t a : Nat} {x : Operand} {e : Env} {C : Nat -> AV -> Prop} (h : jD cx t a x e C) :
  ∃ s av, C s av ∧ sim (get e s) av ∧ ((∃ i off, get e a = .pl s i off) ∨ (s = vt ∧ ∃ b i, get e a = .pr b i)) ∧ ∀ e' (D : Nat -> AV -> Prop), (∀ t ∈ opT x, sim (get e t) (get e' t)) -> eqA e e' a -> D s av -> jD cx t a x e' D := by
 unfold jD at h;obtain ⟨vx, h1, k1⟩ := yz h;obtain ⟨i, h2, k2⟩ := zv h1;cases hb : (Nat.beq vx.cells.length i.size)
 ·rw [hb] at h2; exact h2.elim
 ·rw [hb] at h2;simp only [cond_true, zb] at h2
  cases ha : get e a with
  | pl s ix off =>
   rw [ha] at h2;simp only [xW, zb] at h2
   have go : ∀ {av : AV}, (∀ e' (D : Nat -> AV -> Prop), get e' s = get e s -> D s av -> xW e' s ix off vx D) ->
     ∀ e' (D : Nat -> AV -> Prop), (∀ t ∈ opT x, sim (get e t) (get e' t)) -> eqA e e' a -> D s av -> jD cx t a x e' D := by
    intro av P e' D hx hA hD;unfold jD;refine k1 e' _ hx (k2 _ ?_);rw [hb];simp only [cond_true, zb, <- hA.1, ha]
    exact P e' D (hA.2 s (by rw [ha]; simp [AV.touches])).symm hD
   cases hs : get e s with
   | ownI el b xs =>
    rw [hs] at h2;cases vx with
    | int k n =>
     cases k with
     | i64 =>
      simp only at h2
      cases hb' : Nat.beq off 0
      ·rw [hb'] at h2; exact h2.elim
      ·rw [hb'] at h2;refine ⟨s, _, h2, by rw [hs]; simp [sim], (.inl ⟨ix, off, rfl⟩), go λe' D he hD => ?_⟩;simp only [xW, zb, he, hs, hb', cond_true]; exact hD
     | _ => exact h2.elim
    | _ => exact h2.elim
   | ownV el sz b n f =>
    rw [hs] at h2;obtain ⟨h3, g, h4, h5, h6⟩ := h2;refine ⟨s, _, h6, by rw [hs]; simp [sim], (.inl ⟨ix, off, rfl⟩), go λe' D he hD => ?_⟩;simp only [xW, zb, he, hs]; exact ⟨h3, g, h4, h5, hD⟩
   | ownB b y =>
    rw [hs] at h2;obtain ⟨h3, h6⟩ := h2;refine ⟨s, _, h6, by rw [hs]; simp [sim], (.inl ⟨ix, off, rfl⟩), go λe' D he hD => ?_⟩;simp only [xW, zb, he, hs]; exact ⟨h3, hD⟩
   | _ => rw [hs] at h2; exact h2.elim
  | pr b ix =>
   rw [ha] at h2;cases vx with
   | int k n =>
    cases k with
    | i64 =>
     simp only [jV, zb] at h2
     cases hs : get e vt with
     | tab tb =>
      rw [hs] at h2;obtain ⟨xs, h3, h4, h5⟩ := h2;refine ⟨vt, _, h5, ?_, .inr ⟨rfl, b, ix, rfl⟩, λe' D hx hA hD => ?_⟩
      ·rw [hs];intro c
       by_cases hc : c = b
       ·subst hc; rw [yn, h3]; simp
       ·rw [yH _ _ hc]
      ·unfold jD;refine k1 e' _ hx (k2 _ ?_);rw [hb];have : get e' vt = .tab tb := by rw [<- hA.2 vt (by rw [ha]; simp [AV.touches]), hs]
       simp only [cond_true, zb, <- hA.1, ha, jV, this]
       exact ⟨xs, h3, h4, hD⟩
     | _ => rw [hs] at h2; exact h2.elim
    | _ => exact h2.elim
   | _ => exact h2.elim
  | _ => rw [ha] at h2; exact h2.elim

open Go Go.RowKit

def Wr (o : Oper) (σ : Nat -> AV) (s : Nat) (av : AV) : Prop :=
 match o.dst with
 | some d => s = d
 | none => xE o ≠ 0 ∧ sim (σ s) av ∧ ∃ a, (σ a).touches s = true

theorem ze2 {cx : Cx} {o : Oper} {e : Env} {C : Nat -> AV -> Prop} (h : zY cx o e C) : ∃ s av, C s av ∧ LS0 cx o (get e) s av ∧ Wr o (get e) s av := by
 have sims : ∀ {e' : Env} {t : Nat}, jp (xE o) (jo o) (get e) (get e') -> t ∈ jo o -> sim (get e t) (get e' t) := λhA ht => zbt (hA _ ht).1;have simAs : ∀ {e' : Env} {t : Nat}, jp (xE o) (jo o) (get e) (get e') -> t ∈ jo o -> zhS e e' t := λhA ht => ⟨zbt (hA _ ht).1, λu hu => zbt ((hA _ ht).2 u hu)⟩
 have eqAs : ∀ {e' : Env} {t : Nat}, jp (xE o) (jo o) (get e) (get e') -> xE o ≠ 0 -> t ∈ jo o -> eqA e e' t := λhA hc ht => by
  have h1 := hA _ ht;simp only [rel, hc, if_false] at h1
  exact h1
 have mem : ∀ {x : Operand} {t : Nat}, x ∈ o.op.operands.toList -> t ∈ opT x -> t ∈ jo o := λhx ht => ziU hx ht;cases hd : o.dst with
 | some d =>
  have wr : ∀ av, Wr o (get e) d av := λav => by unfold Wr; rw [hd]
  unfold zY at h;rw [hd] at h;simp only at h
  split at h
  ·rename_i t hop
   obtain ⟨av, h1, k1⟩ := ziV h;refine ⟨d, av, h1, λe' hA => ?_, wr _⟩;unfold zY; rw [hd]; simp only [hop];exact k1 e' _ (sims hA (mem (x := .tmp t) (by simp [hop, Op.operands]) (by simp [opT]))) ⟨rfl, rfl⟩
  ·rename_i c hop
   obtain ⟨x, h1, k1⟩ := yy h;refine ⟨d, _, h1, λe' hA => ?_, wr _⟩;unfold zY; rw [hd]; simp only [hop];exact k1 (λy => True ∧ AV.v y = AV.v x) ⟨trivial, rfl⟩
  ·rename_i t hop
   obtain ⟨av, h1, k1⟩ := zgd h;refine ⟨d, av, h1, λe' hA => ?_, wr _⟩;unfold zY; rw [hd]; simp only [hop];exact k1 e' _ (sims hA (mem (x := .tmp t) (by simp [hop, Op.operands]) (by simp [opT]))) ⟨rfl, rfl⟩
  ·rename_i c hop
   obtain ⟨x, h1, k1⟩ := yy h;refine ⟨d, _, h1, λe' hA => ?_, wr _⟩;unfold zY; rw [hd]; simp only [hop];exact k1 (λy => True ∧ AV.v y = AV.v x) ⟨trivial, rfl⟩
  ·rename_i c x y hop
   obtain ⟨av, h1, k1⟩ := ziZ h;refine ⟨d, av, h1, λe' hA => ?_, wr _⟩;unfold zY; rw [hd]; simp only [hop];exact k1 e' _ (λt ht => sims hA (mem (x := c) (by simp [hop, Op.operands]) ht)) (λt ht => sims hA (mem (x := x) (by simp [hop, Op.operands]) ht)) (λt ht => sims hA (mem (x := y) (by simp [hop, Op.operands]) ht)) ⟨rfl, rfl⟩
  ·exact h.elim
  ·rename_i op tx x y ty hne hop
   obtain ⟨av, h1, k1⟩ := zhQ h;refine ⟨d, av, h1, λe' hA => ?_, wr _⟩;unfold zY; rw [hd];have := k1 e' (λs' a' => s' = d ∧ a' = av) (λt ht => sims hA (mem (x := x) (by simp [hop, Op.operands]) ht)) (λt ht => sims hA (mem (x := y) (by simp [hop, Op.operands]) ht)) ⟨rfl, rfl⟩;simp only [hop]
   exact this
  ·rename_i op tx x hop
   obtain ⟨av, h1, k1⟩ := ziW h;refine ⟨d, av, h1, λe' hA => ?_, wr _⟩;unfold zY; rw [hd]; simp only [hop];exact k1 e' _ (λt ht => sims hA (mem (x := x) (by simp [hop, Op.operands]) ht)) ⟨rfl, rfl⟩
  ·rename_i t x k hop
   obtain ⟨av, h1, k1⟩ := zhR h;refine ⟨d, av, h1, λe' hA => ?_, wr _⟩;unfold zY; rw [hd]; simp only [hop];exact k1 e' _ (λt ht => sims hA (mem (x := x) (by simp [hop, Op.operands]) ht)) ⟨rfl, rfl⟩
  ·rename_i t aa hop
   obtain ⟨av, h1, k1⟩ := zge h;refine ⟨d, av, h1, λe' hA => ?_, wr _⟩;unfold zY; rw [hd]; simp only [hop];exact k1 e' _ (eqAs hA (by simp [xE, hop]) (mem (x := .tmp aa) (by simp [hop, Op.operands]) (by simp [opT]))) ⟨rfl, rfl⟩
  ·rename_i t aa k hop
   obtain ⟨av, h1, k1⟩ := zcX h;refine ⟨d, av, h1, λe' hA => ?_, wr _⟩;unfold zY; rw [hd]; simp only [hop];exact k1 e' _ (sims hA (mem (x := .tmp aa) (by simp [hop, Op.operands]) (by simp [opT]))) ⟨rfl, rfl⟩
  ·rename_i t x i hop
   obtain ⟨av, h1, k1⟩ := zcY h;refine ⟨d, av, h1, λe' hA => ?_, wr _⟩;unfold zY; rw [hd]; simp only [hop];exact k1 e' _ (λt ht => sims hA (mem (x := i) (by simp [hop, Op.operands]) ht)) (λt ht => simAs hA (mem (x := x) (by simp [hop, Op.operands]) ht)) ⟨rfl, rfl⟩
  ·rename_i t n ps hop
   obtain ⟨av, h1, k1⟩ := zb8 h;refine ⟨d, av, h1, λe' hA => ?_, wr _⟩;unfold zY; rw [hd]; simp only [hop];exact k1 e' _ (λq hq t ht => sims hA (mem (x := q.2) (by simp only [hop, Op.operands]; simpa using ⟨q.1, hq⟩) ht)) ⟨rfl, rfl⟩
  ·rename_i x t hop
   obtain ⟨av, h1, k1⟩ := zhT h;refine ⟨d, av, h1, λe' hA => ?_, wr _⟩;unfold zY; rw [hd]; simp only [hop];exact k1 e' _ (λt ht => eqAs hA (by simp [xE, hop]) (mem (x := x) (by simp [hop, Op.operands, Call.operands]) ht)) ⟨rfl, rfl⟩
  ·rename_i f args ts hop
   obtain ⟨av, h1, k1⟩ := zgf h;refine ⟨d, av, h1, λe' hA => ?_, wr _⟩;unfold zY; rw [hd]; simp only [hop];exact k1 e' _ (λx hx t ht => eqAs hA (by simp [xE, hop]) (mem (x := x) (by simp [hop, Op.operands, Call.operands, hx]) ht)) (eqAs hA (by simp [xE, hop]) (by simp [jo, zkJ, hop])).1 ⟨rfl, rfl⟩
  ·rename_i tf args ts hop
   obtain ⟨av, h1, k1⟩ := ze0 h;refine ⟨d, av, h1, λe' hA => ?_, wr _⟩;unfold zY; rw [hd]; simp only [hop];exact k1 e' _ (sims hA (mem (x := .tmp tf) (by simp [hop, Op.operands, Call.operands]) (by simp [opT]))) (λx hx t ht => eqAs hA (by simp [xE, hop]) (mem (x := x) (by simp [hop, Op.operands, Call.operands, hx]) ht)) ⟨rfl, rfl⟩
  ·exact h.elim
 | none =>
  unfold zY at h;rw [hd] at h;simp only at h
  split at h
  ·rename_i t aa x hop
   obtain ⟨s, av, h1, h2, h3, k1⟩ := zhU h
   have h3 : (get e aa).touches s = true := by
    rcases h3 with ⟨i, off, h3⟩ | ⟨rfl, b, i, h3⟩ <;> rw [h3] <;> simp [AV.touches]
   refine ⟨s, av, h1, λe' hA => ?_, by unfold Wr; rw [hd]; exact ⟨by simp [xE, hop], h2, aa, h3⟩⟩;unfold zY; rw [hd]; simp only [hop];exact k1 e' _ (λt ht => sims hA (mem (x := x) (by simp [hop, Op.operands]) ht)) (eqAs hA (by simp [xE, hop]) (mem (x := .tmp aa) (by simp [hop, Op.operands]) (by simp [opT]))) ⟨rfl, rfl⟩
  ·exact h.elim

theorem zhV {cx : Cx} {all : List Oper} {o : Oper} {e : Env} {C : Nat -> AV -> Prop} (h : yT cx all o e C) : ∃ s av, C s av ∧ LS cx all o (get e) s av ∧ Wr o (get e) s av := by
 have hsub : ∀ {e' : Env}, jp (xE o) (vO all o) (get e) (get e') -> jp (xE o) (jo o) (get e) (get e') := λh => h.sub λt ht => List.mem_append_right _ ht;unfold yT at h;cases hg : o.guard with
 | none =>
  rw [hg] at h;obtain ⟨s, av, h1, h2, h3⟩ := ze2 h;exact ⟨s, av, h1, λe' hA => by unfold yT; rw [hg]; exact h2 e' (hsub hA), h3⟩
 | some q =>
  obtain ⟨j, want⟩ := q;rw [hg] at h;simp only at h
  cases hd : o.dst with
  | none => rw [hd] at h; exact h.elim
  | some d =>
   rw [hd] at h;cases hj : vr all j with
   | none => rw [hj] at h; exact h.elim
   | some t =>
    rw [hj] at h;simp only [zb] at h
    have wr : ∀ av, Wr o (get e) d av := λav => by unfold Wr; rw [hd]
    have hm : t ∈ vO all o := List.mem_append_left _ (by simp [gdT, hg, hj]);cases ht : get e t with
    | v x =>
     rw [ht] at h;have same : ∀ {e' : Env}, jp (xE o) (vO all o) (get e) (get e') -> get e' t = .v x := λhA => zb6 (ht ▸ zbt (hA t hm).1)
     have yes : ∀ (_ : zY cx o e C) (_ : ∀ e' (D : Nat -> AV -> Prop), get e' t = .v x -> zY cx o e' D -> yT cx all o e' D), ∃ s av, C s av ∧ LS cx all o (get e) s av ∧ Wr o (get e) s av := by
      intro h k;obtain ⟨s, av, h1, h2, h3⟩ := ze2 h;exact ⟨s, av, h1, λe' hA => k e' _ (same hA) (h2 e' (hsub hA)), h3⟩
     have no : ∀ (_ : C d (.v (.tup []))) (_ : ∀ e' (D : Nat -> AV -> Prop), get e' t = .v x -> D d (.v (.tup [])) -> yT cx all o e' D), ∃ s av, C s av ∧ LS cx all o (get e) s av ∧ Wr o (get e) s av :=
      λh k => ⟨d, .v (.tup []), h, λe' hA => k e' _ (same hA) ⟨rfl, rfl⟩, wr _⟩
     cases x with
     | tr =>
      cases want
      ·exact no h λe' D he hD => by unfold yT; simp only [hg, hd, hj, zb, he]; exact hD
      ·exact yes h λe' D he hD => by unfold yT; simp only [hg, hd, hj, zb, he]; exact hD
     | fa =>
      cases want
      ·exact yes h λe' D he hD => by unfold yT; simp only [hg, hd, hj, zb, he]; exact hD
      ·exact no h λe' D he hD => by unfold yT; simp only [hg, hd, hj, zb, he]; exact hD
     | bool c =>
      cases hb : (bif want then c else !c)
      ·simp only [hb] at h
       exact no h λe' D he hD => by unfold yT; simp only [hg, hd, hj, zb, he, hb]; exact hD
      ·simp only [hb] at h
       exact yes h λe' D he hD => by unfold yT; simp only [hg, hd, hj, zb, he, hb]; exact hD
     | tup cs =>
      cases cs with
      | nil => exact no h λe' D he hD => by unfold yT; simp only [hg, hd, hj, zb, he]; exact hD
      | cons _ _ => exact h.elim
     | _ => exact h.elim
    | _ => rw [ht] at h; exact h.elim

theorem xY {e : Env} {o : Operand} {C : V -> Prop} (h : ye e o C) : rdK e o C := by
 cases o with
 | tmp t =>
  simp only [ye, zb] at h
  simp only [rdK, zb]
  cases ht : get e t <;> rw [ht] at h <;> first | exact h | exact h.elim
 | const c => exact h
 | _ => exact h.elim
theorem ze3 {gh : GM} {e : Env} {o : Operand} {C : V -> Prop} (h : ye e o C) : cvK gh e o λe' x => e' = e ∧ C x := by
 cases o with
 | tmp t =>
  simp only [ye, zb] at h
  simp only [cvK, zb]
  cases ht : get e t <;> rw [ht] at h <;> first | exact ⟨rfl, h⟩ | exact h.elim
 | const c =>
  obtain ⟨x, h1, k1⟩ := yy h;exact k1 (λx => e = e ∧ C x) ⟨rfl, h1⟩
 | _ => exact h.elim
theorem xt {e : Env} {o : Operand} {C C' : V -> Prop} (hC : ∀ x, C x -> C' x) (h : rdK e o C) : rdK e o C' := by
 obtain ⟨x, h1, k1⟩ := zdX h;exact k1 e _ (λ_ _ => ⟨rfl, λ_ _ => rfl⟩) (hC x h1)
theorem zdZ {cx : Cx} {K : S -> Prop} {d hs : Nat} {e : Env} {c : Value} (h : xg c λx => K1 K hs d e (.v x)) : kK cx K d (.const c) e hs := by
 cases c with
 | pointer p =>
  cases p with
  | none => exact (show False from h).elim
  | some q => exact h
 | _ => exact h
theorem zhW {wr : Bool} {op : BinOp} {k : IntKind} {a b : Int} {C C' : V -> Prop} (hC : ∀ x, C x -> C' x) (h : zbD wr op k a b C) : zbD wr op k a b C' := by
 obtain ⟨x, h1, k1⟩ := zeY h;exact k1 _ (hC x h1)

theorem ze4 {gh : GM} {e : Env} {o : Operand} {C C' : Env -> V -> Prop} (hC : ∀ e x, C e x -> C' e x) (h : cvK gh e o C) : cvK gh e o C' := by
 have fr : ∀ t a, frK gh e t a C -> frK gh e t a C' := by
  intro t a h;cases a with
  | ownI el b xs =>
   cases gh with
   | mv =>
    simp only [frK, zr, zb] at h ⊢
    refine ⟨h.1, ?_⟩;have h2 := h.2
    split at h2
    ·exact hC _ _ h2
    ·exact h2.elim
   | mt =>
    simp only [frK, zr, zb] at h ⊢
    split at h
    ·exact hC _ _ h
    ·exact h.elim
   | _ => simp only [frK, zr] at h ⊢; exact hC _ _ h
  | _ => first | exact hC _ _ h | exact h.elim | (simp only [frK, zr] at h ⊢; exact hC _ _ h)
 cases o with
 | tmp t =>
  simp only [cvK, zb] at h ⊢
  cases ht : get e t <;> rw [ht] at h <;> exact fr _ _ h
 | const c =>
  obtain ⟨x, h1, k1⟩ := yy (C := C e) h;exact k1 (C' e) (hC _ _ h1)
 | func f => exact hC _ _ h
 | global g => exact h.elim

theorem zdp {gh : GM} {e : Env} : ∀ {ps : List (Nat × Operand)} {C : List (Nat × V) -> Prop} {C' : Env -> List (Nat × V) -> Prop}, (∀ xs, C xs -> C' e xs) -> kr e ps C -> zbE gh e ps C'
 | [], _, _, hC, h => hC _ h
 | (i, o) :: r, C, C', hC, h => by
  refine ze4 (λe' x hx => ?_) (ze3 (gh := gh) (C := λx => kr e r λxs => C ((i, x) :: xs)) h);obtain ⟨rfl, hx⟩ := hx;exact zdp (C := λxs => C ((i, x) :: xs)) (λxs h => hC _ h) hx

def Fz (e1 : Env) (d : Nat) (e2 : Env) : Prop := e2 = e1 ∨ frK .no e1 d (get e1 d) λe' _ => e' = e2

theorem zi0 {cx : Cx} {o : Oper} {e : Env} {C : Nat -> AV -> Prop} {K : S -> Prop} {hs : Nat} (hk : ∀ d, o.dst = some d -> ∀ k, (get e k).touches d = false)
  (hC : ∀ s av, C s av -> ∀ e2 e3, Fz e2 s e3 -> get e3 = upd (get e) s av -> ∀ hs', hs <= hs' -> K ⟨e2, hs'⟩) (h : zY cx o e C) : vb cx o K e hs := by
 cases hd : o.dst with
 | some d =>
  have k1 : ∀ av, C d av -> ∀ hs', hs <= hs' -> K1 K hs' d e av := λav h hs' hh => by
   simp only [K1, jx, zr]
   refine hC d av h _ _ (.inl rfl) ?_ hs' hh;rw [zd, jw]
   congr 1
   funext k
   rw [hk d hd k]; rfl
  have k1' : ∀ av, C d av -> K1 K hs d e av := λav h => k1 av h hs (Nat.le_refl _);unfold zY at h;unfold vb;rw [hd] at h ⊢;simp only at h ⊢
  split at h
  ·rename_i t hop
   simp only [hop]
   simp only [vh, zgS, zb] at h ⊢
   cases ht : get e t <;> rw [ht] at h <;> first | exact k1' _ h | exact h.elim
  ·rename_i c hop
   simp only [hop]
   obtain ⟨x, h1, h2⟩ := yy h;exact h2 (λx => K1 K hs d e (.v x)) (k1' _ h1)
  ·rename_i t hop
   simp only [hop]
   simp only [jW, kK, zb] at h ⊢
   cases ht : get e t <;> rw [ht] at h <;> first | exact k1' _ h | exact h.elim
  ·rename_i c hop
   simp only [hop]
   obtain ⟨x, h1, h2⟩ := yy h;exact zdZ (h2 (λx => K1 K hs d e (.v x)) (k1' _ h1))
  ·rename_i c x y hop
   simp only [hop]
   have hb : ∀ {x : V}, (zR x λ_ => C d (.v x)) -> zR x λ_ => K1 K hs d e (.v x) := λ{x} h => by
    obtain ⟨h1, h2⟩ := zca h;exact h2 _ (k1' _ h1)
   have same : ∀ {x : Operand}, ∀ t ∈ opT x, sim (get e t) (get e t) := λ_ _ => vP _;refine xt (λvc hc => ?_) (xY h);cases vc with
   | tr => exact xt (λ_ h => hb h) (xY hc)
   | fa => exact xt (λ_ h => hb h) (xY hc)
   | bool t =>
    obtain ⟨p, h2, k2⟩ := zdY hc;obtain ⟨q, h3, k3⟩ := zdY h2;refine k2 e _ same (k3 e _ same ?_);cases p with
    | some p => cases q with
     | some q => exact k1' _ h3
     | none => exact ⟨h3.1, k1' _ h3.2⟩
    | none => cases q with
     | some q => exact ⟨h3.1, k1' _ h3.2⟩
     | none => exact h3.elim
   | _ => exact hc.elim
  ·exact h.elim
  ·rename_i op tx x y ty hne hop
   have : zfZ cx K d op tx x y e hs := by
    refine xt (λvx hx => ?_) (xY h);refine xt (λvy hy => ?_) (xY hx)
    split at hy
    ·rename_i p q
     show ziy cx.tt K d op tx p q e hs
     unfold ziP at hy;obtain ⟨i, h2, k2⟩ := zv hy
     split at h2
     ·rename_i hk
      exact k2 _ (by rw [hk]; exact k1' _ h2)
     ·exact h2.elim
    ·refine zhW (λz hz => ?_) hy
     split at hz
     ·exact k1' _ hz
     ·exact hz.elim
    ·exact hy.elim
   simp only [hop]
   exact this
  ·rename_i op tx x hop
   simp only [hop]
   refine xt (λvx hx => ?_) (xY h)
   split at hx
   ·exact k1' _ hx
   ·exact k1' _ hx
   ·exact k1' _ hx
   ·exact ⟨hx.1, k1' _ hx.2⟩
   ·exact hx.elim
  ·rename_i t x k hop
   simp only [hop]
   unfold zaB at h;unfold zf0;obtain ⟨i, h1, h2⟩ := zv h;refine h2 _ ?_;cases hkk : i.kind with
   | struct fs =>
    rw [hkk] at h1;simp only at h1 ⊢
    cases hdr : fs.drop k with
    | nil => rw [hdr] at h1; exact h1.elim
    | cons p l =>
     rw [hdr] at h1;simp only at h1 ⊢
     obtain ⟨j, h3, h4⟩ := zv h1;refine h4 _ ?_;obtain ⟨t0, cs, rfl, hgt, hx⟩ := zbR h3;simp only [zhz, zb, hgt]
     cases hj : j.kind with
     | struct _ => rw [hj] at hx; exact hx.elim
     | _ =>
      rw [hj] at hx;simp only at hx ⊢
      obtain ⟨y, h5, k5⟩ := zb7 hx;exact k5 (λy => K1 K hs d e (.v y)) (k1' _ h5)
   | _ => rw [hkk] at h1; exact h1.elim
  ·rename_i t aa hop
   simp only [hop]
   simp only [zdl, zbq, zb] at h ⊢
   obtain ⟨x, h1, h2⟩ := zeZ h;exact h2 e (λx => K1 K hs d e (.v x)) (λ_ _ => rfl) (k1' _ h1)
  ·rename_i t aa k hop
   simp only [hop]
   unfold yR at h;unfold kf;obtain ⟨i, h1, h2⟩ := zv h;refine h2 _ ?_;cases hkk : i.kind with
   | struct fs =>
    rw [hkk] at h1;simp only at h1 ⊢
    cases hdr : fs.drop k with
    | nil => rw [hdr] at h1; exact h1.elim
    | cons p l =>
     rw [hdr] at h1;simp only at h1 ⊢
     obtain ⟨j, h3, h4⟩ := zv h1;refine h4 _ ?_;simp only [zb] at h3 ⊢
     cases ht : get e aa with
     | v x => rw [ht] at h3; cases x <;> first | exact k1' _ h3 | exact h3.elim
     | _ => rw [ht] at h3; first | exact k1' _ h3 | exact h3.elim
   | _ => rw [hkk] at h1; exact h1.elim
  ·rename_i t x i hop
   simp only [hop]
   unfold yS at h;unfold kg;obtain ⟨ti, h1, h2⟩ := zv h;refine h2 _ ?_;cases hkk : ti.kind with
   | slice el =>
    rw [hkk] at h1;simp only at h1 ⊢
    obtain ⟨tj, h3, h4⟩ := zv h1;refine h4 _ (xt (λvi hi => ?_) (xY h3));have hb : ∀ {b : Bool} {p q : Prop}, (p -> q) -> (bif b then p else False) -> (bif b then q else False) := λ{b p q} hpq h => by cases b <;> simp_all
    split at hi
    ·rename_i n
     cases x with
     | tmp t =>
      simp only [xC, zb] at hi ⊢
      have fin : ∀ (s : Nat) (a : AV), (match a with
        | .ownI _ _ xs => bif Nat.beq tj.size 1 then idx n xs.length ∧ C d (.pl s n.toNat 0) else False
        | .ownV _ sz _ m _ => bif Nat.beq sz tj.size then idx n m ∧ C d (.pl s n.toNat 0) else False
        | .v (.rf b m) => bif Nat.beq tj.size 1 then idx n m ∧ C d (.pr b n.toNat) else False
        | .v (.ints _ xs) => bif Nat.beq tj.size 1 then idx n xs.length ∧ C d (.pv (.int .i64 (xs.getD n.toNat 0)) 0) else False
        | .v (.vals _ sz m f) => bif Nat.beq sz tj.size then idx n m ∧ C d (.pv (f n.toNat) 0) else False
        | _ => False) -> (match a with
        | .ownI _ _ xs => bif Nat.beq tj.size 1 then idx n xs.length ∧ K1 K hs d e (.pl s n.toNat 0) else False
        | .ownV _ sz _ m _ => bif Nat.beq sz tj.size then idx n m ∧ K1 K hs d e (.pl s n.toNat 0) else False
        | .v (.rf b m) => bif Nat.beq tj.size 1 then idx n m ∧ K1 K hs d e (.pr b n.toNat) else False
        | .v (.ints _ xs) => bif Nat.beq tj.size 1 then idx n xs.length ∧ K1 K hs d e (.pv (.int .i64 (xs.getD n.toNat 0)) 0) else False
        | .v (.vals _ sz m f) => bif Nat.beq sz tj.size then idx n m ∧ K1 K hs d e (.pv (f n.toNat) 0) else False
        | _ => False) := by
       intro s a h;cases a with
       | ownI el' b xs => exact hb (λh => ⟨h.1, k1' _ h.2⟩) h
       | ownV el' sz b m f => exact hb (λh => ⟨h.1, k1' _ h.2⟩) h
       | v y =>
        cases y with
        | ints g xs => exact hb (λh => ⟨h.1, k1' _ h.2⟩) h
        | vals g sz m f => exact hb (λh => ⟨h.1, k1' _ h.2⟩) h
        | rf b m => exact hb (λh => ⟨h.1, k1' _ h.2⟩) h
        | _ => exact h.elim
       | _ => exact h.elim
      cases ht : get e t with
      | al s => rw [ht] at hi; exact fin s (get e s) hi
      | dead => rw [ht] at hi; exact fin t .dead hi
      | v y => rw [ht] at hi; exact fin t (.v y) hi
      | ownI el b xs => rw [ht] at hi; exact fin t (.ownI el b xs) hi
      | ownV el sz b m f => rw [ht] at hi; exact fin t (.ownV el sz b m f) hi
      | ownB b y => rw [ht] at hi; exact fin t (.ownB b y) hi
      | pl s i o => rw [ht] at hi; exact fin t (.pl s i o) hi
      | pv y o => rw [ht] at hi; exact fin t (.pv y o) hi
      | pr b i => rw [ht] at hi; exact fin t (.pr b i) hi
      | sl b i n => rw [ht] at hi; exact fin t (.sl b i n) hi
      | tab tb => rw [ht] at hi; exact fin t (.tab tb) hi
      | keep O U hw kk vv => rw [ht] at hi; exact fin t (.keep O U hw kk vv) hi
      | tupO i o vs => rw [ht] at hi; exact fin t (.tupO i o vs) hi
     | _ => exact hi.elim
    ·exact hi.elim
   | _ => rw [hkk] at h1; exact h1.elim
  ·rename_i t n ps hop
   simp only [hop]
   have k2 : ∀ av x, (∀ e', get e' d = av -> frK .no e' d av λe2 _ => e2 = put e' d (.v x)) -> C d (.v x) -> ∀ hs', hs <= hs' -> K1 K hs' d e av := λav x hf h hs' hh => by
    simp only [K1, jx, zr]
    refine hC d _ h _ (put (put (vZ d e) d av) d (.v x)) (.inr ?_) ?_ hs' hh
    ·have : get (put (vZ d e) d av) d = av := by rw [zd]; simp [upd]
     rw [this]; exact hf _ this
    ·rw [zd, zd, jw]
     funext k
     simp only [upd]
     split
     ·rfl
     ·rw [hk d hd k]; rfl
   unfold yt at h;unfold js;obtain ⟨i, h1, h2⟩ := zv h;refine h2 _ ?_;cases hkk : i.kind with
   | slice el =>
    rw [hkk] at h1;simp only at h1 ⊢
    obtain ⟨j, h3, h4⟩ := zv h1;refine h4 _ (zdp (λxs hxs => ?_) h3)
    split at hxs
    ·rename_i hi
     obtain ⟨l, h5, h6⟩ := kt hxs;rw [hi];exact h6 _ ⟨h5.1, λb hs' hh _ => k2 _ _ (λe' he => by simp only [frK, zr]; rfl) h5.2 hs' hh⟩
    ·rename_i hi
     obtain ⟨l, h5, h6⟩ := ku hxs
     split
     ·rename_i h7; exact absurd h7 hi
     ·exact h6 _ ⟨h5.1, λb hs' hh _ => k2 _ _ (λe' he => by simp only [frK, zr]; rfl) h5.2 hs' hh⟩
   | _ => rw [hkk] at h1; exact h1.elim
  ·rename_i x t hop
   simp only [hop]
   unfold zhP at h;unfold zf1;obtain ⟨i, h1, h2⟩ := zv h;refine h2 _ ?_;cases hkk : i.kind with
   | slice el =>
    rw [hkk] at h1;refine xt (λvx hx => ?_) h1;cases vx <;> first | exact hx.elim | exact k1' _ hx
   | _ => rw [hkk] at h1; exact h1.elim
  ·rename_i f args ts hop
   simp only [hop]
   unfold kS at h;unfold zbr
   split at h
   case h_2 => exact h.elim
   rename_i hm
   simp only [hm]
   have go : (x9 cx.tt e args ts λxs => kR cx f xs (C d)) -> x9 cx.tt e args ts λxs => kJ cx K d e hs f xs := λh => by
    obtain ⟨xs, ⟨r, h1, h2⟩, h3⟩ := jF h;refine h3 e _ (λ_ _ _ _ => ⟨rfl, λ_ _ => rfl⟩) ⟨_, h1, λlo hi hi' a hl hl' _ ha _ => ?_⟩;subst ha;exact k1 _ h2 _ (by omega)
   have goT : (xA cx.tt e args ts λxs => bif cx.ts.elem f then False else kR cx f xs (C d)) -> xA cx.tt e args ts λxs => bif cx.ts.elem f then zf2 cx K d e hs f xs else kJ cx K d e hs f xs := λh => by
    obtain ⟨xs, h0, h3⟩ := zaC h;cases hf : cx.ts.elem f
    ·rw [hf] at h0;obtain ⟨r, h1, h2⟩ := h0;refine h3 e _ (λ_ _ _ _ => ⟨rfl, λ_ _ => rfl⟩) rfl ⟨_, h1, λlo hi hi' a hl hl' _ ha _ => ?_⟩;subst ha;exact k1 _ h2 _ (by omega)
    ·rw [hf] at h0; exact h0.elim
   cases hg : cx.gh <;> rw [hg] at h <;> first | exact goT h | exact go h
  ·rename_i tf args ts hop
   simp only [hop]
   simp only [vN, zb] at h
   unfold zbJ;simp only [rdK, zb]
   cases ht : get e tf with
   | v x =>
    rw [ht] at h;cases x with
    | func f caps =>
     obtain ⟨xs, ⟨r, h1, h2⟩, h3⟩ := jF h;refine h3 e _ (λ_ _ _ _ => ⟨rfl, λ_ _ => rfl⟩) ⟨_, h1, λlo hi hi' a hl hl' _ ha _ => ?_⟩;subst ha;exact k1 _ h2 _ (by omega)
    | _ => exact h.elim
   | _ => rw [ht] at h; exact h.elim
  ·exact h.elim
 | none =>
  unfold zY at h;unfold vb;rw [hd] at h ⊢;simp only at h ⊢
  split at h
  ·rename_i t aa x hop
   simp only [hop]
   unfold jD at h;obtain ⟨vx, h1, k1⟩ := yz h;have h0 : cvK cx.gh e x λe' y => e' = e ∧ y = vx := ze3 (k1 e (λy => y = vx) (λ_ _ => vP _) rfl);unfold zbK;refine ze4 (λe' y hy => ?_) h0;obtain ⟨rfl, rfl⟩ := hy;obtain ⟨i, h2, k2⟩ := zv h1;refine k2 _ ?_;cases hb : (Nat.beq y.cells.length i.size)
   ·rw [hb] at h2; exact h2.elim
   ·rw [hb] at h2;simp only [cond_true, zb] at h2 ⊢
    have kk : ∀ s av, C s av -> K ⟨put e' s av, hs⟩ := λs av h => hC s av h _ _ (.inl rfl) (zd _ _ _) hs (Nat.le_refl _);cases ha : get e' aa with
    | pl s ix off =>
     rw [ha] at h2;simp only [xW, zap, zbF, zb, zr] at h2 ⊢
     cases hs' : get e' s with
     | ownI el b xs =>
      rw [hs'] at h2;simp only at h2 ⊢
      cases y with
      | int k n =>
       cases k <;> first | exact h2.elim | skip
       simp only at h2 ⊢
       cases hb' : Nat.beq off 0
       ·rw [hb'] at h2; exact h2.elim
       ·rw [hb'] at h2; exact kk _ _ h2
      | _ => exact h2.elim
     | ownV el sz b n f =>
      rw [hs'] at h2;obtain ⟨h3, g, h4, h5, h6⟩ := h2;exact ⟨h3, g, h4, h5, kk _ _ h6⟩
     | ownB b z =>
      rw [hs'] at h2;obtain ⟨h3, h6⟩ := h2;exact ⟨h3, kk _ _ h6⟩
     | _ => rw [hs'] at h2; exact h2.elim
    | pr b ix =>
     rw [ha] at h2;simp only [jV, zap, zb, zr] at h2 ⊢
     cases y with
     | int k n =>
      cases k <;> first | exact h2.elim | skip
      simp only at h2 ⊢
      cases hs' : get e' vt with
      | tab tb =>
       rw [hs'] at h2;obtain ⟨xs, h3, h4, h5⟩ := h2;exact ⟨xs, h3, h4, kk _ _ h5⟩
      | _ => rw [hs'] at h2; exact h2.elim
     | _ => exact h2.elim
    | _ => rw [ha] at h2; exact h2.elim
  ·exact h.elim

theorem zi1 {D : Nat -> Prop} {w0 : World} {N : Nat} {hs : Nat} {a : Act} {w : World} {e1 e2 : Env} {d : Nat} (r : R D w0 N (get e1) hs a w) (h : Fz e1 d e2) : R D w0 N (get e2) hs a w := by
 rcases h with rfl | h
 ·exact r
 ·obtain ⟨e', x, rfl, r', _⟩ := kL r h;exact r'

end Go.Proofs.Ytffhmebkkbfaeaa
