/- An evaluator of the model's code over plain values, and that it is sound. No conditions. -/
import Derived.Test.YtffhmebkkbfaeaaPb
import Derived.ProofKit
import Derived.Carry
import Derived.ChangeSame
import Derived.Deep.Slices
namespace Go.Proofs.Ytffhmebkkbfaeaa
open Go Go.RowKit

structure Chain (cx : Cx) (all : List Oper) (ds : List Nat) (l : List Oper) (s : Nat -> Nat) (av : Nat -> AV) (σ : Nat -> Nat -> AV) : Prop where
 next : ∀ i o, l[i]? = some o -> σ (i + 1) = upd (σ i) (s i) (av i) ∧ LS cx all o (σ i) (s i) (av i) ∧ Wr o (σ i) (s i) (av i)
 free : ∀ i, i <= l.length -> ∀ k, (σ i k).touchesAny ds = false

theorem Chain.of {cx : Cx} {all : List Oper} {ds : List Nat} {K : Env -> Prop} : ∀ {l : List Oper} {e : Env}, (∀ k, (get e k).touchesAny ds = false) -> zgc cx all ds l K e ->
  ∃ s av σ, σ 0 = get e ∧ Chain cx all ds l s av σ ∧ ∃ en, get en = σ l.length ∧ K en
 | [], e, hf, h => ⟨λ_ => 0, λ_ => .dead, λ_ => get e, rfl, ⟨λi o hi => by simp at hi, λi _ => hf⟩, e, rfl, h⟩
 | o :: l, e, hf, h => by
  obtain ⟨s0, av0, h1, h2, h3⟩ := zhV h;cases ht : av0.touchesAny ds
  ·rw [ht] at h1;simp only [cond_false, zr] at h1
   have hf' : ∀ k, (get (put e s0 av0) k).touchesAny ds = false := λk => by
    rw [zd]; unfold upd; split
    ·exact ht
    ·exact hf k
   obtain ⟨s, av, σ, h4, h5, en, h6, h7⟩ := Chain.of hf' h1;refine ⟨λ| 0 => s0 | i + 1 => s i, λ| 0 => av0 | i + 1 => av i, λ| 0 => get e | i + 1 => σ i, rfl, ⟨λi o' hi => ?_, λi hi => ?_⟩, en, h6, h7⟩
   ·cases i with
    | zero =>
     simp only [List.getElem?_cons_zero, Option.some.injEq] at hi
     subst hi;exact ⟨by rw [<- zd]; exact h4, h2, h3⟩
    | succ i => exact h5.next i o' (by simpa using hi)
   ·cases i with
    | zero => exact hf
    | succ i => exact h5.free i (by simpa using hi)
  ·rw [ht] at h1; exact h1.elim

theorem y6 {ds : List Nat} {d : Nat} : ds.elem d = true ↔ d ∈ ds := by simp

theorem zcb : ∀ {l : List Nat}, zdV l = true -> l.Nodup
 | [], _ => List.nodup_nil
 | x :: r, h => by
  simp only [zdV, Bool.and_eq_true, Bool.not_eq_true', ] at h
  refine List.nodup_cons.2 ⟨λhm => ?_, zcb h.2⟩;rw [<- y6, h.1] at hm; cases hm

theorem zd0 : ∀ {l : List Oper}, (zN l).Nodup -> ∀ {i k : Nat} {o p : Oper} {d : Nat}, l[i]? = some o -> l[k]? = some p -> o.dst = some d -> p.dst = some d -> i = k
 | [], _, i, k, o, p, d, hi, _, _, _ => by simp at hi
 | q :: l, h, i, k, o, p, d, hi, hk, ho, hp => by
  have hmem : ∀ {j : Nat} {r : Oper}, l[j]? = some r -> r.dst = some d -> d ∈ zN l := λhj hr => List.mem_filterMap.2 ⟨_, List.mem_of_getElem? hj, hr⟩
  have hl : (zN l).Nodup := by
   unfold zN at h ⊢;rw [List.filterMap_cons] at h
   split at h
   ·exact h
   ·exact (List.nodup_cons.1 h).2
  have hq : q.dst = some d -> d ∉ zN l := by
   intro hq hm;unfold zN at h hm;rw [List.filterMap_cons, hq] at h;exact (List.nodup_cons.1 h).1 hm
  cases i with
  | zero =>
   simp only [List.getElem?_cons_zero, Option.some.injEq] at hi
   subst hi;cases k with
   | zero => rfl
   | succ k => exact absurd (hmem (by simpa using hk) hp) (hq ho)
  | succ i =>
   cases k with
   | zero =>
    simp only [List.getElem?_cons_zero, Option.some.injEq] at hk
    subst hk;exact absurd (hmem (by simpa using hi) ho) (hq hp)
   | succ k => exact congrArg (· + 1) (zd0 hl (by simpa using hi) (by simpa using hk) ho hp)

section
variable {cx : Cx} {l : List Oper} {s : Nat -> Nat} {av : Nat -> AV} {σ : Nat -> Nat -> AV}

theorem Chain.store_free (c : Chain cx l (zN l) l s av σ) {i : Nat} {o : Oper} (hi : l[i]? = some o) (hn : o.dst = none) : s i ∉ zN l := by
 obtain ⟨_, _, h⟩ := c.next i o hi;unfold Wr at h; rw [hn] at h;obtain ⟨_, _, a, ha⟩ := h
 have hlt : i <= l.length := by
  have := (List.getElem?_eq_some_iff.1 hi).1; omega
 have := c.free i hlt a;intro hm;cases hx : σ i a with
 | al t => rw [hx] at ha this; simp only [AV.touches, AV.touchesAny] at ha this; rw [Nat.eq_of_beq_eq_true ha] at this; rw [y6.2 hm] at this; cases this
 | pl t u v => rw [hx] at ha this; simp only [AV.touches, AV.touchesAny] at ha this; rw [Nat.eq_of_beq_eq_true ha] at this; rw [y6.2 hm] at this; cases this
 | pr u v => rw [hx] at ha this; simp only [AV.touches, AV.touchesAny] at ha this; rw [Nat.eq_of_beq_eq_true ha] at this; rw [y6.2 hm] at this; cases this
 | keep u1 u2 u3 u4 u5 => rw [hx] at ha this; simp only [AV.touches, AV.touchesAny] at ha this; rw [Nat.eq_of_beq_eq_true ha] at this; rw [y6.2 hm] at this; cases this
 | _ => rw [hx] at ha; cases ha

theorem Chain.dst_eq (c : Chain cx l (zN l) l s av σ) {i : Nat} {o : Oper} (hi : l[i]? = some o) {d : Nat} (hd : o.dst = some d) : s i = d := by
 obtain ⟨_, _, h⟩ := c.next i o hi;unfold Wr at h; rw [hd] at h; exact h

theorem Chain.at_dst (c : Chain cx l (zN l) l s av σ) (hn : (zN l).Nodup) {k : Nat} {p : Oper} (hk : l[k]? = some p) {d : Nat} (hd : p.dst = some d) :
  ∀ i, i <= l.length -> σ i d = if k < i then av k else σ 0 d
 | 0, _ => by simp
 | i + 1, hi => by
  have hlt : i < l.length := by omega
  have hi' := List.getElem?_eq_getElem hlt;obtain ⟨h1, _, _⟩ := c.next i _ hi';rw [h1];unfold upd
  by_cases hs : d = s i
  ·rw [if_pos hs];cases ho : l[i].dst with
   | none => exact absurd (hs ▸ List.mem_filterMap.2 ⟨_, List.mem_of_getElem? hk, hd⟩) (c.store_free hi' ho)
   | some d' =>
    have := c.dst_eq hi' ho;have : i = k := zd0 hn hi' hk (by rw [ho, <- this, hs]) hd;subst this; simp
  ·rw [if_neg hs, Chain.at_dst c hn hk hd i (by omega)];have : i ≠ k := λh => by subst h; exact hs (c.dst_eq hk hd).symm
   by_cases hki : k < i
   ·simp [hki, Nat.lt_succ_of_lt hki]
   ·simp [hki, show ¬ k < i + 1 by omega]

theorem Chain.at_sim (c : Chain cx l (zN l) l s av σ) {x : Nat} (hx : x ∉ zN l) : ∀ i, i <= l.length -> sim (σ 0 x) (σ i x)
 | 0, _ => vP _
 | i + 1, hi => by
  have hlt : i < l.length := by omega
  have hi' := List.getElem?_eq_getElem hlt;obtain ⟨h1, _, h3⟩ := c.next i _ hi';refine zdm (Chain.at_sim c hx i (by omega)) ?_;rw [h1];unfold upd
  split
  ·rename_i hs
   cases ho : l[i].dst with
   | none => unfold Wr at h3; rw [ho] at h3; rw [hs]; exact h3.2.1
   | some d => exact absurd (List.mem_filterMap.2 ⟨_, List.mem_of_getElem? hi', by rw [ho, hs, c.dst_eq hi' ho]⟩) hx
  ·exact vP _

theorem Chain.at_le (c : Chain cx l (zN l) l s av σ) {x : Nat} (hx : x ∉ zN l) {i : Nat} : ∀ n, i + n <= l.length ->
  (∀ k p, l[k]? = some p -> p.dst = none -> i <= k -> k < i + n -> False) -> σ (i + n) x = σ i x
 | 0, _, _ => rfl
 | n + 1, hi, h => by
  have hlt : i + n < l.length := by omega
  have hi' := List.getElem?_eq_getElem hlt;obtain ⟨h1, _, h3⟩ := c.next (i + n) _ hi';rw [show i + (n + 1) = i + n + 1 from rfl, h1];unfold upd;cases ho : l[i + n].dst with
  | none => exact (h _ _ hi' ho (by omega) (by omega)).elim
  | some d =>
   have hs : x ≠ s (i + n) := λhs => hx (List.mem_filterMap.2 ⟨_, List.mem_of_getElem? hi', by rw [ho, hs, c.dst_eq hi' ho]⟩);rw [if_neg hs];exact Chain.at_le c hx n (by omega) λk p hk hp h1 h2 => h k p hk hp h1 (by omega)

theorem Chain.at_eq (c : Chain cx l (zN l) l s av σ) {x : Nat} (hx : x ∉ zN l) {i j : Nat} (hi : i <= l.length) (hj : j <= l.length)
  (h : ∀ k p, l[k]? = some p -> p.dst = none -> (k < i ↔ k < j)) : σ i x = σ j x := by
 rcases Nat.le_total i j with hij | hij
 ·obtain ⟨n, rfl⟩ := Nat.exists_eq_add_of_le hij;exact (c.at_le hx n hj λk p hk hp h1 h2 => by have := (h k p hk hp).2 h2; omega).symm
 ·obtain ⟨n, rfl⟩ := Nat.exists_eq_add_of_le hij;exact c.at_le hx n hi λk p hk hp h1 h2 => by have := (h k p hk hp).1 h2; omega

structure Done (l : List Oper) (s : Nat -> Nat) (av : Nat -> AV) (σ : Nat -> Nat -> AV) (L : Nat -> Prop) (τ : Nat -> AV) : Prop where
 closed : ∀ i o, l[i]? = some o -> L i -> ∀ ed ∈ o.after.toList, Region.binds .any ed = true -> L ed.on
 dst : ∀ k p d, l[k]? = some p -> p.dst = some d -> (L k -> τ d = av k) ∧ (¬ L k -> τ d = σ 0 d)
 rest : ∃ m, m <= l.length ∧ (∀ k p, l[k]? = some p -> p.dst = none -> (L k ↔ k < m)) ∧ ∀ x, x ∉ zN l -> τ x = σ m x

theorem y7 {L : Nat -> Prop} (hc : ∀ i o, l[i]? = some o -> L i -> ∀ ed ∈ o.after.toList, Region.binds .any ed = true -> L ed.on) :
  ∀ fuel i j, yU l fuel i j = true -> (∀ o, l[i]? = some o -> ∀ ed ∈ o.after.toList, Region.binds .any ed = true -> L ed.on) -> L j
 | 0, i, j, h, _ => by simp [yU] at h
 | fuel + 1, i, j, h, hi => by
  simp only [yU] at h
  split at h
  ·rename_i o ho
   rw [List.any_eq_true] at h;obtain ⟨ed, hed, h⟩ := h;simp only [Bool.and_eq_true, Bool.or_eq_true] at h
   have hL := hi o ho ed hed h.1;rcases h.2 with h2 | h2
   ·rw [<- Nat.eq_of_beq_eq_true h2]; exact hL
   ·exact y7 hc fuel _ j h2 λo' ho' ed' hed' hb' => hc _ o' ho' hL ed' hed' hb'
  ·cases h

theorem zcc (h : jE l l.length = true) {i j : Nat} {o p : Oper} (hj : l[j]? = some p) (hi : l[i]? = some o) (hji : j < i) : yU l l.length i j = true ∨ xB l p o = true := by
 have hlt := (List.getElem?_eq_some_iff.1 hi).1;simp only [jE, List.all_eq_true, List.mem_range] at h
 have := h i hlt j hji;rw [hj, hi] at this
 simpa using this

variable {L : Nat -> Prop} {τ : Nat -> AV} {i : Nat} {o : Oper}

theorem Done.before (dn : Done l s av σ L τ) (hp : jE l l.length = true) (hi : l[i]? = some o) (hr : ∀ ed ∈ o.after.toList, Region.binds .any ed = true -> L ed.on)
  {k : Nat} {p : Oper} (hk : l[k]? = some p) (hki : k < i) (hind : xB l p o = false) : L k := by
 rcases zcc hp hk hi hki with h | h
 ·exact y7 dn.closed _ _ _ h λo' ho' => by rw [hi] at ho'; cases ho'; exact hr
 ·rw [hind] at h; cases h
theorem Done.behind (dn : Done l s av σ L τ) (hp : jE l l.length = true) (hi : l[i]? = some o) (hL : ¬ L i)
  {k : Nat} {p : Oper} (hk : l[k]? = some p) (hki : i < k) (hind : xB l o p = false) : ¬ L k := by
 intro hLk;rcases zcc hp hi hk hki with h | h
 ·exact hL (y7 dn.closed _ _ _ h λo' ho' => dn.closed k o' ho' hLk)
 ·rw [hind] at h; cases h

theorem zhX {p o : Oper} {d : Nat} (hp : p.dst = some d) (ht : d ∈ vO l o) : xB l p o = false := by
 simp [xB, hp, ht]
theorem zgg {p o : Oper} {d : Nat} (ho : o.dst = some d) (ht : d ∈ vO l p) : xB l p o = false := by
 simp [xB, ho, ht]
theorem zdq {p o : Oper} (hp : p.dst = none) (hc : xE o ≠ 0) : xB l p o = false := by
 unfold xB; rw [hp];cases o.dst with
 | none => simp
 | some d => simp [yk hc]
theorem zcd {p o : Oper} (ho : o.dst = none) (hc : xE p ≠ 0) : xB l p o = false := by
 unfold xB; rw [ho];cases p.dst with
 | none => simp
 | some d => simp [yk hc]

theorem Done.rest_rel (c : Chain cx l (zN l) l s av σ) (dn : Done l s av σ L τ) (hp : jE l l.length = true) (hi : l[i]? = some o)
  (hr : ∀ ed ∈ o.after.toList, Region.binds .any ed = true -> L ed.on) (hL : ¬ L i) {x : Nat} (hx : x ∉ zN l) : rel (xE o) (σ i x) (τ x) := by
 obtain ⟨m, hm, hst, hrest⟩ := dn.rest;have hil : i <= l.length := by have := (List.getElem?_eq_some_iff.1 hi).1; omega
 rw [hrest x hx];unfold rel
 split
 ·exact zdm (ziS (c.at_sim hx i hil)) (c.at_sim hx m hm)
 ·rename_i hc
  refine c.at_eq hx hil hm λk p hk hpd => ?_;rw [<- hst k p hk hpd];rcases Nat.lt_trichotomy k i with h | h | h
  ·exact ⟨λ_ => dn.before hp hi hr hk h (zdq hpd hc), λ_ => h⟩
  ·subst h; exact ⟨λh => by omega, λh => (hL h).elim⟩
  ·exact ⟨λh' => by omega, λh' => (dn.behind hp hi hL hk h (zcd hpd hc) h').elim⟩

theorem za2 {x : AV} {ds : List Nat} (h : x.touchesAny ds = false) {u : Nat} (hu : x.touches u = true) : u ∉ ds := by
 intro hm;cases x with
 | al t => simp only [AV.touches, AV.touchesAny] at hu h; rw [Nat.eq_of_beq_eq_true hu, y6.2 hm] at h; cases h
 | pl t _ _ => simp only [AV.touches, AV.touchesAny] at hu h; rw [Nat.eq_of_beq_eq_true hu, y6.2 hm] at h; cases h
 | pr _ _ => simp only [AV.touches, AV.touchesAny] at hu h; rw [Nat.eq_of_beq_eq_true hu, y6.2 hm] at h; cases h
 | keep _ _ _ _ _ => simp only [AV.touches, AV.touchesAny] at hu h; rw [Nat.eq_of_beq_eq_true hu, y6.2 hm] at h; cases h
 | _ => cases hu

theorem Done.agree (c : Chain cx l (zN l) l s av σ) (dn : Done l s av σ L τ) (hn : (zN l).Nodup) (hp : jE l l.length = true) (hi : l[i]? = some o)
  (hr : ∀ ed ∈ o.after.toList, Region.binds .any ed = true -> L ed.on) (hL : ¬ L i) : jp (xE o) (vO l o) (σ i) τ := by
 have hil : i <= l.length := by have := (List.getElem?_eq_some_iff.1 hi).1; omega
 intro t ht;refine ⟨?_, λu hu => dn.rest_rel c hp hi hr hL (za2 (c.free i hil t) hu)⟩
 by_cases hd : t ∈ zN l
 ·obtain ⟨p, hpm, hpd⟩ := List.mem_filterMap.1 hd;obtain ⟨k, hkl, hk⟩ := List.mem_iff_getElem.1 hpm;have hk' : l[k]? = some p := by rw [List.getElem?_eq_getElem hkl, hk]
  have heq : σ i t = τ t := by
   rw [c.at_dst hn hk' hpd i hil];obtain ⟨h1, h2⟩ := dn.dst k p t hk' hpd;rcases Nat.lt_trichotomy k i with h | h | h
   ·rw [if_pos h, h1 (dn.before hp hi hr hk' h (zhX hpd ht))]
   ·subst h; rw [if_neg (by omega), h2 hL]
   ·rw [if_neg (by omega), h2 (dn.behind hp hi hL hk' h (zgg hpd ht))]
  rw [heq]; exact ziT _ _
 ·exact dn.rest_rel c hp hi hr hL hd

theorem Done.step (c : Chain cx l (zN l) l s av σ) (dn : Done l s av σ L τ) (hn : (zN l).Nodup) (hp : jE l l.length = true) (hi : l[i]? = some o)
  (hr : ∀ ed ∈ o.after.toList, Region.binds .any ed = true -> L ed.on) (hL : ¬ L i) : Done l s av σ (λj => j = i ∨ L j) (upd τ (s i) (av i)) := by
 have hil : i < l.length := (List.getElem?_eq_some_iff.1 hi).1
 have hcl : o.dst = none -> xE o ≠ 0 := λh => by
  have := (c.next i o hi).2.2;unfold Wr at this; rw [h] at this; exact this.1
 have hsf : ∀ {d}, d ∈ zN l -> o.dst ≠ some d -> d ≠ s i := by
  intro d hd hne he;cases ho : o.dst with
  | none => exact c.store_free hi ho (he ▸ hd)
  | some d' => exact hne (by rw [ho, he, c.dst_eq hi ho])
 refine ⟨λj p hj hLj ed hed hb => ?_, λk p d hk hd => ?_, ?_⟩
 ·rcases hLj with rfl | hLj
  ·rw [hi] at hj; cases hj; exact .inr (hr ed hed hb)
  ·exact .inr (dn.closed j p hj hLj ed hed hb)
 ·obtain ⟨h1, h2⟩ := dn.dst k p d hk hd
  by_cases hki : k = i
  ·subst hki;rw [hi] at hk; cases hk;refine ⟨λ_ => ?_, λh => (h (.inl rfl)).elim⟩;unfold upd; rw [if_pos (c.dst_eq hi hd).symm]
  ·have hmem : d ∈ zN l := List.mem_filterMap.2 ⟨_, List.mem_of_getElem? hk, hd⟩;have hne : d ≠ s i := hsf hmem λho => hki (zd0 hn hk hi hd ho);unfold upd; rw [if_neg hne];exact ⟨λh => h1 (h.resolve_left hki), λh => h2 λh' => h (.inr h')⟩
 ·obtain ⟨m, hm, hst, hrest⟩ := dn.rest;cases ho : o.dst with
  | some d =>
   refine ⟨m, hm, λk p hk hpd => ?_, λx hx => ?_⟩
   ·have : k ≠ i := λh => by subst h; rw [hi] at hk; cases hk; rw [ho] at hpd; cases hpd
    rw [<- hst k p hk hpd]; exact ⟨λh => h.resolve_left this, .inr⟩
   ·have : x ≠ s i := λh => hx (List.mem_filterMap.2 ⟨_, List.mem_of_getElem? hi, by rw [ho, h, c.dst_eq hi ho]⟩);unfold upd; rw [if_neg this]; exact hrest x hx
  | none =>
   refine ⟨i + 1, by omega, λk p hk hpd => ?_, λx hx => ?_⟩
   ·rcases Nat.lt_trichotomy k i with h | h | h
    ·exact ⟨λ_ => by omega, λ_ => .inr (dn.before hp hi hr hk h (zdq hpd (hcl ho)))⟩
    ·subst h; exact ⟨λ_ => by omega, λ_ => .inl rfl⟩
    ·exact ⟨λh' => (h'.elim (λh' => by omega) λh' => dn.behind hp hi hL hk h (zcd hpd (hcl ho)) h').elim, λh' => by omega⟩
   ·rw [(c.next i o hi).1];unfold upd
    split
    ·rfl
    ·have := dn.rest_rel c hp hi hr hL hx;unfold rel at this; rw [if_neg (hcl ho)] at this;exact this.symm

theorem Done.all (c : Chain cx l (zN l) l s av σ) (dn : Done l s av σ L τ) (hn : (zN l).Nodup) (h : ∀ i, i < l.length -> L i) : τ = σ l.length := by
 funext x
 by_cases hd : x ∈ zN l
 ·obtain ⟨p, hpm, hpd⟩ := List.mem_filterMap.1 hd;obtain ⟨k, hkl, hk⟩ := List.mem_iff_getElem.1 hpm;have hk' : l[k]? = some p := by rw [List.getElem?_eq_getElem hkl, hk]
  rw [c.at_dst hn hk' hpd _ (Nat.le_refl _), if_pos hkl, (dn.dst k p x hk' hpd).1 (h k hkl)]
 ·obtain ⟨m, hm, hst, hrest⟩ := dn.rest;rw [hrest x hd];refine c.at_eq hd hm (Nat.le_refl _) λk p hk hpd => ?_;have hkl := (List.getElem?_eq_some_iff.1 hk).1;exact ⟨λ_ => hkl, λ_ => (hst k p hk hpd).1 (h k hkl)⟩

def za3 (L : Array Bool) : Nat := L.toList.count false

theorem jG {L : Array Bool} {i : Nat} (hi : L[i]? = some false) : za3 (L.setIfInBounds i true) + 1 = za3 L := by
 obtain ⟨hlt, he⟩ := Array.getElem?_eq_some_iff.1 hi;unfold za3;rw [Array.toList_setIfInBounds, List.count_set (by simpa using hlt)];have h1 : L.toList[i]'(by simpa using hlt) = false := by simpa using he
 have h2 : 0 < L.toList.count false := List.count_pos_iff.2 (h1 ▸ List.getElem_mem _);rw [h1];show L.toList.count false - 1 + 0 + 1 = _
 omega

variable {P : Program} {D : Nat -> Prop} {w0 : World} {N : Nat} {hs : Nat} {K : S -> Prop}

theorem zhY (hcx : OkCx P cx) {ops : Array Oper} (hlt : yF N ops.toList = true) (hok : zdW ops.toList = true)
   (c : Chain cx ops.toList (zN ops.toList) ops.toList s av σ) {Q : Exit -> Act -> World -> Prop}
   (hQ : ∀ e a w, R D w0 N (get e) hs a w -> get e = σ ops.size -> Q .normal a w) :
   ∀ (fuel : Nat) (L : Array Bool) (e : Env) (a : Act) (w : World), L.size = ops.size -> za3 L <= fuel -> (∀ k, (get e k).touchesAny (zN ops.toList) = false) -> Done ops.toList s av σ (λi => L[i]? = some true) (get e) -> R D w0 N (get e) hs a w -> wpAny P .any ops Q fuel L a w := by
 simp only [zdW, Bool.and_eq_true] at hok
 obtain ⟨⟨hp, hed⟩, hnd⟩ := hok;have hn := zcb hnd;have hops : ∀ {i : Nat} {o : Oper}, ops[i]? = some o ↔ ops.toList[i]? = some o := λ{i o} => by rw [Array.getElem?_toList]
 have hedge : ∀ i o, ops.toList[i]? = some o -> (∀ ed ∈ o.after.toList, Region.binds .any ed = true -> ed.on < i) := by
   intro i o hi;have hil := (List.getElem?_eq_some_iff.1 hi).1;simp only [xX, List.all_eq_true, List.mem_range] at hed
   have := hed i hil;rw [hi] at this;simp only [List.all_eq_true, Bool.or_eq_true, Bool.not_eq_true'] at this
   intro ed h1 h2;rcases this ed h1 with h | h
   · rw [h2] at h; cases h
   · simpa using h
 -- what is ready
 have hready : ∀ (L : Array Bool) i, L.size = ops.size -> (i ∈ Region.ready .any ops L ↔ i < ops.size ∧ L[i]? = some false ∧ ∀ o, ops.toList[i]? = some o -> ∀ ed ∈ o.after.toList, Region.binds .any ed = true -> L[ed.on]? = some true) := by
   intro L i hL;simp only [Region.ready, List.mem_filter, List.mem_range, Bool.and_eq_true, Bool.not_eq_true']
   constructor
   · rintro ⟨h1, h2, h3⟩
     have hiL : i < L.size := by omega
     refine ⟨h1, ?_, λo ho ed hed' hb => ?_⟩
     · rw [Array.getD_eq_getD_getElem?, Array.getElem?_eq_getElem hiL] at h2
       rw [Array.getElem?_eq_getElem hiL]; simpa using h2
     · rw [hops.2 ho] at h3
       simp only [Option.map_some, Option.getD_some, Array.all_eq_true'] at h3
       have := h3 ed (by simpa using hed');simp only [hb, Bool.not_true, Bool.false_or] at this
       rw [Array.getD_eq_getD_getElem?] at this;cases hx : L[ed.on]? with
       | none => rw [hx] at this; cases this
       | some b => rw [hx] at this; simpa using this
   · rintro ⟨h1, h2, h3⟩
     refine ⟨h1, by rw [Array.getD_eq_getD_getElem?, h2]; rfl, ?_⟩;have hx := Array.getElem?_eq_getElem h1;rw [hx];simp only [Option.map_some, Option.getD_some, Array.all_eq_true', Bool.or_eq_true, Bool.not_eq_true']
     intro ed hed';cases hb : Region.binds .any ed
     · exact .inl rfl
     · refine .inr ?_
       rw [Array.getD_eq_getD_getElem?, h3 _ (hops.1 hx) ed (by simpa using hed') hb]; rfl
 have hall : ∀ (L : Array Bool), L.size = ops.size -> Region.ready .any ops L = [] -> ∀ i, i < ops.size -> L[i]? = some true := by
   intro L hL hr i
   induction i using Nat.strongRecOn with
   | ind i ih =>
     intro hi;have hiL : i < L.size := by omega
     rw [Array.getElem?_eq_getElem hiL];cases hb : L[i] with
     | true => rfl
     | false =>
       have : i ∈ Region.ready .any ops L := (hready L i hL).2 ⟨hi, by rw [Array.getElem?_eq_getElem hiL, hb], λo ho ed h1 h2 => by
         have := hedge i o ho ed h1 h2;exact ih ed.on this (by omega)⟩
       rw [hr] at this; cases this
 have fin : ∀ (L : Array Bool) (e : Env) (a : Act) (w : World), L.size = ops.size -> Done ops.toList s av σ (λi => L[i]? = some true) (get e) -> R D w0 N (get e) hs a w -> Region.ready .any ops L = [] -> Q .normal a w := by
   intro L e a w hL dn r hr;refine hQ e a w r ?_;have := dn.all c hn λi hi => hall L hL hr i (by simpa using hi)
   simpa using this
 intro fuel
 induction fuel with
 | zero =>
   intro L e a w hL ho hfr dn r
   have h0 : Region.ready .any ops L = [] := by
     cases hx : Region.ready .any ops L with
     | nil => rfl
     | cons i rest =>
       have hi : i ∈ Region.ready .any ops L := by rw [hx]; simp
       have := jG ((hready L i hL).1 hi).2.1;omega
   exact ⟨h0, fin L e a w hL dn r h0⟩
 | succ fuel ih =>
   intro L e a w hL ho hfr dn r;refine ⟨fin L e a w hL dn r, λi hi => ?_⟩;obtain ⟨hi1, hi2, hi3⟩ := (hready L i hL).1 hi;have hoi := Array.getElem?_eq_getElem hi1;have hoi' := hops.1 hoi;have hnL : ¬ L[i]? = some true := by rw [hi2]; simp
   have hag := dn.agree c hn hp hoi' (hi3 _ hoi') hnL;obtain ⟨_, hls, hwr⟩ := c.next i _ hoi';have hst := hls e hag;have dn' := dn.step c hn hp hoi' (hi3 _ hoi') hnL
   have hL' : ∀ j, (L.setIfInBounds i true)[j]? = some true ↔ (j = i ∨ L[j]? = some true) := by
     intro j;rw [Array.getElem?_setIfInBounds]
     by_cases hj : i = j
     · subst hj; simp [show i < L.size by omega]
     · simp [hj, Ne.symm hj]
   have dn'' : Done ops.toList s av σ (λj => (L.setIfInBounds i true)[j]? = some true) (upd (get e) (s i) (av i)) := by
     have : (λj => (L.setIfInBounds i true)[j]? = some true) = λj => j = i ∨ L[j]? = some true := funext λj => propext (hL' j);rw [this]; exact dn'
   -- what becomes of it
   have hfin : ∀ {e' : Env} {a' : Act} {w' : World} {hs' : Nat}, R D w0 N (get e') hs' a' w' -> hs <= hs' -> get e' = upd (get e) (s i) (av i) -> wpAny P .any ops Q fuel (L.setIfInBounds i true) a' w' := by
     intro e' a' w' hs' r' hh h';refine ih _ e' a' w' (by simpa using hL) (by have := jG hi2; omega) (λk => ?_) (by rw [h']; exact dn'') ?_
     · rw [h']; unfold upd; split
       · have := c.free (i + 1) (by simp; omega) (s i)
         rw [(c.next i _ hoi').1] at this
         simpa [upd] using this
       · exact hfr k
     · exact { r' with hs1 := r.hs1, hs2 := Nat.le_trans hh r'.hs2 }
   have htou : ∀ d, ops[i].dst = some d -> ∀ k, (get e k).touches d = false := λd hd k => by
     cases hx : (get e k).touches d with
     | false => rfl
     | true =>
       exact (za2 (hfr k) hx (List.mem_filterMap.2 ⟨_, List.mem_of_getElem? hoi', hd⟩)).elim
   have hdN := xk hlt _ (List.mem_of_getElem? hoi')
   have yes : zY cx ops[i] e (λs' a' => s' = s i ∧ a' = av i) -> ops[i].wp P a w (wpAny P .any ops Q fuel (L.setIfInBounds i true)) Q := λhst =>
     yr (K := λs' => ∃ e3, Fz s'.env (s i) e3 ∧ get e3 = upd (get e) (s i) (av i) ∧ hs <= s'.hs) (next := wpAny P .any ops Q fuel (L.setIfInBounds i true)) hcx hdN (λs' a' w' r' ⟨_, h1, h2, h3⟩ => hfin (zi1 r' h1) h3 h2) r
       (zi0 (C := λs' a' => s' = s i ∧ a' = av i) htou (λs' a' h e2 e3 hz he3 hs' hh => ⟨e3, by rw [<- h.1]; exact hz, by rw [he3, h.1, h.2], hh⟩) hst)
   unfold wpOp;rw [hoi];simp only
   unfold yT at hst;cases hg : ops[i].guard with
   | none =>
     rw [hg] at hst;simp only [Region.wanted, hg, if_true]
     exact .inl (yes hst)
   | some q =>
     obtain ⟨j, want⟩ := q;rw [hg] at hst;simp only at hst
     cases hdd : ops[i].dst with
     | none => rw [hdd] at hst; exact hst.elim
     | some d =>
     rw [hdd] at hst;rw [xK] at hst;cases hj : (ops.toList[j]?).bind (·.dst) with
     | none => rw [hj] at hst; exact hst.elim
     | some t =>
       rw [hj] at hst;simp only [zb] at hst
       have hy : ∀ b, tv a t = .bool b -> t < N -> yielded ops a.tmps j = some b := by
         intro b hb htN;rw [Array.getElem?_toList] at hj
         have h3 : a.tmps[t]? = some (.bool b) := by
           have htl : t < a.tmps.size := by rw [r.size]; exact htN
           have : tv a t = a.tmps[t] := by simp [tv, Array.getD, htl]
           rw [Array.getElem?_eq_getElem htl, <- this, hb]
         simp [yielded, hj, h3]
       have htN' : ∀ {c : Bool}, tv a t = .bool c -> t < N := λ{c} hc => by
         rcases Nat.lt_or_ge t N with h | h
         · exact h
         · have h2 : tv a t = undef := by
             simp only [tv, Array.getD_eq_getD_getElem?]
             rw [Array.getElem?_eq_none (by rw [r.size]; exact h)]; rfl
           rw [h2] at hc; cases hc
       have go : ∀ (c : Bool), tv a t = .bool c -> (bif (c == want) then zY cx ops[i] e (λs' a' => s' = s i ∧ a' = av i) else (d = s i ∧ AV.v (.tup []) = av i)) ->
           (if Region.wanted ops[i] (yielded ops a.tmps) = true then ops[i].wp P a w (wpAny P .any ops Q fuel (L.setIfInBounds i true)) Q ∨ (ops[i].asks P a w ∧ LetsOut Q)
             else wpAny P .any ops Q fuel (L.setIfInBounds i true) (a.put ops[i].dst undef) w) := by
         intro c hc h
         have hw : Region.wanted ops[i] (yielded ops a.tmps) = (c == want) := by
           simp [Region.wanted, hg, hy c hc (htN' hc)]
         rw [hw];cases hcw : (c == want)
         · rw [hcw, cond_false] at h
           simp only [Bool.false_eq_true, if_false]
           refine xL (K := λs' => get s'.env = upd (get e) (s i) (av i) ∧ hs <= s'.hs) (λs' a' w' r' h' => hfin r' h'.2 h'.1) r hdN ?_;unfold jt;rw [hdd];simp only [K1, jx, zr]
           refine ⟨?_, Nat.le_refl _⟩;rw [zd, jw, <- h.1, <- h.2]
           congr 1
           funext k
           rw [htou d hdd k]; rfl
         · rw [hcw, cond_true] at h
           simp only [if_true]
           exact .inl (yes h)
       have goU : tv a t = .tuple #[] -> (d = s i ∧ AV.v (.tup []) = av i) ->
           (if Region.wanted ops[i] (yielded ops a.tmps) = true then ops[i].wp P a w (wpAny P .any ops Q fuel (L.setIfInBounds i true)) Q ∨ (ops[i].asks P a w ∧ LetsOut Q)
             else wpAny P .any ops Q fuel (L.setIfInBounds i true) (a.put ops[i].dst undef) w) := by
         intro hc h
         have hyU : yielded ops a.tmps j = none := by
           rw [Array.getElem?_toList] at hj;simp only [tv, Array.getD_eq_getD_getElem?] at hc
           cases h3 : a.tmps[t]? with
           | none => simp [yielded, hj, h3]
           | some u =>
             rw [h3] at hc;have hc : u = .tuple #[] := hc;subst hc;simp [yielded, hj, h3]
         have hw : Region.wanted ops[i] (yielded ops a.tmps) = false := by
           simp [Region.wanted, hg, hyU]
         rw [hw];simp only [Bool.false_eq_true, if_false]
         refine xL (K := λs' => get s'.env = upd (get e) (s i) (av i) ∧ hs <= s'.hs) (λs' a' w' r' h' => hfin r' h'.2 h'.1) r hdN ?_;unfold jt;rw [hdd];simp only [K1, jx, zr]
         refine ⟨?_, Nat.le_refl _⟩;rw [zd, jw, <- h.1, <- h.2]
         congr 1
         funext k
         rw [htou d hdd k]; rfl
       cases ht : get e t with
       | v x =>
         rw [ht] at hst;cases x with
         | tup cs =>
           cases cs with
           | nil =>
             have hv := r.val ht;generalize tv a t = vv at hv goU;cases hv with
             | tup _ vs hl _ =>
               have hl : vs = #[] := Array.eq_empty_of_size_eq_zero (by simpa using hl);exact hdd ▸ goU (by rw [hl]) hst
           | cons _ _ => exact hst.elim
         | tr => exact hdd ▸ go true (xQ (r.val ht)) (by cases want <;> exact hst)
         | fa => exact hdd ▸ go false (xR (r.val ht)) (by cases want <;> exact hst)
         | bool c => exact hdd ▸ go c (y4 (r.val ht)) (by cases want <;> cases c <;> exact hst)
         | _ => exact hst.elim
       | _ => rw [ht] at hst; exact hst.elim

theorem ze5 {ds : List Nat} : ∀ {e : Env}, ziQ ds e = true -> ∀ k, (get e k).touchesAny ds = false
 | [], _, k => rfl
 | (i, x) :: r, h, k => by
  simp only [ziQ, Bool.and_eq_true, Bool.not_eq_true'] at h
  rw [z4]
  split
  ·exact h.1.1
  ·exact ze5 h.2 k

variable {base : Nat} {QQ : Exit -> S -> Prop} {st : S}

theorem W.draw (hcx : OkCx P cx) (hm : P.follows .mixedOrders = true) {id : Nat} {ops : Array Oper} (hlt : yF N ops.toList = true)
  (h : ziR cx ops.toList (QQ .normal) st.env st.hs) : W P cx N base (.region id ops true) QQ st := by
 intro D w0 a w _ r;unfold ziR at h;cases hb : (zdW ops.toList && ziQ (zN ops.toList) st.env)
 ·rw [hb] at h; exact h.elim
 ·rw [hb] at h;simp only [Bool.and_eq_true] at hb
  have hfr := ze5 hb.2;obtain ⟨s, av, σ, h1, c, en, h2, h3⟩ := Chain.of hfr h;rw [Array.length_toList] at h2;refine wp_region_any hm (zhY (N := N) (D := D) (w0 := w0) (hs := st.hs) hcx hlt hb.1 c (λe a w r' he => ?_) ops.size _ st.env a _ (by simp) ?_ hfr ?_ ?_)
  ·rw [zbM] at h3;refine ⟨_, ?_, h3⟩;show R D w0 N (get (ym cx.ks en)) st.hs a w
   rw [zbL, h2, <- he];exact r'.weak λk => by cases cx.ks.elem k <;> simp
  ·unfold za3; simp
  ·refine ⟨λi o _ hL => ?_, λk p d hk hd => ⟨λhL => ?_, λ_ => by rw [h1]⟩, 0, Nat.zero_le _, λk p hk _ => ⟨λhL => ?_, λh => by omega⟩, λx _ => by rw [h1]⟩
   all_goals
    simp only [Array.getElem?_replicate] at hL
    split at hL <;> simp at hL
  ·exact { r with below := ⟨r.below.os, r.below.tape, r.below.output, r.below.size, r.below.block⟩ }

theorem W.rd (hcx : OkCx P cx) (hm : P.follows .mixedOrders = true) {id : Nat} {ops : Array Oper} {y : Code} (hlt : yF N ops.toList = true)
  (h : ∀ K : S -> Prop, (∀ s, W P cx N base y QQ s -> K s) -> ziR cx ops.toList K st.env st.hs) : W P cx N base (.seq (.region id ops true) y) QQ st :=
 W.seq (W.draw hcx hm hlt (h _ λ_ h => h))

end
open Go Go.RowKit

section
variable {P : Program} {cx : Cx} {D : Nat -> Prop} {w0 : World} {N : Nat} {hs : Nat} {K : S -> Prop} {s : Nat -> Nat} {av : Nat -> AV} {σ : Nat -> Nat -> AV}

theorem zgh {l : List Oper} (hed : xX l = true) : ∀ i o, l[i]? = some o -> (∀ ed ∈ o.after.toList, Region.binds .any ed = true -> ed.on < i) := by
 intro i o hi;have hil := (List.getElem?_eq_some_iff.1 hi).1;simp only [xX, List.all_eq_true, List.mem_range] at hed
 have := hed i hil;rw [hi] at this;simp only [List.all_eq_true, Bool.or_eq_true, Bool.not_eq_true'] at this
 intro ed h1 h2;rcases this ed h1 with h | h
 ·rw [h2] at h; cases h
 ·simpa using h

theorem yf {ops : Array Oper} (L : Array Bool) (i : Nat) (hL : L.size = ops.size) : i ∈ Region.ready .any ops L ↔ i < ops.size ∧ L[i]? = some false ∧ ∀ o, ops.toList[i]? = some o -> ∀ ed ∈ o.after.toList, Region.binds .any ed = true -> L[ed.on]? = some true := by
 have hops : ∀ {i : Nat} {o : Oper}, ops[i]? = some o ↔ ops.toList[i]? = some o := λ{i o} => by rw [Array.getElem?_toList]
 simp only [Region.ready, List.mem_filter, List.mem_range, Bool.and_eq_true, Bool.not_eq_true']
 constructor
 ·rintro ⟨h1, h2, h3⟩;have hiL : i < L.size := by omega
  refine ⟨h1, ?_, λo ho ed hed' hb => ?_⟩
  ·rw [Array.getD_eq_getD_getElem?, Array.getElem?_eq_getElem hiL] at h2;rw [Array.getElem?_eq_getElem hiL]; simpa using h2
  ·rw [hops.2 ho] at h3;simp only [Option.map_some, Option.getD_some, Array.all_eq_true'] at h3
   have := h3 ed (by simpa using hed');simp only [hb, Bool.not_true, Bool.false_or] at this
   rw [Array.getD_eq_getD_getElem?] at this;cases hx : L[ed.on]? with
   | none => rw [hx] at this; cases this
   | some b => rw [hx] at this; simpa using this
 ·rintro ⟨h1, h2, h3⟩;refine ⟨h1, by rw [Array.getD_eq_getD_getElem?, h2]; rfl, ?_⟩;have hx := Array.getElem?_eq_getElem h1;rw [hx];simp only [Option.map_some, Option.getD_some, Array.all_eq_true', Bool.or_eq_true, Bool.not_eq_true']
  intro ed hed';cases hb : Region.binds .any ed
  ·exact .inl rfl
  ·refine .inr ?_;rw [Array.getD_eq_getD_getElem?, h3 _ (hops.1 hx) ed (by simpa using hed') hb]; rfl

variable {base : Nat} {QQ : Exit -> S -> Prop} {st : S}

end
open Go Go.RowKit

def NoW {α : Type} (s : Sem α) : Prop := ∀ (P : Program) (w : World) (x : α) (w1 : World), s.run P w = .ok x w1 -> w1 = w ∧ ∀ w', s.run P w' = .ok x w'
theorem NoW.pure {α : Type} (x : α) : NoW (Pure.pure x : Sem α) := λP w y w1 h => by
 rw [Sem.run_pure] at h;injection h with h1 h2
 subst h1 h2;exact ⟨rfl, λw' => Sem.run_pure ..⟩
theorem NoW.bind {α β : Type} {s : Sem α} {f : α -> Sem β} (hs : NoW s) (hf : ∀ x, NoW (f x)) : NoW (s >>= f) := λP w y w1 h => by
 rw [Sem.run_bind] at h;cases hr : s.run P w with
 | ok x w2 =>
  rw [hr, Result.andThen_ok] at h;obtain ⟨rfl, h2⟩ := hs P w x w2 hr;obtain ⟨rfl, h3⟩ := hf x P w2 y w1 h;exact ⟨rfl, λw' => by rw [Sem.run_bind, h2 w', Result.andThen_ok]; exact h3 w'⟩
 | halt x w2 => rw [hr] at h; cases h
theorem NoW.stuck {α : Type} (m : String) : NoW (stuck m : Sem α) := λP w y w1 h => by cases h
theorem NoW.unsupported {α : Type} (m : Unsupported) : NoW (Go.unsupported m : Sem α) := λP w y w1 h => by cases h
theorem NoW.program : NoW Go.program := λP w y w1 h => by
 cases h; exact ⟨rfl, λw' => rfl⟩
theorem NoW.typeInfo (t : TypeId) : NoW (Go.typeInfo t) := NoW.program.bind λp => by
 cases p.info? t with
 | some i => exact NoW.pure _
 | none => exact NoW.stuck _
theorem NoW.underlying (t : TypeId) : NoW (Go.underlying t) := NoW.program.bind λp => by
 cases p.underlying t with
 | some i => exact NoW.pure _
 | none => exact NoW.stuck _
theorem NoW.sizeOf (t : TypeId) : NoW (Go.sizeOf t) := (NoW.typeInfo t).bind λ_ => NoW.pure _
theorem NoW.zeroValue (t : TypeId) : NoW (Go.zeroValue t) := (NoW.typeInfo t).bind λi => by
 cases i.zero with
 | some v => exact NoW.pure _
 | none => exact NoW.unsupported _

theorem NoW.mapM {α β : Type} {f : α -> Sem β} (hf : ∀ x, NoW (f x)) : ∀ l : List α, NoW (l.mapM f)
 | [] => by rw [List.mapM_nil]; exact NoW.pure _
 | x :: l => by rw [List.mapM_cons]; exact (hf x).bind λy => (NoW.mapM hf l).bind λys => NoW.pure _
theorem NoW.arrMapM {α β : Type} {f : α -> Sem β} (hf : ∀ x, NoW (f x)) (l : Array α) : NoW (l.mapM f) := by
 rw [Array.mapM_eq_mapM_toList];exact (NoW.mapM hf l.toList).bind λ_ => NoW.pure _
theorem NoW.build (t : TypeId) (ps : Array (Nat × Value)) : NoW (Instr.build t ps) := by
 unfold Instr.build;refine (NoW.zeroValue t).bind λz => (NoW.underlying t).bind λd => ?_;cases d with
 | struct fields =>
  refine (NoW.arrMapM (λf => (NoW.sizeOf f.type).bind λ_ => NoW.pure _) fields).bind λplaces => ?_
  split
  ·exact NoW.pure _
  ·exact NoW.stuck _
 | array n el =>
  refine (NoW.sizeOf el).bind λsize => ?_
  split
  ·exact NoW.pure _
  ·exact NoW.stuck _
 | _ => exact NoW.stuck _

theorem NoW.goPanic {α : Type} (v : Value) : NoW (Go.goPanic v : Sem α) := λP w y w1 h => by cases h
def Nev {α : Type} (s : Sem α) : Prop := ∀ (P : Program) (w : World) (x : α) (w1 : World), s.run P w ≠ .ok x w1
theorem Nev.goPanic {α : Type} (v : Value) : Nev (Go.goPanic v : Sem α) := λP w y w1 h => by cases h
theorem Nev.bind {α β : Type} {s : Sem α} {f : α -> Sem β} (hf : ∀ x, Nev (f x)) : Nev (s >>= f) := λP w y w1 h => by
 rw [Sem.run_bind] at h;cases hr : s.run P w with
 | ok x w2 => rw [hr, Result.andThen_ok] at h; exact hf x P w2 y w1 h
 | halt x w2 => rw [hr] at h; cases h
theorem Nev.now {α : Type} {s : Sem α} (h : Nev s) : NoW s := λP w y w1 h' => (h P w y w1 h').elim
theorem NoW.bounds {α : Type} (k : IntKind) (x y : Int) (c : BoundsCode) : NoW (Go.boundsPanic k x y c : Sem α) := by
 unfold Go.boundsPanic;refine Nev.now ?_
 have key : ∀ b : Bool, Nev (Go.runtimePanic (.bounds (IntKind.i64.wrap x) y b c) : Sem α) := λb => by
  unfold Go.runtimePanic;exact Nev.bind λp => Nev.goPanic _
 dsimp only
 split
 ·exact Nev.bind λb => key b
 ·exact Nev.bind λb => key b
theorem NoW.asIntOf (v : Value) : NoW (Go.asIntOf v) := by
 unfold Go.asIntOf
 split
 ·exact NoW.pure _
 ·exact NoW.unsupported _
 ·exact NoW.stuck _
theorem NoW.sliceBound (v : Value) (y : Nat) (c : BoundsCode) : NoW (Instr.sliceBound v y c) := by
 unfold Instr.sliceBound;refine (NoW.asIntOf v).bind λq => ?_;obtain ⟨k, i⟩ := q;show NoW (if 0 <= i ∧ i <= y then Pure.pure i.toNat else boundsPanic k i y c)
 split
 ·exact NoW.pure _
 ·exact NoW.bounds _ _ _ _
theorem NoW.sliceBounds (b : Bool) (n c : Nat) (lo hi : Option Value) : NoW (Instr.sliceBounds b n c lo hi none) := by
 unfold Instr.sliceBounds;cases hi <;> cases lo <;> dsimp only <;> repeat' first | exact NoW.pure _ | exact NoW.sliceBound _ _ _ | refine NoW.bind ?_ λ_ => ?_

theorem NoW.asAddr (x : Value) : NoW (Go.asAddr x) := by
 unfold Go.asAddr
 split
 ·exact NoW.pure _
 ·unfold Go.runtimePanic;exact NoW.program.bind λp => NoW.goPanic _
 ·exact NoW.stuck _
theorem NoW.sureAddr (x : Value) : NoW (Instr.sureAddr x) := by
 unfold Instr.sureAddr
 split
 ·exact NoW.pure _
 ·exact NoW.stuck _
theorem NoW.slice (t : TypeId) (x : Value) (lo hi : Option Value) : NoW (Instr.slice t x lo hi none) := by
 unfold Instr.slice;refine (NoW.underlying t).bind λd => ?_
 split
 ·exact (NoW.sliceBounds false _ _ lo hi).bind λq => NoW.pure _
 ·exact (NoW.sliceBounds true _ _ lo hi).bind λq => (NoW.sizeOf _).bind λ_ => NoW.pure _
 ·refine (NoW.asAddr _).bind λa => (NoW.underlying _).bind λd => ?_
  split
  ·exact (NoW.sliceBounds false _ _ lo hi).bind λq => (NoW.sizeOf _).bind λ_ => NoW.pure _
  ·exact NoW.stuck _
 ·exact NoW.stuck _
theorem NoW.sliceAt (t : TypeId) (x : Value) (lo hi : Option Value) : NoW (Instr.sliceAt t x lo hi none) := by
 unfold Instr.sliceAt;refine (NoW.underlying t).bind λd => ?_
 split
 ·exact (NoW.sureAddr _).bind λa => (NoW.sliceBounds false _ _ lo hi).bind λq => (NoW.sizeOf _).bind λ_ => NoW.pure _
 ·exact NoW.slice t x lo hi

theorem NoW.extract (x : Value) (i : Nat) : NoW (Instr.extract x i) := by
 unfold Instr.extract
 repeat' first | exact NoW.pure _ | exact NoW.stuck _ | split
def zce (o : Oper) : Bool :=
 match o.op with
 | .move _ | .assign _ | .extract _ _ | .build _ _ | .slice _ _ _ _ none => true
 | _ => false
theorem NoW.exec {o : Oper} (h : zce o = true) (ρ : Operand -> Value) : NoW (execOp ρ o) := by
 unfold zce at h
 split at h
 ·rename_i x hop; unfold execOp; rw [hop]; exact NoW.pure _
 ·rename_i x hop; unfold execOp; rw [hop]; exact NoW.pure _
 ·rename_i t ix hop; unfold execOp; rw [hop]; exact (NoW.extract _ _).bind λ_ => NoW.pure _
 ·rename_i t ps hop; unfold execOp; rw [hop]; exact (NoW.build _ _).bind λ_ => NoW.pure _
 ·rename_i t x lo hi hop; unfold execOp; rw [hop]; exact (NoW.sliceAt _ _ _ _).bind λ_ => NoW.pure _
 ·cases h

open Go Go.RowKit

section
variable {P : Program} {cx : Cx} {N : Nat} {ops : Array Oper} {fuel : Nat} {listed : Array Bool} {K : S -> Prop} {s : S} {e : Env} {hs : Nat} {i : Nat} {o : Oper}

theorem zgi {o : Oper} (h : zce o = true) {ρ : Operand -> Value} {w w1 : World} {y : Next} (hr : (execOp ρ o).run P w = .ok y w1) : ∃ v, y = .value v := by
 have go : ∀ (s : Sem Value), ((do Pure.pure (Next.value (<- s))) : Sem Next).run P w = .ok y w1 -> ∃ v, y = .value v := λs h => by
  rw [Sem.run_bind] at h;cases hs : s.run P w with
  | ok v w2 =>
   rw [hs, Result.andThen_ok, Sem.run_pure] at h;injection h with h1 h2
   exact ⟨v, h1.symm⟩
  | halt x w2 => rw [hs] at h; cases h
 unfold zce at h
 split at h
 ·rename_i x hop
  unfold execOp at hr;rw [hop] at hr;have hr : (Pure.pure (Next.value (ρ x)) : Sem Next).run P w = .ok y w1 := hr;rw [Sem.run_pure] at hr;injection hr with h1 h2
  exact ⟨_, h1.symm⟩
 ·rename_i x hop
  unfold execOp at hr;rw [hop] at hr;have hr : (Pure.pure (Next.value (ρ x)) : Sem Next).run P w = .ok y w1 := hr;rw [Sem.run_pure] at hr;injection hr with h1 h2
  exact ⟨_, h1.symm⟩
 ·rename_i t ix hop; unfold execOp at hr; rw [hop] at hr; exact go _ hr
 ·rename_i t ps hop; unfold execOp at hr; rw [hop] at hr; exact go _ hr
 ·rename_i t x lo hi hop; unfold execOp at hr; rw [hop] at hr; exact go _ hr
 ·cases h

def Qn (Z : Act -> World -> Prop) : Exit -> Act -> World -> Prop
 | .normal, a, w => Z a w
 | _, _, _ => False

structure Wany (P : Program) (N : Nat) (ops : Array Oper) (fuel : Nat) (listed : Array Bool) (K : S -> Prop) (s : S) : Prop where
 run : ∀ (D : Nat -> Prop) (w0 : World) (a : Act) (w : World), R D w0 N (get s.env) s.hs a w ->
  wpAny P .any ops (Qn λa w => ∃ s', R D w0 N (get s'.env) s'.hs a w ∧ K s') fuel listed a w

theorem Wany.done (hr : Region.ready .any ops listed = []) (h : K s) : Wany P N ops fuel listed K s := ⟨λ_D _w0 _a _w r => wpAny_done hr ⟨s, r, h⟩ fuel⟩

theorem Wany.take (hcx : OkCx P cx) (i : Nat) (hi : ops[i]? = some o) (hg : o.guard = none) (hlt : ∀ d, o.dst = some d -> d < N) (hns : Region.noSelect ops = true) (hf : Region.free .any ops listed i = true)
  (hr : (Region.ready .any ops listed).contains i = true) (hp : zce o = true) (h : vb cx o (λs' => match s' with | ⟨e, hs⟩ => Wany P N ops fuel (listed.setIfInBounds i true) K ⟨e, hs⟩) e hs) :
  Wany P N ops (fuel + 1) listed K ⟨e, hs⟩ := by
 refine ⟨λD w0 a w r => ?_⟩;have hw := yr (Q := Qn λ_ _ => False) (next := wpAny P .any ops (Qn λa w => ∃ s', R D w0 N (get s'.env) s'.hs a w ∧ K s') fuel (listed.setIfInBounds i true)) hcx hlt (λs' a' w' r' h' => h'.run D w0 a' w' r') r h;unfold Oper.wp at hw;have hn := NoW.exec hp a.eval P w;cases hx : (execOp a.eval o).run P w with
 | ok y w1 =>
  obtain ⟨rfl, h2⟩ := hn y w1 hx;rw [hx] at hw;obtain ⟨v, rfl⟩ := zgi hp hx;exact wpAny_take hi hns hf hr (λc a w hq => hq.elim) (.inl ⟨by simp [Region.wanted, hg], h2⟩) hw
 | halt y w1 =>
  rw [hx] at hw;cases y <;> exact hw.elim

theorem Wany.all (hcx : OkCx P cx) (hlt : yF N ops.toList = true) {rs : List Nat} (hr : Region.ready .any ops listed = rs) (hne : rs ≠ [])
  (h : ∀ i ∈ rs, ∃ o, ops[i]? = some o ∧ o.guard = none ∧ vb cx o (λs' => match s' with | ⟨e, hs⟩ => Wany P N ops fuel (listed.setIfInBounds i true) K ⟨e, hs⟩) e hs) : Wany P N ops (fuel + 1) listed K ⟨e, hs⟩ := by
 refine ⟨λD w0 a w r => ?_⟩;refine wpAny_all hr hne λi hi => ?_;obtain ⟨o, ho, hg, h⟩ := h i hi;unfold wpOp;rw [ho];simp only [Region.wanted, hg, if_true]
 exact .inl (yr hcx (xk hlt o (List.mem_of_getElem? (by rw [Array.getElem?_toList]; exact ho))) (λs' a' w' r' h' => h'.run D w0 a' w' r') r h)

variable {base : Nat} {QQ : Exit -> S -> Prop}
theorem W.sch (hm : P.follows .mixedOrders = true) {id : Nat} (h : Wany P N ops ops.size (Array.replicate ops.size false) (λs => j5 s.env cx.ks λe => QQ .normal ⟨e, s.hs⟩) s) : W P cx N base (.region id ops true) QQ s := by
 intro D w0 a w _ r;refine wp_mono (wp_region_any hm (h.run D w0 a _ { r with below := ⟨r.below.os, r.below.tape, r.below.output, r.below.size, r.below.block⟩ })) ?_;intro ex a' w' hq;cases ex with
 | normal =>
  obtain ⟨s', r', h'⟩ := hq;rw [zbM] at h';refine ⟨_, ?_, h'⟩;show R D w0 N (get (ym cx.ks s'.env)) s'.hs a' w'
  rw [zbL];exact r'.weak λk => by cases cx.ks.elem k <;> simp
 | _ => exact hq.elim

end
open Go Go.RowKit

section
variable {P : Program} {cx : Cx} {N : Nat}

variable {base : Nat} {QQ : Exit -> S -> Prop} {st : S}

end
open Go Go.RowKit

theorem NoW.rtError {α : Type} (m : String) : NoW (Go.runtimePanic (.error m) : Sem α) := by
 unfold Go.runtimePanic;exact Nev.now (Nev.bind λp => Nev.goPanic _)
theorem NoW.intOp (op : BinOp) (t : TypeId) (k k' : IntKind) (a b : Int) : NoW (Go.binOp op t (.int k a) (.int k' b)) := by
 cases op <;> unfold Go.binOp <;> dsimp only <;> repeat' first | exact NoW.pure _ | exact NoW.stuck _ | exact NoW.rtError _ | unfold Op.shift | unfold Op.intArith | unfold Op.intDiv | unfold Op.intBits | unfold Op.intCmp | split | dsimp only

theorem NoW.indexAt (t : TypeId) (x i : Value) : NoW (Instr.indexAt t x i) := by
 unfold Instr.indexAt;refine (NoW.asIntOf i).bind λq => ?_;obtain ⟨k, n⟩ := q;refine (NoW.underlying t).bind λd => ?_
 have tail : ∀ (base : Option Addr) (len : Nat) (elem : TypeId), NoW (do
   let tiny := len <= 1 && (match <- Go.underlying t with | .array .. => true | _ => false)
   match base with
   | some a =>
    if 0 <= n ∧ n < len then Pure.pure (Value.pointer (some (a.add (n.toNat * (<- Go.sizeOf elem)))))
    else if tiny then Go.unsupported (.noEntry "op/indexAddr.an index out of range at an array of length 0 or 1 (ledger 616)")
    else Go.boundsPanic k n len .index
   | none => Go.boundsPanic k n 0 .index : Sem Value) := by
  intro base len elem;refine (NoW.underlying t).bind λd' => ?_;dsimp only
  repeat' first | exact NoW.pure _ | exact NoW.unsupported _ | exact NoW.bounds _ _ _ _ | exact (NoW.sizeOf _).bind λ_ => NoW.pure _ | split
 split
 ·exact (NoW.sureAddr _).bind λa => tail (some a) _ _
 ·exact tail _ _ _
 ·exact (NoW.stuck _).bind λq => tail q.1 q.2.1 q.2.2

section
variable {P : Program} {cx : Cx} {N : Nat}
def zg6 (e : Env) : Operand -> Bool
 | .const (.int _ _) => true
 | .tmp t => match get e t with | .v (.int _ _) => true | _ => false
 | _ => false
theorem za4 {D : Nat -> Prop} {w0 : World} {e : Env} {hs : Nat} {a : Act} {w : World} (r : R D w0 N (get e) hs a w) {o : Operand} (h : zg6 e o = true) : ∃ k n, a.eval o = .int k n := by
 cases o with
 | const c =>
  cases c with
  | int k n => exact ⟨k, n, rfl⟩
  | _ => cases h
 | tmp t =>
  simp only [zg6] at h
  split at h
  ·rename_i k n hk
   have := r.slots t;rw [hk] at this
   exact ⟨k, n, by
    have h2 : Rep _ _ (.int k n) (a.tmps.getD t undef) := this;exact zJ h2⟩
  ·cases h
 | _ => cases h
end
open Go Go.RowKit

section
variable {P : Program} {N : Nat} {ops : Array Oper} {fuel : Nat} {listed : Array Bool} {K : S -> Prop} {s : S}
end
open Go Go.RowKit

def RO {α : Type} (s : Sem α) : Prop := ∀ (P : Program) (w : World) (x : α) (w1 : World), s.run P w = .ok x w1 -> w1 = w
theorem NoW.ro {α : Type} {s : Sem α} (h : NoW s) : RO s := λP w x w1 hr => (h P w x w1 hr).1
theorem RO.pure {α : Type} (x : α) : RO (Pure.pure x : Sem α) := (NoW.pure x).ro
theorem RO.stuck {α : Type} (m : String) : RO (Go.stuck m : Sem α) := (NoW.stuck m).ro
theorem RO.bind {α β : Type} {s : Sem α} {f : α -> Sem β} (hs : RO s) (hf : ∀ x, RO (f x)) : RO (s >>= f) := λP w y w1 h => by
 rw [Sem.run_bind] at h;cases hr : s.run P w with
 | ok x w2 =>
  rw [hr, Result.andThen_ok] at h;obtain rfl := hs P w x w2 hr;exact hf x P w2 y w1 h
 | halt x w2 => rw [hr] at h; cases h
theorem RO.load (a : Addr) : RO (Go.load a) := λP w x w1 h => by
 have h : Sem.run P (.load .plain a .pure) w = .ok x w1 := h;unfold Sem.run at h
 split at h
 ·rename_i v _
  have h : Result.ok v w = .ok x w1 := h;injection h with h1 h2
  exact h2.symm
 ·split at h
  ·rename_i v _ _
   have h : Result.ok v w = .ok x w1 := h;injection h with h1 h2
   exact h2.symm
  ·cases h
theorem RO.shape (r : Nat) : RO (Go.shape r) := λP w x w1 h => by
 have h : Result.ok (w.shape? r) w = .ok x w1 := h;injection h with h1 h2
 exact h2.symm
theorem RO.getObj (r : Nat) : RO (Go.getObj r) := λP w x w1 h => by
 have h : Sem.run P (.getObj r .pure) w = .ok x w1 := h;unfold Sem.run at h
 split at h
 ·cases h
 ·rename_i o _ _
  have h : Result.ok o w = .ok x w1 := h;injection h with h1 h2
  exact h2.symm
 ·cases h
theorem RO.isAgg (t : TypeId) : RO (Go.isAgg t) := (NoW.underlying t).ro.bind λd => by
 split <;> exact RO.pure _
theorem RO.loadCellsFrom (a : Addr) : ∀ (n i : Nat) (acc : Array Value), RO (Go.loadCellsFrom a i n acc)
 | 0, _, _ => RO.pure _
 | n + 1, i, acc => (RO.load _).bind λv => RO.loadCellsFrom a n (i + 1) (acc.push v)
theorem RO.loadVar (t : TypeId) (a : Addr) : RO (Go.loadVar t a) := by
 unfold Go.loadVar;refine (RO.isAgg t).bind λb => ?_;cases b
 ·exact RO.load a
 ·exact (NoW.sizeOf t).ro.bind λn => (RO.loadCellsFrom a n 0 #[]).bind λ_ => RO.pure _
theorem RO.loadAt (t : TypeId) (x : Value) : RO (Instr.loadAt t x) := by
 unfold Instr.loadAt;exact (NoW.sureAddr x).ro.bind λa => RO.loadVar t a
theorem RO.part (t : TypeId) (cs : Array Value) (off : Nat) : RO (Go.part t cs off) := by
 unfold Go.part;refine (RO.isAgg t).bind λb => ?_;cases b
 ·simp only [Bool.false_eq_true, if_false]
  split
  ·exact RO.pure _
  ·exact RO.stuck _
 ·exact (NoW.sizeOf t).ro.bind λn => RO.pure _
theorem RO.asAgg (x : Value) : RO (Go.asAgg x) := by
 unfold Go.asAgg
 split
 ·exact RO.pure _
 ·exact RO.stuck _
theorem RO.field (t : TypeId) (x : Value) (k : Nat) : RO (Instr.field t x k) := by
 unfold Instr.field;refine (NoW.underlying t).ro.bind λd => ?_
 split
 ·split
  ·exact (RO.asAgg x).bind λcs => RO.part _ _ _
  ·exact RO.stuck _
 ·exact RO.stuck _
theorem RO.asBool (x : Value) : RO (Go.asBool x) := by
 unfold Go.asBool
 split
 ·exact RO.pure _
 ·exact RO.stuck _
theorem RO.unary (op : UnOp) (x : Value) : RO (Op.unary op x) := by
 unfold Op.unary
 repeat' first | exact RO.pure _ | exact RO.stuck _ | exact (NoW.unsupported _).ro | unfold Op.intArith | unfold Op.intBits | split | dsimp only
theorem RO.unsupported {α : Type} (m : Unsupported) : RO (Go.unsupported m : Sem α) := (NoW.unsupported m).ro
theorem RO.noView (a : Addr) : RO (Go.noView a) := by
 unfold Go.noView Go.viewAt
 repeat' first | exact RO.pure _ | exact RO.stuck _ | exact RO.unsupported _ | exact RO.shape _ | exact RO.getObj _ | exact NoW.program.ro | refine RO.bind ?_ λ_ => ?_ | split | dsimp only
theorem RO.byteOf (a : Addr) : RO (Go.byteOf a) := by
 unfold Go.byteOf
 repeat' first | exact RO.pure _ | exact RO.stuck _ | exact RO.unsupported _ | exact RO.shape _ | exact RO.noView _ | exact NoW.program.ro | refine RO.bind ?_ λ_ => ?_ | split | dsimp only
theorem RO.fieldPlace (a : Addr) (f : Field) : RO (Go.fieldPlace a f) := by
 unfold Go.fieldPlace Go.partAt;refine (NoW.sizeOf _).ro.bind λn => ?_
 split
 ·exact (RO.byteOf a).bind λb => (RO.byteOf _).bind λc => RO.pure _
 ·exact RO.pure _
theorem RO.fieldAt (t : TypeId) (x : Value) (k : Nat) : RO (Instr.fieldAt t x k) := by
 unfold Instr.fieldAt;refine (NoW.underlying t).ro.bind λd => ?_
 split
 ·split
  ·exact (NoW.sureAddr x).ro.bind λa => (RO.fieldPlace a _).bind λ_ => RO.pure _
  ·exact RO.stuck _
 ·exact RO.stuck _
theorem RO.eqB (t : TypeId) (p q : Bool) : RO (Op.equal t (.bool p) (.bool q)) := by
 unfold Op.equal Op.equalIn;refine (NoW.underlying t).ro.bind λd => ?_
 split <;> first | exact RO.pure _ | exact RO.stuck _ | exact RO.unsupported _ | skip
 all_goals (rename_i h; first | cases h | skip)
theorem RO.boolOp (op : BinOp) (t : TypeId) (p q : Bool) : RO (Go.binOp op t (.bool p) (.bool q)) := by
 cases op <;> unfold Go.binOp <;> dsimp only <;> first | exact RO.stuck _ | exact (RO.eqB t p q).bind λ_ => RO.pure _
theorem RO.len (ts : Array TypeId) (t : TypeId) {args : Array Value} {a : Option Addr} {n c : Nat} (h : args[0]? = some (.slice a n c)) : RO (Builtin.len_ ts t args) := by
 unfold Builtin.len_;rw [h];cases ts[0]? with
 | none => exact RO.stuck _
 | some u =>
  refine (NoW.underlying u).ro.bind λd => ?_
  split <;> first | exact RO.pure _ | exact RO.stuck _ | skip
  ·exact (NoW.underlying _).ro.bind λ_ => by split <;> first | exact RO.pure _ | exact RO.stuck _
  all_goals (rename_i h; cases h)
def slV : AV -> Bool
 | .v (.ints _ _) | .v (.vals _ _ _ _) | .v .nil | .v (.rf _ _) | .ownI _ _ _ | .ownV _ _ _ _ _ => true
 | _ => false
def zkX (e : Env) : Operand -> Bool
 | .tmp t => match get e t with | .al s => slV (get e s) | x => slV x
 | _ => false
def zkd (e : Env) : Operand -> Bool
 | .const (.bool _) => true
 | .tmp t => match get e t with | .v (.bool _) => true | .v .tr => true | .v .fa => true | _ => false
 | _ => false
def zgj (e : Env) (o : Oper) : Bool :=
 match o.op with
 | .move _ | .assign _ | .extract _ _ | .build _ _ | .slice _ _ _ _ none | .load _ _ | .indexAddr _ _ _ | .fieldAddr _ _ _ | .field _ _ _ | .pick _ _ _ | .unOp _ _ _ => true
 | .binOp _ _ x y _ => (zg6 e x && zg6 e y) || (zkd e x && zkd e y)
 | .call ⟨.builtin .len, ⟨[x]⟩, _⟩ => zkX e x
 | _ => false

section
variable {P : Program} {cx : Cx} {D : Nat -> Prop} {w0 : World} {N : Nat} {hs : Nat} {a : Act} {w : World} {K : S -> Prop} {next : Act -> World -> Prop} {Q : Exit -> Act -> World -> Prop} {o : Oper} {e : Env} {ops : Array Oper}

theorem zcf (r : R D w0 N (get e) hs a w) {o : Operand} (h : zkd e o = true) : ∃ p, a.eval o = .bool p := by
 cases o with
 | const c =>
  cases c with
  | bool p => exact ⟨p, rfl⟩
  | _ => cases h
 | tmp t =>
  simp only [zkd] at h
  split at h
  ·rename_i p hk; exact ⟨_, y4 (r.val hk)⟩
  ·rename_i hk; exact ⟨_, xQ (r.val hk)⟩
  ·rename_i hk; exact ⟨_, xR (r.val hk)⟩
  ·cases h
 | _ => cases h

theorem zgk (r : R D w0 N (get e) hs a w) {x : Operand} (h : zkX e x = true) : ∃ ad n cap, a.eval x = .slice ad n cap := by
 cases x with
 | tmp t =>
  have key : rdK e (.tmp t) (λvx => zfX vx λ_ => True) -> ∃ ad n cap, a.eval (.tmp t) = .slice ad n cap := λh1 => by
   obtain ⟨vx, h4, hr⟩ := zA r h1;obtain ⟨ad, n, cap, hv, _⟩ := zbs hr h4;exact ⟨ad, _, cap, hv⟩
  refine key ?_;simp only [zkX] at h
  simp only [rdK, zb]
  split at h
  ·rename_i s hs
   rw [hs];simp only
   unfold slV at h
   split at h <;> first | (rename_i h1; rw [h1]; trivial) | skip
   all_goals first | cases h | skip
  ·unfold slV at h
   split at h <;> first | (rename_i h1; rw [h1]; trivial) | skip
   all_goals first | cases h | skip
 | _ => cases h

def ROV (s : Sem Next) : Prop := ∀ (P : Program) (w : World) (y : Next) (w1 : World), s.run P w = .ok y w1 -> w1 = w ∧ ∃ v, y = .value v
theorem ROV.pure (v : Value) : ROV (Pure.pure (.value v)) := λP w y w1 h => by
 rw [Sem.run_pure] at h;injection h with h1 h2
 exact ⟨h2.symm, v, h1.symm⟩
theorem ROV.bind {α : Type} {s : Sem α} {f : α -> Sem Next} (hs : RO s) (hf : ∀ x, ROV (f x)) : ROV (s >>= f) := λP w y w1 h => by
 rw [Sem.run_bind] at h;cases hr : s.run P w with
 | ok x w2 =>
  rw [hr, Result.andThen_ok] at h;obtain rfl := hs P w x w2 hr;exact hf x P w2 y w1 h
 | halt x w2 => rw [hr] at h; cases h
theorem RO.rov {s : Sem Value} (h : RO s) : ROV (do Pure.pure (Next.value (<- s))) := ROV.bind h λv => ROV.pure v

theorem xZ (r : R D w0 N (get e) hs a w) (h : zgj e o = true) : ROV (execOp a.eval o) := by
 unfold zgj at h
 split at h
 ·rename_i x hop; unfold execOp; rw [hop]; exact ROV.pure _
 ·rename_i x hop; unfold execOp; rw [hop]; exact ROV.pure _
 ·rename_i t ix hop; unfold execOp; rw [hop]; exact (NoW.extract _ _).ro.rov
 ·rename_i t ps hop; unfold execOp; rw [hop]; exact (NoW.build _ _).ro.rov
 ·rename_i t x lo hi hop; unfold execOp; rw [hop]; exact (NoW.sliceAt _ _ _ _).ro.rov
 ·rename_i t x hop; unfold execOp; rw [hop]; exact (RO.loadAt t (a.eval x)).rov
 ·rename_i t x i hop; unfold execOp; rw [hop]; exact (NoW.indexAt t (a.eval x) (a.eval i)).ro.rov
 ·rename_i t x k hop; unfold execOp; rw [hop]; exact (RO.fieldAt t (a.eval x) k).rov
 ·rename_i t x k hop; unfold execOp; rw [hop]; exact (RO.field t (a.eval x) k).rov
 ·rename_i c x y hop; unfold execOp; rw [hop]; exact ROV.bind (RO.asBool _) λ_ => ROV.pure _
 ·rename_i op t x hop; unfold execOp; rw [hop]; exact (RO.unary op (a.eval x)).rov
 ·rename_i op t x y t' hop
  rw [Bool.or_eq_true] at h;have he : execOp a.eval o = (do pure (Next.value (<- (do eqGuard op t x y (a.eval x) (a.eval y); binOp op t (a.eval x) (a.eval y))))) := by unfold execOp; rw [hop]
  rw [he];refine RO.rov ?_;rcases h with h | h
  ·rw [Bool.and_eq_true] at h;obtain ⟨k, n, hx⟩ := za4 r h.1;obtain ⟨k', n', hy⟩ := za4 r h.2;rw [hx, hy, eqGuard_at_int];exact (RO.pure _).bind λ_ => (NoW.intOp op t k k' n n').ro
  ·rw [Bool.and_eq_true] at h;obtain ⟨p, hx⟩ := zcf r h.1;obtain ⟨q, hy⟩ := zcf r h.2;rw [hx, hy, eqGuard_at_bool];exact (RO.pure _).bind λ_ => RO.boolOp op t p q
 ·rename_i x ts hop
  obtain ⟨ad, n, cap, hv⟩ := zgk r h;unfold execOp;rw [hop]
  have he : ∀ d : Deferred, d = { target := .builtin .len ts o.type ((#[x] : Array Operand).map λ| .const _ => true | _ => false), args := (#[x] : Array Operand).map a.eval } -> ROV (invoke d.target d.args) := λd hd => by
   subst hd;exact (RO.len ts o.type (args := (#[x] : Array Operand).map a.eval) (a := ad) (n := n) (c := cap) (by simp [hv])).rov
  exact he _ rfl
 ·cases h

def wpO (P : Program) (ops : Array Oper) (Q : Exit -> Act -> World -> Prop) (o : Oper) (next : Act -> World -> Prop) (a : Act) (w : World) : Prop :=
 if Region.wanted o (yielded ops a.tmps) = true then o.wp P a w next Q else next (a.put o.dst undef) w

theorem jH (hcx : OkCx P cx) (hd : ∀ d, o.dst = some d -> d < N) (hx : Nx D w0 N K next) (r : R D w0 N (get e) hs a w) (h : ju cx ops.toList o K e hs) : wpO P ops Q o next a w := by
 unfold wpO;unfold ju at h;cases hg : o.guard with
 | none =>
  rw [hg] at h;simp only [Region.wanted, hg, if_true]
  exact yr hcx hd hx r h
 | some q =>
  obtain ⟨j, want⟩ := q;rw [hg] at h;simp only at h
  rw [xK] at h;cases hj : (ops.toList[j]?).bind (·.dst) with
  | none => rw [hj] at h; exact h.elim
  | some t =>
   rw [hj] at h;simp only [zb] at h
   have hy : ∀ b, tv a t = .bool b -> t < N -> yielded ops a.tmps j = some b := by
    intro b hb htN;rw [Array.getElem?_toList] at hj
    have h3 : a.tmps[t]? = some (.bool b) := by
     have htl : t < a.tmps.size := by rw [r.size]; exact htN
     have : tv a t = a.tmps[t] := by simp [tv, Array.getD, htl]
     rw [Array.getElem?_eq_getElem htl, <- this, hb]
    simp [yielded, hj, h3]
   have go : ∀ (c : Bool) (e : Env), t < N -> R D w0 N (get e) hs a w -> tv a t = .bool c -> (bif (c == want) then vb cx o K e hs else jt o K e hs) ->
     (if Region.wanted o (yielded ops a.tmps) = true then o.wp P a w next Q else next (a.put o.dst undef) w) := by
    intro c e htN r hc h
    have hw : Region.wanted o (yielded ops a.tmps) = (c == want) := by
     simp [Region.wanted, hg, hy c hc htN]
    rw [hw];cases hcw : (c == want)
    ·rw [hcw, cond_false] at h;simp only [Bool.false_eq_true, if_false]
     exact xL hx r hd h
    ·rw [hcw, cond_true] at h;simp only [if_true]
     exact yr hcx hd hx r h
   cases ht : get e t with
   | v x =>
    have htN' : ∀ {c : Bool}, tv a t = .bool c -> t < N := λ{c} hc => by
     rcases Nat.lt_or_ge t N with h | h
     ·exact h
     ·have h2 : tv a t = undef := by
       simp only [tv, Array.getD_eq_getD_getElem?]
       rw [Array.getElem?_eq_none (by rw [r.size]; exact h)]; rfl
      rw [h2] at hc; cases hc
    rw [ht] at h;cases x with
    | tr => exact go true e (htN' (xQ (r.val ht))) r (xQ (r.val ht)) (by cases want <;> exact h)
    | fa => exact go false e (htN' (xR (r.val ht))) r (xR (r.val ht)) (by cases want <;> exact h)
    | bool c =>
     have hv := y4 (r.val ht);have hr' := r.decide ht;simp only [zr] at h
     cases c
     ·exact go false _ (htN' hv) hr' hv (by have := h.2 rfl; cases want <;> exact this)
     ·exact go true _ (htN' hv) hr' hv (by have := h.1 rfl; cases want <;> exact this)
    | tup vs =>
     cases vs with
     | nil =>
      have hv : tv a t = undef := by
       have := r.val ht;generalize tv a t = v at this;cases this with
       | tup _ vs hl _ => exact congrArg Value.tuple (Array.eq_empty_of_size_eq_zero hl)
      have hy' : yielded ops a.tmps j = none := by
       rw [Array.getElem?_toList] at hj;unfold yielded;rw [hj];rcases Nat.lt_or_ge t a.tmps.size with htl | htl
       ·have : tv a t = a.tmps[t] := by simp [tv, Array.getD, htl]
        rw [Option.bind_some, Array.getElem?_eq_getElem htl, <- this, hv]; rfl
       ·rw [Option.bind_some, Array.getElem?_eq_none htl]
      have hw : Region.wanted o (yielded ops a.tmps) = false := by simp [Region.wanted, hg, hy']
      rw [hw];simp only [Bool.false_eq_true, if_false]
      exact xL hx r hd h
     | cons _ _ => exact h.elim
    | _ => exact h.elim
   | _ => rw [ht] at h; exact h.elim

def roG (all : List Oper) (e : Env) (o : Oper) : Bool :=
 match o.guard with
 | none => zgj e o
 | some (j, want) => (match vr all j with
  | some t => (match get e t with
   | .v .tr => bif want then zgj e o else true
   | .v .fa => bif want then true else zgj e o
   | .v (.tup []) => true
   | _ => zgj e o)
  | none => zgj e o)
theorem zhZ (r : R D w0 N (get e) hs a w) (h : roG ops.toList e o = true) : Region.wanted o (yielded ops a.tmps) = false ∨ ROV (execOp a.eval o) := by
 unfold roG at h;cases hg : o.guard with
 | none => rw [hg] at h; exact .inr (xZ r h)
 | some q =>
  obtain ⟨j, want⟩ := q;rw [hg] at h;simp only at h
  rw [xK] at h;cases hj : (ops.toList[j]?).bind (·.dst) with
  | none => rw [hj] at h; exact .inr (xZ r h)
  | some t =>
   rw [hj] at h;simp only at h
   have hyy : ∀ v, tv a t = v -> (∀ b, v = .bool b -> b ≠ want) -> Region.wanted o (yielded ops a.tmps) = false := by
    intro v hv hb;simp only [Region.wanted, hg]
    rw [Array.getElem?_toList] at hj;unfold yielded;rw [hj, Option.bind_some];cases h3 : a.tmps[t]? with
    | none => rfl
    | some u =>
     have hu : u = v := by rw [<- hv]; simp [tv, Array.getD_eq_getD_getElem?, h3]
     subst hu;cases u <;> first | rfl | skip
     rename_i b
     have := hb b rfl;simp [this]
   split at h
   ·rename_i ht
    cases want
    ·exact .inl (hyy _ (xQ (r.val ht)) λb hb => by injection hb with hb; subst hb; simp)
    ·exact .inr (xZ r h)
   ·rename_i ht
    cases want
    ·exact .inr (xZ r h)
    ·exact .inl (hyy _ (xR (r.val ht)) λb hb => by injection hb with hb; subst hb; simp)
   ·rename_i ht
    refine .inl (hyy undef ?_ λb hb => by cases hb);have := r.val ht;generalize tv a t = v at this;cases this with
    | tup _ vs hl _ => exact congrArg Value.tuple (Array.eq_empty_of_size_eq_zero hl)
   ·exact .inr (xZ r h)

structure Agr (X : Nat -> Prop) (a g : Act) : Prop where
 d : a.defers = g.defers
 s : a.tmps.size = g.tmps.size
 t : ∀ t, ¬ X t -> a.tmps[t]? = g.tmps[t]?
theorem Agr.put {X : Nat -> Prop} {a g : Act} (h : Agr X a g) (d : Option Tmp) (v : Value) : Agr (λt => X t ∧ d ≠ some t) (a.put d v) (g.put d v) := by
 cases d with
 | none => exact ⟨h.d, h.s, λt ht => h.t t λhx => ht ⟨hx, by simp⟩⟩
 | some d =>
  refine ⟨h.d, by simp [Act.put, h.s], λt ht => ?_⟩;simp only [Act.put, Array.getElem?_setIfInBounds]
  by_cases hd : d = t
  ·subst hd; simp [h.s]
  ·rw [if_neg hd, if_neg hd];exact h.t t λhx => ht ⟨hx, by simpa using hd⟩
theorem Agr.weak {X Y : Nat -> Prop} {a g : Act} (h : Agr X a g) (hx : ∀ t, X t -> Y t) : Agr Y a g := ⟨h.d, h.s, λt ht => h.t t λh => ht (hx t h)⟩
theorem Agr.eval {X : Nat -> Prop} {a g : Act} (h : Agr X a g) {x : Operand} (hx : ∀ t, x = .tmp t -> ¬ X t) : a.eval x = g.eval x := by
 cases x with
 | tmp t =>
  have := h.t t (hx t rfl);simp only [Act.eval, Array.getD_eq_getD_getElem?, this]
 | _ => rfl
theorem Agr.eq {X : Nat -> Prop} {a g : Act} (h : Agr X a g) (hx : ∀ t, ¬ X t) : a = g := by
 obtain ⟨t, d⟩ := a;obtain ⟨t', d'⟩ := g;have h1 : d = d' := h.d;have h2 : t = t' := Array.ext_getElem? λi => h.t i (hx i);rw [h1, h2]

theorem zg7 {Z : Act -> World -> Prop} {X : Nat -> Prop} {g : Act} (hns : ∀ cs b, o.op ≠ .select cs b) (hag : Agr X a g) (hX : ∀ t ∈ vO ops.toList o, ¬ X t) {K K' : Act -> World -> Prop}
  (hK : ∀ a' g' w', Agr (λt => X t ∧ o.dst ≠ some t) a' g' -> K g' w' -> K' a' w') (h : wpO P ops (Qn λ_ _ => False) o K g w) : wpO P ops (Qn Z) o K' a w := by
 have hev : execOp a.eval o = execOp g.eval o := execOp_congr o hns λx hx => hag.eval λt ht => hX t (by
  subst ht;refine List.mem_append_right _ (List.mem_append_right _ (List.mem_filterMap.2 ⟨.tmp t, by simpa using hx, rfl⟩)))
 have hw : Region.wanted o (yielded ops a.tmps) = Region.wanted o (yielded ops g.tmps) := by
  unfold Region.wanted;cases hg : o.guard with
  | none => rfl
  | some q =>
   obtain ⟨j, want⟩ := q
   have : yielded ops a.tmps j = yielded ops g.tmps j := by
    unfold yielded;cases ht : (ops[j]?).bind (·.dst) with
    | none => rfl
    | some t =>
     rw [Option.bind_some, Option.bind_some, hag.t t (hX t ?_)];refine List.mem_append_left _ ?_;unfold gdT;rw [hg];simp only
     rw [xK, Array.getElem?_toList, ht];exact List.mem_singleton.2 rfl
   simp only [this]
 unfold wpO at *;rw [hw]
 split
 ·rename_i h1
  rw [if_pos h1] at h;unfold Oper.wp at *;rw [hev];generalize (execOp g.eval o).run P w = r at *;have pd : ∀ d, Agr X { a with defers := d :: a.defers } { g with defers := d :: g.defers } := λd => ⟨by show d :: a.defers = d :: g.defers; rw [hag.d], hag.s, hag.t⟩
  cases r with
  | ok n w' =>
   cases n <;> simp only [Oper.upon] at h ⊢
   case value u => exact hK _ _ _ (hag.put _ _) h
   case skip => exact hK _ _ _ (hag.put _ _) h
   case defer d => exact hK _ _ _ ((pd d).put _ _) h
   case enter f args =>
    refine Calls.mono h λe w'' he => ?_;cases e with
    | returned u => exact hK _ _ _ (hag.put _ _) he
    | panicked c => exact he.elim
    | outgrown => obtain ⟨_, _, he⟩ := he; exact he.elim
   case row row args => exact Rows.mono h λu w'' he => hK _ _ _ (hag.put _ _) he
  | halt x w' =>
   cases x <;> simp only [Oper.upon] at h ⊢
   case panic u => exact h.elim
 ·rename_i h1
  rw [if_neg h1] at h;exact hK _ _ _ (hag.put _ _) h

theorem wpO.wpOp {i : Nat} (hi : ops[i]? = some o) {K : Act -> World -> Prop} (h : wpO P ops Q o K a w) : wpOp P ops Q i K a w := by
 unfold Go.wpOp wpO at *;rw [hi];simp only
 split
 ·rename_i h1; rw [if_pos h1] at h; exact .inl h
 ·rename_i h1; rw [if_neg h1] at h; exact h


def zh0 (ops : List Oper) (i : Nat) : Bool :=
 match ops[i]? with
 | some o => (match o.dst with
  | some d => (List.range ops.length).all λk => (match ops[k]? with | some q => !(vO ops q).elem d || yU ops ops.length k i | none => true)
  | none => false)
 | none => false
theorem zh1 {l : List Oper} {i k : Nat} {q : Oper} {d : Nat} (h : zh0 l i = true) (hi : (l[i]?).bind (·.dst) = some d) (hk : l[k]? = some q) (hd : d ∈ vO l q) : yU l l.length k i = true := by
 unfold zh0 at h;cases ho : l[i]? with
 | none => rw [ho] at hi; cases hi
 | some o =>
  rw [ho] at h hi;simp only [Option.bind_some] at h hi
  rw [hi] at h;simp only [List.all_eq_true, List.mem_range] at h
  have := h k (List.getElem?_eq_some_iff.1 hk).1;rw [hk] at this;simp only [Bool.or_eq_true, Bool.not_eq_true'] at this
  rcases this with h | h
  ·rw [List.elem_eq_mem] at h;exact absurd hd (of_decide_eq_false h)
  ·exact h

structure GInv (ops : Array Oper) (A : Array Bool) (pd : List Nat) (L : Array Bool) (a g : Act) : Prop where
 szA : A.size = ops.size
 szL : L.size = ops.size
 clo : ∀ (i : Nat) (o : Oper), ops.toList[i]? = some o -> L[i]? = some true -> ∀ ed ∈ o.after.toList, Region.binds .any ed = true -> L[ed.on]? = some true
 sub : ∀ i : Nat, L[i]? = some true -> A[i]? = some true
 pen : ∀ i : Nat, A[i]? = some true -> L[i]? = some false -> i ∈ pd
 inA : ∀ p ∈ pd, A[p]? = some true
 fr : ∀ p ∈ pd, zh0 ops.toList p = true
 agr : Agr (λt => ∃ p : Nat, p ∈ pd ∧ L[p]? = some false ∧ (ops.toList[p]?).bind (·.dst) = some t) a g

theorem zke {L : Array Bool} {i : Nat} (hi : i < L.size) (h : L[i]? ≠ some true) : L[i]? = some false := by
 rw [Array.getElem?_eq_getElem hi] at h ⊢;cases hb : L[i] <;> simp_all

section
variable {A L : Array Bool} {pd : List Nat} {g : Act}
theorem GInv.avoid (v : GInv ops A pd L a g) {i : Nat} (hi : i ∈ Region.ready .any ops L) (ho : ops.toList[i]? = some o) :
  ∀ t ∈ vO ops.toList o, ¬ (∃ p : Nat, p ∈ pd ∧ L[p]? = some false ∧ (ops.toList[p]?).bind (·.dst) = some t) := by
 rintro t ht ⟨p, h1, h2, h3⟩;have hr := zh1 (v.fr p h1) h3 ho ht;obtain ⟨_, _, hp⟩ := (yf L i v.szL).1 hi;have := y7 (l := ops.toList) (L := λi => L[i]? = some true) v.clo _ i p hr hp;rw [h2] at this; cases this
theorem GInv.notR (v : GInv ops A pd L a g) {i p : Nat} (hi : i ∈ Region.ready .any ops L) (hp : L[p]? = some false) : yU ops.toList ops.size i p = false := by
 cases hr : yU ops.toList ops.size i p with
 | false => rfl
 | true =>
  obtain ⟨_, _, hq⟩ := (yf L i v.szL).1 hi;have := y7 (l := ops.toList) (L := λi => L[i]? = some true) v.clo _ i p hr hq;rw [hp] at this; cases this
theorem yN (L : Array Bool) (i j : Nat) : (L.setIfInBounds i true)[j]? = if i = j ∧ i < L.size then some true else L[j]? := by
 rw [Array.getElem?_setIfInBounds]
 by_cases h : i = j
 ·subst h
  by_cases h2 : i < L.size
  ·simp [h2]
  ·simp [h2]
 ·simp [h]
theorem GInv.cloS (v : GInv ops A pd L a g) {i : Nat} (hi : i ∈ Region.ready .any ops L) : ∀ (j : Nat) (o : Oper), ops.toList[j]? = some o -> (L.setIfInBounds i true)[j]? = some true -> ∀ ed ∈ o.after.toList, Region.binds .any ed = true -> (L.setIfInBounds i true)[ed.on]? = some true := by
 intro j o ho hj ed hed hb;obtain ⟨_, _, hq⟩ := (yf L i v.szL).1 hi;have up : L[ed.on]? = some true -> (L.setIfInBounds i true)[ed.on]? = some true := λh => by rw [yN]; split <;> simp_all
 rw [yN] at hj
 split at hj
 ·rename_i h; obtain ⟨rfl, _⟩ := h; exact up (hq o ho ed hed hb)
 ·exact up (v.clo j o ho hj ed hed hb)
theorem GInv.both (v : GInv ops A pd L a g) {i : Nat} {pd' : List Nat} (hi : i ∈ Region.ready .any ops L) (hA : A[i]? = some false) (hpd : pd.filter (λp => !yU ops.toList ops.size i p) = pd') {a' g' : Act}
  (hag : Agr (λt => (∃ p : Nat, p ∈ pd ∧ L[p]? = some false ∧ (ops.toList[p]?).bind (·.dst) = some t) ∧ o.dst ≠ some t) a' g') : GInv ops (A.setIfInBounds i true) pd' (L.setIfInBounds i true) a' g' := by
 have hiA : i < A.size := by
  rcases Nat.lt_or_ge i A.size with h | h
  ·exact h
  ·rw [Array.getElem?_eq_none h] at hA; cases hA
 have hiL : i < L.size := by rw [v.szL, <- v.szA]; exact hiA
 have hmem : ∀ p, p ∈ pd' ↔ p ∈ pd ∧ yU ops.toList ops.size i p = false := λp => by rw [<- hpd, List.mem_filter]; simp
 have hne : ∀ p ∈ pd, p ≠ i := λp hp h => by have := v.inA p hp; rw [h, hA] at this; cases this
 refine ⟨by simp [v.szA], by simp [v.szL], v.cloS hi, λj hj => ?_, λj hj hL => ?_, λp hp => ?_, λp hp => v.fr p ((hmem p).1 hp).1, hag.weak λt ht => ?_⟩
 ·rw [yN] at hj ⊢
  by_cases h : i = j
  ·simp [h, h ▸ hiA]
  ·simp only [h, false_and, if_false] at hj ⊢
   exact v.sub j hj
 ·rw [yN] at hj hL
  by_cases h : i = j
  ·simp [h, h ▸ hiL] at hL
  ·simp only [h, false_and, if_false] at hj hL
   exact (hmem j).2 ⟨v.pen j hj hL, v.notR hi hL⟩
 ·rw [yN];have := v.inA p ((hmem p).1 hp).1
  split <;> simp_all
 ·obtain ⟨⟨p, h1, h2, h3⟩, h4⟩ := ht;have hpi : p ≠ i := hne p h1;refine ⟨p, (hmem p).2 ⟨h1, v.notR hi h2⟩, ?_, h3⟩;rw [yN, if_neg (λh => hpi h.1.symm)];exact h2
theorem GInv.late (v : GInv ops A pd L a g) {i : Nat} (hi : i ∈ Region.ready .any ops L) (hoi : ops.toList[i]? = some o) (hA : A[i]? = some true) {a' g' : Act}
  (hag : Agr (λt => (∃ p : Nat, p ∈ pd ∧ L[p]? = some false ∧ (ops.toList[p]?).bind (·.dst) = some t) ∧ o.dst ≠ some t) a' g') : GInv ops A pd (L.setIfInBounds i true) a' g' := by
 have hiA : i < A.size := by
  rcases Nat.lt_or_ge i A.size with h | h
  ·exact h
  ·rw [Array.getElem?_eq_none h] at hA; cases hA
 have hiL : i < L.size := by rw [v.szL, <- v.szA]; exact hiA
 refine ⟨v.szA, by simp [v.szL], v.cloS hi, λj hj => ?_, λj hj hL => ?_, v.inA, v.fr, hag.weak λt ht => ?_⟩
 ·rw [yN] at hj
  split at hj
  ·rename_i h; rw [<- h.1]; exact hA
  ·exact v.sub j hj
 ·rw [yN] at hL
  split at hL
  ·cases hL
  ·exact v.pen j hj hL
 ·obtain ⟨⟨p, h1, h2, h3⟩, h4⟩ := ht
  have hpi : p ≠ i := λh => by
   subst h;rw [hoi, Option.bind_some] at h3;exact h4 h3
  refine ⟨p, h1, ?_, h3⟩;rw [yN, if_neg (λh => hpi h.1.symm)];exact h2
theorem GInv.ahead (v : GInv ops A pd L a g) {i : Nat} (hoi : ops.toList[i]? = some o) (hA : A[i]? = some false) (hf : zh0 ops.toList i = true) (x : Value) : GInv ops (A.setIfInBounds i true) (i :: pd) L a (g.put o.dst x) := by
 have hiA : i < A.size := by
  rcases Nat.lt_or_ge i A.size with h | h
  ·exact h
  ·rw [Array.getElem?_eq_none h] at hA; cases hA
 have hiL : i < L.size := by rw [v.szL, <- v.szA]; exact hiA
 have hLi : L[i]? = some false := zke hiL λh => by have := v.sub i h; rw [hA] at this; cases this
 refine ⟨by simp [v.szA], v.szL, v.clo, λj hj => ?_, λj hj hL => ?_, λp hp => ?_, λp hp => ?_, ⟨?_, ?_, λt ht => ?_⟩⟩
 ·rw [yN];have := v.sub j hj
  split <;> simp_all
 ·rw [yN] at hj
  by_cases h : i = j
  ·rw [h]; exact List.mem_cons_self ..
  ·simp only [h, false_and, if_false] at hj
   exact List.mem_cons_of_mem _ (v.pen j hj hL)
 ·rw [yN];rcases List.mem_cons.1 hp with rfl | hp
  ·simp [hiA]
  ·have := v.inA p hp
   split <;> simp_all
 ·rcases List.mem_cons.1 hp with rfl | hp
  ·exact hf
  ·exact v.fr p hp
 ·cases o.dst <;> exact v.agr.d
 ·have := v.agr.s;cases o.dst <;> simp [Act.put, this]
 ·have hX : ¬ (∃ p : Nat, p ∈ pd ∧ L[p]? = some false ∧ (ops.toList[p]?).bind (·.dst) = some t) := λ⟨p, h1, h2, h3⟩ => ht ⟨p, List.mem_cons_of_mem _ h1, h2, h3⟩;rw [v.agr.t t hX];cases hd : o.dst with
  | none => rfl
  | some d =>
   have hdt : d ≠ t := λh => ht ⟨i, List.mem_cons_self .., hLi, by rw [hoi, Option.bind_some, hd, h]⟩;simp [Act.put, Array.getElem?_setIfInBounds_ne hdt]
end

structure Wgh (P : Program) (N : Nat) (ops : Array Oper) (A : Array Bool) (pd : List Nat) (K : S -> Prop) (s : S) : Prop where
 run : ∀ (D : Nat -> Prop) (w0 : World) (g : Act) (w : World), R D w0 N (get s.env) s.hs g w -> ∀ (fuel : Nat) (L : Array Bool) (a : Act), GInv ops A pd L a g -> za3 L <= fuel ->
  wpAny P .any ops (Qn λa w => ∃ s', R D w0 N (get s'.env) s'.hs a w ∧ K s') fuel L a w

def kT (cx : Cx) (all : List Oper) (e : Env) (hs : Nat) : List Nat -> Prop
 | [] => True
 | p :: r => (match all[p]? with
  | some o => ju cx all o (λs' => match s' with | ⟨e', hs'⟩ => hs <= hs' ∧ e' = e) e hs
  | none => False) ∧ kT cx all e hs r
theorem zdr {all : List Oper} : ∀ {pd : List Nat}, kT cx all e hs pd -> ∀ p ∈ pd, ∃ o, all[p]? = some o ∧ ju cx all o (λs' => match s' with | ⟨e', hs'⟩ => hs <= hs' ∧ e' = e) e hs
 | [], _, p, hp => by cases hp
 | q :: r, h, p, hp => by
  unfold kT at h;rcases List.mem_cons.1 hp with rfl | hp
  ·have h1 := h.1;cases ho : all[p]? with
   | none => rw [ho] at h1; exact h1.elim
   | some o => rw [ho] at h1; exact ⟨o, rfl, h1⟩
  ·exact zdr h.2 p hp

theorem zaD {L : Array Bool} (hL : L.size = ops.size) (hed : xX ops.toList = true) (h : Region.ready .any ops L = []) : ∀ i, i < ops.size -> L[i]? = some true := by
 intro i
 induction i using Nat.strongRecOn with
 | ind i ih =>
  intro hi
  by_cases hb : L[i]? = some true
  ·exact hb
  ·exfalso
   have : i ∈ Region.ready .any ops L := (yf L i hL).2 ⟨hi, zke (by omega) hb, λo ho ed h1 h2 => by
    have := zgh hed i o ho ed h1 h2;exact ih ed.on this (by omega)⟩
   rw [h] at this; cases this
theorem kU {L : Array Bool} (hL : L.size = ops.size) (h : ∀ i, i < ops.size -> L[i]? = some true) : Region.ready .any ops L = [] := by
 rw [List.eq_nil_iff_forall_not_mem];intro i hi;obtain ⟨h1, h2, _⟩ := (yf L i hL).1 hi;rw [h i h1] at h2; cases h2

theorem Wgh.core {A : Array Bool} {pd : List Nat} {K : S -> Prop} (hcx : OkCx P cx) (hlt : yF N ops.toList = true) (hns : Region.noSelect ops = true) (hed : xX ops.toList = true) (hre : kT cx ops.toList e hs pd)
  (hsp : ∀ (D : Nat -> Prop) (w0 : World) (g : Act) (w : World), R D w0 N (get e) hs g w -> ∀ i ∈ Region.ready .any ops A, ∀ (fuel : Nat) (L : Array Bool) (a : Act), GInv ops A pd L a g -> i ∈ Region.ready .any ops L -> za3 L <= fuel + 1 ->
   wpOp P ops (Qn λa w => ∃ s', R D w0 N (get s'.env) s'.hs a w ∧ K s') i (wpAny P .any ops (Qn λa w => ∃ s', R D w0 N (get s'.env) s'.hs a w ∧ K s') fuel (L.setIfInBounds i true)) a w)
  (hend : Region.ready .any ops A = [] -> K ⟨e, hs⟩) : Wgh P N ops A pd K ⟨e, hs⟩ := by
 refine ⟨λD w0 g w r fuel => ?_⟩
 have fin : ∀ {L : Array Bool} {a g : Act} {w : World}, R D w0 N (get e) hs g w -> GInv ops A pd L a g -> Region.ready .any ops L = [] -> Qn (λa w => ∃ s', R D w0 N (get s'.env) s'.hs a w ∧ K s') .normal a w := by
  intro L a g w r v h;have hall := zaD v.szL hed h
  have hag := v.agr.eq (λt ⟨p, h1, h2, h3⟩ => by
   have hp : p < ops.size := by
    have := v.inA p h1;rcases Nat.lt_or_ge p A.size with h | h
    ·rw [v.szA] at h; exact h
    ·rw [Array.getElem?_eq_none h] at this; cases this
   rw [hall p hp] at h2; cases h2)
  subst hag;exact ⟨⟨e, hs⟩, r, hend (kU v.szA λi hi => v.sub i (hall i hi))⟩
 induction fuel generalizing g w with
 | zero =>
  intro L a v ho
  have hall : Region.ready .any ops L = [] := kU v.szL λi hi => by
   by_cases hb : L[i]? = some true
   ·exact hb
   ·have := jG (zke (by rw [v.szL]; exact hi) hb); omega
  exact ⟨hall, fin r v hall⟩
 | succ fuel ih =>
  intro L a v ho;refine ⟨λh => fin r v h, λi hi => ?_⟩;obtain ⟨hi1, hi2, hi3⟩ := (yf L i v.szL).1 hi;have hoi := Array.getElem?_eq_getElem hi1;have hoi' : ops.toList[i]? = some ops[i] := by rw [Array.getElem?_toList]; exact hoi
  by_cases hA : A[i]? = some true
  ·obtain ⟨o, ho', hst⟩ := zdr hre i (v.pen i hA hi2);rw [hoi'] at ho';cases ho'
   have hd := xk hlt _ (List.mem_of_getElem? hoi')
   have h1 := jH (Q := Qn λ_ _ => False) (next := λg' w' => R D w0 N (get e) hs g' w') hcx hd (λs' g' w' r' ⟨h1, h2⟩ => by
    rw [h2] at r';exact { r' with hs1 := r.hs1, hs2 := Nat.le_trans h1 r'.hs2 }) r hst
   refine wpO.wpOp hoi (zg7 (λcs b => Region.noSelect_spec hns i _ cs b hoi) v.agr (v.avoid hi hoi') (λa' g' w' hag hr => ?_) h1);exact ih g' w' hr _ a' (v.late hi hoi' hA hag) (by have := jG hi2; omega)
  ·have hA' := zke (by rw [v.szA]; exact hi1) hA;refine hsp D w0 g w r i ((yf A i v.szA).2 ⟨hi1, hA', λo ho' ed h1 h2 => v.sub _ (hi3 o ho' ed h1 h2)⟩) fuel L a v hi ho

theorem Wgh.take {A : Array Bool} {pd : List Nat} {K : S -> Prop} (hcx : OkCx P cx) (i : Nat) (hi : ops[i]? = some o) (hlt : ∀ d, o.dst = some d -> d < N) (hA : A[i]? = some false) (hf : zh0 ops.toList i = true)
  (hro : roG ops.toList e o = true) (h : ju cx ops.toList o (λs' => match s' with | ⟨e, hs⟩ => Wgh P N ops (A.setIfInBounds i true) (i :: pd) K ⟨e, hs⟩) e hs) : Wgh P N ops A pd K ⟨e, hs⟩ := by
 refine ⟨λD w0 g w r fuel L a v ho => ?_⟩;have hoi : ops.toList[i]? = some o := by rw [Array.getElem?_toList]; exact hi
 have h1 := jH (Q := Qn λ_ _ => False) (next := λg' w' => ∀ x, g' = g.put o.dst x -> w' = w -> wpAny P .any ops (Qn λa w => ∃ s', R D w0 N (get s'.env) s'.hs a w ∧ K s') fuel L a w) hcx hlt (λs' g' w' r' h' x hx hw => by
  subst hx hw;exact h'.run D w0 _ _ r' fuel L a (v.ahead hoi hA hf x) ho) r h
 unfold wpO at h1;rcases zhZ r hro with hr | hr
 ·rw [if_neg (by rw [hr]; simp)] at h1;exact h1 _ rfl rfl
 ·split at h1
  ·unfold Oper.wp at h1;cases hx : (execOp g.eval o).run P w with
   | ok y w1 =>
    obtain ⟨rfl, x, rfl⟩ := hr P w y w1 hx;rw [hx] at h1;exact h1 x rfl rfl
   | halt y w1 =>
    rw [hx] at h1;cases y <;> exact h1.elim
  ·exact h1 _ rfl rfl

theorem Wgh.tk {A : Array Bool} {pd : List Nat} {K : S -> Prop} (hcx : OkCx P cx) (i : Nat) (h : ju cx ops.toList o (λs' => match s' with | ⟨e, hs⟩ => Wgh P N ops (A.setIfInBounds i true) (i :: pd) K ⟨e, hs⟩) e hs)
  (hi : ops[i]? = some o := by rfl) (hlt : ∀ d, o.dst = some d -> d < N := by (intro d hd; injection hd with hd; subst hd; decide)) (hA : A[i]? = some false := by kernel_rfl) (hf : zh0 ops.toList i = true := by kernel_rfl) (hro : roG ops.toList e o = true := by rfl) : Wgh P N ops A pd K ⟨e, hs⟩ :=
 Wgh.take hcx i hi hlt hA hf hro h
theorem Wgh.all {A : Array Bool} {pd : List Nat} {K : S -> Prop} {rs : List Nat} (hcx : OkCx P cx) (hlt : yF N ops.toList = true) (hns : Region.noSelect ops = true) (hed : xX ops.toList = true) (hr : Region.ready .any ops A = rs) (hne : rs ≠ [])
  (hre : kT cx ops.toList e hs pd)
  (h : ∀ i ∈ rs, ∃ o pd', ops[i]? = some o ∧ pd.filter (λp => !yU ops.toList ops.size i p) = pd' ∧ ju cx ops.toList o (λs' => match s' with | ⟨e, hs⟩ => Wgh P N ops (A.setIfInBounds i true) pd' K ⟨e, hs⟩) e hs) : Wgh P N ops A pd K ⟨e, hs⟩ := by
 refine Wgh.core hcx hlt hns hed hre (λD w0 g w r i hi fuel L a v hiL ho => ?_) (λh0 => absurd (hr ▸ h0) hne);obtain ⟨o, pd', hio, hpd, hst⟩ := h i (hr ▸ hi);have hoi : ops.toList[i]? = some o := by rw [Array.getElem?_toList]; exact hio
 have hd := xk hlt _ (List.mem_of_getElem? hoi);have h1 := jH (Q := Qn λ_ _ => False) (next := λg' w' => ∃ s' : S, R D w0 N (get s'.env) s'.hs g' w' ∧ Wgh P N ops (A.setIfInBounds i true) pd' K s') hcx hd (λs' g' w' r' h' => ⟨s', r', h'⟩) r hst;refine wpO.wpOp hio (zg7 (λcs b => Region.noSelect_spec hns i _ cs b hio) v.agr (v.avoid hiL hoi) (λa' g' w' hag ⟨s', hr', hw⟩ => ?_) h1);have hA : A[i]? = some false := ((yf A i v.szA).1 hi).2.1;have hL : L[i]? = some false := ((yf L i v.szL).1 hiL).2.1;exact hw.run D w0 g' w' hr' fuel _ a' (v.both hiL hA hpd hag) (by have := jG hL; omega)

theorem Wgh.one {A : Array Bool} {pd : List Nat} {K : S -> Prop} (hcx : OkCx P cx) (i : Nat) (pd' : List Nat) (hlt : yF N ops.toList = true) (hns : Region.noSelect ops = true) (hed : xX ops.toList = true) (hr : Region.ready .any ops A = [i]) (hi : ops[i]? = some o)
  (hpd : pd.filter (λp => !yU ops.toList ops.size i p) = pd') (hre : kT cx ops.toList e hs pd)
  (h : ju cx ops.toList o (λs' => match s' with | ⟨e, hs⟩ => Wgh P N ops (A.setIfInBounds i true) pd' K ⟨e, hs⟩) e hs) : Wgh P N ops A pd K ⟨e, hs⟩ :=
 Wgh.all hcx hlt hns hed hr (by simp) hre λj hj => by
  obtain rfl := List.mem_singleton.1 hj;exact ⟨o, pd', hi, hpd, h⟩

theorem Wgh.on {A : Array Bool} {pd : List Nat} {K : S -> Prop} (hcx : OkCx P cx) (i : Nat) (pd' : List Nat) (hre : kT cx ops.toList e hs pd)
  (h : ju cx ops.toList o (λs' => match s' with | ⟨e, hs⟩ => Wgh P N ops (A.setIfInBounds i true) pd' K ⟨e, hs⟩) e hs)
  (hi : ops[i]? = some o := by rfl) (hlt : yF N ops.toList = true := by rfl) (hns : Region.noSelect ops = true := by kernel_rfl) (hed : xX ops.toList = true := by kernel_rfl) (hr : Region.ready .any ops A = [i] := by kernel_rfl)
  (hpd : pd.filter (λp => !yU ops.toList ops.size i p) = pd' := by kernel_rfl) : Wgh P N ops A pd K ⟨e, hs⟩ :=
 Wgh.one hcx i pd' hlt hns hed hr hi hpd hre h
theorem Wgh.done {A : Array Bool} {pd : List Nat} {K : S -> Prop} (hcx : OkCx P cx) (hlt : yF N ops.toList = true) (hns : Region.noSelect ops = true) (hed : xX ops.toList = true) (hr : Region.ready .any ops A = [])
  (hre : kT cx ops.toList e hs pd) (h : K ⟨e, hs⟩) : Wgh P N ops A pd K ⟨e, hs⟩ :=
 Wgh.core hcx hlt hns hed hre (λ_ _ _ _ _ i hi => by rw [hr] at hi; cases hi) λ_ => h

theorem Wgh.dn {A : Array Bool} {pd : List Nat} {K : S -> Prop} (hcx : OkCx P cx) (hre : kT cx ops.toList e hs pd) (h : K ⟨e, hs⟩)
  (hlt : yF N ops.toList = true := by rfl) (hns : Region.noSelect ops = true := by kernel_rfl) (hed : xX ops.toList = true := by kernel_rfl) (hr : Region.ready .any ops A = [] := by kernel_rfl) : Wgh P N ops A pd K ⟨e, hs⟩ :=
 Wgh.done hcx hlt hns hed hr hre h
theorem W.gh {base : Nat} {QQ : Exit -> S -> Prop} {s : S} (hm : P.follows .mixedOrders = true) {id : Nat} (h : Wgh P N ops (Array.replicate ops.size false) [] (λs => j5 s.env cx.ks λe => QQ .normal ⟨e, s.hs⟩) s) : W P cx N base (.region id ops true) QQ s :=
 W.sch hm ⟨λD w0 a w r => by
  have hn : ∀ i : Nat, (Array.replicate ops.size false)[i]? ≠ some true := λi hL => by
   rw [Array.getElem?_replicate] at hL
   split at hL <;> simp at hL
  refine h.run D w0 a w r _ _ a ⟨by simp, by simp, λi o _ hL => absurd hL (hn i), λi hL => hL, λi h1 _ => absurd h1 (hn i), λp hp => (by cases hp), λp hp => (by cases hp), ⟨rfl, rfl, λ_ _ => rfl⟩⟩ ?_;unfold za3; simp⟩
theorem W.rgh {base : Nat} {QQ : Exit -> S -> Prop} {s : S} (hm : P.follows .mixedOrders = true) {id : Nat} {y : Code}
  (h : ∀ K : S -> Prop, (∀ s, W P cx N base y QQ s -> K s) -> Wgh P N ops (Array.replicate ops.size false) [] (λs => j5 s.env cx.ks λe => K ⟨e, s.hs⟩) s) : W P cx N base (.seq (.region id ops true) y) QQ s :=
 W.seq (W.gh hm (h _ λ_ h => h))
end
open Go Go.RowKit

def ze6 (k : Nat) (x : AV) : Nat -> List V -> Env
 | _, [] => []
 | j, y :: r => (j, bif Nat.beq j k then x else .v y) :: ze6 k x (j + 1) r
def ze7 (xs : List V) (k : Nat) (x t kp : AV) : Env := (vk, kp) :: (vt, t) :: ze6 k x 0 xs

def zh2 (s : S) (k : Nat) (x kp : AV) (C : AV -> AV -> Prop) : Prop :=
 zM s.env k λa => ∃ x', leK a x' ∧ v2 x x' ∧ zM s.env vt λb => ∃ t', leK b t' ∧ t'.tabOk = true ∧ zM s.env vk λq => q = kp ∧ C x' t'
def zi2 (rs : List ResultVar) (hs0 k : Nat) (x kp : AV) (post : Nat -> AV -> AV -> AV -> Prop) (s : S) : Prop :=
 hs0 <= s.hs ∧ match rs with
  | [] => zh2 s k x kp λx' t' => post s.hs (.v (.tup [])) x' t'
  | [.tmp r] => (Nat.blt r vt && !Nat.beq r k) = true ∧ zM s.env r λa => ∃ av, leK a av ∧ av.isRes = true ∧ av.fresh hs0 s.hs ∧ zh2 s k x kp λx' t' => post s.hs av x' t'
  | _ => False
def retM (rs : List ResultVar) (hs0 k : Nat) (x kp : AV) (post : Nat -> AV -> AV -> AV -> Prop) : Exit -> S -> Prop
 | .normal, s => zi2 rs hs0 k x kp post s
 | .ret, s => zi2 rs hs0 k x kp post s
 | _, _ => False

def zds : AV -> AV
 | .v (.tup []) => .dead
 | x => x
theorem ze8 {x : AV} (h : x ≠ .v (.tup [])) : zds x = x := by
 unfold zds
 split
 ·exact absurd rfl h
 ·rfl
theorem zi3 {x y : AV} (h : leK x y) : leK x (zds y) := by
 unfold zds
 split
 ·simp [leK]
 ·exact h
section
variable {P : Program} {cx : Cx} {D : Nat -> Prop} {w0 : World} {N : Nat} {hs : Nat} {a : Act} {w w' : World}

theorem zdt (k : Nat) (x : AV) : ∀ (xs : List V) (j0 j : Nat), get (ze6 k x j0 xs) j = if j0 <= j ∧ j < j0 + xs.length then (bif Nat.beq j k then x else .v (xs.getD (j - j0) .nil)) else .dead
 | [], j0, j => by simp only [ze6, get, List.length_nil]; rw [if_neg (by omega)]
 | y :: xs, j0, j => by
  simp only [ze6, z4, zdt k x xs (j0 + 1) j, List.length_cons]
  by_cases h : j0 = j
  ·subst h;rw [if_pos rfl, if_pos (by omega), Nat.sub_self, List.getD_cons_zero]
  ·rw [if_neg h]
   by_cases h2 : j0 + 1 <= j ∧ j < j0 + 1 + xs.length
   ·rw [if_pos h2, if_pos (by omega)];obtain ⟨m, rfl⟩ : ∃ m, j = j0 + 1 + m := ⟨j - (j0 + 1), by omega⟩
    rw [show j0 + 1 + m - (j0 + 1) = m by omega, show j0 + 1 + m - j0 = m + 1 by omega];simp
   ·rw [if_neg h2, if_neg (by omega)]

theorem ze9 {xs : List V} {k : Nat} {x t : AV} {O U : Nat -> Prop} {hw : Array Obj} {v : Value} (_hn : xs.length <= vt) (hk : k < xs.length) (j : Nat) :
  get (ze7 xs k x t (.keep O U hw k v)) j = vd xs k x t O U hw v j := by
 have hvt0 : vt = 1000000 := rfl;have hvk0 : vk = 1000001 := rfl;unfold ze7 vd;rw [z4, z4, zdt]
 by_cases h1 : j = vk
 ·rw [if_pos h1.symm, if_pos h1]
 ·rw [if_neg (Ne.symm h1), if_neg h1]
  by_cases h2 : j = vt
  ·rw [if_pos h2.symm, if_pos h2]
  ·rw [if_neg (Ne.symm h2), if_neg h2]
   by_cases h3 : j < xs.length
   ·rw [if_pos (by omega), Nat.sub_zero]
    by_cases h4 : j = k
    ·subst h4; rw [zQ, if_pos rfl]; rfl
    ·rw [yk h4, if_neg h4, if_pos h3]; rfl
   ·rw [if_neg (by omega), if_neg (by omega), if_neg h3]

theorem zfa {fn : Func} {tmps : Array Value} (h : fn.results.toList = []) : (results fn tmps).run P w = .ok (.tuple #[]) w := by
 have := xr (P := P) (w := w) (fn := fn) (tmps := tmps) (vs := []) (by rw [h]; simp);exact this

theorem kv {f : Nat} {fn : Func} {c : Code} {xs : List V} {k : Nat} {x t : AV} {post : Nat -> AV -> AV -> AV -> Prop} (hf : P.funcs[f]? = some fn) (hb : fn.body = some c) (hname : (fn.name == "runtime.NumGoroutine") = false)
  (hN : fn.ntmps = N) (hxs : xs.length <= N) (hNv : N <= vt) (_hxo : x.own = true) (_hto : t.tabOk = true)
  (h : ∀ base hs O U hw v, base <= hs -> W P cx N base c (retM fn.results.toList hs k x (.keep O U hw k v) post) ⟨ze7 xs k x t (.keep O U hw k v), hs⟩) : MFn P f xs k x t post := by
 have hvt0 : vt = 1000000 := rfl;have hvk0 : vk = 1000001 := rfl;refine ⟨⟨fn, hf, by rw [hb]; rfl, hname⟩, λD w0 hs w vs O U hl hk r => calls_of_wp hf hb ?_⟩
 have hT : ∀ j, tv { tmps := vs ++ Array.replicate (fn.ntmps - vs.size) undef, defers := [] } j = vs.getD j undef := by
  intro k;simp only [tv, Array.getD_eq_getD_getElem?, Array.getElem?_append, Array.getElem?_replicate]
  by_cases hk : k < vs.size
  ·simp [hk]
  ·simp only [hk, if_false]
   rw [Array.getElem?_eq_none (by omega)]
   split <;> rfl
 have hTf : tv { tmps := vs ++ Array.replicate (fn.ntmps - vs.size) undef, defers := [] } = λj => vs.getD j undef := funext hT;generalize hv : vs.getD k undef = v at r;have hen : get (ze7 xs k x t (.keep O U w.heap k v)) = vd xs k x t O U w.heap v := funext (ze9 (by omega) hk)
 have R1 : R D w0 N (get (ze7 xs k x t (.keep O U w.heap k v))) hs { tmps := vs ++ Array.replicate (fn.ntmps - vs.size) undef, defers := [] } w := by
  rw [hen];refine ⟨rfl, by simp [hl, hN]; omega, r.hs1, r.hs2, r.below, λj hj => ?_, λj => ?_, λj b hb => ?_, λj j' b hb hb' => ?_, r.old⟩
  ·have := r.dom j hj; omega
  ·show AVR (okF D (zj _ (tv _)) _) _ _ (tv _) _ (tv _ j)
   rw [hTf]; exact r.slots j
  ·have hb' : rb _ (tv _ j) b := hb;rw [hTf] at hb'; exact r.real j b hb'
  ·have h1 : rb _ (tv _ j) b := hb;have h2 : rb _ (tv _ j') b := hb';rw [hTf] at h1 h2; exact r.dist j j' b h1 h2
 refine wp_mono (h w0.heap.size hs O U w.heap v r.hs1 D w0 _ w rfl R1) ?_
 -- the end
 have fin : ∀ (s' : S) (a' : Act) (w' : World) (rr : Nat) (z : Value) (av : AV) (Ps : AV -> AV -> Prop), R D w0 N (get s'.env) s'.hs a' w' ->
   ((∃ q, av = .v q ∧ q = .tup [] ∧ z = .tuple #[]) ∨ (z = tv a' rr ∧ rr < vt ∧ rr ≠ k ∧ leK (get s'.env rr) av ∧ av.isRes = true)) -> zh2 s' k x (.keep O U w.heap k v) Ps ->
   ∃ x' t', Ps x' t' ∧ v2 x x' ∧ t'.tabOk = true ∧ R D w0 (vs.size + 1) (yQ vs.size k av x' t' O U w.heap v) s'.hs { tmps := vs.push z, defers := [] } w' := by
  intro s' a' w' rr z av Ps r' hav hfin;simp only [zh2, zb] at hfin
  obtain ⟨x', hx', haf, t', ht', hto', hkp, hPs⟩ := hfin;refine ⟨x', t', hPs, haf, hto', ?_⟩
  -- what is looked at
  let σ2 : Nat -> AV := λj => if j = vk then .keep O U w.heap k v else if j = vt then t' else if j = k then x' else if j = rr then zds av else .dead
  have r2 : R D w0 N σ2 s'.hs a' w' := by
   by_cases hdead : ∃ q, av = .v q ∧ q = .tup [] ∧ z = .tuple #[]
   ·obtain ⟨q, rfl, rfl, rfl⟩ := hdead;refine r'.leAll λj => ?_;show leK _ (σ2 j)
    simp only [σ2]
    by_cases h1 : j = vk
    ·subst h1; rw [if_pos rfl, hkp]; simp [leK]
    rw [if_neg h1]
    by_cases h2 : j = vt
    ·subst h2; rw [if_pos rfl]; exact ht'
    rw [if_neg h2]
    by_cases h3 : j = k
    ·subst h3; rw [if_pos rfl]; exact hx'
    rw [if_neg h3]
    split
    ·exact (trivial : leK _ .dead)
    ·exact (trivial : leK _ .dead)
   ·obtain ⟨_, h5, h6, h7, _⟩ := hav.resolve_left hdead;refine r'.leAll λj => ?_;show leK _ (σ2 j)
    simp only [σ2]
    by_cases h1 : j = vk
    ·subst h1; rw [if_pos rfl, hkp]; simp [leK]
    rw [if_neg h1]
    by_cases h2 : j = vt
    ·subst h2; rw [if_pos rfl]; exact ht'
    rw [if_neg h2]
    by_cases h3 : j = k
    ·subst h3; rw [if_pos rfl]; exact hx'
    rw [if_neg h3]
    by_cases h4 : j = rr
    ·subst h4; rw [if_pos rfl]; exact zi3 h7
    ·rw [if_neg h4]; simp [leK]
  have skv : σ2 vk = .keep O U w.heap k v := by simp only [σ2, if_true]
  have stv : σ2 vt = t' := by simp only [σ2, if_true]; rw [if_neg (by omega)]
  have skk : σ2 k = x' := by simp only [σ2, if_true]; rw [if_neg (by omega), if_neg (by omega)]
  have kp := r2.slots vk;rw [skv] at kp;have hvk' : tv a' k = v := kp.2.2;have tk : (vs.push z).getD k undef = v := by rw [xJ, if_neg (by omega), hv]
  have tn : (vs.push z).getD vs.size undef = z := by rw [xJ, if_pos rfl]
  -- owned now, owned before
  have ho : ∀ j b, rb (yQ vs.size k av x' t' O U w.heap v j) ((vs.push z).getD j undef) b -> ∃ i, rb (σ2 i) (tv a' i) b ∧ ((j = vk ∧ i = vk) ∨ (j = vt ∧ i = vt) ∨ (j = k ∧ i = k) ∨ (j = vs.size ∧ i = rr ∧ rr < vt ∧ rr ≠ k)) := by
   intro j b hb;unfold yQ at hb
   split at hb
   ·rename_i hj; exact ⟨vk, by rw [skv]; exact hb, .inl ⟨hj, rfl⟩⟩
   split at hb
   ·rename_i hj; exact ⟨vt, by rw [stv]; exact zdQ hto' _ _ _ hb, .inr (.inl ⟨hj, rfl⟩)⟩
   split at hb
   ·rename_i hj; subst hj; exact ⟨j, by rw [skk, hvk', <- tk]; exact hb, .inr (.inr (.inl ⟨rfl, rfl⟩))⟩
   split at hb
   ·rename_i hj; subst hj
    rw [tn] at hb;rcases hav with ⟨q, rfl, rfl, rfl⟩ | ⟨rfl, h5, h6, h7, h8⟩
    ·exact hb.elim
    ·refine ⟨rr, ?_, .inr (.inr (.inr ⟨rfl, rfl, h5, h6⟩))⟩
     have : σ2 rr = zds av := by
      simp only [σ2, if_true]; rw [if_neg (by omega), if_neg (by omega), if_neg h6]
     rw [this]
     by_cases htup : av = .v (.tup [])
     ·subst htup; exact hb.elim
     ·rw [ze8 htup]; exact hb
   ·exact hb.elim
  have hown : ∀ b, zj (yQ vs.size k av x' t' O U w.heap v) (λj => (vs.push z).getD j undef) b -> zj σ2 (tv a') b := λb ⟨j, hj⟩ => by
   obtain ⟨i, hi, _⟩ := ho j b hj;exact ⟨i, hi⟩
  have hm : ∀ g b, okF D (zj σ2 (tv a')) w'.heap.size g b -> okF D (zj (yQ vs.size k av x' t' O U w.heap v) (λj => (vs.push z).getD j undef)) w'.heap.size g b ∧ w'.heap[b]? = w'.heap[b]? :=
   λg b hb => ⟨yo hown hb, rfl⟩
  refine ⟨rfl, by simp, r2.hs1, r2.hs2, r2.below, λj hj => ?_, λj => ?_, λj b hb => ?_, λj j' b hb hb' => ?_, r.old⟩
  ·unfold yQ at hj
   split at hj
   ·omega
   split at hj
   ·omega
   split at hj
   ·omega
   split at hj
   ·omega
   ·exact absurd rfl hj
  ·show AVR _ _ _ (λj => (vs.push z).getD j undef) _ ((vs.push z).getD j undef)
   generalize hy : yQ vs.size k av x' t' O U w.heap v j = y;unfold yQ at hy
   split at hy
   ·subst hy;exact ⟨kp.1, λb hu => by obtain ⟨⟨g, hg⟩, h2⟩ := kp.2.1 b hu; exact ⟨⟨g, (hm g b hg).1⟩, h2⟩, tk⟩
   split at hy
   ·subst hy;have h4 := r2.slots vt;rw [stv] at h4;cases t' <;> simp [AV.tabOk] at hto'
    ·trivial
    ·exact h4
   split at hy
   ·rename_i hj; subst hy; subst hj
    have h4 := r2.slots j;rw [skk] at h4;have e5 : a'.tmps.getD j undef = v := hvk';rw [e5, <- tk] at h4;exact AVR.keep h4 hm (λ_ _ => rfl) (λu hu => by rw [yi haf] at hu; cases hu)
   split at hy
   ·rename_i hj; subst hy; subst hj
    rw [tn];rcases hav with ⟨q, rfl, rfl, rfl⟩ | ⟨rfl, h5, h6, h7, h8⟩
    ·exact Rep.tup [] #[] rfl (λj hj => by simp at hj)
    ·have h4 := r'.leAll (σ' := λj => if j = rr then av else .dead) (λj => by
      by_cases hjr : j = rr
      ·subst hjr; simp only [if_true]; exact h7
      ·simp only [hjr, if_false]; simp [leK])
     by_cases htup : av = .v (.tup [])
     ·subst htup;have h9 := h4.slots rr;simp only [if_true] at h9
      have h10 : Rep _ _ (.tup []) (tv a' rr) := h9;generalize tv a' rr = zz at h10;cases h10 with
      | tup cs vs' hl' hr' => exact Rep.tup [] vs' hl' (λj hj => by simp at hj)
     ·have h9 := r2.slots rr
      have : σ2 rr = av := by
       simp only [σ2, if_true]; rw [if_neg (by omega), if_neg (by omega), if_neg h6, ze8 htup]
      rw [this] at h9;exact AVR.keep h9 hm (λ_ _ => rfl) (λu hu => by rw [zaY h8] at hu; cases hu)
   ·subst hy; trivial
  ·obtain ⟨i, hi, _⟩ := ho j b hb;exact r2.real i b hi
  ·obtain ⟨i, hi, hc⟩ := ho j b hb;obtain ⟨i', hi', hc'⟩ := ho j' b hb';have hii := r2.dist i i' b hi hi';omega
 have all : ∀ (s' : S) (a' : Act) (w' : World), R D w0 N (get s'.env) s'.hs a' w' -> zi2 fn.results.toList hs k x (.keep O U w.heap k v) post s' ->
   a'.defers = [] ∧ ∃ z, (results fn a'.tmps).run P w' = .ok z w' ∧ ∃ v' av x' t' hs', (Ending.returned z : Ending) = .returned v' ∧ hs <= hs' ∧ post hs' av x' t' ∧ v2 x x' ∧ t'.tabOk = true ∧ av.isRes = true ∧ (x' ≠ .dead -> av.fresh hs hs') ∧
    R D w0 (vs.size + 1) (yQ vs.size k av x' t' O U w.heap v) hs' { tmps := vs.push v', defers := [] } w' := by
  intro s' a' w' r' hq;refine ⟨r'.defers, ?_⟩;obtain ⟨hhs, hq⟩ := hq;cases hrs : fn.results.toList with
  | nil =>
   rw [hrs] at hq;obtain ⟨x', t', h1, h2, h3, h4⟩ := fin s' a' w' 0 (.tuple #[]) (.v (.tup [])) _ r' (.inl ⟨_, rfl, rfl, rfl⟩) hq;exact ⟨_, zfa hrs, _, _, x', t', s'.hs, rfl, hhs, h1, h2, h3, rfl, λ_ => trivial, h4⟩
  | cons rv l =>
   rw [hrs] at hq;cases l with
   | cons _ _ => cases rv <;> exact hq.elim
   | nil =>
    cases rv with
    | cell _ _ => exact hq.elim
    | tmp rr =>
     simp only [zb, Bool.and_eq_true, Bool.not_eq_true'] at hq
     obtain ⟨⟨h1, h2⟩, av, h3, h4, h5, h6⟩ := hq;have h1' : rr + 1 <= vt := Nat.le_of_ble_eq_true h1;have h2' : rr ≠ k := λe => by rw [e, zQ] at h2; cases h2
     obtain ⟨x', t', h7, h8, h9, h10⟩ := fin s' a' w' rr (tv a' rr) av _ r' (.inr ⟨rfl, h1', h2', h3, h4⟩) h6
     have hm : (fn.results.toList.mapM (xU P a'.tmps)).run P w' = .ok [tv a' rr] w' := by
      rw [hrs]; simp [List.mapM_cons, xU]
     exact ⟨_, xr hm, _, av, x', t', s'.hs, rfl, hhs, h7, h8, h9, h4, λ_ => h5, h10⟩
 rintro ex a' w' ⟨s', r', hq⟩;subst hv;cases ex with
 | normal => exact all s' a' w' r' hq
 | ret => exact all s' a' w' r' hq
 | _ => exact hq.elim

variable {base : Nat} {QQ : Exit -> S -> Prop} {s : S} {x y : Code}

theorem R.tab0 {e : Env} (r : R D w0 N (get e) hs a w) (_h : get e vt = .dead) : R D w0 N (get (put e vt (.tab λ_ => none))) hs a w := by
 rw [zd]
 have hrb : ∀ k b, rb (upd (get e) vt (.tab λ_ => none) k) (tv a k) b -> rb (get e k) (tv a k) b := by
  intro k b hb
  by_cases hk : k = vt
  ·subst hk; simp [upd, rb] at hb
  ·simpa [upd, hk] using hb
 refine r.next none (World.grownBy_refl w none) (by simp) r.defers r.size r.hs2 r.hs1 (λk b hb => .inl (hrb k b hb)) (λk k' b hb hb' => r.dist k k' b (hrb k b hb) (hrb k' b hb')) λk => ?_
 by_cases hk : k = vt
 ·subst hk;refine .inr (.inr ⟨.inr (Nat.le_refl _), ?_⟩);have e1 : upd (get e) vt (.tab λ_ => none) vt = .tab λ_ => none := by simp [upd]
  rw [e1];intro b xs hx; cases hx
 ·refine .inr (.inl ⟨by simp [upd, hk], rfl, by simp, λu _ => ⟨rfl, ?_⟩⟩)
  by_cases hu : u = vt
  ·subst hu; exact .inl (by simp [upd, AV.shape])
  ·exact .inr (by simp [upd, hu])

theorem W.tab0 (hd : get s.env vt = .dead) (h : W P cx N base x QQ ⟨put s.env vt (.tab λ_ => none), s.hs⟩) : W P cx N base x QQ s :=
 λD w0 a w hw r => h D w0 a w hw (r.tab0 hd)

theorem R.thaw {e : Env} {i el b n : Nat} {f : Nat -> V} {bl : Nat -> Nat} {rows : Nat -> List Int} {tb : Nat -> Option (List Int)} (r : R D w0 N (get e) hs a w) (hi : get e i = .ownV el 1 b n f) (ht : get e vt = .tab tb)
  (hf : ∀ j, j < n -> f j = .rf (bl j) (rows j).length ∧ tb (bl j) = some (rows j)) : R D w0 N (get (put (put e i (.ownV el 1 b n λj => .ints none (rows j))) vt (.tab λ_ => none))) hs a w := by
 rw [zd, zd];have hiv : i ≠ vt := λe' => by rw [e', ht] at hi; cases hi
 generalize hσ : upd (upd (get e) i (.ownV el 1 b n λj => .ints none (rows j))) vt (.tab λ_ => none) = σ';have svt : σ' vt = .tab λ_ => none := by subst hσ; simp [upd]
 have si : σ' i = .ownV el 1 b n λj => .ints none (rows j) := by subst hσ; simp [upd, hiv]
 have so : ∀ k, k ≠ i -> k ≠ vt -> σ' k = get e k := λk h1 h2 => by subst hσ; simp [upd, h1, h2]
 have hrb : ∀ k c, rb (σ' k) (tv a k) c -> k ≠ vt ∧ rb (get e k) (tv a k) c := by
  intro k c hc
  by_cases hk : k = vt
  ·subst hk; rw [svt] at hc; exact absurd rfl hc
  ·refine ⟨hk, ?_⟩
   by_cases hki : k = i
   ·subst hki; rw [si] at hc; rw [hi];exact (congrFun (jv (x := .ownV el 1 b n f) (y := .ownV el 1 b n λj => .ints none (rows j)) rfl rfl _) c).mpr hc
   ·rw [so k hki hk] at hc; exact hc
 have hown : ∀ c, zj σ' (tv a) c -> zj (get e) (tv a) c := λc ⟨k, hk⟩ => ⟨k, (hrb k c hk).2⟩
 have hnot : ∀ c, tb c ≠ none -> ¬ zj σ' (tv a) c := by
  rintro c hc ⟨k, hk⟩;obtain ⟨h1, h2⟩ := hrb k c hk;exact h1 (r.dist k vt c h2 (by rw [ht]; exact hc))
 refine r.next none (World.grownBy_refl w none) (by simp) r.defers r.size r.hs2 r.hs1 (λk c hc => .inl (hrb k c hc).2) (λk k' c hc hc' => r.dist k k' c (hrb k c hc).2 (hrb k' c hc').2) λk => ?_
 by_cases hk : k = vt
 ·subst hk;refine .inr (.inr ⟨.inr (Nat.le_refl _), ?_⟩);rw [svt];intro c xs hx; cases hx
 ·by_cases hki : k = i
  ·subst hki;refine .inr (.inr ⟨r.dom k (by rw [hi]; simp), ?_⟩);rw [si];have h1 := r.slots k;rw [hi] at h1;obtain ⟨h0, cells, hO, hE⟩ := h1;refine ⟨h0, cells, hO, λj _ => ⟨rfl, rfl⟩, λj jj hj hjj => ?_⟩;obtain ⟨c, hc1, hc2⟩ := hE.2 j jj hj hjj;obtain ⟨hfj, htj⟩ := hf j hj;obtain rfl : jj = 0 := by omega
   refine ⟨c, hc1, ?_⟩;rw [hfj] at hc2;have hc3 : Rep (okF D (zj (get e) (tv a)) w.heap.size) w.heap (.rf (bl j) (rows j).length) c := hc2;show Rep _ _ (.ints none (rows j)) c
   have htab := r.slots vt;rw [ht] at htab;obtain ⟨cur, el', h5, h6⟩ := htab _ _ htj;have hrv : rb (get e vt) (tv a vt) (bl j) := by rw [ht]; simp [rb, htj]
   generalize hn0 : (rows j).length = n0 at hc3;cases hc3 with
   | rf0 _ ad cap hm =>
    have he : rows j = [] := List.eq_nil_of_length_eq_zero hn0;rw [he];exact .ints none [] ad cap (Nat.zero_le _) hm (λq hq => by simp at hq)
   | rf _ _ cc hn hcc =>
    subst hn0;refine .ints none (rows j) _ (cc + 1) hn hcc λq hq => ⟨bl j, 0, cur, el', (0, 0), rfl, ⟨(r.real vt _ hrv).2, hnot _ (by rw [htj]; simp), r.notD hrv⟩, h5, ?_⟩
    rw [Nat.zero_add]; exact h6 q hq
  ·refine .inr (.inl ⟨so k hki hk, rfl, by simp, λu _ => ⟨rfl, ?_⟩⟩)
   by_cases hu : u = vt
   ·subst hu; rw [svt]; exact .inl rfl
   ·by_cases hui : u = i
    ·subst hui; rw [si, hi]; exact .inr rfl
    ·rw [so u hui hu]; exact .inr rfl

theorem W.thaw {i el b n : Nat} {f : Nat -> V} (bl : Nat -> Nat) (rows : Nat -> List Int) {tb : Nat -> Option (List Int)} (hi : get s.env i = .ownV el 1 b n f) (ht : get s.env vt = .tab tb)
  (hf : ∀ j, j < n -> f j = .rf (bl j) (rows j).length ∧ tb (bl j) = some (rows j))
  (h : W P cx N base x QQ ⟨put (put s.env i (.ownV el 1 b n λj => .ints none (rows j))) vt (.tab λ_ => none), s.hs⟩) : W P cx N base x QQ s :=
 λD w0 a w hw r => h D w0 a w hw (r.thaw hi ht hf)

end
open Go Go.RowKit

section
variable {P : Program} {cx : Cx} {D : Nat -> Prop} {w0 : World} {N : Nat} {hs : Nat} {a : Act} {w w' : World} {e : Env}

theorem zcZ {x : AV} : leK x .dead := by cases x <;> trivial

end
open Go Go.RowKit

def zfb (i : Nat) (y : V) : List V := match i with | 0 => [.nil, y] | _ => [y, .nil]
def rs2 (i ro rv : Nat) : List ResultVar := match i with | 0 => [.tmp ro, .tmp rv] | _ => [.tmp rv, .tmp ro]
def zi4 (i ro rv hs0 k : Nat) (x kp : AV) (post : Nat -> AV -> AV -> AV -> Prop) (s : S) : Prop :=
 hs0 <= s.hs ∧ zM s.env ro λa => ∃ o, leK a o ∧ o.isLst = true ∧ o.fresh hs0 s.hs ∧ zM s.env rv λb => ∃ y, leK b (.v y) ∧ zh2 s k x kp λx' t' => post s.hs (.tupO i o (zfb i y)) x' t'
def retP (i ro rv hs0 k : Nat) (x kp : AV) (post : Nat -> AV -> AV -> AV -> Prop) : Exit -> S -> Prop
 | .normal, s => zi4 i ro rv hs0 k x kp post s
 | .ret, s => zi4 i ro rv hs0 k x kp post s
 | _, _ => False

section
variable {P : Program} {cx : Cx} {D : Nat -> Prop} {w0 : World} {N : Nat} {hs : Nat} {a : Act} {w w' : World}

theorem zh3 {i : Nat} {o : AV} {vs : List V} {lo hi : Nat} (hl : o.isLst = true) (h : o.fresh lo hi) : (AV.tupO i o vs).fresh lo hi := by
 cases o with
 | ownI e b xs => exact h
 | ownV e sz b n f => exact h
 | _ => cases hl

theorem zh4 {o : AV} {lo lo' hi : Nat} (hl : o.isLst = true) (h : lo' <= lo) (hf : o.fresh lo hi) : o.fresh lo' hi := by
 cases o with
 | ownI e b xs => exact λhne => (λq : lo <= b ∧ b < hi => ⟨Nat.le_trans h q.1, q.2⟩) (hf hne)
 | ownV e sz b n f => exact λhne => (λq : lo <= b ∧ b < hi => ⟨Nat.le_trans h q.1, q.2⟩) (hf hne)
 | _ => cases hl

theorem zg8 {f : Nat} {fn : Func} {c : Code} {xs : List V} {k : Nat} {x t : AV} {post : Nat -> AV -> AV -> AV -> Prop} (i ro rv : Nat) (hf : P.funcs[f]? = some fn) (hb : fn.body = some c) (hname : (fn.name == "runtime.NumGoroutine") = false)
  (hN : fn.ntmps = N) (hxs : xs.length <= N) (hNv : N <= vt) (hrs : fn.results.toList = rs2 i ro rv) (hi : i <= 1) (hd : (Nat.blt ro vt && !Nat.beq ro k && Nat.blt rv vt && !Nat.beq rv k && !Nat.beq ro rv) = true)
  (h : ∀ base hs O U hw v, base <= hs -> hs = hw.size -> W P cx N base c (retP i ro rv hs k x (.keep O U hw k v) post) ⟨ze7 xs k x t (.keep O U hw k v), hs⟩) : MFn P f xs k x t post := by
 have hvt0 : vt = 1000000 := rfl;have hvk0 : vk = 1000001 := rfl;simp only [Bool.and_eq_true, Bool.not_eq_true'] at hd
 obtain ⟨⟨⟨⟨d1, d2⟩, d3⟩, d4⟩, d5⟩ := hd;have d1 : ro + 1 <= vt := Nat.le_of_ble_eq_true d1;have d3 : rv + 1 <= vt := Nat.le_of_ble_eq_true d3;have d2 : ro ≠ k := λe => by rw [e, zQ] at d2; cases d2
 have d4 : rv ≠ k := λe => by rw [e, zQ] at d4; cases d4
 have d5 : ro ≠ rv := λe => by rw [e, zQ] at d5; cases d5
 refine ⟨⟨fn, hf, by rw [hb]; rfl, hname⟩, λD w0 hs' w vs O U hl hk r' => calls_of_wp hf hb ?_⟩;obtain ⟨hs, hhs0, hhsw⟩ : ∃ hs, hs = w.heap.size ∧ hs' <= hs := ⟨_, rfl, r'.hs2⟩
 have r : R D w0 vs.size (vd xs k x t O U w.heap (vs.getD k undef)) hs { tmps := vs, defers := [] } w := { r' with hs1 := by rw [hhs0]; exact Nat.le_trans r'.hs1 r'.hs2, hs2 := by rw [hhs0]; exact Nat.le_refl _ }
 have hT : ∀ j, tv { tmps := vs ++ Array.replicate (fn.ntmps - vs.size) undef, defers := [] } j = vs.getD j undef := by
  intro k;simp only [tv, Array.getD_eq_getD_getElem?, Array.getElem?_append, Array.getElem?_replicate]
  by_cases hk : k < vs.size
  ·simp [hk]
  ·simp only [hk, if_false]
   rw [Array.getElem?_eq_none (by omega)]
   split <;> rfl
 have hTf : tv { tmps := vs ++ Array.replicate (fn.ntmps - vs.size) undef, defers := [] } = λj => vs.getD j undef := funext hT;generalize hv : vs.getD k undef = v at r;have hen : get (ze7 xs k x t (.keep O U w.heap k v)) = vd xs k x t O U w.heap v := funext (ze9 (by omega) hk)
 have R1 : R D w0 N (get (ze7 xs k x t (.keep O U w.heap k v))) hs { tmps := vs ++ Array.replicate (fn.ntmps - vs.size) undef, defers := [] } w := by
  rw [hen];refine ⟨rfl, by simp [hl, hN]; omega, r.hs1, r.hs2, r.below, λj hj => ?_, λj => ?_, λj b hb => ?_, λj j' b hb hb' => ?_, r.old⟩
  ·have := r.dom j hj; omega
  ·show AVR (okF D (zj _ (tv _)) _) _ _ (tv _) _ (tv _ j)
   rw [hTf]; exact r.slots j
  ·have hb' : rb _ (tv _ j) b := hb;rw [hTf] at hb'; exact r.real j b hb'
  ·have h1 : rb _ (tv _ j) b := hb;have h2 : rb _ (tv _ j') b := hb';rw [hTf] at h1 h2; exact r.dist j j' b h1 h2
 refine wp_mono (h w0.heap.size hs O U w.heap v r.hs1 hhs0 D w0 _ w rfl R1) ?_
 have all : ∀ (s' : S) (a' : Act) (w' : World), R D w0 N (get s'.env) s'.hs a' w' -> zi4 i ro rv hs k x (.keep O U w.heap k v) post s' ->
   a'.defers = [] ∧ ∃ z, (results fn a'.tmps).run P w' = .ok z w' ∧ ∃ v' av x' t' hs2, (Ending.returned z : Ending) = .returned v' ∧ hs' <= hs2 ∧ post hs2 av x' t' ∧ v2 x x' ∧ t'.tabOk = true ∧ av.isRes = true ∧ (x' ≠ .dead -> av.fresh hs' hs2) ∧
    R D w0 (vs.size + 1) (yQ vs.size k av x' t' O U w.heap v) hs2 { tmps := vs.push v', defers := [] } w' := by
  intro s' a' w' r' hq;refine ⟨r'.defers, ?_⟩;obtain ⟨hhs, hq⟩ := hq;simp only [zb, zh2] at hq
  obtain ⟨o, ho1, ho2, ho3, y, hy, x', hx', haf, t', ht', hto', hkp, hPs⟩ := hq
  -- the tuple
  obtain ⟨us, hus, hu1, hu2⟩ : ∃ us : List Value, us = (match i with | 0 => [tv a' ro, tv a' rv] | _ => [tv a' rv, tv a' ro]) ∧ us.getD i undef = tv a' ro ∧ us.getD (1 - i) undef = tv a' rv := by
   refine ⟨_, rfl, ?_, ?_⟩ <;> (rcases (by omega : i = 0 ∨ i = 1) with rfl | rfl <;> rfl)
  have hul : us.length = 2 := by rw [hus]; rcases (by omega : i = 0 ∨ i = 1) with rfl | rfl <;> rfl
  have hyl : (zfb i y).length = 2 := by rcases (by omega : i = 0 ∨ i = 1) with rfl | rfl <;> rfl
  have hy1 : (zfb i y).getD (1 - i) .nil = y := by rcases (by omega : i = 0 ∨ i = 1) with rfl | rfl <;> rfl
  have hrun : (fn.results.toList.mapM (xU P a'.tmps)).run P w' = .ok us w' := by
   rw [hrs, hus];rcases (by omega : i = 0 ∨ i = 1) with rfl | rfl <;> simp [rs2, List.mapM_cons, xU, tv]
  have hmk : zeV us = .tuple us.toArray := by
   match us, hul with
   | [_, _], _ => rfl
  refine ⟨_, xr hrun, zeV us, .tupO i o (zfb i y), x', t', s'.hs, rfl, Nat.le_trans hhsw hhs, hPs, haf, hto', rfl, λ_ => zh3 ho2 (zh4 ho2 hhsw ho3), ?_⟩;rw [hmk]
  -- what is looked at
  let σ2 : Nat -> AV := λj => if j = vk then .keep O U w.heap k v else if j = vt then t' else if j = k then x' else if j = ro then o else if j = rv then .v y else .dead
  have r2 : R D w0 N σ2 s'.hs a' w' := by
   refine r'.leAll λj => ?_;show leK _ (σ2 j)
   simp only [σ2]
   by_cases h1 : j = vk
   ·subst h1; rw [if_pos rfl, hkp]; simp [leK]
   rw [if_neg h1]
   by_cases h2 : j = vt
   ·subst h2; rw [if_pos rfl]; exact ht'
   rw [if_neg h2]
   by_cases h3 : j = k
   ·subst h3; rw [if_pos rfl]; exact hx'
   rw [if_neg h3]
   by_cases h4 : j = ro
   ·subst h4; rw [if_pos rfl]; exact ho1
   rw [if_neg h4]
   by_cases h5 : j = rv
   ·subst h5; rw [if_pos rfl]; exact hy
   ·rw [if_neg h5]; exact zcZ
  have skv : σ2 vk = .keep O U w.heap k v := by simp only [σ2, if_true]
  have stv : σ2 vt = t' := by simp only [σ2, if_true]; rw [if_neg (by omega)]
  have skk : σ2 k = x' := by simp only [σ2, if_true]; rw [if_neg (by omega), if_neg (by omega)]
  have sro : σ2 ro = o := by simp only [σ2, if_true]; rw [if_neg (by omega), if_neg (by omega), if_neg d2]
  have srv : σ2 rv = .v y := by simp only [σ2, if_true]; rw [if_neg (by omega), if_neg (by omega), if_neg d4, if_neg (Ne.symm d5)]
  have kp := r2.slots vk;rw [skv] at kp;have hvk' : tv a' k = v := kp.2.2;obtain ⟨z, hz⟩ : ∃ z, z = Value.tuple us.toArray := ⟨_, rfl⟩
  rw [<- hz];have tk : (vs.push z).getD k undef = v := by rw [xJ, if_neg (by omega), hv]
  have tn : (vs.push z).getD vs.size undef = z := by rw [xJ, if_pos rfl]
  have huo : us.toArray.getD i undef = tv a' ro := by rw [<- hu1]; simp [Array.getD_eq_getD_getElem?, List.getD_eq_getElem?_getD]
  have huv : us.toArray.getD (1 - i) undef = tv a' rv := by rw [<- hu2]; simp [Array.getD_eq_getD_getElem?, List.getD_eq_getElem?_getD]
  have ho : ∀ j b, rb (yQ vs.size k (.tupO i o (zfb i y)) x' t' O U w.heap v j) ((vs.push z).getD j undef) b -> ∃ q, rb (σ2 q) (tv a' q) b ∧ ((j = vk ∧ q = vk) ∨ (j = vt ∧ q = vt) ∨ (j = k ∧ q = k) ∨ (j = vs.size ∧ q = ro)) := by
   intro j b hb;unfold yQ at hb
   split at hb
   ·rename_i hj; exact ⟨vk, by rw [skv]; exact hb, .inl ⟨hj, rfl⟩⟩
   split at hb
   ·rename_i hj; exact ⟨vt, by rw [stv]; exact zdQ hto' _ _ _ hb, .inr (.inl ⟨hj, rfl⟩)⟩
   split at hb
   ·rename_i hj; subst hj; exact ⟨j, by rw [skk, hvk', <- tk]; exact hb, .inr (.inr (.inl ⟨rfl, rfl⟩))⟩
   split at hb
   ·rename_i hj; subst hj
    rw [tn, hz] at hb;have hb : rb1 o (us.toArray.getD i undef) b := hb;rw [huo] at hb;exact ⟨ro, by rw [sro]; exact (ziI ho2).2 hb, .inr (.inr (.inr ⟨rfl, rfl⟩))⟩
   ·exact hb.elim
  have hown : ∀ b, zj (yQ vs.size k (.tupO i o (zfb i y)) x' t' O U w.heap v) (λj => (vs.push z).getD j undef) b -> zj σ2 (tv a') b := λb ⟨j, hj⟩ => by
   obtain ⟨q, hq, _⟩ := ho j b hj;exact ⟨q, hq⟩
  have hm : ∀ g b, okF D (zj σ2 (tv a')) w'.heap.size g b -> okF D (zj (yQ vs.size k (.tupO i o (zfb i y)) x' t' O U w.heap v) (λj => (vs.push z).getD j undef)) w'.heap.size g b ∧ w'.heap[b]? = w'.heap[b]? :=
   λg b hb => ⟨yo hown hb, rfl⟩
  refine ⟨rfl, by simp, r2.hs1, r2.hs2, r2.below, λj hj => ?_, λj => ?_, λj b hb => ?_, λj j' b hb hb' => ?_, r.old⟩
  ·unfold yQ at hj
   split at hj
   ·omega
   split at hj
   ·omega
   split at hj
   ·omega
   split at hj
   ·omega
   ·exact absurd rfl hj
  ·show AVR _ _ _ (λj => (vs.push z).getD j undef) _ ((vs.push z).getD j undef)
   generalize hy' : yQ vs.size k (.tupO i o (zfb i y)) x' t' O U w.heap v j = av;unfold yQ at hy'
   split at hy'
   ·subst hy';exact ⟨kp.1, λb hu => by obtain ⟨⟨g, hg⟩, h2⟩ := kp.2.1 b hu; exact ⟨⟨g, (hm g b hg).1⟩, h2⟩, tk⟩
   split at hy'
   ·subst hy';have h4 := r2.slots vt;rw [stv] at h4;cases t' <;> simp [AV.tabOk] at hto'
    ·trivial
    ·exact h4
   split at hy'
   ·rename_i hj; subst hy'; subst hj
    have h4 := r2.slots j;rw [skk] at h4;have e5 : a'.tmps.getD j undef = v := hvk';rw [e5, <- tk] at h4;exact AVR.keep h4 hm (λ_ _ => rfl) (λu hu => by rw [yi haf] at hu; cases hu)
   split at hy'
   ·rename_i hj; subst hy'; subst hj
    rw [tn];have h4 := r2.slots ro;rw [sro] at h4;have h4 : AVR _ _ _ _ o (tv a' ro) := h4;have h5 := r2.slots rv;rw [srv] at h5;have h5 : Rep _ _ y (tv a' rv) := h5;refine ⟨us.toArray, hz, by simp [hul, hyl], by rw [hyl]; omega, λj hj hji => ?_, ?_⟩
    ·rw [hyl] at hj;obtain rfl : j = 1 - i := by omega
     rw [hy1, huv];exact h5.mono hm
    ·rw [huo]
     have h6 : AVO (okF D (zj σ2 (tv a')) w'.heap.size) w'.heap o (tv a' ro) := by
      cases o with
      | ownI e b l => exact h4
      | ownV e sz b n g => exact h4
      | _ => cases ho2
     exact h6.keep hm λ_ _ => rfl
   ·subst hy'; trivial
  ·obtain ⟨q, hq, _⟩ := ho j b hb;exact r2.real q b hq
  ·obtain ⟨q, hq, hc⟩ := ho j b hb;obtain ⟨q', hq', hc'⟩ := ho j' b hb';have hii := r2.dist q q' b hq hq';omega
 rintro ex a' w' ⟨s', r', hq⟩;subst hv;cases ex with
 | normal => exact all s' a' w' r' hq
 | ret => exact all s' a' w' r' hq
 | _ => exact hq.elim

def AV.calm (lo : Nat) : AV -> Prop
 | .dead => True
 | .v x => x.bare = true
 | .ownI _ _ _ => True
 | .keep _ _ hw _ _ => hw.size <= lo
 | _ => False
def zg9 (lo i : Nat) : Env -> Prop
 | [] => True
 | (k, x) :: r => (bif Nat.beq k i || Nat.beq k vt then True else x.calm lo) ∧ zg9 lo i r
theorem zfc {lo i : Nat} : ∀ {e : Env}, zg9 lo i e -> ∀ k, k ≠ i -> k ≠ vt -> (get e k).calm lo
 | [], _, k, _, _ => trivial
 | (j, x) :: r, h, k, h1, h2 => by
  rw [z4]
  by_cases hj : j = k
  ·subst hj;have h3 := h.1;rw [yk h1, yk h2] at h3;rw [if_pos rfl]; exact h3
  ·rw [if_neg hj]; exact zfc h.2 k h1 h2

open Classical in
theorem R.thawW {e : Env} {i el b n it lo : Nat} {c : Nat -> Nat} {l : Nat -> List Int} {t : Nat -> Int} {tb : Tab} (r : R D w0 N (get e) hs a w) (hi : get e i = .ownV el 2 b n λj => .agg [.wh it (c j) (l j), .int .i64 (t j)]) (ht : get e vt = .tab tb)
  (hne : ∀ j, j < n -> l j ≠ []) (hinj : ∀ j k, j < n -> k < n -> c j = c k -> j = k) (hcalm : zg9 lo i e) (hlo : ∀ j, j < n -> lo <= c j) (hlo0 : w0.heap.size <= lo) :
  ∃ tb' : Tab, (∀ j, j < n -> tb (c j) = none ∧ tb' (c j) = some (l j)) ∧ (∀ q xs, tb q = some xs -> tb' q = some xs) ∧ R D w0 N (get (put (put e i (.ownV el 2 b n λj => .agg [.rf (c j) (l j).length, .int .i64 (t j)])) vt (.tab tb'))) hs a w := by
 have hiv : i ≠ vt := λh => by rw [h, ht] at hi; cases hi
 have h1 := r.slots i;rw [hi] at h1;obtain ⟨h0, cells, hO, hE⟩ := h1
 -- the whole slices
 have hw : ∀ j, j < n -> ∃ v, cells[j * 2 + 0]? = some v ∧ zK w.heap it 1 (c j) (l j).length v ((l j).map (Value.int .i64)) ∧ (∃ q cur, v = .slice (some ⟨c j, 0, none⟩) (l j).length (q + 1) ∧ w.heap[c j]? = some (.cells cur it (0, 0)) ∧ (l j).length <= q + 1 ∧ q + 1 <= maxLen ∧ ∀ k, k < (l j).length -> cur[k]? = some (.int .i64 ((l j).getD k 0))) ∧ c j < w.heap.size ∧ ¬ zj (get e) (tv a) (c j) := λj hj => by
  obtain ⟨v, hv, hr⟩ := hE.2 j 0 hj (by decide);have hr : Rep _ _ (.wh it (c j) (l j)) v := hr;cases hr with
  | wh _ _ _ _ ho hk =>
   rcases ho.2 with ⟨_, _, h3⟩ | ⟨q, cur, h3, h4, h5, h6, h7, h8⟩
   ·exact absurd (List.eq_nil_of_length_eq_zero h3) (hne j hj)
   ·have h9 := hk q h3;refine ⟨v, hv, ho, ⟨q, cur, h3, h4, h5, h6, λk hk => ?_⟩, h9.1, h9.2.1⟩;have h10 : (cur.toList.take ((l j).length * 1))[k]? = ((l j).map (Value.int .i64))[k]? := by rw [h8]
    rw [List.getElem?_take_of_lt (by omega)] at h10;rw [<- Array.getElem?_toList, h10];simp [hk]
 obtain ⟨tb', htb'⟩ : ∃ tb' : Tab, tb' = λx => if h : ∃ j, j < n ∧ c j = x then some (l (Classical.choose h)) else tb x := ⟨_, rfl⟩
 have hrv : ∀ q, tb q ≠ none -> zj (get e) (tv a) q := λq hq => ⟨vt, by rw [ht]; exact hq⟩
 have hnew : ∀ j, j < n -> tb (c j) = none ∧ tb' (c j) = some (l j) := λj hj => by
  refine ⟨Classical.byContradiction λh => (hw j hj).choose_spec.2.2.2.2 (hrv _ h), ?_⟩;have hex : ∃ k, k < n ∧ c k = c j := ⟨j, hj, rfl⟩
  have hs := Classical.choose_spec hex;rw [htb'];show (if h : ∃ k, k < n ∧ c k = c j then some (l (Classical.choose h)) else tb (c j)) = _
  rw [dif_pos hex, hinj _ _ hs.1 hj hs.2]
 have hold : ∀ q, (¬ ∃ j, j < n ∧ c j = q) -> tb' q = tb q := λq hq => by
  rw [htb']; exact dif_neg hq
 have hkeep : ∀ q xs, tb q = some xs -> tb' q = some xs := λq xs hq => by
  rw [hold q, hq];rintro ⟨j, hj, rfl⟩;rw [(hnew j hj).1] at hq; cases hq
 refine ⟨tb', hnew, hkeep, ?_⟩;rw [zd, zd];obtain ⟨σ', hσ'⟩ : ∃ σ' : Nat -> AV, σ' = upd (upd (get e) i (.ownV el 2 b n λj => .agg [.rf (c j) (l j).length, .int .i64 (t j)])) vt (.tab tb') := ⟨_, rfl⟩
 rw [<- hσ'];have s1 : σ' vt = .tab tb' := by rw [hσ']; simp [upd]
 have s2 : σ' i = .ownV el 2 b n λj => .agg [.rf (c j) (l j).length, .int .i64 (t j)] := by rw [hσ']; simp [upd, hiv]
 have s3 : ∀ k, k ≠ i -> k ≠ vt -> σ' k = get e k := λk h1 h2 => by rw [hσ']; simp [upd, h1, h2]
 -- what is owned now
 have hrb : ∀ k q, rb (σ' k) (tv a k) q -> rb (get e k) (tv a k) q ∨ (k = vt ∧ ∃ j, j < n ∧ q = c j) := λk q hq => by
  by_cases h1 : k = vt
  ·subst h1;rw [s1] at hq;have hq : tb' q ≠ none := hq
   by_cases h2 : ∃ j, j < n ∧ c j = q
   ·obtain ⟨j, h3, h4⟩ := h2; exact .inr ⟨rfl, j, h3, h4.symm⟩
   ·rw [hold q h2] at hq; exact .inl (by rw [ht]; exact hq)
  by_cases h2 : k = i
  ·subst h2; rw [s2] at hq; rw [hi]; exact .inl ((congrFun (jv (x := .ownV el 2 b n λj => .agg [.rf (c j) (l j).length, .int .i64 (t j)]) (y := .ownV el 2 b n λj => .agg [.wh it (c j) (l j), .int .i64 (t j)]) rfl rfl _) q).mp hq)
  ·rw [s3 k h2 h1] at hq; exact .inl hq
 have how : ∀ q, zj σ' (tv a) q -> zj (get e) (tv a) q ∨ ∃ j, j < n ∧ q = c j := λq ⟨k, hk⟩ => (hrb k q hk).elim (λh => .inl ⟨k, h⟩) λh => .inr h.2;refine ⟨r.defers, r.size, r.hs1, r.hs2, r.below, λk hk => ?_, λk => ?_, λk q hq => ?_, λk k' q hq hq' => ?_, r.old⟩
 ·by_cases h1 : k = vt
  ·exact .inr (by rw [h1]; exact Nat.le_refl _)
  by_cases h2 : k = i
  ·subst h2; exact r.dom k (by rw [hi]; simp)
  ·rw [s3 k h2 h1] at hk; exact r.dom k hk
 ·show AVR (okF D (zj σ' (tv a)) w.heap.size) w.heap σ' (tv a) (σ' k) (tv a k)
  by_cases h1 : k = vt
  ·subst h1;rw [s1];intro q xs hq
   by_cases h2 : ∃ j, j < n ∧ c j = q
   ·obtain ⟨j, h3, rfl⟩ := h2;rw [(hnew j h3).2] at hq;cases hq
    obtain ⟨v, _, _, ⟨_, cur, _, h4, _, _, h5⟩, _⟩ := hw j h3;exact ⟨cur, it, h4, h5⟩
   ·rw [hold q h2] at hq;have := r.slots vt;rw [ht] at this;exact this q xs hq
  by_cases h2 : k = i
  ·subst h2;rw [s2];refine ⟨h0, cells, hO, λj hj => ⟨rfl, rfl⟩, λj q hj hq => ?_⟩;obtain ⟨v, hv, _, ⟨q', cur, h4, _, h5, h6, _⟩, _⟩ := hw j hj
   match q, hq with
   | 0, _ => exact ⟨v, hv, by rw [h4]; exact .rf _ _ q' h5 h6⟩
   | 1, _ =>
    obtain ⟨u, hu, hr⟩ := hE.2 j 1 hj (by decide);have hr : Rep _ _ (.int .i64 (t j)) u := hr;have hu2 := zJ hr;exact ⟨u, hu, by rw [hu2]; exact .int _ _⟩
  ·have h3 := r.slots k;have h4 := zfc hcalm k h2 h1;rw [s3 k h2 h1];cases hg : get e k with
   | dead => trivial
   | v x =>
    rw [hg] at h3 h4;exact Rep.bare h3 h4
   | ownI e2 b2 xs => rw [hg] at h3; exact h3
   | keep O U hw' kk vv =>
    rw [hg] at h3 h4;have h4 : hw'.size <= lo := h4;refine ⟨h3.1, λq hu => ?_, h3.2.2⟩;obtain ⟨⟨g, hg1, hg2, hg3⟩, h5⟩ := h3.2.1 q hu;refine ⟨⟨g, hg1, λho => ?_, hg3⟩, h5⟩;rcases how q ho with h | ⟨j, hj, rfl⟩
    ·exact hg2 h
    ·rw [Array.getElem?_eq_getElem hg1, Array.getElem?_eq_none (by have := hlo j hj; omega)] at h5;cases h5
   | _ => rw [hg] at h4; exact h4.elim
 ·rcases hrb k q hq with h | ⟨_, j, hj, rfl⟩
  ·exact r.real k q h
  ·exact ⟨Nat.le_trans hlo0 (hlo j hj), (hw j hj).choose_spec.2.2.2.1⟩
 ·rcases hrb k q hq with h | ⟨hk1, j, hj, hqj⟩ <;> rcases hrb k' q hq' with h' | ⟨hk2, j', hj', hqj'⟩
  ·exact r.dist k k' q h h'
  ·subst hqj'; exact absurd ⟨k, h⟩ (hw j' hj').choose_spec.2.2.2.2
  ·subst hqj; exact absurd ⟨k', h'⟩ (hw j hj).choose_spec.2.2.2.2
  ·rw [hk1, hk2]

theorem W.thawW {base : Nat} {x : Code} {QQ : Exit -> S -> Prop} {s : S} {i el b n it lo : Nat} {c : Nat -> Nat} {l : Nat -> List Int} {t : Nat -> Int} {tb : Tab} (hi : get s.env i = .ownV el 2 b n λj => .agg [.wh it (c j) (l j), .int .i64 (t j)]) (ht : get s.env vt = .tab tb)
  (hne : ∀ j, j < n -> l j ≠ []) (hinj : ∀ j k, j < n -> k < n -> c j = c k -> j = k) (hcalm : zg9 lo i s.env) (hlo : ∀ j, j < n -> lo <= c j) (hlo0 : base <= lo)
  (h : ∀ tb' : Tab, (∀ j, j < n -> tb (c j) = none ∧ tb' (c j) = some (l j)) -> (∀ q xs, tb q = some xs -> tb' q = some xs) -> W P cx N base x QQ ⟨put (put s.env i (.ownV el 2 b n λj => .agg [.rf (c j) (l j).length, .int .i64 (t j)])) vt (.tab tb'), s.hs⟩) : W P cx N base x QQ s :=
 λD w0 a w hw r => by
  obtain ⟨tb', h1, h2, h3⟩ := r.thawW hi ht hne hinj hcalm hlo (by rw [hw]; exact hlo0);exact h tb' h1 h2 D w0 a w hw h3

end
open Go Go.RowKit

section
variable {P : Program} {cx : Cx} {D : Nat -> Prop} {w0 : World} {N : Nat} {hs : Nat} {a : Act} {w : World} {e : Env}

end
open Go Go.RowKit Go.ChangeShapes Go.WideShapes Go.ChangeAt

section
variable {H : Type} {enc : TypeId × Value -> H} {P : Program}

theorem j7 (hl : laidOutB P = true) {W W' : World} {sp : Nat -> Bool} : ∀ {ts : List TypeId} {vs : List Value} {ds : List (DataW H)} {ps : List MemPlace},
  (∀ t ∈ ts, P.readableRec t = true ∧ t < P.types.size) -> DataW.TrodAll enc P W 0 (λ_ => true) true ts vs ds ps -> (∀ p ∈ ps, W.sameAt W' p) -> (∀ p ∈ ps, sp p.block = true) -> DataW.TrodAll enc P W' 0 sp true ts vs ds ps
 | [], vs, ds, ps, _, h, _, _ => by
  obtain ⟨rfl, rfl, rfl⟩ := trodAll_nil h;exact trodAll_mk0
 | t :: ts, vs, ds, ps, ht, h, h1, h2 => by
  obtain ⟨v, vs', d, ds', p, q, rfl, rfl, rfl, h3, h4⟩ := trodAll_cons h
  exact ⟨p, q, WideElems.Trod_stays hl (ht t (by simp)).1 (ht t (by simp)).2 h3 (λx hx => h1 x (by simp [hx])) (λx hx => h2 x (by simp [hx])),
   j7 hl (λt' ht' => ht t' (by simp [ht'])) h4 (λx hx => h1 x (by simp [hx])) (λx hx => h2 x (by simp [hx])), rfl⟩

theorem za5 {W : World} {b : Nat} {sp : Nat -> Bool} {hd : Bool} : ∀ {ts : List TypeId} {vs : List Value} {ds : List (DataW H)} {ps : List MemPlace}, DataW.TrodAll enc P W b sp hd ts vs ds ps -> vs.length = ts.length ∧ ds.length = ts.length
 | [], vs, ds, ps, h => by obtain ⟨rfl, rfl, rfl⟩ := trodAll_nil h; simp
 | t :: ts, vs, ds, ps, h => by
  obtain ⟨v, vs', d, ds', p, q, rfl, rfl, rfl, h3, h4⟩ := trodAll_cons h;have := za5 h4;simp [this]

theorem zi5 {fn : Func} {s : ChangeSpec} {apart fresh handsOn again : Bool} {W W' : World} {args : Array Value} {ds gs : List (DataW H)} {before : List MemPlace} {tb : TypeId}
  (hl : laidOutB P = true) (hts : ∀ t ∈ fn.params.toList, P.readableRec t = true ∧ t < P.types.size) (hv : s.vars = []) (hr : fn.resultTypes = #[tb]) (htb : P.underlying tb = some .bool)
  (hs : ∀ ds : List (DataW H), ds.length = fn.params.size -> (s.fn H (ds ++ [])).results = [.lit (.bool true)] ∧ (s.fn H (ds ++ [])).args = ds ∧ (s.fn H (ds ++ [])).vars = [])
  (hW : DataW.Whole enc P fn.params.toList s.vars apart W args.toList ds gs before) (hb : Below W.heap.size W W') :
  s.post enc P fn apart fresh handsOn again W args (.bool true) W' := by
 have hlt := hW.lt;have hW' := hW;obtain ⟨p, q, hA, hV, rfl, hfz, hnd⟩ := hW;rw [hv] at hV;obtain ⟨rfl, rfl⟩ := trodVars_none hV;simp only [List.append_nil] at hlt hfz hnd hW'
 obtain ⟨h1, h2, h3⟩ := hs ds (by have := (za5 hA).2; simpa using this)
 have hargs : ∀ sp : Nat -> Bool, (∀ x ∈ p, sp x.block = true) -> DataW.TrodAll enc P W' 0 sp true fn.params.toList args.toList ds p :=
  λsp hsp => j7 hl hts hA (λx hx => hb.same (hlt x hx)) hsp
 have hres : ∀ b sp hd, DataW.TrodAll enc P W' b sp hd fn.resultTypes.toList ((Value.bool true).resultList fn.resultTypes.size) [.lit (.bool true)] [] := by
  intro b sp hd;rw [hr];exact trodAll_mk1 (shut_bool htb true)
 refine ⟨ds, [], p, [], p, [], by simpa using hW', by rw [h1]; exact hres _ _ _, by rw [h2]; exact hargs _ (λx hx => by simpa using hlt x hx), by rw [hv, h3]; rfl, hb.frame _, λ_ => ?_⟩;refine ⟨ok_one hr rfl (okWide_bool_mk htb true), _, [], [] ++ p, ⟨[] ++ p, [], trodAll_append (hargs _ (λ_ _ => rfl)) (hres _ _ _), by rw [hv]; rfl, by simp, ?_, ?_⟩, ?_⟩
 ·intro b off hp;have hp' : MemPlace.cell b off ∈ p := by simpa using hp
  rw [hb.frozen (p := ⟨b, off, none⟩) (hlt _ hp')];exact hfz b off hp'
 ·intro ha; simpa using hnd ha
 ·intro x hx _; simpa using hx

theorem zgl {C : Checked} {f : Nat} {fn : Func} {s : ChangeSpec} {tb : TypeId} {os : Os} (own : ownKnob C.prog.godebug = none) (started : os.Started) (noInit : C.prog.inits.idxOf? f = none) (hfn : C.prog.funcs[f]? = some fn)
  (hl : laidOutB C.prog = true) (hts : ∀ t ∈ fn.params.toList, C.prog.readableRec t = true ∧ t < C.prog.types.size) (hv : s.vars = []) (hr : fn.resultTypes = #[tb]) (htb : C.prog.underlying tb = some .bool)
  (hs : ∀ ds : List (DataW H), ds.length = fn.params.size -> (s.fn H (ds ++ [])).results = [.lit (.bool true)] ∧ (s.fn H (ds ++ [])).args = ds ∧ (s.fn H (ds ++ [])).vars = [])
  (witness : ∃ (w : World) (tape : Tape) (i : Input), w.os = os ∧ (w.forCall tape i).Shaped C.prog ∧ i.vars = [] ∧ Input.okWide C.prog (w.forCall tape i) .any w.heap.size f i ∧
   s.pre6 enc C.prog fn [] false (w.forCall tape i).memory i.args ∧ Assume.holds {} C.prog (lone (Frame.enter C.prog f i.args .normal) [] (w.forCall tape i)))
  (h : ∀ (W : World) (args : Array Value) (ds : List (DataW H)) (ps : List MemPlace), (∀ (j : Nat) t v, fn.params[j]? = some t -> args[j]? = some v -> ∃ base, Value.okWide C.prog W .any base t v) ->
   DataW.TrodAll enc C.prog W 0 (λ_ => true) true fn.params.toList args.toList ds ps -> Calls C.prog f args W λe W' => e = .returned (.bool true) ∧ Below W.heap.size W W') :
  ReturnsInHanded {} C os f .any (s.pre6 enc C.prog fn [] false) (s.post enc C.prog fn false true false false) := by
 refine returnsInHanded_of_change own started noInit hfn witness ?_;intro W base args ds gs before hval hW _ _;obtain ⟨p, q, hA, _⟩ := id hW;refine (h W args ds p (λj t v h1 h2 => ⟨base, hval j t v h1 h2⟩) hA).mono λe W' ⟨he, hb⟩ => ?_;subst he;exact ⟨_, rfl, zi5 hl hts hv hr htb hs hW hb⟩

end
open Go Go.RowKit Go.ChangeShapes Go.WideShapes Go.ChangeAt

abbrev zfd (w : World) : OkB := okF (λ_ => False) (λ_ => False) w.heap.size

section
variable {H : Type} {enc : TypeId × Value -> H} {P : Program} {w : World}

def zfe (enc : TypeId × Value -> H) (P : Program) (w : World) (t : TypeId) (n : Nat) (Ty : List V -> Prop) : Prop :=
 ∀ fuel cs d ps, DataW.trod enc P w 0 (λ_ => true) true fuel t cs = some (d, ps) -> cs.length = n ∧ ∃ xs, Ty xs ∧ xs.length = n ∧ (∀ x ∈ xs, x.isCell = true) ∧ ∀ j, j < n -> Rep (zfd w) w.heap (xs.getD j .nil) (cs.getD j undef)

def zkK (xs : List V) : Prop := ∃ n, xs = [.int .i64 n] ∧ inR n
def zi6 (xs : List V) : Prop := ∃ l : List Int, xs = [.ints none l] ∧ (∀ x ∈ l, inR x) ∧ l.length <= maxLen
theorem zi7 {n : Int} (h : (Lit.int .i64 n).wf = true) : inR n := by
 simp only [Lit.wf, Bool.and_eq_true, decide_eq_true_eq] at h
 have h1 : IntKind.i64.min = -9223372036854775808 := rfl;have h2 : IntKind.i64.max = 9223372036854775807 := rfl
 constructor <;> omega

theorem zh5 {t : TypeId} (ht : P.underlying t = some (.int .i64)) : zfe enc P w t 1 zkK := by
 intro fuel cs d ps h;obtain ⟨n, hc, hx, hw⟩ := DataW.trod_int ht h;subst hc;refine ⟨rfl, _, ⟨n, rfl, zi7 hw⟩, rfl, by simp [V.isCell], λj hj => ?_⟩;obtain rfl : j = 0 := by omega
 exact .int _ _

theorem zff {w : World} {a : Addr} {v : Value} (h : w.cell? a = some v) : ∃ cur e fr, a = ⟨a.block, a.off, none⟩ ∧ a.block < w.heap.size ∧ w.heap[a.block]? = some (.cells cur e fr) ∧ cur[a.off]? = some v := by
 unfold World.cell? at h
 split at h
 ·rename_i c e fr hb
  split at h
  ·cases h
  ·rename_i hs
   refine ⟨c, e, fr, ?_, (Array.getElem?_eq_some_iff.1 hb).1, hb, h⟩;obtain ⟨b, o, s⟩ := a;cases s <;> simp_all
 ·cases h

theorem zh6 (a : Addr) (n : Nat) : (a.add n).block = a.block := by unfold Addr.add; split <;> rfl
theorem zkf (a : Addr) (n : Nat) : (a.add n).off = a.off + n := by unfold Addr.add; split <;> simp_all

theorem zgm {t e : TypeId} (ht : P.underlying t = some (.slice e)) (he : P.underlying e = some (.int .i64)) (hc : P.cellsOf e = 1) : zfe enc P w t 1 zi6 := by
 intro fuel cs d ps h;rcases open_ints ht he hc h with ⟨rfl, _⟩ | ⟨a, len, cap, zs, rfl, _, hl, hm, hz, _, hcell, hwf⟩
 ·refine ⟨rfl, _, ⟨[], rfl, by simp, by simp [maxLen]⟩, rfl, by simp [V.isCell], λj hj => ?_⟩;obtain rfl : j = 0 := by omega
  exact .ints none [] none 0 (Nat.le_refl _) (by simp [maxLen]) (λj hj => by simp at hj)
 ·simp only [if_true] at hz
  have hlen : (zs.take len).length = len := by simp; omega
  refine ⟨rfl, _, ⟨zs.take len, rfl, λx hx => zi7 (hwf x (List.mem_of_mem_take hx)), by omega⟩, rfl, by simp [V.isCell], λj hj => ?_⟩;obtain rfl : j = 0 := by omega
  show Rep _ _ (.ints none (zs.take len)) (.slice (some a) len cap)
  have := Rep.ints (ok := zfd w) (h := w.heap) none (zs.take len) (some a) cap (by omega) hm (λj hj => by
   have h0 := hcell 0 (by omega);obtain ⟨_, _, _, ha0, _, _, _⟩ := zff h0
   have ha : a = ⟨a.block, a.off, none⟩ := by
    have : a.add 0 = a := by simp [Addr.add]
    rw [this] at ha0; exact ha0
   have h1 := hcell j (by omega);obtain ⟨cur, el, fr, _, hlt, hb, hv⟩ := zff h1;rw [zh6] at hlt hb;rw [zkf] at hv;refine ⟨a.block, a.off, cur, el, fr, by rw [<- ha], ⟨hlt, λh => h, λh => h⟩, hb, ?_⟩;rw [hv];simp [List.getD, show j < len by omega])
  rw [hlen] at this;exact this

theorem zfg {t : TypeId} {Ty : List V -> Prop} {v : Value} {d : DataW H} {ps : List MemPlace} (hr : zfe enc P w t 1 Ty) (h : DataW.Trod enc P w 0 (λ_ => true) true t v d ps) (hv : ∀ cs, v ≠ .agg cs) :
  ∃ x, Ty [x] ∧ Rep (zfd w) w.heap x v := by
 obtain ⟨fuel, h⟩ := h;obtain ⟨h1, xs, h2, h3, h4, h5⟩ := hr fuel _ d ps h
 match xs, h3 with
 | [x], _ =>
  refine ⟨x, h2, ?_⟩;have := h5 0 (by omega);have e : v.cells.toList.getD 0 undef = v := by cases v <;> simp_all [Value.cells]
  rw [e] at this;exact this

end
end Go.Proofs.Ytffhmebkkbfaeaa
