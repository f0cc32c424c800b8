/- An evaluator of the model's code over plain values, and that it is sound. No conditions. -/
import Derived.Test.YteklanjooalkdaaPb
import Derived.ProofKit
import Derived.Carry
import Derived.ChangeSame
import Derived.Deep.Slices
namespace Go.Proofs.Yteklanjooalkdaa
open Go Go.RowKit

section
variable {P : Program} {cx : Cx} {D : Nat → Prop} {w0 : World} {N : Nat} {hs : Nat} {a : Act} {w : World} {e : Env}

theorem res_ofT {σ : Nat → AV} (r : R D w0 N σ hs a w) {k : Nat} {x : V} (hl : leK (σ k) (.v x)) (hn : x.ng w0.heap.size) {tb : Tab} (ht : σ vt = .tab tb) :
    Rep (okR (fun b => D b ∨ tb b ≠ none) w.heap.size) w.heap x (tv a k) := by
  have hkv : k ≠ vt := fun h => by rw [h, ht] at hl; exact hl
  have r' : R D w0 N (upd (upd (fun _ => .dead) vt (.tab tb)) k (.v x)) hs a w := r.leAll fun k' => by
    by_cases hk : k' = k
    · subst hk; simpa [upd] using hl
    · by_cases hk2 : k' = vt
      · subst hk2
        have e1 : upd (upd (fun _ => .dead) vt (.tab tb)) k (.v x) vt = .tab tb := by simp [upd, hk]
        rw [e1, ht]
        exact fun _ _ h => h
      · simp [upd, hk, hk2, leK]
  have hs' := r'.slots k
  have e2 : upd (upd (fun _ => .dead) vt (.tab tb)) k (.v x) k = .v x := by simp [upd]
  rw [e2] at hs'
  have hD : ∀ b, w0.heap.size ≤ b → ¬ D b := fun b h hb => by have := r.old b hb; omega
  refine (Rep.res hD hs' hn).mono ?_
  rintro g b ⟨h1, h2, h3⟩
  refine ⟨⟨h1, fun h => h2 (h.imp id fun h => ⟨vt, ?_⟩), h3⟩, rfl⟩
  have e1 : upd (upd (fun _ => .dead) vt (.tab tb)) k (.v x) vt = .tab tb := by simp [upd, Ne.symm hkv]
  rw [e1]; exact h

theorem res1T_sound (hcx : OkCx P cx) (r : R D w0 N (get e) hs a w) {tb : Tab} (ht : get e vt = .tab tb) {rv : ResultVar} {C : V → Prop} (h : res1K cx.tt w0.heap.size e rv fun a => match a with | .v x => C x | _ => False) :
    ∃ v x, C x ∧ (resVal P a.tmps rv).run P w = .ok v w ∧ Rep (okR (fun b => D b ∨ tb b ≠ none) w.heap.size) w.heap x v := by
  cases rv with
  | tmp k =>
    simp only [res1K, getK_eq] at h
    obtain ⟨av, h1, h2, h3⟩ := h
    cases av with
    | v x => exact ⟨tv a k, x, h3, rfl, res_ofT r h1 h2 ht⟩
    | _ => exact h3.elim
  | cell k t =>
    simp only [res1K, getK_eq] at h
    cases hk : get e k with
    | ownB b x =>
      rw [hk] at h
      obtain ⟨ti, hti, h1⟩ := getT_sound hcx.tt h
      cases hkk : ti.kind with
      | struct fs =>
        rw [hkk] at h1
        cases hc : Nat.beq x.cells.length ti.size
        · rw [hc] at h1; exact h1.elim
        simp only [hc, cond_true] at h1
        obtain ⟨hn, h2⟩ := h1
        cases x with
        | agg cs =>
          obtain ⟨hm, hf⟩ := ownB_mem r hk
          have hpart : partK ti (.agg cs) 0 (fun y => y = .agg cs) := by
            unfold partK; rw [hkk]; simp only [hc]; exact rfl
          obtain ⟨y, v, rfl, h4, h5⟩ := part_sound hti hf hm hpart
          have hv := r.ownB hk
          refine ⟨v, .agg cs, h2, ?_, ?_⟩
          · have hv' : a.tmps.getD k undef = .pointer (some ⟨b, 0, none⟩) := hv
            simp only [resVal, hv', asAddr, Sem.run_bind, Sem.run_pure, Result.andThen_ok]
            exact h4
          · have hD : ∀ b, w0.heap.size ≤ b → ¬ D b := fun b h hb => by have := r.old b hb; omega
            exact (Rep.res hD h5 hn).mono fun g b hb => ⟨⟨hb.1, fun h => hb.2.1 (h.imp id (fun h => ⟨vt, by rw [ht]; exact h⟩)), hb.2.2⟩, rfl⟩
        | _ => exact h2.elim
      | _ => rw [hkk] at h1; exact h1.elim
    | _ => rw [hk] at h; exact h.elim

theorem rescT_sound (hcx : OkCx P cx) (r : R D w0 N (get e) hs a w) {tb : Tab} (ht : get e vt = .tab tb) : ∀ {rs : List ResultVar} {C : List V → Prop}, rescK cx.tt w0.heap.size e rs C →
    ∃ vs xs, C xs ∧ (rs.mapM (resVal P a.tmps)).run P w = .ok vs w ∧ vs.length = rs.length ∧ vs.length = xs.length ∧ ∀ j, j < xs.length → Rep (okR (fun b => D b ∨ tb b ≠ none) w.heap.size) w.heap (xs.getD j .nil) (vs.getD j undef)
  | [], C, h => ⟨[], [], h, by simp, rfl, rfl, fun j hj => by simp at hj⟩
  | rv :: rs, C, h => by
    obtain ⟨v, x, h1, h2, h3⟩ := res1T_sound hcx r ht h
    obtain ⟨vs, xs, h4, h5, h8, h6, h7⟩ := rescT_sound hcx r ht h1
    refine ⟨v :: vs, x :: xs, h4, by simp [List.mapM_cons, h2, h5], by simp [h8], by simp [h6], fun j hj => ?_⟩
    cases j with
    | zero => exact h3
    | succ j => simpa using h7 j (by simpa using hj)

/-- the contract of such a function, out of its code -/
theorem fnt_of {f : Nat} {fn : Func} {c : Code} {xs : List V} {post : PostT} (hcx : OkCx P cx) (hf : P.funcs[f]? = some fn) (hb : fn.body = some c) (hname : (fn.name == "runtime.NumGoroutine") = false)
    (hN : fn.ntmps = N) (hxs : xs.length ≤ N) (h : ∀ base, W P cx N base c (retQT cx.tt base fn.results.toList post) ⟨(vt, .tab fun _ => none) :: argEnv 0 xs, base⟩) (hxv : xs.length ≤ vt) : FnT P f xs post := by
  refine ⟨⟨fn, hf, by rw [hb]; rfl, hname⟩, fun D w vs hD hl hr => calls_of_wp hf hb ?_⟩
  have hT : ∀ k, tv { tmps := vs ++ Array.replicate (fn.ntmps - vs.size) undef, defers := [] } k = vs.getD k undef := by
    intro k
    simp only [tv, Array.getD_eq_getD_getElem?, Array.getElem?_append, Array.getElem?_replicate]
    by_cases hk : k < vs.size
    · simp [hk]
    · simp only [hk, if_false]
      rw [Array.getElem?_eq_none (by omega)]
      split <;> rfl
  have hg : ∀ k, get ((vt, AV.tab fun _ => none) :: argEnv 0 xs) k = if k = vt then .tab fun _ => none else get (argEnv 0 xs) k := by
    intro k
    rw [get_cons]
    by_cases hk : k = vt
    · rw [if_pos hk.symm, if_pos hk]
    · rw [if_neg (Ne.symm hk), if_neg hk]
  have hrb : ∀ k v b, ¬ rb (get ((vt, AV.tab fun _ => none) :: argEnv 0 xs) k) v b := by
    intro k v b
    rw [hg]
    split
    · simp [rb]
    · rw [argEnv_get]
      split <;> simp [rb]
  have r : R D w N (get ((vt, AV.tab fun _ => none) :: argEnv 0 xs)) w.heap.size { tmps := vs ++ Array.replicate (fn.ntmps - vs.size) undef, defers := [] } w := by
    refine ⟨rfl, by simp [hl, hN]; omega, Nat.le_refl _, Nat.le_refl _, Below.refl _ _, fun k hk => ?_, fun k => ?_, fun k b hb => ?_, fun k k' b hb hb' => ?_, hD⟩
    · rw [hg] at hk
      by_cases hkv : k = vt
      · exact .inr (by omega)
      · rw [if_neg hkv, argEnv_get] at hk
        by_cases h2 : 0 ≤ k ∧ k < 0 + xs.length
        · exact .inl (by omega)
        · rw [if_neg h2] at hk; exact absurd rfl hk
    · show AVR _ _ _ _ _ (tv _ k)
      rw [hT, hg]
      by_cases hkv : k = vt
      · rw [if_pos hkv]; intro b ys hy; cases hy
      · rw [if_neg hkv, argEnv_get]
        by_cases h2 : 0 ≤ k ∧ k < 0 + xs.length
        · rw [if_pos h2]
          have := hr k (by omega)
          rw [Nat.sub_zero]
          exact Rep.mono this fun g b hb => ⟨⟨hb.1, (fun ⟨k', hk'⟩ => hrb _ _ _ hk'), hb.2.2⟩, rfl⟩
        · rw [if_neg h2]; trivial
    · exact absurd hb (hrb _ _ _)
    · exact absurd hb (hrb _ _ _)
  refine wp_mono (h w.heap.size D w _ w rfl r) ?_
  have fin : ∀ (s' : S) (a' : Act) (w' : World), R D w N (get s'.env) s'.hs a' w' → resTK cx.tt w.heap.size fn.results.toList s' post →
      a'.defers = [] ∧ ∃ v, (results fn a'.tmps).run P w' = .ok v w' ∧ ∃ v' x tb hi, (Ending.returned v : Ending) = .returned v' ∧ hi ≤ w'.heap.size ∧ post w.heap.size hi x tb ∧ Below w.heap.size w w' ∧ ResT D w.heap.size w' x tb v' := by
    intro s' a' w' r' hq
    refine ⟨r'.defers, ?_⟩
    obtain ⟨tb, ht, hq⟩ := tabK_sound r' hq
    have htb : (∀ b, tb b ≠ none → w.heap.size ≤ b ∧ b < w'.heap.size) ∧ ∀ b xs, tb b = some xs → ∃ cur e, w'.heap[b]? = some (.cells cur e (0, 0)) ∧ ∀ j, j < xs.length → cur[j]? = some (.int .i64 (xs.getD j 0)) := by
      refine ⟨fun b hb => r'.real vt b (by rw [ht]; exact hb), ?_⟩
      have := r'.slots vt
      rw [ht] at this
      exact this
    have hmany : rescK cx.tt w.heap.size s'.env fn.results.toList (fun xs => post w.heap.size s'.hs (.tup xs) tb) → fn.results.toList.length ≠ 1 →
        ∃ v, (results fn a'.tmps).run P w' = .ok v w' ∧ ∃ v' x tb hi, (Ending.returned v : Ending) = .returned v' ∧ hi ≤ w'.heap.size ∧ post w.heap.size hi x tb ∧ Below w.heap.size w w' ∧ ResT D w.heap.size w' x tb v' := by
      intro hq hlen
      obtain ⟨ws, ys, h1, h2, h5, h3, h4⟩ := rescT_sound hcx r' ht hq
      have hwl : ws.length ≠ 1 := by rw [h5]; exact hlen
      have hmk : mkRes ws = .tuple ws.toArray := by
        match ws, hwl with
        | [], _ => rfl
        | [v], h => simp at h
        | v :: u :: l, _ => rfl
      refine ⟨_, results_run h2, _, _, tb, s'.hs, rfl, r'.hs2, h1, r'.below, ?_, htb⟩
      rw [hmk]
      refine .tup ys _ (by simp [h3]) fun j hj => ?_
      have := h4 j hj
      rw [List.getD_eq_getElem?_getD (l := ws)] at this
      simpa [Array.getD_eq_getD_getElem?] using this
    cases hrs : fn.results.toList with
    | nil => exact hmany (by rw [hrs] at hq ⊢; exact hq) (by rw [hrs]; simp)
    | cons rv l =>
      cases l with
      | nil =>
        rw [hrs] at hq
        obtain ⟨v, x, h1, h2, h3⟩ := res1T_sound hcx r' ht hq
        have hm : (fn.results.toList.mapM (resVal P a'.tmps)).run P w' = .ok [v] w' := by
          rw [hrs]; simp [List.mapM_cons, h2]
        exact ⟨v, results_run hm, v, x, tb, s'.hs, rfl, r'.hs2, h1, r'.below, h3, htb⟩
      | cons rv2 l => exact hmany (by rw [hrs] at hq ⊢; exact hq) (by rw [hrs]; simp)
  rintro ex a' w' ⟨s', r', hq⟩
  cases ex with
  | normal => exact fin s' a' w' r' hq
  | ret => exact fin s' a' w' r' hq
  | _ => exact hq.elim

end
end Go.Proofs.Yteklanjooalkdaa

namespace Go.Proofs.Yteklanjooalkdaa
open Go Go.RowKit Go.ChangeShapes Go.WideShapes Go.ChangeAt

section
variable {H : Type} {enc : TypeId × Value → H} {P : Program}

theorem trodAll_stays (hl : laidOutB P = true) {W W' : World} {sp : Nat → Bool} : ∀ {ts : List TypeId} {vs : List Value} {ds : List (DataW H)} {ps : List MemPlace},
    (∀ t ∈ ts, P.readableRec t = true ∧ t < P.types.size) → DataW.TrodAll enc P W 0 (fun _ => true) true ts vs ds ps → (∀ p ∈ ps, W.sameAt W' p) → (∀ p ∈ ps, sp p.block = true) → DataW.TrodAll enc P W' 0 sp true ts vs ds ps
  | [], vs, ds, ps, _, h, _, _ => by
    obtain ⟨rfl, rfl, rfl⟩ := trodAll_nil h
    exact trodAll_mk0
  | t :: ts, vs, ds, ps, ht, h, h1, h2 => by
    obtain ⟨v, vs', d, ds', p, q, rfl, rfl, rfl, h3, h4⟩ := trodAll_cons h
    exact ⟨p, q, WideElems.Trod_stays hl (ht t (by simp)).1 (ht t (by simp)).2 h3 (fun x hx => h1 x (by simp [hx])) (fun x hx => h2 x (by simp [hx])),
      trodAll_stays hl (fun t' ht' => ht t' (by simp [ht'])) h4 (fun x hx => h1 x (by simp [hx])) (fun x hx => h2 x (by simp [hx])), rfl⟩

theorem trodAll_len {W : World} {b : Nat} {sp : Nat → Bool} {hd : Bool} : ∀ {ts : List TypeId} {vs : List Value} {ds : List (DataW H)} {ps : List MemPlace}, DataW.TrodAll enc P W b sp hd ts vs ds ps → vs.length = ts.length ∧ ds.length = ts.length
  | [], vs, ds, ps, h => by obtain ⟨rfl, rfl, rfl⟩ := trodAll_nil h; simp
  | t :: ts, vs, ds, ps, h => by
    obtain ⟨v, vs', d, ds', p, q, rfl, rfl, rfl, h3, h4⟩ := trodAll_cons h
    have := trodAll_len h4
    simp [this]

theorem law_post {fn : Func} {s : ChangeSpec} {apart fresh handsOn again : Bool} {W W' : World} {args : Array Value} {ds gs : List (DataW H)} {before : List MemPlace} {tb : TypeId}
    (hl : laidOutB P = true) (hts : ∀ t ∈ fn.params.toList, P.readableRec t = true ∧ t < P.types.size) (hv : s.vars = []) (hr : fn.resultTypes = #[tb]) (htb : P.underlying tb = some .bool)
    (hs : ∀ ds : List (DataW H), ds.length = fn.params.size → (s.fn H (ds ++ [])).results = [.lit (.bool true)] ∧ (s.fn H (ds ++ [])).args = ds ∧ (s.fn H (ds ++ [])).vars = [])
    (hW : DataW.Whole enc P fn.params.toList s.vars apart W args.toList ds gs before) (hb : Below W.heap.size W W') :
    s.post enc P fn apart fresh handsOn again W args (.bool true) W' := by
  have hlt := hW.lt
  have hW' := hW
  obtain ⟨p, q, hA, hV, rfl, hfz, hnd⟩ := hW
  rw [hv] at hV
  obtain ⟨rfl, rfl⟩ := trodVars_none hV
  simp only [List.append_nil] at hlt hfz hnd hW'
  obtain ⟨h1, h2, h3⟩ := hs ds (by have := (trodAll_len hA).2; simpa using this)
  have hargs : ∀ sp : Nat → Bool, (∀ x ∈ p, sp x.block = true) → DataW.TrodAll enc P W' 0 sp true fn.params.toList args.toList ds p :=
    fun sp hsp => trodAll_stays hl hts hA (fun x hx => hb.same (hlt x hx)) hsp
  have hres : ∀ b sp hd, DataW.TrodAll enc P W' b sp hd fn.resultTypes.toList ((Value.bool true).resultList fn.resultTypes.size) [.lit (.bool true)] [] := by
    intro b sp hd
    rw [hr]
    exact trodAll_mk1 (shut_bool htb true)
  refine ⟨ds, [], p, [], p, [], by simpa using hW', by rw [h1]; exact hres _ _ _, by rw [h2]; exact hargs _ (fun x hx => by simpa using hlt x hx), by rw [hv, h3]; rfl, hb.frame _, fun _ => ?_⟩
  refine ⟨ok_one hr rfl (okWide_bool_mk htb true), _, [], [] ++ p, ⟨[] ++ p, [], trodAll_append (hargs _ (fun _ _ => rfl)) (hres _ _ _), by rw [hv]; rfl, by simp, ?_, ?_⟩, ?_⟩
  · intro b off hp
    have hp' : MemPlace.cell b off ∈ p := by simpa using hp
    rw [hb.frozen (p := ⟨b, off, none⟩) (hlt _ hp')]
    exact hfz b off hp'
  · intro ha; simpa using hnd ha
  · intro x hx _; simpa using hx

/-- from the contract to the form in which the row is asked -/
theorem law_lifted {C : Checked} {f : Nat} {fn : Func} {s : ChangeSpec} {tb : TypeId} {os : Os} (own : ownKnob C.prog.godebug = none) (started : os.Started) (noInit : C.prog.inits.idxOf? f = none) (hfn : C.prog.funcs[f]? = some fn)
    (hl : laidOutB C.prog = true) (hts : ∀ t ∈ fn.params.toList, C.prog.readableRec t = true ∧ t < C.prog.types.size) (hv : s.vars = []) (hr : fn.resultTypes = #[tb]) (htb : C.prog.underlying tb = some .bool)
    (hs : ∀ ds : List (DataW H), ds.length = fn.params.size → (s.fn H (ds ++ [])).results = [.lit (.bool true)] ∧ (s.fn H (ds ++ [])).args = ds ∧ (s.fn H (ds ++ [])).vars = [])
    (witness : ∃ (w : World) (tape : Tape) (i : Input), w.os = os ∧ (w.forCall tape i).Shaped C.prog ∧ i.vars = [] ∧ Input.okWide C.prog (w.forCall tape i) .any w.heap.size f i ∧
      s.pre6 enc C.prog fn [] false (w.forCall tape i).memory i.args ∧ Assume.holds {} C.prog (lone (Frame.enter C.prog f i.args .normal) [] (w.forCall tape i)))
    (h : ∀ (W : World) (args : Array Value) (ds : List (DataW H)) (ps : List MemPlace), (∀ (j : Nat) t v, fn.params[j]? = some t → args[j]? = some v → ∃ base, Value.okWide C.prog W .any base t v) →
      DataW.TrodAll enc C.prog W 0 (fun _ => true) true fn.params.toList args.toList ds ps → Calls C.prog f args W fun e W' => e = .returned (.bool true) ∧ Below W.heap.size W W') :
    ReturnsInHanded {} C os f .any (s.pre6 enc C.prog fn [] false) (s.post enc C.prog fn false true false false) := by
  refine returnsInHanded_of_change own started noInit hfn witness ?_
  intro W base args ds gs before hval hW _ _
  obtain ⟨p, q, hA, _⟩ := id hW
  refine (h W args ds p (fun j t v h1 h2 => ⟨base, hval j t v h1 h2⟩) hA).mono fun e W' ⟨he, hb⟩ => ?_
  subst he
  exact ⟨_, rfl, law_post hl hts hv hr htb hs hW hb⟩

end
end Go.Proofs.Yteklanjooalkdaa

namespace Go.Proofs.Yteklanjooalkdaa
open Go Go.RowKit Go.ChangeShapes Go.WideShapes Go.ChangeAt

/-- every block that is there may be read -/
abbrev okAll (w : World) : OkB := okF (fun _ => False) (fun _ => False) w.heap.size

section
variable {H : Type} {enc : TypeId × Value → H} {P : Program} {w : World}

/-- type t, of n cells, reads as Ty says -/
def Reads (enc : TypeId × Value → H) (P : Program) (w : World) (t : TypeId) (n : Nat) (Ty : List V → Prop) : Prop :=
  ∀ fuel cs d ps, DataW.trod enc P w 0 (fun _ => true) true fuel t cs = some (d, ps) → cs.length = n ∧ ∃ xs, Ty xs ∧ xs.length = n ∧ (∀ x ∈ xs, x.isCell = true) ∧ ∀ j, j < n → Rep (okAll w) w.heap (xs.getD j .nil) (cs.getD j undef)

def TyInt (xs : List V) : Prop := ∃ n, xs = [.int .i64 n] ∧ inR n
def TyInts (xs : List V) : Prop := ∃ l : List Int, xs = [.ints none l] ∧ (∀ x ∈ l, inR x) ∧ l.length ≤ maxLen
theorem wf_i64 {n : Int} (h : (Lit.int .i64 n).wf = true) : inR n := by
  simp only [Lit.wf, Bool.and_eq_true, decide_eq_true_eq] at h
  have h1 : IntKind.i64.min = -9223372036854775808 := rfl
  have h2 : IntKind.i64.max = 9223372036854775807 := rfl
  constructor <;> omega

theorem reads_int {t : TypeId} (ht : P.underlying t = some (.int .i64)) : Reads enc P w t 1 TyInt := by
  intro fuel cs d ps h
  obtain ⟨n, hc, hx, hw⟩ := DataW.trod_int ht h
  subst hc
  refine ⟨rfl, _, ⟨n, rfl, wf_i64 hw⟩, rfl, by simp [V.isCell], fun j hj => ?_⟩
  obtain rfl : j = 0 := by omega
  exact .int _ _

theorem rcell_at {w : World} {a : Addr} {v : Value} (h : w.cell? a = some v) : ∃ cur e fr, a = ⟨a.block, a.off, none⟩ ∧ a.block < w.heap.size ∧ w.heap[a.block]? = some (.cells cur e fr) ∧ cur[a.off]? = some v := by
  unfold World.cell? at h
  split at h
  · rename_i c e fr hb
    split at h
    · cases h
    · rename_i hs
      refine ⟨c, e, fr, ?_, (Array.getElem?_eq_some_iff.1 hb).1, hb, h⟩
      obtain ⟨b, o, s⟩ := a
      cases s <;> simp_all
  · cases h

theorem add_block (a : Addr) (n : Nat) : (a.add n).block = a.block := by unfold Addr.add; split <;> rfl
theorem add_off (a : Addr) (n : Nat) : (a.add n).off = a.off + n := by unfold Addr.add; split <;> simp_all

theorem reads_ints {t e : TypeId} (ht : P.underlying t = some (.slice e)) (he : P.underlying e = some (.int .i64)) (hc : P.cellsOf e = 1) : Reads enc P w t 1 TyInts := by
  intro fuel cs d ps h
  rcases open_ints ht he hc h with ⟨rfl, _⟩ | ⟨a, len, cap, zs, rfl, _, hl, hm, hz, _, hcell, hwf⟩
  · refine ⟨rfl, _, ⟨[], rfl, by simp, by simp [maxLen]⟩, rfl, by simp [V.isCell], fun j hj => ?_⟩
    obtain rfl : j = 0 := by omega
    exact .ints none [] none 0 (Nat.le_refl _) (by simp [maxLen]) (fun j hj => by simp at hj)
  · simp only [if_true] at hz
    have hlen : (zs.take len).length = len := by simp; omega
    refine ⟨rfl, _, ⟨zs.take len, rfl, fun x hx => wf_i64 (hwf x (List.mem_of_mem_take hx)), by omega⟩, rfl, by simp [V.isCell], fun j hj => ?_⟩
    obtain rfl : j = 0 := by omega
    show Rep _ _ (.ints none (zs.take len)) (.slice (some a) len cap)
    have := Rep.ints (ok := okAll w) (h := w.heap) none (zs.take len) (some a) cap (by omega) hm (fun j hj => by
      have h0 := hcell 0 (by omega)
      obtain ⟨_, _, _, ha0, _, _, _⟩ := rcell_at h0
      have ha : a = ⟨a.block, a.off, none⟩ := by
        have : a.add 0 = a := by simp [Addr.add]
        rw [this] at ha0; exact ha0
      have h1 := hcell j (by omega)
      obtain ⟨cur, el, fr, _, hlt, hb, hv⟩ := rcell_at h1
      rw [add_block] at hlt hb
      rw [add_off] at hv
      refine ⟨a.block, a.off, cur, el, fr, by rw [← ha], ⟨hlt, fun h => h, fun h => h⟩, hb, ?_⟩
      rw [hv]
      simp [List.getD, show j < len by omega])
    rw [hlen] at this
    exact this

/-- an argument that is one cell -/
theorem arg_cell {t : TypeId} {Ty : List V → Prop} {v : Value} {d : DataW H} {ps : List MemPlace} (hr : Reads enc P w t 1 Ty) (h : DataW.Trod enc P w 0 (fun _ => true) true t v d ps) (hv : ∀ cs, v ≠ .agg cs) :
    ∃ x, Ty [x] ∧ Rep (okAll w) w.heap x v := by
  obtain ⟨fuel, h⟩ := h
  obtain ⟨h1, xs, h2, h3, h4, h5⟩ := hr fuel _ d ps h
  match xs, h3 with
  | [x], _ =>
    refine ⟨x, h2, ?_⟩
    have := h5 0 (by omega)
    have e : v.cells.toList.getD 0 undef = v := by cases v <;> simp_all [Value.cells]
    rw [e] at this
    exact this

end
end Go.Proofs.Yteklanjooalkdaa
