/- An evaluator of the model's code over plain values, and that it is sound. No conditions. -/
import Derived.Test.YteklanjooalkdaaPb
import Derived.ProofKit
import Derived.Carry
import Derived.ChangeSame
import Derived.Deep.Slices
namespace Go.Proofs.Yteklanjooalkdaa
open Go Go.RowKit Go.ChangeShapes Go.WideShapes Go.ChangeAt

section
variable {H : Type} {enc : TypeId × Value → H} {P : Program}

theorem trodAll_stays (hl : laidOutB P = true) {W W' : World} {sp : Nat → Bool} : ∀ {ts : List TypeId} {vs : List Value} {ds : List (DataW H)} {ps : List MemPlace},
    (∀ t ∈ ts, P.readableRec t = true ∧ t < P.types.size) → DataW.TrodAll enc P W 0 (fun _ => true) true ts vs ds ps → (∀ p ∈ ps, W.sameAt W' p) → (∀ p ∈ ps, sp p.block = true) → DataW.TrodAll enc P W' 0 sp true ts vs ds ps
  | [], vs, ds, ps, _, h, _, _ => by
    obtain ⟨rfl, rfl, rfl⟩ := trodAll_nil h
    exact trodAll_mk0
  | t :: ts, vs, ds, ps, ht, h, h1, h2 => by
    obtain ⟨v, vs', d, ds', p, q, rfl, rfl, rfl, h3, h4⟩ := trodAll_cons h
    exact ⟨p, q, WideElems.Trod_stays hl (ht t (by simp)).1 (ht t (by simp)).2 h3 (fun x hx => h1 x (by simp [hx])) (fun x hx => h2 x (by simp [hx])),
      trodAll_stays hl (fun t' ht' => ht t' (by simp [ht'])) h4 (fun x hx => h1 x (by simp [hx])) (fun x hx => h2 x (by simp [hx])), rfl⟩

theorem trodAll_len {W : World} {b : Nat} {sp : Nat → Bool} {hd : Bool} : ∀ {ts : List TypeId} {vs : List Value} {ds : List (DataW H)} {ps : List MemPlace}, DataW.TrodAll enc P W b sp hd ts vs ds ps → vs.length = ts.length ∧ ds.length = ts.length
  | [], vs, ds, ps, h => by obtain ⟨rfl, rfl, rfl⟩ := trodAll_nil h; simp
  | t :: ts, vs, ds, ps, h => by
    obtain ⟨v, vs', d, ds', p, q, rfl, rfl, rfl, h3, h4⟩ := trodAll_cons h
    have := trodAll_len h4
    simp [this]

theorem law_post {fn : Func} {s : ChangeSpec} {apart fresh handsOn again : Bool} {W W' : World} {args : Array Value} {ds gs : List (DataW H)} {before : List MemPlace} {tb : TypeId}
    (hl : laidOutB P = true) (hts : ∀ t ∈ fn.params.toList, P.readableRec t = true ∧ t < P.types.size) (hv : s.vars = []) (hr : fn.resultTypes = #[tb]) (htb : P.underlying tb = some .bool)
    (hs : ∀ ds : List (DataW H), ds.length = fn.params.size → (s.fn H (ds ++ [])).results = [.lit (.bool true)] ∧ (s.fn H (ds ++ [])).args = ds ∧ (s.fn H (ds ++ [])).vars = [])
    (hW : DataW.Whole enc P fn.params.toList s.vars apart W args.toList ds gs before) (hb : Below W.heap.size W W') :
    s.post enc P fn apart fresh handsOn again W args (.bool true) W' := by
  have hlt := hW.lt
  have hW' := hW
  obtain ⟨p, q, hA, hV, rfl, hfz, hnd⟩ := hW
  rw [hv] at hV
  obtain ⟨rfl, rfl⟩ := trodVars_none hV
  simp only [List.append_nil] at hlt hfz hnd hW'
  obtain ⟨h1, h2, h3⟩ := hs ds (by have := (trodAll_len hA).2; simpa using this)
  have hargs : ∀ sp : Nat → Bool, (∀ x ∈ p, sp x.block = true) → DataW.TrodAll enc P W' 0 sp true fn.params.toList args.toList ds p :=
    fun sp hsp => trodAll_stays hl hts hA (fun x hx => hb.same (hlt x hx)) hsp
  have hres : ∀ b sp hd, DataW.TrodAll enc P W' b sp hd fn.resultTypes.toList ((Value.bool true).resultList fn.resultTypes.size) [.lit (.bool true)] [] := by
    intro b sp hd
    rw [hr]
    exact trodAll_mk1 (shut_bool htb true)
  refine ⟨ds, [], p, [], p, [], by simpa using hW', by rw [h1]; exact hres _ _ _, by rw [h2]; exact hargs _ (fun x hx => by simpa using hlt x hx), by rw [hv, h3]; rfl, hb.frame _, fun _ => ?_⟩
  refine ⟨ok_one hr rfl (okWide_bool_mk htb true), _, [], [] ++ p, ⟨[] ++ p, [], trodAll_append (hargs _ (fun _ _ => rfl)) (hres _ _ _), by rw [hv]; rfl, by simp, ?_, ?_⟩, ?_⟩
  · intro b off hp
    have hp' : MemPlace.cell b off ∈ p := by simpa using hp
    rw [hb.frozen (p := ⟨b, off, none⟩) (hlt _ hp')]
    exact hfz b off hp'
  · intro ha; simpa using hnd ha
  · intro x hx _; simpa using hx

/-- from the contract to the form in which the row is asked -/
theorem law_lifted {C : Checked} {f : Nat} {fn : Func} {s : ChangeSpec} {tb : TypeId} {os : Os} (own : ownKnob C.prog.godebug = none) (started : os.Started) (noInit : C.prog.inits.idxOf? f = none) (hfn : C.prog.funcs[f]? = some fn)
    (hl : laidOutB C.prog = true) (hts : ∀ t ∈ fn.params.toList, C.prog.readableRec t = true ∧ t < C.prog.types.size) (hv : s.vars = []) (hr : fn.resultTypes = #[tb]) (htb : C.prog.underlying tb = some .bool)
    (hs : ∀ ds : List (DataW H), ds.length = fn.params.size → (s.fn H (ds ++ [])).results = [.lit (.bool true)] ∧ (s.fn H (ds ++ [])).args = ds ∧ (s.fn H (ds ++ [])).vars = [])
    (witness : ∃ (w : World) (tape : Tape) (i : Input), w.os = os ∧ (w.forCall tape i).Shaped C.prog ∧ i.vars = [] ∧ Input.okWide C.prog (w.forCall tape i) .any w.heap.size f i ∧
      s.pre6 enc C.prog fn [] false (w.forCall tape i).memory i.args ∧ Assume.holds {} C.prog (lone (Frame.enter C.prog f i.args .normal) [] (w.forCall tape i)))
    (h : ∀ (W : World) (args : Array Value) (ds : List (DataW H)) (ps : List MemPlace), (∀ (j : Nat) t v, fn.params[j]? = some t → args[j]? = some v → ∃ base, Value.okWide C.prog W .any base t v) →
      DataW.TrodAll enc C.prog W 0 (fun _ => true) true fn.params.toList args.toList ds ps → Calls C.prog f args W fun e W' => e = .returned (.bool true) ∧ Below W.heap.size W W') :
    ReturnsInHanded {} C os f .any (s.pre6 enc C.prog fn [] false) (s.post enc C.prog fn false true false false) := by
  refine returnsInHanded_of_change own started noInit hfn witness ?_
  intro W base args ds gs before hval hW _ _
  obtain ⟨p, q, hA, _⟩ := id hW
  refine (h W args ds p (fun j t v h1 h2 => ⟨base, hval j t v h1 h2⟩) hA).mono fun e W' ⟨he, hb⟩ => ?_
  subst he
  exact ⟨_, rfl, law_post hl hts hv hr htb hs hW hb⟩

end
end Go.Proofs.Yteklanjooalkdaa

namespace Go.Proofs.Yteklanjooalkdaa
open Go Go.RowKit Go.ChangeShapes Go.WideShapes Go.ChangeAt

/-- every block that is there may be read -/
abbrev okAll (w : World) : OkB := okF (fun _ => False) (fun _ => False) w.heap.size

section
variable {H : Type} {enc : TypeId × Value → H} {P : Program} {w : World}

/-- type t, of n cells, reads as Ty says -/
def Reads (enc : TypeId × Value → H) (P : Program) (w : World) (t : TypeId) (n : Nat) (Ty : List V → Prop) : Prop :=
  ∀ fuel cs d ps, DataW.trod enc P w 0 (fun _ => true) true fuel t cs = some (d, ps) → cs.length = n ∧ ∃ xs, Ty xs ∧ xs.length = n ∧ (∀ x ∈ xs, x.isCell = true) ∧ ∀ j, j < n → Rep (okAll w) w.heap (xs.getD j .nil) (cs.getD j undef)

def TyInt (xs : List V) : Prop := ∃ n, xs = [.int .i64 n] ∧ inR n
def TyInts (xs : List V) : Prop := ∃ l : List Int, xs = [.ints none l] ∧ (∀ x ∈ l, inR x) ∧ l.length ≤ maxLen
theorem wf_i64 {n : Int} (h : (Lit.int .i64 n).wf = true) : inR n := by
  simp only [Lit.wf, Bool.and_eq_true, decide_eq_true_eq] at h
  have h1 : IntKind.i64.min = -9223372036854775808 := rfl
  have h2 : IntKind.i64.max = 9223372036854775807 := rfl
  constructor <;> omega

theorem reads_int {t : TypeId} (ht : P.underlying t = some (.int .i64)) : Reads enc P w t 1 TyInt := by
  intro fuel cs d ps h
  obtain ⟨n, hc, hx, hw⟩ := DataW.trod_int ht h
  subst hc
  refine ⟨rfl, _, ⟨n, rfl, wf_i64 hw⟩, rfl, by simp [V.isCell], fun j hj => ?_⟩
  obtain rfl : j = 0 := by omega
  exact .int _ _

theorem rcell_at {w : World} {a : Addr} {v : Value} (h : w.cell? a = some v) : ∃ cur e fr, a = ⟨a.block, a.off, none⟩ ∧ a.block < w.heap.size ∧ w.heap[a.block]? = some (.cells cur e fr) ∧ cur[a.off]? = some v := by
  unfold World.cell? at h
  split at h
  · rename_i c e fr hb
    split at h
    · cases h
    · rename_i hs
      refine ⟨c, e, fr, ?_, (Array.getElem?_eq_some_iff.1 hb).1, hb, h⟩
      obtain ⟨b, o, s⟩ := a
      cases s <;> simp_all
  · cases h

theorem add_block (a : Addr) (n : Nat) : (a.add n).block = a.block := by unfold Addr.add; split <;> rfl
theorem add_off (a : Addr) (n : Nat) : (a.add n).off = a.off + n := by unfold Addr.add; split <;> simp_all

theorem reads_ints {t e : TypeId} (ht : P.underlying t = some (.slice e)) (he : P.underlying e = some (.int .i64)) (hc : P.cellsOf e = 1) : Reads enc P w t 1 TyInts := by
  intro fuel cs d ps h
  rcases open_ints ht he hc h with ⟨rfl, _⟩ | ⟨a, len, cap, zs, rfl, _, hl, hm, hz, _, hcell, hwf⟩
  · refine ⟨rfl, _, ⟨[], rfl, by simp, by simp [maxLen]⟩, rfl, by simp [V.isCell], fun j hj => ?_⟩
    obtain rfl : j = 0 := by omega
    exact .ints none [] none 0 (Nat.le_refl _) (by simp [maxLen]) (fun j hj => by simp at hj)
  · simp only [if_true] at hz
    have hlen : (zs.take len).length = len := by simp; omega
    refine ⟨rfl, _, ⟨zs.take len, rfl, fun x hx => wf_i64 (hwf x (List.mem_of_mem_take hx)), by omega⟩, rfl, by simp [V.isCell], fun j hj => ?_⟩
    obtain rfl : j = 0 := by omega
    show Rep _ _ (.ints none (zs.take len)) (.slice (some a) len cap)
    have := Rep.ints (ok := okAll w) (h := w.heap) none (zs.take len) (some a) cap (by omega) hm (fun j hj => by
      have h0 := hcell 0 (by omega)
      obtain ⟨_, _, _, ha0, _, _, _⟩ := rcell_at h0
      have ha : a = ⟨a.block, a.off, none⟩ := by
        have : a.add 0 = a := by simp [Addr.add]
        rw [this] at ha0; exact ha0
      have h1 := hcell j (by omega)
      obtain ⟨cur, el, fr, _, hlt, hb, hv⟩ := rcell_at h1
      rw [add_block] at hlt hb
      rw [add_off] at hv
      refine ⟨a.block, a.off, cur, el, fr, by rw [← ha], ⟨hlt, fun h => h, fun h => h⟩, hb, ?_⟩
      rw [hv]
      simp [List.getD, show j < len by omega])
    rw [hlen] at this
    exact this

/-- fields one behind the other -/
def TyCat : List (List V → Prop) → List V → Prop
  | [], xs => xs = []
  | Ty :: r, xs => ∃ ys zs, xs = ys ++ zs ∧ Ty ys ∧ TyCat r zs

/-- fields as they lie: offset, type, number of cells, what is read there -/
def FieldsAt (enc : TypeId × Value → H) (P : Program) (w : World) : Nat → List Field → List (List V → Prop) → Nat → Prop
  | o, [], [], n => o = n
  | o, f :: fs, Ty :: r, n => f.offset = o ∧ ∃ k, P.cellsOf f.type = k ∧ Reads enc P w f.type k Ty ∧ FieldsAt enc P w (o + k) fs r n
  | _, _, _, _ => False

theorem fields_read {fu : Nat} {cs : List Value} {n : Nat} (hl : cs.length = n) : ∀ {fs : List Field} {Tys : List (List V → Prop)} {o : Nat}, FieldsAt enc P w o fs Tys n → o ≤ n →
    (∀ f ∈ fs, ∃ z, DataW.trod enc P w 0 (fun _ => true) true fu f.type ((cs.drop f.offset).take (P.cellsOf f.type)) = some z) →
    ∃ xs, TyCat Tys xs ∧ xs.length = n - o ∧ (∀ x ∈ xs, x.isCell = true) ∧ ∀ j, j < n - o → Rep (okAll w) w.heap (xs.getD j .nil) (cs.getD (o + j) undef)
  | [], [], o, h, ho, hf => ⟨[], rfl, by have : o = n := h; simp; omega, by simp, fun j hj => by have : o = n := h; omega⟩
  | f :: fs, Ty :: r, o, h, ho, hf => by
    obtain ⟨h1, k, h2, h3, h4⟩ := h
    obtain ⟨⟨d, ps⟩, hz⟩ := hf f (by simp)
    obtain ⟨hk, ys, h5, h6, h7, h8⟩ := h3 _ _ _ _ hz
    rw [h1, h2] at hk h8
    simp only [List.length_take, List.length_drop] at hk
    obtain ⟨zs, h9, h10, h11, h12⟩ := fields_read hl h4 (by omega) (fun f' hf' => hf f' (by simp [hf']))
    refine ⟨ys ++ zs, ⟨ys, zs, rfl, h5, h9⟩, by simp; omega, fun x hx => ?_, fun j hj => ?_⟩
    · rcases List.mem_append.1 hx with h | h
      · exact h7 x h
      · exact h11 x h
    · by_cases hjk : j < k
      · have := h8 j hjk
        rw [List.getD_eq_getElem?_getD, List.getElem?_append_left (by omega), ← List.getD_eq_getElem?_getD]
        have e : ((cs.drop o).take k).getD j undef = cs.getD (o + j) undef := by
          simp [List.getD_eq_getElem?_getD, hjk]
        rw [e] at this
        exact this
      · have := h12 (j - k) (by omega)
        rw [List.getD_eq_getElem?_getD, List.getElem?_append_right (by omega), ← List.getD_eq_getElem?_getD, h6]
        rw [show o + k + (j - k) = o + j by omega] at this
        exact this
  | [], _ :: _, o, h, _, _ => h.elim
  | _ :: _, [], o, h, _, _ => h.elim

theorem reads_struct {t : TypeId} {fs : Array Field} {n : Nat} {Tys : List (List V → Prop)} (ht : P.underlying t = some (.struct fs)) (hn : P.cellsOf t = n) (hf : FieldsAt enc P w 0 fs.toList Tys n) : Reads enc P w t n (TyCat Tys) := by
  intro fuel cs d ps h
  obtain ⟨xs, fu, _, _, hl, hlen, hx⟩ := DataW.trod_struct ht h
  rw [hn] at hl
  obtain ⟨ys, h1, h2, h3, h4⟩ := fields_read (fu := fu) hl hf (Nat.zero_le _) (fun f hfm => by
    obtain ⟨i, hi, he⟩ := List.mem_iff_getElem.1 hfm
    have hi' : i < fs.size := by simpa using hi
    have := hx i f (by rw [Array.getElem?_eq_getElem hi']; simpa using he)
    rw [this, List.getElem?_eq_getElem (by omega)]
    exact ⟨_, rfl⟩)
  exact ⟨hl, ys, h1, by omega, h3, fun j hj => by simpa using h4 j (by omega)⟩

/-- an argument that is a struct -/
theorem arg_agg {t : TypeId} {n : Nat} {Ty : List V → Prop} {cs : Array Value} {d : DataW H} {ps : List MemPlace} (hr : Reads enc P w t n Ty) (h : DataW.Trod enc P w 0 (fun _ => true) true t (.agg cs) d ps) :
    ∃ xs, Ty xs ∧ Rep (okAll w) w.heap (.agg xs) (.agg cs) := by
  obtain ⟨fuel, h⟩ := h
  obtain ⟨h1, xs, h2, h3, h4, h5⟩ := hr fuel _ d ps h
  have e : (Value.agg cs).cells.toList = cs.toList := by simp [Value.cells]
  rw [e] at h1 h5
  refine ⟨xs, h2, .agg xs cs (by simpa [h3] using h1) (by simpa [List.all_eq_true] using h4) (fun j hj => ?_)⟩
  have := h5 j (by omega)
  simpa [List.getD_eq_getElem?_getD, Array.getD_eq_getD_getElem?] using this

end
end Go.Proofs.Yteklanjooalkdaa
