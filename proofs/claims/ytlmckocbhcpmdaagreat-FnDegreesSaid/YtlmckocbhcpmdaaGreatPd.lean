/- Plain mathematics of polynomials by a prime. No conditions. -/
import Derived.Test.YtlmckocbhcpmdaaGreatPc
namespace Go.Proofs.YtlmckocbhcpmdaaGreat

class CR (α : Type) [Add α] [Mul α] [Neg α] [Sub α] [OfNat α 0] [OfNat α 1] : Prop where
 add_comm : ∀ a b : α, a + b = b + a
 add_assoc : ∀ a b c : α, a + b + c = a + (b + c)
 add_zero : ∀ a : α, a + 0 = a
 add_neg : ∀ a : α, a + -a = 0
 sub_def : ∀ a b : α, a - b = a + -b
 mul_comm : ∀ a b : α, a * b = b * a
 mul_assoc : ∀ a b c : α, a * b * c = a * (b * c)
 one_mul : ∀ a : α, 1 * a = a
 add_mul : ∀ a b c : α, (a + b) * c = a * c + b * c

inductive RE where
 | at (n : Nat)
 | zero
 | one
 | add (a b : RE)
 | sub (a b : RE)
 | mul (a b : RE)
 | neg (a : RE)

abbrev RM := List (Bool × List Nat)

def insN (a : Nat) : List Nat → List Nat
 | [] => [a]
 | b :: l => bif Nat.ble a b then a :: b :: l else b :: insN a l
def mulN : List Nat → List Nat → List Nat
 | [], m => m
 | a :: l, m => insN a (mulN l m)
def flipM : RM → RM
 | [] => []
 | (s, m) :: r => (!s, m) :: flipM r
def mul1 (s : Bool) (m : List Nat) : RM → RM
 | [] => []
 | (t, k) :: r => (s == t, mulN m k) :: mul1 s m r
def mulM : RM → RM → RM
 | [], _ => []
 | (s, m) :: r, k => mul1 s m k ++ mulM r k
def RE.ex : RE → RM
 | .at n => [(true, [n])]
 | .zero => []
 | .one => [(true, [])]
 | .add a b => a.ex ++ b.ex
 | .sub a b => a.ex ++ flipM b.ex
 | .mul a b => mulM a.ex b.ex
 | .neg a => flipM a.ex
def remM (s : Bool) (m : List Nat) : RM → Option RM
 | [] => none
 | (t, k) :: r => bif t == s && k == m then some r else match remM s m r with
  | some r' => some ((t, k) :: r')
  | none => none
def cancM : Nat → RM → Bool
 | _, [] => true
 | 0, _ => false
 | n + 1, (s, m) :: r => match remM (!s) m r with
  | some r' => cancM n r'
  | none => false
def RE.chk (a b : RE) : Bool := cancM 1000 (a.ex ++ flipM b.ex)

section
variable {α : Type} [Add α] [Mul α] [Neg α] [Sub α] [OfNat α 0] [OfNat α 1]

def atM (ctx : List α) (n : Nat) : α := match ctx, n with
 | [], _ => 0
 | a :: _, 0 => a
 | _ :: r, n + 1 => atM r n
def RE.ev (ctx : List α) : RE → α
 | .at n => atM ctx n
 | .zero => 0
 | .one => 1
 | .add a b => a.ev ctx + b.ev ctx
 | .sub a b => a.ev ctx - b.ev ctx
 | .mul a b => a.ev ctx * b.ev ctx
 | .neg a => -a.ev ctx
def evN (ctx : List α) : List Nat → α
 | [] => 1
 | a :: l => atM ctx a * evN ctx l
def ev1 (ctx : List α) (s : Bool) (m : List Nat) : α := bif s then evN ctx m else -evN ctx m
def evM (ctx : List α) : RM → α
 | [] => 0
 | (s, m) :: r => ev1 ctx s m + evM ctx r

variable [CR α]
namespace CR
theorem zero_add (a : α) : 0 + a = a := by rw [CR.add_comm, CR.add_zero]
theorem left_cancel {a b c : α} (h : a + b = a + c) : b = c := by
 have h1 : -a + (a + b) = -a + (a + c) := by rw [h]
 rw [← CR.add_assoc, ← CR.add_assoc, CR.add_comm (-a) a, CR.add_neg, zero_add, zero_add] at h1
 exact h1
theorem left_comm (a b c : α) : a + (b + c) = b + (a + c) := by rw [← CR.add_assoc, CR.add_comm a b, CR.add_assoc]
theorem mul_left_comm (a b c : α) : a * (b * c) = b * (a * c) := by rw [← CR.mul_assoc, CR.mul_comm a b, CR.mul_assoc]
theorem zero_mul (a : α) : 0 * a = 0 := by
 have h : 0 * a + 0 * a = 0 * a + 0 := by rw [← CR.add_mul, CR.add_zero, CR.add_zero]
 exact left_cancel h
theorem neg_unique {a b : α} (h : a + b = 0) : b = -a := left_cancel (by rw [h, CR.add_neg])
theorem neg_zero : -(0 : α) = 0 := (neg_unique (CR.add_zero 0)).symm
theorem neg_neg (a : α) : -(-a) = a := (neg_unique (by rw [CR.add_comm, CR.add_neg])).symm
theorem neg_add (a b : α) : -(a + b) = -a + -b := (neg_unique (by
 rw [CR.add_assoc, left_comm b, ← CR.add_assoc, CR.add_neg, CR.add_neg, CR.add_zero])).symm
theorem neg_mul (a b : α) : -a * b = -(a * b) := neg_unique (by rw [← CR.add_mul, CR.add_neg, zero_mul])
theorem mul_zero (a : α) : a * 0 = 0 := by rw [CR.mul_comm, zero_mul]
theorem mul_neg (a b : α) : a * -b = -(a * b) := by rw [CR.mul_comm, neg_mul, CR.mul_comm]
theorem mul_add (a b c : α) : a * (b + c) = a * b + a * c := by rw [CR.mul_comm, CR.add_mul, CR.mul_comm b, CR.mul_comm c]
theorem mul_one (a : α) : a * 1 = a := by rw [CR.mul_comm, CR.one_mul]
theorem sub_self (a : α) : a - a = 0 := by rw [CR.sub_def, CR.add_neg]
theorem eq_of_sub {a b : α} (h : a - b = 0) : a = b := by
 rw [CR.sub_def] at h
 have := neg_unique (a := -b) (b := a) (by rw [CR.add_comm, h])
 rw [this, neg_neg]
end CR

theorem evN_ins (ctx : List α) (a : Nat) : ∀ l, evN ctx (insN a l) = atM ctx a * evN ctx l
 | [] => rfl
 | b :: l => by
  unfold insN
  cases Nat.ble a b
  ·simp only [cond_false, evN, evN_ins ctx a l, CR.mul_left_comm]
  ·rfl
theorem evN_mul (ctx : List α) : ∀ l m, evN ctx (mulN l m) = evN ctx l * evN ctx m
 | [], m => by simp only [mulN, evN, CR.one_mul]
 | a :: l, m => by simp only [mulN, evN, evN_ins, evN_mul ctx l m, CR.mul_assoc]
theorem evM_app (ctx : List α) : ∀ a b, evM ctx (a ++ b) = evM ctx a + evM ctx b
 | [], b => by simp only [List.nil_append, evM, CR.zero_add]
 | (s, m) :: a, b => by simp only [List.cons_append, evM, evM_app ctx a b, CR.add_assoc]
theorem ev1_not (ctx : List α) (s : Bool) (m : List Nat) : ev1 ctx (!s) m = -ev1 ctx s m := by
 cases s <;> simp [ev1, CR.neg_neg]
theorem evM_flip (ctx : List α) : ∀ a, evM ctx (flipM a) = -evM ctx a
 | [] => by simp only [flipM, evM, CR.neg_zero]
 | (s, m) :: a => by simp only [flipM, evM, evM_flip ctx a, ev1_not, CR.neg_add]
theorem ev1_mul (ctx : List α) (s t : Bool) (m k : List Nat) : ev1 ctx (s == t) (mulN m k) = ev1 ctx s m * ev1 ctx t k := by
 cases s <;> cases t <;> simp [ev1, evN_mul, CR.neg_mul, CR.mul_neg, CR.neg_neg]
theorem evM_mul1 (ctx : List α) (s : Bool) (m : List Nat) : ∀ b, evM ctx (mul1 s m b) = ev1 ctx s m * evM ctx b
 | [] => by simp only [mul1, evM, CR.mul_zero]
 | (t, k) :: b => by simp only [mul1, evM, evM_mul1 ctx s m b, ev1_mul, CR.mul_add]
theorem evM_mul (ctx : List α) : ∀ a b, evM ctx (mulM a b) = evM ctx a * evM ctx b
 | [], b => by simp only [mulM, evM, CR.zero_mul]
 | (s, m) :: a, b => by simp only [mulM, evM, evM_app, evM_mul1, evM_mul ctx a b, CR.add_mul]
theorem ev_ex (ctx : List α) : ∀ e : RE, evM ctx e.ex = e.ev ctx
 | .at n => by simp only [RE.ex, evM, ev1, cond_true, evN, RE.ev, CR.mul_one, CR.add_zero]
 | .zero => rfl
 | .one => by simp only [RE.ex, evM, ev1, cond_true, evN, RE.ev, CR.add_zero]
 | .add a b => by simp only [RE.ex, RE.ev, evM_app, ev_ex ctx a, ev_ex ctx b]
 | .sub a b => by simp only [RE.ex, RE.ev, evM_app, evM_flip, ev_ex ctx a, ev_ex ctx b, CR.sub_def]
 | .mul a b => by simp only [RE.ex, RE.ev, evM_mul, ev_ex ctx a, ev_ex ctx b]
 | .neg a => by simp only [RE.ex, RE.ev, evM_flip, ev_ex ctx a]
theorem evM_rem (ctx : List α) (s : Bool) (m : List Nat) : ∀ (r r' : RM), remM s m r = some r' → evM ctx r = ev1 ctx s m + evM ctx r'
 | [], _, h => by simp [remM] at h
 | (t, k) :: r, r', h => by
  unfold remM at h
  cases hc : (t == s && k == m)
  ·rw [hc] at h
   simp only [cond_false] at h
   cases hr : remM s m r with
   | none => rw [hr] at h; simp at h
   | some r2 =>
    rw [hr] at h
    simp only [Option.some.injEq] at h
    subst h
    simp only [evM, evM_rem ctx s m r r2 hr, CR.left_comm]
  ·rw [hc] at h
   simp only [cond_true, Option.some.injEq] at h
   subst h
   simp only [Bool.and_eq_true, beq_iff_eq] at hc
   obtain ⟨rfl, rfl⟩ := hc
   rfl
theorem canc_sound (ctx : List α) : ∀ n (r : RM), cancM n r = true → evM ctx r = 0
 | _, [], _ => rfl
 | 0, _ :: _, h => by simp [cancM] at h
 | n + 1, (s, m) :: r, h => by
  unfold cancM at h
  cases hr : remM (!s) m r with
  | none => rw [hr] at h; simp at h
  | some r' =>
   rw [hr] at h
   simp only [evM, evM_rem ctx (!s) m r r' hr, ev1_not, canc_sound ctx n r' h]
   rw [CR.add_zero, CR.add_neg]

class Rf (ctx : List α) (x : α) (e : outParam RE) : Prop where
 eq : e.ev ctx = x

omit [CR α]
instance (priority := high) rfAdd (ctx : List α) (x y : α) (a b : RE) [h : Rf ctx x a] [k : Rf ctx y b] : Rf ctx (x + y) (.add a b) := ⟨by rw [RE.ev, h.eq, k.eq]⟩
instance (priority := high) rfSub (ctx : List α) (x y : α) (a b : RE) [h : Rf ctx x a] [k : Rf ctx y b] : Rf ctx (x - y) (.sub a b) := ⟨by rw [RE.ev, h.eq, k.eq]⟩
instance (priority := high) rfMul (ctx : List α) (x y : α) (a b : RE) [h : Rf ctx x a] [k : Rf ctx y b] : Rf ctx (x * y) (.mul a b) := ⟨by rw [RE.ev, h.eq, k.eq]⟩
instance (priority := high) rfNeg (ctx : List α) (x : α) (a : RE) [h : Rf ctx x a] : Rf ctx (-x) (.neg a) := ⟨by rw [RE.ev, h.eq]⟩
instance (priority := high) rfZero (ctx : List α) : Rf ctx (0 : α) .zero := ⟨rfl⟩
instance (priority := high) rfOne (ctx : List α) : Rf ctx (1 : α) .one := ⟨rfl⟩
instance (priority := low) rfAt0 (x : α) (l : List α) : Rf (x :: l) x (.at 0) := ⟨rfl⟩
instance (priority := low) rfAt1 (x a : α) (l : List α) : Rf (a :: x :: l) x (.at 1) := ⟨rfl⟩
instance (priority := low) rfAt2 (x a b : α) (l : List α) : Rf (a :: b :: x :: l) x (.at 2) := ⟨rfl⟩
instance (priority := low) rfAt3 (x a b c : α) (l : List α) : Rf (a :: b :: c :: x :: l) x (.at 3) := ⟨rfl⟩
instance (priority := low) rfAt4 (x a b c d : α) (l : List α) : Rf (a :: b :: c :: d :: x :: l) x (.at 4) := ⟨rfl⟩
instance (priority := low) rfAt5 (x a b c d e : α) (l : List α) : Rf (a :: b :: c :: d :: e :: x :: l) x (.at 5) := ⟨rfl⟩
instance (priority := low) rfAt6 (x a b c d e f : α) (l : List α) : Rf (a :: b :: c :: d :: e :: f :: x :: l) x (.at 6) := ⟨rfl⟩
instance (priority := low) rfAt7 (x a b c d e f g : α) (l : List α) : Rf (a :: b :: c :: d :: e :: f :: g :: x :: l) x (.at 7) := ⟨rfl⟩
instance (priority := low) rfAt8 (x a b c d e f g h : α) (l : List α) : Rf (a :: b :: c :: d :: e :: f :: g :: h :: x :: l) x (.at 8) := ⟨rfl⟩

theorem ring [CR α] (ctx : List α) {x y : α} {a b : RE} [h : Rf ctx x a] [k : Rf ctx y b] (hc : RE.chk a b = true) : x = y := by
 have h1 := canc_sound ctx _ _ hc
 rw [evM_app, evM_flip, ev_ex, ev_ex, h.eq, k.eq, ← CR.sub_def] at h1
 exact CR.eq_of_sub h1

theorem comb [CR α] (c : α) {a b x y : α} (h : a = b) (e : x - c * a = y - c * b) : x = y := by
 subst h
 rw [CR.sub_def, CR.sub_def, CR.add_comm, CR.add_comm y] at e
 exact CR.left_cancel e
end

example {α : Type} [Add α] [Mul α] [Neg α] [Sub α] [OfNat α 0] [OfNat α 1] [CR α] (a b c : α) : (a + b) * (a - b) + c * (1 + 1) = a * a - b * b + c + c := ring [a, b, c] (by rfl)
example {α : Type} [Add α] [Mul α] [Neg α] [Sub α] [OfNat α 0] [OfNat α 1] [CR α] (a b c d : α) (h : a = b * c) : a * d + 0 = c * (b * d) := comb d h (ring [a, b, c, d] (by rfl))

def cf (l : List Int) (i : Nat) : Int := l.getD i 0

theorem cf_nil (i : Nat) : cf [] i = 0 := by simp [cf]
theorem cf_cons_zero (a : Int) (l : List Int) : cf (a :: l) 0 = a := rfl
theorem cf_cons_succ (a : Int) (l : List Int) (i : Nat) : cf (a :: l) (i + 1) = cf l i := by simp [cf]
theorem cf_ge {l : List Int} {i : Nat} (h : l.length ≤ i) : cf l i = 0 := by
 simp [cf, List.getD_eq_getElem?_getD, List.getElem?_eq_none h]
theorem cf_lt {l : List Int} {i : Nat} (h : i < l.length) : cf l i = l[i] := by
 simp [cf, List.getD_eq_getElem?_getD, List.getElem?_eq_getElem h]

def trimZ : List Int → List Int
 | [] => []
 | a :: l => match trimZ l with
  | [] => if a = 0 then [] else [a]
  | b :: r => a :: b :: r

theorem cf_trimZ (l : List Int) (i : Nat) : cf (trimZ l) i = cf l i := by
 induction l generalizing i with
 | nil => rfl
 | cons a l ih =>
  unfold trimZ
  split
  ·rename_i h
   have h0 : ∀ i, cf l i = 0 := fun i => by rw [← ih, h, cf_nil]
   split
   ·rename_i ha
    cases i with
    | zero => rw [cf_nil, cf_cons_zero, ha]
    | succ i => rw [cf_nil, cf_cons_succ, h0]
   ·cases i with
    | zero => rfl
    | succ i => rw [cf_cons_succ, cf_cons_succ, cf_nil, h0]
  ·rename_i b r h
   cases i with
   | zero => rfl
   | succ i => rw [cf_cons_succ, cf_cons_succ, ← ih, h]

theorem trimZ_mem {l : List Int} {x : Int} (h : x ∈ trimZ l) : x ∈ l := by
 induction l with
 | nil => exact h
 | cons a l ih =>
  unfold trimZ at h
  split at h
  ·split at h
   ·cases h
   ·simp at h; simp [h]
  ·rename_i b r hb
   rcases List.mem_cons.1 h with h | h
   ·simp [h]
   ·exact List.mem_cons_of_mem _ (ih (hb ▸ h))

theorem trimZ_length (l : List Int) : (trimZ l).length ≤ l.length := by
 induction l with
 | nil => simp [trimZ]
 | cons a l ih =>
  unfold trimZ
  split
  ·split <;> simp
  ·rename_i b r hb
   rw [hb] at ih; simpa using ih

def lastNZ (l : List Int) : Prop := ∀ n, l.length = n + 1 → cf l n ≠ 0

theorem trimZ_last (l : List Int) : lastNZ (trimZ l) := by
 induction l with
 | nil => intro n h; simp [trimZ] at h
 | cons a l ih =>
  intro n
  unfold trimZ
  split
  ·split
   ·intro h; simp at h
   ·rename_i ha
    intro h
    have : n = 0 := by simpa using h.symm
    subst this; exact ha
  ·rename_i b r hb
   intro h
   have hn : n = r.length + 1 := by simpa using h.symm
   subst hn
   rw [cf_cons_succ]
   rw [hb] at ih
   exact ih r.length (by simp)

theorem eq_of_cf {l l' : List Int} (h : lastNZ l) (h' : lastNZ l') (he : ∀ i, cf l i = cf l' i) : l = l' := by
 have hlen : ∀ {l l' : List Int}, lastNZ l → lastNZ l' → (∀ i, cf l i = cf l' i) → l.length ≤ l'.length := by
  intro l l' h h' he
  rcases Nat.lt_or_ge l'.length l.length with hlt | hge
  ·exfalso
   have h1 := h (l.length - 1) (by omega)
   rw [he, cf_ge (by omega)] at h1
   exact h1 rfl
  ·exact hge
 have hl : l.length = l'.length := Nat.le_antisymm (hlen h h' he) (hlen h' h fun i => (he i).symm)
 refine List.ext_getElem hl fun i h1 h2 => ?_
 rw [← cf_lt h1, ← cf_lt h2, he]

def cv (f g : Nat → Int) : Nat → Int
 | 0 => f 0 * g 0
 | k + 1 => f 0 * g (k + 1) + cv (fun i => f (i + 1)) g k

theorem cv_succ' (f g : Nat → Int) (k : Nat) : cv f g (k + 1) = f (k + 1) * g 0 + cv f (fun i => g (i + 1)) k := by
 induction k generalizing f with
 | zero => simp only [cv]; omega
 | succ k ih =>
  rw [cv, ih, cv]; omega

theorem cv_comm (f g : Nat → Int) (k : Nat) : cv f g k = cv g f k := by
 induction k generalizing f g with
 | zero => simp only [cv]; exact Int.mul_comm _ _
 | succ k ih => rw [cv_succ', cv, ih, Int.mul_comm]

theorem cv_add (f f' g : Nat → Int) (k : Nat) : cv (fun i => f i + f' i) g k = cv f g k + cv f' g k := by
 induction k generalizing f f' with
 | zero => simp only [cv]; exact Int.add_mul _ _ _
 | succ k ih => simp only [cv, ih, Int.add_mul]; omega

theorem cv_smul (a : Int) (f g : Nat → Int) (k : Nat) : cv (fun i => a * f i) g k = a * cv f g k := by
 induction k generalizing f with
 | zero => simp only [cv]; exact Int.mul_assoc _ _ _
 | succ k ih => simp only [cv, ih, Int.mul_add, Int.mul_assoc]

theorem cv_assoc (f g h : Nat → Int) (k : Nat) : cv (cv f g) h k = cv f (cv g h) k := by
 induction k generalizing f with
 | zero => simp only [cv]; exact Int.mul_assoc _ _ _
 | succ k ih =>
  have e : (fun i => cv f g (i + 1)) = fun i => f 0 * g (i + 1) + cv (fun i => f (i + 1)) g i := rfl
  rw [cv, e, cv_add, cv_smul, ih]
  simp only [cv]
  rw [Int.mul_add, Int.mul_assoc]; omega

theorem cv_zero_left {f g : Nat → Int} {k : Nat} (hf : ∀ i, i ≤ k → f i = 0) : cv f g k = 0 := by
 induction k generalizing f with
 | zero => simp [cv, hf 0 (Nat.le_refl _)]
 | succ k ih => simp only [cv, hf 0 (Nat.zero_le _), ih (f := fun i => f (i + 1)) (fun i hi => hf _ (by omega))]; simp

theorem cv_ge {f g : Nat → Int} {n m : Nat} (hf : ∀ i, n ≤ i → f i = 0) (hg : ∀ i, m ≤ i → g i = 0) {k : Nat} (hk : n + m ≤ k + 1) : cv f g k = 0 := by
 induction n generalizing f k with
 | zero => exact cv_zero_left fun i _ => hf i (Nat.zero_le _)
 | succ n ih =>
  cases k with
  | zero => simp only [cv, hg 0 (by omega), Int.mul_zero]
  | succ k => simp only [cv, hg (k + 1) (by omega), ih (f := fun i => f (i + 1)) (fun i hi => hf _ (by omega)) (k := k) (by omega)]; simp

theorem cv_top {f g : Nat → Int} {n m : Nat} (hf : ∀ i, n < i → f i = 0) (hg : ∀ i, m < i → g i = 0) : cv f g (n + m) = f n * g m := by
 induction n generalizing f with
 | zero =>
  cases m with
  | zero => rfl
  | succ m =>
   rw [show 0 + (m + 1) = m + 1 from by omega, cv, cv_zero_left (f := fun i => f (i + 1)) (fun i _ => hf _ (by omega))]; simp
 | succ n ih =>
  rw [show n + 1 + m = n + m + 1 from by omega, cv, hg (n + m + 1) (by omega), ih (f := fun i => f (i + 1)) (fun i hi => hf _ (by omega))]; simp

theorem cv_one (g : Nat → Int) (k : Nat) : cv (cf [1]) g k = g k := by
 cases k with
 | zero => simp [cv, cf]
 | succ k =>
  rw [cv, cv_zero_left (f := fun i => cf [1] (i + 1)) (fun i _ => by simp [cf])]
  simp [cf]

theorem cv_mod (p : Int) (f g : Nat → Int) (k : Nat) : cv (fun i => f i % p) g k % p = cv f g k % p := by
 induction k generalizing f with
 | zero => simp only [cv]; rw [Int.mul_emod, Int.emod_emod_of_dvd _ (Int.dvd_refl p), ← Int.mul_emod]
 | succ k ih =>
  simp only [cv]
  rw [Int.add_emod, ih (fun i => f (i + 1)), Int.mul_emod, Int.emod_emod_of_dvd _ (Int.dvd_refl p), ← Int.mul_emod, ← Int.add_emod]

theorem neg_mod (p a : Int) : (-(a % p)) % p = (-a) % p := by
 rw [show -(a % p) = -1 * (a % p) from by omega, show -a = -1 * a from by omega, Int.mul_emod, Int.emod_emod_of_dvd _ (Int.dvd_refl p), ← Int.mul_emod]

def mkL (n : Nat) (f : Nat → Int) : List Int := (List.range n).map f
theorem cf_mkL (n : Nat) (f : Nat → Int) (i : Nat) : cf (mkL n f) i = if i < n then f i else 0 := by
 split
 ·rename_i h
  rw [cf_lt (by simpa [mkL] using h)]; simp [mkL]
 ·rename_i h
  exact cf_ge (by simpa [mkL] using h)
theorem mkL_length (n : Nat) (f : Nat → Int) : (mkL n f).length = n := by simp [mkL]

def addL (a b : List Int) : List Int := mkL (max a.length b.length) fun i => cf a i + cf b i
def mulL (a b : List Int) : List Int := mkL (a.length + b.length - 1) (cv (cf a) (cf b))
def smulL (c : Int) (a : List Int) : List Int := a.map (c * ·)

theorem cf_addL (a b : List Int) (i : Nat) : cf (addL a b) i = cf a i + cf b i := by
 rw [addL, cf_mkL]
 split
 ·rfl
 ·rename_i h
  rw [cf_ge (by omega), cf_ge (by omega)]; rfl
theorem cf_mulL (a b : List Int) (i : Nat) : cf (mulL a b) i = cv (cf a) (cf b) i := by
 rw [mulL, cf_mkL]
 split
 ·rfl
 ·rename_i h
  exact (cv_ge (n := a.length) (m := b.length) (fun i hi => cf_ge hi) (fun i hi => cf_ge hi) (by omega)).symm
theorem cf_smulL (c : Int) (a : List Int) (i : Nat) : cf (smulL c a) i = c * cf a i := by
 by_cases h : i < a.length
 ·rw [cf_lt (by simpa [smulL] using h), cf_lt h]; simp [smulL]
 ·rw [cf_ge (by simpa [smulL] using h), cf_ge (by omega)]; simp
theorem cf_mapMod (p : Int) (a : List Int) (i : Nat) : cf (a.map (· % p)) i = cf a i % p := by
 by_cases h : i < a.length
 ·rw [cf_lt (by simpa using h), cf_lt h]; simp
 ·rw [cf_ge (by simpa using h), cf_ge (by omega)]; simp

def nrm (p : Int) (a : List Int) : List Int := trimZ (a.map (· % p))
theorem cf_nrm (p : Int) (a : List Int) (i : Nat) : cf (nrm p a) i = cf a i % p := by rw [nrm, cf_trimZ, cf_mapMod]
theorem nrm_last (p : Int) (a : List Int) : lastNZ (nrm p a) := trimZ_last _

class Pos (p : Int) : Prop where
 pos : 0 < p

def Nrm (p : Int) (l : List Int) : Prop := (∀ x ∈ l, 0 ≤ x ∧ x < p) ∧ lastNZ l

theorem nrm_ok {p : Int} [h : Pos p] (a : List Int) : Nrm p (nrm p a) := by
 refine ⟨fun x hx => ?_, nrm_last p a⟩
 have := trimZ_mem hx
 rw [List.mem_map] at this
 obtain ⟨y, _, rfl⟩ := this
 exact ⟨Int.emod_nonneg _ (by have := h.pos; omega), Int.emod_lt_of_pos _ h.pos⟩

theorem Nrm.cf_mod {p : Int} {l : List Int} (h : Nrm p l) (i : Nat) : cf l i % p = cf l i := by
 by_cases hi : i < l.length
 ·rw [cf_lt hi]
  have := h.1 _ (List.getElem_mem hi)
  exact Int.emod_eq_of_lt this.1 this.2
 ·rw [cf_ge (by omega)]; simp
theorem nrm_id {p : Int} {l : List Int} (h : Nrm p l) : nrm p l = l := eq_of_cf (nrm_last _ _) h.2 fun i => by rw [cf_nrm, h.cf_mod]

structure Poly (p : Int) where
 l : List Int
 ok : Nrm p l

namespace Poly
variable {p : Int}

theorem ext_l {f g : Poly p} (h : f.l = g.l) : f = g := by
 cases f; cases g; cases h; rfl
theorem ext_cf {f g : Poly p} (h : ∀ i, cf f.l i = cf g.l i) : f = g := ext_l (eq_of_cf f.ok.2 g.ok.2 h)

instance : DecidableEq (Poly p) := fun f g => if h : f.l = g.l then isTrue (ext_l h) else isFalse fun e => h (e ▸ rfl)

variable [Pos p]
def of (p : Int) [Pos p] (a : List Int) : Poly p := ⟨nrm p a, nrm_ok a⟩
theorem cf_of (a : List Int) (i : Nat) : cf (of p a).l i = cf a i % p := cf_nrm p a i
theorem of_l (f : Poly p) : of p f.l = f := ext_l (nrm_id f.ok)
theorem of_eq {a b : List Int} (h : ∀ i, cf a i % p = cf b i % p) : of p a = of p b := ext_cf fun i => by rw [cf_of, cf_of, h]
instance : Add (Poly p) := ⟨fun f g => of p (addL f.l g.l)⟩
instance : Mul (Poly p) := ⟨fun f g => of p (mulL f.l g.l)⟩
instance : Neg (Poly p) := ⟨fun f => of p (smulL (-1) f.l)⟩
instance : Sub (Poly p) := ⟨fun f g => of p (addL f.l (smulL (-1) g.l))⟩
instance : NatCast (Poly p) := ⟨fun n => of p [(n : Int)]⟩
instance : IntCast (Poly p) := ⟨fun n => of p [n]⟩
instance (n : Nat) : OfNat (Poly p) n := ⟨of p [(n : Int)]⟩
instance : SMul Nat (Poly p) := ⟨fun n f => of p [(n : Int)] * f⟩
instance : SMul Int (Poly p) := ⟨fun n f => of p [n] * f⟩
def npow (f : Poly p) : Nat → Poly p
 | 0 => 1
 | n + 1 => npow f n * f
instance : HPow (Poly p) Nat (Poly p) := ⟨npow⟩

theorem cf_add (f g : Poly p) (i : Nat) : cf (f + g).l i = (cf f.l i + cf g.l i) % p := by
 show cf (of p _).l i = _
 rw [cf_of, cf_addL]
theorem cf_mul (f g : Poly p) (i : Nat) : cf (f * g).l i = cv (cf f.l) (cf g.l) i % p := by
 show cf (of p _).l i = _
 rw [cf_of, cf_mulL]
theorem cf_neg (f : Poly p) (i : Nat) : cf (-f).l i = (-cf f.l i) % p := by
 show cf (of p _).l i = _
 rw [cf_of, cf_smulL]; congr 1; omega
theorem cf_sub (f g : Poly p) (i : Nat) : cf (f - g).l i = (cf f.l i - cf g.l i) % p := by
 show cf (of p _).l i = _
 rw [cf_of, cf_addL, cf_smulL]; congr 1; omega
theorem zero_l : (0 : Poly p).l = [] := by
 refine eq_of_cf (0 : Poly p).ok.2 (fun n h => by simp at h) fun i => ?_
 show cf (of p [((0 : Nat) : Int)]).l i = _
 rw [cf_of, cf_nil]
 cases i with
 | zero => simp [cf]
 | succ i => rw [cf_cons_succ, cf_nil]; simp
theorem cf_zero (i : Nat) : cf (0 : Poly p).l i = 0 := by rw [zero_l, cf_nil]
theorem cf_one (i : Nat) : cf (1 : Poly p).l i = cf [1] i % p := cf_of _ _

theorem of_add (a b : List Int) : of p (addL a b) = of p a + of p b := ext_cf fun i => by
 rw [cf_of, cf_addL, cf_add, cf_of, cf_of]; exact Int.add_emod _ _ _
theorem mod_cf {p : Int} (f : Poly p) (i : Nat) : cf f.l i % p = cf f.l i := f.ok.cf_mod i

theorem add_comm' (f g : Poly p) : f + g = g + f := ext_cf fun i => by rw [cf_add, cf_add, Int.add_comm]
theorem add_zero' (f : Poly p) : f + 0 = f := ext_cf fun i => by rw [cf_add, cf_zero, Int.add_zero, mod_cf]
theorem add_assoc' (f g h : Poly p) : f + g + h = f + (g + h) := ext_cf fun i => by
 rw [cf_add, cf_add, cf_add, cf_add, Int.emod_add_emod, Int.add_emod_emod, Int.add_assoc]
theorem mul_comm' (f g : Poly p) : f * g = g * f := ext_cf fun i => by rw [cf_mul, cf_mul, cv_comm]
theorem cf_mul_fun (f g : Poly p) : cf (f * g).l = fun i => cv (cf f.l) (cf g.l) i % p := funext fun i => cf_mul f g i
theorem mul_assoc' (f g h : Poly p) : f * g * h = f * (g * h) := ext_cf fun i => by
 rw [cf_mul, cf_mul_fun, cv_mod, cf_mul, cf_mul_fun, cv_comm (cf f.l), cv_mod, cv_assoc, cv_comm (cf f.l)]
theorem one_mul' (f : Poly p) : 1 * f = f := ext_cf fun i => by
 have e : cf (1 : Poly p).l = fun i => cf [1] i % p := funext cf_one
 rw [cf_mul, e, cv_mod, cv_one, mod_cf]
theorem cf_add_fun (f g : Poly p) : cf (f + g).l = fun i => (cf f.l i + cf g.l i) % p := funext fun i => cf_add f g i
theorem add_mul' (f g h : Poly p) : (f + g) * h = f * h + g * h := ext_cf fun i => by
 rw [cf_mul, cf_add_fun, cv_mod, cv_add, cf_add, cf_mul, cf_mul, ← Int.add_emod]
theorem neg_add_cancel' (f : Poly p) : -f + f = 0 := ext_cf fun i => by
 rw [cf_add, cf_neg, cf_zero, Int.emod_add_emod]; simp [Int.add_left_neg]
theorem sub_eq' (f g : Poly p) : f - g = f + -g := ext_cf fun i => by
 rw [cf_sub, cf_add, cf_neg, Int.add_emod_emod, Int.sub_eq_add_neg]
theorem cast_add (a b : Int) : of p [a + b] = of p [a] + of p [b] := by
 rw [← of_add]; exact of_eq fun i => by rw [cf_addL]; cases i <;> simp [cf]

theorem add_neg' (f : Poly p) : f + -f = 0 := by rw [add_comm', neg_add_cancel']
instance : CR (Poly p) where
 add_comm := add_comm'
 add_assoc := add_assoc'
 add_zero := add_zero'
 add_neg := add_neg'
 sub_def := sub_eq'
 mul_comm := mul_comm'
 mul_assoc := mul_assoc'
 one_mul := one_mul'
 add_mul := add_mul'
theorem pow_succ' (b : Poly p) (n : Nat) : b ^ (n + 1) = b ^ n * b := rfl
theorem pow_zero' (b : Poly p) : b ^ 0 = 1 := rfl

example (f g h : Poly p) : (f + g) * (f - g) + h * (1 + 1) = f * f - g * g + h + h := ring [f, g, h] (by rfl)

end Poly

class Pr (p : Int) : Prop extends Pos p where
 two : 2 ≤ p
 inv : ∀ a : Int, a % p ≠ 0 → ∃ b : Int, a * b % p = 1

theorem Pr.mul_ne {p : Int} [h : Pr p] {a b : Int} (ha : a % p ≠ 0) (hb : b % p ≠ 0) : a * b % p ≠ 0 := by
 intro he
 obtain ⟨c, hc⟩ := h.inv a ha
 have h1 : a * c * b % p = b % p := by rw [Int.mul_emod, hc, Int.one_mul, Int.emod_emod_of_dvd _ (Int.dvd_refl p)]
 have h2 : a * c * b % p = 0 := by
  rw [show a * c * b = c * (a * b) from by rw [Int.mul_comm a c, Int.mul_assoc], Int.mul_emod, he, Int.mul_zero, Int.zero_emod]
 exact hb (h1.symm.trans h2)

namespace Poly
variable {p : Int}

def dg (f : Poly p) : Nat := f.l.length

theorem cf_dg {f : Poly p} {i : Nat} (h : dg f ≤ i) : cf f.l i = 0 := cf_ge h
theorem dg_lead {f : Poly p} {n : Nat} (h : dg f = n + 1) : cf f.l n ≠ 0 := f.ok.2 n h
theorem dg_le {f : Poly p} {n : Nat} (h : ∀ i, n ≤ i → cf f.l i = 0) : dg f ≤ n := by
 rcases Nat.lt_or_ge n (dg f) with hlt | hge
 ·exfalso
  exact dg_lead (f := f) (n := dg f - 1) (by omega) (h _ (by omega))
 ·exact hge
theorem dg_lt {f : Poly p} {n : Nat} (h : cf f.l n ≠ 0) : n < dg f := by
 rcases Nat.lt_or_ge n (dg f) with hlt | hge
 ·exact hlt
 ·exact absurd (cf_dg hge) h

theorem dg_of_le [Pos p] (a : List Int) : dg (of p a) ≤ a.length := dg_le fun i hi => by rw [cf_of, cf_ge hi]; simp

theorem dg_eq_zero [Pos p] {f : Poly p} : dg f = 0 ↔ f = 0 := by
 constructor
 ·intro h
  refine ext_cf fun i => ?_
  rw [cf_zero, cf_dg (by omega)]
 ·rintro rfl
  show (0 : Poly p).l.length = 0
  rw [zero_l]; rfl

theorem dg_zero [Pos p] : dg (0 : Poly p) = 0 := dg_eq_zero.2 rfl

theorem dg_add [Pos p] (f g : Poly p) : dg (f + g) ≤ max (dg f) (dg g) := dg_le fun i hi => by
 rw [cf_add, cf_dg (by omega), cf_dg (by omega)]; simp
theorem dg_sub [Pos p] (f g : Poly p) : dg (f - g) ≤ max (dg f) (dg g) := dg_le fun i hi => by
 rw [cf_sub, cf_dg (by omega), cf_dg (by omega)]; simp
theorem dg_mul_le [Pos p] (f g : Poly p) : dg (f * g) ≤ dg f + dg g - 1 := dg_le fun i hi => by
 rw [cf_mul, cv_ge (n := dg f) (m := dg g) (fun i hi => cf_dg hi) (fun i hi => cf_dg hi) (by omega)]; simp

theorem cf_ne_mod {f : Poly p} {i : Nat} (h : cf f.l i ≠ 0) : cf f.l i % p ≠ 0 := by rw [f.ok.cf_mod]; exact h

section
variable [Pr p]

theorem lead_mul {f g : Poly p} {n m : Nat} (hf : dg f = n + 1) (hg : dg g = m + 1) : cf (f * g).l (n + m) = cf f.l n * cf g.l m % p := by
 rw [cf_mul, cv_top (fun i hi => cf_dg (by omega)) (fun i hi => cf_dg (by omega))]

theorem dg_mul {f g : Poly p} (hf : f ≠ 0) (hg : g ≠ 0) : dg (f * g) + 1 = dg f + dg g := by
 have h1 : dg f ≠ 0 := fun h => hf (dg_eq_zero.1 h)
 have h2 : dg g ≠ 0 := fun h => hg (dg_eq_zero.1 h)
 obtain ⟨n, hn⟩ := Nat.exists_eq_succ_of_ne_zero h1
 obtain ⟨m, hm⟩ := Nat.exists_eq_succ_of_ne_zero h2
 have h3 : cf (f * g).l (n + m) ≠ 0 := by
  rw [lead_mul hn hm]
  exact Pr.mul_ne (cf_ne_mod (dg_lead hn)) (cf_ne_mod (dg_lead hm))
 have h4 := dg_lt h3
 have h5 := dg_mul_le f g
 omega

theorem mul_ne {f g : Poly p} (hf : f ≠ 0) (hg : g ≠ 0) : f * g ≠ 0 := by
 intro h
 have h1 := dg_mul hf hg
 have h2 : dg f ≠ 0 := fun h => hf (dg_eq_zero.1 h)
 have h3 : dg g ≠ 0 := fun h => hg (dg_eq_zero.1 h)
 rw [h, dg_zero] at h1
 omega
theorem mul_eq_zero {f g : Poly p} (h : f * g = 0) : f = 0 ∨ g = 0 := by
 by_cases hf : f = 0
 ·exact .inl hf
 ·by_cases hg : g = 0
  ·exact .inr hg
  ·exact absurd h (mul_ne hf hg)
theorem mul_cancel {f g h : Poly p} (hf : f ≠ 0) (he : f * g = f * h) : g = h := by
 have : f * (g - h) = 0 := by exact comb (1) he (ring [f, g, h] (by rfl))
 rcases mul_eq_zero this with h1 | h1
 ·exact absurd h1 hf
 ·exact comb (1) h1 (ring [g, h] (by rfl))

theorem one_ne : (1 : Poly p) ≠ 0 := by
 intro h
 have h1 := cf_one (p := p) 0
 rw [h, cf_zero, cf_cons_zero, Int.emod_eq_of_lt (by omega) (by have := Pr.two (p := p); omega)] at h1
 cases h1
theorem dg_one : dg (1 : Poly p) = 1 := by
 have h1 : dg (1 : Poly p) ≤ 1 := dg_of_le [((1 : Nat) : Int)]
 have h2 : dg (1 : Poly p) ≠ 0 := fun h => one_ne (dg_eq_zero.1 h)
 omega
end

def mono (p : Int) [Pos p] (c : Int) (k : Nat) : Poly p := of p (List.replicate k 0 ++ [c])
theorem cf_monoL (c : Int) (k i : Nat) : cf (List.replicate k 0 ++ [c]) i = if i = k then c else 0 := by
 induction k generalizing i with
 | zero => cases i with
  | zero => rfl
  | succ i => simp [cf]
 | succ k ih =>
  cases i with
  | zero => simp [cf, List.replicate_succ]
  | succ i =>
   rw [List.replicate_succ, List.cons_append, cf_cons_succ, ih]
   simp
theorem cv_mono (c : Int) (k : Nat) (g : Nat → Int) (i : Nat) : cv (fun j => if j = k then c else 0) g i = if k ≤ i then c * g (i - k) else 0 := by
 induction k generalizing i with
 | zero =>
  cases i with
  | zero => simp [cv]
  | succ i =>
   rw [cv, cv_zero_left (f := fun j => if j + 1 = 0 then c else 0) (fun i _ => by simp)]
   simp
 | succ k ih =>
  cases i with
  | zero => simp [cv]
  | succ i =>
   rw [cv]
   have : (fun j => if j + 1 = k + 1 then c else 0) = fun j => if j = k then c else 0 := by funext j; simp
   rw [this, ih]
   simp
theorem cf_mono [Pos p] (c : Int) (k i : Nat) : cf (mono p c k).l i = if i = k then c % p else 0 := by
 rw [mono, cf_of, cf_monoL]; split <;> simp
theorem cf_mono_mul [Pos p] (c : Int) (k : Nat) (g : Poly p) (i : Nat) : cf (mono p c k * g).l i = if k ≤ i then c * cf g.l (i - k) % p else 0 := by
 have e : cf (mono p c k).l = fun i => (if i = k then c else 0) % p := funext fun i => by rw [cf_mono]; split <;> simp
 rw [cf_mul, e, cv_mod, cv_mono]; split <;> simp

section
variable [Pr p]

theorem exists_div (g : Poly p) (hg : g ≠ 0) : ∀ (n : Nat) (f : Poly p), dg f ≤ n → ∃ q r : Poly p, f = q * g + r ∧ dg r < dg g := by
 have hg0 : dg g ≠ 0 := fun h => hg (dg_eq_zero.1 h)
 intro n
 induction n with
 | zero =>
  intro f hf
  exact ⟨0, f, by exact ring [f, g] (by rfl), by omega⟩
 | succ n ih =>
  intro f hf
  by_cases hlt : dg f < dg g
  ·exact ⟨0, f, by exact ring [f, g] (by rfl), hlt⟩
  ·by_cases hle : dg f ≤ n
   ·exact ih f hle
   ·obtain ⟨m, hm⟩ := Nat.exists_eq_succ_of_ne_zero hg0
    obtain ⟨b, hb⟩ := Pr.inv (p := p) _ (cf_ne_mod (dg_lead hm))
    obtain ⟨q, r, h1, h2⟩ := ih (f - mono p (cf f.l n * b) (n - m) * g) (by
     refine dg_le fun i hi => ?_
     rw [cf_sub, cf_mono_mul, if_pos (by omega)]
     rcases Nat.eq_or_lt_of_le hi with rfl | hlt'
     ·rw [show n - (n - m) = m by omega]
      rw [Int.sub_emod, Int.emod_emod_of_dvd _ (Int.dvd_refl p), ← Int.sub_emod]
      have : cf f.l n - cf f.l n * b * cf g.l m = cf f.l n * (1 - cf g.l m * b) := by
       rw [Int.mul_sub, Int.mul_one, Int.mul_assoc, Int.mul_comm b]
      rw [this, Int.mul_emod, Int.sub_emod, hb]
      have h1 : (1 : Int) % p = 1 := Int.emod_eq_of_lt (by omega) (by have := Pr.two (p := p); omega)
      rw [h1]; simp
     ·rw [cf_dg (f := f) (by omega), cf_dg (f := g) (by omega)]; simp)
    exact ⟨q + mono p (cf f.l n * b) (n - m), r, by exact comb (1) h1 (ring [f, q, mono p (cf f.l n * b) (n - m), g, r] (by rfl)), h2⟩

theorem div_unique {f g q r q' r' : Poly p} (h : f = q * g + r) (hr : dg r < dg g) (h' : f = q' * g + r') (hr' : dg r' < dg g) : q = q' ∧ r = r' := by
 have h1 : (q - q') * g = r' - r := by exact comb (1) h' (comb (-1) h (ring [f, q, g, r, q', r'] (by rfl)))
 by_cases hq : q - q' = 0
 ·refine ⟨by exact comb (1) hq (ring [q, q'] (by rfl)), ?_⟩
  rw [hq] at h1
  exact comb (1) h1 (ring [r, r', g] (by rfl))
 ·exfalso
  have hg : g ≠ 0 := fun h => by rw [h, dg_zero] at hr; omega
  have h2 := dg_mul hq hg
  rw [h1] at h2
  have h3 := dg_sub r' r
  have h4 : dg (q - q') ≠ 0 := fun h => hq (dg_eq_zero.1 h)
  omega

open Classical in
noncomputable def divP (f g : Poly p) : Poly p × Poly p := if hg : g = 0 then (0, f) else ⟨(exists_div g hg _ f (Nat.le_refl _)).choose, (exists_div g hg _ f (Nat.le_refl _)).choose_spec.choose⟩
noncomputable def quo (f g : Poly p) : Poly p := (divP f g).1
noncomputable def rem (f g : Poly p) : Poly p := (divP f g).2

theorem div_eq (f g : Poly p) : f = quo f g * g + rem f g := by
 unfold quo rem divP
 split
 ·show f = 0 * g + f; exact ring [f, g] (by rfl)
 ·rename_i hg
  exact (exists_div g hg _ f (Nat.le_refl _)).choose_spec.choose_spec.1
theorem rem_lt (f : Poly p) {g : Poly p} (hg : g ≠ 0) : dg (rem f g) < dg g := by
 unfold rem divP
 rw [dif_neg hg]
 exact (exists_div g hg _ f (Nat.le_refl _)).choose_spec.choose_spec.2
theorem div_is {f g q r : Poly p} (h : f = q * g + r) (hr : dg r < dg g) : quo f g = q ∧ rem f g = r := by
 have hg : g ≠ 0 := fun h => by rw [h, dg_zero] at hr; omega
 exact div_unique (div_eq f g) (rem_lt f hg) h hr

def Dvd' (g f : Poly p) : Prop := ∃ q, f = g * q
instance : Dvd (Poly p) := ⟨Dvd'⟩
theorem dvd_refl (f : Poly p) : f ∣ f := ⟨1, by exact ring [f] (by rfl)⟩
theorem dvd_zero (f : Poly p) : f ∣ 0 := ⟨0, by exact ring [f] (by rfl)⟩
theorem one_dvd (f : Poly p) : 1 ∣ f := ⟨f, by exact ring [f] (by rfl)⟩
theorem dvd_trans {f g h : Poly p} (h1 : f ∣ g) (h2 : g ∣ h) : f ∣ h := by
 obtain ⟨a, rfl⟩ := h1
 obtain ⟨b, rfl⟩ := h2
 exact ⟨a * b, by exact ring [f, a, b] (by rfl)⟩
theorem dvd_mul_left {f g : Poly p} (h : Poly p) (h1 : f ∣ g) : f ∣ h * g := by
 obtain ⟨a, rfl⟩ := h1
 exact ⟨h * a, by exact ring [f, a, h] (by rfl)⟩
theorem dvd_mul_right {f g : Poly p} (h : Poly p) (h1 : f ∣ g) : f ∣ g * h := by
 obtain ⟨a, rfl⟩ := h1
 exact ⟨a * h, by exact ring [f, a, h] (by rfl)⟩
theorem dvd_add {f g h : Poly p} (h1 : f ∣ g) (h2 : f ∣ h) : f ∣ g + h := by
 obtain ⟨a, rfl⟩ := h1
 obtain ⟨b, rfl⟩ := h2
 exact ⟨a + b, by exact ring [f, a, b] (by rfl)⟩
theorem dvd_sub {f g h : Poly p} (h1 : f ∣ g) (h2 : f ∣ h) : f ∣ g - h := by
 obtain ⟨a, rfl⟩ := h1
 obtain ⟨b, rfl⟩ := h2
 exact ⟨a - b, by exact ring [f, a, b] (by rfl)⟩
theorem dvd_iff_rem {g f : Poly p} (hg : g ≠ 0) : g ∣ f ↔ rem f g = 0 := by
 constructor
 ·rintro ⟨q, rfl⟩
  exact (div_is (q := q) (r := 0) (by exact ring [g, q] (by rfl)) (by rw [dg_zero]; have : dg g ≠ 0 := fun h => hg (dg_eq_zero.1 h); omega)).2
 ·intro h
  have := div_eq f g
  rw [h] at this
  exact ⟨quo f g, by exact comb (1) this (ring [f, g, quo f g] (by rfl))⟩
theorem dvd_dg {g f : Poly p} (h : g ∣ f) (hf : f ≠ 0) : dg g ≤ dg f := by
 obtain ⟨q, rfl⟩ := h
 have hg : g ≠ 0 := fun h => hf (by rw [h]; exact ring [q] (by rfl))
 have hq : q ≠ 0 := fun h => hf (by rw [h]; exact ring [g] (by rfl))
 have h1 := dg_mul hg hq
 have : dg q ≠ 0 := fun h => hq (dg_eq_zero.1 h)
 omega
theorem dvd_ne {g f : Poly p} (h : g ∣ f) (hf : f ≠ 0) : g ≠ 0 := by
 rintro rfl
 obtain ⟨q, rfl⟩ := h
 exact hf (by exact ring [q] (by rfl))
end

end Poly
namespace Poly
variable {p : Int} [Pr p]

def con (p : Int) [Pos p] (c : Int) : Poly p := of p [c]
theorem cf_con (c : Int) (i : Nat) : cf (con p c).l i = if i = 0 then c % p else 0 := by
 rw [con, cf_of]; cases i <;> simp [cf]
theorem cf_con_mul (c : Int) (f : Poly p) (i : Nat) : cf (con p c * f).l i = c * cf f.l i % p := by
 have e : cf (con p c).l = fun i => c * cf [1] i % p := funext fun i => by rw [cf_con]; cases i <;> simp [cf]
 rw [cf_mul, e, cv_mod, cv_smul, cv_one]
theorem con_mul (a b : Int) : con p a * con p b = con p (a * b) := ext_cf fun i => by
 rw [cf_con_mul, cf_con, cf_con]; split <;> simp [Int.mul_emod]
theorem con_add (a b : Int) : con p a + con p b = con p (a + b) := (cast_add a b).symm
theorem con_sub (a b : Int) : con p a - con p b = con p (a - b) := ext_cf fun i => by
 rw [cf_sub, cf_con, cf_con, cf_con]; split
 ·exact (Int.sub_emod _ _ _).symm
 ·simp
theorem con_mod (a : Int) : con p (a % p) = con p a := ext_cf fun i => by rw [cf_con, cf_con]; simp
theorem con_zero : con p 0 = 0 := ext_cf fun i => by rw [cf_con, cf_zero]; simp
theorem con_one : con p 1 = 1 := rfl
theorem con_eq_zero {a : Int} : con p a = 0 ↔ a % p = 0 := by
 constructor
 ·intro h
  have := cf_con (p := p) a 0
  rw [h, cf_zero] at this
  simpa using this.symm
 ·intro h
  rw [← con_mod, h, con_zero]
theorem con_dg (a : Int) : dg (con p a) ≤ 1 := dg_of_le [a]
theorem dg_con {a : Int} (h : a % p ≠ 0) : dg (con p a) = 1 := by
 have h1 := con_dg (p := p) a
 have h2 : dg (con p a) ≠ 0 := fun h' => h (con_eq_zero.1 (dg_eq_zero.1 h'))
 omega
theorem is_con {f : Poly p} (h : dg f ≤ 1) : f = con p (cf f.l 0) := ext_cf fun i => by
 rw [cf_con]
 cases i with
 | zero => simp [mod_cf]
 | succ i => rw [cf_dg (by omega)]; simp

theorem unit_inv {u : Poly p} (h : dg u = 1) : ∃ v, u * v = 1 := by
 have h0 := dg_lead (f := u) (n := 0) h
 obtain ⟨b, hb⟩ := Pr.inv (p := p) _ (cf_ne_mod h0)
 refine ⟨con p b, ?_⟩
 rw [is_con (f := u) (by omega), con_mul, ← con_mod, hb]; rfl
theorem unit_dvd {u : Poly p} (h : dg u = 1) (f : Poly p) : u ∣ f := by
 obtain ⟨v, hv⟩ := unit_inv h
 exact ⟨v * f, by exact comb (-f) hv (ring [f, u, v] (by rfl))⟩
theorem dvd_unit {u f : Poly p} (h : dg u = 1) (hf : f ∣ u) : dg f = 1 := by
 have hu : u ≠ 0 := fun e => by rw [e, dg_zero] at h; cases h
 have h1 := dvd_dg hf hu
 have h2 : dg f ≠ 0 := fun e => dvd_ne hf hu (dg_eq_zero.1 e)
 omega

def lc (f : Poly p) : Int := cf f.l (dg f - 1)
def Mon (f : Poly p) : Prop := f ≠ 0 ∧ lc f = 1
theorem lc_ne {f : Poly p} (h : f ≠ 0) : lc f ≠ 0 := by
 have : dg f ≠ 0 := fun e => h (dg_eq_zero.1 e)
 exact dg_lead (n := dg f - 1) (by omega)
theorem lc_mul {f g : Poly p} (hf : f ≠ 0) (hg : g ≠ 0) : lc (f * g) = lc f * lc g % p := by
 have h1 : dg f ≠ 0 := fun e => hf (dg_eq_zero.1 e)
 have h2 : dg g ≠ 0 := fun e => hg (dg_eq_zero.1 e)
 have h3 := dg_mul hf hg
 have := lead_mul (f := f) (g := g) (n := dg f - 1) (m := dg g - 1) (by omega) (by omega)
 unfold lc
 rw [show dg (f * g) - 1 = dg f - 1 + (dg g - 1) by omega, this]
theorem one_mod : (1 : Int) % p = 1 := Int.emod_eq_of_lt (by omega) (by have := Pr.two (p := p); omega)
theorem Mon.mul {f g : Poly p} (hf : Mon f) (hg : Mon g) : Mon (f * g) :=
 ⟨mul_ne hf.1 hg.1, by rw [lc_mul hf.1 hg.1, hf.2, hg.2]; exact one_mod⟩
theorem mon_one : Mon (1 : Poly p) := ⟨one_ne, by
 unfold lc
 rw [dg_one, cf_one]
 exact one_mod⟩
theorem Mon.right {f g : Poly p} (hf : Mon f) (h : Mon (f * g)) : Mon g := by
 have hg : g ≠ 0 := fun e => h.1 (by rw [e]; exact ring [f] (by rfl))
 refine ⟨hg, ?_⟩
 have := lc_mul hf.1 hg
 rw [h.2, hf.2, Int.one_mul] at this
 rw [this]; exact (mod_cf g _).symm
theorem lc_con {c : Int} (h : c % p ≠ 0) : lc (con p c) = c % p := by
 unfold lc
 rw [dg_con h, cf_con]; rfl
theorem con_ne {c : Int} (h : c % p ≠ 0) : con p c ≠ 0 := fun e => h (con_eq_zero.1 e)
theorem exists_mon {f : Poly p} (hf : f ≠ 0) : ∃ c : Int, c % p ≠ 0 ∧ Mon (con p c * f) := by
 obtain ⟨b, hb⟩ := Pr.inv (p := p) (lc f) (cf_ne_mod (lc_ne hf))
 have hb' : b % p ≠ 0 := by
  intro h
  rw [Int.mul_emod, h, Int.mul_zero, Int.zero_emod] at hb; cases hb
 refine ⟨b, hb', mul_ne (con_ne hb') hf, ?_⟩
 rw [lc_mul (con_ne hb') hf, lc_con hb', Int.mul_comm, Int.mul_emod, Int.emod_emod_of_dvd _ (Int.dvd_refl p), ← Int.mul_emod, hb]

theorem mon_eq {f g : Poly p} (hf : Mon f) (hg : Mon g) (h1 : f ∣ g) (h2 : g ∣ f) : f = g := by
 obtain ⟨q, rfl⟩ := h1
 have h3 := dvd_dg h2 hf.1
 have hq : q ≠ 0 := fun e => hg.1 (by rw [e]; exact ring [f] (by rfl))
 have h4 := dg_mul hf.1 hq
 have h5 : dg q ≠ 0 := fun e => hq (dg_eq_zero.1 e)
 have h6 : q = con p (cf q.l 0) := is_con (by omega)
 have h7 := hf.right hg
 have h8 : cf q.l 0 = 1 := by
  have := h7.2
  unfold lc at this
  rwa [show dg q - 1 = 0 by omega] at this
 rw [h6, h8, con_one]; exact ring [f] (by rfl)

open Classical in
noncomputable def mnc (f : Poly p) : Poly p := if h : f = 0 then 0 else con p (exists_mon h).choose * f
theorem mnc_zero : mnc (0 : Poly p) = 0 := by simp [mnc]
theorem mnc_mon {f : Poly p} (h : f ≠ 0) : Mon (mnc f) := by
 unfold mnc; rw [dif_neg h]; exact (exists_mon h).choose_spec.2
theorem mnc_assoc (f : Poly p) : mnc f ∣ f ∧ f ∣ mnc f := by
 unfold mnc
 split
 ·rename_i h; rw [h]; exact ⟨dvd_refl _, dvd_refl _⟩
 ·rename_i h
  obtain ⟨v, hv⟩ := unit_inv (dg_con (exists_mon h).choose_spec.1)
  generalize (exists_mon h).choose = c at hv
  exact ⟨⟨v, by exact comb (-f) hv (ring [f, con p c, v] (by rfl))⟩, ⟨con p c, by exact ring [f, con p c] (by rfl)⟩⟩
theorem mnc_is {f : Poly p} {c : Int} (h : Mon (con p c * f)) : mnc f = con p c * f := by
 have hf : f ≠ 0 := fun e => h.1 (by rw [e]; exact ring [con p c] (by rfl))
 have hc : c % p ≠ 0 := fun e => h.1 (by rw [con_eq_zero.2 e]; exact ring [f] (by rfl))
 obtain ⟨v, hv⟩ := unit_inv (dg_con hc)
 refine mon_eq (mnc_mon hf) h (dvd_mul_left _ (mnc_assoc f).1) ?_
 exact dvd_trans ⟨v, by exact comb (-f) hv (ring [f, con p c, v] (by rfl))⟩ (mnc_assoc f).2

noncomputable def gcd (f g : Poly p) : Poly p :=
 if h : dg g = 0 then mnc f else have : dg (rem f g) < dg g := rem_lt f fun e => h (dg_eq_zero.2 e); gcd g (rem f g)
termination_by dg g

theorem gcd_zero (f : Poly p) : gcd f 0 = mnc f := by rw [gcd, dif_pos dg_zero]
theorem gcd_ne (f : Poly p) {g : Poly p} (h : g ≠ 0) : gcd f g = gcd g (rem f g) := by rw [gcd, dif_neg fun e => h (dg_eq_zero.1 e)]

theorem gcd_spec : ∀ (n : Nat) (f g : Poly p), dg g ≤ n → (gcd f g ∣ f ∧ gcd f g ∣ g) ∧ (∃ a b, gcd f g = a * f + b * g) ∧ (f ≠ 0 ∨ g ≠ 0 → Mon (gcd f g)) := by
 intro n
 induction n with
 | zero =>
  intro f g h
  obtain rfl := dg_eq_zero.1 (by omega : dg g = 0)
  rw [gcd_zero]
  obtain ⟨h1, c, hc⟩ := mnc_assoc f
  refine ⟨⟨h1, dvd_zero _⟩, ⟨c, 0, by rw [hc]; exact ring [f, c] (by rfl)⟩, fun h => mnc_mon (h.resolve_right fun h => h rfl)⟩
 | succ n ih =>
  intro f g h
  by_cases hg : g = 0
  ·subst hg
   exact ih f 0 (by rw [dg_zero]; omega)
  ·rw [gcd_ne f hg]
   have h0 := rem_lt f hg
   obtain ⟨⟨h1, h2⟩, ⟨a, b, h3⟩, h4⟩ := ih g (rem f g) (by omega)
   have h5 := div_eq f g
   refine ⟨⟨?_, h1⟩, ⟨b, a - b * quo f g, ?_⟩, fun _ => h4 (.inl hg)⟩
   ·have := dvd_add (dvd_mul_left (quo f g) h1) h2
    rwa [← h5] at this
   ·rw [h3]; exact comb (-b) h5 (ring [a, b, f, g, rem f g, quo f g] (by rfl))

theorem gcd_left (f g : Poly p) : gcd f g ∣ f := (gcd_spec _ f g (Nat.le_refl _)).1.1
theorem gcd_right (f g : Poly p) : gcd f g ∣ g := (gcd_spec _ f g (Nat.le_refl _)).1.2
theorem gcd_comb (f g : Poly p) : ∃ a b, gcd f g = a * f + b * g := (gcd_spec _ f g (Nat.le_refl _)).2.1
theorem gcd_mon {f g : Poly p} (h : f ≠ 0 ∨ g ≠ 0) : Mon (gcd f g) := (gcd_spec _ f g (Nat.le_refl _)).2.2 h
theorem dvd_gcd {h f g : Poly p} (h1 : h ∣ f) (h2 : h ∣ g) : h ∣ gcd f g := by
 obtain ⟨a, b, he⟩ := gcd_comb f g
 rw [he]
 exact dvd_add (dvd_mul_left _ h1) (dvd_mul_left _ h2)

def Cop (f g : Poly p) : Prop := ∃ a b, a * f + b * g = 1
theorem Cop.symm {f g : Poly p} (h : Cop f g) : Cop g f := by
 obtain ⟨a, b, h⟩ := h
 exact ⟨b, a, by exact comb (1) h (ring [a, b, f, g] (by rfl))⟩
theorem cop_of_gcd {f g : Poly p} (h : dg (gcd f g) = 1) : Cop f g := by
 obtain ⟨a, b, he⟩ := gcd_comb f g
 obtain ⟨v, hv⟩ := unit_inv h
 exact ⟨v * a, v * b, by exact comb (1) hv (comb (-v) he (ring [v, a, b, f, g, gcd f g] (by rfl)))⟩
theorem Cop.mul {f g h : Poly p} (h1 : Cop f h) (h2 : Cop g h) : Cop (f * g) h := by
 obtain ⟨a, b, h1⟩ := h1
 obtain ⟨c, d, h2⟩ := h2
 exact ⟨a * c, a * f * d + b * c * g + b * d * h, by exact comb (c*g+d*h) h1 (comb (1) h2 (ring [a, b, c, d, f, g, h] (by rfl)))⟩
theorem Cop.dvd {f g h : Poly p} (h1 : Cop f g) (h2 : f ∣ g * h) : f ∣ h := by
 obtain ⟨a, b, h1⟩ := h1
 obtain ⟨q, h2⟩ := h2
 exact ⟨a * h + b * q, by exact comb (-h) h1 (comb (b) h2 (ring [a, b, f, g, h, q] (by rfl)))⟩
theorem Cop.mul_dvd {f g h : Poly p} (h1 : Cop f g) (h2 : f ∣ h) (h3 : g ∣ h) : f * g ∣ h := by
 obtain ⟨a, b, h1⟩ := h1
 obtain ⟨q, h2⟩ := h2
 obtain ⟨r, h3⟩ := h3
 exact ⟨a * r + b * q, by exact comb (-h) h1 (comb (b*g) h2 (comb (a*f) h3 (ring [a, b, f, g, h, q, r] (by rfl))))⟩
theorem Cop.of_dvd {f g f' g' : Poly p} (h : Cop f g) (h1 : f' ∣ f) (h2 : g' ∣ g) : Cop f' g' := by
 obtain ⟨a, b, h⟩ := h
 obtain ⟨q, rfl⟩ := h1
 obtain ⟨r, rfl⟩ := h2
 exact ⟨a * q, b * r, by exact comb (1) h (ring [a, b, q, r, f', g'] (by rfl))⟩
theorem cop_one (f : Poly p) : Cop 1 f := ⟨1, 0, by exact ring [f] (by rfl)⟩
theorem Cop.pow {f g : Poly p} (h : Cop f g) (n : Nat) : Cop (f ^ n) g := by
  induction n with
  | zero => have : f ^ 0 = 1 := by exact pow_zero' f
            rw [this]; exact cop_one g
  | succ n ih => have : f ^ (n + 1) = f ^ n * f := by exact pow_succ' f n
                 rw [this]; exact ih.mul h

def Irr (h : Poly p) : Prop := 2 ≤ dg h ∧ ∀ a b, h = a * b → dg a = 1 ∨ dg b = 1

theorem Irr.ne {h : Poly p} (hi : Irr h) : h ≠ 0 := fun e => by have := hi.1; rw [e, dg_zero] at this; omega

theorem Irr.cop {h a : Poly p} (hi : Irr h) (hn : ¬ h ∣ a) : Cop h a := by
 obtain ⟨q, hq⟩ := gcd_left h a
 rcases hi.2 _ _ hq with h1 | h1
 ·exact cop_of_gcd h1
 ·exfalso
  obtain ⟨v, hv⟩ := unit_inv h1
  exact hn (dvd_trans ⟨v, by exact comb (-(gcd h a)) hv (comb (-v) hq (ring [gcd h a, h, q, v] (by rfl)))⟩ (gcd_right h a))
theorem Irr.prime {h a b : Poly p} (hi : Irr h) (hd : h ∣ a * b) : h ∣ a ∨ h ∣ b := by
 by_cases ha : h ∣ a
 ·exact .inl ha
 ·exact .inr ((hi.cop ha).dvd hd)
theorem Irr.not_unit {h u : Poly p} (hi : Irr h) (hu : dg u = 1) : ¬ h ∣ u := fun hd => by
 have := dvd_unit hu hd
 have := hi.1
 omega
theorem Irr.pow {h a : Poly p} (hi : Irr h) {n : Nat} (hd : h ∣ a ^ n) : h ∣ a := by
 induction n with
 | zero =>
  have e : a ^ 0 = 1 := by exact pow_zero' a
  rw [e] at hd
  exact absurd hd (hi.not_unit dg_one)
 | succ n ih =>
  have e : a ^ (n + 1) = a ^ n * a := by exact pow_succ' a n
  rw [e] at hd
  exact (hi.prime hd).elim ih id

theorem irr_eq {g h : Poly p} (hg : Irr g) (hh : Irr h) (mg : Mon g) (mh : Mon h) (hd : g ∣ h) : g = h := by
 refine mon_eq mg mh hd ?_
 obtain ⟨q, rfl⟩ := hd
 rcases hh.2 _ _ rfl with h1 | h1
 ·exact absurd h1 (by have := hg.1; omega)
 ·obtain ⟨v, hv⟩ := unit_inv h1
  exact ⟨v, by exact comb (-g) hv (ring [g, q, v] (by rfl))⟩

theorem irr_mnc {h : Poly p} (hi : Irr h) : Irr (mnc h) ∧ Mon (mnc h) := by
 refine ⟨?_, mnc_mon hi.ne⟩
 obtain ⟨⟨q, hq⟩, ⟨r, hr⟩⟩ := mnc_assoc h
 have h1 := dvd_dg (mnc_assoc h).1 hi.ne
 have h2 := dvd_dg (mnc_assoc h).2 (mnc_mon hi.ne).1
 refine ⟨by have := hi.1; omega, fun a b hab => ?_⟩
 have hq1 : dg q = 1 := by
  have hm := (mnc_mon hi.ne).1
  have hq0 : q ≠ 0 := fun e => hi.ne (by rw [hq, e]; exact ring [mnc h] (by rfl))
  have := dg_mul hm hq0
  rw [← hq] at this
  omega
 rcases hi.2 a (b * q) (by exact comb (1) hq (comb (q) hab (ring [h, a, b, q, mnc h] (by rfl)))) with h3 | h3
 ·exact .inl h3
 ·exact .inr (dvd_unit h3 ⟨q, rfl⟩)

theorem exists_irr : ∀ (n : Nat) (f : Poly p), dg f ≤ n → 2 ≤ dg f → ∃ h, Irr h ∧ Mon h ∧ h ∣ f := by
 intro n
 induction n with
 | zero => intro f h1 h2; omega
 | succ n ih =>
  intro f h1 h2
  have hf : f ≠ 0 := fun e => by rw [e, dg_zero] at h2; omega
  by_cases hi : Irr f
  ·exact ⟨mnc f, (irr_mnc hi).1, (irr_mnc hi).2, (mnc_assoc f).1⟩
  ·unfold Irr at hi
   simp only [not_and, Classical.not_forall, not_or] at hi
   obtain ⟨a, b, rfl, ha, hb⟩ := hi h2
   have ha0 : a ≠ 0 := fun e => hf (by rw [e]; exact ring [b] (by rfl))
   have hb0 : b ≠ 0 := fun e => hf (by rw [e]; exact ring [a] (by rfl))
   have h3 := dg_mul ha0 hb0
   have h4 : dg a ≠ 0 := fun e => ha0 (dg_eq_zero.1 e)
   have h5 : dg b ≠ 0 := fun e => hb0 (dg_eq_zero.1 e)
   obtain ⟨h, h6, h7, h8⟩ := ih a (by omega) (by omega)
   exact ⟨h, h6, h7, dvd_mul_right _ h8⟩

def Sqf (f : Poly p) : Prop := ∀ h, Irr h → ¬ h * h ∣ f

theorem cop_of_irr {f g : Poly p} (hf : f ≠ 0) (h : ∀ h, Irr h → h ∣ f → h ∣ g → False) : Cop f g := by
 have hm := gcd_mon (f := f) (g := g) (.inl hf)
 have h0 : dg (gcd f g) ≠ 0 := fun e => hm.1 (dg_eq_zero.1 e)
 by_cases h1 : dg (gcd f g) = 1
 ·exact cop_of_gcd h1
 ·obtain ⟨q, h2, _, h3⟩ := exists_irr _ (gcd f g) (Nat.le_refl _) (by omega)
  exact (h q h2 (dvd_trans h3 (gcd_left f g)) (dvd_trans h3 (gcd_right f g))).elim

theorem Sqf.cop {f a b : Poly p} (hs : Sqf f) (hf : f ≠ 0) (h : a * b ∣ f) : Cop a b := by
 have ha : a ≠ 0 := fun e => dvd_ne h hf (by rw [e]; exact ring [b] (by rfl))
 refine cop_of_irr ha fun q hq h1 h2 => hs q hq ?_
 obtain ⟨x, rfl⟩ := h1
 obtain ⟨y, rfl⟩ := h2
 exact dvd_trans ⟨x * y, by exact ring [q, x, y] (by rfl)⟩ h
theorem Sqf.dvd {f g : Poly p} (hs : Sqf f) (h : g ∣ f) : Sqf g := fun q hq hd => hs q hq (dvd_trans hd h)

end Poly

def primes : List Int := [2, 3, 5, 7, 11, 13, 17, 19, 23, 29, 31, 37, 41, 43, 47, 53, 59, 61, 67, 71, 73, 79, 83, 89, 97]

def subK (p k : Int) : List Int → List Int → List Int
 | x :: l, y :: l' => (x - k * y) % p :: subK p k l l'
 | _, _ => []
def stir (p : Int) : Nat → List Int
 | 0 => [1]
 | n + 1 => subK p n (0 :: stir p n) (stir p n ++ [0])
def stirTo (p : Int) : List Int := 0 :: (p - 1) :: (List.replicate (p.toNat - 2) 0 ++ [1])

theorem primes_stir : primes.all (fun p => stir p p.toNat == stirTo p) = true := by decide +kernel
theorem primes_inv : primes.all (fun p => (List.range p.toNat).all fun a => a == 0 || (List.range p.toNat).any fun b => (a : Int) * b % p == 1) = true := by decide +kernel
theorem primes_two : primes.all (fun p => decide (2 ≤ p ∧ p ≤ 97)) = true := by decide +kernel

class SP (p : Int) : Prop extends Pr p where
 le : p ≤ 97
 stir : stir p p.toNat = stirTo p

theorem sp_of {p : Int} (h : p ∈ primes) : SP p := by
 have h1 := List.all_eq_true.1 primes_stir p h
 have h2 := List.all_eq_true.1 primes_inv p h
 have h3 := List.all_eq_true.1 primes_two p h
 simp only [beq_iff_eq, decide_eq_true_eq] at h1 h3
 refine { pos := by omega, two := h3.1, le := h3.2, stir := h1, inv := fun a ha => ?_ }
 rw [List.all_eq_true] at h2
 have h4 := Int.emod_nonneg a (show p ≠ 0 by omega)
 have h5 := Int.emod_lt_of_pos a (show 0 < p by omega)
 have h6 := h2 (a % p).toNat (List.mem_range.2 (by omega))
 simp only [Bool.or_eq_true, beq_iff_eq, List.any_eq_true] at h6
 rcases h6 with h6 | ⟨b, _, h6⟩
 ·omega
 ·refine ⟨b, ?_⟩
  rw [show ((a % p).toNat : Int) = a % p by omega, Int.mul_emod, Int.emod_emod_of_dvd _ (Int.dvd_refl p), ← Int.mul_emod] at h6
  exact h6

namespace Poly
variable {p : Int} [Pr p]

def hev (a b : Poly p) : List Int → Nat → Poly p
 | [], _ => 0
 | c :: l, n => con p c * b ^ n + a * hev a b l (n - 1)

def prodS (a b : Poly p) : Nat → Poly p
 | 0 => 1
 | n + 1 => prodS a b n * (a - con p n * b)


theorem hev_snoc (a b : Poly p) : ∀ (l : List Int) (n : Nat), l.length = n + 1 → hev a b (l ++ [0]) (n + 1) = b * hev a b l n
 | [], n, h => by simp at h
 | [c], n, h => by
  have : n = 0 := by simpa using h.symm
  subst this
  simp only [List.cons_append, List.nil_append, hev, con_zero]
  rw [pow_succ', pow_zero']
  exact ring [con p c, b, a, b ^ (0 + 1 - 1)] (by rfl)
 | c :: d :: l, n, h => by
  cases n with
  | zero => simp at h
  | succ n =>
   have ih := hev_snoc a b (d :: l) n (by simpa using h)
   simp only [List.cons_append] at ih ⊢
   have e1 : hev a b (c :: d :: (l ++ [0])) (n + 1 + 1) = con p c * b ^ (n + 1 + 1) + a * hev a b (d :: (l ++ [0])) (n + 1) := rfl
   have e2 : hev a b (c :: d :: l) (n + 1) = con p c * b ^ (n + 1) + a * hev a b (d :: l) n := rfl
   rw [e1, e2, ih, pow_succ' b (n + 1)]
   exact ring [a, b, con p c, b ^ (n+1), hev a b (d :: l) n] (by rfl)

theorem hev_subK (a b : Poly p) (k : Int) : ∀ (l l' : List Int) (n : Nat), l.length = l'.length → hev a b (subK p k l l') n = hev a b l n - con p k * hev a b l' n
 | [], [], n, _ => by simp only [subK, hev]; exact ring [con p k] (by rfl)
 | x :: l, y :: l', n, h => by
  simp only [subK, hev]
  rw [hev_subK a b k l l' (n - 1) (by simpa using h), con_mod, ← con_sub, ← con_mul]
  exact ring [con p k, con p x, con p y, a, b ^ n, hev a b l (n-1), hev a b l' (n-1)] (by rfl)
 | [], _ :: _, n, h => by simp at h
 | _ :: _, [], n, h => by simp at h

theorem subK_length {p : Int} (k : Int) : ∀ (l l' : List Int), l.length = l'.length → (subK p k l l').length = l.length
 | [], [], _ => rfl
 | x :: l, y :: l', h => by simp [subK, subK_length k l l' (by simpa using h)]
 | [], _ :: _, h => by simp at h
 | _ :: _, [], h => by simp at h

theorem stir_length {p : Int} (n : Nat) : (stir p n).length = n + 1 := by
 induction n with
 | zero => rfl
 | succ n ih => rw [stir, subK_length _ _ _ (by simp)]; simp [ih]

theorem hev_stir (a b : Poly p) (n : Nat) : hev a b (stir p n) n = prodS a b n := by
 induction n with
 | zero => simp only [stir, hev, prodS, con_one, pow_zero']; exact ring [a] (by rfl)
 | succ n ih =>
  rw [stir, hev_subK _ _ _ _ _ _ (by simp), hev_snoc _ _ _ _ (stir_length n), prodS]
  simp only [hev, con_zero, Nat.add_sub_cancel, ih]
  exact ring [a, b, prodS a b n, con p (n:Int), b ^ (n+1)] (by rfl)

theorem hev_top (a b : Poly p) (m : Nat) : hev a b (List.replicate m 0 ++ [1]) m = a ^ m := by
 induction m with
 | zero => simp only [List.replicate_zero, List.nil_append, hev, con_one, pow_zero']; exact ring [a] (by rfl)
 | succ m ih =>
  rw [List.replicate_succ, List.cons_append, hev, Nat.add_sub_cancel, ih, con_zero, pow_succ' a m]
  exact ring [a, a ^ m, b ^ (m+1)] (by rfl)

section
variable {p : Int} [SP p]

theorem prod_all (a b : Poly p) : prodS a b p.toNat = a ^ p.toNat - a * b ^ (p.toNat - 1) := by
 have h2 := Pr.two (p := p)
 rw [← hev_stir, SP.stir (p := p), stirTo]
 obtain ⟨m, hm⟩ : ∃ m, p.toNat = m + 2 := ⟨p.toNat - 2, by omega⟩
 rw [hm]
 simp only [hev, con_zero, show m + 2 - 1 = m + 1 from rfl, show m + 1 - 1 = m from rfl, show m + 2 - 2 = m from rfl, hev_top]
 have h1 : con p (p - 1) = -1 := by
  rw [← con_sub, con_one, con_eq_zero.2 (Int.emod_self)]; exact ring [a] (by rfl)
 rw [h1, pow_succ' a (m + 1), pow_succ' a m]
 exact ring [a, b, a ^ m, b ^ (m+1), b ^ (m+2)] (by rfl)

theorem prodS_shift (a b : Poly p) (n : Nat) : prodS (a + b) b (n + 1) = (a + b) * prodS a b n := by
 induction n with
 | zero =>
  simp only [prodS]
  rw [show (((0 : Nat)) : Int) = 0 from rfl, con_zero]; exact ring [a, b] (by rfl)
 | succ n ih =>
  rw [prodS, ih, prodS, show (((n + 1 : Nat)) : Int) = (n : Int) + 1 from by omega, ← con_add, con_one]
  exact ring [a, b, prodS a b n, con p (n:Int)] (by rfl)

theorem frob_add (a b : Poly p) : (a + b) ^ p.toNat = a ^ p.toNat + b ^ p.toNat := by
 have h2 := Pr.two (p := p)
 obtain ⟨m, hm⟩ : ∃ m, p.toNat = m + 1 := ⟨p.toNat - 1, by omega⟩
 have h1 := prod_all (a + b) b
 have h3 := prod_all a b
 rw [hm] at h1 h3 ⊢
 rw [prodS_shift] at h1
 rw [prodS] at h3
 simp only [Nat.add_sub_cancel] at h1 h3
 have h4 : con p (m : Int) = -1 := by
  have : (m : Int) = p - 1 := by omega
  rw [this, ← con_sub, con_one, con_eq_zero.2 (Int.emod_self)]; exact ring [a] (by rfl)
 rw [h4] at h3
 rw [pow_succ' b m]
 exact comb (-1) h1 (comb (1) h3 (ring [a, b, prodS a b m, b^m, a^(m+1), (a+b)^(m+1)] (by rfl)))

theorem one_pow (n : Nat) : (1 : Poly p) ^ n = 1 := by
 induction n with
 | zero => exact pow_zero' _
 | succ n ih => rw [pow_succ', ih]; exact CR.one_mul 1
theorem zero_pow {n : Nat} (h : 0 < n) : (0 : Poly p) ^ n = 0 := by
 obtain ⟨m, rfl⟩ : ∃ m, n = m + 1 := ⟨n - 1, by omega⟩
 rw [pow_succ']; exact CR.mul_zero _
theorem mul_pow (a b : Poly p) (n : Nat) : (a * b) ^ n = a ^ n * b ^ n := by
 induction n with
 | zero => simp only [pow_zero']; exact (CR.one_mul 1).symm
 | succ n ih => rw [pow_succ', ih, pow_succ', pow_succ']; exact ring [a, b, a^n, b^n] (by rfl)
theorem pow_add (a : Poly p) (n m : Nat) : a ^ (n + m) = a ^ n * a ^ m := by
 induction m with
 | zero => rw [Nat.add_zero, pow_zero']; exact (CR.mul_one _).symm
 | succ m ih => rw [← Nat.add_assoc, pow_succ', ih, pow_succ']; exact CR.mul_assoc _ _ _
theorem pow_mul (a : Poly p) (n m : Nat) : a ^ (n * m) = (a ^ n) ^ m := by
 induction m with
 | zero => rw [Nat.mul_zero, pow_zero', pow_zero']
 | succ m ih => rw [Nat.mul_succ, pow_add, ih, pow_succ']

theorem pos_nat : 0 < p.toNat := by have := Pr.two (p := p); omega

theorem frob_con (c : Int) : con p c ^ p.toNat = con p c := by
 have hn : ∀ n : Nat, con p (n : Int) ^ p.toNat = con p (n : Int) := by
  intro n
  induction n with
  | zero => rw [show (((0 : Nat)) : Int) = 0 from rfl, con_zero, zero_pow pos_nat]
  | succ n ih => rw [show (((n + 1 : Nat)) : Int) = (n : Int) + 1 from by omega, ← con_add, frob_add, ih, con_one, one_pow]
 have h1 := Int.emod_nonneg c (show p ≠ 0 by have := Pr.two (p := p); omega)
 have := hn (c % p).toNat
 rwa [show (((c % p).toNat : Nat) : Int) = c % p by omega, con_mod] at this

theorem prod_con (a : Poly p) : prodS a 1 p.toNat = a ^ p.toNat - a := by
 rw [prod_all, one_pow]; rw [CR.mul_one]
theorem frob_sub (a b : Poly p) : (a - b) ^ p.toNat = a ^ p.toNat - b ^ p.toNat := by
 have h := frob_add (a - b) b
 have : a - b + b = a := by exact ring [a, b] (by rfl)
 rw [this] at h
 exact comb (-1) h (ring [(a-b)^p.toNat, a^p.toNat, b^p.toNat] (by rfl))
end

end Poly
namespace Poly
variable {p : Int} [SP p]

def Ber (f v : Poly p) : Prop := f ∣ v ^ p.toNat - v

theorem irr_prodS {h v : Poly p} (hi : Irr h) : ∀ {n : Nat}, h ∣ prodS v 1 n → ∃ s, s < n ∧ h ∣ v - con p (s : Int)
 | 0, hd => absurd hd (hi.not_unit dg_one)
 | n + 1, hd => by
  rw [prodS] at hd
  rcases hi.prime hd with h1 | h1
  ·obtain ⟨s, h2, h3⟩ := irr_prodS hi h1
   exact ⟨s, by omega, h3⟩
  ·exact ⟨n, by omega, by
    have e : v - con p (n : Int) * 1 = v - con p (n : Int) := by exact ring [v, con p (n:Int)] (by rfl)
    rwa [e] at h1⟩

theorem ber_irr {h v : Poly p} (hi : Irr h) (hd : Ber h v) : ∃ s : Int, 0 ≤ s ∧ s < p ∧ h ∣ v - con p s := by
 unfold Ber at hd
 rw [← prod_con] at hd
 obtain ⟨s, h1, h2⟩ := irr_prodS hi hd
 exact ⟨s, by omega, by have := Pr.two (p := p); omega, h2⟩

theorem con_unique {h v : Poly p} (hi : 2 ≤ dg h) {s t : Int} (h1 : h ∣ v - con p s) (h2 : h ∣ v - con p t) : s % p = t % p := by
 have h3 : h ∣ con p (s - t) := by
  have := dvd_sub h2 h1
  have e : v - con p t - (v - con p s) = con p (s - t) := by rw [← con_sub]; exact ring [v, con p s, con p t] (by rfl)
  rwa [e] at this
 have h4 : con p (s - t) = 0 := by
  refine Classical.byContradiction fun hne => ?_
  have := dvd_dg h3 hne
  have := con_dg (p := p) (s - t)
  omega
 have h5 := con_eq_zero.1 h4
 exact Int.emod_eq_emod_iff_emod_sub_eq_zero.2 h5

theorem Ber.dvd {f g v : Poly p} (h : Ber f v) (hd : g ∣ f) : Ber g v := dvd_trans hd h
theorem Ber.add {f v w : Poly p} (h : Ber f v) (k : Ber f w) : Ber f (v + w) := by
 unfold Ber at *
 rw [frob_add]
 have := dvd_add h k
 have e : v ^ p.toNat - v + (w ^ p.toNat - w) = v ^ p.toNat + w ^ p.toNat - (v + w) := by exact ring [v, w, v ^ p.toNat, w ^ p.toNat] (by rfl)
 rwa [e] at this
theorem Ber.mul {f v w : Poly p} (h : Ber f v) (k : Ber f w) : Ber f (v * w) := by
 unfold Ber at *
 rw [mul_pow]
 obtain ⟨a, ha⟩ := h
 obtain ⟨b, hb⟩ := k
 exact ⟨a * w ^ p.toNat + v * b, by exact comb (w ^ p.toNat) ha (comb (v) hb (ring [f, v, w, a, b, v ^ p.toNat, w ^ p.toNat] (by rfl)))⟩
theorem Ber.congr {f v w : Poly p} (h : Ber f v) (hd : f ∣ v - w) : Ber f w := by
 unfold Ber at *
 obtain ⟨q, hq⟩ := hd
 have h1 : f ∣ (v - w) ^ p.toNat - (v - w) := by
  rw [hq, mul_pow]
  obtain ⟨m, hm⟩ : ∃ m, p.toNat = m + 1 := ⟨p.toNat - 1, by have := pos_nat (p := p); omega⟩
  rw [hm, pow_succ' f, pow_succ' q]
  exact ⟨f ^ m * (q ^ m * q) - q, by exact ring [f, q, f^m, q^m] (by rfl)⟩
 rw [frob_sub] at h1
 have := dvd_sub h h1
 have e : v ^ p.toNat - v - (v ^ p.toNat - w ^ p.toNat - (v - w)) = w ^ p.toNat - w := by exact ring [v, w, v ^ p.toNat, w ^ p.toNat] (by rfl)
 rwa [e] at this

theorem part_irr {f part : Poly p} (hf : f ≠ 0) (hs : Sqf f) (hd : part ∣ f) (h2 : 2 ≤ dg part) (hc : ∀ w, dg w < dg f → Ber f w → ∃ s : Int, part ∣ w - con p s) : Irr part := by
 refine ⟨h2, fun a b hab => Classical.byContradiction fun hn => ?_⟩
 simp only [not_or] at hn
 obtain ⟨c, hfc⟩ := hd
 have hpart : part ≠ 0 := fun e => by rw [e, dg_zero] at h2; omega
 have ha0 : a ≠ 0 := fun e => hpart (by rw [hab, e]; exact ring [b] (by rfl))
 have hb0 : b ≠ 0 := fun e => hpart (by rw [hab, e]; exact ring [a] (by rfl))
 have hda : dg a ≠ 0 := fun e => ha0 (dg_eq_zero.1 e)
 have hdb : dg b ≠ 0 := fun e => hb0 (dg_eq_zero.1 e)
 have hfa : f = a * (b * c) := by rw [hfc, hab]; exact ring [a, b, c] (by rfl)
 have hcop : Cop a (b * c) := hs.cop hf ⟨1, by rw [← hfa]; exact ring [f] (by rfl)⟩
 obtain ⟨u, v, huv⟩ := hcop
 have hber : Ber f (u * a) := by
  unfold Ber
  rw [hfa]
  have hcop' : Cop a (b * c) := ⟨u, v, huv⟩
  obtain ⟨m, hm⟩ : ∃ m, p.toNat = m + 1 := ⟨p.toNat - 1, by have := pos_nat (p := p); omega⟩
  refine hcop'.mul_dvd ?_ ?_
  ·rw [hm, pow_succ']
   exact ⟨((u * a) ^ m - 1) * u, by exact ring [u, a, (u*a)^m] (by rfl)⟩
  ·have e : u * a = 1 - v * (b * c) := by exact comb (1) huv (ring [u, a, v, b, c] (by rfl))
   rw [e, frob_sub, one_pow, hm, pow_succ']
   exact ⟨v - (v * (b * c)) ^ m * v, by exact ring [v, b, c, (v*(b*c))^m] (by rfl)⟩
 have hrem := div_eq (u * a) f
 have hlt := rem_lt (u * a) hf
 have hbr : Ber f (rem (u * a) f) := hber.congr ⟨quo (u * a) f, by exact comb (1) hrem (ring [u, a, f, quo (u*a) f, rem (u*a) f] (by rfl))⟩
 obtain ⟨s, hs'⟩ := hc _ hlt hbr
 have h3 : part ∣ u * a - con p s := by
  have h4 : part ∣ f := ⟨c, hfc⟩
  have h5 := dvd_add hs' (dvd_mul_left (quo (u * a) f) h4)
  have e : rem (u * a) f - con p s + quo (u * a) f * f = u * a - con p s := by exact comb (-1) hrem (ring [u, a, f, con p s, quo (u*a) f, rem (u*a) f] (by rfl))
  rwa [e] at h5
 have h6 : a ∣ con p s := by
  have h7 : a ∣ part := ⟨b, hab⟩
  have h8 := dvd_sub (dvd_mul_left u (dvd_refl a)) (dvd_trans h7 h3)
  have e : u * a - (u * a - con p s) = con p s := by exact ring [u, a, con p s] (by rfl)
  rwa [e] at h8
 have h9 : con p s = 0 := by
  refine Classical.byContradiction fun hne => ?_
  have := dvd_dg h6 hne
  have := con_dg (p := p) s
  omega
 rw [h9] at h3
 have h10 : b ∣ 1 := by
  have h7 : b ∣ part := ⟨a, by rw [hab]; exact ring [a, b] (by rfl)⟩
  have h8 := dvd_trans h7 h3
  have h11 : b ∣ v * (b * c) := ⟨v * c, by exact ring [v, b, c] (by rfl)⟩
  have h12 := dvd_add h8 h11
  have e : u * a - 0 + v * (b * c) = 1 := by exact comb (1) huv (ring [u, a, v, b, c] (by rfl))
  rwa [e] at h12
 exact hn.2 (dvd_unit dg_one h10)

end Poly

def dv (f : Nat → Int) : Nat → Int := fun i => ((i : Int) + 1) * f (i + 1)

theorem dv_cv (f g : Nat → Int) (k : Nat) : dv (cv f g) k = cv (dv f) g k + cv f (dv g) k := by
 induction k generalizing f with
 | zero => simp [dv, cv]; omega
 | succ k ih =>
  have h1 := ih (fun i => f (i + 1))
  have e1 : dv (cv (fun i => f (i + 1)) g) k = ((k : Int) + 1) * cv (fun i => f (i + 1)) g (k + 1) := rfl
  have e2 : dv (cv f g) (k + 1) = ((k : Int) + 2) * (f 0 * g (k + 2) + cv (fun i => f (i + 1)) g (k + 1)) := by
   unfold dv; rw [cv]; congr 1
  have e3 : cv (dv f) g (k + 1) = f 1 * g (k + 1) + cv (fun i => dv f (i + 1)) g k := by
   rw [cv]; simp [dv]
  have e4 : cv f (dv g) (k + 1) = f 0 * (((k : Int) + 2) * g (k + 2)) + cv (fun i => f (i + 1)) (dv g) k := by
   rw [cv]; unfold dv; congr 3
  have e5 : (fun i => dv f (i + 1)) = fun i => dv (fun i => f (i + 1)) i + f (i + 1 + 1) := by
   funext i
   unfold dv
   rw [show ((i + 1 : Nat) : Int) + 1 = ((i : Int) + 1) + 1 from by omega, Int.add_mul ((i : Int) + 1)]; simp
  have e6 : cv (fun i => f (i + 1)) g (k + 1) = f 1 * g (k + 1) + cv (fun i => f (i + 1 + 1)) g k := by rw [cv]
  rw [e2, e3, e4, e5, cv_add]
  rw [e1] at h1
  have e7 : ((k : Int) + 2) * cv (fun i => f (i + 1)) g (k + 1) = ((k : Int) + 1) * cv (fun i => f (i + 1)) g (k + 1) + cv (fun i => f (i + 1)) g (k + 1) := by
   rw [show (k : Int) + 2 = ((k : Int) + 1) + 1 from by omega, Int.add_mul]; simp
  have e8 : ((k : Int) + 2) * (f 0 * g (k + 2)) = f 0 * (((k : Int) + 2) * g (k + 2)) := by
   rw [← Int.mul_assoc, Int.mul_comm _ (f 0), Int.mul_assoc]
  rw [Int.mul_add, e7, e8, h1, e6]
  have e9 : (fun i => dv (fun i => f (i + 1)) i) = dv (fun i => f (i + 1)) := rfl
  omega

namespace Poly
variable {p : Int} [SP p]

def der (f : Poly p) : Poly p := of p (mkL (dg f) (dv (cf f.l)))
theorem cf_der (f : Poly p) (i : Nat) : cf (der f).l i = dv (cf f.l) i % p := by
 rw [der, cf_of, cf_mkL]
 split
 ·rfl
 ·rename_i h
  unfold dv
  rw [cf_dg (f := f) (by omega)]; simp
theorem dv_mod {p : Int} (f : Nat → Int) (i : Nat) : dv (fun i => f i % p) i % p = dv f i % p := by
 unfold dv
 rw [Int.mul_emod, Int.emod_emod_of_dvd _ (Int.dvd_refl p), ← Int.mul_emod]
theorem der_mul (f g : Poly p) : der (f * g) = der f * g + f * der g := ext_cf fun i => by
 have e1 : cf (der f).l = fun i => dv (cf f.l) i % p := funext (cf_der f)
 have e2 : cf (der g).l = fun i => dv (cf g.l) i % p := funext (cf_der g)
 rw [cf_der, cf_mul_fun, dv_mod, dv_cv, cf_add, cf_mul, cf_mul, e1, e2, cv_mod, cv_comm (cf f.l) (fun i => dv (cf g.l) i % p), cv_mod, cv_comm (cf f.l) (dv (cf g.l)), ← Int.add_emod]
theorem der_dg {f : Poly p} (h : f ≠ 0) : dg (der f) < dg f := by
 have h0 : dg f ≠ 0 := fun e => h (dg_eq_zero.1 e)
 have : dg (der f) ≤ dg f - 1 := dg_le fun i hi => by
  rw [cf_der]; unfold dv; rw [cf_dg (f := f) (by omega)]; simp
 omega

theorem pow_dvd_der (h : Poly p) (n : Nat) : h ^ n ∣ der (h ^ (n + 1)) := by
 induction n with
 | zero => rw [pow_zero']; exact one_dvd _
 | succ n ih =>
  rw [pow_succ' h (n + 1), der_mul, pow_succ' h n]
  rw [pow_succ' h n] at ih
  obtain ⟨q, hq⟩ := ih
  rw [hq]
  exact ⟨q + der h, by exact ring [h, q, der h, h^n] (by rfl)⟩

theorem pow_dvd_der_of {h f : Poly p} {n : Nat} (hd : h ^ (n + 1) ∣ f) : h ^ n ∣ der f := by
 obtain ⟨u, rfl⟩ := hd
 rw [der_mul]
 refine dvd_add (dvd_mul_right _ (pow_dvd_der h n)) ?_
 rw [pow_succ']
 exact ⟨h * der u, by exact ring [h, der u, h^n] (by rfl)⟩

theorem pow_dg {h : Poly p} (hi : 2 ≤ dg h) (n : Nat) : n < dg (h ^ n) := by
 have h0 : h ≠ 0 := fun e => by rw [e, dg_zero] at hi; omega
 induction n with
 | zero => rw [pow_zero', dg_one]; omega
 | succ n ih =>
  have h1 : h ^ n ≠ 0 := fun e => by rw [e, dg_zero] at ih; omega
  have := dg_mul h1 h0
  rw [pow_succ']; omega

theorem sqf_part {f q c : Poly p} (hf : f ≠ 0) (he : f = q * c) (hc : ∀ h, h ∣ f → h ∣ der f → h ∣ c) : Sqf q := by
 intro h hi hd
 have key : ∀ n : Nat, h ^ n ∣ f := by
  intro n
  induction n with
  | zero => rw [pow_zero']; exact one_dvd _
  | succ n ih =>
   cases n with
   | zero =>
    rw [pow_succ', pow_zero', he]
    obtain ⟨r, hr⟩ := hd
    exact ⟨h * r * c, by exact comb (c) hr (ring [q, c, h, r] (by rfl))⟩
   | succ n =>
    have h1 : h ^ n ∣ f := dvd_trans ⟨h, pow_succ' h n⟩ ih
    obtain ⟨a, ha⟩ := hc _ h1 (pow_dvd_der_of ih)
    obtain ⟨b, hb⟩ := hd
    rw [pow_succ', pow_succ', he, ha, hb]
    exact ⟨b * a, by exact ring [h, a, b, h^n] (by rfl)⟩
 have h1 := pow_dg hi.1 (dg f)
 have h2 := dvd_dg (key (dg f)) hf
 omega

theorem rest_der {f q c rest s : Poly p} (he : f = q * c) (hs : f = rest * s) (hr : rest ≠ 0) (hc : c ∣ der f) (h1 : Cop rest q) (h2 : Cop rest s) : der rest = 0 := by
 have h3 : rest ∣ c := h1.dvd ⟨s, by rw [← he, hs]⟩
 have h4 := dvd_trans h3 hc
 rw [hs, der_mul] at h4
 have h5 : rest ∣ s * der rest := by
  have := dvd_sub h4 (dvd_mul_right (der s) (dvd_refl rest))
  have e : der rest * s + rest * der s - rest * der s = s * der rest := by exact ring [der rest, der s, rest, s] (by rfl)
  rwa [e] at this
 have h6 := h2.dvd h5
 refine Classical.byContradiction fun hne => ?_
 have := dvd_dg h6 hne
 have := der_dg hr
 omega

theorem mono_mul (a b : Nat) : mono p 1 a * mono p 1 b = mono p 1 (a + b) := ext_cf fun i => by
 rw [cf_mono_mul, cf_mono, cf_mono]
 by_cases h : a ≤ i
 ·rw [if_pos h]
  by_cases h' : i = a + b
  ·rw [if_pos (by omega), if_pos h']; simp
  ·rw [if_neg (by omega), if_neg h']; simp
 ·rw [if_neg h, if_neg (by omega)]
theorem mono_pow (a n : Nat) : mono p 1 a ^ n = mono p 1 (a * n) := by
 induction n with
 | zero => rw [pow_zero']; rfl
 | succ n ih => rw [pow_succ', ih, mono_mul, Nat.mul_succ]

def ev (a : Poly p) : List Int → Poly p
 | [] => 0
 | c :: l => con p c + a * ev a l

theorem ev_frob (a : Poly p) (l : List Int) : ev a l ^ p.toNat = ev (a ^ p.toNat) l := by
 induction l with
 | nil => exact zero_pow pos_nat
 | cons c l ih => rw [ev, frob_add, frob_con, mul_pow, ih, ev]

theorem cf_ev_mono {m : Nat} (hm : 0 < m) (l : List Int) (k : Nat) : cf (ev (mono p 1 m) l).l k = if k % m = 0 then cf l (k / m) % p else 0 := by
 induction l generalizing k with
 | nil => rw [ev, cf_zero, cf_nil]; simp
 | cons c l ih =>
  rw [ev, cf_add, cf_con, cf_mono_mul]
  by_cases hk : m ≤ k
  ·rw [if_pos hk, ih, if_neg (by omega)]
   have e1 : (k - m) % m = k % m := (Nat.mod_eq_sub_mod hk).symm
   have e2 : k / m = (k - m) / m + 1 := Nat.div_eq_sub_div hm hk
   rw [e1]
   split
   ·rw [e2, cf_cons_succ]; simp
   ·simp
  ·rw [if_neg hk, Int.add_zero]
   by_cases h0 : k = 0
   ·subst h0; simp [cf]
   ·rw [if_neg h0, if_neg (by rw [Nat.mod_eq_of_lt (by omega)]; exact h0)]; simp

theorem ev_x (f : Poly p) : ev (mono p 1 1) f.l = f := ext_cf fun i => by
 rw [cf_ev_mono (by omega)]; simp [mod_cf, Nat.mod_one]

theorem cf_pow (f : Poly p) (k : Nat) : cf (f ^ p.toNat).l k = if k % p.toNat = 0 then cf f.l (k / p.toNat) else 0 := by
 have h1 := ev_frob (mono p 1 1) f.l
 rw [ev_x, mono_pow, Nat.one_mul] at h1
 rw [h1, cf_ev_mono pos_nat]
 split
 ·exact mod_cf _ _
 ·rfl

theorem der_zero {f r : Poly p} (h : der f = 0) (hr : ∀ i, cf r.l i = cf f.l (i * p.toNat)) : r ^ p.toNat = f := by
 refine ext_cf fun k => ?_
 rw [cf_pow]
 split
 ·rename_i hk
  rw [hr, Nat.div_mul_cancel (Nat.dvd_of_mod_eq_zero hk)]
 ·rename_i hk
  cases k with
  | zero => simp at hk
  | succ k =>
   have h1 := cf_der f k
   rw [h, cf_zero] at h1
   unfold dv at h1
   refine Classical.byContradiction fun hne => ?_
   refine Pr.mul_ne (p := p) (a := (k : Int) + 1) (b := cf f.l (k + 1)) (fun h2 => hk ?_) (cf_ne_mod (Ne.symm hne)) h1.symm
   have h3 : ((k + 1 : Nat) : Int) % ((p.toNat : Nat) : Int) = 0 := by
    have := Pr.two (p := p)
    rw [show ((p.toNat : Nat) : Int) = p by omega]; exact_mod_cast h2
   exact_mod_cast h3

end Poly

def sumN (f : Nat → Int) : Nat → Int
 | 0 => 0
 | n + 1 => sumN f n + f n

theorem sumN_congr {f g : Nat → Int} {n : Nat} (h : ∀ i, i < n → f i = g i) : sumN f n = sumN g n := by
 induction n with
 | zero => rfl
 | succ n ih => rw [sumN, sumN, ih fun i hi => h i (by omega), h n (by omega)]
theorem sumN_add (f g : Nat → Int) (n : Nat) : sumN (fun i => f i + g i) n = sumN f n + sumN g n := by
 induction n with
 | zero => rfl
 | succ n ih => simp only [sumN, ih]; omega
theorem sumN_mul (a : Int) (f : Nat → Int) (n : Nat) : sumN (fun i => a * f i) n = a * sumN f n := by
 induction n with
 | zero => simp [sumN]
 | succ n ih => simp only [sumN, ih, Int.mul_add]
theorem sumN_zero {f : Nat → Int} {n : Nat} (h : ∀ i, i < n → f i = 0) : sumN f n = 0 := by
 induction n with
 | zero => rfl
 | succ n ih => rw [sumN, ih fun i hi => h i (by omega), h n (by omega)]; rfl
theorem sumN_mod (p : Int) {f g : Nat → Int} {n : Nat} (h : ∀ i, i < n → f i % p = g i % p) : sumN f n % p = sumN g n % p := by
 induction n with
 | zero => rfl
 | succ n ih => rw [sumN, sumN, Int.add_emod, ih fun i hi => h i (by omega), h n (by omega), ← Int.add_emod]
theorem sumN_one {f : Nat → Int} {n k : Nat} (hk : k < n) (h : ∀ i, i < n → i ≠ k → f i = 0) : sumN f n = f k := by
 induction n with
 | zero => omega
 | succ n ih =>
  rw [sumN]
  by_cases he : k = n
  ·subst he; rw [sumN_zero fun i hi => h i (by omega) (by omega)]; simp
  ·rw [ih (by omega) fun i hi hne => h i (by omega) hne, h n (by omega) (by omega)]; simp
theorem sumN_comm (f : Nat → Nat → Int) (n m : Nat) : sumN (fun i => sumN (f i) m) n = sumN (fun j => sumN (fun i => f i j) n) m := by
 induction n with
 | zero => simp only [sumN]; exact (sumN_zero fun _ _ => rfl).symm
 | succ n ih => simp only [sumN, ih, ← sumN_add]

def Kills (p : Int) (n : Nat) (r c : Nat → Int) : Prop := sumN (fun i => r i * c i) n % p = 0
def Sol (p : Int) (n m : Nat) (R : Nat → Nat → Int) (c : Nat → Int) : Prop := ∀ k, k < m → Kills p n (R k) c

theorem kills_congr {p : Int} {n : Nat} {r r' c c' : Nat → Int} (hr : ∀ i, i < n → r i % p = r' i % p) (hc : ∀ i, i < n → c i % p = c' i % p) : Kills p n r c ↔ Kills p n r' c' := by
 unfold Kills
 rw [sumN_mod p (g := fun i => r' i * c' i) fun i hi => by rw [Int.mul_emod, hr i hi, hc i hi, ← Int.mul_emod]]
theorem kills_add {p : Int} {n : Nat} {r r' c : Nat → Int} (a : Int) (h : Kills p n r c) (h' : Kills p n r' c) : Kills p n (fun i => r i + a * r' i) c := by
 unfold Kills at *
 have e : sumN (fun i => (r i + a * r' i) * c i) n = sumN (fun i => r i * c i) n + a * sumN (fun i => r' i * c i) n := by
  rw [← sumN_mul, ← sumN_add]
  exact sumN_congr fun i _ => by rw [Int.add_mul, Int.mul_assoc]
 rw [e, Int.add_emod, h, Int.mul_emod, h']; simp
theorem kills_smul {p : Int} {n : Nat} {r c : Nat → Int} (a : Int) (h : Kills p n r c) : Kills p n (fun i => a * r i) c := by
 unfold Kills at *
 have e : sumN (fun i => a * r i * c i) n = a * sumN (fun i => r i * c i) n := by
  rw [← sumN_mul]
  exact sumN_congr fun i _ => by rw [Int.mul_assoc]
 rw [e, Int.mul_emod, h]; simp

theorem sol_swap {p : Int} {n m a b : Nat} {R R' : Nat → Nat → Int} (ha : a < m) (hb : b < m) (h1 : R' a = R b) (h2 : R' b = R a) (h3 : ∀ k, k < m → k ≠ a → k ≠ b → R' k = R k) (c : Nat → Int) : Sol p n m R' c ↔ Sol p n m R c := by
 constructor
 ·intro h k hk
  by_cases hka : k = a
  ·subst hka; rw [← h2]; exact h b hb
  ·by_cases hkb : k = b
   ·subst hkb; rw [← h1]; exact h a ha
   ·rw [← h3 k hk hka hkb]; exact h k hk
 ·intro h k hk
  by_cases hka : k = a
  ·subst hka; rw [h1]; exact h b hb
  ·by_cases hkb : k = b
   ·subst hkb; rw [h2]; exact h a ha
   ·rw [h3 k hk hka hkb]; exact h k hk

structure Steps (p : Int) (n : Nat) (col : Nat) (piv : List Nat) (R : Nat → Nat → Int) : Prop where
 le : piv.length ≤ n
 lt : ∀ x ∈ piv, x < col
 nodup : piv.Nodup
 one : ∀ i x, piv[i]? = some x → R i x % p = 1
 zero : ∀ i x, piv[i]? = some x → ∀ k, k < n → k ≠ i → R k x % p = 0
 rest : ∀ k, piv.length ≤ k → k < n → ∀ x, x < col → R k x % p = 0

theorem Steps.start (p : Int) (n : Nat) (R : Nat → Nat → Int) : Steps p n 0 [] R :=
 ⟨by simp, by simp, by simp, by simp, by simp, fun k _ _ x hx => by omega⟩

theorem Steps.skip {p : Int} {n col : Nat} {piv : List Nat} {R : Nat → Nat → Int} (h : Steps p n col piv R) (h0 : ∀ k, piv.length ≤ k → k < n → R k col % p = 0) : Steps p n (col + 1) piv R :=
 ⟨h.le, fun x hx => by have := h.lt x hx; omega, h.nodup, h.one, h.zero, fun k hk hkn x hx => by
  by_cases he : x = col
  ·subst he; exact h0 k hk hkn
  ·exact h.rest k hk hkn x (by omega)⟩

def freeV (_p : Int) (piv : List Nat) (R : Nat → Nat → Int) (col : Nat) (x : Nat) : Int :=
 if x = col then 1 else match piv.idxOf? x with | some i => -(R i col) | none => 0

theorem emod_self_mul (p a : Int) : a % p % p = a % p := Int.emod_emod_of_dvd _ (Int.dvd_refl p)
theorem mul_mod_left {p a a' : Int} (b : Int) (h : a % p = a' % p) : a * b % p = a' * b % p := by rw [Int.mul_emod, h, ← Int.mul_emod]
theorem mul_mod_right {p a a' : Int} (b : Int) (h : a % p = a' % p) : b * a % p = b * a' % p := by rw [Int.mul_emod, h, ← Int.mul_emod]
theorem mul_zero_mod {p a : Int} (b : Int) (h : a % p = 0) : b * a % p = 0 := by rw [Int.mul_emod, h]; simp
theorem sub_mod {p a a' b b' : Int} (h : a % p = a' % p) (k : b % p = b' % p) : (a - b) % p = (a' - b') % p := by rw [Int.sub_emod, h, k, ← Int.sub_emod]

theorem Steps.pivot {p : Int} {n col : Nat} {piv : List Nat} {R R' : Nat → Nat → Int} {s : Int} (h : Steps p n col piv R) (hp : (1 : Int) % p = 1) (hc : col < n) (hat : piv.length < n) (hs : s * R piv.length col % p = 1)
  (h1 : ∀ x, x < n → R' piv.length x % p = (s * R piv.length x) % p)
  (h2 : ∀ i, i < n → i ≠ piv.length → ∀ x, x < n → R' i x % p = (R i x - R i col * (s * R piv.length x)) % p) : Steps p n (col + 1) (piv ++ [col]) R' := by
 have hnew : ∀ i x, (piv ++ [col])[i]? = some x → (i < piv.length ∧ piv[i]? = some x) ∨ (i = piv.length ∧ x = col) := by
  intro i x hx
  rcases Nat.lt_or_ge i piv.length with hlt | hge
  ·rw [List.getElem?_append_left hlt] at hx; exact .inl ⟨hlt, hx⟩
  ·rw [List.getElem?_append_right hge] at hx
   cases hi : i - piv.length with
   | zero => rw [hi] at hx; simp at hx; exact .inr ⟨by omega, hx.symm⟩
   | succ j => rw [hi] at hx; simp at hx
 have hzat : ∀ x, x < col → R piv.length x % p = 0 := fun x hx => h.rest _ (Nat.le_refl _) hat x hx
 have hkeep : ∀ i, i < n → i ≠ piv.length → ∀ x, x < col → R' i x % p = R i x % p := fun i hi hne x hx => by
  rw [h2 i hi hne x (by omega), ← Int.sub_zero (R i x)]
  refine (sub_mod (by rw [Int.sub_zero]) ?_).trans (by rw [Int.sub_zero])
  rw [← Int.mul_assoc, mul_zero_mod _ (hzat x hx)]; simp
 have hcol : ∀ i, i < n → i ≠ piv.length → R' i col % p = 0 := fun i hi hne => by
  rw [h2 i hi hne col hc]
  have : (R i col - R i col * (s * R piv.length col)) % p = (R i col - R i col * 1) % p := sub_mod rfl (mul_mod_right _ (by rw [hs, hp]))
  rw [this]; simp
 refine ⟨by simp; omega, fun x hx => ?_, ?_, fun i x hx => ?_, fun i x hx k hk hne => ?_, fun k hk hkn x hx => ?_⟩
 ·rcases List.mem_append.1 hx with hx | hx
  ·have := h.lt x hx; omega
  ·simp at hx; omega
 ·refine List.nodup_append.2 ⟨h.nodup, by simp, fun a ha b hb => ?_⟩
  simp at hb
  have := h.lt a ha
  omega
 ·rcases hnew i x hx with ⟨hi, hx'⟩ | ⟨rfl, rfl⟩
  ·have hxc := h.lt x (List.mem_of_getElem? hx')
   rw [hkeep i (by have := h.le; omega) (by omega) x hxc]; exact h.one i x hx'
  ·rw [h1 _ hc]; exact hs
 ·rcases hnew i x hx with ⟨hi, hx'⟩ | ⟨rfl, rfl⟩
  ·have hxc := h.lt x (List.mem_of_getElem? hx')
   by_cases hka : k = piv.length
   ·subst hka
    rw [h1 x (by omega), mul_zero_mod _ (hzat x hxc)]
   ·rw [hkeep k hk hka x hxc]; exact h.zero i x hx' k hk hne
  ·exact hcol k hk hne
 ·simp only [List.length_append, List.length_singleton] at hk
  by_cases hxc : x = col
  ·subst hxc; exact hcol k hkn (by omega)
  ·rw [hkeep k hkn (by omega) x (by omega)]; exact h.rest k (by omega) hkn x (by omega)

theorem Steps.swap {p : Int} {n col : Nat} {piv : List Nat} {R R' : Nat → Nat → Int} {b : Nat} (h : Steps p n col piv R) (hb : piv.length ≤ b) (hbn : b < n) (h1 : R' piv.length = R b) (h2 : R' b = R piv.length) (h3 : ∀ k, k < n → k ≠ piv.length → k ≠ b → R' k = R k) : Steps p n col piv R' := by
 have hlow : ∀ i, i < piv.length → R' i = R i := fun i hi => h3 i (by omega) (by omega) (by omega)
 have hrest : ∀ k, piv.length ≤ k → k < n → ∀ x, x < col → R' k x % p = 0 := fun k hk hkn x hx => by
  by_cases hka : k = piv.length
  ·subst hka; rw [h1]; exact h.rest b hb hbn x hx
  ·by_cases hkb : k = b
   ·subst hkb; rw [h2]; exact h.rest _ (Nat.le_refl _) (by omega) x hx
   ·rw [h3 k hkn hka hkb]; exact h.rest k hk hkn x hx
 refine ⟨h.le, h.lt, h.nodup, fun i x hx => ?_, fun i x hx k hk hne => ?_, hrest⟩
 ·rw [hlow i (List.getElem?_eq_some_iff.1 hx).1]; exact h.one i x hx
 ·rcases Nat.lt_or_ge k piv.length with hlt | hge
  ·rw [hlow k hlt]; exact h.zero i x hx k hk hne
  ·exact hrest k hge hk x (h.lt x (List.mem_of_getElem? hx))

theorem idx_of {piv : List Nat} (hn : piv.Nodup) {i x : Nat} (h : piv[i]? = some x) : piv.idxOf? x = some i := by
 obtain ⟨hi, he⟩ := List.getElem?_eq_some_iff.1 h
 rw [List.idxOf?_eq_some_iff]
 refine ⟨hi, by simpa using he, fun j hj => ?_⟩
 have h1 : piv[j]'(by omega) ≠ piv[i] := List.pairwise_iff_getElem.1 hn j i (by omega) hi hj
 simp only [ne_eq]
 rw [← he]; exact h1
theorem idx_none {piv : List Nat} {x : Nat} (h : x ∉ piv) : piv.idxOf? x = none := by
 rw [List.idxOf?_eq_none_iff]; exact h

theorem sumN_two {f : Nat → Int} {n a b : Nat} (hab : a ≠ b) (ha : a < n) (hb : b < n) (h : ∀ i, i < n → i ≠ a → i ≠ b → f i = 0) : sumN f n = f a + f b := by
 have e : sumN f n = sumN (fun i => (if i = a then f i else 0) + (if i = a then 0 else f i)) n := sumN_congr fun i _ => by split <;> simp
 rw [e, sumN_add, sumN_one ha fun i _ hne => by simp [hne], sumN_one (k := b) hb fun i hi hne => by
  by_cases hia : i = a
  ·simp [hia]
  ·simp [hia, h i hi hia hne]]
 simp [Ne.symm hab]

theorem Steps.free {p : Int} {n : Nat} {piv : List Nat} {R : Nat → Nat → Int} (h : Steps p n n piv R) {col : Nat} (hc : col < n) (hf : col ∉ piv) : Sol p n n R (freeV p piv R col) := by
 intro k hk
 unfold Kills
 rcases Nat.lt_or_ge k piv.length with hlt | hge
 ·have hx := List.getElem?_eq_getElem hlt
  have hxl := h.lt _ (List.mem_of_getElem? hx)
  have hne : piv[k] ≠ col := fun e => hf (e ▸ List.getElem_mem hlt)
  have e1 : sumN (fun x => R k x * freeV p piv R col x) n % p = sumN (fun x => if x = piv[k] then -(R k col) else if x = col then R k col else 0) n % p := by
   refine sumN_mod p fun x hxn => ?_
   by_cases hxc : x = col
   ·subst hxc
    simp [freeV, Ne.symm hne]
   ·by_cases hxp : x ∈ piv
    ·obtain ⟨i, hi, he⟩ := List.mem_iff_getElem.1 hxp
     have hix : piv[i]? = some x := by rw [List.getElem?_eq_getElem hi, he]
     have e2 : freeV p piv R col x = -(R i col) := by simp [freeV, hxc, idx_of h.nodup hix]
     rw [e2]
     by_cases hik : i = k
     ·subst hik
      have h1 := h.one i x hix
      simp only [he, if_true]
      rw [mul_mod_left (a' := 1) _ (by
       rw [h1]
       have := emod_self_mul p (R i x)
       rw [h1] at this; exact this.symm)]
      simp
     ·have h0 := h.zero i x hix k hk (Ne.symm hik)
      have hne2 : x ≠ piv[k] := fun e => hik (by
       have := idx_of h.nodup hix
       rw [e, idx_of h.nodup hx] at this
       exact (Option.some.inj this).symm)
      rw [if_neg hne2, if_neg hxc, Int.mul_comm, mul_zero_mod _ h0]; simp
    ·have hne2 : x ≠ piv[k] := fun e => hxp (e ▸ List.getElem_mem hlt)
     simp [freeV, hxc, idx_none hxp, hne2]
  rw [e1, sumN_two (a := piv[k]) (b := col) hne hxl hc fun i _ h1 h2 => by simp [h1, h2]]
  simp [Ne.symm hne, Int.add_left_neg]
 ·rw [sumN_mod p (g := fun _ => 0) fun x hx => by rw [Int.mul_comm, mul_zero_mod _ (h.rest k hge hk x hx)]; simp, sumN_zero fun _ _ => rfl]; simp

theorem Steps.all {p : Int} {n : Nat} {piv : List Nat} {R : Nat → Nat → Int} (h : Steps p n n piv R) {c : Nat → Int} (hs : Sol p n n R c) : ∀ x, x < n → c x % p = sumN (fun col => if col ∈ piv then 0 else c col * freeV p piv R col x) n % p := by
 intro x hx
 by_cases hxp : x ∈ piv
 ·obtain ⟨i, hi, he⟩ := List.mem_iff_getElem.1 hxp
  have hix : piv[i]? = some x := by rw [List.getElem?_eq_getElem hi, he]
  have hin : i < n := by have := h.le; omega
  have h1 := hs i hin
  unfold Kills at h1
  have e1 : sumN (fun col => R i col * c col) n % p = sumN (fun col => (if col = x then c x else 0) + (if col ∈ piv then 0 else R i col * c col)) n % p := by
   refine sumN_mod p fun col hcn => ?_
   by_cases hcp : col ∈ piv
   ·obtain ⟨j, hj, hje⟩ := List.mem_iff_getElem.1 hcp
    have hjc : piv[j]? = some col := by rw [List.getElem?_eq_getElem hj, hje]
    by_cases hij : j = i
    ·subst hij
     have hcx : col = x := by rw [hix] at hjc; exact (Option.some.inj hjc).symm
     subst hcx
     have h2 := h.one j col hjc
     simp only [if_true, hcp, Int.add_zero]
     rw [mul_mod_left (a' := 1) _ (by
      rw [h2]
      have := emod_self_mul p (R j col)
      rw [h2] at this; exact this.symm)]
     simp
    ·have hcx : col ≠ x := fun e => hij (by
      have := idx_of h.nodup hix
      rw [← e, idx_of h.nodup hjc] at this
      exact Option.some.inj this)
     rw [if_neg hcx, if_pos hcp, Int.mul_comm, mul_zero_mod _ (h.zero j col hjc i hin (Ne.symm hij))]; simp
   ·have hcx : col ≠ x := fun e => hcp (e ▸ hxp)
    simp [hcx, hcp]
  rw [e1, sumN_add, sumN_one (k := x) hx fun i _ hne => by simp [hne]] at h1
  simp only [if_true] at h1
  have e2 : sumN (fun col => if col ∈ piv then 0 else c col * freeV p piv R col x) n = -1 * sumN (fun col => if col ∈ piv then 0 else R i col * c col) n := by
   rw [← sumN_mul]
   refine sumN_congr fun col _ => ?_
   by_cases hcp : col ∈ piv
   ·simp [hcp]
   ·have hcx : x ≠ col := fun e => hcp (e ▸ hxp)
    simp only [hcp, if_false]
    simp only [freeV, hcx, if_false, idx_of h.nodup hix]
    rw [Int.mul_comm, Int.neg_mul]; omega
  rw [e2]
  have h3 : c x = (c x + sumN (fun col => if col ∈ piv then 0 else R i col * c col) n) - sumN (fun col => if col ∈ piv then 0 else R i col * c col) n := by omega
  rw [h3, Int.sub_emod, h1]
  rw [show -1 * sumN (fun col => if col ∈ piv then 0 else R i col * c col) n = 0 - sumN (fun col => if col ∈ piv then 0 else R i col * c col) n from by omega, Int.sub_emod 0]
  simp [neg_mod]
 ·rw [sumN_one (k := x) hx fun i _ hne => by
   by_cases hip : i ∈ piv
   ·simp [hip]
   ·simp [hip, freeV, Ne.symm hne, idx_none hxp]]
  simp [hxp, freeV]


structure Half (p : Int) (n : Nat) (M : Nat → Nat → Int) (col : Nat) (used : Nat → Prop) (L T : Nat → Nat → Int) : Prop where
 comb : ∀ k, k < n → ∀ x, x < n → L k x % p = sumN (fun j => T k j * M j x) n % p
 span : ∀ c : Nat → Int, ∃ d : Nat → Int, ∀ j, j < n → c j % p = sumN (fun k => d k * T k j) n % p
 piv : ∀ k, k < n → used k → ∃ x, x < col ∧ x < n ∧ L k x % p ≠ 0 ∧ ∀ k', k' < n → k' ≠ k → L k' x % p = 0
 rest : ∀ k, k < n → ¬ used k → ∀ x, x < col → L k x % p = 0

theorem Half.start (p : Int) (n : Nat) (M T : Nat → Nat → Int) (hT : ∀ i, i < n → ∀ j, j < n → T i j = if i = j then 1 else 0) : Half p n M 0 (fun _ => False) M T := by
 refine ⟨fun k hk x hx => ?_, fun c => ⟨c, fun j hj => ?_⟩, fun k _ h => h.elim, fun k _ _ x hx => by omega⟩
 ·rw [sumN_one (k := k) hk fun i hi hne => by rw [hT k hk i hi]; simp [Ne.symm hne], hT k hk k hk]; simp
 ·rw [sumN_one (k := j) hj fun i hi hne => by rw [hT i hi j hj]; simp [hne], hT j hj j hj]; simp

theorem Half.skip {p : Int} {n : Nat} {M : Nat → Nat → Int} {col : Nat} {used : Nat → Prop} {L T : Nat → Nat → Int} (h : Half p n M col used L T) (h0 : ∀ k, k < n → ¬ used k → L k col % p = 0) : Half p n M (col + 1) used L T :=
 ⟨h.comb, h.span, fun k hk hu => by obtain ⟨x, h1, h2⟩ := h.piv k hk hu; exact ⟨x, by omega, h2⟩, fun k hk hu x hx => by
  by_cases he : x = col
  ·subst he; exact h0 k hk hu
  ·exact h.rest k hk hu x (by omega)⟩

theorem Half.pivot {p : Int} {n : Nat} {M : Nat → Nat → Int} {col : Nat} {used : Nat → Prop} {L T L' T' : Nat → Nat → Int} {at' : Nat} {q : Nat → Int} (h : Half p n M col used L T) (hc : col < n) (hat : at' < n) (hu : ¬ used at') (hne : L at' col % p ≠ 0)
  (hq0 : q at' = 0) (hq : ∀ i, i < n → i ≠ at' → q i * L at' col % p = L i col % p) (hL : ∀ i, i < n → ∀ x, x < n → L' i x % p = (L i x - q i * L at' x) % p) (hT : ∀ i, i < n → ∀ x, x < n → T' i x % p = (T i x - q i * T at' x) % p) :
  Half p n M (col + 1) (fun k => k = at' ∨ used k) L' T' := by
 have hLat : ∀ x, x < n → L' at' x % p = L at' x % p := fun x hx => by rw [hL _ hat x hx, hq0]; simp
 have hTat : ∀ x, x < n → T' at' x % p = T at' x % p := fun x hx => by rw [hT _ hat x hx, hq0]; simp
 have hzat : ∀ x, x < col → L at' x % p = 0 := fun x hx => h.rest at' hat hu x hx
 have hkeep : ∀ i, i < n → ∀ x, x < col → L' i x % p = L i x % p := fun i hi x hx => by
  rw [hL i hi x (by omega)]
  refine (sub_mod (a' := L i x) (b' := 0) rfl (by rw [mul_zero_mod _ (hzat x hx)]; simp)).trans (by rw [Int.sub_zero])
 have hcol : ∀ i, i < n → i ≠ at' → L' i col % p = 0 := fun i hi hne => by
  rw [hL i hi col hc]
  exact (sub_mod rfl (hq i hi hne)).trans (by simp)
 refine ⟨fun k hk x hx => ?_, fun c => ?_, fun k hk hu' => ?_, fun k hk hu' x hx => ?_⟩
 ·have e1 : sumN (fun j => T' k j * M j x) n % p = sumN (fun j => T k j * M j x + -q k * (T at' j * M j x)) n % p := by
   refine sumN_mod p fun j hj => ?_
   rw [mul_mod_left _ (hT k hk j hj)]
   congr 1
   rw [Int.sub_mul, Int.mul_assoc, Int.neg_mul]; omega
  rw [e1, sumN_add, sumN_mul, hL k hk x hx]
  have e2 : sumN (fun j => T k j * M j x) n + -q k * sumN (fun j => T at' j * M j x) n = sumN (fun j => T k j * M j x) n - q k * sumN (fun j => T at' j * M j x) n := by rw [Int.neg_mul]; omega
  rw [e2]
  exact sub_mod (h.comb k hk x hx) (mul_mod_right _ (h.comb at' hat x hx))
 ·obtain ⟨d, hd⟩ := h.span c
  refine ⟨fun k => d k + if k = at' then sumN (fun i => d i * q i) n else 0, fun j hj => ?_⟩
  rw [hd j hj]
  have e1 : sumN (fun k => d k * T k j) n % p = sumN (fun k => d k * T' k j + T' at' j * (d k * q k)) n % p := by
   refine sumN_mod p fun k hk => ?_
   have h1 : T k j % p = (T' k j + q k * T' at' j) % p := by
    have h2 := hT k hk j hj
    rw [Int.add_emod, h2, Int.mul_emod, hTat j hj, ← Int.mul_emod, ← Int.add_emod]
    congr 1; omega
   rw [mul_mod_right _ h1]
   congr 1
   rw [Int.mul_add, ← Int.mul_assoc, Int.mul_comm (T' at' j)]
  rw [e1, sumN_add, sumN_mul]
  have e2 : sumN (fun k => (d k + if k = at' then sumN (fun i => d i * q i) n else 0) * T' k j) n = sumN (fun k => d k * T' k j + (if k = at' then sumN (fun i => d i * q i) n * T' k j else 0)) n := by
   refine sumN_congr fun k _ => ?_
   rw [Int.add_mul]; split <;> simp
  rw [e2, sumN_add, sumN_one (k := at') (f := fun k => if k = at' then sumN (fun i => d i * q i) n * T' k j else 0) hat fun i _ hne => by simp [hne]]
  simp [Int.mul_comm]
 ·by_cases hka : k = at'
  ·subst hka
   refine ⟨col, by omega, hc, ?_, fun k' hk' hne' => hcol k' hk' hne'⟩
   rw [hLat col hc]; exact hne
  ·obtain ⟨x, h1, h2, h3, h4⟩ := h.piv k hk (hu'.resolve_left hka)
   refine ⟨x, by omega, h2, by rw [hkeep k hk x h1]; exact h3, fun k' hk' hne' => ?_⟩
   rw [hkeep k' hk' x h1]; exact h4 k' hk' hne'
 ·simp only [not_or] at hu'
  by_cases hxc : x = col
  ·subst hxc; exact hcol k hk hu'.1
  ·rw [hkeep k hk x (by omega)]; exact h.rest k hk hu'.2 x (by omega)

theorem Half.free {p : Int} {n : Nat} {M : Nat → Nat → Int} {used : Nat → Prop} {L T : Nat → Nat → Int} (h : Half p n M n used L T) {k : Nat} (hk : k < n) (hu : ¬ used k) : ∀ x, x < n → sumN (fun j => T k j * M j x) n % p = 0 := fun x hx => by
 rw [← h.comb k hk x hx]; exact h.rest k hk hu x hx

theorem Half.all {p : Int} [Pr p] {n : Nat} {M : Nat → Nat → Int} {used : Nat → Prop} {L T : Nat → Nat → Int} (h : Half p n M n used L T) {w : Nat → Int} (hw : ∀ x, x < n → sumN (fun j => w j * M j x) n % p = 0)
  {j : Nat} (hj : j < n) (h0 : ∀ k, k < n → ¬ used k → T k j % p = 0) : w j % p = 0 := by
 obtain ⟨d, hd⟩ := h.span w
 have h1 : ∀ x, x < n → sumN (fun k => d k * L k x) n % p = 0 := by
  intro x hx
  have e1 : sumN (fun k => d k * L k x) n % p = sumN (fun k => sumN (fun j => d k * (T k j * M j x)) n) n % p := by
   refine sumN_mod p fun k hk => ?_
   rw [sumN_mul, mul_mod_right _ (h.comb k hk x hx)]
  rw [e1, sumN_comm, ← hw x hx]
  refine sumN_mod p fun j hj => ?_
  rw [mul_mod_left _ (hd j hj)]
  congr 1
  rw [Int.mul_comm _ (M j x), ← sumN_mul]
  exact sumN_congr fun k _ => by rw [← Int.mul_assoc, Int.mul_comm]
 have h2 : ∀ k, k < n → used k → d k % p = 0 := by
  intro k hk hu
  obtain ⟨x, _, hxn, h3, h4⟩ := h.piv k hk hu
  have h5 := h1 x hxn
  rw [sumN_mod p (g := fun k' => if k' = k then d k * L k x else 0) fun k' hk' => by
   by_cases he : k' = k
   ·subst he; simp
   ·rw [mul_zero_mod _ (h4 k' hk' he)]; simp [he], sumN_one (k := k) hk fun i _ hne => by simp [hne]] at h5
  simp only [if_true] at h5
  exact Classical.byContradiction fun hne => Pr.mul_ne hne h3 h5
 rw [hd j hj, sumN_mod p (g := fun _ => 0) fun k hk => by
  by_cases hu : used k
  ·rw [Int.mul_comm, mul_zero_mod _ (h2 k hk hu)]; simp
  ·rw [mul_zero_mod _ (h0 k hk hu)]; simp, sumN_zero fun _ _ => rfl]
 simp

namespace Poly
variable {p : Int} [SP p]

def sumP (g : Nat → Poly p) : Nat → Poly p
 | 0 => 0
 | n + 1 => sumP g n + g n
theorem sumP_succ' (g : Nat → Poly p) (n : Nat) : sumP g (n + 1) = g 0 + sumP (fun i => g (i + 1)) n := by
 induction n with
 | zero => simp only [sumP]; exact ring [g 0] (by rfl)
 | succ n ih => rw [sumP, ih, sumP]; exact CR.add_assoc _ _ _
theorem sumP_congr {f g : Nat → Poly p} {n : Nat} (h : ∀ i, i < n → f i = g i) : sumP f n = sumP g n := by
 induction n with
 | zero => rfl
 | succ n ih => rw [sumP, sumP, ih fun i hi => h i (by omega), h n (by omega)]
theorem sumP_mul (a : Poly p) (g : Nat → Poly p) (n : Nat) : sumP (fun i => a * g i) n = a * sumP g n := by
 induction n with
 | zero => simp only [sumP]; exact (CR.mul_zero a).symm
 | succ n ih => simp only [sumP, ih]; exact (CR.mul_add _ _ _).symm
theorem sumP_sub (f g : Nat → Poly p) (n : Nat) : sumP (fun i => f i - g i) n = sumP f n - sumP g n := by
 induction n with
 | zero => simp only [sumP]; exact (CR.sub_self 0).symm
 | succ n ih => simp only [sumP, ih]; exact ring [sumP f n, sumP g n, f n, g n] (by rfl)
theorem sumP_zero {f : Nat → Poly p} {n : Nat} (h : ∀ i, i < n → f i = 0) : sumP f n = 0 := by
 induction n with
 | zero => rfl
 | succ n ih => rw [sumP, ih fun i hi => h i (by omega), h n (by omega)]; exact CR.add_zero 0
theorem sumP_dvd {f : Poly p} {g : Nat → Poly p} {n : Nat} (h : ∀ i, i < n → f ∣ g i) : f ∣ sumP g n := by
 induction n with
 | zero => exact dvd_zero _
 | succ n ih => exact dvd_add (ih fun i hi => h i (by omega)) (h n (by omega))
theorem cf_sumP (c : Nat → Int) (g : Nat → Poly p) (n x : Nat) : cf (sumP (fun j => con p (c j) * g j) n).l x = sumN (fun j => cf (g j).l x * c j) n % p := by
 induction n with
 | zero => rw [sumP, cf_zero, sumN]; simp
 | succ n ih => rw [sumP, cf_add, ih, cf_con_mul, sumN, ← Int.add_emod, Int.mul_comm (c n)]
theorem sumP_dg {g : Nat → Poly p} {n m : Nat} (h : ∀ i, i < n → dg (g i) ≤ m) : dg (sumP g n) ≤ m := by
 induction n with
 | zero => rw [sumP, dg_zero]; omega
 | succ n ih =>
  have h1 := ih fun i hi => h i (by omega)
  have h2 := h n (by omega)
  have := dg_add (sumP g n) (g n)
  rw [sumP]; omega

theorem ev_sum (a : Poly p) (l : List Int) {n : Nat} (h : l.length ≤ n) : ev a l = sumP (fun j => con p (cf l j) * a ^ j) n := by
 induction l generalizing n with
 | nil => exact (sumP_zero fun i _ => by rw [cf_nil, con_zero]; exact CR.zero_mul _).symm
 | cons c l ih =>
  obtain ⟨m, rfl⟩ : ∃ m, n = m + 1 := ⟨n - 1, by simp at h; omega⟩
  rw [ev, ih (n := m) (by simpa using h), sumP_succ', ← sumP_mul, cf_cons_zero, pow_zero']
  have : sumP (fun i => con p (cf (c :: l) (i + 1)) * a ^ (i + 1)) m = sumP (fun i => a * (con p (cf l i) * a ^ i)) m := sumP_congr fun i _ => by
   rw [cf_cons_succ, pow_succ']; exact ring [con p (cf l i), a, a^i] (by rfl)
  rw [this]; rw [CR.mul_one]

abbrev X (p : Int) [Pos p] : Poly p := mono p 1 1

noncomputable def kcol (f : Poly p) (i : Nat) : Poly p := rem (X p ^ (p.toNat * i)) f - X p ^ i

theorem dg_X (i : Nat) : dg (X p ^ i) ≤ i + 1 := by
 rw [mono_pow]
 exact dg_le fun j hj => by rw [cf_mono, if_neg (by omega)]

theorem kcol_dg {f : Poly p} {n i : Nat} (hf : dg f = n + 1) (hi : i < n) : dg (kcol f i) ≤ n := by
 have hf0 : f ≠ 0 := fun e => by rw [e, dg_zero] at hf; omega
 have h1 := rem_lt (X p ^ (p.toNat * i)) hf0
 have h2 := dg_X (p := p) i
 have h3 := dg_sub (rem (X p ^ (p.toNat * i)) f) (X p ^ i)
 unfold kcol; omega

theorem ber_iff {f w : Poly p} {n : Nat} (hf : dg f = n + 1) (hw : dg w ≤ n) : Ber f w ↔ ∀ x, x < n → sumN (fun j => cf (kcol f j).l x * cf w.l j) n % p = 0 := by
 have hf0 : f ≠ 0 := fun e => by rw [e, dg_zero] at hf; omega
 have h1 : w ^ p.toNat - w = sumP (fun j => con p (cf w.l j) * (X p ^ (p.toNat * j) - X p ^ j)) n := by
  have e1 := ev_frob (X p) w.l
  rw [ev_x, ev_sum _ _ hw] at e1
  have e2 := ev_x w
  rw [ev_sum (X p) w.l hw] at e2
  have e3 : sumP (fun j => con p (cf w.l j) * (X p ^ p.toNat) ^ j) n - sumP (fun j => con p (cf w.l j) * X p ^ j) n = sumP (fun j => con p (cf w.l j) * (X p ^ (p.toNat * j) - X p ^ j)) n := by
   rw [← sumP_sub]
   exact sumP_congr fun j _ => by rw [pow_mul]; exact ring [con p (cf w.l j), X p ^ j, (X p ^ p.toNat) ^ j] (by rfl)
  rwa [e2, ← e1] at e3
 have h2 : f ∣ (w ^ p.toNat - w) - sumP (fun j => con p (cf w.l j) * kcol f j) n := by
  rw [h1, ← sumP_sub]
  refine sumP_dvd fun j _ => ?_
  have := div_eq (X p ^ (p.toNat * j)) f
  unfold kcol
  exact ⟨con p (cf w.l j) * quo (X p ^ (p.toNat * j)) f, by exact comb (con p (cf w.l j)) this (ring [f, con p (cf w.l j), X p ^ j, X p ^ (p.toNat * j), quo (X p ^ (p.toNat * j)) f, rem (X p ^ (p.toNat * j)) f] (by rfl))⟩
 have h3 : dg (sumP (fun j => con p (cf w.l j) * kcol f j) n) ≤ n := sumP_dg fun i hi => by
  have h4 := kcol_dg hf hi
  have h5 := dg_mul_le (con p (cf w.l i)) (kcol f i)
  have h6 := con_dg (p := p) (cf w.l i)
  omega
 have h4 : Ber f w ↔ sumP (fun j => con p (cf w.l j) * kcol f j) n = 0 := by
  unfold Ber
  constructor
  ·intro h
   refine Classical.byContradiction fun hne => ?_
   have h5 := dvd_sub h h2
   have e : w ^ p.toNat - w - (w ^ p.toNat - w - sumP (fun j => con p (cf w.l j) * kcol f j) n) = sumP (fun j => con p (cf w.l j) * kcol f j) n := by exact ring [w ^ p.toNat, w, sumP (fun j => con p (cf w.l j) * kcol f j) n] (by rfl)
   rw [e] at h5
   have := dvd_dg h5 hne
   omega
  ·intro h
   rw [h] at h2
   have e : w ^ p.toNat - w - 0 = w ^ p.toNat - w := by exact ring [w ^ p.toNat, w] (by rfl)
   rwa [e] at h2
 rw [h4]
 constructor
 ·intro h x _
  rw [← cf_sumP, h, cf_zero]
 ·intro h
  refine ext_cf fun x => ?_
  rw [cf_zero]
  rcases Nat.lt_or_ge x n with hx | hx
  ·rw [cf_sumP]; exact h x hx
  ·exact cf_dg (by omega)

end Poly
namespace Poly
variable {p : Int} [SP p]

def IsMult (h : Poly p) (e : Nat) (f : Poly p) : Prop := ∃ u, f = h ^ e * u ∧ ¬ h ∣ u

theorem IsMult.unique {h f : Poly p} (hh : h ≠ 0) {e e' : Nat} (h1 : IsMult h e f) (h2 : IsMult h e' f) : e = e' := by
 have key : ∀ {e e' : Nat} {u u' : Poly p}, h ^ e * u = h ^ e' * u' → ¬ h ∣ u' → e ≤ e' := by
  intro e e' u u' he hn
  rcases Nat.lt_or_ge e' e with hlt | hge
  ·exfalso
   obtain ⟨k, rfl⟩ : ∃ k, e = e' + k + 1 := ⟨e - e' - 1, by omega⟩
   have hp0 : h ^ e' ≠ 0 := by
    clear he hlt
    induction e' with
    | zero => rw [pow_zero']; exact one_ne
    | succ n ih => rw [pow_succ']; exact mul_ne ih hh
   rw [Nat.add_assoc, pow_add] at he
   have h3 : h ^ e' * (h ^ (k + 1) * u) = h ^ e' * u' := by exact comb (1) he (ring [u, u', h^e', h^(k+1)] (by rfl))
   have h4 := mul_cancel hp0 h3
   exact hn ⟨h ^ k * u, by rw [← h4, pow_succ']; exact ring [h, u, h^k] (by rfl)⟩
  ·exact hge
 obtain ⟨u, h3, h4⟩ := h1
 obtain ⟨u', h5, h6⟩ := h2
 exact Nat.le_antisymm (key (h3.symm.trans h5) h6) (key (h5.symm.trans h3) h4)

theorem IsMult.mul {h f g : Poly p} (hi : Irr h) {e e' : Nat} (h1 : IsMult h e f) (h2 : IsMult h e' g) : IsMult h (e + e') (f * g) := by
 obtain ⟨u, rfl, h4⟩ := h1
 obtain ⟨u', rfl, h6⟩ := h2
 exact ⟨u * u', by rw [pow_add]; exact ring [u, u', h^e, h^e'] (by rfl), fun hd => (hi.prime hd).elim h4 h6⟩
theorem isMult_zero {h f : Poly p} : IsMult h 0 f ↔ ¬ h ∣ f := by
 constructor
 ·rintro ⟨u, rfl, hn⟩
  rw [pow_zero']
  have : 1 * u = u := by exact ring [u] (by rfl)
  rwa [this]
 ·intro hn
  exact ⟨f, by rw [pow_zero']; exact ring [f] (by rfl), hn⟩
theorem IsMult.pow {h f : Poly p} (hi : Irr h) {e : Nat} (h1 : IsMult h e f) (n : Nat) : IsMult h (e * n) (f ^ n) := by
 induction n with
 | zero => rw [Nat.mul_zero, pow_zero', isMult_zero]; exact hi.not_unit dg_one
 | succ n ih => rw [Nat.mul_succ, pow_succ']; exact ih.mul hi h1
theorem isMult_self {h : Poly p} (hi : Irr h) : IsMult h 1 h := ⟨1, by
 have e : h ^ 1 = h := by rw [show (1 : Nat) = 0 + 1 from rfl, pow_succ', pow_zero']; exact ring [h] (by rfl)
 rw [e]; exact ring [h] (by rfl), hi.not_unit dg_one⟩
theorem exists_mult {h : Poly p} (hi : 2 ≤ dg h) : ∀ (n : Nat) (f : Poly p), f ≠ 0 → dg f ≤ n → ∃ e, IsMult h e f := by
 intro n
 induction n with
 | zero => intro f hf hn; exact absurd (dg_eq_zero.1 (by omega)) hf
 | succ n ih =>
  intro f hf hn
  by_cases hd : h ∣ f
  ·obtain ⟨q, rfl⟩ := hd
   have hh : h ≠ 0 := fun e => hf (by rw [e]; exact ring [q] (by rfl))
   have hq : q ≠ 0 := fun e => hf (by rw [e]; exact ring [h] (by rfl))
   have h1 := dg_mul hh hq
   obtain ⟨e, u, h2, h3⟩ := ih q hq (by omega)
   exact ⟨e + 1, u, by rw [pow_succ', h2]; exact ring [h, u, h^e] (by rfl), h3⟩
  ·exact ⟨0, isMult_zero.2 hd⟩
theorem IsMult.dvd {h f : Poly p} {e : Nat} (h1 : IsMult h e f) (he : 1 ≤ e) : h ∣ f := by
 obtain ⟨u, rfl, _⟩ := h1
 obtain ⟨n, rfl⟩ : ∃ n, e = n + 1 := ⟨e - 1, by omega⟩
 exact ⟨h ^ n * u, by rw [pow_succ']; exact ring [h, u, h^n] (by rfl)⟩

def ltP (f g : Poly p) : Prop := dg f < dg g ∨ dg f = dg g ∧ ∃ i, cf f.l i < cf g.l i ∧ ∀ j, i < j → cf f.l j = cf g.l j
theorem ltP_irrefl {p : Int} (f : Poly p) : ¬ ltP f f := by
 rintro (h | ⟨_, i, h, _⟩) <;> omega
theorem ltP_trans {p : Int} {f g h : Poly p} (h1 : ltP f g) (h2 : ltP g h) : ltP f h := by
 rcases h1 with h1 | ⟨h1, i, hi, hi'⟩ <;> rcases h2 with h2 | ⟨h2, j, hj, hj'⟩
 ·exact .inl (by omega)
 ·exact .inl (by omega)
 ·exact .inl (by omega)
 ·refine .inr ⟨by omega, ?_⟩
  rcases Nat.lt_trichotomy i j with h | h | h
  ·exact ⟨j, by rw [hi' j h]; exact hj, fun k hk => by rw [hi' k (by omega), hj' k hk]⟩
  ·subst h; exact ⟨i, by omega, fun k hk => by rw [hi' k hk, hj' k hk]⟩
  ·exact ⟨i, by rw [← hj' i h]; exact hi, fun k hk => by rw [hi' k hk, hj' k (by omega)]⟩
theorem ltP_total {p : Int} {f g : Poly p} (h : f ≠ g) : ltP f g ∨ ltP g f := by
 rcases Nat.lt_trichotomy (dg f) (dg g) with h1 | h1 | h1
 ·exact .inl (.inl h1)
 ·have : ∀ n, n ≤ dg f → (∀ j, n ≤ j → cf f.l j = cf g.l j) → ltP f g ∨ ltP g f := by
   intro n
   induction n with
   | zero => intro _ hj; exact absurd (ext_cf fun i => hj i (Nat.zero_le _)) h
   | succ n ih =>
    intro hn hj
    rcases Int.lt_trichotomy (cf f.l n) (cf g.l n) with h2 | h2 | h2
    ·exact .inl (.inr ⟨h1, n, h2, fun j hj' => hj j hj'⟩)
    ·exact ih (by omega) fun j hj' => by
      rcases Nat.eq_or_lt_of_le hj' with rfl | h3
      ·exact h2
      ·exact hj j h3
    ·exact .inr (.inr ⟨h1.symm, n, h2, fun j hj' => (hj j hj').symm⟩)
  exact this (dg f) (Nat.le_refl _) fun j hj => by rw [cf_dg hj, cf_dg (by omega)]
 ·exact .inr (.inl h1)

theorem sorted_eq {α : Type} {lt : α → α → Prop} (irr : ∀ a, ¬ lt a a) (tr : ∀ a b c, lt a b → lt b c → lt a c) : ∀ {l l' : List α}, l.Pairwise lt → l'.Pairwise lt → (∀ x, x ∈ l ↔ x ∈ l') → l = l'
 | [], [], _, _, _ => rfl
 | [], b :: l', _, _, h => absurd ((h b).2 (by simp)) (by simp)
 | a :: l, [], _, _, h => absurd ((h a).1 (by simp)) (by simp)
 | a :: l, b :: l', h1, h2, h => by
  rw [List.pairwise_cons] at h1 h2
  have hab : a = b := by
   rcases List.mem_cons.1 ((h a).1 (by simp)) with h3 | h3
   ·exact h3
   ·rcases List.mem_cons.1 ((h b).2 (by simp)) with h4 | h4
    ·exact h4.symm
    ·exact absurd (tr _ _ _ (h2.1 a h3) (h1.1 b h4)) (irr b)
  subst hab
  rw [sorted_eq irr tr h1.2 h2.2 fun x => ?_]
  constructor
  ·intro hx
   rcases List.mem_cons.1 ((h x).1 (by simp [hx])) with h3 | h3
   ·subst h3; exact absurd (h1.1 x hx) (irr x)
   ·exact h3
  ·intro hx
   rcases List.mem_cons.1 ((h x).2 (by simp [hx])) with h3 | h3
   ·subst h3; exact absurd (h2.1 x hx) (irr x)
   ·exact h3

def IsFac (f : Poly p) (x : Poly p × Nat) : Prop := Irr x.1 ∧ Mon x.1 ∧ 1 ≤ x.2 ∧ IsMult x.1 x.2 f
def FacOf (f : Poly p) (F : List (Poly p × Nat)) : Prop := F.Pairwise (fun x y => ltP x.1 y.1) ∧ ∀ x, x ∈ F ↔ IsFac f x
theorem FacOf.unique {f : Poly p} {F F' : List (Poly p × Nat)} (h : FacOf f F) (h' : FacOf f F') : F = F' :=
 sorted_eq (lt := fun x y : Poly p × Nat => ltP x.1 y.1) (fun x => ltP_irrefl x.1) (fun _ _ _ h1 h2 => ltP_trans h1 h2) h.1 h'.1 fun x => (h.2 x).trans (h'.2 x).symm

def Irrs (f : Poly p) (L : List (Poly p)) : Prop := L.Nodup ∧ ∀ h, h ∈ L ↔ (Irr h ∧ Mon h ∧ h ∣ f)

structure Parts (f : Poly p) (L : List (Poly p)) : Prop where
 each : ∀ a ∈ L, Mon a ∧ 2 ≤ dg a ∧ a ∣ f
 all : ∀ h, Irr h → h ∣ f → ∃ a ∈ L, h ∣ a
 apart : L.Pairwise fun a b => ∀ h, Irr h → h ∣ a → h ∣ b → False

theorem Parts.start {f : Poly p} (hm : Mon f) (h2 : 2 ≤ dg f) : Parts f [f] :=
 ⟨by simp [hm, h2, dvd_refl], fun h hi hd => ⟨f, by simp, hd⟩, by simp⟩

theorem Parts.irrs {f : Poly p} {L : List (Poly p)} (h : Parts f L) (hi : ∀ a ∈ L, Irr a) : Irrs f L := by
 refine ⟨?_, fun g => ⟨fun hg => ⟨hi g hg, (h.each g hg).1, (h.each g hg).2.2⟩, fun ⟨h1, h2, h3⟩ => ?_⟩⟩
 ·have : L.Pairwise fun a b => a ∈ L → a ≠ b := h.apart.imp fun {a b} hab ha (he : a = b) => hab a (hi a ha) (dvd_refl a) (by rw [← he]; exact dvd_refl a)
  exact List.pairwise_iff_getElem.2 fun i j hi' hj' hij => (List.pairwise_iff_getElem.1 this i j hi' hj' hij) (List.getElem_mem _)
 ·obtain ⟨a, ha, hd⟩ := h.all g h1 h3
  rw [irr_eq h1 (hi a ha) h2 (h.each a ha).1 hd]; exact ha

noncomputable def cut1 (v a : Poly p) (s : Nat) : List (Poly p) := if 2 ≤ dg (gcd a (v - con p (s : Int))) then [gcd a (v - con p (s : Int))] else []
noncomputable def cutN (v a : Poly p) (n : Nat) : List (Poly p) := (List.range n).flatMap (cut1 v a)
noncomputable def cutAll (v : Poly p) (L : List (Poly p)) : List (Poly p) := L.flatMap fun a => cutN v a p.toNat

theorem mem_cut {v a g : Poly p} {n : Nat} : g ∈ cutN v a n ↔ ∃ s, s < n ∧ 2 ≤ dg (gcd a (v - con p (s : Int))) ∧ g = gcd a (v - con p (s : Int)) := by
 simp only [cutN, List.mem_flatMap, List.mem_range, cut1]
 constructor
 ·rintro ⟨s, h1, h2⟩
  split at h2
  ·rename_i h3; simp at h2; exact ⟨s, h1, h3, h2⟩
  ·cases h2
 ·rintro ⟨s, h1, h2, h3⟩
  exact ⟨s, h1, by rw [if_pos h2]; simp [h3]⟩

theorem two_cons {h v : Poly p} (hi : Irr h) {s t : Nat} (hs : (s : Int) < p) (ht : (t : Int) < p) (h1 : h ∣ v - con p (s : Int)) (h2 : h ∣ v - con p (t : Int)) : s = t := by
 have := con_unique hi.1 h1 h2
 rw [Int.emod_eq_of_lt (by omega) hs, Int.emod_eq_of_lt (by omega) ht] at this
 omega

theorem cut_apart {v a : Poly p} {n : Nat} (hn : (n : Int) ≤ p) : (cutN v a n).Pairwise fun x y => ∀ h, Irr h → h ∣ x → h ∣ y → False := by
 induction n with
 | zero => simp [cutN]
 | succ n ih =>
  have e : cutN v a (n + 1) = cutN v a n ++ cut1 v a n := by simp [cutN, List.range_succ]
  rw [e, List.pairwise_append]
  refine ⟨ih (by omega), ?_, fun x hx y hy h hi h1 h2 => ?_⟩
  ·unfold cut1; split <;> simp
  ·obtain ⟨s, hs, _, rfl⟩ := mem_cut.1 hx
   unfold cut1 at hy
   split at hy
   ·simp at hy; subst hy
    have := two_cons (p := p) hi (s := s) (t := n) (by omega) (by omega) (dvd_trans h1 (gcd_right _ _)) (dvd_trans h2 (gcd_right _ _))
    omega
   ·cases hy

theorem cut_all {v a h : Poly p} (hv : Ber h v) (hi : Irr h) (hd : h ∣ a) (ha : a ≠ 0) : ∃ g ∈ cutN v a p.toNat, h ∣ g := by
 obtain ⟨s, h1, h2, h3⟩ := ber_irr hi hv
 have h4 := dvd_gcd hd h3
 have hm := gcd_mon (f := a) (g := v - con p s) (.inl ha)
 have h5 := dvd_dg h4 hm.1
 have h6 := hi.1
 have e : ((s.toNat : Nat) : Int) = s := by omega
 refine ⟨_, mem_cut.2 ⟨s.toNat, by omega, ?_, rfl⟩, ?_⟩
 ·rw [e]; omega
 ·rw [e]; exact h4

theorem Parts.cut {f v : Poly p} {L : List (Poly p)} (h : Parts f L) (hv : Ber f v) : Parts f (cutAll v L) ∧ ∀ a' ∈ cutAll v L, (∃ s : Int, a' ∣ v - con p s) ∧ ∃ a ∈ L, a' ∣ a := by
 have hmem : ∀ a' ∈ cutAll v L, ∃ a ∈ L, ∃ s : Nat, 2 ≤ dg a' ∧ a' = gcd a (v - con p (s : Int)) := by
  intro a' ha'
  obtain ⟨a, ha, hg⟩ := List.mem_flatMap.1 ha'
  obtain ⟨s, _, h2, rfl⟩ := mem_cut.1 hg
  exact ⟨a, ha, s, h2, rfl⟩
 refine ⟨⟨fun a' ha' => ?_, fun q hq hd => ?_, ?_⟩, fun a' ha' => ?_⟩
 ·obtain ⟨a, ha, s, h2, rfl⟩ := hmem a' ha'
  exact ⟨gcd_mon (.inl (h.each a ha).1.1), h2, dvd_trans (gcd_left _ _) (h.each a ha).2.2⟩
 ·obtain ⟨a, ha, hqa⟩ := h.all q hq hd
  obtain ⟨g, hg, hqg⟩ := cut_all (hv.dvd hd) hq hqa (h.each a ha).1.1
  exact ⟨g, List.mem_flatMap.2 ⟨a, ha, hg⟩, hqg⟩
 ·unfold cutAll
  rw [List.pairwise_flatMap]
  refine ⟨fun a _ => cut_apart (by have := Pr.two (p := p); omega), h.apart.imp fun {a b} hab x hx y hy q hq h1 h2 => ?_⟩
  obtain ⟨s, _, _, rfl⟩ := mem_cut.1 hx
  obtain ⟨t, _, _, rfl⟩ := mem_cut.1 hy
  exact hab q hq (dvd_trans h1 (gcd_left _ _)) (dvd_trans h2 (gcd_left _ _))
 ·obtain ⟨a, ha, s, h2, rfl⟩ := hmem a' ha'
  exact ⟨⟨s, gcd_right _ _⟩, a, ha, gcd_left _ _⟩

end Poly

theorem tmod_mod (n m : Int) (hm : 0 < m) : (n.tmod m + m).tmod m = n % m := by
 have h1 := Int.lt_tmod_of_pos n hm
 rw [Int.tmod_eq_emod_of_nonneg (by omega), Int.add_emod_right]
 rw [Int.tmod_eq_emod]
 split
 ·simp
 ·rw [show (m.natAbs : Int) = m by omega, Int.sub_emod, Int.emod_self]; simp

abbrev isP (p : Int) : Bool := decide (p ∈ primes)

theorem primes_chk : (List.range 98).all (fun n => decide ((n : Int) ∈ primes) == (decide (2 ≤ n) && (List.range 10).all fun d => !(decide (2 ≤ d ∧ d * d ≤ n ∧ n % d = 0)))) = true := by decide +kernel
theorem primes_iff {n : Int} (h : n ≤ 97) : n ∈ primes ↔ 2 ≤ n ∧ ∀ d : Int, 2 ≤ d → d * d ≤ n → n % d ≠ 0 := by
 rcases Int.lt_or_le n 2 with h2 | h2
 ·constructor
  ·intro hm
   have := List.all_eq_true.1 primes_two n hm
   simp only [decide_eq_true_eq] at this
   omega
  ·intro h3; omega
 ·obtain ⟨k, rfl⟩ : ∃ k : Nat, n = k := ⟨n.toNat, by omega⟩
  have h3 := List.all_eq_true.1 primes_chk k (List.mem_range.2 (by omega))
  simp only [beq_iff_eq] at h3
  have h4 : ((k : Int) ∈ primes) ↔ decide ((k : Int) ∈ primes) = true := by simp
  rw [h4, h3]
  simp only [Bool.and_eq_true, decide_eq_true_eq, List.all_eq_true, List.mem_range, Bool.not_eq_true', decide_eq_false_iff_not, not_and]
  constructor
  ·rintro ⟨h5, h6⟩
   refine ⟨h2, fun d hd hdd hr => ?_⟩
   have h9 : d < 10 := by
    rcases Int.lt_or_le d 10 with h | h
    ·exact h
    ·have : 10 * 10 ≤ d * d := Int.mul_le_mul h h (by omega) (by omega)
     omega
   obtain ⟨m, rfl⟩ : ∃ m : Nat, d = m := ⟨d.toNat, by omega⟩
   refine h6 m (by omega) (by omega) (by exact_mod_cast hdd) ?_
   omega
  ·rintro ⟨_, h6⟩
   refine ⟨by omega, fun d hd h7 h8 h9 => h6 d (by omega) (by exact_mod_cast h8) (by omega)⟩
theorem primes_le {n : Int} (h : n ∈ primes) : 2 ≤ n ∧ n ≤ 97 := by
 have := List.all_eq_true.1 primes_two n h
 simpa using this

structure Bz (a b r x y s u v : Int) : Prop where
 r0 : 0 ≤ r
 s0 : 0 ≤ s
 e1 : a * x + b * y = r
 e2 : a * u + b * v = s
 g : ∀ d : Int, (d ∣ a ∧ d ∣ b) ↔ (d ∣ r ∧ d ∣ s)
 bd : ∃ ε X U Y V : Int, (ε = 1 ∨ ε = -1) ∧ 0 ≤ X ∧ 0 ≤ U ∧ 0 ≤ Y ∧ 0 ≤ V ∧ x = ε * X ∧ u = -(ε * U) ∧ y = -(ε * Y) ∧ v = ε * V ∧ U * r + X * s = b ∧ V * r + Y * s = a

theorem Bz.start {a b : Int} (ha : 0 ≤ a) (hb : 0 ≤ b) : Bz a b a 1 0 b 0 1 :=
 ⟨ha, hb, by omega, by omega, fun _ => Iff.rfl, 1, 1, 0, 0, 1, .inl rfl, by omega, by omega, by omega, by omega, by omega, by omega, by omega, by omega, by omega, by omega⟩

theorem mul_le_of {q s r : Int} (hs : 1 ≤ s) (hq : 0 ≤ q) (h : q * s ≤ r) : q ≤ r := by
 have : q * 1 ≤ q * s := Int.mul_le_mul_of_nonneg_left hs hq
 omega

structure BzB (a b r x y s u v q : Int) : Prop where
 q0 : 0 ≤ q
 qr : q ≤ r
 qs : 0 ≤ q * s ∧ q * s ≤ r
 qu : -b ≤ q * u ∧ q * u ≤ b
 qv : -a ≤ q * v ∧ q * v ≤ a
 bx : -b ≤ x ∧ x ≤ b
 by' : -a ≤ y ∧ y ≤ a
 nx : -b ≤ x - q * u ∧ x - q * u ≤ b
 ny : -a ≤ y - q * v ∧ y - q * v ≤ a

theorem eps_abs {ε z B : Int} (he : ε = 1 ∨ ε = -1) (h0 : 0 ≤ z) (h : z ≤ B) : -B ≤ ε * z ∧ ε * z ≤ B := by
 rcases he with rfl | rfl <;> omega
theorem Bz.step {a b r x y s u v : Int} (h : Bz a b r x y s u v) (hs : s ≠ 0) : BzB a b r x y s u v (r / s) ∧ Bz a b s u v (r - r / s * s) (x - r / s * u) (y - r / s * v) := by
 obtain ⟨h1, h2, h3, h4, h5, ε, X, U, Y, V, he, hX, hU, hY, hV, rfl, rfl, rfl, rfl, h6, h7⟩ := h
 have hs1 : 1 ≤ s := by omega
 have hm := Int.emod_nonneg r hs
 have hm2 := Int.emod_lt_of_pos r (show 0 < s by omega)
 have hd : r = r / s * s + r % s := by have := Int.mul_ediv_add_emod r s; rw [Int.mul_comm] at this; omega
 have hq : 0 ≤ r / s := Int.ediv_nonneg h1 h2
 generalize hqq : r / s = q at *
 generalize hrr : r % s = r' at *
 have hqs0 : 0 ≤ q * s := Int.mul_nonneg hq h2
 have hqs : q * s ≤ r := by omega
 have hUr : 0 ≤ U * r := Int.mul_nonneg hU h1
 have hVr : 0 ≤ V * r := Int.mul_nonneg hV h1
 have hXs : 0 ≤ X * s := Int.mul_nonneg hX h2
 have hYs : 0 ≤ Y * s := Int.mul_nonneg hY h2
 have hXb : X ≤ b := mul_le_of (s := s) hs1 hX (by omega)
 have hYa : Y ≤ a := mul_le_of (s := s) hs1 hY (by omega)
 have hqU : 0 ≤ q * U := Int.mul_nonneg hq hU
 have hqV : 0 ≤ q * V := Int.mul_nonneg hq hV
 have k1 : q * U * s ≤ U * r := by
  have : U * (q * s) ≤ U * r := Int.mul_le_mul_of_nonneg_left hqs hU
  have e : q * U * s = U * (q * s) := by rw [Int.mul_comm q U, Int.mul_assoc]
  omega
 have k2 : q * V * s ≤ V * r := by
  have : V * (q * s) ≤ V * r := Int.mul_le_mul_of_nonneg_left hqs hV
  have e : q * V * s = V * (q * s) := by rw [Int.mul_comm q V, Int.mul_assoc]
  omega
 have hXU : X + q * U ≤ b := mul_le_of (s := s) hs1 (by omega) (by rw [Int.add_mul]; omega)
 have hYV : Y + q * V ≤ a := mul_le_of (s := s) hs1 (by omega) (by rw [Int.add_mul]; omega)
 have e1 : q * -(ε * U) = -(ε * (q * U)) := by rw [Int.mul_neg, ← Int.mul_assoc, Int.mul_comm q ε, Int.mul_assoc]
 have e2 : q * (ε * V) = ε * (q * V) := by rw [← Int.mul_assoc, Int.mul_comm q ε, Int.mul_assoc]
 have e3 : ε * X - q * -(ε * U) = ε * (X + q * U) := by rw [e1, Int.mul_add]; omega
 have e4 : -(ε * Y) - q * (ε * V) = -(ε * (Y + q * V)) := by rw [e2, Int.mul_add]; omega
 refine ⟨⟨hq, mul_le_of hs1 hq hqs, ⟨hqs0, hqs⟩, ?_, ?_, eps_abs he hX hXb, ?_, ?_, ?_⟩, h2, by omega, h4, ?_, fun d => ?_, -ε, U, X + q * U, V, Y + q * V, by omega, hU, by omega, hV, by omega, ?_, ?_, ?_, ?_, ?_, ?_⟩
 ·rw [e1]; have := eps_abs he hqU (show q * U ≤ b by omega); omega
 ·rw [e2]; exact eps_abs he hqV (show q * V ≤ a by omega)
 ·have := eps_abs he hY hYa; omega
 ·rw [e3]; exact eps_abs he (by omega) hXU
 ·rw [e4]; have := eps_abs he (by omega) hYV; omega
 ·rw [Int.mul_sub, Int.mul_sub]
  have i1 : a * (q * -(ε * U)) = q * (a * -(ε * U)) := by rw [← Int.mul_assoc, Int.mul_comm a q, Int.mul_assoc]
  have i2 : b * (q * (ε * V)) = q * (b * (ε * V)) := by rw [← Int.mul_assoc, Int.mul_comm b q, Int.mul_assoc]
  have i3 : q * (a * -(ε * U)) + q * (b * (ε * V)) = q * s := by rw [← Int.mul_add, h4]
  omega
 ·rw [h5 d]
  constructor
  ·rintro ⟨h8, h9⟩; exact ⟨h9, Int.dvd_sub h8 (Int.dvd_mul_of_dvd_right h9)⟩
  ·rintro ⟨h8, h9⟩
   refine ⟨?_, h8⟩
   have := Int.dvd_add h9 (Int.dvd_mul_of_dvd_right h8 (b := q))
   rwa [show r - q * s + q * s = r by omega] at this
 ·rw [Int.neg_mul]
 ·rw [Int.neg_mul, e3]; omega
 ·rw [Int.neg_mul]; omega
 ·rw [Int.neg_mul, e4]
 ·rw [Int.add_mul, Int.mul_sub]
  have : U * (q * s) = q * U * s := by rw [Int.mul_comm q U, Int.mul_assoc]
  omega
 ·rw [Int.add_mul, Int.mul_sub]
  have : V * (q * s) = q * V * s := by rw [Int.mul_comm q V, Int.mul_assoc]
  omega
theorem Bz.fin {a b r x y u v : Int} (h : Bz a b r x y 0 u v) : a * x + b * y = r ∧ 0 ≤ r ∧ r ∣ a ∧ r ∣ b := by
 have := (h.g r).2 ⟨Int.dvd_refl r, Int.dvd_zero r⟩
 exact ⟨h.e1, h.r0, this.1, this.2⟩

def invm (m a : Int) : Int := (((List.range m.toNat).find? fun b : Nat => a * (b : Int) % m == 1 % m).getD 0 : Nat)
theorem invm_of {m a x : Int} (hm : 0 < m) (h : a * x % m = 1 % m) : invm m a = x % m := by
 unfold invm
 have h0 := Int.emod_nonneg x (show m ≠ 0 by omega)
 have h1 := Int.emod_lt_of_pos x hm
 cases hf : (List.range m.toNat).find? fun b : Nat => a * (b : Int) % m == 1 % m with
 | none =>
  exfalso
  rw [List.find?_eq_none] at hf
  have h2 := hf (x % m).toNat (List.mem_range.2 (by omega))
  simp only [beq_iff_eq] at h2
  rw [show ((x % m).toNat : Int) = x % m by omega, Int.mul_emod, Int.emod_emod_of_dvd _ (Int.dvd_refl m), ← Int.mul_emod] at h2
  exact h2 h
 | some b =>
  have h2 := List.find?_some hf
  have h3 := List.mem_range.1 (List.mem_of_find?_eq_some hf)
  simp only [beq_iff_eq] at h2
  simp only [Option.getD_some]
  -- both are inverses
  have h4 : a * b * x % m = (b : Int) % m := by
   rw [Int.mul_assoc, Int.mul_comm (b : Int) x, ← Int.mul_assoc, Int.mul_emod, h, ← Int.mul_emod, Int.one_mul]
  have h5 : a * b * x % m = x % m := by
   rw [Int.mul_emod, h2, ← Int.mul_emod, Int.one_mul]
  rw [← h5, h4, Int.emod_eq_of_lt (by omega) (by omega)]
theorem invm_spec {p a : Int} [Pr p] (h : a % p ≠ 0) : 0 ≤ invm p a ∧ invm p a < p ∧ a * invm p a % p = 1 := by
 have hp := Pr.two (p := p)
 obtain ⟨b, hb⟩ := Pr.inv (p := p) a h
 have h1 : (1 : Int) % p = 1 := Int.emod_eq_of_lt (by omega) (by omega)
 rw [invm_of (m := p) (x := b) (by omega) (by rw [hb, h1])]
 refine ⟨Int.emod_nonneg _ (by omega), Int.emod_lt_of_pos _ (by omega), ?_⟩
 rw [Int.mul_emod, Int.emod_emod_of_dvd _ (Int.dvd_refl p), ← Int.mul_emod, hb]
theorem invm_mod {p a : Int} [Pr p] (h : a % p ≠ 0) : invm p (a % p) = invm p a := by
 have hp := Pr.two (p := p)
 obtain ⟨h1, h2, h3⟩ := invm_spec h
 rw [invm_of (m := p) (x := invm p a) (by omega), Int.emod_eq_of_lt h1 h2]
 rw [Int.mul_emod, Int.emod_emod_of_dvd _ (Int.dvd_refl p), ← Int.mul_emod, h3, Int.emod_eq_of_lt (by omega) (by omega)]

theorem dvd_prime_one {p a r : Int} [Pr p] (ha : a % p ≠ 0) (h0 : 0 ≤ r) (h1 : r ∣ a) (h2 : r ∣ p) : r = 1 := by
 obtain ⟨c, rfl⟩ := h1
 obtain ⟨d, hd⟩ := h2
 have hp := Pr.two (p := p)
 -- r is a unit by p, so p divides d, so r = 1
 by_cases hr : r % p = 0
 ·exact absurd (by rw [Int.mul_emod, hr]; simp) ha
 ·obtain ⟨b, hb⟩ := Pr.inv (p := p) r hr
  have h3 : d % p = 0 := by
   have h4 : r * b * d % p = d % p := by rw [Int.mul_emod, hb, Int.one_mul, Int.emod_emod_of_dvd _ (Int.dvd_refl p)]
   rw [← h4, show r * b * d = p * b by rw [Int.mul_assoc, Int.mul_comm b d, ← Int.mul_assoc, ← hd]]
   exact Int.mul_emod_right p b
  obtain ⟨k, hk⟩ := Int.dvd_of_emod_eq_zero h3
  rw [hk, ← Int.mul_assoc, Int.mul_comm r p, Int.mul_assoc] at hd
  have h5 : r * k = 1 := by
   have : p * (r * k) = p * 1 := by omega
   exact Int.eq_of_mul_eq_mul_left (by omega) this
  have hr1 : r ≠ 0 := fun h => by rw [h, Int.zero_mul] at h5; omega
  have hk1 : 1 ≤ k := by
   rcases Int.lt_or_le k 1 with h | h
   ·have : r * k ≤ r * 0 := Int.mul_le_mul_of_nonneg_left (by omega) h0
    omega
   ·exact h
  have : r * 1 ≤ r * k := Int.mul_le_mul_of_nonneg_left hk1 h0
  omega
theorem Bz.inv {p a r x y u v : Int} [Pr p] (ha : a % p ≠ 0) (h : Bz a p r x y 0 u v) : x % p = invm p a := by
 have hp := Pr.two (p := p)
 obtain ⟨h1, h2, h3, h4⟩ := h.fin
 have hr := dvd_prime_one ha h2 h3 h4
 subst hr
 refine (invm_of (m := p) (by omega) ?_).symm
 have : a * x = 1 + p * -y := by rw [Int.mul_neg]; omega
 rw [this, Int.add_mul_emod_self_left]


theorem cf_set {l : List Int} {i : Nat} (h : i < l.length) (x : Int) (j : Nat) : cf (l.set i x) j = if j = i then x else cf l j := by
 unfold cf
 simp only [List.getD_eq_getElem?_getD, List.getElem?_set]
 by_cases hj : i = j
 ·subst hj; simp [h]
 ·simp [hj, Ne.symm hj]
theorem cf_replicate (n : Nat) (j : Nat) : cf (List.replicate n 0) j = 0 := by
 unfold cf
 simp only [List.getD_eq_getElem?_getD, List.getElem?_replicate]
 split <;> rfl
theorem cf_take (l : List Int) (n j : Nat) : cf (l.take n) j = if j < n then cf l j else 0 := by
 unfold cf
 simp only [List.getD_eq_getElem?_getD, List.getElem?_take]
 split <;> rfl
theorem cf_drop (l : List Int) (n j : Nat) : cf (l.drop n) j = cf l (n + j) := by
 unfold cf
 simp only [List.getD_eq_getElem?_getD, List.getElem?_drop]
theorem list_ext {l m : List Int} (h : l.length = m.length) (he : ∀ j, j < l.length → cf l j = cf m j) : l = m := by
 apply List.ext_getElem h
 intro j h1 h2
 have := he j h1
 rwa [cf_lt h1, cf_lt h2] at this
theorem cf_mem {l : List Int} {j : Nat} (h : j < l.length) : cf l j ∈ l := by rw [cf_lt h]; exact List.getElem_mem h

theorem trimZ_congr {l m : List Int} (h : ∀ j, cf l j = cf m j) : trimZ l = trimZ m :=
 eq_of_cf (trimZ_last l) (trimZ_last m) fun j => by rw [cf_trimZ, cf_trimZ, h]
theorem trim_at {l : List Int} {n : Nat} (hn : n ≤ l.length) (h0 : ∀ j, n ≤ j → cf l j = 0) (h : n = 0 ∨ cf l (n - 1) ≠ 0) : l.take n = trimZ l := by
 refine eq_of_cf ?_ (trimZ_last l) fun j => ?_
 ·intro m hm
  rw [List.length_take, Nat.min_eq_left hn] at hm
  subst hm
  rw [cf_take, if_pos (by omega)]
  rcases h with h | h
  ·omega
  ·exact h
 ·rw [cf_take, cf_trimZ]
  split
  ·rfl
  ·exact (h0 j (by omega)).symm
theorem trimZ_nil : trimZ [] = [] := rfl

def Bd (M : Int) (l : List Int) : Prop := ∀ j, -M ≤ cf l j ∧ cf l j ≤ M
theorem Bd.trim {M : Int} {l : List Int} (h : Bd M l) : Bd M (trimZ l) := fun j => by rw [cf_trimZ]; exact h j
theorem Nrm.bd {p : Int} {l : List Int} (h : Nrm p l) (hp : 0 ≤ p) : Bd p l := fun j => by
 by_cases hj : j < l.length
 ·have := h.1 _ (cf_mem hj); omega
 ·rw [cf_ge (by omega)]; omega

namespace Poly
variable {p : Int} [SP p]
theorem cf_bd (f : Poly p) (j : Nat) : 0 ≤ cf f.l j ∧ cf f.l j < p := by
 have hp := Pr.two (p := p)
 by_cases hj : j < f.l.length
 ·exact f.ok.1 _ (cf_mem hj)
 ·rw [cf_ge (by omega)]; omega
theorem l_bd (f : Poly p) : Bd 97 f.l := fun j => by
 have h := cf_bd f j; have := SP.le (p := p); omega
end Poly

theorem cv_bd {A B : Int} (hA : 0 ≤ A) (hB : 0 ≤ B) {n : Nat} (f g : Nat → Int) (hf : ∀ j, -A ≤ f j ∧ f j ≤ A) (hf0 : ∀ j, n ≤ j → f j = 0) (hg : ∀ j, -B ≤ g j ∧ g j ≤ B) :
  ∀ k, -((n : Int) * (A * B)) ≤ cv f g k ∧ cv f g k ≤ (n : Int) * (A * B) := by
 have hAB : 0 ≤ A * B := Int.mul_nonneg hA hB
 have hm : ∀ i j, -(A * B) ≤ f i * g j ∧ f i * g j ≤ A * B := by
  intro i j
  have h1 := hf i
  have h2 := hg j
  have e1 : (f i * g j).natAbs ≤ (A * B).natAbs := by
   rw [Int.natAbs_mul, Int.natAbs_mul]
   exact Nat.mul_le_mul (by omega) (by omega)
  omega
 intro k
 induction n generalizing f k with
 | zero =>
  have : cv f g k = 0 := cv_zero_left fun i _ => hf0 i (Nat.zero_le _)
  rw [this]; simp
 | succ n ih =>
  have e : ((n + 1 : Nat) : Int) * (A * B) = (n : Int) * (A * B) + A * B := by rw [Int.natCast_add, Int.add_mul]; simp
  rw [e]
  have hn : 0 ≤ (n : Int) * (A * B) := Int.mul_nonneg (by omega) hAB
  cases k with
  | zero =>
   have := hm 0 0
   simp only [cv]; omega
  | succ k =>
   have h1 := ih (fun i => f (i + 1)) (fun j => hf (j + 1)) (fun j hj => hf0 (j + 1) (by omega)) (fun i j => hm (i + 1) j) k
   have h2 := hm 0 (k + 1)
   have h3 : cv f g (k + 1) = f 0 * g (k + 1) + cv (fun i => f (i + 1)) g k := rfl
   rw [h3]; omega

def part (f g : Nat → Int) (i k j : Nat) : Int := cv (fun x => if x < i then f x else 0) g j + (if i ≤ j ∧ j < i + k then f i * g (j - i) else 0)
theorem cv_one_at (c : Int) (i : Nat) (g : Nat → Int) (j : Nat) : cv (fun x => if x = i then c else 0) g j = if i ≤ j then c * g (j - i) else 0 := Poly.cv_mono c i g j
theorem part_row {f g : Nat → Int} {m : Nat} (hg : ∀ j, m ≤ j → g j = 0) (i j : Nat) : part f g i m j = part f g (i + 1) 0 j := by
 unfold part
 rw [if_neg (show ¬ (i + 1 ≤ j ∧ j < i + 1 + 0) by omega), Int.add_zero]
 have e : (fun x => if x < i + 1 then f x else 0) = fun x => (if x < i then f x else 0) + (if x = i then f i else 0) := by
  funext x
  by_cases h : x < i
  ·rw [if_pos h, if_pos (by omega), if_neg (by omega)]; omega
  ·by_cases h2 : x = i
   ·subst h2; rw [if_pos (by omega), if_neg h, if_pos rfl]; omega
   ·rw [if_neg (by omega), if_neg h, if_neg h2]; rfl
 rw [e, cv_add, cv_one_at]
 congr 1
 by_cases h : i ≤ j
 ·rw [if_pos h]
  by_cases h2 : j < i + m
  ·rw [if_pos ⟨h, h2⟩]
  ·rw [if_neg (by omega), hg _ (by omega), Int.mul_zero]
 ·rw [if_neg (by omega), if_neg h]
theorem part_start (f g : Nat → Int) (j : Nat) : part f g 0 0 j = 0 := by
 unfold part
 rw [if_neg (by omega), cv_zero_left fun i _ => by simp]; rfl
theorem part_step (f g : Nat → Int) (i k j : Nat) : part f g i (k + 1) j = if j = i + k then part f g i k j + f i * g k else part f g i k j := by
 unfold part
 by_cases h : j = i + k
 ·subst h
  rw [if_pos rfl, if_pos ⟨by omega, by omega⟩, if_neg (by omega), show i + k - i = k by omega]; omega
 ·rw [if_neg h]
  congr 1
  by_cases h2 : i ≤ j ∧ j < i + k
  ·rw [if_pos h2, if_pos ⟨h2.1, by omega⟩]
  ·rw [if_neg h2, if_neg (by omega)]
theorem part_end {f g : Nat → Int} {n : Nat} (hf : ∀ j, n ≤ j → f j = 0) (j : Nat) : part f g n 0 j = cv f g j := by
 unfold part
 rw [if_neg (by omega), Int.add_zero]
 congr 1
 funext x
 split
 ·rfl
 ·exact (hf x (by omega)).symm
theorem part_bd {A B : Int} (hA : 0 ≤ A) (hB : 0 ≤ B) {f g : Nat → Int} (hf : ∀ j, -A ≤ f j ∧ f j ≤ A) (hg : ∀ j, -B ≤ g j ∧ g j ≤ B) (i k j : Nat) :
  -(((i : Int) + 1) * (A * B)) ≤ part f g i k j ∧ part f g i k j ≤ ((i : Int) + 1) * (A * B) := by
 have h1 := cv_bd hA hB (n := i) (fun x => if x < i then f x else 0) g (fun j => by split; exact hf j; omega) (fun j hj => if_neg (by omega)) hg j
 have hAB : 0 ≤ A * B := Int.mul_nonneg hA hB
 have h2 : -(A * B) ≤ f i * g (j - i) ∧ f i * g (j - i) ≤ A * B := by
  have h1 := hf i
  have h2 := hg (j - i)
  have e1 : (f i * g (j - i)).natAbs ≤ (A * B).natAbs := by
   rw [Int.natAbs_mul, Int.natAbs_mul]
   exact Nat.mul_le_mul (by omega) (by omega)
  omega
 unfold part
 rw [Int.add_mul, Int.one_mul]
 split <;> omega

theorem take_map_succ (f : Int → Int) {xs : List Int} {i : Nat} (h : i < xs.length) : (xs.take (i + 1)).map f = (xs.take i).map f ++ [f (xs.getD i 0)] := by
 rw [List.take_add_one, List.map_append, List.getElem?_eq_getElem h, List.getD_eq_getElem?_getD, List.getElem?_eq_getElem h]; rfl

theorem mkL_succ (n : Nat) (f : Nat → Int) : mkL (n + 1) f = mkL n f ++ [f n] := by simp [mkL, List.range_succ]
theorem trim_add {out f g : List Int} (h : ∀ j, cf out j = cf f j + cf g j) : trimZ out = trimZ (addL f g) := trimZ_congr fun j => by rw [h, cf_addL]
theorem trim_mul {out f g : List Int} (h : ∀ j, cf out j = cv (cf f) (cf g) j) : trimZ out = trimZ (mulL f g) := trimZ_congr fun j => by rw [h, cf_mulL]
theorem trim_mul_nil {f g : List Int} (h : f = [] ∨ g = []) : trimZ (mulL f g) = [] := by
 rw [← trimZ_nil]
 refine trimZ_congr fun j => ?_
 rw [cf_mulL, cf_nil]
 rcases h with rfl | rfl
 ·exact cv_zero_left fun i _ => cf_nil i
 ·rw [cv_comm]; exact cv_zero_left fun i _ => cf_nil i
theorem nrm_trim (p : Int) (l : List Int) : nrm p (trimZ l) = nrm p l := eq_of_cf (nrm_last _ _) (nrm_last _ _) fun j => by rw [cf_nrm, cf_nrm, cf_trimZ]

theorem nrm_rng {p : Int} {l : List Int} (h : ∀ j, 0 ≤ cf l j ∧ cf l j < p) : nrm p l = trimZ l :=
 eq_of_cf (nrm_last p l) (trimZ_last l) fun j => by rw [cf_nrm, cf_trimZ, Int.emod_eq_of_lt (h j).1 (h j).2]

namespace Poly
variable {p : Int} [SP p]

structure DivI (p : Int) [SP p] (F G : Poly p) (nq k : Nat) (r q : List Int) : Prop where
 rl : r.length = dg F
 ql : q.length = nq
 eq : F = of p q * G + of p r
 z : ∀ j, k + dg G ≤ j + 1 → cf r j = 0
 rr : ∀ j, 0 ≤ cf r j ∧ cf r j < p
 qr : ∀ j, 0 ≤ cf q j ∧ cf q j < p
 qz : ∀ j, j < k → cf q j = 0

theorem DivI.start (F G : Poly p) {nq : Nat} (h : dg F + 1 ≤ nq + dg G) : DivI p F G nq nq F.l (List.replicate nq 0) := by
 have hp := Pr.two (p := p)
 refine ⟨rfl, by simp, ?_, fun j hj => cf_dg (by omega), fun j => cf_bd F j, fun j => by rw [cf_replicate]; omega, fun j _ => cf_replicate _ _⟩
 have h0 : of p (List.replicate nq 0) = (0 : Poly p) := ext_cf fun i => by rw [cf_of, cf_replicate, cf_zero]; simp
 rw [h0, of_l]
 exact ring [F, G] (by rfl)

theorem DivI.step {F G : Poly p} {nq k : Nat} {r q r' : List Int} (h : DivI p F G nq (k + 1) r q) (hG : G ≠ 0) (hk : k < nq) (c : Int) (hc : c = cf r (k + dg G - 1) * invm p (cf G.l (dg G - 1)) % p)
  (hl : r'.length = r.length) (hr : ∀ j, cf r' j = if k ≤ j ∧ j < k + dg G then (cf r j - c * cf G.l (j - k)) % p else cf r j) : DivI p F G nq k r' (q.set k c) := by
 have hp := Pr.two (p := p)
 have hm : dg G ≠ 0 := fun e => hG (dg_eq_zero.1 e)
 have hcr : 0 ≤ c ∧ c < p := by rw [hc]; exact ⟨Int.emod_nonneg _ (by omega), Int.emod_lt_of_pos _ (by omega)⟩
 have hql := h.ql
 have hlead : cf G.l (dg G - 1) % p ≠ 0 := cf_ne_mod (dg_lead (by omega))
 have hinv := (invm_spec (p := p) hlead).2.2
 have e1 : of p (q.set k c) = of p q + mono p c k := ext_cf fun i => by
  rw [cf_of, cf_add, cf_of, cf_mono, cf_set (by omega)]
  by_cases hi : i = k
  ·subst hi; rw [if_pos rfl, if_pos rfl, h.qz i (by omega)]; simp
  ·rw [if_neg hi, if_neg hi]; simp
 have e2 : of p r' = of p r - mono p c k * G := ext_cf fun i => by
  rw [cf_of, cf_sub, cf_of, cf_mono_mul, hr]
  by_cases hi : k ≤ i
  ·rw [if_pos hi]
   by_cases hi2 : i < k + dg G
   ·rw [if_pos ⟨hi, hi2⟩]
    rw [Int.emod_emod_of_dvd _ (Int.dvd_refl p), ← Int.sub_emod]
   ·rw [if_neg (by omega), cf_dg (f := G) (by omega)]; simp
  ·rw [if_neg (by omega), if_neg hi]; simp
 refine ⟨by rw [hl, h.rl], by simpa using hql, ?_, fun j hj => ?_, fun j => ?_, fun j => ?_, fun j hj => ?_⟩
 ·rw [e1, e2]
  exact comb 1 h.eq (ring [F, G, of p q, of p r, mono p c k] (by rfl))
 ·rw [hr]
  by_cases hj2 : j < k + dg G
  ·obtain rfl : j = k + dg G - 1 := by omega
   rw [if_pos (by omega), show k + dg G - 1 - k = dg G - 1 by omega, hc]
   generalize cf r (k + dg G - 1) = a
   generalize invm p (cf G.l (dg G - 1)) = v at hinv
   generalize cf G.l (dg G - 1) = l at hinv
   rw [Int.sub_emod, Int.mul_emod (a * v % p), Int.emod_emod_of_dvd _ (Int.dvd_refl p), ← Int.mul_emod, show a * v * l = a * (l * v) by rw [Int.mul_assoc, Int.mul_comm v l], Int.mul_emod a, hinv, Int.mul_one, Int.emod_emod_of_dvd _ (Int.dvd_refl p)]
   simp
  ·rw [if_neg (by omega)]; exact h.z j (by omega)
 ·rw [hr]
  split
  ·exact ⟨Int.emod_nonneg _ (by omega), Int.emod_lt_of_pos _ (by omega)⟩
  ·exact h.rr j
 ·rw [cf_set (by omega)]
  split
  ·exact hcr
  ·exact h.qr j
 ·rw [cf_set (by omega), if_neg (by omega)]
  exact h.qz j (by omega)

theorem DivI.fin {F G : Poly p} {nq : Nat} {r q : List Int} (h : DivI p F G nq 0 r q) (hG : G ≠ 0) : trimZ q = (quo F G).l ∧ trimZ r = (rem F G).l := by
 have hm : dg G ≠ 0 := fun e => hG (dg_eq_zero.1 e)
 have h1 := div_is (q := of p q) (r := of p r) h.eq (by
  have : dg (of p r) ≤ dg G - 1 := dg_le fun j hj => by rw [cf_of, h.z j (by omega)]; simp
  omega)
 rw [h1.1, h1.2]
 exact ⟨(nrm_rng h.qr).symm, (nrm_rng h.rr).symm⟩

theorem row_next {p : Int} {c : Int} {g : Nat → Int} {r o : List Int} {k i n : Nat} (hn : o.length = n) (hi : k + i < n) (h : ∀ j, cf o j = if k ≤ j ∧ j < k + i then (cf r j - c * g (j - k)) % p else cf r j) :
  cf o (k + i) = cf r (k + i) ∧ ∀ j, cf (o.set (k + i) ((cf o (k + i) - c * g i) % p)) j = if k ≤ j ∧ j < k + (i + 1) then (cf r j - c * g (j - k)) % p else cf r j := by
 have h0 : cf o (k + i) = cf r (k + i) := by rw [h, if_neg (by omega)]
 refine ⟨h0, fun j => ?_⟩
 rw [cf_set (by omega), h0, h]
 by_cases hj : j = k + i
 ·subst hj; rw [if_pos rfl, if_pos (by omega), show k + i - k = i by omega]
 ·rw [if_neg hj]
  by_cases h2 : k ≤ j ∧ j < k + i
  ·rw [if_pos h2, if_pos (by omega)]
  ·rw [if_neg h2, if_neg (by omega)]

end Poly
namespace Poly
variable {p : Int} [SP p]

theorem rem_eq_of_dvd {f a b : Poly p} (hf : f ≠ 0) (h : f ∣ a - b) : rem a f = rem b f := by
 obtain ⟨q, hq⟩ := h
 have h1 := div_eq b f
 have h2 := rem_lt b hf
 exact (div_is (q := q + quo b f) (comb 1 hq (comb 1 h1 (ring [a, b, f, q, quo b f, rem b f] (by rfl)))) h2).2
theorem sub_rem_dvd (a f : Poly p) : f ∣ a - rem a f := ⟨quo a f, comb 1 (div_eq a f) (ring [a, f, quo a f, rem a f] (by rfl))⟩
theorem rem_mul_left {a b f : Poly p} (hf : f ≠ 0) : rem (rem a f * b) f = rem (a * b) f := by
 refine (rem_eq_of_dvd hf ?_).symm
 obtain ⟨q, hq⟩ := sub_rem_dvd a f
 exact ⟨q * b, comb b hq (ring [a, b, f, q, rem a f] (by rfl))⟩
theorem rem_mul_right {a b f : Poly p} (hf : f ≠ 0) : rem (a * rem b f) f = rem (a * b) f := by
 have e : a * rem b f = rem b f * a := ring [a, rem b f] (by rfl)
 have e2 : b * a = a * b := ring [a, b] (by rfl)
 rw [e, rem_mul_left hf, e2]
theorem rem_small {a f : Poly p} (h : dg a < dg f) : rem a f = a := (div_is (q := 0) (f := a) (g := f) (ring [a, f] (by rfl)) h).2
theorem rem_pow {a f : Poly p} (hf : f ≠ 0) (n : Nat) : rem (rem a f ^ n) f = rem (a ^ n) f := by
 induction n with
 | zero => rfl
 | succ n ih => rw [pow_succ', pow_succ', rem_mul_right hf, ← rem_mul_left hf, ih, rem_mul_left hf]
theorem pow_two_half (a : Poly p) (n : Nat) : a ^ n = (a * a) ^ (n / 2) * a ^ (n % 2) := by
 have h1 : (a * a) ^ (n / 2) = a ^ (2 * (n / 2)) := by
  rw [pow_mul]
  congr 1
  show a * a = 1 * a * a
  rw [CR.one_mul]
 rw [h1, ← pow_add]
 congr 1; omega
theorem pow_step {o b f g : Poly p} (hf : f ≠ 0) {n : Nat} (h : rem (o * b ^ n) f = g) :
  rem ((if n % 2 = 1 then rem (o * b) f else o) * rem (b * b) f ^ (n / 2)) f = g := by
 rw [← rem_mul_right hf, rem_pow hf, rem_mul_right hf, ← h, pow_two_half b n]
 split
 ·rename_i hn
  have e1 : b ^ (n % 2) = b := by rw [hn]; exact CR.one_mul b
  have e2 : o * b * (b * b) ^ (n / 2) = o * ((b * b) ^ (n / 2) * b) := ring [o, b, (b * b) ^ (n / 2)] (by rfl)
  rw [rem_mul_left hf, e1, e2]
 ·rename_i hn
  have e1 : b ^ (n % 2) = 1 := by rw [show n % 2 = 0 by omega]; rfl
  rw [e1, CR.mul_one]

theorem con_l {c : Int} (h0 : 0 < c) (h1 : c < p) : (con p c).l = [c] := by
 refine eq_of_cf (con p c).ok.2 ?_ fun i => ?_
 ·intro n hn
  have : n = 0 := by simpa using hn.symm
  subst this
  show c ≠ 0
  omega
 ·rw [cf_con, Int.emod_eq_of_lt (by omega) h1]
  cases i <;> simp [cf]
theorem one_l : (1 : Poly p).l = [1] := by
 have hp := Pr.two (p := p)
 exact con_l (c := 1) (by omega) (by omega)
theorem mnc_by {F : Poly p} (hF : F ≠ 0) : 0 < invm p (cf F.l (dg F - 1)) ∧ invm p (cf F.l (dg F - 1)) < p ∧ F * con p (invm p (cf F.l (dg F - 1))) = mnc F := by
 have hp := Pr.two (p := p)
 have hd : dg F ≠ 0 := fun e => hF (dg_eq_zero.1 e)
 have hl : cf F.l (dg F - 1) % p ≠ 0 := cf_ne_mod (dg_lead (by omega))
 obtain ⟨h1, h2, h3⟩ := invm_spec hl
 generalize invm p (cf F.l (dg F - 1)) = c at h1 h2 h3
 have hc0 : c ≠ 0 := fun e => by rw [e, Int.mul_zero, Int.zero_emod] at h3; omega
 have hcm : c % p ≠ 0 := by rw [Int.emod_eq_of_lt h1 h2]; exact hc0
 refine ⟨by omega, h2, ?_⟩
 have hm : Mon (con p c * F) := by
  refine ⟨mul_ne (con_ne hcm) hF, ?_⟩
  rw [lc_mul (con_ne hcm) hF, lc_con hcm, Int.emod_eq_of_lt h1 h2, Int.mul_comm]
  exact h3
 rw [mnc_is hm]
 exact ring [F, con p c] (by rfl)
theorem dg_gcd_le (F G : Poly p) (hF : F ≠ 0) : dg (gcd F G) ≤ dg F := dvd_dg (gcd_left F G) hF
end Poly

theorem sol_pivot {p : Int} {n m a0 : Nat} {R R' : Nat → Nat → Int} {s b : Int} (hab : s * b % p = 1) (ha : a0 < m) (h1 : ∀ x, x < n → R' a0 x % p = (s * R a0 x) % p)
  (h2 : ∀ i, i < m → i ≠ a0 → ∃ t : Int, ∀ x, x < n → R' i x % p = (R i x - t * (s * R a0 x)) % p) (c : Nat → Int) : Sol p n m R' c ↔ Sol p n m R c := by
 constructor
 ·intro h
  have hat : Kills p n (R a0) c := by
   have h3 := kills_smul b (h a0 ha)
   refine (kills_congr (fun x hx => ?_) (fun _ _ => rfl)).1 h3
   rw [mul_mod_right b (h1 x hx), ← Int.mul_assoc, Int.mul_comm b s, Int.mul_emod, hab, Int.one_mul, emod_self_mul]
  intro k hk
  by_cases he : k = a0
  ·subst he; exact hat
  ·obtain ⟨t, ht⟩ := h2 k hk he
   have h3 := kills_add t (h k hk) (kills_smul s hat)
   refine (kills_congr (fun x hx => ?_) (fun _ _ => rfl)).1 h3
   rw [Int.add_emod, ht x hx, ← Int.add_emod]
   congr 1; omega
 ·intro h k hk
  by_cases he : k = a0
  ·subst he
   exact (kills_congr (fun x hx => h1 x hx) (fun _ _ => rfl)).2 (kills_smul s (h k hk))
  ·obtain ⟨t, ht⟩ := h2 k hk he
   have h3 := kills_add (-t) (h k hk) (kills_smul s (h a0 ha))
   refine (kills_congr (fun x hx => ?_) (fun _ _ => rfl)).2 h3
   rw [ht x hx]
   congr 1; rw [Int.neg_mul]; omega

namespace Poly
variable {p : Int} [SP p]

def InSpan (L : List (Poly p)) (w : Poly p) : Prop := ∀ C : Poly p → Prop, C 0 → (∀ a b, C a → C b → C (a + b)) → (∀ (c : Int) a, C a → C (con p c * a)) → (∀ a ∈ L, C a) → C w

theorem span_sum {L : List (Poly p)} {g : Nat → Poly p} {n : Nat} (h : ∀ i, i < n → InSpan L (g i)) : InSpan L (sumP g n) := by
 intro C h0 ha hc hL
 induction n with
 | zero => exact h0
 | succ n ih => exact ha _ _ (ih fun i hi => h i (by omega)) (h n (by omega) C h0 ha hc hL)

def freeP (p : Int) [SP p] (n : Nat) (piv : List Nat) (R : Nat → Nat → Int) (col : Nat) : Poly p := of p (mkL n (freeV p piv R col))
theorem cf_freeP (n : Nat) (piv : List Nat) (R : Nat → Nat → Int) (col x : Nat) : cf (freeP p n piv R col).l x = if x < n then freeV p piv R col x % p else 0 := by
 rw [freeP, cf_of, cf_mkL]; split <;> simp

def freeL (p : Int) [SP p] (n : Nat) (piv : List Nat) (R : Nat → Nat → Int) (m : Nat) : List (Poly p) := ((List.range m).filter fun c => !piv.contains c).map (freeP p n piv R)
theorem freeL_succ (n : Nat) (piv : List Nat) (R : Nat → Nat → Int) (m : Nat) : freeL p n piv R (m + 1) = if m ∈ piv then freeL p n piv R m else freeL p n piv R m ++ [freeP p n piv R m] := by
 unfold freeL
 rw [List.range_succ, List.filter_append]
 by_cases h : m ∈ piv
 ·simp [h]
 ·simp [h]

structure Basis (p : Int) [SP p] (n : Nat) (R : Nat → Nat → Int) (L : List (Poly p)) : Prop where
 few : L.length ≤ n
 sol : ∀ w ∈ L, dg w ≤ n ∧ Sol p n n R (cf w.l)
 span : ∀ w : Poly p, dg w ≤ n → Sol p n n R (cf w.l) → InSpan L w

theorem Steps.basis {n : Nat} {piv : List Nat} {R R0 : Nat → Nat → Int} (h : Steps p n n piv R) (he : ∀ c, Sol p n n R c ↔ Sol p n n R0 c) : Basis p n R0 (freeL p n piv R n) := by
 refine ⟨?_, ?_, ?_⟩
 ·unfold freeL
  rw [List.length_map]
  exact Nat.le_trans (List.length_filter_le _ _) (by simp)
 ·intro w hw
  obtain ⟨col, hc, rfl⟩ := List.mem_map.1 hw
  simp only [List.mem_filter, List.mem_range, Bool.not_eq_true', List.contains_eq_mem, decide_eq_false_iff_not] at hc
  refine ⟨dg_le fun i hi => by rw [cf_freeP, if_neg (by omega)], (he _).1 fun k hk => ?_⟩
  refine (kills_congr (fun _ _ => rfl) (fun i hi => ?_)).1 (h.free hc.1 hc.2 k hk)
  rw [cf_freeP, if_pos hi, emod_self_mul]
 ·intro w hw hs
  have h1 := h.all ((he _).2 hs)
  have e : w = sumP (fun col => con p (if col ∈ piv then 0 else cf w.l col) * freeP p n piv R col) n := ext_cf fun x => by
   rw [cf_sumP (fun col => if col ∈ piv then 0 else cf w.l col)]
   by_cases hx : x < n
   ·rw [← mod_cf w x, h1 x hx]
    refine sumN_mod p fun col hcol => ?_
    rw [cf_freeP, if_pos hx]
    split
    ·simp
    ·rw [Int.mul_comm, mul_mod_left _ (emod_self_mul p _)]
   ·rw [cf_dg (by omega)]
    rw [sumN_zero fun i _ => by rw [cf_freeP, if_neg hx, Int.zero_mul]]; simp
  rw [e]
  refine span_sum fun col hcol => ?_
  intro C h0 ha hc hL
  by_cases hp : col ∈ piv
  ·rw [if_pos hp, con_zero, CR.zero_mul]; exact h0
  ·rw [if_neg hp]
   refine hc _ _ (hL _ (List.mem_map.2 ⟨col, ?_, rfl⟩))
   simp [hcol, hp]

structure Ker (f : Poly p) (L : List (Poly p)) : Prop where
 few : L.length ≤ dg f
 ber : ∀ w ∈ L, Ber f w ∧ dg w < dg f
 span : ∀ w : Poly p, dg w < dg f → Ber f w → InSpan L w
noncomputable def kmat (f : Poly p) (k i : Nat) : Int := cf (kcol f i).l k
theorem Basis.ker {f : Poly p} {n : Nat} {L : List (Poly p)} (hf : dg f = n + 1) (h : Basis p n (kmat f) L) : Ker f L := by
 have hb : ∀ w : Poly p, dg w ≤ n → (Ber f w ↔ Sol p n n (kmat f) (cf w.l)) := fun w hw => ber_iff hf hw
 exact ⟨by have := h.few; omega, fun w hw => ⟨(hb w (h.sol w hw).1).2 (h.sol w hw).2, by have := (h.sol w hw).1; omega⟩, fun w hw hB => h.span w (by omega) ((hb w (by omega)).1 hB)⟩

theorem span_con {L : List (Poly p)} {a : Poly p} (h : ∀ w ∈ L, ∃ s : Int, a ∣ w - con p s) {w : Poly p} (hw : InSpan L w) : ∃ s : Int, a ∣ w - con p s := by
 refine hw (fun w => ∃ s : Int, a ∣ w - con p s) ⟨0, ?_⟩ ?_ ?_ h
 ·rw [con_zero, CR.sub_self]; exact dvd_zero _
 ·rintro x y ⟨s, q, hq⟩ ⟨t, r, hr⟩
  refine ⟨s + t, q + r, ?_⟩
  rw [← con_add]
  exact comb 1 hq (comb 1 hr (ring [x, y, a, q, r, con p s, con p t] (by rfl)))
 ·rintro c x ⟨s, q, hq⟩
  refine ⟨c * s, con p c * q, ?_⟩
  rw [← con_mul]
  exact comb (con p c) hq (ring [x, a, q, con p c, con p s] (by rfl))

theorem Parts.done {f : Poly p} {P L : List (Poly p)} (hf : f ≠ 0) (hs : Sqf f) (hk : Ker f L) (hp : Parts f P) (hc : ∀ a ∈ P, ∀ w ∈ L, ∃ s : Int, a ∣ w - con p s) : Irrs f P :=
 hp.irrs fun a ha => part_irr hf hs (hp.each a ha).2.2 (hp.each a ha).2.1 fun w hw hb => span_con (hc a ha) (hk.span w hw hb)

structure Cut (f : Poly p) (B P : List (Poly p)) : Prop where
 parts : Parts f P
 con : ∀ a ∈ P, ∀ w ∈ B, ∃ s : Int, a ∣ w - Poly.con p s
theorem Cut.start {f : Poly p} (hm : Mon f) (h2 : 2 ≤ dg f) : Cut f [] [f] := ⟨Parts.start hm h2, by simp⟩
theorem Cut.next {f v : Poly p} {B P : List (Poly p)} (h : Cut f B P) (hv : Ber f v) : Cut f (B ++ [v]) (cutAll v P) := by
 obtain ⟨h1, h2⟩ := h.parts.cut hv
 refine ⟨h1, fun a ha w hw => ?_⟩
 obtain ⟨h3, a0, ha0, h4⟩ := h2 a ha
 rcases List.mem_append.1 hw with hw | hw
 ·obtain ⟨s, hs⟩ := h.con a0 ha0 w hw
  exact ⟨s, dvd_trans h4 hs⟩
 ·simp at hw; subst hw; exact h3
theorem Cut.done {f : Poly p} {L P : List (Poly p)} (hf : f ≠ 0) (hs : Sqf f) (hk : Ker f L) (h : Cut f L P) : Irrs f P := Parts.done hf hs hk h.parts h.con

theorem X_l : (X p).l = [0, 1] := by
 have hp := Pr.two (p := p)
 refine eq_of_cf (X p).ok.2 ?_ fun i => ?_
 ·intro n hn
  have : n = 1 := by simpa using hn.symm
  subst this
  show (1 : Int) ≠ 0
  omega
 ·rw [cf_mono, Int.emod_eq_of_lt (by omega) (by omega)]
  match i with
  | 0 => rfl
  | 1 => rfl
  | i + 2 => rw [if_neg (by omega), cf_ge (by simp)]
theorem cf_Xpow (i a : Nat) : cf (X p ^ i).l a = if a = i then 1 else 0 := by
 have hp := Pr.two (p := p)
 rw [mono_pow, Nat.one_mul, cf_mono, Int.emod_eq_of_lt (by omega) (by omega)]
theorem kmat_eq (f : Poly p) (a i : Nat) : kmat f a i = (cf (rem (X p ^ (p.toNat * i)) f).l a - if a = i then 1 else 0) % p := by
 unfold kmat kcol
 rw [cf_sub, cf_Xpow]

end Poly
namespace Poly
variable {p : Int} [SP p]

def prodL : List (Poly p) → Poly p
 | [] => 1
 | a :: l => a * prodL l
theorem cop_prod {a : Poly p} : ∀ {l : List (Poly p)}, (∀ b ∈ l, Cop a b) → Cop a (prodL l)
 | [], _ => (cop_one a).symm
 | b :: l, h => by
  have h1 := h b (by simp)
  have h2 := cop_prod (l := l) fun c hc => h c (by simp [hc])
  exact (h1.symm.mul h2.symm).symm
theorem prod_dvd {f : Poly p} (hf : f ≠ 0) : ∀ {l : List (Poly p)}, (∀ a ∈ l, a ∣ f) → l.Pairwise (fun a b => ∀ h, Irr h → h ∣ a → h ∣ b → False) → prodL l ∣ f
 | [], _, _ => one_dvd f
 | a :: l, h, hp => by
  rw [List.pairwise_cons] at hp
  have h1 := prod_dvd hf (l := l) (fun b hb => h b (by simp [hb])) hp.2
  have ha := h a (by simp)
  exact (cop_prod fun b hb => cop_of_irr (dvd_ne ha hf) (hp.1 b hb)).mul_dvd ha h1
theorem prod_dg : ∀ {l : List (Poly p)}, (∀ a ∈ l, 2 ≤ dg a) → l.length + 1 ≤ dg (prodL l)
 | [], _ => by rw [prodL, dg_one]; simp
 | a :: l, h => by
  have h1 := prod_dg (l := l) fun b hb => h b (by simp [hb])
  have h2 := h a (by simp)
  have ha : a ≠ 0 := fun e => by rw [e, dg_zero] at h2; omega
  have hl : prodL l ≠ 0 := fun e => by rw [e, dg_zero] at h1; omega
  have := dg_mul ha hl
  rw [prodL, List.length_cons]; omega
theorem Parts.few {f : Poly p} {P : List (Poly p)} (h : Parts f P) (hf : f ≠ 0) : P.length + 1 ≤ dg f :=
 Nat.le_trans (prod_dg fun a ha => (h.each a ha).2.1) (dvd_dg (prod_dvd hf (fun a ha => (h.each a ha).2.2) h.apart) hf)
theorem Irrs.few {f : Poly p} {P : List (Poly p)} (h : Irrs f P) (hf : f ≠ 0) : P.length + 1 ≤ dg f := by
 refine Nat.le_trans (prod_dg (l := P) fun a ha => ((h.2 a).1 ha).1.1) (dvd_dg (prod_dvd hf (fun a ha => ((h.2 a).1 ha).2.2) ?_) hf)
 refine List.pairwise_iff_getElem.2 fun i j hi hj hij q hq h1 h2 => ?_
 have ha := (h.2 _).1 (List.getElem_mem hi)
 have hb := (h.2 _).1 (List.getElem_mem hj)
 have e1 := irr_eq (irr_mnc hq).1 ha.1 (irr_mnc hq).2 ha.2.1 (dvd_trans (mnc_assoc q).1 h1)
 have e2 := irr_eq (irr_mnc hq).1 hb.1 (irr_mnc hq).2 hb.2.1 (dvd_trans (mnc_assoc q).1 h2)
 exact List.pairwise_iff_getElem.1 h.1 i j hi hj hij (e1.symm.trans e2)

theorem cutN_succ (v a : Poly p) (n : Nat) : cutN v a (n + 1) = cutN v a n ++ cut1 v a n := by simp [cutN, List.range_succ]
theorem cutN_len (v a : Poly p) {n m : Nat} (h : n ≤ m) : (cutN v a n).length ≤ (cutN v a m).length := by
  induction m with
  | zero => obtain rfl : n = 0 := by omega
            exact Nat.le_refl _
  | succ m ih =>
    rcases Nat.eq_or_lt_of_le h with rfl | h'
    · exact Nat.le_refl _
    · have := ih (by omega)
      rw [cutN_succ, List.length_append]; omega
theorem cutAll_take (v : Poly p) {P : List (Poly p)} {j : Nat} (h : j < P.length) : cutAll v (P.take (j + 1)) = cutAll v (P.take j) ++ cutN v (P.getD j 0) p.toNat := by
 unfold cutAll
 rw [List.take_add_one, List.flatMap_append, List.getElem?_eq_getElem h, List.getD_eq_getElem?_getD, List.getElem?_eq_getElem h]
 simp
theorem cutAll_len (v : Poly p) (P : List (Poly p)) (j : Nat) : (cutAll v (P.take j)).length ≤ (cutAll v P).length := by
 conv => rhs; rw [← List.take_append_drop j P]
 unfold cutAll
 rw [List.flatMap_append, List.length_append]; omega
theorem cut_len (v : Poly p) {P : List (Poly p)} {j a : Nat} (h : j < P.length) (ha : a ≤ p.toNat) : (cutAll v (P.take j) ++ cutN v (P.getD j 0) a).length ≤ (cutAll v P).length := by
 have h1 := cutAll_len v P (j + 1)
 rw [cutAll_take v h, List.length_append] at h1
 have h2 := cutN_len v (P.getD j 0) ha
 rw [List.length_append]; omega

theorem sub_con_l (v : Poly p) (a : Int) : nrm p (trimZ (addL v.l [-a])) = (v - con p a).l := by
 rw [nrm_trim]
 show (of p (addL v.l [-a])).l = _
 congr 1
 refine ext_cf fun i => ?_
 rw [cf_of, cf_addL, cf_sub, cf_con]
 cases i with
 | zero => rw [if_pos rfl, cf_cons_zero]; rw [Int.sub_emod, Int.emod_emod_of_dvd _ (Int.dvd_refl p), ← Int.sub_emod]; congr 1
 | succ i => rw [if_neg (by omega), cf_cons_succ, cf_nil]; simp
theorem getD_mem {L : List (Poly p)} {j : Nat} (h : j < L.length) : L.getD j 0 ∈ L := by
 rw [List.getD_eq_getElem?_getD, List.getElem?_eq_getElem h]; exact List.getElem_mem h
theorem take_snoc {L : List (Poly p)} {j : Nat} (h : j < L.length) : L.take (j + 1) = L.take j ++ [L.getD j 0] := by
 rw [List.take_add_one, List.getD_eq_getElem?_getD, List.getElem?_eq_getElem h]; rfl

end Poly
namespace Poly
variable {p : Int} [SP p]

theorem mon_pow {h : Poly p} (hm : Mon h) (n : Nat) : Mon (h ^ n) := by
 induction n with
 | zero => rw [pow_zero']; exact mon_one
 | succ n ih => rw [pow_succ']; exact ih.mul hm
theorem Mon.left {f g : Poly p} (hf : Mon g) (h : Mon (f * g)) : Mon f := by
 rw [mul_comm'] at h; exact hf.right h

structure Peel (f : Poly p) (P : List (Poly p)) (k : Nat) (r : Poly p) (L : List (Poly p × Nat)) : Prop where
 mon : Mon r
 len : L.length = k
 le : k ≤ P.length
 cut : ∃ s, f = r * s ∧ ∀ h, Irr h → Mon h → h ∣ s → ∃ j, j < k ∧ h = P.getD j 0
 fac : ∀ j, j < k → (L.getD j (0, 0)).1 = P.getD j 0 ∧ 1 ≤ (L.getD j (0, 0)).2 ∧ IsMult (P.getD j 0) (L.getD j (0, 0)).2 f
 out : ∀ j, j < k → ¬ P.getD j 0 ∣ r
 rest : ∀ h e, Irr h → Mon h → (∀ j, j < k → h ≠ P.getD j 0) → (IsMult h e f ↔ IsMult h e r)

theorem Peel.start {f : Poly p} (hm : Mon f) (P : List (Poly p)) : Peel f P 0 f [] :=
 ⟨hm, rfl, Nat.zero_le _, ⟨1, by exact ring [f] (by rfl), fun h hi _ hd => (hi.not_unit dg_one hd).elim⟩, fun j hj => absurd hj (by omega), fun j hj => absurd hj (by omega), fun _ _ _ _ _ => Iff.rfl⟩

theorem nodup_getD {P : List (Poly p)} (h : P.Nodup) {i j : Nat} (hi : i < P.length) (hj : j < P.length) (e : P.getD i 0 = P.getD j 0) : i = j := by
 rw [List.getD_eq_getElem?_getD, List.getD_eq_getElem?_getD, List.getElem?_eq_getElem hi, List.getElem?_eq_getElem hj] at e
 exact (List.getElem_inj h).1 (by simpa using e)

theorem getD_snoc {α : Type} {d x : α} {L : List α} {j : Nat} : (L ++ [x]).getD j d = if j < L.length then L.getD j d else if j = L.length then x else d := by
 simp only [List.getD_eq_getElem?_getD, List.getElem?_append]
 by_cases h : j < L.length
 ·simp [h]
 ·by_cases h2 : j = L.length
  ·simp [h2]
  ·rw [if_neg h, if_neg h, if_neg h2, List.getElem?_eq_none (by simp; omega)]; rfl

theorem Peel.step {f r r' : Poly p} {P : List (Poly p)} {k n : Nat} {L : List (Poly p × Nat)} (h : Peel f P k r L) (hP : P.Nodup) (hk : k < P.length) (hi : Irr (P.getD k 0)) (hm : Mon (P.getD k 0)) (hd : P.getD k 0 ∣ f)
  (he : r = P.getD k 0 ^ n * r') (hn : ¬ P.getD k 0 ∣ r') : Peel f P (k + 1) r' (L ++ [(P.getD k 0, n)]) := by
 have hr' : r' ∣ r := ⟨P.getD k 0 ^ n, by rw [he]; exact mul_comm' _ _⟩
 have hmult : IsMult (P.getD k 0) n r := ⟨r', he, hn⟩
 have hmf : IsMult (P.getD k 0) n f := (h.rest _ _ hi hm fun j hj e => by have := nodup_getD hP hk (by have := h.le; omega) e; omega).2 hmult
 have hn1 : 1 ≤ n := by
  rcases Nat.eq_zero_or_pos n with h0 | h0
  ·subst h0; exact absurd hd (isMult_zero.1 hmf)
  ·exact h0
 refine ⟨(mon_pow hm n).right (he ▸ h.mon), by simp [h.len], hk, ?_, fun j hj => ?_, fun j hj => ?_, fun q e hq hqm hqn => ?_⟩
 ·obtain ⟨s, h1, h2⟩ := h.cut
  refine ⟨P.getD k 0 ^ n * s, by rw [h1, he]; exact ring [P.getD k 0 ^ n, r', s] (by rfl), fun q hq hqm hqd => ?_⟩
  rcases hq.prime hqd with h3 | h3
  ·exact ⟨k, by omega, irr_eq hq hi hqm hm (hq.pow h3)⟩
  ·obtain ⟨j, hj, e⟩ := h2 q hq hqm h3
   exact ⟨j, by omega, e⟩
 ·rw [getD_snoc]
  by_cases hjk : j = k
  ·subst hjk
   rw [if_neg (by have := h.len; omega), if_pos h.len.symm]
   exact ⟨rfl, hn1, hmf⟩
  ·rw [if_pos (by have := h.len; omega)]
   exact h.fac j (by omega)
 ·by_cases hjk : j = k
  ·subst hjk; exact hn
  ·exact fun hdj => h.out j (by omega) (dvd_trans hdj hr')
 ·rw [h.rest q e hq hqm fun j hj => hqn j (by omega)]
  have hne : ¬ q ∣ P.getD k 0 := fun hd' => hqn k (by omega) (irr_eq hq hi hqm hm hd')
  have h0 : IsMult q 0 (P.getD k 0 ^ n) := isMult_zero.2 fun hd' => hne (hq.pow hd')
  have r0 : r' ≠ 0 := fun e0 => h.mon.1 (by rw [he, e0]; exact ring [P.getD k 0 ^ n] (by rfl))
  have up : ∀ e', IsMult q e' r' → IsMult q e' r := fun e' h1 => by
   have := h0.mul hq h1
   rw [Nat.zero_add] at this
   rw [he]; exact this
  refine ⟨fun h1 => ?_, up e⟩
  obtain ⟨e', h2⟩ := exists_mult hq.1 _ r' r0 (Nat.le_refl _)
  rw [h1.unique hq.ne (up e' h2)]; exact h2

theorem cop_mon {f g : Poly p} (hf : f ≠ 0) (h : ∀ h, Irr h → Mon h → h ∣ f → h ∣ g → False) : Cop f g :=
 cop_of_irr hf fun q hq h1 h2 => by
  obtain ⟨hi, hm⟩ := irr_mnc hq
  exact h _ hi hm (dvd_trans (mnc_assoc q).1 h1) (dvd_trans (mnc_assoc q).1 h2)

theorem Peel.fin {f r : Poly p} {P : List (Poly p)} {L : List (Poly p × Nat)} (h : Peel f P P.length r L) (_hf : Mon f) {q c : Poly p} (hq : Irrs q P) (he : f = q * c) (hc : c ∣ der f) :
  der r = 0 ∧ ∀ x, IsFac f x ↔ x ∈ L ∨ IsFac r x := by
 have hr0 := h.mon.1
 have hidx : ∀ {g : Poly p}, g ∈ P → ∃ j, j < P.length ∧ g = P.getD j 0 := fun {g} hg => by
  obtain ⟨j, hj, e⟩ := List.getElem_of_mem hg
  exact ⟨j, hj, by rw [List.getD_eq_getElem?_getD, List.getElem?_eq_getElem hj]; exact e.symm⟩
 constructor
 ·obtain ⟨s, h1, h2⟩ := h.cut
  refine rest_der he h1 hr0 hc (cop_mon hr0 fun g hg hgm h3 h4 => ?_) (cop_mon hr0 fun g hg hgm h3 h4 => ?_)
  ·obtain ⟨j, hj, rfl⟩ := hidx ((hq.2 g).2 ⟨hg, hgm, h4⟩)
   exact h.out j hj h3
  ·obtain ⟨j, hj, rfl⟩ := h2 g hg hgm h4
   exact h.out j hj h3
 ·have hL : ∀ x, x ∈ L ↔ ∃ j, j < P.length ∧ x = L.getD j (0, 0) := fun x => by
   constructor
   ·intro hx
    obtain ⟨j, hj, e⟩ := List.getElem_of_mem hx
    exact ⟨j, by have := h.len; omega, by rw [List.getD_eq_getElem?_getD, List.getElem?_eq_getElem hj]; exact e.symm⟩
   ·rintro ⟨j, hj, rfl⟩
    have hj' : j < L.length := by have := h.len; omega
    rw [List.getD_eq_getElem?_getD, List.getElem?_eq_getElem hj']
    exact List.getElem_mem hj'
  rintro ⟨g, e⟩
  rw [hL]
  constructor
  ·rintro ⟨h1, h2, h3, h4⟩
   by_cases hg : ∃ j, j < P.length ∧ g = P.getD j 0
   ·obtain ⟨j, hj, rfl⟩ := hg
    obtain ⟨h5, h6, h7⟩ := h.fac j hj
    refine .inl ⟨j, hj, ?_⟩
    have : e = (L.getD j (0, 0)).2 := h4.unique h1.ne h7
    exact Prod.ext h5.symm this
   ·exact .inr ⟨h1, h2, h3, (h.rest g e h1 h2 fun j hj e' => hg ⟨j, hj, e'⟩).1 h4⟩
  ·rintro (⟨j, hj, hx⟩ | ⟨h1, h2, h3, h4⟩)
   ·obtain ⟨h5, h6, h7⟩ := h.fac j hj
    rw [hx]
    have hmem : P.getD j 0 ∈ P := by
     rw [List.getD_eq_getElem?_getD, List.getElem?_eq_getElem hj]; exact List.getElem_mem hj
    obtain ⟨h8, h9, _⟩ := (hq.2 _).1 hmem
    exact ⟨by rw [h5]; exact h8, by rw [h5]; exact h9, h6, by rw [h5]; exact h7⟩
   ·refine ⟨h1, h2, h3, (h.rest g e h1 h2 fun j hj e' => ?_).2 h4⟩
    have hd : g ∣ r := h4.dvd h3
    exact h.out j hj (e' ▸ hd)

theorem isMult_assoc {f g : Poly p} (h : f ∣ g) (h' : g ∣ f) (hf : f ≠ 0) {q : Poly p} (hq : Irr q) (e : Nat) (h1 : IsMult q e f) : IsMult q e g := by
 obtain ⟨u, rfl⟩ := h
 obtain ⟨v, hv⟩ := h'
 have huv : u * v = 1 := by
  have h3 : f * (u * v) = f * 1 := by
   have : f * (u * v) = f * u * v := by exact ring [f, u, v] (by rfl)
   rw [this, ← hv]; exact ring [f] (by rfl)
  exact mul_cancel hf h3
 have hu : ¬ q ∣ u := fun hd => by
  have h4 : q ∣ u * v := by obtain ⟨w, hw⟩ := hd; exact ⟨w * v, by rw [hw]; exact ring [q, w, v] (by rfl)⟩
  rw [huv] at h4
  exact hq.not_unit dg_one h4
 have := h1.mul hq (isMult_zero.2 hu)
 rwa [Nat.add_zero] at this
theorem isFac_mnc {f : Poly p} (hf : f ≠ 0) (x : Poly p × Nat) : IsFac (mnc f) x ↔ IsFac f x := by
 obtain ⟨h1, h2⟩ := mnc_assoc f
 exact ⟨fun ⟨a, b, c, d⟩ => ⟨a, b, c, isMult_assoc h1 h2 (mnc_mon hf).1 a _ d⟩, fun ⟨a, b, c, d⟩ => ⟨a, b, c, isMult_assoc h2 h1 hf a _ d⟩⟩

theorem isFac_unit {f : Poly p} (h : dg f = 1) (x : Poly p × Nat) : ¬ IsFac f x := fun ⟨a, _, c, d⟩ => a.not_unit h (d.dvd c)

theorem isFac_pow {g f : Poly p} (hg : g ≠ 0) {n : Nat} (hn : 1 ≤ n) (he : g ^ n = f) (x : Poly p × Nat) : IsFac f x ↔ ∃ e, IsFac g (x.1, e) ∧ x.2 = n * e := by
 subst he
 constructor
 ·rintro ⟨a, b, c, d⟩
  obtain ⟨e, h1⟩ := exists_mult a.1 _ g hg (Nat.le_refl _)
  have h2 := h1.pow a n
  have h3 := d.unique a.ne h2
  refine ⟨e, ⟨a, b, ?_, h1⟩, by rw [h3, Nat.mul_comm]⟩
  rcases Nat.eq_zero_or_pos e with h4 | h4
  ·subst h4; omega
  ·exact h4
 ·rintro ⟨e, ⟨a, b, c, d⟩, h⟩
  refine ⟨a, b, ?_, ?_⟩
  ·rw [h]; exact Nat.mul_pos hn c
  ·rw [h, Nat.mul_comm]; exact d.pow a n

theorem root_spec {f : Poly p} (hm : Mon f) (hd : der f = 0) {l : List Int} {n : Nat} (hl : l.length = n) (hc : ∀ i, i < n → cf l i = cf f.l (i * p.toNat)) (h1 : dg f ≤ n * p.toNat) (h2 : n * p.toNat < dg f + p.toNat) :
  ∃ g : Poly p, g.l = l ∧ Mon g ∧ g ^ p.toNat = f ∧ dg g ≤ dg f ∧ (2 ≤ dg f → dg g < dg f) := by
 have hp := Pr.two (p := p)
 have hp2 : 2 ≤ p.toNat := by omega
 have hcf : ∀ i, cf l i = cf f.l (i * p.toNat) := fun i => by
  by_cases hi : i < n
  ·exact hc i hi
  ·rw [cf_ge (by omega), cf_dg]
   have : n * p.toNat ≤ i * p.toNat := Nat.mul_le_mul_right _ (by omega)
   omega
 have hof : ∀ i, cf (of p l).l i = cf f.l (i * p.toNat) := fun i => by
  rw [cf_of, hcf, f.ok.cf_mod]
 have hpow := der_zero hd hof
 have hf0 := hm.1
 have hd1 : 1 ≤ dg f := by
  rcases Nat.eq_zero_or_pos (dg f) with h | h
  ·exact absurd (dg_eq_zero.1 h) hf0
  ·exact h
 have hn1 : 1 ≤ n := by
  rcases Nat.eq_zero_or_pos n with h | h
  ·subst h; omega
  ·exact h
 -- its last coefficient
 obtain ⟨m, rfl⟩ : ∃ m, n = m + 1 := ⟨n - 1, by omega⟩
 have hlast : dg f = m * p.toNat + 1 := by
  have hne : cf f.l (dg f - 1) ≠ 0 := by have := dg_lead (f := f) (n := dg f - 1) (by omega); exact this
  have hk : (dg f - 1) % p.toNat = 0 := by
   refine Classical.byContradiction fun hk => hne ?_
   have e := cf_pow (of p l) (dg f - 1)
   rwa [hpow, if_neg hk] at e
  have h3 : dg f - 1 = (dg f - 1) / p.toNat * p.toNat := (Nat.div_mul_cancel (Nat.dvd_of_mod_eq_zero hk)).symm
  generalize (dg f - 1) / p.toNat = t at h3
  have h4 : t = m := by
   have e1 : (m + 1) * p.toNat = m * p.toNat + p.toNat := Nat.succ_mul _ _
   rcases Nat.lt_trichotomy t m with h | h | h
   ·have : (t + 1) * p.toNat ≤ m * p.toNat := Nat.mul_le_mul_right _ h
    have e2 : (t + 1) * p.toNat = t * p.toNat + p.toNat := Nat.succ_mul _ _
    omega
   ·exact h
   ·have : (m + 1) * p.toNat ≤ t * p.toNat := Nat.mul_le_mul_right _ h
    omega
  subst h4; omega
 have hone : cf (of p l).l m = 1 := by
  rw [hof]
  have := hm.2
  unfold lc at this
  rw [hlast] at this
  simpa using this
 have hdg : dg (of p l) = m + 1 := by
  have h5 := dg_lt (f := of p l) (n := m) (by rw [hone]; decide)
  have h6 := dg_of_le (p := p) l
  omega
 refine ⟨of p l, list_ext (by show dg (of p l) = _; omega) fun j hj => ?_, ⟨fun e => ?_, ?_⟩, hpow, ?_, fun h => ?_⟩
 ·rw [hof, hcf]
 ·rw [e, dg_zero] at hdg; omega
 ·unfold lc; rw [hdg]; exact hone
 ·have : m * 2 ≤ m * p.toNat := Nat.mul_le_mul_left _ hp2
  omega
 ·have : m * 2 ≤ m * p.toNat := Nat.mul_le_mul_left _ hp2
  have : 1 ≤ m := by
   rcases Nat.eq_zero_or_pos m with h0 | h0
   ·subst h0; simp at hlast; omega
   ·exact h0
  omega

end Poly
namespace Poly
variable {p : Int} [SP p]

def Facs (f : Poly p) (G : List (Poly p × Nat)) : Prop := (G.map Prod.fst).Nodup ∧ ∀ x, x ∈ G ↔ IsFac f x

theorem Facs.few {f : Poly p} {G : List (Poly p × Nat)} (h : Facs f G) (hf : f ≠ 0) : G.length + 1 ≤ dg f := by
 have : Irrs f (G.map Prod.fst) := ⟨h.1, fun g => ?_⟩
 ·have := this.few hf
  simpa using this
 ·rw [List.mem_map]
  constructor
  ·rintro ⟨x, hx, rfl⟩
   obtain ⟨a, b, c, d⟩ := (h.2 x).1 hx
   exact ⟨a, b, d.dvd c⟩
  ·rintro ⟨a, b, c⟩
   obtain ⟨e, he⟩ := exists_mult a.1 _ f hf (Nat.le_refl _)
   refine ⟨(g, e), (h.2 _).2 ⟨a, b, ?_, he⟩, rfl⟩
   rcases Nat.eq_zero_or_pos e with h0 | h0
   ·subst h0; exact absurd c (isMult_zero.1 he)
   ·exact h0
theorem FacOf.facs {f : Poly p} {F : List (Poly p × Nat)} (h : FacOf f F) : Facs f F :=
 ⟨by
  refine List.Pairwise.map _ (R := fun x y : Poly p × Nat => ltP x.1 y.1) (fun x y hxy e => ltP_irrefl y.1 (by rw [e] at hxy; exact hxy)) h.1, h.2⟩

theorem Facs.unit {r : Poly p} (h : dg r = 1) : Facs r [] := ⟨List.nodup_nil, fun x => ⟨fun hx => by simp at hx, fun hx => (isFac_unit h x hx).elim⟩⟩

def up (n : Nat) (F : List (Poly p × Nat)) : List (Poly p × Nat) := F.map fun x => (x.1, n * x.2)
theorem Facs.up {g f : Poly p} (hg : g ≠ 0) {n : Nat} (hn : 1 ≤ n) (he : g ^ n = f) {F : List (Poly p × Nat)} (h : Facs g F) : Facs f (up n F) := by
 refine ⟨?_, fun x => ?_⟩
 ·have : (Poly.up n F).map Prod.fst = F.map Prod.fst := by unfold Poly.up; rw [List.map_map]; rfl
  rw [this]; exact h.1
 ·rw [isFac_pow hg hn he]
  unfold Poly.up
  rw [List.mem_map]
  constructor
  ·rintro ⟨y, hy, rfl⟩
   exact ⟨y.2, (h.2 _).1 hy, rfl⟩
  ·rintro ⟨e, h1, h2⟩
   exact ⟨(x.1, e), (h.2 _).2 h1, Prod.ext rfl h2.symm⟩

theorem Peel.fstL {f r : Poly p} {P : List (Poly p)} {L : List (Poly p × Nat)} (h : Peel f P P.length r L) : L.map Prod.fst = P := by
 refine List.ext_getElem (by simpa using h.len) fun i h1 h2 => ?_
 have h3 := (h.fac i h2).1
 have h1' : i < L.length := by simpa using h1
 rw [List.getD_eq_getElem?_getD, List.getD_eq_getElem?_getD, List.getElem?_eq_getElem h1', List.getElem?_eq_getElem h2] at h3
 simpa using h3

theorem Peel.facs {f r : Poly p} {P : List (Poly p)} {L F : List (Poly p × Nat)} (h : Peel f P P.length r L) (hf : Mon f) {q c : Poly p} (hq : Irrs q P) (he : f = q * c) (hc : c ∣ der f) (hF : Facs r F) : Facs f (L ++ F) := by
 obtain ⟨_, h2⟩ := h.fin hf hq he hc
 refine ⟨?_, fun x => by rw [h2, List.mem_append, hF.2]⟩
 rw [List.map_append, h.fstL]
 refine List.nodup_append.2 ⟨hq.1, hF.1, fun a ha b hb e => ?_⟩
 subst e
 obtain ⟨x, hx, rfl⟩ := List.mem_map.1 hb
 obtain ⟨a1, a2, a3, a4⟩ := (hF.2 x).1 hx
 obtain ⟨j, hj, hje⟩ := List.getElem_of_mem ha
 refine h.out j hj ?_
 rw [List.getD_eq_getElem?_getD, List.getElem?_eq_getElem hj]
 show P[j] ∣ r
 rw [hje]; exact a4.dvd a3

theorem Facs.mnc {f : Poly p} (hf : f ≠ 0) {G : List (Poly p × Nat)} (h : Facs (mnc f) G) : Facs f G := ⟨h.1, fun x => by rw [h.2, isFac_mnc hf]⟩

theorem der_l (f : Poly p) : nrm p (mkL (f.l.length - 1) (dv (cf f.l))) = (der f).l := by
 refine eq_of_cf (nrm_last _ _) (der f).ok.2 fun j => ?_
 rw [cf_nrm, cf_der, cf_mkL]
 by_cases h : j < f.l.length - 1
 ·rw [if_pos h]
 ·rw [if_neg h]
  unfold dv
  rw [cf_ge (by omega)]; simp

theorem sqf_quo {f : Poly p} (hm : Mon f) (hd : der f ≠ 0) : f = quo f (gcd f (der f)) * gcd f (der f) ∧ Mon (quo f (gcd f (der f))) ∧ Sqf (quo f (gcd f (der f))) ∧ 2 ≤ dg (quo f (gcd f (der f))) ∧ dg (quo f (gcd f (der f))) ≤ dg f ∧ gcd f (der f) ∣ der f ∧ gcd f (der f) ≠ 0 := by
 have hg := gcd_mon (f := f) (g := der f) (.inl hm.1)
 have h1 : f = quo f (gcd f (der f)) * gcd f (der f) := by
  have h2 := div_eq f (gcd f (der f))
  rw [(dvd_iff_rem hg.1).1 (gcd_left f (der f))] at h2
  have e : ∀ a : Poly p, a + 0 = a := fun a => by exact ring [a] (by rfl)
  rw [e] at h2; exact h2
 have hq0 : quo f (gcd f (der f)) ≠ 0 := fun e => hm.1 (by rw [h1, e]; exact ring [gcd f (der f)] (by rfl))
 have hmq : Mon (quo f (gcd f (der f))) := hg.left (h1 ▸ hm)
 refine ⟨h1, hmq, sqf_part hm.1 h1 (fun h a b => dvd_gcd a b), ?_, ?_, gcd_right _ _, hg.1⟩
 ·refine Classical.byContradiction fun h2 => ?_
  have h3 := dg_mul hq0 hg.1
  rw [← h1] at h3
  have h4 := dvd_dg (gcd_right f (der f)) hd
  have h5 := der_dg hm.1
  have h6 : dg (quo f (gcd f (der f))) ≠ 0 := fun e => hq0 (dg_eq_zero.1 e)
  omega
 ·exact dvd_dg ⟨gcd f (der f), h1⟩ hm.1

end Poly
namespace Poly
variable {p : Int} [SP p]

def IrrC (f v : Poly p) (s : Nat) (O : List (Poly p)) : Prop := O.Nodup ∧ ∀ h, h ∈ O ↔ Irr h ∧ Mon h ∧ ∃ a ∈ cutN v f s, h ∣ a

theorem IrrC.start (f v : Poly p) : IrrC f v 0 [] := ⟨List.nodup_nil, fun h => ⟨fun hh => by simp at hh, fun ⟨_, _, a, ha, _⟩ => by simp [cutN] at ha⟩⟩
theorem IrrC.skip {f v : Poly p} {s : Nat} {O : List (Poly p)} (h : IrrC f v s O) (hd : ¬ 2 ≤ dg (gcd f (v - con p (s : Int)))) : IrrC f v (s + 1) O := by
 have e : cutN v f (s + 1) = cutN v f s := by rw [cutN_succ, cut1, if_neg hd, List.append_nil]
 unfold IrrC at *
 rw [e]; exact h
theorem IrrC.step {f v : Poly p} {s : Nat} {O P : List (Poly p)} (h : IrrC f v s O) (hs : (s : Int) < p) (hd : 2 ≤ dg (gcd f (v - con p (s : Int)))) (hP : Irrs (gcd f (v - con p (s : Int))) P) : IrrC f v (s + 1) (O ++ P) := by
 have e : cutN v f (s + 1) = cutN v f s ++ [gcd f (v - con p (s : Int))] := by rw [cutN_succ, cut1, if_pos hd]
 have hap := cut_apart (v := v) (a := f) (n := s + 1) (by omega)
 rw [e] at hap
 refine ⟨List.nodup_append.2 ⟨h.1, hP.1, fun a ha b hb hab => ?_⟩, fun q => ?_⟩
 ·subst hab
  obtain ⟨a1, a2, c, hc, h3⟩ := (h.2 a).1 ha
  obtain ⟨_, _, h4⟩ := (hP.2 a).1 hb
  exact (List.pairwise_append.1 hap).2.2 c hc _ (by simp) a a1 h3 h4
 ·rw [e, List.mem_append, h.2, hP.2]
  constructor
  ·rintro (⟨a1, a2, c, hc, h3⟩ | ⟨a1, a2, h3⟩)
   ·exact ⟨a1, a2, c, by simp [hc], h3⟩
   ·exact ⟨a1, a2, _, by simp, h3⟩
  ·rintro ⟨a1, a2, c, hc, h3⟩
   rcases List.mem_append.1 hc with hc | hc
   ·exact .inl ⟨a1, a2, c, hc, h3⟩
   ·simp at hc; subst hc; exact .inr ⟨a1, a2, h3⟩
theorem IrrC.fin {f v : Poly p} {O : List (Poly p)} (h : IrrC f v p.toNat O) (hm : Mon f) (hd : 2 ≤ dg f) (hv : Ber f v) : Irrs f O := by
 have hc := (Parts.start hm hd).cut hv
 have e : cutAll v [f] = cutN v f p.toNat := by simp [cutAll]
 rw [e] at hc
 refine ⟨h.1, fun q => ?_⟩
 rw [h.2]
 constructor
 ·rintro ⟨a1, a2, c, h1, h2⟩
  exact ⟨a1, a2, dvd_trans h2 (hc.1.each c h1).2.2⟩
 ·rintro ⟨a1, a2, h1⟩
  obtain ⟨c, h2, h3⟩ := hc.1.all q a1 h1
  exact ⟨a1, a2, c, h2, h3⟩
theorem cut_less {f v : Poly p} {n : Nat} (_hf : dg f = n + 1) (h2 : 2 ≤ dg v) (hv : dg v ≤ n) (s : Int) : dg (gcd f (v - con p s)) ≤ n := by
 have h1 : v - con p s ≠ 0 := fun e => by
  have h3 := dg_add (v - con p s) (con p s)
  have e2 : v - con p s + con p s = v := by exact ring [v, con p s] (by rfl)
  rw [e2, e, dg_zero] at h3
  have := con_dg (p := p) s
  omega
 have h3 := dvd_dg (gcd_right f (v - con p s)) h1
 have h4 := dg_sub v (con p s)
 have := con_dg (p := p) s
 omega

end Poly

def putAt {α : Type} (G : List α) (k : Nat) (x : α) : List α := G.take k ++ [x] ++ G.drop k
theorem putAt_lt {α : Type} {G : List α} {k j : Nat} {x d : α} (hk : k ≤ G.length) (h : j < k) : (putAt G k x).getD j d = G.getD j d := by
 rw [putAt, List.append_assoc, List.getD_eq_getElem?_getD, List.getD_eq_getElem?_getD, List.getElem?_append_left (by simp; omega), List.getElem?_take_of_lt h]
theorem putAt_eq {α : Type} {G : List α} {k : Nat} {x d : α} (hk : k ≤ G.length) : (putAt G k x).getD k d = x := by
 simp [putAt, List.getD_eq_getElem?_getD, Nat.min_eq_left hk]
theorem putAt_gt {α : Type} {G : List α} {k j : Nat} {x d : α} (hk : k ≤ G.length) : (putAt G k x).getD (k + 1 + j) d = G.getD (k + j) d := by
 rw [putAt, List.getD_eq_getElem?_getD, List.getD_eq_getElem?_getD, List.getElem?_append_right (by simp [Nat.min_eq_left hk]), List.getElem?_drop]
 simp [Nat.min_eq_left hk]
theorem mem_putAt {α : Type} {G : List α} {k : Nat} {x y : α} : y ∈ putAt G k x ↔ y = x ∨ y ∈ G := by
 have : y ∈ G ↔ y ∈ G.take k ++ G.drop k := by rw [List.take_append_drop]
 rw [this, putAt]
 simp only [List.mem_append, List.mem_singleton]
 constructor
 ·rintro ((h | h) | h)
  ·exact .inr (.inl h)
  ·exact .inl h
  ·exact .inr (.inr h)
 ·rintro (h | h | h)
  ·exact .inl (.inr h)
  ·exact .inl (.inl h)
  ·exact .inr h
theorem putAt_length {α : Type} {G : List α} {k : Nat} {x : α} (hk : k ≤ G.length) : (putAt G k x).length = G.length + 1 := by
 simp [putAt]; omega

namespace Poly
variable {p : Int} [SP p]

abbrev Srt (G : List (Poly p × Nat)) : Prop := G.Pairwise fun x y => ltP x.1 y.1

theorem getD_lt {α : Type} {d : α} {G : List α} {j : Nat} (h : j < G.length) : G.getD j d = G[j] := by
 rw [List.getD_eq_getElem?_getD, List.getElem?_eq_getElem h]; rfl

theorem Srt.put {G : List (Poly p × Nat)} (h : Srt G) {k : Nat} {x : Poly p × Nat} (hk : k ≤ G.length) (h1 : ∀ j, j < k → ltP (G.getD j (0, 0)).1 x.1) (h2 : k = G.length ∨ ¬ ltP (G.getD k (0, 0)).1 x.1) (hn : ∀ y ∈ G, y.1 ≠ x.1) : Srt (putAt G k x) := by
 have hG := h
 rw [← List.take_append_drop k G] at hG
 obtain ⟨a1, a2, a3⟩ := List.pairwise_append.1 hG
 have ht : ∀ a ∈ G.take k, ltP a.1 x.1 := fun a ha => by
  obtain ⟨j, hj, e⟩ := List.getElem_of_mem ha
  have hj' : j < k ∧ j < G.length := by simp at hj; omega
  have := h1 j hj'.1
  rw [getD_lt hj'.2] at this
  rw [List.getElem_take] at e
  rw [← e]; exact this
 have hd : ∀ a ∈ G.drop k, ltP x.1 a.1 := fun a ha => by
  obtain ⟨j, hj, e⟩ := List.getElem_of_mem ha
  have hj' : k + j < G.length := by simp at hj; omega
  rw [List.getElem_drop] at e
  have hk' : k < G.length := by omega
  have hx := h2.resolve_left (by omega)
  rw [getD_lt hk'] at hx
  have hlt : ltP x.1 G[k].1 := (ltP_total (hn G[k] (List.getElem_mem hk'))).resolve_left hx
  rcases Nat.eq_zero_or_pos j with h0 | h0
  ·subst h0; rw [← e]; exact hlt
  ·rw [← e]
   exact ltP_trans hlt (List.pairwise_iff_getElem.1 h k (k + j) hk' hj' (by omega))
 refine List.pairwise_append.2 ⟨List.pairwise_append.2 ⟨a1, List.pairwise_singleton _ _, fun a ha b hb => ?_⟩, a2, fun a ha b hb => ?_⟩
 ·rw [List.mem_singleton.1 hb]; exact ht a ha
 ·rcases List.mem_append.1 ha with h' | h'
  ·exact a3 a h' b hb
  ·rw [List.mem_singleton.1 h']; exact hd b hb

structure PutOf (f : Poly p) (t : Nat) (G G' : List (Poly p × Nat)) : Prop where
 srt : Srt G'
 mem : ∀ x, x ∈ G' ↔ x ∈ G ∨ ∃ e, IsFac f (x.1, e) ∧ x.2 = t * e

theorem PutOf.unit {f : Poly p} (h : dg f = 1) {t : Nat} {G : List (Poly p × Nat)} (hG : Srt G) : PutOf f t G G :=
 ⟨hG, fun _x => ⟨.inl, fun hx => hx.elim id fun ⟨_e, he, _⟩ => (isFac_unit h _ he).elim⟩⟩
theorem PutOf.root {g f : Poly p} (hg : g ≠ 0) {n t : Nat} (hn : 1 ≤ n) (he : g ^ n = f) {G G' : List (Poly p × Nat)} (h : PutOf g (n * t) G G') : PutOf f t G G' :=
 ⟨h.srt, fun x => by
  rw [h.mem]
  refine or_congr Iff.rfl ⟨fun ⟨e, h1, h2⟩ => ⟨n * e, (isFac_pow hg hn he _).2 ⟨e, h1, rfl⟩, by rw [h2, Nat.mul_comm n t, Nat.mul_assoc]⟩, fun ⟨e, h1, h2⟩ => ?_⟩
  obtain ⟨e', h3, h4⟩ := (isFac_pow hg hn he _).1 h1
  have h4 : e = n * e' := h4
  exact ⟨e', h3, by rw [h2, h4, Nat.mul_comm n t, Nat.mul_assoc]⟩⟩
theorem PutOf.fac {f : Poly p} {F : List (Poly p × Nat)} (h : PutOf f 1 [] F) : FacOf f F :=
 ⟨h.srt, fun x => by
  rw [h.mem]
  refine ⟨fun hx => hx.elim (fun h => by simp at h) fun ⟨e, h1, h2⟩ => ?_, fun hx => .inr ⟨x.2, hx, by omega⟩⟩
  obtain rfl : e = x.2 := by omega
  exact h1⟩

structure Putting (f : Poly p) (P : List (Poly p)) (t : Nat) (G : List (Poly p × Nat)) (k : Nat) (r : Poly p) (L H : List (Poly p × Nat)) : Prop where
 peel : Peel f P k r L
 srt : Srt H
 mem : ∀ x, x ∈ H ↔ x ∈ G ∨ x ∈ up t L
 len : H.length = G.length + k

theorem Putting.start {f : Poly p} (hm : Mon f) (P : List (Poly p)) (t : Nat) {G : List (Poly p × Nat)} (hG : Srt G) : Putting f P t G 0 f [] G :=
 ⟨Peel.start hm P, hG, fun x => by simp [up], rfl⟩

theorem mem_up {p : Int} {t : Nat} {L : List (Poly p × Nat)} {x : Poly p × Nat} (h : x ∈ up t L) : ∃ y ∈ L, x = (y.1, t * y.2) := by
 obtain ⟨y, hy, e⟩ := List.mem_map.1 h
 exact ⟨y, hy, e.symm⟩

theorem Peel.mem_fst {f r : Poly p} {P : List (Poly p)} {k : Nat} {L : List (Poly p × Nat)} (h : Peel f P k r L) {y : Poly p × Nat} (hy : y ∈ L) : ∃ j, j < k ∧ y.1 = P.getD j 0 := by
 obtain ⟨j, hj, e⟩ := List.getElem_of_mem hy
 have hjk : j < k := by rw [← h.len]; exact hj
 have := (h.fac j hjk).1
 rw [getD_lt hj, e] at this
 exact ⟨j, hjk, this⟩

theorem Putting.step {f r r' : Poly p} {P : List (Poly p)} {t k n i : Nat} {G L H : List (Poly p × Nat)} (h : Putting f P t G k r L H) (hG : ∀ x ∈ G, ¬ x.1 ∣ f) (hP : P.Nodup) (hk : k < P.length) (hi : Irr (P.getD k 0)) (hm : Mon (P.getD k 0)) (hd : P.getD k 0 ∣ f)
  (he : r = P.getD k 0 ^ n * r') (hn : ¬ P.getD k 0 ∣ r') (hil : i ≤ H.length) (h1 : ∀ j, j < i → ltP (H.getD j (0, 0)).1 (P.getD k 0)) (h2 : i = H.length ∨ ¬ ltP (H.getD i (0, 0)).1 (P.getD k 0)) :
  Putting f P t G (k + 1) r' (L ++ [(P.getD k 0, n)]) (putAt H i (P.getD k 0, n * t)) := by
 refine ⟨h.peel.step hP hk hi hm hd he hn, h.srt.put hil h1 h2 fun y hy e => ?_, fun x => ?_, by rw [putAt_length hil, h.len]; omega⟩
 ·have e : y.1 = P.getD k 0 := e
  rcases (h.mem y).1 hy with hy | hy
  ·exact hG y hy (e ▸ hd)
  ·obtain ⟨z, hz, rfl⟩ := mem_up hy
   obtain ⟨j, hj, e'⟩ := h.peel.mem_fst hz
   have := nodup_getD hP hk (by omega) (e.symm.trans e')
   omega
 ·rw [mem_putAt, h.mem]
  have : up t (L ++ [(P.getD k 0, n)]) = up t L ++ [(P.getD k 0, n * t)] := by simp [up, Nat.mul_comm]
  rw [this, List.mem_append, List.mem_singleton]
  constructor
  ·rintro (h | h | h)
   ·exact .inr (.inr h)
   ·exact .inl h
   ·exact .inr (.inl h)
  ·rintro (h | h | h)
   ·exact .inr (.inl h)
   ·exact .inr (.inr h)
   ·exact .inl h

theorem Putting.apart {f r : Poly p} {P : List (Poly p)} {t : Nat} {G L H : List (Poly p × Nat)} (h : Putting f P t G P.length r L H) (hG : ∀ x ∈ G, ¬ x.1 ∣ f) : ∀ x ∈ H, ¬ x.1 ∣ r := by
 intro x hx hd
 rcases (h.mem x).1 hx with hx | hx
 ·obtain ⟨s, hs, _⟩ := h.peel.cut
  exact hG x hx (dvd_trans hd ⟨s, hs⟩)
 ·obtain ⟨z, hz, rfl⟩ := mem_up hx
  obtain ⟨j, hj, e'⟩ := h.peel.mem_fst hz
  exact h.peel.out j hj (by rw [← e']; exact hd)

theorem Putting.fin {f r : Poly p} {P : List (Poly p)} {t : Nat} {G L H G' : List (Poly p × Nat)} (h : Putting f P t G P.length r L H) (hf : Mon f) {q c : Poly p} (hq : Irrs q P) (he : f = q * c) (hc : c ∣ der f) (hG' : PutOf r t H G') : PutOf f t G G' := by
 obtain ⟨_, h2⟩ := h.peel.fin hf hq he hc
 refine ⟨hG'.srt, fun x => ?_⟩
 rw [hG'.mem, h.mem]
 constructor
 ·rintro ((h3 | h3) | ⟨e, h3, h4⟩)
  ·exact .inl h3
  ·obtain ⟨z, hz, rfl⟩ := mem_up h3
   exact .inr ⟨z.2, (h2 _).2 (.inl hz), rfl⟩
  ·exact .inr ⟨e, (h2 _).2 (.inr h3), h4⟩
 ·rintro (h3 | ⟨e, h3, h4⟩)
  ·exact .inl (.inl h3)
  ·rcases (h2 _).1 h3 with h5 | h5
   ·refine .inl (.inr (List.mem_map.2 ⟨_, h5, Prod.ext rfl h4.symm⟩))
   ·exact .inr ⟨e, h5, h4⟩

theorem Peel.less {f r : Poly p} {P : List (Poly p)} {L : List (Poly p × Nat)} (h : Peel f P P.length r L) (hf : Mon f) {q c : Poly p} (hq : Irrs q P) (he : f = q * c) (hq2 : 2 ≤ dg q) : dg r < dg f := by
 obtain ⟨g, g1, g2, g3⟩ := exists_irr _ q (Nat.le_refl _) hq2
 obtain ⟨j, hj, e⟩ := List.getElem_of_mem ((hq.2 g).2 ⟨g1, g2, g3⟩)
 have hg : g = P.getD j 0 := by rw [getD_lt hj, e]
 obtain ⟨s, hs, _⟩ := h.cut
 have hr0 := h.mon.1
 have hs0 : s ≠ 0 := fun e => hf.1 (by rw [hs, e]; exact ring [r] (by rfl))
 have h1 := dg_mul hr0 hs0
 rw [← hs] at h1
 have hgs : g ∣ s := by
  have : g ∣ r * s := by rw [← hs, he]; exact dvd_trans g3 ⟨c, rfl⟩
  rcases g1.prime this with h2 | h2
  ·exact absurd (hg ▸ h2) (h.out j hj)
  ·exact h2
 have h2 := dvd_dg hgs hs0
 have h3 := g1.1
 omega

theorem dvd_pow_pos {a : Poly p} {n : Nat} (h : 1 ≤ n) : a ∣ a ^ n := by
 obtain ⟨m, rfl⟩ : ∃ m, n = m + 1 := ⟨n - 1, by omega⟩
 exact ⟨a ^ m, by rw [pow_succ']; exact mul_comm' _ _⟩

theorem root_few {g f : Poly p} (hg : Mon g) (he : g ^ p.toNat = f) (h2 : 2 ≤ dg f) : p.toNat < dg f := by
 have : 2 ≤ dg g := by
  refine Classical.byContradiction fun h => ?_
  have h1 : dg g = 1 := by
   have : dg g ≠ 0 := fun e => hg.1 (dg_eq_zero.1 e)
   omega
  have h3 : g = 1 := mon_eq hg mon_one (unit_dvd h1 _) (one_dvd g)
  rw [h3, one_pow] at he
  rw [← he, dg_one] at h2
  omega
 have := pow_dg this p.toNat
 rw [he] at this
 exact this

theorem irr_of_one {f h : Poly p} (hf : f ≠ 0) (hF : FacOf f [(h, 1)]) : Irr f := by
 obtain ⟨h1, h2, _, u, hu, hn⟩ := (hF.2 (h, 1)).1 (by simp)
 have h1 : Irr h := h1
 have h2 : Mon h := h2
 have hu : f = h * u := by rw [hu, pow_succ', pow_zero']; exact ring [h, u] (by rfl)
 have hu0 : u ≠ 0 := fun e => hf (by rw [hu, e]; exact ring [h] (by rfl))
 have hd : dg u = 1 := by
  have h0 : dg u ≠ 0 := fun e => hu0 (dg_eq_zero.1 e)
  rcases Nat.lt_or_ge (dg u) 2 with h3 | h3
  ·omega
  ·obtain ⟨g, g1, g2, g3⟩ := exists_irr _ u (Nat.le_refl _) h3
   have hgf : g ∣ f := by rw [hu]; exact dvd_mul_left h g3
   obtain ⟨e, he⟩ := exists_mult g1.1 _ f hf (Nat.le_refl _)
   have he1 : 1 ≤ e := by
    rcases Nat.eq_zero_or_pos e with h4 | h4
    ·subst h4; exact absurd hgf (isMult_zero.1 he)
    ·exact h4
   have hm := (hF.2 (g, e)).2 ⟨g1, g2, he1, he⟩
   rw [List.mem_singleton] at hm
   have : g = h := congrArg Prod.fst hm
   rw [this] at g3
   exact absurd g3 hn
 obtain ⟨v, hv⟩ := unit_inv hd
 have hv0 : v ≠ 0 := fun e => by
  rw [e] at hv
  exact one_ne (p := p) (by rw [← hv]; exact ring [u] (by rfl))
 have hdv : dg v = 1 := by
  have := dg_mul hu0 hv0
  rw [hv, dg_one] at this
  omega
 have hdf := dg_mul h1.ne hu0
 rw [← hu] at hdf
 refine ⟨by have := h1.1; omega, fun a b hab => ?_⟩
 have hh : h = a * (b * v) := by
  have : h = f * v := by
   have e : h * u * v = h * (u * v) := by exact ring [h, u, v] (by rfl)
   rw [hu, e, hv]; exact ring [h] (by rfl)
  rw [this, hab]; exact ring [a, b, v] (by rfl)
 rcases h1.2 _ _ hh with h3 | h3
 ·exact .inl h3
 ·have hb0 : b ≠ 0 := fun e => hf (by rw [hab, e]; exact ring [a] (by rfl))
  have := dg_mul hb0 hv0
  exact .inr (by omega)

theorem one_of_irr {f : Poly p} (hf : Irr f) : FacOf f [(mnc f, 1)] := by
 obtain ⟨a1, a2⟩ := mnc_assoc f
 obtain ⟨b1, b2⟩ := irr_mnc hf
 have hm : IsMult (mnc f) 1 f := isMult_assoc a1 a2 b2.1 b1 1 (isMult_self b1)
 refine ⟨List.pairwise_singleton _ _, fun x => ?_⟩
 rw [List.mem_singleton]
 constructor
 ·rintro rfl
  exact ⟨b1, b2, Nat.le_refl _, hm⟩
 ·rintro ⟨c1, c2, c3, c4⟩
  have h1 : x.1 = mnc f := irr_eq c1 b1 c2 b2 (dvd_trans (c4.dvd c3) a2)
  have h2 : x.2 = 1 := by
   rw [h1] at c4
   exact c4.unique b1.ne hm
  exact Prod.ext h1 h2

theorem exists_put {G : List (Poly p × Nat)} (f : Poly p) : ∃ k, k ≤ G.length ∧ (∀ j, j < k → ltP (G.getD j (0, 0)).1 f) ∧ (k = G.length ∨ ¬ ltP (G.getD k (0, 0)).1 f) := by
 have go : ∀ n, n ≤ G.length → (∀ j, j < n → ltP (G.getD j (0, 0)).1 f) ∨ ∃ k, k ≤ G.length ∧ (∀ j, j < k → ltP (G.getD j (0, 0)).1 f) ∧ (k = G.length ∨ ¬ ltP (G.getD k (0, 0)).1 f) := by
  intro n
  induction n with
  | zero => intro _; exact .inl fun j hj => by omega
  | succ n ih =>
   intro hn
   rcases ih (by omega) with h | h
   ·by_cases hl : ltP (G.getD n (0, 0)).1 f
    ·exact .inl fun j hj => by
      by_cases hj2 : j = n
      ·subst hj2; exact hl
      ·exact h j (by omega)
    ·exact .inr ⟨n, by omega, h, .inr hl⟩
   ·exact .inr h
 rcases go G.length (Nat.le_refl _) with h | h
 ·exact ⟨G.length, Nat.le_refl _, h, .inl rfl⟩
 ·exact h

theorem exists_facs : ∀ (n : Nat) (f : Poly p), dg f ≤ n → f ≠ 0 → ∃ F, FacOf f F
 | 0, f, hd, hf => absurd (dg_eq_zero.1 (by omega)) hf
 | n + 1, f, hd, hf => by
  by_cases h1 : dg f = 1
  ·exact ⟨[], List.Pairwise.nil, fun x => ⟨fun hx => by simp at hx, fun hx => (isFac_unit h1 _ hx).elim⟩⟩
  have h2 : dg f ≠ 0 := fun e => hf (dg_eq_zero.1 e)
  obtain ⟨h, hi, hm, hdv⟩ := exists_irr _ f (Nat.le_refl _) (by omega)
  obtain ⟨e, he⟩ := exists_mult hi.1 _ f hf (Nat.le_refl _)
  have he1 : 1 ≤ e := by
   rcases Nat.eq_zero_or_pos e with h0 | h0
   ·subst h0; exact absurd hdv (isMult_zero.1 he)
   ·exact h0
  obtain ⟨u, hu1, hu2⟩ := id he
  have hu0 : u ≠ 0 := fun e0 => hf (by rw [hu1, e0]; exact ring [h ^ e] (by rfl))
  have hp0 : h ^ e ≠ 0 := fun e0 => hf (by rw [hu1, e0]; exact ring [u] (by rfl))
  have hdg := dg_mul hp0 hu0
  rw [← hu1] at hdg
  have hpd := pow_dg hi.1 e
  obtain ⟨F, hF⟩ := exists_facs n u (by omega) hu0
  obtain ⟨k, hk, hk1, hk2⟩ := exists_put (G := F) h
  have hnot : ∀ g : Poly p, Irr g → Mon g → g ≠ h → ¬ g ∣ h ^ e := fun g gi gm hne hd => hne (irr_eq gi hi gm hm (gi.pow hd))
  refine ⟨putAt F k (h, e), Srt.put hF.1 hk hk1 hk2 (fun y hy e0 => ?_), fun x => ?_⟩
  ·obtain ⟨_, _, a3, a4⟩ := (hF.2 y).1 hy
   have e0 : y.1 = h := e0
   exact hu2 (by rw [← e0]; exact a4.dvd a3)
  ·rw [mem_putAt, hF.2]
   constructor
   ·rintro (rfl | ⟨a1, a2, a3, a4⟩)
    ·exact ⟨hi, hm, he1, he⟩
    ·refine ⟨a1, a2, a3, ?_⟩
     have hne : x.1 ≠ h := fun e0 => hu2 (by rw [← e0]; exact a4.dvd a3)
     have := IsMult.mul a1 (isMult_zero.2 (hnot _ a1 a2 hne)) a4
     rw [Nat.zero_add, ← hu1] at this
     exact this
   ·rintro ⟨a1, a2, a3, a4⟩
    by_cases hx : x.1 = h
    ·left
     have : x.2 = e := IsMult.unique hi.ne (by rw [← hx]; exact a4) he
     exact Prod.ext hx this
    ·right
     obtain ⟨e', he'⟩ := exists_mult a1.1 _ u hu0 (Nat.le_refl _)
     have h5 := IsMult.mul a1 (isMult_zero.2 (hnot _ a1 a2 hx)) he'
     rw [Nat.zero_add, ← hu1] at h5
     rw [IsMult.unique a1.ne h5 a4] at he'
     exact ⟨a1, a2, a3, he'⟩
theorem exists_fac {f : Poly p} (hf : f ≠ 0) : ∃ F, FacOf f F := exists_facs _ f (Nat.le_refl _) hf

end Poly
namespace Poly

def num (p : Nat) : List Int → Nat
 | [] => 0
 | c :: l => c.toNat + p * num p l

def Digs (p : Nat) (l : List Int) : Prop := ∀ x ∈ l, 0 ≤ x ∧ x < p
theorem num_lt {p : Nat} (hp : 2 ≤ p) : ∀ {l : List Int}, Digs p l → num p l < p ^ l.length
 | [], _ => by simp [num]
 | c :: l, hd => by
  have h1 := num_lt hp (l := l) fun x hx => hd x (by simp [hx])
  have hc := hd c (by simp)
  have h2 : p * num p l + p ≤ p * p ^ l.length := by
   have := Nat.mul_le_mul_left p h1
   rw [Nat.mul_succ] at this; exact this
  simp only [num, List.length_cons, Nat.pow_succ, Nat.mul_comm (p ^ l.length) p]
  omega
theorem num_append {p : Nat} : ∀ (l m : List Int), num p (l ++ m) = num p l + p ^ l.length * num p m
 | [], m => by simp [num]
 | c :: l, m => by
  simp only [List.cons_append, num, num_append l m, List.length_cons, Nat.pow_succ]
  rw [Nat.mul_add, ← Nat.mul_assoc, Nat.mul_comm (p ^ l.length) p, Nat.add_assoc]

theorem num_split {p : Nat} (l : List Int) (i : Nat) (h : i ≤ l.length) : num p l = num p (l.take i) + p ^ i * num p (l.drop i) := by
 have := num_append (p := p) (l.take i) (l.drop i)
 rwa [List.take_append_drop, List.length_take, Nat.min_eq_left h] at this
theorem num_drop {p : Nat} {l : List Int} {i : Nat} (h : i < l.length) : num p (l.drop i) = (cf l i).toNat + p * num p (l.drop (i + 1)) := by
 rw [List.drop_eq_getElem_cons h, num, cf_lt h]
structure Top (p d : Nat) (l : List Int) : Prop where
 len : l.length = d + 1
 one : cf l d = 1
 digs : Digs p l
theorem Top.last {p d : Nat} {l : List Int} (h : Top p d l) : lastNZ l := fun n hn => by
 have := h.len
 obtain rfl : n = d := by omega
 rw [h.one]; omega
theorem Top.num_eq {p d : Nat} {l : List Int} (h : Top p d l) : num p l = num p (l.take d) + p ^ d := by
 have h1 := h.len
 rw [num_split l d (by omega), num_drop (by omega), h.one, List.drop_of_length_le (by omega)]
 simp [num]
theorem Top.take_lt {p d : Nat} (hp : 2 ≤ p) {l : List Int} (h : Top p d l) : num p (l.take d) < p ^ d := by
 have h1 := num_lt hp (l := l.take d) fun x hx => h.digs x (List.mem_of_mem_take hx)
 rw [List.length_take, h.len, Nat.min_eq_left (by omega)] at h1
 exact h1
theorem Top.range {p d : Nat} (hp : 2 ≤ p) {l : List Int} (h : Top p d l) : p ^ d ≤ num p l ∧ num p l < 2 * p ^ d := by
 have h2 := h.num_eq
 have h3 := h.take_lt hp
 omega
end Poly
namespace Poly
variable {p : Int} [SP p]

theorem two_nat : 2 ≤ p.toNat := by have := Pr.two (p := p); omega

theorem perm_of {α : Type} [DecidableEq α] {l r : List α} (hl : l.Nodup) (hr : r.Nodup) (hs : ∀ x ∈ l, x ∈ r) (hn : r.length ≤ l.length) : l.Perm r := by
 rw [List.perm_iff_count]
 intro a
 rw [hl.count, hr.count]
 by_cases ha : a ∈ l
 ·rw [if_pos ha, if_pos (hs a ha)]
 ·rw [if_neg ha, if_neg]
  intro hb
  have h1 := (List.nodup_cons.2 ⟨ha, hl⟩).length_le_of_subset (l₂ := r) (fun x hx => by
   rcases List.mem_cons.1 hx with rfl | hx
   ·exact hb
   ·exact hs x hx)
  rw [List.length_cons] at h1; omega

theorem ndvd_ne {f y : Poly p} (h : ¬ f ∣ y) : y ≠ 0 := fun e => h (e ▸ dvd_zero f)
def One (f x : Poly p) (e : Nat) : Prop := f ∣ x ^ e - 1
/- powers that are 1 -/
theorem One.zero (f x : Poly p) : One f x 0 := by
 unfold One; rw [pow_zero', show (1 : Poly p) - 1 = 0 from ring [(1 : Poly p)] (by rfl)]; exact dvd_zero f
theorem dvd_mul_one {f a b c : Poly p} (h1 : f ∣ a - 1) (h2 : f ∣ b - c) : f ∣ a * b - c := by
 have h3 := dvd_add (dvd_mul_right b h1) h2
 rwa [show (a - 1) * b + (b - c) = a * b - c from ring [a, b, c] (by rfl)] at h3
theorem One.add {f x : Poly p} {a b : Nat} (h : One f x a) (k : One f x b) : One f x (a + b) := by
 unfold One; rw [pow_add]; exact dvd_mul_one h k
theorem One.mul {f x : Poly p} {a : Nat} (h : One f x a) (b : Nat) : One f x (a * b) := by
 induction b with
 | zero => exact One.zero f x
 | succ b ih => rw [Nat.mul_succ]; exact ih.add h
theorem One.of_dvd {f x : Poly p} {a b : Nat} (h : One f x a) (hd : a ∣ b) : One f x b := by
 obtain ⟨c, rfl⟩ := hd; exact h.mul c
theorem One.sub {f x : Poly p} {a b : Nat} (h : One f x a) (k : One f x (a + b)) : One f x b := by
 unfold One at *
 rw [pow_add] at k
 generalize x ^ a = u at h k
 generalize x ^ b = v at k ⊢
 have h3 := dvd_sub k (dvd_mul_right v h)
 rwa [show u * v - 1 - (u - 1) * v = v - 1 from ring [u, v] (by rfl)] at h3
theorem One.mod {f x : Poly p} {a b : Nat} (h : One f x a) (k : One f x b) : One f x (b % a) := by
 have h1 := Nat.div_add_mod b a
 rw [← h1] at k
 exact (h.mul (b / a)).sub k
theorem One.gcd {f x : Poly p} : ∀ {a b : Nat}, One f x a → One f x b → One f x (Nat.gcd a b) := by
 intro a b
 induction a, b using Nat.gcd.induction with
 | H0 n => intro _ k; rw [Nat.gcd_zero_left]; exact k
 | H1 m n hm ih => intro h k; rw [Nat.gcd_rec]; exact ih (h.mod k) h
theorem One.pow {f x : Poly p} {a b : Nat} : One f (x ^ a) b ↔ One f x (a * b) := by unfold One; rw [pow_mul]
theorem One.base {f x y : Poly p} {e : Nat} (h : One f x e) (k : One f y e) : One f (x * y) e := by
 unfold One; rw [mul_pow]; exact dvd_mul_one h k
theorem One.unbase {f x y : Poly p} {e : Nat} (h : One f x e) (k : One f (x * y) e) : One f y e := by
 unfold One at *
 rw [mul_pow] at k
 generalize x ^ e = u at h k
 generalize y ^ e = v at k ⊢
 have h3 := dvd_sub k (dvd_mul_right v h)
 rwa [show u * v - 1 - (u - 1) * v = v - 1 from ring [u, v] (by rfl)] at h3

end Poly
namespace Poly
variable {p : Int} [SP p]

def PrN (l : Nat) : Prop := 2 ≤ l ∧ ∀ d, d ∣ l → d = 1 ∨ d = l
theorem exists_prn : ∀ (n : Nat), 2 ≤ n → ∃ l, PrN l ∧ l ∣ n := by
 intro n
 induction n using Nat.strongRecOn with
 | ind n ih =>
  intro h
  by_cases hp : PrN n
  ·exact ⟨n, hp, Nat.dvd_refl n⟩
  ·have h1 : ∃ d, d ∣ n ∧ d ≠ 1 ∧ d ≠ n := Classical.byContradiction fun hc => hp ⟨h, fun d hd => Classical.byContradiction fun h2 => hc ⟨d, hd, fun e => h2 (.inl e), fun e => h2 (.inr e)⟩⟩
   obtain ⟨d, hd, h2, h3⟩ := h1
   have h4 := Nat.le_of_dvd (by omega) hd
   have h5 : d ≠ 0 := fun e => by subst e; have := Nat.eq_zero_of_zero_dvd hd; omega
   obtain ⟨l, h6, h7⟩ := ih d (by omega) (by omega)
   exact ⟨l, h6, Nat.dvd_trans h7 hd⟩
theorem PrN.cop {l a : Nat} (h : PrN l) (ha : ¬ l ∣ a) : Nat.Coprime l a := by
 rcases h.2 _ (Nat.gcd_dvd_left l a) with h1 | h1
 ·exact h1
 ·exact absurd (h1 ▸ Nat.gcd_dvd_right l a) ha
theorem PrN.mul {l a b : Nat} (h : PrN l) (hd : l ∣ a * b) : l ∣ a ∨ l ∣ b := by
 by_cases ha : l ∣ a
 ·exact .inl ha
 ·exact .inr ((h.cop ha).dvd_of_dvd_mul_left hd)
theorem PrN.pow {l a : Nat} (h : PrN l) : ∀ {k : Nat}, l ∣ a ^ k → l ∣ a
 | 0, hd => by
  rw [Nat.pow_zero] at hd
  have := Nat.le_of_dvd (by decide) hd
  have := h.1; omega
 | k + 1, hd => by
  rw [Nat.pow_succ] at hd
  exact (h.mul hd).elim (fun h1 => h.pow h1) id
theorem PrN.eq {l r : Nat} (h : PrN l) (hr : PrN r) (hd : l ∣ r) : l = r := (hr.2 l hd).resolve_left (by have := h.1; omega)

def IsOrd (f x : Poly p) (e : Nat) : Prop := 0 < e ∧ One f x e ∧ ∀ d, One f x d → e ∣ d
theorem ord_of {f x : Poly p} {e : Nat} (h0 : 0 < e) (h1 : One f x e) (h : ∀ l, PrN l → l ∣ e → ¬ One f x (e / l)) : IsOrd f x e := by
 refine ⟨h0, h1, fun d hd => ?_⟩
 have hg := h1.gcd hd
 obtain ⟨c, hc⟩ := Nat.gcd_dvd_left e d
 have hg0 : 0 < Nat.gcd e d := Nat.gcd_pos_of_pos_left _ h0
 by_cases h2 : c = 1
 ·rw [h2, Nat.mul_one] at hc
  rw [hc]; exact Nat.gcd_dvd_right e d
 ·exfalso
  have hc0 : c ≠ 0 := fun e1 => by rw [e1, Nat.mul_zero] at hc; omega
  obtain ⟨l, hl, k, hk⟩ := exists_prn c (by omega)
  have hl2 := hl.1
  have h3 : e = l * (Nat.gcd e d * k) := by
   have h4 : Nat.gcd e d * c = l * (Nat.gcd e d * k) := by rw [hk, Nat.mul_left_comm]
   rw [← h4]; exact hc
  refine h l hl ⟨_, h3⟩ ?_
  have h4 : e / l = Nat.gcd e d * k := by
   have h5 : l * (Nat.gcd e d * k) / l = Nat.gcd e d * k := Nat.mul_div_cancel_left _ (by omega)
   rw [← h3] at h5; exact h5
  rw [h4]
  exact hg.mul k
theorem IsOrd.unique {f x : Poly p} {a b : Nat} (h : IsOrd f x a) (k : IsOrd f x b) : a = b := Nat.dvd_antisymm (h.2.2 _ k.2.1) (k.2.2 _ h.2.1)
theorem IsOrd.mul {f x y : Poly p} {a b : Nat} (h : IsOrd f x a) (k : IsOrd f y b) (hc : Nat.Coprime a b) : IsOrd f (x * y) (a * b) := by
 refine ⟨Nat.mul_pos h.1 k.1, (h.2.1.mul b).base (Nat.mul_comm b a ▸ k.2.1.mul a), fun d hd => ?_⟩
 have h1 : One f y (d * a) := One.unbase (Nat.mul_comm a d ▸ h.2.1.mul d) (hd.mul a)
 have h2 : One f x (d * b) := One.unbase (x := y) (Nat.mul_comm b d ▸ k.2.1.mul d) (by rw [show y * x = x * y from ring [x, y] (by rfl)]; exact hd.mul b)
 exact Nat.Coprime.mul_dvd_of_dvd_of_dvd hc (hc.dvd_of_dvd_mul_right (h.2.2 _ h2)) (hc.symm.dvd_of_dvd_mul_right (k.2.2 _ h1))

def prodN : List (Nat × Nat) → Nat
 | [] => 1
 | x :: l => x.1 ^ x.2 * prodN l
structure FacN (n : Nat) (L : List (Nat × Nat)) : Prop where
 prod : prodN L = n
 pr : ∀ x ∈ L, PrN x.1 ∧ 1 ≤ x.2
 one : L.Pairwise fun x y => x.1 ≠ y.1
theorem prodN_prime {r : Nat} (hr : PrN r) : ∀ {L : List (Nat × Nat)}, (∀ x ∈ L, PrN x.1) → r ∣ prodN L → ∃ x ∈ L, x.1 = r
 | [], _, h => by have := Nat.le_of_dvd (by decide) h; have := hr.1; rw [prodN] at *; omega
 | x :: L, hL, h => by
  rw [prodN] at h
  rcases hr.mul h with h1 | h1
  ·exact ⟨x, by simp, (hr.eq (hL x (by simp)) (hr.pow h1)).symm⟩
  ·obtain ⟨y, hy, h2⟩ := prodN_prime hr (fun y hy => hL y (by simp [hy])) h1
   exact ⟨y, by simp [hy], h2⟩
theorem prodN_dvd : ∀ {L : List (Nat × Nat)} {x}, x ∈ L → x.1 ^ x.2 ∣ prodN L
 | y :: L, x, h => by
  rw [prodN]
  rcases List.mem_cons.1 h with rfl | h
  ·exact Nat.dvd_mul_right _ _
  ·exact Nat.dvd_trans (prodN_dvd h) (Nat.dvd_mul_left _ _)
theorem pow_cop {l a : Nat} (h : PrN l) (ha : ¬ l ∣ a) (k : Nat) : Nat.Coprime (l ^ k) a := Nat.Coprime.pow_left k (h.cop ha)

theorem IsOrd.ndvd {f x : Poly p} {e : Nat} (hi : Irr f) (h : IsOrd f x e) : ¬ f ∣ x := fun hd => by
 obtain ⟨e', rfl⟩ : ∃ e', e = e' + 1 := ⟨e - 1, by have := h.1; omega⟩
 have h1 := h.2.1
 unfold One at h1
 rw [pow_succ'] at h1
 have h2 := dvd_sub (dvd_mul_left (x ^ e') hd) h1
 rw [show x ^ e' * x - (x ^ e' * x - 1) = 1 from ring [x ^ e', x] (by rfl)] at h2
 exact hi.not_unit dg_one h2
end Poly
namespace Poly

structure FacS (n : Nat) (L : List (Nat × Nat)) : Prop where
 prod : prodN L = n
 pr : ∀ x ∈ L, PrN x.1 ∧ 1 ≤ x.2
 sort : L.Pairwise fun x y => x.1 < y.1
theorem FacS.fac {n : Nat} {L : List (Nat × Nat)} (h : FacS n L) : FacN n L := ⟨h.prod, h.pr, h.sort.imp fun h => Nat.ne_of_lt h⟩

theorem prod_rest : ∀ {L : List (Nat × Nat)}, (∀ x ∈ L, PrN x.1 ∧ 1 ≤ x.2) → (L.Pairwise fun x y => x.1 ≠ y.1) → ∀ x ∈ L, ∃ m, prodN L = x.1 ^ x.2 * m ∧ ¬ x.1 ∣ m
 | [], _, _, x, hx => by simp at hx
 | y :: L, h1, h2, x, hx => by
  have h3 := List.pairwise_cons.1 h2
  have hy := (h1 y (by simp)).1
  have hL : ∀ z ∈ L, PrN z.1 ∧ 1 ≤ z.2 := fun z hz => h1 z (by simp [hz])
  rcases List.mem_cons.1 hx with rfl | hx
  ·refine ⟨prodN L, rfl, fun hd => ?_⟩
   obtain ⟨z, hz, h4⟩ := prodN_prime hy (fun z hz => (hL z hz).1) hd
   exact h3.1 z hz h4.symm
  ·obtain ⟨m, h4, h5⟩ := prod_rest hL h3.2 x hx
   refine ⟨y.1 ^ y.2 * m, by rw [prodN, h4, Nat.mul_left_comm], fun hd => ?_⟩
   have hxp := (hL x hx).1
   rcases hxp.mul hd with h6 | h6
   ·exact h3.1 x hx (hxp.eq hy (hxp.pow h6)).symm
   ·exact h5 h6
theorem FacN.rest {n : Nat} {L : List (Nat × Nat)} (h : FacN n L) {x : Nat × Nat} (hx : x ∈ L) : ∃ m, n = x.1 ^ x.2 * m ∧ ¬ x.1 ∣ m := by
 obtain ⟨m, h1, h2⟩ := prod_rest h.pr h.one x hx
 exact ⟨m, by rw [← h.prod, h1], h2⟩
theorem val_le {l a b m m' : Nat} (hl : 2 ≤ l) (h : l ^ a * m = l ^ b * m') (hm : ¬ l ∣ m) : b ≤ a := by
 apply Classical.byContradiction
 intro hc
 refine hm ⟨l ^ (b - a - 1) * m', ?_⟩
 have h1 : l ^ b = l ^ a * (l * l ^ (b - a - 1)) := by
  rw [← Nat.pow_succ', ← Nat.pow_add]; congr 1; omega
 rw [h1, Nat.mul_assoc] at h
 rw [Nat.eq_of_mul_eq_mul_left (Nat.pow_pos (by omega)) h, Nat.mul_assoc]
theorem FacS.mem {n : Nat} {L M : List (Nat × Nat)} (h : FacS n L) (k : FacS n M) {x : Nat × Nat} (hx : x ∈ L) : x ∈ M := by
 obtain ⟨hxp, hx1⟩ := h.pr x hx
 obtain ⟨m, h1, h2⟩ := h.fac.rest hx
 have hd : x.1 ∣ prodN M := by
  rw [k.prod, h1]
  obtain ⟨e, he⟩ : ∃ e, x.2 = e + 1 := ⟨x.2 - 1, by omega⟩
  rw [he, Nat.pow_succ, Nat.mul_right_comm]; exact Nat.dvd_mul_left _ _
 obtain ⟨y, hy, h3⟩ := prodN_prime hxp (fun y hy => (k.pr y hy).1) hd
 obtain ⟨m', h4, h5⟩ := k.fac.rest hy
 rw [h3] at h4 h5
 have h6 := val_le hxp.1 (h1 ▸ h4) h2
 have h7 := val_le hxp.1 (h4 ▸ h1) h5
 have : x = y := by
  cases x; cases y
  simp only [Prod.mk.injEq]
  exact ⟨h3.symm, by simp at h6 h7; omega⟩
 rw [this]; exact hy
theorem srt_nodup {L : List (Nat × Nat)} (h : L.Pairwise fun x y => x.1 < y.1) : L.Nodup := h.imp fun h e => by rw [e] at h; omega
theorem FacS.unique {n : Nat} {L M : List (Nat × Nat)} (h : FacS n L) (k : FacS n M) : L = M := by
 have hp : L.Perm M := perm_of (srt_nodup h.sort) (srt_nodup k.sort) (fun x hx => h.mem k hx) ((srt_nodup k.sort).length_le_of_subset fun x hx => k.mem h hx)
 exact List.Perm.eq_of_pairwise (le := fun x y : Nat × Nat => x.1 < y.1) (fun a b _ _ h1 h2 => by omega) h.sort k.sort hp

theorem prn_low {q n : Nat} (hq : 2 ≤ q) (hd : q ∣ n) (h : ∀ r, PrN r → r ∣ n → q ≤ r) : PrN q := by
 refine ⟨hq, fun d hdq => ?_⟩
 by_cases h1 : d = 1
 ·exact .inl h1
 ·refine .inr ?_
  have h0 : d ≠ 0 := fun e => by subst e; have := Nat.eq_zero_of_zero_dvd hdq; omega
  obtain ⟨r, hr, hrd⟩ := exists_prn d (by omega)
  have h2 := h r hr (Nat.dvd_trans hrd (Nat.dvd_trans hdq hd))
  have h3 := Nat.le_of_dvd (by omega) hrd
  have h4 := Nat.le_of_dvd (by omega) hdq
  omega
/- a search for factors that goes up -/
theorem FacS.tail {n : Nat} {x : Nat × Nat} {L : List (Nat × Nat)} (h : FacS n (x :: L)) : FacS (prodN L) L :=
 ⟨rfl, fun y hy => h.pr y (by simp [hy]), (List.pairwise_cons.1 h.sort).2⟩
theorem FacS.low {n q : Nat} {L : List (Nat × Nat)} (h : FacS n L) (hq : ∀ x ∈ L, q ≤ x.1) {r : Nat} (hr : PrN r) (hd : r ∣ n) : q ≤ r := by
 obtain ⟨x, hx, h1⟩ := prodN_prime hr (fun x hx => (h.pr x hx).1) (h.prod ▸ hd)
 exact h1 ▸ hq x hx
theorem FacS.next {n q : Nat} {L : List (Nat × Nat)} (h : FacS n L) (h2 : 2 ≤ q) (hq : ∀ x ∈ L, q ≤ x.1) :
  (∃ e M, L = (q, e) :: M ∧ 1 ≤ e ∧ FacS (prodN M) M ∧ n = q ^ e * prodN M ∧ ¬ q ∣ prodN M ∧ ∀ x ∈ M, q + 1 ≤ x.1) ∨ (¬ q ∣ n ∧ ∀ x ∈ L, q + 1 ≤ x.1) := by
 by_cases hd : q ∣ n
 ·left
  have hp := prn_low h2 hd fun r hr hrd => h.low hq hr hrd
  obtain ⟨x, hx, h1⟩ := prodN_prime hp (fun x hx => (h.pr x hx).1) (h.prod ▸ hd)
  cases L with
  | nil => simp at hx
  | cons y M =>
   have h3 := List.pairwise_cons.1 h.sort
   have h4 : y.1 = q := by
    rcases List.mem_cons.1 hx with rfl | hx
    ·exact h1
    ·have := h3.1 x hx; have := hq y (by simp); omega
   refine ⟨y.2, M, by rw [← h4], (h.pr y (by simp)).2, h.tail, by rw [← h4, ← h.prod]; rfl, fun hd => ?_, fun x hx => by have := h3.1 x hx; omega⟩
   obtain ⟨z, hz, h5⟩ := prodN_prime hp (fun x hx => (h.pr x (by simp [hx])).1) hd
   have := h3.1 z hz; omega
 ·right
  refine ⟨hd, fun x hx => ?_⟩
  rcases Nat.lt_or_eq_of_le (hq x hx) with h5 | h5
  ·exact h5
  ·exfalso
   refine hd ?_
   rw [h5, ← h.prod]
   refine Nat.dvd_trans ?_ (prodN_dvd hx)
   obtain ⟨e, he⟩ : ∃ e, x.2 = e + 1 := ⟨x.2 - 1, by have := (h.pr x hx).2; omega⟩
   rw [he, Nat.pow_succ]; exact Nat.dvd_mul_left _ _
theorem FacS.last {n q : Nat} {L : List (Nat × Nat)} (h : FacS n L) (hq : ∀ x ∈ L, q ≤ x.1) (hn : 1 < n) (hs : n < q * q) : L = [(n, 1)] := by
 have hpn : PrN n := by
  refine ⟨by omega, fun d hd => ?_⟩
  apply Classical.byContradiction
  intro hc
  have h1 : d ≠ 1 := fun e => hc (.inl e)
  have h2 : d ≠ n := fun e => hc (.inr e)
  obtain ⟨c, hdc⟩ := hd
  have hd0 : d ≠ 0 := fun e => by rw [e, Nat.zero_mul] at hdc; omega
  have hc1 : c ≠ 1 := fun e => h2 (by rw [hdc, e, Nat.mul_one])
  have hc0 : c ≠ 0 := fun e => by rw [e, Nat.mul_zero] at hdc; omega
  obtain ⟨r, hr, hrd⟩ := exists_prn d (by omega)
  obtain ⟨s, hs', hsd⟩ := exists_prn c (by omega)
  have h3 := h.low hq hr (Nat.dvd_trans hrd ⟨c, hdc⟩)
  have h4 := h.low hq hs' (Nat.dvd_trans hsd ⟨d, by rw [Nat.mul_comm]; exact hdc⟩)
  have h5 := Nat.le_of_dvd (by omega) hrd
  have h6 := Nat.le_of_dvd (by omega) hsd
  have h7 : q * q ≤ d * c := Nat.mul_le_mul (by omega) (by omega)
  omega
 exact h.unique ⟨by simp [prodN], fun x hx => by simp at hx; subst hx; exact ⟨hpn, Nat.le_refl _⟩, List.pairwise_singleton ..⟩

/- orders, by steps down -/
structure OrdI {p : Int} [SP p] (f x : Poly p) (n : Nat) (L : List (Nat × Nat)) (i e : Nat) : Prop where
 pos : 0 < e
 dvd : e ∣ n
 one : One f x e
 todo : ∀ y ∈ L.drop i, y.1 ^ y.2 ∣ e
 done : ∀ y ∈ L.take i, y.1 ∣ e → ¬ One f x (e / y.1)
theorem OrdI.start {p : Int} [SP p] {f x : Poly p} {n : Nat} {L : List (Nat × Nat)} (hL : FacS n L) (hn : 1 ≤ n) (h : One f x n) : OrdI f x n L 0 n :=
 ⟨hn, Nat.dvd_refl n, h, fun y hy => by rw [← hL.prod]; exact prodN_dvd (by simpa using hy), fun y hy => by simp at hy⟩
theorem OrdI.fin {p : Int} [SP p] {f x : Poly p} {n e : Nat} {L : List (Nat × Nat)} (h : OrdI f x n L L.length e) (hL : FacS n L) : IsOrd f x e :=
 ord_of h.pos h.one fun l hl hd => by
  obtain ⟨y, hy, h1⟩ := prodN_prime hl (fun y hy => (hL.pr y hy).1) (hL.prod ▸ Nat.dvd_trans hd h.dvd)
  exact h1 ▸ h.done y (by simpa using hy) (h1 ▸ hd)
theorem div_dvd_div {a b l : Nat} (hl : 0 < l) (h1 : l ∣ a) (h : a ∣ b) : a / l ∣ b / l := by
 obtain ⟨c, rfl⟩ := h1
 obtain ⟨d, rfl⟩ := h
 rw [Nat.mul_assoc, Nat.mul_div_cancel_left _ hl, Nat.mul_div_cancel_left _ hl]
 exact Nat.dvd_mul_right _ _
structure OrdJ {p : Int} [SP p] (f x : Poly p) (n : Nat) (L : List (Nat × Nat)) (i : Nat) (l k j e : Nat) : Prop where
 pos : 0 < e
 dvd : e ∣ n
 one : One f x e
 todo : ∀ y ∈ L.drop (i + 1), y.1 ^ y.2 ∣ e
 done : ∀ y ∈ L.take i, y.1 ∣ e → ¬ One f x (e / y.1)
 at_ : (∃ m, e = l ^ (k - j) * m ∧ ¬ l ∣ m ∧ j ≤ k) ∨ ¬ One f x (e / l)
theorem drop_cons {L : List (Nat × Nat)} {i : Nat} (h : i < L.length) : L.drop i = L[i] :: L.drop (i + 1) := List.drop_eq_getElem_cons h
theorem OrdI.enter {p : Int} [SP p] {f x : Poly p} {n i e : Nat} {L : List (Nat × Nat)} (h : OrdI f x n L i e) (hL : FacS n L) (hi : i < L.length) : OrdJ f x n L i L[i].1 L[i].2 0 e := by
 refine ⟨h.pos, h.dvd, h.one, fun y hy => h.todo y (by rw [drop_cons hi]; exact List.mem_cons_of_mem _ hy), h.done, .inl ?_⟩
 obtain ⟨c, hc⟩ := h.todo L[i] (by rw [drop_cons hi]; exact List.mem_cons_self)
 obtain ⟨m, h1, h2⟩ := hL.fac.rest (List.getElem_mem hi)
 refine ⟨c, hc, fun hd => h2 ?_, Nat.zero_le _⟩
 have h3 := h.dvd
 rw [hc, h1] at h3
 exact Nat.dvd_trans hd (Nat.dvd_of_mul_dvd_mul_left (Nat.pow_pos (by have := (hL.pr _ (List.getElem_mem hi)).1.1; omega)) h3)
theorem OrdJ.over {p : Int} [SP p] {f x : Poly p} {n i e j k l : Nat} {L : List (Nat × Nat)} (h : OrdJ f x n L i l k j e) (hn : ¬ l ∣ e) : OrdJ f x n L i l k k e := by
 refine ⟨h.pos, h.dvd, h.one, h.todo, h.done, ?_⟩
 rcases h.at_ with ⟨m, h1, h2, h3⟩ | h1
 ·have h4 : k - j = 0 := Nat.eq_zero_of_not_pos fun h5 => hn (by
   obtain ⟨c, hc⟩ : ∃ c, k - j = c + 1 := ⟨k - j - 1, by omega⟩
   rw [h1, hc, Nat.pow_succ, Nat.mul_right_comm]; exact Nat.dvd_mul_left _ _)
  rw [h4] at h1
  exact .inl ⟨m, by rw [Nat.sub_self]; exact h1, h2, Nat.le_refl _⟩
 ·exact .inr h1
theorem OrdJ.step {p : Int} [SP p] {f x : Poly p} {n i e j : Nat} {L : List (Nat × Nat)} (hL : FacS n L) (hi : i < L.length) (h : OrdJ f x n L i L[i].1 L[i].2 j e) (hj : j < L[i].2) (ho : One f x (e / L[i].1)) :
  L[i].1 ∣ e ∧ OrdJ f x n L i L[i].1 L[i].2 (j + 1) (e / L[i].1) := by
 obtain ⟨hp, _⟩ := hL.pr _ (List.getElem_mem hi)
 have hp2 := hp.1
 obtain ⟨m, h1, h2, h3⟩ := h.at_.resolve_right fun h1 => h1 ho
 obtain ⟨c, hc⟩ : ∃ c, L[i].2 - j = c + 1 := ⟨L[i].2 - j - 1, by omega⟩
 have h4 : e = L[i].1 * (L[i].1 ^ c * m) := by rw [h1, hc, Nat.pow_succ, Nat.mul_comm (L[i].1 ^ c), Nat.mul_assoc]
 have h5 : e / L[i].1 = L[i].1 ^ c * m := by
  have h6 : L[i].1 * (L[i].1 ^ c * m) / L[i].1 = L[i].1 ^ c * m := Nat.mul_div_cancel_left _ (by omega)
  rw [← h4] at h6; exact h6
 have hd : L[i].1 ∣ e := ⟨_, h4⟩
 have hde : e / L[i].1 ∣ e := Nat.div_dvd_of_dvd hd
 refine ⟨hd, Nat.div_pos (Nat.le_of_dvd h.pos hd) (by omega), Nat.dvd_trans hde h.dvd, ho, fun y hy => ?_, fun y hy hyd => ?_, .inl ⟨m, by rw [h5, show L[i].2 - (j + 1) = c by omega], h2, by omega⟩⟩
 ·have h7 := h.todo y hy
  rw [h4] at h7
  rw [h5]
  have hyL : y ∈ L := List.mem_of_mem_drop hy
  have hlt : L[i].1 < y.1 := by
   have := hL.sort.drop (i := i)
   rw [drop_cons hi] at this
   exact (List.pairwise_cons.1 this).1 y hy
  have hy1 := (hL.pr y hyL).1
  exact (pow_cop hy1 (fun hd => by have := hy1.eq hp hd; omega) _).dvd_of_dvd_mul_left h7
 ·refine fun h8 => h.done y hy (Nat.dvd_trans hyd hde) (h8.of_dvd ?_)
  exact div_dvd_div (by have := (hL.pr y (List.mem_of_mem_take hy)).1.1; omega) hyd hde

end Poly
namespace Poly

end Poly
namespace Poly
variable {p : Int} [SP p]

theorem Cop.rem {f h : Poly p} (hc : Cop f h) : Cop f (rem h f) := by
 obtain ⟨a, b, e⟩ := hc
 have h1 := div_eq h f
 exact ⟨a + b * quo h f, b, comb 1 e (comb (-b) h1 (ring [a, b, f, h, quo h f, Poly.rem h f] (by rfl)))⟩
theorem Cop.step {a b : Poly p} (h : Cop a b) : Cop b (Poly.rem a b) := by
 have h1 := h.symm.rem
 exact h1
theorem Cop.unit {a : Poly p} (h : Cop a 0) : dg a = 1 := by
 obtain ⟨u, v, e⟩ := h
 exact dvd_unit dg_one ⟨u, comb (-1) e (ring [u, v, a] (by rfl))⟩
theorem quo_dg {a b : Poly p} (_ha : a ≠ 0) (hb : b ≠ 0) (hl : dg b ≤ dg a) : dg (quo a b) + dg b = dg a + 1 := by
 have h1 := div_eq a b
 have h2 := rem_lt a hb
 have hq : quo a b ≠ 0 := fun e => by
  rw [e, show (0 : Poly p) * b + Poly.rem a b = Poly.rem a b from ring [b, Poly.rem a b] (by rfl)] at h1
  rw [← h1] at h2; omega
 have h3 := dg_mul hq hb
 have hd : dg (quo a b) ≠ 0 := fun e => hq (dg_eq_zero.1 e)
 have hb0 : dg b ≠ 0 := fun e => hb (dg_eq_zero.1 e)
 have h4 : dg a ≤ max (dg (quo a b * b)) (dg (Poly.rem a b)) := by
  have := dg_add (quo a b * b) (Poly.rem a b)
  rw [← h1] at this; exact this
 have h5 : dg (quo a b * b) ≤ max (dg a) (dg (Poly.rem a b)) := by
  have := dg_sub a (Poly.rem a b)
  rwa [show a - Poly.rem a b = quo a b * b from comb 1 h1 (ring [a, b, quo a b, Poly.rem a b] (by rfl))] at this
 omega

structure CofI (f h a b u v : Poly p) : Prop where
 a0 : a ≠ 0
 lt : dg b < dg a
 cop : Cop a b
 ua : f ∣ u * h - a
 vb : f ∣ v * h - b
 dv : dg v + dg a ≤ dg f + 1
 du : dg u + dg a ≤ dg f
theorem CofI.start {f h : Poly p} (hf : f ≠ 0) (hc : Cop f h) : CofI f h f (rem h f) 0 1 := by
 refine ⟨hf, rem_lt h hf, hc.rem, ⟨-1, ring [f, h] (by rfl)⟩, ?_, by rw [dg_one]; omega, by rw [dg_zero]; omega⟩
 rw [CR.one_mul]; exact sub_rem_dvd h f
theorem CofI.step {f h a b u v : Poly p} (k : CofI f h a b u v) (hb : b ≠ 0) : CofI f h b (rem a b) v (u - quo a b * v) := by
 have h1 := quo_dg k.a0 hb (Nat.le_of_lt k.lt)
 have h2 := rem_lt a hb
 have h3 := div_eq a b
 have hv := k.dv
 have hu := k.du
 have hlt := k.lt
 refine ⟨hb, h2, k.cop.step, k.vb, ?_, ?_, by omega⟩
 ·have h4 := dvd_sub k.ua (dvd_mul_left (quo a b) k.vb)
  rwa [show u * h - a - quo a b * (v * h - b) = (u - quo a b * v) * h - rem a b from comb (-1) h3 (ring [u, v, h, a, b, quo a b, rem a b] (by rfl))] at h4
 ·have h5 := dg_sub u (quo a b * v)
  have h6 := dg_mul_le (quo a b) v
  omega
theorem CofI.few {f h a b u v : Poly p} (k : CofI f h a b u v) : dg u ≤ dg f ∧ dg v ≤ dg f ∧ dg a ≤ dg f ∧ dg b ≤ dg f := by
 have h1 := k.dv
 have h2 := k.du
 have h3 := k.lt
 omega
theorem CofI.fin {f h a u v : Poly p} (k : CofI f h a 0 u v) {c : Int} (hc : cf a.l 0 * c % p = 1) : dg (u * con p c) < dg f ∧ f ∣ h * (u * con p c) - 1 := by
 have h1 := k.cop.unit
 have h2 := is_con (f := a) (by omega)
 have h3 := k.du
 refine ⟨by have := dg_mul_le u (con p c); have := con_dg (p := p) c; omega, ?_⟩
 have h4 := dvd_mul_right (con p c) k.ua
 have h5 : a * con p c = 1 := by
  rw [h2, con_mul, ← con_mod, hc]; rfl
 rwa [show (u * h - a) * con p c = h * (u * con p c) - 1 from comb (-1) h5 (ring [u, h, a, con p c] (by rfl))] at h4

end Poly
namespace Poly
variable {p : Int} [SP p]

noncomputable def frN (f X : Poly p) : Nat → Poly p
 | 0 => X
 | k + 1 => rem (frN f X k ^ p.toNat) f
theorem frN_add (f X : Poly p) (a : Nat) : ∀ b, frN f X (a + b) = frN f (frN f X a) b
 | 0 => rfl
 | b + 1 => by rw [← Nat.add_assoc, frN, frN, frN_add f X a b]
structure Per (f X : Poly p) (m : Nat) : Prop where
 pos : 0 < m
 back : frN f X m = X
 first : ∀ k, 0 < k → k < m → frN f X k ≠ X
theorem Per.mul {f X : Poly p} {m : Nat} (h : Per f X m) : ∀ k, frN f X (m * k) = X
 | 0 => rfl
 | k + 1 => by rw [Nat.mul_succ, frN_add, h.mul k, h.back]
end Poly
namespace Poly
variable {p : Int} [SP p]

def prodT (F : List (Poly p × Nat)) : Nat → Poly p
 | 0 => 1
 | k + 1 => prodT F k * (F.getD k (0, 0)).1
def powT (F : List (Poly p × Nat)) : Nat → Poly p
 | 0 => 1
 | k + 1 => powT F k * (F.getD k (0, 0)).1 ^ (F.getD k (0, 0)).2

theorem FacOf.at {f : Poly p} {F : List (Poly p × Nat)} (h : FacOf f F) {j : Nat} (hj : j < F.length) : IsFac f (F.getD j (0, 0)) := by
 refine (h.2 _).1 ?_
 rw [getD_lt hj]; exact List.getElem_mem hj
theorem FacOf.ne_at {f : Poly p} {F : List (Poly p × Nat)} (h : FacOf f F) {i j : Nat} (hij : i < j) (hj : j < F.length) : (F.getD i (0, 0)).1 ≠ (F.getD j (0, 0)).1 := by
 have := List.pairwise_iff_getElem.1 h.1 i j (by omega) hj hij
 rw [getD_lt (show i < F.length by omega), getD_lt hj]
 intro e
 rw [e] at this
 exact ltP_irrefl _ this
theorem FacOf.cop_at {f : Poly p} {F : List (Poly p × Nat)} (h : FacOf f F) {i j : Nat} (hij : i < j) (hj : j < F.length) : Cop (F.getD i (0, 0)).1 (F.getD j (0, 0)).1 :=
 (h.at (by omega)).1.cop fun hd => h.ne_at hij hj (irr_eq (h.at (by omega)).1 (h.at hj).1 (h.at (by omega)).2.1 (h.at hj).2.1 hd)

theorem powT_cop {f : Poly p} {F : List (Poly p × Nat)} (h : FacOf f F) : ∀ k j, k ≤ j → j < F.length → Cop (powT F k) (F.getD j (0, 0)).1
 | 0, _, _, _ => cop_one _
 | k + 1, j, hk, hj => (powT_cop h k j (by omega) hj).mul ((h.cop_at (by omega) hj).pow _)
theorem powT_dvd {f : Poly p} {F : List (Poly p × Nat)} (h : FacOf f F) : ∀ k, k ≤ F.length → powT F k ∣ f
 | 0, _ => unit_dvd dg_one f
 | k + 1, hk => by
  refine Cop.mul_dvd ((powT_cop h k k (Nat.le_refl _) (by omega)).symm.pow _).symm (powT_dvd h k (by omega)) ?_
  obtain ⟨u, hu, _⟩ := (h.at (j := k) (by omega)).2.2.2
  exact ⟨u, hu⟩
theorem powT_has {F : List (Poly p × Nat)} : ∀ {k j}, j < k → (F.getD j (0, 0)).1 ^ (F.getD j (0, 0)).2 ∣ powT F k
 | 0, _, h => absurd h (by omega)
 | k + 1, j, h => by
  by_cases hj : j = k
  ·subst hj; exact dvd_mul_left _ (dvd_refl _)
  ·exact dvd_mul_right _ (powT_has (by omega))
theorem powT_mon {f : Poly p} {F : List (Poly p × Nat)} (h : FacOf f F) : ∀ k, k ≤ F.length → Mon (powT F k)
 | 0, _ => mon_one
 | k + 1, hk => (powT_mon h k (by omega)).mul (mon_pow (h.at (by omega)).2.1 _)
theorem pow_ne {g : Poly p} (h : g ≠ 0) : ∀ n : Nat, g ^ n ≠ 0
 | 0 => one_ne
 | n + 1 => mul_ne (pow_ne h n) h

theorem fac_prod {f : Poly p} {F : List (Poly p × Nat)} (h : FacOf f F) (hf : f ≠ 0) : f = con p (lc f) * powT F F.length := by
 obtain ⟨r, hr⟩ := powT_dvd h F.length (Nat.le_refl _)
 have hm := powT_mon h F.length (Nat.le_refl _)
 have hr0 : r ≠ 0 := fun e => hf (by rw [hr, e]; exact ring [powT F F.length] (by rfl))
 have hr1 : dg r ≤ 1 := by
  refine Nat.le_of_not_lt fun h2 => ?_
  obtain ⟨g, hg, hgm, hgr⟩ := exists_irr _ r (Nat.le_refl _) h2
  have hgf : g ∣ f := by rw [hr]; exact dvd_mul_left _ hgr
  obtain ⟨e, he⟩ := exists_mult hg.1 _ f hf (Nat.le_refl _)
  have he1 : 1 ≤ e := by
   rcases Nat.eq_zero_or_pos e with h0 | h0
   ·subst h0; exact absurd hgf (isMult_zero.1 he)
   ·exact h0
  obtain ⟨j, hj, hjF⟩ := List.mem_iff_getElem.1 ((h.2 (g, e)).2 ⟨hg, hgm, he1, he⟩)
  have hd := powT_has (F := F) hj
  rw [getD_lt hj, hjF] at hd
  obtain ⟨w, hw⟩ := hd
  obtain ⟨u, hu, hun⟩ := he
  have hw : powT F F.length = g ^ e * w := hw
  refine hun ?_
  have : g ^ e * u = g ^ e * (w * r) := by
   rw [← hu, hr, hw]; exact ring [g ^ e, w, r] (by rfl)
  rw [mul_cancel (pow_ne hg.ne e) this]
  exact dvd_mul_left _ hgr
 have hc := is_con hr1
 have hl : lc f = lc r := by
  have h1 := lc_mul hm.1 hr0
  rw [← hr, hm.2] at h1
  have h2 := cf_bd r (dg r - 1)
  rw [h1, Int.one_mul]
  exact Int.emod_eq_of_lt h2.1 h2.2
 have hd1 : dg r = 1 := by
  have : dg r ≠ 0 := fun e => hr0 (dg_eq_zero.1 e)
  omega
 have hlr : lc r = cf r.l 0 := by unfold lc; rw [hd1]
 rw [hl, hlr, ← hc]
 rw [hr]
 exact ring [powT F F.length, r] (by rfl)

theorem dg_pow' {g : Poly p} (h : g ≠ 0) : ∀ n : Nat, dg (g ^ n) = n * (dg g - 1) + 1
 | 0 => by rw [pow_zero', dg_one]; omega
 | n + 1 => by
  have h1 := dg_pow' h n
  have h2 := dg_mul (pow_ne h n) h
  have h3 : dg g ≠ 0 := fun e => h (dg_eq_zero.1 e)
  rw [pow_succ', Nat.succ_mul]
  omega

theorem irr_der {h : Poly p} (hi : Irr h) : der h ≠ 0 := fun e => by
 have h0 := der_zero (f := h) (r := of p (mkL (dg h) fun i => cf h.l (i * p.toNat))) e fun i => by
  rw [cf_of, cf_mkL]
  by_cases hi : i < dg h
  ·rw [if_pos hi]
   have := cf_bd h (i * p.toNat)
   exact Int.emod_eq_of_lt this.1 this.2
  ·rw [if_neg hi]
   have h2 := two_nat (p := p)
   have : dg h ≤ i * p.toNat := by
    have := Nat.mul_le_mul_left i (show 1 ≤ p.toNat by omega)
    omega
   rw [cf_ge (show h.l.length ≤ i * p.toNat from this)]
   simp
 have h2 := two_nat (p := p)
 generalize of p (mkL (dg h) fun i => cf h.l (i * p.toNat)) = r at h0
 obtain ⟨q, hq⟩ : ∃ q, p.toNat = q + 1 := ⟨p.toNat - 1, by omega⟩
 rw [hq, pow_succ'] at h0
 have hr0 : r ≠ 0 := fun e => hi.ne (by rw [← h0, e]; exact ring [(0 : Poly p) ^ q] (by rfl))
 have h3 := dg_pow' hr0 q
 have h4 := dg_mul (pow_ne hr0 q) hr0
 rw [h0] at h4
 have h5 := hi.1
 rcases hi.2 _ _ h0.symm with h6 | h6
 ·rw [h6] at h3 h4
  have : q * (dg r - 1) = 0 := by omega
  rcases Nat.mul_eq_zero.1 this with h7 | h7 <;> omega
 ·rw [h6] at h3 h4
  simp at h3
  omega

theorem Sqf.cop_der {q : Poly p} (hq : q ≠ 0) (hs : Sqf q) : dg (gcd q (der q)) = 1 := by
 have hg := gcd_mon (f := q) (g := der q) (.inl hq)
 refine Classical.byContradiction fun hne => ?_
 have h0 : dg (gcd q (der q)) ≠ 0 := fun e => hg.1 (dg_eq_zero.1 e)
 obtain ⟨h, hi, hm, hd⟩ := exists_irr _ (gcd q (der q)) (Nat.le_refl _) (by omega)
 obtain ⟨u, hu⟩ := dvd_trans hd (gcd_left q (der q))
 have hd2 := dvd_trans hd (gcd_right q (der q))
 rw [hu, der_mul] at hd2
 have h3 : h ∣ der h * u := by
  obtain ⟨w, hw⟩ := hd2
  exact ⟨w - der u, by
   have : der h * u = h * w - h * der u := by rw [← hw]; exact ring [der h, u, h, der u] (by rfl)
   rw [this]; exact ring [h, w, der u] (by rfl)⟩
 rcases hi.prime h3 with h4 | h4
 ·have h5 := irr_der hi
  obtain ⟨w, hw⟩ := h4
  have hw0 : w ≠ 0 := fun e => h5 (by rw [hw, e]; exact ring [h] (by rfl))
  have h6 := dg_mul hi.ne hw0
  rw [← hw] at h6
  have h7 := der_dg hi.ne
  have h8 : dg w ≠ 0 := fun e => hw0 (dg_eq_zero.1 e)
  omega
 ·obtain ⟨w, hw⟩ := h4
  exact hs h hi ⟨w, by rw [hu, hw]; exact ring [h, w] (by rfl)⟩

theorem prodT_cop {f : Poly p} {F : List (Poly p × Nat)} (h : FacOf f F) : ∀ k j, k ≤ j → j < F.length → Cop (prodT F k) (F.getD j (0, 0)).1
 | 0, _, _, _ => cop_one _
 | k + 1, j, hk, hj => (prodT_cop h k j (by omega) hj).mul (h.cop_at (by omega) hj)
theorem prodT_mon {f : Poly p} {F : List (Poly p × Nat)} (h : FacOf f F) : ∀ k, k ≤ F.length → Mon (prodT F k)
 | 0, _ => mon_one
 | k + 1, hk => (prodT_mon h k (by omega)).mul (h.at (by omega)).2.1
theorem prodT_sqf {f : Poly p} {F : List (Poly p × Nat)} (h : FacOf f F) : ∀ k, k ≤ F.length → Sqf (prodT F k)
 | 0, _ => fun g hg hd => hg.not_unit dg_one (dvd_trans ⟨g, rfl⟩ hd)
 | k + 1, hk => fun g hg hd => by
  have hi := (h.at (j := k) (by omega)).1
  have hc := prodT_cop h k k (Nat.le_refl _) (by omega)
  have hd : g * g ∣ prodT F k * (F.getD k (0, 0)).1 := hd
  generalize (F.getD k (0, 0)).1 = b at hi hc hd
  by_cases hgb : g ∣ b
  ·have hga : ¬ g ∣ prodT F k := fun hga => by
    obtain ⟨x, y, hxy⟩ := hc
    obtain ⟨u, hu⟩ := hga
    obtain ⟨v, hv⟩ := hgb
    have h1 : g ∣ 1 := ⟨x * u + y * v, by rw [← hxy, hu, hv]; exact ring [x, y, g, u, v] (by rfl)⟩
    exact hg.not_unit dg_one h1
   have h1 := hg.cop hga
   have h2 : Cop (g * g) (prodT F k) := h1.mul h1
   obtain ⟨w, hw⟩ := h2.dvd hd
   have hg1 := hg.1
   rcases hi.2 g (g * w) (by rw [hw]; exact ring [g, w] (by rfl)) with h3 | h3
   ·omega
   ·exact hg.not_unit h3 ⟨w, rfl⟩
  ·have h1 := hg.cop hgb
   have h2 : Cop (g * g) b := h1.mul h1
   have h3 : g * g ∣ b * prodT F k := by
    obtain ⟨w, hw⟩ := hd
    exact ⟨w, by rw [← hw]; exact ring [b, prodT F k] (by rfl)⟩
   exact prodT_sqf h k (by omega) g hg (h2.dvd h3)

end Poly
end Go.Proofs.YtlmckocbhcpmdaaGreat
