/- Plain mathematics of polynomials by a prime. No conditions. -/
import Derived.Test.YtlmckocbhcpmdaaGreatPc
namespace Go.Proofs.YtlmckocbhcpmdaaGreat

class CR (α : Type) [Add α] [Mul α] [Neg α] [Sub α] [OfNat α 0] [OfNat α 1] : Prop where
 add_comm : ∀ a b : α, a + b = b + a
 add_assoc : ∀ a b c : α, a + b + c = a + (b + c)
 add_zero : ∀ a : α, a + 0 = a
 add_neg : ∀ a : α, a + -a = 0
 sub_def : ∀ a b : α, a - b = a + -b
 mul_comm : ∀ a b : α, a * b = b * a
 mul_assoc : ∀ a b c : α, a * b * c = a * (b * c)
 one_mul : ∀ a : α, 1 * a = a
 add_mul : ∀ a b c : α, (a + b) * c = a * c + b * c

inductive RE where
 | at (n : Nat)
 | zero
 | one
 | add (a b : RE)
 | sub (a b : RE)
 | mul (a b : RE)
 | neg (a : RE)

abbrev RM := List (Bool × List Nat)

def zm5 (a : Nat) : List Nat -> List Nat
 | [] => [a]
 | b :: l => bif Nat.ble a b then a :: b :: l else b :: zm5 a l
def zkC : List Nat -> List Nat -> List Nat
 | [], m => m
 | a :: l, m => zm5 a (zkC l m)
def zdY : RM -> RM
 | [] => []
 | (s, m) :: r => (!s, m) :: zdY r
def zlD (s : Bool) (m : List Nat) : RM -> RM
 | [] => []
 | (t, k) :: r => (s == t, zkC m k) :: zlD s m r
def zlE : RM -> RM -> RM
 | [], _ => []
 | (s, m) :: r, k => zlD s m k ++ zlE r k
def RE.ex : RE -> RM
 | .at n => [(true, [n])]
 | .zero => []
 | .one => [(true, [])]
 | .add a b => a.ex ++ b.ex
 | .sub a b => a.ex ++ zdY b.ex
 | .mul a b => zlE a.ex b.ex
 | .neg a => zdY a.ex
def ziF (s : Bool) (m : List Nat) : RM -> Option RM
 | [] => none
 | (t, k) :: r => bif t == s && k == m then some r else match ziF s m r with
  | some r' => some ((t, k) :: r')
  | none => none
def zhv : Nat -> RM -> Bool
 | _, [] => true
 | 0, _ => false
 | n + 1, (s, m) :: r => match ziF (!s) m r with
  | some r' => zhv n r'
  | none => false
def RE.chk (a b : RE) : Bool := zhv 1000 (a.ex ++ zdY b.ex)

section
variable {α : Type} [Add α] [Mul α] [Neg α] [Sub α] [OfNat α 0] [OfNat α 1]

def atM (ctx : List α) (n : Nat) : α := match ctx, n with
 | [], _ => 0
 | a :: _, 0 => a
 | _ :: r, n + 1 => atM r n
def RE.ev (ctx : List α) : RE -> α
 | .at n => atM ctx n
 | .zero => 0
 | .one => 1
 | .add a b => a.ev ctx + b.ev ctx
 | .sub a b => a.ev ctx - b.ev ctx
 | .mul a b => a.ev ctx * b.ev ctx
 | .neg a => -a.ev ctx
def evN (ctx : List α) : List Nat -> α
 | [] => 1
 | a :: l => atM ctx a * evN ctx l
def ev1 (ctx : List α) (s : Bool) (m : List Nat) : α := bif s then evN ctx m else -evN ctx m
def evM (ctx : List α) : RM -> α
 | [] => 0
 | (s, m) :: r => ev1 ctx s m + evM ctx r

variable [CR α]
namespace CR
theorem zero_add (a : α) : 0 + a = a := by rw [CR.add_comm, CR.add_zero]
theorem left_cancel {a b c : α} (h : a + b = a + c) : b = c := by
 have h1 : -a + (a + b) = -a + (a + c) := by rw [h]
 rw [<- CR.add_assoc, <- CR.add_assoc, CR.add_comm (-a) a, CR.add_neg, zero_add, zero_add] at h1;exact h1
theorem left_comm (a b c : α) : a + (b + c) = b + (a + c) := by rw [<- CR.add_assoc, CR.add_comm a b, CR.add_assoc]
theorem mul_left_comm (a b c : α) : a * (b * c) = b * (a * c) := by rw [<- CR.mul_assoc, CR.mul_comm a b, CR.mul_assoc]
theorem zero_mul (a : α) : 0 * a = 0 := by
 have h : 0 * a + 0 * a = 0 * a + 0 := by rw [<- CR.add_mul, CR.add_zero, CR.add_zero]
 exact left_cancel h
theorem jx {a b : α} (h : a + b = 0) : b = -a := left_cancel (by rw [h, CR.add_neg])
theorem neg_zero : -(0 : α) = 0 := (jx (CR.add_zero 0)).symm
theorem neg_neg (a : α) : -(-a) = a := (jx (by rw [CR.add_comm, CR.add_neg])).symm
theorem neg_add (a b : α) : -(a + b) = -a + -b := (jx (by
 rw [CR.add_assoc, left_comm b, <- CR.add_assoc, CR.add_neg, CR.add_neg, CR.add_zero])).symm
theorem neg_mul (a b : α) : -a * b = -(a * b) := jx (by rw [<- CR.add_mul, CR.add_neg, zero_mul])
theorem mul_zero (a : α) : a * 0 = 0 := by rw [CR.mul_comm, zero_mul]
theorem mul_neg (a b : α) : a * -b = -(a * b) := by rw [CR.mul_comm, neg_mul, CR.mul_comm]
theorem mul_add (a b c : α) : a * (b + c) = a * b + a * c := by rw [CR.mul_comm, CR.add_mul, CR.mul_comm b, CR.mul_comm c]
theorem mul_one (a : α) : a * 1 = a := by rw [CR.mul_comm, CR.one_mul]
theorem sub_self (a : α) : a - a = 0 := by rw [CR.sub_def, CR.add_neg]
theorem eq_of_sub {a b : α} (h : a - b = 0) : a = b := by
 rw [CR.sub_def] at h;have := jx (a := -b) (b := a) (by rw [CR.add_comm, h]);rw [this, neg_neg]
end CR

theorem zjD (ctx : List α) (a : Nat) : ∀ l, evN ctx (zm5 a l) = atM ctx a * evN ctx l
 | [] => rfl
 | b :: l => by
  unfold zm5;cases Nat.ble a b
  ·simp only [cond_false, evN, zjD ctx a l, CR.mul_left_comm]
  ·rfl
theorem zjE (ctx : List α) : ∀ l m, evN ctx (zkC l m) = evN ctx l * evN ctx m
 | [], m => by simp only [zkC, evN, CR.one_mul]
 | a :: l, m => by simp only [zkC, evN, zjD, zjE ctx l m, CR.mul_assoc]
theorem zbB (ctx : List α) : ∀ a b, evM ctx (a ++ b) = evM ctx a + evM ctx b
 | [], b => by simp only [List.nil_append, evM, CR.zero_add]
 | (s, m) :: a, b => by simp only [List.cons_append, evM, zbB ctx a b, CR.add_assoc]
theorem zjF (ctx : List α) (s : Bool) (m : List Nat) : ev1 ctx (!s) m = -ev1 ctx s m := by
 cases s <;> simp [ev1, CR.neg_neg]
theorem zbC (ctx : List α) : ∀ a, evM ctx (zdY a) = -evM ctx a
 | [] => by simp only [zdY, evM, CR.neg_zero]
 | (s, m) :: a => by simp only [zdY, evM, zbC ctx a, zjF, CR.neg_add]
theorem zm6 (ctx : List α) (s t : Bool) (m k : List Nat) : ev1 ctx (s == t) (zkC m k) = ev1 ctx s m * ev1 ctx t k := by
 cases s <;> cases t <;> simp [ev1, zjE, CR.neg_mul, CR.mul_neg, CR.neg_neg]
theorem zhw (ctx : List α) (s : Bool) (m : List Nat) : ∀ b, evM ctx (zlD s m b) = ev1 ctx s m * evM ctx b
 | [] => by simp only [zlD, evM, CR.mul_zero]
 | (t, k) :: b => by simp only [zlD, evM, zhw ctx s m b, zm6, CR.mul_add]
theorem zjG (ctx : List α) : ∀ a b, evM ctx (zlE a b) = evM ctx a * evM ctx b
 | [], b => by simp only [zlE, evM, CR.zero_mul]
 | (s, m) :: a, b => by simp only [zlE, evM, zbB, zhw, zjG ctx a b, CR.add_mul]
theorem zbD (ctx : List α) : ∀ e : RE, evM ctx e.ex = e.ev ctx
 | .at n => by simp only [RE.ex, evM, ev1, cond_true, evN, RE.ev, CR.mul_one, CR.add_zero]
 | .zero => rfl
 | .one => by simp only [RE.ex, evM, ev1, cond_true, evN, RE.ev, CR.add_zero]
 | .add a b => by simp only [RE.ex, RE.ev, zbB, zbD ctx a, zbD ctx b]
 | .sub a b => by simp only [RE.ex, RE.ev, zbB, zbC, zbD ctx a, zbD ctx b, CR.sub_def]
 | .mul a b => by simp only [RE.ex, RE.ev, zjG, zbD ctx a, zbD ctx b]
 | .neg a => by simp only [RE.ex, RE.ev, zbC, zbD ctx a]
theorem zjH (ctx : List α) (s : Bool) (m : List Nat) : ∀ (r r' : RM), ziF s m r = some r' -> evM ctx r = ev1 ctx s m + evM ctx r'
 | [], _, h => by simp [ziF] at h
 | (t, k) :: r, r', h => by
  unfold ziF at h;cases hc : (t == s && k == m)
  ·rw [hc] at h;simp only [cond_false] at h
   cases hr : ziF s m r with
   | none => rw [hr] at h; simp at h
   | some r2 =>
    rw [hr] at h;simp only [Option.some.injEq] at h
    subst h;simp only [evM, zjH ctx s m r r2 hr, CR.left_comm]
  ·rw [hc] at h;simp only [cond_true, Option.some.injEq] at h
   subst h;simp only [Bool.and_eq_true, beq_iff_eq] at hc
   obtain ⟨rfl, rfl⟩ := hc
   rfl
theorem zdZ (ctx : List α) : ∀ n (r : RM), zhv n r = true -> evM ctx r = 0
 | _, [], _ => rfl
 | 0, _ :: _, h => by simp [zhv] at h
 | n + 1, (s, m) :: r, h => by
  unfold zhv at h;cases hr : ziF (!s) m r with
  | none => rw [hr] at h; simp at h
  | some r' =>
   rw [hr] at h;simp only [evM, zjH ctx (!s) m r r' hr, zjF, zdZ ctx n r' h]
   rw [CR.add_zero, CR.add_neg]

class Rf (ctx : List α) (x : α) (e : outParam RE) : Prop where
 eq : e.ev ctx = x

omit [CR α]
instance (priority := high) rfAdd (ctx : List α) (x y : α) (a b : RE) [h : Rf ctx x a] [k : Rf ctx y b] : Rf ctx (x + y) (.add a b) := ⟨by rw [RE.ev, h.eq, k.eq]⟩
instance (priority := high) rfSub (ctx : List α) (x y : α) (a b : RE) [h : Rf ctx x a] [k : Rf ctx y b] : Rf ctx (x - y) (.sub a b) := ⟨by rw [RE.ev, h.eq, k.eq]⟩
instance (priority := high) rfMul (ctx : List α) (x y : α) (a b : RE) [h : Rf ctx x a] [k : Rf ctx y b] : Rf ctx (x * y) (.mul a b) := ⟨by rw [RE.ev, h.eq, k.eq]⟩
instance (priority := high) rfNeg (ctx : List α) (x : α) (a : RE) [h : Rf ctx x a] : Rf ctx (-x) (.neg a) := ⟨by rw [RE.ev, h.eq]⟩
instance (priority := high) rfZero (ctx : List α) : Rf ctx (0 : α) .zero := ⟨rfl⟩
instance (priority := high) rfOne (ctx : List α) : Rf ctx (1 : α) .one := ⟨rfl⟩
instance (priority := low) rfAt0 (x : α) (l : List α) : Rf (x :: l) x (.at 0) := ⟨rfl⟩
instance (priority := low) rfAt1 (x a : α) (l : List α) : Rf (a :: x :: l) x (.at 1) := ⟨rfl⟩
instance (priority := low) rfAt2 (x a b : α) (l : List α) : Rf (a :: b :: x :: l) x (.at 2) := ⟨rfl⟩
instance (priority := low) rfAt3 (x a b c : α) (l : List α) : Rf (a :: b :: c :: x :: l) x (.at 3) := ⟨rfl⟩
instance (priority := low) rfAt4 (x a b c d : α) (l : List α) : Rf (a :: b :: c :: d :: x :: l) x (.at 4) := ⟨rfl⟩
instance (priority := low) rfAt5 (x a b c d e : α) (l : List α) : Rf (a :: b :: c :: d :: e :: x :: l) x (.at 5) := ⟨rfl⟩
instance (priority := low) rfAt6 (x a b c d e f : α) (l : List α) : Rf (a :: b :: c :: d :: e :: f :: x :: l) x (.at 6) := ⟨rfl⟩
instance (priority := low) rfAt7 (x a b c d e f g : α) (l : List α) : Rf (a :: b :: c :: d :: e :: f :: g :: x :: l) x (.at 7) := ⟨rfl⟩
instance (priority := low) rfAt8 (x a b c d e f g h : α) (l : List α) : Rf (a :: b :: c :: d :: e :: f :: g :: h :: x :: l) x (.at 8) := ⟨rfl⟩

theorem zg [CR α] (ctx : List α) {x y : α} {a b : RE} [h : Rf ctx x a] [k : Rf ctx y b] (hc : RE.chk a b = true) : x = y := by
 have h1 := zdZ ctx _ _ hc;rw [zbB, zbC, zbD, zbD, h.eq, k.eq, <- CR.sub_def] at h1;exact CR.eq_of_sub h1

theorem comb [CR α] (c : α) {a b x y : α} (h : a = b) (e : x - c * a = y - c * b) : x = y := by
 subst h;rw [CR.sub_def, CR.sub_def, CR.add_comm, CR.add_comm y] at e;exact CR.left_cancel e
end

example {α : Type} [Add α] [Mul α] [Neg α] [Sub α] [OfNat α 0] [OfNat α 1] [CR α] (a b c : α) : (a + b) * (a - b) + c * (1 + 1) = a * a - b * b + c + c := zg [a, b, c] (by rfl)
example {α : Type} [Add α] [Mul α] [Neg α] [Sub α] [OfNat α 0] [OfNat α 1] [CR α] (a b c d : α) (h : a = b * c) : a * d + 0 = c * (b * d) := comb d h (zg [a, b, c, d] (by rfl))

def cf (l : List Int) (i : Nat) : Int := l.getD i 0

theorem yq (i : Nat) : cf [] i = 0 := by simp [cf]
theorem zV (a : Int) (l : List Int) : cf (a :: l) 0 = a := rfl
theorem zv (a : Int) (l : List Int) (i : Nat) : cf (a :: l) (i + 1) = cf l i := by simp [cf]
theorem zE {l : List Int} {i : Nat} (h : l.length <= i) : cf l i = 0 := by
 simp [cf, List.getD_eq_getElem?_getD, List.getElem?_eq_none h]
theorem vT {l : List Int} {i : Nat} (h : i < l.length) : cf l i = l[i] := by
 simp [cf, List.getD_eq_getElem?_getD, List.getElem?_eq_getElem h]

def zj : List Int -> List Int
 | [] => []
 | a :: l => match zj l with
  | [] => if a = 0 then [] else [a]
  | b :: r => a :: b :: r

theorem yj (l : List Int) (i : Nat) : cf (zj l) i = cf l i := by
 induction l generalizing i with
 | nil => rfl
 | cons a l ih =>
  unfold zj
  split
  ·rename_i h
   have h0 : ∀ i, cf l i = 0 := fun i => by rw [<- ih, h, yq]
   split
   ·rename_i ha
    cases i with
    | zero => rw [yq, zV, ha]
    | succ i => rw [yq, zv, h0]
   ·cases i with
    | zero => rfl
    | succ i => rw [zv, zv, yq, h0]
  ·rename_i b r h
   cases i with
   | zero => rfl
   | succ i => rw [zv, zv, <- ih, h]

theorem zkD {l : List Int} {x : Int} (h : x ∈ zj l) : x ∈ l := by
 induction l with
 | nil => exact h
 | cons a l ih =>
  unfold zj at h
  split at h
  ·split at h
   ·cases h
   ·simp at h; simp [h]
  ·rename_i b r hb
   rcases List.mem_cons.1 h with h | h
   ·simp [h]
   ·exact List.mem_cons_of_mem _ (ih (hb ▸ h))

theorem yA (l : List Int) : (zj l).length <= l.length := by
 induction l with
 | nil => simp [zj]
 | cons a l ih =>
  unfold zj
  split
  ·split <;> simp
  ·rename_i b r hb
   rw [hb] at ih; simpa using ih

def zak (l : List Int) : Prop := ∀ n, l.length = n + 1 -> cf l n ≠ 0

theorem yU (l : List Int) : zak (zj l) := by
 induction l with
 | nil => intro n h; simp [zj] at h
 | cons a l ih =>
  intro n;unfold zj
  split
  ·split
   ·intro h; simp at h
   ·rename_i ha
    intro h;have : n = 0 := by simpa using h.symm
    subst this; exact ha
  ·rename_i b r hb
   intro h;have hn : n = r.length + 1 := by simpa using h.symm
   subst hn;rw [zv];rw [hb] at ih;exact ih r.length (by simp)

theorem yc {l l' : List Int} (h : zak l) (h' : zak l') (he : ∀ i, cf l i = cf l' i) : l = l' := by
 have hlen : ∀ {l l' : List Int}, zak l -> zak l' -> (∀ i, cf l i = cf l' i) -> l.length <= l'.length := by
  intro l l' h h' he;rcases Nat.lt_or_ge l'.length l.length with hlt | hge
  ·exfalso
   have h1 := h (l.length - 1) (by omega);rw [he, zE (by omega)] at h1;exact h1 rfl
  ·exact hge
 have hl : l.length = l'.length := Nat.le_antisymm (hlen h h' he) (hlen h' h fun i => (he i).symm);refine List.ext_getElem hl fun i h1 h2 => ?_;rw [<- vT h1, <- vT h2, he]

def cv (f g : Nat -> Int) : Nat -> Int
 | 0 => f 0 * g 0
 | k + 1 => f 0 * g (k + 1) + cv (fun i => f (i + 1)) g k

theorem zlF (f g : Nat -> Int) (k : Nat) : cv f g (k + 1) = f (k + 1) * g 0 + cv f (fun i => g (i + 1)) k := by
 induction k generalizing f with
 | zero => simp only [cv]; omega
 | succ k ih =>
  rw [cv, ih, cv]; omega

theorem je (f g : Nat -> Int) (k : Nat) : cv f g k = cv g f k := by
 induction k generalizing f g with
 | zero => simp only [cv]; exact Int.mul_comm _ _
 | succ k ih => rw [zlF, cv, ih, Int.mul_comm]

theorem zgh (f f' g : Nat -> Int) (k : Nat) : cv (fun i => f i + f' i) g k = cv f g k + cv f' g k := by
 induction k generalizing f f' with
 | zero => simp only [cv]; exact Int.add_mul _ _ _
 | succ k ih => simp only [cv, ih, Int.add_mul]; omega

theorem zjI (a : Int) (f g : Nat -> Int) (k : Nat) : cv (fun i => a * f i) g k = a * cv f g k := by
 induction k generalizing f with
 | zero => simp only [cv]; exact Int.mul_assoc _ _ _
 | succ k ih => simp only [cv, ih, Int.mul_add, Int.mul_assoc]

theorem zlG (f g h : Nat -> Int) (k : Nat) : cv (cv f g) h k = cv f (cv g h) k := by
 induction k generalizing f with
 | zero => simp only [cv]; exact Int.mul_assoc _ _ _
 | succ k ih =>
  have e : (fun i => cv f g (i + 1)) = fun i => f 0 * g (i + 1) + cv (fun i => f (i + 1)) g i := rfl;rw [cv, e, zgh, zjI, ih];simp only [cv]
  rw [Int.mul_add, Int.mul_assoc]; omega

theorem yB {f g : Nat -> Int} {k : Nat} (hf : ∀ i, i <= k -> f i = 0) : cv f g k = 0 := by
 induction k generalizing f with
 | zero => simp [cv, hf 0 (Nat.le_refl _)]
 | succ k ih => simp only [cv, hf 0 (Nat.zero_le _), ih (f := fun i => f (i + 1)) (fun i hi => hf _ (by omega))]; simp

theorem znz {f g : Nat -> Int} {n m : Nat} (hf : ∀ i, n <= i -> f i = 0) (hg : ∀ i, m <= i -> g i = 0) {k : Nat} (hk : n + m <= k + 1) : cv f g k = 0 := by
 induction n generalizing f k with
 | zero => exact yB fun i _ => hf i (Nat.zero_le _)
 | succ n ih =>
  cases k with
  | zero => simp only [cv, hg 0 (by omega), Int.mul_zero]
  | succ k => simp only [cv, hg (k + 1) (by omega), ih (f := fun i => f (i + 1)) (fun i hi => hf _ (by omega)) (k := k) (by omega)]; simp

theorem zlH {f g : Nat -> Int} {n m : Nat} (hf : ∀ i, n < i -> f i = 0) (hg : ∀ i, m < i -> g i = 0) : cv f g (n + m) = f n * g m := by
 induction n generalizing f with
 | zero =>
  cases m with
  | zero => rfl
  | succ m =>
   rw [show 0 + (m + 1) = m + 1 from by omega, cv, yB (f := fun i => f (i + 1)) (fun i _ => hf _ (by omega))]; simp
 | succ n ih =>
  rw [show n + 1 + m = n + m + 1 from by omega, cv, hg (n + m + 1) (by omega), ih (f := fun i => f (i + 1)) (fun i hi => hf _ (by omega))]; simp

theorem zlI (g : Nat -> Int) (k : Nat) : cv (cf [1]) g k = g k := by
 cases k with
 | zero => simp [cv, cf]
 | succ k =>
  rw [cv, yB (f := fun i => cf [1] (i + 1)) (fun i _ => by simp [cf])];simp [cf]

theorem jY (p : Int) (f g : Nat -> Int) (k : Nat) : cv (fun i => f i % p) g k % p = cv f g k % p := by
 induction k generalizing f with
 | zero => simp only [cv]; rw [Int.mul_emod, Int.emod_emod_of_dvd _ (Int.dvd_refl p), <- Int.mul_emod]
 | succ k ih =>
  simp only [cv]
  rw [Int.add_emod, ih (fun i => f (i + 1)), Int.mul_emod, Int.emod_emod_of_dvd _ (Int.dvd_refl p), <- Int.mul_emod, <- Int.add_emod]

theorem zm7 (p a : Int) : (-(a % p)) % p = (-a) % p := by
 rw [show -(a % p) = -1 * (a % p) from by omega, show -a = -1 * a from by omega, Int.mul_emod, Int.emod_emod_of_dvd _ (Int.dvd_refl p), <- Int.mul_emod]

def mkL (n : Nat) (f : Nat -> Int) : List Int := (List.range n).map f
theorem vI (n : Nat) (f : Nat -> Int) (i : Nat) : cf (mkL n f) i = if i < n then f i else 0 := by
 split
 ·rename_i h
  rw [vT (by simpa [mkL] using h)]; simp [mkL]
 ·rename_i h
  exact zE (by simpa [mkL] using h)
theorem zS (n : Nat) (f : Nat -> Int) : (mkL n f).length = n := by simp [mkL]

def yu (a b : List Int) : List Int := mkL (max a.length b.length) fun i => cf a i + cf b i
def z0 (a b : List Int) : List Int := mkL (a.length + b.length - 1) (cv (cf a) (cf b))
def zQ (c : Int) (a : List Int) : List Int := a.map (c * ·)

theorem yK (a b : List Int) (i : Nat) : cf (yu a b) i = cf a i + cf b i := by
 rw [yu, vI]
 split
 ·rfl
 ·rename_i h
  rw [zE (by omega), zE (by omega)]; rfl
theorem vP (a b : List Int) (i : Nat) : cf (z0 a b) i = cv (cf a) (cf b) i := by
 rw [z0, vI]
 split
 ·rfl
 ·rename_i h
  exact (znz (n := a.length) (m := b.length) (fun i hi => zE hi) (fun i hi => zE hi) (by omega)).symm
theorem xF (c : Int) (a : List Int) (i : Nat) : cf (zQ c a) i = c * cf a i := by
 by_cases h : i < a.length
 ·rw [vT (by simpa [zQ] using h), vT h]; simp [zQ]
 ·rw [zE (by simpa [zQ] using h), zE (by omega)]; simp
theorem zkE (p : Int) (a : List Int) (i : Nat) : cf (a.map (· % p)) i = cf a i % p := by
 by_cases h : i < a.length
 ·rw [vT (by simpa using h), vT h]; simp
 ·rw [zE (by simpa using h), zE (by omega)]; simp

def nrm (p : Int) (a : List Int) : List Int := zj (a.map (· % p))
theorem v8 (p : Int) (a : List Int) (i : Nat) : cf (nrm p a) i = cf a i % p := by rw [nrm, yj, zkE]
theorem yY (p : Int) (a : List Int) : zak (nrm p a) := yU _

class Pos (p : Int) : Prop where
 pos : 0 < p

def Nrm (p : Int) (l : List Int) : Prop := (∀ x ∈ l, 0 <= x ∧ x < p) ∧ zak l

theorem znO {p : Int} [h : Pos p] (a : List Int) : Nrm p (nrm p a) := by
 refine ⟨fun x hx => ?_, yY p a⟩;have := zkD hx;rw [List.mem_map] at this;obtain ⟨y, _, rfl⟩ := this;exact ⟨Int.emod_nonneg _ (by have := h.pos; omega), Int.emod_lt_of_pos _ h.pos⟩

theorem Nrm.cf_mod {p : Int} {l : List Int} (h : Nrm p l) (i : Nat) : cf l i % p = cf l i := by
 by_cases hi : i < l.length
 ·rw [vT hi];have := h.1 _ (List.getElem_mem hi);exact Int.emod_eq_of_lt this.1 this.2
 ·rw [zE (by omega)]; simp
theorem zlJ {p : Int} {l : List Int} (h : Nrm p l) : nrm p l = l := yc (yY _ _) h.2 fun i => by rw [v8, h.cf_mod]

structure Poly (p : Int) where
 l : List Int
 ok : Nrm p l

namespace Poly
variable {p : Int}

theorem zfw {f g : Poly p} (h : f.l = g.l) : f = g := by
 cases f; cases g; cases h; rfl
theorem zB {f g : Poly p} (h : ∀ i, cf f.l i = cf g.l i) : f = g := zfw (yc f.ok.2 g.ok.2 h)

instance : DecidableEq (Poly p) := fun f g => if h : f.l = g.l then isTrue (zfw h) else isFalse fun e => h (e ▸ rfl)

variable [Pos p]
def of (p : Int) [Pos p] (a : List Int) : Poly p := ⟨nrm p a, znO a⟩
theorem zT (a : List Int) (i : Nat) : cf (of p a).l i = cf a i % p := v8 p a i
theorem of_l (f : Poly p) : of p f.l = f := zfw (zlJ f.ok)
theorem znA {a b : List Int} (h : ∀ i, cf a i % p = cf b i % p) : of p a = of p b := zB fun i => by rw [zT, zT, h]
instance : Add (Poly p) := ⟨fun f g => of p (yu f.l g.l)⟩
instance : Mul (Poly p) := ⟨fun f g => of p (z0 f.l g.l)⟩
instance : Neg (Poly p) := ⟨fun f => of p (zQ (-1) f.l)⟩
instance : Sub (Poly p) := ⟨fun f g => of p (yu f.l (zQ (-1) g.l))⟩
instance : NatCast (Poly p) := ⟨fun n => of p [(n : Int)]⟩
instance : IntCast (Poly p) := ⟨fun n => of p [n]⟩
instance (n : Nat) : OfNat (Poly p) n := ⟨of p [(n : Int)]⟩
instance : SMul Nat (Poly p) := ⟨fun n f => of p [(n : Int)] * f⟩
instance : SMul Int (Poly p) := ⟨fun n f => of p [n] * f⟩
def npow (f : Poly p) : Nat -> Poly p
 | 0 => 1
 | n + 1 => npow f n * f
instance : HPow (Poly p) Nat (Poly p) := ⟨npow⟩

theorem yF (f g : Poly p) (i : Nat) : cf (f + g).l i = (cf f.l i + cf g.l i) % p := by
 show cf (of p _).l i = _
 rw [zT, yK]
theorem yG (f g : Poly p) (i : Nat) : cf (f * g).l i = cv (cf f.l) (cf g.l) i % p := by
 show cf (of p _).l i = _
 rw [zT, vP]
theorem zlK (f : Poly p) (i : Nat) : cf (-f).l i = (-cf f.l i) % p := by
 show cf (of p _).l i = _
 rw [zT, xF]; congr 1; omega
theorem jy (f g : Poly p) (i : Nat) : cf (f - g).l i = (cf f.l i - cf g.l i) % p := by
 show cf (of p _).l i = _
 rw [zT, yK, xF]; congr 1; omega
theorem jz : (0 : Poly p).l = [] := by
 refine yc (0 : Poly p).ok.2 (fun n h => by simp at h) fun i => ?_;show cf (of p [((0 : Nat) : Int)]).l i = _
 rw [zT, yq];cases i with
 | zero => simp [cf]
 | succ i => rw [zv, yq]; simp
theorem yC (i : Nat) : cf (0 : Poly p).l i = 0 := by rw [jz, yq]
theorem zgi (i : Nat) : cf (1 : Poly p).l i = cf [1] i % p := zT _ _

theorem znP (a b : List Int) : of p (yu a b) = of p a + of p b := zB fun i => by
 rw [zT, yK, yF, zT, zT]; exact Int.add_emod _ _ _
theorem zjJ {p : Int} (f g : Nat -> Int) (k : Nat) : cv (fun i => f i % p) (fun i => g i % p) k % p = cv f g k % p := by
 rw [jY, je, jY, je]
theorem zfx (a : List Int) : cf (of p a).l = fun i => cf a i % p := funext fun i => zT a i
theorem znQ (a b : List Int) : of p (z0 a b) = of p a * of p b := zB fun i => by
 rw [zT, vP, yG, zfx, zfx, zjJ]

theorem xy {p : Int} (f : Poly p) (i : Nat) : cf f.l i % p = cf f.l i := f.ok.cf_mod i

theorem zfy (f g : Poly p) : f + g = g + f := zB fun i => by rw [yF, yF, Int.add_comm]
theorem zkF (f : Poly p) : f + 0 = f := zB fun i => by rw [yF, yC, Int.add_zero, xy]
theorem ziG (f g h : Poly p) : f + g + h = f + (g + h) := zB fun i => by
 rw [yF, yF, yF, yF, Int.emod_add_emod, Int.add_emod_emod, Int.add_assoc]
theorem ji (f g : Poly p) : f * g = g * f := zB fun i => by rw [yG, yG, je]
theorem za8 (f g : Poly p) : cf (f * g).l = fun i => cv (cf f.l) (cf g.l) i % p := funext fun i => yG f g i
theorem zd0 (f g h : Poly p) : f * g * h = f * (g * h) := zB fun i => by
 rw [yG, za8, jY, yG, za8, je (cf f.l), jY, zlG, je (cf f.l)]
theorem zlL (f : Poly p) : 1 * f = f := zB fun i => by
 have e : cf (1 : Poly p).l = fun i => cf [1] i % p := funext zgi;rw [yG, e, jY, zlI, xy]
theorem ziH (f g : Poly p) : cf (f + g).l = fun i => (cf f.l i + cf g.l i) % p := funext fun i => yF f g i
theorem zlM (f g h : Poly p) : (f + g) * h = f * h + g * h := zB fun i => by
 rw [yG, ziH, jY, zgh, yF, yG, yG, <- Int.add_emod]
theorem zc2 (f : Poly p) : -f + f = 0 := zB fun i => by
 rw [yF, zlK, yC, Int.emod_add_emod]; simp [Int.add_left_neg]
theorem zm8 (f g : Poly p) : f - g = f + -g := zB fun i => by
 rw [jy, yF, zlK, Int.add_emod_emod, Int.sub_eq_add_neg]
theorem zlN (a b : Int) : of p [a + b] = of p [a] + of p [b] := by
 rw [<- znP]; exact znA fun i => by rw [yK]; cases i <;> simp [cf]

theorem zlO (f : Poly p) : f + -f = 0 := by rw [zfy, zc2]
instance : CR (Poly p) where
 add_comm := zfy
 add_assoc := ziG
 add_zero := zkF
 add_neg := zlO
 sub_def := zm8
 mul_comm := ji
 mul_assoc := zd0
 one_mul := zlL
 add_mul := zlM
theorem zi (b : Poly p) (n : Nat) : b ^ (n + 1) = b ^ n * b := rfl
theorem zw (b : Poly p) : b ^ 0 = 1 := rfl

example (f g h : Poly p) : (f + g) * (f - g) + h * (1 + 1) = f * f - g * g + h + h := zg [f, g, h] (by rfl)

end Poly

class Pr (p : Int) : Prop extends Pos p where
 two : 2 <= p
 inv : ∀ a : Int, a % p ≠ 0 -> ∃ b : Int, a * b % p = 1

theorem Pr.mul_ne {p : Int} [h : Pr p] {a b : Int} (ha : a % p ≠ 0) (hb : b % p ≠ 0) : a * b % p ≠ 0 := by
 intro he;obtain ⟨c, hc⟩ := h.inv a ha;have h1 : a * c * b % p = b % p := by rw [Int.mul_emod, hc, Int.one_mul, Int.emod_emod_of_dvd _ (Int.dvd_refl p)]
 have h2 : a * c * b % p = 0 := by
  rw [show a * c * b = c * (a * b) from by rw [Int.mul_comm a c, Int.mul_assoc], Int.mul_emod, he, Int.mul_zero, Int.zero_emod]
 exact hb (h1.symm.trans h2)

namespace Poly
variable {p : Int}

def dg (f : Poly p) : Nat := f.l.length

theorem zY {f : Poly p} {i : Nat} (h : dg f <= i) : cf f.l i = 0 := zE h
theorem yL {f : Poly p} {n : Nat} (h : dg f = n + 1) : cf f.l n ≠ 0 := f.ok.2 n h
theorem kg {f : Poly p} {n : Nat} (h : ∀ i, n <= i -> cf f.l i = 0) : dg f <= n := by
 rcases Nat.lt_or_ge n (dg f) with hlt | hge
 ·exfalso
  exact yL (f := f) (n := dg f - 1) (by omega) (h _ (by omega))
 ·exact hge
theorem zfz {f : Poly p} {n : Nat} (h : cf f.l n ≠ 0) : n < dg f := by
 rcases Nat.lt_or_ge n (dg f) with hlt | hge
 ·exact hlt
 ·exact absurd (zY hge) h

theorem jA [Pos p] (a : List Int) : dg (of p a) <= a.length := kg fun i hi => by rw [zT, zE hi]; simp

theorem ze [Pos p] {f : Poly p} : dg f = 0 ↔ f = 0 := by
 constructor
 ·intro h;refine zB fun i => ?_;rw [yC, zY (by omega)]
 ·rintro rfl;show (0 : Poly p).l.length = 0
  rw [jz]; rfl

theorem zr [Pos p] : dg (0 : Poly p) = 0 := ze.2 rfl

theorem zgj [Pos p] (f g : Poly p) : dg (f + g) <= max (dg f) (dg g) := kg fun i hi => by
 rw [yF, zY (by omega), zY (by omega)]; simp
theorem vJ [Pos p] (f g : Poly p) : dg (f - g) <= max (dg f) (dg g) := kg fun i hi => by
 rw [jy, zY (by omega), zY (by omega)]; simp
theorem zM [Pos p] (f g : Poly p) : dg (f * g) <= dg f + dg g - 1 := kg fun i hi => by
 rw [yG, znz (n := dg f) (m := dg g) (fun i hi => zY hi) (fun i hi => zY hi) (by omega)]; simp

theorem z5 {f : Poly p} {i : Nat} (h : cf f.l i ≠ 0) : cf f.l i % p ≠ 0 := by rw [f.ok.cf_mod]; exact h

section
variable [Pr p]

theorem zhx {f g : Poly p} {n m : Nat} (hf : dg f = n + 1) (hg : dg g = m + 1) : cf (f * g).l (n + m) = cf f.l n * cf g.l m % p := by
 rw [yG, zlH (fun i hi => zY (by omega)) (fun i hi => zY (by omega))]

theorem yQ {f g : Poly p} (hf : f ≠ 0) (hg : g ≠ 0) : dg (f * g) + 1 = dg f + dg g := by
 have h1 : dg f ≠ 0 := fun h => hf (ze.1 h);have h2 : dg g ≠ 0 := fun h => hg (ze.1 h);obtain ⟨n, hn⟩ := Nat.exists_eq_succ_of_ne_zero h1;obtain ⟨m, hm⟩ := Nat.exists_eq_succ_of_ne_zero h2
 have h3 : cf (f * g).l (n + m) ≠ 0 := by
  rw [zhx hn hm];exact Pr.mul_ne (z5 (yL hn)) (z5 (yL hm))
 have h4 := zfz h3;have h5 := zM f g;omega

theorem mul_ne {f g : Poly p} (hf : f ≠ 0) (hg : g ≠ 0) : f * g ≠ 0 := by
 intro h;have h1 := yQ hf hg;have h2 : dg f ≠ 0 := fun h => hf (ze.1 h);have h3 : dg g ≠ 0 := fun h => hg (ze.1 h);rw [h, zr] at h1;omega
theorem mul_eq_zero {f g : Poly p} (h : f * g = 0) : f = 0 ∨ g = 0 := by
 by_cases hf : f = 0
 ·exact .inl hf
 ·by_cases hg : g = 0
  ·exact .inr hg
  ·exact absurd h (mul_ne hf hg)
theorem za9 {f g h : Poly p} (hf : f ≠ 0) (he : f * g = f * h) : g = h := by
 have : f * (g - h) = 0 := by exact comb (1) he (zg [f, g, h] (by rfl))
 rcases mul_eq_zero this with h1 | h1
 ·exact absurd h1 hf
 ·exact comb (1) h1 (zg [g, h] (by rfl))

theorem zd1 : (1 : Poly p) ≠ 0 := by
 intro h;have h1 := zgi (p := p) 0;rw [h, yC, zV, Int.emod_eq_of_lt (by omega) (by have := Pr.two (p := p); omega)] at h1;cases h1
theorem y7 : dg (1 : Poly p) = 1 := by
 have h1 : dg (1 : Poly p) <= 1 := jA [((1 : Nat) : Int)];have h2 : dg (1 : Poly p) ≠ 0 := fun h => zd1 (ze.1 h);omega
end

def mono (p : Int) [Pos p] (c : Int) (k : Nat) : Poly p := of p (List.replicate k 0 ++ [c])
theorem zlP (c : Int) (k i : Nat) : cf (List.replicate k 0 ++ [c]) i = if i = k then c else 0 := by
 induction k generalizing i with
 | zero => cases i with
  | zero => rfl
  | succ i => simp [cf]
 | succ k ih =>
  cases i with
  | zero => simp [cf, List.replicate_succ]
  | succ i =>
   rw [List.replicate_succ, List.cons_append, zv, ih];simp
theorem cv_mono (c : Int) (k : Nat) (g : Nat -> Int) (i : Nat) : cv (fun j => if j = k then c else 0) g i = if k <= i then c * g (i - k) else 0 := by
 induction k generalizing i with
 | zero =>
  cases i with
  | zero => simp [cv]
  | succ i =>
   rw [cv, yB (f := fun j => if j + 1 = 0 then c else 0) (fun i _ => by simp)];simp
 | succ k ih =>
  cases i with
  | zero => simp [cv]
  | succ i =>
   rw [cv];have : (fun j => if j + 1 = k + 1 then c else 0) = fun j => if j = k then c else 0 := by funext j; simp
   rw [this, ih];simp
theorem kC [Pos p] (c : Int) (k i : Nat) : cf (mono p c k).l i = if i = k then c % p else 0 := by
 rw [mono, zT, zlP]; split <;> simp
theorem vV [Pos p] (c : Int) (k : Nat) (g : Poly p) (i : Nat) : cf (mono p c k * g).l i = if k <= i then c * cf g.l (i - k) % p else 0 := by
 have e : cf (mono p c k).l = fun i => (if i = k then c else 0) % p := funext fun i => by rw [kC]; split <;> simp
 rw [yG, e, jY, cv_mono]; split <;> simp

section
variable [Pr p]

theorem kD (g : Poly p) (hg : g ≠ 0) : ∀ (n : Nat) (f : Poly p), dg f <= n -> ∃ q r : Poly p, f = q * g + r ∧ dg r < dg g := by
 have hg0 : dg g ≠ 0 := fun h => hg (ze.1 h);intro n
 induction n with
 | zero =>
  intro f hf;exact ⟨0, f, by exact zg [f, g] (by rfl), by omega⟩
 | succ n ih =>
  intro f hf
  by_cases hlt : dg f < dg g
  ·exact ⟨0, f, by exact zg [f, g] (by rfl), hlt⟩
  ·by_cases hle : dg f <= n
   ·exact ih f hle
   ·obtain ⟨m, hm⟩ := Nat.exists_eq_succ_of_ne_zero hg0;obtain ⟨b, hb⟩ := Pr.inv (p := p) _ (z5 (yL hm))
    obtain ⟨q, r, h1, h2⟩ := ih (f - mono p (cf f.l n * b) (n - m) * g) (by
     refine kg fun i hi => ?_;rw [jy, vV, if_pos (by omega)];rcases Nat.eq_or_lt_of_le hi with rfl | hlt'
     ·rw [show n - (n - m) = m by omega];rw [Int.sub_emod, Int.emod_emod_of_dvd _ (Int.dvd_refl p), <- Int.sub_emod]
      have : cf f.l n - cf f.l n * b * cf g.l m = cf f.l n * (1 - cf g.l m * b) := by
       rw [Int.mul_sub, Int.mul_one, Int.mul_assoc, Int.mul_comm b]
      rw [this, Int.mul_emod, Int.sub_emod, hb];have h1 : (1 : Int) % p = 1 := Int.emod_eq_of_lt (by omega) (by have := Pr.two (p := p); omega);rw [h1]; simp
     ·rw [zY (f := f) (by omega), zY (f := g) (by omega)]; simp)
    exact ⟨q + mono p (cf f.l n * b) (n - m), r, by exact comb (1) h1 (zg [f, q, mono p (cf f.l n * b) (n - m), g, r] (by rfl)), h2⟩

theorem ziI {f g q r q' r' : Poly p} (h : f = q * g + r) (hr : dg r < dg g) (h' : f = q' * g + r') (hr' : dg r' < dg g) : q = q' ∧ r = r' := by
 have h1 : (q - q') * g = r' - r := by exact comb (1) h' (comb (-1) h (zg [f, q, g, r, q', r'] (by rfl)))
 by_cases hq : q - q' = 0
 ·refine ⟨by exact comb (1) hq (zg [q, q'] (by rfl)), ?_⟩;rw [hq] at h1;exact comb (1) h1 (zg [r, r', g] (by rfl))
 ·exfalso
  have hg : g ≠ 0 := fun h => by rw [h, zr] at hr; omega
  have h2 := yQ hq hg;rw [h1] at h2;have h3 := vJ r' r;have h4 : dg (q - q') ≠ 0 := fun h => hq (ze.1 h);omega

open Classical in
noncomputable def zm9 (f g : Poly p) : Poly p × Poly p := if hg : g = 0 then (0, f) else ⟨(kD g hg _ f (Nat.le_refl _)).choose, (kD g hg _ f (Nat.le_refl _)).choose_spec.choose⟩
noncomputable def quo (f g : Poly p) : Poly p := (zm9 f g).1
noncomputable def rem (f g : Poly p) : Poly p := (zm9 f g).2

theorem vK (f g : Poly p) : f = quo f g * g + rem f g := by
 unfold quo rem zm9
 split
 ·show f = 0 * g + f; exact zg [f, g] (by rfl)
 ·rename_i hg
  exact (kD g hg _ f (Nat.le_refl _)).choose_spec.choose_spec.1
theorem zI (f : Poly p) {g : Poly p} (hg : g ≠ 0) : dg (rem f g) < dg g := by
 unfold rem zm9;rw [dif_neg hg];exact (kD g hg _ f (Nat.le_refl _)).choose_spec.choose_spec.2
theorem zcg {f g q r : Poly p} (h : f = q * g + r) (hr : dg r < dg g) : quo f g = q ∧ rem f g = r := by
 have hg : g ≠ 0 := fun h => by rw [h, zr] at hr; omega
 exact ziI (vK f g) (zI f hg) h hr

def Dvd' (g f : Poly p) : Prop := ∃ q, f = g * q
instance : Dvd (Poly p) := ⟨Dvd'⟩
theorem dvd_refl (f : Poly p) : f ∣ f := ⟨1, by exact zg [f] (by rfl)⟩
theorem dvd_zero (f : Poly p) : f ∣ 0 := ⟨0, by exact zg [f] (by rfl)⟩
theorem zdd (f : Poly p) : 1 ∣ f := ⟨f, by exact zg [f] (by rfl)⟩
theorem dvd_trans {f g h : Poly p} (h1 : f ∣ g) (h2 : g ∣ h) : f ∣ h := by
 obtain ⟨a, rfl⟩ := h1;obtain ⟨b, rfl⟩ := h2;exact ⟨a * b, by exact zg [f, a, b] (by rfl)⟩
theorem z8 {f g : Poly p} (h : Poly p) (h1 : f ∣ g) : f ∣ h * g := by
 obtain ⟨a, rfl⟩ := h1;exact ⟨h * a, by exact zg [f, a, h] (by rfl)⟩
theorem y3 {f g : Poly p} (h : Poly p) (h1 : f ∣ g) : f ∣ g * h := by
 obtain ⟨a, rfl⟩ := h1;exact ⟨a * h, by exact zg [f, a, h] (by rfl)⟩
theorem dvd_add {f g h : Poly p} (h1 : f ∣ g) (h2 : f ∣ h) : f ∣ g + h := by
 obtain ⟨a, rfl⟩ := h1;obtain ⟨b, rfl⟩ := h2;exact ⟨a + b, by exact zg [f, a, b] (by rfl)⟩
theorem dvd_sub {f g h : Poly p} (h1 : f ∣ g) (h2 : f ∣ h) : f ∣ g - h := by
 obtain ⟨a, rfl⟩ := h1;obtain ⟨b, rfl⟩ := h2;exact ⟨a - b, by exact zg [f, a, b] (by rfl)⟩
theorem zal {g f : Poly p} (hg : g ≠ 0) : g ∣ f ↔ rem f g = 0 := by
 constructor
 ·rintro ⟨q, rfl⟩;exact (zcg (q := q) (r := 0) (by exact zg [g, q] (by rfl)) (by rw [zr]; have : dg g ≠ 0 := fun h => hg (ze.1 h); omega)).2
 ·intro h;have := vK f g;rw [h] at this;exact ⟨quo f g, by exact comb (1) this (zg [f, g, quo f g] (by rfl))⟩
theorem zF {g f : Poly p} (h : g ∣ f) (hf : f ≠ 0) : dg g <= dg f := by
 obtain ⟨q, rfl⟩ := h;have hg : g ≠ 0 := fun h => hf (by rw [h]; exact zg [q] (by rfl));have hq : q ≠ 0 := fun h => hf (by rw [h]; exact zg [g] (by rfl));have h1 := yQ hg hq;have : dg q ≠ 0 := fun h => hq (ze.1 h);omega
theorem zd2 {g f : Poly p} (h : g ∣ f) (hf : f ≠ 0) : g ≠ 0 := by
 rintro rfl;obtain ⟨q, rfl⟩ := h;exact hf (by exact zg [q] (by rfl))
end

end Poly
namespace Poly
variable {p : Int} [Pr p]

def con (p : Int) [Pos p] (c : Int) : Poly p := of p [c]
theorem xS (c : Int) (i : Nat) : cf (con p c).l i = if i = 0 then c % p else 0 := by
 rw [con, zT]; cases i <;> simp [cf]
theorem zd3 (c : Int) (f : Poly p) (i : Nat) : cf (con p c * f).l i = c * cf f.l i % p := by
 have e : cf (con p c).l = fun i => c * cf [1] i % p := funext fun i => by rw [xS]; cases i <;> simp [cf]
 rw [yG, e, jY, zjI, zlI]
theorem zbE (a b : Int) : con p a * con p b = con p (a * b) := zB fun i => by
 rw [zd3, xS, xS]; split <;> simp [Int.mul_emod]
theorem zgk (a b : Int) : con p a + con p b = con p (a + b) := (zlN a b).symm
theorem zde (a b : Int) : con p a - con p b = con p (a - b) := zB fun i => by
 rw [jy, xS, xS, xS]; split
 ·exact (Int.sub_emod _ _ _).symm
 ·simp
theorem zaG (a : Int) : con p (a % p) = con p a := zB fun i => by rw [xS, xS]; simp
theorem xG : con p 0 = 0 := zB fun i => by rw [xS, yC]; simp
theorem kE : con p 1 = 1 := rfl
theorem xW {a : Int} : con p a = 0 ↔ a % p = 0 := by
 constructor
 ·intro h;have := xS (p := p) a 0;rw [h, yC] at this
  simpa using this.symm
 ·intro h;rw [<- zaG, h, xG]
theorem vL (a : Int) : dg (con p a) <= 1 := jA [a]
theorem ziJ {a : Int} (h : a % p ≠ 0) : dg (con p a) = 1 := by
 have h1 := vL (p := p) a;have h2 : dg (con p a) ≠ 0 := fun h' => h (xW.1 (ze.1 h'));omega
theorem zch {f : Poly p} (h : dg f <= 1) : f = con p (cf f.l 0) := zB fun i => by
 rw [xS];cases i with
 | zero => simp [xy]
 | succ i => rw [zY (by omega)]; simp

theorem kh {u : Poly p} (h : dg u = 1) : ∃ v, u * v = 1 := by
 have h0 := yL (f := u) (n := 0) h;obtain ⟨b, hb⟩ := Pr.inv (p := p) _ (z5 h0);refine ⟨con p b, ?_⟩;rw [zch (f := u) (by omega), zbE, <- zaG, hb]; rfl
theorem zhy {u : Poly p} (h : dg u = 1) (f : Poly p) : u ∣ f := by
 obtain ⟨v, hv⟩ := kh h;exact ⟨v * f, by exact comb (-f) hv (zg [f, u, v] (by rfl))⟩
theorem zbF {u f : Poly p} (h : dg u = 1) (hf : f ∣ u) : dg f = 1 := by
 have hu : u ≠ 0 := fun e => by rw [e, zr] at h; cases h
 have h1 := zF hf hu;have h2 : dg f ≠ 0 := fun e => zd2 hf hu (ze.1 e);omega

def lc (f : Poly p) : Int := cf f.l (dg f - 1)
def Mon (f : Poly p) : Prop := f ≠ 0 ∧ lc f = 1
theorem zok {f : Poly p} (h : f ≠ 0) : lc f ≠ 0 := by
 have : dg f ≠ 0 := fun e => h (ze.1 e);exact yL (n := dg f - 1) (by omega)
theorem zd4 {f g : Poly p} (hf : f ≠ 0) (hg : g ≠ 0) : lc (f * g) = lc f * lc g % p := by
 have h1 : dg f ≠ 0 := fun e => hf (ze.1 e);have h2 : dg g ≠ 0 := fun e => hg (ze.1 e);have h3 := yQ hf hg;have := zhx (f := f) (g := g) (n := dg f - 1) (m := dg g - 1) (by omega) (by omega);unfold lc;rw [show dg (f * g) - 1 = dg f - 1 + (dg g - 1) by omega, this]
theorem zjK : (1 : Int) % p = 1 := Int.emod_eq_of_lt (by omega) (by have := Pr.two (p := p); omega)
theorem Mon.mul {f g : Poly p} (hf : Mon f) (hg : Mon g) : Mon (f * g) :=
 ⟨mul_ne hf.1 hg.1, by rw [zd4 hf.1 hg.1, hf.2, hg.2]; exact zjK⟩
theorem zgl : Mon (1 : Poly p) := ⟨zd1, by
 unfold lc;rw [y7, zgi];exact zjK⟩
theorem Mon.right {f g : Poly p} (hf : Mon f) (h : Mon (f * g)) : Mon g := by
 have hg : g ≠ 0 := fun e => h.1 (by rw [e]; exact zg [f] (by rfl));refine ⟨hg, ?_⟩;have := zd4 hf.1 hg;rw [h.2, hf.2, Int.one_mul] at this;rw [this]; exact (xy g _).symm
theorem zlQ {c : Int} (h : c % p ≠ 0) : lc (con p c) = c % p := by
 unfold lc;rw [ziJ h, xS]; rfl
theorem zgm {c : Int} (h : c % p ≠ 0) : con p c ≠ 0 := fun e => h (xW.1 e)
theorem kF {f : Poly p} (hf : f ≠ 0) : ∃ c : Int, c % p ≠ 0 ∧ Mon (con p c * f) := by
 obtain ⟨b, hb⟩ := Pr.inv (p := p) (lc f) (z5 (zok hf))
 have hb' : b % p ≠ 0 := by
  intro h;rw [Int.mul_emod, h, Int.mul_zero, Int.zero_emod] at hb; cases hb
 refine ⟨b, hb', mul_ne (zgm hb') hf, ?_⟩;rw [zd4 (zgm hb') hf, zlQ hb', Int.mul_comm, Int.mul_emod, Int.emod_emod_of_dvd _ (Int.dvd_refl p), <- Int.mul_emod, hb]

theorem ziK {f g : Poly p} (hf : Mon f) (hg : Mon g) (h1 : f ∣ g) (h2 : g ∣ f) : f = g := by
 obtain ⟨q, rfl⟩ := h1;have h3 := zF h2 hf.1;have hq : q ≠ 0 := fun e => hg.1 (by rw [e]; exact zg [f] (by rfl));have h4 := yQ hf.1 hq;have h5 : dg q ≠ 0 := fun e => hq (ze.1 e);have h6 : q = con p (cf q.l 0) := zch (by omega);have h7 := hf.right hg
 have h8 : cf q.l 0 = 1 := by
  have := h7.2;unfold lc at this
  rwa [show dg q - 1 = 0 by omega] at this
 rw [h6, h8, kE]; exact zg [f] (by rfl)

open Classical in
noncomputable def mnc (f : Poly p) : Poly p := if h : f = 0 then 0 else con p (kF h).choose * f
theorem zhz : mnc (0 : Poly p) = 0 := by simp [mnc]
theorem jO {f : Poly p} (h : f ≠ 0) : Mon (mnc f) := by
 unfold mnc; rw [dif_neg h]; exact (kF h).choose_spec.2
theorem yg (f : Poly p) : mnc f ∣ f ∧ f ∣ mnc f := by
 unfold mnc
 split
 ·rename_i h; rw [h]; exact ⟨dvd_refl _, dvd_refl _⟩
 ·rename_i h
  obtain ⟨v, hv⟩ := kh (ziJ (kF h).choose_spec.1);generalize (kF h).choose = c at hv;exact ⟨⟨v, by exact comb (-f) hv (zg [f, con p c, v] (by rfl))⟩, ⟨con p c, by exact zg [f, con p c] (by rfl)⟩⟩
theorem znR {f : Poly p} {c : Int} (h : Mon (con p c * f)) : mnc f = con p c * f := by
 have hf : f ≠ 0 := fun e => h.1 (by rw [e]; exact zg [con p c] (by rfl));have hc : c % p ≠ 0 := fun e => h.1 (by rw [xW.2 e]; exact zg [f] (by rfl));obtain ⟨v, hv⟩ := kh (ziJ hc);refine ziK (jO hf) h (z8 _ (yg f).1) ?_;exact dvd_trans ⟨v, by exact comb (-f) hv (zg [f, con p c, v] (by rfl))⟩ (yg f).2

noncomputable def gcd (f g : Poly p) : Poly p :=
 if h : dg g = 0 then mnc f else have : dg (rem f g) < dg g := zI f fun e => h (ze.2 e); gcd g (rem f g)
termination_by dg g

theorem zd5 (f : Poly p) : gcd f 0 = mnc f := by rw [gcd, dif_pos zr]
theorem ziL (f : Poly p) {g : Poly p} (h : g ≠ 0) : gcd f g = gcd g (rem f g) := by rw [gcd, dif_neg fun e => h (ze.1 e)]

theorem zbG : ∀ (n : Nat) (f g : Poly p), dg g <= n -> (gcd f g ∣ f ∧ gcd f g ∣ g) ∧ (∃ a b, gcd f g = a * f + b * g) ∧ (f ≠ 0 ∨ g ≠ 0 -> Mon (gcd f g)) := by
 intro n
 induction n with
 | zero =>
  intro f g h;obtain rfl := ze.1 (by omega : dg g = 0);rw [zd5];obtain ⟨h1, c, hc⟩ := yg f;refine ⟨⟨h1, dvd_zero _⟩, ⟨c, 0, by rw [hc]; exact zg [f, c] (by rfl)⟩, fun h => jO (h.resolve_right fun h => h rfl)⟩
 | succ n ih =>
  intro f g h
  by_cases hg : g = 0
  ·subst hg;exact ih f 0 (by rw [zr]; omega)
  ·rw [ziL f hg];have h0 := zI f hg;obtain ⟨⟨h1, h2⟩, ⟨a, b, h3⟩, h4⟩ := ih g (rem f g) (by omega);have h5 := vK f g;refine ⟨⟨?_, h1⟩, ⟨b, a - b * quo f g, ?_⟩, fun _ => h4 (.inl hg)⟩
   ·have := dvd_add (z8 (quo f g) h1) h2
    rwa [<- h5] at this
   ·rw [h3]; exact comb (-b) h5 (zg [a, b, f, g, rem f g, quo f g] (by rfl))

theorem vo (f g : Poly p) : gcd f g ∣ f := (zbG _ f g (Nat.le_refl _)).1.1
theorem xX (f g : Poly p) : gcd f g ∣ g := (zbG _ f g (Nat.le_refl _)).1.2
theorem zhA (f g : Poly p) : ∃ a b, gcd f g = a * f + b * g := (zbG _ f g (Nat.le_refl _)).2.1
theorem zbH {f g : Poly p} (h : f ≠ 0 ∨ g ≠ 0) : Mon (gcd f g) := (zbG _ f g (Nat.le_refl _)).2.2 h
theorem zjL {h f g : Poly p} (h1 : h ∣ f) (h2 : h ∣ g) : h ∣ gcd f g := by
 obtain ⟨a, b, he⟩ := zhA f g;rw [he];exact dvd_add (z8 _ h1) (z8 _ h2)

def Cop (f g : Poly p) : Prop := ∃ a b, a * f + b * g = 1
theorem Cop.symm {f g : Poly p} (h : Cop f g) : Cop g f := by
 obtain ⟨a, b, h⟩ := h;exact ⟨b, a, by exact comb (1) h (zg [a, b, f, g] (by rfl))⟩
theorem zd6 {f g : Poly p} (h : dg (gcd f g) = 1) : Cop f g := by
 obtain ⟨a, b, he⟩ := zhA f g;obtain ⟨v, hv⟩ := kh h;exact ⟨v * a, v * b, by exact comb (1) hv (comb (-v) he (zg [v, a, b, f, g, gcd f g] (by rfl)))⟩
theorem Cop.mul {f g h : Poly p} (h1 : Cop f h) (h2 : Cop g h) : Cop (f * g) h := by
 obtain ⟨a, b, h1⟩ := h1;obtain ⟨c, d, h2⟩ := h2;exact ⟨a * c, a * f * d + b * c * g + b * d * h, by exact comb (c*g+d*h) h1 (comb (1) h2 (zg [a, b, c, d, f, g, h] (by rfl)))⟩
theorem Cop.dvd {f g h : Poly p} (h1 : Cop f g) (h2 : f ∣ g * h) : f ∣ h := by
 obtain ⟨a, b, h1⟩ := h1;obtain ⟨q, h2⟩ := h2;exact ⟨a * h + b * q, by exact comb (-h) h1 (comb (b) h2 (zg [a, b, f, g, h, q] (by rfl)))⟩
theorem Cop.mul_dvd {f g h : Poly p} (h1 : Cop f g) (h2 : f ∣ h) (h3 : g ∣ h) : f * g ∣ h := by
 obtain ⟨a, b, h1⟩ := h1;obtain ⟨q, h2⟩ := h2;obtain ⟨r, h3⟩ := h3;exact ⟨a * r + b * q, by exact comb (-h) h1 (comb (b*g) h2 (comb (a*f) h3 (zg [a, b, f, g, h, q, r] (by rfl))))⟩
theorem zgn (f : Poly p) : Cop 1 f := ⟨1, 0, by exact zg [f] (by rfl)⟩
theorem Cop.pow {f g : Poly p} (h : Cop f g) (n : Nat) : Cop (f ^ n) g := by
  induction n with
  | zero => have : f ^ 0 = 1 := by exact zw f
            rw [this]; exact zgn g
  | succ n ih => have : f ^ (n + 1) = f ^ n * f := by exact zi f n
                 rw [this]; exact ih.mul h

def Irr (h : Poly p) : Prop := 2 <= dg h ∧ ∀ a b, h = a * b -> dg a = 1 ∨ dg b = 1

theorem Irr.ne {h : Poly p} (hi : Irr h) : h ≠ 0 := fun e => by have := hi.1; rw [e, zr] at this; omega

theorem Irr.cop {h a : Poly p} (hi : Irr h) (hn : ¬ h ∣ a) : Cop h a := by
 obtain ⟨q, hq⟩ := vo h a;rcases hi.2 _ _ hq with h1 | h1
 ·exact zd6 h1
 ·exfalso
  obtain ⟨v, hv⟩ := kh h1;exact hn (dvd_trans ⟨v, by exact comb (-(gcd h a)) hv (comb (-v) hq (zg [gcd h a, h, q, v] (by rfl)))⟩ (xX h a))
theorem Irr.prime {h a b : Poly p} (hi : Irr h) (hd : h ∣ a * b) : h ∣ a ∨ h ∣ b := by
 by_cases ha : h ∣ a
 ·exact .inl ha
 ·exact .inr ((hi.cop ha).dvd hd)
theorem Irr.not_unit {h u : Poly p} (hi : Irr h) (hu : dg u = 1) : ¬ h ∣ u := fun hd => by
 have := zbF hu hd;have := hi.1;omega
theorem Irr.pow {h a : Poly p} (hi : Irr h) {n : Nat} (hd : h ∣ a ^ n) : h ∣ a := by
 induction n with
 | zero =>
  have e : a ^ 0 = 1 := by exact zw a
  rw [e] at hd;exact absurd hd (hi.not_unit y7)
 | succ n ih =>
  have e : a ^ (n + 1) = a ^ n * a := by exact zi a n
  rw [e] at hd;exact (hi.prime hd).elim ih id

theorem jB {g h : Poly p} (hg : Irr g) (hh : Irr h) (mg : Mon g) (mh : Mon h) (hd : g ∣ h) : g = h := by
 refine ziK mg mh hd ?_;obtain ⟨q, rfl⟩ := hd;rcases hh.2 _ _ rfl with h1 | h1
 ·exact absurd h1 (by have := hg.1; omega)
 ·obtain ⟨v, hv⟩ := kh h1;exact ⟨v, by exact comb (-g) hv (zg [g, q, v] (by rfl))⟩

theorem kG {h : Poly p} (hi : Irr h) : Irr (mnc h) ∧ Mon (mnc h) := by
 refine ⟨?_, jO hi.ne⟩;obtain ⟨⟨q, hq⟩, ⟨r, hr⟩⟩ := yg h;have h1 := zF (yg h).1 hi.ne;have h2 := zF (yg h).2 (jO hi.ne).1;refine ⟨by have := hi.1; omega, fun a b hab => ?_⟩
 have hq1 : dg q = 1 := by
  have hm := (jO hi.ne).1;have hq0 : q ≠ 0 := fun e => hi.ne (by rw [hq, e]; exact zg [mnc h] (by rfl));have := yQ hm hq0;rw [<- hq] at this;omega
 rcases hi.2 a (b * q) (by exact comb (1) hq (comb (q) hab (zg [h, a, b, q, mnc h] (by rfl)))) with h3 | h3
 ·exact .inl h3
 ·exact .inr (zbF h3 ⟨q, rfl⟩)

theorem vM : ∀ (n : Nat) (f : Poly p), dg f <= n -> 2 <= dg f -> ∃ h, Irr h ∧ Mon h ∧ h ∣ f := by
 intro n
 induction n with
 | zero => intro f h1 h2; omega
 | succ n ih =>
  intro f h1 h2;have hf : f ≠ 0 := fun e => by rw [e, zr] at h2; omega
  by_cases hi : Irr f
  ·exact ⟨mnc f, (kG hi).1, (kG hi).2, (yg f).1⟩
  ·unfold Irr at hi;simp only [not_and, Classical.not_forall, not_or] at hi
   obtain ⟨a, b, rfl, ha, hb⟩ := hi h2;have ha0 : a ≠ 0 := fun e => hf (by rw [e]; exact zg [b] (by rfl));have hb0 : b ≠ 0 := fun e => hf (by rw [e]; exact zg [a] (by rfl));have h3 := yQ ha0 hb0;have h4 : dg a ≠ 0 := fun e => ha0 (ze.1 e);have h5 : dg b ≠ 0 := fun e => hb0 (ze.1 e);obtain ⟨h, h6, h7, h8⟩ := ih a (by omega) (by omega);exact ⟨h, h6, h7, y3 _ h8⟩

def Sqf (f : Poly p) : Prop := ∀ h, Irr h -> ¬ h * h ∣ f

theorem zba {f g : Poly p} (hf : f ≠ 0) (h : ∀ h, Irr h -> h ∣ f -> h ∣ g -> False) : Cop f g := by
 have hm := zbH (f := f) (g := g) (.inl hf);have h0 : dg (gcd f g) ≠ 0 := fun e => hm.1 (ze.1 e)
 by_cases h1 : dg (gcd f g) = 1
 ·exact zd6 h1
 ·obtain ⟨q, h2, _, h3⟩ := vM _ (gcd f g) (Nat.le_refl _) (by omega);exact (h q h2 (dvd_trans h3 (vo f g)) (dvd_trans h3 (xX f g))).elim

theorem Sqf.cop {f a b : Poly p} (hs : Sqf f) (hf : f ≠ 0) (h : a * b ∣ f) : Cop a b := by
 have ha : a ≠ 0 := fun e => zd2 h hf (by rw [e]; exact zg [b] (by rfl));refine zba ha fun q hq h1 h2 => hs q hq ?_;obtain ⟨x, rfl⟩ := h1;obtain ⟨y, rfl⟩ := h2;exact dvd_trans ⟨x * y, by exact zg [q, x, y] (by rfl)⟩ h
theorem Sqf.dvd {f g : Poly p} (hs : Sqf f) (h : g ∣ f) : Sqf g := fun q hq hd => hs q hq (dvd_trans hd h)

end Poly

def yx : List Int := [2, 3, 5, 7, 11, 13, 17, 19, 23, 29, 31, 37, 41, 43, 47, 53, 59, 61, 67, 71, 73, 79, 83, 89, 97]

def ziM (p k : Int) : List Int -> List Int -> List Int
 | x :: l, y :: l' => (x - k * y) % p :: ziM p k l l'
 | _, _ => []
def stir (p : Int) : Nat -> List Int
 | 0 => [1]
 | n + 1 => ziM p n (0 :: stir p n) (stir p n ++ [0])
def ziN (p : Int) : List Int := 0 :: (p - 1) :: (List.replicate (p.toNat - 2) 0 ++ [1])

theorem zhB : yx.all (fun p => stir p p.toNat == ziN p) = true := by decide +kernel
theorem ziO : yx.all (fun p => (List.range p.toNat).all fun a => a == 0 || (List.range p.toNat).any fun b => (a : Int) * b % p == 1) = true := by decide +kernel
theorem zbb : yx.all (fun p => decide (2 <= p ∧ p <= 97)) = true := by decide +kernel

class SP (p : Int) : Prop extends Pr p where
 le : p <= 97
 stir : stir p p.toNat = ziN p

theorem jC {p : Int} (h : p ∈ yx) : SP p := by
 have h1 := List.all_eq_true.1 zhB p h;have h2 := List.all_eq_true.1 ziO p h;have h3 := List.all_eq_true.1 zbb p h;simp only [beq_iff_eq, decide_eq_true_eq] at h1 h3
 refine { pos := by omega, two := h3.1, le := h3.2, stir := h1, inv := fun a ha => ?_ };rw [List.all_eq_true] at h2;have h4 := Int.emod_nonneg a (show p ≠ 0 by omega);have h5 := Int.emod_lt_of_pos a (show 0 < p by omega);have h6 := h2 (a % p).toNat (List.mem_range.2 (by omega));simp only [Bool.or_eq_true, beq_iff_eq, List.any_eq_true] at h6
 rcases h6 with h6 | ⟨b, _, h6⟩
 ·omega
 ·refine ⟨b, ?_⟩;rw [show ((a % p).toNat : Int) = a % p by omega, Int.mul_emod, Int.emod_emod_of_dvd _ (Int.dvd_refl p), <- Int.mul_emod] at h6;exact h6

namespace Poly
variable {p : Int} [Pr p]

def hev (a b : Poly p) : List Int -> Nat -> Poly p
 | [], _ => 0
 | c :: l, n => con p c * b ^ n + a * hev a b l (n - 1)

def vW (a b : Poly p) : Nat -> Poly p
 | 0 => 1
 | n + 1 => vW a b n * (a - con p n * b)


theorem zhC (a b : Poly p) : ∀ (l : List Int) (n : Nat), l.length = n + 1 -> hev a b (l ++ [0]) (n + 1) = b * hev a b l n
 | [], n, h => by simp at h
 | [c], n, h => by
  have : n = 0 := by simpa using h.symm
  subst this;simp only [List.cons_append, List.nil_append, hev, xG]
  rw [zi, zw];exact zg [con p c, b, a, b ^ (0 + 1 - 1)] (by rfl)
 | c :: d :: l, n, h => by
  cases n with
  | zero => simp at h
  | succ n =>
   have ih := zhC a b (d :: l) n (by simpa using h);simp only [List.cons_append] at ih ⊢
   have e1 : hev a b (c :: d :: (l ++ [0])) (n + 1 + 1) = con p c * b ^ (n + 1 + 1) + a * hev a b (d :: (l ++ [0])) (n + 1) := rfl;have e2 : hev a b (c :: d :: l) (n + 1) = con p c * b ^ (n + 1) + a * hev a b (d :: l) n := rfl;rw [e1, e2, ih, zi b (n + 1)];exact zg [a, b, con p c, b ^ (n+1), hev a b (d :: l) n] (by rfl)

theorem zhD (a b : Poly p) (k : Int) : ∀ (l l' : List Int) (n : Nat), l.length = l'.length -> hev a b (ziM p k l l') n = hev a b l n - con p k * hev a b l' n
 | [], [], n, _ => by simp only [ziM, hev]; exact zg [con p k] (by rfl)
 | x :: l, y :: l', n, h => by
  simp only [ziM, hev]
  rw [zhD a b k l l' (n - 1) (by simpa using h), zaG, <- zde, <- zbE];exact zg [con p k, con p x, con p y, a, b ^ n, hev a b l (n-1), hev a b l' (n-1)] (by rfl)
 | [], _ :: _, n, h => by simp at h
 | _ :: _, [], n, h => by simp at h

theorem zcL {p : Int} (k : Int) : ∀ (l l' : List Int), l.length = l'.length -> (ziM p k l l').length = l.length
 | [], [], _ => rfl
 | x :: l, y :: l', h => by simp [ziM, zcL k l l' (by simpa using h)]
 | [], _ :: _, h => by simp at h
 | _ :: _, [], h => by simp at h

theorem zhE {p : Int} (n : Nat) : (stir p n).length = n + 1 := by
 induction n with
 | zero => rfl
 | succ n ih => rw [stir, zcL _ _ _ (by simp)]; simp [ih]

theorem zlR (a b : Poly p) (n : Nat) : hev a b (stir p n) n = vW a b n := by
 induction n with
 | zero => simp only [stir, hev, vW, kE, zw]; exact zg [a] (by rfl)
 | succ n ih =>
  rw [stir, zhD _ _ _ _ _ _ (by simp), zhC _ _ _ _ (zhE n), vW];simp only [hev, xG, Nat.add_sub_cancel, ih]
  exact zg [a, b, vW a b n, con p (n:Int), b ^ (n+1)] (by rfl)

theorem zna (a b : Poly p) (m : Nat) : hev a b (List.replicate m 0 ++ [1]) m = a ^ m := by
 induction m with
 | zero => simp only [List.replicate_zero, List.nil_append, hev, kE, zw]; exact zg [a] (by rfl)
 | succ m ih =>
  rw [List.replicate_succ, List.cons_append, hev, Nat.add_sub_cancel, ih, xG, zi a m];exact zg [a, a ^ m, b ^ (m+1)] (by rfl)

section
variable {p : Int} [SP p]

theorem zd7 (a b : Poly p) : vW a b p.toNat = a ^ p.toNat - a * b ^ (p.toNat - 1) := by
 have h2 := Pr.two (p := p);rw [<- zlR, SP.stir (p := p), ziN];obtain ⟨m, hm⟩ : ∃ m, p.toNat = m + 2 := ⟨p.toNat - 2, by omega⟩
 rw [hm];simp only [hev, xG, show m + 2 - 1 = m + 1 from rfl, show m + 1 - 1 = m from rfl, show m + 2 - 2 = m from rfl, zna]
 have h1 : con p (p - 1) = -1 := by
  rw [<- zde, kE, xW.2 (Int.emod_self)]; exact zg [a] (by rfl)
 rw [h1, zi a (m + 1), zi a m];exact zg [a, b, a ^ m, b ^ (m+1), b ^ (m+2)] (by rfl)

theorem zhF (a b : Poly p) (n : Nat) : vW (a + b) b (n + 1) = (a + b) * vW a b n := by
 induction n with
 | zero =>
  simp only [vW]
  rw [show (((0 : Nat)) : Int) = 0 from rfl, xG]; exact zg [a, b] (by rfl)
 | succ n ih =>
  rw [vW, ih, vW, show (((n + 1 : Nat)) : Int) = (n : Int) + 1 from by omega, <- zgk, kE];exact zg [a, b, vW a b n, con p (n:Int)] (by rfl)

theorem zd8 (a b : Poly p) : (a + b) ^ p.toNat = a ^ p.toNat + b ^ p.toNat := by
 have h2 := Pr.two (p := p);obtain ⟨m, hm⟩ : ∃ m, p.toNat = m + 1 := ⟨p.toNat - 1, by omega⟩
 have h1 := zd7 (a + b) b;have h3 := zd7 a b;rw [hm] at h1 h3 ⊢;rw [zhF] at h1;rw [vW] at h3;simp only [Nat.add_sub_cancel] at h1 h3
 have h4 : con p (m : Int) = -1 := by
  have : (m : Int) = p - 1 := by omega
  rw [this, <- zde, kE, xW.2 (Int.emod_self)]; exact zg [a] (by rfl)
 rw [h4] at h3;rw [zi b m];exact comb (-1) h1 (comb (1) h3 (zg [a, b, vW a b m, b^m, a^(m+1), (a+b)^(m+1)] (by rfl)))

theorem zdf (n : Nat) : (1 : Poly p) ^ n = 1 := by
 induction n with
 | zero => exact zw _
 | succ n ih => rw [zi, ih]; exact CR.one_mul 1
theorem zhG {n : Nat} (h : 0 < n) : (0 : Poly p) ^ n = 0 := by
 obtain ⟨m, rfl⟩ : ∃ m, n = m + 1 := ⟨n - 1, by omega⟩
 rw [zi]; exact CR.mul_zero _
theorem zjM (a b : Poly p) (n : Nat) : (a * b) ^ n = a ^ n * b ^ n := by
 induction n with
 | zero => simp only [zw]; exact (CR.one_mul 1).symm
 | succ n ih => rw [zi, ih, zi, zi]; exact zg [a, b, a^n, b^n] (by rfl)
theorem zbI (a : Poly p) (n m : Nat) : a ^ (n + m) = a ^ n * a ^ m := by
 induction m with
 | zero => rw [Nat.add_zero, zw]; exact (CR.mul_one _).symm
 | succ m ih => rw [<- Nat.add_assoc, zi, ih, zi]; exact CR.mul_assoc _ _ _
theorem zjN (a : Poly p) (n m : Nat) : a ^ (n * m) = (a ^ n) ^ m := by
 induction m with
 | zero => rw [Nat.mul_zero, zw, zw]
 | succ m ih => rw [Nat.mul_succ, zbI, ih, zi]

theorem zbJ : 0 < p.toNat := by have := Pr.two (p := p); omega

theorem zlS (c : Int) : con p c ^ p.toNat = con p c := by
 have hn : ∀ n : Nat, con p (n : Int) ^ p.toNat = con p (n : Int) := by
  intro n
  induction n with
  | zero => rw [show (((0 : Nat)) : Int) = 0 from rfl, xG, zhG zbJ]
  | succ n ih => rw [show (((n + 1 : Nat)) : Int) = (n : Int) + 1 from by omega, <- zgk, zd8, ih, kE, zdf]
 have h1 := Int.emod_nonneg c (show p ≠ 0 by have := Pr.two (p := p); omega);have := hn (c % p).toNat
 rwa [show (((c % p).toNat : Nat) : Int) = c % p by omega, zaG] at this

theorem zlT (a : Poly p) : vW a 1 p.toNat = a ^ p.toNat - a := by
 rw [zd7, zdf]; rw [CR.mul_one]
theorem zhH (a b : Poly p) : (a - b) ^ p.toNat = a ^ p.toNat - b ^ p.toNat := by
 have h := zd8 (a - b) b;have : a - b + b = a := by exact zg [a, b] (by rfl)
 rw [this] at h;exact comb (-1) h (zg [(a-b)^p.toNat, a^p.toNat, b^p.toNat] (by rfl))
end

end Poly
namespace Poly
variable {p : Int} [SP p]

def Ber (f v : Poly p) : Prop := f ∣ v ^ p.toNat - v

theorem zfA {h v : Poly p} (hi : Irr h) : ∀ {n : Nat}, h ∣ vW v 1 n -> ∃ s, s < n ∧ h ∣ v - con p (s : Int)
 | 0, hd => absurd hd (hi.not_unit y7)
 | n + 1, hd => by
  rw [vW] at hd;rcases hi.prime hd with h1 | h1
  ·obtain ⟨s, h2, h3⟩ := zfA hi h1;exact ⟨s, by omega, h3⟩
  ·exact ⟨n, by omega, by
    have e : v - con p (n : Int) * 1 = v - con p (n : Int) := by exact zg [v, con p (n:Int)] (by rfl)
    rwa [e] at h1⟩

theorem znb {h v : Poly p} (hi : Irr h) (hd : Ber h v) : ∃ s : Int, 0 <= s ∧ s < p ∧ h ∣ v - con p s := by
 unfold Ber at hd;rw [<- zlT] at hd;obtain ⟨s, h1, h2⟩ := zfA hi hd;exact ⟨s, by omega, by have := Pr.two (p := p); omega, h2⟩

theorem ziP {h v : Poly p} (hi : 2 <= dg h) {s t : Int} (h1 : h ∣ v - con p s) (h2 : h ∣ v - con p t) : s % p = t % p := by
 have h3 : h ∣ con p (s - t) := by
  have := dvd_sub h2 h1;have e : v - con p t - (v - con p s) = con p (s - t) := by rw [<- zde]; exact zg [v, con p s, con p t] (by rfl)
  rwa [e] at this
 have h4 : con p (s - t) = 0 := by
  refine Classical.byContradiction fun hne => ?_;have := zF h3 hne;have := vL (p := p) (s - t);omega
 have h5 := xW.1 h4;exact Int.emod_eq_emod_iff_emod_sub_eq_zero.2 h5

theorem Ber.dvd {f g v : Poly p} (h : Ber f v) (hd : g ∣ f) : Ber g v := dvd_trans hd h
theorem Ber.congr {f v w : Poly p} (h : Ber f v) (hd : f ∣ v - w) : Ber f w := by
 unfold Ber at *;obtain ⟨q, hq⟩ := hd
 have h1 : f ∣ (v - w) ^ p.toNat - (v - w) := by
  rw [hq, zjM];obtain ⟨m, hm⟩ : ∃ m, p.toNat = m + 1 := ⟨p.toNat - 1, by have := zbJ (p := p); omega⟩
  rw [hm, zi f, zi q];exact ⟨f ^ m * (q ^ m * q) - q, by exact zg [f, q, f^m, q^m] (by rfl)⟩
 rw [zhH] at h1;have := dvd_sub h h1;have e : v ^ p.toNat - v - (v ^ p.toNat - w ^ p.toNat - (v - w)) = w ^ p.toNat - w := by exact zg [v, w, v ^ p.toNat, w ^ p.toNat] (by rfl)
 rwa [e] at this

theorem zhI {f part : Poly p} (hf : f ≠ 0) (hs : Sqf f) (hd : part ∣ f) (h2 : 2 <= dg part) (hc : ∀ w, dg w < dg f -> Ber f w -> ∃ s : Int, part ∣ w - con p s) : Irr part := by
 refine ⟨h2, fun a b hab => Classical.byContradiction fun hn => ?_⟩;simp only [not_or] at hn
 obtain ⟨c, hfc⟩ := hd;have hpart : part ≠ 0 := fun e => by rw [e, zr] at h2; omega
 have ha0 : a ≠ 0 := fun e => hpart (by rw [hab, e]; exact zg [b] (by rfl));have hb0 : b ≠ 0 := fun e => hpart (by rw [hab, e]; exact zg [a] (by rfl));have hda : dg a ≠ 0 := fun e => ha0 (ze.1 e);have hdb : dg b ≠ 0 := fun e => hb0 (ze.1 e);have hfa : f = a * (b * c) := by rw [hfc, hab]; exact zg [a, b, c] (by rfl)
 have hcop : Cop a (b * c) := hs.cop hf ⟨1, by rw [<- hfa]; exact zg [f] (by rfl)⟩;obtain ⟨u, v, huv⟩ := hcop
 have hber : Ber f (u * a) := by
  unfold Ber;rw [hfa];have hcop' : Cop a (b * c) := ⟨u, v, huv⟩
  obtain ⟨m, hm⟩ : ∃ m, p.toNat = m + 1 := ⟨p.toNat - 1, by have := zbJ (p := p); omega⟩
  refine hcop'.mul_dvd ?_ ?_
  ·rw [hm, zi];exact ⟨((u * a) ^ m - 1) * u, by exact zg [u, a, (u*a)^m] (by rfl)⟩
  ·have e : u * a = 1 - v * (b * c) := by exact comb (1) huv (zg [u, a, v, b, c] (by rfl))
   rw [e, zhH, zdf, hm, zi];exact ⟨v - (v * (b * c)) ^ m * v, by exact zg [v, b, c, (v*(b*c))^m] (by rfl)⟩
 have hrem := vK (u * a) f;have hlt := zI (u * a) hf;have hbr : Ber f (rem (u * a) f) := hber.congr ⟨quo (u * a) f, by exact comb (1) hrem (zg [u, a, f, quo (u*a) f, rem (u*a) f] (by rfl))⟩;obtain ⟨s, hs'⟩ := hc _ hlt hbr
 have h3 : part ∣ u * a - con p s := by
  have h4 : part ∣ f := ⟨c, hfc⟩
  have h5 := dvd_add hs' (z8 (quo (u * a) f) h4);have e : rem (u * a) f - con p s + quo (u * a) f * f = u * a - con p s := by exact comb (-1) hrem (zg [u, a, f, con p s, quo (u*a) f, rem (u*a) f] (by rfl))
  rwa [e] at h5
 have h6 : a ∣ con p s := by
  have h7 : a ∣ part := ⟨b, hab⟩
  have h8 := dvd_sub (z8 u (dvd_refl a)) (dvd_trans h7 h3);have e : u * a - (u * a - con p s) = con p s := by exact zg [u, a, con p s] (by rfl)
  rwa [e] at h8
 have h9 : con p s = 0 := by
  refine Classical.byContradiction fun hne => ?_;have := zF h6 hne;have := vL (p := p) s;omega
 rw [h9] at h3
 have h10 : b ∣ 1 := by
  have h7 : b ∣ part := ⟨a, by rw [hab]; exact zg [a, b] (by rfl)⟩
  have h8 := dvd_trans h7 h3;have h11 : b ∣ v * (b * c) := ⟨v * c, by exact zg [v, b, c] (by rfl)⟩
  have h12 := dvd_add h8 h11;have e : u * a - 0 + v * (b * c) = 1 := by exact comb (1) huv (zg [u, a, v, b, c] (by rfl))
  rwa [e] at h12
 exact hn.2 (zbF y7 h10)

end Poly

def dv (f : Nat -> Int) : Nat -> Int := fun i => ((i : Int) + 1) * f (i + 1)

theorem zol (f g : Nat -> Int) (k : Nat) : dv (cv f g) k = cv (dv f) g k + cv f (dv g) k := by
 induction k generalizing f with
 | zero => simp [dv, cv]; omega
 | succ k ih =>
  have h1 := ih (fun i => f (i + 1));have e1 : dv (cv (fun i => f (i + 1)) g) k = ((k : Int) + 1) * cv (fun i => f (i + 1)) g (k + 1) := rfl
  have e2 : dv (cv f g) (k + 1) = ((k : Int) + 2) * (f 0 * g (k + 2) + cv (fun i => f (i + 1)) g (k + 1)) := by
   unfold dv; rw [cv]; congr 1
  have e3 : cv (dv f) g (k + 1) = f 1 * g (k + 1) + cv (fun i => dv f (i + 1)) g k := by
   rw [cv]; simp [dv]
  have e4 : cv f (dv g) (k + 1) = f 0 * (((k : Int) + 2) * g (k + 2)) + cv (fun i => f (i + 1)) (dv g) k := by
   rw [cv]; unfold dv; congr 3
  have e5 : (fun i => dv f (i + 1)) = fun i => dv (fun i => f (i + 1)) i + f (i + 1 + 1) := by
   funext i
   unfold dv;rw [show ((i + 1 : Nat) : Int) + 1 = ((i : Int) + 1) + 1 from by omega, Int.add_mul ((i : Int) + 1)]; simp
  have e6 : cv (fun i => f (i + 1)) g (k + 1) = f 1 * g (k + 1) + cv (fun i => f (i + 1 + 1)) g k := by rw [cv]
  rw [e2, e3, e4, e5, zgh];rw [e1] at h1
  have e7 : ((k : Int) + 2) * cv (fun i => f (i + 1)) g (k + 1) = ((k : Int) + 1) * cv (fun i => f (i + 1)) g (k + 1) + cv (fun i => f (i + 1)) g (k + 1) := by
   rw [show (k : Int) + 2 = ((k : Int) + 1) + 1 from by omega, Int.add_mul]; simp
  have e8 : ((k : Int) + 2) * (f 0 * g (k + 2)) = f 0 * (((k : Int) + 2) * g (k + 2)) := by
   rw [<- Int.mul_assoc, Int.mul_comm _ (f 0), Int.mul_assoc]
  rw [Int.mul_add, e7, e8, h1, e6];have e9 : (fun i => dv (fun i => f (i + 1)) i) = dv (fun i => f (i + 1)) := rfl;omega

namespace Poly
variable {p : Int} [SP p]

def der (f : Poly p) : Poly p := of p (mkL (dg f) (dv (cf f.l)))
theorem zci (f : Poly p) (i : Nat) : cf (der f).l i = dv (cf f.l) i % p := by
 rw [der, zT, vI]
 split
 ·rfl
 ·rename_i h
  unfold dv;rw [zY (f := f) (by omega)]; simp
theorem znS {p : Int} (f : Nat -> Int) (i : Nat) : dv (fun i => f i % p) i % p = dv f i % p := by
 unfold dv;rw [Int.mul_emod, Int.emod_emod_of_dvd _ (Int.dvd_refl p), <- Int.mul_emod]
theorem zgo (f g : Poly p) : der (f * g) = der f * g + f * der g := zB fun i => by
 have e1 : cf (der f).l = fun i => dv (cf f.l) i % p := funext (zci f);have e2 : cf (der g).l = fun i => dv (cf g.l) i % p := funext (zci g);rw [zci, za8, znS, zol, yF, yG, yG, e1, e2, jY, je (cf f.l) (fun i => dv (cf g.l) i % p), jY, je (cf f.l) (dv (cf g.l)), <- Int.add_emod]
theorem zcj {f : Poly p} (h : f ≠ 0) : dg (der f) < dg f := by
 have h0 : dg f ≠ 0 := fun e => h (ze.1 e)
 have : dg (der f) <= dg f - 1 := kg fun i hi => by
  rw [zci]; unfold dv; rw [zY (f := f) (by omega)]; simp
 omega

theorem zhJ (h : Poly p) (n : Nat) : h ^ n ∣ der (h ^ (n + 1)) := by
 induction n with
 | zero => rw [zw]; exact zdd _
 | succ n ih =>
  rw [zi h (n + 1), zgo, zi h n];rw [zi h n] at ih;obtain ⟨q, hq⟩ := ih;rw [hq];exact ⟨q + der h, by exact zg [h, q, der h, h^n] (by rfl)⟩

theorem zd9 {h f : Poly p} {n : Nat} (hd : h ^ (n + 1) ∣ f) : h ^ n ∣ der f := by
 obtain ⟨u, rfl⟩ := hd;rw [zgo];refine dvd_add (y3 _ (zhJ h n)) ?_;rw [zi];exact ⟨h * der u, by exact zg [h, der u, h^n] (by rfl)⟩

theorem zck {h : Poly p} (hi : 2 <= dg h) (n : Nat) : n < dg (h ^ n) := by
 have h0 : h ≠ 0 := fun e => by rw [e, zr] at hi; omega
 induction n with
 | zero => rw [zw, y7]; omega
 | succ n ih =>
  have h1 : h ^ n ≠ 0 := fun e => by rw [e, zr] at ih; omega
  have := yQ h1 h0;rw [zi]; omega

theorem zlU {f q c : Poly p} (hf : f ≠ 0) (he : f = q * c) (hc : ∀ h, h ∣ f -> h ∣ der f -> h ∣ c) : Sqf q := by
 intro h hi hd
 have key : ∀ n : Nat, h ^ n ∣ f := by
  intro n
  induction n with
  | zero => rw [zw]; exact zdd _
  | succ n ih =>
   cases n with
   | zero =>
    rw [zi, zw, he];obtain ⟨r, hr⟩ := hd;exact ⟨h * r * c, by exact comb (c) hr (zg [q, c, h, r] (by rfl))⟩
   | succ n =>
    have h1 : h ^ n ∣ f := dvd_trans ⟨h, zi h n⟩ ih;obtain ⟨a, ha⟩ := hc _ h1 (zd9 ih);obtain ⟨b, hb⟩ := hd;rw [zi, zi, he, ha, hb];exact ⟨b * a, by exact zg [h, a, b, h^n] (by rfl)⟩
 have h1 := zck hi.1 (dg f);have h2 := zF (key (dg f)) hf;omega

theorem zlV {f q c rest s : Poly p} (he : f = q * c) (hs : f = rest * s) (hr : rest ≠ 0) (hc : c ∣ der f) (h1 : Cop rest q) (h2 : Cop rest s) : der rest = 0 := by
 have h3 : rest ∣ c := h1.dvd ⟨s, by rw [<- he, hs]⟩;have h4 := dvd_trans h3 hc;rw [hs, zgo] at h4
 have h5 : rest ∣ s * der rest := by
  have := dvd_sub h4 (y3 (der s) (dvd_refl rest));have e : der rest * s + rest * der s - rest * der s = s * der rest := by exact zg [der rest, der s, rest, s] (by rfl)
  rwa [e] at this
 have h6 := h2.dvd h5;refine Classical.byContradiction fun hne => ?_;have := zF h6 hne;have := zcj hr;omega

theorem zlW (a b : Nat) : mono p 1 a * mono p 1 b = mono p 1 (a + b) := zB fun i => by
 rw [vV, kC, kC]
 by_cases h : a <= i
 ·rw [if_pos h]
  by_cases h' : i = a + b
  ·rw [if_pos (by omega), if_pos h']; simp
  ·rw [if_neg (by omega), if_neg h']; simp
 ·rw [if_neg h, if_neg (by omega)]
theorem zea (a n : Nat) : mono p 1 a ^ n = mono p 1 (a * n) := by
 induction n with
 | zero => rw [zw]; rfl
 | succ n ih => rw [zi, ih, zlW, Nat.mul_succ]

def ev (a : Poly p) : List Int -> Poly p
 | [] => 0
 | c :: l => con p c + a * ev a l

theorem zjO (a : Poly p) (l : List Int) : ev a l ^ p.toNat = ev (a ^ p.toNat) l := by
 induction l with
 | nil => exact zhG zbJ
 | cons c l ih => rw [ev, zd8, zlS, zjM, ih, ev]

theorem zeb {m : Nat} (hm : 0 < m) (l : List Int) (k : Nat) : cf (ev (mono p 1 m) l).l k = if k % m = 0 then cf l (k / m) % p else 0 := by
 induction l generalizing k with
 | nil => rw [ev, yC, yq]; simp
 | cons c l ih =>
  rw [ev, yF, xS, vV]
  by_cases hk : m <= k
  ·rw [if_pos hk, ih, if_neg (by omega)];have e1 : (k - m) % m = k % m := (Nat.mod_eq_sub_mod hk).symm;have e2 : k / m = (k - m) / m + 1 := Nat.div_eq_sub_div hm hk;rw [e1]
   split
   ·rw [e2, zv]; simp
   ·simp
  ·rw [if_neg hk, Int.add_zero]
   by_cases h0 : k = 0
   ·subst h0; simp [cf]
   ·rw [if_neg h0, if_neg (by rw [Nat.mod_eq_of_lt (by omega)]; exact h0)]; simp

theorem znT (f : Poly p) : ev (mono p 1 1) f.l = f := zB fun i => by
 rw [zeb (by omega)]; simp [xy, Nat.mod_one]

theorem zlX (f : Poly p) (k : Nat) : cf (f ^ p.toNat).l k = if k % p.toNat = 0 then cf f.l (k / p.toNat) else 0 := by
 have h1 := zjO (mono p 1 1) f.l;rw [znT, zea, Nat.one_mul] at h1;rw [h1, zeb zbJ]
 split
 ·exact xy _ _
 ·rfl

theorem zlY {f r : Poly p} (h : der f = 0) (hr : ∀ i, cf r.l i = cf f.l (i * p.toNat)) : r ^ p.toNat = f := by
 refine zB fun k => ?_;rw [zlX]
 split
 ·rename_i hk
  rw [hr, Nat.div_mul_cancel (Nat.dvd_of_mod_eq_zero hk)]
 ·rename_i hk
  cases k with
  | zero => simp at hk
  | succ k =>
   have h1 := zci f k;rw [h, yC] at h1;unfold dv at h1;refine Classical.byContradiction fun hne => ?_;refine Pr.mul_ne (p := p) (a := (k : Int) + 1) (b := cf f.l (k + 1)) (fun h2 => hk ?_) (z5 (Ne.symm hne)) h1.symm
   have h3 : ((k + 1 : Nat) : Int) % ((p.toNat : Nat) : Int) = 0 := by
    have := Pr.two (p := p);rw [show ((p.toNat : Nat) : Int) = p by omega]; exact_mod_cast h2
   exact_mod_cast h3

end Poly

def zG (f : Nat -> Int) : Nat -> Int
 | 0 => 0
 | n + 1 => zG f n + f n

theorem xT {f g : Nat -> Int} {n : Nat} (h : ∀ i, i < n -> f i = g i) : zG f n = zG g n := by
 induction n with
 | zero => rfl
 | succ n ih => rw [zG, zG, ih fun i hi => h i (by omega), h n (by omega)]
theorem jD (f g : Nat -> Int) (n : Nat) : zG (fun i => f i + g i) n = zG f n + zG g n := by
 induction n with
 | zero => rfl
 | succ n ih => simp only [zG, ih]; omega
theorem jE (a : Int) (f : Nat -> Int) (n : Nat) : zG (fun i => a * f i) n = a * zG f n := by
 induction n with
 | zero => simp [zG]
 | succ n ih => simp only [zG, ih, Int.mul_add]
theorem ki {f : Nat -> Int} {n : Nat} (h : ∀ i, i < n -> f i = 0) : zG f n = 0 := by
 induction n with
 | zero => rfl
 | succ n ih => rw [zG, ih fun i hi => h i (by omega), h n (by omega)]; rfl
theorem yZ (p : Int) {f g : Nat -> Int} {n : Nat} (h : ∀ i, i < n -> f i % p = g i % p) : zG f n % p = zG g n % p := by
 induction n with
 | zero => rfl
 | succ n ih => rw [zG, zG, Int.add_emod, ih fun i hi => h i (by omega), h n (by omega), <- Int.add_emod]
theorem vX {f : Nat -> Int} {n k : Nat} (hk : k < n) (h : ∀ i, i < n -> i ≠ k -> f i = 0) : zG f n = f k := by
 induction n with
 | zero => omega
 | succ n ih =>
  rw [zG]
  by_cases he : k = n
  ·subst he; rw [ki fun i hi => h i (by omega) (by omega)]; simp
  ·rw [ih (by omega) fun i hi hne => h i (by omega) hne, h n (by omega) (by omega)]; simp
theorem zkG (f : Nat -> Nat -> Int) (n m : Nat) : zG (fun i => zG (f i) m) n = zG (fun j => zG (fun i => f i j) n) m := by
 induction n with
 | zero => simp only [zG]; exact (ki fun _ _ => rfl).symm
 | succ n ih => simp only [zG, ih, <- jD]

def jP (p : Int) (n : Nat) (r c : Nat -> Int) : Prop := zG (fun i => r i * c i) n % p = 0
def Sol (p : Int) (n m : Nat) (R : Nat -> Nat -> Int) (c : Nat -> Int) : Prop := ∀ k, k < m -> jP p n (R k) c

theorem vY {p : Int} {n : Nat} {r r' c c' : Nat -> Int} (hr : ∀ i, i < n -> r i % p = r' i % p) (hc : ∀ i, i < n -> c i % p = c' i % p) : jP p n r c ↔ jP p n r' c' := by
 unfold jP;rw [yZ p (g := fun i => r' i * c' i) fun i hi => by rw [Int.mul_emod, hr i hi, hc i hi, <- Int.mul_emod]]
theorem zfB {p : Int} {n : Nat} {r r' c : Nat -> Int} (a : Int) (h : jP p n r c) (h' : jP p n r' c) : jP p n (fun i => r i + a * r' i) c := by
 unfold jP at *
 have e : zG (fun i => (r i + a * r' i) * c i) n = zG (fun i => r i * c i) n + a * zG (fun i => r' i * c i) n := by
  rw [<- jE, <- jD];exact xT fun i _ => by rw [Int.add_mul, Int.mul_assoc]
 rw [e, Int.add_emod, h, Int.mul_emod, h']; simp
theorem kH {p : Int} {n : Nat} {r c : Nat -> Int} (a : Int) (h : jP p n r c) : jP p n (fun i => a * r i) c := by
 unfold jP at *
 have e : zG (fun i => a * r i * c i) n = a * zG (fun i => r i * c i) n := by
  rw [<- jE];exact xT fun i _ => by rw [Int.mul_assoc]
 rw [e, Int.mul_emod, h]; simp

theorem zlZ {p : Int} {n m a b : Nat} {R R' : Nat -> Nat -> Int} (ha : a < m) (hb : b < m) (h1 : R' a = R b) (h2 : R' b = R a) (h3 : ∀ k, k < m -> k ≠ a -> k ≠ b -> R' k = R k) (c : Nat -> Int) : Sol p n m R' c ↔ Sol p n m R c := by
 constructor
 ·intro h k hk
  by_cases hka : k = a
  ·subst hka; rw [<- h2]; exact h b hb
  ·by_cases hkb : k = b
   ·subst hkb; rw [<- h1]; exact h a ha
   ·rw [<- h3 k hk hka hkb]; exact h k hk
 ·intro h k hk
  by_cases hka : k = a
  ·subst hka; rw [h1]; exact h b hb
  ·by_cases hkb : k = b
   ·subst hkb; rw [h2]; exact h a ha
   ·rw [h3 k hk hka hkb]; exact h k hk

structure Steps (p : Int) (n : Nat) (col : Nat) (piv : List Nat) (R : Nat -> Nat -> Int) : Prop where
 le : piv.length <= n
 lt : ∀ x ∈ piv, x < col
 nodup : piv.Nodup
 one : ∀ i x, piv[i]? = some x -> R i x % p = 1
 zero : ∀ i x, piv[i]? = some x -> ∀ k, k < n -> k ≠ i -> R k x % p = 0
 rest : ∀ k, piv.length <= k -> k < n -> ∀ x, x < col -> R k x % p = 0

theorem Steps.start (p : Int) (n : Nat) (R : Nat -> Nat -> Int) : Steps p n 0 [] R :=
 ⟨by simp, by simp, by simp, by simp, by simp, fun k _ _ x hx => by omega⟩

theorem Steps.skip {p : Int} {n col : Nat} {piv : List Nat} {R : Nat -> Nat -> Int} (h : Steps p n col piv R) (h0 : ∀ k, piv.length <= k -> k < n -> R k col % p = 0) : Steps p n (col + 1) piv R :=
 ⟨h.le, fun x hx => by have := h.lt x hx; omega, h.nodup, h.one, h.zero, fun k hk hkn x hx => by
  by_cases he : x = col
  ·subst he; exact h0 k hk hkn
  ·exact h.rest k hk hkn x (by omega)⟩

def jF (_p : Int) (piv : List Nat) (R : Nat -> Nat -> Int) (col : Nat) (x : Nat) : Int :=
 if x = col then 1 else match piv.idxOf? x with | some i => -(R i col) | none => 0

theorem z9 (p a : Int) : a % p % p = a % p := Int.emod_emod_of_dvd _ (Int.dvd_refl p)
theorem vp {p a a' : Int} (b : Int) (h : a % p = a' % p) : a * b % p = a' * b % p := by rw [Int.mul_emod, h, <- Int.mul_emod]
theorem y4 {p a a' : Int} (b : Int) (h : a % p = a' % p) : b * a % p = b * a' % p := by rw [Int.mul_emod, h, <- Int.mul_emod]
theorem yl {p a : Int} (b : Int) (h : a % p = 0) : b * a % p = 0 := by rw [Int.mul_emod, h]; simp
theorem zaH {p a a' b b' : Int} (h : a % p = a' % p) (k : b % p = b' % p) : (a - b) % p = (a' - b') % p := by rw [Int.sub_emod, h, k, <- Int.sub_emod]

theorem Steps.pivot {p : Int} {n col : Nat} {piv : List Nat} {R R' : Nat -> Nat -> Int} {s : Int} (h : Steps p n col piv R) (hp : (1 : Int) % p = 1) (hc : col < n) (hat : piv.length < n) (hs : s * R piv.length col % p = 1)
  (h1 : ∀ x, x < n -> R' piv.length x % p = (s * R piv.length x) % p)
  (h2 : ∀ i, i < n -> i ≠ piv.length -> ∀ x, x < n -> R' i x % p = (R i x - R i col * (s * R piv.length x)) % p) : Steps p n (col + 1) (piv ++ [col]) R' := by
 have hnew : ∀ i x, (piv ++ [col])[i]? = some x -> (i < piv.length ∧ piv[i]? = some x) ∨ (i = piv.length ∧ x = col) := by
  intro i x hx;rcases Nat.lt_or_ge i piv.length with hlt | hge
  ·rw [List.getElem?_append_left hlt] at hx; exact .inl ⟨hlt, hx⟩
  ·rw [List.getElem?_append_right hge] at hx;cases hi : i - piv.length with
   | zero => rw [hi] at hx; simp at hx; exact .inr ⟨by omega, hx.symm⟩
   | succ j => rw [hi] at hx; simp at hx
 have hzat : ∀ x, x < col -> R piv.length x % p = 0 := fun x hx => h.rest _ (Nat.le_refl _) hat x hx
 have hkeep : ∀ i, i < n -> i ≠ piv.length -> ∀ x, x < col -> R' i x % p = R i x % p := fun i hi hne x hx => by
  rw [h2 i hi hne x (by omega), <- Int.sub_zero (R i x)];refine (zaH (by rw [Int.sub_zero]) ?_).trans (by rw [Int.sub_zero]);rw [<- Int.mul_assoc, yl _ (hzat x hx)]; simp
 have hcol : ∀ i, i < n -> i ≠ piv.length -> R' i col % p = 0 := fun i hi hne => by
  rw [h2 i hi hne col hc];have : (R i col - R i col * (s * R piv.length col)) % p = (R i col - R i col * 1) % p := zaH rfl (y4 _ (by rw [hs, hp]));rw [this]; simp
 refine ⟨by simp; omega, fun x hx => ?_, ?_, fun i x hx => ?_, fun i x hx k hk hne => ?_, fun k hk hkn x hx => ?_⟩
 ·rcases List.mem_append.1 hx with hx | hx
  ·have := h.lt x hx; omega
  ·simp at hx; omega
 ·refine List.nodup_append.2 ⟨h.nodup, by simp, fun a ha b hb => ?_⟩;simp at hb
  have := h.lt a ha;omega
 ·rcases hnew i x hx with ⟨hi, hx'⟩ | ⟨rfl, rfl⟩
  ·have hxc := h.lt x (List.mem_of_getElem? hx');rw [hkeep i (by have := h.le; omega) (by omega) x hxc]; exact h.one i x hx'
  ·rw [h1 _ hc]; exact hs
 ·rcases hnew i x hx with ⟨hi, hx'⟩ | ⟨rfl, rfl⟩
  ·have hxc := h.lt x (List.mem_of_getElem? hx')
   by_cases hka : k = piv.length
   ·subst hka;rw [h1 x (by omega), yl _ (hzat x hxc)]
   ·rw [hkeep k hk hka x hxc]; exact h.zero i x hx' k hk hne
  ·exact hcol k hk hne
 ·simp only [List.length_append, List.length_singleton] at hk
  by_cases hxc : x = col
  ·subst hxc; exact hcol k hkn (by omega)
  ·rw [hkeep k hkn (by omega) x (by omega)]; exact h.rest k (by omega) hkn x (by omega)

theorem Steps.swap {p : Int} {n col : Nat} {piv : List Nat} {R R' : Nat -> Nat -> Int} {b : Nat} (h : Steps p n col piv R) (hb : piv.length <= b) (hbn : b < n) (h1 : R' piv.length = R b) (h2 : R' b = R piv.length) (h3 : ∀ k, k < n -> k ≠ piv.length -> k ≠ b -> R' k = R k) : Steps p n col piv R' := by
 have hlow : ∀ i, i < piv.length -> R' i = R i := fun i hi => h3 i (by omega) (by omega) (by omega)
 have hrest : ∀ k, piv.length <= k -> k < n -> ∀ x, x < col -> R' k x % p = 0 := fun k hk hkn x hx => by
  by_cases hka : k = piv.length
  ·subst hka; rw [h1]; exact h.rest b hb hbn x hx
  ·by_cases hkb : k = b
   ·subst hkb; rw [h2]; exact h.rest _ (Nat.le_refl _) (by omega) x hx
   ·rw [h3 k hkn hka hkb]; exact h.rest k hk hkn x hx
 refine ⟨h.le, h.lt, h.nodup, fun i x hx => ?_, fun i x hx k hk hne => ?_, hrest⟩
 ·rw [hlow i (List.getElem?_eq_some_iff.1 hx).1]; exact h.one i x hx
 ·rcases Nat.lt_or_ge k piv.length with hlt | hge
  ·rw [hlow k hlt]; exact h.zero i x hx k hk hne
  ·exact hrest k hge hk x (h.lt x (List.mem_of_getElem? hx))

theorem kI {piv : List Nat} (hn : piv.Nodup) {i x : Nat} (h : piv[i]? = some x) : piv.idxOf? x = some i := by
 obtain ⟨hi, he⟩ := List.getElem?_eq_some_iff.1 h;rw [List.idxOf?_eq_some_iff];refine ⟨hi, by simpa using he, fun j hj => ?_⟩;have h1 : piv[j]'(by omega) ≠ piv[i] := List.pairwise_iff_getElem.1 hn j i (by omega) hi hj;simp only [ne_eq]
 rw [<- he]; exact h1
theorem zbK {piv : List Nat} {x : Nat} (h : x ∉ piv) : piv.idxOf? x = none := by
 rw [List.idxOf?_eq_none_iff]; exact h

theorem zl0 {f : Nat -> Int} {n a b : Nat} (hab : a ≠ b) (ha : a < n) (hb : b < n) (h : ∀ i, i < n -> i ≠ a -> i ≠ b -> f i = 0) : zG f n = f a + f b := by
 have e : zG f n = zG (fun i => (if i = a then f i else 0) + (if i = a then 0 else f i)) n := xT fun i _ => by split <;> simp
 rw [e, jD, vX ha fun i _ hne => by simp [hne], vX (k := b) hb fun i hi hne => by
  by_cases hia : i = a
  ·simp [hia]
  ·simp [hia, h i hi hia hne]]
 simp [Ne.symm hab]

theorem Steps.free {p : Int} {n : Nat} {piv : List Nat} {R : Nat -> Nat -> Int} (h : Steps p n n piv R) {col : Nat} (hc : col < n) (hf : col ∉ piv) : Sol p n n R (jF p piv R col) := by
 intro k hk;unfold jP;rcases Nat.lt_or_ge k piv.length with hlt | hge
 ·have hx := List.getElem?_eq_getElem hlt;have hxl := h.lt _ (List.mem_of_getElem? hx);have hne : piv[k] ≠ col := fun e => hf (e ▸ List.getElem_mem hlt)
  have e1 : zG (fun x => R k x * jF p piv R col x) n % p = zG (fun x => if x = piv[k] then -(R k col) else if x = col then R k col else 0) n % p := by
   refine yZ p fun x hxn => ?_
   by_cases hxc : x = col
   ·subst hxc;simp [jF, Ne.symm hne]
   ·by_cases hxp : x ∈ piv
    ·obtain ⟨i, hi, he⟩ := List.mem_iff_getElem.1 hxp;have hix : piv[i]? = some x := by rw [List.getElem?_eq_getElem hi, he]
     have e2 : jF p piv R col x = -(R i col) := by simp [jF, hxc, kI h.nodup hix]
     rw [e2]
     by_cases hik : i = k
     ·subst hik;have h1 := h.one i x hix;simp only [he, if_true]
      rw [vp (a' := 1) _ (by
       rw [h1];have := z9 p (R i x);rw [h1] at this; exact this.symm)]
      simp
     ·have h0 := h.zero i x hix k hk (Ne.symm hik)
      have hne2 : x ≠ piv[k] := fun e => hik (by
       have := kI h.nodup hix;rw [e, kI h.nodup hx] at this;exact (Option.some.inj this).symm)
      rw [if_neg hne2, if_neg hxc, Int.mul_comm, yl _ h0]; simp
    ·have hne2 : x ≠ piv[k] := fun e => hxp (e ▸ List.getElem_mem hlt);simp [jF, hxc, zbK hxp, hne2]
  rw [e1, zl0 (a := piv[k]) (b := col) hne hxl hc fun i _ h1 h2 => by simp [h1, h2]];simp [Ne.symm hne, Int.add_left_neg]
 ·rw [yZ p (g := fun _ => 0) fun x hx => by rw [Int.mul_comm, yl _ (h.rest k hge hk x hx)]; simp, ki fun _ _ => rfl]; simp

theorem Steps.all {p : Int} {n : Nat} {piv : List Nat} {R : Nat -> Nat -> Int} (h : Steps p n n piv R) {c : Nat -> Int} (hs : Sol p n n R c) : ∀ x, x < n -> c x % p = zG (fun col => if col ∈ piv then 0 else c col * jF p piv R col x) n % p := by
 intro x hx
 by_cases hxp : x ∈ piv
 ·obtain ⟨i, hi, he⟩ := List.mem_iff_getElem.1 hxp;have hix : piv[i]? = some x := by rw [List.getElem?_eq_getElem hi, he]
  have hin : i < n := by have := h.le; omega
  have h1 := hs i hin;unfold jP at h1
  have e1 : zG (fun col => R i col * c col) n % p = zG (fun col => (if col = x then c x else 0) + (if col ∈ piv then 0 else R i col * c col)) n % p := by
   refine yZ p fun col hcn => ?_
   by_cases hcp : col ∈ piv
   ·obtain ⟨j, hj, hje⟩ := List.mem_iff_getElem.1 hcp;have hjc : piv[j]? = some col := by rw [List.getElem?_eq_getElem hj, hje]
    by_cases hij : j = i
    ·subst hij;have hcx : col = x := by rw [hix] at hjc; exact (Option.some.inj hjc).symm
     subst hcx;have h2 := h.one j col hjc;simp only [if_true, hcp, Int.add_zero]
     rw [vp (a' := 1) _ (by
      rw [h2];have := z9 p (R j col);rw [h2] at this; exact this.symm)]
     simp
    ·have hcx : col ≠ x := fun e => hij (by
      have := kI h.nodup hix;rw [<- e, kI h.nodup hjc] at this;exact Option.some.inj this)
     rw [if_neg hcx, if_pos hcp, Int.mul_comm, yl _ (h.zero j col hjc i hin (Ne.symm hij))]; simp
   ·have hcx : col ≠ x := fun e => hcp (e ▸ hxp);simp [hcx, hcp]
  rw [e1, jD, vX (k := x) hx fun i _ hne => by simp [hne]] at h1;simp only [if_true] at h1
  have e2 : zG (fun col => if col ∈ piv then 0 else c col * jF p piv R col x) n = -1 * zG (fun col => if col ∈ piv then 0 else R i col * c col) n := by
   rw [<- jE];refine xT fun col _ => ?_
   by_cases hcp : col ∈ piv
   ·simp [hcp]
   ·have hcx : x ≠ col := fun e => hcp (e ▸ hxp);simp only [hcp, if_false]
    simp only [jF, hcx, if_false, kI h.nodup hix]
    rw [Int.mul_comm, Int.neg_mul]; omega
  rw [e2];have h3 : c x = (c x + zG (fun col => if col ∈ piv then 0 else R i col * c col) n) - zG (fun col => if col ∈ piv then 0 else R i col * c col) n := by omega
  rw [h3, Int.sub_emod, h1];rw [show -1 * zG (fun col => if col ∈ piv then 0 else R i col * c col) n = 0 - zG (fun col => if col ∈ piv then 0 else R i col * c col) n from by omega, Int.sub_emod 0];simp [zm7]
 ·rw [vX (k := x) hx fun i _ hne => by
   by_cases hip : i ∈ piv
   ·simp [hip]
   ·simp [hip, jF, Ne.symm hne, zbK hxp]]
  simp [hxp, jF]


structure Half (p : Int) (n : Nat) (M : Nat -> Nat -> Int) (col : Nat) (used : Nat -> Prop) (L T : Nat -> Nat -> Int) : Prop where
 comb : ∀ k, k < n -> ∀ x, x < n -> L k x % p = zG (fun j => T k j * M j x) n % p
 span : ∀ c : Nat -> Int, ∃ d : Nat -> Int, ∀ j, j < n -> c j % p = zG (fun k => d k * T k j) n % p
 piv : ∀ k, k < n -> used k -> ∃ x, x < col ∧ x < n ∧ L k x % p ≠ 0 ∧ ∀ k', k' < n -> k' ≠ k -> L k' x % p = 0
 rest : ∀ k, k < n -> ¬ used k -> ∀ x, x < col -> L k x % p = 0

theorem Half.start (p : Int) (n : Nat) (M T : Nat -> Nat -> Int) (hT : ∀ i, i < n -> ∀ j, j < n -> T i j = if i = j then 1 else 0) : Half p n M 0 (fun _ => False) M T := by
 refine ⟨fun k hk x hx => ?_, fun c => ⟨c, fun j hj => ?_⟩, fun k _ h => h.elim, fun k _ _ x hx => by omega⟩
 ·rw [vX (k := k) hk fun i hi hne => by rw [hT k hk i hi]; simp [Ne.symm hne], hT k hk k hk]; simp
 ·rw [vX (k := j) hj fun i hi hne => by rw [hT i hi j hj]; simp [hne], hT j hj j hj]; simp

theorem Half.skip {p : Int} {n : Nat} {M : Nat -> Nat -> Int} {col : Nat} {used : Nat -> Prop} {L T : Nat -> Nat -> Int} (h : Half p n M col used L T) (h0 : ∀ k, k < n -> ¬ used k -> L k col % p = 0) : Half p n M (col + 1) used L T :=
 ⟨h.comb, h.span, fun k hk hu => by obtain ⟨x, h1, h2⟩ := h.piv k hk hu; exact ⟨x, by omega, h2⟩, fun k hk hu x hx => by
  by_cases he : x = col
  ·subst he; exact h0 k hk hu
  ·exact h.rest k hk hu x (by omega)⟩

theorem Half.pivot {p : Int} {n : Nat} {M : Nat -> Nat -> Int} {col : Nat} {used : Nat -> Prop} {L T L' T' : Nat -> Nat -> Int} {at' : Nat} {q : Nat -> Int} (h : Half p n M col used L T) (hc : col < n) (hat : at' < n) (hu : ¬ used at') (hne : L at' col % p ≠ 0)
  (hq0 : q at' = 0) (hq : ∀ i, i < n -> i ≠ at' -> q i * L at' col % p = L i col % p) (hL : ∀ i, i < n -> ∀ x, x < n -> L' i x % p = (L i x - q i * L at' x) % p) (hT : ∀ i, i < n -> ∀ x, x < n -> T' i x % p = (T i x - q i * T at' x) % p) :
  Half p n M (col + 1) (fun k => k = at' ∨ used k) L' T' := by
 have hLat : ∀ x, x < n -> L' at' x % p = L at' x % p := fun x hx => by rw [hL _ hat x hx, hq0]; simp
 have hTat : ∀ x, x < n -> T' at' x % p = T at' x % p := fun x hx => by rw [hT _ hat x hx, hq0]; simp
 have hzat : ∀ x, x < col -> L at' x % p = 0 := fun x hx => h.rest at' hat hu x hx
 have hkeep : ∀ i, i < n -> ∀ x, x < col -> L' i x % p = L i x % p := fun i hi x hx => by
  rw [hL i hi x (by omega)];refine (zaH (a' := L i x) (b' := 0) rfl (by rw [yl _ (hzat x hx)]; simp)).trans (by rw [Int.sub_zero])
 have hcol : ∀ i, i < n -> i ≠ at' -> L' i col % p = 0 := fun i hi hne => by
  rw [hL i hi col hc];exact (zaH rfl (hq i hi hne)).trans (by simp)
 refine ⟨fun k hk x hx => ?_, fun c => ?_, fun k hk hu' => ?_, fun k hk hu' x hx => ?_⟩
 ·have e1 : zG (fun j => T' k j * M j x) n % p = zG (fun j => T k j * M j x + -q k * (T at' j * M j x)) n % p := by
   refine yZ p fun j hj => ?_;rw [vp _ (hT k hk j hj)]
   congr 1
   rw [Int.sub_mul, Int.mul_assoc, Int.neg_mul]; omega
  rw [e1, jD, jE, hL k hk x hx];have e2 : zG (fun j => T k j * M j x) n + -q k * zG (fun j => T at' j * M j x) n = zG (fun j => T k j * M j x) n - q k * zG (fun j => T at' j * M j x) n := by rw [Int.neg_mul]; omega
  rw [e2];exact zaH (h.comb k hk x hx) (y4 _ (h.comb at' hat x hx))
 ·obtain ⟨d, hd⟩ := h.span c;refine ⟨fun k => d k + if k = at' then zG (fun i => d i * q i) n else 0, fun j hj => ?_⟩;rw [hd j hj]
  have e1 : zG (fun k => d k * T k j) n % p = zG (fun k => d k * T' k j + T' at' j * (d k * q k)) n % p := by
   refine yZ p fun k hk => ?_
   have h1 : T k j % p = (T' k j + q k * T' at' j) % p := by
    have h2 := hT k hk j hj;rw [Int.add_emod, h2, Int.mul_emod, hTat j hj, <- Int.mul_emod, <- Int.add_emod]
    congr 1; omega
   rw [y4 _ h1]
   congr 1
   rw [Int.mul_add, <- Int.mul_assoc, Int.mul_comm (T' at' j)]
  rw [e1, jD, jE]
  have e2 : zG (fun k => (d k + if k = at' then zG (fun i => d i * q i) n else 0) * T' k j) n = zG (fun k => d k * T' k j + (if k = at' then zG (fun i => d i * q i) n * T' k j else 0)) n := by
   refine xT fun k _ => ?_;rw [Int.add_mul]; split <;> simp
  rw [e2, jD, vX (k := at') (f := fun k => if k = at' then zG (fun i => d i * q i) n * T' k j else 0) hat fun i _ hne => by simp [hne]];simp [Int.mul_comm]
 ·by_cases hka : k = at'
  ·subst hka;refine ⟨col, by omega, hc, ?_, fun k' hk' hne' => hcol k' hk' hne'⟩;rw [hLat col hc]; exact hne
  ·obtain ⟨x, h1, h2, h3, h4⟩ := h.piv k hk (hu'.resolve_left hka);refine ⟨x, by omega, h2, by rw [hkeep k hk x h1]; exact h3, fun k' hk' hne' => ?_⟩;rw [hkeep k' hk' x h1]; exact h4 k' hk' hne'
 ·simp only [not_or] at hu'
  by_cases hxc : x = col
  ·subst hxc; exact hcol k hk hu'.1
  ·rw [hkeep k hk x (by omega)]; exact h.rest k hk hu'.2 x (by omega)

theorem Half.free {p : Int} {n : Nat} {M : Nat -> Nat -> Int} {used : Nat -> Prop} {L T : Nat -> Nat -> Int} (h : Half p n M n used L T) {k : Nat} (hk : k < n) (hu : ¬ used k) : ∀ x, x < n -> zG (fun j => T k j * M j x) n % p = 0 := fun x hx => by
 rw [<- h.comb k hk x hx]; exact h.rest k hk hu x hx

theorem Half.all {p : Int} [Pr p] {n : Nat} {M : Nat -> Nat -> Int} {used : Nat -> Prop} {L T : Nat -> Nat -> Int} (h : Half p n M n used L T) {w : Nat -> Int} (hw : ∀ x, x < n -> zG (fun j => w j * M j x) n % p = 0)
  {j : Nat} (hj : j < n) (h0 : ∀ k, k < n -> ¬ used k -> T k j % p = 0) : w j % p = 0 := by
 obtain ⟨d, hd⟩ := h.span w
 have h1 : ∀ x, x < n -> zG (fun k => d k * L k x) n % p = 0 := by
  intro x hx
  have e1 : zG (fun k => d k * L k x) n % p = zG (fun k => zG (fun j => d k * (T k j * M j x)) n) n % p := by
   refine yZ p fun k hk => ?_;rw [jE, y4 _ (h.comb k hk x hx)]
  rw [e1, zkG, <- hw x hx];refine yZ p fun j hj => ?_;rw [vp _ (hd j hj)]
  congr 1
  rw [Int.mul_comm _ (M j x), <- jE];exact xT fun k _ => by rw [<- Int.mul_assoc, Int.mul_comm]
 have h2 : ∀ k, k < n -> used k -> d k % p = 0 := by
  intro k hk hu;obtain ⟨x, _, hxn, h3, h4⟩ := h.piv k hk hu;have h5 := h1 x hxn
  rw [yZ p (g := fun k' => if k' = k then d k * L k x else 0) fun k' hk' => by
   by_cases he : k' = k
   ·subst he; simp
   ·rw [yl _ (h4 k' hk' he)]; simp [he], vX (k := k) hk fun i _ hne => by simp [hne]] at h5
  simp only [if_true] at h5
  exact Classical.byContradiction fun hne => Pr.mul_ne hne h3 h5
 rw [hd j hj, yZ p (g := fun _ => 0) fun k hk => by
  by_cases hu : used k
  ·rw [Int.mul_comm, yl _ (h2 k hk hu)]; simp
  ·rw [yl _ (h0 k hk hu)]; simp, ki fun _ _ => rfl]
 simp

namespace Poly
variable {p : Int} [SP p]

def yv (g : Nat -> Poly p) : Nat -> Poly p
 | 0 => 0
 | n + 1 => yv g n + g n
theorem ziQ (g : Nat -> Poly p) (n : Nat) : yv g (n + 1) = g 0 + yv (fun i => g (i + 1)) n := by
 induction n with
 | zero => simp only [yv]; exact zg [g 0] (by rfl)
 | succ n ih => rw [yv, ih, yv]; exact CR.add_assoc _ _ _
theorem zec {f g : Nat -> Poly p} {n : Nat} (h : ∀ i, i < n -> f i = g i) : yv f n = yv g n := by
 induction n with
 | zero => rfl
 | succ n ih => rw [yv, yv, ih fun i hi => h i (by omega), h n (by omega)]
theorem zl1 (a : Poly p) (g : Nat -> Poly p) (n : Nat) : yv (fun i => a * g i) n = a * yv g n := by
 induction n with
 | zero => simp only [yv]; exact (CR.mul_zero a).symm
 | succ n ih => simp only [yv, ih]; exact (CR.mul_add _ _ _).symm
theorem zhK (f g : Nat -> Poly p) (n : Nat) : yv (fun i => f i - g i) n = yv f n - yv g n := by
 induction n with
 | zero => simp only [yv]; exact (CR.sub_self 0).symm
 | succ n ih => simp only [yv, ih]; exact zg [yv f n, yv g n, f n, g n] (by rfl)
theorem zkH {f : Nat -> Poly p} {n : Nat} (h : ∀ i, i < n -> f i = 0) : yv f n = 0 := by
 induction n with
 | zero => rfl
 | succ n ih => rw [yv, ih fun i hi => h i (by omega), h n (by omega)]; exact CR.add_zero 0
theorem zl2 {f : Poly p} {g : Nat -> Poly p} {n : Nat} (h : ∀ i, i < n -> f ∣ g i) : f ∣ yv g n := by
 induction n with
 | zero => exact dvd_zero _
 | succ n ih => exact dvd_add (ih fun i hi => h i (by omega)) (h n (by omega))
theorem zgp (c : Nat -> Int) (g : Nat -> Poly p) (n x : Nat) : cf (yv (fun j => con p (c j) * g j) n).l x = zG (fun j => cf (g j).l x * c j) n % p := by
 induction n with
 | zero => rw [yv, yC, zG]; simp
 | succ n ih => rw [yv, yF, ih, zd3, zG, <- Int.add_emod, Int.mul_comm (c n)]
theorem znc {g : Nat -> Poly p} {n m : Nat} (h : ∀ i, i < n -> dg (g i) <= m) : dg (yv g n) <= m := by
 induction n with
 | zero => rw [yv, zr]; omega
 | succ n ih =>
  have h1 := ih fun i hi => h i (by omega);have h2 := h n (by omega);have := zgj (yv g n) (g n);rw [yv]; omega

theorem zl3 (a : Poly p) (l : List Int) {n : Nat} (h : l.length <= n) : ev a l = yv (fun j => con p (cf l j) * a ^ j) n := by
 induction l generalizing n with
 | nil => exact (zkH fun i _ => by rw [yq, xG]; exact CR.zero_mul _).symm
 | cons c l ih =>
  obtain ⟨m, rfl⟩ : ∃ m, n = m + 1 := ⟨n - 1, by simp at h; omega⟩
  rw [ev, ih (n := m) (by simpa using h), ziQ, <- zl1, zV, zw]
  have : yv (fun i => con p (cf (c :: l) (i + 1)) * a ^ (i + 1)) m = yv (fun i => a * (con p (cf l i) * a ^ i)) m := zec fun i _ => by
   rw [zv, zi]; exact zg [con p (cf l i), a, a^i] (by rfl)
  rw [this]; rw [CR.mul_one]

abbrev X (p : Int) [Pos p] : Poly p := mono p 1 1

noncomputable def zam (f : Poly p) (i : Nat) : Poly p := rem (X p ^ (p.toNat * i)) f - X p ^ i

theorem dg_X (i : Nat) : dg (X p ^ i) <= i + 1 := by
 rw [zea];exact kg fun j hj => by rw [kC, if_neg (by omega)]

theorem znd {f : Poly p} {n i : Nat} (hf : dg f = n + 1) (hi : i < n) : dg (zam f i) <= n := by
 have hf0 : f ≠ 0 := fun e => by rw [e, zr] at hf; omega
 have h1 := zI (X p ^ (p.toNat * i)) hf0;have h2 := dg_X (p := p) i;have h3 := vJ (rem (X p ^ (p.toNat * i)) f) (X p ^ i);unfold zam; omega

theorem zgq {f w : Poly p} {n : Nat} (hf : dg f = n + 1) (hw : dg w <= n) : Ber f w ↔ ∀ x, x < n -> zG (fun j => cf (zam f j).l x * cf w.l j) n % p = 0 := by
 have hf0 : f ≠ 0 := fun e => by rw [e, zr] at hf; omega
 have h1 : w ^ p.toNat - w = yv (fun j => con p (cf w.l j) * (X p ^ (p.toNat * j) - X p ^ j)) n := by
  have e1 := zjO (X p) w.l;rw [znT, zl3 _ _ hw] at e1;have e2 := znT w;rw [zl3 (X p) w.l hw] at e2
  have e3 : yv (fun j => con p (cf w.l j) * (X p ^ p.toNat) ^ j) n - yv (fun j => con p (cf w.l j) * X p ^ j) n = yv (fun j => con p (cf w.l j) * (X p ^ (p.toNat * j) - X p ^ j)) n := by
   rw [<- zhK];exact zec fun j _ => by rw [zjN]; exact zg [con p (cf w.l j), X p ^ j, (X p ^ p.toNat) ^ j] (by rfl)
  rwa [e2, <- e1] at e3
 have h2 : f ∣ (w ^ p.toNat - w) - yv (fun j => con p (cf w.l j) * zam f j) n := by
  rw [h1, <- zhK];refine zl2 fun j _ => ?_;have := vK (X p ^ (p.toNat * j)) f;unfold zam;exact ⟨con p (cf w.l j) * quo (X p ^ (p.toNat * j)) f, by exact comb (con p (cf w.l j)) this (zg [f, con p (cf w.l j), X p ^ j, X p ^ (p.toNat * j), quo (X p ^ (p.toNat * j)) f, rem (X p ^ (p.toNat * j)) f] (by rfl))⟩
 have h3 : dg (yv (fun j => con p (cf w.l j) * zam f j) n) <= n := znc fun i hi => by
  have h4 := znd hf hi;have h5 := zM (con p (cf w.l i)) (zam f i);have h6 := vL (p := p) (cf w.l i);omega
 have h4 : Ber f w ↔ yv (fun j => con p (cf w.l j) * zam f j) n = 0 := by
  unfold Ber
  constructor
  ·intro h;refine Classical.byContradiction fun hne => ?_;have h5 := dvd_sub h h2;have e : w ^ p.toNat - w - (w ^ p.toNat - w - yv (fun j => con p (cf w.l j) * zam f j) n) = yv (fun j => con p (cf w.l j) * zam f j) n := by exact zg [w ^ p.toNat, w, yv (fun j => con p (cf w.l j) * zam f j) n] (by rfl)
   rw [e] at h5;have := zF h5 hne;omega
  ·intro h;rw [h] at h2;have e : w ^ p.toNat - w - 0 = w ^ p.toNat - w := by exact zg [w ^ p.toNat, w] (by rfl)
   rwa [e] at h2
 rw [h4]
 constructor
 ·intro h x _;rw [<- zgp, h, yC]
 ·intro h;refine zB fun x => ?_;rw [yC];rcases Nat.lt_or_ge x n with hx | hx
  ·rw [zgp]; exact h x hx
  ·exact zY (by omega)

end Poly
namespace Poly
variable {p : Int} [SP p]

def zN (h : Poly p) (e : Nat) (f : Poly p) : Prop := ∃ u, f = h ^ e * u ∧ ¬ h ∣ u

theorem zN.unique {h f : Poly p} (hh : h ≠ 0) {e e' : Nat} (h1 : zN h e f) (h2 : zN h e' f) : e = e' := by
 have key : ∀ {e e' : Nat} {u u' : Poly p}, h ^ e * u = h ^ e' * u' -> ¬ h ∣ u' -> e <= e' := by
  intro e e' u u' he hn;rcases Nat.lt_or_ge e' e with hlt | hge
  ·exfalso
   obtain ⟨k, rfl⟩ : ∃ k, e = e' + k + 1 := ⟨e - e' - 1, by omega⟩
   have hp0 : h ^ e' ≠ 0 := by
    clear he hlt
    induction e' with
    | zero => rw [zw]; exact zd1
    | succ n ih => rw [zi]; exact mul_ne ih hh
   rw [Nat.add_assoc, zbI] at he;have h3 : h ^ e' * (h ^ (k + 1) * u) = h ^ e' * u' := by exact comb (1) he (zg [u, u', h^e', h^(k+1)] (by rfl))
   have h4 := za9 hp0 h3;exact hn ⟨h ^ k * u, by rw [<- h4, zi]; exact zg [h, u, h^k] (by rfl)⟩
  ·exact hge
 obtain ⟨u, h3, h4⟩ := h1;obtain ⟨u', h5, h6⟩ := h2;exact Nat.le_antisymm (key (h3.symm.trans h5) h6) (key (h5.symm.trans h3) h4)

theorem zN.mul {h f g : Poly p} (hi : Irr h) {e e' : Nat} (h1 : zN h e f) (h2 : zN h e' g) : zN h (e + e') (f * g) := by
 obtain ⟨u, rfl, h4⟩ := h1;obtain ⟨u', rfl, h6⟩ := h2;exact ⟨u * u', by rw [zbI]; exact zg [u, u', h^e, h^e'] (by rfl), fun hd => (hi.prime hd).elim h4 h6⟩
theorem zL {h f : Poly p} : zN h 0 f ↔ ¬ h ∣ f := by
 constructor
 ·rintro ⟨u, rfl, hn⟩;rw [zw];have : 1 * u = u := by exact zg [u] (by rfl)
  rwa [this]
 ·intro hn;exact ⟨f, by rw [zw]; exact zg [f] (by rfl), hn⟩
theorem zN.pow {h f : Poly p} (hi : Irr h) {e : Nat} (h1 : zN h e f) (n : Nat) : zN h (e * n) (f ^ n) := by
 induction n with
 | zero => rw [Nat.mul_zero, zw, zL]; exact hi.not_unit y7
 | succ n ih => rw [Nat.mul_succ, zi]; exact ih.mul hi h1
theorem yD {h : Poly p} (hi : 2 <= dg h) : ∀ (n : Nat) (f : Poly p), f ≠ 0 -> dg f <= n -> ∃ e, zN h e f := by
 intro n
 induction n with
 | zero => intro f hf hn; exact absurd (ze.1 (by omega)) hf
 | succ n ih =>
  intro f hf hn
  by_cases hd : h ∣ f
  ·obtain ⟨q, rfl⟩ := hd;have hh : h ≠ 0 := fun e => hf (by rw [e]; exact zg [q] (by rfl));have hq : q ≠ 0 := fun e => hf (by rw [e]; exact zg [h] (by rfl));have h1 := yQ hh hq;obtain ⟨e, u, h2, h3⟩ := ih q hq (by omega);exact ⟨e + 1, u, by rw [zi, h2]; exact zg [h, u, h^e] (by rfl), h3⟩
  ·exact ⟨0, zL.2 hd⟩
theorem zN.dvd {h f : Poly p} {e : Nat} (h1 : zN h e f) (he : 1 <= e) : h ∣ f := by
 obtain ⟨u, rfl, _⟩ := h1;obtain ⟨n, rfl⟩ : ∃ n, e = n + 1 := ⟨e - 1, by omega⟩
 exact ⟨h ^ n * u, by rw [zi]; exact zg [h, u, h^n] (by rfl)⟩

def ltP (f g : Poly p) : Prop := dg f < dg g ∨ dg f = dg g ∧ ∃ i, cf f.l i < cf g.l i ∧ ∀ j, i < j -> cf f.l j = cf g.l j
theorem kJ {p : Int} (f : Poly p) : ¬ ltP f f := by
 rintro (h | ⟨_, i, h, _⟩) <;> omega
theorem zcl {p : Int} {f g h : Poly p} (h1 : ltP f g) (h2 : ltP g h) : ltP f h := by
 rcases h1 with h1 | ⟨h1, i, hi, hi'⟩ <;> rcases h2 with h2 | ⟨h2, j, hj, hj'⟩
 ·exact .inl (by omega)
 ·exact .inl (by omega)
 ·exact .inl (by omega)
 ·refine .inr ⟨by omega, ?_⟩;rcases Nat.lt_trichotomy i j with h | h | h
  ·exact ⟨j, by rw [hi' j h]; exact hj, fun k hk => by rw [hi' k (by omega), hj' k hk]⟩
  ·subst h; exact ⟨i, by omega, fun k hk => by rw [hi' k hk, hj' k hk]⟩
  ·exact ⟨i, by rw [<- hj' i h]; exact hi, fun k hk => by rw [hi' k hk, hj' k (by omega)]⟩
theorem zfC {p : Int} {f g : Poly p} (h : f ≠ g) : ltP f g ∨ ltP g f := by
 rcases Nat.lt_trichotomy (dg f) (dg g) with h1 | h1 | h1
 ·exact .inl (.inl h1)
 ·have : ∀ n, n <= dg f -> (∀ j, n <= j -> cf f.l j = cf g.l j) -> ltP f g ∨ ltP g f := by
   intro n
   induction n with
   | zero => intro _ hj; exact absurd (zB fun i => hj i (Nat.zero_le _)) h
   | succ n ih =>
    intro hn hj;rcases Int.lt_trichotomy (cf f.l n) (cf g.l n) with h2 | h2 | h2
    ·exact .inl (.inr ⟨h1, n, h2, fun j hj' => hj j hj'⟩)
    ·exact ih (by omega) fun j hj' => by
      rcases Nat.eq_or_lt_of_le hj' with rfl | h3
      ·exact h2
      ·exact hj j h3
    ·exact .inr (.inr ⟨h1.symm, n, h2, fun j hj' => (hj j hj').symm⟩)
  exact this (dg f) (Nat.le_refl _) fun j hj => by rw [zY hj, zY (by omega)]
 ·exact .inr (.inl h1)

theorem zfD {α : Type} {lt : α -> α -> Prop} (irr : ∀ a, ¬ lt a a) (tr : ∀ a b c, lt a b -> lt b c -> lt a c) : ∀ {l l' : List α}, l.Pairwise lt -> l'.Pairwise lt -> (∀ x, x ∈ l ↔ x ∈ l') -> l = l'
 | [], [], _, _, _ => rfl
 | [], b :: l', _, _, h => absurd ((h b).2 (by simp)) (by simp)
 | a :: l, [], _, _, h => absurd ((h a).1 (by simp)) (by simp)
 | a :: l, b :: l', h1, h2, h => by
  rw [List.pairwise_cons] at h1 h2
  have hab : a = b := by
   rcases List.mem_cons.1 ((h a).1 (by simp)) with h3 | h3
   ·exact h3
   ·rcases List.mem_cons.1 ((h b).2 (by simp)) with h4 | h4
    ·exact h4.symm
    ·exact absurd (tr _ _ _ (h2.1 a h3) (h1.1 b h4)) (irr b)
  subst hab;rw [zfD irr tr h1.2 h2.2 fun x => ?_]
  constructor
  ·intro hx;rcases List.mem_cons.1 ((h x).1 (by simp [hx])) with h3 | h3
   ·subst h3; exact absurd (h1.1 x hx) (irr x)
   ·exact h3
  ·intro hx;rcases List.mem_cons.1 ((h x).2 (by simp [hx])) with h3 | h3
   ·subst h3; exact absurd (h2.1 x hx) (irr x)
   ·exact h3

def zan (f : Poly p) (x : Poly p × Nat) : Prop := Irr x.1 ∧ Mon x.1 ∧ 1 <= x.2 ∧ zN x.1 x.2 f
def zJ (f : Poly p) (F : List (Poly p × Nat)) : Prop := F.Pairwise (fun x y => ltP x.1 y.1) ∧ ∀ x, x ∈ F ↔ zan f x
theorem zJ.unique {f : Poly p} {F F' : List (Poly p × Nat)} (h : zJ f F) (h' : zJ f F') : F = F' :=
 zfD (lt := fun x y : Poly p × Nat => ltP x.1 y.1) (fun x => kJ x.1) (fun _ _ _ h1 h2 => zcl h1 h2) h.1 h'.1 fun x => (h.2 x).trans (h'.2 x).symm

def zbc (f : Poly p) (L : List (Poly p)) : Prop := L.Nodup ∧ ∀ h, h ∈ L ↔ (Irr h ∧ Mon h ∧ h ∣ f)

structure Parts (f : Poly p) (L : List (Poly p)) : Prop where
 each : ∀ a ∈ L, Mon a ∧ 2 <= dg a ∧ a ∣ f
 all : ∀ h, Irr h -> h ∣ f -> ∃ a ∈ L, h ∣ a
 apart : L.Pairwise fun a b => ∀ h, Irr h -> h ∣ a -> h ∣ b -> False

theorem Parts.start {f : Poly p} (hm : Mon f) (h2 : 2 <= dg f) : Parts f [f] :=
 ⟨by simp [hm, h2, dvd_refl], fun h hi hd => ⟨f, by simp, hd⟩, by simp⟩

theorem Parts.irrs {f : Poly p} {L : List (Poly p)} (h : Parts f L) (hi : ∀ a ∈ L, Irr a) : zbc f L := by
 refine ⟨?_, fun g => ⟨fun hg => ⟨hi g hg, (h.each g hg).1, (h.each g hg).2.2⟩, fun ⟨h1, h2, h3⟩ => ?_⟩⟩
 ·have : L.Pairwise fun a b => a ∈ L -> a ≠ b := h.apart.imp fun {a b} hab ha (he : a = b) => hab a (hi a ha) (dvd_refl a) (by rw [<- he]; exact dvd_refl a);exact List.pairwise_iff_getElem.2 fun i j hi' hj' hij => (List.pairwise_iff_getElem.1 this i j hi' hj' hij) (List.getElem_mem _)
 ·obtain ⟨a, ha, hd⟩ := h.all g h1 h3;rw [jB h1 (hi a ha) h2 (h.each a ha).1 hd]; exact ha

noncomputable def zeW (v a : Poly p) (s : Nat) : List (Poly p) := if 2 <= dg (gcd a (v - con p (s : Int))) then [gcd a (v - con p (s : Int))] else []
noncomputable def xp (v a : Poly p) (n : Nat) : List (Poly p) := (List.range n).flatMap (zeW v a)
noncomputable def zO (v : Poly p) (L : List (Poly p)) : List (Poly p) := L.flatMap fun a => xp v a p.toNat

theorem zbL {v a g : Poly p} {n : Nat} : g ∈ xp v a n ↔ ∃ s, s < n ∧ 2 <= dg (gcd a (v - con p (s : Int))) ∧ g = gcd a (v - con p (s : Int)) := by
 simp only [xp, List.mem_flatMap, List.mem_range, zeW]
 constructor
 ·rintro ⟨s, h1, h2⟩
  split at h2
  ·rename_i h3; simp at h2; exact ⟨s, h1, h3, h2⟩
  ·cases h2
 ·rintro ⟨s, h1, h2, h3⟩;exact ⟨s, h1, by rw [if_pos h2]; simp [h3]⟩

theorem zl4 {h v : Poly p} (hi : Irr h) {s t : Nat} (hs : (s : Int) < p) (ht : (t : Int) < p) (h1 : h ∣ v - con p (s : Int)) (h2 : h ∣ v - con p (t : Int)) : s = t := by
 have := ziP hi.1 h1 h2;rw [Int.emod_eq_of_lt (by omega) hs, Int.emod_eq_of_lt (by omega) ht] at this;omega

theorem zfE {v a : Poly p} {n : Nat} (hn : (n : Int) <= p) : (xp v a n).Pairwise fun x y => ∀ h, Irr h -> h ∣ x -> h ∣ y -> False := by
 induction n with
 | zero => simp [xp]
 | succ n ih =>
  have e : xp v a (n + 1) = xp v a n ++ zeW v a n := by simp [xp, List.range_succ]
  rw [e, List.pairwise_append];refine ⟨ih (by omega), ?_, fun x hx y hy h hi h1 h2 => ?_⟩
  ·unfold zeW; split <;> simp
  ·obtain ⟨s, hs, _, rfl⟩ := zbL.1 hx;unfold zeW at hy
   split at hy
   ·simp at hy; subst hy
    have := zl4 (p := p) hi (s := s) (t := n) (by omega) (by omega) (dvd_trans h1 (xX _ _)) (dvd_trans h2 (xX _ _));omega
   ·cases hy

theorem zne {v a h : Poly p} (hv : Ber h v) (hi : Irr h) (hd : h ∣ a) (ha : a ≠ 0) : ∃ g ∈ xp v a p.toNat, h ∣ g := by
 obtain ⟨s, h1, h2, h3⟩ := znb hi hv;have h4 := zjL hd h3;have hm := zbH (f := a) (g := v - con p s) (.inl ha);have h5 := zF h4 hm.1;have h6 := hi.1;have e : ((s.toNat : Nat) : Int) = s := by omega
 refine ⟨_, zbL.2 ⟨s.toNat, by omega, ?_, rfl⟩, ?_⟩
 ·rw [e]; omega
 ·rw [e]; exact h4

theorem Parts.cut {f v : Poly p} {L : List (Poly p)} (h : Parts f L) (hv : Ber f v) : Parts f (zO v L) ∧ ∀ a' ∈ zO v L, (∃ s : Int, a' ∣ v - con p s) ∧ ∃ a ∈ L, a' ∣ a := by
 have hmem : ∀ a' ∈ zO v L, ∃ a ∈ L, ∃ s : Nat, 2 <= dg a' ∧ a' = gcd a (v - con p (s : Int)) := by
  intro a' ha';obtain ⟨a, ha, hg⟩ := List.mem_flatMap.1 ha';obtain ⟨s, _, h2, rfl⟩ := zbL.1 hg;exact ⟨a, ha, s, h2, rfl⟩
 refine ⟨⟨fun a' ha' => ?_, fun q hq hd => ?_, ?_⟩, fun a' ha' => ?_⟩
 ·obtain ⟨a, ha, s, h2, rfl⟩ := hmem a' ha';exact ⟨zbH (.inl (h.each a ha).1.1), h2, dvd_trans (vo _ _) (h.each a ha).2.2⟩
 ·obtain ⟨a, ha, hqa⟩ := h.all q hq hd;obtain ⟨g, hg, hqg⟩ := zne (hv.dvd hd) hq hqa (h.each a ha).1.1;exact ⟨g, List.mem_flatMap.2 ⟨a, ha, hg⟩, hqg⟩
 ·unfold zO;rw [List.pairwise_flatMap];refine ⟨fun a _ => zfE (by have := Pr.two (p := p); omega), h.apart.imp fun {a b} hab x hx y hy q hq h1 h2 => ?_⟩;obtain ⟨s, _, _, rfl⟩ := zbL.1 hx;obtain ⟨t, _, _, rfl⟩ := zbL.1 hy;exact hab q hq (dvd_trans h1 (vo _ _)) (dvd_trans h2 (vo _ _))
 ·obtain ⟨a, ha, s, h2, rfl⟩ := hmem a' ha';exact ⟨⟨s, xX _ _⟩, a, ha, vo _ _⟩

end Poly

theorem zhL (n m : Int) (hm : 0 < m) : (n.tmod m + m).tmod m = n % m := by
 have h1 := Int.lt_tmod_of_pos n hm;rw [Int.tmod_eq_emod_of_nonneg (by omega), Int.add_emod_right];rw [Int.tmod_eq_emod]
 split
 ·simp
 ·rw [show (m.natAbs : Int) = m by omega, Int.sub_emod, Int.emod_self]; simp

abbrev isP (p : Int) : Bool := decide (p ∈ yx)

theorem ziR : (List.range 98).all (fun n => decide ((n : Int) ∈ yx) == (decide (2 <= n) && (List.range 10).all fun d => !(decide (2 <= d ∧ d * d <= n ∧ n % d = 0)))) = true := by decide +kernel
theorem kK {n : Int} (h : n <= 97) : n ∈ yx ↔ 2 <= n ∧ ∀ d : Int, 2 <= d -> d * d <= n -> n % d ≠ 0 := by
 rcases Int.lt_or_le n 2 with h2 | h2
 ·constructor
  ·intro hm;have := List.all_eq_true.1 zbb n hm;simp only [decide_eq_true_eq] at this
   omega
  ·intro h3; omega
 ·obtain ⟨k, rfl⟩ : ∃ k : Nat, n = k := ⟨n.toNat, by omega⟩
  have h3 := List.all_eq_true.1 ziR k (List.mem_range.2 (by omega));simp only [beq_iff_eq] at h3
  have h4 : ((k : Int) ∈ yx) ↔ decide ((k : Int) ∈ yx) = true := by simp
  rw [h4, h3];simp only [Bool.and_eq_true, decide_eq_true_eq, List.all_eq_true, List.mem_range, Bool.not_eq_true', decide_eq_false_iff_not, not_and]
  constructor
  ·rintro ⟨h5, h6⟩;refine ⟨h2, fun d hd hdd hr => ?_⟩
   have h9 : d < 10 := by
    rcases Int.lt_or_le d 10 with h | h
    ·exact h
    ·have : 10 * 10 <= d * d := Int.mul_le_mul h h (by omega) (by omega);omega
   obtain ⟨m, rfl⟩ : ∃ m : Nat, d = m := ⟨d.toNat, by omega⟩
   refine h6 m (by omega) (by omega) (by exact_mod_cast hdd) ?_;omega
  ·rintro ⟨_, h6⟩;refine ⟨by omega, fun d hd h7 h8 h9 => h6 d (by omega) (by exact_mod_cast h8) (by omega)⟩
theorem kj {n : Int} (h : n ∈ yx) : 2 <= n ∧ n <= 97 := by
 have := List.all_eq_true.1 zbb n h
 simpa using this

structure Bz (a b r x y s u v : Int) : Prop where
 r0 : 0 <= r
 s0 : 0 <= s
 e1 : a * x + b * y = r
 e2 : a * u + b * v = s
 g : ∀ d : Int, (d ∣ a ∧ d ∣ b) ↔ (d ∣ r ∧ d ∣ s)
 bd : ∃ ε X U Y V : Int, (ε = 1 ∨ ε = -1) ∧ 0 <= X ∧ 0 <= U ∧ 0 <= Y ∧ 0 <= V ∧ x = ε * X ∧ u = -(ε * U) ∧ y = -(ε * Y) ∧ v = ε * V ∧ U * r + X * s = b ∧ V * r + Y * s = a

theorem Bz.start {a b : Int} (ha : 0 <= a) (hb : 0 <= b) : Bz a b a 1 0 b 0 1 :=
 ⟨ha, hb, by omega, by omega, fun _ => Iff.rfl, 1, 1, 0, 0, 1, .inl rfl, by omega, by omega, by omega, by omega, by omega, by omega, by omega, by omega, by omega, by omega⟩

theorem km {q s r : Int} (hs : 1 <= s) (hq : 0 <= q) (h : q * s <= r) : q <= r := by
 have : q * 1 <= q * s := Int.mul_le_mul_of_nonneg_left hs hq;omega

structure BzB (a b r x y s u v q : Int) : Prop where
 q0 : 0 <= q
 qr : q <= r
 qs : 0 <= q * s ∧ q * s <= r
 qu : -b <= q * u ∧ q * u <= b
 qv : -a <= q * v ∧ q * v <= a
 bx : -b <= x ∧ x <= b
 by' : -a <= y ∧ y <= a
 nx : -b <= x - q * u ∧ x - q * u <= b
 ny : -a <= y - q * v ∧ y - q * v <= a

theorem zaI {ε z B : Int} (he : ε = 1 ∨ ε = -1) (h0 : 0 <= z) (h : z <= B) : -B <= ε * z ∧ ε * z <= B := by
 rcases he with rfl | rfl <;> omega
theorem Bz.step {a b r x y s u v : Int} (h : Bz a b r x y s u v) (hs : s ≠ 0) : BzB a b r x y s u v (r / s) ∧ Bz a b s u v (r - r / s * s) (x - r / s * u) (y - r / s * v) := by
 obtain ⟨h1, h2, h3, h4, h5, ε, X, U, Y, V, he, hX, hU, hY, hV, rfl, rfl, rfl, rfl, h6, h7⟩ := h;have hs1 : 1 <= s := by omega
 have hm := Int.emod_nonneg r hs;have hm2 := Int.emod_lt_of_pos r (show 0 < s by omega);have hd : r = r / s * s + r % s := by have := Int.mul_ediv_add_emod r s; rw [Int.mul_comm] at this; omega
 have hq : 0 <= r / s := Int.ediv_nonneg h1 h2;generalize hqq : r / s = q at *;generalize hrr : r % s = r' at *;have hqs0 : 0 <= q * s := Int.mul_nonneg hq h2;have hqs : q * s <= r := by omega
 have hUr : 0 <= U * r := Int.mul_nonneg hU h1;have hVr : 0 <= V * r := Int.mul_nonneg hV h1;have hXs : 0 <= X * s := Int.mul_nonneg hX h2;have hYs : 0 <= Y * s := Int.mul_nonneg hY h2;have hXb : X <= b := km (s := s) hs1 hX (by omega);have hYa : Y <= a := km (s := s) hs1 hY (by omega);have hqU : 0 <= q * U := Int.mul_nonneg hq hU;have hqV : 0 <= q * V := Int.mul_nonneg hq hV
 have k1 : q * U * s <= U * r := by
  have : U * (q * s) <= U * r := Int.mul_le_mul_of_nonneg_left hqs hU;have e : q * U * s = U * (q * s) := by rw [Int.mul_comm q U, Int.mul_assoc]
  omega
 have k2 : q * V * s <= V * r := by
  have : V * (q * s) <= V * r := Int.mul_le_mul_of_nonneg_left hqs hV;have e : q * V * s = V * (q * s) := by rw [Int.mul_comm q V, Int.mul_assoc]
  omega
 have hXU : X + q * U <= b := km (s := s) hs1 (by omega) (by rw [Int.add_mul]; omega);have hYV : Y + q * V <= a := km (s := s) hs1 (by omega) (by rw [Int.add_mul]; omega);have e1 : q * -(ε * U) = -(ε * (q * U)) := by rw [Int.mul_neg, <- Int.mul_assoc, Int.mul_comm q ε, Int.mul_assoc]
 have e2 : q * (ε * V) = ε * (q * V) := by rw [<- Int.mul_assoc, Int.mul_comm q ε, Int.mul_assoc]
 have e3 : ε * X - q * -(ε * U) = ε * (X + q * U) := by rw [e1, Int.mul_add]; omega
 have e4 : -(ε * Y) - q * (ε * V) = -(ε * (Y + q * V)) := by rw [e2, Int.mul_add]; omega
 refine ⟨⟨hq, km hs1 hq hqs, ⟨hqs0, hqs⟩, ?_, ?_, zaI he hX hXb, ?_, ?_, ?_⟩, h2, by omega, h4, ?_, fun d => ?_, -ε, U, X + q * U, V, Y + q * V, by omega, hU, by omega, hV, by omega, ?_, ?_, ?_, ?_, ?_, ?_⟩
 ·rw [e1]; have := zaI he hqU (show q * U <= b by omega); omega
 ·rw [e2]; exact zaI he hqV (show q * V <= a by omega)
 ·have := zaI he hY hYa; omega
 ·rw [e3]; exact zaI he (by omega) hXU
 ·rw [e4]; have := zaI he (by omega) hYV; omega
 ·rw [Int.mul_sub, Int.mul_sub];have i1 : a * (q * -(ε * U)) = q * (a * -(ε * U)) := by rw [<- Int.mul_assoc, Int.mul_comm a q, Int.mul_assoc]
  have i2 : b * (q * (ε * V)) = q * (b * (ε * V)) := by rw [<- Int.mul_assoc, Int.mul_comm b q, Int.mul_assoc]
  have i3 : q * (a * -(ε * U)) + q * (b * (ε * V)) = q * s := by rw [<- Int.mul_add, h4]
  omega
 ·rw [h5 d]
  constructor
  ·rintro ⟨h8, h9⟩; exact ⟨h9, Int.dvd_sub h8 (Int.dvd_mul_of_dvd_right h9)⟩
  ·rintro ⟨h8, h9⟩;refine ⟨?_, h8⟩;have := Int.dvd_add h9 (Int.dvd_mul_of_dvd_right h8 (b := q))
   rwa [show r - q * s + q * s = r by omega] at this
 ·rw [Int.neg_mul]
 ·rw [Int.neg_mul, e3]; omega
 ·rw [Int.neg_mul]; omega
 ·rw [Int.neg_mul, e4]
 ·rw [Int.add_mul, Int.mul_sub];have : U * (q * s) = q * U * s := by rw [Int.mul_comm q U, Int.mul_assoc]
  omega
 ·rw [Int.add_mul, Int.mul_sub];have : V * (q * s) = q * V * s := by rw [Int.mul_comm q V, Int.mul_assoc]
  omega
theorem Bz.fin {a b r x y u v : Int} (h : Bz a b r x y 0 u v) : a * x + b * y = r ∧ 0 <= r ∧ r ∣ a ∧ r ∣ b := by
 have := (h.g r).2 ⟨Int.dvd_refl r, Int.dvd_zero r⟩;exact ⟨h.e1, h.r0, this.1, this.2⟩

def yd (m a : Int) : Int := (((List.range m.toNat).find? fun b : Nat => a * (b : Int) % m == 1 % m).getD 0 : Nat)
theorem zgr {m a x : Int} (hm : 0 < m) (h : a * x % m = 1 % m) : yd m a = x % m := by
 unfold yd;have h0 := Int.emod_nonneg x (show m ≠ 0 by omega);have h1 := Int.emod_lt_of_pos x hm;cases hf : (List.range m.toNat).find? fun b : Nat => a * (b : Int) % m == 1 % m with
 | none =>
  exfalso
  rw [List.find?_eq_none] at hf;have h2 := hf (x % m).toNat (List.mem_range.2 (by omega));simp only [beq_iff_eq] at h2
  rw [show ((x % m).toNat : Int) = x % m by omega, Int.mul_emod, Int.emod_emod_of_dvd _ (Int.dvd_refl m), <- Int.mul_emod] at h2;exact h2 h
 | some b =>
  have h2 := List.find?_some hf;have h3 := List.mem_range.1 (List.mem_of_find?_eq_some hf);simp only [beq_iff_eq] at h2
  simp only [Option.getD_some]
  -- both are inverses
  have h4 : a * b * x % m = (b : Int) % m := by
   rw [Int.mul_assoc, Int.mul_comm (b : Int) x, <- Int.mul_assoc, Int.mul_emod, h, <- Int.mul_emod, Int.one_mul]
  have h5 : a * b * x % m = x % m := by
   rw [Int.mul_emod, h2, <- Int.mul_emod, Int.one_mul]
  rw [<- h5, h4, Int.emod_eq_of_lt (by omega) (by omega)]
theorem y5 {p a : Int} [Pr p] (h : a % p ≠ 0) : 0 <= yd p a ∧ yd p a < p ∧ a * yd p a % p = 1 := by
 have hp := Pr.two (p := p);obtain ⟨b, hb⟩ := Pr.inv (p := p) a h;have h1 : (1 : Int) % p = 1 := Int.emod_eq_of_lt (by omega) (by omega);rw [zgr (m := p) (x := b) (by omega) (by rw [hb, h1])];refine ⟨Int.emod_nonneg _ (by omega), Int.emod_lt_of_pos _ (by omega), ?_⟩;rw [Int.mul_emod, Int.emod_emod_of_dvd _ (Int.dvd_refl p), <- Int.mul_emod, hb]
theorem zl5 {p a : Int} [Pr p] (h : a % p ≠ 0) : yd p (a % p) = yd p a := by
 have hp := Pr.two (p := p);obtain ⟨h1, h2, h3⟩ := y5 h;rw [zgr (m := p) (x := yd p a) (by omega), Int.emod_eq_of_lt h1 h2];rw [Int.mul_emod, Int.emod_emod_of_dvd _ (Int.dvd_refl p), <- Int.mul_emod, h3, Int.emod_eq_of_lt (by omega) (by omega)]

theorem zeX {p a r : Int} [Pr p] (ha : a % p ≠ 0) (h0 : 0 <= r) (h1 : r ∣ a) (h2 : r ∣ p) : r = 1 := by
 obtain ⟨c, rfl⟩ := h1;obtain ⟨d, hd⟩ := h2;have hp := Pr.two (p := p)
 -- r is a unit by p, so p divides d, so r = 1
 by_cases hr : r % p = 0
 ·exact absurd (by rw [Int.mul_emod, hr]; simp) ha
 ·obtain ⟨b, hb⟩ := Pr.inv (p := p) r hr
  have h3 : d % p = 0 := by
   have h4 : r * b * d % p = d % p := by rw [Int.mul_emod, hb, Int.one_mul, Int.emod_emod_of_dvd _ (Int.dvd_refl p)]
   rw [<- h4, show r * b * d = p * b by rw [Int.mul_assoc, Int.mul_comm b d, <- Int.mul_assoc, <- hd]];exact Int.mul_emod_right p b
  obtain ⟨k, hk⟩ := Int.dvd_of_emod_eq_zero h3;rw [hk, <- Int.mul_assoc, Int.mul_comm r p, Int.mul_assoc] at hd
  have h5 : r * k = 1 := by
   have : p * (r * k) = p * 1 := by omega
   exact Int.eq_of_mul_eq_mul_left (by omega) this
  have hr1 : r ≠ 0 := fun h => by rw [h, Int.zero_mul] at h5; omega
  have hk1 : 1 <= k := by
   rcases Int.lt_or_le k 1 with h | h
   ·have : r * k <= r * 0 := Int.mul_le_mul_of_nonneg_left (by omega) h0;omega
   ·exact h
  have : r * 1 <= r * k := Int.mul_le_mul_of_nonneg_left hk1 h0;omega
theorem Bz.inv {p a r x y u v : Int} [Pr p] (ha : a % p ≠ 0) (h : Bz a p r x y 0 u v) : x % p = yd p a := by
 have hp := Pr.two (p := p);obtain ⟨h1, h2, h3, h4⟩ := h.fin;have hr := zeX ha h2 h3 h4;subst hr;refine (zgr (m := p) (by omega) ?_).symm;have : a * x = 1 + p * -y := by rw [Int.mul_neg]; omega
 rw [this, Int.add_mul_emod_self_left]


theorem yH {l : List Int} {i : Nat} (h : i < l.length) (x : Int) (j : Nat) : cf (l.set i x) j = if j = i then x else cf l j := by
 unfold cf;simp only [List.getD_eq_getElem?_getD, List.getElem?_set]
 by_cases hj : i = j
 ·subst hj; simp [h]
 ·simp [hj, Ne.symm hj]
theorem zP (n : Nat) (j : Nat) : cf (List.replicate n 0) j = 0 := by
 unfold cf;simp only [List.getD_eq_getElem?_getD, List.getElem?_replicate]
 split <;> rfl
theorem zjP (l : List Int) (n j : Nat) : cf (l.take n) j = if j < n then cf l j else 0 := by
 unfold cf;simp only [List.getD_eq_getElem?_getD, List.getElem?_take]
 split <;> rfl
theorem znf (l : List Int) (n j : Nat) : cf (l.drop n) j = cf l (n + j) := by
 unfold cf;simp only [List.getD_eq_getElem?_getD, List.getElem?_drop]
theorem zao (f : Int -> Int) (l : List Int) {j : Nat} (h : j < l.length) : cf (l.map f) j = f (cf l j) := by
 unfold cf;simp [List.getD_eq_getElem?_getD, h]
theorem zl6 {l m : List Int} (h : l.length = m.length) (he : ∀ j, j < l.length -> cf l j = cf m j) : l = m := by
 apply List.ext_getElem h;intro j h1 h2;have := he j h1
 rwa [vT h1, vT h2] at this
theorem zl7 {l : List Int} {j : Nat} (h : j < l.length) : cf l j ∈ l := by rw [vT h]; exact List.getElem_mem h

theorem zap {l m : List Int} (h : ∀ j, cf l j = cf m j) : zj l = zj m :=
 yc (yU l) (yU m) fun j => by rw [yj, yj, h]
theorem zdg {l : List Int} {n : Nat} (hn : n <= l.length) (h0 : ∀ j, n <= j -> cf l j = 0) (h : n = 0 ∨ cf l (n - 1) ≠ 0) : l.take n = zj l := by
 refine yc ?_ (yU l) fun j => ?_
 ·intro m hm;rw [List.length_take, Nat.min_eq_left hn] at hm;subst hm;rw [zjP, if_pos (by omega)];rcases h with h | h
  ·omega
  ·exact h
 ·rw [zjP, yj]
  split
  ·rfl
  ·exact (h0 j (by omega)).symm
theorem zkI : zj [] = [] := rfl

def Bd (M : Int) (l : List Int) : Prop := ∀ j, -M <= cf l j ∧ cf l j <= M
theorem Bd.trim {M : Int} {l : List Int} (h : Bd M l) : Bd M (zj l) := fun j => by rw [yj]; exact h j
namespace Poly
variable {p : Int} [SP p]
theorem kn (f : Poly p) (j : Nat) : 0 <= cf f.l j ∧ cf f.l j < p := by
 have hp := Pr.two (p := p)
 by_cases hj : j < f.l.length
 ·exact f.ok.1 _ (zl7 hj)
 ·rw [zE (by omega)]; omega
theorem yV (f : Poly p) : Bd 97 f.l := fun j => by
 have h := kn f j; have := SP.le (p := p); omega
end Poly

theorem zhM {A B : Int} (hA : 0 <= A) (hB : 0 <= B) {n : Nat} (f g : Nat -> Int) (hf : ∀ j, -A <= f j ∧ f j <= A) (hf0 : ∀ j, n <= j -> f j = 0) (hg : ∀ j, -B <= g j ∧ g j <= B) :
  ∀ k, -((n : Int) * (A * B)) <= cv f g k ∧ cv f g k <= (n : Int) * (A * B) := by
 have hAB : 0 <= A * B := Int.mul_nonneg hA hB
 have hm : ∀ i j, -(A * B) <= f i * g j ∧ f i * g j <= A * B := by
  intro i j;have h1 := hf i;have h2 := hg j
  have e1 : (f i * g j).natAbs <= (A * B).natAbs := by
   rw [Int.natAbs_mul, Int.natAbs_mul];exact Nat.mul_le_mul (by omega) (by omega)
  omega
 intro k
 induction n generalizing f k with
 | zero =>
  have : cv f g k = 0 := yB fun i _ => hf0 i (Nat.zero_le _);rw [this]; simp
 | succ n ih =>
  have e : ((n + 1 : Nat) : Int) * (A * B) = (n : Int) * (A * B) + A * B := by rw [Int.natCast_add, Int.add_mul]; simp
  rw [e];have hn : 0 <= (n : Int) * (A * B) := Int.mul_nonneg (by omega) hAB;cases k with
  | zero =>
   have := hm 0 0;simp only [cv]; omega
  | succ k =>
   have h1 := ih (fun i => f (i + 1)) (fun j => hf (j + 1)) (fun j hj => hf0 (j + 1) (by omega)) (fun i j => hm (i + 1) j) k;have h2 := hm 0 (k + 1);have h3 : cv f g (k + 1) = f 0 * g (k + 1) + cv (fun i => f (i + 1)) g k := rfl;rw [h3]; omega

def part (f g : Nat -> Int) (i k j : Nat) : Int := cv (fun x => if x < i then f x else 0) g j + (if i <= j ∧ j < i + k then f i * g (j - i) else 0)
theorem zkJ (c : Int) (i : Nat) (g : Nat -> Int) (j : Nat) : cv (fun x => if x = i then c else 0) g j = if i <= j then c * g (j - i) else 0 := Poly.cv_mono c i g j
theorem zed {f g : Nat -> Int} {m : Nat} (hg : ∀ j, m <= j -> g j = 0) (i j : Nat) : part f g i m j = part f g (i + 1) 0 j := by
 unfold part;rw [if_neg (show ¬ (i + 1 <= j ∧ j < i + 1 + 0) by omega), Int.add_zero]
 have e : (fun x => if x < i + 1 then f x else 0) = fun x => (if x < i then f x else 0) + (if x = i then f i else 0) := by
  funext x
  by_cases h : x < i
  ·rw [if_pos h, if_pos (by omega), if_neg (by omega)]; omega
  ·by_cases h2 : x = i
   ·subst h2; rw [if_pos (by omega), if_neg h, if_pos rfl]; omega
   ·rw [if_neg (by omega), if_neg h, if_neg h2]; rfl
 rw [e, zgh, zkJ]
 congr 1
 by_cases h : i <= j
 ·rw [if_pos h]
  by_cases h2 : j < i + m
  ·rw [if_pos ⟨h, h2⟩]
  ·rw [if_neg (by omega), hg _ (by omega), Int.mul_zero]
 ·rw [if_neg (by omega), if_neg h]
theorem zbd (f g : Nat -> Int) (j : Nat) : part f g 0 0 j = 0 := by
 unfold part;rw [if_neg (by omega), yB fun i _ => by simp]; rfl
theorem zaJ (f g : Nat -> Int) (i k j : Nat) : part f g i (k + 1) j = if j = i + k then part f g i k j + f i * g k else part f g i k j := by
 unfold part
 by_cases h : j = i + k
 ·subst h;rw [if_pos rfl, if_pos ⟨by omega, by omega⟩, if_neg (by omega), show i + k - i = k by omega]; omega
 ·rw [if_neg h]
  congr 1
  by_cases h2 : i <= j ∧ j < i + k
  ·rw [if_pos h2, if_pos ⟨h2.1, by omega⟩]
  ·rw [if_neg h2, if_neg (by omega)]
theorem zee {f g : Nat -> Int} {n : Nat} (hf : ∀ j, n <= j -> f j = 0) (j : Nat) : part f g n 0 j = cv f g j := by
 unfold part;rw [if_neg (by omega), Int.add_zero]
 congr 1
 funext x
 split
 ·rfl
 ·exact (hf x (by omega)).symm
theorem zjQ {A B : Int} (hA : 0 <= A) (hB : 0 <= B) {f g : Nat -> Int} (hf : ∀ j, -A <= f j ∧ f j <= A) (hg : ∀ j, -B <= g j ∧ g j <= B) (i k j : Nat) :
  -(((i : Int) + 1) * (A * B)) <= part f g i k j ∧ part f g i k j <= ((i : Int) + 1) * (A * B) := by
 have h1 := zhM hA hB (n := i) (fun x => if x < i then f x else 0) g (fun j => by split; exact hf j; omega) (fun j hj => if_neg (by omega)) hg j;have hAB : 0 <= A * B := Int.mul_nonneg hA hB
 have h2 : -(A * B) <= f i * g (j - i) ∧ f i * g (j - i) <= A * B := by
  have h1 := hf i;have h2 := hg (j - i)
  have e1 : (f i * g (j - i)).natAbs <= (A * B).natAbs := by
   rw [Int.natAbs_mul, Int.natAbs_mul];exact Nat.mul_le_mul (by omega) (by omega)
  omega
 unfold part;rw [Int.add_mul, Int.one_mul]
 split <;> omega

theorem y6 (f : Int -> Int) {xs : List Int} {i : Nat} (h : i < xs.length) : (xs.take (i + 1)).map f = (xs.take i).map f ++ [f (xs.getD i 0)] := by
 rw [List.take_add_one, List.map_append, List.getElem?_eq_getElem h, List.getD_eq_getElem?_getD, List.getElem?_eq_getElem h]; rfl

theorem zbM (n : Nat) (f : Nat -> Int) : mkL (n + 1) f = mkL n f ++ [f n] := by simp [mkL, List.range_succ]
theorem zhN {out f g : List Int} (h : ∀ j, cf out j = cf f j + cf g j) : zj out = zj (yu f g) := zap fun j => by rw [h, yK]
theorem zhO {out f g : List Int} (h : ∀ j, cf out j = cv (cf f) (cf g) j) : zj out = zj (z0 f g) := zap fun j => by rw [h, vP]
theorem zbN {f g : List Int} (h : f = [] ∨ g = []) : zj (z0 f g) = [] := by
 rw [<- zkI];refine zap fun j => ?_;rw [vP, yq];rcases h with rfl | rfl
 ·exact yB fun i _ => yq i
 ·rw [je]; exact yB fun i _ => yq i
theorem vq (p : Int) (l : List Int) : nrm p (zj l) = nrm p l := yc (yY _ _) (yY _ _) fun j => by rw [v8, v8, yj]

theorem zgs {p : Int} {l : List Int} (h : ∀ j, 0 <= cf l j ∧ cf l j < p) : nrm p l = zj l :=
 yc (yY p l) (yU l) fun j => by rw [v8, yj, Int.emod_eq_of_lt (h j).1 (h j).2]

namespace Poly
variable {p : Int} [SP p]

structure DivI (p : Int) [SP p] (F G : Poly p) (nq k : Nat) (r q : List Int) : Prop where
 rl : r.length = dg F
 ql : q.length = nq
 eq : F = of p q * G + of p r
 z : ∀ j, k + dg G <= j + 1 -> cf r j = 0
 rr : ∀ j, 0 <= cf r j ∧ cf r j < p
 qr : ∀ j, 0 <= cf q j ∧ cf q j < p
 qz : ∀ j, j < k -> cf q j = 0

theorem DivI.start (F G : Poly p) {nq : Nat} (h : dg F + 1 <= nq + dg G) : DivI p F G nq nq F.l (List.replicate nq 0) := by
 have hp := Pr.two (p := p);refine ⟨rfl, by simp, ?_, fun j hj => zY (by omega), fun j => kn F j, fun j => by rw [zP]; omega, fun j _ => zP _ _⟩;have h0 : of p (List.replicate nq 0) = (0 : Poly p) := zB fun i => by rw [zT, zP, yC]; simp
 rw [h0, of_l];exact zg [F, G] (by rfl)

theorem DivI.step {F G : Poly p} {nq k : Nat} {r q r' : List Int} (h : DivI p F G nq (k + 1) r q) (hG : G ≠ 0) (hk : k < nq) (c : Int) (hc : c = cf r (k + dg G - 1) * yd p (cf G.l (dg G - 1)) % p)
  (hl : r'.length = r.length) (hr : ∀ j, cf r' j = if k <= j ∧ j < k + dg G then (cf r j - c * cf G.l (j - k)) % p else cf r j) : DivI p F G nq k r' (q.set k c) := by
 have hp := Pr.two (p := p);have hm : dg G ≠ 0 := fun e => hG (ze.1 e);have hcr : 0 <= c ∧ c < p := by rw [hc]; exact ⟨Int.emod_nonneg _ (by omega), Int.emod_lt_of_pos _ (by omega)⟩
 have hql := h.ql;have hlead : cf G.l (dg G - 1) % p ≠ 0 := z5 (yL (by omega));have hinv := (y5 (p := p) hlead).2.2
 have e1 : of p (q.set k c) = of p q + mono p c k := zB fun i => by
  rw [zT, yF, zT, kC, yH (by omega)]
  by_cases hi : i = k
  ·subst hi; rw [if_pos rfl, if_pos rfl, h.qz i (by omega)]; simp
  ·rw [if_neg hi, if_neg hi]; simp
 have e2 : of p r' = of p r - mono p c k * G := zB fun i => by
  rw [zT, jy, zT, vV, hr]
  by_cases hi : k <= i
  ·rw [if_pos hi]
   by_cases hi2 : i < k + dg G
   ·rw [if_pos ⟨hi, hi2⟩];rw [Int.emod_emod_of_dvd _ (Int.dvd_refl p), <- Int.sub_emod]
   ·rw [if_neg (by omega), zY (f := G) (by omega)]; simp
  ·rw [if_neg (by omega), if_neg hi]; simp
 refine ⟨by rw [hl, h.rl], by simpa using hql, ?_, fun j hj => ?_, fun j => ?_, fun j => ?_, fun j hj => ?_⟩
 ·rw [e1, e2];exact comb 1 h.eq (zg [F, G, of p q, of p r, mono p c k] (by rfl))
 ·rw [hr]
  by_cases hj2 : j < k + dg G
  ·obtain rfl : j = k + dg G - 1 := by omega
   rw [if_pos (by omega), show k + dg G - 1 - k = dg G - 1 by omega, hc];generalize cf r (k + dg G - 1) = a;generalize yd p (cf G.l (dg G - 1)) = v at hinv;generalize cf G.l (dg G - 1) = l at hinv;rw [Int.sub_emod, Int.mul_emod (a * v % p), Int.emod_emod_of_dvd _ (Int.dvd_refl p), <- Int.mul_emod, show a * v * l = a * (l * v) by rw [Int.mul_assoc, Int.mul_comm v l], Int.mul_emod a, hinv, Int.mul_one, Int.emod_emod_of_dvd _ (Int.dvd_refl p)];simp
  ·rw [if_neg (by omega)]; exact h.z j (by omega)
 ·rw [hr]
  split
  ·exact ⟨Int.emod_nonneg _ (by omega), Int.emod_lt_of_pos _ (by omega)⟩
  ·exact h.rr j
 ·rw [yH (by omega)]
  split
  ·exact hcr
  ·exact h.qr j
 ·rw [yH (by omega), if_neg (by omega)];exact h.qz j (by omega)

theorem DivI.fin {F G : Poly p} {nq : Nat} {r q : List Int} (h : DivI p F G nq 0 r q) (hG : G ≠ 0) : zj q = (quo F G).l ∧ zj r = (rem F G).l := by
 have hm : dg G ≠ 0 := fun e => hG (ze.1 e)
 have h1 := zcg (q := of p q) (r := of p r) h.eq (by
  have : dg (of p r) <= dg G - 1 := kg fun j hj => by rw [zT, h.z j (by omega)]; simp
  omega)
 rw [h1.1, h1.2];exact ⟨(zgs h.qr).symm, (zgs h.rr).symm⟩

theorem zef {p : Int} {c : Int} {g : Nat -> Int} {r o : List Int} {k i n : Nat} (hn : o.length = n) (hi : k + i < n) (h : ∀ j, cf o j = if k <= j ∧ j < k + i then (cf r j - c * g (j - k)) % p else cf r j) :
  cf o (k + i) = cf r (k + i) ∧ ∀ j, cf (o.set (k + i) ((cf o (k + i) - c * g i) % p)) j = if k <= j ∧ j < k + (i + 1) then (cf r j - c * g (j - k)) % p else cf r j := by
 have h0 : cf o (k + i) = cf r (k + i) := by rw [h, if_neg (by omega)]
 refine ⟨h0, fun j => ?_⟩;rw [yH (by omega), h0, h]
 by_cases hj : j = k + i
 ·subst hj; rw [if_pos rfl, if_pos (by omega), show k + i - k = i by omega]
 ·rw [if_neg hj]
  by_cases h2 : k <= j ∧ j < k + i
  ·rw [if_pos h2, if_pos (by omega)]
  ·rw [if_neg h2, if_neg (by omega)]

end Poly
namespace Poly
variable {p : Int} [SP p]

theorem zeY {f a b : Poly p} (hf : f ≠ 0) (h : f ∣ a - b) : rem a f = rem b f := by
 obtain ⟨q, hq⟩ := h;have h1 := vK b f;have h2 := zI b hf;exact (zcg (q := q + quo b f) (comb 1 hq (comb 1 h1 (zg [a, b, f, q, quo b f, rem b f] (by rfl)))) h2).2
theorem xY (a f : Poly p) : f ∣ a - rem a f := ⟨quo a f, comb 1 (vK a f) (zg [a, f, quo a f, rem a f] (by rfl))⟩
theorem xq {a b f : Poly p} (hf : f ≠ 0) : rem (rem a f * b) f = rem (a * b) f := by
 refine (zeY hf ?_).symm;obtain ⟨q, hq⟩ := xY a f;exact ⟨q * b, comb b hq (zg [a, b, f, q, rem a f] (by rfl))⟩
theorem jZ {a b f : Poly p} (hf : f ≠ 0) : rem (a * rem b f) f = rem (a * b) f := by
 have e : a * rem b f = rem b f * a := zg [a, rem b f] (by rfl);have e2 : b * a = a * b := zg [a, b] (by rfl);rw [e, xq hf, e2]
theorem zfF {a f : Poly p} (h : dg a < dg f) : rem a f = a := (zcg (q := 0) (f := a) (g := f) (zg [a, f] (by rfl)) h).2
theorem zgt {a f : Poly p} (hf : f ≠ 0) (n : Nat) : rem (rem a f ^ n) f = rem (a ^ n) f := by
 induction n with
 | zero => rfl
 | succ n ih => rw [zi, zi, jZ hf, <- xq hf, ih, xq hf]
theorem zgu (a : Poly p) (n : Nat) : a ^ n = (a * a) ^ (n / 2) * a ^ (n % 2) := by
 have h1 : (a * a) ^ (n / 2) = a ^ (2 * (n / 2)) := by
  rw [zjN]
  congr 1
  show a * a = 1 * a * a
  rw [CR.one_mul]
 rw [h1, <- zbI]
 congr 1; omega
theorem zhP {o b f g : Poly p} (hf : f ≠ 0) {n : Nat} (h : rem (o * b ^ n) f = g) :
  rem ((if n % 2 = 1 then rem (o * b) f else o) * rem (b * b) f ^ (n / 2)) f = g := by
 rw [<- jZ hf, zgt hf, jZ hf, <- h, zgu b n]
 split
 ·rename_i hn
  have e1 : b ^ (n % 2) = b := by rw [hn]; exact CR.one_mul b
  have e2 : o * b * (b * b) ^ (n / 2) = o * ((b * b) ^ (n / 2) * b) := zg [o, b, (b * b) ^ (n / 2)] (by rfl);rw [xq hf, e1, e2]
 ·rename_i hn
  have e1 : b ^ (n % 2) = 1 := by rw [show n % 2 = 0 by omega]; rfl
  rw [e1, CR.mul_one]

theorem zhQ {c : Int} (h0 : 0 < c) (h1 : c < p) : (con p c).l = [c] := by
 refine yc (con p c).ok.2 ?_ fun i => ?_
 ·intro n hn;have : n = 0 := by simpa using hn.symm
  subst this;show c ≠ 0
  omega
 ·rw [xS, Int.emod_eq_of_lt (by omega) h1];cases i <;> simp [cf]
theorem zfG : (1 : Poly p).l = [1] := by
 have hp := Pr.two (p := p);exact zhQ (c := 1) (by omega) (by omega)
theorem zl8 {F : Poly p} (hF : F ≠ 0) : 0 < yd p (cf F.l (dg F - 1)) ∧ yd p (cf F.l (dg F - 1)) < p ∧ F * con p (yd p (cf F.l (dg F - 1))) = mnc F := by
 have hp := Pr.two (p := p);have hd : dg F ≠ 0 := fun e => hF (ze.1 e);have hl : cf F.l (dg F - 1) % p ≠ 0 := z5 (yL (by omega));obtain ⟨h1, h2, h3⟩ := y5 hl;generalize yd p (cf F.l (dg F - 1)) = c at h1 h2 h3;have hc0 : c ≠ 0 := fun e => by rw [e, Int.mul_zero, Int.zero_emod] at h3; omega
 have hcm : c % p ≠ 0 := by rw [Int.emod_eq_of_lt h1 h2]; exact hc0
 refine ⟨by omega, h2, ?_⟩
 have hm : Mon (con p c * F) := by
  refine ⟨mul_ne (zgm hcm) hF, ?_⟩;rw [zd4 (zgm hcm) hF, zlQ hcm, Int.emod_eq_of_lt h1 h2, Int.mul_comm];exact h3
 rw [znR hm];exact zg [F, con p c] (by rfl)
theorem zkK (F G : Poly p) (hF : F ≠ 0) : dg (gcd F G) <= dg F := zF (vo F G) hF
end Poly

theorem zkL {p : Int} {n m a0 : Nat} {R R' : Nat -> Nat -> Int} {s b : Int} (hab : s * b % p = 1) (ha : a0 < m) (h1 : ∀ x, x < n -> R' a0 x % p = (s * R a0 x) % p)
  (h2 : ∀ i, i < m -> i ≠ a0 -> ∃ t : Int, ∀ x, x < n -> R' i x % p = (R i x - t * (s * R a0 x)) % p) (c : Nat -> Int) : Sol p n m R' c ↔ Sol p n m R c := by
 constructor
 ·intro h
  have hat : jP p n (R a0) c := by
   have h3 := kH b (h a0 ha);refine (vY (fun x hx => ?_) (fun _ _ => rfl)).1 h3;rw [y4 b (h1 x hx), <- Int.mul_assoc, Int.mul_comm b s, Int.mul_emod, hab, Int.one_mul, z9]
  intro k hk
  by_cases he : k = a0
  ·subst he; exact hat
  ·obtain ⟨t, ht⟩ := h2 k hk he;have h3 := zfB t (h k hk) (kH s hat);refine (vY (fun x hx => ?_) (fun _ _ => rfl)).1 h3;rw [Int.add_emod, ht x hx, <- Int.add_emod]
   congr 1; omega
 ·intro h k hk
  by_cases he : k = a0
  ·subst he;exact (vY (fun x hx => h1 x hx) (fun _ _ => rfl)).2 (kH s (h k hk))
  ·obtain ⟨t, ht⟩ := h2 k hk he;have h3 := zfB (-t) (h k hk) (kH s (h a0 ha));refine (vY (fun x hx => ?_) (fun _ _ => rfl)).2 h3;rw [ht x hx]
   congr 1; rw [Int.neg_mul]; omega

namespace Poly
variable {p : Int} [SP p]

def zeg (L : List (Poly p)) (w : Poly p) : Prop := ∀ C : Poly p -> Prop, C 0 -> (∀ a b, C a -> C b -> C (a + b)) -> (∀ (c : Int) a, C a -> C (con p c * a)) -> (∀ a ∈ L, C a) -> C w

theorem zl9 {L : List (Poly p)} {g : Nat -> Poly p} {n : Nat} (h : ∀ i, i < n -> zeg L (g i)) : zeg L (yv g n) := by
 intro C h0 ha hc hL
 induction n with
 | zero => exact h0
 | succ n ih => exact ha _ _ (ih fun i hi => h i (by omega)) (h n (by omega) C h0 ha hc hL)

def zcM (p : Int) [SP p] (n : Nat) (piv : List Nat) (R : Nat -> Nat -> Int) (col : Nat) : Poly p := of p (mkL n (jF p piv R col))
theorem zbO (n : Nat) (piv : List Nat) (R : Nat -> Nat -> Int) (col x : Nat) : cf (zcM p n piv R col).l x = if x < n then jF p piv R col x % p else 0 := by
 rw [zcM, zT, vI]; split <;> simp

def vw (p : Int) [SP p] (n : Nat) (piv : List Nat) (R : Nat -> Nat -> Int) (m : Nat) : List (Poly p) := ((List.range m).filter fun c => !piv.contains c).map (zcM p n piv R)
theorem zeh (n : Nat) (piv : List Nat) (R : Nat -> Nat -> Int) (m : Nat) : vw p n piv R (m + 1) = if m ∈ piv then vw p n piv R m else vw p n piv R m ++ [zcM p n piv R m] := by
 unfold vw;rw [List.range_succ, List.filter_append]
 by_cases h : m ∈ piv
 ·simp [h]
 ·simp [h]

structure Basis (p : Int) [SP p] (n : Nat) (R : Nat -> Nat -> Int) (L : List (Poly p)) : Prop where
 few : L.length <= n
 sol : ∀ w ∈ L, dg w <= n ∧ Sol p n n R (cf w.l)
 span : ∀ w : Poly p, dg w <= n -> Sol p n n R (cf w.l) -> zeg L w

theorem Steps.basis {n : Nat} {piv : List Nat} {R R0 : Nat -> Nat -> Int} (h : Steps p n n piv R) (he : ∀ c, Sol p n n R c ↔ Sol p n n R0 c) : Basis p n R0 (vw p n piv R n) := by
 refine ⟨?_, ?_, ?_⟩
 ·unfold vw;rw [List.length_map];exact Nat.le_trans (List.length_filter_le _ _) (by simp)
 ·intro w hw;obtain ⟨col, hc, rfl⟩ := List.mem_map.1 hw;simp only [List.mem_filter, List.mem_range, Bool.not_eq_true', List.contains_eq_mem, decide_eq_false_iff_not] at hc
  refine ⟨kg fun i hi => by rw [zbO, if_neg (by omega)], (he _).1 fun k hk => ?_⟩;refine (vY (fun _ _ => rfl) (fun i hi => ?_)).1 (h.free hc.1 hc.2 k hk);rw [zbO, if_pos hi, z9]
 ·intro w hw hs;have h1 := h.all ((he _).2 hs)
  have e : w = yv (fun col => con p (if col ∈ piv then 0 else cf w.l col) * zcM p n piv R col) n := zB fun x => by
   rw [zgp (fun col => if col ∈ piv then 0 else cf w.l col)]
   by_cases hx : x < n
   ·rw [<- xy w x, h1 x hx];refine yZ p fun col hcol => ?_;rw [zbO, if_pos hx]
    split
    ·simp
    ·rw [Int.mul_comm, vp _ (z9 p _)]
   ·rw [zY (by omega)];rw [ki fun i _ => by rw [zbO, if_neg hx, Int.zero_mul]]; simp
  rw [e];refine zl9 fun col hcol => ?_;intro C h0 ha hc hL
  by_cases hp : col ∈ piv
  ·rw [if_pos hp, xG, CR.zero_mul]; exact h0
  ·rw [if_neg hp];refine hc _ _ (hL _ (List.mem_map.2 ⟨col, ?_, rfl⟩));simp [hcol, hp]

structure Ker (f : Poly p) (L : List (Poly p)) : Prop where
 few : L.length <= dg f
 ber : ∀ w ∈ L, Ber f w ∧ dg w < dg f
 span : ∀ w : Poly p, dg w < dg f -> Ber f w -> zeg L w
noncomputable def zcm (f : Poly p) (k i : Nat) : Int := cf (zam f i).l k
theorem Basis.ker {f : Poly p} {n : Nat} {L : List (Poly p)} (hf : dg f = n + 1) (h : Basis p n (zcm f) L) : Ker f L := by
 have hb : ∀ w : Poly p, dg w <= n -> (Ber f w ↔ Sol p n n (zcm f) (cf w.l)) := fun w hw => zgq hf hw;exact ⟨by have := h.few; omega, fun w hw => ⟨(hb w (h.sol w hw).1).2 (h.sol w hw).2, by have := (h.sol w hw).1; omega⟩, fun w hw hB => h.span w (by omega) ((hb w (by omega)).1 hB)⟩

theorem zma {L : List (Poly p)} {a : Poly p} (h : ∀ w ∈ L, ∃ s : Int, a ∣ w - con p s) {w : Poly p} (hw : zeg L w) : ∃ s : Int, a ∣ w - con p s := by
 refine hw (fun w => ∃ s : Int, a ∣ w - con p s) ⟨0, ?_⟩ ?_ ?_ h
 ·rw [xG, CR.sub_self]; exact dvd_zero _
 ·rintro x y ⟨s, q, hq⟩ ⟨t, r, hr⟩;refine ⟨s + t, q + r, ?_⟩;rw [<- zgk];exact comb 1 hq (comb 1 hr (zg [x, y, a, q, r, con p s, con p t] (by rfl)))
 ·rintro c x ⟨s, q, hq⟩;refine ⟨c * s, con p c * q, ?_⟩;rw [<- zbE];exact comb (con p c) hq (zg [x, a, q, con p c, con p s] (by rfl))

theorem Parts.done {f : Poly p} {P L : List (Poly p)} (hf : f ≠ 0) (hs : Sqf f) (hk : Ker f L) (hp : Parts f P) (hc : ∀ a ∈ P, ∀ w ∈ L, ∃ s : Int, a ∣ w - con p s) : zbc f P :=
 hp.irrs fun a ha => zhI hf hs (hp.each a ha).2.2 (hp.each a ha).2.1 fun w hw hb => zma (hc a ha) (hk.span w hw hb)

structure Cut (f : Poly p) (B P : List (Poly p)) : Prop where
 parts : Parts f P
 con : ∀ a ∈ P, ∀ w ∈ B, ∃ s : Int, a ∣ w - Poly.con p s
theorem Cut.start {f : Poly p} (hm : Mon f) (h2 : 2 <= dg f) : Cut f [] [f] := ⟨Parts.start hm h2, by simp⟩
theorem Cut.next {f v : Poly p} {B P : List (Poly p)} (h : Cut f B P) (hv : Ber f v) : Cut f (B ++ [v]) (zO v P) := by
 obtain ⟨h1, h2⟩ := h.parts.cut hv;refine ⟨h1, fun a ha w hw => ?_⟩;obtain ⟨h3, a0, ha0, h4⟩ := h2 a ha;rcases List.mem_append.1 hw with hw | hw
 ·obtain ⟨s, hs⟩ := h.con a0 ha0 w hw;exact ⟨s, dvd_trans h4 hs⟩
 ·simp at hw; subst hw; exact h3
theorem Cut.done {f : Poly p} {L P : List (Poly p)} (hf : f ≠ 0) (hs : Sqf f) (hk : Ker f L) (h : Cut f L P) : zbc f P := Parts.done hf hs hk h.parts h.con

theorem X_l : (X p).l = [0, 1] := by
 have hp := Pr.two (p := p);refine yc (X p).ok.2 ?_ fun i => ?_
 ·intro n hn;have : n = 1 := by simpa using hn.symm
  subst this;show (1 : Int) ≠ 0
  omega
 ·rw [kC, Int.emod_eq_of_lt (by omega) (by omega)]
  match i with
  | 0 => rfl
  | 1 => rfl
  | i + 2 => rw [if_neg (by omega), zE (by simp)]
theorem zng (i a : Nat) : cf (X p ^ i).l a = if a = i then 1 else 0 := by
 have hp := Pr.two (p := p);rw [zea, Nat.one_mul, kC, Int.emod_eq_of_lt (by omega) (by omega)]
theorem zgv (f : Poly p) (a i : Nat) : zcm f a i = (cf (rem (X p ^ (p.toNat * i)) f).l a - if a = i then 1 else 0) % p := by
 unfold zcm zam;rw [jy, zng]

end Poly
namespace Poly
variable {p : Int} [SP p]

def zei : List (Poly p) -> Poly p
 | [] => 1
 | a :: l => a * zei l
theorem zhR {a : Poly p} : ∀ {l : List (Poly p)}, (∀ b ∈ l, Cop a b) -> Cop a (zei l)
 | [], _ => (zgn a).symm
 | b :: l, h => by
  have h1 := h b (by simp);have h2 := zhR (l := l) fun c hc => h c (by simp [hc]);exact (h1.symm.mul h2.symm).symm
theorem zej {f : Poly p} (hf : f ≠ 0) : ∀ {l : List (Poly p)}, (∀ a ∈ l, a ∣ f) -> l.Pairwise (fun a b => ∀ h, Irr h -> h ∣ a -> h ∣ b -> False) -> zei l ∣ f
 | [], _, _ => zdd f
 | a :: l, h, hp => by
  rw [List.pairwise_cons] at hp;have h1 := zej hf (l := l) (fun b hb => h b (by simp [hb])) hp.2;have ha := h a (by simp);exact (zhR fun b hb => zba (zd2 ha hf) (hp.1 b hb)).mul_dvd ha h1
theorem zgw : ∀ {l : List (Poly p)}, (∀ a ∈ l, 2 <= dg a) -> l.length + 1 <= dg (zei l)
 | [], _ => by rw [zei, y7]; simp
 | a :: l, h => by
  have h1 := zgw (l := l) fun b hb => h b (by simp [hb]);have h2 := h a (by simp);have ha : a ≠ 0 := fun e => by rw [e, zr] at h2; omega
  have hl : zei l ≠ 0 := fun e => by rw [e, zr] at h1; omega
  have := yQ ha hl;rw [zei, List.length_cons]; omega
theorem Parts.few {f : Poly p} {P : List (Poly p)} (h : Parts f P) (hf : f ≠ 0) : P.length + 1 <= dg f :=
 Nat.le_trans (zgw fun a ha => (h.each a ha).2.1) (zF (zej hf (fun a ha => (h.each a ha).2.2) h.apart) hf)
theorem zbc.few {f : Poly p} {P : List (Poly p)} (h : zbc f P) (hf : f ≠ 0) : P.length + 1 <= dg f := by
 refine Nat.le_trans (zgw (l := P) fun a ha => ((h.2 a).1 ha).1.1) (zF (zej hf (fun a ha => ((h.2 a).1 ha).2.2) ?_) hf);refine List.pairwise_iff_getElem.2 fun i j hi hj hij q hq h1 h2 => ?_;have ha := (h.2 _).1 (List.getElem_mem hi);have hb := (h.2 _).1 (List.getElem_mem hj);have e1 := jB (kG hq).1 ha.1 (kG hq).2 ha.2.1 (dvd_trans (yg q).1 h1);have e2 := jB (kG hq).1 hb.1 (kG hq).2 hb.2.1 (dvd_trans (yg q).1 h2);exact List.pairwise_iff_getElem.1 h.1 i j hi hj hij (e1.symm.trans e2)

theorem ko (v a : Poly p) (n : Nat) : xp v a (n + 1) = xp v a n ++ zeW v a n := by simp [xp, List.range_succ]
theorem zmb (v a : Poly p) {n m : Nat} (h : n <= m) : (xp v a n).length <= (xp v a m).length := by
  induction m with
  | zero => obtain rfl : n = 0 := by omega
            exact Nat.le_refl _
  | succ m ih =>
    rcases Nat.eq_or_lt_of_le h with rfl | h'
    · exact Nat.le_refl _
    · have := ih (by omega)
      rw [ko, List.length_append]; omega
theorem zcN (v : Poly p) {P : List (Poly p)} {j : Nat} (h : j < P.length) : zO v (P.take (j + 1)) = zO v (P.take j) ++ xp v (P.getD j 0) p.toNat := by
 unfold zO;rw [List.take_add_one, List.flatMap_append, List.getElem?_eq_getElem h, List.getD_eq_getElem?_getD, List.getElem?_eq_getElem h];simp
theorem ziS (v : Poly p) (P : List (Poly p)) (j : Nat) : (zO v (P.take j)).length <= (zO v P).length := by
 conv => rhs; rw [<- List.take_append_drop j P]
 unfold zO;rw [List.flatMap_append, List.length_append]; omega
theorem znh (v : Poly p) {P : List (Poly p)} {j a : Nat} (h : j < P.length) (ha : a <= p.toNat) : (zO v (P.take j) ++ xp v (P.getD j 0) a).length <= (zO v P).length := by
 have h1 := ziS v P (j + 1);rw [zcN v h, List.length_append] at h1;have h2 := zmb v (P.getD j 0) ha;rw [List.length_append]; omega

theorem zfH (v : Poly p) (a : Int) : nrm p (zj (yu v.l [-a])) = (v - con p a).l := by
 rw [vq];show (of p (yu v.l [-a])).l = _
 congr 1
 refine zB fun i => ?_;rw [zT, yK, jy, xS];cases i with
 | zero => rw [if_pos rfl, zV]; rw [Int.sub_emod, Int.emod_emod_of_dvd _ (Int.dvd_refl p), <- Int.sub_emod]; congr 1
 | succ i => rw [if_neg (by omega), zv, yq]; simp
theorem zhS {L : List (Poly p)} {j : Nat} (h : j < L.length) : L.getD j 0 ∈ L := by
 rw [List.getD_eq_getElem?_getD, List.getElem?_eq_getElem h]; exact List.getElem_mem h
theorem zkM {L : List (Poly p)} {j : Nat} (h : j < L.length) : L.take (j + 1) = L.take j ++ [L.getD j 0] := by
 rw [List.take_add_one, List.getD_eq_getElem?_getD, List.getElem?_eq_getElem h]; rfl

end Poly
namespace Poly
variable {p : Int} [SP p]

theorem zaK {h : Poly p} (hm : Mon h) (n : Nat) : Mon (h ^ n) := by
 induction n with
 | zero => rw [zw]; exact zgl
 | succ n ih => rw [zi]; exact ih.mul hm
theorem Mon.left {f g : Poly p} (hf : Mon g) (h : Mon (f * g)) : Mon f := by
 rw [ji] at h; exact hf.right h

structure Peel (f : Poly p) (P : List (Poly p)) (k : Nat) (r : Poly p) (L : List (Poly p × Nat)) : Prop where
 mon : Mon r
 len : L.length = k
 le : k <= P.length
 cut : ∃ s, f = r * s ∧ ∀ h, Irr h -> Mon h -> h ∣ s -> ∃ j, j < k ∧ h = P.getD j 0
 fac : ∀ j, j < k -> (L.getD j (0, 0)).1 = P.getD j 0 ∧ 1 <= (L.getD j (0, 0)).2 ∧ zN (P.getD j 0) (L.getD j (0, 0)).2 f
 out : ∀ j, j < k -> ¬ P.getD j 0 ∣ r
 rest : ∀ h e, Irr h -> Mon h -> (∀ j, j < k -> h ≠ P.getD j 0) -> (zN h e f ↔ zN h e r)

theorem Peel.start {f : Poly p} (hm : Mon f) (P : List (Poly p)) : Peel f P 0 f [] :=
 ⟨hm, rfl, Nat.zero_le _, ⟨1, by exact zg [f] (by rfl), fun h hi _ hd => (hi.not_unit y7 hd).elim⟩, fun j hj => absurd hj (by omega), fun j hj => absurd hj (by omega), fun _ _ _ _ _ => Iff.rfl⟩

theorem zbe {P : List (Poly p)} (h : P.Nodup) {i j : Nat} (hi : i < P.length) (hj : j < P.length) (e : P.getD i 0 = P.getD j 0) : i = j := by
 rw [List.getD_eq_getElem?_getD, List.getD_eq_getElem?_getD, List.getElem?_eq_getElem hi, List.getElem?_eq_getElem hj] at e;exact (List.getElem_inj h).1 (by simpa using e)

theorem zcn {α : Type} {d x : α} {L : List α} {j : Nat} : (L ++ [x]).getD j d = if j < L.length then L.getD j d else if j = L.length then x else d := by
 simp only [List.getD_eq_getElem?_getD, List.getElem?_append]
 by_cases h : j < L.length
 ·simp [h]
 ·by_cases h2 : j = L.length
  ·simp [h2]
  ·rw [if_neg h, if_neg h, if_neg h2, List.getElem?_eq_none (by simp; omega)]; rfl

theorem Peel.step {f r r' : Poly p} {P : List (Poly p)} {k n : Nat} {L : List (Poly p × Nat)} (h : Peel f P k r L) (hP : P.Nodup) (hk : k < P.length) (hi : Irr (P.getD k 0)) (hm : Mon (P.getD k 0)) (hd : P.getD k 0 ∣ f)
  (he : r = P.getD k 0 ^ n * r') (hn : ¬ P.getD k 0 ∣ r') : Peel f P (k + 1) r' (L ++ [(P.getD k 0, n)]) := by
 have hr' : r' ∣ r := ⟨P.getD k 0 ^ n, by rw [he]; exact ji _ _⟩
 have hmult : zN (P.getD k 0) n r := ⟨r', he, hn⟩
 have hmf : zN (P.getD k 0) n f := (h.rest _ _ hi hm fun j hj e => by have := zbe hP hk (by have := h.le; omega) e; omega).2 hmult
 have hn1 : 1 <= n := by
  rcases Nat.eq_zero_or_pos n with h0 | h0
  ·subst h0; exact absurd hd (zL.1 hmf)
  ·exact h0
 refine ⟨(zaK hm n).right (he ▸ h.mon), by simp [h.len], hk, ?_, fun j hj => ?_, fun j hj => ?_, fun q e hq hqm hqn => ?_⟩
 ·obtain ⟨s, h1, h2⟩ := h.cut;refine ⟨P.getD k 0 ^ n * s, by rw [h1, he]; exact zg [P.getD k 0 ^ n, r', s] (by rfl), fun q hq hqm hqd => ?_⟩;rcases hq.prime hqd with h3 | h3
  ·exact ⟨k, by omega, jB hq hi hqm hm (hq.pow h3)⟩
  ·obtain ⟨j, hj, e⟩ := h2 q hq hqm h3;exact ⟨j, by omega, e⟩
 ·rw [zcn]
  by_cases hjk : j = k
  ·subst hjk;rw [if_neg (by have := h.len; omega), if_pos h.len.symm];exact ⟨rfl, hn1, hmf⟩
  ·rw [if_pos (by have := h.len; omega)];exact h.fac j (by omega)
 ·by_cases hjk : j = k
  ·subst hjk; exact hn
  ·exact fun hdj => h.out j (by omega) (dvd_trans hdj hr')
 ·rw [h.rest q e hq hqm fun j hj => hqn j (by omega)];have hne : ¬ q ∣ P.getD k 0 := fun hd' => hqn k (by omega) (jB hq hi hqm hm hd');have h0 : zN q 0 (P.getD k 0 ^ n) := zL.2 fun hd' => hne (hq.pow hd');have r0 : r' ≠ 0 := fun e0 => h.mon.1 (by rw [he, e0]; exact zg [P.getD k 0 ^ n] (by rfl))
  have up : ∀ e', zN q e' r' -> zN q e' r := fun e' h1 => by
   have := h0.mul hq h1;rw [Nat.zero_add] at this;rw [he]; exact this
  refine ⟨fun h1 => ?_, up e⟩;obtain ⟨e', h2⟩ := yD hq.1 _ r' r0 (Nat.le_refl _);rw [h1.unique hq.ne (up e' h2)]; exact h2

theorem zjR {f g : Poly p} (hf : f ≠ 0) (h : ∀ h, Irr h -> Mon h -> h ∣ f -> h ∣ g -> False) : Cop f g :=
 zba hf fun q hq h1 h2 => by
  obtain ⟨hi, hm⟩ := kG hq;exact h _ hi hm (dvd_trans (yg q).1 h1) (dvd_trans (yg q).1 h2)

theorem Peel.fin {f r : Poly p} {P : List (Poly p)} {L : List (Poly p × Nat)} (h : Peel f P P.length r L) (_hf : Mon f) {q c : Poly p} (hq : zbc q P) (he : f = q * c) (hc : c ∣ der f) :
  der r = 0 ∧ ∀ x, zan f x ↔ x ∈ L ∨ zan r x := by
 have hr0 := h.mon.1
 have hidx : ∀ {g : Poly p}, g ∈ P -> ∃ j, j < P.length ∧ g = P.getD j 0 := fun {g} hg => by
  obtain ⟨j, hj, e⟩ := List.getElem_of_mem hg;exact ⟨j, hj, by rw [List.getD_eq_getElem?_getD, List.getElem?_eq_getElem hj]; exact e.symm⟩
 constructor
 ·obtain ⟨s, h1, h2⟩ := h.cut;refine zlV he h1 hr0 hc (zjR hr0 fun g hg hgm h3 h4 => ?_) (zjR hr0 fun g hg hgm h3 h4 => ?_)
  ·obtain ⟨j, hj, rfl⟩ := hidx ((hq.2 g).2 ⟨hg, hgm, h4⟩);exact h.out j hj h3
  ·obtain ⟨j, hj, rfl⟩ := h2 g hg hgm h4;exact h.out j hj h3
 ·have hL : ∀ x, x ∈ L ↔ ∃ j, j < P.length ∧ x = L.getD j (0, 0) := fun x => by
   constructor
   ·intro hx;obtain ⟨j, hj, e⟩ := List.getElem_of_mem hx;exact ⟨j, by have := h.len; omega, by rw [List.getD_eq_getElem?_getD, List.getElem?_eq_getElem hj]; exact e.symm⟩
   ·rintro ⟨j, hj, rfl⟩;have hj' : j < L.length := by have := h.len; omega
    rw [List.getD_eq_getElem?_getD, List.getElem?_eq_getElem hj'];exact List.getElem_mem hj'
  rintro ⟨g, e⟩;rw [hL]
  constructor
  ·rintro ⟨h1, h2, h3, h4⟩
   by_cases hg : ∃ j, j < P.length ∧ g = P.getD j 0
   ·obtain ⟨j, hj, rfl⟩ := hg;obtain ⟨h5, h6, h7⟩ := h.fac j hj;refine .inl ⟨j, hj, ?_⟩;have : e = (L.getD j (0, 0)).2 := h4.unique h1.ne h7;exact Prod.ext h5.symm this
   ·exact .inr ⟨h1, h2, h3, (h.rest g e h1 h2 fun j hj e' => hg ⟨j, hj, e'⟩).1 h4⟩
  ·rintro (⟨j, hj, hx⟩ | ⟨h1, h2, h3, h4⟩)
   ·obtain ⟨h5, h6, h7⟩ := h.fac j hj;rw [hx]
    have hmem : P.getD j 0 ∈ P := by
     rw [List.getD_eq_getElem?_getD, List.getElem?_eq_getElem hj]; exact List.getElem_mem hj
    obtain ⟨h8, h9, _⟩ := (hq.2 _).1 hmem;exact ⟨by rw [h5]; exact h8, by rw [h5]; exact h9, h6, by rw [h5]; exact h7⟩
   ·refine ⟨h1, h2, h3, (h.rest g e h1 h2 fun j hj e' => ?_).2 h4⟩;have hd : g ∣ r := h4.dvd h3;exact h.out j hj (e' ▸ hd)

theorem zbP {f g : Poly p} (h : f ∣ g) (h' : g ∣ f) (hf : f ≠ 0) {q : Poly p} (hq : Irr q) (e : Nat) (h1 : zN q e f) : zN q e g := by
 obtain ⟨u, rfl⟩ := h;obtain ⟨v, hv⟩ := h'
 have huv : u * v = 1 := by
  have h3 : f * (u * v) = f * 1 := by
   have : f * (u * v) = f * u * v := by exact zg [f, u, v] (by rfl)
   rw [this, <- hv]; exact zg [f] (by rfl)
  exact za9 hf h3
 have hu : ¬ q ∣ u := fun hd => by
  have h4 : q ∣ u * v := by obtain ⟨w, hw⟩ := hd; exact ⟨w * v, by rw [hw]; exact zg [q, w, v] (by rfl)⟩
  rw [huv] at h4;exact hq.not_unit y7 h4
 have := h1.mul hq (zL.2 hu)
 rwa [Nat.add_zero] at this
theorem zfI {f : Poly p} (hf : f ≠ 0) (x : Poly p × Nat) : zan (mnc f) x ↔ zan f x := by
 obtain ⟨h1, h2⟩ := yg f;exact ⟨fun ⟨a, b, c, d⟩ => ⟨a, b, c, zbP h1 h2 (jO hf).1 a _ d⟩, fun ⟨a, b, c, d⟩ => ⟨a, b, c, zbP h2 h1 hf a _ d⟩⟩

theorem zbf {f : Poly p} (h : dg f = 1) (x : Poly p × Nat) : ¬ zan f x := fun ⟨a, _, c, d⟩ => a.not_unit h (d.dvd c)

theorem zco {g f : Poly p} (hg : g ≠ 0) {n : Nat} (hn : 1 <= n) (he : g ^ n = f) (x : Poly p × Nat) : zan f x ↔ ∃ e, zan g (x.1, e) ∧ x.2 = n * e := by
 subst he
 constructor
 ·rintro ⟨a, b, c, d⟩;obtain ⟨e, h1⟩ := yD a.1 _ g hg (Nat.le_refl _);have h2 := h1.pow a n;have h3 := d.unique a.ne h2;refine ⟨e, ⟨a, b, ?_, h1⟩, by rw [h3, Nat.mul_comm]⟩;rcases Nat.eq_zero_or_pos e with h4 | h4
  ·subst h4; omega
  ·exact h4
 ·rintro ⟨e, ⟨a, b, c, d⟩, h⟩;refine ⟨a, b, ?_, ?_⟩
  ·rw [h]; exact Nat.mul_pos hn c
  ·rw [h, Nat.mul_comm]; exact d.pow a n

theorem zfJ {f : Poly p} (hm : Mon f) (hd : der f = 0) {l : List Int} {n : Nat} (hl : l.length = n) (hc : ∀ i, i < n -> cf l i = cf f.l (i * p.toNat)) (h1 : dg f <= n * p.toNat) (h2 : n * p.toNat < dg f + p.toNat) :
  ∃ g : Poly p, g.l = l ∧ Mon g ∧ g ^ p.toNat = f ∧ dg g <= dg f ∧ (2 <= dg f -> dg g < dg f) := by
 have hp := Pr.two (p := p);have hp2 : 2 <= p.toNat := by omega
 have hcf : ∀ i, cf l i = cf f.l (i * p.toNat) := fun i => by
  by_cases hi : i < n
  ·exact hc i hi
  ·rw [zE (by omega), zY];have : n * p.toNat <= i * p.toNat := Nat.mul_le_mul_right _ (by omega);omega
 have hof : ∀ i, cf (of p l).l i = cf f.l (i * p.toNat) := fun i => by
  rw [zT, hcf, f.ok.cf_mod]
 have hpow := zlY hd hof;have hf0 := hm.1
 have hd1 : 1 <= dg f := by
  rcases Nat.eq_zero_or_pos (dg f) with h | h
  ·exact absurd (ze.1 h) hf0
  ·exact h
 have hn1 : 1 <= n := by
  rcases Nat.eq_zero_or_pos n with h | h
  ·subst h; omega
  ·exact h
 -- its last coefficient
 obtain ⟨m, rfl⟩ : ∃ m, n = m + 1 := ⟨n - 1, by omega⟩
 have hlast : dg f = m * p.toNat + 1 := by
  have hne : cf f.l (dg f - 1) ≠ 0 := by have := yL (f := f) (n := dg f - 1) (by omega); exact this
  have hk : (dg f - 1) % p.toNat = 0 := by
   refine Classical.byContradiction fun hk => hne ?_;have e := zlX (of p l) (dg f - 1)
   rwa [hpow, if_neg hk] at e
  have h3 : dg f - 1 = (dg f - 1) / p.toNat * p.toNat := (Nat.div_mul_cancel (Nat.dvd_of_mod_eq_zero hk)).symm;generalize (dg f - 1) / p.toNat = t at h3
  have h4 : t = m := by
   have e1 : (m + 1) * p.toNat = m * p.toNat + p.toNat := Nat.succ_mul _ _;rcases Nat.lt_trichotomy t m with h | h | h
   ·have : (t + 1) * p.toNat <= m * p.toNat := Nat.mul_le_mul_right _ h;have e2 : (t + 1) * p.toNat = t * p.toNat + p.toNat := Nat.succ_mul _ _;omega
   ·exact h
   ·have : (m + 1) * p.toNat <= t * p.toNat := Nat.mul_le_mul_right _ h;omega
  subst h4; omega
 have hone : cf (of p l).l m = 1 := by
  rw [hof];have := hm.2;unfold lc at this;rw [hlast] at this
  simpa using this
 have hdg : dg (of p l) = m + 1 := by
  have h5 := zfz (f := of p l) (n := m) (by rw [hone]; decide);have h6 := jA (p := p) l;omega
 refine ⟨of p l, zl6 (by show dg (of p l) = _; omega) fun j hj => ?_, ⟨fun e => ?_, ?_⟩, hpow, ?_, fun h => ?_⟩
 ·rw [hof, hcf]
 ·rw [e, zr] at hdg; omega
 ·unfold lc; rw [hdg]; exact hone
 ·have : m * 2 <= m * p.toNat := Nat.mul_le_mul_left _ hp2;omega
 ·have : m * 2 <= m * p.toNat := Nat.mul_le_mul_left _ hp2
  have : 1 <= m := by
   rcases Nat.eq_zero_or_pos m with h0 | h0
   ·subst h0; simp at hlast; omega
   ·exact h0
  omega

end Poly
namespace Poly
variable {p : Int} [SP p]

def j1 (f : Poly p) (G : List (Poly p × Nat)) : Prop := (G.map Prod.fst).Nodup ∧ ∀ x, x ∈ G ↔ zan f x

theorem j1.few {f : Poly p} {G : List (Poly p × Nat)} (h : j1 f G) (hf : f ≠ 0) : G.length + 1 <= dg f := by
 have : zbc f (G.map Prod.fst) := ⟨h.1, fun g => ?_⟩
 ·have := this.few hf
  simpa using this
 ·rw [List.mem_map]
  constructor
  ·rintro ⟨x, hx, rfl⟩;obtain ⟨a, b, c, d⟩ := (h.2 x).1 hx;exact ⟨a, b, d.dvd c⟩
  ·rintro ⟨a, b, c⟩;obtain ⟨e, he⟩ := yD a.1 _ f hf (Nat.le_refl _);refine ⟨(g, e), (h.2 _).2 ⟨a, b, ?_, he⟩, rfl⟩;rcases Nat.eq_zero_or_pos e with h0 | h0
   ·subst h0; exact absurd c (zL.1 he)
   ·exact h0
theorem zJ.facs {f : Poly p} {F : List (Poly p × Nat)} (h : zJ f F) : j1 f F :=
 ⟨by
  refine List.Pairwise.map _ (R := fun x y : Poly p × Nat => ltP x.1 y.1) (fun x y hxy e => kJ y.1 (by rw [e] at hxy; exact hxy)) h.1, h.2⟩

theorem j1.unit {r : Poly p} (h : dg r = 1) : j1 r [] := ⟨List.nodup_nil, fun x => ⟨fun hx => by simp at hx, fun hx => (zbf h x hx).elim⟩⟩

def up (n : Nat) (F : List (Poly p × Nat)) : List (Poly p × Nat) := F.map fun x => (x.1, n * x.2)
theorem j1.up {g f : Poly p} (hg : g ≠ 0) {n : Nat} (hn : 1 <= n) (he : g ^ n = f) {F : List (Poly p × Nat)} (h : j1 g F) : j1 f (up n F) := by
 refine ⟨?_, fun x => ?_⟩
 ·have : (Poly.up n F).map Prod.fst = F.map Prod.fst := by unfold Poly.up; rw [List.map_map]; rfl
  rw [this]; exact h.1
 ·rw [zco hg hn he];unfold Poly.up;rw [List.mem_map]
  constructor
  ·rintro ⟨y, hy, rfl⟩;exact ⟨y.2, (h.2 _).1 hy, rfl⟩
  ·rintro ⟨e, h1, h2⟩;exact ⟨(x.1, e), (h.2 _).2 h1, Prod.ext rfl h2.symm⟩

theorem Peel.fstL {f r : Poly p} {P : List (Poly p)} {L : List (Poly p × Nat)} (h : Peel f P P.length r L) : L.map Prod.fst = P := by
 refine List.ext_getElem (by simpa using h.len) fun i h1 h2 => ?_;have h3 := (h.fac i h2).1;have h1' : i < L.length := by simpa using h1
 rw [List.getD_eq_getElem?_getD, List.getD_eq_getElem?_getD, List.getElem?_eq_getElem h1', List.getElem?_eq_getElem h2] at h3
 simpa using h3

theorem Peel.facs {f r : Poly p} {P : List (Poly p)} {L F : List (Poly p × Nat)} (h : Peel f P P.length r L) (hf : Mon f) {q c : Poly p} (hq : zbc q P) (he : f = q * c) (hc : c ∣ der f) (hF : j1 r F) : j1 f (L ++ F) := by
 obtain ⟨_, h2⟩ := h.fin hf hq he hc;refine ⟨?_, fun x => by rw [h2, List.mem_append, hF.2]⟩;rw [List.map_append, h.fstL];refine List.nodup_append.2 ⟨hq.1, hF.1, fun a ha b hb e => ?_⟩;subst e;obtain ⟨x, hx, rfl⟩ := List.mem_map.1 hb;obtain ⟨a1, a2, a3, a4⟩ := (hF.2 x).1 hx;obtain ⟨j, hj, hje⟩ := List.getElem_of_mem ha;refine h.out j hj ?_;rw [List.getD_eq_getElem?_getD, List.getElem?_eq_getElem hj];show P[j] ∣ r
 rw [hje]; exact a4.dvd a3

theorem j1.mnc {f : Poly p} (hf : f ≠ 0) {G : List (Poly p × Nat)} (h : j1 (mnc f) G) : j1 f G := ⟨h.1, fun x => by rw [h.2, zfI hf]⟩

theorem znB (f : Poly p) : nrm p (mkL (f.l.length - 1) (dv (cf f.l))) = (der f).l := by
 refine yc (yY _ _) (der f).ok.2 fun j => ?_;rw [v8, zci, vI]
 by_cases h : j < f.l.length - 1
 ·rw [if_pos h]
 ·rw [if_neg h];unfold dv;rw [zE (by omega)]; simp

theorem zjS {f : Poly p} (hm : Mon f) (hd : der f ≠ 0) : f = quo f (gcd f (der f)) * gcd f (der f) ∧ Mon (quo f (gcd f (der f))) ∧ Sqf (quo f (gcd f (der f))) ∧ 2 <= dg (quo f (gcd f (der f))) ∧ dg (quo f (gcd f (der f))) <= dg f ∧ gcd f (der f) ∣ der f ∧ gcd f (der f) ≠ 0 := by
 have hg := zbH (f := f) (g := der f) (.inl hm.1)
 have h1 : f = quo f (gcd f (der f)) * gcd f (der f) := by
  have h2 := vK f (gcd f (der f));rw [(zal hg.1).1 (vo f (der f))] at h2;have e : ∀ a : Poly p, a + 0 = a := fun a => by exact zg [a] (by rfl)
  rw [e] at h2; exact h2
 have hq0 : quo f (gcd f (der f)) ≠ 0 := fun e => hm.1 (by rw [h1, e]; exact zg [gcd f (der f)] (by rfl));have hmq : Mon (quo f (gcd f (der f))) := hg.left (h1 ▸ hm);refine ⟨h1, hmq, zlU hm.1 h1 (fun h a b => zjL a b), ?_, ?_, xX _ _, hg.1⟩
 ·refine Classical.byContradiction fun h2 => ?_;have h3 := yQ hq0 hg.1;rw [<- h1] at h3;have h4 := zF (xX f (der f)) hd;have h5 := zcj hm.1;have h6 : dg (quo f (gcd f (der f))) ≠ 0 := fun e => hq0 (ze.1 e);omega
 ·exact zF ⟨gcd f (der f), h1⟩ hm.1

end Poly
namespace Poly
variable {p : Int} [SP p]

def zbQ (f v : Poly p) (s : Nat) (O : List (Poly p)) : Prop := O.Nodup ∧ ∀ h, h ∈ O ↔ Irr h ∧ Mon h ∧ ∃ a ∈ xp v f s, h ∣ a

theorem zbQ.start (f v : Poly p) : zbQ f v 0 [] := ⟨List.nodup_nil, fun h => ⟨fun hh => by simp at hh, fun ⟨_, _, a, ha, _⟩ => by simp [xp] at ha⟩⟩
theorem zbQ.skip {f v : Poly p} {s : Nat} {O : List (Poly p)} (h : zbQ f v s O) (hd : ¬ 2 <= dg (gcd f (v - con p (s : Int)))) : zbQ f v (s + 1) O := by
 have e : xp v f (s + 1) = xp v f s := by rw [ko, zeW, if_neg hd, List.append_nil]
 unfold zbQ at *;rw [e]; exact h
theorem zbQ.step {f v : Poly p} {s : Nat} {O P : List (Poly p)} (h : zbQ f v s O) (hs : (s : Int) < p) (hd : 2 <= dg (gcd f (v - con p (s : Int)))) (hP : zbc (gcd f (v - con p (s : Int))) P) : zbQ f v (s + 1) (O ++ P) := by
 have e : xp v f (s + 1) = xp v f s ++ [gcd f (v - con p (s : Int))] := by rw [ko, zeW, if_pos hd]
 have hap := zfE (v := v) (a := f) (n := s + 1) (by omega);rw [e] at hap;refine ⟨List.nodup_append.2 ⟨h.1, hP.1, fun a ha b hb hab => ?_⟩, fun q => ?_⟩
 ·subst hab;obtain ⟨a1, a2, c, hc, h3⟩ := (h.2 a).1 ha;obtain ⟨_, _, h4⟩ := (hP.2 a).1 hb;exact (List.pairwise_append.1 hap).2.2 c hc _ (by simp) a a1 h3 h4
 ·rw [e, List.mem_append, h.2, hP.2]
  constructor
  ·rintro (⟨a1, a2, c, hc, h3⟩ | ⟨a1, a2, h3⟩)
   ·exact ⟨a1, a2, c, by simp [hc], h3⟩
   ·exact ⟨a1, a2, _, by simp, h3⟩
  ·rintro ⟨a1, a2, c, hc, h3⟩;rcases List.mem_append.1 hc with hc | hc
   ·exact .inl ⟨a1, a2, c, hc, h3⟩
   ·simp at hc; subst hc; exact .inr ⟨a1, a2, h3⟩
theorem zbQ.fin {f v : Poly p} {O : List (Poly p)} (h : zbQ f v p.toNat O) (hm : Mon f) (hd : 2 <= dg f) (hv : Ber f v) : zbc f O := by
 have hc := (Parts.start hm hd).cut hv;have e : zO v [f] = xp v f p.toNat := by simp [zO]
 rw [e] at hc;refine ⟨h.1, fun q => ?_⟩;rw [h.2]
 constructor
 ·rintro ⟨a1, a2, c, h1, h2⟩;exact ⟨a1, a2, dvd_trans h2 (hc.1.each c h1).2.2⟩
 ·rintro ⟨a1, a2, h1⟩;obtain ⟨c, h2, h3⟩ := hc.1.all q a1 h1;exact ⟨a1, a2, c, h2, h3⟩
theorem zmc {f v : Poly p} {n : Nat} (_hf : dg f = n + 1) (h2 : 2 <= dg v) (hv : dg v <= n) (s : Int) : dg (gcd f (v - con p s)) <= n := by
 have h1 : v - con p s ≠ 0 := fun e => by
  have h3 := zgj (v - con p s) (con p s);have e2 : v - con p s + con p s = v := by exact zg [v, con p s] (by rfl)
  rw [e2, e, zr] at h3;have := vL (p := p) s;omega
 have h3 := zF (xX f (v - con p s)) h1;have h4 := vJ v (con p s);have := vL (p := p) s;omega

end Poly

def z3 {α : Type} (G : List α) (k : Nat) (x : α) : List α := G.take k ++ [x] ++ G.drop k
theorem zek {α : Type} {G : List α} {k j : Nat} {x d : α} (hk : k <= G.length) (h : j < k) : (z3 G k x).getD j d = G.getD j d := by
 rw [z3, List.append_assoc, List.getD_eq_getElem?_getD, List.getD_eq_getElem?_getD, List.getElem?_append_left (by simp; omega), List.getElem?_take_of_lt h]
theorem zel {α : Type} {G : List α} {k : Nat} {x d : α} (hk : k <= G.length) : (z3 G k x).getD k d = x := by
 simp [z3, List.getD_eq_getElem?_getD, Nat.min_eq_left hk]
theorem zem {α : Type} {G : List α} {k j : Nat} {x d : α} (hk : k <= G.length) : (z3 G k x).getD (k + 1 + j) d = G.getD (k + j) d := by
 rw [z3, List.getD_eq_getElem?_getD, List.getD_eq_getElem?_getD, List.getElem?_append_right (by simp [Nat.min_eq_left hk]), List.getElem?_drop];simp [Nat.min_eq_left hk]
theorem zcp {α : Type} {G : List α} {k : Nat} {x y : α} : y ∈ z3 G k x ↔ y = x ∨ y ∈ G := by
 have : y ∈ G ↔ y ∈ G.take k ++ G.drop k := by rw [List.take_append_drop]
 rw [this, z3];simp only [List.mem_append, List.mem_singleton]
 constructor
 ·rintro ((h | h) | h)
  ·exact .inr (.inl h)
  ·exact .inl h
  ·exact .inr (.inr h)
 ·rintro (h | h | h)
  ·exact .inl (.inr h)
  ·exact .inl (.inl h)
  ·exact .inr h
theorem zbR {α : Type} {G : List α} {k : Nat} {x : α} (hk : k <= G.length) : (z3 G k x).length = G.length + 1 := by
 simp [z3]; omega

namespace Poly
variable {p : Int} [SP p]

abbrev Srt (G : List (Poly p × Nat)) : Prop := G.Pairwise fun x y => ltP x.1 y.1

theorem jf {α : Type} {d : α} {G : List α} {j : Nat} (h : j < G.length) : G.getD j d = G[j] := by
 rw [List.getD_eq_getElem?_getD, List.getElem?_eq_getElem h]; rfl

theorem Srt.put {G : List (Poly p × Nat)} (h : Srt G) {k : Nat} {x : Poly p × Nat} (hk : k <= G.length) (h1 : ∀ j, j < k -> ltP (G.getD j (0, 0)).1 x.1) (h2 : k = G.length ∨ ¬ ltP (G.getD k (0, 0)).1 x.1) (hn : ∀ y ∈ G, y.1 ≠ x.1) : Srt (z3 G k x) := by
 have hG := h;rw [<- List.take_append_drop k G] at hG;obtain ⟨a1, a2, a3⟩ := List.pairwise_append.1 hG
 have ht : ∀ a ∈ G.take k, ltP a.1 x.1 := fun a ha => by
  obtain ⟨j, hj, e⟩ := List.getElem_of_mem ha;have hj' : j < k ∧ j < G.length := by simp at hj; omega
  have := h1 j hj'.1;rw [jf hj'.2] at this;rw [List.getElem_take] at e;rw [<- e]; exact this
 have hd : ∀ a ∈ G.drop k, ltP x.1 a.1 := fun a ha => by
  obtain ⟨j, hj, e⟩ := List.getElem_of_mem ha;have hj' : k + j < G.length := by simp at hj; omega
  rw [List.getElem_drop] at e;have hk' : k < G.length := by omega
  have hx := h2.resolve_left (by omega);rw [jf hk'] at hx;have hlt : ltP x.1 G[k].1 := (zfC (hn G[k] (List.getElem_mem hk'))).resolve_left hx;rcases Nat.eq_zero_or_pos j with h0 | h0
  ·subst h0; rw [<- e]; exact hlt
  ·rw [<- e];exact zcl hlt (List.pairwise_iff_getElem.1 h k (k + j) hk' hj' (by omega))
 refine List.pairwise_append.2 ⟨List.pairwise_append.2 ⟨a1, List.pairwise_singleton _ _, fun a ha b hb => ?_⟩, a2, fun a ha b hb => ?_⟩
 ·rw [List.mem_singleton.1 hb]; exact ht a ha
 ·rcases List.mem_append.1 ha with h' | h'
  ·exact a3 a h' b hb
  ·rw [List.mem_singleton.1 h']; exact hd b hb

structure PutOf (f : Poly p) (t : Nat) (G G' : List (Poly p × Nat)) : Prop where
 srt : Srt G'
 mem : ∀ x, x ∈ G' ↔ x ∈ G ∨ ∃ e, zan f (x.1, e) ∧ x.2 = t * e

theorem PutOf.unit {f : Poly p} (h : dg f = 1) {t : Nat} {G : List (Poly p × Nat)} (hG : Srt G) : PutOf f t G G :=
 ⟨hG, fun _x => ⟨.inl, fun hx => hx.elim id fun ⟨_e, he, _⟩ => (zbf h _ he).elim⟩⟩
theorem PutOf.root {g f : Poly p} (hg : g ≠ 0) {n t : Nat} (hn : 1 <= n) (he : g ^ n = f) {G G' : List (Poly p × Nat)} (h : PutOf g (n * t) G G') : PutOf f t G G' :=
 ⟨h.srt, fun x => by
  rw [h.mem];refine or_congr Iff.rfl ⟨fun ⟨e, h1, h2⟩ => ⟨n * e, (zco hg hn he _).2 ⟨e, h1, rfl⟩, by rw [h2, Nat.mul_comm n t, Nat.mul_assoc]⟩, fun ⟨e, h1, h2⟩ => ?_⟩;obtain ⟨e', h3, h4⟩ := (zco hg hn he _).1 h1;have h4 : e = n * e' := h4;exact ⟨e', h3, by rw [h2, h4, Nat.mul_comm n t, Nat.mul_assoc]⟩⟩
theorem PutOf.fac {f : Poly p} {F : List (Poly p × Nat)} (h : PutOf f 1 [] F) : zJ f F :=
 ⟨h.srt, fun x => by
  rw [h.mem];refine ⟨fun hx => hx.elim (fun h => by simp at h) fun ⟨e, h1, h2⟩ => ?_, fun hx => .inr ⟨x.2, hx, by omega⟩⟩;obtain rfl : e = x.2 := by omega
  exact h1⟩

structure Putting (f : Poly p) (P : List (Poly p)) (t : Nat) (G : List (Poly p × Nat)) (k : Nat) (r : Poly p) (L H : List (Poly p × Nat)) : Prop where
 peel : Peel f P k r L
 srt : Srt H
 mem : ∀ x, x ∈ H ↔ x ∈ G ∨ x ∈ up t L
 len : H.length = G.length + k

theorem Putting.start {f : Poly p} (hm : Mon f) (P : List (Poly p)) (t : Nat) {G : List (Poly p × Nat)} (hG : Srt G) : Putting f P t G 0 f [] G :=
 ⟨Peel.start hm P, hG, fun x => by simp [up], rfl⟩

theorem ziT {p : Int} {t : Nat} {L : List (Poly p × Nat)} {x : Poly p × Nat} (h : x ∈ up t L) : ∃ y ∈ L, x = (y.1, t * y.2) := by
 obtain ⟨y, hy, e⟩ := List.mem_map.1 h;exact ⟨y, hy, e.symm⟩

theorem Peel.mem_fst {f r : Poly p} {P : List (Poly p)} {k : Nat} {L : List (Poly p × Nat)} (h : Peel f P k r L) {y : Poly p × Nat} (hy : y ∈ L) : ∃ j, j < k ∧ y.1 = P.getD j 0 := by
 obtain ⟨j, hj, e⟩ := List.getElem_of_mem hy;have hjk : j < k := by rw [<- h.len]; exact hj
 have := (h.fac j hjk).1;rw [jf hj, e] at this;exact ⟨j, hjk, this⟩

theorem Putting.step {f r r' : Poly p} {P : List (Poly p)} {t k n i : Nat} {G L H : List (Poly p × Nat)} (h : Putting f P t G k r L H) (hG : ∀ x ∈ G, ¬ x.1 ∣ f) (hP : P.Nodup) (hk : k < P.length) (hi : Irr (P.getD k 0)) (hm : Mon (P.getD k 0)) (hd : P.getD k 0 ∣ f)
  (he : r = P.getD k 0 ^ n * r') (hn : ¬ P.getD k 0 ∣ r') (hil : i <= H.length) (h1 : ∀ j, j < i -> ltP (H.getD j (0, 0)).1 (P.getD k 0)) (h2 : i = H.length ∨ ¬ ltP (H.getD i (0, 0)).1 (P.getD k 0)) :
  Putting f P t G (k + 1) r' (L ++ [(P.getD k 0, n)]) (z3 H i (P.getD k 0, n * t)) := by
 refine ⟨h.peel.step hP hk hi hm hd he hn, h.srt.put hil h1 h2 fun y hy e => ?_, fun x => ?_, by rw [zbR hil, h.len]; omega⟩
 ·have e : y.1 = P.getD k 0 := e;rcases (h.mem y).1 hy with hy | hy
  ·exact hG y hy (e ▸ hd)
  ·obtain ⟨z, hz, rfl⟩ := ziT hy;obtain ⟨j, hj, e'⟩ := h.peel.mem_fst hz;have := zbe hP hk (by omega) (e.symm.trans e');omega
 ·rw [zcp, h.mem];have : up t (L ++ [(P.getD k 0, n)]) = up t L ++ [(P.getD k 0, n * t)] := by simp [up, Nat.mul_comm]
  rw [this, List.mem_append, List.mem_singleton]
  constructor
  ·rintro (h | h | h)
   ·exact .inr (.inr h)
   ·exact .inl h
   ·exact .inr (.inl h)
  ·rintro (h | h | h)
   ·exact .inr (.inl h)
   ·exact .inr (.inr h)
   ·exact .inl h

theorem Putting.apart {f r : Poly p} {P : List (Poly p)} {t : Nat} {G L H : List (Poly p × Nat)} (h : Putting f P t G P.length r L H) (hG : ∀ x ∈ G, ¬ x.1 ∣ f) : ∀ x ∈ H, ¬ x.1 ∣ r := by
 intro x hx hd;rcases (h.mem x).1 hx with hx | hx
 ·obtain ⟨s, hs, _⟩ := h.peel.cut;exact hG x hx (dvd_trans hd ⟨s, hs⟩)
 ·obtain ⟨z, hz, rfl⟩ := ziT hx;obtain ⟨j, hj, e'⟩ := h.peel.mem_fst hz;exact h.peel.out j hj (by rw [<- e']; exact hd)

theorem Putting.fin {f r : Poly p} {P : List (Poly p)} {t : Nat} {G L H G' : List (Poly p × Nat)} (h : Putting f P t G P.length r L H) (hf : Mon f) {q c : Poly p} (hq : zbc q P) (he : f = q * c) (hc : c ∣ der f) (hG' : PutOf r t H G') : PutOf f t G G' := by
 obtain ⟨_, h2⟩ := h.peel.fin hf hq he hc;refine ⟨hG'.srt, fun x => ?_⟩;rw [hG'.mem, h.mem]
 constructor
 ·rintro ((h3 | h3) | ⟨e, h3, h4⟩)
  ·exact .inl h3
  ·obtain ⟨z, hz, rfl⟩ := ziT h3;exact .inr ⟨z.2, (h2 _).2 (.inl hz), rfl⟩
  ·exact .inr ⟨e, (h2 _).2 (.inr h3), h4⟩
 ·rintro (h3 | ⟨e, h3, h4⟩)
  ·exact .inl (.inl h3)
  ·rcases (h2 _).1 h3 with h5 | h5
   ·refine .inl (.inr (List.mem_map.2 ⟨_, h5, Prod.ext rfl h4.symm⟩))
   ·exact .inr ⟨e, h5, h4⟩

theorem Peel.less {f r : Poly p} {P : List (Poly p)} {L : List (Poly p × Nat)} (h : Peel f P P.length r L) (hf : Mon f) {q c : Poly p} (hq : zbc q P) (he : f = q * c) (hq2 : 2 <= dg q) : dg r < dg f := by
 obtain ⟨g, g1, g2, g3⟩ := vM _ q (Nat.le_refl _) hq2;obtain ⟨j, hj, e⟩ := List.getElem_of_mem ((hq.2 g).2 ⟨g1, g2, g3⟩);have hg : g = P.getD j 0 := by rw [jf hj, e]
 obtain ⟨s, hs, _⟩ := h.cut;have hr0 := h.mon.1;have hs0 : s ≠ 0 := fun e => hf.1 (by rw [hs, e]; exact zg [r] (by rfl));have h1 := yQ hr0 hs0;rw [<- hs] at h1
 have hgs : g ∣ s := by
  have : g ∣ r * s := by rw [<- hs, he]; exact dvd_trans g3 ⟨c, rfl⟩
  rcases g1.prime this with h2 | h2
  ·exact absurd (hg ▸ h2) (h.out j hj)
  ·exact h2
 have h2 := zF hgs hs0;have h3 := g1.1;omega

theorem zcO {a : Poly p} {n : Nat} (h : 1 <= n) : a ∣ a ^ n := by
 obtain ⟨m, rfl⟩ : ∃ m, n = m + 1 := ⟨n - 1, by omega⟩
 exact ⟨a ^ m, by rw [zi]; exact ji _ _⟩

theorem zmd {g f : Poly p} (hg : Mon g) (he : g ^ p.toNat = f) (h2 : 2 <= dg f) : p.toNat < dg f := by
 have : 2 <= dg g := by
  refine Classical.byContradiction fun h => ?_
  have h1 : dg g = 1 := by
   have : dg g ≠ 0 := fun e => hg.1 (ze.1 e);omega
  have h3 : g = 1 := ziK hg zgl (zhy h1 _) (zdd g);rw [h3, zdf] at he;rw [<- he, y7] at h2;omega
 have := zck this p.toNat;rw [he] at this;exact this

theorem ziU {G : List (Poly p × Nat)} (f : Poly p) : ∃ k, k <= G.length ∧ (∀ j, j < k -> ltP (G.getD j (0, 0)).1 f) ∧ (k = G.length ∨ ¬ ltP (G.getD k (0, 0)).1 f) := by
 have go : ∀ n, n <= G.length -> (∀ j, j < n -> ltP (G.getD j (0, 0)).1 f) ∨ ∃ k, k <= G.length ∧ (∀ j, j < k -> ltP (G.getD j (0, 0)).1 f) ∧ (k = G.length ∨ ¬ ltP (G.getD k (0, 0)).1 f) := by
  intro n
  induction n with
  | zero => intro _; exact .inl fun j hj => by omega
  | succ n ih =>
   intro hn;rcases ih (by omega) with h | h
   ·by_cases hl : ltP (G.getD n (0, 0)).1 f
    ·exact .inl fun j hj => by
      by_cases hj2 : j = n
      ·subst hj2; exact hl
      ·exact h j (by omega)
    ·exact .inr ⟨n, by omega, h, .inr hl⟩
   ·exact .inr h
 rcases go G.length (Nat.le_refl _) with h | h
 ·exact ⟨G.length, Nat.le_refl _, h, .inl rfl⟩
 ·exact h

theorem zcP : ∀ (n : Nat) (f : Poly p), dg f <= n -> f ≠ 0 -> ∃ F, zJ f F
 | 0, f, hd, hf => absurd (ze.1 (by omega)) hf
 | n + 1, f, hd, hf => by
  by_cases h1 : dg f = 1
  ·exact ⟨[], List.Pairwise.nil, fun x => ⟨fun hx => by simp at hx, fun hx => (zbf h1 _ hx).elim⟩⟩
  have h2 : dg f ≠ 0 := fun e => hf (ze.1 e);obtain ⟨h, hi, hm, hdv⟩ := vM _ f (Nat.le_refl _) (by omega);obtain ⟨e, he⟩ := yD hi.1 _ f hf (Nat.le_refl _)
  have he1 : 1 <= e := by
   rcases Nat.eq_zero_or_pos e with h0 | h0
   ·subst h0; exact absurd hdv (zL.1 he)
   ·exact h0
  obtain ⟨u, hu1, hu2⟩ := id he;have hu0 : u ≠ 0 := fun e0 => hf (by rw [hu1, e0]; exact zg [h ^ e] (by rfl));have hp0 : h ^ e ≠ 0 := fun e0 => hf (by rw [hu1, e0]; exact zg [u] (by rfl));have hdg := yQ hp0 hu0;rw [<- hu1] at hdg;have hpd := zck hi.1 e;obtain ⟨F, hF⟩ := zcP n u (by omega) hu0;obtain ⟨k, hk, hk1, hk2⟩ := ziU (G := F) h;have hnot : ∀ g : Poly p, Irr g -> Mon g -> g ≠ h -> ¬ g ∣ h ^ e := fun g gi gm hne hd => hne (jB gi hi gm hm (gi.pow hd));refine ⟨z3 F k (h, e), Srt.put hF.1 hk hk1 hk2 (fun y hy e0 => ?_), fun x => ?_⟩
  ·obtain ⟨_, _, a3, a4⟩ := (hF.2 y).1 hy;have e0 : y.1 = h := e0;exact hu2 (by rw [<- e0]; exact a4.dvd a3)
  ·rw [zcp, hF.2]
   constructor
   ·rintro (rfl | ⟨a1, a2, a3, a4⟩)
    ·exact ⟨hi, hm, he1, he⟩
    ·refine ⟨a1, a2, a3, ?_⟩;have hne : x.1 ≠ h := fun e0 => hu2 (by rw [<- e0]; exact a4.dvd a3);have := zN.mul a1 (zL.2 (hnot _ a1 a2 hne)) a4;rw [Nat.zero_add, <- hu1] at this;exact this
   ·rintro ⟨a1, a2, a3, a4⟩
    by_cases hx : x.1 = h
    ·left
     have : x.2 = e := zN.unique hi.ne (by rw [<- hx]; exact a4) he;exact Prod.ext hx this
    ·right
     obtain ⟨e', he'⟩ := yD a1.1 _ u hu0 (Nat.le_refl _);have h5 := zN.mul a1 (zL.2 (hnot _ a1 a2 hx)) he';rw [Nat.zero_add, <- hu1] at h5;rw [zN.unique a1.ne h5 a4] at he';exact ⟨a1, a2, a3, he'⟩
theorem zbg {f : Poly p} (hf : f ≠ 0) : ∃ F, zJ f F := zcP _ f (Nat.le_refl _) hf

end Poly
namespace Poly

def num (p : Nat) : List Int -> Nat
 | [] => 0
 | c :: l => c.toNat + p * num p l

def Digs (p : Nat) (l : List Int) : Prop := ∀ x ∈ l, 0 <= x ∧ x < p
theorem zme {p : Nat} (hp : 2 <= p) : ∀ {l : List Int}, Digs p l -> num p l < p ^ l.length
 | [], _ => by simp [num]
 | c :: l, hd => by
  have h1 := zme hp (l := l) fun x hx => hd x (by simp [hx]);have hc := hd c (by simp)
  have h2 : p * num p l + p <= p * p ^ l.length := by
   have := Nat.mul_le_mul_left p h1;rw [Nat.mul_succ] at this; exact this
  simp only [num, List.length_cons, Nat.pow_succ, Nat.mul_comm (p ^ l.length) p]
  omega
theorem zen {p : Nat} : ∀ (l m : List Int), num p (l ++ m) = num p l + p ^ l.length * num p m
 | [], m => by simp [num]
 | c :: l, m => by
  simp only [List.cons_append, num, zen l m, List.length_cons, Nat.pow_succ]
  rw [Nat.mul_add, <- Nat.mul_assoc, Nat.mul_comm (p ^ l.length) p, Nat.add_assoc]

theorem zkN {p : Nat} (l : List Int) (i : Nat) (h : i <= l.length) : num p l = num p (l.take i) + p ^ i * num p (l.drop i) := by
 have := zen (p := p) (l.take i) (l.drop i)
 rwa [List.take_append_drop, List.length_take, Nat.min_eq_left h] at this
theorem zmf {p : Nat} {l : List Int} {i : Nat} (h : i < l.length) : num p (l.drop i) = (cf l i).toNat + p * num p (l.drop (i + 1)) := by
 rw [List.drop_eq_getElem_cons h, num, vT h]
structure Top (p d : Nat) (l : List Int) : Prop where
 len : l.length = d + 1
 one : cf l d = 1
 digs : Digs p l
theorem Top.last {p d : Nat} {l : List Int} (h : Top p d l) : zak l := fun n hn => by
 have := h.len;obtain rfl : n = d := by omega
 rw [h.one]; omega
theorem Top.num_eq {p d : Nat} {l : List Int} (h : Top p d l) : num p l = num p (l.take d) + p ^ d := by
 have h1 := h.len;rw [zkN l d (by omega), zmf (by omega), h.one, List.drop_of_length_le (by omega)];simp [num]
theorem Top.take_lt {p d : Nat} (hp : 2 <= p) {l : List Int} (h : Top p d l) : num p (l.take d) < p ^ d := by
 have h1 := zme hp (l := l.take d) fun x hx => h.digs x (List.mem_of_mem_take hx);rw [List.length_take, h.len, Nat.min_eq_left (by omega)] at h1;exact h1
theorem Top.range {p d : Nat} (hp : 2 <= p) {l : List Int} (h : Top p d l) : p ^ d <= num p l ∧ num p l < 2 * p ^ d := by
 have h2 := h.num_eq;have h3 := h.take_lt hp;omega
end Poly
namespace Poly
variable {p : Int} [SP p]

theorem zbh {f y : Poly p} (hy : y ≠ 0) (h : dg y < dg f) : ¬ f ∣ y := fun hd => by have := zF hd hy; omega
theorem zbi {a b : Poly p} (h : a - b = 0) : a = b := comb 1 h (zg [a, b] (by rfl))

def One (f x : Poly p) (e : Nat) : Prop := f ∣ x ^ e - 1
/- powers that are 1 -/
end Poly
namespace Poly
variable {p : Int} [SP p]

def PrN (l : Nat) : Prop := 2 <= l ∧ ∀ d, d ∣ l -> d = 1 ∨ d = l
def zon (f x : Poly p) (e : Nat) : Prop := 0 < e ∧ One f x e ∧ ∀ d, One f x d -> e ∣ d
def zmg : List (Nat × Nat) -> Nat
 | [] => 1
 | x :: l => x.1 ^ x.2 * zmg l
structure FacN (n : Nat) (L : List (Nat × Nat)) : Prop where
 prod : zmg L = n
 pr : ∀ x ∈ L, PrN x.1 ∧ 1 <= x.2
 one : L.Pairwise fun x y => x.1 ≠ y.1
end Poly
namespace Poly

structure FacS (n : Nat) (L : List (Nat × Nat)) : Prop where
 prod : zmg L = n
 pr : ∀ x ∈ L, PrN x.1 ∧ 1 <= x.2
 sort : L.Pairwise fun x y => x.1 < y.1
/- a search for factors that goes up -/
/- orders, by steps down -/
structure OrdI {p : Int} [SP p] (f x : Poly p) (n : Nat) (L : List (Nat × Nat)) (i e : Nat) : Prop where
 pos : 0 < e
 dvd : e ∣ n
 one : One f x e
 todo : ∀ y ∈ L.drop i, y.1 ^ y.2 ∣ e
 done : ∀ y ∈ L.take i, y.1 ∣ e -> ¬ One f x (e / y.1)
structure OrdJ {p : Int} [SP p] (f x : Poly p) (n : Nat) (L : List (Nat × Nat)) (i : Nat) (l k j e : Nat) : Prop where
 pos : 0 < e
 dvd : e ∣ n
 one : One f x e
 todo : ∀ y ∈ L.drop (i + 1), y.1 ^ y.2 ∣ e
 done : ∀ y ∈ L.take i, y.1 ∣ e -> ¬ One f x (e / y.1)
 at_ : (∃ m, e = l ^ (k - j) * m ∧ ¬ l ∣ m ∧ j <= k) ∨ ¬ One f x (e / l)
end Poly
namespace Poly

end Poly
namespace Poly
variable {p : Int} [SP p]

theorem Cop.rem {f h : Poly p} (hc : Cop f h) : Cop f (rem h f) := by
 obtain ⟨a, b, e⟩ := hc;have h1 := vK h f;exact ⟨a + b * quo h f, b, comb 1 e (comb (-b) h1 (zg [a, b, f, h, quo h f, Poly.rem h f] (by rfl)))⟩
theorem Cop.step {a b : Poly p} (h : Cop a b) : Cop b (Poly.rem a b) := by
 have h1 := h.symm.rem;exact h1
theorem Cop.unit {a : Poly p} (h : Cop a 0) : dg a = 1 := by
 obtain ⟨u, v, e⟩ := h;exact zbF y7 ⟨u, comb (-1) e (zg [u, v, a] (by rfl))⟩
theorem ziV {a b : Poly p} (_ha : a ≠ 0) (hb : b ≠ 0) (hl : dg b <= dg a) : dg (quo a b) + dg b = dg a + 1 := by
 have h1 := vK a b;have h2 := zI a hb
 have hq : quo a b ≠ 0 := fun e => by
  rw [e, show (0 : Poly p) * b + Poly.rem a b = Poly.rem a b from zg [b, Poly.rem a b] (by rfl)] at h1;rw [<- h1] at h2; omega
 have h3 := yQ hq hb;have hd : dg (quo a b) ≠ 0 := fun e => hq (ze.1 e);have hb0 : dg b ≠ 0 := fun e => hb (ze.1 e)
 have h4 : dg a <= max (dg (quo a b * b)) (dg (Poly.rem a b)) := by
  have := zgj (quo a b * b) (Poly.rem a b);rw [<- h1] at this; exact this
 have h5 : dg (quo a b * b) <= max (dg a) (dg (Poly.rem a b)) := by
  have := vJ a (Poly.rem a b)
  rwa [show a - Poly.rem a b = quo a b * b from comb 1 h1 (zg [a, b, quo a b, Poly.rem a b] (by rfl))] at this
 omega

structure CofI (f h a b u v : Poly p) : Prop where
 a0 : a ≠ 0
 lt : dg b < dg a
 cop : Cop a b
 ua : f ∣ u * h - a
 vb : f ∣ v * h - b
 dv : dg v + dg a <= dg f + 1
 du : dg u + dg a <= dg f
theorem CofI.start {f h : Poly p} (hf : f ≠ 0) (hc : Cop f h) : CofI f h f (rem h f) 0 1 := by
 refine ⟨hf, zI h hf, hc.rem, ⟨-1, zg [f, h] (by rfl)⟩, ?_, by rw [y7]; omega, by rw [zr]; omega⟩;rw [CR.one_mul]; exact xY h f
theorem CofI.step {f h a b u v : Poly p} (k : CofI f h a b u v) (hb : b ≠ 0) : CofI f h b (rem a b) v (u - quo a b * v) := by
 have h1 := ziV k.a0 hb (Nat.le_of_lt k.lt);have h2 := zI a hb;have h3 := vK a b;have hv := k.dv;have hu := k.du;have hlt := k.lt;refine ⟨hb, h2, k.cop.step, k.vb, ?_, ?_, by omega⟩
 ·have h4 := dvd_sub k.ua (z8 (quo a b) k.vb)
  rwa [show u * h - a - quo a b * (v * h - b) = (u - quo a b * v) * h - rem a b from comb (-1) h3 (zg [u, v, h, a, b, quo a b, rem a b] (by rfl))] at h4
 ·have h5 := vJ u (quo a b * v);have h6 := zM (quo a b) v;omega
theorem CofI.few {f h a b u v : Poly p} (k : CofI f h a b u v) : dg u <= dg f ∧ dg v <= dg f ∧ dg a <= dg f ∧ dg b <= dg f := by
 have h1 := k.dv;have h2 := k.du;have h3 := k.lt;omega
theorem CofI.fin {f h a u v : Poly p} (k : CofI f h a 0 u v) {c : Int} (hc : cf a.l 0 * c % p = 1) : dg (u * con p c) < dg f ∧ f ∣ h * (u * con p c) - 1 := by
 have h1 := k.cop.unit;have h2 := zch (f := a) (by omega);have h3 := k.du;refine ⟨by have := zM u (con p c); have := vL (p := p) c; omega, ?_⟩;have h4 := y3 (con p c) k.ua
 have h5 : a * con p c = 1 := by
  rw [h2, zbE, <- zaG, hc]; rfl
 rwa [show (u * h - a) * con p c = h * (u * con p c) - 1 from comb (-1) h5 (zg [u, h, a, con p c] (by rfl))] at h4

end Poly
namespace Poly
variable {p : Int} [SP p]

noncomputable def frN (f X : Poly p) : Nat -> Poly p
 | 0 => X
 | k + 1 => rem (frN f X k ^ p.toNat) f
structure Per (f X : Poly p) (m : Nat) : Prop where
 pos : 0 < m
 back : frN f X m = X
 first : ∀ k, 0 < k -> k < m -> frN f X k ≠ X
end Poly
namespace Poly
section
variable {m : Int} [Pos m]

def cn (m : Int) [Pos m] (c : Int) : Poly m := of m [c]
theorem zoo (c : Int) (i : Nat) : cf (cn m c).l i = if i = 0 then c % m else 0 := by
 unfold cn;rw [zT];cases i with
 | zero => rw [zV, if_pos rfl]
 | succ i => rw [zv, yq, if_neg (by omega)]; simp
theorem kr (c : Int) (f : Poly m) (i : Nat) : cf (cn m c * f).l i = c * cf f.l i % m := by
 have h := vV c 0 f i;rw [if_pos (Nat.zero_le _), Nat.sub_zero] at h;exact h
theorem znU (a b : Int) : cn m a * cn m b = cn m (a * b) := (znQ [a] [b]).symm
theorem cn_one : cn m 1 = 1 := rfl
theorem zop (a : Int) : dg (cn m a) <= 1 := jA [a]

def Mn (f : Poly m) (n : Nat) : Prop := dg f = n + 1 ∧ cf f.l n = 1
noncomputable def rdM (a f : Poly m) : Poly m := @dite _ (∃ q r : Poly m, a = q * f + r ∧ dg r < dg f) (Classical.propDecidable _) (fun h => h.choose_spec.choose) fun _ => a
noncomputable def qtM (a f : Poly m) : Poly m := @dite _ (∃ q r : Poly m, a = q * f + r ∧ dg r < dg f) (Classical.propDecidable _) (fun h => h.choose) fun _ => 0
def Cg (f a b : Poly m) : Prop := ∃ v, a - b = v * f
/- what is divided by the power i of p, up to multiples of f -/
def Up (p : Int) (f : Poly m) (i : Nat) (a : Poly m) : Prop := ∃ u v, a = cn m (p ^ i) * u + v * f
variable {p : Int}
/- inverses -/
end
end Poly
namespace Poly
section
variable {m p : Int} [Pos m] [Pos p]

def im (p : Int) [Pos p] (X : Poly m) : Poly p := of p X.l
theorem jG {m : Int} (X : Poly m) (i : Nat) : cf (im p X).l i = cf X.l i % p := zT _ _
theorem kt {m p : Int} (hd : p ∣ m) (a : Int) : a % m % p = a % p := Int.emod_emod_of_dvd a hd
theorem znV (hd : p ∣ m) (X Y : Poly m) : im p (X + Y) = im p X + im p Y := zB fun i => by
 rw [jG, yF, yF, jG, jG, kt hd, <- Int.add_emod]
theorem zgx (hd : p ∣ m) (X Y : Poly m) : im p (X - Y) = im p X - im p Y := zB fun i => by
 rw [jG, jy, jy, jG, jG, kt hd, <- Int.sub_emod]
theorem zmh {m : Int} (X : Poly m) : cf (im p X).l = fun i => cf X.l i % p := funext fun i => jG X i
theorem zcq (hd : p ∣ m) (X Y : Poly m) : im p (X * Y) = im p X * im p Y := zB fun i => by
 rw [jG, yG, yG, zmh, zmh, kt hd, zjJ]
theorem znC (hd : p ∣ m) (c : Int) : im p (cn m c) = of p [c] := zB fun i => by
 rw [jG, zoo, zT];cases i with
 | zero => rw [if_pos rfl, zV, kt hd]
 | succ i => rw [if_neg (by omega), zv, yq]
theorem znW (_hd : p ∣ m) {X : Poly m} (h : im p X = 0) : ∃ Z, X = cn m p * Z := by
 refine ⟨of m (X.l.map (· / p)), zB fun i => ?_⟩;have h1 : cf X.l i % p = 0 := by rw [<- jG (p := p), h, yC]
 have h2 : cf (X.l.map (· / p)) i = cf X.l i / p := by
  by_cases hi : i < X.l.length
  ·exact zao (· / p) X.l hi
  ·rw [zE (by simpa using hi), zE (by omega)]; simp
 rw [kr, zT, h2];have h3 : p * (cf X.l i / p) = cf X.l i := by have := Int.mul_ediv_add_emod (cf X.l i) p; omega
 have h4 : p * (cf X.l i / p % m) % m = p * (cf X.l i / p) % m := by rw [Int.mul_emod, Int.emod_emod_of_dvd _ (Int.dvd_refl m), <- Int.mul_emod]
 rw [h4, h3, xy]
def lft (m : Int) [Pos m] (Y : Poly p) : Poly m := of m Y.l
theorem zjT (hd : p ∣ m) (Y : Poly p) : im p (lft m Y) = Y := zB fun i => by
 rw [jG]; unfold lft; rw [zT, kt hd, xy]
theorem zcQ {p : Int} (hpm : p <= m) (Y : Poly p) : (lft m Y).l = Y.l := by
 refine zlJ ⟨fun x hx => ?_, Y.ok.2⟩;have := Y.ok.1 x hx;omega
theorem znX {p : Int} (Y : Poly p) : dg (lft m Y) <= dg Y := kg fun i hi => by
 unfold lft; rw [zT, zY hi]; simp
theorem zoq {m : Int} (X : Poly m) : dg (im p X) <= dg X := kg fun i hi => by rw [jG, zY hi]; simp
end

section
variable {m p : Int} [Pos m] [SP p]
theorem zmi {m : Int} {f : Poly m} {n : Nat} (_hd : p ∣ m) (hf : Mn f n) : dg (im p f) = n + 1 ∧ cf (im p f).l n = 1 := by
 have h1 : cf (im p f).l n = 1 := by
  rw [jG, hf.2]; exact Int.emod_eq_of_lt (by omega) (by have := Pr.two (p := p); omega)
 have h2 := zfz (f := im p f) (n := n) (by rw [h1]; omega);have h3 := zoq (p := p) f;have := hf.1;exact ⟨by omega, h1⟩
/- roots -/
def evL : List Int -> Poly m -> Poly m
 | [], _ => 0
 | c :: l, X => cn m c + X * evL l X
def deL : List Int -> Poly m -> Poly m
 | [], _ => 0
 | _ :: l, X => evL l X + X * deL l X
end
end Poly
namespace Poly
section
variable {p : Int} [SP p]

end

section
variable {m p : Int} [Pos m] [SP p]
structure RootI (p : Int) [SP p] (f : Poly m) (n i : Nat) (y : Poly m) : Prop where
 deg : dg y <= n
 val : Up p f i (evL f.l y)
 near : Cg (im p f) (im p y) (X p ^ p.toNat)
end
end Poly
namespace Poly
variable {m : Int} [Pos m]

theorem xU (f : Poly m) (j : Nat) : 0 <= cf f.l j ∧ cf f.l j < m := by
 rw [<- xy f j];exact ⟨Int.emod_nonneg _ (by have := Pos.pos (p := m); omega), Int.emod_lt_of_pos _ Pos.pos⟩

structure DivN (m : Int) [Pos m] (F G : Poly m) (nq k : Nat) (r q : List Int) : Prop where
 rl : r.length = dg F
 ql : q.length = nq
 eq : F = of m q * G + of m r
 z : ∀ j, k + dg G <= j + 1 -> cf r j = 0
 rr : ∀ j, 0 <= cf r j ∧ cf r j < m
 qr : ∀ j, 0 <= cf q j ∧ cf q j < m
 qz : ∀ j, j < k -> cf q j = 0

/- lists by a modulus -/
theorem ziW (X Y : Poly m) : nrm m (zj (yu X.l (zQ (-1) Y.l))) = (X - Y).l := vq _ _
end Poly
namespace Poly
section
variable {m : Int} [Pos m]

noncomputable def valM (f F X : Poly m) : Nat -> Poly m
 | 0 => 0
 | k + 1 => rdM (valM f F X k * X) f + cn m (cf F.l (dg F - 1 - k))
/- derivatives -/
def derM (f : Poly m) : Poly m := of m (mkL (dg f - 1) (dv (cf f.l)))
/- powers -/
end
end Poly
namespace Poly
section
variable {m p : Int} [Pos m] [SP p]

structure InvI (p : Int) (f X : Poly m) (n i : Nat) (y : Poly m) : Prop where
 deg : dg y <= n
 val : Up p f i (X * y - 1)
theorem zkO : dg (1 : Poly m) <= 1 := jA [(1 : Int)]
noncomputable def slp (f y : Poly m) : Poly m := valM f (derM f) y (dg (derM f))
end
end Poly
namespace Poly
section
variable {m p : Int} [Pos m] [SP p]

def dgt (p : Int) [Pos p] (q : Int) (D : Poly m) : Poly p := of p (D.l.map (· / q))
theorem znY {m : Int} (q : Int) (D : Poly m) : dg (dgt p q D) <= dg D := by
 have := jA (p := p) (D.l.map (· / q))
 rwa [List.length_map] at this
theorem znZ {m : Int} (q : Int) (D : Poly m) (i : Nat) : cf (dgt p q D).l i = cf D.l i / q % p := by
 unfold dgt;rw [zT]
 by_cases hi : i < D.l.length
 ·rw [zao (· / q) D.l hi]
 ·rw [zE (by simpa using hi), zE (by omega)]; simp

theorem Mn.mul {f g : Poly m} {a b : Nat} (h1 : 1 < m) (hf : Mn f a) (hg : Mn g b) : Mn (f * g) (a + b) := by
 have h2 := hf.1;have h3 := hg.1
 have h4 : cf (f * g).l (a + b) = 1 := by
  rw [yG, zlH (fun i hi => zY (by omega)) (fun i hi => zY (by omega)), hf.2, hg.2, Int.mul_one];exact Int.emod_eq_of_lt (by omega) h1
 have h5 := zM f g;have h6 := zfz (f := f * g) (n := a + b) (by rw [h4]; omega);exact ⟨by omega, h4⟩
theorem Mn.sub {f g : Poly m} {a : Nat} (hf : Mn f a) (hg : Mn g a) : dg (f - g) <= a := kg fun i hi => by
 rw [jy];rcases Nat.eq_or_lt_of_le hi with rfl | h
 ·rw [hf.2, hg.2]; simp
 ·rw [zY (f := f) (by have := hf.1; omega), zY (f := g) (by have := hg.1; omega)]; simp

structure LifI (f : Poly m) (a b : Nat) (g0 h0 : Poly p) (g h : Poly m) : Prop where
 mg : Mn g a
 mh : Mn h b
 ig : im p g = g0
 ih : im p h = h0

theorem LifI.start {f : Poly m} {a b : Nat} {g0 h0 : Poly p} (hd : p ∣ m) (hpm : p <= m) (hg : Mn g0 a) (hh : Mn h0 b) : LifI f a b g0 h0 (lft m g0) (lft m h0) := by
 have e1 := zcQ (m := m) hpm g0;have e2 := zcQ (m := m) hpm h0;exact ⟨⟨by unfold dg; rw [e1]; exact hg.1, by rw [e1]; exact hg.2⟩, ⟨by unfold dg; rw [e2]; exact hh.1, by rw [e2]; exact hh.2⟩, zjT hd g0, zjT hd h0⟩

theorem zjU {p : Int} {g : Poly m} {a : Nat} (hg : Mn g a) (q : Int) {x : Poly p} (hx : dg x <= a) : Mn (g + cn m q * lft m x) a := by
 have hxl := znX (m := m) x;have h1 := hg.1
 have h2 : cf (g + cn m q * lft m x).l a = 1 := by
  rw [yF, kr, zY (f := lft m x) (by omega), hg.2, <- hg.2];simp [xy]
 have h3 := zfz (f := g + cn m q * lft m x) (n := a) (by rw [h2]; omega);have h4 := zgj g (cn m q * lft m x);have h5 := zM (cn m q) (lft m x);have h6 := zop (m := m) q;exact ⟨by omega, h2⟩
theorem zjV (hd : p ∣ m) {q : Int} (hq : p ∣ q) (g : Poly m) (x : Poly p) : im p (g + cn m q * lft m x) = im p g := by
 rw [znV hd, zcq hd, znC hd, show of p [q] = 0 from zB fun i => by
  rw [zT, yC];cases i with
  | zero => rw [zV]; exact Int.emod_eq_zero_of_dvd hq
  | succ i => rw [zv, yq]; simp]
 exact zg [im p g, im p (lft m x)] (by rfl)
theorem LifI.next {f : Poly m} {a b : Nat} {g0 h0 : Poly p} {g h : Poly m} (hd : p ∣ m) (k : LifI f a b g0 h0 g h) {q : Int} (hq : p ∣ q) {x y : Poly p} (hx : dg x <= a) (hy : dg y <= b) :
  LifI f a b g0 h0 (g + cn m q * lft m x) (h + cn m q * lft m y) :=
 ⟨zjU k.mg q hx, zjU k.mh q hy, (zjV hd hq g x).trans k.ig, (zjV hd hq h y).trans k.ih⟩

theorem zhT {a b : Nat} {g0 h0 C S T : Poly p} (hg : Mn g0 a) (hh : Mn h0 b) (hS : g0 ∣ h0 * S - 1) (hT : h0 ∣ g0 * T - 1) (hC : dg C <= a + b) :
  quo (C - rem (C * S) g0 * h0) g0 = rem (C * T) h0 ∧ C = rem (C * S) g0 * h0 + rem (C * T) h0 * g0 := by
 have hg1 := hg.1;have hh1 := hh.1;have hg0 : g0 ≠ 0 := fun e => by rw [e, zr] at hg1; omega
 have hh0 : h0 ≠ 0 := fun e => by rw [e, zr] at hh1; omega
 have hx := zI (C * S) hg0;have hy := zI (C * T) hh0;generalize hX : rem (C * S) g0 = X at hx ⊢;generalize hY : rem (C * T) h0 = Y at hy ⊢
 -- C - X h0 is divided by g0
 have h1 : g0 ∣ C * S - X := by
  have := xY (C * S) g0
  rwa [hX] at this
 have h2 : g0 ∣ C - X * h0 := by
  obtain ⟨u, hu⟩ := h1;obtain ⟨v, hv⟩ := hS;exact ⟨u * h0 - C * v, comb h0 hu (comb (-C) hv (zg [C, S, X, h0, g0, u, v] (by rfl)))⟩
 obtain ⟨w, hw⟩ := h2;have hq : quo (C - X * h0) g0 = w := (zcg (q := w) (r := 0) (by rw [hw]; exact zg [g0, w] (by rfl)) (by rw [zr]; omega)).1
 have hdw : dg w <= b := by
  by_cases hw0 : w = 0
  ·rw [hw0, zr]; omega
  have h3 := yQ hg0 hw0;rw [<- hw] at h3;have h4 := vJ C (X * h0);have h5 := zM X h0;omega
 have h6 : h0 ∣ w - Y := by
  have h7 : h0 ∣ C * T - Y := by
   have := xY (C * T) h0
   rwa [hY] at this
  obtain ⟨u, hu⟩ := h7;obtain ⟨v, hv⟩ := hT;exact ⟨u - X * T - w * v, comb (-T) hw (comb 1 hu (comb (-w) hv (zg [C, T, Y, h0, g0, X, w, u, v] (by rfl))))⟩
 have hwy : w = Y := zbi (Classical.byContradiction fun h0' => zbh h0' (by have := vJ w Y; omega) h6);subst hwy;exact ⟨hq, comb 1 hw (zg [C, X, h0, g0, w] (by rfl))⟩

theorem ziX {f g h : Poly m} {q : Int} (_ : 0 < q) (hqm : p * q ∣ m) (hpq : p ∣ q) {x y : Poly p} (hD : ∀ i, cf (f - g * h).l i % q = 0)
  (hc : dgt p q (f - g * h) = x * im p h + y * im p g) : ∀ i, cf (f - (g + cn m q * lft m x) * (h + cn m q * lft m y)).l i % (p * q) = 0 := by
 have hp := Pr.two (p := p);have hd : p ∣ m := Int.dvd_trans ⟨q, rfl⟩ hqm
 -- the difference is q times what has the image 0
 obtain ⟨Z, hZ⟩ : ∃ Z : Poly m, f - g * h = cn m q * Z ∧ im p Z = dgt p q (f - g * h) := by
  refine ⟨of m ((f - g * h).l.map (· / q)), zB fun i => ?_, zB fun i => ?_⟩
  ·have h2 : cf ((f - g * h).l.map (· / q)) i = cf (f - g * h).l i / q := by
    by_cases hi : i < (f - g * h).l.length
    ·exact zao (· / q) _ hi
    ·rw [zE (by simpa using hi), zE (by omega)]; simp
   rw [kr, zT, h2];have h3 : q * (cf (f - g * h).l i / q) = cf (f - g * h).l i := by have := Int.mul_ediv_add_emod (cf (f - g * h).l i) q; have := hD i; omega
   have h4 : q * (cf (f - g * h).l i / q % m) % m = q * (cf (f - g * h).l i / q) % m := by rw [Int.mul_emod, Int.emod_emod_of_dvd _ (Int.dvd_refl m), <- Int.mul_emod]
   rw [h4, h3, xy]
  ·have h2 : cf ((f - g * h).l.map (· / q)) i = cf (f - g * h).l i / q := by
    by_cases hi : i < (f - g * h).l.length
    ·exact zao (· / q) _ hi
    ·rw [zE (by simpa using hi), zE (by omega)]; simp
   rw [jG, zT, h2, kt hd, znZ]
 obtain ⟨r, hr⟩ := hpq
 have hi : im p (Z - lft m x * h - lft m y * g - cn m q * lft m x * lft m y) = 0 := by
  rw [zgx hd, zgx hd, zgx hd, zcq hd, zcq hd, zcq hd, zcq hd, zjT hd, zjT hd, znC hd, hZ.2, hc, show of p [q] = 0 from zB fun i => by
   rw [zT, yC];cases i with
   | zero => rw [zV]; exact Int.emod_eq_zero_of_dvd ⟨r, hr⟩
   | succ i => rw [zv, yq]; simp]
  exact zg [x, y, im p h, im p g] (by rfl)
 obtain ⟨V, hV⟩ := znW hd hi
 have hfin : f - (g + cn m q * lft m x) * (h + cn m q * lft m y) = cn m (p * q) * V := by
  rw [<- znU];exact comb 1 hZ.1 (comb (cn m q) hV (zg [f, g, h, cn m q, lft m x, lft m y, Z, cn m p, V] (by rfl)))
 intro i;rw [hfin, kr, Int.emod_emod_of_dvd _ hqm];exact Int.mul_emod_right _ _
end
end Poly
namespace Poly

section
variable {p : Int} [SP p]
theorem zeo {f h : Poly p} (hc : Cop f h) (h2 : 2 <= dg f) : ∃ U, dg U < dg f ∧ f ∣ h * U - 1 := by
 have hf0 : f ≠ 0 := fun e => by rw [e, zr] at h2; omega
 obtain ⟨a, b, e⟩ := hc;obtain ⟨w, hw⟩ := xY b f;exact ⟨rem b f, zI b hf0, -a - h * w, comb 1 e (comb (-h) hw (zg [a, b, f, h, w, rem b f] (by rfl)))⟩
theorem CofI.fin2 {f h a b u v : Poly p} (k : CofI f h a b u v) (hb : dg b = 1) {c : Int} (hc : cf b.l 0 * c % p = 1) : f ∣ h * (v * con p c) - 1 := by
 have h2 := zch (f := b) (by omega);have h4 := y3 (con p c) k.vb
 have h5 : b * con p c = 1 := by
  rw [h2, zbE, <- zaG, hc]; rfl
 rwa [show (v * h - b) * con p c = h * (v * con p c) - 1 from comb (-1) h5 (zg [v, h, b, con p c] (by rfl))] at h4
theorem zn0 {f h U W : Poly p} (hc : Cop f h) (hf : f ≠ 0) (hU : dg U < dg f) (hU2 : f ∣ h * U - 1) (hW : f ∣ h * W - 1) : rem W f = U := by
 have h3 := dvd_sub hW hU2;rw [show h * W - 1 - (h * U - 1) = h * (W - U) from zg [h, W, U] (by rfl)] at h3;have h4 := hc.dvd h3;have h5 := dvd_sub h4 (xY W f);rw [show W - U - (W - rem W f) = rem W f - U from zg [W, U, rem W f] (by rfl)] at h5;have h6 := zI W hf;exact zbi (Classical.byContradiction fun h0 => zbh h0 (by have := vJ (rem W f) U; omega) h5)
theorem CofI.stay {f h a b u v : Poly p} (k : CofI f h a b u v) (h2 : 2 <= dg a) : b ≠ 0 := fun e => by
 have := k.cop;rw [e] at this;have := this.unit;omega
theorem zmj {f : Poly p} (h : Mon f) : Mn f (dg f - 1) :=
  ⟨by have : dg f ≠ 0 := fun e => h.1 (ze.1 e)
      omega, h.2⟩
theorem zmk {f : Poly p} {n : Nat} (h : Mn f n) : Mon f :=
 ⟨fun e => by have := h.1; rw [e, zr] at this; omega, by unfold lc; rw [h.1]; exact h.2⟩

structure Fst (f : Poly p) (F : List (Poly p × Nat)) (g h : Poly p) : Prop where
 eq : f = g * h
 mg : Mon g
 mh : Mon h
 g2 : 2 <= dg g
 cop : Cop g h
 fac : zJ h F
theorem zep {f : Poly p} {x : Poly p × Nat} {F : List (Poly p × Nat)} (hm : Mon f) (h : zJ f (x :: F)) : ∃ u, Fst f F (x.1 ^ x.2) u := by
 obtain ⟨hx1, hx2, hx3, u, hu, hn⟩ := (h.2 x).1 (by simp);have hmg := zaK hx2 x.2;have hmu : Mon u := Mon.right hmg (by rw [<- hu]; exact hm);have hfx := fun (y : Poly p × Nat) (hy : y ∈ F) => (List.pairwise_cons.1 h.1).1 y hy;have hd := zF (zcO (a := x.1) hx3) hmg.1;refine ⟨u, hu, hmg, hmu, by have := hx1.1; omega, ?_, (List.pairwise_cons.1 h.1).2, fun y => ⟨fun hy => ?_, fun hy => ?_⟩⟩
 ·exact (hx1.cop hn).pow _
 ·obtain ⟨a, b, c, d⟩ := (h.2 y).1 (by simp [hy])
  have hne : ¬ y.1 ∣ x.1 := fun e => by
   have := jB a hx1 b hx2 e;have h2 := hfx y hy;rw [this] at h2;exact kJ _ h2
  obtain ⟨e, he⟩ := yD a.1 _ u hmu.1 (Nat.le_refl _);have h1 : zN y.1 0 (x.1 ^ x.2) := zL.2 fun e => hne (a.pow e);have h2 := h1.mul a he;rw [<- hu, Nat.zero_add] at h2;have h3 := d.unique a.ne h2;exact ⟨a, b, c, by rw [h3]; exact he⟩
 ·obtain ⟨a, b, c, d⟩ := hy;have hyu := d.dvd c
  have hne : ¬ y.1 ∣ x.1 := fun e => by
   have := jB a hx1 b hx2 e;rw [this] at hyu;exact hn hyu
  have h1 : zN y.1 0 (x.1 ^ x.2) := zL.2 fun e => hne (a.pow e);have h2 := h1.mul a d;rw [<- hu, Nat.zero_add] at h2;rcases List.mem_cons.1 ((h.2 y).2 ⟨a, b, c, h2⟩) with h3 | h3
  ·subst h3; exact absurd hyu hn
  ·exact h3
theorem Fst.h2 {f g h : Poly p} {y : Poly p × Nat} {F : List (Poly p × Nat)} (k : Fst f (y :: F) g h) : 2 <= dg h := by
 obtain ⟨a, _, c, d⟩ := (k.fac.2 y).1 (by simp);have := zF (d.dvd c) k.mh.1;have := a.1;omega
theorem Fst.dg {f g h : Poly p} {F : List (Poly p × Nat)} (k : Fst f F g h) : dg f + 1 = dg g + dg h := by
 rw [k.eq]; exact yQ k.mg.1 k.mh.1
theorem Fst.quo {f g h : Poly p} {F : List (Poly p × Nat)} (k : Fst f F g h) : quo f g = h := (zcg (q := h) (r := 0) (by rw [k.eq]; exact zg [g, h] (by rfl)) (by rw [zr]; have := k.g2; omega)).1
theorem zni {f : Poly p} {F : List (Poly p × Nat)} (hf : f ≠ 0) (h : zJ f F) {x : Poly p × Nat} (hx : x ∈ F) {t : Nat} (ht : t <= x.2) : dg (x.1 ^ t) <= dg f := by
 obtain ⟨a, b, c, u, hu, _⟩ := (h.2 x).1 hx;obtain ⟨r, hr⟩ : ∃ r, x.2 = t + r := ⟨x.2 - t, by omega⟩
 refine zF ⟨x.1 ^ r * u, ?_⟩ hf;rw [hr, zbI] at hu;exact comb 1 hu (zg [f, x.1 ^ t, x.1 ^ r, u] (by rfl))
theorem zeq {f : Poly p} {F : List (Poly p × Nat)} (hf : f ≠ 0) (h2 : 2 <= dg f) (h : zJ f F) : F ≠ [] := fun e => by
 subst e;obtain ⟨g, h3, h4, h5⟩ := vM _ f (Nat.le_refl _) h2;obtain ⟨e, he⟩ := yD h3.1 _ f hf (Nat.le_refl _);have h6 : e ≠ 0 := fun e0 => by subst e0; exact zL.1 he h5
 have := (h.2 (g, e)).2 ⟨h3, h4, by show 1 <= e; omega, he⟩;simp at this
end

section
variable {m p : Int} [Pos m] [SP p]
noncomputable def znD (f : Poly m) (g0 h0 S T : Poly p) (q : Int) (x : Poly m × Poly m) : Poly m × Poly m :=
 (x.1 + cn m q * lft m (rem (dgt p q (f - x.1 * x.2) * S) g0), x.2 + cn m q * lft m (rem (dgt p q (f - x.1 * x.2) * T) h0))
noncomputable def zml (f : Poly m) (g0 h0 S T : Poly p) : Nat -> Poly m × Poly m
 | 0 => (lft m g0, lft m h0)
 | j + 1 => znD f g0 h0 S T (p ^ (j + 1)) (zml f g0 h0 S T j)

structure Pair (f : Poly m) (a b : Nat) (g0 h0 S T : Poly p) : Prop where
 pm : p ∣ m
 ple : p <= m
 mf : Mn f (a + b)
 mg : Mn g0 a
 mh : Mn h0 b
 a1 : 1 <= a
 b1 : 1 <= b
 s1 : dg S < dg g0
 s2 : g0 ∣ h0 * S - 1
 t1 : dg T < dg h0
 t2 : h0 ∣ g0 * T - 1
structure LAt (f : Poly m) (a b : Nat) (g0 h0 S T : Poly p) (j : Nat) (G H : Poly m) : Prop where
 eq : (G, H) = zml f g0 h0 S T j
 inv : LifI f a b g0 h0 G H
theorem LAt.start {f : Poly m} {a b : Nat} {g0 h0 S T : Poly p} (k : Pair f a b g0 h0 S T) : LAt f a b g0 h0 S T 0 (lft m g0) (lft m h0) :=
 ⟨rfl, LifI.start k.pm k.ple k.mg k.mh⟩
theorem LAt.cdg {f : Poly m} {a b : Nat} {g0 h0 S T : Poly p} {j : Nat} {G H : Poly m} (k : Pair f a b g0 h0 S T) (m1 : 1 < m) (h : LAt f a b g0 h0 S T j G H) (q : Int) : dg (f - G * H) <= a + b ∧ dg (dgt p q (f - G * H)) <= a + b := by
 have h1 := Mn.sub k.mf (h.inv.mg.mul m1 h.inv.mh);exact ⟨h1, Nat.le_trans (znY q _) h1⟩
theorem LAt.two {f : Poly m} {a b : Nat} {g0 h0 S T : Poly p} {j : Nat} {G H : Poly m} (k : Pair f a b g0 h0 S T) (m1 : 1 < m) (h : LAt f a b g0 h0 S T j G H) (q : Int) :
  quo (dgt p q (f - G * H) - rem (dgt p q (f - G * H) * S) g0 * h0) g0 = rem (dgt p q (f - G * H) * T) h0 :=
 (zhT k.mg k.mh k.s2 k.t2 (h.cdg k m1 q).2).1
theorem LAt.step {f : Poly m} {a b : Nat} {g0 h0 S T : Poly p} {j : Nat} {G H : Poly m} (k : Pair f a b g0 h0 S T) (h : LAt f a b g0 h0 S T j G H) {q : Int} (hq : q = p ^ (j + 1)) :
  LAt f a b g0 h0 S T (j + 1) (G + cn m q * lft m (rem (dgt p q (f - G * H) * S) g0)) (H + cn m q * lft m (rem (dgt p q (f - G * H) * T) h0)) := by
 subst hq;have hg1 := k.mg.1;have hh1 := k.mh.1;have hg0 : g0 ≠ 0 := fun e => by rw [e, zr] at hg1; omega
 have hh0 : h0 ≠ 0 := fun e => by rw [e, zr] at hh1; omega
 have hx := zI (dgt p (p ^ (j + 1)) (f - G * H) * S) hg0;have hy := zI (dgt p (p ^ (j + 1)) (f - G * H) * T) hh0;refine ⟨?_, h.inv.next k.pm ⟨p ^ j, by rw [Int.pow_succ, Int.mul_comm]⟩ (by omega) (by omega)⟩;show _ = znD f g0 h0 S T (p ^ (j + 1)) (zml f g0 h0 S T j)
 rw [<- h.eq]; rfl
theorem LAt.uniq {f : Poly m} {a b a' b' : Nat} {g0 h0 S T : Poly p} {j : Nat} {G H G' H' : Poly m} (h : LAt f a b g0 h0 S T j G H) (h' : LAt f a' b' g0 h0 S T j G' H') : G = G' ∧ H = H' := by
 have := h.eq.trans h'.eq.symm;exact ⟨congrArg Prod.fst this, congrArg Prod.snd this⟩
theorem zaL {f : Poly m} {a b : Nat} {g0 h0 S T : Poly p} (k : Pair f a b g0 h0 S T) : ∀ j, ∃ G H, LAt f a b g0 h0 S T j G H
 | 0 => ⟨_, _, LAt.start k⟩
 | j + 1 => by
  obtain ⟨G, H, h⟩ := zaL k j;exact ⟨_, _, h.step k rfl⟩

/- what the program forms -/
theorem zer {p : Int} (q : Int) (G : Poly m) (X : Poly p) : nrm m (yu G.l (zQ q X.l)) = (G + cn m q * lft m X).l := by
 refine yc (yY _ _) (G + cn m q * lft m X).ok.2 fun i => ?_;rw [v8, yK, xF, yF, kr];unfold lft;rw [zT, Int.add_emod_emod, Int.add_emod, Int.add_emod (cf G.l i) (q * (cf X.l i % m)), Int.mul_emod q (cf X.l i % m), Int.emod_emod, <- Int.mul_emod]
theorem zot (a : Nat -> Int) (q : Int) (i : Nat) : cv a (cf [q]) i = q * a i := by
 have e : cf [q] = fun j => if j = 0 then q else 0 := funext fun j => by
  cases j with
  | zero => rfl
  | succ j => rw [zv, yq, if_neg (by omega)]
 rw [je, e, cv_mono, if_pos (Nat.zero_le _), Nat.sub_zero]
theorem zfK (l : List Int) (q : Int) (i : Nat) : cf (zj (z0 l [q])) i = q * cf l i := by rw [yj, vP, zot]
theorem jk {p : Int} (q : Int) (G : Poly m) (X : Poly p) : nrm m (zj (yu G.l (zj (z0 X.l [q])))) = (G + cn m q * lft m X).l := by
 rw [<- zer, vq];refine yc (yY _ _) (yY _ _) fun i => ?_;rw [v8, v8, yK, yK, xF, zfK]
theorem zcr (f G H : Poly m) : nrm m (zj (yu f.l (zQ (-1) (zj (z0 G.l H.l))))) = (f - G * H).l := by
 rw [vq];refine yc (yY _ _) (f - G * H).ok.2 fun i => ?_;rw [v8, yK, xF, yj, vP, jy, yG, Int.sub_emod (cf f.l i) (cv _ _ _ % m), Int.emod_emod, <- Int.sub_emod]
 congr 1; omega
theorem zmm {m : Int} (q : Int) (D : Poly m) : nrm p (D.l.map (· / q)) = (dgt p q D).l := rfl
theorem zn1 {m : Int} (q : Int) (D : Poly m) : zj (D.l.map fun x => x / q % p) = (dgt p q D).l := by
 rw [<- zmm];refine yc (yU _) (yY _ _) fun i => ?_;rw [v8, yj]
 by_cases hi : i < D.l.length
 ·rw [zao (fun x => x / q % p) _ hi, zao (· / q) _ hi]
 ·rw [zE (by simpa using hi), zE (by simpa using hi)]; simp
end
end Poly
namespace Poly
variable {p : Int} [SP p]

def zc3 (F : List (Poly p × Nat)) : Nat -> Poly p
 | 0 => 1
 | k + 1 => zc3 F k * (F.getD k (0, 0)).1 ^ (F.getD k (0, 0)).2

theorem zJ.at {f : Poly p} {F : List (Poly p × Nat)} (h : zJ f F) {j : Nat} (hj : j < F.length) : zan f (F.getD j (0, 0)) := by
 refine (h.2 _).1 ?_;rw [jf hj]; exact List.getElem_mem hj
theorem zJ.ne_at {f : Poly p} {F : List (Poly p × Nat)} (h : zJ f F) {i j : Nat} (hij : i < j) (hj : j < F.length) : (F.getD i (0, 0)).1 ≠ (F.getD j (0, 0)).1 := by
 have := List.pairwise_iff_getElem.1 h.1 i j (by omega) hj hij;rw [jf (show i < F.length by omega), jf hj];intro e;rw [e] at this;exact kJ _ this
theorem zJ.cop_at {f : Poly p} {F : List (Poly p × Nat)} (h : zJ f F) {i j : Nat} (hij : i < j) (hj : j < F.length) : Cop (F.getD i (0, 0)).1 (F.getD j (0, 0)).1 :=
 (h.at (by omega)).1.cop fun hd => h.ne_at hij hj (jB (h.at (by omega)).1 (h.at hj).1 (h.at (by omega)).2.1 (h.at hj).2.1 hd)

theorem zhU {f : Poly p} {F : List (Poly p × Nat)} (h : zJ f F) : ∀ k j, k <= j -> j < F.length -> Cop (zc3 F k) (F.getD j (0, 0)).1
 | 0, _, _, _ => zgn _
 | k + 1, j, hk, hj => (zhU h k j (by omega) hj).mul ((h.cop_at (by omega) hj).pow _)
theorem zhV {f : Poly p} {F : List (Poly p × Nat)} (h : zJ f F) : ∀ k, k <= F.length -> zc3 F k ∣ f
 | 0, _ => zhy y7 f
 | k + 1, hk => by
  refine Cop.mul_dvd ((zhU h k k (Nat.le_refl _) (by omega)).symm.pow _).symm (zhV h k (by omega)) ?_;obtain ⟨u, hu, _⟩ := (h.at (j := k) (by omega)).2.2.2;exact ⟨u, hu⟩
theorem zhW {F : List (Poly p × Nat)} : ∀ {k j}, j < k -> (F.getD j (0, 0)).1 ^ (F.getD j (0, 0)).2 ∣ zc3 F k
 | 0, _, h => absurd h (by omega)
 | k + 1, j, h => by
  by_cases hj : j = k
  ·subst hj; exact z8 _ (dvd_refl _)
  ·exact y3 _ (zhW (by omega))
theorem zhX {f : Poly p} {F : List (Poly p × Nat)} (h : zJ f F) : ∀ k, k <= F.length -> Mon (zc3 F k)
 | 0, _ => zgl
 | k + 1, hk => (zhX h k (by omega)).mul (zaK (h.at (by omega)).2.1 _)
theorem ziY {g : Poly p} (h : g ≠ 0) : ∀ n : Nat, g ^ n ≠ 0
 | 0 => zd1
 | n + 1 => mul_ne (ziY h n) h

theorem zmn {f : Poly p} {F : List (Poly p × Nat)} (h : zJ f F) (hf : f ≠ 0) : f = con p (lc f) * zc3 F F.length := by
 obtain ⟨r, hr⟩ := zhV h F.length (Nat.le_refl _);have hm := zhX h F.length (Nat.le_refl _);have hr0 : r ≠ 0 := fun e => hf (by rw [hr, e]; exact zg [zc3 F F.length] (by rfl))
 have hr1 : dg r <= 1 := by
  refine Nat.le_of_not_lt fun h2 => ?_;obtain ⟨g, hg, hgm, hgr⟩ := vM _ r (Nat.le_refl _) h2;have hgf : g ∣ f := by rw [hr]; exact z8 _ hgr
  obtain ⟨e, he⟩ := yD hg.1 _ f hf (Nat.le_refl _)
  have he1 : 1 <= e := by
   rcases Nat.eq_zero_or_pos e with h0 | h0
   ·subst h0; exact absurd hgf (zL.1 he)
   ·exact h0
  obtain ⟨j, hj, hjF⟩ := List.mem_iff_getElem.1 ((h.2 (g, e)).2 ⟨hg, hgm, he1, he⟩);have hd := zhW (F := F) hj;rw [jf hj, hjF] at hd;obtain ⟨w, hw⟩ := hd;obtain ⟨u, hu, hun⟩ := he;have hw : zc3 F F.length = g ^ e * w := hw;refine hun ?_
  have : g ^ e * u = g ^ e * (w * r) := by
   rw [<- hu, hr, hw]; exact zg [g ^ e, w, r] (by rfl)
  rw [za9 (ziY hg.ne e) this];exact z8 _ hgr
 have hc := zch hr1
 have hl : lc f = lc r := by
  have h1 := zd4 hm.1 hr0;rw [<- hr, hm.2] at h1;have h2 := kn r (dg r - 1);rw [h1, Int.one_mul];exact Int.emod_eq_of_lt h2.1 h2.2
 have hd1 : dg r = 1 := by
  have : dg r ≠ 0 := fun e => hr0 (ze.1 e);omega
 have hlr : lc r = cf r.l 0 := by unfold lc; rw [hd1]
 rw [hl, hlr, <- hc];rw [hr];exact zg [zc3 F F.length, r] (by rfl)

theorem zjW {g : Poly p} (h : g ≠ 0) : ∀ n : Nat, dg (g ^ n) = n * (dg g - 1) + 1
 | 0 => by rw [zw, y7]; omega
 | n + 1 => by
  have h1 := zjW h n;have h2 := yQ (ziY h n) h;have h3 : dg g ≠ 0 := fun e => h (ze.1 e);rw [zi, Nat.succ_mul];omega

end Poly
namespace Poly
variable {p : Int} [SP p]

/- values -/
end Poly
namespace Poly
section
variable {m p : Int} [Pos m] [SP p]

theorem LAt.right {f : Poly m} {a b : Nat} {g0 h0 S T : Poly p} (k : Pair f a b g0 h0 S T) (m1 : 1 < m) (hf : im p f = g0 * h0) : ∀ (j : Nat) (G H : Poly m), p ^ (j + 1) ∣ m -> LAt f a b g0 h0 S T j G H -> ∀ i, cf (f - G * H).l i % p ^ (j + 1) = 0
 | 0, G, H, _, h, i => by
  have hd : p ∣ m := k.pm
  have e : im p (f - G * H) = 0 := by
   rw [zgx hd, zcq hd, h.inv.ig, h.inv.ih, hf];exact zg [g0, h0] (by rfl)
  have h1 := jG (p := p) (f - G * H) i;rw [e, yC] at h1;rw [Nat.zero_add, Int.pow_succ, Int.pow_zero, Int.one_mul]; exact h1.symm
 | j + 1, G, H, hd, h, i => by
  have hp := Pr.two (p := p);obtain ⟨G', H', h'⟩ := zaL k j;have hd' : p ^ (j + 1) ∣ m := Int.dvd_trans ⟨p, Int.pow_succ ..⟩ hd;have hr := LAt.right k m1 hf j G' H' hd' h';obtain ⟨rfl, rfl⟩ := h.uniq (h'.step k rfl);have h2 := (zhT k.mg k.mh k.s2 k.t2 (h'.cdg k m1 (p ^ (j + 1))).2).2;have hq : p * p ^ (j + 1) = p ^ (j + 1 + 1) := by rw [Int.mul_comm, <- Int.pow_succ]
  have h3 := ziX (f := f) (g := G') (h := H') (q := p ^ (j + 1)) (Int.pow_pos (by omega)) (by rw [hq]; exact hd) ⟨p ^ j, by rw [Int.pow_succ, Int.mul_comm]⟩ hr (by rw [h'.inv.ig, h'.inv.ih]; exact h2) i;rw [hq] at h3;exact h3
theorem LAt.prod {f : Poly m} {a b : Nat} {g0 h0 S T : Poly p} (k : Pair f a b g0 h0 S T) (m1 : 1 < m) (hf : im p f = g0 * h0) {j : Nat} {G H : Poly m} (hd : p ^ (j + 1) = m) (h : LAt f a b g0 h0 S T j G H) : f = G * H := by
 have h1 := LAt.right k m1 hf j G H (by rw [hd]; exact Int.dvd_refl _) h
 have h2 : f - G * H = 0 := zB fun i => by
  have := h1 i;rw [hd, xy] at this;rw [this, yC]
 exact comb 1 h2 (zg [f, G, H] (by rfl))

theorem znj {x : Poly p × Nat} (h1 : Irr x.1) (h2 : Mon x.1) (h3 : 1 <= x.2) : zJ (x.1 ^ x.2) [x] := by
 have hm : zN x.1 x.2 (x.1 ^ x.2) := ⟨1, zg [x.1 ^ x.2] (by rfl), fun hd => by
  have := zF hd zd1;have := h1.1;rw [y7] at *; omega⟩
 refine ⟨List.pairwise_singleton _ _, fun y => ⟨fun hy => ?_, fun hy => ?_⟩⟩
 ·obtain rfl := List.mem_singleton.1 hy;exact ⟨h1, h2, h3, hm⟩
 ·obtain ⟨a, b, c, d⟩ := hy;have e := jB a h1 b h2 (a.pow (d.dvd c));obtain ⟨y1, y2⟩ := y;obtain ⟨x1, x2⟩ := x;obtain rfl : y1 = x1 := e;obtain rfl := d.unique a.ne hm;exact List.mem_singleton.2 rfl
theorem ziZ {f : Poly p} {x : Poly p × Nat} (hf : Mon f) (h : zJ f [x]) : f = x.1 ^ x.2 := by
 have h1 := zmn h hf.1;rw [hf.2] at h1;rw [h1];show con p 1 * (1 * x.1 ^ x.2) = _
 rw [show con p 1 = 1 from rfl];exact zg [x.1 ^ x.2] (by rfl)
theorem zi0 (m1 : 1 < m) : Mn (1 : Poly m) 0 := by
 have h : cf (1 : Poly m).l 0 = 1 := by
  rw [zgi]; show (1 : Int) % m = 1; exact Int.emod_eq_of_lt (by omega) m1
 have h2 := zkO (m := m);have h3 := zfz (f := (1 : Poly m)) (n := 0) (by rw [h]; omega);exact ⟨by omega, h⟩
end
end Poly
end Go.Proofs.YtlmckocbhcpmdaaGreat
